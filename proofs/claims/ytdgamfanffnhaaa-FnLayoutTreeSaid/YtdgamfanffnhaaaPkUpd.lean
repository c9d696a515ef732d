/-
  How the relation of PI's state and the machine's memory goes on when roots change, in one law. No condition.
-/
import Derived.Test.YtdgamfanffnhaaaPkState
set_option linter.unusedVariables false
set_option linter.unusedSimpArgs false
namespace Go.Proofs.Ytdgamfanffnhaaa.PI
open Go
section
variable {α : Type}
theorem get_put (l : List (Nat × α)) (n m : Nat) (v : α) : get (put l n v) m = if n = m then some v else get l m := by
  induction l with
  | nil => simp [put, get]
  | cons x l ih =>
    obtain ⟨k, w⟩ := x
    simp only [put]
    by_cases h : k = n
    · subst h
      simp only [if_true, get]
      by_cases h2 : k = m <;> simp [h2]
    · simp only [h, if_false, get, ih]
      by_cases h2 : k = m
      · subst h2; simp [Ne.symm h]
      · simp [h2]
end
def updOne (rt : Rt) (x : Nat × Option Root) : Rt := fun m => if x.1 = m then some (x.2.getD .dead) else rt m
def upd (rt : Rt) : Ups → Rt
  | [] => rt
  | x :: u => upd (updOne rt x) u
theorem get_applyUps (u : Ups) : ∀ (r : List (Nat × Root)), get (applyUps r u) = upd (get r) u := by
  induction u with
  | nil => intro r; rfl
  | cons x u ih =>
    intro r
    obtain ⟨k, y⟩ := x
    cases y with
    | none => simp only [applyUps, upd, ih]; congr 1; funext m; simp [updOne, get_put]
    | some y => simp only [applyUps, upd, ih]; congr 1; funext m; simp [updOne, get_put]
theorem distinct_cons {k : Nat} {ks : List Nat} : distinct (k :: ks) = true ↔ k ∉ ks ∧ distinct ks = true := by
  simp [distinct]
theorem upd_none {u : Ups} : ∀ {rt : Rt} {k : Nat}, k ∉ u.map (·.1) → upd rt u k = rt k := by
  induction u with
  | nil => intros; rfl
  | cons x u ih =>
    intro rt k h
    simp only [List.map_cons, List.mem_cons, not_or] at h
    rw [upd, ih h.2, updOne, if_neg (Ne.symm h.1)]
theorem upd_some {u : Ups} : ∀ {rt : Rt} {k : Nat} {y : Option Root}, distinct (u.map (·.1)) = true → (k, y) ∈ u → upd rt u k = some (y.getD .dead) := by
  induction u with
  | nil => intro _ _ _ _ h; simp at h
  | cons x u ih =>
    intro rt k y hd h
    rw [List.map_cons, distinct_cons] at hd
    rcases List.mem_cons.1 h with h | h
    · subst h
      rw [upd, upd_none hd.1]; simp [updOne]
    · rw [upd]; exact ih hd.2 h
theorem upd_cases {u : Ups} (hd : distinct (u.map (·.1)) = true) (rt : Rt) (k : Nat) : (k ∉ u.map (·.1) ∧ upd rt u k = rt k) ∨ (∃ y, (k, y) ∈ u ∧ upd rt u k = some (y.getD .dead)) := by
  by_cases h : k ∈ u.map (·.1)
  · obtain ⟨⟨k', y⟩, h1, h2⟩ := List.mem_map.1 h
    simp only at h2; subst h2
    exact .inr ⟨y, h1, upd_some hd h1⟩
  · exact .inl ⟨h, upd_none h⟩
section
variable {h : Hp} {R : Nat → Prop}
theorem Own.inv {B : Nat → Prop} {rows : List (List C)} {a : Option Addr} {n cap : Nat} (H : Own h R B [.sl rows] [.slice a n cap]) : n = rows.length ∧ ((rows = [] ∧ cap = 0) ∨
    ∃ b arr elem sz B1, rows ≠ [] ∧ a = some ⟨b, 0, none⟩ ∧ h b = some (.cells arr elem (0, 0)) ∧ (∀ el ∈ rows, el.length = sz) ∧ rows.length ≤ cap ∧ arr.size = cap * sz ∧
      Own h (fun _ => False) B1 rows.flatten (arr.toList.take (rows.length * sz)) ∧ ¬ B1 b ∧ B b ∧ (∀ x, B1 x → B x)) := by
  cases H with
  | ro a _ _ => simp [C.isSl] at a
  | e _ => exact ⟨rfl, .inl ⟨rfl, rfl⟩⟩
  | row a hb c d e f _ n1 _ _ m1 m2 _ => exact ⟨rfl, .inr ⟨_, _, _, _, _, a, rfl, hb, c, d, e, f, n1, m1, m2⟩⟩
theorem NSpot.heap {h' : Hp} {rows : List (List C)} {g : Gk} {i j : Nat} {v : Value} (H : NSpot h rows g i j v) (O : Own h R g.own [.sl rows] [.slice g.addr rows.length g.cap])
    (hh : ∀ b, g.own b → h' b = h b) : NSpot h' rows g i j v := by
  obtain ⟨hs, hi, b, sz, arr, elem, u, hj, ha, hb, hv⟩ := H
  obtain ⟨_, k | ⟨b', _, _, _, _, _, k, _, _, _, _, _, _, kb, _⟩⟩ := O.inv
  · rw [k.1] at hi; simp at hi
  · rw [ha] at k
    have : b = b' := by injection k with k; injection k
    exact ⟨hs, hi, b, sz, arr, elem, u, hj, ha, (hh b (this ▸ kb)).trans hb, hv⟩
end
variable {X : Ctx} {rt rt' : Rt} {w w' : World} {R R' : Nat → Prop} {γ γ' : Gm}
theorem Mem.heapR (M : Mem X rt w R γ) {T : Nat → Prop} (heap : ∀ b, b < w.heap.size → hp w' b = hp w b ∨ ∃ k r, T k ∧ rt k = some r ∧ Owns (γ k) b r) : ∀ b, R b → hp w' b = hp w b := by
  intro b hb
  rcases heap b (M.rLt b hb) with e | ⟨k, r, _, hr, ho⟩
  · exact e
  · exact absurd hb (M.ownR k r b hr ho)
theorem Mem.upd (M : Mem X rt w R γ) (T : Nat → Prop) (al : World.alike w w') (same : ∀ k, ¬ T k → rt' k = rt k ∧ γ' k = γ k)
    (ext : ∀ k r, T k → rt k = some r → ∃ r', rt' k = some r' ∧ Ext (hp w) (hp w') (γ k) (γ' k) r r')
    (heap : ∀ b, b < w.heap.size → hp w' b = hp w b ∨ ∃ k r, T k ∧ rt k = some r ∧ Owns (γ k) b r)
    (rmono : ∀ b, R b → R' b)
    (rsub : ∀ b, R' b → R b ∨ (X.fz = true ∧ X.w0.heap.size ≤ b ∧ b < w'.heap.size ∧ (w.heap.size ≤ b ∨ ∃ k r, T k ∧ rt k = some r ∧ Owns (γ k) b r)))
    (root : ExtAll (hp w) (hp w') rt rt' γ γ' → ∀ k r', T k → rt' k = some r' → RootR (hp w') R' rt' γ' (γ' k) r')
    (own : ∀ k r' b, T k → rt' k = some r' → Owns (γ' k) b r' → ¬ R' b ∧ b < w'.heap.size ∧ (X.w0.heap.size ≤ b ∨ (r'.par = true ∧ X.PB b)) ∧
      (w.heap.size ≤ b ∨ ∃ k0 r0, T k0 ∧ rt k0 = some r0 ∧ Owns (γ k0) b r0))
    (disj : ∀ k k' r r' b, k ≠ k' → T k → T k' → rt' k = some r → rt' k' = some r' → Owns (γ' k) b r → ¬ Owns (γ' k') b r')
    (par : ∀ k r', T k → rt' k = some r' → ParR (hp w') X k (γ' k) r') :
    Mem X rt' w' R' γ' ∧ ExtAll (hp w) (hp w') rt rt' γ γ' := by
  have hR := M.heapR heap
  have hO : ∀ k r b, ¬ T k → rt k = some r → Owns (γ k) b r → hp w' b = hp w b := by
    intro k r b hk hr ho
    rcases heap b (M.ownLt k r b hr ho) with e | ⟨k0, r0, hk0, hr0, ho0⟩
    · exact e
    · exact absurd ho0 (M.disj k k0 r r0 b (fun e => hk (e ▸ hk0)) hr hr0 ho)
  have E : ExtAll (hp w) (hp w') rt rt' γ γ' := by
    intro k r hr
    by_cases hk : T k
    · exact ext k r hk hr
    · obtain ⟨e1, e2⟩ := same k hk
      refine ⟨r, e1.trans hr, ?_⟩
      rw [e2]
      refine Ext.refl _ _ fun p v rows foc i j x er H => ?_
      subst er
      exact H.heap (M.root k _ hr).1 fun b hb => hO k _ b hk hr hb
  refine ⟨⟨?_, ?_, ?_, ?_, ?_, ?_, ?_, ?_, ?_, ?_, ?_, M.alike.trans al⟩, E⟩
  · intro k r hr
    by_cases hk : T k
    · exact root E k r hk hr
    · obtain ⟨e1, e2⟩ := same k hk
      rw [e2]
      have hr0 : rt k = some r := e1 ▸ hr
      exact (M.root k r hr0).mono rmono hR E fun b hb => hO k r b hk hr0 hb
  · intro k k' r r' b hne hr hr' ho ho'
    by_cases hk : T k <;> by_cases hk' : T k'
    · exact disj k k' r r' b hne hk hk' hr hr' ho ho'
    · obtain ⟨e1, e2⟩ := same k' hk'
      have hr0 : rt k' = some r' := e1 ▸ hr'
      rw [e2] at ho'
      obtain ⟨_, _, _, h | ⟨k0, r0, hk0, h0, ho0⟩⟩ := own k r b hk hr ho
      · exact absurd (M.ownLt k' r' b hr0 ho') (Nat.not_lt.2 h)
      · exact M.disj k0 k' r0 r' b (fun e => hk' (e ▸ hk0)) h0 hr0 ho0 ho'
    · obtain ⟨e1, e2⟩ := same k hk
      have hr0 : rt k = some r := e1 ▸ hr
      rw [e2] at ho
      obtain ⟨_, _, _, h | ⟨k0, r0, hk0, h0, ho0⟩⟩ := own k' r' b hk' hr' ho'
      · exact absurd (M.ownLt k r b hr0 ho) (Nat.not_lt.2 h)
      · exact M.disj k0 k r0 r b (fun e => hk (e ▸ hk0)) h0 hr0 ho0 ho
    · obtain ⟨e1, e2⟩ := same k hk
      obtain ⟨e3, e4⟩ := same k' hk'
      rw [e2] at ho; rw [e4] at ho'
      exact M.disj k k' r r' b hne (e1 ▸ hr) (e3 ▸ hr') ho ho'
  · intro k r b hr ho hR'
    by_cases hk : T k
    · exact (own k r b hk hr ho).1 hR'
    · obtain ⟨e1, e2⟩ := same k hk
      have hr0 : rt k = some r := e1 ▸ hr
      rw [e2] at ho
      rcases rsub b hR' with h | ⟨_, _, _, h | ⟨k0, r0, hk0, h0, ho0⟩⟩
      · exact M.ownR k r b hr0 ho h
      · exact absurd (M.ownLt k r b hr0 ho) (Nat.not_lt.2 h)
      · exact M.disj k0 k r0 r b (fun e => hk (e ▸ hk0)) h0 hr0 ho0 ho
  · intro k r b hr ho
    by_cases hk : T k
    · exact (own k r b hk hr ho).2.1
    · obtain ⟨e1, e2⟩ := same k hk
      rw [e2] at ho
      exact Nat.lt_of_lt_of_le (M.ownLt k r b (e1 ▸ hr) ho) al.size
  · intro k r b hr ho
    by_cases hk : T k
    · exact (own k r b hk hr ho).2.2.1
    · obtain ⟨e1, e2⟩ := same k hk
      rw [e2] at ho
      exact M.ownIn k r b (e1 ▸ hr) ho
  · intro b hb
    rcases rsub b hb with h | h
    · exact Nat.lt_of_lt_of_le (M.rLt b h) al.size
    · exact h.2.2.1
  · intro b hb
    rcases rsub b hb with h | h
    · exact M.rIn b h
    · exact .inr h.2.1
  · exact fun b hb => rmono b (M.r0 b hb)
  · intro hf b hb
    rcases rsub b hb with h | h
    · exact M.rSame hf b h
    · rw [hf] at h; exact absurd h.1 (by simp)
  · intro b hb hp
    rcases heap b (Nat.lt_of_lt_of_le hb M.alike.size) with e | ⟨k, r, _, hr, ho⟩
    · exact e.trans (M.frame b hb hp)
    · rcases M.ownIn k r b hr ho with h | h
      · exact absurd hb (Nat.not_lt.2 h)
      · exact absurd h.2 hp
  · intro k r hr
    by_cases hk : T k
    · exact par k r hk hr
    · obtain ⟨e1, e2⟩ := same k hk
      have hr0 : rt k = some r := e1 ▸ hr
      rw [e2]
      have hp := M.par k r hr0
      cases r with
      | box p cells =>
        cases p with
        | false => trivial
        | true =>
          obtain ⟨b, arr0, arr, elem, h1, h2, h3, h4, h5⟩ := hp
          refine ⟨b, arr0, arr, elem, h1, h2, ?_, h4, h5⟩
          rw [hO k _ b hk hr0 ?_]; · exact h3
          obtain ⟨b', _, _, h1', h2', _⟩ := M.root k _ hr0
          have : b = b' := by rw [h2] at h1'; injection h1' with e; injection e
          exact this ▸ h2'
      | row p v rows foc =>
        cases p with
        | false => trivial
        | true => exact hp
      | frow => trivial
      | dead => trivial
def After (X : Ctx) (rt : Rt) (w : World) (R : Nat → Prop) (γ : Gm) (v : V) (u : Ups) (x : Value) (w' : World) : Prop :=
  ∃ R' γ', Mem X (PI.upd rt u) w' R' γ' ∧ ExtAll (hp w) (hp w') rt (PI.upd rt u) γ γ' ∧ (∀ b, R b → R' b) ∧ (∀ b, R b → hp w' b = hp w b) ∧ VR (hp w') R' (PI.upd rt u) γ' v x
theorem ExtAll.refl : ExtAll (hp w) (hp w) rt rt γ γ := fun _ r hr => ⟨r, hr, Ext.refl _ _ fun _ _ _ _ _ _ _ _ H => H⟩
theorem After.pure (M : Mem X rt w R γ) {v : V} {x : Value} (hv : VR (hp w) R rt γ v x) : After X rt w R γ v [] x w :=
  ⟨R, γ, M, ExtAll.refl, fun _ k => k, fun _ _ => rfl, hv⟩
end Go.Proofs.Ytdgamfanffnhaaa.PI
