/-
  What PI's stores say of the machine's. No condition.
-/
import Derived.Test.YtdgamfanffnhaaaPkOpsC
set_option linter.unusedVariables false
set_option linter.unusedSimpArgs false
namespace Go.Proofs.Ytdgamfanffnhaaa.PI
open Go
section
variable {P : Program} {X : Ctx} {rt : Rt} {w w' : World} {R : Nat → Prop} {γ γ' : Gm} {env : List (Nat × V)} {a : Act} {op : Oper} {call : Nat → List V → Option Res} {cfg : Cfg} {d : Nat} {v : V} {u : Ups} {l : List Nat}
theorem run_storeVar {t : TypeId} {inf : TypeInfo} {b o : Nat} {arr : Array Value} {elem : TypeId} {x : Value} (hi : P.info? t = some inf) (hb : hp w b = some (.cells arr elem (0, 0))) (hs : x.cells.size = inf.size) (ho : o + inf.size ≤ arr.size)
    (h1 : ∀ z ∈ x.cells.toList, z.oneCell' = true) : ∃ w' arr', (storeVar t ⟨b, o, none⟩ x).run P w = .ok () w' ∧ hp w' b = some (.cells arr' elem (0, 0)) ∧ arr'.toList = setAt arr.toList o x.cells.toList ∧
      (∀ y, y ≠ b → hp w' y = hp w y) ∧ World.alike w w' ∧ w'.heap.size = w.heap.size := by
  obtain ⟨w', arr', r, h2, h3, h4, h5, h6⟩ := run_store_row (P := P) (b := b) (elem := elem) x.cells.toList o 0 w arr hb (by simp [hs]; omega) h1
  refine ⟨w', arr', ?_, h2, by simpa [setAt] using h3, h4, h5, h6⟩
  simp [storeVar, run_sizeOf hi, hs, r]
theorem setAt_len {α : Type} {l new : List α} {o : Nat} (h : o + new.length ≤ l.length) : (setAt l o new).length = l.length := by
  simp [setAt]; omega
theorem setAt_pw {α β : Type} {r : α → β → Prop} {l : List α} {m : List β} {new : List α} {new' : List β} {o : Nat} (h1 : Pw r l m) (h2 : Pw r new new') : Pw r (setAt l o new) (setAt m o new') := by
  unfold setAt
  rw [h2.len]
  exact (h1.take o).app (h2.app (h1.drop _))
theorem setAt_at {α : Type} {l new : List α} {o j : Nat} (h : o + new.length ≤ l.length) : (setAt l o new)[j]? = if o ≤ j ∧ j < o + new.length then new[j - o]? else l[j]? := by
  unfold setAt
  by_cases h1 : j < o
  · rw [List.getElem?_append_left (by simp; omega), List.getElem?_take, if_pos h1, if_neg (by omega)]
  · rw [List.getElem?_append_right (by simp; omega)]
    have e1 : (l.take o).length = o := by simp; omega
    rw [e1]
    by_cases h2 : j < o + new.length
    · rw [List.getElem?_append_left (by omega), if_pos (by omega)]
    · rw [List.getElem?_append_right (by omega), List.getElem?_drop, if_neg (by omega)]
      congr 1; omega
theorem Pw.right {α β : Type} {r : α → β → Prop} {l : List α} {m : List β} (H : Pw r l m) {y : β} (h : y ∈ m) : ∃ x, r x y := by
  induction H with
  | nil => cases h
  | cons a _ ih =>
    rcases List.mem_cons.1 h with rfl | h
    · exact ⟨_, a⟩
    · exact ih h
theorem boxed_scalar (k : Nat) : ∀ (j : Nat) (cs : List PI.C), cs.all C.scalar = true → (boxed k j cs).1 = cs
  | _, [], _ => rfl
  | j, c :: cs, h => by
    simp only [List.all_cons, Bool.and_eq_true] at h
    have ih := boxed_scalar k (j + 1) cs h.2
    cases c <;> simp only [boxed, ih] <;> simp [C.scalar] at h
theorem store_box (M : Mem X rt w R γ) {t : TypeId} {inf : TypeInfo} {x : Operand} {y : Operand} {k off : Nat} {par : Bool} {cells xs : List PI.C} (ho : op.op = .store t x y) (hi : P.info? t = some inf)
    (hx : VR (hp w) R rt γ (.one (.bptr k off)) (a.eval x)) (hy : Pw (Leaf (hp w) R rt γ) xs (a.eval y).cells.toList) (hl : xs.length = inf.size) (hr : rt k = some (.box par cells)) (hle : off + inf.size ≤ cells.length)
    (hpar : par = false ∨ (xs.all C.scalar = true ∧ (cut off inf.size cells).all C.scalar = true))
    (hd : distinct (((k, some (Root.box par (setAt cells off (boxed k off xs).1))) :: (boxed k off xs).2).map (·.1)) = true) (hn : ∀ z ∈ (boxed k off xs).2, rt z.1 = none) :
    Did P X rt w R γ a op undefV ((k, some (.box par (setAt cells off (boxed k off xs).1))) :: (boxed k off xs).2) := by
  generalize hrows : (boxed k off xs).2 = rows at hd hn ⊢
  have hrall : ∀ z ∈ rows, z.2 = some (.row false 0 [] none) := hrows ▸ boxed_all k off xs
  have hkr : k ∉ rows.map (·.1) := by rw [List.map_cons, distinct_cons] at hd; exact hd.1
  obtain ⟨ad, e, _, hb⟩ := hx
  obtain ⟨b, h2, rfl⟩ := hb par cells hr
  obtain ⟨b', arr, elem, g1, go, go', g2, g3⟩ := M.root k _ hr
  have : b = b' := by rw [h2] at g1; injection g1 with g1; injection g1
  subst this
  have hlen := g3.len
  have hsz : (a.eval y).cells.size = inf.size := by rw [← hl, hy.len]; simp
  obtain ⟨w', arr', r1, r2, r3, r4, r5, r6⟩ := run_storeVar (P := P) hi g2 hsz (o := off) (by simp at hlen; omega) (fun z hz => by obtain ⟨c, hc⟩ := hy.right hz; exact Leaf.one hc)
  have hex : (execOp a.eval op).run P w = .ok .skip w' := by simp [execOp, ho, e, Instr.storeAt, Instr.sureAddr, r1]
  let γ' : Gm := fun m => if m ∈ rows.map (·.1) then nilGk else γ m
  have gk : γ' k = γ k := by simp only [γ', hkr, if_false]
  have gr : ∀ m, m ∈ rows.map (·.1) → γ' m = nilGk := fun m h => by simp only [γ', h, if_true]
  let U : Ups := (k, some (.box par (setAt cells off (boxed k off xs).1))) :: rows
  have hu : ∀ {m : Nat} {q : Root}, m ∈ U.map (·.1) → PI.upd rt U m = some q → (m = k ∧ q = .box par (setAt cells off (boxed k off xs).1)) ∨ (m ∈ rows.map (·.1) ∧ q = .row false 0 [] none) := by
    intro m q hm hq
    rcases upd_cases hd rt m with ⟨h, _⟩ | ⟨z, h1, h2⟩
    · exact absurd hm h
    · have h5 : some q = some (z.getD .dead) := hq.symm.trans h2
      rcases List.mem_cons.1 h1 with h | h
      · simp only [Prod.mk.injEq] at h; obtain ⟨e1, rfl⟩ := h
        simp only [Option.getD_some, Option.some.injEq] at h5; exact .inl ⟨e1, h5⟩
      · have h3 := hrall _ h; simp only at h3; subst h3
        simp only [Option.getD_some, Option.some.injEq] at h5
        exact .inr ⟨List.mem_map.2 ⟨_, h, rfl⟩, h5⟩
  have uk : PI.upd rt U k = some (.box par (setAt cells off (boxed k off xs).1)) := upd_new hd (List.mem_cons_self ..)
  have nk : ∀ m, m ∈ rows.map (·.1) → rt m = none := by
    intro m hm
    obtain ⟨z, hz, rfl⟩ := List.mem_map.1 hm
    exact hn z hz
  have hR : ∀ z, R z → hp w' z = hp w z := fun z hz => r4 z (fun e => M.ownR k _ b hr go (e ▸ hz))
  obtain ⟨M', E'⟩ := M.upd (w' := w') (R' := R) (γ' := γ') (rt' := PI.upd rt U) (fun m => m ∈ U.map (·.1)) r5 (fun m hm => ⟨upd_none hm, by
      have : m ∉ rows.map (·.1) := fun h => hm (List.mem_cons_of_mem _ h)
      simp only [γ', this, if_false]⟩)
    (fun m q hm hq => by
      rcases List.mem_cons.1 hm with h | h
      · have h : m = k := h
        subst h
        rw [hr] at hq; simp only [Option.some.injEq] at hq; subst hq
        exact ⟨_, uk, by rw [gk]; exact rfl⟩
      · rw [nk m h] at hq; cases hq)
    (fun z _ => by
      by_cases hz : z = b
      · exact .inr ⟨k, _, List.mem_cons_self .., hr, hz ▸ go⟩
      · exact .inl (r4 z hz))
    (fun _ h => h) (fun _ h => .inl h)
    (fun E m q hm hq => by
      rcases hu hm hq with ⟨rfl, rfl⟩ | ⟨h1, rfl⟩
      · rw [gk]
        refine ⟨b, arr', elem, h2, go, go', r2, ?_⟩
        rw [r3]
        refine setAt_pw (g3.mono fun _ _ h => h.mono (fun _ h => h) hR E) (boxed_leaf (fun _ h => h) hR E hy fun z hz => ?_)
        rw [hrows] at hz
        have hz2 : z.1 ∈ rows.map (·.1) := List.mem_map.2 ⟨z, hz, rfl⟩
        refine ⟨upd_new hd (List.mem_cons_of_mem _ ?_), ?_⟩
        · rw [← hrall z hz]; exact hz
        · rw [gr _ hz2]; exact ⟨rfl, rfl⟩
      · rw [gr m h1]; exact ⟨.e .nil, by simp⟩)
    (fun m q z hm hq ho => by
      rcases hu hm hq with ⟨rfl, rfl⟩ | ⟨h1, rfl⟩
      · rw [gk] at ho
        have ho2 : Owns (γ m) z (Root.box par cells) := ho
        refine ⟨M.ownR m _ z hr ho2, ?_, (by have := M.ownIn m _ z hr ho2; exact this), .inr ⟨m, _, hm, hr, ho2⟩⟩
        rw [r6]; exact M.ownLt m _ z hr ho2
      · rw [gr m h1] at ho; exact ho.elim)
    (fun m m' q q' z hne hm hm' hq hq' ho ho' => by
      rcases hu hm hq with ⟨rfl, rfl⟩ | ⟨h1, rfl⟩
      · rcases hu hm' hq' with ⟨rfl, rfl⟩ | ⟨h1, rfl⟩
        · exact hne rfl
        · rw [gr m' h1] at ho'; exact ho'.elim
      · rw [gr m h1] at ho; exact ho.elim)
    (fun m q hm hq => by
      rcases hu hm hq with ⟨rfl, rfl⟩ | ⟨h1, rfl⟩
      · rw [gk]
        cases par with
        | false => trivial
        | true =>
          obtain ⟨b', arr0, arr1, elem', p1, p2, p3, p4, p5⟩ := M.par m _ hr
          have e1 : b = b' := by rw [h2] at p2; injection p2 with p2; injection p2
          subst e1
          have e2 : arr = arr1 := by rw [g2] at p3; injection p3 with p3; injection p3
          subst e2
          obtain ⟨s1, s2⟩ := hpar.resolve_left (by simp)
          have hlr : arr'.toList.length = arr.toList.length := by
            rw [r3]; exact setAt_len (by simp [hsz]; simp at hlen; omega)
          refine ⟨b, arr0, arr', elem, p1, p2, r2, by simp at hlr; omega, fun j c hc hs => ?_⟩
          rw [boxed_scalar _ _ _ s1, setAt_at (by omega)] at hc
          rw [r3, setAt_at (by simp [hsz]; simp at hlen; omega)]
          have hlv : (a.eval y).cells.toList.length = xs.length := hy.len.symm
          rw [hlv]
          split at hc
          · have := List.all_eq_true.1 s1 c (List.mem_of_getElem? hc)
            rw [hs] at this; cases this
          · rename_i hj
            rw [if_neg hj]
            exact p5 j c hc hs
      · trivial)
  exact ⟨_, undef, w', hex, .inr ⟨rfl, rfl⟩, R, γ', M', E', fun _ h => h, hR, ⟨#[], rfl, .nil⟩⟩
end
end Go.Proofs.Ytdgamfanffnhaaa.PI
