/-
  What a call is handed: the arguments as its promise wants them, and the pieces that come back. No condition.
-/
import Derived.Test.YtdgamfanffnhaaaPkCallB
set_option linter.unusedVariables false
set_option linter.unusedSimpArgs false
namespace Go.Proofs.Ytdgamfanffnhaaa.PI
open Go
inductive PS (h : Hp) (rt : Rt) (γ : Gm) : (Nat → Prop) → List Take → List (C × Value) → Prop
  | nil : PS h rt γ (fun _ => False) [] []
  | cons {B F G t c x ts ps} : Piece h rt γ F G t c x → PS h rt γ B ts ps → PS h rt γ (fun b => F b ∨ B b) (t :: ts) ((c, x) :: ps)
def OwnedBy (rt : Rt) (γ : Gm) (k b : Nat) : Prop := ∃ r, rt k = some r ∧ Owns (γ k) b r
section
variable {P : Program} {X : Ctx} {rt : Rt} {w w' : World} {R R' : Nat → Prop} {γ γ' : Gm} {h h' : Hp}
theorem Piece.own {F G : Nat → Prop} {t : Take} {c : PI.C} {x : Value} (H : Piece h rt γ F G t c x) : (∀ b, F b → OwnedBy rt γ t.key b) ∧ (∀ b, G b → OwnedBy rt γ t.key b) ∧ (∀ b, F b → ¬ G b) := by
  cases t with
  | row k par vs =>
    obtain ⟨rows, foc, hr, _, _, hF, hG⟩ := H
    exact ⟨fun b hb => ⟨_, hr, (hF b).1 hb⟩, fun b hb => absurd hb (hG b), fun b _ => hG b⟩
  | nrow k par vs base i el j =>
    obtain ⟨rows, foc, rs, hr, _, _, _, _, _, _, hF, hG, hd, _, _⟩ := H
    exact ⟨fun b hb => ⟨_, hr, hF b hb⟩, fun b hb => ⟨_, hr, hG b hb⟩, hd⟩
  | box k par cells =>
    obtain ⟨hr, _, _, _, hF, hG⟩ := H
    exact ⟨fun b hb => ⟨_, hr, (hF b).1 hb⟩, fun b hb => absurd hb (hG b), fun b _ => hG b⟩
theorem PS.sub {B : Nat → Prop} {ts : List Take} {ps : List (PI.C × Value)} (H : PS h rt γ B ts ps) : ∀ b, B b → ∃ t ∈ ts, OwnedBy rt γ t.key b := by
  induction H with
  | nil => exact fun _ hb => hb.elim
  | cons p _ ih =>
    rintro b (hb | hb)
    · exact ⟨_, List.mem_cons_self .., p.own.1 b hb⟩
    · obtain ⟨t, ht, ho⟩ := ih b hb
      exact ⟨t, List.mem_cons_of_mem _ ht, ho⟩
theorem OwnedBy.apart (M : Mem X rt w R γ) {k k' b : Nat} (hne : k ≠ k') (H : OwnedBy rt γ k b) (H' : OwnedBy rt γ k' b) : False := by
  obtain ⟨r, hr, ho⟩ := H
  obtain ⟨r', hr', ho'⟩ := H'
  exact M.disj k k' r r' b hne hr hr' ho ho'
theorem PS.apart (M : Mem X rt w R γ) {B B' : Nat → Prop} {ts ts' : List Take} {ps ps' : List (PI.C × Value)} (H : PS h rt γ B ts ps) (H' : PS h rt γ B' ts' ps') (hn : ((ts ++ ts').map Take.key).Nodup) (b : Nat) (hb : B b) : ¬ B' b := by
  intro hb'
  obtain ⟨t, ht, ho⟩ := H.sub b hb
  obtain ⟨t', ht', ho'⟩ := H'.sub b hb'
  rw [List.map_append, List.nodup_append] at hn
  exact OwnedBy.apart M (hn.2.2 _ (List.mem_map_of_mem ht) _ (List.mem_map_of_mem ht')) ho ho'
theorem PS.append {B B' : Nat → Prop} {ts ts' : List Take} {ps ps' : List (PI.C × Value)} (H : PS h rt γ B ts ps) (H' : PS h rt γ B' ts' ps') : ∃ D, PS h rt γ D (ts ++ ts') (ps ++ ps') ∧ ∀ b, D b ↔ B b ∨ B' b := by
  induction H with
  | nil => exact ⟨B', H', fun b => by simp⟩
  | cons p _ ih =>
    obtain ⟨D, hD, hi⟩ := ih
    exact ⟨_, .cons p hD, fun b => by rw [hi]; exact or_assoc.symm⟩
theorem nodup_left {α : Type} {l m : List α} (H : (l ++ m).Nodup) : l.Nodup ∧ m.Nodup := by
  rw [List.nodup_append] at H; exact ⟨H.1, H.2.1⟩
theorem PS.one {F G : Nat → Prop} {t : Take} {c : PI.C} {x : Value} (H : Piece h rt γ F G t c x) : PS h rt γ (fun b => F b ∨ False) [t] [(c, x)] := .cons H .nil
theorem takeC_own (M : Mem X rt w R γ) {c c' : PI.C} {ts : List Take} {x : Value} (T : TakeC rt c c' ts) (hx : Leaf (hp w) R rt γ c x) :
    ∃ B, Own (hp w) R' B [c'] [x] ∧ PS (hp w) rt γ B ts (([c'].zip [x]).filter (·.1.isSl)) := by
  cases T with
  | sc hs =>
    have h0 : c.isSl = false := by cases c <;> simp_all [C.scalar, C.isSl]
    refine ⟨fun _ => False, .ro h0 (.sc (scalar_sc hx hs) .nil) .nil, ?_⟩
    simpa [h0] using (PS.nil : PS (hp w) rt γ _ [] [])
  | @ref k len par vs rows foc hr hl =>
    obtain ⟨a, cap, rfl, _, _, hf⟩ := hx
    have hrows : rowsAt (rt k) = some (eff rows foc) := by rw [hr]; rfl
    have hlen : len = (eff rows foc).length := by rw [eff_len, hl]
    obtain ⟨e1, e2⟩ := (hf _ hrows).2 hlen
    subst e1; subst e2
    have o := (M.root k _ hr).1.sl_any (R' := R')
    rw [← hlen] at o
    refine ⟨_, o.wide (B' := fun b => (γ k).own b ∨ False) (fun _ h => .inl h), PS.one (G := fun _ => False) ?_⟩
    exact ⟨rows, foc, hr, rfl, by rw [hlen], fun _ => Iff.rfl, fun _ h => h⟩
  | @nref k vs i j len par rows foc el base rs hr he hb hbl hrs hl =>
    obtain ⟨F, G, hp'⟩ := nrow_piece M hr he hb hbl hrs hx
    have hp2 := hp'
    obtain ⟨_, _, _, _, _, _, _, _, hc, o, _⟩ := hp'
    injection hc with hc; subst hc
    exact ⟨_, (o.sl_any (R' := R')).wide (B' := fun b => F b ∨ False) (fun _ h => .inl h), PS.one hp2⟩
theorem takeCs_own (M : Mem X rt w R γ) {cs cs' : List PI.C} {ts : List Take} (T : TakeCs rt cs cs' ts) : ∀ {xs : List Value}, Pw (Leaf (hp w) R rt γ) cs xs → (ts.map Take.key).Nodup →
    ∃ B, Own (hp w) R' B cs' xs ∧ PS (hp w) rt γ B ts ((cs'.zip xs).filter (·.1.isSl)) := by
  induction T with
  | nil => intro xs hx _; cases hx; exact ⟨_, .nil, .nil⟩
  | @cons c c' cs cs' ts ts' a t ih =>
    intro xs hx hn
    cases hx with
    | @cons _ x _ xs hx hxs =>
      have hn' := hn
      rw [List.map_append] at hn'
      obtain ⟨B1, o1, p1⟩ := takeC_own (R' := R') M a hx
      obtain ⟨B2, o2, p2⟩ := ih hxs (nodup_left hn').2
      obtain ⟨D, pD, hD⟩ := p1.append p2
      refine ⟨D, o1.app o2 (p1.apart M p2 hn) (fun b hb => (hD b).2 (.inl hb)) (fun b hb => (hD b).2 (.inr hb)), ?_⟩
      rw [← List.filter_append] at pD
      exact pD
theorem own_of_ro {B : Nat → Prop} {cs : List PI.C} {vs : List Value} (H : Pw (fun c v => c.isSl = false ∧ Ro h R [c] [v]) cs vs) : Own h R B cs vs := own_plain H
theorem plainRo_leaf {c : PI.C} {x : Value} (H : Leaf h R rt γ c x) (hc : c.plainRo = true) : c.isSl = false ∧ Ro h R [c] [x] := by
  cases c <;> simp_all [C.plainRo, C.scalar, C.isSl, Leaf]
theorem takeV_own (M : Mem X rt w R γ) (hR : ∀ b, R b → R' b) {v v' : V} {ts : List Take} {x : Value} (T : TakeV rt v v' ts) (hx : VR (hp w) R rt γ v x) (hn : (ts.map Take.key).Nodup) :
    ∃ B, RV (hp w) R' B v' x ∧ ptPlain v' = true ∧ PS (hp w) rt γ B ts (parts v' x) := by
  cases T with
  | @box k par cells hr hpl =>
    obtain ⟨ad, rfl, _, hf⟩ := hx
    obtain ⟨b, hb, rfl⟩ := hf _ _ hr
    obtain ⟨b', arr, elem, h1, h2, h3, h4, h5⟩ := M.root k _ hr
    rw [hb] at h1; injection h1 with h1; injection h1 with h1 _ _; subst h1
    refine ⟨fun y => (γ k).own y ∨ False, ⟨b, arr, elem, fun _ => False, rfl, h4, ?_, fun h => h, .inl h2, fun _ h => h.elim⟩, hpl, ?_⟩
    · have : Own (hp w) R (fun _ => False) cells arr.toList := by
        refine own_of_ro (Pw.of h5.len fun i c y hi hy => ?_)
        obtain ⟨y', hy', hl⟩ := h5.at hi
        rw [hy] at hy'; injection hy' with hy'; subst hy'
        exact plainRo_leaf hl (List.all_eq_true.1 hpl c (List.mem_of_getElem? hi))
      exact this.mono hR (fun _ _ => rfl) (fun _ _ => rfl) (fun _ h => h)
    · exact PS.one (G := fun _ => False) ⟨hr, rfl, hpl, ⟨b, hb, rfl⟩, fun _ => Iff.rfl, fun _ h => h⟩
  | @one c c' ts a =>
    obtain ⟨B, o, p⟩ := takeC_own (R' := R') M a hx
    refine ⟨B, ?_, ?_, ?_⟩
    · cases a with
      | sc hs => cases c <;> first | exact o | simp [C.scalar] at hs
      | ref => exact o
      | nref => exact o
    · cases a with
      | sc hs => cases c <;> first | rfl | simp [C.scalar] at hs
      | ref => rfl
      | nref => rfl
    · cases a with
      | sc hs => cases c <;> first | exact p | simp [C.scalar] at hs
      | ref => exact p
      | nref => exact p
  | @agg cs cs' ts a =>
    obtain ⟨arr, rfl, hp'⟩ := hx
    obtain ⟨B, o, p⟩ := takeCs_own (R' := R') M a hp' hn
    exact ⟨B, ⟨arr, rfl, o⟩, rfl, p⟩
theorem hand_own (M : Mem X rt w R γ) (hR : ∀ b, R b → R' b) {fs : List Bool} {vs vs' : List V} {ks : List Nat} {ts : List Take} (H : Hand rt fs vs vs' ks ts) : ∀ {xs : List Value}, Pw (VR (hp w) R rt γ) vs xs → (ts.map Take.key).Nodup →
    (∀ k ∈ ks, ∀ r, rt k = some r → ∀ b, Owns (γ k) b r → R' b) → ∃ B ps, AR (hp w) R' B fs vs' xs ps ∧ PS (hp w) rt γ B ts ps := by
  induction H with
  | nil => intro xs hx _ _; cases hx; exact ⟨_, _, .nil, .nil⟩
  | @take fs v v' vs vs' ks ts ts' a t ih =>
    intro xs hx hn hk
    cases hx with
    | @cons _ x _ xs hx hxs =>
      have hn' := hn
      rw [List.map_append] at hn'
      obtain ⟨B1, o1, q1, p1⟩ := takeV_own M hR a hx (nodup_left hn').1
      obtain ⟨B2, ps, o2, p2⟩ := ih hxs (nodup_left hn').2 hk
      obtain ⟨D, pD, hD⟩ := p1.append p2
      exact ⟨D, _, .own o1 q1 o2 (p1.apart M p2 hn) (fun b hb => (hD b).2 (.inl hb)) (fun b hb => (hD b).2 (.inr hb)), pD⟩
  | @snap fs v v' vs vs' ks ks' ts h0 a t ih =>
    intro xs hx hn hk
    cases hx with
    | @cons _ x _ xs hx hxs =>
      have r1 := snapV_ro M hR a hx fun k hk' => hk k (List.mem_append.2 (.inl hk'))
      obtain ⟨B, ps, o, p⟩ := ih hxs hn fun k hk' => hk k (List.mem_append.2 (.inr hk'))
      exact ⟨B, ps, .ro h0 r1 o, p⟩
theorem allNew_spec {ks : List Nat} : ∀ {ts : List Take}, allNew ks ts = true → (ts.map Take.key).Nodup ∧ (∀ t ∈ ts, t.key ∉ ks) ∧ ∀ t ∈ ts, ∀ t' ∈ ts, t.par = t'.par
  | [], _ => ⟨List.nodup_nil, by simp, by simp⟩
  | t :: ts, H => by
    simp only [allNew, Bool.and_eq_true, Bool.not_eq_true', List.any_eq_false, beq_iff_eq, List.all_eq_true] at H
    obtain ⟨⟨⟨h1, h2⟩, h3⟩, h4⟩ := H
    obtain ⟨n, m, q⟩ := allNew_spec h3
    refine ⟨?_, ?_, ?_⟩
    · rw [List.map_cons, List.nodup_cons]
      refine ⟨fun hm => ?_, n⟩
      obtain ⟨u, hu, he⟩ := List.mem_map.1 hm
      exact h2 u hu he
    · intro s hs
      rcases List.mem_cons.1 hs with rfl | hs
      · simpa using h1
      · exact m s hs
    · intro s hs s' hs'
      rcases List.mem_cons.1 hs with hs | hs <;> rcases List.mem_cons.1 hs' with hs' | hs'
      · rw [hs, hs']
      · rw [hs]; exact (h4 s' hs').symm
      · rw [hs']; exact h4 s hs
      · exact q s hs s' hs'
theorem Piece.par {F G : Nat → Prop} {t : Take} {c : PI.C} {x : Value} (H : Piece h rt γ F G t c x) : ∃ r, rt t.key = some r ∧ r.par = t.par := by
  cases t with
  | row k par vs => obtain ⟨rows, foc, hr, _⟩ := H; exact ⟨_, hr, rfl⟩
  | nrow k par vs base i el j => obtain ⟨rows, foc, rs, hr, _⟩ := H; exact ⟨_, hr, rfl⟩
  | box k par cells => exact ⟨_, H.1, rfl⟩
theorem PS.par {B : Nat → Prop} {ts : List Take} {ps : List (PI.C × Value)} (H : PS h rt γ B ts ps) : ∀ t ∈ ts, ∃ r, rt t.key = some r ∧ r.par = t.par := by
  induction H with
  | nil => simp
  | cons p _ ih =>
    intro t ht
    rcases List.mem_cons.1 ht with rfl | ht
    · exact p.par
    · exact ih t ht
end
end Go.Proofs.Ytdgamfanffnhaaa.PI
