/-
  PI without a bound: what it answers with enough fuel. No condition.
-/
import Derived.Test.YtdgamfanffnhaaaPkCore
set_option linter.unusedVariables false
set_option linter.unusedSimpArgs false
namespace Go.Proofs.Ytdgamfanffnhaaa.PI
open Go
def Ev (p : Nat → Prop) : Prop := ∃ n0, ∀ n, n0 ≤ n → p n
theorem Ev.and {p q : Nat → Prop} (a : Ev p) (b : Ev q) : Ev fun n => p n ∧ q n := by
  obtain ⟨m, hm⟩ := a
  obtain ⟨k, hk⟩ := b
  exact ⟨max m k, fun n hn => ⟨hm n (by omega), hk n (by omega)⟩⟩
theorem Ev.mono {p q : Nat → Prop} (a : Ev p) (h : ∀ n, p n → q n) : Ev q := by
  obtain ⟨m, hm⟩ := a
  exact ⟨m, fun n hn => h n (hm n hn)⟩
theorem Ev.all {p : Nat → Prop} (h : ∀ n, p n) : Ev p := ⟨0, fun n _ => h n⟩
theorem Ev.next {p : Nat → Prop} (a : Ev p) : Ev fun n => ∃ m, n = m + 1 ∧ p m := by
  obtain ⟨m, hm⟩ := a
  exact ⟨m + 1, fun n hn => ⟨n - 1, by omega, hm _ (by omega)⟩⟩
open Classical in
noncomputable def lim {α : Type} (x : Nat → Option α) : Option α := if h : ∃ r, Ev fun n => x n = some r then some h.choose else none
theorem lim_ev {α : Type} {x : Nat → Option α} {r : α} (h : lim x = some r) : Ev fun n => x n = some r := by
  unfold lim at h
  split at h
  · rename_i hx
    injection h with h
    exact h ▸ hx.choose_spec
  · cases h
theorem lim_of {α : Type} {x : Nat → Option α} {r : α} (h : Ev fun n => x n = some r) : lim x = some r := by
  have hx : ∃ r, Ev fun n => x n = some r := ⟨r, h⟩
  unfold lim
  rw [dif_pos hx]
  obtain ⟨m, hm⟩ := hx.choose_spec.and h
  have := hm m (Nat.le_refl _)
  exact this.1.symm.trans this.2
inductive LoopR (step : St → Option (PExit × St)) : St → PExit × St → Prop
  | again {st st' r} : step st = some (.normal, st') → LoopR step st' r → LoopR step st r
  | out {st e st'} : step st = some (e, st') → e ≠ .normal → LoopR step st (e, st')
theorem LoopR.unique {step : St → Option (PExit × St)} {st : St} {r r' : PExit × St} (h : LoopR step st r) (k : LoopR step st r') : r = r' := by
  induction h with
  | again h1 _ ih =>
    cases k with
    | again k1 k2 =>
      rw [h1] at k1; simp only [Option.some.injEq, Prod.mk.injEq, true_and] at k1; subst k1
      exact ih k2
    | out k1 k2 =>
      rw [h1] at k1; simp only [Option.some.injEq, Prod.mk.injEq] at k1
      exact absurd k1.1.symm k2
  | out h1 h2 =>
    cases k with
    | again k1 k2 =>
      rw [h1] at k1; simp only [Option.some.injEq, Prod.mk.injEq] at k1
      exact absurd k1.1 h2
    | out k1 k2 =>
      rw [h1] at k1; simp only [Option.some.injEq] at k1; exact k1
open Classical in
noncomputable def lpW (step : St → Option (PExit × St)) (st : St) : Option (PExit × St) := if h : ∃ r, LoopR step st r then some h.choose else none
theorem lpW_loop {step : St → Option (PExit × St)} {st : St} {r : PExit × St} (h : lpW step st = some r) : LoopR step st r := by
  unfold lpW at h
  split at h
  · rename_i hx; injection h with h; exact h ▸ hx.choose_spec
  · cases h
theorem lpW_of {step : St → Option (PExit × St)} {st : St} {r : PExit × St} (h : LoopR step st r) : lpW step st = some r := by
  have hx : ∃ r, LoopR step st r := ⟨r, h⟩
  unfold lpW
  rw [dif_pos hx, hx.choose_spec.unique h]
theorem lp_again {step : St → Option (PExit × St)} {st st' : St} {r : PExit × St} (h : step st = some (.normal, st')) (k : lpW step st' = some r) : lpW step st = some r := lpW_of (.again h (lpW_loop k))
theorem lp_ret {step : St → Option (PExit × St)} {st st' : St} (h : step st = some (.ret, st')) : lpW step st = some (.ret, st') := lpW_of (.out h (by simp))
theorem lp_exit {step : St → Option (PExit × St)} {st st' : St} {n : Nat} (h : step st = some (.exit n, st')) : lpW step st = some (.exit n, st') := lpW_of (.out h (by simp))
theorem loop_lim {sW : St → Option (PExit × St)} {sN : Nat → St → Option (PExit × St)} (hs : ∀ s x, sW s = some x → Ev fun n => sN n s = some x) {st : St} {r : PExit × St} (h : LoopR sW st r) : Ev fun m => ∀ n, m ≤ n → ∀ k, m ≤ k → lpN k (sN n) st = some r := by
  induction h with
  | again h1 _ ih =>
    obtain ⟨a, ha⟩ := hs _ _ h1
    obtain ⟨b, hb⟩ := ih
    refine ⟨max a b + 1, fun m hm n hn k hk => ?_⟩
    obtain ⟨k, rfl⟩ : ∃ k', k = k' + 1 := ⟨k - 1, by omega⟩
    simp only [lpN, ha n (by omega)]
    exact hb b (Nat.le_refl _) n (by omega) k (by omega)
  | @out st e st' h1 h2 =>
    obtain ⟨a, ha⟩ := hs _ _ h1
    refine ⟨a + 1, fun m hm n hn k hk => ?_⟩
    obtain ⟨k, rfl⟩ : ∃ k', k = k' + 1 := ⟨k - 1, by omega⟩
    simp only [lpN, ha n (by omega)]
    cases e with
    | normal => exact absurd rfl h2
    | ret => rfl
    | exit n => rfl
section
variable {funcs : Nat → Option PFunc} {own : Nat → List Bool}
noncomputable def pcW (funcs : Nat → Option PFunc) (own : Nat → List Bool) (f : Nat) (args : List V) : Option Res := lim fun n => pcN funcs own n f args
theorem run_lim {r : Nat → Option Root} : ∀ {m : RM} {x : V × Ups × List Nat}, m.run (pcW funcs own) r = some x → Ev fun n => m.run (pcN funcs own n) r = some x
  | .ret v u, x, h => .all fun _ => h
  | .fail, x, h => by simp [RM.run] at h
  | .rd key k, x, h => by
    simp only [RM.run] at h ⊢
    split at h
    · split at h
      · rename_i h'; exact (run_lim h').mono fun n hn => by simp only [hn]; exact h
      · cases h
    · cases h
  | .ab key k, x, h => by
    simp only [RM.run] at h ⊢
    split at h
    · split at h
      · rename_i h'; exact (run_lim h').mono fun n hn => by simp only [hn]; exact h
      · cases h
    · cases h
  | .chk b k, x, h => by
    cases b
    · simp [RM.run] at h
    · simp only [RM.run] at h ⊢; exact run_lim h
  | .br b t f, x, h => by
    cases b <;> simp only [RM.run] at h ⊢ <;> exact run_lim h
  | .el rows i k, x, h => by
    simp only [RM.run] at h ⊢
    split at h
    · exact run_lim h
    · cases h
  | .call f args k, x, h => by
    simp only [RM.run] at h ⊢
    split at h
    · rename_i y hy
      have hy := lim_ev hy
      exact (hy.and (run_lim h)).mono fun n hn => by simp only [hn.1]; exact hn.2
    · cases h
theorem stepOn_lim {cfg : Cfg} {o : PO} {st : St} {x : St × Touch} (h : stepOn (pcW funcs own) cfg o st = some x) : Ev fun n => stepOn (pcN funcs own n) cfg o st = some x := by
  unfold stepOn at h ⊢
  split at h
  · rename_i h'; exact (run_lim h').mono fun n hn => by simp only [hn]; exact h
  · cases h
theorem pstep_lim {cfg : Cfg} {o : PO} {st : St} {x : St × Touch} (h : pstep (pcW funcs own) cfg o st = some x) : Ev fun n => pstep (pcN funcs own n) cfg o st = some x := by
  unfold pstep at h ⊢
  split at h
  · exact stepOn_lim h
  · exact stepOn_lim h
  · exact .all fun _ => h
  · exact .all fun _ => h
  · cases h
theorem pops_lim {cfg : Cfg} : ∀ {os : List PO} {st : St} {x : St}, pops (pcW funcs own) cfg os st = some x → Ev fun n => pops (pcN funcs own n) cfg os st = some x
  | [], st, x, h => .all fun _ => h
  | o :: os, st, x, h => by
    simp only [pops] at h ⊢
    split at h
    · rename_i h'
      exact ((pstep_lim h').and (pops_lim h)).mono fun n hn => by simp only [hn.1]; exact hn.2
    · cases h
theorem pdraw_lim {cfg : Cfg} : ∀ {os : List (PO × List Nat)} {i : Nat} {seen : List (Nat × Touch)} {st : St} {x : St}, pdraw (pcW funcs own) cfg os i seen st = some x → Ev fun n => pdraw (pcN funcs own n) cfg os i seen st = some x
  | [], _, _, st, x, h => .all fun _ => h
  | (o, pre) :: os, i, seen, st, x, h => by
    simp only [pdraw] at h ⊢
    split at h
    · rename_i h'
      split at h
      · rename_i hap
        exact ((pstep_lim h').and (pdraw_lim h)).mono fun n hn => by simp only [hn.1, hap, if_true]; exact hn.2
      · cases h
    · cases h
theorem pexec_lim {cfg : Cfg} : ∀ {c : PCode} {st : St} {x : PExit × St}, pexec (pcW funcs own) cfg lpW c st = some x → Ev fun n => pexec (pcN funcs own n) cfg (lpN (n + 1)) c st = some x
  | .skip, st, x, h => .all fun _ => h
  | .ret, st, x, h => .all fun _ => h
  | .exit n, st, x, h => .all fun _ => h
  | .region os, st, x, h => by
    simp only [pexec] at h ⊢
    split at h
    · rename_i h'; exact (pops_lim h').mono fun n hn => by simp only [hn]; exact h
    · cases h
  | .dregion os, st, x, h => by
    simp only [pexec] at h ⊢
    split at h
    · rename_i h'; exact (pdraw_lim h').mono fun n hn => by simp only [hn]; exact h
    · cases h
  | .seq a b, st, x, h => by
    simp only [pexec] at h ⊢
    split at h
    · rename_i h'; exact ((pexec_lim h').and (pexec_lim h)).mono fun n hn => by simp only [hn.1]; exact hn.2
    · rename_i hq
      exact (pexec_lim h).mono fun n hn => by
        rw [hn]
        split
        · rename_i st' e; injection e with e; exact absurd (e ▸ h) (hq st')
        · rfl
  | .cond c a b, st, x, h => by
    simp only [pexec] at h ⊢
    split at h
    · exact pexec_lim h
    · exact pexec_lim h
    · cases h
  | .block k c, st, x, h => by
    simp only [pexec] at h ⊢
    split at h
    · rename_i h'; exact (pexec_lim h').mono fun n hn => by simp only [hn]; exact h
    · rename_i hq
      exact (pexec_lim h).mono fun n hn => by
        rw [hn]
        split
        · rename_i m st' e; injection e with e; exact absurd (e ▸ h) (hq m st')
        · rfl
  | .loop s k s2 k2 c, st, x, h => by
    simp only [pexec] at h ⊢
    split at h
    · have := loop_lim (sN := fun n st => roundEnd s k s2 k2 (pexec (pcN funcs own n) cfg (lpN (n + 1)) c st)) (fun s' x' hs => by
        cases hp : pexec (pcW funcs own) cfg lpW c s' with
        | none => rw [hp] at hs; simp [roundEnd] at hs
        | some y => rw [hp] at hs; exact (pexec_lim hp).mono fun n hn => by rw [hn]; exact hs) (lpW_loop h)
      obtain ⟨m, hm⟩ := this
      exact ⟨m, fun n hn => hm m (Nat.le_refl _) n hn (n + 1) (by omega)⟩
    · cases h
theorem lift {f : Nat} {args : List V} {r : Res} (h : pfun funcs own (pcW funcs own) lpW f args = some r) : pcW funcs own f args = some r := by
  refine lim_of ?_
  have : Ev fun n => pfun funcs own (pcN funcs own n) (lpN (n + 1)) f args = some r := by
    unfold pfun at h ⊢
    split at h
    · cases h
    · split at h
      · rename_i hl
        split at h
        · rename_i h'
          exact (pexec_lim h').mono fun n hn => by simp only [hl, if_true, hn]; exact h
        · cases h
      · cases h
  exact this.next.mono fun n ⟨m, hm, e⟩ => by subst hm; simp only [pcN, e, orElse]
theorem pfun_lim {f : Nat} {args : List V} {r : Res} (h : pfun funcs own (pcW funcs own) lpW f args = some r) : Ev fun n => pfun funcs own (pcN funcs own n) (lpN (n + 1)) f args = some r := by
  unfold pfun at h ⊢
  split at h
  · cases h
  · split at h
    · rename_i hl
      split at h
      · rename_i h'
        exact (pexec_lim h').mono fun n hn => by simp only [hl, if_true, hn]; exact h
      · cases h
    · cases h
theorem lift_both {f : Nat} (ho : (own f).headD false = false) (h : ∀ b, pfun funcs own (pcW funcs own) lpW f [.one (.em b)] = some (.one (.sl []), [])) (h0 : ∀ n, pfun funcs own (pcN funcs own n) (lpN (n + 1)) f [.one (.rsl [])] = none) : pcW funcs own f [.one (.rsl [])] = some (.one (.sl []), []) := by
  refine lim_of ?_
  exact ((pfun_lim (h true)).and (pfun_lim (h false))).next.mono fun n ⟨m, hm, e1, e2⟩ => by subst hm; simp only [pcN, h0, orElse, both, ho, e1, e2]
theorem pcW_pcN {f : Nat} {args : List V} {r : Res} (h : pcW funcs own f args = some r) : ∃ n, pcN funcs own n f args = some r := by
  obtain ⟨m, hm⟩ := lim_ev h
  exact ⟨m, hm m (Nat.le_refl _)⟩
end
end Go.Proofs.Ytdgamfanffnhaaa.PI
