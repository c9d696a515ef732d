/-
  What PI's operations that touch no root say of the machine's, further: arithmetic, comparisons, lengths, indices, parts of rows. No condition.
-/
import Derived.Test.YtdgamfanffnhaaaPkOpsA
set_option linter.unusedVariables false
set_option linter.unusedSimpArgs false
namespace Go.Proofs.Ytdgamfanffnhaaa.PI
open Go
section
variable {P : Program} {X : Ctx} {rt : Rt} {w : World} {R : Nat → Prop} {γ : Gm} {env : List (Nat × V)} {a : Act} {op : Oper} {call : Nat → List V → Option Res} {cfg : Cfg} {d : Nat} {v : V} {u : Ups} {l : List Nat}
theorem bin_int {bop : BinOp} {t t' : TypeId} {x y : Operand} {k : IntKind} {p q : Int} (M : Mem X rt w R γ) (ho : op.op = .binOp bop t x y t') (hx : a.eval x = .int k p) (hy : a.eval y = .int k q)
    (H : (binInt bop k p q).run call rt = some (v, u, l)) : Did P X rt w R γ a op v u := by
  have hex : (execOp a.eval op).run P w = ((Go.binOp bop t (.int k p) (.int k q)).run P w).andThen fun z w' => .ok (.value z) w' := by
    simp [execOp, ho, hx, hy, eqGuard_at_int]
  have done : ∀ {z : Value}, (Go.binOp bop t (.int k p) (.int k q)).run P w = .ok z w → VR (hp w) R rt γ v z → u = [] → Did P X rt w R γ a op v u := by
    intro z h1 h2 h3
    subst h3
    exact Did.val M (x := z) (by rw [hex, h1]; rfl) h2
  cases bop
  case add => obtain ⟨rfl, rfl⟩ := retC_run H; exact done (by simp [Go.binOp, Op.intArith] <;> rfl) VR_mkInt rfl
  case sub => obtain ⟨rfl, rfl⟩ := retC_run H; exact done (by simp [Go.binOp, Op.intArith] <;> rfl) VR_mkInt rfl
  case mul => obtain ⟨rfl, rfl⟩ := retC_run H; exact done (by simp [Go.binOp, Op.intArith] <;> rfl) VR_mkInt rfl
  case quo =>
    obtain ⟨hq, H⟩ := chk_run H
    obtain ⟨rfl, rfl⟩ := retC_run H
    have hq : q ≠ 0 := by simpa using hq
    exact done (by simp [Go.binOp, Op.intDiv, hq] <;> rfl) VR_mkInt rfl
  case rem =>
    obtain ⟨hq, H⟩ := chk_run H
    obtain ⟨rfl, rfl⟩ := retC_run H
    have hq : q ≠ 0 := by simpa using hq
    exact done (by simp [Go.binOp, Op.intDiv, hq] <;> rfl) VR_mkInt rfl
  case eql => obtain ⟨rfl, rfl⟩ := retC_run H; exact done (by simp [Go.binOp, Op.intCmp] <;> rfl) VR_mkBool rfl
  case neq => obtain ⟨rfl, rfl⟩ := retC_run H; exact done (by simp [Go.binOp, Op.intCmp] <;> rfl) VR_mkBool rfl
  case lss => obtain ⟨rfl, rfl⟩ := retC_run H; exact done (by simp [Go.binOp, Op.intCmp] <;> rfl) VR_mkBool rfl
  case leq => obtain ⟨rfl, rfl⟩ := retC_run H; exact done (by simp [Go.binOp, Op.intCmp] <;> rfl) VR_mkBool rfl
  case gtr => obtain ⟨rfl, rfl⟩ := retC_run H; exact done (by simp [Go.binOp, Op.intCmp] <;> rfl) VR_mkBool rfl
  case geq => obtain ⟨rfl, rfl⟩ := retC_run H; exact done (by simp [Go.binOp, Op.intCmp] <;> rfl) VR_mkBool rfl
  all_goals
    simp only [binInt] at H
    obtain ⟨n, hn, H⟩ := optRM_run H
    obtain ⟨rfl, rfl⟩ := retC_run H
    simp only [intBits, Option.some.injEq, reduceCtorEq] at hn
  all_goals
    subst hn
    exact done (by simp [Go.binOp, Op.intBits] <;> rfl) VR_mkInt rfl
theorem bin_str {bop : BinOp} {t t' : TypeId} {x y : Operand} {p q : ByteArray} (M : Mem X rt w R γ) (ho : op.op = .binOp bop t x y t') (hx : a.eval x = .string p) (hy : a.eval y = .string q)
    (H : (binStr bop p q).run call rt = some (v, u, l)) : Did P X rt w R γ a op v u := by
  have hex : (execOp a.eval op).run P w = ((Go.binOp bop t (.string p) (.string q)).run P w).andThen fun z w' => .ok (.value z) w' := by
    simp [execOp, ho, hx, hy, eqGuard_at_string]
  have done : ∀ {z : Value}, (Go.binOp bop t (.string p) (.string q)).run P w = .ok z w → VR (hp w) R rt γ v z → u = [] → Did P X rt w R γ a op v u := by
    intro z h1 h2 h3
    subst h3
    exact Did.val M (x := z) (by rw [hex, h1]; rfl) h2
  unfold binStr at H
  split at H
  · obtain ⟨hq, H⟩ := chk_run H
    obtain ⟨rfl, rfl⟩ := retC_run H
    have hq : ¬ ((p.size + q.size : Nat) : Int) > IntKind.i64.max := by simpa using hq
    exact done (by simp only [Go.binOp, Op.stringOp, hq, if_false] <;> rfl) VR_mkStr rfl
  · obtain ⟨rfl, rfl⟩ := retC_run H; exact done (by simp only [Go.binOp, Op.stringOp] <;> rfl) VR_mkBool rfl
  · obtain ⟨rfl, rfl⟩ := retC_run H; exact done (by simp only [Go.binOp, Op.stringOp] <;> rfl) VR_mkBool rfl
  · exact (fail_run H).elim
theorem bin_bool {bop : BinOp} {t t' : TypeId} {x y : Operand} {p q : Bool} (M : Mem X rt w R γ) (ho : op.op = .binOp bop t x y t') (hx : a.eval x = .bool p) (hy : a.eval y = .bool q) (ht : P.underlying t = some .bool)
    (H : (binC 1 bop (.bool p) (.bool q)).run call rt = some (v, u, l)) : Did P X rt w R γ a op v u := by
  have hq : (Op.equal t (.bool p) (.bool q)).run P w = .ok (p == q) w := by simp only [Op.equal, Op.maxDepth]; exact run_equalIn_bool w _ t p q ht
  simp only [binC] at H
  split at H
  · obtain ⟨rfl, rfl⟩ := retC_run H
    exact Did.val M (by simp [execOp, ho, hx, hy, eqGuard_at_bool, Go.binOp, hq] <;> rfl) VR_mkBool
  · obtain ⟨rfl, rfl⟩ := retC_run H
    exact Did.val M (by simp [execOp, ho, hx, hy, eqGuard_at_bool, Go.binOp, hq] <;> rfl) VR_mkBool
  · exact (fail_run H).elim
theorem run_equalIn_nil (k : Nat) {t e : TypeId} {p : Option Addr} {n c : Nat} (ht : P.underlying t = some (.slice e)) : (Op.equalIn (k + 1) t (.slice p n c) (.slice none 0 0)).run P w = .ok p.isNone w := by
  rw [Op.equalIn]
  cases p <;> simp [run_underlying ht]
theorem run_eq_nil {t e : TypeId} {p : Option Addr} {n c : Nat} (ht : P.underlying t = some (.slice e)) : (Op.equal t (.slice p n c) (.slice none 0 0)).run P w = .ok p.isNone w :=
  run_equalIn_nil 9999 ht
theorem bin_nil {bop : BinOp} {t t' e : TypeId} {x y : Operand} {c : PI.C} (M : Mem X rt w R γ) (ho : op.op = .binOp bop t x y t') (hx : VR (hp w) R rt γ (.one c) (a.eval x)) (hy : a.eval y = .slice none 0 0) (ht : P.underlying t = some (.slice e))
    (H : (binC 2 bop c .nil).run call rt = some (v, u, l)) : Did P X rt w R γ a op v u := by
  have key : ∀ {K : Bool → RM}, (isNil c K).run call rt = some (v, u, l) → ∃ p n cp, a.eval x = .slice p n cp ∧ (K p.isNone).run call rt = some (v, u, l) := by
    intro K H
    unfold isNil at H
    split at H
    · exact ⟨none, 0, 0, VR_nil hx, H⟩
    · obtain ⟨h0, H⟩ := chk_run H
      obtain ⟨p, cp, e, ⟨_, hs⟩, _⟩ := hx
      obtain ⟨ad, rfl⟩ := Option.isSome_iff_exists.1 (hs (by simpa using h0))
      exact ⟨_, _, _, e, H⟩
    · obtain ⟨h0, H⟩ := chk_run H
      have hr : Ro (hp w) R [_] [_] := hx
      generalize e : a.eval x = z at hr
      cases hr with
      | sc s _ => exact s.elim
      | e s _ => rcases s with s | s <;> cases s; simp at h0
      | row s => exact ⟨_, _, _, rfl, H⟩
    · have hr : Ro (hp w) R [_] [_] := hx
      generalize e : a.eval x = z at hr
      cases hr with
      | sc s _ =>
        obtain ⟨ad, cap, rfl, rfl⟩ := s
        exact ⟨_, _, _, rfl, H⟩
      | e s _ => rcases s with s | s <;> cases s
      | row s => rcases s with s | s <;> cases s
    · exact (fail_run H).elim
  simp only [binC] at H
  split at H
  · obtain ⟨p, n, cp, e, H⟩ := key H
    obtain ⟨rfl, rfl⟩ := retC_run H
    exact Did.val M (by simp [execOp, ho, e, hy, eqGuard_at_slice, Go.binOp, run_eq_nil ht] <;> rfl) VR_mkBool
  · obtain ⟨p, n, cp, e, H⟩ := key H
    obtain ⟨rfl, rfl⟩ := retC_run H
    exact Did.val M (by simp [execOp, ho, e, hy, eqGuard_at_slice, Go.binOp, run_eq_nil ht] <;> rfl) VR_mkBool
  · exact (fail_run H).elim
theorem op_bin (M : Mem X rt w R γ) (E : EnvR (hp w) R rt γ env a.tmps) {ty : Nat} {bop : BinOp} {y z : Opd} (C : chkOp P op.op (.bin ty bop y z) = true) (H : ((POp.bin ty bop y z).rm cfg d env).run call rt = some (v, u, l)) : Did P X rt w R γ a op v u := by
  obtain ⟨v', hv, H⟩ := opd_run H
  cases ho : op.op <;> simp only [ho, chkOp, Bool.false_eq_true, Bool.and_eq_true, decide_eq_true_eq] at C
  obtain ⟨rfl, C1, C2, C3⟩ := C
  have hx := opd_eval E C1 hv
  split at H
  · obtain ⟨v'', hv', H⟩ := opd_run H
    have hy := opd_eval E C2 hv'
    split at H
    · rename_i c _ _ c'
      rcases ty with _ | _ | ty
      · simp only [binC] at H
        split at H
        · obtain ⟨hk, H2⟩ := chk_run H
          have hk := of_decide_eq_true hk; subst hk
          replace H := H2
          exact bin_int M ho (VR_int hx) (VR_int hy) H
        · exact bin_str M ho (VR_str hx) (VR_str hy) H
        · exact (fail_run H).elim
      · obtain ⟨D, hD, hk⟩ := descIs_some C3
        have hk : D = .bool := by cases D <;> simp_all [isBoolD]
        subst hk
        have H' := H
        simp only [binC] at H
        split at H
        · exact bin_bool M ho (VR_bool hx) (VR_bool hy) hD H'
        · exact (fail_run H).elim
      · obtain ⟨D, hD, hk⟩ := descIs_some C3
        obtain ⟨e, rfl⟩ : ∃ e, D = .slice e := by cases D <;> simp_all [isSliceD]
        have H' : (binC 2 bop c c').run call rt = some (v, u, l) := H
        simp only [binC] at H
        split at H
        · exact bin_nil M ho hx (VR_nil hy) hD H'
        · exact (fail_run H).elim
    · exact (fail_run H).elim
  · exact (fail_run H).elim
end
end Go.Proofs.Ytdgamfanffnhaaa.PI
