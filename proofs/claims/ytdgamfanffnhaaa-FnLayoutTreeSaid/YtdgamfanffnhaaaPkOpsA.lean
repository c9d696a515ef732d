/-
  What PI's operations that touch no root say of the machine's. No condition.
-/
import Derived.Test.YtdgamfanffnhaaaPkChk
set_option linter.unusedVariables false
set_option linter.unusedSimpArgs false
namespace Go.Proofs.Ytdgamfanffnhaaa.PI
open Go
def Did (P : Program) (X : Ctx) (rt : Rt) (w : World) (R : Nat → Prop) (γ : Gm) (a : Act) (op : Oper) (v : V) (u : Ups) : Prop :=
  ∃ nx x w', (execOp a.eval op).run P w = .ok nx w' ∧ (nx = .value x ∨ (nx = .skip ∧ x = undef)) ∧ After X rt w R γ v u x w'
section
variable {P : Program} {X : Ctx} {rt : Rt} {w : World} {R : Nat → Prop} {γ : Gm} {env : List (Nat × V)} {a : Act} {op : Oper} {call : Nat → List V → Option Res} {cfg : Cfg} {d : Nat} {v : V} {u : Ups} {l : List Nat}
theorem Did.val (M : Mem X rt w R γ) {x : Value} (h : (execOp a.eval op).run P w = .ok (.value x) w) (hv : VR (hp w) R rt γ v x) : Did P X rt w R γ a op v [] :=
  ⟨_, x, w, h, .inl rfl, .pure M hv⟩
theorem retC_run {c : C} (H : (retC c).run call rt = some (v, u, l)) : v = .one c ∧ u = [] := by
  have := ret_run H; simp only [Prod.mk.injEq] at this; exact ⟨this.1, this.2.1⟩
theorem retO_run {x : Option V} (H : (retO x).run call rt = some (v, u, l)) : x = some v ∧ u = [] := by
  obtain ⟨y, hy, H⟩ := optRM_run H
  have := ret_run H; simp only [Prod.mk.injEq] at this
  exact ⟨by rw [hy, this.1], this.2.1⟩
theorem op_mov (M : Mem X rt w R γ) (E : EnvR (hp w) R rt γ env a.tmps) {y : Opd} (C : chkOp P op.op (.mov y) = true) (H : ((POp.mov y).rm cfg d env).run call rt = some (v, u, l)) : Did P X rt w R γ a op v u := by
  obtain ⟨v', hv, H⟩ := opd_run H
  have := ret_run H; simp only [Prod.mk.injEq] at this; obtain ⟨rfl, rfl, _⟩ := this
  cases ho : op.op <;> simp only [ho, chkOp, Bool.false_eq_true] at C
  · exact Did.val M (by simp [execOp, ho] <;> rfl) (opd_eval E C hv)
  · exact Did.val M (by simp [execOp, ho] <;> rfl) (opd_eval E C hv)
theorem op_pick (M : Mem X rt w R γ) (E : EnvR (hp w) R rt γ env a.tmps) {c y z : Opd} (C : chkOp P op.op (.pick c y z) = true) (H : ((POp.pick c y z).rm cfg d env).run call rt = some (v, u, l)) : Did P X rt w R γ a op v u := by
  obtain ⟨v', hv, H⟩ := opd_run H
  cases ho : op.op <;> simp only [ho, chkOp, Bool.false_eq_true, Bool.and_eq_true] at C
  rename_i c' y' z'
  split at H
  · rename_i b
    have hb := VR_bool (opd_eval E C.1 hv)
    rcases br_run H with ⟨rfl, H⟩ | ⟨rfl, H⟩
    · obtain ⟨v', hv, H⟩ := opd_run H
      have := ret_run H; simp only [Prod.mk.injEq] at this; obtain ⟨rfl, rfl, _⟩ := this
      exact Did.val M (by simp [execOp, ho, hb, asBool] <;> rfl) (opd_eval E C.2.1 hv)
    · obtain ⟨v', hv, H⟩ := opd_run H
      have := ret_run H; simp only [Prod.mk.injEq] at this; obtain ⟨rfl, rfl, _⟩ := this
      exact Did.val M (by simp [execOp, ho, hb, asBool] <;> rfl) (opd_eval E C.2.2 hv)
  · exact (fail_run H).elim
theorem op_not (M : Mem X rt w R γ) (E : EnvR (hp w) R rt γ env a.tmps) {y : Opd} (C : chkOp P op.op (.not y) = true) (H : ((POp.not y).rm cfg d env).run call rt = some (v, u, l)) : Did P X rt w R γ a op v u := by
  obtain ⟨v', hv, H⟩ := opd_run H
  cases ho : op.op <;> simp only [ho, chkOp, Bool.false_eq_true, Bool.and_eq_true, decide_eq_true_eq] at C
  split at H
  · rename_i b
    have hb := VR_bool (opd_eval E C.2 hv)
    obtain ⟨rfl, rfl⟩ := retC_run H
    exact Did.val M (by simp [execOp, ho, hb, C.1, Op.unary] <;> rfl) VR_mkBool
  · exact (fail_run H).elim
theorem op_ngt (M : Mem X rt w R γ) (E : EnvR (hp w) R rt γ env a.tmps) {y : Opd} (C : chkOp P op.op (.ngt y) = true) (H : ((POp.ngt y).rm cfg d env).run call rt = some (v, u, l)) : Did P X rt w R γ a op v u := by
  obtain ⟨v', hv, H⟩ := opd_run H
  cases ho : op.op <;> simp only [ho, chkOp, Bool.false_eq_true, Bool.and_eq_true, decide_eq_true_eq] at C
  split at H
  · rename_i k n
    have hb := VR_int (opd_eval E C.2 hv)
    obtain ⟨rfl, rfl⟩ := retC_run H
    exact Did.val M (by simp [execOp, ho, hb, C.1, Op.unary, Op.intArith] <;> rfl) VR_mkInt
  · exact (fail_run H).elim
theorem descIs_some {t : TypeId} {f : TypeDesc → Bool} (H : descIs P t f = true) : ∃ d, P.underlying t = some d ∧ f d = true := by
  unfold descIs at H
  split at H
  · exact ⟨_, by assumption, H⟩
  · cases H
theorem elemOf_some {t e : TypeId} (H : elemOf P t = some e) : P.underlying t = some (.slice e) := by
  unfold elemOf at H
  split at H
  · rename_i h; simp only [Option.some.injEq] at H; subst H; exact h
  · cases H
theorem fieldsOf_some {t : TypeId} {fs : List Field} (H : fieldsOf P t = some fs) : P.underlying t = some (.struct fs.toArray) := by
  unfold fieldsOf at H
  split at H
  · rename_i h; simp only [Option.some.injEq] at H; subst H; simpa using h
  · cases H
theorem sizeIs_some {t : TypeId} {n : Nat} (H : sizeIs P t n = true) : ∃ i, P.info? t = some i ∧ i.size = n := by
  unfold sizeIs at H
  split at H
  · exact ⟨_, by assumption, by simpa using H⟩
  · cases H
theorem op_conv (M : Mem X rt w R γ) (E : EnvR (hp w) R rt γ env a.tmps) {k : IntKind} {y : Opd} (C : chkOp P op.op (.conv k y) = true) (H : ((POp.conv k y).rm cfg d env).run call rt = some (v, u, l)) : Did P X rt w R γ a op v u := by
  obtain ⟨v', hv, H⟩ := opd_run H
  cases ho : op.op <;> simp only [ho, chkOp, Bool.false_eq_true, Bool.and_eq_true] at C
  obtain ⟨C1, C2, C3⟩ := C
  split at H
  · rename_i k' n
    have hb := VR_int (opd_eval E C1 hv)
    obtain ⟨rfl, rfl⟩ := retC_run H
    obtain ⟨D, hD, hk⟩ := descIs_some C3
    obtain ⟨S, hS⟩ := Option.isSome_iff_exists.1 C2
    have hk : D = .int k := by cases D <;> simp_all [isIntD]
    subst hk
    exact Did.val M (by simp only [execOp, ho, hb, convert, Sem.run_bind, run_underlying hS, run_underlying hD, Result.andThen_ok]; cases S <;> rfl) VR_mkInt
  · exact (fail_run H).elim
theorem op_ext (M : Mem X rt w R γ) (E : EnvR (hp w) R rt γ env a.tmps) {y : Opd} {i : Nat} (C : chkOp P op.op (.ext y i) = true) (H : ((POp.ext y i).rm cfg d env).run call rt = some (v, u, l)) : Did P X rt w R γ a op v u := by
  obtain ⟨v', hv, H⟩ := opd_run H
  cases ho : op.op <;> simp only [ho, chkOp, Bool.false_eq_true, Bool.and_eq_true, beq_iff_eq] at C
  obtain ⟨C1, rfl⟩ := C
  split at H
  · rename_i vs
    obtain ⟨h1, rfl⟩ := retO_run H
    obtain ⟨arr, hx, pw⟩ := opd_eval E C1 hv
    obtain ⟨x, hx2, hr⟩ := pw.at h1
    have : VR (hp w) R rt γ v x := by cases v <;> first | exact hr | exact hr.elim
    refine Did.val M (x := x) ?_ this
    have : arr[i]? = some x := by simpa using hx2
    simp [execOp, ho, hx, Instr.extract, this]
  · exact (fail_run H).elim
theorem op_nilc (M : Mem X rt w R γ) (E : EnvR (hp w) R rt γ env a.tmps) {y : Opd} (C : chkOp P op.op (.nilc y) = true) (H : ((POp.nilc y).rm cfg d env).run call rt = some (v, u, l)) : Did P X rt w R γ a op v u := by
  obtain ⟨v', hv, H⟩ := opd_run H
  cases ho : op.op <;> simp only [ho, chkOp, Bool.false_eq_true] at C
  rename_i x
  have hr := opd_eval E C hv
  have key : ∀ {c : PI.C} {ad : Addr}, VR (hp w) R rt γ (.one c) (.pointer (some ad)) → a.eval x = .pointer (some ad) → Did P X rt w R γ a op (.one c) [] := fun h e =>
    Did.val M (by simp only [execOp, ho, e]; rfl) h
  split at H
  · obtain ⟨rfl, rfl⟩ := retC_run H
    obtain ⟨ad, e, _⟩ := id hr
    exact key (e ▸ hr) e
  · obtain ⟨rfl, rfl⟩ := retC_run H
    obtain ⟨ad, e, _⟩ := id hr
    exact key (e ▸ hr) e
  · obtain ⟨rfl, rfl⟩ := retC_run H
    have hr' : Ro (hp w) R [_] [_] := hr
    generalize e : a.eval x = z at hr'
    cases hr' with
    | sc s _ => exact s.elim
    | e s _ => rcases s with s | s <;> cases s
    | row s => rcases s with s | s <;> cases s
    | ptr => exact key (e ▸ hr) e
  · exact (fail_run H).elim
theorem op_fld (M : Mem X rt w R γ) (E : EnvR (hp w) R rt γ env a.tmps) {y : Opd} {off : Nat} (C : chkOp P op.op (.fld off y) = true) (H : ((POp.fld off y).rm cfg d env).run call rt = some (v, u, l)) : Did P X rt w R γ a op v u := by
  obtain ⟨v', hv, H⟩ := opd_run H
  cases ho : op.op <;> simp only [ho, chkOp, Bool.false_eq_true, Bool.and_eq_true] at C
  rename_i s x f
  obtain ⟨C1, C2⟩ := C
  split at C2
  · rename_i fs hf
    split at C2
    · rename_i fld hfld
      simp only [Bool.and_eq_true, beq_iff_eq] at C2
      obtain ⟨rfl, C3⟩ := C2
      split at C3
      · rename_i i hi
        have hs := fieldsOf_some hf
        have hfa : fs.toArray[f]? = some fld := by simpa using hfld
        have hne : i.size ≠ 0 := by simpa using C3
        have key : ∀ {ad : Addr}, a.eval x = .pointer (some ad) → (execOp a.eval op).run P w = .ok (.value (.pointer (some (ad.add fld.offset)))) w := by
          intro ad e
          simp [execOp, ho, e, Instr.fieldAt, run_underlying hs, hfa, Instr.sureAddr, fieldPlace, run_sizeOf hi, hne]
        have hr := opd_eval E C1 hv
        split at H
        · rename_i c
          obtain ⟨c', hc, H⟩ := optRM_run H
          obtain ⟨rfl, rfl⟩ := retC_run H
          unfold fldAt at hc
          split at hc
          · rename_i k o
            simp only [Option.some.injEq] at hc; subst hc
            obtain ⟨ad, e, hk, hb⟩ := hr
            refine Did.val M (key e) ⟨_, rfl, hk, fun p cells hc => ?_⟩
            obtain ⟨b, h1, h2⟩ := hb p cells hc
            exact ⟨b, h1, by rw [h2, add_none]⟩
          · rename_i k t i o
            simp only [Option.some.injEq] at hc; subst hc
            obtain ⟨ad, e, hi, hk, hb⟩ := hr
            refine Did.val M (key e) ⟨_, rfl, hi, hk, fun rows hc => ?_⟩
            obtain ⟨h1, h2⟩ := hb rows hc
            refine ⟨h1, fun ht => ?_⟩
            obtain ⟨b, sz, q1, q2, q3⟩ := h2 ht
            exact ⟨b, sz, q1, q2, by rw [q3, add_none, Nat.add_assoc]⟩
          · rename_i el o
            simp only [Option.some.injEq] at hc; subst hc
            have hr' : Ro (hp w) R [_] [_] := hr
            generalize e : a.eval x = z at hr'
            cases hr' with
            | sc s _ => exact s.elim
            | e s _ => rcases s with s | s <;> cases s
            | row s => rcases s with s | s <;> cases s
            | ptr r1 r2 r3 r4 _ =>
              refine Did.val M (key e) ?_
              rw [add_none, Nat.add_assoc]
              exact Ro.ptr r1 r2 r3 r4 .nil
          · cases hc
        · exact (fail_run H).elim
      · cases C3
    · cases C2
  · cases C2
end
end Go.Proofs.Ytdgamfanffnhaaa.PI
