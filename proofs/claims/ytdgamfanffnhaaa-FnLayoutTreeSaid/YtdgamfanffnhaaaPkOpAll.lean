/-
  One operation of PI's is the machine's, whichever it is: and a step of a region. No condition.
-/
import Derived.Test.YtdgamfanffnhaaaPkCallF
import Derived.Orders
set_option linter.unusedVariables false
set_option linter.unusedSimpArgs false
namespace Go.Proofs.Ytdgamfanffnhaaa.PI
open Go
section
variable {P : Program} {X : Ctx} {rt : Rt} {w w' : World} {R R' : Nat → Prop} {γ γ' : Gm} {h h' : Hp} {env : List (Nat × V)} {a : Act} {op : Oper} {call : Nat → List V → Option Res} {cfg : Cfg} {d : Nat} {v : V} {u : Ups} {l : List Nat}
theorem op_all (M : Mem X rt w R γ) (E : EnvR (hp w) R rt γ env a.tmps) (hcall : CallsOk P cfg.own call) (hfz : cfg.fz = X.fz) {p : POp} (C : chkOp P op.op p = true) (hd : distinct (u.map (·.1)) = true) (H : (p.rm cfg d env).run call rt = some (v, u, l)) : Done P X rt w R γ a op v u := by
  cases p with
  | mov x => exact .inl (op_mov M E C H)
  | pick c a b => exact .inl (op_pick M E C H)
  | nilroot => exact .inl (op_nilroot M C H)
  | alloc zero => exact .inl (op_alloc M C H)
  | box x => exact .inl (op_box M E C hd H)
  | build zero parts => exact .inl (op_build M E C H)
  | bslice n zero parts => exact .inl (op_bslice M E C hd H)
  | load agg sz a => exact .inl (op_load M E C H)
  | store sz a x => exact .inl (op_store M E C hd H)
  | nilc x => exact .inl (op_nilc M E C H)
  | bin ty op x y => exact .inl (op_bin M E C H)
  | eqa neg n x y => exact .inl (op_eqa M E C H)
  | not x => exact .inl (op_not M E C H)
  | ngt x => exact .inl (op_ngt M E C H)
  | conv k x => exact .inl (op_conv M E C H)
  | mk zero lim n => exact .inl (op_mk M E C H)
  | slice str sz x lo hi => exact .inl (op_slice M E C H)
  | fld off x => exact .inl (op_fld M E C H)
  | idx sz x i => exact .inl (op_idx M E C H)
  | ext x i => exact .inl (op_ext M E C H)
  | len str x => exact .inl (op_len M E C H)
  | mn xs => exact .inl (op_mn M E C H)
  | mx xs => exact .inl (op_mx M E C H)
  | app sz lim s y => exact .inl (op_app M E C hd H)
  | call f args => exact op_call M E hcall hfz C hd H
  | callv f args => exact op_callv M E hcall hfz C hd H
theorem Done.wp {Q : Exit → Act → World → Prop} {K : Act → World → Prop} (H : Done P X rt w R γ a op v u) (hK : ∀ x w', After X rt w R γ v u x w' → K (a.put op.dst x) w') : op.wp P a w K Q := by
  unfold Oper.wp
  rcases H with ⟨nx, x, w', hr, hx, ha⟩ | ⟨f, args, hr, hc⟩
  · rw [hr]
    rcases hx with rfl | ⟨rfl, rfl⟩
    · exact hK x w' ha
    · exact hK undef w' ha
  · rw [hr]
    refine hc.mono ?_
    rintro e w' ⟨x, rfl, ha⟩
    exact hK x w' ha
theorem EnvR.put (E : EnvR h R rt γ env a.tmps) (hR : ∀ b, R b → R' b) (hh : ∀ b, R b → h' b = h b) {rt' : Rt} (X : ExtAll h h' rt rt' γ γ') {dst : Option Nat} (hd : ∀ d, dst = some d → d < a.tmps.size) {x : Value} (hv : VR h' R' rt' γ' v x) :
    EnvR h' R' rt' γ' (setD env dst v) (a.put dst x).tmps := by
  intro n q hq
  cases dst with
  | none =>
    obtain ⟨y, h1, h2⟩ := E n q hq
    exact ⟨y, h1, h2.mono hR hh X⟩
  | some d =>
    simp only [setD, get_put] at hq
    by_cases hdn : d = n
    · subst hdn
      simp only [if_true, Option.some.injEq] at hq; subst hq
      exact ⟨x, by simp [Act.put, hd d rfl], hv⟩
    · simp only [hdn, if_false] at hq
      obtain ⟨y, h1, h2⟩ := E n q hq
      exact ⟨y, by simp [Act.put, Array.getElem?_setIfInBounds_ne hdn, h1], h2.mono hR hh X⟩
def guardOk (ops : Array Oper) : Option (Nat × Bool) → Option (Nat × Bool) → Bool
  | none, none => true
  | some (j, b), some (g, b') => b == b' && (match ops[j]? with
    | some y => y.dst == some g
    | none => false)
  | _, _ => false
def dstOk (N : Nat) : Option Nat → Bool
  | some d => decide (d < N)
  | none => true
def poOk (P : Program) (N : Nat) (ops : Array Oper) (x : Oper) (o : PO) : Bool :=
  x.dst == o.dst && (dstOk N o.dst && (guardOk ops x.guard o.guard && chkOp P x.op o.op))
theorem notbool {b : Bool} {x : Value} (H : VR h R rt γ v x) (hv : ∀ c, v ≠ .one (.bool c)) : x ≠ .bool b := by
  rintro rfl
  cases v with
  | tup vs => obtain ⟨arr, e, _⟩ := H; cases e
  | agg cs => obtain ⟨arr, e, _⟩ := H; cases e
  | one c =>
    cases c with
    | bool c => exact hv c rfl
    | ref => obtain ⟨_, _, e, _⟩ := H; cases e
    | nref => obtain ⟨_, _, e, _⟩ := H; cases e
    | view => obtain ⟨_, _, e, _⟩ := H; cases e
    | bptr => obtain ⟨_, e, _⟩ := H; cases e
    | eptr => obtain ⟨_, e, _⟩ := H; cases e
    | _ =>
      have H : Ro h R [_] [Value.bool b] := H
      cases H with
      | sc q _ => simp [sc] at q
def gv (b : Bool) : V → Guard
  | .one (.bool c) => .ask (c == b)
  | _ => .no
def yv : Value → Option Bool
  | .bool b => some b
  | _ => none
theorem guarded_some {o : PO} {g : Nat} {b : Bool} (hg : o.guard = some (g, b)) {e : List (Nat × V)} {q : V} (hv : get e g = some q) : o.guarded e = gv b q := by
  unfold PO.guarded
  rw [hg]; simp only; rw [hv]
  cases q with
  | one c => cases c <;> rfl
  | agg => rfl
  | tup => rfl
theorem wanted_guard {ops : Array Oper} {st : St} {x : Oper} {o : PO} (E : EnvR h R rt γ st.env a.tmps) (C : guardOk ops x.guard o.guard = true) :
    (o.guarded st.env = .free → Region.wanted x (yielded ops a.tmps) = true) ∧ (∀ b, o.guarded st.env = .ask b → Region.wanted x (yielded ops a.tmps) = b) ∧ (o.guarded st.env = .no → Region.wanted x (yielded ops a.tmps) = false) := by
  unfold Region.wanted
  cases hg : x.guard with
  | none =>
    cases hg' : o.guard with
    | none => simp [PO.guarded, hg']
    | some => rw [hg, hg'] at C; simp [guardOk] at C
  | some gw =>
    obtain ⟨j, b⟩ := gw
    cases hg' : o.guard with
    | none => rw [hg, hg'] at C; simp [guardOk] at C
    | some gw' =>
      obtain ⟨g, b'⟩ := gw'
      rw [hg, hg'] at C
      simp only [guardOk, Bool.and_eq_true, beq_iff_eq] at C
      obtain ⟨rfl, C⟩ := C
      split at C
      case h_2 => cases C
      rename_i y hy
      simp only [beq_iff_eq] at C
      simp only
      cases hv : get st.env g with
      | none => simp [PO.guarded, hg', hv]
      | some q =>
        rw [guarded_some hg' hv]
        obtain ⟨z, hz, hr⟩ := E g q hv
        have hyl : yielded ops a.tmps j = yv z := by
          simp only [yielded, hy, Option.bind_some, C, hz]
          clear hr hz
          cases z <;> rfl
        by_cases hb : ∃ c, q = .one (.bool c)
        · obtain ⟨c, rfl⟩ := hb
          have := VR_bool hr; subst this
          simp only [hyl, yv, gv]
          refine ⟨by simp, ?_, by simp⟩
          intro b' hb'
          simp only [Guard.ask.injEq] at hb'
          subst hb'
          cases c <;> cases b <;> rfl
        · have hnb : ∀ c, z ≠ .bool c := fun c => notbool hr fun c' e => hb ⟨c', e⟩
          have hyn : yielded ops a.tmps j = none := by
            rw [hyl]
            clear hyl hz hr
            cases z <;> first | rfl | exact absurd rfl (hnb _)
          have hno : gv b q = .no := by
            cases q with
            | one c => cases c <;> first | rfl | exact absurd ⟨_, rfl⟩ hb
            | agg => rfl
            | tup => rfl
          rw [hno, hyn]
          simp
theorem step_sound {N : Nat} {ops : Array Oper} {Q : Exit → Act → World → Prop} {K : Act → World → Prop} {st st' : St} {t : Touch} {x : Oper} {o : PO} {i : Nat} (hcall : CallsOk P cfg.own call) (hfz : cfg.fz = X.fz) (Rl : Rel X N st a w) (ho : ops[i]? = some x)
    (C : poOk P N ops x o = true) (H : pstep call cfg o st = some (st', t)) (hK : ∀ a' w', Rel X N st' a' w' → K a' w') : wpOp P ops Q i K a w := by
  obtain ⟨R, γ, M, E, hdef, hN⟩ := Rl
  simp only [poOk, Bool.and_eq_true, beq_iff_eq] at C
  obtain ⟨C1, C2, C3, C4⟩ := C
  have hdst : ∀ d, o.dst = some d → d < a.tmps.size := by
    intro d hd
    rw [hd] at C2; simp only [dstOk, decide_eq_true_eq] at C2
    exact Nat.lt_of_lt_of_le C2 hN
  have size : ∀ x : Value, (a.put o.dst x).tmps.size = a.tmps.size := by
    intro x; cases o.dst <;> simp [Act.put]
  have defs : ∀ x : Value, (a.put o.dst x).defers = a.defers := by
    intro x; cases o.dst <;> simp [Act.put]
  obtain ⟨g1, g2, g3⟩ := wanted_guard (st := st) (x := x) (o := o) E C3
  have on : Region.wanted x (yielded ops a.tmps) = true → stepOn call cfg o st = some (st', t) → wpOp P ops Q i K a w := by
    intro hw H
    unfold wpOp
    simp only [ho, hw, if_true]
    refine .inl ?_
    unfold stepOn at H
    split at H
    case h_2 => cases H
    rename_i v u l hr
    split at H
    case isFalse => cases H
    rename_i hd
    simp only [Option.some.injEq, Prod.mk.injEq] at H
    obtain ⟨rfl, _⟩ := H
    refine (op_all (op := x) M E hcall hfz C4 hd hr).wp fun y w' ⟨R', γ', M', X', hR, hh, hv⟩ => ?_
    rw [C1]
    refine hK _ _ ⟨R', γ', ?_, ?_, (defs y).trans hdef, by rw [size]; exact hN⟩
    · simp only [get_applyUps]; exact M'
    · simp only [get_applyUps]; exact E.put hR hh X' hdst hv
  have off : Region.wanted x (yielded ops a.tmps) = false → some (stepOff o st) = some (st', t) → wpOp P ops Q i K a w := by
    intro hw H
    unfold wpOp
    simp only [ho, hw, Bool.false_eq_true, if_false]
    simp only [stepOff, Option.some.injEq, Prod.mk.injEq] at H
    obtain ⟨rfl, _⟩ := H
    rw [C1]
    exact hK _ _ ⟨R, γ, M, E.put (fun _ h => h) (fun _ _ => rfl) ExtAll.refl hdst ⟨#[], rfl, .nil⟩, (defs undef).trans hdef, by rw [size]; exact hN⟩
  unfold pstep at H
  split at H
  · rename_i hq; exact on (g1 hq) H
  · rename_i hq; exact on (g2 _ hq) H
  · rename_i hq; exact off (g2 _ hq) H
  · rename_i hq; exact off (g3 hq) H
  · cases H
def regionOk (P : Program) (N : Nat) (ops : Array Oper) : List Oper → List PO → Bool
  | [], [] => true
  | x :: xs, o :: os => poOk P N ops x o && regionOk P N ops xs os
  | _, _ => false
theorem pops_sound {N : Nat} {ops : Array Oper} {Q : Exit → Act → World → Prop} {st' : St} (hcall : CallsOk P cfg.own call) (hfz : cfg.fz = X.fz) (hQ : ∀ a' w', Rel X N st' a' w' → Q .normal a' w') : ∀ {xs : List Oper} {os : List PO} {k : Nat} {st : St} {a : Act} {w : World},
    (∀ j, xs[j]? = ops[k + j]?) → regionOk P N ops xs os = true → pops call cfg os st = some st' → Rel X N st a w → wpOps P ops Q (List.range' k xs.length) a w
  | [], os, k, st, a, w, _, C, H, Rl => by
    cases os with
    | nil =>
      simp only [pops, Option.some.injEq] at H; subst H
      simpa [wpOps] using hQ a w Rl
    | cons => simp [regionOk] at C
  | x :: xs, os, k, st, a, w, hx, C, H, Rl => by
    cases os with
    | nil => simp [regionOk] at C
    | cons o os =>
      simp only [regionOk, Bool.and_eq_true] at C
      simp only [pops] at H
      split at H
      case h_2 => cases H
      rename_i st1 t hs
      rw [List.length_cons, List.range'_succ, wpOps_cons]
      refine step_sound hcall hfz Rl (by have := hx 0; simpa using this.symm) C.1 hs fun a' w' Rl' => ?_
      exact pops_sound hcall hfz hQ (fun j => by have := hx (j + 1); rw [List.getElem?_cons_succ] at this; rw [this]; congr 1; omega) C.2 H Rl'
end
end Go.Proofs.Ytdgamfanffnhaaa.PI
