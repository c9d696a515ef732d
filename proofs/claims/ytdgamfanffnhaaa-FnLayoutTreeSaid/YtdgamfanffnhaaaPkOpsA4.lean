/-
  What PI's operations that touch no root say of the machine's, further: parts of rows, structs compared. No condition.
-/
import Derived.Test.YtdgamfanffnhaaaPkOpsA3
set_option linter.unusedVariables false
set_option linter.unusedSimpArgs false
namespace Go.Proofs.Ytdgamfanffnhaaa.PI
open Go
section
variable {P : Program} {X : Ctx} {rt : Rt} {w : World} {R : Nat → Prop} {γ : Gm} {env : List (Nat × V)} {a : Act} {op : Oper} {call : Nat → List V → Option Res} {cfg : Cfg} {d : Nat} {v : V} {u : Ups} {l : List Nat}
def BoundIs (x : Option Value) (dflt n : Nat) : Prop := (x = none ∧ n = dflt) ∨ ∃ k i, x = some (.int k i) ∧ 0 ≤ i ∧ n = i.toNat
theorem bound_run (E : EnvR (hp w) R rt γ env a.tmps) {x : Option Opd} {y : Option Operand} (C : optOk x y = true) {dflt : Nat} {K : Nat → RM} {res : V × Ups × List Nat} (H : (boundOf env x dflt K).run call rt = some res) :
    ∃ n, BoundIs (y.map a.eval) dflt n ∧ (K n).run call rt = some res := by
  unfold boundOf at H
  split at H
  · cases y with
    | none => exact ⟨dflt, .inl ⟨rfl, rfl⟩, H⟩
    | some => simp [optOk] at C
  · rename_i x
    cases y with
    | none => simp [optOk] at C
    | some y =>
      obtain ⟨v', hv, H⟩ := opd_run H
      split at H
      · obtain ⟨h0, H⟩ := chk_run H
        have h0 := of_decide_eq_true h0
        exact ⟨_, .inr ⟨_, _, by rw [Option.map_some, VR_int (opd_eval E C hv)], h0, rfl⟩, H⟩
      · exact (fail_run H).elim
theorem run_bounds {b : Bool} {len cap lo hi : Nat} {x y : Option Value} (hl : BoundIs x 0 lo) (hh : BoundIs y len hi) (h1 : lo ≤ hi) (h2 : hi ≤ cap) :
    (Instr.sliceBounds b len cap x y none).run P w = .ok (lo, hi, cap) w := by
  rcases hl with ⟨rfl, rfl⟩ | ⟨k, i, rfl, hi0, rfl⟩ <;> rcases hh with ⟨rfl, rfl⟩ | ⟨k', j, rfl, hj0, rfl⟩
  · simp [Instr.sliceBounds]
  · have : j ≤ (cap : Int) := by omega
    simp [Instr.sliceBounds, Instr.sliceBound, asIntOf, hj0, this]
  · have : i ≤ (hi : Int) := by omega
    simp [Instr.sliceBounds, Instr.sliceBound, asIntOf, hi0, this]
  · have q1 : j ≤ (cap : Int) := by omega
    have q2 : i ≤ j := by omega
    have q3 : i ≤ (j.toNat : Int) := by omega
    have q4 : i ≤ max j 0 := by omega
    simp only [Instr.sliceBounds, Instr.sliceBound, asIntOf, hi0, hj0, q1, q3, Sem.run_bind, Sem.run_pure, Result.andThen_ok, true_and, and_true, if_true, Option.isSome_none, Bool.false_eq_true, if_false]
theorem op_slice (M : Mem X rt w R γ) (E : EnvR (hp w) R rt γ env a.tmps) {str : Bool} {sz : Nat} {y : Opd} {lo hi : Option Opd} (C : chkOp P op.op (.slice str sz y lo hi) = true) (H : ((POp.slice str sz y lo hi).rm cfg d env).run call rt = some (v, u, l)) : Did P X rt w R γ a op v u := by
  obtain ⟨v', hv, H⟩ := opd_run H
  cases ho : op.op <;> simp only [ho, chkOp, Bool.false_eq_true] at C
  rename_i t x lo' hi' mx
  cases mx <;> simp only [Bool.false_eq_true, Bool.and_eq_true] at C
  obtain ⟨C1, C2, C3, C4⟩ := C
  have hx := opd_eval E C1 hv
  split at H
  · rename_i c
    obtain ⟨n, hn, H1⟩ := optRM_run H
    clear H
    obtain ⟨hh, hb, H2⟩ := bound_run E C3 H1
    clear H1
    obtain ⟨ll, hb', HS⟩ := bound_run E C2 H2
    clear H2
    cases str
    · simp only [Bool.false_eq_true, if_false] at C4
      split at C4
      · rename_i e he
        obtain ⟨inf, hi, rfl⟩ := sizeIs_some C4
        have ht := elemOf_some he
        have mach : ∀ {p : Option Addr} {cap : Nat}, a.eval x = .slice p n cap → n ≤ cap → ll ≤ hh → hh ≤ n →
            (execOp a.eval op).run P w = .ok (.value (.slice (if cap = ll then p else p.map (·.add (ll * inf.size))) (hh - ll) (cap - ll))) w := by
          intro p cap e1 h1 h2 h3
          simp [execOp, ho, e1, Instr.sliceAt, Instr.slice, run_underlying ht, run_sizeOf hi, run_bounds hb' hb h2 (Nat.le_trans h3 h1)]
        have spot : ∀ {p : Option Addr} {cap b o : Nat}, (0 < hh - ll → p = some ⟨b, o, none⟩) → n ≤ cap → hh ≤ n → 0 < hh - ll →
            (if cap = ll then p else p.map (·.add (ll * inf.size))) = some ⟨b, o + ll * inf.size, none⟩ := by
          intro p cap b o hp h1 h3 h4
          rw [if_neg (by omega), hp h4]; simp [add_none]
        unfold sliceAt at HS
        split at HS
        ·
          rename_i k len
          obtain ⟨hc, H⟩ := chk_run HS
          simp only [Bool.and_eq_true, decide_eq_true_eq] at hc
          simp only [lenC, Bool.false_eq_true, if_false, Option.some.injEq] at hn; subst hn
          obtain ⟨p, cap, e1, ⟨hcap, _⟩, hk, hf⟩ := hx
          unfold rowsOf at H
          obtain ⟨r, l', hr, H⟩ := rd_run H
          have main : ∀ {rows : List (List PI.C)} {l' : List Nat}, rowsAt (rt k) = some rows → (RM.chk (decide (rows.length = len) && uni inf.size rows) (retC (.view k ll (hh - ll) len))).run call rt = some (v, u, l') → Did P X rt w R γ a op v u := by
            intro rows l' hra H
            obtain ⟨hq, H⟩ := chk_run H
            obtain ⟨rfl, rfl⟩ := retC_run H
            simp only [Bool.and_eq_true, decide_eq_true_eq] at hq
            obtain ⟨q1, q2⟩ := hq
            refine Did.val M (mach e1 hcap hc.1 hc.2) ⟨_, _, rfl, by omega, by omega, hk, fun rows' hr' => ?_⟩
            rw [hra] at hr'; injection hr' with hr'; subst hr'
            refine ⟨Nat.le_of_eq q1.symm, fun _ hpos => ?_⟩
            have hne : rows ≠ [] := by intro h; rw [h] at q1; simp at q1; omega
            obtain ⟨b, sz, g1, g2⟩ := row_at M hra hne
            obtain ⟨g3, _⟩ := (hf _ hra).2 q1.symm
            have gsz : sz = inf.size := by
              obtain ⟨el, hel⟩ := List.exists_mem_of_ne_nil rows hne
              have := g2 el hel
              simp only [uni, List.all_eq_true, beq_iff_eq] at q2
              rw [← this, q2 el hel]
            subst gsz
            exact ⟨_, spot (b := b) (o := 0) (fun _ => by rw [g3, g1]) hcap hc.2 hpos, b, inf.size, g2, g1, by simp⟩
          split at H
          · exact main (by rw [hr]; rfl) H
          · exact main (by rw [hr]; rfl) H
          · exact (fail_run H).elim
        ·
          rename_i k off len tot
          obtain ⟨hc, H⟩ := chk_run HS
          simp only [Bool.and_eq_true, decide_eq_true_eq] at hc
          simp only [lenC, Bool.false_eq_true, if_false, Option.some.injEq] at hn; subst hn
          obtain ⟨p, cap, e1, hcap, hot, hk, hf⟩ := hx
          unfold rowsOf at H
          obtain ⟨r, l', hr, H⟩ := rd_run H
          have main : ∀ {rows : List (List PI.C)} {l' : List Nat}, rowsAt (rt k) = some rows → (RM.chk (decide (rows.length = tot) && uni inf.size rows) (retC (.view k (off + ll) (hh - ll) tot))).run call rt = some (v, u, l') → Did P X rt w R γ a op v u := by
            intro rows l' hra H
            obtain ⟨hq, H⟩ := chk_run H
            obtain ⟨rfl, rfl⟩ := retC_run H
            simp only [Bool.and_eq_true, decide_eq_true_eq] at hq
            obtain ⟨q1, q2⟩ := hq
            refine Did.val M (mach e1 hcap hc.1 hc.2) ⟨_, _, rfl, by omega, by omega, hk, fun rows' hr' => ?_⟩
            rw [hra] at hr'; injection hr' with hr'; subst hr'
            refine ⟨Nat.le_of_eq q1.symm, fun _ hpos => ?_⟩
            have hne : rows ≠ [] := by intro h; rw [h] at q1; simp at q1; omega
            obtain ⟨ad, g3, b, sz, g2, g1, g4⟩ := (hf _ hra).2 q1.symm (by omega)
            have gsz : sz = inf.size := by
              obtain ⟨el, hel⟩ := List.exists_mem_of_ne_nil rows hne
              have := g2 el hel
              simp only [uni, List.all_eq_true, beq_iff_eq] at q2
              rw [← this, q2 el hel]
            subst gsz
            exact ⟨_, spot (b := b) (o := off * inf.size) (fun _ => by rw [g3, g4]; rfl) hcap hc.2 hpos, b, inf.size, g2, g1, by rw [Nat.add_mul]; rfl⟩
          split at H
          · exact main (by rw [hr]; rfl) H
          · exact main (by rw [hr]; rfl) H
          · exact (fail_run H).elim
        ·
          rename_i rows
          obtain ⟨hc, H⟩ := chk_run HS
          obtain ⟨rfl, rfl⟩ := retC_run H
          simp only [Bool.and_eq_true, decide_eq_true_eq] at hc
          simp only [lenC, Bool.false_eq_true, if_false, Option.some.injEq] at hn; subst hn
          obtain ⟨p, cap, e1, hcap⟩ := slice_len hx (n := rows.length) rfl
          refine Did.val M (mach e1 hcap hc.1.1 hc.1.2) ?_
          rw [e1] at hx
          have hr : Ro (hp w) R [_] [_] := hx
          have hlen : (cut ll (hh - ll) rows).length = hh - ll := by simp [cut]; omega
          by_cases hpos : 0 < hh - ll
          · obtain ⟨_, _, h | ⟨b, off, arr, elem, fr, sz, h1, h2, h3, h4, h5, h6, h7⟩⟩ := hr.row_inv (.inr rfl)
            · subst h; simp at hlen hc; omega
            · have gsz : sz = inf.size := by
                obtain ⟨el, hel⟩ := List.exists_mem_of_ne_nil rows h1
                have := h5 el hel
                have q2 := hc.2
                simp only [uni, List.all_eq_true, beq_iff_eq] at q2
                rw [← this, q2 el hel]
              subst gsz
              rw [spot (b := b) (o := off) (fun _ => h2) hcap hc.1.2 hpos]
              have hle : ll * inf.size + (hh - ll) * inf.size ≤ rows.length * inf.size := by
                rw [← Nat.add_mul]; exact Nat.mul_le_mul_right _ (by omega)
              have hu : ∀ el ∈ cut ll (hh - ll) rows, el.length = inf.size := fun el k => h5 el (List.mem_of_mem_drop (List.mem_of_mem_take k))
              suffices z : Ro (hp w) R [.rsl (cut ll (hh - ll) rows)] [.slice (some ⟨b, off + ll * inf.size, none⟩) (cut ll (hh - ll) rows).length (cap - ll)] by
                rw [hlen] at z; exact z
              refine Ro.row (.inr rfl) (by intro h; rw [h] at hlen; simp at hlen; omega) h3 h4 hu (by rw [hlen]; omega) (by rw [hlen]; omega) ?_ .nil
              have := h7.cut (ll * inf.size) ((hh - ll) * inf.size)
              rw [cut_cut _ _ _ _ _ hle] at this
              rw [hlen]
              have e2 : cut (ll * inf.size) ((hh - ll) * inf.size) rows.flatten = (cut ll (hh - ll) rows).flatten := by
                have e3 : rows = rows.take ll ++ (cut ll (hh - ll) rows ++ (rows.drop ll).drop (hh - ll)) := by
                  unfold cut; rw [List.take_append_drop, List.take_append_drop]
                conv => lhs; rw [e3]
                rw [List.flatten_append, List.flatten_append]
                have l1 := take_len h5 (i := ll) (by omega)
                have l2 : (cut ll (hh - ll) rows).flatten.length = (hh - ll) * inf.size := by rw [flatten_len hu, hlen]
                unfold cut at l2 ⊢
                rw [List.drop_append, l1, List.drop_eq_nil_of_le (by omega), Nat.sub_self, List.drop_zero, List.nil_append, List.take_append_of_le_length (by omega), List.take_of_length_le (by omega)]
              rw [e2] at this
              exact this
          · have h0 : hh - ll = 0 := by omega
            have : cut ll (hh - ll) rows = [] := by rw [h0]; simp [cut]
            show Ro (hp w) R [.rsl (cut ll (hh - ll) rows)] [_]
            rw [this, h0]
            exact Ro.e (.inr rfl) .nil
        · simp [lenC] at hn
        · exact (fail_run HS).elim
      · cases C4
    · simp only [if_true] at C4
      obtain ⟨D, hD, hk⟩ := descIs_some C4
      have hk : D = .string := by cases D <;> simp_all [isStrD]
      subst hk
      unfold lenC at hn
      split at hn <;> simp only [if_true, reduceCtorEq, Option.some.injEq] at hn
      subst hn
      obtain ⟨hc, H⟩ := chk_run HS
      obtain ⟨rfl, rfl⟩ := retC_run H
      simp only [Bool.and_eq_true, decide_eq_true_eq] at hc
      refine Did.val M ?_ VR_mkStr
      simp [execOp, ho, VR_str hx, Instr.sliceAt, Instr.slice, run_underlying hD, run_bounds hb' hb hc.1 hc.2]
  · exact (fail_run H).elim
theorem eqCs_run {bs : List Field} : ∀ {n : Nat} {ps qs : List PI.C} {r : Bool} {xs ys : Array Value}, flatOk P n bs = true → eqCs (ps.drop n) (qs.drop n) = some r → ps.length = n + bs.length → qs.length = n + bs.length →
    Pw (Leaf (hp w) R rt γ) ps xs.toList → Pw (Leaf (hp w) R rt γ) qs ys.toList → ∀ k, (Op.eqFields (k + 1) xs ys bs).run P w = .ok r w := by
  induction bs with
  | nil =>
    intro n ps qs r xs ys _ hr hl hq _ _ k
    rw [List.drop_eq_nil_of_le (by simpa using Nat.le_of_eq hl), List.drop_eq_nil_of_le (by simpa using Nat.le_of_eq hq)] at hr
    simp only [eqCs, Option.some.injEq] at hr; subst hr
    simp [Op.eqFields]
  | cons f bs ih =>
    intro n ps qs r xs ys hf hr hl hq px py k
    simp only [flatOk, Bool.and_eq_true, bne_iff_ne, ne_eq, beq_iff_eq] at hf
    obtain ⟨⟨f1, f2⟩, f3, f4⟩ := hf
    simp only [List.length_cons] at hl hq
    obtain ⟨p, hp'⟩ : ∃ p, ps[n]? = some p := ⟨_, List.getElem?_eq_getElem (by omega)⟩
    obtain ⟨q, hq'⟩ : ∃ q, qs[n]? = some q := ⟨_, List.getElem?_eq_getElem (by omega)⟩
    obtain ⟨x, hx, lx⟩ := px.at hp'
    obtain ⟨y, hy, ly⟩ := py.at hq'
    have e1 : ps.drop n = p :: ps.drop (n + 1) := by
      have := lt_of_at hp'
      rw [List.drop_eq_getElem_cons this]; congr 1
      rw [List.getElem?_eq_getElem this] at hp'; injection hp'
    have e2 : qs.drop n = q :: qs.drop (n + 1) := by
      have := lt_of_at hq'
      rw [List.drop_eq_getElem_cons this]; congr 1
      rw [List.getElem?_eq_getElem this] at hq'; injection hq'
    rw [e1, e2] at hr
    simp only [eqCs] at hr
    split at hr
    · rename_i b c hb hc
      simp only [Option.some.injEq] at hr; subst hr
      have ih' := ih f4 hc (by omega) (by omega) px py k
      obtain ⟨D, hD, hk⟩ := descIs_some f3
      have hagg : aggOf D = false := by cases D <;> simp_all [aggOf]
      have hx' : xs[f.offset]? = some x := by rw [f2]; simpa using hx
      have hy' : ys[f.offset]? = some y := by rw [f2]; simpa using hy
      have p1 : (part f.type xs f.offset).run P w = .ok x w := by simp [part, run_isAgg hD, hagg, hx']
      have p2 : (part f.type ys f.offset).run P w = .ok y w := by simp [part, run_isAgg hD, hagg, hy']
      have p3 : (Op.equalIn (k + 1) f.type x y).run P w = .ok b w := by
        unfold eqC at hb
        split at hb
        · split at hb
          · rename_i h0; subst h0
            simp only [Option.some.injEq] at hb; subst hb
            rw [VR_int (h := PI.hp w) (R := R) (rt := rt) (γ := γ) lx, VR_int (h := PI.hp w) (R := R) (rt := rt) (γ := γ) ly]
            cases D <;> simp only [Bool.false_eq_true] at hk
            exact run_equalIn_int w k f.type _ _ _ _ hD
          · cases hb
        · cases hb
      simp only [Op.eqFields, ne_eq, f1, not_false_eq_true, if_true, Sem.run_bind, p1, p2, p3, Result.andThen_ok]
      cases b <;> simp [ih']
    · cases hr
theorem eqCs_len : ∀ {ps qs : List PI.C} {r : Bool}, eqCs ps qs = some r → ps.length = qs.length
  | [], [], _, _ => rfl
  | [], _ :: _, _, h => by simp [eqCs] at h
  | _ :: _, [], _, h => by simp [eqCs] at h
  | _ :: ps, _ :: qs, _, h => by
    simp only [eqCs] at h
    split at h
    · rename_i h2; simp [eqCs_len h2]
    · cases h
theorem op_eqa (M : Mem X rt w R γ) (E : EnvR (hp w) R rt γ env a.tmps) {neg : Bool} {n : Nat} {y z : Opd} (C : chkOp P op.op (.eqa neg n y z) = true) (H : ((POp.eqa neg n y z).rm cfg d env).run call rt = some (v, u, l)) : Did P X rt w R γ a op v u := by
  obtain ⟨v', hv, H⟩ := opd_run H
  cases ho : op.op <;> simp only [ho, chkOp, Bool.false_eq_true, Bool.and_eq_true, decide_eq_true_eq] at C
  rename_i bop t x y' t'
  obtain ⟨rfl, C1, C2, C3, C4, C5⟩ := C
  have C4 : P.stoodInHeld t = false := by simpa using C4
  have C5 : P.eqGuardType P.depth t = false := by simpa using C5
  split at C3
  · rename_i fs hf
    simp only [Bool.and_eq_true, beq_iff_eq] at C3
    obtain ⟨C3, rfl⟩ := C3
    have hs := fieldsOf_some hf
    have hfo : P.fieldsOf t = fs.toArray := by simp [Program.fieldsOf, hs]
    have ht : P.underlying t = some (.struct (P.fieldsOf t)) := by rw [hfo]; exact hs
    have hx := opd_eval E C1 hv
    split at H
    · rename_i ps
      obtain ⟨v'', hv', H⟩ := opd_run H
      have hy := opd_eval E C2 hv'
      split at H
      · rename_i qs
        obtain ⟨r, hr, H⟩ := optRM_run H
        obtain ⟨rfl, rfl⟩ := retC_run H
        split at hr
        · rename_i hl
          obtain ⟨xs, ex, px⟩ := hx
          obtain ⟨ys, ey, py⟩ := hy
          have hl2 := eqCs_len hr
          have key := eqCs_run (P := P) (w := w) (n := 0) (r := r) C3 hr (by simpa using hl) (by rw [← hl2]; simpa using hl) px py 9998
          have key2 : (Op.equalIn 10000 t (.agg xs) (.agg ys)).run P w = .ok r w := by
            rw [show (10000 : Nat) = 9999 + 1 from rfl, run_equalIn_struct w 9999 t xs ys ht C4, hfo]
            exact key
          cases neg
          · refine Did.val M ?_ VR_mkBool
            simp only [execOp, ho, ex, ey, Bool.false_eq_true, if_false, Sem.run_bind, run_eqGuard_agg w _ t x y' xs ys C5, run_eql_struct, key2, Result.andThen_ok]
            rfl
          · refine Did.val M ?_ VR_mkBool
            simp only [execOp, ho, ex, ey, if_true, Sem.run_bind, run_eqGuard_agg w _ t x y' xs ys C5, run_neq_struct, key2, Result.andThen_ok]
            rfl
        · cases hr
      · exact (fail_run H).elim
    · exact (fail_run H).elim
  · cases C3
end
end Go.Proofs.Ytdgamfanffnhaaa.PI
