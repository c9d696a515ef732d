/-
  What PI's operations that touch no root say of the machine's, further: lengths, the least and the greatest, indices. No condition.
-/
import Derived.Test.YtdgamfanffnhaaaPkOpsA2
set_option linter.unusedVariables false
set_option linter.unusedSimpArgs false
namespace Go.Proofs.Ytdgamfanffnhaaa.PI
open Go
section
variable {P : Program} {X : Ctx} {rt : Rt} {w : World} {R : Nat → Prop} {γ : Gm} {env : List (Nat × V)} {a : Act} {op : Oper} {call : Nat → List V → Option Res} {cfg : Cfg} {d : Nat} {v : V} {u : Ups} {l : List Nat}
theorem opdsOk_pw {ys : List Opd} {xs : List Operand} (H : opdsOk ys xs = true) : Pw (fun y x => opdOk y x = true) ys xs := by
  induction ys generalizing xs with
  | nil => cases xs with
    | nil => exact .nil
    | cons => simp [opdsOk] at H
  | cons y ys ih => cases xs with
    | nil => simp [opdsOk] at H
    | cons x xs => simp only [opdsOk, Bool.and_eq_true] at H; exact .cons H.1 (ih H.2)
theorem opds_eval {h : Hp} {R : Nat → Prop} (E : EnvR h R rt γ env a.tmps) {ys : List Opd} {xs : List Operand} (H : Pw (fun y x => opdOk y x = true) ys xs) {vs : List V} (hv : Pw (fun (y : Opd) v => y.val env = some v) ys vs) :
    Pw (VR h R rt γ) vs (xs.map a.eval) := by
  induction H generalizing vs with
  | nil => cases hv; exact .nil
  | cons x _ ih => cases hv with
    | cons y t => exact .cons (opd_eval E x y) (ih t)
theorem arr_one {α : Type} {xs : Array α} {x : α} (h : xs.toList = [x]) : xs = #[x] := by
  apply Array.ext'; simpa using h
theorem arr_two {α : Type} {xs : Array α} {x y : α} (h : xs.toList = [x, y]) : xs = #[x, y] := by
  apply Array.ext'; simpa using h
theorem slice_len {h : Hp} {R : Nat → Prop} {c : PI.C} {x : Value} {n : Nat} (H : VR h R rt γ (.one c) x) (hn : lenC false c = some n) : ∃ p cap, x = .slice p n cap ∧ n ≤ cap := by
  unfold lenC at hn
  split at hn <;> simp only [Bool.false_eq_true, if_false, reduceCtorEq, Option.some.injEq] at hn <;> subst hn
  · exact ⟨none, 0, VR_nil H, Nat.le_refl _⟩
  · obtain ⟨p, cap, e, ⟨h1, _⟩, _⟩ := H; exact ⟨p, cap, e, h1⟩
  · obtain ⟨p, cap, e, h1, _⟩ := H; exact ⟨p, cap, e, h1⟩
  · obtain ⟨p, cap, e, h1, _⟩ := H; exact ⟨p, cap, e, h1⟩
  · have hr : Ro h R [_] [_] := H
    cases hr with
    | sc s _ => exact s.elim
    | e s _ => rcases s with s | s <;> cases s; exact ⟨_, _, rfl, Nat.zero_le _⟩
    | row s _ _ _ _ _ hc => rcases s with s | s <;> cases s; exact ⟨_, _, rfl, hc⟩
  · have hr : Ro h R [_] [_] := H
    cases hr with
    | sc s _ => obtain ⟨ad, cap, rfl, _⟩ := s; exact ⟨_, _, rfl, Nat.zero_le _⟩
    | e s _ => rcases s with s | s <;> cases s
    | row s => rcases s with s | s <;> cases s
theorem op_len (M : Mem X rt w R γ) (E : EnvR (hp w) R rt γ env a.tmps) {str : Bool} {y : Opd} (C : chkOp P op.op (.len str y) = true) (H : ((POp.len str y).rm cfg d env).run call rt = some (v, u, l)) : Did P X rt w R γ a op v u := by
  obtain ⟨v', hv, H⟩ := opd_run H
  cases ho : op.op <;> simp only [ho, chkOp, Bool.false_eq_true] at C
  rename_i c
  obtain ⟨cal, xs, ts⟩ := c
  cases cal <;> simp only [Bool.false_eq_true, Bool.and_eq_true, decide_eq_true_eq] at C
  obtain ⟨rfl, C1, C2⟩ := C
  split at C2
  · rename_i t ts' hts
    generalize hxs : xs.toList = zs at C1
    cases opdsOk_pw C1 with
    | @cons _ x _ xs' hx hr =>
      cases hr
      have hxs := arr_one hxs
      subst hxs
      have ht : ts[0]? = some t := by rw [← Array.getElem?_toList, hts]; rfl
      have hr := opd_eval E hx hv
      split at H
      · obtain ⟨n, hn, H⟩ := optRM_run H
        obtain ⟨rfl, rfl⟩ := retC_run H
        cases str
        · obtain ⟨D, hD, hk⟩ := descIs_some C2
          obtain ⟨e, rfl⟩ : ∃ e, D = .slice e := by cases D <;> simp_all [isSliceD]
          obtain ⟨p, cap, hs, _⟩ := slice_len hr hn
          exact Did.val M (by simp [execOp, ho, resolve, invoke, builtin, Builtin.len_, ht, run_underlying hD, hs, goInt] <;> rfl) VR_mkInt
        · obtain ⟨D, hD, hk⟩ := descIs_some C2
          have hk : D = .string := by cases D <;> simp_all [isStrD]
          subst hk
          unfold lenC at hn
          split at hn <;> simp only [if_true, reduceCtorEq, Option.some.injEq] at hn
          subst hn
          exact Did.val M (by simp [execOp, ho, resolve, invoke, builtin, Builtin.len_, ht, run_underlying hD, VR_str hr, goInt] <;> rfl) VR_mkInt
      · exact (fail_run H).elim
  · cases C2
theorem fold_run {h : Hp} {R : Nat → Prop} {f : PI.C → PI.C → Option PI.C} {g : Value → Value → Sem Value} (hf : ∀ p q r x y, f p q = some r → VR h R rt γ (.one p) x → VR h R rt γ (.one q) y → ∃ z, (g x y).run P w = .ok z w ∧ VR h R rt γ (.one r) z) :
    ∀ {vs : List V} {xs : List Value} {c c' : PI.C} {x : Value}, foldC f c vs = some c' → VR h R rt γ (.one c) x → Pw (VR h R rt γ) vs xs → ∃ z, (xs.foldlM g x).run P w = .ok z w ∧ VR h R rt γ (.one c') z
  | [], xs, c, c', x, H, hx, hp => by
    simp only [foldC, Option.some.injEq] at H; subst H
    cases hp
    exact ⟨x, rfl, hx⟩
  | v :: vs, xs, c, c', x, H, hx, hp => by
    cases hp with
    | cons hy ht =>
      unfold foldC at H
      split at H
      · rename_i h1; cases h1
      · rename_i p q qs h1
        injection h1 with e1 e2; subst e1; subst e2
        split at H
        · rename_i r hr
          obtain ⟨z, hz, hv⟩ := hf _ _ _ _ _ hr hx hy
          obtain ⟨z', hz', hv'⟩ := fold_run hf H hv ht
          exact ⟨z', by simp [List.foldlM_cons, hz, hz'], hv'⟩
        · cases H
      · cases H
theorem op_mn (M : Mem X rt w R γ) (E : EnvR (hp w) R rt γ env a.tmps) {ys : List Opd} (C : chkOp P op.op (.mn ys) = true) (H : ((POp.mn ys).rm cfg d env).run call rt = some (v, u, l)) : Did P X rt w R γ a op v u := by
  obtain ⟨vs, hv, H⟩ := opds_run H
  cases ho : op.op <;> simp only [ho, chkOp, Bool.false_eq_true] at C
  rename_i c
  obtain ⟨cal, xs, ts⟩ := c
  cases cal <;> simp only [Bool.false_eq_true, Bool.and_eq_true, decide_eq_true_eq] at C
  obtain ⟨rfl, C1⟩ := C
  have pw := opds_eval (a := a) E (opdsOk_pw C1) hv
  split at H
  · rename_i c vs'
    obtain ⟨c', hc, H⟩ := optRM_run H
    obtain ⟨rfl, rfl⟩ := retC_run H
    generalize hl : xs.toList.map a.eval = zs at pw
    cases pw with
    | @cons _ z _ zs hz ht =>
      obtain ⟨x', hx', hvr⟩ := fold_run (P := P) (w := w) (g := Builtin.min2) (fun p q r x y hm hx hy => by
        unfold minC at hm
        split at hm
        · split at hm
          · rename_i hk; subst hk
            simp only [Option.some.injEq] at hm; subst hm
            rw [VR_int hx, VR_int hy]
            exact ⟨_, rfl, VR_mkInt⟩
          · cases hm
        · cases hm) hc hz ht
      have hxs : (xs.map a.eval).toList = z :: zs := by simpa using hl
      refine Did.val M (x := x') ?_ hvr
      simp [execOp, ho, resolve, invoke, builtin, Builtin.min_, hl, hx']
  · exact (fail_run H).elim
theorem op_mx (M : Mem X rt w R γ) (E : EnvR (hp w) R rt γ env a.tmps) {ys : List Opd} (C : chkOp P op.op (.mx ys) = true) (H : ((POp.mx ys).rm cfg d env).run call rt = some (v, u, l)) : Did P X rt w R γ a op v u := by
  obtain ⟨vs, hv, H⟩ := opds_run H
  cases ho : op.op <;> simp only [ho, chkOp, Bool.false_eq_true] at C
  rename_i c
  obtain ⟨cal, xs, ts⟩ := c
  cases cal <;> simp only [Bool.false_eq_true, Bool.and_eq_true, decide_eq_true_eq] at C
  obtain ⟨rfl, C1⟩ := C
  have pw := opds_eval (a := a) E (opdsOk_pw C1) hv
  split at H
  · rename_i c vs'
    obtain ⟨c', hc, H⟩ := optRM_run H
    obtain ⟨rfl, rfl⟩ := retC_run H
    generalize hl : xs.toList.map a.eval = zs at pw
    cases pw with
    | @cons _ z _ zs hz ht =>
      obtain ⟨x', hx', hvr⟩ := fold_run (P := P) (w := w) (g := Builtin.max2) (fun p q r x y hm hx hy => by
        unfold maxC at hm
        split at hm
        · split at hm
          · rename_i hk; subst hk
            simp only [Option.some.injEq] at hm; subst hm
            rw [VR_int hx, VR_int hy]
            exact ⟨_, rfl, VR_mkInt⟩
          · cases hm
        · cases hm) hc hz ht
      have hxs : (xs.map a.eval).toList = z :: zs := by simpa using hl
      refine Did.val M (x := x') ?_ hvr
      simp [execOp, ho, resolve, invoke, builtin, Builtin.max_, hl, hx']
  · exact (fail_run H).elim
theorem eff_len (rows : List (List PI.C)) (foc : Option (Nat × List PI.C)) : (eff rows foc).length = rows.length := by
  unfold eff; split <;> simp
theorem elAt_run {rows : List (List PI.C)} {foc : Option (Nat × List PI.C)} {i : Nat} {K : List PI.C → List (List PI.C) → RM} {res : V × Ups × List Nat} (H : (elAt rows foc i K).run call rt = some res) (hf : ∀ j el, foc = some (j, el) → j < rows.length) :
    ∃ el base, (eff rows foc)[i]? = some el ∧ (∀ new, base.set i new = (eff rows foc).set i new) ∧ base.length = rows.length ∧ (K el base).run call rt = some res := by
  unfold elAt at H
  split at H
  · obtain ⟨el, he, H⟩ := el_run H
    exact ⟨el, rows, he, fun _ => rfl, rfl, H⟩
  · rename_i j x
    rcases br_run H with ⟨hb, H⟩ | ⟨hb, H⟩
    · have hb := of_decide_eq_true hb
      exact ⟨x, rows, by simp [eff, hb, hf j x rfl], fun new => by simp [eff, hb], rfl, H⟩
    · obtain ⟨el, he, H⟩ := el_run H
      exact ⟨el, rows.set j x, he, fun _ => rfl, by simp, H⟩
theorem isRow.eq {c : PI.C} {p q : List (List PI.C)} (h : isRow c p) (k : isRow c q) : p = q := by
  rcases h with rfl | rfl <;> rcases k with k | k <;> cases k <;> rfl
theorem Ro.row_inv {h : Hp} {R : Nat → Prop} {c : PI.C} {rows : List (List PI.C)} {p : Option Addr} {n cap : Nat} (H : Ro h R [c] [.slice p n cap]) (hc : isRow c rows) : n = rows.length ∧ n ≤ cap ∧ (rows = [] ∨
    ∃ b off arr elem fr sz, rows ≠ [] ∧ p = some ⟨b, off, none⟩ ∧ R b ∧ h b = some (.cells arr elem fr) ∧ (∀ el ∈ rows, el.length = sz) ∧ off + rows.length * sz ≤ arr.size ∧
      Ro h R rows.flatten (PI.cut off (rows.length * sz) arr.toList)) := by
  generalize hv : Value.slice p n cap = v at H
  cases H with
  | sc s _ => rcases hc with rfl | rfl <;> exact s.elim
  | e s _ => have := hc.eq s; subst this; injection hv with _ h2 _; subst h2; exact ⟨rfl, Nat.zero_le _, .inl rfl⟩
  | row s h1 h2 h3 h4 h5 h6 h7 _ =>
    have := hc.eq s; subst this
    injection hv with e1 e2 e3; subst e1; subst e2; subst e3
    exact ⟨rfl, h6, .inr ⟨_, _, _, _, _, _, h1, rfl, h2, h3, h4, h5, h7⟩⟩
  | ptr => cases hv
theorem row_at (M : Mem X rt w R γ) {k : Nat} {rows : List (List PI.C)} (hr : rowsAt (rt k) = some rows) (hne : rows ≠ []) : ∃ b sz, (γ k).addr = some ⟨b, 0, none⟩ ∧ ∀ el ∈ rows, el.length = sz := by
  cases e : rt k with
  | none => simp [e, rowsAt] at hr
  | some r =>
    have hR := M.root k r e
    rw [e] at hr
    cases r with
    | box => simp [rowsAt] at hr
    | dead => simp [rowsAt] at hr
    | row p vs rs foc =>
      simp only [rowsAt, Option.some.injEq] at hr; subst hr
      obtain ⟨_, h | ⟨b, _, _, sz, _, _, h1, _, h2, _⟩⟩ := hR.1.inv
      · exact absurd h.1 hne
      · exact ⟨b, sz, h1, h2⟩
    | frow rs =>
      simp only [rowsAt, Option.some.injEq] at hr; subst hr
      obtain ⟨h1, h2⟩ := hR
      obtain ⟨b, hb⟩ := h2 hne
      obtain ⟨_, _, h | ⟨_, _, _, _, _, sz, _, _, _, _, h3, _⟩⟩ := h1.row_inv (.inr rfl)
      · exact absurd h hne
      · exact ⟨b, sz, hb, h3⟩
theorem cut_flat {α : Type} {rows : List (List α)} {i sz : Nat} {el : List α} (hu : ∀ x ∈ rows, x.length = sz) (hi : rows[i]? = some el) : cut (i * sz) sz rows.flatten = el := by
  have hlt : i < rows.length := by
    rcases Nat.lt_or_ge i rows.length with k | k
    · exact k
    · rw [List.getElem?_eq_none k] at hi; cases hi
  rw [flatten_at hi]
  have h1 := take_len hu (Nat.le_of_lt hlt)
  have h2 : el.length = sz := hu el (List.mem_of_getElem? hi)
  unfold cut
  rw [List.drop_append, h1, List.drop_eq_nil_of_le (by omega), Nat.sub_self, List.drop_zero, List.nil_append, List.take_append_of_le_length (by omega), List.take_of_length_le (by omega)]
theorem cut_cut {α : Type} (l : List α) (o n i k : Nat) (h : i + k ≤ n) : cut i k (cut o n l) = cut (o + i) k l := by
  unfold cut
  rw [List.drop_take, List.drop_drop, List.take_take]
  congr 1; omega
theorem lt_of_at {α : Type} {l : List α} {i : Nat} {x : α} (h : l[i]? = some x) : i < l.length := by
  rcases Nat.lt_or_ge i l.length with k | k
  · exact k
  · rw [List.getElem?_eq_none k] at h; cases h
theorem op_idx (M : Mem X rt w R γ) (E : EnvR (hp w) R rt γ env a.tmps) {sz : Nat} {y z : Opd} (C : chkOp P op.op (.idx sz y z) = true) (H : ((POp.idx sz y z).rm cfg d env).run call rt = some (v, u, l)) : Did P X rt w R γ a op v u := by
  obtain ⟨v', hv, H⟩ := opd_run H
  cases ho : op.op <;> simp only [ho, chkOp, Bool.false_eq_true, Bool.and_eq_true] at C
  rename_i t x ix
  obtain ⟨C1, C2, C3⟩ := C
  split at C3
  · rename_i e he
    obtain ⟨inf, hi, rfl⟩ := sizeIs_some C3
    have ht := elemOf_some he
    split at H
    · rename_i kk n
      have hn := VR_int (opd_eval E C2 hv)
      obtain ⟨v'', hv', H⟩ := opd_run H
      have hx := opd_eval E C1 hv'
      have mach : ∀ {ad : Addr} {len cap : Nat}, a.eval x = .slice (some ad) len cap → 0 ≤ n → n < (len : Int) → (execOp a.eval op).run P w = .ok (.value (.pointer (some (ad.add (n.toNat * inf.size))))) w := by
        intro ad len cap e1 h1 h2
        simp [execOp, ho, e1, hn, Instr.indexAt, asIntOf, run_underlying ht, run_sizeOf hi, h1, h2]
      split at H
      · rename_i c
        unfold idxAt at H
        split at H
        ·
          rename_i k len
          obtain ⟨p, cap, e1, ⟨_, hs⟩, hk, hf⟩ := hx
          obtain ⟨r, l', hr, H⟩ := rd_run H
          have main : ∀ {rows : List (List PI.C)} {foc : Option (Nat × List PI.C)} {l' : List Nat}, rowsAt (rt k) = some (eff rows foc) → (∀ j el, foc = some (j, el) → j < rows.length) →
              (idxRow k inf.size len 0 n.toNat len n rows foc).run call rt = some (v, u, l') → Did P X rt w R γ a op v u := by
            intro rows foc l' hra hfo H
            obtain ⟨hc, H⟩ := chk_run H
            simp only [Bool.and_eq_true, decide_eq_true_eq] at hc
            obtain ⟨q1, q2, q3, q4⟩ := hc
            obtain ⟨el, base, he, _, _, H⟩ := elAt_run H hfo
            split at H
            · rename_i hsz
              obtain ⟨rfl, rfl⟩ := retC_run H
              have hne : eff rows foc ≠ [] := by intro h; rw [h] at he; simp at he
              obtain ⟨b, sz, hb, hu⟩ := row_at M hra hne
              have hsz2 := hu el (List.mem_of_getElem? he)
              obtain ⟨_, g2⟩ := hf _ hra
              obtain ⟨g3, _⟩ := g2 (by rw [eff_len, q1])
              rw [hb] at g3; subst g3
              refine Did.val M (mach e1 q2 q3) ⟨_, rfl, by omega, hk, fun rows' hr' => ?_⟩
              rw [hra] at hr'; injection hr' with hr'; subst hr'
              refine ⟨by rw [eff_len, q1]; exact Nat.le_refl _, fun _ => ⟨b, sz, hu, hb, ?_⟩⟩
              rw [add_none, ← hsz, hsz2]; simp
            · exact (fail_run H).elim
          split at H
          · exact main (by rw [hr]; rfl) (M.root k _ hr).2 H
          · exact main (foc := none) (by rw [hr]; rfl) (by simp) H
          · exact (fail_run H).elim
        ·
          rename_i k off len tot
          obtain ⟨p, cap, e1, _, ho2, hk, hf⟩ := hx
          obtain ⟨r, l', hr, H⟩ := rd_run H
          have main : ∀ {rows : List (List PI.C)} {foc : Option (Nat × List PI.C)} {l' : List Nat}, rowsAt (rt k) = some (eff rows foc) → (∀ j el, foc = some (j, el) → j < rows.length) →
              (idxRow k inf.size len off (off + n.toNat) tot n rows foc).run call rt = some (v, u, l') → Did P X rt w R γ a op v u := by
            intro rows foc l' hra hfo H
            obtain ⟨hc, H⟩ := chk_run H
            simp only [Bool.and_eq_true, decide_eq_true_eq] at hc
            obtain ⟨q1, q2, q3, q4⟩ := hc
            obtain ⟨el, base, he, _, _, H⟩ := elAt_run H hfo
            split at H
            · rename_i hsz
              obtain ⟨rfl, rfl⟩ := retC_run H
              obtain ⟨_, g2⟩ := hf _ hra
              obtain ⟨ad, g3, b, sz, hu, hb, g4⟩ := g2 (by rw [eff_len, q1]) (by omega)
              subst g3; subst g4
              have hsz2 := hu el (List.mem_of_getElem? he)
              refine Did.val M (mach e1 q2 q3) ⟨_, rfl, by omega, hk, fun rows' hr' => ?_⟩
              rw [hra] at hr'; injection hr' with hr'; subst hr'
              refine ⟨by rw [eff_len, q1]; exact Nat.le_refl _, fun _ => ⟨b, sz, hu, hb, ?_⟩⟩
              rw [add_none, ← hsz, hsz2, Nat.add_mul]; simp
            · exact (fail_run H).elim
          split at H
          · exact main (by rw [hr]; rfl) (M.root k _ hr).2 H
          · exact main (foc := none) (by rw [hr]; rfl) (by simp) H
          · exact (fail_run H).elim
        ·
          rename_i rows
          obtain ⟨q1, H⟩ := chk_run H
          have q1 := of_decide_eq_true q1
          obtain ⟨el, he, H⟩ := el_run H
          have hlt := lt_of_at he
          split at H
          · rename_i hsz
            obtain ⟨rfl, rfl⟩ := retC_run H
            have hr : Ro (hp w) R [_] [_] := hx
            generalize e1 : a.eval x = z at hr
            cases hr with
            | sc s _ => exact s.elim
            | e s _ => rcases s with s | s <;> cases s; simp at hlt
            | @row _ _ _ _ b arr elem fr sz off cap s h1 h2 h3 h4 h5 h6 h7 _ =>
              rcases s with s | s <;> cases s
              have hsz2 := h4 el (List.mem_of_getElem? he)
              refine Did.val M (mach e1 q1 (by omega)) ?_
              have hle : n.toNat * sz + sz ≤ rows.length * sz := by
                rw [← Nat.succ_mul]; exact Nat.mul_le_mul_right _ hlt
              rw [add_none, ← hsz, hsz2]
              refine Ro.ptr (o := off + n.toNat * sz) h2 h3 (by rw [hsz2]; omega) ?_ .nil
              have := h7.cut (n.toNat * sz) sz
              rw [cut_flat h4 he] at this
              rw [hsz2]
              have h8 := cut_cut arr.toList off (rows.length * sz) (n.toNat * sz) sz hle
              unfold cut at h8 this
              rw [h8] at this
              exact this
          · exact (fail_run H).elim
        · exact (fail_run H).elim
      · exact (fail_run H).elim
    · exact (fail_run H).elim
  · cases C3
end
end Go.Proofs.Ytdgamfanffnhaaa.PI
