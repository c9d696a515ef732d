/-
  What PI's operations that make rows say of the machine's. No condition.
-/
import Derived.Test.YtdgamfanffnhaaaPkOpsF
set_option linter.unusedVariables false
set_option linter.unusedSimpArgs false
namespace Go.Proofs.Ytdgamfanffnhaaa.PI
open Go
section
variable {P : Program} {X : Ctx} {rt : Rt} {w w' : World} {R : Nat → Prop} {γ γ' : Gm} {env : List (Nat × V)} {a : Act} {op : Oper} {call : Nat → List V → Option Res} {cfg : Cfg} {d : Nat} {v : V} {u : Ups} {l : List Nat}
theorem did_row (M : Mem X rt w R γ) {k : Nat} {vs : Nat} {rows : List (List PI.C)} {us : Ups} {g : Gk} (hmem : ∀ x ∈ us, x.2 = none ∧ ∃ vs rows foc, rt x.1 = some (.row false vs rows foc))
    (hd : distinct (((k, some (Root.row false vs rows none)) :: us).map (·.1)) = true) (al : World.alike w w')
    (heap : ∀ b, b < w.heap.size → hp w' b = hp w b ∨ ∃ r, rt k = some r ∧ Owns (γ k) b r)
    (ext : ∀ r, rt k = some r → r.par = false ∧ Ext (hp w) (hp w') (γ k) g r (.row false vs rows none))
    (own : Own (hp w') R g.own [.sl rows] [.slice g.addr rows.length g.cap])
    (sub : ∀ b, g.own b → (w.heap.size ≤ b ∧ b < w'.heap.size) ∨ (∃ r, rt k = some r ∧ Owns (γ k) b r) ∨ ∃ x ∈ us, (γ x.1).own b)
    (hex : (execOp a.eval op).run P w = .ok (.value (.slice g.addr rows.length g.cap)) w') :
    Did P X rt w R γ a op (.one (.ref k rows.length)) ((k, some (.row false vs rows none)) :: us) := by
  obtain ⟨M', E', uk⟩ := upd_row M hmem hd al heap ext own sub
  have hR : ∀ b, R b → hp w' b = hp w b := by
    intro b hb
    rcases heap b (M.rLt b hb) with h | ⟨r, h1, h2⟩
    · exact h
    · exact absurd hb (M.ownR k r b h1 h2)
  refine ⟨_, _, w', hex, .inl rfl, R, _, M', E', fun _ h => h, hR, g.addr, g.cap, rfl, ?_, by rw [uk]; rfl, fun rows' hr => ?_⟩
  · obtain ⟨_, ⟨h1, h2⟩ | ⟨b, _, _, _, _, _, h1, _, _, h2, _⟩⟩ := own.inv
    · subst h1; simp
    · exact ⟨h2, fun _ => by rw [h1]; rfl⟩
  · rw [uk] at hr
    simp only [rowsAt, eff, Option.some.injEq] at hr; subst hr
    exact ⟨Nat.le_refl _, fun _ => by rw [Gm.set_eq]; exact ⟨rfl, rfl⟩⟩
theorem did_newrow (M : Mem X rt w R γ) {rows : List (List PI.C)} {us : Ups} {arr : Array Value} {elem : TypeId} {sz cap : Nat} {p : Option Addr} (h0 : rt d = none) (hmem : ∀ x ∈ us, x.2 = none ∧ ∃ vs rows foc, rt x.1 = some (.row false vs rows foc))
    (hd : distinct (((d, some (Root.row false 0 rows none)) :: us).map (·.1)) = true) (al : World.alike w w') (hs : w'.heap.size = w.heap.size + 1) (heap : ∀ b, b < w.heap.size → hp w' b = hp w b)
    (hb : hp w' w.heap.size = some (.cells arr elem (0, 0))) (hu : ∀ el ∈ rows, el.length = sz) (hl : rows.length ≤ cap) (hz : arr.size = cap * sz) (hc : rows = [] → cap = 0) (hp0 : rows ≠ [] → p = some ⟨w.heap.size, 0, none⟩)
    (own : Own (hp w) (fun _ => False) (fun b => ∃ x ∈ us, (γ x.1).own b) rows.flatten (arr.toList.take (rows.length * sz)))
    (hex : (execOp a.eval op).run P w = .ok (.value (.slice p rows.length cap)) w') :
    Did P X rt w R γ a op (.one (.ref d rows.length)) ((d, some (.row false 0 rows none)) :: us) := by
  have lt : ∀ x ∈ us, ∀ b, (γ x.1).own b → b < w.heap.size := by
    intro x hx b hb2
    obtain ⟨_, vs2, rows2, foc2, hr2⟩ := hmem x hx
    exact M.ownLt x.1 _ b hr2 hb2
  refine did_row (g := ⟨p, cap, fun b => b = w.heap.size ∨ ∃ x ∈ us, (γ x.1).own b⟩) M hmem hd al (fun b hb2 => .inl (heap b hb2)) (fun r hr => by rw [h0] at hr; cases hr) ?_ ?_ hex
  · by_cases hne : rows = []
    · subst hne
      have := hc rfl
      subst this
      exact .e .nil
    · rw [show (Gk.mk p cap fun b => b = w.heap.size ∨ ∃ x ∈ us, (γ x.1).own b).addr = some ⟨w.heap.size, 0, none⟩ from hp0 hne]
      refine .row (B2 := fun _ => False) hne hb hu hl hz (own.mono (fun _ h => h) (fun b h => h.elim) (fun b ⟨x, hx, h⟩ => heap b (lt x hx b h)) (fun _ h => h)) .nil ?_ (fun h => h) (fun _ _ h => h) (.inl rfl) (fun _ h => .inr h) (fun _ h => h.elim)
      rintro ⟨x, hx, h⟩
      exact absurd (lt x hx _ h) (Nat.lt_irrefl _)
  · rintro b (rfl | h)
    · exact .inl ⟨Nat.le_refl _, by omega⟩
    · exact .inr (.inr h)
theorem made_pw {r : PI.C → Value → Prop} {zero : List PI.C} {z : Array Value} (h : Pw r zero z.toList) (n : Nat) : Pw r (List.replicate n zero).flatten (madeCells z (n * zero.length)).toList := by
  have hl := h.len
  simp only [Array.length_toList] at hl
  have hu : ∀ el ∈ List.replicate n zero, el.length = zero.length := fun el k => by rw [(List.mem_replicate.1 k).2]
  refine Pw.of ?_ fun j c x hc hx => ?_
  · rw [flatten_len hu]; simp [madeCells]
  · have hj : j < n * zero.length := by
      have := lt_of_at hx; simpa [madeCells] using this
    have hpos : 0 < zero.length := by
      rcases Nat.eq_zero_or_pos zero.length with k | k
      · rw [k] at hj; simp at hj
      · exact k
    have hi : j / zero.length < n := Nat.div_lt_of_lt_mul (by rwa [Nat.mul_comm] at hj)
    have hm := Nat.mod_lt j hpos
    have e1 : (List.replicate n zero)[j / zero.length]? = some zero := by simp [hi]
    have := flat_at hu e1 hm
    rw [Nat.mul_comm, Nat.div_add_mod, hc] at this
    obtain ⟨y, hy, hr⟩ := h.at this.symm
    have : x = y := by
      simp only [madeCells, Array.toList_map, Array.toList_range, List.getElem?_map, List.getElem?_range hj, Option.map_some, Option.some.injEq] at hx
      rw [← hx, ← hl]
      have hy' : z[j % zero.length]? = some y := by simpa using hy
      simp [Array.getElem!_eq_getD, Array.getD_eq_getD_getElem?, hy']
    exact this ▸ hr
theorem own_plain {h : Hp} {B : Nat → Prop} {cs : List PI.C} {vs : List Value} (H : Pw (fun c v => c.isSl = false ∧ Ro h R [c] [v]) cs vs) : Own h R B cs vs := by
  induction H with
  | nil => exact .nil
  | cons a _ ih => exact .ro a.1 a.2 ih
theorem constOk_notsl {c : PI.C} {x : Value} (h : constOk c x = true) : c.isSl = false := by cases c <;> first | rfl | simp [constOk] at h
theorem own_made {h : Hp} {B : Nat → Prop} {cs : List PI.C} {vs : List Value} (H : Pw (fun c v => constOk c v = true) cs vs) : Own h R B (cs.map nilSl) vs := by
  induction H with
  | nil => exact .nil
  | @cons c v cs vs a _ ih =>
    by_cases hc : c = .nil
    · subst hc
      have := constOk_sc a
      rw [show v = .slice none 0 0 from this]
      exact .e ih
    · have : nilSl c = c := by cases c <;> first | rfl | exact absurd rfl hc
      rw [List.map_cons, this]
      exact .ro (constOk_notsl a) (constOk_ro a) ih
theorem op_mk (M : Mem X rt w R γ) (E : EnvR (hp w) R rt γ env a.tmps) {zero : List PI.C} {lim : Nat} {y : Opd} (C : chkOp P op.op (.mk zero lim y) = true) (H : ((POp.mk zero lim y).rm cfg d env).run call rt = some (v, u, l)) : Did P X rt w R γ a op v u := by
  obtain ⟨v', hv, H⟩ := opd_run H
  cases ho : op.op <;> simp only [ho, chkOp, Bool.false_eq_true, Bool.and_eq_true] at C
  rename_i t le ce
  obtain ⟨C1, C2, C3⟩ := C
  split at C3
  · rename_i e he
    simp only [Bool.and_eq_true] at C3
    obtain ⟨C3, C4, C5⟩ := C3
    have ht := elemOf_some he
    obtain ⟨i, z, hi, hz, hc⟩ := zeroOk_some C3
    obtain ⟨i2, hi2, hsz⟩ := sizeIs_some C4
    rw [hi] at hi2; injection hi2 with hi2; subst hi2
    rw [hi] at C5
    simp only [Bool.and_eq_true, decide_eq_true_eq] at C5
    obtain ⟨C5, C6⟩ := C5
    split at H
    · rename_i n
      obtain ⟨hq, H⟩ := chk_run H
      simp only [Bool.and_eq_true, decide_eq_true_eq] at hq
      obtain ⟨h0, l1, H⟩ := ab_run H
      have := ret_run H; simp only [Prod.mk.injEq] at this; obtain ⟨rfl, rfl, _⟩ := this
      have hn := VR_int (opd_eval E C1 hv)
      have hn2 := VR_int (opd_eval E C2 hv)
      have hn3 : n.toNat ≤ lim := by omega
      have hb1 : n.toNat * i.bytes ≤ 140737488355328 := Nat.le_trans (Nat.mul_le_mul_right _ hn3) C5
      have hb2 : (i.bytes : Int) * n ≤ 281474976710656 := by
        have h3 : ((n.toNat * i.bytes : Nat) : Int) ≤ ((140737488355328 : Nat) : Int) := Int.ofNat_le.2 hb1
        rw [Int.natCast_mul, Int.toNat_of_nonneg hq.1, Int.mul_comm] at h3
        omega
      have hrun := run_make (P := P) w t e i z ht hi hz .i64 .i64 n n hq.1 (Int.le_refl _) hb2 (by omega)
      have hex : (execOp a.eval op).run P w = .ok (.value (.slice (some ⟨w.heap.size, 0, none⟩) n.toNat n.toNat)) (w.alloc (.cells (madeCells z.cells (n.toNat * i.size)) e)) := by
        simp only [execOp, ho, hn, hn2, Sem.run_bind, hrun, Result.andThen_ok]; rfl
      have hpw := (made_pw (constsOk_pw hc) n.toNat)
      rw [← hsz] at hpw
      refine did_newrow (w' := w.alloc (.cells (madeCells z.cells (n.toNat * i.size)) e)) (arr := madeCells z.cells (n.toNat * i.size)) (elem := e) (sz := i.size) (cap := n.toNat) (p := some ⟨w.heap.size, 0, none⟩) M h0 (by simp) (by simp [distinct]) alike_push (by show (w.heap.push _).size = _; simp) (fun b hb => hp_push_lt hb) hp_push_eq
        (fun el k => by rw [(List.mem_replicate.1 k).2, List.length_map, hsz]) (by simp) (by simp [madeCells]) (fun h => by simpa using congrArg List.length h) (fun _ => rfl) ?_ ?_
      · have : (madeCells z.cells (n.toNat * i.size)).toList.take ((List.replicate n.toNat (zero.map nilSl)).length * i.size) = (madeCells z.cells (n.toNat * i.size)).toList := by
          rw [List.take_of_length_le]; simp [madeCells]
        rw [this]
        have e : (List.replicate n.toNat (zero.map nilSl)).flatten = (List.replicate n.toNat zero).flatten.map nilSl := by
          rw [List.map_flatten, List.map_replicate]
        rw [e]
        exact own_made hpw
      · rw [hex]; simp
    · exact (fail_run H).elim
  · cases C3
theorem fill_els {h : Hp} {sz : Nat} : ∀ {ps : List (Nat × V)} {qs : List (Nat × Value)} {els els' : List (List PI.C)} {cells : Array Value}, Pw (fun (p : Nat × V) (q : Nat × Value) => q.1 = p.1 ∧ VR h R rt γ p.2 q.2) ps qs →
    setEls sz els ps = some els' → (∀ el ∈ els, el.length = sz) → Pw (Leaf h R rt γ) els.flatten cells.toList →
    ∃ cells', Instr.fill (fun i => some (i * sz, sz)) cells qs = some cells' ∧ Pw (Leaf h R rt γ) els'.flatten cells'.toList ∧ (∀ el ∈ els', el.length = sz) ∧ els'.length = els.length
  | [], qs, els, els', cells, hp, hs, hu, hc => by
    cases hp
    simp only [setEls, Option.some.injEq] at hs; subst hs
    exact ⟨cells, rfl, hc, hu, rfl⟩
  | (i, v) :: ps, qs, els, els', cells, hp, hs, hu, hc => by
    cases hp with
    | @cons _ q _ qs hq ht =>
      obtain ⟨j, x⟩ := q
      obtain ⟨h1, h2⟩ := hq
      simp only at h1 h2
      subst h1
      simp only [setEls] at hs
      split at hs
      · rename_i xs hxs
        split at hs
        · rename_i hle
          obtain ⟨e1, e2⟩ := hle
          have hpw := VR_cells h2 hxs
          have hl := hpw.len
          have hcl := hc.len
          simp only [Array.length_toList] at hl hcl
          have hb2 : j * sz + sz ≤ els.length * sz := by rw [← Nat.succ_mul]; exact Nat.mul_le_mul_right _ e2
          rw [flatten_len hu] at hcl
          have hst := fill_step x.cells cells (j * sz) (by omega)
          have hel : els[j]? = some els[j] := List.getElem?_eq_getElem e2
          have hfl : (els.set j xs).flatten = setAt els.flatten (j * sz) xs := by
            rw [flatten_set hel, flatten_at hel]
            have l1 := take_len hu (Nat.le_of_lt e2)
            have l2 := hu _ (List.getElem_mem e2)
            have e3 : ((els.take j).flatten ++ (els[j] ++ (els.drop (j + 1)).flatten)).drop (j * sz + sz) = (els.drop (j + 1)).flatten := by
              rw [← List.append_assoc, List.drop_left' (by rw [List.length_append, l1, l2])]
            unfold setAt
            rw [List.take_left' l1, e1, e3]
          obtain ⟨cells', h3, h4, h5, h6⟩ := fill_els (cells := x.cells.zipIdx.foldl (fun (cs : Array Value) (c, k) => cs.setIfInBounds (j * sz + k) c) cells) ht hs
            (fun el k => by
              rcases List.mem_or_eq_of_mem_set k with h | h
              · exact hu el h
              · rw [h, e1])
            (by rw [hst, hfl]; exact setAt_pw hc hpw)
          refine ⟨cells', ?_, h4, h5, by simpa using h6⟩
          simp only [Instr.fill]
          rw [if_neg (by simp; omega)]
          exact h3
        · cases hs
      · cases hs
theorem els_eval {h : Hp} (E : EnvR h R rt γ env a.tmps) : ∀ {ps : List (Nat × Opd)} {qs : List (Nat × Operand)} {vs : List V}, elsOk ps qs = true → Pw (fun (x : Opd) v => x.val env = some v) (ps.map (·.2)) vs →
    Pw (fun (p : Nat × V) (q : Nat × Value) => q.1 = p.1 ∧ VR h R rt γ p.2 q.2) ((ps.zip vs).map fun (p, v) => (p.1, v)) (qs.map fun (i, x) => (i, a.eval x))
  | [], [], vs, _, h2 => by simp only [List.map_nil] at h2; cases h2; exact .nil
  | [], _ :: _, _, h, _ => by simp [elsOk] at h
  | _ :: _, [], _, h, _ => by simp [elsOk] at h
  | (i, x) :: ps, (j, y) :: qs, vs, h, h2 => by
    simp only [elsOk, Bool.and_eq_true, beq_iff_eq] at h
    obtain ⟨rfl, h3, h4⟩ := h
    simp only [List.map_cons] at h2
    cases h2 with
    | cons z s => exact .cons ⟨rfl, opd_eval E h3 z⟩ (els_eval E h4 s)
theorem run_buildSlice {t e : TypeId} {i : TypeInfo} {z : Value} {m : Nat} {parts : Array (Nat × Value)} {cells : Array Value} (ht : P.underlying t = some (.slice e)) (hi : P.info? e = some i) (hz : i.zero = some z) (hbig : m * i.size ≤ 2 ^ 24)
    (h : Instr.fill (fun k => some (k * i.size, i.size)) (madeCells z.cells (m * i.size)) parts.toList = some cells) :
    (Instr.buildSlice t m parts).run P w = .ok (.slice (some ⟨w.heap.size, 0, none⟩) m m) { w with heap := w.heap.push (.cells cells e) } := by
  have hb : ¬ (m * i.size > 2 ^ 24) := by omega
  unfold Instr.buildSlice
  simp only [Sem.run_bind, run_underlying ht, Result.andThen_ok, run_sizeOf hi, hb, if_false, Sem.run_pure]
  by_cases hn : m * i.size = 0
  · have e1 : madeCells z.cells (m * i.size) = Array.map (fun x => (#[] : Array Value)[x % (#[] : Array Value).size]!) (Array.range (m * i.size)) := by
      rw [hn]; simp [madeCells, Array.range_zero']
    rw [e1] at h
    simp only [hn, if_true, Sem.run_pure, Result.andThen_ok, Sem.run_bind] at h ⊢
    rw [h]
    simp [run_new]
  · simp only [hn, if_false, Sem.run_bind, run_zero hi hz, Result.andThen_ok, Sem.run_pure]
    unfold madeCells at h
    rw [h]
    simp [run_new]
theorem lens_mem {els els' : List (List PI.C)} (hpl : Pw (fun (x y : List PI.C) => x.length = y.length) els els') {el : List PI.C} (k : el ∈ els') : ∃ x, x ∈ els ∧ x.length = el.length := by
  induction hpl with
  | nil => cases k
  | cons q _ ih =>
    rcases List.mem_cons.1 k with rfl | k
    · exact ⟨_, List.mem_cons_self .., q⟩
    · obtain ⟨x, h1, h2⟩ := ih k; exact ⟨x, List.mem_cons_of_mem _ h1, h2⟩
theorem op_bslice (M : Mem X rt w R γ) (E : EnvR (hp w) R rt γ env a.tmps) {n : Nat} {zero : List PI.C} {parts : List (Nat × Opd)} (C : chkOp P op.op (.bslice n zero parts) = true) (hd : distinct (u.map (·.1)) = true) (H : ((POp.bslice n zero parts).rm cfg d env).run call rt = some (v, u, l)) : Did P X rt w R γ a op v u := by
  obtain ⟨vs, hvs, H⟩ := opds_run H
  obtain ⟨els, hels, H⟩ := optRM_run H
  obtain ⟨els', us, l1, hA, hpl, H⟩ := absorbAll_run H
  obtain ⟨h0, l2, H⟩ := ab_run H
  have := ret_run H; simp only [Prod.mk.injEq] at this; obtain ⟨rfl, rfl, _⟩ := this
  cases ho : op.op <;> simp only [ho, chkOp, Bool.false_eq_true, Bool.and_eq_true, beq_iff_eq, decide_eq_true_eq] at C
  rename_i t m qs
  obtain ⟨rfl, C1, C2⟩ := C
  split at C2
  · rename_i e he
    simp only [Bool.and_eq_true] at C2
    obtain ⟨C2, C3, C4⟩ := C2
    have ht := elemOf_some he
    obtain ⟨i, z, hi, hz, hc⟩ := zeroOk_some C2
    obtain ⟨i2, hi2, hsz⟩ := sizeIs_some C3
    rw [hi] at hi2; injection hi2 with hi2; subst hi2
    have hu0 : ∀ el ∈ List.replicate m zero, el.length = zero.length := fun el k => by rw [(List.mem_replicate.1 k).2]
    obtain ⟨cells, h1, h2, h3, h4⟩ := fill_els (sz := zero.length) (els_eval E C4 hvs) hels hu0 ((made_pw (constsOk_pw hc) m).mono fun _ _ k => constOk_leaf (h := hp w) (R := R) (rt := rt) (γ := γ) k)
    rw [List.length_replicate] at h4
    have hlen := hpl.len
    have hu' : ∀ el ∈ els', el.length = zero.length := by
      intro el k
      obtain ⟨x, hx⟩ : ∃ x, x ∈ els ∧ x.length = el.length := by
        exact lens_mem hpl k
      rw [← hx.2]; exact h3 x hx.1
    have hcs : cells.size = m * zero.length := by
      have := h2.len; rw [flatten_len h3, h4] at this; simpa using this.symm
    have hex : (execOp a.eval op).run P w = .ok (.value (.slice (some ⟨w.heap.size, 0, none⟩) m m)) { w with heap := w.heap.push (.cells cells e) } := by
      have h1' : Instr.fill (fun k => some (k * i.size, i.size)) (madeCells z.cells (m * i.size)) (qs.map fun (i, x) => (i, a.eval x)).toList = some cells := by
        rw [hsz]; simpa using h1
      have := run_buildSlice (w := w) ht hi hz (by rw [hsz]; exact C1) h1'
      simp only [execOp, ho, Sem.run_bind, this, Result.andThen_ok]; rfl
    refine did_newrow (w' := { w with heap := w.heap.push (.cells cells e) }) (arr := cells) (elem := e) (sz := zero.length) (cap := m) (p := some ⟨w.heap.size, 0, none⟩) M h0 hA.mem hd alike_push (by simp) (fun b hb => hp_push_lt hb) hp_push_eq hu' (by omega) hcs
      (fun h => by rw [← h4, hlen, h]; rfl) (fun _ => rfl) ?_ (by rw [hex, ← hlen, h4])
    have hdu : distinct (us.map (·.1)) = true := by rw [List.map_cons, distinct_cons] at hd; exact hd.2
    have := hA.own (R' := fun _ => False) M h2 hdu
    rw [List.take_of_length_le (by rw [← hlen, h4]; simp [hcs])]
    exact this
  · cases C2
end
end Go.Proofs.Ytdgamfanffnhaaa.PI
