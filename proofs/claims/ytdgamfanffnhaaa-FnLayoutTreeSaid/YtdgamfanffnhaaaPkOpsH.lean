/-
  What PI's appends say of the machine's. No condition.
-/
import Derived.Test.YtdgamfanffnhaaaPkOpsG
set_option linter.unusedVariables false
set_option linter.unusedSimpArgs false
namespace Go.Proofs.Ytdgamfanffnhaaa.PI
open Go
section
variable {P : Program} {X : Ctx} {rt : Rt} {w w' : World} {R : Nat → Prop} {γ γ' : Gm} {env : List (Nat × V)} {a : Act} {op : Oper} {call : Nat → List V → Option Res} {cfg : Cfg} {d : Nat} {v : V} {u : Ups} {l : List Nat}
theorem run_app_room {t ty e : TypeId} {i : TypeInfo} (ht : P.underlying t = some (.slice e)) (hi : P.info? e = some i) {base p : Option Addr} {sLen sCap n cap : Nat} {news : List Value} (hneed : sLen + n ≤ sCap)
    (hf : (Builtin.firstCells i.size n (.slice p n cap)).run P w = .ok news.toArray w) (hs : ∀ ad, base = some ad → (storeCells (ad.add (sLen * i.size)) news).run P w = .ok () w') (hn : base = none → w' = w) :
    (Builtin.append_ #[t, t] ty #[.slice base sLen sCap, .slice p n cap]).run P w = .ok (.slice base (sLen + n) sCap) w' := by
  cases base with
  | none =>
    have := hn rfl; subst this
    simp [Builtin.append_, run_underlying ht, run_sizeOf hi, Builtin.lenOf, hneed, hf]
  | some ad =>
    have := hs ad rfl
    simp [Builtin.append_, run_underlying ht, run_sizeOf hi, Builtin.lenOf, hneed, hf, this]
theorem run_app_grow {t ty e : TypeId} {i : TypeInfo} {z : Value} (ht : P.underlying t = some (.slice e)) (hi : P.info? e = some i) (hz : i.zero = some z) {base p : Option Addr} {sLen sCap n cap : Nat} {olds news : List Value}
    (hg : sCap < sLen + n) (h63 : ((sLen + n : Nat) : Int) ≤ 9223372036854775807) (hfit : Builtin.nextslicecap (sLen + n) sCap * i.bytes ≤ 281474976710656)
    (hfo : (Builtin.firstCells i.size sLen (.slice base sLen sCap)).run P w.drew = .ok olds.toArray w.drew) (hf : (Builtin.firstCells i.size n (.slice p n cap)).run P w.drew = .ok news.toArray w.drew) :
    (Builtin.append_ #[t, t] ty #[.slice base sLen sCap, .slice p n cap]).run P w = .ok (.slice (some ⟨w.heap.size, 0, none⟩) (sLen + n) (grownCap w (sLen + n) sCap e))
      (w.drew.alloc (.cells (olds.toArray ++ news.toArray ++ Builtin.zeroCells z.cells (grownCap w (sLen + n) sCap e - (sLen + n))) e)) := by
  have hn : ¬ (sLen + n ≤ sCap) := by omega
  have h63' : ¬ (9223372036854775807 < ((sLen : Int) + (n : Int))) := by omega
  have h48' : ¬ (281474976710656 < Builtin.nextslicecap (sLen + n) sCap * i.bytes) := by omega
  simp [Builtin.append_, run_underlying ht, sizeOf, typeInfo, zeroValue, hi, hz, Builtin.lenOf, hn, h63', h48', Question.forced, hf, hfo, newRow, grownCap]
  congr 2
  apply Array.ext'
  simp [List.append_assoc]
theorem drew_heap (w : World) : w.drew.heap = w.heap := rfl
theorem firstCells_zero {sz n cap : Nat} {p : Option Addr} (hn : n = 0) : (Builtin.firstCells sz n (.slice p n cap)).run P w = .ok #[] w := by
  subst hn
  cases p <;> simp [Builtin.firstCells, loadCells, loadCellsFrom]
theorem firstCells_row {sz n cap b off : Nat} {arr : Array Value} {elem : TypeId} {fr : Nat × Nat} (hb : hp w b = some (.cells arr elem fr)) (hn : off + n * sz ≤ arr.size) :
    (Builtin.firstCells sz n (.slice (some ⟨b, off, none⟩) n cap)).run P w = .ok (cut off (n * sz) arr.toList).toArray w := by
  simp only [Builtin.firstCells]
  exact run_load_row hb hn
theorem hp_heap {w w2 : World} (h : w2.heap = w.heap) : hp w2 = hp w := by funext b; simp [hp, h]
theorem appSrc_run (M : Mem X rt w R γ) {y : PI.C} {x : Value} {K : List (List PI.C) → Ups → RM} (hx : VR (hp w) R rt γ (.one y) x) (H : (appSrc y K).run call rt = some (v, u, l)) :
    ∃ rows us l', (K rows us).run call rt = some (v, u, l') ∧ (∀ q ∈ us, q.2 = none ∧ ∃ vs rows foc, rt q.1 = some (.row false vs rows foc)) ∧ ∃ p cap, x = .slice p rows.length cap ∧
      ∀ sz, (∀ el ∈ rows, el.length = sz) → ∃ news : List Value, news.length = rows.length * sz ∧ (∀ w2 : World, w2.heap = w.heap → (Builtin.firstCells sz rows.length x).run P w2 = .ok news.toArray w2) ∧
        Own (hp w) (fun _ => False) (fun b => ∃ q ∈ us, (γ q.1).own b) rows.flatten news := by
  unfold appSrc at H
  split at H
  · have := VR_nil hx; subst this
    exact ⟨[], [], l, H, by simp, none, 0, rfl, fun sz _ => ⟨[], by simp, fun w2 _ => firstCells_zero rfl, .nil⟩⟩
  · rename_i rows
    obtain ⟨hs, H⟩ := chk_run H
    obtain ⟨p, cap, rfl, hcap⟩ := slice_len hx (n := rows.length) rfl
    refine ⟨rows, [], l, H, by simp, p, cap, rfl, fun sz hu => ?_⟩
    have hr : Ro (hp w) R [_] [_] := hx
    obtain ⟨_, _, h | ⟨b, off, arr, elem, fr, sz', h1, rfl, h3, h4, h5, h6, h7⟩⟩ := hr.row_inv (.inr rfl)
    · subst h
      exact ⟨[], by simp, fun w2 _ => firstCells_zero rfl, .nil⟩
    · have : sz' = sz := by
        obtain ⟨el, hel⟩ := List.exists_mem_of_ne_nil rows h1
        rw [← h5 el hel, hu el hel]
      subst this
      refine ⟨cut off (rows.length * sz') arr.toList, ?_, fun w2 h2 => firstCells_row (by rw [hp_heap h2]; exact h4) h6, own_plain ?_⟩
      · rw [← h7.len, flatten_len hu]
      · refine Pw.of h7.len fun j c z hc hz => ?_
        obtain ⟨z', hz', hro⟩ := h7.pw.at hc
        rw [hz] at hz'; injection hz' with hz'; subst hz'
        suffices hsc : c.scalar = true by
          refine ⟨by cases c <;> simp_all [C.scalar, C.isSl], .sc (hro.sc_inv ?_ ?_) .nil⟩
          · cases c <;> simp_all [isRow, C.scalar]
          · cases c <;> simp_all [C.scalar]
        obtain ⟨el, hel, hcel⟩ := List.mem_flatten.1 (List.mem_of_getElem? hc)
        exact List.all_eq_true.1 (List.all_eq_true.1 hs el hel) c hcel
  · rename_i k len
    obtain ⟨r, l1, hr, H⟩ := rd_run H
    split at H
    · rename_i vs rows foc
      obtain ⟨hq, H⟩ := chk_run H
      have hq := of_decide_eq_true hq
      obtain ⟨p, cap, rfl, _, _, hf⟩ := hx
      obtain ⟨e1, e2⟩ := (hf (eff rows foc) (by rw [hr]; rfl)).2 (by rw [eff_len, hq])
      subst e1; subst e2
      have hlen : (eff rows foc).length = len := by rw [eff_len, hq]
      refine ⟨eff rows foc, _, l1, H, by simpa using ⟨vs, rows, foc, hr⟩, (γ k).addr, (γ k).cap, by rw [hlen], fun sz hu => ?_⟩
      obtain ⟨_, ⟨h, _⟩ | ⟨b, arr, elem, sz', B1, h1, h2, h3, h4, h5, h6, h7, _, h8, h9⟩⟩ := (M.root k _ hr).1.inv
      · rw [h] at hlen ⊢
        simp only [List.length_nil] at hlen; subst hlen
        exact ⟨[], by simp, fun w2 _ => firstCells_zero rfl, .nil⟩
      · have : sz' = sz := by
          obtain ⟨el, hel⟩ := List.exists_mem_of_ne_nil _ h1
          rw [← h4 el hel, hu el hel]
        subst this
        have hle : len * sz' ≤ arr.size := by rw [h6, ← hlen]; exact Nat.mul_le_mul_right _ h5
        refine ⟨arr.toList.take ((eff rows foc).length * sz'), by rw [← h7.len, flatten_len hu], fun w2 hw => ?_, h7.wide fun b hb => ⟨_, List.mem_cons_self .., h9 b hb⟩⟩
        rw [hlen, h2]
        have := firstCells_row (P := P) (w := w2) (sz := sz') (n := len) (cap := (γ k).cap) (off := 0) (by rw [hp_heap hw]; exact h3) (by omega)
        simpa [cut] using this
    · exact (fail_run H).elim
  · obtain ⟨p, cap, rfl, _⟩ := slice_len hx (n := 0) rfl
    exact ⟨[], [], l, H, by simp, p, cap, rfl, fun sz _ => ⟨[], by simp, fun w2 _ => firstCells_zero rfl, .nil⟩⟩
  · exact (fail_run H).elim
theorem size_zeroCells (z : Array Value) (n : Nat) : (Builtin.zeroCells z n).size = n * z.size := by simp [Builtin.zeroCells]
theorem alike_drew_alloc {o : Obj} : World.alike w (w.drew.alloc o) := ⟨rfl, rfl, rfl, by show w.heap.size ≤ (w.heap.push o).size; simp⟩
theorem size_drew_alloc {o : Obj} : (w.drew.alloc o).heap.size = w.heap.size + 1 := by show (w.heap.push o).size = _; simp
theorem hp_drew_alloc {o : Obj} {b : Nat} (hb : b < w.heap.size) : hp (w.drew.alloc o) b = hp w b := hp_push_lt hb
theorem hp_drew_alloc_eq {o : Obj} : hp (w.drew.alloc o) w.heap.size = some o := hp_push_eq
theorem uni_all {sz : Nat} {rows : List (List PI.C)} (h : uni sz rows = true) : ∀ el ∈ rows, el.length = sz := by
  intro el k
  have := List.all_eq_true.1 h el k
  simpa using this
theorem app_ref (M : Mem X rt w R γ) {t e : TypeId} {i : TypeInfo} {z : Value} {k len vs lim cap : Nat} {old rows : List (List PI.C)} {foc : Option (Nat × List PI.C)} {us : Ups} {s x : Value} {p : Option Addr} {news : List Value}
    (ht : P.underlying t = some (.slice e)) (hi : P.info? e = some i) (hz : i.zero = some z) (hzs : z.cells.size = i.size) (hr : rt k = some (.row false vs old foc)) (hq : old.length = len) (hs : VR (hp w) R rt γ (.one (.ref k len)) s)
    (hx : x = .slice p rows.length cap) (hmem : ∀ q ∈ us, q.2 = none ∧ ∃ vs rows foc, rt q.1 = some (.row false vs rows foc)) (hnl : news.length = rows.length * i.size)
    (hfc : ∀ w2 : World, w2.heap = w.heap → (Builtin.firstCells i.size rows.length x).run P w2 = .ok news.toArray w2) (hown : Own (hp w) (fun _ => False) (fun b => ∃ q ∈ us, (γ q.1).own b) rows.flatten news)
    (hu : ∀ el ∈ rows, el.length = i.size) (huo : ∀ el ∈ eff old foc, el.length = i.size) (hlim : old.length + rows.length ≤ lim) (hlb : lim * i.bytes ≤ 2 ^ 47) (hl47 : lim ≤ 2 ^ 47) (h1 : ∀ y ∈ news, y.oneCell' = true)
    (hd : distinct (((k, some (Root.row false vs (eff old foc ++ rows) none)) :: us).map (·.1)) = true)
    (mach : ∀ {vs' : Value} {w2 : World}, (Builtin.append_ #[t, t] op.type #[s, x]).run P w = .ok vs' w2 → (execOp a.eval op).run P w = .ok (.value vs') w2) :
    Did P X rt w R γ a op (.one (.ref k (eff old foc ++ rows).length)) ((k, some (.row false vs (eff old foc ++ rows) none)) :: us) := by
  have hkr : k ∉ us.map (·.1) := by rw [List.map_cons, distinct_cons] at hd; exact hd.1
  have hra : rowsAt (rt k) = some (eff old foc) := by rw [hr]; rfl
  have hol : (eff old foc).length = len := by rw [eff_len, hq]
  obtain ⟨p0, c0, rfl, ⟨hc0, _⟩, _, hf⟩ := hs
  obtain ⟨e1, e2⟩ := (hf _ hra).2 hol.symm
  subst e1; subst e2; subst hx
  have usOwn : ∀ q ∈ us, ∀ b, (γ q.1).own b → ¬ (γ k).own b := by
    intro q hq b hb hb2
    obtain ⟨_, _, _, _, hr2⟩ := hmem q hq
    exact M.disj k q.1 _ _ b (fun e => hkr (List.mem_map.2 ⟨q, hq, e.symm⟩)) hr hr2 hb2 hb
  have usLt : ∀ q ∈ us, ∀ b, (γ q.1).own b → b < w.heap.size := by
    intro q hq b hb
    obtain ⟨_, _, _, _, hr2⟩ := hmem q hq
    exact M.ownLt q.1 _ b hr2 hb
  have kLt : ∀ b, (γ k).own b → b < w.heap.size := fun b hb => M.ownLt k _ b hr hb
  have hlen' : (eff old foc ++ rows).length = len + rows.length := by rw [List.length_append, hol]
  have hu' : ∀ el ∈ eff old foc ++ rows, el.length = i.size := by
    intro el h
    rcases List.mem_append.1 h with h | h
    · exact huo el h
    · exact hu el h
  have O := (M.root k _ hr).1
  by_cases hroom : len + rows.length ≤ (γ k).cap
  · by_cases hne : rows = []
    · subst hne
      have hnews : news = [] := by simpa using hnl
      subst hnews
      have hrun := run_app_room (P := P) (w := w) (w' := w) (ty := op.type) (base := (γ k).addr) (sLen := len) (sCap := (γ k).cap) (p := p) (n := 0) (cap := cap) (news := []) ht hi (by simpa using hroom) (firstCells_zero rfl) (fun _ _ => rfl) (fun _ => rfl)
      have hex := mach hrun
      rw [List.append_nil] at hd hlen' ⊢
      refine did_row (g := ⟨(γ k).addr, (γ k).cap, (γ k).own⟩) M hmem hd (.refl w) (fun _ _ => .inl rfl) (fun r hr2 => ?_) O (fun b hb => .inr (.inl ⟨_, hr, hb⟩)) (by rw [hlen']; exact hex)
      rw [hr] at hr2; injection hr2 with hr2; subst hr2
      exact ⟨rfl, RowExt.refl _ _, Nat.le_refl _, fun _ _ _ _ h => h⟩
    · have hpos : 0 < rows.length := List.length_pos_iff.2 hne
      obtain ⟨_, ⟨h, hc⟩ | ⟨b, arr, elem, sz, B1, g0, g1, g2, g3, g4, g5, g6, nb, ob, sub⟩⟩ := O.inv
      · rw [hc] at hroom; omega
      have : sz = i.size := by
        obtain ⟨el, hel⟩ := List.exists_mem_of_ne_nil _ g0
        rw [← g3 el hel, huo el hel]
      subst this
      have hle : len * i.size + rows.length * i.size ≤ arr.size := by rw [g5, ← Nat.add_mul]; exact Nat.mul_le_mul_right _ hroom
      obtain ⟨w', arr', r1, r2, r3, r4, r5, r6⟩ := run_store_row (P := P) (b := b) (elem := elem) news (len * i.size) 0 w arr g2 (by rw [hnl]; omega) h1
      have hset : arr'.toList = setAt arr.toList (len * i.size) news := by simpa [setAt] using r3
      have hrun := run_app_room (P := P) (w := w) (w' := w') (ty := op.type) (base := (γ k).addr) (sLen := len) (sCap := (γ k).cap) (p := p) (n := rows.length) (cap := cap) (news := news) ht hi hroom (hfc w rfl)
        (fun ad h => by rw [g1] at h; injection h with h; subst h; rw [add_none, Nat.zero_add]; exact r1) (fun h => by rw [g1] at h; cases h)
      have hex := mach hrun
      have hsz : arr'.size = arr.size := by
        have : arr'.toList.length = arr.toList.length := by rw [hset]; exact setAt_len (by rw [hnl]; simpa using hle)
        simpa using this
      have hag : ∀ j : Nat, j < len * i.size → arr'.toList[j]? = arr.toList[j]? := by
        intro j hj
        rw [hset, setAt_at (by rw [hnl]; simpa using hle), if_neg (by omega)]
      have htake : arr'.toList.take ((len + rows.length) * i.size) = arr.toList.take (len * i.size) ++ news := by
        rw [hset, setAt_take (by rw [hnl, Nat.add_mul]; exact Nat.le_refl _) (by rw [Nat.add_mul]; simpa using hle)]
        unfold setAt
        rw [List.take_take, Nat.min_eq_left (Nat.mul_le_mul_right _ (Nat.le_add_right ..)), List.drop_eq_nil_of_le (by simp [hnl, Nat.add_mul]; omega), List.append_nil]
      refine did_row (g := ⟨(γ k).addr, (γ k).cap, fun y => (γ k).own y ∨ ∃ q ∈ us, (γ q.1).own y⟩) M hmem hd r5 (fun y _ => ?_) (fun r hr2 => ?_) ?_ (fun y hy => ?_) (by rw [hlen']; exact hex)
      · by_cases hy : y = b
        · exact .inr ⟨_, hr, hy ▸ ob⟩
        · exact .inl (r4 y hy)
      · rw [hr] at hr2; injection hr2 with hr2; subst hr2
        refine ⟨rfl, ⟨by show _ ≤ (eff old foc ++ rows).length; simp, fun h => ?_⟩, Nat.le_refl _, fun _ i2 j2 x2 hN => ?_⟩
        · have h : (eff old foc).length = (eff old foc ++ rows).length := h
          rw [hlen', hol] at h; omega
        · obtain ⟨hsl, hi2, b2, sz2, arr2, elem2, u2, hj2, ha2, hb2, hx2⟩ := hN
          rw [g1] at ha2; injection ha2 with ha2; injection ha2 with ha2 _ _; subst ha2
          rw [g2] at hb2; injection hb2 with hb2; injection hb2 with hb2 _ _; subst hb2
          have : sz2 = i.size := by
            obtain ⟨el, hel⟩ := List.exists_mem_of_ne_nil _ g0
            rw [← u2 el hel, huo el hel]
          subst this
          have hb3 : i2 * i.size + i.size ≤ len * i.size := by rw [← Nat.succ_mul, ← hol]; exact Nat.mul_le_mul_right _ hi2
          refine ⟨hsl, by show i2 < (eff old foc ++ rows).length; rw [List.length_append]; omega, b, i.size, arr', elem, hu', hj2, g1, r2, ?_⟩
          rw [hag _ (by omega)]; exact hx2
      · show Own (hp w') R _ [.sl (eff old foc ++ rows)] [.slice (γ k).addr (eff old foc ++ rows).length (γ k).cap]
        rw [g1]
        refine .row (B1 := fun y => B1 y ∨ ∃ q ∈ us, (γ q.1).own y) (B2 := fun _ => False) (by simp [hne]) r2 hu' (by rw [hlen']; exact hroom) (by rw [hsz, g5]) ?_ .nil ?_ (fun h => h) (fun _ _ h => h) (.inl ob) ?_ (fun _ h => h.elim)
        · rw [List.flatten_append, hlen', htake]
          rw [hol] at g6
          refine (g6.mono (fun _ h => h) (fun y hy => hy.elim) (fun y hy => r4 y (fun e => nb (e ▸ hy))) (fun _ h => h)).app (hown.mono (fun _ h => h) (fun y hy => hy.elim) (fun y ⟨q, hq, h⟩ => r4 y (fun e => usOwn q hq y h (e ▸ ob))) (fun _ h => h)) ?_ (fun _ h => .inl h) (fun _ h => .inr h)
          rintro y hy ⟨q, hq, h⟩
          exact usOwn q hq y h (sub y hy)
        · rintro (h | ⟨q, hq, h⟩)
          · exact nb h
          · exact usOwn q hq _ h ob
        · rintro y (h | h)
          · exact .inl (sub y h)
          · exact .inr h
      · rcases hy with hy | hy
        · exact .inr (.inl ⟨_, hr, hy⟩)
        · exact .inr (.inr hy)
  · have hpos : 0 < rows.length := by omega
    have hne : rows ≠ [] := List.length_pos_iff.1 hpos
    have hb1 : (len + rows.length) * i.bytes ≤ 140737488355328 := Nat.le_trans (Nat.mul_le_mul_right _ (by omega)) hlb
    obtain ⟨olds, B1, ho1, ho2, ho3, ho4, ho5⟩ : ∃ (olds : List Value) (B1 : Nat → Prop), olds.length = len * i.size ∧ (Builtin.firstCells i.size len (.slice (γ k).addr len (γ k).cap)).run P w.drew = .ok olds.toArray w.drew ∧ Own (hp w) (fun _ => False) B1 (eff old foc).flatten olds ∧ (∀ y, B1 y → (γ k).own y) ∧
        (∀ b arr elem, eff old foc ≠ [] → (γ k).addr = some ⟨b, 0, none⟩ → hp w b = some (.cells arr elem (0, 0)) → ∀ j : Nat, j < len * i.size → olds[j]? = arr.toList[j]?) := by
      obtain ⟨_, ⟨h, hc⟩ | ⟨b, arr, elem, sz, B1, g0, g1, g2, g3, g4, g5, g6, nb, ob, sub⟩⟩ := O.inv
      · have h0 : len = 0 := by rw [← hol, h]; rfl
        subst h0
        exact ⟨[], fun _ => False, by simp, firstCells_zero rfl, by rw [h]; exact .nil, fun _ h => h.elim, fun _ _ _ hn => absurd h hn⟩
      · have : sz = i.size := by
          obtain ⟨el, hel⟩ := List.exists_mem_of_ne_nil _ g0
          rw [← g3 el hel, huo el hel]
        subst this
        have hle : len * i.size ≤ arr.size := by rw [g5, ← hol]; exact Nat.mul_le_mul_right _ g4
        rw [hol] at g6
        refine ⟨arr.toList.take (len * i.size), B1, by simp; omega, ?_, g6, sub, ?_⟩
        · rw [g1]
          have := firstCells_row (P := P) (w := w.drew) (sz := i.size) (n := len) (cap := (γ k).cap) (off := 0) (by rw [hp_heap (drew_heap w)]; exact g2) (by omega)
          simpa [cut] using this
        · intro b2 arr2 elem2 _ h2 h3 j hj
          rw [g1] at h2; injection h2 with h2; injection h2 with h2 _ _; subst h2
          rw [g2] at h3; injection h3 with h3; injection h3 with h3 _ _; subst h3
          rw [List.getElem?_take, if_pos hj]
    have hrun := run_app_grow (P := P) (w := w) (ty := op.type) (base := (γ k).addr) (sLen := len) (sCap := (γ k).cap) (p := p) (n := rows.length) (cap := cap) (olds := olds) (news := news) ht hi hz (by omega) (by omega) (growslice_fits (by omega) hb1) ho2 (hfc _ rfl)
    have hge := grownCap_ge w (len + rows.length) (γ k).cap e
    have hex := mach hrun
    generalize hnc : grownCap w (len + rows.length) (γ k).cap e = nc at hrun hge hex
    have hasz : (olds.toArray ++ news.toArray ++ Builtin.zeroCells z.cells (nc - (len + rows.length))).size = nc * i.size := by
      simp only [Array.size_append, List.size_toArray, size_zeroCells, hzs, hnl, ho1, ← Nat.add_mul]; congr 1; omega
    have hal : (olds.toArray ++ news.toArray ++ Builtin.zeroCells z.cells (nc - (len + rows.length))).toList = olds ++ news ++ (Builtin.zeroCells z.cells (nc - (len + rows.length))).toList := by simp
    refine did_row (g := ⟨some ⟨w.heap.size, 0, none⟩, nc, fun y => y = w.heap.size ∨ (γ k).own y ∨ ∃ q ∈ us, (γ q.1).own y⟩) M hmem hd alike_drew_alloc (fun y hy => .inl (hp_drew_alloc hy)) (fun r hr2 => ?_) ?_ (fun y hy => ?_) (by rw [hlen']; exact hex)
    · rw [hr] at hr2; injection hr2 with hr2; subst hr2
      refine ⟨rfl, ⟨by show _ ≤ (eff old foc ++ rows).length; simp, fun h => ?_⟩, Nat.le_refl _, fun _ i2 j2 x2 hN => ?_⟩
      · have h : (eff old foc).length = (eff old foc ++ rows).length := h
        rw [hlen', hol] at h; omega
      · obtain ⟨hsl, hi2, b2, sz2, arr2, elem2, u2, hj2, ha2, hb2, hx2⟩ := hN
        have g0 : eff old foc ≠ [] := by intro h; rw [h] at hi2; simp at hi2
        have : sz2 = i.size := by
          obtain ⟨el, hel⟩ := List.exists_mem_of_ne_nil _ g0
          rw [← u2 el hel, huo el hel]
        subst this
        have hb3 : i2 * i.size + i.size ≤ len * i.size := by rw [← Nat.succ_mul, ← hol]; exact Nat.mul_le_mul_right _ hi2
        refine ⟨hsl, by show i2 < (eff old foc ++ rows).length; rw [List.length_append]; omega, w.heap.size, i.size, _, e, hu', hj2, rfl, hp_drew_alloc_eq, ?_⟩
        rw [hal, List.append_assoc, List.getElem?_append_left (by omega), ho5 b2 arr2 elem2 g0 ha2 hb2 _ (by omega)]
        exact hx2
    · show Own _ R _ [.sl (eff old foc ++ rows)] [.slice (some ⟨w.heap.size, 0, none⟩) (eff old foc ++ rows).length nc]
      refine .row (B1 := fun y => B1 y ∨ ∃ q ∈ us, (γ q.1).own y) (B2 := fun _ => False) (by simp [hne]) hp_drew_alloc_eq hu' (by rw [hlen']; exact hge) hasz ?_ .nil ?_ (fun h => h) (fun _ _ h => h) (.inl rfl) ?_ (fun _ h => h.elim)
      · rw [List.flatten_append, hlen', hal, List.take_left' (by rw [List.length_append, ho1, hnl, Nat.add_mul])]
        refine (ho3.mono (fun _ h => h) (fun y hy => hy.elim) (fun y hy => hp_drew_alloc (kLt y (ho4 y hy))) (fun _ h => h)).app (hown.mono (fun _ h => h) (fun y hy => hy.elim) (fun y ⟨q, hq, h⟩ => hp_drew_alloc (usLt q hq y h)) (fun _ h => h)) ?_ (fun _ h => .inl h) (fun _ h => .inr h)
        rintro y hy ⟨q, hq, h⟩
        exact usOwn q hq y h (ho4 y hy)
      · rintro (h | ⟨q, hq, h⟩)
        · exact absurd (kLt _ (ho4 _ h)) (Nat.lt_irrefl _)
        · exact absurd (usLt q hq _ h) (Nat.lt_irrefl _)
      · rintro y (h | h)
        · exact .inr (.inl (ho4 y h))
        · exact .inr (.inr h)
    · rcases hy with rfl | hy | hy
      · exact .inl ⟨Nat.le_refl _, by rw [size_drew_alloc]; omega⟩
      · exact .inr (.inl ⟨_, hr, hy⟩)
      · exact .inr (.inr hy)
theorem Own.one {h : Hp} {B : Nat → Prop} {cs : List PI.C} {vs : List Value} (H : Own h R B cs vs) : ∀ y ∈ vs, y.oneCell' = true := by
  induction H with
  | nil => simp
  | ro _ r _ ih =>
    intro y hy
    rcases List.mem_cons.1 hy with rfl | hy
    · exact Ro.one r
    · exact ih y hy
  | e _ ih =>
    intro y hy
    rcases List.mem_cons.1 hy with rfl | hy
    · rfl
    · exact ih y hy
  | row _ _ _ _ _ _ _ _ _ _ _ _ _ _ ih =>
    intro y hy
    rcases List.mem_cons.1 hy with rfl | hy
    · rfl
    · exact ih y hy
theorem op_app (M : Mem X rt w R γ) (E : EnvR (hp w) R rt γ env a.tmps) {sz lim : Nat} {s y : Opd} (C : chkOp P op.op (.app sz lim s y) = true) (hd : distinct (u.map (·.1)) = true) (H : ((POp.app sz lim s y).rm cfg d env).run call rt = some (v, u, l)) : Did P X rt w R γ a op v u := by
  obtain ⟨v1, hv1, H⟩ := opd_run H
  split at H
  case h_2 => exact (fail_run H).elim
  rename_i c1
  obtain ⟨v2, hv2, H⟩ := opd_run H
  split at H
  case h_2 => exact (fail_run H).elim
  rename_i c2
  cases ho : op.op <;> simp only [ho, chkOp, Bool.false_eq_true] at C
  rename_i cl
  obtain ⟨cal, xs, ts⟩ := cl
  cases cal <;> simp only [Bool.false_eq_true, Bool.and_eq_true, decide_eq_true_eq] at C
  obtain ⟨rfl, C1, C2⟩ := C
  split at C2
  case h_2 => cases C2
  rename_i t t2 ts' hts
  simp only [Bool.and_eq_true, beq_iff_eq] at C2
  obtain ⟨htt, C2⟩ := C2
  split at C2
  case h_2 => cases C2
  rename_i e he
  have ht := elemOf_some he
  split at C2
  case h_2 => cases C2
  rename_i i hi
  simp only [Bool.and_eq_true, beq_iff_eq, decide_eq_true_eq] at C2
  obtain ⟨rfl, C3, C4, C5⟩ := C2
  split at C5
  case h_2 => cases C5
  rename_i z hz
  have C5 : z.cells.size = i.size := by simpa using C5
  generalize hxs : xs.toList = zs at C1
  cases opdsOk_pw C1 with
  | @cons _ x1 _ xs1 q1 qr =>
  cases qr with
  | @cons _ x2 _ xs2 q2 qr2 =>
  cases qr2
  have hxs := arr_two hxs
  subst hxs
  have hs := opd_eval (a := a) E q1 hv1
  have hy := opd_eval (a := a) E q2 hv2
  have mach : ∀ {vs' : Value} {w2 : World}, (Builtin.append_ #[t, t] op.type #[a.eval x1, a.eval x2]).run P w = .ok vs' w2 → (execOp a.eval op).run P w = .ok (.value vs') w2 := by
    intro vs' w2 h
    have e1 : ∀ ty A, Builtin.append_ ts ty A = Builtin.append_ #[t, t] ty A := by
      intro ty A
      have h0 : ts[0]? = some t := by rw [← Array.getElem?_toList, hts]; rfl
      have h1 : ts[1]? = some t := by rw [← Array.getElem?_toList, hts, htt]; rfl
      simp [Builtin.append_, h0, h1]
    simp [execOp, ho, resolve, invoke, builtin, e1, h]
  unfold appAt at H
  split at H
  ·
    obtain ⟨h0, l1, H⟩ := ab_run H
    obtain ⟨rows, us, l2, H, hmem, p, cap, hx2, hsrc⟩ := appSrc_run (P := P) M hy H
    obtain ⟨hc, H⟩ := chk_run H
    have := ret_run H; simp only [Prod.mk.injEq] at this; obtain ⟨rfl, rfl, _⟩ := this
    simp only [Bool.and_eq_true, decide_eq_true_eq] at hc
    obtain ⟨hun, hlim⟩ := hc
    have hu := uni_all hun
    obtain ⟨news, hnl, hfc, hown⟩ := hsrc i.size hu
    rw [hx2] at hfc
    have hs0 := VR_nil hs
    by_cases hne : rows = []
    · subst hne
      have hnews : news = [] := by simpa using hnl
      subst hnews
      have hr := run_app_room (P := P) (w := w) (w' := w) (ty := op.type) (base := none) (sLen := 0) (sCap := 0) (p := p) (n := 0) (cap := cap) ht hi (by simp) (firstCells_zero rfl) (by simp) (fun _ => rfl)
      have hex := mach (vs' := .slice none 0 0) (w2 := w) (by rw [hs0, hx2]; exact hr)
      exact did_row (g := ⟨none, 0, fun _ => False⟩) M hmem hd (.refl w) (fun _ _ => .inl rfl) (fun r hr => by rw [h0] at hr; cases hr) (.e .nil) (fun _ h => h.elim) hex
    · have hpos : 0 < rows.length := List.length_pos_iff.2 hne
      have hb1 : rows.length * i.bytes ≤ 140737488355328 := Nat.le_trans (Nat.mul_le_mul_right _ hlim) C3
      have hr := run_app_grow (P := P) (w := w) (ty := op.type) (base := none) (sLen := 0) (sCap := 0) (p := p) (n := rows.length) (cap := cap) (olds := []) (news := news) ht hi hz (by omega) (by omega) (growslice_fits (by omega) (by simpa using hb1)) (firstCells_zero rfl) (hfc _ rfl)
      rw [Nat.zero_add] at hr
      have hge := grownCap_ge w rows.length 0 e
      have hex := mach (by rw [hs0, hx2]; exact hr)
      refine did_newrow (sz := i.size) (p := some ⟨w.heap.size, 0, none⟩) M h0 hmem hd alike_drew_alloc size_drew_alloc (fun b hb => hp_drew_alloc hb) hp_drew_alloc_eq hu hge ?_ (fun h => absurd h hne) (fun _ => rfl) ?_ hex
      · simp only [Array.size_append, List.size_toArray, size_zeroCells, C5, hnl, List.length_nil, Nat.zero_add, ← Nat.add_mul]; congr 1; omega
      · simp only [Array.toList_append, List.nil_append]
        rw [List.take_left' hnl]
        exact hown
  ·
    obtain ⟨r, l1, hr, H⟩ := rd_run H
    split at H
    · obtain ⟨hq, H⟩ := chk_run H
      have hq := of_decide_eq_true hq
      obtain ⟨rows, us, l2, H, hmem, p, cap, hx2, hsrc⟩ := appSrc_run (P := P) M hy H
      obtain ⟨hc, H⟩ := chk_run H
      have := ret_run H; simp only [Prod.mk.injEq] at this; obtain ⟨rfl, rfl, _⟩ := this
      simp only [Bool.and_eq_true, decide_eq_true_eq] at hc
      obtain ⟨_, huo, hun, hlim⟩ := hc
      obtain ⟨news, hnl, hfc, hown⟩ := hsrc i.size (uni_all hun)
      exact app_ref M ht hi hz C5 hr hq hs hx2 hmem hnl hfc hown (uni_all hun) (uni_all huo) hlim C3 C4 hown.one hd mach
    · exact (fail_run H).elim
  · exact (fail_run H).elim
end
end Go.Proofs.Ytdgamfanffnhaaa.PI
