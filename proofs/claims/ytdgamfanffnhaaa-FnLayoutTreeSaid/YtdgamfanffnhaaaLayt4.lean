/-
  The law FnLayoutTree answers true whatever comes in, and what came in reads as it did. No condition.
-/
import Derived.Test.YtdgamfanffnhaaaLayt3
set_option linter.unusedVariables false
set_option linter.unusedSimpArgs false
namespace Go.Proofs.Ytdgamfanffnhaaa.PI
open Go
def stuckF (room size : Int) (a b : Bool) : Int × Int :=
  if a = true then (if b = true then (0, room) else (0, min size room)) else (if b = true then (room - min size room, min size room) else ((room - min size room) / 2, min size room))
def bit1 (s : Int) : Bool := Int.tmod s 2 == 1
def bit2 (s : Int) : Bool := Int.tmod (Int.tdiv s 2) 2 == 1
def bit4 (s : Int) : Bool := Int.tmod (Int.tdiv s 4) 2 == 1
def bit8 (s : Int) : Bool := Int.tdiv s 8 == 1
theorem bits {s : Int} (h : 0 ≤ s ∧ s ≤ 15) : ((and64 s 1 != 0) = bit1 s ∧ (and64 s 2 != 0) = bit2 s ∧ (and64 s 4 != 0) = bit4 s ∧ (and64 s 8 != 0) = bit8 s) ∧ w64 (Int.tdiv s 2) = Int.tdiv s 2 ∧ w64 (Int.tdiv s 4) = Int.tdiv s 4 ∧ w64 (Int.tdiv s 8) = Int.tdiv s 8 := by
  have : s = 0 ∨ s = 1 ∨ s = 2 ∨ s = 3 ∨ s = 4 ∨ s = 5 ∨ s = 6 ∨ s = 7 ∨ s = 8 ∨ s = 9 ∨ s = 10 ∨ s = 11 ∨ s = 12 ∨ s = 13 ∨ s = 14 ∨ s = 15 := by omega
  rcases this with rfl | rfl | rfl | rfl | rfl | rfl | rfl | rfl | rfl | rfl | rfl | rfl | rfl | rfl | rfl | rfl <;> exact ⟨⟨rfl, rfl, rfl, rfl⟩, rfl, rfl, rfl⟩
def S14 (n : Int) : Prop := 0 ≤ n ∧ n ≤ 100000000000000
theorem stuck_i {room size : Int} (h1 : S14 room) (h2 : S14 size) (a b : Bool) : i_stuck.m room size a b = stuckF room size a b := by
  obtain ⟨a1, a2⟩ := h1
  obtain ⟨b1, b2⟩ := h2
  unfold i_stuck.m stuckF
  simp only [mn2_eq, Bool.cond_eq_ite]
  rw [w64_id (n := room - min size room) (by omega) (by omega), tdiv2 (by omega), w64_id (n := (room - min size room) / 2) (by omega) (by omega)]
theorem stuck_s {at_ room size : Int} (h0 : -10000000000000000 ≤ at_ ∧ at_ ≤ 10000000000000000) (h1 : S14 room) (h2 : S14 size) (a b : Bool) : s_stuck.m at_ room size a b = (at_ + (stuckF room size a b).1, (stuckF room size a b).2) := by
  obtain ⟨a1, a2⟩ := h1
  obtain ⟨b1, b2⟩ := h2
  unfold s_stuck.m stuckF
  simp only [mn2_eq]
  rw [w64_id (n := room - min size room) (by omega) (by omega), tdiv2 (by omega), w64_id (n := (room - min size room) / 2) (by omega) (by omega), w64_id (n := at_ + room) (by omega) (by omega), w64_id (n := at_ + room - min size room) (by omega) (by omega), w64_id (n := at_ + (room - min size room) / 2) (by omega) (by omega)]
  cases a <;> cases b <;> simp only [cond_true, cond_false, if_true, Bool.false_eq_true, if_false, Int.add_zero, Int.add_sub_assoc]
theorem stuck_bd {room size : Int} (h1 : 0 ≤ room) (h2 : 0 ≤ size) (a b : Bool) : 0 ≤ (stuckF room size a b).1 ∧ 0 ≤ (stuckF room size a b).2 ∧ (stuckF room size a b).1 + (stuckF room size a b).2 ≤ room := by
  unfold stuckF
  cases a <;> cases b <;> simp only [if_true, Bool.false_eq_true, if_false] <;> omega
def areaF (xs ys : List Int) (r : Rect) (c : Cell) : Rect :=
  ⟨r.x + (cut 0 c.col.toNat xs).sum, r.y + (cut 0 c.row.toNat ys).sum, (cut c.col.toNat c.manyCols.toNat xs).sum, (cut c.row.toNat c.manyRows.toNat ys).sum⟩
def inCell (q : Rect) (c : Cell) : Rect :=
  ⟨q.x + (stuckF q.w c.w (bit1 c.stick) (bit2 c.stick)).1, q.y + (stuckF q.h c.h (bit4 c.stick) (bit8 c.stick)).1, (stuckF q.w c.w (bit1 c.stick) (bit2 c.stick)).2, (stuckF q.h c.h (bit4 c.stick) (bit8 c.stick)).2⟩
def cellRect (xs ys : List Int) (r : Rect) (c : Cell) : Rect := inCell (insetF (areaF xs ys r c) c.padX c.padY) c
def colsF (cols : List Line) (cells : List Cell) (room : Int) : List Int := sizedF cols (wishF cols (cells.map spanC)) room
def rowsF (rows : List Line) (cells : List Cell) (room : Int) : List Int := sizedF rows (wishF rows (cells.map spanR)) room
def griddedF (cols rows : List Line) (cells : List Cell) (r : Rect) : List Rect := cells.map (cellRect (colsF cols cells r.w) (rowsF rows cells r.h) r)
theorem gridded_shift (dx dy : Int) (cols rows : List Line) (cells : List Cell) (r : Rect) : griddedF cols rows cells (shift dx dy r) = (griddedF cols rows cells r).map (shift dx dy) := by
  unfold griddedF
  rw [List.map_map]
  apply List.map_congr_left
  intro c _
  show cellRect _ _ (shift dx dy r) c = shift dx dy (cellRect _ _ r c)
  unfold cellRect
  have e : ∀ xs ys, areaF xs ys (shift dx dy r) c = shift dx dy (areaF xs ys r c) := fun xs ys => by unfold areaF shift; simp only [Int.add_assoc]
  rw [e, inset_shift]
  unfold inCell shift
  simp only [Int.add_assoc]
structure RowOk (n : Nat) (S : Int) (xs : List Int) : Prop where
  len : xs.length = n
  pos : ∀ x ∈ xs, 0 ≤ x
  sum : xs.sum ≤ S
theorem cut_sum {S : Int} {n : Nat} {xs : List Int} (h : RowOk n S xs) (a m : Nat) : 0 ≤ (cut a m xs).sum ∧ (cut a m xs).sum ≤ S := by
  have e : xs.sum = (xs.take a).sum + ((cut a m xs).sum + ((xs.drop a).drop m).sum) := by
    unfold cut
    rw [← List.sum_append, List.take_append_drop, ← List.sum_append, List.take_append_drop]
  have p : ∀ l : List Int, (∀ x ∈ l, 0 ≤ x) → 0 ≤ l.sum := by
    intro l
    induction l with
    | nil => intro _; simp
    | cons b l ih => intro hl; have := hl b (by simp); have := ih fun x hx => hl x (by simp [hx]); rw [List.sum_cons]; omega
  have h1 := p (xs.take a) fun x hx => h.pos x (List.mem_of_mem_take hx)
  have h2 := p ((xs.drop a).drop m) fun x hx => h.pos x (List.mem_of_mem_drop (List.mem_of_mem_drop hx))
  have h3 := p (cut a m xs) fun x hx => h.pos x (cut_mem x hx)
  have h4 := h.sum
  omega
theorem cut_sumW {S : Int} (hS : S ≤ 1000000000000000) {n : Nat} (hn : n ≤ 5) {xs : List Int} (h : RowOk n S xs) (a m : Nat) : sumW (cut a m xs) = (cut a m xs).sum := by
  have hb : Bd S (cut a m xs) := fun x hx => ⟨h.pos x (cut_mem x hx), by
    have := le_sum h.pos x (cut_mem x hx); have := h.sum; omega⟩
  refine sumW_eq hb ?_
  have hl : (cut a m xs).length ≤ 5 := by have := h.len; unfold cut; rw [List.length_take, List.length_drop]; omega
  have h2 : ((cut a m xs).length : Int) ≤ 5 := by omega
  have h3 := (cut_sum h a m).2
  have h4 := (cut_sum h a m).1
  have hS0 : 0 ≤ S := by omega
  have := Int.mul_le_mul_of_nonneg_right h2 hS0
  omega
theorem sumK_i {S : Int} (hS : S ≤ 1000000000000000) {n : Nat} (hn : n ≤ 5) {xs : List Int} (h : RowOk n S xs) (a m : Nat) : PC i_sum [.one (.rsl (cut a m (xs.map encInt)))] (vI (cut a m xs).sum, []) := by
  have k := i_sum.c (cut a m xs) (by unfold Sm cut; rw [List.length_take, List.length_drop]; have := h.len; omega)
  unfold i_sum.m at k
  rw [cut_sumW hS hn h] at k
  rw [cut_map]; exact k
theorem sumK_s {S : Int} (hS : S ≤ 1000000000000000) {n : Nat} (hn : n ≤ 5) {xs : List Int} (h : RowOk n S xs) (a m : Nat) : PC s_total [.one (.rsl (cut a m (xs.map encInt)))] (vI (cut a m xs).sum, []) := by
  have k := s_total.c (cut a m xs) (by unfold Sm cut; rw [List.length_take, List.length_drop]; have := h.len; omega)
  unfold s_total.m at k
  rw [cut_sumW hS hn h] at k
  rw [cut_map]; exact k
theorem area_rb {S : Int} (hS : S ≤ 100000000000000) {nc nr : Nat} {xs ys : List Int} (hx : RowOk nc S xs) (hy : RowOk nr S ys) {r : Rect} (hr : RS r) (c : Cell) : RB (areaF xs ys r c) := by
  have h1 := cut_sum hx 0 c.col.toNat
  have h2 := cut_sum hy 0 c.row.toNat
  have h3 := cut_sum hx c.col.toNat c.manyCols.toNat
  have h4 := cut_sum hy c.row.toNat c.manyRows.toNat
  have hrx := hr.x
  have hry := hr.y
  unfold areaF
  exact ⟨by simp only; omega, by simp only; omega, by simp only; omega, by simp only; omega⟩
theorem inCell_in {M : Int} {nc nr : Nat} {c : Cell} (hc : CellOk M nc nr c) {q : Rect} (hw : 0 ≤ q.w) (hh : 0 ≤ q.h) : InR q (inCell q c) := by
  have h1 := stuck_bd hw hc.w.1 (bit1 c.stick) (bit2 c.stick)
  have h2 := stuck_bd hh hc.h.1 (bit4 c.stick) (bit8 c.stick)
  unfold InR inCell; simp only; omega
theorem cellRect_in {M S : Int} (hS : S ≤ 100000000000000) {nc nr : Nat} {xs ys : List Int} (hx : RowOk nc S xs) (hy : RowOk nr S ys) {r : Rect} (hr : RS r) {c : Cell} (hc : CellOk M nc nr c) : InR (areaF xs ys r c) (cellRect xs ys r c) := by
  have ha := area_rb hS hx hy hr c
  have hi := inset_in ha hc.px.1 hc.py.1
  exact hi.trans (inCell_in hc hi.2.1 hi.2.2)
theorem at_cell {l : List Cell} {j : Nat} (h : j < l.length) : (l.map encCell)[((j : Nat) : Int).toNat]? = some (encCell l[j]) := at_map h
theorem cut_end {a m : Int} (ha : 0 ≤ a) (hm : 1 ≤ m) (hs : a + m ≤ 1000000) : 0 ≤ w64 (a + m) ∧ (w64 (a + m)).toNat = a.toNat + m.toNat ∧ (w64 (a + m)).toNat - a.toNat = m.toNat := by
  rw [w64_id (by omega) (by omega)]; omega
theorem i_cells {M S : Int} (hM : Mid M) (hM2 : M ≤ 100000000000000) (hS : S ≤ 100000000000000) {nc nr : Nat} (hnc : nc ≤ 5) (hnr : nr ≤ 5) {xs ys : List Int} (hx : RowOk nc S xs) (hy : RowOk nr S ys) {cells : List Cell} (hc : ∀ c ∈ cells, CellOk M nc nr c) (hn : cells.length ≤ 1000) (w h : Int) (g g2 : List (List C)) :
    lpW (i_Grid_rects.r0 CC lpW) (i_Grid_rects.s0 nc nr 0 (cells.map encCell) ((cells.map encCell).length : Nat) 0 g g2 (cells.map encCell) [] (xs.map encInt) (ys.map encInt)) = some (.exit 0, i_Grid_rects.e0_0 cells.length ((cells.map (cellRect xs ys ⟨0, 0, w, h⟩)).map encRect)) := by
  have := loop_exit (step := i_Grid_rects.r0 CC lpW) (S := fun j => i_Grid_rects.s0 nc nr (((cells.take j).map (cellRect xs ys ⟨0, 0, w, h⟩)).map encRect).length (cells.map encCell) ((cells.map encCell).length : Nat) (j : Nat) g g2 (cells.map encCell) (((cells.take j).map (cellRect xs ys ⟨0, 0, w, h⟩)).map encRect) (xs.map encInt) (ys.map encInt)) cells.length (fun j hj => by
    have hk := hc _ (List.getElem_mem hj)
    obtain ⟨c1, c2, c3⟩ := cut_end hk.col.1 hk.col.2.1 (by have := hk.col.2.2; omega)
    obtain ⟨d1, d2, d3⟩ := cut_end hk.row.1 hk.row.2.1 (by have := hk.row.2.2; omega)
    have hcol := hk.col
    have hrow := hk.row
    have lx := hx.len
    have ly := hy.len
    have hr0 : RS ⟨0, 0, 0, 0⟩ := ⟨⟨by simp, by simp, by simp, by simp⟩, by simp, by simp⟩
    have ha := area_rb hS hx hy hr0 cells[j]
    have hi := inset_in ha hk.px.1 hk.py.1
    have ea : areaF xs ys ⟨0, 0, 0, 0⟩ cells[j] = ⟨(cut 0 cells[j].col.toNat xs).sum, (cut 0 cells[j].row.toNat ys).sum, (cut cells[j].col.toNat cells[j].manyCols.toNat xs).sum, (cut cells[j].row.toNat cells[j].manyRows.toNat ys).sum⟩ := by unfold areaF; simp only [Int.zero_add]
    have ea2 : areaF xs ys ⟨0, 0, w, h⟩ cells[j] = areaF xs ys ⟨0, 0, 0, 0⟩ cells[j] := rfl
    have k5 := i_Rect_inset.c (areaF xs ys ⟨0, 0, 0, 0⟩ cells[j]) cells[j].padX cells[j].padY
    rw [inset_i ha hk.px hk.py, ea] at k5
    rw [ea] at ha hi
    have er : cellRect xs ys ⟨0, 0, w, h⟩ cells[j] = inCell (insetF (areaF xs ys ⟨0, 0, 0, 0⟩ cells[j]) cells[j].padX cells[j].padY) cells[j] := rfl
    rw [ea] at er
    have hqb : S14 (insetF ⟨(cut 0 cells[j].col.toNat xs).sum, (cut 0 cells[j].row.toNat ys).sum, (cut cells[j].col.toNat cells[j].manyCols.toNat xs).sum, (cut cells[j].row.toNat cells[j].manyRows.toNat ys).sum⟩ cells[j].padX cells[j].padY).w ∧ S14 (insetF ⟨(cut 0 cells[j].col.toNat xs).sum, (cut 0 cells[j].row.toNat ys).sum, (cut cells[j].col.toNat cells[j].manyCols.toNat xs).sum, (cut cells[j].row.toNat cells[j].manyRows.toNat ys).sum⟩ cells[j].padX cells[j].padY).h := by
      have h1 := cut_sum hx 0 cells[j].col.toNat
      have h2 := cut_sum hy 0 cells[j].row.toNat
      have h3 := cut_sum hx cells[j].col.toNat cells[j].manyCols.toNat
      have h4 := cut_sum hy cells[j].row.toNat cells[j].manyRows.toNat
      unfold InR at hi
      unfold S14
      simp only at hi
      omega
    have hqx : ∀ q, InR ⟨(cut 0 cells[j].col.toNat xs).sum, (cut 0 cells[j].row.toNat ys).sum, (cut cells[j].col.toNat cells[j].manyCols.toNat xs).sum, (cut cells[j].row.toNat cells[j].manyRows.toNat ys).sum⟩ q → (0 ≤ q.x ∧ q.x ≤ 200000000000000) ∧ 0 ≤ q.y ∧ q.y ≤ 200000000000000 := by
      intro q hq
      have h1 := cut_sum hx 0 cells[j].col.toNat
      have h2 := cut_sum hy 0 cells[j].row.toNat
      have h3 := cut_sum hx cells[j].col.toNat cells[j].manyCols.toNat
      have h4 := cut_sum hy cells[j].row.toNat cells[j].manyRows.toNat
      unfold InR at hq
      simp only at hq
      omega
    have hqx := hqx _ hi
    have sw : S14 cells[j].w := ⟨hk.w.1, Int.le_trans hk.w.2 hM2⟩
    have sh : S14 cells[j].h := ⟨hk.h.1, Int.le_trans hk.h.2 hM2⟩
    obtain ⟨⟨bb1, bb2, bb4, bb8⟩, _⟩ := bits hk.stick
    generalize insetF ⟨(cut 0 cells[j].col.toNat xs).sum, (cut 0 cells[j].row.toNat ys).sum, (cut cells[j].col.toNat cells[j].manyCols.toNat xs).sum, (cut cells[j].row.toNat cells[j].manyRows.toNat ys).sum⟩ cells[j].padX cells[j].padY = q at k5 er hqb hqx
    have k6 := i_stuck.c q.w cells[j].w (and64 cells[j].stick 1 != 0) (and64 cells[j].stick 2 != 0)
    rw [stuck_i hqb.1 sw] at k6
    have k7 := i_stuck.c q.h cells[j].h (and64 cells[j].stick 4 != 0) (and64 cells[j].stick 8 != 0)
    rw [stuck_i hqb.2 sh] at k7
    have b6 := stuck_bd hqb.1.1 sw.1 (bit1 cells[j].stick) (bit2 cells[j].stick)
    have b7 := stuck_bd hqb.2.1 sh.1 (bit4 cells[j].stick) (bit8 cells[j].stick)
    have a1 := hqb.1.2
    have a2 := hqb.2.2
    have e := map_succ2 (g := cellRect xs ys ⟨0, 0, w, h⟩) (f := encRect) hj
    have hs := i_Grid_rects.l0_1 (call := CC) (lp := lpW) nc nr (((cells.take j).map (cellRect xs ys ⟨0, 0, w, h⟩)).map encRect).length (cells.map encCell) ((cells.map encCell).length : Nat) (j : Nat) g g2 (cells.map encCell) (((cells.take j).map (cellRect xs ys ⟨0, 0, w, h⟩)).map encRect) (xs.map encInt) (ys.map encInt) cells[j] _ _ _ _ q _ _ _ _ (by simpa using hj) (by simp) (by simpa using hcol.1) (by simp) (by rw [decide_eq_true_eq]; omega) (by simp [lx]) (uni_int _) (by rw [decide_eq_true_eq]; omega) (by simpa using hrow.1) (by simp) (by rw [decide_eq_true_eq]; omega) (by simp [ly]) (uni_int _) (by rw [decide_eq_true_eq]; omega) (by simpa using c1) (by rw [decide_eq_true_eq]; omega) (by rw [decide_eq_true_eq]; omega) (by rw [decide_eq_true_eq]; omega) (by simpa using d1) (by rw [decide_eq_true_eq]; omega) (by rw [decide_eq_true_eq]; omega) (by rw [decide_eq_true_eq]; omega) (by simp) (uni_rect _) (by simp; omega) (at_cell hj) (by rw [Nat.sub_zero]; exact sumK_i (by omega) hnc hx 0 _) (by rw [Nat.sub_zero]; exact sumK_i (by omega) hnr hy 0 _) (by rw [c3]; exact sumK_i (by omega) hnc hx _ _) (by rw [d3]; exact sumK_i (by omega) hnr hy _ _) k5 k6 k7
    rw [hs, w64_succ (by omega), ← e, er, bb1, bb2, bb4, bb8]
    have w1 : w64 (q.x + (stuckF q.w cells[j].w (bit1 cells[j].stick) (bit2 cells[j].stick)).1) = q.x + (stuckF q.w cells[j].w (bit1 cells[j].stick) (bit2 cells[j].stick)).1 := w64_id (by omega) (by omega)
    have w2 : w64 (q.y + (stuckF q.h cells[j].h (bit4 cells[j].stick) (bit8 cells[j].stick)).1) = q.y + (stuckF q.h cells[j].h (bit4 cells[j].stick) (bit8 cells[j].stick)).1 := w64_id (by omega) (by omega)
    rw [w1, w2]
    rfl) (i_Grid_rects.l0_2 _ _ _ _ _ _ _ _ _ _ _ _ (by simp))
  rw [List.take_length] at this
  simpa using this
theorem s_cells {M S : Int} (hM : Mid M) (hM2 : M ≤ 100000000000000) (hS : S ≤ 100000000000000) {nc nr : Nat} (hnc : nc ≤ 5) (hnr : nr ≤ 5) {xs ys : List Int} (hx : RowOk nc S xs) (hy : RowOk nr S ys) {cells : List Cell} (hc : ∀ c ∈ cells, CellOk M nc nr c) (hn : cells.length ≤ 1000) {r : Rect} (hr : RS r) (hrx : -8000000000000000 ≤ r.x ∧ r.x ≤ 8000000000000000) (hry : -8000000000000000 ≤ r.y ∧ r.y ≤ 8000000000000000) (g g2 : List (List C)) :
    lpW (s_gridded.r0 CC lpW) (s_gridded.s0 nc nr 0 0 g g2 (cells.map encCell) r [] (xs.map encInt) (ys.map encInt)) = some (.exit 0, s_gridded.e0_0 cells.length ((cells.map (cellRect xs ys r)).map encRect)) := by
  have := loop_exit (step := s_gridded.r0 CC lpW) (S := fun j => s_gridded.s0 nc nr (((cells.take j).map (cellRect xs ys r)).map encRect).length (j : Nat) g g2 (cells.map encCell) r (((cells.take j).map (cellRect xs ys r)).map encRect) (xs.map encInt) (ys.map encInt)) cells.length (fun j hj => by
    have hk := hc _ (List.getElem_mem hj)
    obtain ⟨c1, c2, c3⟩ := cut_end hk.col.1 hk.col.2.1 (by have := hk.col.2.2; omega)
    obtain ⟨d1, d2, d3⟩ := cut_end hk.row.1 hk.row.2.1 (by have := hk.row.2.2; omega)
    have hcol := hk.col
    have hrow := hk.row
    have lx := hx.len
    have ly := hy.len
    have ha := area_rb hS hx hy hr cells[j]
    have hi := inset_in ha hk.px.1 hk.py.1
    have h1 := cut_sum hx 0 cells[j].col.toNat
    have h2 := cut_sum hy 0 cells[j].row.toNat
    have h3 := cut_sum hx cells[j].col.toNat cells[j].manyCols.toNat
    have h4 := cut_sum hy cells[j].row.toNat cells[j].manyRows.toNat
    have wx : w64 (r.x + (cut 0 cells[j].col.toNat xs).sum) = r.x + (cut 0 cells[j].col.toNat xs).sum := w64_id (by omega) (by omega)
    have wy : w64 (r.y + (cut 0 cells[j].row.toNat ys).sum) = r.y + (cut 0 cells[j].row.toNat ys).sum := w64_id (by omega) (by omega)
    have k5 := s_inset.c (areaF xs ys r cells[j]) cells[j].padX cells[j].padY
    rw [inset_s ha hk.px hk.py] at k5
    have er : cellRect xs ys r cells[j] = inCell (insetF (areaF xs ys r cells[j]) cells[j].padX cells[j].padY) cells[j] := rfl
    have hqb : (S14 (insetF (areaF xs ys r cells[j]) cells[j].padX cells[j].padY).w ∧ S14 (insetF (areaF xs ys r cells[j]) cells[j].padX cells[j].padY).h) ∧ (-10000000000000000 ≤ (insetF (areaF xs ys r cells[j]) cells[j].padX cells[j].padY).x ∧ (insetF (areaF xs ys r cells[j]) cells[j].padX cells[j].padY).x ≤ 10000000000000000) ∧ -10000000000000000 ≤ (insetF (areaF xs ys r cells[j]) cells[j].padX cells[j].padY).y ∧ (insetF (areaF xs ys r cells[j]) cells[j].padX cells[j].padY).y ≤ 10000000000000000 := by
      unfold InR areaF at hi
      unfold S14 areaF
      simp only at hi
      omega
    have sw : S14 cells[j].w := ⟨hk.w.1, Int.le_trans hk.w.2 hM2⟩
    have sh : S14 cells[j].h := ⟨hk.h.1, Int.le_trans hk.h.2 hM2⟩
    obtain ⟨_, t2, t4, t8⟩ := bits hk.stick
    generalize insetF (areaF xs ys r cells[j]) cells[j].padX cells[j].padY = q at k5 er hqb
    obtain ⟨hqb, hq1, hq2⟩ := hqb
    have k6 := s_stuck.c q.x q.w cells[j].w (Int.tmod cells[j].stick 2 == 1) (Int.tmod (w64 (Int.tdiv cells[j].stick 2)) 2 == 1)
    rw [stuck_s hq1 hqb.1 sw] at k6
    have k7 := s_stuck.c q.y q.h cells[j].h (Int.tmod (w64 (Int.tdiv cells[j].stick 4)) 2 == 1) (w64 (Int.tdiv cells[j].stick 8) == 1)
    rw [stuck_s hq2 hqb.2 sh] at k7
    have e := map_succ2 (g := cellRect xs ys r) (f := encRect) hj
    have hs := s_gridded.l0_1 (call := CC) (lp := lpW) nc nr (((cells.take j).map (cellRect xs ys r)).map encRect).length (j : Nat) g g2 (cells.map encCell) r (((cells.take j).map (cellRect xs ys r)).map encRect) (xs.map encInt) (ys.map encInt) cells[j] _ _ _ _ q _ _ _ _ (by simpa using hj) (by simp) (by simpa using hcol.1) (by simp) (by rw [decide_eq_true_eq]; omega) (by simp [lx]) (uni_int _) (by rw [decide_eq_true_eq]; omega) (by simpa using hrow.1) (by simp) (by rw [decide_eq_true_eq]; omega) (by simp [ly]) (uni_int _) (by rw [decide_eq_true_eq]; omega) (by simpa using c1) (by rw [decide_eq_true_eq]; omega) (by rw [decide_eq_true_eq]; omega) (by rw [decide_eq_true_eq]; omega) (by simpa using d1) (by rw [decide_eq_true_eq]; omega) (by rw [decide_eq_true_eq]; omega) (by rw [decide_eq_true_eq]; omega) (by simp) (uni_rect _) (by simp; omega) (at_cell hj) (by rw [Nat.sub_zero]; exact sumK_s (by omega) hnc hx 0 _) (by rw [Nat.sub_zero]; exact sumK_s (by omega) hnr hy 0 _) (by rw [c3]; exact sumK_s (by omega) hnc hx _ _) (by rw [d3]; exact sumK_s (by omega) hnr hy _ _) (by rw [wx, wy]; exact k5) k6 k7
    rw [hs, w64_succ (by omega), ← e, er, t2, t4, t8]
    rfl) (s_gridded.l0_2 _ _ _ _ _ _ _ _ _ _ _ (by simp))
  rw [List.take_length] at this
  simpa using this
theorem cols_ok {M S : Int} {cols : List Line} (hl : LinesOk cols) {spans : List Span} (hB : Big M) (hM : 5 * M ≤ S) (hs : ∀ s ∈ spans, SpanOk M cols.length s) {room : Int} (hr : room ≤ S) : RowOk cols.length S (sizedF cols (wishF cols spans) room) := by
  have ho := wish_ok hl hB.1 hs
  obtain ⟨a, b, c⟩ := sized_ok hl (wish_min hl hB.1 hs) ho (room := room)
  have h := out_sum ho hl.2.2 (by have := hB.1; omega)
  exact ⟨a, b, by omega⟩
theorem i_Grid_rects.c {M : Int} {cols rows : List Line} {cells : List Cell} (hM : Mid M) (hM2 : 5 * (M + 20) ≤ 100000000000000) (h1 : LinesOk cols) (h2 : LinesOk rows) (hc : ∀ c ∈ cells, CellOk M cols.length rows.length c) (hn : cells.length ≤ 1000) {w h : Int} (hw : Room w) (hh : Room h) :
    PC i_Grid_rects [.agg [.rsl (cols.map encLine), .rsl (rows.map encLine), .rsl (cells.map encCell)], vI w, vI h] (.one (.sl ((griddedF cols rows cells ⟨0, 0, w, h⟩).map encRect)), []) := by
  refine lift ?_
  have hb := hM.big
  have rx := cols_ok h1 hb hM2 (spansC_ok hc) hw.2
  have ry := cols_ok h2 hb hM2 (spansR_ok hc) hh.2
  have l0 := i_cells hM (by omega) (Int.le_refl _) h1.2.2 h2.2.2 rx ry hc hn w h (cols.map encLine) (rows.map encLine)
  refine i_Grid_rects.w1 cols rows cells w h (cells.map spanC) (cells.map spanR) _ _ cells.length _ (by simp [griddedF]) (i_Grid_spans.c cols rows cells hM hc hn) (i_lineSizes.c h1 hb (by omega) (spansC_ok hc) (by simpa using hn) hw) (i_lineSizes.c h2 hb (by omega) (spansR_ok hc) (by simpa using hn) hh) ?_
  rw [List.length_map, List.length_map, rx.len, ry.len]
  exact l0
theorem s_gridded.c {M : Int} {cols rows : List Line} {cells : List Cell} (hM : Mid M) (hM2 : 5 * (M + 20) ≤ 100000000000000) (h1 : LinesOk cols) (h2 : LinesOk rows) (hc : ∀ c ∈ cells, CellOk M cols.length rows.length c) (hn : cells.length ≤ 1000) {r : Rect} (hr : RS r) (hrx : -8000000000000000 ≤ r.x ∧ r.x ≤ 8000000000000000) (hry : -8000000000000000 ≤ r.y ∧ r.y ≤ 8000000000000000) :
    PC s_gridded [.agg [.rsl (cols.map encLine), .rsl (rows.map encLine), .rsl (cells.map encCell)], .agg (encRect r)] (.one (.sl ((griddedF cols rows cells r).map encRect)), []) := by
  refine lift ?_
  have hb := hM.big
  have hw : Room r.w := hr.b.w
  have hh : Room r.h := hr.b.h
  have rx := cols_ok h1 hb hM2 (spansC_ok hc) hw.2
  have ry := cols_ok h2 hb hM2 (spansR_ok hc) hh.2
  have hm1 := hM.1
  have l0 := s_cells hM (by omega) (Int.le_refl _) h1.2.2 h2.2.2 rx ry hc hn hr hrx hry (cols.map encLine) (rows.map encLine)
  refine s_gridded.w1 cols rows cells r (cells.map spanC) _ _ (cells.map spanR) _ _ cells.length _ (by simp [griddedF]) (s_colSpans.c cols rows cells hM hc hn) (s_wished.c cols _ h1 hb (spansC_ok hc) (by simpa using hn)) (s_sized.c h1 ⟨by omega, by omega⟩ (wish_min h1 hb.1 (spansC_ok hc)) (wish_ok h1 hb.1 (spansC_ok hc)) hw) (s_rowSpans.c cols rows cells hM hc hn) (s_wished.c rows _ h2 hb (spansR_ok hc) (by simpa using hn)) (s_sized.c h2 ⟨by omega, by omega⟩ (wish_min h2 hb.1 (spansR_ok hc)) (wish_ok h2 hb.1 (spansR_ok hc)) hh) ?_
  rw [List.length_map, List.length_map, rx.len, ry.len]
  exact l0
end Go.Proofs.Ytdgamfanffnhaaa.PI
namespace Go.Proofs.Ytdgamfanffnhaaa.PI
open Go
theorem at_node {nodes : List Node} {k : Nat} (h : k < nodes.length) : (nodes.map encNode)[((k : Nat) : Int).toNat]? = some (encNode (nodeAt nodes k)) := by
  rw [nodeAt_eq h]; exact at_map h
def kidsTo (nodes : List Node) (i j : Nat) : List Nat := (List.range j).filter fun k => (nodeAt nodes k).parent == (i : Int)
theorem kidsTo_succ (nodes : List Node) (i j : Nat) : kidsTo nodes i (j + 1) = if ((nodeAt nodes j).parent == (i : Int)) = true then kidsTo nodes i j ++ [j] else kidsTo nodes i j := by
  unfold kidsTo
  rw [List.range_succ, List.filter_append]
  cases h : (nodeAt nodes j).parent == (i : Int) with
  | true => simp [h]
  | false => simp [h]
theorem ints_snoc (l : List Nat) (k : Nat) : (ints l).map encInt ++ [[C.int .i64 (k : Nat)]] = (ints (l ++ [k])).map encInt := by
  unfold ints; rw [List.map_append, List.map_append]; rfl
theorem kidsTo_len (nodes : List Node) (i j : Nat) : (kidsTo nodes i j).length ≤ j := by
  unfold kidsTo; refine Nat.le_trans (List.length_filter_le _ _) ?_; simp
theorem i_Tree_kids.c (nodes : List Node) (hn : nodes.length ≤ 1000) (i : Nat) : PC i_Tree_kids [.agg [.rsl (nodes.map encNode)], vI i] (.one (.sl ((ints (kidsF nodes i)).map encInt)), []) := by
  refine lift ?_
  have := loop_exit (step := i_Tree_kids.r0 CC lpW) (S := fun j => i_Tree_kids.s0 i ((ints (kidsTo nodes i j)).map encInt).length (nodes.map encNode) ((nodes.map encNode).length : Nat) (j : Nat) (nodes.map encNode) ((ints (kidsTo nodes i j)).map encInt)) nodes.length (fun j hj => by
    have hl := kidsTo_len nodes i j
    rw [kidsTo_succ]
    cases hp : (nodeAt nodes j).parent == (i : Int) with
    | true =>
      have := i_Tree_kids.l0_1 (call := CC) (lp := lpW) i ((ints (kidsTo nodes i j)).map encInt).length (nodes.map encNode) ((nodes.map encNode).length : Nat) (j : Nat) (nodes.map encNode) ((ints (kidsTo nodes i j)).map encInt) (nodeAt nodes j) (by simpa using hj) (by simp) hp (by simp) (uni_int _) (by simp [ints]; omega) (at_node hj)
      rw [this, w64_succ (by omega), ints_snoc, if_pos rfl]
    | false =>
      have := i_Tree_kids.l0_3 (call := CC) (lp := lpW) i ((ints (kidsTo nodes i j)).map encInt).length (nodes.map encNode) ((nodes.map encNode).length : Nat) (j : Nat) (nodes.map encNode) ((ints (kidsTo nodes i j)).map encInt) (nodeAt nodes j) (by simpa using hj) (by simp) hp (at_node hj)
      rw [this, w64_succ (by omega), if_neg (by decide)]) (i_Tree_kids.l0_2 _ _ _ _ _ _ _ (by simp))
  exact i_Tree_kids.w1 nodes i ((ints (kidsF nodes i)).map encInt).length _ (by simp) (by simpa [kidsTo, kidsF, ints] using this)
theorem s_kidsOf.c (nodes : List Node) (ht : TreeOk nodes) (i : Nat) : PC s_kidsOf [.agg [.rsl (nodes.map encNode)], vI i] (.one (.sl ((ints (kidsF nodes i)).map encInt)), []) := by
  refine lift ?_
  have hle := ht.le
  obtain ⟨n, hn⟩ : ∃ n, nodes.length = n + 1 := ⟨nodes.length - 1, by have := ht.pos; omega⟩
  have h0 : kidsTo nodes i 1 = [] := by
    have := (ht.node 0 ht.pos).root rfl
    have h : ((nodeAt nodes 0).parent == (i : Int)) = false := by rw [this, beq_eq_false_iff_ne]; omega
    rw [kidsTo_succ, h, if_neg (by decide)]; rfl
  have := loop_exit (step := s_kidsOf.r0 CC lpW) (S := fun j => s_kidsOf.s0 i ((ints (kidsTo nodes i (j + 1))).map encInt).length (j + 1 : Nat) (nodes.map encNode) ((ints (kidsTo nodes i (j + 1))).map encInt)) n (fun j hj => by
    have hl := kidsTo_len nodes i (j + 1)
    have hj1 : j + 1 < nodes.length := by omega
    rw [kidsTo_succ nodes i (j + 1)]
    cases hp : (nodeAt nodes (j + 1)).parent == (i : Int) with
    | true =>
      have := s_kidsOf.l0_1 (call := CC) (lp := lpW) i ((ints (kidsTo nodes i (j + 1))).map encInt).length (j + 1 : Nat) (nodes.map encNode) ((ints (kidsTo nodes i (j + 1))).map encInt) (nodeAt nodes (j + 1)) (by rw [decide_eq_true_eq, List.length_map]; omega) (by rw [decide_eq_true_eq]; omega) hp (by simp) (uni_int _) (by simp [ints]; omega) (at_node hj1)
      rw [this, w64_succ (by omega), ints_snoc, if_pos rfl]
    | false =>
      have := s_kidsOf.l0_3 (call := CC) (lp := lpW) i ((ints (kidsTo nodes i (j + 1))).map encInt).length (j + 1 : Nat) (nodes.map encNode) ((ints (kidsTo nodes i (j + 1))).map encInt) (nodeAt nodes (j + 1)) (by rw [decide_eq_true_eq, List.length_map]; omega) (by rw [decide_eq_true_eq]; omega) hp (at_node hj1)
      rw [this, w64_succ (by omega), if_neg (by decide)]) (s_kidsOf.l0_2 _ _ _ _ _ (by rw [decide_eq_false_iff_not, List.length_map]; omega))
  have hk : kidsTo nodes i (n + 1) = kidsF nodes i := by unfold kidsTo kidsF; rw [hn]
  rw [hk, h0] at this
  exact s_kidsOf.w1 nodes i ((ints (kidsF nodes i)).map encInt).length _ (by simp) (by simpa [ints] using this)
theorem at_ints {l : List Nat} {j : Nat} (h : j < l.length) : ((ints l).map encInt)[((j : Nat) : Int).toNat]? = some [C.int .i64 (l[j] : Nat)] := by
  have : j < (ints l).length := by simpa [ints] using h
  rw [at_int this]; simp [ints]
theorem len_ints (l : List Nat) : ((ints l).map encInt).length = l.length := by simp [ints]
theorem i_Tree_packs.c (nodes : List Node) (l : List Nat) (hl : ∀ k ∈ l, k < nodes.length) (hn : l.length ≤ 1000) (sz : Nat → Int × Int) (ih : ∀ k ∈ l, PC i_Tree_request [.agg [.rsl (nodes.map encNode)], vI (k : Nat)] (.tup [vI (sz k).1, vI (sz k).2], [])) :
    PC i_Tree_packs [.agg [.rsl (nodes.map encNode)], .one (.rsl ((ints l).map encInt))] (.one (.sl ((l.map (packOf nodes sz)).map encPack)), []) := by
  refine lift ?_
  have := loop_exit (step := i_Tree_packs.r0 CC lpW) (S := fun j => i_Tree_packs.s0 (((l.take j).map (packOf nodes sz)).map encPack).length ((ints l).map encInt) (((ints l).map encInt).length : Nat) (j : Nat) (nodes.map encNode) (((l.take j).map (packOf nodes sz)).map encPack)) l.length (fun j hj => by
    have hk := hl _ (List.getElem_mem hj)
    have := i_Tree_packs.l0_1 (call := CC) (lp := lpW) (((l.take j).map (packOf nodes sz)).map encPack).length ((ints l).map encInt) (((ints l).map encInt).length : Nat) (j : Nat) (nodes.map encNode) (((l.take j).map (packOf nodes sz)).map encPack) (l[j] : Nat) (nodeAt nodes l[j]) (sz l[j]).1 (sz l[j]).2 (by rw [len_ints, decide_eq_true_eq]; omega) (by simp) (by simp) (by simp) (uni_map (f := encPack) (fun _ => rfl) _) (by simp; omega) (at_ints hj) (at_node hk) (ih _ (List.getElem_mem hj))
    have e := map_succ2 (g := packOf nodes sz) (f := encPack) hj
    rw [this, w64_succ (by omega), ← e]
    rfl) (i_Tree_packs.l0_2 _ _ _ _ _ _ (by rw [len_ints, decide_eq_false_iff_not]; omega))
  rw [List.take_length] at this
  exact i_Tree_packs.w1 nodes (ints l) ((l.map (packOf nodes sz)).map encPack).length _ (by simp) (by simpa using this)
theorem s_packsOf.c (nodes : List Node) (l : List Nat) (hl : ∀ k ∈ l, k < nodes.length) (hn : l.length ≤ 1000) (sz : Nat → Int × Int) (ih : ∀ k ∈ l, PC s_sizeOf [.agg [.rsl (nodes.map encNode)], vI (k : Nat)] (.tup [vI (sz k).1, vI (sz k).2], [])) :
    PC s_packsOf [.agg [.rsl (nodes.map encNode)], .one (.rsl ((ints l).map encInt))] (.one (.sl ((l.map (packOf nodes sz)).map encPack)), []) := by
  refine lift ?_
  have := loop_exit (step := s_packsOf.r0 CC lpW) (S := fun j => s_packsOf.s0 ((ints l).map encInt) (((l.take j).map (packOf nodes sz)).map encPack).length (j : Nat) (nodes.map encNode) (((l.take j).map (packOf nodes sz)).map encPack)) l.length (fun j hj => by
    have hk := hl _ (List.getElem_mem hj)
    have := s_packsOf.l0_1 (call := CC) (lp := lpW) ((ints l).map encInt) (((l.take j).map (packOf nodes sz)).map encPack).length (j : Nat) (nodes.map encNode) (((l.take j).map (packOf nodes sz)).map encPack) (l[j] : Nat) (nodeAt nodes l[j]) (sz l[j]).1 (sz l[j]).2 (by rw [len_ints, decide_eq_true_eq]; omega) (by simp) (by simp) (by simp) (uni_map (f := encPack) (fun _ => rfl) _) (by simp; omega) (at_ints hj) (at_node hk) (ih _ (List.getElem_mem hj))
    have e := map_succ2 (g := packOf nodes sz) (f := encPack) hj
    rw [this, w64_succ (by omega), ← e]
    rfl) (s_packsOf.l0_2 _ _ _ _ _ (by rw [len_ints, decide_eq_false_iff_not]; omega))
  rw [List.take_length] at this
  exact s_packsOf.w1 nodes (ints l) ((l.map (packOf nodes sz)).map encPack).length _ (by simp) (by simpa using this)
theorem i_Tree_grid.c (nodes : List Node) (i : Nat) (hi : i < nodes.length) (l : List Nat) (hl : ∀ k ∈ l, k < nodes.length) (hn : l.length ≤ 1000) (sz : Nat → Int × Int) (ih : ∀ k ∈ l, PC i_Tree_request [.agg [.rsl (nodes.map encNode)], vI (k : Nat)] (.tup [vI (sz k).1, vI (sz k).2], [])) :
    PC i_Tree_grid [.agg [.rsl (nodes.map encNode)], vI i, .one (.rsl ((ints l).map encInt))] (.agg [.rsl ((nodeAt nodes i).cols.map encLine), .rsl ((nodeAt nodes i).rows.map encLine), .sl ((l.map (cellOf nodes sz)).map encCell)], []) := by
  refine lift ?_
  have := loop_exit (step := i_Tree_grid.r0 CC lpW) (S := fun j => i_Tree_grid.s0 ((ints l).map encInt) (((ints l).map encInt).length : Nat) (j : Nat) (nodes.map encNode) ((nodeAt nodes i).cols.map encLine) ((nodeAt nodes i).rows.map encLine) (((l.take j).map (cellOf nodes sz)).map encCell).length (((l.take j).map (cellOf nodes sz)).map encCell)) l.length (fun j hj => by
    have hk := hl _ (List.getElem_mem hj)
    have := i_Tree_grid.l0_1 (call := CC) (lp := lpW) ((ints l).map encInt) (((ints l).map encInt).length : Nat) (j : Nat) (nodes.map encNode) ((nodeAt nodes i).cols.map encLine) ((nodeAt nodes i).rows.map encLine) (((l.take j).map (cellOf nodes sz)).map encCell).length (((l.take j).map (cellOf nodes sz)).map encCell) (l[j] : Nat) (nodeAt nodes l[j]) (sz l[j]).1 (sz l[j]).2 (by rw [len_ints, decide_eq_true_eq]; omega) (by simp) (by simp) (by simp) (uni_map (f := encCell) (fun _ => rfl) _) (by simp; omega) (at_ints hj) (at_node hk) (ih _ (List.getElem_mem hj))
    have e := map_succ2 (g := cellOf nodes sz) (f := encCell) hj
    rw [this, w64_succ (by omega), ← e]
    rfl) (i_Tree_grid.l0_2 _ _ _ _ _ _ _ _ (by rw [len_ints, decide_eq_false_iff_not]; omega))
  rw [List.take_length] at this
  exact i_Tree_grid.w1 nodes i (ints l) (nodeAt nodes i) (nodes.map encNode) _ _ ((l.map (cellOf nodes sz)).map encCell).length _ (by simp) (by simp) (at_node hi) (by simpa using this)
theorem s_gridOf.c (nodes : List Node) (i : Nat) (hi : i < nodes.length) (l : List Nat) (hl : ∀ k ∈ l, k < nodes.length) (hn : l.length ≤ 1000) (sz : Nat → Int × Int) (ih : ∀ k ∈ l, PC s_sizeOf [.agg [.rsl (nodes.map encNode)], vI (k : Nat)] (.tup [vI (sz k).1, vI (sz k).2], [])) :
    PC s_gridOf [.agg [.rsl (nodes.map encNode)], vI i, .one (.rsl ((ints l).map encInt))] (.agg [.rsl ((nodeAt nodes i).cols.map encLine), .rsl ((nodeAt nodes i).rows.map encLine), .sl ((l.map (cellOf nodes sz)).map encCell)], []) := by
  refine lift ?_
  have := loop_exit (step := s_gridOf.r0 CC lpW) (S := fun j => s_gridOf.s0 ((ints l).map encInt) (j : Nat) (nodes.map encNode) ((nodeAt nodes i).cols.map encLine) ((nodeAt nodes i).rows.map encLine) (((l.take j).map (cellOf nodes sz)).map encCell).length (((l.take j).map (cellOf nodes sz)).map encCell)) l.length (fun j hj => by
    have hk := hl _ (List.getElem_mem hj)
    have := s_gridOf.l0_1 (call := CC) (lp := lpW) ((ints l).map encInt) (j : Nat) (nodes.map encNode) ((nodeAt nodes i).cols.map encLine) ((nodeAt nodes i).rows.map encLine) (((l.take j).map (cellOf nodes sz)).map encCell).length (((l.take j).map (cellOf nodes sz)).map encCell) (l[j] : Nat) (nodeAt nodes l[j]) (sz l[j]).1 (sz l[j]).2 (by rw [len_ints, decide_eq_true_eq]; omega) (by simp) (by simp) (by simp) (uni_map (f := encCell) (fun _ => rfl) _) (by simp; omega) (at_ints hj) (at_node hk) (ih _ (List.getElem_mem hj))
    have e := map_succ2 (g := cellOf nodes sz) (f := encCell) hj
    rw [this, w64_succ (by omega), ← e]
    rfl) (s_gridOf.l0_2 _ _ _ _ _ _ _ (by rw [len_ints, decide_eq_false_iff_not]; omega))
  rw [List.take_length] at this
  exact s_gridOf.w1 nodes i (ints l) (nodeAt nodes i) (nodes.map encNode) _ _ ((l.map (cellOf nodes sz)).map encCell).length _ (by simp) (by simp) (at_node hi) (by simpa using this)
theorem kids_none {l : List Nat} : ((((((ints l).map encInt).length : Nat) : Int) == 0) = true ↔ l = []) := by
  rw [len_ints, beq_iff_eq]
  constructor
  · intro h; exact List.length_eq_zero_iff.1 (by omega)
  · rintro rfl; rfl
theorem kinds {nodes : List Node} (ht : TreeOk nodes) {i : Nat} (hi : i < nodes.length) (h2 : ¬ (nodeAt nodes i).kind = 2) (h0 : ¬ (nodeAt nodes i).kind = 0) : (nodeAt nodes i).kind = 1 := by
  rcases (ht.node i hi).kind with h | h | h
  · exact absurd h h0
  · exact h
  · exact absurd h h2
theorem i_Tree_request.c {nodes : List Node} (ht : TreeOk nodes) : ∀ (d i : Nat), i < nodes.length → nodes.length - i ≤ d → PC i_Tree_request [.agg [.rsl (nodes.map encNode)], vI (i : Nat)] (.tup [vI (sizeF nodes i).1, vI (sizeF nodes i).2], [])
  | 0, i, h, hd => by omega
  | d + 1, i, h, hd => by
    have hle := ht.le
    have ih : ∀ k ∈ kidsF nodes i, PC i_Tree_request [.agg [.rsl (nodes.map encNode)], vI (k : Nat)] (.tup [vI (sizeF nodes k).1, vI (sizeF nodes k).2], []) := fun k hk => by
      obtain ⟨a, b, _⟩ := kids_mem ht hk
      exact i_Tree_request.c ht d k a (by omega)
    have hkl : ∀ k ∈ kidsF nodes i, k < nodes.length := fun k hk => (kids_mem ht hk).1
    have hk9 := kids_len ht i
    have k1 := i_Tree_kids.c nodes (by omega) i
    have hp : (0 : Int) ≤ (i : Nat) := by omega
    refine lift ?_
    rw [sizeF_eq ht h]
    unfold sizeBody
    cases hkeep : (nodeAt nodes i).keep with
    | true =>
      rw [if_pos (.inl rfl)]
      exact i_Tree_request.w1 nodes i _ _ (by simp) hkeep (at_node h) k1
    | false =>
    by_cases hkn : kidsF nodes i = []
    · rw [if_pos (.inr (.inl hkn))]
      exact i_Tree_request.w2 nodes i _ _ (by simp) hkeep (kids_none.2 hkn) (at_node h) k1
    · have hkn' : ((((((ints (kidsF nodes i)).map encInt).length : Nat) : Int) == 0) = false) := by
        cases hh : ((((ints (kidsF nodes i)).map encInt).length : Nat) : Int) == 0 with
        | false => rfl
        | true => exact absurd (kids_none.1 hh) hkn
      by_cases h2 : (nodeAt nodes i).kind = 2
      · rw [if_pos (.inr (.inr h2))]
        exact i_Tree_request.w3 nodes i _ _ (by simp) hkeep hkn' (by rw [h2]; rfl) (at_node h) k1
      · rw [if_neg (fun c => c.elim (fun c => by cases c) fun c => c.elim hkn h2)]
        have hbd : ∀ k ∈ kidsF nodes i, SzB 10000000000000 (sizeF nodes k) := fun k hk => size_mid ht (hkl k hk)
        by_cases h0 : (nodeAt nodes i).kind = 0
        · rw [if_pos h0]
          exact i_Tree_request.w4 nodes i _ _ _ _ _ (by simp) hkeep hkn' (beq_eq_false_iff_ne.2 h2) (by rw [h0]; rfl) (at_node h) k1 (i_Tree_packs.c nodes _ hkl (by omega) (sizeF nodes) ih) (i_packRequest.c (M := 10000000000000) ⟨by omega, by omega⟩ _ (packOf_ok ht hkl hbd) (by rw [List.length_map]; omega))
        · rw [if_neg h0]
          have h1 := kinds ht h h2 h0
          have hlines := (ht.node i h).lines h1
          exact i_Tree_request.w5 nodes i _ _ _ _ _ _ _ (by simp) hkeep hkn' (beq_eq_false_iff_ne.2 h2) (beq_eq_false_iff_ne.2 h0) (at_node h) k1 (i_Tree_grid.c nodes i h _ hkl (by omega) (sizeF nodes) ih) (i_Grid_request.c (M := 10000000000000) _ _ _ ⟨by omega, by omega⟩ hlines.1 hlines.2 (cellOf_ok ht h1 hbd) (by rw [List.length_map]; omega))
theorem s_sizeOf.c {nodes : List Node} (ht : TreeOk nodes) : ∀ (d i : Nat), i < nodes.length → nodes.length - i ≤ d → PC s_sizeOf [.agg [.rsl (nodes.map encNode)], vI (i : Nat)] (.tup [vI (sizeF nodes i).1, vI (sizeF nodes i).2], [])
  | 0, i, h, hd => by omega
  | d + 1, i, h, hd => by
    have hle := ht.le
    have ih : ∀ k ∈ kidsF nodes i, PC s_sizeOf [.agg [.rsl (nodes.map encNode)], vI (k : Nat)] (.tup [vI (sizeF nodes k).1, vI (sizeF nodes k).2], []) := fun k hk => by
      obtain ⟨a, b, _⟩ := kids_mem ht hk
      exact s_sizeOf.c ht d k a (by omega)
    have hkl : ∀ k ∈ kidsF nodes i, k < nodes.length := fun k hk => (kids_mem ht hk).1
    have hk9 := kids_len ht i
    have k1 := s_kidsOf.c nodes ht i
    have hp : (0 : Int) ≤ (i : Nat) := by omega
    refine lift ?_
    rw [sizeF_eq ht h]
    unfold sizeBody
    cases hkeep : (nodeAt nodes i).keep with
    | true =>
      rw [if_pos (.inl rfl)]
      exact s_sizeOf.w1 nodes i _ _ (by simp) hkeep (at_node h) k1
    | false =>
    by_cases hkn : kidsF nodes i = []
    · rw [if_pos (.inr (.inl hkn))]
      exact s_sizeOf.w2 nodes i _ _ (by simp) hkeep (kids_none.2 hkn) (at_node h) k1
    · have hkn' : ((((((ints (kidsF nodes i)).map encInt).length : Nat) : Int) == 0) = false) := by
        cases hh : ((((ints (kidsF nodes i)).map encInt).length : Nat) : Int) == 0 with
        | false => rfl
        | true => exact absurd (kids_none.1 hh) hkn
      by_cases h2 : (nodeAt nodes i).kind = 2
      · rw [if_pos (.inr (.inr h2))]
        exact s_sizeOf.w3 nodes i _ _ (by simp) hkeep hkn' (by rw [h2]; rfl) (at_node h) k1
      · rw [if_neg (fun c => c.elim (fun c => by cases c) fun c => c.elim hkn h2)]
        have hbd : ∀ k ∈ kidsF nodes i, SzB 10000000000000 (sizeF nodes k) := fun k hk => size_mid ht (hkl k hk)
        by_cases h0 : (nodeAt nodes i).kind = 0
        · rw [if_pos h0]
          exact s_sizeOf.w4 nodes i _ _ _ _ _ (by simp) hkeep hkn' (beq_eq_false_iff_ne.2 h2) (by rw [h0]; rfl) (at_node h) k1 (s_packsOf.c nodes _ hkl (by omega) (sizeF nodes) ih) (s_request.c (M := 10000000000000) ⟨by omega, by omega⟩ _ (packOf_ok ht hkl hbd) (by rw [List.length_map]; omega))
        · rw [if_neg h0]
          have h1 := kinds ht h h2 h0
          have hlines := (ht.node i h).lines h1
          exact s_sizeOf.w5 nodes i _ _ _ _ _ _ _ (by simp) hkeep hkn' (beq_eq_false_iff_ne.2 h2) (beq_eq_false_iff_ne.2 h0) (at_node h) k1 (s_gridOf.c nodes i h _ hkl (by omega) (sizeF nodes) ih) (s_gridRequest.c (M := 10000000000000) _ _ _ ⟨by omega, by omega⟩ hlines.1 hlines.2 (cellOf_ok ht h1 hbd) (by rw [List.length_map]; omega))
theorem i_size {nodes : List Node} (ht : TreeOk nodes) {i : Nat} (h : i < nodes.length) : PC i_Tree_request [.agg [.rsl (nodes.map encNode)], vI (i : Nat)] (.tup [vI (sizeF nodes i).1, vI (sizeF nodes i).2], []) := i_Tree_request.c ht nodes.length i h (by omega)
theorem s_size {nodes : List Node} (ht : TreeOk nodes) {i : Nat} (h : i < nodes.length) : PC s_sizeOf [.agg [.rsl (nodes.map encNode)], vI (i : Nat)] (.tup [vI (sizeF nodes i).1, vI (sizeF nodes i).2], []) := s_sizeOf.c ht nodes.length i h (by omega)
end Go.Proofs.Ytdgamfanffnhaaa.PI
namespace Go.Proofs.Ytdgamfanffnhaaa.PI
open Go
def kidPacks (nodes : List Node) (i : Nat) : List Pack := (kidsF nodes i).map (packOf nodes (sizeF nodes))
def kidCells (nodes : List Node) (i : Nat) : List Cell := (kidsF nodes i).map (cellOf nodes (sizeF nodes))
def kidRects (nodes : List Node) (i : Nat) (r : Rect) : List Rect :=
  if (nodeAt nodes i).kind = 0 then packedF (kidPacks nodes i) r
  else if (nodeAt nodes i).kind = 1 then griddedF (nodeAt nodes i).cols (nodeAt nodes i).rows (kidCells nodes i) r
  else (kidsF nodes i).map fun k => placedF (nodeAt nodes k).place r
theorem kidRects_len (nodes : List Node) (i : Nat) (r : Rect) : (kidRects nodes i r).length = (kidsF nodes i).length := by
  unfold kidRects
  split
  · rw [len_packed]; simp [kidPacks]
  · split
    · simp [griddedF, kidCells]
    · simp
theorem kidRects_shift (dx dy : Int) (nodes : List Node) (i : Nat) (r : Rect) : kidRects nodes i (shift dx dy r) = (kidRects nodes i r).map (shift dx dy) := by
  unfold kidRects
  split
  · exact packed_shift _ _ _ _
  · split
    · exact gridded_shift _ _ _ _ _ _
    · rw [List.map_map]
      apply List.map_congr_left
      intro k _
      exact placed_shift _ _ _ _
def par (nodes : List Node) (k : Nat) : Nat := (nodeAt nodes k).parent.toNat
theorem par_lt {nodes : List Node} (ht : TreeOk nodes) {k : Nat} (hk : k < nodes.length) (h0 : 0 < k) : par nodes k < k ∧ (nodeAt nodes k).parent = (par nodes k : Nat) := by
  have := (ht.node k hk).up h0
  unfold par; omega
theorem mem_kids_par {nodes : List Node} (ht : TreeOk nodes) {k : Nat} (hk : k < nodes.length) (h0 : 0 < k) : k ∈ kidsF nodes (par nodes k) := kids_iff.2 ⟨hk, (par_lt ht hk h0).2⟩
theorem kids_par {nodes : List Node} (ht : TreeOk nodes) {i k : Nat} (h : k ∈ kidsF nodes i) : par nodes k = i := by
  have := (kids_mem ht h).2.2
  unfold par; omega
theorem idx_at {l : List Nat} (hn : l.Nodup) : ∀ {j : Nat} (h : j < l.length), l.idxOf l[j] = j := by
  induction l with
  | nil => intro j h; simp at h
  | cons a l ih =>
    intro j h
    rw [List.nodup_cons] at hn
    cases j with
    | zero => simp
    | succ j =>
      have hl : j < l.length := by simpa using h
      have hne : a ≠ l[j] := fun c => hn.1 (c ▸ List.getElem_mem hl)
      rw [List.getElem_cons_succ, List.idxOf_cons, cond_eq_ite, if_neg (by simpa using hne), ih hn.2 hl]
theorem kids_nodup (nodes : List Node) (i : Nat) : (kidsF nodes i).Nodup := List.Nodup.sublist List.filter_sublist List.nodup_range
def rectN (nodes : List Node) (root : Rect) : Nat → Nat → Rect
  | 0, _ => root
  | f + 1, k => if k = 0 then root else ((kidRects nodes (par nodes k) (rectN nodes root f (par nodes k)))[(kidsF nodes (par nodes k)).idxOf k]?).getD default
def rectF (nodes : List Node) (root : Rect) (k : Nat) : Rect := rectN nodes root nodes.length k
theorem rectN_stable {nodes : List Node} (ht : TreeOk nodes) (root : Rect) : ∀ (f g k : Nat), k < nodes.length → k ≤ f → k ≤ g → rectN nodes root f k = rectN nodes root g k
  | 0, 0, _, _, _, _ => rfl
  | 0, g + 1, k, _, h, _ => by
    have : k = 0 := by omega
    subst this; rfl
  | f + 1, 0, k, _, _, h => by
    have : k = 0 := by omega
    subst this; rfl
  | f + 1, g + 1, k, hk, h1, h2 => by
    by_cases h0 : k = 0
    · subst h0; rfl
    · obtain ⟨p1, _⟩ := par_lt ht hk (by omega)
      show (if k = 0 then root else _) = (if k = 0 then root else _)
      rw [if_neg h0, if_neg h0, rectN_stable ht root f g (par nodes k) (by omega) (by omega) (by omega)]
theorem rect_zero (nodes : List Node) (root : Rect) : rectF nodes root 0 = root := by
  unfold rectF
  cases nodes.length <;> rfl
theorem rect_kid {nodes : List Node} (ht : TreeOk nodes) (root : Rect) {i : Nat} {j : Nat} (hj : j < (kidsF nodes i).length) : (kidRects nodes i (rectF nodes root i))[j]? = some (rectF nodes root (kidsF nodes i)[j]) := by
  have hm := List.getElem_mem hj
  obtain ⟨a, b, _⟩ := kids_mem ht hm
  have hp := kids_par ht hm
  obtain ⟨n, hn⟩ : ∃ n, nodes.length = n + 1 := ⟨nodes.length - 1, by omega⟩
  have hx : (kidsF nodes i).idxOf (kidsF nodes i)[j] = j := idx_at (kids_nodup nodes i) hj
  have hlt : j < (kidRects nodes i (rectF nodes root i)).length := by rw [kidRects_len]; exact hj
  rw [List.getElem?_eq_getElem hlt]
  generalize hk : (kidsF nodes i)[j] = k at a b hp hx ⊢
  have e : rectF nodes root k = ((kidRects nodes (par nodes k) (rectN nodes root n (par nodes k)))[(kidsF nodes (par nodes k)).idxOf k]?).getD default := by
    unfold rectF
    rw [hn]
    show (if k = 0 then root else _) = _
    rw [if_neg (by omega)]
  rw [e, hp, rectN_stable ht root n nodes.length i (by omega) (by omega) (by omega), hx]
  show _ = some (((kidRects nodes i (rectF nodes root i))[j]?).getD default)
  rw [List.getElem?_eq_getElem hlt]; rfl
structure LB (d : Nat) (r : Rect) : Prop where
  w : 0 ≤ r.w ∧ r.w ≤ 60000000000000 + 300 * d
  h : 0 ≤ r.h ∧ r.h ≤ 60000000000000 + 300 * d
  x : -(200000000000000 * d) ≤ r.x ∧ r.x ≤ 200000000000000 * d
  y : -(200000000000000 * d) ≤ r.y ∧ r.y ≤ 200000000000000 * d
theorem LB.mono {d e : Nat} {r : Rect} (h : LB d r) (hd : d ≤ e) : LB e r := by
  obtain ⟨h1, h2, h3, h4⟩ := h
  exact ⟨by omega, by omega, by omega, by omega⟩
theorem LB.rs {d : Nat} {r : Rect} (h : LB d r) (hd : d ≤ 10) : RS r ∧ (-8000000000000000 ≤ r.x ∧ r.x ≤ 8000000000000000) ∧ (-8000000000000000 ≤ r.y ∧ r.y ≤ 8000000000000000) ∧ r.w ≤ 90000000000000 ∧ r.h ≤ 90000000000000 := by
  obtain ⟨h1, h2, h3, h4⟩ := h
  exact ⟨⟨⟨by omega, by omega, by omega, by omega⟩, by omega, by omega⟩, by omega, by omega, by omega, by omega⟩
def M13 : Int := 10000000000000
theorem mid13 : Mid M13 := ⟨by decide, by decide⟩
theorem kidSizes {nodes : List Node} (ht : TreeOk nodes) {i : Nat} : ∀ k ∈ kidsF nodes i, SzB M13 (sizeF nodes k) := fun _ hk => size_mid ht (kids_mem ht hk).1
theorem kidPacks_ok {nodes : List Node} (ht : TreeOk nodes) (i : Nat) : ∀ p ∈ kidPacks nodes i, PackOk M13 p := packOf_ok ht (fun _ hk => (kids_mem ht hk).1) (kidSizes ht)
theorem kidCells_ok {nodes : List Node} (ht : TreeOk nodes) {i : Nat} (h1 : (nodeAt nodes i).kind = 1) : ∀ c ∈ kidCells nodes i, CellOk M13 (nodeAt nodes i).cols.length (nodeAt nodes i).rows.length c := cellOf_ok ht h1 (kidSizes ht)
theorem LB.inside {d : Nat} {r q : Rect} (h : LB d r) (hi : InR r q) (hd : d ≤ 10) : LB (d + 1) q := by
  obtain ⟨h1, h2, h3, h4⟩ := h
  unfold InR at hi
  exact ⟨by omega, by omega, by omega, by omega⟩
theorem packed_in {M : Int} (hM : 0 ≤ M) {l : List Pack} (hl : ∀ x ∈ l, PackOk M x) {r : Rect} (hr : RS r) (hx : -8000000000000000 ≤ r.x ∧ r.x ≤ 8000000000000000) (hy : -8000000000000000 ≤ r.y ∧ r.y ≤ 8000000000000000) : ∀ q ∈ packedF l r, InR r q := by
  intro q hq
  obtain ⟨j, hj, rfl⟩ := List.mem_iff_getElem.1 hq
  rw [len_packed] at hj
  rw [packed_at hj]
  exact (pieceN_in hM hl hr j).trans (settled_in (hl _ (List.getElem_mem hj)) (piece_rs hM hl hr hx hy j))
theorem kid_lb {nodes : List Node} (ht : TreeOk nodes) {i : Nat} (hi : i < nodes.length) {d : Nat} (hd : d ≤ 10) {r : Rect} (hr : LB d r) : ∀ q ∈ kidRects nodes i r, LB (d + 1) q := by
  obtain ⟨rs, rx, ry, rw9, rh9⟩ := hr.rs hd
  intro q hq
  unfold kidRects at hq
  by_cases h0 : (nodeAt nodes i).kind = 0
  · rw [if_pos h0] at hq
    exact hr.inside (packed_in (by decide) (kidPacks_ok ht i) rs rx ry q hq) hd
  · rw [if_neg h0] at hq
    by_cases h1 : (nodeAt nodes i).kind = 1
    · rw [if_pos h1] at hq
      obtain ⟨hl1, hl2⟩ := (ht.node i hi).lines h1
      have hc := kidCells_ok ht h1
      obtain ⟨c, hcm, rfl⟩ := List.mem_map.1 hq
      have hw := hr.w
      have hh := hr.h
      have hm : 5 * (M13 + 20) ≤ 60000000000000 + 300 * (d : Int) := by unfold M13; omega
      have rx := cols_ok hl1 mid13.big hm (spansC_ok hc) hw.2
      have ry := cols_ok hl2 mid13.big hm (spansR_ok hc) hh.2
      have hin := cellRect_in (by omega) rx ry rs (hc c hcm)
      have c1 := cut_sum rx 0 c.col.toNat
      have c2 := cut_sum rx c.col.toNat c.manyCols.toNat
      have c3 := cut_sum ry 0 c.row.toNat
      have c4 := cut_sum ry c.row.toNat c.manyRows.toNat
      have lx := hr.x
      have ly := hr.y
      show LB (d + 1) (cellRect (colsF (nodeAt nodes i).cols (kidCells nodes i) r.w) (rowsF (nodeAt nodes i).rows (kidCells nodes i) r.h) r c)
      unfold colsF rowsF
      generalize cellRect _ _ r c = q at hin ⊢
      unfold InR areaF at hin
      simp only at hin
      exact ⟨by omega, by omega, by omega, by omega⟩
    · rw [if_neg h1] at hq
      obtain ⟨k, hk, rfl⟩ := List.mem_map.1 hq
      have hp := placed_bd (ht.node k (kids_mem ht hk).1).place rs.b
      obtain ⟨h1, h2, h3, h4⟩ := hr
      exact ⟨by omega, by omega, by omega, by omega⟩
def rootR (w h : Int) : Rect := ⟨0, 0, w, h⟩
def RoomOk (w h : Int) : Prop := (0 ≤ w ∧ w ≤ 1000) ∧ 0 ≤ h ∧ h ≤ 1000
theorem rect_lb {nodes : List Node} (ht : TreeOk nodes) {w h : Int} (hr : RoomOk w h) : ∀ (k : Nat), k < nodes.length → LB k (rectF nodes (rootR w h) k) := by
  intro k
  induction k using Nat.strongRecOn with
  | ind k ih =>
    intro hk
    by_cases h0 : k = 0
    · subst h0
      rw [rect_zero]
      obtain ⟨h1, h2⟩ := hr
      unfold rootR
      exact ⟨by simp only; omega, by simp only; omega, by simp only; omega, by simp only; omega⟩
    · obtain ⟨p1, _⟩ := par_lt ht hk (by omega)
      have hm := mem_kids_par ht hk (by omega)
      obtain ⟨j, hj, hjk⟩ := List.mem_iff_getElem.1 hm
      have e := rect_kid ht (rootR w h) hj
      rw [hjk] at e
      have := kid_lb ht (i := par nodes k) (by omega) (d := par nodes k) (by have := ht.le; omega) (ih _ p1 (by omega)) _ (List.mem_of_getElem? e)
      exact this.mono (by omega)
def layoutF (nodes : List Node) (w h : Int) : List Rect := (List.range nodes.length).map (rectF nodes (rootR w h))
theorem layout_len (nodes : List Node) (w h : Int) : (layoutF nodes w h).length = nodes.length := by simp [layoutF]
theorem layout_at {nodes : List Node} {w h : Int} {k : Nat} (hk : k < nodes.length) : (layoutF nodes w h)[k]? = some (rectF nodes (rootR w h) k) := by simp [layoutF, hk]
open Classical in
noncomputable def mix (R : Nat → Rect) (N : Nat) (P : Nat → Prop) : List Rect := (List.range N).map fun k => if P k then R k else ⟨0, 0, 0, 0⟩
theorem mix_len (R : Nat → Rect) (N : Nat) (P : Nat → Prop) : (mix R N P).length = N := by simp [mix]
theorem mixR_at (R : Nat → Rect) {N : Nat} {P : Nat → Prop} {k : Nat} (hk : k < N) (hp : P k) : (mix R N P)[k]? = some (R k) := by
  unfold mix; rw [List.getElem?_map, List.getElem?_range hk]; simp [hp]
theorem mix_some (R : Nat → Rect) {N : Nat} (P : Nat → Prop) {k : Nat} (hk : k < N) : ∃ e, (mix R N P)[k]? = some e := ⟨_, List.getElem?_eq_getElem (by rw [mix_len]; exact hk)⟩
theorem mix_congr {R : Nat → Rect} {N : Nat} {P Q : Nat → Prop} (h : ∀ m, m < N → (P m ↔ Q m)) : mix R N P = mix R N Q := by
  unfold mix
  apply List.map_congr_left
  intro k hk
  rw [List.mem_range] at hk
  by_cases hp : P k
  · rw [if_pos hp, if_pos ((h k hk).1 hp)]
  · rw [if_neg hp, if_neg (fun c => hp ((h k hk).2 c))]
theorem mix_set {R : Nat → Rect} {N : Nat} {P : Nat → Prop} {k : Nat} : (mix R N P).set k (R k) = mix R N (fun m => P m ∨ m = k) := by
  apply List.ext_getElem?
  intro m
  by_cases hm : m < N
  · rw [List.getElem?_set]
    by_cases hk : k = m
    · subst hk
      rw [if_pos rfl, if_pos (by rw [mix_len]; exact hm), mixR_at R hm (.inr rfl)]
    · rw [if_neg hk]
      by_cases hp : P m
      · rw [mixR_at R hm hp, mixR_at R hm (.inl hp)]
      · unfold mix
        rw [List.getElem?_map, List.getElem?_map, List.getElem?_range hm]
        simp only [Option.map_some]
        rw [if_neg hp, if_neg (fun c => c.elim hp fun e => hk e.symm)]
  · rw [List.getElem?_eq_none (by rw [List.length_set, mix_len]; omega), List.getElem?_eq_none (by rw [mix_len]; omega)]
theorem mix_all {R : Nat → Rect} {N : Nat} {P : Nat → Prop} (h : ∀ m, m < N → P m) : mix R N P = (List.range N).map R := by
  unfold mix
  apply List.map_congr_left
  intro k hk
  rw [List.mem_range] at hk
  rw [if_pos (h k hk)]
inductive Desc (nodes : List Node) (i : Nat) : Nat → Prop
  | self : Desc nodes i i
  | step {u k : Nat} : Desc nodes i u → k ∈ kidsF nodes u → Desc nodes i k
theorem Desc.trans {nodes : List Node} {i u k : Nat} (h1 : Desc nodes i u) (h2 : Desc nodes u k) : Desc nodes i k := by
  induction h2 with
  | self => exact h1
  | step _ hk ih => exact .step ih hk
theorem desc_iff {nodes : List Node} {i k : Nat} : Desc nodes i k ↔ k = i ∨ ∃ u ∈ kidsF nodes i, Desc nodes u k := by
  constructor
  · intro h
    induction h with
    | self => exact .inl rfl
    | step _ hk ih =>
      rcases ih with rfl | ⟨v, hv, hd⟩
      · exact .inr ⟨_, hk, .self⟩
      · exact .inr ⟨v, hv, .step hd hk⟩
  · rintro (rfl | ⟨u, hu, hd⟩)
    · exact .self
    · exact (Desc.step .self hu).trans hd
theorem desc_root {nodes : List Node} (ht : TreeOk nodes) : ∀ k, k < nodes.length → Desc nodes 0 k := by
  intro k
  induction k using Nat.strongRecOn with
  | ind k ih =>
    intro hk
    by_cases h0 : k = 0
    · subst h0; exact .self
    · obtain ⟨p1, _⟩ := par_lt ht hk (by omega)
      exact .step (ih _ p1 (by omega)) (mem_kids_par ht hk (by omega))
end Go.Proofs.Ytdgamfanffnhaaa.PI
namespace Go.Proofs.Ytdgamfanffnhaaa.PI
open Go
theorem mem_take_succ {α : Type} {l : List α} {j : Nat} (h : j < l.length) (m : α) : m ∈ l.take (j + 1) ↔ m ∈ l.take j ∨ m = l[j] := by
  rw [List.take_add_one, List.getElem?_eq_getElem h, List.mem_append]; simp
theorem kid_cells {nodes : List Node} (ht : TreeOk nodes) {w h : Int} (hr : RoomOk w h) {i : Nat} (hi : i < nodes.length) {j : Nat} (hj : j < (kidsF nodes i).length) :
    ∃ q, (kidRects nodes i (org (rectF nodes (rootR w h) i)))[j]? = some q ∧
      [C.int .i64 (w64 ((rectF nodes (rootR w h) i).x + q.x)), C.int .i64 (w64 ((rectF nodes (rootR w h) i).y + q.y)), C.int .i64 q.w, C.int .i64 q.h] = encRect (rectF nodes (rootR w h) (kidsF nodes i)[j]) := by
  have e := rect_kid ht (rootR w h) hj
  have hle := ht.le
  have hk := (kids_mem ht (List.getElem_mem hj)).1
  have hb := rect_lb ht hr _ hk
  generalize rectF nodes (rootR w h) (kidsF nodes i)[j] = R at e hb ⊢
  have e2 : kidRects nodes i (rectF nodes (rootR w h) i) = (kidRects nodes i (org (rectF nodes (rootR w h) i))).map (shift (rectF nodes (rootR w h) i).x (rectF nodes (rootR w h) i).y) := by
    rw [← kidRects_shift, shift_org]
  rw [e2, List.getElem?_map] at e
  cases hq : (kidRects nodes i (org (rectF nodes (rootR w h) i)))[j]? with
  | none => rw [hq] at e; cases e
  | some q =>
    rw [hq] at e
    injection e with e
    refine ⟨q, rfl, ?_⟩
    subst e
    obtain ⟨h1, h2, h3, h4⟩ := hb
    unfold shift at h1 h2 h3 h4 ⊢
    simp only at h1 h2 h3 h4
    rw [w64_id (by omega) (by omega), w64_id (by omega) (by omega)]
    rfl
theorem at_rects {l : List Rect} {j : Nat} {q : Rect} (h : l[j]? = some q) : (l.map encRect)[((j : Nat) : Int).toNat]? = some (encRect q) := at_rect? h
def kidQ (nodes : List Node) (i j : Nat) (m : Nat) : Prop := (m = 0 ∨ par nodes m < i) ∨ m ∈ (kidsF nodes i).take j
theorem kidQ_step {nodes : List Node} (R : Nat → Rect) (i : Nat) {j : Nat} (hj : j < (kidsF nodes i).length) : (mix R nodes.length (kidQ nodes i j)).set (kidsF nodes i)[j] (R (kidsF nodes i)[j]) = mix R nodes.length (kidQ nodes i (j + 1)) := by
  rw [mix_set]
  apply mix_congr
  intro m _
  unfold kidQ
  rw [mem_take_succ hj]
  constructor
  · rintro ((h | h) | h)
    · exact .inl h
    · exact .inr (.inl h)
    · exact .inr (.inr h)
  · rintro (h | h | h)
    · exact .inl (.inl h)
    · exact .inl (.inr h)
    · exact .inr h
theorem kidQ_zero {nodes : List Node} (R : Nat → Rect) (i : Nat) : mix R nodes.length (kidQ nodes i 0) = mix R nodes.length (fun m => m = 0 ∨ par nodes m < i) := by
  apply mix_congr
  intro m _
  unfold kidQ
  simp
theorem kidQ_all {nodes : List Node} (ht : TreeOk nodes) (R : Nat → Rect) (i : Nat) : mix R nodes.length (kidQ nodes i (kidsF nodes i).length) = mix R nodes.length (fun m => m = 0 ∨ par nodes m < i + 1) := by
  apply mix_congr
  intro m hm
  unfold kidQ
  rw [List.take_length]
  constructor
  · rintro ((h | h) | h)
    · exact .inl h
    · exact .inr (by omega)
    · exact .inr (by rw [kids_par ht h]; omega)
  · rintro (h | h)
    · exact .inl (.inl h)
    · by_cases h0 : m = 0
      · exact .inl (.inl h0)
      · by_cases hlt : par nodes m < i
        · exact .inl (.inr hlt)
        · have : par nodes m = i := by omega
          have hk := mem_kids_par ht hm (by omega)
          rw [this] at hk
          exact .inr hk
theorem org_rs {d : Nat} {r : Rect} (h : LB d r) (hd : d ≤ 10) : RS ⟨0, 0, r.w, r.h⟩ := by
  obtain ⟨h1, h2, _, _⟩ := h
  exact ⟨⟨by simp, by simp, by simp only; omega, by simp only; omega⟩, by simp, by simp⟩
theorem i_Tree_layout.c {nodes : List Node} (ht : TreeOk nodes) {w h : Int} (hr : RoomOk w h) : PC i_Tree_layout [.agg [.rsl (nodes.map encNode)], vI w, vI h] (.one (.sl ((layoutF nodes w h).map encRect)), []) := by
  refine lift ?_
  have hle := ht.le
  have hpos := ht.pos
  have hroot : rectF nodes (rootR w h) 0 = rootR w h := rect_zero _ _
  have hlb := rect_lb ht hr
  have hcells := fun {i} hi {j} hj => kid_cells ht hr (i := i) hi (j := j) hj
  generalize hR : rectF nodes (rootR w h) = R at hroot hlb hcells
  have := loop_exit (step := i_Tree_layout.r0 CC lpW) (S := fun i => i_Tree_layout.s0 nodes.length (nodes.map encNode) ((nodes.map encNode).length : Nat) (i : Nat) (nodes.map encNode) ((mix R nodes.length (fun m => m = 0 ∨ par nodes m < i)).map encRect)) nodes.length (fun i hi => by
    have hkl : ∀ k ∈ kidsF nodes i, k < nodes.length := fun k hk => (kids_mem ht hk).1
    have hk9 := kids_len ht i
    have k1 := i_Tree_kids.c nodes (by omega) i
    have hlbi := hlb i hi
    have hat : (mix R nodes.length (fun m => m = 0 ∨ par nodes m < i))[i]? = some (R i) := mixR_at R hi (by
      by_cases h0 : i = 0
      · exact .inl h0
      · exact .inr (par_lt ht hi (by omega)).1)
    have hrs := org_rs hlbi (by omega)
    have hszs : ∀ k ∈ kidsF nodes i, PC i_Tree_request [.agg [.rsl (nodes.map encNode)], vI (k : Nat)] (.tup [vI (sizeF nodes k).1, vI (sizeF nodes k).2], []) := fun k hk => i_size ht (hkl k hk)
    have g1 : decide (((i : Nat) : Int) < (((nodes.map encNode).length : Nat) : Int)) = true := by simpa using hi
    have kat : ∀ {j}, (hj : j < (kidsF nodes i).length) → ∃ e, ((mix R nodes.length (kidQ nodes i j)).map encRect)[(((kidsF nodes i)[j] : Nat) : Int).toNat]? = some (encRect e) := fun {j} hj => by
      obtain ⟨e, he⟩ := mix_some R (kidQ nodes i j) (hkl _ (List.getElem_mem hj))
      exact ⟨e, at_rects he⟩
    by_cases h0 : (nodeAt nodes i).kind = 0
    · have ekr : kidRects nodes i (org (R i)) = packedF (kidPacks nodes i) ⟨0, 0, (R i).w, (R i).h⟩ := by unfold kidRects; rw [if_pos h0]; rfl
      have hlen : (packedF (kidPacks nodes i) ⟨0, 0, (R i).w, (R i).h⟩).length = (kidsF nodes i).length := by rw [len_packed]; simp [kidPacks]
      have k2 := i_Tree_packs.c nodes (kidsF nodes i) hkl (by omega) (sizeF nodes) hszs
      have k3 := i_packRects.c mid13 (kidPacks_ok ht i) (by simp [kidPacks]; omega) hrs
      have hcells := fun {j} hj => hcells (i := i) hi (j := j) hj
      rw [ekr] at hcells
      have l2 := loop_exit (step := i_Tree_layout.r2 CC lpW) (S := fun j => i_Tree_layout.s2 nodes.length (packedF (kidPacks nodes i) ⟨0, 0, (R i).w, (R i).h⟩).length (nodes.map encNode) ((nodes.map encNode).length : Nat) (i : Nat) ((ints (kidsF nodes i)).map encInt).length (((ints (kidsF nodes i)).map encInt).length : Nat) (j : Nat) (nodes.map encNode) (R i) ((mix R nodes.length (kidQ nodes i j)).map encRect) ((ints (kidsF nodes i)).map encInt) ((packedF (kidPacks nodes i) ⟨0, 0, (R i).w, (R i).h⟩).map encRect)) (kidsF nodes i).length (fun j hj => by
        obtain ⟨q, hq, hc⟩ := hcells hj
        obtain ⟨e, he⟩ := kat hj
        have hkj := hkl _ (List.getElem_mem hj)
        rw [i_Tree_layout.l2_1 (call := CC) (lp := lpW) nodes.length _ (nodes.map encNode) _ (i : Nat) _ _ (j : Nat) (nodes.map encNode) (R i) _ ((ints (kidsF nodes i)).map encInt) _ ((kidsF nodes i)[j] : Nat) q e (by rw [len_ints, decide_eq_true_eq]; omega) (by simp) (by simp) (by rw [len_ints, decide_eq_true_eq]; omega) (by simp) (by simp) (by rw [hlen, decide_eq_true_eq]; omega) (by simp) (by rw [List.length_map, mix_len, decide_eq_true_eq]) (by simp) (by rw [decide_eq_true_eq]; omega) (by simp) (at_ints hj) (at_rects hq) he, w64_succ (by omega), hc, Int.toNat_natCast, set_rect, kidQ_step R i hj]) (i_Tree_layout.l2_2 _ _ _ _ _ _ _ _ _ _ _ _ _ (by rw [len_ints, decide_eq_false_iff_not]; omega))
      rw [kidQ_zero, kidQ_all ht] at l2
      rw [i_Tree_layout.l0_1 (call := CC) (lp := lpW) nodes.length (nodes.map encNode) _ (i : Nat) (nodes.map encNode) _ (nodeAt nodes i) (ints (kidsF nodes i)) (R i) (kidPacks nodes i) _ nodes.length (nodes.map encNode) ((nodes.map encNode).length : Nat) (i : Nat) (nodes.map encNode) _ g1 (by simp) (by rw [List.length_map, mix_len, decide_eq_true_eq]) (by simpa using hi) (by simp) (by rw [h0]; rfl) (at_node hi) (at_rects hat) k1 k2 k3 (by simpa using l2), w64_succ (by omega)]
    · by_cases h1 : (nodeAt nodes i).kind = 1
      · have ekr : kidRects nodes i (org (R i)) = griddedF (nodeAt nodes i).cols (nodeAt nodes i).rows (kidCells nodes i) ⟨0, 0, (R i).w, (R i).h⟩ := by unfold kidRects; rw [if_neg h0, if_pos h1]; rfl
        have hlen : (griddedF (nodeAt nodes i).cols (nodeAt nodes i).rows (kidCells nodes i) ⟨0, 0, (R i).w, (R i).h⟩).length = (kidsF nodes i).length := by simp [griddedF, kidCells]
        have k2 := i_Tree_grid.c nodes i hi (kidsF nodes i) hkl (by omega) (sizeF nodes) hszs
        obtain ⟨hl1, hl2⟩ := (ht.node i hi).lines h1
        have k3 := i_Grid_rects.c mid13 (by decide) hl1 hl2 (kidCells_ok ht h1) (by simp [kidCells]; omega) (w := (R i).w) (h := (R i).h) ⟨hlbi.w.1, by have := hlbi.w.2; omega⟩ ⟨hlbi.h.1, by have := hlbi.h.2; omega⟩
        have hcells := fun {j} hj => hcells (i := i) hi (j := j) hj
        rw [ekr] at hcells
        have l2 := loop_exit (step := i_Tree_layout.r2 CC lpW) (S := fun j => i_Tree_layout.s2b nodes.length (griddedF (nodeAt nodes i).cols (nodeAt nodes i).rows (kidCells nodes i) ⟨0, 0, (R i).w, (R i).h⟩).length (nodes.map encNode) ((nodes.map encNode).length : Nat) (i : Nat) ((ints (kidsF nodes i)).map encInt).length (((ints (kidsF nodes i)).map encInt).length : Nat) (j : Nat) (nodes.map encNode) (R i) ((mix R nodes.length (kidQ nodes i j)).map encRect) ((ints (kidsF nodes i)).map encInt) ((griddedF (nodeAt nodes i).cols (nodeAt nodes i).rows (kidCells nodes i) ⟨0, 0, (R i).w, (R i).h⟩).map encRect)) (kidsF nodes i).length (fun j hj => by
          obtain ⟨q, hq, hc⟩ := hcells hj
          obtain ⟨e, he⟩ := kat hj
          have hkj := hkl _ (List.getElem_mem hj)
          rw [i_Tree_layout.l2_3 (call := CC) (lp := lpW) nodes.length _ (nodes.map encNode) _ (i : Nat) _ _ (j : Nat) (nodes.map encNode) (R i) _ ((ints (kidsF nodes i)).map encInt) _ ((kidsF nodes i)[j] : Nat) q e (by rw [len_ints, decide_eq_true_eq]; omega) (by simp) (by simp) (by rw [len_ints, decide_eq_true_eq]; omega) (by simp) (by simp) (by rw [hlen, decide_eq_true_eq]; omega) (by simp) (by rw [List.length_map, mix_len, decide_eq_true_eq]) (by simp) (by rw [decide_eq_true_eq]; omega) (by simp) (at_ints hj) (at_rects hq) he, w64_succ (by omega), hc, Int.toNat_natCast, set_rect, kidQ_step R i hj]) (i_Tree_layout.l2_4 _ _ _ _ _ _ _ _ _ _ _ _ _ (by rw [len_ints, decide_eq_false_iff_not]; omega))
        rw [kidQ_zero, kidQ_all ht] at l2
        rw [i_Tree_layout.l0_3 (call := CC) (lp := lpW) nodes.length (nodes.map encNode) _ (i : Nat) (nodes.map encNode) _ (nodeAt nodes i) (ints (kidsF nodes i)) (R i) (nodeAt nodes i).cols (nodeAt nodes i).rows (kidCells nodes i) _ nodes.length (nodes.map encNode) ((nodes.map encNode).length : Nat) (i : Nat) (nodes.map encNode) _ g1 (by simp) (by rw [List.length_map, mix_len, decide_eq_true_eq]) (by simpa using hi) (by simp) (beq_eq_false_iff_ne.2 h0) (by rw [h1]; rfl) (at_node hi) (at_rects hat) k1 k2 k3 (by simpa using l2), w64_succ (by omega)]
      · have ekr : kidRects nodes i (org (R i)) = (kidsF nodes i).map fun k => placedF (nodeAt nodes k).place ⟨0, 0, (R i).w, (R i).h⟩ := by unfold kidRects; rw [if_neg h0, if_neg h1]; rfl
        have hcells := fun {j} hj => hcells (i := i) hi (j := j) hj
        rw [ekr] at hcells
        obtain ⟨_, _, _, rw9, rh9⟩ := hlbi.rs (by omega)
        have l1 := loop_exit (step := i_Tree_layout.r1 CC lpW) (S := fun j => i_Tree_layout.s1 nodes.length ((ints (kidsF nodes i)).map encInt).length ((((kidsF nodes i).take j).map fun k => placedF (nodeAt nodes k).place ⟨0, 0, (R i).w, (R i).h⟩).map encRect).length (nodes.map encNode) ((nodes.map encNode).length : Nat) (i : Nat) ((ints (kidsF nodes i)).map encInt).length (((ints (kidsF nodes i)).map encInt).length : Nat) (j : Nat) (nodes.map encNode) (R i) ((((kidsF nodes i).take j).map fun k => placedF (nodeAt nodes k).place ⟨0, 0, (R i).w, (R i).h⟩).map encRect) ((mix R nodes.length (fun m => m = 0 ∨ par nodes m < i)).map encRect) ((ints (kidsF nodes i)).map encInt)) (kidsF nodes i).length (fun j hj => by
          have hkj := hkl _ (List.getElem_mem hj)
          have kp := i_Place_rect.c (nodeAt nodes (kidsF nodes i)[j]).place (R i).w (R i).h
          rw [placed_i (ht.node _ hkj).place ⟨hlbi.w.1, rw9⟩ ⟨hlbi.h.1, rh9⟩] at kp
          have e := map_succ2 (g := fun k => placedF (nodeAt nodes k).place ⟨0, 0, (R i).w, (R i).h⟩) (f := encRect) hj
          rw [i_Tree_layout.l1_1 (call := CC) (lp := lpW) nodes.length _ _ (nodes.map encNode) _ (i : Nat) _ _ (j : Nat) (nodes.map encNode) (R i) _ _ ((ints (kidsF nodes i)).map encInt) ((kidsF nodes i)[j] : Nat) (nodeAt nodes (kidsF nodes i)[j]) _ (by rw [len_ints, decide_eq_true_eq]; omega) (by simp) (by simp) (by rw [len_ints, decide_eq_true_eq]; omega) (by simp) (by simp) (by simp) (uni_rect _) (by simp; omega) (at_ints hj) (at_node hkj) kp, w64_succ (by omega), e]) (i_Tree_layout.l1_2 _ _ _ _ _ _ _ _ _ _ _ _ _ _ (by rw [len_ints, decide_eq_false_iff_not]; omega))
        rw [List.take_length] at l1
        have l2 := loop_exit (step := i_Tree_layout.r2 CC lpW) (S := fun j => i_Tree_layout.s2c nodes.length (((kidsF nodes i).map fun k => placedF (nodeAt nodes k).place ⟨0, 0, (R i).w, (R i).h⟩).map encRect).length (nodes.map encNode) ((nodes.map encNode).length : Nat) (i : Nat) ((ints (kidsF nodes i)).map encInt).length (((ints (kidsF nodes i)).map encInt).length : Nat) (j : Nat) (nodes.map encNode) (R i) (((kidsF nodes i).map fun k => placedF (nodeAt nodes k).place ⟨0, 0, (R i).w, (R i).h⟩).map encRect) ((mix R nodes.length (kidQ nodes i j)).map encRect) ((ints (kidsF nodes i)).map encInt)) (kidsF nodes i).length (fun j hj => by
          obtain ⟨q, hq, hc⟩ := hcells hj
          obtain ⟨e, he⟩ := kat hj
          have hkj := hkl _ (List.getElem_mem hj)
          rw [i_Tree_layout.l2_5 (call := CC) (lp := lpW) nodes.length _ (nodes.map encNode) _ (i : Nat) _ _ (j : Nat) (nodes.map encNode) (R i) _ _ ((ints (kidsF nodes i)).map encInt) ((kidsF nodes i)[j] : Nat) q e (by rw [len_ints, decide_eq_true_eq]; omega) (by simp) (by simp) (by rw [len_ints, decide_eq_true_eq]; omega) (by simp) (by simp) (by rw [List.length_map, List.length_map, decide_eq_true_eq]; omega) (by simp) (by rw [List.length_map, mix_len, decide_eq_true_eq]) (by simp) (by rw [decide_eq_true_eq]; omega) (by simp) (at_ints hj) (at_rects hq) he, w64_succ (by omega), hc, Int.toNat_natCast, set_rect, kidQ_step R i hj]) (i_Tree_layout.l2_6 _ _ _ _ _ _ _ _ _ _ _ _ _ (by rw [len_ints, decide_eq_false_iff_not]; omega))
        rw [kidQ_zero, kidQ_all ht] at l2
        rw [i_Tree_layout.l0_4 (call := CC) (lp := lpW) nodes.length (nodes.map encNode) _ (i : Nat) (nodes.map encNode) _ (nodeAt nodes i) (ints (kidsF nodes i)) (R i) nodes.length ((ints (kidsF nodes i)).map encInt).length _ (nodes.map encNode) ((nodes.map encNode).length : Nat) (i : Nat) (nodes.map encNode) (R i) _ _ ((ints (kidsF nodes i)).map encInt) nodes.length (nodes.map encNode) ((nodes.map encNode).length : Nat) (i : Nat) (nodes.map encNode) _ g1 (by simp) (by rw [List.length_map, mix_len, decide_eq_true_eq]) (by simpa using hi) (by simp) (beq_eq_false_iff_ne.2 h0) (beq_eq_false_iff_ne.2 h1) (at_node hi) (at_rects hat) k1 (by simpa using l1) (by simpa using l2), w64_succ (by omega)]) (i_Tree_layout.l0_2 _ _ _ _ _ _ (by simp))
  have hend : mix R nodes.length (fun m => m = 0 ∨ par nodes m < nodes.length) = layoutF nodes w h := by
    unfold layoutF
    rw [hR]
    apply mix_all
    intro m hm
    by_cases h0 : m = 0
    · exact .inl h0
    · exact .inr (by have := (par_lt ht hm (by omega)).1; omega)
  have hbeg : (mix R nodes.length (fun m => m = 0 ∨ par nodes m < 0)).map encRect = (List.replicate nodes.length zRect).set 0 [C.int .i64 0, C.int .i64 0, C.int .i64 w, C.int .i64 h] := by
    have e1 : mix R nodes.length (fun m => m = 0 ∨ par nodes m < 0) = (mix R nodes.length (fun _ => False)).set 0 (R 0) := by
      rw [mix_set]; apply mix_congr; intro m _; simp
    have e2 : mix R nodes.length (fun _ => False) = List.replicate nodes.length (⟨0, 0, 0, 0⟩ : Rect) := by
      unfold mix
      apply List.ext_getElem (by simp)
      intro k h1 h2
      simp
    rw [e1, e2, hroot, List.map_set, List.map_replicate]; rfl
  simp only [hend] at this
  have hw := i_Tree_layout.w1 (call := CC) (lp := lpW) nodes w h ⟨0, 0, 0, 0⟩ nodes.length ((layoutF nodes w h).map encRect) (by simp) (by rw [List.length_map, decide_eq_true_eq]; omega) (by rw [List.length_map, List.length_replicate, decide_eq_true_eq, Int.toNat_natCast]; omega) (by simp) (by rw [List.length_map, layout_len, decide_eq_true_eq]) (by rw [List.length_map, List.getElem?_replicate, if_pos (by rw [Int.toNat_natCast]; omega)]; rfl)
  refine hw ?_
  simp only [List.length_map, List.length_replicate, Int.toNat_natCast]
  rw [← hbeg]
  simpa using this
end Go.Proofs.Ytdgamfanffnhaaa.PI
namespace Go.Proofs.Ytdgamfanffnhaaa.PI
open Go
def downQ (nodes : List Node) (P : Nat → Prop) (i j : Nat) (m : Nat) : Prop := (P m ∨ m = i) ∨ ∃ u ∈ (kidsF nodes i).take j, Desc nodes u m
theorem downQ_zero {nodes : List Node} (R : Nat → Rect) (P : Nat → Prop) (i : Nat) : mix R nodes.length (downQ nodes P i 0) = mix R nodes.length (fun m => P m ∨ m = i) := by
  apply mix_congr; intro m _; unfold downQ; simp
theorem downQ_step {nodes : List Node} (R : Nat → Rect) (P : Nat → Prop) (i : Nat) {j : Nat} (hj : j < (kidsF nodes i).length) : mix R nodes.length (fun m => downQ nodes P i j m ∨ Desc nodes (kidsF nodes i)[j] m) = mix R nodes.length (downQ nodes P i (j + 1)) := by
  apply mix_congr
  intro m _
  unfold downQ
  constructor
  · rintro ((h | ⟨u, hu, hd⟩) | h)
    · exact .inl h
    · exact .inr ⟨u, (mem_take_succ hj u).2 (.inl hu), hd⟩
    · exact .inr ⟨_, (mem_take_succ hj _).2 (.inr rfl), h⟩
  · rintro (h | ⟨u, hu, hd⟩)
    · exact .inl (.inl h)
    · rcases (mem_take_succ hj u).1 hu with hu | rfl
      · exact .inl (.inr ⟨u, hu, hd⟩)
      · exact .inr hd
theorem downQ_all {nodes : List Node} (R : Nat → Rect) (P : Nat → Prop) (i : Nat) : mix R nodes.length (downQ nodes P i (kidsF nodes i).length) = mix R nodes.length (fun m => P m ∨ Desc nodes i m) := by
  apply mix_congr
  intro m _
  unfold downQ
  rw [List.take_length, desc_iff]
  constructor
  · rintro ((h | h) | h)
    · exact .inl h
    · exact .inr (.inl h)
    · exact .inr (.inr h)
  · rintro (h | h | h)
    · exact .inl (.inl h)
    · exact .inl (.inr h)
    · exact .inr h
theorem s_laid.c {nodes : List Node} (ht : TreeOk nodes) {w h : Int} (hr : RoomOk w h) : ∀ (d i : Nat), i < nodes.length → nodes.length - i ≤ d → ∀ P : Nat → Prop,
    PC s_laid [.agg [.rsl (nodes.map encNode)], vI (i : Nat), .agg (encRect (rectF nodes (rootR w h) i)), .one (.sl ((mix (rectF nodes (rootR w h)) nodes.length P).map encRect))] (undefV, [.sl ((mix (rectF nodes (rootR w h)) nodes.length (fun m => P m ∨ Desc nodes i m)).map encRect)])
  | 0, i, hi, hd, P => by omega
  | d + 1, i, hi, hd, P => by
    have hle := ht.le
    have ih : ∀ k ∈ kidsF nodes i, ∀ P : Nat → Prop, PC s_laid [.agg [.rsl (nodes.map encNode)], vI (k : Nat), .agg (encRect (rectF nodes (rootR w h) k)), .one (.sl ((mix (rectF nodes (rootR w h)) nodes.length P).map encRect))] (undefV, [.sl ((mix (rectF nodes (rootR w h)) nodes.length (fun m => P m ∨ Desc nodes k m)).map encRect)]) := fun k hk P => by
      obtain ⟨a, b, _⟩ := kids_mem ht hk
      exact s_laid.c ht hr d k a (by omega) P
    have hlb := rect_lb ht hr
    have hkid := fun {j} hj => rect_kid ht (rootR w h) (i := i) (j := j) hj
    generalize rectF nodes (rootR w h) = R at ih hlb hkid ⊢
    have hkl : ∀ k ∈ kidsF nodes i, k < nodes.length := fun k hk => (kids_mem ht hk).1
    have hk9 := kids_len ht i
    have k1 := s_kidsOf.c nodes ht i
    obtain ⟨e0, he0⟩ := mix_some R P hi
    obtain ⟨rs, rx, ry, rw9, rh9⟩ := (hlb i hi).rs (by omega)
    have hszs : ∀ k ∈ kidsF nodes i, PC s_sizeOf [.agg [.rsl (nodes.map encNode)], vI (k : Nat)] (.tup [vI (sizeF nodes k).1, vI (sizeF nodes k).2], []) := fun k hk => s_size ht (hkl k hk)
    have hset : ((mix R nodes.length P).map encRect).set ((i : Nat) : Int).toNat (encRect (R i)) = (mix R nodes.length (downQ nodes P i 0)).map encRect := by
      rw [Int.toNat_natCast, set_rect, mix_set, downQ_zero]
    refine lift ?_
    rw [← downQ_all]
    by_cases h0 : (nodeAt nodes i).kind = 0
    · have ekr : kidRects nodes i (R i) = packedF (kidPacks nodes i) (R i) := by unfold kidRects; rw [if_pos h0]
      have hlen : (packedF (kidPacks nodes i) (R i)).length = (kidsF nodes i).length := by rw [len_packed]; simp [kidPacks]
      have k2 := s_packsOf.c nodes (kidsF nodes i) hkl (by omega) (sizeF nodes) hszs
      have k3 := s_packed.c mid13 (kidPacks_ok ht i) (by simp [kidPacks]; omega) rs rx ry
      rw [ekr] at hkid
      have l1 := loop_exit (step := s_laid.r1 CC lpW) (S := fun j => s_laid.s1 nodes.length (kidsF nodes i).length (kidsF nodes i).length (j : Nat) (nodes.map encNode) j ((mix R nodes.length (downQ nodes P i j)).map encRect) ((ints (kidsF nodes i)).map encInt) ((packedF (kidPacks nodes i) (R i)).map encRect)) (kidsF nodes i).length (fun j hj => by
        rw [s_laid.l1_1 (call := CC) (lp := lpW) nodes.length (kidsF nodes i).length (kidsF nodes i).length (j : Nat) (nodes.map encNode) j _ ((ints (kidsF nodes i)).map encInt) _ ((kidsF nodes i)[j] : Nat) _ _ (by rw [decide_eq_true_eq]; omega) (by rw [len_ints, decide_eq_true_eq]) (by simp) (by simp) (by rw [List.length_map, hlen, decide_eq_true_eq]) (by rw [decide_eq_true_eq]; omega) (by simp) (by rw [List.length_map, mix_len, decide_eq_true_eq]) (at_ints hj) (at_rects (hkid hj)) (ih _ (List.getElem_mem hj) _), w64_succ (by omega), downQ_step R P i hj]) (s_laid.l1_2 _ _ _ _ _ _ _ _ _ (by rw [decide_eq_false_iff_not]; omega))
      refine s_laid.w1 nodes i (R i) (mix R nodes.length P) e0 (ints (kidsF nodes i)) (nodeAt nodes i) (kidPacks nodes i) (packedF (kidPacks nodes i) (R i)) (kidsF nodes i).length _ (by simp) (by rw [List.length_map, mix_len, decide_eq_true_eq]; omega) (by simp) (by rw [h0]; rfl) (at_rects he0) (at_node hi) k1 k2 k3 ?_
      rw [hset, List.length_map, mix_len, len_ints, List.length_map, hlen]
      simpa using l1
    · by_cases h1 : (nodeAt nodes i).kind = 1
      · have ekr : kidRects nodes i (R i) = griddedF (nodeAt nodes i).cols (nodeAt nodes i).rows (kidCells nodes i) (R i) := by unfold kidRects; rw [if_neg h0, if_pos h1]
        have hlen : (griddedF (nodeAt nodes i).cols (nodeAt nodes i).rows (kidCells nodes i) (R i)).length = (kidsF nodes i).length := by simp [griddedF, kidCells]
        have k2 := s_gridOf.c nodes i hi (kidsF nodes i) hkl (by omega) (sizeF nodes) hszs
        obtain ⟨hl1, hl2⟩ := (ht.node i hi).lines h1
        have k3 := s_gridded.c mid13 (by decide) hl1 hl2 (kidCells_ok ht h1) (by simp [kidCells]; omega) rs rx ry
        rw [ekr] at hkid
        have l1 := loop_exit (step := s_laid.r1 CC lpW) (S := fun j => s_laid.s1b nodes.length (kidsF nodes i).length (kidsF nodes i).length (j : Nat) (nodes.map encNode) j ((mix R nodes.length (downQ nodes P i j)).map encRect) ((ints (kidsF nodes i)).map encInt) ((griddedF (nodeAt nodes i).cols (nodeAt nodes i).rows (kidCells nodes i) (R i)).map encRect)) (kidsF nodes i).length (fun j hj => by
          rw [s_laid.l1_3 (call := CC) (lp := lpW) nodes.length (kidsF nodes i).length (kidsF nodes i).length (j : Nat) (nodes.map encNode) j _ ((ints (kidsF nodes i)).map encInt) _ ((kidsF nodes i)[j] : Nat) _ _ (by rw [decide_eq_true_eq]; omega) (by rw [len_ints, decide_eq_true_eq]) (by simp) (by simp) (by rw [List.length_map, hlen, decide_eq_true_eq]) (by rw [decide_eq_true_eq]; omega) (by simp) (by rw [List.length_map, mix_len, decide_eq_true_eq]) (at_ints hj) (at_rects (hkid hj)) (ih _ (List.getElem_mem hj) _), w64_succ (by omega), downQ_step R P i hj]) (s_laid.l1_4 _ _ _ _ _ _ _ _ _ (by rw [decide_eq_false_iff_not]; omega))
        refine s_laid.w2 nodes i (R i) (mix R nodes.length P) e0 (ints (kidsF nodes i)) (nodeAt nodes i) (nodeAt nodes i).cols (nodeAt nodes i).rows (kidCells nodes i) (griddedF (nodeAt nodes i).cols (nodeAt nodes i).rows (kidCells nodes i) (R i)) (kidsF nodes i).length _ (by simp) (by rw [List.length_map, mix_len, decide_eq_true_eq]; omega) (by simp) (beq_eq_false_iff_ne.2 h0) (by rw [h1]; rfl) (at_rects he0) (at_node hi) k1 k2 k3 ?_
        rw [hset, List.length_map, mix_len, len_ints, List.length_map, hlen]
        simpa using l1
      · have ekr : kidRects nodes i (R i) = (kidsF nodes i).map fun k => placedF (nodeAt nodes k).place (R i) := by unfold kidRects; rw [if_neg h0, if_neg h1]
        rw [ekr] at hkid
        have l0 := loop_exit (step := s_laid.r0 CC lpW) (S := fun j => s_laid.s0 nodes.length (kidsF nodes i).length ((((kidsF nodes i).take j).map fun k => placedF (nodeAt nodes k).place (R i)).map encRect).length (j : Nat) (nodes.map encNode) (R i) ((((kidsF nodes i).take j).map fun k => placedF (nodeAt nodes k).place (R i)).map encRect) ((mix R nodes.length (downQ nodes P i 0)).map encRect) ((ints (kidsF nodes i)).map encInt)) (kidsF nodes i).length (fun j hj => by
          have hkj := hkl _ (List.getElem_mem hj)
          have kp := s_placed.c (nodeAt nodes (kidsF nodes i)[j]).place (R i)
          rw [placed_s (ht.node _ hkj).place rs rw9 rh9] at kp
          have e := map_succ2 (g := fun k => placedF (nodeAt nodes k).place (R i)) (f := encRect) hj
          rw [s_laid.l0_1 (call := CC) (lp := lpW) nodes.length (kidsF nodes i).length _ (j : Nat) (nodes.map encNode) (R i) _ _ ((ints (kidsF nodes i)).map encInt) ((kidsF nodes i)[j] : Nat) (nodeAt nodes (kidsF nodes i)[j]) _ (by rw [decide_eq_true_eq]; omega) (by rw [len_ints, decide_eq_true_eq]) (by simp) (by simp) (by simp) (by simp) (uni_rect _) (by simp; omega) (at_ints hj) (at_node hkj) kp, w64_succ (by omega), e]) (s_laid.l0_2 _ _ _ _ _ _ _ _ _ (by rw [decide_eq_false_iff_not]; omega))
        rw [List.take_length] at l0
        have l1 := loop_exit (step := s_laid.r1 CC lpW) (S := fun j => s_laid.s1c nodes.length (kidsF nodes i).length (((kidsF nodes i).map fun k => placedF (nodeAt nodes k).place (R i)).map encRect).length (j : Nat) (nodes.map encNode) (((kidsF nodes i).map fun k => placedF (nodeAt nodes k).place (R i)).map encRect) j ((mix R nodes.length (downQ nodes P i j)).map encRect) ((ints (kidsF nodes i)).map encInt)) (kidsF nodes i).length (fun j hj => by
          rw [s_laid.l1_5 (call := CC) (lp := lpW) nodes.length (kidsF nodes i).length _ (j : Nat) (nodes.map encNode) _ j _ ((ints (kidsF nodes i)).map encInt) ((kidsF nodes i)[j] : Nat) _ _ (by rw [decide_eq_true_eq]; omega) (by rw [len_ints, decide_eq_true_eq]) (by simp) (by simp) (by simp) (by rw [List.length_map, List.length_map, decide_eq_true_eq]; omega) (by simp) (by rw [List.length_map, mix_len, decide_eq_true_eq]) (at_ints hj) (at_rects (hkid hj)) (ih _ (List.getElem_mem hj) _), w64_succ (by omega), downQ_step R P i hj]) (s_laid.l1_6 _ _ _ _ _ _ _ _ _ (by rw [decide_eq_false_iff_not]; omega))
        refine s_laid.w3 nodes i (R i) (mix R nodes.length P) e0 (ints (kidsF nodes i)) (nodeAt nodes i) nodes.length (kidsF nodes i).length (((kidsF nodes i).map fun k => placedF (nodeAt nodes k).place (R i)).map encRect).length (nodes.map encNode) (((kidsF nodes i).map fun k => placedF (nodeAt nodes k).place (R i)).map encRect) ((mix R nodes.length (downQ nodes P i 0)).map encRect) ((ints (kidsF nodes i)).map encInt) (kidsF nodes i).length _ (by simp) (by rw [List.length_map, mix_len, decide_eq_true_eq]; omega) (by simp) (beq_eq_false_iff_ne.2 h0) (beq_eq_false_iff_ne.2 h1) (at_rects he0) (at_node hi) k1 ?_ ?_
        · rw [hset, List.length_map, mix_len, len_ints]
          simpa using l0
        · simpa using l1
theorem s_layout.c {nodes : List Node} (ht : TreeOk nodes) {w h : Int} (hr : RoomOk w h) : PC s_layout [.agg [.rsl (nodes.map encNode)], vI w, vI h] (.one (.sl ((layoutF nodes w h).map encRect)), []) := by
  have hle := ht.le
  have k := s_laid.c ht hr nodes.length 0 ht.pos (by omega) (fun _ => False)
  rw [rect_zero] at k
  have e1 : mix (rectF nodes (rootR w h)) nodes.length (fun m => False ∨ Desc nodes 0 m) = layoutF nodes w h := mix_all fun m hm => .inr (desc_root ht m hm)
  have e2 : (mix (rectF nodes (rootR w h)) nodes.length (fun _ => False)).map encRect = List.replicate nodes.length zRect := by
    unfold mix
    apply List.ext_getElem (by simp)
    intro k h1 h2
    simp; rfl
  rw [e1, e2] at k
  refine lift ?_
  exact s_layout.w1 nodes w h (layoutF nodes w h) (by simp) (by rw [List.length_map, decide_eq_true_eq]; omega) (by simp [layout_len]) (by rw [List.length_map, Int.toNat_natCast]; exact k)
def roomOk (w h : Int) : Bool := i_within.m w 0 400 && i_within.m h 0 400
def layOf (nodes : List Node) (w h : Int) : List Rect := bif vTree nodes && roomOk w h then layoutF nodes w h else []
theorem room_ok {w h : Int} (hr : roomOk w h = true) : RoomOk w h := by
  unfold roomOk at hr
  rw [Bool.and_eq_true, within_iff, within_iff] at hr
  unfold RoomOk; omega
theorem room_i (w h : Int) : i_sizeOk.m w h = roomOk w h := by unfold i_sizeOk.m roomOk; rw [bif_and]
theorem room_s (w h : Int) : s_goodRoom.m w h = roomOk w h := by unfold s_goodRoom.m roomOk; rw [bif_and]; rfl
theorem i_LayoutTree.none {nodes : List Node} {w h : Int} (ho : NsOk nodes) (hv : (vTree nodes && roomOk w h) = false) : PC i_LayoutTree [.agg [.rsl (nodes.map encNode)], vI w, vI h] (.one .nil, []) := by
  refine lift ?_
  have k1 := i_ValidTree.c nodes ho
  unfold i_ValidTree.m at k1
  have k2 := i_sizeOk.c w h
  rw [room_i] at k2
  cases h1 : vTree nodes with
  | false => rw [h1] at k1; exact i_LayoutTree.w1 nodes w h k1
  | true =>
    rw [h1, Bool.true_and] at hv
    rw [h1] at k1
    rw [hv] at k2
    exact i_LayoutTree.w2 nodes w h k1 k2
theorem i_LayoutTree.some {nodes : List Node} {w h : Int} (ho : NsOk nodes) (hv : (vTree nodes && roomOk w h) = true) : PC i_LayoutTree [.agg [.rsl (nodes.map encNode)], vI w, vI h] (.one (.sl ((layOf nodes w h).map encRect)), []) := by
  refine lift ?_
  have k1 := i_ValidTree.c nodes ho
  unfold i_ValidTree.m at k1
  have k2 := i_sizeOk.c w h
  rw [room_i] at k2
  unfold layOf
  rw [hv]
  rw [Bool.and_eq_true] at hv
  rw [hv.1] at k1
  rw [hv.2] at k2
  exact i_LayoutTree.w3 nodes w h _ k1 k2 (i_Tree_layout.c (tree_of hv.1) (room_ok hv.2))
theorem s_LayoutTree.c {nodes : List Node} {w h : Int} (ho : NsOk nodes) : PC s_LayoutTree [.agg [.rsl (nodes.map encNode)], vI w, vI h] (.one (.sl ((layOf nodes w h).map encRect)), []) := by
  refine lift ?_
  have k1 := s_validTree.c nodes ho
  unfold s_validTree.m at k1
  have k2 := s_goodRoom.c w h
  rw [room_s] at k2
  unfold layOf
  cases h1 : vTree nodes with
  | false => rw [h1] at k1; exact s_LayoutTree.w1 nodes w h k1
  | true =>
    rw [h1] at k1
    cases h2 : roomOk w h with
    | false => rw [h2] at k2; exact s_LayoutTree.w2 nodes w h k1 k2
    | true =>
      rw [h2] at k2
      exact s_LayoutTree.w3 nodes w h _ k1 k2 (s_layout.c (tree_of h1) (room_ok h2))
end Go.Proofs.Ytdgamfanffnhaaa.PI
namespace Go.Proofs.Ytdgamfanffnhaaa.PI
open Go
def Bs (b : List Int) : Prop := ∀ x ∈ b, 0 ≤ x ∧ x ≤ 255
def Po (p : Int) : Prop := 0 ≤ p ∧ p ≤ 1000000000
abbrev rdV (b : List Int) (p : Int) : C := .pt [.rsl (b.map encB), .int .i64 p]
theorem xor_nonneg {x y : Int} (hx : 0 ≤ x ∧ x < 4611686018427387904) (hy : 0 ≤ y ∧ y < 4611686018427387904) : 0 ≤ xor64 x y := by
  unfold xor64
  have ex : BitVec.ofInt 64 x = BitVec.ofNat 64 x.toNat := by
    rw [← BitVec.ofInt_natCast]; congr 1; omega
  have ey : BitVec.ofInt 64 y = BitVec.ofNat 64 y.toNat := by
    rw [← BitVec.ofInt_natCast]; congr 1; omega
  rw [ex, ey, BitVec.toNat_xor, BitVec.toNat_ofNat, BitVec.toNat_ofNat, Nat.mod_eq_of_lt (by omega), Nat.mod_eq_of_lt (by omega)]
  have := Nat.xor_lt_two_pow (n := 62) (x := x.toNat) (y := y.toNat) (by omega) (by omega)
  rw [w64_id (by omega) (by omega)]
  omega
theorem at_b {b : List Int} {k : Int} (h0 : 0 ≤ k) (h : k < (b.length : Nat)) : ∃ e, e ∈ b ∧ (b.map encB)[k.toNat]? = some [C.int .u8 e] := by
  have hk : k.toNat < b.length := by omega
  exact ⟨b[k.toNat], List.getElem_mem hk, by rw [List.getElem?_map, List.getElem?_eq_getElem hk]; rfl⟩
theorem tmod_bd {a n : Int} (ha : 0 ≤ a) (hn : 1 ≤ n) : 0 ≤ Int.tmod a n ∧ Int.tmod a n < n := by
  rw [Int.tmod_eq_emod_of_nonneg ha]
  exact ⟨Int.emod_nonneg _ (by omega), Int.emod_lt_of_pos _ (by omega)⟩
theorem pick_ex {b : List Int} (hb : Bs b) (hl : b.length ≤ 2000) {p : Int} (hp : Po p) (n : Int) : ∃ r, (0 ≤ r ∧ (1 ≤ n → r < n)) ∧ PC s_reader_pick [.one (rdV b p), vI n] (vI r, [rdV b (p + 1)]) := by
  obtain ⟨p0, p1⟩ := hp
  have w1 : w64 (p + 1) = p + 1 := w64_id (by omega) (by omega)
  have w2 : w64 (p + 1 - 1) = p := by rw [w64_id (by omega) (by omega)]; omega
  by_cases hn : n < 1
  · refine ⟨0, ⟨by omega, by omega⟩, lift ?_⟩
    have := s_reader_pick.w1 (call := CC) (lp := lpW) b p n (by rw [decide_eq_true_eq]; exact hn)
    rw [w1] at this; exact this
  · have hn' : decide (n < 1) = false := by rw [decide_eq_false_iff_not]; exact hn
    by_cases he : b.length = 0
    · refine ⟨0, ⟨by omega, by omega⟩, lift ?_⟩
      have := s_reader_pick.w2 (call := CC) (lp := lpW) b p n hn' (by rw [List.length_map, he]; rfl)
      rw [w1] at this; exact this
    · have he' : ((((b.map encB).length : Nat) : Int) == 0) = false := by rw [List.length_map, beq_eq_false_iff_ne]; omega
      by_cases hk : p < (b.length : Nat)
      · obtain ⟨e, hm, hat⟩ := at_b p0 hk
        have hbe := hb e hm
        have we : w64 e = e := w64_id (by omega) (by omega)
        obtain ⟨t1, t2⟩ := tmod_bd hbe.1 (n := n) (by omega)
        refine ⟨Int.tmod e n, ⟨t1, fun _ => t2⟩, lift ?_⟩
        have := s_reader_pick.w3 (call := CC) (lp := lpW) b p n e hn' he' (by rw [w1, w2, List.length_map, decide_eq_true_eq]; exact hk) (by rw [w1, w2, decide_eq_true_eq]; exact p0) (by rw [decide_eq_true_eq]; omega) (by rw [w1, w2]; exact hat)
        rw [w1, we] at this; exact this
      · have hlp : (1 : Int) ≤ ((b.map encB).length : Nat) := by rw [List.length_map]; omega
        have w3 : w64 (p * 7) = p * 7 := w64_id (by omega) (by omega)
        have w4 : w64 (p * 7 + 3) = p * 7 + 3 := w64_id (by omega) (by omega)
        obtain ⟨i1, i2⟩ := tmod_bd p0 hlp
        obtain ⟨j1, j2⟩ := tmod_bd (a := p * 7 + 3) (by omega) hlp
        obtain ⟨e, hm, hat⟩ := at_b (b := b) i1 (by have := i2; simp only [List.length_map] at this ⊢; exact this)
        obtain ⟨e2, hm2, hat2⟩ := at_b (b := b) j1 (by have := j2; simp only [List.length_map] at this ⊢; exact this)
        have hbe := hb e hm
        have hbe2 := hb e2 hm2
        have q0 : 0 ≤ Int.tdiv p ((b.map encB).length : Nat) := by rw [tdiv2 p0]; exact Int.ediv_nonneg p0 (by omega)
        have q1 : Int.tdiv p ((b.map encB).length : Nat) ≤ p := by rw [tdiv2 p0]; exact Int.ediv_le_self _ p0
        have := s_reader_pick.w4 (call := CC) (lp := lpW) b p n e e2 hn' he' (by rw [w1, w2, List.length_map, decide_eq_false_iff_not]; exact hk) (by rw [decide_eq_true_eq]; omega) (by rw [w1, w2, decide_eq_true_eq]; exact i1) (by rw [w1, w2, w3, w4, decide_eq_true_eq]; exact j1) (by rw [decide_eq_true_eq]; omega) (by rw [w1, w2]; exact hat) (by rw [w1, w2, w3, w4]; exact hat2)
        rw [w1, w2] at this
        generalize Int.tdiv p ((b.map encB).length : Nat) = q at q0 q1 this
        rw [w64_id (n := e) (by omega) (by omega), w64_id (n := e2) (by omega) (by omega), w64_id (n := e * 131) (by omega) (by omega), w64_id (n := e2 * 1117) (by omega) (by omega), w64_id (n := p * 29) (by omega) (by omega), w64_id (n := q) (by omega) (by omega), w64_id (n := q * 53) (by omega) (by omega), w64_id (n := e * 131 + e2 * 1117) (by omega) (by omega), w64_id (n := e * 131 + e2 * 1117 + p * 29) (by omega) (by omega), w64_id (n := e * 131 + e2 * 1117 + p * 29 + q * 53) (by omega) (by omega)] at this
        generalize hx : e * 131 + e2 * 1117 + p * 29 + q * 53 = x at this
        have hx0 : 0 ≤ x := by omega
        have hx1 : x ≤ 200000000000 := by omega
        rw [tdiv2 hx0, w64_id (n := x / 64) (by omega) (by omega)] at this
        have hxo := xor_nonneg (x := x) (y := x / 64) (by omega) (by omega)
        obtain ⟨t1, t2⟩ := tmod_bd hxo (n := n) (by omega)
        exact ⟨_, ⟨t1, fun _ => t2⟩, lift this⟩
theorem one_ex {b : List Int} (hb : Bs b) (hl : b.length ≤ 2000) {p : Int} (hp : Po p) (l : List Int) (h0 : 0 < l.length) (h1 : l.length ≤ 1000) : ∃ e, e ∈ l ∧ PC s_reader_one [.one (rdV b p), .one (.rsl (l.map encInt))] (vI e, [rdV b (p + 1)]) := by
  obtain ⟨r, ⟨r0, r1⟩, k⟩ := pick_ex hb hl hp ((l.map encInt).length : Nat)
  have hlt : r.toNat < l.length := by have := r1 (by rw [List.length_map]; omega); rw [List.length_map] at this; omega
  refine ⟨l[r.toNat], List.getElem_mem hlt, lift ?_⟩
  exact s_reader_one.w1 b p l r (p + 1) _ (by rw [decide_eq_true_eq]; exact r0) (by rw [List.getElem?_map, List.getElem?_eq_getElem hlt]; rfl) k
theorem lines_ex {b : List Int} (hb : Bs b) (hl : b.length ≤ 2000) {p : Int} (hp : 0 ≤ p ∧ p ≤ 100000000) : ∃ (lines : List Line) (q : Int), (lines.length ≤ 5 ∧ 1 ≤ lines.length) ∧ (p ≤ q ∧ q ≤ p + 20) ∧ PC s_goodLines [.one (rdV b p)] (.one (.sl (lines.map encLine)), [rdV b q]) := by
  obtain ⟨h0, h1⟩ := hp
  obtain ⟨n, hn, k1⟩ := one_ex hb hl (p := p) ⟨by omega, by omega⟩ [3, 2, 4, 1, 5] (by simp) (by simp)
  have hn5 : 1 ≤ n ∧ n ≤ 5 := by simp at hn; omega
  have key : ∀ (m : Nat) (lines : List Line) (q : Int), m ≤ 5 → lines.length + m ≤ 5 → 0 ≤ q → q + 2 * m ≤ 200000000 → ∃ (lines' : List Line) (q' : Int), lines'.length = lines.length + m ∧ (q ≤ q' ∧ q' ≤ q + 2 * m) ∧
      lpW (s_goodLines.r0 CC lpW) (s_goodLines.s0 (lines.map encLine).length (m : Nat) (lines.map encLine) (b.map encB) q) = some (.exit 0, s_goodLines.e0_0 (lines'.map encLine).length (lines'.map encLine) (b.map encB) q') := by
    intro m
    induction m with
    | zero =>
      intro lines q _ _ _ _
      exact ⟨lines, q, rfl, ⟨by omega, by omega⟩, lp_exit (s_goodLines.l0_2 _ _ _ _ _ (by simp))⟩
    | succ m ih =>
      intro lines q hm5 hll h0 h1
      obtain ⟨r1, _, k1⟩ := one_ex hb hl (p := q) ⟨by omega, by omega⟩ [1, 0, 2, 0, 5] (by simp) (by simp)
      obtain ⟨r2, _, k2⟩ := one_ex hb hl (p := q + 1) ⟨by omega, by omega⟩ [0, 5, 10, 0] (by simp) (by simp)
      obtain ⟨lines', q', e1, e2, e3⟩ := ih (lines ++ [⟨r1, r2⟩]) (q + 1 + 1) (by omega) (by rw [List.length_append, List.length_singleton]; omega) (by omega) (by omega)
      refine ⟨lines', q', by rw [e1, List.length_append]; simp; omega, ⟨by omega, by omega⟩, lp_again ?_ e3⟩
      have := s_goodLines.l0_1 (call := CC) (lp := lpW) (lines.map encLine).length ((m + 1 : Nat) : Int) (lines.map encLine) (b.map encB) q r1 (q + 1) r2 (q + 1 + 1) (by rw [decide_eq_true_eq]; omega) (by simp) (uni_map (f := encLine) (fun _ => rfl) _) (by rw [List.length_map, decide_eq_true_eq]; omega) k1 k2
      rw [this]
      have ew : w64 (((m + 1 : Nat) : Int) - 1) = (m : Int) := by rw [w64_id (by omega) (by omega)]; omega
      rw [ew, List.map_append]; rfl
  obtain ⟨lines, q, e1, e2, e3⟩ := key n.toNat [] (p + 1) (by omega) (by simp; omega) (by omega) (by omega)
  refine ⟨lines, q, ⟨by simp at e1; omega, by simp at e1; omega⟩, ⟨by omega, by omega⟩, lift ?_⟩
  refine s_goodLines.w1 b p n (p + 1) (lines.map encLine).length _ (b.map encB) q (by simp) k1 ?_
  rw [show ((n.toNat : Nat) : Int) = n by omega] at e3
  simpa using e3
theorem pack_ex {b : List Int} (hb : Bs b) (hl : b.length ≤ 2000) {p : Int} (hp : 0 ≤ p ∧ p ≤ 100000000) : ∃ (x : Pack) (q : Int), (p ≤ q ∧ q ≤ p + 20) ∧ PC s_goodPack [.one (rdV b p)] (.agg (encPack x), [rdV b q]) := by
  obtain ⟨h0, h1⟩ := hp
  obtain ⟨r1, m1, k1⟩ := pick_ex hb hl (p := p) ⟨by omega, by omega⟩ 31
  obtain ⟨r2, m2, k2⟩ := one_ex hb hl (p := (p + 1)) ⟨by omega, by omega⟩ [5, 10, 0, r1, 3] (by simp) (by simp)
  obtain ⟨r3, m3, k3⟩ := pick_ex hb hl (p := ((p + 1) + 1)) ⟨by omega, by omega⟩ 31
  obtain ⟨r4, m4, k4⟩ := one_ex hb hl (p := (((p + 1) + 1) + 1)) ⟨by omega, by omega⟩ [4, 8, 0, r3, 6] (by simp) (by simp)
  obtain ⟨r5, m5, k5⟩ := pick_ex hb hl (p := ((((p + 1) + 1) + 1) + 1)) ⟨by omega, by omega⟩ 4
  obtain ⟨r6, m6, k6⟩ := pick_ex hb hl (p := (((((p + 1) + 1) + 1) + 1) + 1)) ⟨by omega, by omega⟩ 9
  obtain ⟨r7, m7, k7⟩ := one_ex hb hl (p := ((((((p + 1) + 1) + 1) + 1) + 1) + 1)) ⟨by omega, by omega⟩ [4, 4, 0, r6] (by simp) (by simp)
  obtain ⟨r8, m8, k8⟩ := pick_ex hb hl (p := (((((((p + 1) + 1) + 1) + 1) + 1) + 1) + 1)) ⟨by omega, by omega⟩ 3
  obtain ⟨r9, m9, k9⟩ := pick_ex hb hl (p := ((((((((p + 1) + 1) + 1) + 1) + 1) + 1) + 1) + 1)) ⟨by omega, by omega⟩ 3
  obtain ⟨r10, m10, k10⟩ := pick_ex hb hl (p := (((((((((p + 1) + 1) + 1) + 1) + 1) + 1) + 1) + 1) + 1)) ⟨by omega, by omega⟩ 2
  obtain ⟨r11, m11, k11⟩ := pick_ex hb hl (p := ((((((((((p + 1) + 1) + 1) + 1) + 1) + 1) + 1) + 1) + 1) + 1)) ⟨by omega, by omega⟩ 2
  cases h : r11 == 0 with
  | false => exact ⟨⟨r2, r4, r5, r8 == 0, r9 == 0, r10 == 0, r7, 0, 0⟩, (((((((((((p + 1) + 1) + 1) + 1) + 1) + 1) + 1) + 1) + 1) + 1) + 1), ⟨by omega, by omega⟩, lift (by apply s_goodPack.w2 (H1 := h) (K1 := k1) (K2 := k2) (K3 := k3) (K4 := k4) (K5 := k5) (K6 := k6) (K7 := k7) (K8 := k8) (K9 := k9) (K10 := k10) (K11 := k11))⟩
  | true =>
    obtain ⟨r12, m12, k12⟩ := pick_ex hb hl (p := (((((((((((p + 1) + 1) + 1) + 1) + 1) + 1) + 1) + 1) + 1) + 1) + 1)) ⟨by omega, by omega⟩ 4
    obtain ⟨r13, m13, k13⟩ := pick_ex hb hl (p := (((((((((((p + 1) + 1) + 1) + 1) + 1) + 1) + 1) + 1) + 1) + 1) + 1) + 1) ⟨by omega, by omega⟩ 4
    exact ⟨⟨r2, r4, r5, r8 == 0, r9 == 0, r10 == 0, r7, r12, r13⟩, (((((((((((p + 1) + 1) + 1) + 1) + 1) + 1) + 1) + 1) + 1) + 1) + 1) + 1 + 1, ⟨by omega, by omega⟩, lift (by apply s_goodPack.w1 (H1 := h) (K1 := k1) (K2 := k2) (K3 := k3) (K4 := k4) (K5 := k5) (K6 := k6) (K7 := k7) (K8 := k8) (K9 := k9) (K10 := k10) (K11 := k11) (K12 := k12) (K13 := k13))⟩
theorem place_ex {b : List Int} (hb : Bs b) (hl : b.length ≤ 2000) {p : Int} (hp : 0 ≤ p ∧ p ≤ 100000000) : ∃ (x : Place) (q : Int), (p ≤ q ∧ q ≤ p + 20) ∧ PC s_goodPlace [.one (rdV b p)] (.agg (encPlace x), [rdV b q]) := by
  obtain ⟨h0, h1⟩ := hp
  obtain ⟨r1, m1, k1⟩ := one_ex hb hl (p := p) ⟨by omega, by omega⟩ [0, 5, -5, 0] (by simp) (by simp)
  obtain ⟨r2, m2, k2⟩ := one_ex hb hl (p := (p + 1)) ⟨by omega, by omega⟩ [0, 3, -7, 0] (by simp) (by simp)
  obtain ⟨r3, m3, k3⟩ := one_ex hb hl (p := ((p + 1) + 1)) ⟨by omega, by omega⟩ [0, 500, 1000, 333] (by simp) (by simp)
  obtain ⟨r4, m4, k4⟩ := one_ex hb hl (p := (((p + 1) + 1) + 1)) ⟨by omega, by omega⟩ [0, 500, 1000, 250] (by simp) (by simp)
  obtain ⟨r5, m5, k5⟩ := one_ex hb hl (p := ((((p + 1) + 1) + 1) + 1)) ⟨by omega, by omega⟩ [10, 5, 0, -10] (by simp) (by simp)
  obtain ⟨r6, m6, k6⟩ := one_ex hb hl (p := (((((p + 1) + 1) + 1) + 1) + 1)) ⟨by omega, by omega⟩ [8, 3, 0, -4] (by simp) (by simp)
  obtain ⟨r7, m7, k7⟩ := one_ex hb hl (p := ((((((p + 1) + 1) + 1) + 1) + 1) + 1)) ⟨by omega, by omega⟩ [0, 0, 500, 1000] (by simp) (by simp)
  obtain ⟨r8, m8, k8⟩ := one_ex hb hl (p := (((((((p + 1) + 1) + 1) + 1) + 1) + 1) + 1)) ⟨by omega, by omega⟩ [0, 0, 500, 1000] (by simp) (by simp)
  obtain ⟨r9, m9, k9⟩ := pick_ex hb hl (p := ((((((((p + 1) + 1) + 1) + 1) + 1) + 1) + 1) + 1)) ⟨by omega, by omega⟩ 9
  obtain ⟨r10, m10, k10⟩ := one_ex hb hl (p := (((((((((p + 1) + 1) + 1) + 1) + 1) + 1) + 1) + 1) + 1)) ⟨by omega, by omega⟩ [0, 4, 8, r9] (by simp) (by simp)
  exact ⟨⟨r1, r2, r3, r4, r5, r6, r7, r8, r10⟩, ((((((((((p + 1) + 1) + 1) + 1) + 1) + 1) + 1) + 1) + 1) + 1), ⟨by omega, by omega⟩, lift (by apply s_goodPlace.w1 (K1 := k1) (K2 := k2) (K3 := k3) (K4 := k4) (K5 := k5) (K6 := k6) (K7 := k7) (K8 := k8) (K9 := k9) (K10 := k10))⟩
theorem cell_ex {b : List Int} (hb : Bs b) (hl : b.length ≤ 2000) {p : Int} (hp : 0 ≤ p ∧ p ≤ 100000000) (cols rows : Int) : ∃ (x : Cell) (q : Int), (p ≤ q ∧ q ≤ p + 20) ∧ PC s_goodCell [.one (rdV b p), vI cols, vI rows] (.agg (encCell x), [rdV b q]) := by
  obtain ⟨h0, h1⟩ := hp
  obtain ⟨r1, m1, k1⟩ := pick_ex hb hl (p := p) ⟨by omega, by omega⟩ cols
  obtain ⟨r2, m2, k2⟩ := pick_ex hb hl (p := (p + 1)) ⟨by omega, by omega⟩ rows
  obtain ⟨r3, m3, k3⟩ := one_ex hb hl (p := ((p + 1) + 1)) ⟨by omega, by omega⟩ [5, 10, 0, 30] (by simp) (by simp)
  obtain ⟨r4, m4, k4⟩ := one_ex hb hl (p := (((p + 1) + 1) + 1)) ⟨by omega, by omega⟩ [4, 8, 0, 30] (by simp) (by simp)
  obtain ⟨r5, m5, k5⟩ := pick_ex hb hl (p := ((((p + 1) + 1) + 1) + 1)) ⟨by omega, by omega⟩ 16
  obtain ⟨r6, m6, k6⟩ := one_ex hb hl (p := (((((p + 1) + 1) + 1) + 1) + 1)) ⟨by omega, by omega⟩ [0, 15, r5, 3, 1] (by simp) (by simp)
  obtain ⟨r7, m7, k7⟩ := pick_ex hb hl (p := ((((((p + 1) + 1) + 1) + 1) + 1) + 1)) ⟨by omega, by omega⟩ 3
  cases h : r7 == 0 with
  | true =>
    obtain ⟨r8, m8, k8⟩ := pick_ex hb hl (p := (((((((p + 1) + 1) + 1) + 1) + 1) + 1) + 1)) ⟨by omega, by omega⟩ (w64 (cols - r1))
    obtain ⟨r9, m9, k9⟩ := pick_ex hb hl (p := (((((((p + 1) + 1) + 1) + 1) + 1) + 1) + 1) + 1) ⟨by omega, by omega⟩ (w64 (rows - r2))
    obtain ⟨r10, m10, k10⟩ := pick_ex hb hl (p := (((((((p + 1) + 1) + 1) + 1) + 1) + 1) + 1) + 1 + 1) ⟨by omega, by omega⟩ 3
    cases h2 : r10 == 0 with
    | false => exact ⟨⟨r1, r2, w64 (1 + r8), w64 (1 + r9), r3, r4, r6, 0, 0⟩, (((((((p + 1) + 1) + 1) + 1) + 1) + 1) + 1) + 1 + 1 + 1, ⟨by omega, by omega⟩, lift (by apply s_goodCell.w4 (H1 := h) (H2 := h2) (K1 := k1) (K2 := k2) (K3 := k3) (K4 := k4) (K5 := k5) (K6 := k6) (K7 := k7) (K8 := k8) (K9 := k9) (K10 := k10))⟩
    | true =>
      obtain ⟨r11, m11, k11⟩ := pick_ex hb hl (p := (((((((p + 1) + 1) + 1) + 1) + 1) + 1) + 1) + 1 + 1 + 1) ⟨by omega, by omega⟩ 4
      obtain ⟨r12, m12, k12⟩ := pick_ex hb hl (p := (((((((p + 1) + 1) + 1) + 1) + 1) + 1) + 1) + 1 + 1 + 1 + 1) ⟨by omega, by omega⟩ 4
      exact ⟨⟨r1, r2, w64 (1 + r8), w64 (1 + r9), r3, r4, r6, r11, r12⟩, (((((((p + 1) + 1) + 1) + 1) + 1) + 1) + 1) + 1 + 1 + 1 + 1 + 1, ⟨by omega, by omega⟩, lift (by apply s_goodCell.w1 (H1 := h) (H2 := h2) (K1 := k1) (K2 := k2) (K3 := k3) (K4 := k4) (K5 := k5) (K6 := k6) (K7 := k7) (K8 := k8) (K9 := k9) (K10 := k10) (K11 := k11) (K12 := k12))⟩
  | false =>
    obtain ⟨r8, m8, k8⟩ := pick_ex hb hl (p := (((((((p + 1) + 1) + 1) + 1) + 1) + 1) + 1)) ⟨by omega, by omega⟩ 3
    cases h2 : r8 == 0 with
    | false => exact ⟨⟨r1, r2, 1, 1, r3, r4, r6, 0, 0⟩, (((((((p + 1) + 1) + 1) + 1) + 1) + 1) + 1) + 1, ⟨by omega, by omega⟩, lift (by apply s_goodCell.w3 (H1 := h) (H2 := h2) (K1 := k1) (K2 := k2) (K3 := k3) (K4 := k4) (K5 := k5) (K6 := k6) (K7 := k7) (K8 := k8))⟩
    | true =>
      obtain ⟨r9, m9, k9⟩ := pick_ex hb hl (p := (((((((p + 1) + 1) + 1) + 1) + 1) + 1) + 1) + 1) ⟨by omega, by omega⟩ 4
      obtain ⟨r10, m10, k10⟩ := pick_ex hb hl (p := (((((((p + 1) + 1) + 1) + 1) + 1) + 1) + 1) + 1 + 1) ⟨by omega, by omega⟩ 4
      exact ⟨⟨r1, r2, 1, 1, r3, r4, r6, r9, r10⟩, (((((((p + 1) + 1) + 1) + 1) + 1) + 1) + 1) + 1 + 1 + 1, ⟨by omega, by omega⟩, lift (by apply s_goodCell.w2 (H1 := h) (H2 := h2) (K1 := k1) (K2 := k2) (K3 := k3) (K4 := k4) (K5 := k5) (K6 := k6) (K7 := k7) (K8 := k8) (K9 := k9) (K10 := k10))⟩
def NdOk (e : Node) : Prop := e.cols.length ≤ 5 ∧ e.rows.length ≤ 5
theorem snoc_node (nodes : List Node) (e : Node) : (nodes ++ [e]).map encNode = nodes.map encNode ++ [encNode e] := by simp
theorem uni_node (nodes : List Node) : uni 34 (nodes.map encNode) = true := uni_map (f := encNode) (fun _ => rfl) _
theorem tree_round {b : List Int} (hb : Bs b) (hl : b.length ≤ 2000) {p : Int} (hp : 0 ≤ p ∧ p ≤ 10000000) (n : Int) (hn : 0 < n) (nodes : List Node) (hc : nodes.length ≤ 20) : ∃ (e : Node) (q : Int), NdOk e ∧ (p ≤ q ∧ q ≤ p + 200) ∧
    s_goodTree.r0 CC lpW (s_goodTree.s0 n nodes.length (b.map encB) p (nodes.map encNode)) = some (.normal, s_goodTree.s0 (w64 (n - 1)) ((nodes ++ [e]).map encNode).length (b.map encB) q ((nodes ++ [e]).map encNode)) := by
  obtain ⟨h0, h1⟩ := hp
  have g1 : decide (n > 0) = true := by rw [decide_eq_true_eq]; omega
  have g2 : decide ((nodes.map encNode).length = nodes.length) = true := by simp
  have g3 : decide ((nodes.map encNode).length + 1 ≤ 488671834567) = true := by rw [List.length_map, decide_eq_true_eq]; omega
  have g4 : decide (0 + nodes.length ≤ nodes.length) = true := by simp
  have g5 := uni_node nodes
  obtain ⟨r1, m1, k1⟩ := pick_ex hb hl (p := p) ⟨by omega, by omega⟩ 31
  obtain ⟨r2, m2, k2⟩ := one_ex hb hl (p := (p + 1)) ⟨by omega, by omega⟩ [5, 10, 0, r1] (by simp) (by simp)
  obtain ⟨r3, m3, k3⟩ := pick_ex hb hl (p := ((p + 1) + 1)) ⟨by omega, by omega⟩ 31
  obtain ⟨r4, m4, k4⟩ := one_ex hb hl (p := (((p + 1) + 1) + 1)) ⟨by omega, by omega⟩ [4, 8, 0, r3] (by simp) (by simp)
  obtain ⟨r5, m5, k5⟩ := pick_ex hb hl (p := ((((p + 1) + 1) + 1) + 1)) ⟨by omega, by omega⟩ 6
  obtain ⟨r6, m6, k6⟩ := one_ex hb hl (p := (((((p + 1) + 1) + 1) + 1) + 1)) ⟨by omega, by omega⟩ [0, 1, 0, 2] (by simp) (by simp)
  by_cases ht : 0 < nodes.length
  · have t1 : decide (((nodes.length : Nat) : Int) > 0) = true := by rw [decide_eq_true_eq]; omega
    have t2 : decide ((0 : Int) < ((nodes.length : Nat) : Int)) = true := by rw [decide_eq_true_eq]; omega
    obtain ⟨r7, m7, k7⟩ := pick_ex hb hl (p := ((((((p + 1) + 1) + 1) + 1) + 1) + 1)) ⟨by omega, by omega⟩ ((nodes.length : Nat) : Int)
    obtain ⟨r8, m8, k8⟩ := pick_ex hb hl (p := ((((((p + 1) + 1) + 1) + 1) + 1) + 1) + 1) ⟨by omega, by omega⟩ 3
    have m7' := m7.2 (by omega)
    cases h8 : r8 == 0 with
    | true =>
      obtain ⟨e, he⟩ : ∃ e, (nodes.map encNode)[0]? = some (encNode e) := ⟨nodes[0], by simp [ht]⟩
      cases hk : r6 == 1 with
      | true =>
        cases hek : e.kind == 1 with
        | true =>
          obtain ⟨c1, qa, la, ba, ka⟩ := lines_ex hb hl (p := ((((((p + 1) + 1) + 1) + 1) + 1) + 1) + 1 + 1) ⟨by omega, by omega⟩
          obtain ⟨c2, qb, lb, bb, kb⟩ := lines_ex hb hl (p := qa) ⟨by omega, by omega⟩
          obtain ⟨xp, qc, bc, kc⟩ := pack_ex hb hl (p := qb) ⟨by omega, by omega⟩
          obtain ⟨xl, qd, bd, kd⟩ := place_ex hb hl (p := qc) ⟨by omega, by omega⟩
          obtain ⟨xc, qe, be, ke⟩ := cell_ex hb hl (p := qd) ⟨by omega, by omega⟩ (((e.cols.map encLine).length : Nat) : Int) (((e.rows.map encLine).length : Nat) : Int)
          refine ⟨⟨0, r2, r4, r5 == 0, r6, c1, c2, { xp with w := 0, h := 0 }, ⟨xc.col, xc.row, xc.manyCols, xc.manyRows, 0, 0, xc.stick, xc.padX, xc.padY⟩, xl⟩, qe, ⟨la.1, lb.1⟩, ⟨by omega, by omega⟩, ?_⟩
          rw [snoc_node]
          apply s_goodTree.l0_1 (H1 := g1) (H2 := t1) (H3 := h8) (H4 := hk) (H5 := g2) (H6 := t2) (H7 := g4) (H8 := hek) (H9 := g5) (H10 := g3) (E1 := he) (K1 := k1) (K2 := k2) (K3 := k3) (K4 := k4) (K5 := k5) (K6 := k6) (K7 := k7) (K8 := k8) (K9 := ka) (K10 := kb) (K11 := kc) (K12 := kd) (K13 := ke)
        | false =>
          obtain ⟨c1, qa, la, ba, ka⟩ := lines_ex hb hl (p := ((((((p + 1) + 1) + 1) + 1) + 1) + 1) + 1 + 1) ⟨by omega, by omega⟩
          obtain ⟨c2, qb, lb, bb, kb⟩ := lines_ex hb hl (p := qa) ⟨by omega, by omega⟩
          obtain ⟨xp, qc, bc, kc⟩ := pack_ex hb hl (p := qb) ⟨by omega, by omega⟩
          obtain ⟨xl, qd, bd, kd⟩ := place_ex hb hl (p := qc) ⟨by omega, by omega⟩
          refine ⟨⟨0, r2, r4, r5 == 0, r6, c1, c2, { xp with w := 0, h := 0 }, ⟨0, 0, 0, 0, 0, 0, 0, 0, 0⟩, xl⟩, qd, ⟨la.1, lb.1⟩, ⟨by omega, by omega⟩, ?_⟩
          rw [snoc_node]
          apply s_goodTree.l0_17 (H1 := g1) (H2 := t1) (H3 := h8) (H4 := hk) (H5 := g2) (H6 := t2) (H7 := g4) (H8 := hek) (H9 := g5) (H10 := g3) (E1 := he) (K1 := k1) (K2 := k2) (K3 := k3) (K4 := k4) (K5 := k5) (K6 := k6) (K7 := k7) (K8 := k8) (K9 := ka) (K10 := kb) (K11 := kc) (K12 := kd)
      | false =>
        cases hek : e.kind == 1 with
        | true =>
          obtain ⟨xp, qc, bc, kc⟩ := pack_ex hb hl (p := ((((((p + 1) + 1) + 1) + 1) + 1) + 1) + 1 + 1) ⟨by omega, by omega⟩
          obtain ⟨xl, qd, bd, kd⟩ := place_ex hb hl (p := qc) ⟨by omega, by omega⟩
          obtain ⟨xc, qe, be, ke⟩ := cell_ex hb hl (p := qd) ⟨by omega, by omega⟩ (((e.cols.map encLine).length : Nat) : Int) (((e.rows.map encLine).length : Nat) : Int)
          refine ⟨⟨0, r2, r4, r5 == 0, r6, [], [], { xp with w := 0, h := 0 }, ⟨xc.col, xc.row, xc.manyCols, xc.manyRows, 0, 0, xc.stick, xc.padX, xc.padY⟩, xl⟩, qe, ⟨by simp, by simp⟩, ⟨by omega, by omega⟩, ?_⟩
          rw [snoc_node]
          apply s_goodTree.l0_15 (H1 := g1) (H2 := t1) (H3 := h8) (H4 := hk) (H5 := g2) (H6 := t2) (H7 := g4) (H8 := hek) (H9 := g5) (H10 := g3) (E1 := he) (K1 := k1) (K2 := k2) (K3 := k3) (K4 := k4) (K5 := k5) (K6 := k6) (K7 := k7) (K8 := k8) (K9 := kc) (K10 := kd) (K11 := ke)
        | false =>
          obtain ⟨xp, qc, bc, kc⟩ := pack_ex hb hl (p := ((((((p + 1) + 1) + 1) + 1) + 1) + 1) + 1 + 1) ⟨by omega, by omega⟩
          obtain ⟨xl, qd, bd, kd⟩ := place_ex hb hl (p := qc) ⟨by omega, by omega⟩
          refine ⟨⟨0, r2, r4, r5 == 0, r6, [], [], { xp with w := 0, h := 0 }, ⟨0, 0, 0, 0, 0, 0, 0, 0, 0⟩, xl⟩, qd, ⟨by simp, by simp⟩, ⟨by omega, by omega⟩, ?_⟩
          rw [snoc_node]
          apply s_goodTree.l0_16 (H1 := g1) (H2 := t1) (H3 := h8) (H4 := hk) (H5 := g2) (H6 := t2) (H7 := g4) (H8 := hek) (H9 := g5) (H10 := g3) (E1 := he) (K1 := k1) (K2 := k2) (K3 := k3) (K4 := k4) (K5 := k5) (K6 := k6) (K7 := k7) (K8 := k8) (K9 := kc) (K10 := kd)
    | false =>
      have hlt : r7.toNat < nodes.length := by omega
      obtain ⟨e, he⟩ : ∃ e, (nodes.map encNode)[r7.toNat]? = some (encNode e) := ⟨nodes[r7.toNat], by rw [List.getElem?_map, List.getElem?_eq_getElem hlt]; rfl⟩
      have u1 : decide (r7 ≥ 0) = true := by rw [decide_eq_true_eq]; omega
      have u2 : decide (0 ≤ r7) = true := by rw [decide_eq_true_eq]; omega
      have u3 : decide (r7 < ((nodes.length : Nat) : Int)) = true := by rw [decide_eq_true_eq]; omega
      cases hk : r6 == 1 with
      | true =>
        cases hek : e.kind == 1 with
        | true =>
          obtain ⟨c1, qa, la, ba, ka⟩ := lines_ex hb hl (p := ((((((p + 1) + 1) + 1) + 1) + 1) + 1) + 1 + 1) ⟨by omega, by omega⟩
          obtain ⟨c2, qb, lb, bb, kb⟩ := lines_ex hb hl (p := qa) ⟨by omega, by omega⟩
          obtain ⟨xp, qc, bc, kc⟩ := pack_ex hb hl (p := qb) ⟨by omega, by omega⟩
          obtain ⟨xl, qd, bd, kd⟩ := place_ex hb hl (p := qc) ⟨by omega, by omega⟩
          obtain ⟨xc, qe, be, ke⟩ := cell_ex hb hl (p := qd) ⟨by omega, by omega⟩ (((e.cols.map encLine).length : Nat) : Int) (((e.rows.map encLine).length : Nat) : Int)
          refine ⟨⟨r7, r2, r4, r5 == 0, r6, c1, c2, { xp with w := 0, h := 0 }, ⟨xc.col, xc.row, xc.manyCols, xc.manyRows, 0, 0, xc.stick, xc.padX, xc.padY⟩, xl⟩, qe, ⟨la.1, lb.1⟩, ⟨by omega, by omega⟩, ?_⟩
          rw [snoc_node]
          apply s_goodTree.l0_9 (H1 := g1) (H2 := t1) (H3 := h8) (H4 := hk) (H5 := u1) (H6 := g2) (H7 := u2) (H8 := u3) (H9 := g4) (H10 := hek) (H11 := g5) (H12 := g3) (E1 := he) (K1 := k1) (K2 := k2) (K3 := k3) (K4 := k4) (K5 := k5) (K6 := k6) (K7 := k7) (K8 := k8) (K9 := ka) (K10 := kb) (K11 := kc) (K12 := kd) (K13 := ke)
        | false =>
          obtain ⟨c1, qa, la, ba, ka⟩ := lines_ex hb hl (p := ((((((p + 1) + 1) + 1) + 1) + 1) + 1) + 1 + 1) ⟨by omega, by omega⟩
          obtain ⟨c2, qb, lb, bb, kb⟩ := lines_ex hb hl (p := qa) ⟨by omega, by omega⟩
          obtain ⟨xp, qc, bc, kc⟩ := pack_ex hb hl (p := qb) ⟨by omega, by omega⟩
          obtain ⟨xl, qd, bd, kd⟩ := place_ex hb hl (p := qc) ⟨by omega, by omega⟩
          refine ⟨⟨r7, r2, r4, r5 == 0, r6, c1, c2, { xp with w := 0, h := 0 }, ⟨0, 0, 0, 0, 0, 0, 0, 0, 0⟩, xl⟩, qd, ⟨la.1, lb.1⟩, ⟨by omega, by omega⟩, ?_⟩
          rw [snoc_node]
          apply s_goodTree.l0_14 (H1 := g1) (H2 := t1) (H3 := h8) (H4 := hk) (H5 := u1) (H6 := g2) (H7 := u2) (H8 := u3) (H9 := g4) (H10 := hek) (H11 := g5) (H12 := g3) (E1 := he) (K1 := k1) (K2 := k2) (K3 := k3) (K4 := k4) (K5 := k5) (K6 := k6) (K7 := k7) (K8 := k8) (K9 := ka) (K10 := kb) (K11 := kc) (K12 := kd)
      | false =>
        cases hek : e.kind == 1 with
        | true =>
          obtain ⟨xp, qc, bc, kc⟩ := pack_ex hb hl (p := ((((((p + 1) + 1) + 1) + 1) + 1) + 1) + 1 + 1) ⟨by omega, by omega⟩
          obtain ⟨xl, qd, bd, kd⟩ := place_ex hb hl (p := qc) ⟨by omega, by omega⟩
          obtain ⟨xc, qe, be, ke⟩ := cell_ex hb hl (p := qd) ⟨by omega, by omega⟩ (((e.cols.map encLine).length : Nat) : Int) (((e.rows.map encLine).length : Nat) : Int)
          refine ⟨⟨r7, r2, r4, r5 == 0, r6, [], [], { xp with w := 0, h := 0 }, ⟨xc.col, xc.row, xc.manyCols, xc.manyRows, 0, 0, xc.stick, xc.padX, xc.padY⟩, xl⟩, qe, ⟨by simp, by simp⟩, ⟨by omega, by omega⟩, ?_⟩
          rw [snoc_node]
          apply s_goodTree.l0_10 (H1 := g1) (H2 := t1) (H3 := h8) (H4 := hk) (H5 := u1) (H6 := g2) (H7 := u2) (H8 := u3) (H9 := g4) (H10 := hek) (H11 := g5) (H12 := g3) (E1 := he) (K1 := k1) (K2 := k2) (K3 := k3) (K4 := k4) (K5 := k5) (K6 := k6) (K7 := k7) (K8 := k8) (K9 := kc) (K10 := kd) (K11 := ke)
        | false =>
          obtain ⟨xp, qc, bc, kc⟩ := pack_ex hb hl (p := ((((((p + 1) + 1) + 1) + 1) + 1) + 1) + 1 + 1) ⟨by omega, by omega⟩
          obtain ⟨xl, qd, bd, kd⟩ := place_ex hb hl (p := qc) ⟨by omega, by omega⟩
          refine ⟨⟨r7, r2, r4, r5 == 0, r6, [], [], { xp with w := 0, h := 0 }, ⟨0, 0, 0, 0, 0, 0, 0, 0, 0⟩, xl⟩, qd, ⟨by simp, by simp⟩, ⟨by omega, by omega⟩, ?_⟩
          rw [snoc_node]
          apply s_goodTree.l0_12 (H1 := g1) (H2 := t1) (H3 := h8) (H4 := hk) (H5 := u1) (H6 := g2) (H7 := u2) (H8 := u3) (H9 := g4) (H10 := hek) (H11 := g5) (H12 := g3) (E1 := he) (K1 := k1) (K2 := k2) (K3 := k3) (K4 := k4) (K5 := k5) (K6 := k6) (K7 := k7) (K8 := k8) (K9 := kc) (K10 := kd)
  · have t1 : decide (((nodes.length : Nat) : Int) > 0) = false := by rw [decide_eq_false_iff_not]; omega
    have t2 : decide (w64 (((nodes.length : Nat) : Int) - 1) ≥ 0) = false := by rw [w64_id (by omega) (by omega), decide_eq_false_iff_not]; omega
    cases hk : r6 == 1 with
    | true =>
      obtain ⟨c1, qa, la, ba, ka⟩ := lines_ex hb hl (p := ((((((p + 1) + 1) + 1) + 1) + 1) + 1)) ⟨by omega, by omega⟩
      obtain ⟨c2, qb, lb, bb, kb⟩ := lines_ex hb hl (p := qa) ⟨by omega, by omega⟩
      obtain ⟨xp, qc, bc, kc⟩ := pack_ex hb hl (p := qb) ⟨by omega, by omega⟩
      obtain ⟨xl, qd, bd, kd⟩ := place_ex hb hl (p := qc) ⟨by omega, by omega⟩
      refine ⟨⟨w64 (((nodes.length : Nat) : Int) - 1), r2, r4, r5 == 0, r6, c1, c2, { xp with w := 0, h := 0 }, ⟨0, 0, 0, 0, 0, 0, 0, 0, 0⟩, xl⟩, qd, ⟨la.1, lb.1⟩, ⟨by omega, by omega⟩, ?_⟩
      rw [snoc_node]
      apply s_goodTree.l0_7 (H1 := g1) (H2 := t1) (H3 := hk) (H4 := t2) (H5 := g2) (H6 := g5) (H7 := g3) (K1 := k1) (K2 := k2) (K3 := k3) (K4 := k4) (K5 := k5) (K6 := k6) (K7 := ka) (K8 := kb) (K9 := kc) (K10 := kd)
    | false =>
      obtain ⟨xp, qc, bc, kc⟩ := pack_ex hb hl (p := ((((((p + 1) + 1) + 1) + 1) + 1) + 1)) ⟨by omega, by omega⟩
      obtain ⟨xl, qd, bd, kd⟩ := place_ex hb hl (p := qc) ⟨by omega, by omega⟩
      refine ⟨⟨w64 (((nodes.length : Nat) : Int) - 1), r2, r4, r5 == 0, r6, [], [], { xp with w := 0, h := 0 }, ⟨0, 0, 0, 0, 0, 0, 0, 0, 0⟩, xl⟩, qd, ⟨by simp, by simp⟩, ⟨by omega, by omega⟩, ?_⟩
      rw [snoc_node]
      apply s_goodTree.l0_5 (H1 := g1) (H2 := t1) (H3 := hk) (H4 := t2) (H5 := g2) (H6 := g5) (H7 := g3) (K1 := k1) (K2 := k2) (K3 := k3) (K4 := k4) (K5 := k5) (K6 := k6) (K7 := kc) (K8 := kd)
def DrawnOk (nodes : List Node) : Prop := (1 ≤ nodes.length ∧ nodes.length ≤ 10) ∧ ∀ e ∈ nodes, NdOk e
theorem DrawnOk.ns {nodes : List Node} (h : DrawnOk nodes) : NsOk nodes := by
  refine ⟨by have := h.1.2; omega, fun e he => ?_⟩
  have := h.2 e he
  unfold NdOk at this
  unfold Sm; omega
theorem tree_ex {b : List Int} (hb : Bs b) (hl : b.length ≤ 2000) {p : Int} (hp : 0 ≤ p ∧ p ≤ 1000000) : ∃ (nodes : List Node) (q : Int), DrawnOk nodes ∧ (p ≤ q ∧ q ≤ p + 3000) ∧ PC s_goodTree [.one (rdV b p)] (.agg [.sl (nodes.map encNode)], [rdV b q]) := by
  obtain ⟨h0, h1⟩ := hp
  obtain ⟨n, hn, k1⟩ := one_ex hb hl (p := p) ⟨by omega, by omega⟩ [5, 6, 4, 7, 3, 1, 10] (by simp) (by simp)
  have hn10 : 1 ≤ n ∧ n ≤ 10 := by simp at hn; omega
  have key : ∀ (m : Nat) (nodes : List Node) (q : Int), m ≤ 10 → nodes.length + m ≤ 10 → (∀ e ∈ nodes, NdOk e) → 0 ≤ q → q + 200 * m ≤ 10000000 → ∃ (nodes' : List Node) (q' : Int), nodes'.length = nodes.length + m ∧ (∀ e ∈ nodes', NdOk e) ∧ (q ≤ q' ∧ q' ≤ q + 200 * m) ∧
      lpW (s_goodTree.r0 CC lpW) (s_goodTree.s0 (m : Nat) (nodes.map encNode).length (b.map encB) q (nodes.map encNode)) = some (.exit 0, s_goodTree.e0_0 (nodes'.map encNode).length (b.map encB) q' (nodes'.map encNode)) := by
    intro m
    induction m with
    | zero =>
      intro nodes q _ _ ho _ _
      exact ⟨nodes, q, rfl, ho, ⟨by omega, by omega⟩, lp_exit (s_goodTree.l0_2 _ _ _ _ _ (by simp))⟩
    | succ m ih =>
      intro nodes q hm hlen ho h0 h1
      obtain ⟨e, q1, he, hq, hstep⟩ := tree_round hb hl (p := q) ⟨by omega, by omega⟩ ((m + 1 : Nat) : Int) (by omega) nodes (by omega)
      have ew : w64 (((m + 1 : Nat) : Int) - 1) = (m : Int) := by rw [w64_id (by omega) (by omega)]; omega
      rw [ew] at hstep
      obtain ⟨nodes', q', e1, e2, e3, e4⟩ := ih (nodes ++ [e]) q1 (by omega) (by rw [List.length_append, List.length_singleton]; omega) (fun x hx => by
        rcases List.mem_append.1 hx with hx | hx
        · exact ho x hx
        · rw [List.mem_singleton] at hx; subst hx; exact he) (by omega) (by omega)
      refine ⟨nodes', q', by rw [e1, List.length_append, List.length_singleton]; omega, e2, ⟨by omega, by omega⟩, lp_again ?_ e4⟩
      rw [List.length_map]; exact hstep
  obtain ⟨nodes, q, e1, e2, e3, e4⟩ := key n.toNat [] (p + 1) (by omega) (by simp; omega) (by simp) (by omega) (by omega)
  simp at e1
  refine ⟨nodes, q, ⟨⟨by omega, by omega⟩, e2⟩, ⟨by omega, by omega⟩, lift ?_⟩
  refine s_goodTree.w1 b p n (p + 1) (nodes.map encNode).length (b.map encB) q _ (by simp) k1 ?_
  rw [show ((n.toNat : Nat) : Int) = n by omega] at e4
  simpa using e4
theorem drawn_set {nodes : List Node} (h : DrawnOk nodes) {k : Nat} (hk : k < nodes.length) {e : Node} (hc : e.cols = nodes[k].cols) (hr : e.rows = nodes[k].rows) : DrawnOk (nodes.set k e) := by
  refine ⟨by rw [List.length_set]; exact h.1, fun x hx => ?_⟩
  rcases List.mem_or_eq_of_mem_set hx with hx | rfl
  · exact h.2 x hx
  · have := h.2 _ (List.getElem_mem hk)
    unfold NdOk at this ⊢
    rw [hc, hr]; exact this
theorem some_ex {b : List Int} (hb : Bs b) (hl : b.length ≤ 2000) {p : Int} (hp : 0 ≤ p ∧ p ≤ 100000) : ∃ (nodes : List Node) (q : Int), DrawnOk nodes ∧ (p ≤ q ∧ q ≤ p + 4000) ∧ PC s_someTree [.one (rdV b p)] (.agg [.sl (nodes.map encNode)], [rdV b q]) := by
  obtain ⟨h0, h1⟩ := hp
  obtain ⟨nodes, q, ho, hq, k1⟩ := tree_ex hb hl (p := p) ⟨by omega, by omega⟩
  obtain ⟨r, mr, k2⟩ := pick_ex hb hl (p := q) ⟨by omega, by omega⟩ (((nodes.map encNode).length : Nat) : Int)
  obtain ⟨r2, mr2, k3⟩ := pick_ex hb hl (p := q + 1) ⟨by omega, by omega⟩ 24
  have hpos := ho.1.1
  have hlt : r.toNat < nodes.length := by have := mr.2 (by rw [List.length_map]; omega); rw [List.length_map] at this; omega
  have g1 : decide (0 ≤ r) = true := by rw [decide_eq_true_eq]; exact mr.1
  have g2 : decide (r < (((nodes.map encNode).length : Nat) : Int)) = true := by rw [List.length_map, decide_eq_true_eq]; omega
  have g3 : decide (0 + (nodes.map encNode).length ≤ (nodes.map encNode).length) = true := by simp
  have he : (nodes.map encNode)[r.toNat]? = some (encNode nodes[r.toNat]) := by rw [List.getElem?_map, List.getElem?_eq_getElem hlt]; rfl
  have hset : ∀ e : Node, (nodes.map encNode).set r.toNat (encNode e) = (nodes.set r.toNat e).map encNode := fun e => by rw [List.map_set]
  cases h : r2 == 0 with
  | true =>
    obtain ⟨r3, _, k4⟩ := one_ex hb hl (p := q + 1 + 1) ⟨by omega, by omega⟩ [r, -1, 10] (by simp) (by simp)
    refine ⟨nodes.set r.toNat { nodes[r.toNat] with parent := r3 }, q + 1 + 1 + 1, drawn_set ho hlt rfl rfl, ⟨by omega, by omega⟩, lift ?_⟩
    rw [← hset]
    apply s_someTree.w1 (H1 := h) (H2 := g1) (H3 := g2) (H4 := g3) (E1 := he) (K1 := k1) (K2 := k2) (K3 := k3) (K4 := k4)
  | false =>
  cases h' : r2 == 1 with
  | true =>
    obtain ⟨r3, _, k4⟩ := one_ex hb hl (p := q + 1 + 1) ⟨by omega, by omega⟩ [-1, 31] (by simp) (by simp)
    refine ⟨nodes.set r.toNat { nodes[r.toNat] with w := r3 }, q + 1 + 1 + 1, drawn_set ho hlt rfl rfl, ⟨by omega, by omega⟩, lift ?_⟩
    rw [← hset]
    apply s_someTree.w2 (H1 := h) (H2 := h') (H3 := g1) (H4 := g2) (H5 := g3) (E1 := he) (K1 := k1) (K2 := k2) (K3 := k3) (K4 := k4)
  | false =>
  cases h'' : r2 == 2 with
  | true =>
    obtain ⟨r3, _, k4⟩ := one_ex hb hl (p := q + 1 + 1) ⟨by omega, by omega⟩ [-1, 3, 1, 0] (by simp) (by simp)
    refine ⟨nodes.set r.toNat { nodes[r.toNat] with kind := r3 }, q + 1 + 1 + 1, drawn_set ho hlt rfl rfl, ⟨by omega, by omega⟩, lift ?_⟩
    rw [← hset]
    apply s_someTree.w3 (H1 := h) (H2 := h') (H3 := h'') (H4 := g1) (H5 := g2) (H6 := g3) (E1 := he) (K1 := k1) (K2 := k2) (K3 := k3) (K4 := k4)
  | false =>
  cases h3 : r2 == 3 with
  | true =>
    refine ⟨nodes.set r.toNat { nodes[r.toNat] with pack := { nodes[r.toNat].pack with w := 1 } }, q + 1 + 1, drawn_set ho hlt rfl rfl, ⟨by omega, by omega⟩, lift ?_⟩
    rw [← hset]
    apply s_someTree.w4 (H1 := h) (H2 := h') (H3 := h'') (H4 := h3) (H5 := g1) (H6 := g2) (H7 := g3) (E1 := he) (K1 := k1) (K2 := k2) (K3 := k3)
  | false =>
    exact ⟨nodes, q + 1 + 1, ho, ⟨by omega, by omega⟩, lift (by apply s_someTree.w5 (H1 := h) (H2 := h') (H3 := h'') (H4 := h3) (K1 := k1) (K2 := k2) (K3 := k3))⟩
theorem room_ex {b : List Int} (hb : Bs b) (hl : b.length ≤ 2000) {p : Int} (hp : 0 ≤ p ∧ p ≤ 10000) : ∃ (nodes : List Node) (w h q : Int), DrawnOk nodes ∧ (p ≤ q ∧ q ≤ p + 5000) ∧ PC s_treeRoom [.one (rdV b p)] (.tup [.agg [.sl (nodes.map encNode)], vI w, vI h], [rdV b q]) := by
  obtain ⟨h0, h1⟩ := hp
  obtain ⟨nodes, q, ho, hq, k1⟩ := some_ex hb hl (p := p) ⟨by omega, by omega⟩
  obtain ⟨r, mr, k2⟩ := one_ex hb hl (p := q) ⟨by omega, by omega⟩ [60, 100, 20, 0, 400, 401] (by simp) (by simp)
  obtain ⟨r2, mr2, k3⟩ := one_ex hb hl (p := q + 1) ⟨by omega, by omega⟩ [50, 100, 10, 0, 400, -1] (by simp) (by simp)
  have k4 := s_validTree.c nodes ho.ns
  unfold s_validTree.m at k4
  cases hv : vTree nodes with
  | false =>
    rw [hv] at k4
    exact ⟨nodes, r, r2, q + 1 + 1, ho, ⟨by omega, by omega⟩, lift (by apply s_treeRoom.w2 (K1 := k1) (K2 := k2) (K3 := k3) (K4 := k4))⟩
  | true =>
    rw [hv] at k4
    obtain ⟨r4, mr4, k5⟩ := pick_ex hb hl (p := q + 1 + 1) ⟨by omega, by omega⟩ 2
    cases h4 : r4 == 0 with
    | false => exact ⟨nodes, r, r2, q + 1 + 1 + 1, ho, ⟨by omega, by omega⟩, lift (by apply s_treeRoom.w3 (H2 := h4) (K1 := k1) (K2 := k2) (K3 := k3) (K4 := k4) (K5 := k5))⟩
    | true =>
      have ht := tree_of hv
      have k6 := s_size ht ht.pos
      exact ⟨nodes, _, _, q + 1 + 1 + 1, ho, ⟨by omega, by omega⟩, lift (by apply s_treeRoom.w1 (H2 := h4) (K1 := k1) (K2 := k2) (K3 := k3) (K4 := k4) (K5 := k5) (K6 := k6))⟩
def CodeOk (code : List Int) : Prop := Bs code ∧ code.length ≤ 100000000000000
theorem readW {code : List Int} (hc : CodeOk code) : ∃ b, Bs b ∧ b.length ≤ 2000 ∧ PC s_newReader [.one (.rsl (code.map encB))] (.one (rdV b 0), []) := by
  obtain ⟨hc, hl⟩ := hc
  by_cases h : code.length > 2000
  · refine ⟨cut 0 2000 code, fun x hx => hc x (cut_mem x hx), by unfold cut; rw [List.length_take]; omega, lift ?_⟩
    have := s_newReader.w1 (call := CC) (lp := lpW) code (by rw [List.length_map, decide_eq_true_eq]; omega) (by rw [List.length_map, decide_eq_true_eq]; omega) (uni_map (f := encB) (fun _ => rfl) _)
    rw [cut_map] at this
    exact this
  · exact ⟨code, hc, by omega, lift (s_newReader.w2 code (by rw [List.length_map, decide_eq_false_iff_not]; omega))⟩
theorem drawLayoutTree_ex {code : List Int} (hc : CodeOk code) : ∃ (nodes : List Node) (w h : Int), DrawnOk nodes ∧ PC s_DrawLayoutTree [.one (.rsl (code.map encB))] (.tup [.agg [.sl (nodes.map encNode)], vI w, vI h], []) := by
  obtain ⟨b, hb, hl, k1⟩ := readW hc
  obtain ⟨nodes, w, h, q, ho, hq, k2⟩ := room_ex hb hl (p := 0) ⟨by omega, by omega⟩
  exact ⟨nodes, w, h, ho, lift (by apply s_DrawLayoutTree.w1 (K1 := k1) (K2 := k2))⟩
end Go.Proofs.Ytdgamfanffnhaaa.PI
namespace Go.Proofs.Ytdgamfanffnhaaa.PI
open Go Go.RowKit Go.ChangeShapes
def kBytes : Kd := .sl (.int .u8)
theorem sh_bytes {cs : List C} (h : Sh kBytes cs) : ∃ code : List Int, cs = [.sl (code.map encB)] ∧ Bs code := by
  obtain ⟨rows, rfl, hlen, hh⟩ := h
  have : ∃ l : List Int, rows = l.map encB ∧ Bs l := by
    clear hlen
    induction rows with
    | nil => exact ⟨[], rfl, fun x hx => by simp at hx⟩
    | cons r rows ih =>
      obtain ⟨l, hl, hb⟩ := ih fun x hx => hh x (List.mem_cons_of_mem _ hx)
      obtain ⟨n, hn, hw⟩ := hh r (List.mem_cons_self ..)
      refine ⟨n :: l, by rw [hn, hl]; rfl, fun x hx => ?_⟩
      rcases List.mem_cons.1 hx with rfl | hx
      · have : IntKind.u8.min ≤ x ∧ x ≤ IntKind.u8.max := by simpa [Lit.wf] using hw
        have e1 : IntKind.u8.min = 0 := by decide
        have e2 : IntKind.u8.max = 255 := by decide
        omega
      · exact hb x hx
  obtain ⟨l, rfl, hb⟩ := this
  exact ⟨l, rfl, hb⟩
theorem open_code {H : Type} {enc : TypeId × Value → H} {P : Program} {w : World} {base b0 : Nat} {r : Reach} {spare : Nat → Bool} {held : Bool} {t e : TypeId} {v : Value} {d : DataW H} {ps : List MemPlace} (ht : P.underlying t = some (.slice e)) (hk : kdOk P kBytes (.inl t) = true)
    (hval : Value.okWide P w r b0 t v) (hd : DataW.Trod enc P w base spare held t v d ps) : ∃ code : List Int, Bs code ∧ RoV (hp w) (Rw w) (.one (.rsl (code.map encB))) v := by
  obtain ⟨a, len, cap, rfl⟩ := Go.WideShapes.okWide_slice ht hval
  obtain ⟨cs, hs, hro⟩ := arg_sh hk hd
  obtain ⟨code, rfl, hb⟩ := sh_bytes hs
  refine ⟨code, hb, ?_⟩
  have e : (Value.slice a len cap).cells.toList = [.slice a len cap] := rfl
  rw [e] at hro
  exact ro_rsl hro
end Go.Proofs.Ytdgamfanffnhaaa.PI
namespace Go.Proofs.Ytdgamfanffnhaaa.PI
open Go
theorem l_equalRects.c (l : List Rect) (hl : l.length ≤ 1000000) : PC l_equalRects [.one (.rsl (l.map encRect)), .one (.rsl (l.map encRect))] (vB true, []) := by
  refine lift ?_
  refine l_equalRects.w1 l l (bne_self_eq_false _) ?_
  exact loop_exit (step := l_equalRects.r0 CC lpW) (S := fun j => l_equalRects.s0 (l.map encRect) (l.map encRect) (j : Nat)) l.length (fun j hj => by
    have hat : (l.map encRect)[((j : Nat) : Int).toNat]? = some (encRect l[j]) := at_map hj
    have := l_equalRects.l0_2 (call := CC) (lp := lpW) (l.map encRect) (l.map encRect) (j : Nat) l[j] l[j] (by simpa using hj) (by simp) (beq_self_eq_true _) (beq_self_eq_true _) (beq_self_eq_true _) (beq_self_eq_true _) hat hat
    rw [this, w64_succ (by omega)]) (l_equalRects.l0_1 _ _ _ (by simp))
theorem lay_eq {nodes : List Node} {w h : Int} (hv : (vTree nodes && roomOk w h) = true) : layOf nodes w h = layoutF nodes w h := by unfold layOf; rw [hv]; rfl
theorem lay_none {nodes : List Node} {w h : Int} (hv : (vTree nodes && roomOk w h) = false) : layOf nodes w h = [] := by unfold layOf; rw [hv]; rfl
theorem code_ok {code : List Int} (hb : Bs code) (h : ¬ code.length > 1048576) : CodeOk code := ⟨hb, by omega⟩
theorem law_LayoutTree {code : List Int} (hb : Bs code) : PC l_FnLayoutTree [.one (.rsl (code.map encB))] (vB true, []) := by
  refine lift ?_
  by_cases hl : code.length > 1048576
  · exact l_FnLayoutTree.w1 code (by rw [List.length_map, decide_eq_true_eq]; omega)
  · have g1 : decide ((((code.map encB).length : Nat) : Int) > 1048576) = false := by rw [List.length_map, decide_eq_false_iff_not]; omega
    obtain ⟨nodes, w, h, ho, k1⟩ := drawLayoutTree_ex (code_ok hb hl)
    have ks := s_LayoutTree.c (w := w) (h := h) ho.ns
    cases hv : vTree nodes && roomOk w h with
    | false =>
      rw [lay_none hv] at ks
      have ke := l_equalRects.c [] (by simp)
      exact l_FnLayoutTree.w4 code nodes w h [] [] true g1 k1 (i_LayoutTree.none ho.ns hv) ks ke ks ke
    | true =>
      have ki := i_LayoutTree.some ho.ns hv
      rw [lay_eq hv] at ki ks
      rw [Bool.and_eq_true] at hv
      have ht := tree_of hv.1
      have hr := room_ok hv.2
      have hll := layout_len nodes w h
      have hpos := ht.pos
      have hle := ht.le
      have hlb := rect_lb ht hr
      have hat := fun {j} (hj : j < nodes.length) => layout_at (nodes := nodes) (w := w) (h := h) hj
      have ke := l_equalRects.c (layoutF nodes w h) (by omega)
      have h0 := hat hpos
      rw [rect_zero] at h0
      have e0 : ((layoutF nodes w h).map encRect)[0]? = some (encRect (rootR w h)) := by rw [List.getElem?_map, h0]; rfl
      have l0 := loop_exit (step := l_FnLayoutTree.r0 CC lpW) (S := fun j => l_FnLayoutTree.s0 w h nodes.length (j : Nat) nodes.length (nodes.map encNode) ((layoutF nodes w h).map encRect)) nodes.length (fun j hj => by
        have hb := hlb j hj
        have hw := hb.w.1
        have hh := hb.h.1
        rw [l_FnLayoutTree.l0_2 (call := CC) (lp := lpW) w h nodes.length (j : Nat) nodes.length (nodes.map encNode) ((layoutF nodes w h).map encRect) _ (by simpa using hj) (by rw [List.length_map, hll, decide_eq_true_eq]) (by simp) (by simp) (by rw [decide_eq_false_iff_not]; omega) (by rw [decide_eq_false_iff_not]; omega) (at_rects (hat hj)), w64_succ (by omega)]) (l_FnLayoutTree.l0_1 _ _ _ _ _ _ _ (by simp))
      have km := l_room.c w h
      have := l_FnLayoutTree.w6 (call := CC) (lp := lpW) code nodes w h (layoutF nodes w h) (layoutF nodes w h) w h nodes.length nodes.length (nodes.map encNode) ((layoutF nodes w h).map encRect) (rootR w h) (l_room.m w h) g1 (by rw [List.length_map, hll, beq_eq_false_iff_ne]; omega) (by rw [List.length_map, hll, decide_eq_true_eq]) (by rw [decide_eq_true_eq]; omega) (by simp) (beq_self_eq_true _) (beq_self_eq_true _) (beq_self_eq_true _) (beq_self_eq_true _) e0 k1 ki ks ke km (by rw [List.length_map, hll, List.length_map]; exact l0)
      rw [this, beq_self_eq_true]
end Go.Proofs.Ytdgamfanffnhaaa.PI
namespace Go.Proofs.Ytdgamfanffnhaaa
open Go Go.ChangeShapes Go.WideShapes Go.ChangeAt Go.RowKit PI
theorem Try.own : ownKnob Try.prog.godebug = none := by kernel_rfl
theorem Try.laidOut : laidOutB Try.prog = true := by kernel_rfl
set_option maxRecDepth 100000 in
theorem law_lifted (os : Os) (started : os.Started) (H : Type) (enc : TypeId × Value → H) :
    ReturnsInHanded {} Try.checked os 5 .any (Rows.fnLayoutTreeSpec.pre6 enc Try.prog Try.f5 Rows.fnLayoutTreeRow.domain false) (Rows.fnLayoutTreeSpec.post enc Try.prog Try.f5 false true false false) := by
  refine returnsInHanded_of_change (C := Try.checked) Try.own started (by kernel_rfl) Try.func5
    (ChangeSpec.witness6 (enc := enc) (C := Try.checked) false ⟨#[], #[.slice none 0 0], []⟩ 8 (by kernel_rfl) (by kernel_rfl) (by kernel_rfl) (by kernel_rfl)) ?_
  intro W base args ds gs before hval0 hW hcnd _
  have hval : ∀ (j : Nat) t v, Try.f5.params[j]? = some t → args[j]? = some v → Value.okWide Try.prog W .any base t v := hval0
  have hW' := hW
  obtain ⟨p, q, hA0, hV, rfl, hfz, hnd⟩ := hW
  have hA : DataW.TrodAll enc Try.prog W 0 (fun _ => true) true Try.f5.params.toList args.toList ds p := hA0
  rw [Try.params5] at hA hval
  obtain ⟨v0, d0, rfl, rfl, h0⟩ := trodAll_one hA
  obtain ⟨rfl, rfl⟩ := trodVars_none hV
  obtain ⟨code, hbs, r0⟩ := open_code (P := Try.prog) Try.underlying39 (by kernel_rfl) (hval 0 39 v0 rfl rfl) h0
  clear hA0 hval0
  simp only [List.append_nil] at hW'
  refine (answer (P := Try.prog) (by kernel_rfl) allOk rfl (.cons r0 .nil) (law_LayoutTree hbs)).mono fun e W' ⟨he, hb⟩ => ?_
  subst he
  have hlt : ∀ x ∈ p, x.block < W.heap.size := fun x hx => hW'.lt x hx
  exact ⟨_, rfl, post_of_grown hW' (fun _ _ _ => trodAll_mk1 (shut_bool Try.underlying4 true))
    (fun sp hs => trodAll_mk1 (WideElems.Trod_stays (sp' := sp) Try.laidOut (by kernel_rfl) (of_decide_eq_true (by kernel_rfl)) h0 (fun x hx => hb.same (hlt x hx)) (fun x hx => hs x hx)))
    (fun _ => rfl) hb (ok_one (by kernel_rfl) rfl (okWide_bool_mk Try.underlying4 true))⟩
theorem fnLayoutTree_holds : Rows.FnLayoutTreeSaid :=
  OpenClaim.holds_of_wide 5 Try.f5 rfl rfl rfl rfl rfl rfl rfl ⟨rfl, rfl, rfl, rfl, rfl⟩ rfl rfl rfl rfl rfl (by kernel_rfl) Try.func5 (by kernel_rfl)
    (of_decide_eq_true (by kernel_rfl)) (by unfold Func.isWrapper; first | (rw [if_pos (by decide +kernel)]; kernel_rfl) | (rw [if_neg (by decide +kernel)]; exact ⟨rfl, rfl⟩))
    (fun os started H enc _ => law_lifted os started H enc)
end Go.Proofs.Ytdgamfanffnhaaa
