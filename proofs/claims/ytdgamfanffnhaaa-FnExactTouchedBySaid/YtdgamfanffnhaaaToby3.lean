/-
  The law FnExactTouchedBy answers true whatever comes in, and what came in reads as it did. No condition.
-/
import Derived.Test.YtdgamfanffnhaaaToby2
set_option linter.unusedVariables false
set_option linter.unusedSimpArgs false
namespace Go.Proofs.Ytdgamfanffnhaaa.PI
open Go
def nodeAt (nodes : List Node) (k : Nat) : Node := (nodes[k]?).getD default
theorem nodeAt_eq {nodes : List Node} {k : Nat} (h : k < nodes.length) : nodeAt nodes k = nodes[k] := by unfold nodeAt; rw [List.getElem?_eq_getElem h]; rfl
structure PlaceOk (p : Place) : Prop where
  x : -300 ≤ p.x ∧ p.x ≤ 300
  y : -300 ≤ p.y ∧ p.y ≤ 300
  w : -300 ≤ p.w ∧ p.w ≤ 300
  h : -300 ≤ p.h ∧ p.h ≤ 300
  rx : 0 ≤ p.relX ∧ p.relX ≤ 1000
  ry : 0 ≤ p.relY ∧ p.relY ≤ 1000
  rw : 0 ≤ p.relW ∧ p.relW ≤ 1000
  rh : 0 ≤ p.relH ∧ p.relH ≤ 1000
  anchor : 0 ≤ p.anchor ∧ p.anchor ≤ 8
structure NodeOk (nodes : List Node) (i : Nat) (e : Node) : Prop where
  w : 0 ≤ e.w ∧ e.w ≤ 30
  h : 0 ≤ e.h ∧ e.h ≤ 30
  kind : e.kind = 0 ∨ e.kind = 1 ∨ e.kind = 2
  pack : PackOk 0 e.pack
  place : PlaceOk e.place
  lines : e.kind = 1 → LinesOk e.cols ∧ LinesOk e.rows
  nolines : e.kind ≠ 1 → e.cols = [] ∧ e.rows = []
  root : i = 0 → e.parent = -1
  up : 0 < i → 0 ≤ e.parent ∧ e.parent < i
  cell : 0 < i → (nodeAt nodes e.parent.toNat).kind = 1 → CellOk 0 (nodeAt nodes e.parent.toNat).cols.length (nodeAt nodes e.parent.toNat).rows.length e.cell
structure TreeOk (nodes : List Node) : Prop where
  pos : 0 < nodes.length
  le : nodes.length ≤ 10
  node : ∀ i, i < nodes.length → NodeOk nodes i (nodeAt nodes i)
theorem lines_of {l : List Line} (h : i_linesOk.m l = true) : LinesOk l := by
  unfold i_linesOk.m at h
  rw [bif_and, Bool.and_eq_true, within_iff, Bool.not_eq_true', List.any_eq_false] at h
  refine ⟨fun x hx => ?_, by omega, by omega⟩
  have := h.2 x hx
  unfold i_linesOk_1.m at this
  cases h1 : i_within.m x.weight 0 5 with
  | false => rw [h1] at this; simp at this
  | true =>
    rw [h1] at this
    simp only [cond_true, Bool.not_eq_true', Bool.not_eq_false] at this
    rw [within_iff] at h1 this
    exact ⟨h1, this⟩
theorem span_of {a m : Int} {n : Nat} (hn : n ≤ 1000000) (h : i_spanOk.m a m n = true) : 0 ≤ a ∧ 1 ≤ m ∧ a + m ≤ n := by
  unfold i_spanOk.m at h
  rw [bif_and, Bool.and_eq_true, within_iff, within_iff, w64_id (n := (n : Int) - 1) (by omega) (by omega)] at h
  obtain ⟨⟨h1, h2⟩, h3, h4⟩ := h
  rw [w64_id (by omega) (by omega)] at h4
  omega
theorem vnode_lines {nodes : List Node} {i : Nat} {e : Node} (h : vNodeAt nodes i e = true) (h1 : e.kind = 1) : LinesOk e.cols ∧ LinesOk e.rows := by
  unfold vNodeAt at h
  rw [Bool.and_eq_true] at h
  have h := h.1
  unfold i_Node_ok.m at h
  simp only [bif_and, bif_nand, Bool.and_eq_true, Bool.not_eq_true', bne_eq_false_iff_eq] at h
  have a10 := h.2.2.2.2.2.2.2.2.2
  rw [beq_iff_eq.2 h1] at a10
  simp only [cond_true, Bool.and_eq_true] at a10
  exact ⟨lines_of a10.1, lines_of a10.2⟩
theorem node_of {nodes : List Node} (hn : nodes.length ≤ 10) (hv : ∀ k (hk : k < nodes.length), vNodeAt nodes k nodes[k] = true) {i : Nat} (hi : i < nodes.length) : NodeOk nodes i nodes[i] := by
  have h := hv i hi
  have hl := vnode_lines h
  unfold vNodeAt at h
  rw [Bool.and_eq_true] at h
  obtain ⟨h, hu⟩ := h
  have hc := node_cell h
  unfold i_Node_ok.m at h
  simp only [bif_and, bif_nand, Bool.and_eq_true, Bool.not_eq_true', bne_eq_false_iff_eq] at h
  obtain ⟨a1, a2, a3, a4, a5, a6, a7, a8, a9, a10⟩ := h
  rw [within_iff] at a1 a2 a3
  unfold i_ValidPack.m at a4
  simp only [bif_and, Bool.and_eq_true, within_iff] at a4
  unfold i_ValidPlace.m at a7
  simp only [bif_and, Bool.and_eq_true, within_iff, List.all_cons, List.all_nil, Bool.and_true] at a7
  obtain ⟨⟨b1, b2, b3, b4⟩, ⟨b5, b6, b7, b8⟩, b9⟩ := a7
  have hk : (nodes[i].kind == 1) = true ↔ nodes[i].kind = 1 := beq_iff_eq
  unfold upOk at hu
  refine ⟨a1, a2, by omega, ⟨by omega, by omega, a4.2.2.1, a4.2.2.2.1, a4.2.2.2.2.1, a4.2.2.2.2.2⟩, ⟨b1, b2, b3, b4, b5, b6, b7, b8, b9⟩, ?_, ?_, ?_, ?_, ?_⟩
  · exact hl
  · intro h1
    rw [beq_eq_false_iff_ne.2 h1] at a10
    simp only [cond_false, Bool.and_eq_true, beq_iff_eq, List.length_map] at a10
    exact ⟨List.length_eq_zero_iff.1 (by omega), List.length_eq_zero_iff.1 (by omega)⟩
  · intro h0; subst h0
    simpa using hu
  · intro h0
    rw [show (i == 0) = false by rw [beq_eq_false_iff_ne]; omega] at hu
    simp only [cond_false] at hu
    rw [bif_and, Bool.and_eq_true, within_iff] at hu
    omega
  · intro h0 hkk
    rw [show (i == 0) = false by rw [beq_eq_false_iff_ne]; omega] at hu
    simp only [cond_false] at hu
    rw [bif_and, Bool.and_eq_true, within_iff] at hu
    obtain ⟨hp, hu⟩ := hu
    have hup : upOf nodes nodes[i] = nodeAt nodes nodes[i].parent.toNat := rfl
    rw [hup, hkk] at hu
    simp only [beq_self_eq_true, cond_true] at hu
    unfold i_Cell_lies.m at hu
    simp only [bif_and, Bool.and_eq_true, within_iff, List.length_map] at hu
    obtain ⟨c1, c2, c3, c4, c5⟩ := hu
    have hpl : nodes[i].parent.toNat < nodes.length := by omega
    have hv2 := hv _ hpl
    rw [nodeAt_eq hpl] at hkk c1 c2 ⊢
    have hl2 := vnode_lines hv2 hkk
    have n1 := hl2.1.2.2
    have n2 := hl2.2.2.2
    exact ⟨by omega, by omega, c4, c5, span_of (by omega) c1, span_of (by omega) c2, c3⟩
theorem tree_of {nodes : List Node} (h : vTree nodes = true) : TreeOk nodes := by
  unfold vTree at h
  rw [Bool.and_eq_true, within_iff, ← vAll] at h
  obtain ⟨h1, h2⟩ := h
  refine ⟨by omega, by omega, fun i hi => ?_⟩
  rw [nodeAt_eq hi]
  refine node_of (by omega) (fun k hk => ?_) hi
  have := h1 k hk
  rw [List.getElem?_eq_getElem hk] at this
  simpa using this
def kidsF (nodes : List Node) (i : Nat) : List Nat := (List.range nodes.length).filter fun k => (nodeAt nodes k).parent == (i : Int)
def ints (l : List Nat) : List Int := l.map fun (k : Nat) => (k : Int)
theorem kids_mem {nodes : List Node} (ht : TreeOk nodes) {i k : Nat} (h : k ∈ kidsF nodes i) : k < nodes.length ∧ i < k ∧ (nodeAt nodes k).parent = i := by
  unfold kidsF at h
  rw [List.mem_filter, List.mem_range, beq_iff_eq] at h
  refine ⟨h.1, ?_, h.2⟩
  have hn := ht.node k h.1
  by_cases h0 : k = 0
  · have := hn.root h0; omega
  · have := hn.up (by omega); omega
theorem kids_len {nodes : List Node} (ht : TreeOk nodes) (i : Nat) : (kidsF nodes i).length ≤ 9 := by
  obtain ⟨n, hn⟩ : ∃ n, nodes.length = n + 1 := ⟨nodes.length - 1, by have := ht.pos; omega⟩
  have h0 : ((nodeAt nodes 0).parent == (i : Int)) = false := by
    have := (ht.node 0 ht.pos).root rfl
    rw [this, beq_eq_false_iff_ne]; omega
  unfold kidsF
  rw [hn, List.range_succ_eq_map, List.filter_cons_of_neg (by rw [h0]; decide)]
  refine Nat.le_trans (List.length_filter_le _ _) ?_
  have := ht.le
  simp; omega
def packOf (nodes : List Node) (sz : Nat → Int × Int) (k : Nat) : Pack := { (nodeAt nodes k).pack with w := (sz k).1, h := (sz k).2 }
def cellOf (nodes : List Node) (sz : Nat → Int × Int) (k : Nat) : Cell := { (nodeAt nodes k).cell with w := (sz k).1, h := (sz k).2 }
def sizeBody (nodes : List Node) (sz : Nat → Int × Int) (i : Nat) : Int × Int :=
  if (nodeAt nodes i).keep = true ∨ kidsF nodes i = [] ∨ (nodeAt nodes i).kind = 2 then ((nodeAt nodes i).w, (nodeAt nodes i).h)
  else if (nodeAt nodes i).kind = 0 then packReqF ((kidsF nodes i).map (packOf nodes sz))
  else gridReqF (nodeAt nodes i).cols (nodeAt nodes i).rows ((kidsF nodes i).map (cellOf nodes sz))
def sizeN (nodes : List Node) : Nat → Nat → Int × Int
  | 0, _ => (0, 0)
  | f + 1, i => sizeBody nodes (sizeN nodes f) i
def sizeF (nodes : List Node) (i : Nat) : Int × Int := sizeN nodes nodes.length i
theorem packs_congr {nodes : List Node} {s s' : Nat → Int × Int} {l : List Nat} (h : ∀ k ∈ l, s k = s' k) : l.map (packOf nodes s) = l.map (packOf nodes s') :=
  List.map_congr_left fun k hk => by unfold packOf; rw [h k hk]
theorem cells_congr {nodes : List Node} {s s' : Nat → Int × Int} {l : List Nat} (h : ∀ k ∈ l, s k = s' k) : l.map (cellOf nodes s) = l.map (cellOf nodes s') :=
  List.map_congr_left fun k hk => by unfold cellOf; rw [h k hk]
theorem body_congr {nodes : List Node} {s s' : Nat → Int × Int} {i : Nat} (h : ∀ k ∈ kidsF nodes i, s k = s' k) : sizeBody nodes s i = sizeBody nodes s' i := by
  unfold sizeBody
  rw [packs_congr h, cells_congr h]
theorem sizeN_stable {nodes : List Node} (ht : TreeOk nodes) : ∀ (f g i : Nat), i < nodes.length → nodes.length - i ≤ f → nodes.length - i ≤ g → sizeN nodes f i = sizeN nodes g i
  | 0, _, _, h, h1, _ => by omega
  | _, 0, _, h, _, h2 => by omega
  | f + 1, g + 1, i, h, h1, h2 => by
    show sizeBody nodes (sizeN nodes f) i = sizeBody nodes (sizeN nodes g) i
    refine body_congr fun k hk => ?_
    obtain ⟨a, b, _⟩ := kids_mem ht hk
    exact sizeN_stable ht f g k a (by omega) (by omega)
theorem sizeF_eq {nodes : List Node} (ht : TreeOk nodes) {i : Nat} (hi : i < nodes.length) : sizeF nodes i = sizeBody nodes (sizeF nodes) i := by
  unfold sizeF
  obtain ⟨n, hn⟩ : ∃ n, nodes.length = n + 1 := ⟨nodes.length - 1, by omega⟩
  rw [hn]
  show sizeBody nodes (sizeN nodes n) i = _
  refine body_congr fun k hk => ?_
  obtain ⟨a, b, _⟩ := kids_mem ht hk
  exact sizeN_stable ht n (n + 1) k a (by omega) (by omega)
def bnd (d : Nat) : Int := 1000 * 10 ^ d
theorem bnd_succ (d : Nat) : bnd (d + 1) = 10 * bnd d := by unfold bnd; rw [Int.pow_succ]; omega
theorem bnd_pos (d : Nat) : 1000 ≤ bnd d := by
  induction d with
  | zero => decide
  | succ d ih => rw [bnd_succ]; omega
theorem bnd_mono {d e : Nat} (h : d ≤ e) : bnd d ≤ bnd e := by
  induction e with
  | zero => have : d = 0 := by omega
            subst this; exact Int.le_refl _
  | succ e ih =>
    by_cases hd : d = e + 1
    · subst hd; exact Int.le_refl _
    · have := ih (by omega); have := bnd_pos e; rw [bnd_succ]; omega
theorem bnd_mid {d : Nat} (h : d ≤ 10) : Mid (bnd d) := by
  have := bnd_mono h
  have h2 := bnd_pos d
  have h3 : bnd 10 = 10000000000000 := by decide
  exact ⟨by omega, by omega⟩
def SzB (M : Int) (s : Int × Int) : Prop := (0 ≤ s.1 ∧ s.1 ≤ M) ∧ 0 ≤ s.2 ∧ s.2 ≤ M
theorem packOf_ok {nodes : List Node} (ht : TreeOk nodes) {sz : Nat → Int × Int} {M : Int} {l : List Nat} (hl : ∀ k ∈ l, k < nodes.length) (hs : ∀ k ∈ l, SzB M (sz k)) : ∀ p ∈ l.map (packOf nodes sz), PackOk M p := by
  intro p hp
  obtain ⟨k, hk, rfl⟩ := List.mem_map.1 hp
  have hn := (ht.node k (hl k hk)).pack
  have h := hs k hk
  exact ⟨h.1, h.2, hn.side, hn.anchor, hn.px, hn.py⟩
theorem cellOf_ok {nodes : List Node} (ht : TreeOk nodes) {i : Nat} (hk1 : (nodeAt nodes i).kind = 1) {sz : Nat → Int × Int} {M : Int} (hs : ∀ k ∈ kidsF nodes i, SzB M (sz k)) : ∀ c ∈ (kidsF nodes i).map (cellOf nodes sz), CellOk M (nodeAt nodes i).cols.length (nodeAt nodes i).rows.length c := by
  intro c hc
  obtain ⟨k, hk, rfl⟩ := List.mem_map.1 hc
  obtain ⟨a, b, e⟩ := kids_mem ht hk
  have hn := (ht.node k a).cell (by omega)
  rw [e, Int.toNat_natCast] at hn
  have hn := hn hk1
  have h := hs k hk
  exact ⟨h.1, h.2, hn.px, hn.py, hn.col, hn.row, hn.stick⟩
theorem size_bd {nodes : List Node} (ht : TreeOk nodes) : ∀ (d i : Nat), i < nodes.length → nodes.length - i ≤ d → SzB (bnd d) (sizeF nodes i)
  | 0, i, h, hd => by omega
  | d + 1, i, h, hd => by
    have ih : ∀ k ∈ kidsF nodes i, SzB (bnd d) (sizeF nodes k) := fun k hk => by
      obtain ⟨a, b, _⟩ := kids_mem ht hk
      exact size_bd ht d k a (by omega)
    rw [sizeF_eq ht h]
    unfold sizeBody
    have hb := bnd_pos d
    have hs := bnd_succ d
    have hn := ht.node i h
    split
    · have h1 := hn.w
      have h2 := hn.h
      unfold SzB; simp only; omega
    · rename_i hc
      by_cases hd10 : d ≤ 10
      · have hm := bnd_mid hd10
        split
        · rename_i hk
          have := packReq_bd hm (packOf_ok ht (fun k hk => (kids_mem ht hk).1) ih)
          have hl := kids_len ht i
          have hx : ((((kidsF nodes i).map (packOf nodes (sizeF nodes))).length : Nat) : Int) * (bnd d + 20) ≤ 9 * (bnd d + 20) := Int.mul_le_mul_of_nonneg_right (by rw [List.length_map]; omega) (by omega)
          unfold SzB; omega
        · rename_i hk
          have hk1 : (nodeAt nodes i).kind = 1 := by
            rcases hn.kind with h0 | h1 | h2
            · exact absurd h0 hk
            · exact h1
            · exact absurd (.inr (.inr h2)) hc
          have := gridReq_bd hm (hn.lines hk1).1 (hn.lines hk1).2 (cellOf_ok ht hk1 ih)
          unfold SzB; omega
      · have := ht.le
        have h3 := size_bd ht d i h (by omega)
        rw [sizeF_eq ht h] at h3
        unfold sizeBody at h3
        rw [if_neg hc] at h3
        obtain ⟨⟨x1, x2⟩, x3, x4⟩ := h3
        unfold SzB
        omega
theorem size_mid {nodes : List Node} (ht : TreeOk nodes) {i : Nat} (hi : i < nodes.length) : SzB 10000000000000 (sizeF nodes i) := by
  have := size_bd ht 10 i hi (by have := ht.le; omega)
  have h3 : bnd 10 = 10000000000000 := by decide
  rw [h3] at this; exact this
end Go.Proofs.Ytdgamfanffnhaaa.PI
namespace Go.Proofs.Ytdgamfanffnhaaa.PI
open Go
theorem at_node {nodes : List Node} {k : Nat} (h : k < nodes.length) : (nodes.map encNode)[((k : Nat) : Int).toNat]? = some (encNode (nodeAt nodes k)) := by
  rw [nodeAt_eq h]; exact at_map h
def kidsTo (nodes : List Node) (i j : Nat) : List Nat := (List.range j).filter fun k => (nodeAt nodes k).parent == (i : Int)
theorem kidsTo_succ (nodes : List Node) (i j : Nat) : kidsTo nodes i (j + 1) = if ((nodeAt nodes j).parent == (i : Int)) = true then kidsTo nodes i j ++ [j] else kidsTo nodes i j := by
  unfold kidsTo
  rw [List.range_succ, List.filter_append]
  cases h : (nodeAt nodes j).parent == (i : Int) with
  | true => simp [h]
  | false => simp [h]
theorem ints_snoc (l : List Nat) (k : Nat) : (ints l).map encInt ++ [[C.int .i64 (k : Nat)]] = (ints (l ++ [k])).map encInt := by
  unfold ints; rw [List.map_append, List.map_append]; rfl
theorem kidsTo_len (nodes : List Node) (i j : Nat) : (kidsTo nodes i j).length ≤ j := by
  unfold kidsTo; refine Nat.le_trans (List.length_filter_le _ _) ?_; simp
theorem i_Tree_kids.c (nodes : List Node) (hn : nodes.length ≤ 1000) (i : Nat) : PC i_Tree_kids [.agg [.rsl (nodes.map encNode)], vI i] (.one (.sl ((ints (kidsF nodes i)).map encInt)), []) := by
  refine lift ?_
  have := loop_exit (step := i_Tree_kids.r0 CC lpW) (S := fun j => i_Tree_kids.s0 i ((ints (kidsTo nodes i j)).map encInt).length (nodes.map encNode) ((nodes.map encNode).length : Nat) (j : Nat) (nodes.map encNode) ((ints (kidsTo nodes i j)).map encInt)) nodes.length (fun j hj => by
    have hl := kidsTo_len nodes i j
    rw [kidsTo_succ]
    cases hp : (nodeAt nodes j).parent == (i : Int) with
    | true =>
      have := i_Tree_kids.l0_1 (call := CC) (lp := lpW) i ((ints (kidsTo nodes i j)).map encInt).length (nodes.map encNode) ((nodes.map encNode).length : Nat) (j : Nat) (nodes.map encNode) ((ints (kidsTo nodes i j)).map encInt) (nodeAt nodes j) (by simpa using hj) (by simp) hp (by simp) (uni_int _) (by simp [ints]; omega) (at_node hj)
      rw [this, w64_succ (by omega), ints_snoc, if_pos rfl]
    | false =>
      have := i_Tree_kids.l0_3 (call := CC) (lp := lpW) i ((ints (kidsTo nodes i j)).map encInt).length (nodes.map encNode) ((nodes.map encNode).length : Nat) (j : Nat) (nodes.map encNode) ((ints (kidsTo nodes i j)).map encInt) (nodeAt nodes j) (by simpa using hj) (by simp) hp (at_node hj)
      rw [this, w64_succ (by omega), if_neg (by decide)]) (i_Tree_kids.l0_2 _ _ _ _ _ _ _ (by simp))
  exact i_Tree_kids.w1 nodes i ((ints (kidsF nodes i)).map encInt).length _ (by simp) (by simpa [kidsTo, kidsF, ints] using this)
theorem s_kidsOf.c (nodes : List Node) (ht : TreeOk nodes) (i : Nat) : PC s_kidsOf [.agg [.rsl (nodes.map encNode)], vI i] (.one (.sl ((ints (kidsF nodes i)).map encInt)), []) := by
  refine lift ?_
  have hle := ht.le
  obtain ⟨n, hn⟩ : ∃ n, nodes.length = n + 1 := ⟨nodes.length - 1, by have := ht.pos; omega⟩
  have h0 : kidsTo nodes i 1 = [] := by
    have := (ht.node 0 ht.pos).root rfl
    have h : ((nodeAt nodes 0).parent == (i : Int)) = false := by rw [this, beq_eq_false_iff_ne]; omega
    rw [kidsTo_succ, h, if_neg (by decide)]; rfl
  have := loop_exit (step := s_kidsOf.r0 CC lpW) (S := fun j => s_kidsOf.s0 i ((ints (kidsTo nodes i (j + 1))).map encInt).length (j + 1 : Nat) (nodes.map encNode) ((ints (kidsTo nodes i (j + 1))).map encInt)) n (fun j hj => by
    have hl := kidsTo_len nodes i (j + 1)
    have hj1 : j + 1 < nodes.length := by omega
    rw [kidsTo_succ nodes i (j + 1)]
    cases hp : (nodeAt nodes (j + 1)).parent == (i : Int) with
    | true =>
      have := s_kidsOf.l0_1 (call := CC) (lp := lpW) i ((ints (kidsTo nodes i (j + 1))).map encInt).length (j + 1 : Nat) (nodes.map encNode) ((ints (kidsTo nodes i (j + 1))).map encInt) (nodeAt nodes (j + 1)) (by rw [decide_eq_true_eq, List.length_map]; omega) (by rw [decide_eq_true_eq]; omega) hp (by simp) (uni_int _) (by simp [ints]; omega) (at_node hj1)
      rw [this, w64_succ (by omega), ints_snoc, if_pos rfl]
    | false =>
      have := s_kidsOf.l0_3 (call := CC) (lp := lpW) i ((ints (kidsTo nodes i (j + 1))).map encInt).length (j + 1 : Nat) (nodes.map encNode) ((ints (kidsTo nodes i (j + 1))).map encInt) (nodeAt nodes (j + 1)) (by rw [decide_eq_true_eq, List.length_map]; omega) (by rw [decide_eq_true_eq]; omega) hp (at_node hj1)
      rw [this, w64_succ (by omega), if_neg (by decide)]) (s_kidsOf.l0_2 _ _ _ _ _ (by rw [decide_eq_false_iff_not, List.length_map]; omega))
  have hk : kidsTo nodes i (n + 1) = kidsF nodes i := by unfold kidsTo kidsF; rw [hn]
  rw [hk, h0] at this
  exact s_kidsOf.w1 nodes i ((ints (kidsF nodes i)).map encInt).length _ (by simp) (by simpa [ints] using this)
theorem at_ints {l : List Nat} {j : Nat} (h : j < l.length) : ((ints l).map encInt)[((j : Nat) : Int).toNat]? = some [C.int .i64 (l[j] : Nat)] := by
  have : j < (ints l).length := by simpa [ints] using h
  rw [at_int this]; simp [ints]
theorem len_ints (l : List Nat) : ((ints l).map encInt).length = l.length := by simp [ints]
theorem i_Tree_packs.c (nodes : List Node) (l : List Nat) (hl : ∀ k ∈ l, k < nodes.length) (hn : l.length ≤ 1000) (sz : Nat → Int × Int) (ih : ∀ k ∈ l, PC i_Tree_request [.agg [.rsl (nodes.map encNode)], vI (k : Nat)] (.tup [vI (sz k).1, vI (sz k).2], [])) :
    PC i_Tree_packs [.agg [.rsl (nodes.map encNode)], .one (.rsl ((ints l).map encInt))] (.one (.sl ((l.map (packOf nodes sz)).map encPack)), []) := by
  refine lift ?_
  have := loop_exit (step := i_Tree_packs.r0 CC lpW) (S := fun j => i_Tree_packs.s0 (((l.take j).map (packOf nodes sz)).map encPack).length ((ints l).map encInt) (((ints l).map encInt).length : Nat) (j : Nat) (nodes.map encNode) (((l.take j).map (packOf nodes sz)).map encPack)) l.length (fun j hj => by
    have hk := hl _ (List.getElem_mem hj)
    have := i_Tree_packs.l0_1 (call := CC) (lp := lpW) (((l.take j).map (packOf nodes sz)).map encPack).length ((ints l).map encInt) (((ints l).map encInt).length : Nat) (j : Nat) (nodes.map encNode) (((l.take j).map (packOf nodes sz)).map encPack) (l[j] : Nat) (nodeAt nodes l[j]) (sz l[j]).1 (sz l[j]).2 (by rw [len_ints, decide_eq_true_eq]; omega) (by simp) (by simp) (by simp) (uni_map (f := encPack) (fun _ => rfl) _) (by simp; omega) (at_ints hj) (at_node hk) (ih _ (List.getElem_mem hj))
    have e := map_succ2 (g := packOf nodes sz) (f := encPack) hj
    rw [this, w64_succ (by omega), ← e]
    rfl) (i_Tree_packs.l0_2 _ _ _ _ _ _ (by rw [len_ints, decide_eq_false_iff_not]; omega))
  rw [List.take_length] at this
  exact i_Tree_packs.w1 nodes (ints l) ((l.map (packOf nodes sz)).map encPack).length _ (by simp) (by simpa using this)
theorem s_packsOf.c (nodes : List Node) (l : List Nat) (hl : ∀ k ∈ l, k < nodes.length) (hn : l.length ≤ 1000) (sz : Nat → Int × Int) (ih : ∀ k ∈ l, PC s_sizeOf [.agg [.rsl (nodes.map encNode)], vI (k : Nat)] (.tup [vI (sz k).1, vI (sz k).2], [])) :
    PC s_packsOf [.agg [.rsl (nodes.map encNode)], .one (.rsl ((ints l).map encInt))] (.one (.sl ((l.map (packOf nodes sz)).map encPack)), []) := by
  refine lift ?_
  have := loop_exit (step := s_packsOf.r0 CC lpW) (S := fun j => s_packsOf.s0 ((ints l).map encInt) (((l.take j).map (packOf nodes sz)).map encPack).length (j : Nat) (nodes.map encNode) (((l.take j).map (packOf nodes sz)).map encPack)) l.length (fun j hj => by
    have hk := hl _ (List.getElem_mem hj)
    have := s_packsOf.l0_1 (call := CC) (lp := lpW) ((ints l).map encInt) (((l.take j).map (packOf nodes sz)).map encPack).length (j : Nat) (nodes.map encNode) (((l.take j).map (packOf nodes sz)).map encPack) (l[j] : Nat) (nodeAt nodes l[j]) (sz l[j]).1 (sz l[j]).2 (by rw [len_ints, decide_eq_true_eq]; omega) (by simp) (by simp) (by simp) (uni_map (f := encPack) (fun _ => rfl) _) (by simp; omega) (at_ints hj) (at_node hk) (ih _ (List.getElem_mem hj))
    have e := map_succ2 (g := packOf nodes sz) (f := encPack) hj
    rw [this, w64_succ (by omega), ← e]
    rfl) (s_packsOf.l0_2 _ _ _ _ _ (by rw [len_ints, decide_eq_false_iff_not]; omega))
  rw [List.take_length] at this
  exact s_packsOf.w1 nodes (ints l) ((l.map (packOf nodes sz)).map encPack).length _ (by simp) (by simpa using this)
theorem i_Tree_grid.c (nodes : List Node) (i : Nat) (hi : i < nodes.length) (l : List Nat) (hl : ∀ k ∈ l, k < nodes.length) (hn : l.length ≤ 1000) (sz : Nat → Int × Int) (ih : ∀ k ∈ l, PC i_Tree_request [.agg [.rsl (nodes.map encNode)], vI (k : Nat)] (.tup [vI (sz k).1, vI (sz k).2], [])) :
    PC i_Tree_grid [.agg [.rsl (nodes.map encNode)], vI i, .one (.rsl ((ints l).map encInt))] (.agg [.rsl ((nodeAt nodes i).cols.map encLine), .rsl ((nodeAt nodes i).rows.map encLine), .sl ((l.map (cellOf nodes sz)).map encCell)], []) := by
  refine lift ?_
  have := loop_exit (step := i_Tree_grid.r0 CC lpW) (S := fun j => i_Tree_grid.s0 ((ints l).map encInt) (((ints l).map encInt).length : Nat) (j : Nat) (nodes.map encNode) ((nodeAt nodes i).cols.map encLine) ((nodeAt nodes i).rows.map encLine) (((l.take j).map (cellOf nodes sz)).map encCell).length (((l.take j).map (cellOf nodes sz)).map encCell)) l.length (fun j hj => by
    have hk := hl _ (List.getElem_mem hj)
    have := i_Tree_grid.l0_1 (call := CC) (lp := lpW) ((ints l).map encInt) (((ints l).map encInt).length : Nat) (j : Nat) (nodes.map encNode) ((nodeAt nodes i).cols.map encLine) ((nodeAt nodes i).rows.map encLine) (((l.take j).map (cellOf nodes sz)).map encCell).length (((l.take j).map (cellOf nodes sz)).map encCell) (l[j] : Nat) (nodeAt nodes l[j]) (sz l[j]).1 (sz l[j]).2 (by rw [len_ints, decide_eq_true_eq]; omega) (by simp) (by simp) (by simp) (uni_map (f := encCell) (fun _ => rfl) _) (by simp; omega) (at_ints hj) (at_node hk) (ih _ (List.getElem_mem hj))
    have e := map_succ2 (g := cellOf nodes sz) (f := encCell) hj
    rw [this, w64_succ (by omega), ← e]
    rfl) (i_Tree_grid.l0_2 _ _ _ _ _ _ _ _ (by rw [len_ints, decide_eq_false_iff_not]; omega))
  rw [List.take_length] at this
  exact i_Tree_grid.w1 nodes i (ints l) (nodeAt nodes i) (nodes.map encNode) _ _ ((l.map (cellOf nodes sz)).map encCell).length _ (by simp) (by simp) (at_node hi) (by simpa using this)
theorem s_gridOf.c (nodes : List Node) (i : Nat) (hi : i < nodes.length) (l : List Nat) (hl : ∀ k ∈ l, k < nodes.length) (hn : l.length ≤ 1000) (sz : Nat → Int × Int) (ih : ∀ k ∈ l, PC s_sizeOf [.agg [.rsl (nodes.map encNode)], vI (k : Nat)] (.tup [vI (sz k).1, vI (sz k).2], [])) :
    PC s_gridOf [.agg [.rsl (nodes.map encNode)], vI i, .one (.rsl ((ints l).map encInt))] (.agg [.rsl ((nodeAt nodes i).cols.map encLine), .rsl ((nodeAt nodes i).rows.map encLine), .sl ((l.map (cellOf nodes sz)).map encCell)], []) := by
  refine lift ?_
  have := loop_exit (step := s_gridOf.r0 CC lpW) (S := fun j => s_gridOf.s0 ((ints l).map encInt) (j : Nat) (nodes.map encNode) ((nodeAt nodes i).cols.map encLine) ((nodeAt nodes i).rows.map encLine) (((l.take j).map (cellOf nodes sz)).map encCell).length (((l.take j).map (cellOf nodes sz)).map encCell)) l.length (fun j hj => by
    have hk := hl _ (List.getElem_mem hj)
    have := s_gridOf.l0_1 (call := CC) (lp := lpW) ((ints l).map encInt) (j : Nat) (nodes.map encNode) ((nodeAt nodes i).cols.map encLine) ((nodeAt nodes i).rows.map encLine) (((l.take j).map (cellOf nodes sz)).map encCell).length (((l.take j).map (cellOf nodes sz)).map encCell) (l[j] : Nat) (nodeAt nodes l[j]) (sz l[j]).1 (sz l[j]).2 (by rw [len_ints, decide_eq_true_eq]; omega) (by simp) (by simp) (by simp) (uni_map (f := encCell) (fun _ => rfl) _) (by simp; omega) (at_ints hj) (at_node hk) (ih _ (List.getElem_mem hj))
    have e := map_succ2 (g := cellOf nodes sz) (f := encCell) hj
    rw [this, w64_succ (by omega), ← e]
    rfl) (s_gridOf.l0_2 _ _ _ _ _ _ _ (by rw [len_ints, decide_eq_false_iff_not]; omega))
  rw [List.take_length] at this
  exact s_gridOf.w1 nodes i (ints l) (nodeAt nodes i) (nodes.map encNode) _ _ ((l.map (cellOf nodes sz)).map encCell).length _ (by simp) (by simp) (at_node hi) (by simpa using this)
theorem kids_none {l : List Nat} : ((((((ints l).map encInt).length : Nat) : Int) == 0) = true ↔ l = []) := by
  rw [len_ints, beq_iff_eq]
  constructor
  · intro h; exact List.length_eq_zero_iff.1 (by omega)
  · rintro rfl; rfl
theorem kinds {nodes : List Node} (ht : TreeOk nodes) {i : Nat} (hi : i < nodes.length) (h2 : ¬ (nodeAt nodes i).kind = 2) (h0 : ¬ (nodeAt nodes i).kind = 0) : (nodeAt nodes i).kind = 1 := by
  rcases (ht.node i hi).kind with h | h | h
  · exact absurd h h0
  · exact h
  · exact absurd h h2
theorem i_Tree_request.c {nodes : List Node} (ht : TreeOk nodes) : ∀ (d i : Nat), i < nodes.length → nodes.length - i ≤ d → PC i_Tree_request [.agg [.rsl (nodes.map encNode)], vI (i : Nat)] (.tup [vI (sizeF nodes i).1, vI (sizeF nodes i).2], [])
  | 0, i, h, hd => by omega
  | d + 1, i, h, hd => by
    have hle := ht.le
    have ih : ∀ k ∈ kidsF nodes i, PC i_Tree_request [.agg [.rsl (nodes.map encNode)], vI (k : Nat)] (.tup [vI (sizeF nodes k).1, vI (sizeF nodes k).2], []) := fun k hk => by
      obtain ⟨a, b, _⟩ := kids_mem ht hk
      exact i_Tree_request.c ht d k a (by omega)
    have hkl : ∀ k ∈ kidsF nodes i, k < nodes.length := fun k hk => (kids_mem ht hk).1
    have hk9 := kids_len ht i
    have k1 := i_Tree_kids.c nodes (by omega) i
    have hp : (0 : Int) ≤ (i : Nat) := by omega
    refine lift ?_
    rw [sizeF_eq ht h]
    unfold sizeBody
    cases hkeep : (nodeAt nodes i).keep with
    | true =>
      rw [if_pos (.inl rfl)]
      exact i_Tree_request.w1 nodes i _ _ (by simp) hkeep (at_node h) k1
    | false =>
    by_cases hkn : kidsF nodes i = []
    · rw [if_pos (.inr (.inl hkn))]
      exact i_Tree_request.w2 nodes i _ _ (by simp) hkeep (kids_none.2 hkn) (at_node h) k1
    · have hkn' : ((((((ints (kidsF nodes i)).map encInt).length : Nat) : Int) == 0) = false) := by
        cases hh : ((((ints (kidsF nodes i)).map encInt).length : Nat) : Int) == 0 with
        | false => rfl
        | true => exact absurd (kids_none.1 hh) hkn
      by_cases h2 : (nodeAt nodes i).kind = 2
      · rw [if_pos (.inr (.inr h2))]
        exact i_Tree_request.w3 nodes i _ _ (by simp) hkeep hkn' (by rw [h2]; rfl) (at_node h) k1
      · rw [if_neg (fun c => c.elim (fun c => by cases c) fun c => c.elim hkn h2)]
        have hbd : ∀ k ∈ kidsF nodes i, SzB 10000000000000 (sizeF nodes k) := fun k hk => size_mid ht (hkl k hk)
        by_cases h0 : (nodeAt nodes i).kind = 0
        · rw [if_pos h0]
          exact i_Tree_request.w4 nodes i _ _ _ _ _ (by simp) hkeep hkn' (beq_eq_false_iff_ne.2 h2) (by rw [h0]; rfl) (at_node h) k1 (i_Tree_packs.c nodes _ hkl (by omega) (sizeF nodes) ih) (i_packRequest.c (M := 10000000000000) ⟨by omega, by omega⟩ _ (packOf_ok ht hkl hbd) (by rw [List.length_map]; omega))
        · rw [if_neg h0]
          have h1 := kinds ht h h2 h0
          have hlines := (ht.node i h).lines h1
          exact i_Tree_request.w5 nodes i _ _ _ _ _ _ _ (by simp) hkeep hkn' (beq_eq_false_iff_ne.2 h2) (beq_eq_false_iff_ne.2 h0) (at_node h) k1 (i_Tree_grid.c nodes i h _ hkl (by omega) (sizeF nodes) ih) (i_Grid_request.c (M := 10000000000000) _ _ _ ⟨by omega, by omega⟩ hlines.1 hlines.2 (cellOf_ok ht h1 hbd) (by rw [List.length_map]; omega))
theorem s_sizeOf.c {nodes : List Node} (ht : TreeOk nodes) : ∀ (d i : Nat), i < nodes.length → nodes.length - i ≤ d → PC s_sizeOf [.agg [.rsl (nodes.map encNode)], vI (i : Nat)] (.tup [vI (sizeF nodes i).1, vI (sizeF nodes i).2], [])
  | 0, i, h, hd => by omega
  | d + 1, i, h, hd => by
    have hle := ht.le
    have ih : ∀ k ∈ kidsF nodes i, PC s_sizeOf [.agg [.rsl (nodes.map encNode)], vI (k : Nat)] (.tup [vI (sizeF nodes k).1, vI (sizeF nodes k).2], []) := fun k hk => by
      obtain ⟨a, b, _⟩ := kids_mem ht hk
      exact s_sizeOf.c ht d k a (by omega)
    have hkl : ∀ k ∈ kidsF nodes i, k < nodes.length := fun k hk => (kids_mem ht hk).1
    have hk9 := kids_len ht i
    have k1 := s_kidsOf.c nodes ht i
    have hp : (0 : Int) ≤ (i : Nat) := by omega
    refine lift ?_
    rw [sizeF_eq ht h]
    unfold sizeBody
    cases hkeep : (nodeAt nodes i).keep with
    | true =>
      rw [if_pos (.inl rfl)]
      exact s_sizeOf.w1 nodes i _ _ (by simp) hkeep (at_node h) k1
    | false =>
    by_cases hkn : kidsF nodes i = []
    · rw [if_pos (.inr (.inl hkn))]
      exact s_sizeOf.w2 nodes i _ _ (by simp) hkeep (kids_none.2 hkn) (at_node h) k1
    · have hkn' : ((((((ints (kidsF nodes i)).map encInt).length : Nat) : Int) == 0) = false) := by
        cases hh : ((((ints (kidsF nodes i)).map encInt).length : Nat) : Int) == 0 with
        | false => rfl
        | true => exact absurd (kids_none.1 hh) hkn
      by_cases h2 : (nodeAt nodes i).kind = 2
      · rw [if_pos (.inr (.inr h2))]
        exact s_sizeOf.w3 nodes i _ _ (by simp) hkeep hkn' (by rw [h2]; rfl) (at_node h) k1
      · rw [if_neg (fun c => c.elim (fun c => by cases c) fun c => c.elim hkn h2)]
        have hbd : ∀ k ∈ kidsF nodes i, SzB 10000000000000 (sizeF nodes k) := fun k hk => size_mid ht (hkl k hk)
        by_cases h0 : (nodeAt nodes i).kind = 0
        · rw [if_pos h0]
          exact s_sizeOf.w4 nodes i _ _ _ _ _ (by simp) hkeep hkn' (beq_eq_false_iff_ne.2 h2) (by rw [h0]; rfl) (at_node h) k1 (s_packsOf.c nodes _ hkl (by omega) (sizeF nodes) ih) (s_request.c (M := 10000000000000) ⟨by omega, by omega⟩ _ (packOf_ok ht hkl hbd) (by rw [List.length_map]; omega))
        · rw [if_neg h0]
          have h1 := kinds ht h h2 h0
          have hlines := (ht.node i h).lines h1
          exact s_sizeOf.w5 nodes i _ _ _ _ _ _ _ (by simp) hkeep hkn' (beq_eq_false_iff_ne.2 h2) (beq_eq_false_iff_ne.2 h0) (at_node h) k1 (s_gridOf.c nodes i h _ hkl (by omega) (sizeF nodes) ih) (s_gridRequest.c (M := 10000000000000) _ _ _ ⟨by omega, by omega⟩ hlines.1 hlines.2 (cellOf_ok ht h1 hbd) (by rw [List.length_map]; omega))
theorem i_size {nodes : List Node} (ht : TreeOk nodes) {i : Nat} (h : i < nodes.length) : PC i_Tree_request [.agg [.rsl (nodes.map encNode)], vI (i : Nat)] (.tup [vI (sizeF nodes i).1, vI (sizeF nodes i).2], []) := i_Tree_request.c ht nodes.length i h (by omega)
theorem s_size {nodes : List Node} (ht : TreeOk nodes) {i : Nat} (h : i < nodes.length) : PC s_sizeOf [.agg [.rsl (nodes.map encNode)], vI (i : Nat)] (.tup [vI (sizeF nodes i).1, vI (sizeF nodes i).2], []) := s_sizeOf.c ht nodes.length i h (by omega)
end Go.Proofs.Ytdgamfanffnhaaa.PI
namespace Go.Proofs.Ytdgamfanffnhaaa.PI
open Go
theorem ask_at_node {nodes : List Node} {i : Nat} (hi : i < nodes.length) (w h : Int) (k : Nat) : nodeAt (askT nodes i w h) k = if k = i then { nodeAt nodes i with w := w, h := h } else nodeAt nodes k := by
  unfold askT nodeAt
  rw [List.getElem?_set]
  by_cases hk : i = k
  · subst hk; rw [if_pos rfl, if_pos rfl, if_pos hi]; rfl
  · rw [if_neg hk, if_neg (fun c => hk c.symm)]
theorem ask_len (nodes : List Node) (i : Nat) (w h : Int) : (askT nodes i w h).length = nodes.length := by unfold askT; exact List.length_set ..
theorem ask_tree {nodes : List Node} (ht : TreeOk nodes) {i : Nat} (hi : i < nodes.length) {w h : Int} (hw : 0 ≤ w ∧ w ≤ 30) (hh : 0 ≤ h ∧ h ≤ 30) : TreeOk (askT nodes i w h) := by
  have same : ∀ k, (nodeAt (askT nodes i w h) k).kind = (nodeAt nodes k).kind ∧ (nodeAt (askT nodes i w h) k).cols = (nodeAt nodes k).cols ∧ (nodeAt (askT nodes i w h) k).rows = (nodeAt nodes k).rows := by
    intro k
    rw [ask_at_node hi]
    split
    · rename_i hk; subst hk; exact ⟨rfl, rfl, rfl⟩
    · exact ⟨rfl, rfl, rfl⟩
  refine ⟨by rw [ask_len]; exact ht.pos, by rw [ask_len]; exact ht.le, fun k hk => ?_⟩
  rw [ask_len] at hk
  have hn := ht.node k hk
  rw [ask_at_node hi]
  split
  · rename_i he; subst he
    refine ⟨hw, hh, hn.kind, hn.pack, hn.place, hn.lines, hn.nolines, hn.root, hn.up, fun h0 h1 => ?_⟩
    obtain ⟨s1, s2, s3⟩ := same (nodeAt nodes k).parent.toNat
    simp only at h1 ⊢
    rw [s2, s3]
    exact hn.cell h0 (s1 ▸ h1)
  · refine ⟨hn.w, hn.h, hn.kind, hn.pack, hn.place, hn.lines, hn.nolines, hn.root, hn.up, fun h0 h1 => ?_⟩
    obtain ⟨s1, s2, s3⟩ := same (nodeAt nodes k).parent.toNat
    rw [s2, s3]
    exact hn.cell h0 (s1 ▸ h1)
theorem ask_good {nodes : List Node} {i w h : Int} (hg : askGood nodes i w h = true) : TreeOk nodes ∧ TreeOk (askT nodes i.toNat w h) ∧ i.toNat < nodes.length ∧ (i.toNat : Int) = i := by
  obtain ⟨_, h2, h3⟩ := ask_at hg
  unfold askGood at hg
  simp only [Bool.and_eq_true, within_iff] at hg
  have ht := tree_of hg.1
  exact ⟨ht, ask_tree ht h2 hg.2.2.1 hg.2.2.2, h2, h3⟩
def two (f : Nat → Int × Int) (l : List Nat) : List Int := l.flatMap fun k => [(f k).1, (f k).2]
def wantsF (nodes : List Node) : List Int := two (sizeF nodes) (List.range nodes.length)
theorem two_len (f : Nat → Int × Int) (l : List Nat) : (two f l).length = 2 * l.length := by
  induction l with
  | nil => rfl
  | cons a l ih => unfold two at ih ⊢; rw [List.flatMap_cons, List.length_append, ih]; simp; omega
theorem two_at (f : Nat → Int × Int) (l : List Nat) (j : Nat) : (two f l)[2 * j]? = (l[j]?).map (fun k => (f k).1) ∧ (two f l)[2 * j + 1]? = (l[j]?).map (fun k => (f k).2) := by
  induction l generalizing j with
  | nil => simp [two]
  | cons a l ih =>
    have e : two f (a :: l) = (f a).1 :: (f a).2 :: two f l := by simp [two]
    rw [e]
    cases j with
    | zero => simp
    | succ j =>
      have := ih j
      rw [show 2 * (j + 1) = 2 * j + 1 + 1 by omega]
      simpa using this
theorem wants_at {nodes : List Node} {j : Nat} (h : j < nodes.length) : (wantsF nodes)[2 * j]? = some (sizeF nodes j).1 ∧ (wantsF nodes)[2 * j + 1]? = some (sizeF nodes j).2 := by
  obtain ⟨a, b⟩ := two_at (sizeF nodes) (List.range nodes.length) j
  have hr : (List.range nodes.length)[j]? = some j := by simp [h]
  rw [hr] at a b
  exact ⟨a, b⟩
theorem s_wantsOf.c {nodes : List Node} (ht : TreeOk nodes) : PC s_wantsOf [.agg [.rsl (nodes.map encNode)]] (.one (.sl ((wantsF nodes).map encInt)), []) := by
  have hle := ht.le
  refine lift ?_
  have := loop_exit (step := s_wantsOf.r0 CC lpW) (S := fun j => s_wantsOf.s0 ((two (sizeF nodes) (List.range j)).map encInt).length (j : Nat) (nodes.map encNode) ((two (sizeF nodes) (List.range j)).map encInt)) nodes.length (fun j hj => by
    have := s_wantsOf.l0_1 (call := CC) (lp := lpW) ((two (sizeF nodes) (List.range j)).map encInt).length (j : Nat) (nodes.map encNode) ((two (sizeF nodes) (List.range j)).map encInt) _ _ (by simpa using hj) (by simp) (uni_int _) (by rw [List.length_map, two_len, List.length_range, decide_eq_true_eq]; omega) (s_size ht hj)
    have e : (two (sizeF nodes) (List.range j)).map encInt ++ [[C.int .i64 (sizeF nodes j).1], [C.int .i64 (sizeF nodes j).2]] = (two (sizeF nodes) (List.range (j + 1))).map encInt := by
      unfold two; rw [List.range_succ, List.flatMap_append, List.map_append]; simp [encInt]
    rw [this, w64_succ (by omega), e]) (s_wantsOf.l0_2 _ _ _ _ (by simp))
  exact s_wantsOf.w1 nodes ((wantsF nodes).map encInt).length _ (by simp) (by simpa [wantsF, two] using this)
def touchedTo (a b : List Node) (j : Nat) : List Nat := (List.range j).filter fun k => decide (sizeF a k ≠ sizeF b k)
def touchedBy (nodes : List Node) (i w h : Int) : List Nat := bif askGood nodes i w h then touchedTo nodes (askT nodes i.toNat w h) nodes.length else []
theorem touchedTo_succ (a b : List Node) (j : Nat) : touchedTo a b (j + 1) = if sizeF a j ≠ sizeF b j then touchedTo a b j ++ [j] else touchedTo a b j := by
  unfold touchedTo
  rw [List.range_succ, List.filter_append]
  by_cases h : sizeF a j = sizeF b j
  · rw [if_neg (fun c => c h)]; simp [h]
  · rw [if_pos h]; simp [h]
theorem touchedTo_len (a b : List Node) (j : Nat) : (touchedTo a b j).length ≤ j := by
  unfold touchedTo; refine Nat.le_trans (List.length_filter_le _ _) ?_; simp
theorem touched_len {nodes : List Node} {i w h : Int} : (touchedBy nodes i w h).length ≤ 10 := by
  unfold touchedBy
  cases hg : askGood nodes i w h with
  | false => simp
  | true =>
    have := (ask_good hg).1.le
    have h2 := touchedTo_len nodes (askT nodes i.toNat w h) nodes.length
    simp only [cond_true]; omega
theorem size_ne {a b : Int × Int} (h : a ≠ b) : (a.1 != b.1) = true ∨ (a.1 != b.1) = false ∧ (a.2 != b.2) = true := by
  by_cases h1 : a.1 = b.1
  · right
    refine ⟨by rw [bne_eq_false_iff_eq]; exact h1, ?_⟩
    rw [bne_iff_ne]
    intro h2; exact h (Prod.ext h1 h2)
  · left; rwa [bne_iff_ne]
theorem i_TouchedBy.c (nodes : List Node) (i w h : Int) (ho : NsOk nodes) : PC i_TouchedBy [.agg [.rsl (nodes.map encNode)], vI i, vI w, vI h] (.one (.sl ((ints (touchedBy nodes i w h)).map encInt)), []) := by
  have k1 := i_AskFor.c nodes i w h ho
  refine lift ?_
  unfold askFor at k1
  unfold touchedBy
  cases hg : askGood nodes i w h with
  | false =>
    rw [hg] at k1
    exact i_TouchedBy.w1 nodes i w h _ k1
  | true =>
    rw [hg] at k1
    obtain ⟨ht, hq, hi, _⟩ := ask_good hg
    have hle := ht.le
    simp only [cond_true] at k1 ⊢
    have hql := ask_len nodes i.toNat w h
    generalize askT nodes i.toNat w h = q at k1 hq hql ⊢
    have := loop_exit (step := i_TouchedBy.r0 CC lpW) (S := fun j => i_TouchedBy.s0 ((ints (touchedTo nodes q j)).map encInt).length ((nodes.map encNode).length : Nat) (j : Nat) (nodes.map encNode) (q.map encNode).length ((ints (touchedTo nodes q j)).map encInt) (q.map encNode)) nodes.length (fun j hj => by
      have hl := touchedTo_len nodes q j
      have e1 := i_size ht hj
      have e2 := i_size hq (i := j) (by omega)
      rw [touchedTo_succ]
      by_cases hd : sizeF nodes j = sizeF q j
      · rw [if_neg (fun c => c hd)]
        have := i_TouchedBy.l0_4 (call := CC) (lp := lpW) ((ints (touchedTo nodes q j)).map encInt).length ((nodes.map encNode).length : Nat) (j : Nat) (nodes.map encNode) (q.map encNode).length ((ints (touchedTo nodes q j)).map encInt) (q.map encNode) _ _ _ _ (by simpa using hj) (by simp) (by rw [hd, bne_self_eq_false]) (by rw [hd, bne_self_eq_false]) e1 e2
        rw [this, w64_succ (by omega)]
      · rw [if_pos hd]
        rcases size_ne hd with h1 | ⟨h1, h2⟩
        · have := i_TouchedBy.l0_1 (call := CC) (lp := lpW) ((ints (touchedTo nodes q j)).map encInt).length ((nodes.map encNode).length : Nat) (j : Nat) (nodes.map encNode) (q.map encNode).length ((ints (touchedTo nodes q j)).map encInt) (q.map encNode) _ _ _ _ (by simpa using hj) (by simp) h1 (by simp) (uni_int _) (by rw [len_ints, decide_eq_true_eq]; omega) e1 e2
          rw [this, w64_succ (by omega), ints_snoc]
        · have := i_TouchedBy.l0_3 (call := CC) (lp := lpW) ((ints (touchedTo nodes q j)).map encInt).length ((nodes.map encNode).length : Nat) (j : Nat) (nodes.map encNode) (q.map encNode).length ((ints (touchedTo nodes q j)).map encInt) (q.map encNode) _ _ _ _ (by simpa using hj) (by simp) h1 h2 (by simp) (uni_int _) (by rw [len_ints, decide_eq_true_eq]; omega) e1 e2
          rw [this, w64_succ (by omega), ints_snoc]) (i_TouchedBy.l0_2 _ _ _ _ _ _ _ (by simp))
    exact i_TouchedBy.w2 nodes i w h q ((ints (touchedTo nodes q nodes.length)).map encInt).length _ (by simp) k1 (by simpa [touchedTo, ints] using this)
theorem at_int? {l : List Int} {j : Nat} {x : Int} (h : l[j]? = some x) : (l.map encInt)[j]? = some [C.int .i64 x] := by rw [List.getElem?_map, h]; rfl
theorem s_TouchedBy.c (nodes : List Node) (i w h : Int) (ho : NsOk nodes) : PC s_TouchedBy [.agg [.rsl (nodes.map encNode)], vI i, vI w, vI h] (.one (.sl ((ints (touchedBy nodes i w h)).map encInt)), []) := by
  have k := s_goodWish.c nodes i w h ho
  rw [wish_eq ho] at k
  refine lift ?_
  unfold touchedBy
  cases hg : askGood nodes i w h with
  | false =>
    rw [hg] at k
    exact s_TouchedBy.w1 nodes i w h k
  | true =>
    rw [hg] at k
    obtain ⟨ht, hq, hi, hii⟩ := ask_good hg
    have hle := ht.le
    have k3 := s_resized.c nodes i.toNat w h ho hi
    rw [hii] at k3
    simp only [cond_true]
    have hql := ask_len nodes i.toNat w h
    generalize askT nodes i.toNat w h = q at k3 hq hql ⊢
    have la : (wantsF nodes).length = 2 * nodes.length := by unfold wantsF; rw [two_len, List.length_range]
    have lb : (wantsF q).length = 2 * nodes.length := by unfold wantsF; rw [two_len, List.length_range, hql]
    have := loop_exit (step := s_TouchedBy.r0 CC lpW) (S := fun j => s_TouchedBy.s0 ((wantsF nodes).map encInt).length ((wantsF q).map encInt).length ((ints (touchedTo nodes q j)).map encInt).length (j : Nat) (nodes.map encNode) ((ints (touchedTo nodes q j)).map encInt) ((wantsF nodes).map encInt) ((wantsF q).map encInt)) nodes.length (fun j hj => by
      have hl := touchedTo_len nodes q j
      obtain ⟨a1, a2⟩ := wants_at hj
      obtain ⟨b1, b2⟩ := wants_at (nodes := q) (j := j) (by omega)
      have w2 : w64 (2 * (j : Int)) = ((2 * j : Nat) : Int) := by rw [w64_id (by omega) (by omega)]; omega
      have w3 : w64 (((2 * j : Nat) : Int) + 1) = ((2 * j + 1 : Nat) : Int) := by rw [w64_id (by omega) (by omega)]; omega
      rw [touchedTo_succ]
      by_cases hd : sizeF nodes j = sizeF q j
      · rw [if_neg (fun c => c hd)]
        have := s_TouchedBy.l0_4 (call := CC) (lp := lpW) ((wantsF nodes).map encInt).length ((wantsF q).map encInt).length ((ints (touchedTo nodes q j)).map encInt).length (j : Nat) (nodes.map encNode) ((ints (touchedTo nodes q j)).map encInt) ((wantsF nodes).map encInt) ((wantsF q).map encInt) (sizeF nodes j).1 (sizeF q j).1 (sizeF nodes j).2 (sizeF q j).2
        rw [w2, w3] at this
        rw [this (by simpa using hj) (by simp) (by rw [decide_eq_true_eq]; omega) (by rw [decide_eq_true_eq, List.length_map, la]; omega) (by simp) (by simp) (by rw [decide_eq_true_eq, List.length_map, lb]; omega) (by simp) (by rw [hd, bne_self_eq_false]) (by rw [decide_eq_true_eq]; omega) (by rw [decide_eq_true_eq, List.length_map, la]; omega) (by rw [decide_eq_true_eq, List.length_map, lb]; omega) (by rw [hd, bne_self_eq_false]) (at_int? a1) (at_int? b1) (at_int? a2) (at_int? b2), w64_succ (by omega)]
      · rw [if_pos hd]
        rcases size_ne hd with h1 | ⟨h1, h2⟩
        · have := s_TouchedBy.l0_1 (call := CC) (lp := lpW) ((wantsF nodes).map encInt).length ((wantsF q).map encInt).length ((ints (touchedTo nodes q j)).map encInt).length (j : Nat) (nodes.map encNode) ((ints (touchedTo nodes q j)).map encInt) ((wantsF nodes).map encInt) ((wantsF q).map encInt) (sizeF nodes j).1 (sizeF q j).1
          rw [w2] at this
          rw [this (by simpa using hj) (by simp) (by rw [decide_eq_true_eq]; omega) (by rw [decide_eq_true_eq, List.length_map, la]; omega) (by simp) (by simp) (by rw [decide_eq_true_eq, List.length_map, lb]; omega) (by simp) h1 (by simp) (uni_int _) (by rw [len_ints, decide_eq_true_eq]; omega) (at_int? a1) (at_int? b1), w64_succ (by omega), ints_snoc]
        · have := s_TouchedBy.l0_3 (call := CC) (lp := lpW) ((wantsF nodes).map encInt).length ((wantsF q).map encInt).length ((ints (touchedTo nodes q j)).map encInt).length (j : Nat) (nodes.map encNode) ((ints (touchedTo nodes q j)).map encInt) ((wantsF nodes).map encInt) ((wantsF q).map encInt) (sizeF nodes j).1 (sizeF q j).1 (sizeF nodes j).2 (sizeF q j).2
          rw [w2, w3] at this
          rw [this (by simpa using hj) (by simp) (by rw [decide_eq_true_eq]; omega) (by rw [decide_eq_true_eq, List.length_map, la]; omega) (by simp) (by simp) (by rw [decide_eq_true_eq, List.length_map, lb]; omega) (by simp) h1 (by rw [decide_eq_true_eq]; omega) (by rw [decide_eq_true_eq, List.length_map, la]; omega) (by rw [decide_eq_true_eq, List.length_map, lb]; omega) h2 (by simp) (uni_int _) (by rw [len_ints, decide_eq_true_eq]; omega) (at_int? a1) (at_int? b1) (at_int? a2) (at_int? b2), w64_succ (by omega), ints_snoc]) (s_TouchedBy.l0_2 _ _ _ _ _ _ _ _ (by simp))
    exact s_TouchedBy.w2 nodes i w h (wantsF nodes) q (wantsF q) ((ints (touchedTo nodes q nodes.length)).map encInt).length _ (by simp) k (s_wantsOf.c ht) k3 (s_wantsOf.c hq) (by simpa [touchedTo, ints] using this)
theorem l_eqIntS.c (l : List Int) (hl : l.length ≤ 1000000) : PC l_eqIntS [.one (.rsl (l.map encInt)), .one (.rsl (l.map encInt))] (vB true, []) := by
  refine lift ?_
  refine l_eqIntS.w1 l l (bne_self_eq_false _) ?_
  exact loop_exit (step := l_eqIntS.r0 CC lpW) (S := fun j => l_eqIntS.s0 (l.map encInt) (l.map encInt) (j : Nat)) l.length (fun j hj => by
    have := l_eqIntS.l0_2 (call := CC) (lp := lpW) (l.map encInt) (l.map encInt) (j : Nat) l[j] l[j] (by simpa using hj) (by simp) (bne_self_eq_false _) (at_int hj) (at_int hj)
    rw [this, w64_succ (by omega)]) (l_eqIntS.l0_1 _ _ _ (by simp))
def markI (k n : Nat) : List Int := (List.range n).map fun j => ((k + j : Nat) : Int)
theorem markI_len (k n : Nat) : (markI k n).length = n := by simp [markI]
theorem mark_step {k : Nat} {l : List Int} {j : Nat} (hj : j < l.length) : (markI k j ++ l.drop j).set j ((k + j : Nat) : Int) = markI k (j + 1) ++ l.drop (j + 1) := by
  rw [List.set_append, markI_len, if_neg (by omega), Nat.sub_self, drop_cons hj, List.set_cons_zero]
  unfold markI
  rw [List.range_succ, List.map_append, List.append_assoc]; rfl
theorem l_markIntS.c (l : List Int) (k : Nat) (hl : l.length ≤ 1000000) (hk : k ≤ 1000000000) : PC l_markIntS [.one (.sl (l.map encInt)), vI (k : Nat)] (vI ((k + l.length : Nat) : Int), [.sl ((markI k l.length).map encInt)]) := by
  refine lift ?_
  refine l_markIntS.w1 l k _ _ ?_
  have := loop_exit (step := l_markIntS.r0 CC lpW) (S := fun j => l_markIntS.s0 (l.map encInt).length ((k + j : Nat) : Int) (j : Nat) ((markI k j ++ l.drop j).map encInt)) l.length (fun j hj => by
    have hlen : (markI k j ++ l.drop j).length = l.length := by rw [List.length_append, markI_len, List.length_drop]; omega
    have := l_markIntS.l0_1 (call := CC) (lp := lpW) (l.map encInt).length ((k + j : Nat) : Int) (j : Nat) ((markI k j ++ l.drop j).map encInt) _ (by simpa using hj) (by rw [List.length_map, hlen, List.length_map, decide_eq_true_eq]) (by simp) (by simp) (at_int (by rw [hlen]; exact hj))
    rw [this, w64_succ (by omega), w64_succ (by omega), Int.toNat_natCast, set_int, mark_step hj]
    rfl) (l_markIntS.l0_2 _ _ _ _ (by simp))
  simpa [markI] using this
theorem l_heldIntS.c (k n : Nat) (hn : n ≤ 1000000) (hk : k ≤ 1000000000) : PC l_heldIntS [.one (.rsl ((markI k n).map encInt)), vI (k : Nat)] (vI ((k + n : Nat) : Int), []) := by
  refine lift ?_
  refine l_heldIntS.w1 (markI k n) k _ ?_
  have := loop_exit (step := l_heldIntS.r0 CC lpW) (S := fun j => l_heldIntS.s0 ((markI k n).map encInt) ((k + j : Nat) : Int) (j : Nat)) n (fun j hj => by
    have hat : ((markI k n).map encInt)[((j : Nat) : Int).toNat]? = some [C.int .i64 ((k + j : Nat) : Int)] := by simp [markI, hj, encInt]
    have := l_heldIntS.l0_2 (call := CC) (lp := lpW) ((markI k n).map encInt) ((k + j : Nat) : Int) (j : Nat) _ (by rw [List.length_map, markI_len, decide_eq_true_eq]; omega) (by simp) (bne_self_eq_false _) hat
    rw [this, w64_succ (by omega), w64_succ (by omega)]
    rfl) (l_heldIntS.l0_1 _ _ _ (by rw [List.length_map, markI_len, decide_eq_false_iff_not]; omega))
  simpa using this
theorem law_TouchedBy {nodes : List Node} (hw : Win nodes) (i w h : Int) : PC l_FnExactTouchedBy [.agg [.rsl (nodes.map encNode)], vI i, vI w, vI h] (vB true, []) := by
  obtain ⟨r, hr, hs⟩ := szTree_spec hw
  refine lift ?_
  by_cases h0 : r < 0
  · exact l_FnExactTouchedBy.w1 nodes i w h r (by rw [decide_eq_true_eq]; exact h0) hr
  · have hs := hs.resolve_left h0
    have ho := tsz_ok hs
    have hl : (ints (touchedBy nodes i w h)).length ≤ 10 := by simpa [ints] using touched_len
    have g1 := kAt_ge (k := 1) (nodes := nodes)
    have k1 := i_TouchedBy.c nodes i w h ho
    have k2 := l_eqIntS.c (ints (touchedBy nodes i w h)) (by omega)
    have k3 := l_markIntS.c (ints (touchedBy nodes i w h)) 1 (by omega) (by omega)
    have k4 := l_heldIntS.c 1 (ints (touchedBy nodes i w h)).length (by omega) (by omega)
    exact l_FnExactTouchedBy.w2 nodes i w h r nodes _ nodes _ nodes _ (markN 1 nodes) _ _ _ nodes _ _
      (by rw [decide_eq_false_iff_not]; exact h0) (by rw [decide_eq_false_iff_not]; omega) (by rw [List.length_map, List.length_map, markI_len, decide_eq_true_eq]) (by rw [decide_eq_false_iff_not]; omega) (bne_self_eq_false _) (by rw [decide_eq_false_iff_not]; omega) (bne_self_eq_false _)
      hr (l_toTree.c nodes ho) (s_TouchedBy.c nodes i w h ho) (l_toTree.c nodes ho) k1 k2 (l_toTree.c nodes ho) (l_eqTree.c nodes ho) (l_markTree.c hs) k2 k3 k4 (l_toTree.c nodes ho) k1 k2 k4
end Go.Proofs.Ytdgamfanffnhaaa.PI
namespace Go.Proofs.Ytdgamfanffnhaaa
open Go Go.ChangeShapes Go.WideShapes Go.ChangeAt Go.RowKit PI
theorem Try.own : ownKnob Try.prog.godebug = none := by kernel_rfl
theorem Try.laidOut : laidOutB Try.prog = true := by kernel_rfl
set_option maxRecDepth 100000 in
theorem law_lifted (os : Os) (started : os.Started) (H : Type) (enc : TypeId × Value → H) :
    ReturnsInHanded {} Try.checked os 4 .any (Rows.fnExactTouchedBySpec.pre6 enc Try.prog Try.f4 Rows.fnExactTouchedByRow.domain false) (Rows.fnExactTouchedBySpec.post enc Try.prog Try.f4 false true false false) := by
  refine returnsInHanded_of_change (C := Try.checked) Try.own started (by kernel_rfl) Try.func4
    (ChangeSpec.witness6 (enc := enc) (C := Try.checked) false ⟨#[], #[.agg #[.slice none 0 0], .int .i64 0, .int .i64 0, .int .i64 0], []⟩ 8 (by kernel_rfl) (by kernel_rfl) (by kernel_rfl) (by kernel_rfl)) ?_
  intro W base args ds gs before hval0 hW hcnd _
  have hval : ∀ (j : Nat) t v, Try.f4.params[j]? = some t → args[j]? = some v → Value.okWide Try.prog W .any base t v := hval0
  have hW' := hW
  obtain ⟨p, q, hA0, hV, rfl, hfz, hnd⟩ := hW
  have hA : DataW.TrodAll enc Try.prog W 0 (fun _ => true) true Try.f4.params.toList args.toList ds p := hA0
  rw [Try.params4] at hA hval
  obtain ⟨v0, v1, v2, v3, d0, d1, d2, d3, p0, p1, p2, p3, rfl, rfl, rfl, h0, h1, h2, h3⟩ := trodAll_four hA
  obtain ⟨rfl, rfl⟩ := trodVars_none hV
  obtain ⟨nodes, hw, r0⟩ := open_tree (P := Try.prog) Try.underlying24 (by kernel_rfl) (hval 0 24 v0 rfl rfl) h0
  obtain ⟨a, rfl, rfl, rfl, wa⟩ := open_int Try.underlying3 (hval 1 3 v1 rfl rfl) h1
  obtain ⟨b, rfl, rfl, rfl, wb⟩ := open_int Try.underlying3 (hval 2 3 v2 rfl rfl) h2
  obtain ⟨c, rfl, rfl, rfl, wc⟩ := open_int Try.underlying3 (hval 3 3 v3 rfl rfl) h3
  clear hA0 hval0
  simp only [List.append_nil] at hW'
  have ro : ∀ n : Int, RoV (hp W) (Rw W) (vI n) (.int .i64 n) := fun n => .sc rfl .nil
  refine (answer (P := Try.prog) (by kernel_rfl) allOk rfl (.cons r0 (.cons (ro a) (.cons (ro b) (.cons (ro c) .nil)))) (law_TouchedBy hw a b c)).mono fun e W' ⟨he, hb⟩ => ?_
  subst he
  have hlt : ∀ x ∈ p0, x.block < W.heap.size := fun x hx => hW'.lt x hx
  exact ⟨_, rfl, post_of_grown hW' (fun _ _ _ => trodAll_mk1 (shut_bool Try.underlying4 true))
    (fun sp hs => by
      have := trodAll_mk4 (WideElems.Trod_stays (sp' := sp) Try.laidOut (by kernel_rfl) (of_decide_eq_true (by kernel_rfl)) h0 (fun x hx => hb.same (hlt x hx)) (fun x hx => hs x hx)) (shut_int Try.underlying3 wa) (shut_int Try.underlying3 wb) (shut_int Try.underlying3 wc)
      simp only [List.append_nil] at this
      exact this)
    (fun _ => rfl) hb (ok_one (by kernel_rfl) rfl (okWide_bool_mk Try.underlying4 true))⟩
theorem fnExactTouchedBy_holds : Rows.FnExactTouchedBySaid :=
  OpenClaim.holds_of_wide 4 Try.f4 rfl rfl rfl rfl rfl rfl rfl ⟨rfl, rfl, rfl, rfl, rfl⟩ rfl rfl rfl rfl rfl (by kernel_rfl) Try.func4 (by kernel_rfl)
    (of_decide_eq_true (by kernel_rfl)) (by unfold Func.isWrapper; first | (rw [if_pos (by decide +kernel)]; kernel_rfl) | (rw [if_neg (by decide +kernel)]; exact ⟨rfl, rfl⟩))
    (fun os started H enc _ => law_lifted os started H enc)
end Go.Proofs.Ytdgamfanffnhaaa
