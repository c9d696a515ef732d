/-
  The law FnExactAskFor answers true whatever comes in, and what came in reads as it did. No condition.
-/
import Derived.Test.YtdgamfanffnhaaaAska1
set_option linter.unusedVariables false
set_option linter.unusedSimpArgs false
namespace Go.Proofs.Ytdgamfanffnhaaa.PI
open Go
theorem all_at {α : Type} {l : List α} {p : α → Bool} : (∀ i (h : i < l.length), p l[i] = true) ↔ l.all p = true := by
  rw [List.all_eq_true]
  constructor
  · intro h x hx
    obtain ⟨i, hi, rfl⟩ := List.mem_iff_getElem.1 hx
    exact h i hi
  · exact fun h i hi => h _ (List.getElem_mem hi)
def s_validLines.m (list : List Line) : Bool := bif list.all s_validLine.m then s_inRange.m (list.length : Int) 1 5 else false
theorem s_validLines.c (list : List Line) (hl : Sm list) : PC s_validLines [.one (.rsl (list.map encLine))] (vB (s_validLines.m list), []) := by
  unfold Sm at hl
  refine lift ?_
  unfold s_validLines.m
  have := loop_find (step := s_validLines.r0 CC lpW) (S := fun j => s_validLines.s0 (list.map encLine) (j : Nat)) (eb := fun _ => s_validLines.e0_0 (list.map encLine)) list.length (fun j => (list[j]?.map s_validLine.m).getD true) (fun j hj hp => by
    rw [List.getElem?_eq_getElem hj] at hp
    have := s_validLines.l0_3 (call := CC) (lp := lpW) (list.map encLine) (j : Nat) list[j] (by simpa using hj) (by simp) (at_map hj) ((s_validLine.c list[j]).trans (by simpa using hp))
    rw [this, w64_succ (by omega)]) (fun j hj hp => by
    rw [List.getElem?_eq_getElem hj] at hp
    exact s_validLines.l0_1 (call := CC) (lp := lpW) (list.map encLine) (j : Nat) list[j] (by simpa using hj) (by simp) (at_map hj) ((s_validLine.c list[j]).trans (by simpa using hp))) (s_validLines.l0_2 _ _ (by simp))
  rcases this with ⟨h, hl⟩ | ⟨i, hi, hp, _, hl⟩
  · have ha : list.all s_validLine.m = true := all_at.1 fun i hi => by have := h i hi; rw [List.getElem?_eq_getElem hi] at this; simpa using this
    rw [ha]
    refine s_validLines.w2 list _ _ ?_ hl
    have := s_inRange.c ((list.map encLine).length : Nat) 1 5
    simpa using this
  · have ha : list.all s_validLine.m = false := by
      cases h : list.all s_validLine.m with
      | false => rfl
      | true => rw [List.getElem?_eq_getElem hi] at hp; have := all_at.2 h i hi; simp [this] at hp
    rw [ha]
    exact s_validLines.w1 list _ hl
def x_IndexFunc_Line.m (s : List Line) : Int := match s.findIdx? i_linesOk_1.m with
  | some i => (i : Int)
  | none => -1
theorem x_IndexFunc_Line.c (s : List Line) (hl : Sm s) : PC x_IndexFunc_Line [.one (.rsl (s.map encLine)), .one (.fn i_linesOk_1)] (vI (x_IndexFunc_Line.m s), []) := by
  unfold Sm at hl
  refine lift ?_
  unfold x_IndexFunc_Line.m
  have := loop_find (step := x_IndexFunc_Line.r0 CC lpW) (S := fun j => x_IndexFunc_Line.s0 (s.map encLine) ((s.map encLine).length : Nat) (j : Nat)) (eb := fun j => x_IndexFunc_Line.e0_0 (j : Nat)) s.length (fun j => (s[j]?.map fun x => !i_linesOk_1.m x).getD true) (fun j hj hp => by
    rw [List.getElem?_eq_getElem hj] at hp
    have := x_IndexFunc_Line.l0_3 (call := CC) (lp := lpW) (s.map encLine) ((s.map encLine).length : Nat) (j : Nat) s[j] (by simpa using hj) (by simp) (at_map hj) ((i_linesOk_1.c s[j]).trans (by simpa using hp))
    rw [this, w64_succ (by omega)]) (fun j hj hp => by
    rw [List.getElem?_eq_getElem hj] at hp
    exact x_IndexFunc_Line.l0_1 (call := CC) (lp := lpW) (s.map encLine) ((s.map encLine).length : Nat) (j : Nat) s[j] (by simpa using hj) (by simp) (at_map hj) ((i_linesOk_1.c s[j]).trans (by simpa using hp))) (x_IndexFunc_Line.l0_2 _ _ _ (by simp))
  rcases this with ⟨h, hl⟩ | ⟨i, hi, hp, hb, hl⟩
  · have : s.findIdx? i_linesOk_1.m = none := by
      rw [List.findIdx?_eq_none_iff]
      intro x hx
      obtain ⟨i, hi, rfl⟩ := List.mem_iff_getElem.1 hx
      have := h i hi; rw [List.getElem?_eq_getElem hi] at this; simpa using this
    rw [this]
    exact x_IndexFunc_Line.w2 s hl
  · have : s.findIdx? i_linesOk_1.m = some i := by
      rw [List.findIdx?_eq_some_iff_getElem]
      refine ⟨hi, ?_, fun j hj => ?_⟩
      · rw [List.getElem?_eq_getElem hi] at hp; simpa using hp
      · have := hb j hj; rw [List.getElem?_eq_getElem (by omega)] at this; simpa using this
    rw [this]
    exact x_IndexFunc_Line.w1 s _ hl
theorem x_ContainsFunc_Line.c (s : List Line) (hl : Sm s) : PC x_ContainsFunc_Line [.one (.rsl (s.map encLine)), .one (.fn i_linesOk_1)] (vB (s.any i_linesOk_1.m), []) := by
  have h : s.any i_linesOk_1.m = decide (x_IndexFunc_Line.m s ≥ 0) := by
    unfold x_IndexFunc_Line.m
    cases hf : s.findIdx? i_linesOk_1.m with
    | none =>
      rw [List.findIdx?_eq_none_iff] at hf
      have : s.any i_linesOk_1.m = false := by rw [List.any_eq_false]; intro x hx; simp [hf x hx]
      simp [this]
    | some i =>
      rw [List.findIdx?_eq_some_iff_getElem] at hf
      obtain ⟨hi, hp, _⟩ := hf
      have : s.any i_linesOk_1.m = true := List.any_eq_true.2 ⟨s[i], List.getElem_mem hi, hp⟩
      simp [this]
  rw [h]
  exact lift (x_ContainsFunc_Line.w1 s _ (x_IndexFunc_Line.c s hl))
def i_linesOk.m (list : List Line) : Bool := bif i_within.m (list.length : Int) 1 5 then !list.any i_linesOk_1.m else false
theorem i_linesOk.c (list : List Line) (hl : Sm list) : PC i_linesOk [.one (.rsl (list.map encLine))] (vB (i_linesOk.m list), []) := by
  refine lift ?_
  unfold i_linesOk.m
  have k := i_within.c ((list.map encLine).length : Nat) 1 5
  simp only [List.length_map] at k
  cases h : i_within.m (list.length : Int) 1 5 with
  | true => exact i_linesOk.w1 list _ (by simp only [List.length_map]; exact k.trans (by rw [h])) (x_ContainsFunc_Line.c list hl)
  | false => exact i_linesOk.w2 list (by simp only [List.length_map]; exact k.trans (by rw [h]))
def i_ValidPlace.m (p : Place) : Bool := bif [p.x, p.y, p.w, p.h].all fun n => i_within.m n (-300) 300 then (bif [p.relX, p.relY, p.relW, p.relH].all fun n => i_within.m n 0 1000 then i_within.m p.anchor 0 8 else false) else false
theorem i_ValidPlace.c (p : Place) : PC i_ValidPlace [.agg (encPlace p)] (vB (i_ValidPlace.m p), []) := by
  refine lift ?_
  unfold i_ValidPlace.m
  have key : ∀ (l : List Int) (p' : Int → Bool), l.length = 4 → ((∀ i, i < 4 → (l[i]?.map p').getD true = true) ↔ l.all p' = true) := by
    intro l p' hl
    rw [← all_at]
    constructor
    · intro h i hi; have := h i (by omega); rw [List.getElem?_eq_getElem hi] at this; simpa using this
    · intro h i hi; rw [List.getElem?_eq_getElem (by omega)]; simpa using h i (by omega)
  have bad : ∀ (l : List Int) (p' : Int → Bool) (i : Nat), l.length = 4 → i < 4 → (l[i]?.map p').getD true = false → l.all p' = false := by
    intro l p' i hl hi hp
    cases h : l.all p' with
    | false => rfl
    | true => rw [(key l p' hl).2 h i hi] at hp; cases hp
  have r0 : ∀ (l : List Int), l.length = 4 → _ := fun l hl => loop_find (step := i_ValidPlace.r0 CC lpW) (S := fun j => i_ValidPlace.s0 (j : Nat) p (l.map encInt)) (eb := fun _ => i_ValidPlace.e0_0 p) (ee := i_ValidPlace.e0_1 p) (q := 0) 4 (fun j => (l[j]?.map fun n => i_within.m n (-300) 300).getD true) (fun j hj hp => by
      rw [List.getElem?_eq_getElem (by omega)] at hp
      have := i_ValidPlace.l0_3 (call := CC) (lp := lpW) (j : Nat) p (l.map encInt) (l[j]'(by omega)) (by simp; omega) (by simp [hl]) (by simp) (at_map (by omega)) ((i_within.c _ _ _).trans (by simpa using hp))
      rw [this, w64_succ (by omega)]) (fun j hj hp => by
      rw [List.getElem?_eq_getElem (by omega)] at hp
      exact i_ValidPlace.l0_1 (call := CC) (lp := lpW) (j : Nat) p (l.map encInt) (l[j]'(by omega)) (by simp; omega) (by simp [hl]) (by simp) (at_map (by omega)) ((i_within.c _ _ _).trans (by simpa using hp))) (i_ValidPlace.l0_2 _ _ _ (by simp))
  have r1 : ∀ (l : List Int), l.length = 4 → _ := fun l hl => loop_find (step := i_ValidPlace.r1 CC lpW) (S := fun j => i_ValidPlace.s1 (j : Nat) p (l.map encInt)) (eb := fun _ => i_ValidPlace.e1_0 p) (ee := i_ValidPlace.e1_1 p) (q := 2) 4 (fun j => (l[j]?.map fun n => i_within.m n 0 1000).getD true) (fun j hj hp => by
      rw [List.getElem?_eq_getElem (by omega)] at hp
      have := i_ValidPlace.l1_3 (call := CC) (lp := lpW) (j : Nat) p (l.map encInt) (l[j]'(by omega)) (by simp; omega) (by simp [hl]) (by simp) (at_map (by omega)) ((i_within.c _ _ _).trans (by simpa using hp))
      rw [this, w64_succ (by omega)]) (fun j hj hp => by
      rw [List.getElem?_eq_getElem (by omega)] at hp
      exact i_ValidPlace.l1_1 (call := CC) (lp := lpW) (j : Nat) p (l.map encInt) (l[j]'(by omega)) (by simp; omega) (by simp [hl]) (by simp) (at_map (by omega)) ((i_within.c _ _ _).trans (by simpa using hp))) (i_ValidPlace.l1_2 _ _ _ (by simp))
  rcases r0 [p.x, p.y, p.w, p.h] rfl with ⟨h, hl⟩ | ⟨i, hi, hp, _, hl⟩
  · rw [(key _ _ rfl).1 h]
    rcases r1 [p.relX, p.relY, p.relW, p.relH] rfl with ⟨h1, hl1⟩ | ⟨i, hi, hp, _, hl1⟩
    · rw [(key _ _ rfl).1 h1]
      exact i_ValidPlace.w3 p p p _ (i_within.c _ _ _) hl hl1
    · rw [bad _ _ i rfl hi hp]
      exact i_ValidPlace.w2 p p p hl hl1
  · rw [bad _ _ i rfl hi hp]
    exact i_ValidPlace.w1 p p hl
end Go.Proofs.Ytdgamfanffnhaaa.PI
namespace Go.Proofs.Ytdgamfanffnhaaa.PI
open Go
set_option maxRecDepth 100000
set_option linter.unusedVariables false
def i_Node_ok.m (n : Node) : Bool := (bif (i_within.m n.w 0 30) then (bif (i_within.m n.h 0 30) then (bif (i_within.m n.kind 0 2) then (bif (i_ValidPack.m n.pack) then (bif (n.pack.w != 0) then false else (bif (n.pack.h != 0) then false else (bif (i_ValidPlace.m n.place) then (bif (n.cell.w != 0) then false else (bif (n.cell.h != 0) then false else (bif (n.kind == 1) then (bif (i_linesOk.m n.cols) then (i_linesOk.m n.rows) else false) else (bif ((((n.cols.map encLine).length : Nat) : Int) == 0) then ((((n.rows.map encLine).length : Nat) : Int) == 0) else false)))) else false))) else false) else false) else false) else false)
theorem i_Node_ok.c (n : Node) (S1 : Sm n.cols) (S2 : Sm n.rows) : PC i_Node_ok [.agg (encNodeR n)] (vB (i_Node_ok.m n), []) := by
  refine lift ?_
  unfold i_Node_ok.m
  cases h1 : (i_within.m n.w 0 30) with
  | true =>
    cases h2 : (i_within.m n.h 0 30) with
    | true =>
      cases h3 : (i_within.m n.kind 0 2) with
      | true =>
        cases h4 : (i_ValidPack.m n.pack) with
        | true =>
          cases h5 : (n.pack.w != 0) with
          | true =>
            exact i_Node_ok.w5 _ (H5 := h5) (K1 := (i_within.c n.w 0 30).trans (by rw [h1])) (K2 := (i_within.c n.h 0 30).trans (by rw [h2])) (K3 := (i_within.c n.kind 0 2).trans (by rw [h3])) (K4 := (i_ValidPack.c n.pack).trans (by rw [h4]))
          | false =>
            cases h6 : (n.pack.h != 0) with
            | true =>
              exact i_Node_ok.w6 _ (H5 := h5) (H6 := h6) (K1 := (i_within.c n.w 0 30).trans (by rw [h1])) (K2 := (i_within.c n.h 0 30).trans (by rw [h2])) (K3 := (i_within.c n.kind 0 2).trans (by rw [h3])) (K4 := (i_ValidPack.c n.pack).trans (by rw [h4]))
            | false =>
              cases h7 : (i_ValidPlace.m n.place) with
              | true =>
                cases h8 : (n.cell.w != 0) with
                | true =>
                  exact i_Node_ok.w8 _ (H5 := h5) (H6 := h6) (H8 := h8) (K1 := (i_within.c n.w 0 30).trans (by rw [h1])) (K2 := (i_within.c n.h 0 30).trans (by rw [h2])) (K3 := (i_within.c n.kind 0 2).trans (by rw [h3])) (K4 := (i_ValidPack.c n.pack).trans (by rw [h4])) (K5 := (i_ValidPlace.c n.place).trans (by rw [h7]))
                | false =>
                  cases h9 : (n.cell.h != 0) with
                  | true =>
                    exact i_Node_ok.w9 _ (H5 := h5) (H6 := h6) (H8 := h8) (H9 := h9) (K1 := (i_within.c n.w 0 30).trans (by rw [h1])) (K2 := (i_within.c n.h 0 30).trans (by rw [h2])) (K3 := (i_within.c n.kind 0 2).trans (by rw [h3])) (K4 := (i_ValidPack.c n.pack).trans (by rw [h4])) (K5 := (i_ValidPlace.c n.place).trans (by rw [h7]))
                  | false =>
                    cases h10 : (n.kind == 1) with
                    | true =>
                      cases h11 : (i_linesOk.m n.cols) with
                      | true =>
                        exact i_Node_ok.w10 _ _ (H5 := h5) (H6 := h6) (H8 := h8) (H9 := h9) (H10 := h10) (K1 := (i_within.c n.w 0 30).trans (by rw [h1])) (K2 := (i_within.c n.h 0 30).trans (by rw [h2])) (K3 := (i_within.c n.kind 0 2).trans (by rw [h3])) (K4 := (i_ValidPack.c n.pack).trans (by rw [h4])) (K5 := (i_ValidPlace.c n.place).trans (by rw [h7])) (K6 := (i_linesOk.c n.cols S1).trans (by rw [h11])) (K7 := (i_linesOk.c n.rows S2))
                      | false =>
                        exact i_Node_ok.w13 _ (H5 := h5) (H6 := h6) (H8 := h8) (H9 := h9) (H10 := h10) (K1 := (i_within.c n.w 0 30).trans (by rw [h1])) (K2 := (i_within.c n.h 0 30).trans (by rw [h2])) (K3 := (i_within.c n.kind 0 2).trans (by rw [h3])) (K4 := (i_ValidPack.c n.pack).trans (by rw [h4])) (K5 := (i_ValidPlace.c n.place).trans (by rw [h7])) (K6 := (i_linesOk.c n.cols S1).trans (by rw [h11]))
                    | false =>
                      cases h12 : ((((n.cols.map encLine).length : Nat) : Int) == 0) with
                      | true =>
                        exact i_Node_ok.w11 _ (H5 := h5) (H6 := h6) (H8 := h8) (H9 := h9) (H10 := h10) (H11 := h12) (K1 := (i_within.c n.w 0 30).trans (by rw [h1])) (K2 := (i_within.c n.h 0 30).trans (by rw [h2])) (K3 := (i_within.c n.kind 0 2).trans (by rw [h3])) (K4 := (i_ValidPack.c n.pack).trans (by rw [h4])) (K5 := (i_ValidPlace.c n.place).trans (by rw [h7]))
                      | false =>
                        exact i_Node_ok.w12 _ (H5 := h5) (H6 := h6) (H8 := h8) (H9 := h9) (H10 := h10) (H11 := h12) (K1 := (i_within.c n.w 0 30).trans (by rw [h1])) (K2 := (i_within.c n.h 0 30).trans (by rw [h2])) (K3 := (i_within.c n.kind 0 2).trans (by rw [h3])) (K4 := (i_ValidPack.c n.pack).trans (by rw [h4])) (K5 := (i_ValidPlace.c n.place).trans (by rw [h7]))
              | false =>
                exact i_Node_ok.w7 _ (H5 := h5) (H6 := h6) (K1 := (i_within.c n.w 0 30).trans (by rw [h1])) (K2 := (i_within.c n.h 0 30).trans (by rw [h2])) (K3 := (i_within.c n.kind 0 2).trans (by rw [h3])) (K4 := (i_ValidPack.c n.pack).trans (by rw [h4])) (K5 := (i_ValidPlace.c n.place).trans (by rw [h7]))
        | false =>
          exact i_Node_ok.w4 _ (K1 := (i_within.c n.w 0 30).trans (by rw [h1])) (K2 := (i_within.c n.h 0 30).trans (by rw [h2])) (K3 := (i_within.c n.kind 0 2).trans (by rw [h3])) (K4 := (i_ValidPack.c n.pack).trans (by rw [h4]))
      | false =>
        exact i_Node_ok.w3 _ (K1 := (i_within.c n.w 0 30).trans (by rw [h1])) (K2 := (i_within.c n.h 0 30).trans (by rw [h2])) (K3 := (i_within.c n.kind 0 2).trans (by rw [h3]))
    | false =>
      exact i_Node_ok.w2 _ (K1 := (i_within.c n.w 0 30).trans (by rw [h1])) (K2 := (i_within.c n.h 0 30).trans (by rw [h2]))
  | false =>
    exact i_Node_ok.w1 _ (K1 := (i_within.c n.w 0 30).trans (by rw [h1]))
def s_validNode.m (nodes : List Node) (i : Int) (e : Node) (e2 : Node) : Bool := (bif (s_inRange.m e.w 0 30) then (bif (s_inRange.m e.h 0 30) then (bif (s_inRange.m e.kind 0 2) then (bif (s_validPack.m e.pack) then (bif (e.pack.w != 0) then false else (bif (e.pack.h != 0) then false else (bif (s_validPlace.m e.place) then (bif (e.cell.w != 0) then false else (bif (e.cell.h != 0) then false else (bif (e.kind == 1) then (bif (s_validLines.m e.cols) then (bif (s_validLines.m e.rows) then (bif (e.kind != 1) then (bif decide ((((e.cols.map encLine).length : Nat) : Int) > 0) then false else (bif decide ((((e.rows.map encLine).length : Nat) : Int) > 0) then false else (bif (i == 0) then (e.parent == (-1)) else (bif (s_inRange.m e.parent 0 (w64 (i - 1))) then (bif (e2.kind != 1) then true else (s_validCell.m e2.cols e2.rows ([]) e.cell)) else false)))) else (bif (i == 0) then (e.parent == (-1)) else (bif (s_inRange.m e.parent 0 (w64 (i - 1))) then (bif (e2.kind != 1) then true else (s_validCell.m e2.cols e2.rows ([]) e.cell)) else false))) else false) else false) else (bif (e.kind != 1) then (bif decide ((((e.cols.map encLine).length : Nat) : Int) > 0) then false else (bif decide ((((e.rows.map encLine).length : Nat) : Int) > 0) then false else (bif (i == 0) then (e.parent == (-1)) else (bif (s_inRange.m e.parent 0 (w64 (i - 1))) then (bif (e2.kind != 1) then true else (s_validCell.m e2.cols e2.rows ([]) e.cell)) else false)))) else (bif (i == 0) then (e.parent == (-1)) else (bif (s_inRange.m e.parent 0 (w64 (i - 1))) then (bif (e2.kind != 1) then true else (s_validCell.m e2.cols e2.rows ([]) e.cell)) else false)))))) else false))) else false) else false) else false) else false)
theorem s_validNode.c (nodes : List Node) (i : Int) (e : Node) (e2 : Node) (G1 : decide (0 ≤ i) = true) (G2 : (s_inRange.m e.parent 0 (w64 (i - 1))) = true → decide (0 ≤ e.parent) = true) (F1 : (nodes.map encNode)[(i).toNat]? = some (encNode e)) (F2 : (s_inRange.m e.parent 0 (w64 (i - 1))) = true → (nodes.map encNode)[(e.parent).toNat]? = some (encNode e2)) (S1 : Sm e.cols) (S2 : Sm e.rows) : PC s_validNode [.agg [.rsl (nodes.map encNode)], vI i] (vB (s_validNode.m nodes i e e2), []) := by
  refine lift ?_
  unfold s_validNode.m
  cases h1 : (s_inRange.m e.w 0 30) with
  | true =>
    cases h2 : (s_inRange.m e.h 0 30) with
    | true =>
      cases h3 : (s_inRange.m e.kind 0 2) with
      | true =>
        cases h4 : (s_validPack.m e.pack) with
        | true =>
          cases h5 : (e.pack.w != 0) with
          | true =>
            exact s_validNode.w5 _ _ _ (H1 := G1) (H6 := h5) (E1 := F1) (K1 := (s_inRange.c e.w 0 30).trans (by rw [h1])) (K2 := (s_inRange.c e.h 0 30).trans (by rw [h2])) (K3 := (s_inRange.c e.kind 0 2).trans (by rw [h3])) (K4 := (s_validPack.c e.pack).trans (by rw [h4]))
          | false =>
            cases h6 : (e.pack.h != 0) with
            | true =>
              exact s_validNode.w6 _ _ _ (H1 := G1) (H6 := h5) (H7 := h6) (E1 := F1) (K1 := (s_inRange.c e.w 0 30).trans (by rw [h1])) (K2 := (s_inRange.c e.h 0 30).trans (by rw [h2])) (K3 := (s_inRange.c e.kind 0 2).trans (by rw [h3])) (K4 := (s_validPack.c e.pack).trans (by rw [h4]))
            | false =>
              cases h7 : (s_validPlace.m e.place) with
              | true =>
                cases h8 : (e.cell.w != 0) with
                | true =>
                  exact s_validNode.w8 _ _ _ (H1 := G1) (H6 := h5) (H7 := h6) (H9 := h8) (E1 := F1) (K1 := (s_inRange.c e.w 0 30).trans (by rw [h1])) (K2 := (s_inRange.c e.h 0 30).trans (by rw [h2])) (K3 := (s_inRange.c e.kind 0 2).trans (by rw [h3])) (K4 := (s_validPack.c e.pack).trans (by rw [h4])) (K5 := (s_validPlace.c e.place).trans (by rw [h7]))
                | false =>
                  cases h9 : (e.cell.h != 0) with
                  | true =>
                    exact s_validNode.w9 _ _ _ (H1 := G1) (H6 := h5) (H7 := h6) (H9 := h8) (H10 := h9) (E1 := F1) (K1 := (s_inRange.c e.w 0 30).trans (by rw [h1])) (K2 := (s_inRange.c e.h 0 30).trans (by rw [h2])) (K3 := (s_inRange.c e.kind 0 2).trans (by rw [h3])) (K4 := (s_validPack.c e.pack).trans (by rw [h4])) (K5 := (s_validPlace.c e.place).trans (by rw [h7]))
                  | false =>
                    cases h10 : (e.kind == 1) with
                    | true =>
                      cases h11 : (s_validLines.m e.cols) with
                      | true =>
                        cases h12 : (s_validLines.m e.rows) with
                        | true =>
                          cases h13 : (e.kind != 1) with
                          | true =>
                            cases h14 : (decide ((((e.cols.map encLine).length : Nat) : Int) > 0)) with
                            | true =>
                              exact s_validNode.w22 _ _ _ (H1 := G1) (H6 := h5) (H7 := h6) (H9 := h8) (H10 := h9) (H11 := h10) (H14 := h13) (H15 := h14) (E1 := F1) (K1 := (s_inRange.c e.w 0 30).trans (by rw [h1])) (K2 := (s_inRange.c e.h 0 30).trans (by rw [h2])) (K3 := (s_inRange.c e.kind 0 2).trans (by rw [h3])) (K4 := (s_validPack.c e.pack).trans (by rw [h4])) (K5 := (s_validPlace.c e.place).trans (by rw [h7])) (K6 := (s_validLines.c e.cols S1).trans (by rw [h11])) (K7 := (s_validLines.c e.rows S2).trans (by rw [h12]))
                            | false =>
                              cases h15 : (decide ((((e.rows.map encLine).length : Nat) : Int) > 0)) with
                              | true =>
                                exact s_validNode.w27 _ _ _ (H1 := G1) (H6 := h5) (H7 := h6) (H9 := h8) (H10 := h9) (H11 := h10) (H14 := h13) (H15 := h14) (H16 := h15) (E1 := F1) (K1 := (s_inRange.c e.w 0 30).trans (by rw [h1])) (K2 := (s_inRange.c e.h 0 30).trans (by rw [h2])) (K3 := (s_inRange.c e.kind 0 2).trans (by rw [h3])) (K4 := (s_validPack.c e.pack).trans (by rw [h4])) (K5 := (s_validPlace.c e.place).trans (by rw [h7])) (K6 := (s_validLines.c e.cols S1).trans (by rw [h11])) (K7 := (s_validLines.c e.rows S2).trans (by rw [h12]))
                              | false =>
                                cases h16 : (i == 0) with
                                | true =>
                                  exact s_validNode.w28 _ _ _ (H1 := G1) (H6 := h5) (H7 := h6) (H9 := h8) (H10 := h9) (H11 := h10) (H14 := h13) (H15 := h14) (H16 := h15) (H17 := h16) (E1 := F1) (K1 := (s_inRange.c e.w 0 30).trans (by rw [h1])) (K2 := (s_inRange.c e.h 0 30).trans (by rw [h2])) (K3 := (s_inRange.c e.kind 0 2).trans (by rw [h3])) (K4 := (s_validPack.c e.pack).trans (by rw [h4])) (K5 := (s_validPlace.c e.place).trans (by rw [h7])) (K6 := (s_validLines.c e.cols S1).trans (by rw [h11])) (K7 := (s_validLines.c e.rows S2).trans (by rw [h12]))
                                | false =>
                                  cases h17 : (s_inRange.m e.parent 0 (w64 (i - 1))) with
                                  | true =>
                                    cases h18 : (e2.kind != 1) with
                                    | true =>
                                      exact s_validNode.w30 _ _ _ _ (H1 := G1) (H6 := h5) (H7 := h6) (H9 := h8) (H10 := h9) (H11 := h10) (H14 := h13) (H15 := h14) (H16 := h15) (H17 := h16) (H19 := (G2 h17)) (H20 := h18) (E1 := F1) (E2 := (F2 h17)) (K1 := (s_inRange.c e.w 0 30).trans (by rw [h1])) (K2 := (s_inRange.c e.h 0 30).trans (by rw [h2])) (K3 := (s_inRange.c e.kind 0 2).trans (by rw [h3])) (K4 := (s_validPack.c e.pack).trans (by rw [h4])) (K5 := (s_validPlace.c e.place).trans (by rw [h7])) (K6 := (s_validLines.c e.cols S1).trans (by rw [h11])) (K7 := (s_validLines.c e.rows S2).trans (by rw [h12])) (K8 := (s_inRange.c e.parent 0 (w64 (i - 1))).trans (by rw [h17]))
                                    | false =>
                                      exact s_validNode.w31 _ _ _ _ _ (H1 := G1) (H6 := h5) (H7 := h6) (H9 := h8) (H10 := h9) (H11 := h10) (H14 := h13) (H15 := h14) (H16 := h15) (H17 := h16) (H19 := (G2 h17)) (H20 := h18) (E1 := F1) (E2 := (F2 h17)) (K1 := (s_inRange.c e.w 0 30).trans (by rw [h1])) (K2 := (s_inRange.c e.h 0 30).trans (by rw [h2])) (K3 := (s_inRange.c e.kind 0 2).trans (by rw [h3])) (K4 := (s_validPack.c e.pack).trans (by rw [h4])) (K5 := (s_validPlace.c e.place).trans (by rw [h7])) (K6 := (s_validLines.c e.cols S1).trans (by rw [h11])) (K7 := (s_validLines.c e.rows S2).trans (by rw [h12])) (K8 := (s_inRange.c e.parent 0 (w64 (i - 1))).trans (by rw [h17])) (K9 := (s_validCell.c e2.cols e2.rows ([]) e.cell))
                                  | false =>
                                    exact s_validNode.w29 _ _ _ (H1 := G1) (H6 := h5) (H7 := h6) (H9 := h8) (H10 := h9) (H11 := h10) (H14 := h13) (H15 := h14) (H16 := h15) (H17 := h16) (E1 := F1) (K1 := (s_inRange.c e.w 0 30).trans (by rw [h1])) (K2 := (s_inRange.c e.h 0 30).trans (by rw [h2])) (K3 := (s_inRange.c e.kind 0 2).trans (by rw [h3])) (K4 := (s_validPack.c e.pack).trans (by rw [h4])) (K5 := (s_validPlace.c e.place).trans (by rw [h7])) (K6 := (s_validLines.c e.cols S1).trans (by rw [h11])) (K7 := (s_validLines.c e.rows S2).trans (by rw [h12])) (K8 := (s_inRange.c e.parent 0 (w64 (i - 1))).trans (by rw [h17]))
                          | false =>
                            cases h19 : (i == 0) with
                            | true =>
                              exact s_validNode.w23 _ _ _ (H1 := G1) (H6 := h5) (H7 := h6) (H9 := h8) (H10 := h9) (H11 := h10) (H14 := h13) (H15 := h19) (E1 := F1) (K1 := (s_inRange.c e.w 0 30).trans (by rw [h1])) (K2 := (s_inRange.c e.h 0 30).trans (by rw [h2])) (K3 := (s_inRange.c e.kind 0 2).trans (by rw [h3])) (K4 := (s_validPack.c e.pack).trans (by rw [h4])) (K5 := (s_validPlace.c e.place).trans (by rw [h7])) (K6 := (s_validLines.c e.cols S1).trans (by rw [h11])) (K7 := (s_validLines.c e.rows S2).trans (by rw [h12]))
                            | false =>
                              cases h20 : (s_inRange.m e.parent 0 (w64 (i - 1))) with
                              | true =>
                                cases h21 : (e2.kind != 1) with
                                | true =>
                                  exact s_validNode.w25 _ _ _ _ (H1 := G1) (H6 := h5) (H7 := h6) (H9 := h8) (H10 := h9) (H11 := h10) (H14 := h13) (H15 := h19) (H17 := (G2 h20)) (H18 := h21) (E1 := F1) (E2 := (F2 h20)) (K1 := (s_inRange.c e.w 0 30).trans (by rw [h1])) (K2 := (s_inRange.c e.h 0 30).trans (by rw [h2])) (K3 := (s_inRange.c e.kind 0 2).trans (by rw [h3])) (K4 := (s_validPack.c e.pack).trans (by rw [h4])) (K5 := (s_validPlace.c e.place).trans (by rw [h7])) (K6 := (s_validLines.c e.cols S1).trans (by rw [h11])) (K7 := (s_validLines.c e.rows S2).trans (by rw [h12])) (K8 := (s_inRange.c e.parent 0 (w64 (i - 1))).trans (by rw [h20]))
                                | false =>
                                  exact s_validNode.w26 _ _ _ _ _ (H1 := G1) (H6 := h5) (H7 := h6) (H9 := h8) (H10 := h9) (H11 := h10) (H14 := h13) (H15 := h19) (H17 := (G2 h20)) (H18 := h21) (E1 := F1) (E2 := (F2 h20)) (K1 := (s_inRange.c e.w 0 30).trans (by rw [h1])) (K2 := (s_inRange.c e.h 0 30).trans (by rw [h2])) (K3 := (s_inRange.c e.kind 0 2).trans (by rw [h3])) (K4 := (s_validPack.c e.pack).trans (by rw [h4])) (K5 := (s_validPlace.c e.place).trans (by rw [h7])) (K6 := (s_validLines.c e.cols S1).trans (by rw [h11])) (K7 := (s_validLines.c e.rows S2).trans (by rw [h12])) (K8 := (s_inRange.c e.parent 0 (w64 (i - 1))).trans (by rw [h20])) (K9 := (s_validCell.c e2.cols e2.rows ([]) e.cell))
                              | false =>
                                exact s_validNode.w24 _ _ _ (H1 := G1) (H6 := h5) (H7 := h6) (H9 := h8) (H10 := h9) (H11 := h10) (H14 := h13) (H15 := h19) (E1 := F1) (K1 := (s_inRange.c e.w 0 30).trans (by rw [h1])) (K2 := (s_inRange.c e.h 0 30).trans (by rw [h2])) (K3 := (s_inRange.c e.kind 0 2).trans (by rw [h3])) (K4 := (s_validPack.c e.pack).trans (by rw [h4])) (K5 := (s_validPlace.c e.place).trans (by rw [h7])) (K6 := (s_validLines.c e.cols S1).trans (by rw [h11])) (K7 := (s_validLines.c e.rows S2).trans (by rw [h12])) (K8 := (s_inRange.c e.parent 0 (w64 (i - 1))).trans (by rw [h20]))
                        | false =>
                          exact s_validNode.w21 _ _ _ (H1 := G1) (H6 := h5) (H7 := h6) (H9 := h8) (H10 := h9) (H11 := h10) (E1 := F1) (K1 := (s_inRange.c e.w 0 30).trans (by rw [h1])) (K2 := (s_inRange.c e.h 0 30).trans (by rw [h2])) (K3 := (s_inRange.c e.kind 0 2).trans (by rw [h3])) (K4 := (s_validPack.c e.pack).trans (by rw [h4])) (K5 := (s_validPlace.c e.place).trans (by rw [h7])) (K6 := (s_validLines.c e.cols S1).trans (by rw [h11])) (K7 := (s_validLines.c e.rows S2).trans (by rw [h12]))
                      | false =>
                        exact s_validNode.w10 _ _ _ (H1 := G1) (H6 := h5) (H7 := h6) (H9 := h8) (H10 := h9) (H11 := h10) (E1 := F1) (K1 := (s_inRange.c e.w 0 30).trans (by rw [h1])) (K2 := (s_inRange.c e.h 0 30).trans (by rw [h2])) (K3 := (s_inRange.c e.kind 0 2).trans (by rw [h3])) (K4 := (s_validPack.c e.pack).trans (by rw [h4])) (K5 := (s_validPlace.c e.place).trans (by rw [h7])) (K6 := (s_validLines.c e.cols S1).trans (by rw [h11]))
                    | false =>
                      cases h22 : (e.kind != 1) with
                      | true =>
                        cases h23 : (decide ((((e.cols.map encLine).length : Nat) : Int) > 0)) with
                        | true =>
                          exact s_validNode.w11 _ _ _ (H1 := G1) (H6 := h5) (H7 := h6) (H9 := h8) (H10 := h9) (H11 := h10) (H12 := h22) (H13 := h23) (E1 := F1) (K1 := (s_inRange.c e.w 0 30).trans (by rw [h1])) (K2 := (s_inRange.c e.h 0 30).trans (by rw [h2])) (K3 := (s_inRange.c e.kind 0 2).trans (by rw [h3])) (K4 := (s_validPack.c e.pack).trans (by rw [h4])) (K5 := (s_validPlace.c e.place).trans (by rw [h7]))
                        | false =>
                          cases h24 : (decide ((((e.rows.map encLine).length : Nat) : Int) > 0)) with
                          | true =>
                            exact s_validNode.w16 _ _ _ (H1 := G1) (H6 := h5) (H7 := h6) (H9 := h8) (H10 := h9) (H11 := h10) (H12 := h22) (H13 := h23) (H14 := h24) (E1 := F1) (K1 := (s_inRange.c e.w 0 30).trans (by rw [h1])) (K2 := (s_inRange.c e.h 0 30).trans (by rw [h2])) (K3 := (s_inRange.c e.kind 0 2).trans (by rw [h3])) (K4 := (s_validPack.c e.pack).trans (by rw [h4])) (K5 := (s_validPlace.c e.place).trans (by rw [h7]))
                          | false =>
                            cases h25 : (i == 0) with
                            | true =>
                              exact s_validNode.w17 _ _ _ (H1 := G1) (H6 := h5) (H7 := h6) (H9 := h8) (H10 := h9) (H11 := h10) (H12 := h22) (H13 := h23) (H14 := h24) (H15 := h25) (E1 := F1) (K1 := (s_inRange.c e.w 0 30).trans (by rw [h1])) (K2 := (s_inRange.c e.h 0 30).trans (by rw [h2])) (K3 := (s_inRange.c e.kind 0 2).trans (by rw [h3])) (K4 := (s_validPack.c e.pack).trans (by rw [h4])) (K5 := (s_validPlace.c e.place).trans (by rw [h7]))
                            | false =>
                              cases h26 : (s_inRange.m e.parent 0 (w64 (i - 1))) with
                              | true =>
                                cases h27 : (e2.kind != 1) with
                                | true =>
                                  exact s_validNode.w19 _ _ _ _ (H1 := G1) (H6 := h5) (H7 := h6) (H9 := h8) (H10 := h9) (H11 := h10) (H12 := h22) (H13 := h23) (H14 := h24) (H15 := h25) (H17 := (G2 h26)) (H18 := h27) (E1 := F1) (E2 := (F2 h26)) (K1 := (s_inRange.c e.w 0 30).trans (by rw [h1])) (K2 := (s_inRange.c e.h 0 30).trans (by rw [h2])) (K3 := (s_inRange.c e.kind 0 2).trans (by rw [h3])) (K4 := (s_validPack.c e.pack).trans (by rw [h4])) (K5 := (s_validPlace.c e.place).trans (by rw [h7])) (K6 := (s_inRange.c e.parent 0 (w64 (i - 1))).trans (by rw [h26]))
                                | false =>
                                  exact s_validNode.w20 _ _ _ _ _ (H1 := G1) (H6 := h5) (H7 := h6) (H9 := h8) (H10 := h9) (H11 := h10) (H12 := h22) (H13 := h23) (H14 := h24) (H15 := h25) (H17 := (G2 h26)) (H18 := h27) (E1 := F1) (E2 := (F2 h26)) (K1 := (s_inRange.c e.w 0 30).trans (by rw [h1])) (K2 := (s_inRange.c e.h 0 30).trans (by rw [h2])) (K3 := (s_inRange.c e.kind 0 2).trans (by rw [h3])) (K4 := (s_validPack.c e.pack).trans (by rw [h4])) (K5 := (s_validPlace.c e.place).trans (by rw [h7])) (K6 := (s_inRange.c e.parent 0 (w64 (i - 1))).trans (by rw [h26])) (K7 := (s_validCell.c e2.cols e2.rows ([]) e.cell))
                              | false =>
                                exact s_validNode.w18 _ _ _ (H1 := G1) (H6 := h5) (H7 := h6) (H9 := h8) (H10 := h9) (H11 := h10) (H12 := h22) (H13 := h23) (H14 := h24) (H15 := h25) (E1 := F1) (K1 := (s_inRange.c e.w 0 30).trans (by rw [h1])) (K2 := (s_inRange.c e.h 0 30).trans (by rw [h2])) (K3 := (s_inRange.c e.kind 0 2).trans (by rw [h3])) (K4 := (s_validPack.c e.pack).trans (by rw [h4])) (K5 := (s_validPlace.c e.place).trans (by rw [h7])) (K6 := (s_inRange.c e.parent 0 (w64 (i - 1))).trans (by rw [h26]))
                      | false =>
                        cases h28 : (i == 0) with
                        | true =>
                          exact s_validNode.w12 _ _ _ (H1 := G1) (H6 := h5) (H7 := h6) (H9 := h8) (H10 := h9) (H11 := h10) (H12 := h22) (H13 := h28) (E1 := F1) (K1 := (s_inRange.c e.w 0 30).trans (by rw [h1])) (K2 := (s_inRange.c e.h 0 30).trans (by rw [h2])) (K3 := (s_inRange.c e.kind 0 2).trans (by rw [h3])) (K4 := (s_validPack.c e.pack).trans (by rw [h4])) (K5 := (s_validPlace.c e.place).trans (by rw [h7]))
                        | false =>
                          cases h29 : (s_inRange.m e.parent 0 (w64 (i - 1))) with
                          | true =>
                            cases h30 : (e2.kind != 1) with
                            | true =>
                              exact s_validNode.w14 _ _ _ _ (H1 := G1) (H6 := h5) (H7 := h6) (H9 := h8) (H10 := h9) (H11 := h10) (H12 := h22) (H13 := h28) (H15 := (G2 h29)) (H16 := h30) (E1 := F1) (E2 := (F2 h29)) (K1 := (s_inRange.c e.w 0 30).trans (by rw [h1])) (K2 := (s_inRange.c e.h 0 30).trans (by rw [h2])) (K3 := (s_inRange.c e.kind 0 2).trans (by rw [h3])) (K4 := (s_validPack.c e.pack).trans (by rw [h4])) (K5 := (s_validPlace.c e.place).trans (by rw [h7])) (K6 := (s_inRange.c e.parent 0 (w64 (i - 1))).trans (by rw [h29]))
                            | false =>
                              exact s_validNode.w15 _ _ _ _ _ (H1 := G1) (H6 := h5) (H7 := h6) (H9 := h8) (H10 := h9) (H11 := h10) (H12 := h22) (H13 := h28) (H15 := (G2 h29)) (H16 := h30) (E1 := F1) (E2 := (F2 h29)) (K1 := (s_inRange.c e.w 0 30).trans (by rw [h1])) (K2 := (s_inRange.c e.h 0 30).trans (by rw [h2])) (K3 := (s_inRange.c e.kind 0 2).trans (by rw [h3])) (K4 := (s_validPack.c e.pack).trans (by rw [h4])) (K5 := (s_validPlace.c e.place).trans (by rw [h7])) (K6 := (s_inRange.c e.parent 0 (w64 (i - 1))).trans (by rw [h29])) (K7 := (s_validCell.c e2.cols e2.rows ([]) e.cell))
                          | false =>
                            exact s_validNode.w13 _ _ _ (H1 := G1) (H6 := h5) (H7 := h6) (H9 := h8) (H10 := h9) (H11 := h10) (H12 := h22) (H13 := h28) (E1 := F1) (K1 := (s_inRange.c e.w 0 30).trans (by rw [h1])) (K2 := (s_inRange.c e.h 0 30).trans (by rw [h2])) (K3 := (s_inRange.c e.kind 0 2).trans (by rw [h3])) (K4 := (s_validPack.c e.pack).trans (by rw [h4])) (K5 := (s_validPlace.c e.place).trans (by rw [h7])) (K6 := (s_inRange.c e.parent 0 (w64 (i - 1))).trans (by rw [h29]))
              | false =>
                exact s_validNode.w7 _ _ _ (H1 := G1) (H6 := h5) (H7 := h6) (E1 := F1) (K1 := (s_inRange.c e.w 0 30).trans (by rw [h1])) (K2 := (s_inRange.c e.h 0 30).trans (by rw [h2])) (K3 := (s_inRange.c e.kind 0 2).trans (by rw [h3])) (K4 := (s_validPack.c e.pack).trans (by rw [h4])) (K5 := (s_validPlace.c e.place).trans (by rw [h7]))
        | false =>
          exact s_validNode.w4 _ _ _ (H1 := G1) (E1 := F1) (K1 := (s_inRange.c e.w 0 30).trans (by rw [h1])) (K2 := (s_inRange.c e.h 0 30).trans (by rw [h2])) (K3 := (s_inRange.c e.kind 0 2).trans (by rw [h3])) (K4 := (s_validPack.c e.pack).trans (by rw [h4]))
      | false =>
        exact s_validNode.w3 _ _ _ (H1 := G1) (E1 := F1) (K1 := (s_inRange.c e.w 0 30).trans (by rw [h1])) (K2 := (s_inRange.c e.h 0 30).trans (by rw [h2])) (K3 := (s_inRange.c e.kind 0 2).trans (by rw [h3]))
    | false =>
      exact s_validNode.w2 _ _ _ (H1 := G1) (E1 := F1) (K1 := (s_inRange.c e.w 0 30).trans (by rw [h1])) (K2 := (s_inRange.c e.h 0 30).trans (by rw [h2]))
  | false =>
    exact s_validNode.w1 _ _ _ (H1 := G1) (E1 := F1) (K1 := (s_inRange.c e.w 0 30).trans (by rw [h1]))
end Go.Proofs.Ytdgamfanffnhaaa.PI
namespace Go.Proofs.Ytdgamfanffnhaaa.PI
open Go
theorem uni_map {α : Type} {sz : Nat} {f : α → List C} (h : ∀ x, (f x).length = sz) (l : List α) : uni sz (l.map f) = true := by
  unfold uni; rw [List.all_eq_true]; intro el hel
  obtain ⟨x, _, rfl⟩ := List.mem_map.1 hel
  simp [h]
theorem scal_line (l : List Line) : ((l.map encLine).all (·.all C.scalar)) = true := by
  rw [List.all_eq_true]; intro el hel
  obtain ⟨x, _, rfl⟩ := List.mem_map.1 hel
  rfl
theorem map_succ {α β : Type} {l : List α} {f : α → β} {j : Nat} (h : j < l.length) : (l.take j).map f ++ [f l[j]] = (l.take (j + 1)).map f := by
  rw [List.take_add_one, List.getElem?_eq_getElem h, List.map_append]; rfl
theorem range_eq (n l h : Int) : s_inRange.m n l h = i_within.m n l h := rfl
theorem within_iff {n l h : Int} : i_within.m n l h = true ↔ l ≤ n ∧ n ≤ h := by
  unfold i_within.m
  cases hh : decide (n ≥ l) <;> simp_all; omega
theorem bif_and (a b : Bool) : (bif a then b else false) = (a && b) := by cases a <;> rfl
theorem bif_nand (a b : Bool) : (bif a then false else b) = (!a && b) := by cases a <;> rfl
theorem x_Clone_Line.c (s : List Line) (hs : Sm s) : PC x_Clone_Line [.one (.rsl (s.map encLine))] (.one (.sl (s.map encLine)), []) := by
  unfold Sm at hs
  cases s with
  | nil =>
    refine lift_both (by rfl) (fun b => ?_) (fun n => ?_)
    · cases b
      · exact (by kernel_rfl : pfun funcs own (pcW funcs own) lpW x_Clone_Line [.one (.em false)] = some (.one (.sl []), []))
      · exact (by kernel_rfl : pfun funcs own (pcW funcs own) lpW x_Clone_Line [.one (.em true)] = some (.one (.sl []), []))
    · exact (by kernel_rfl : pfun funcs own (pcN funcs own n) (lpN (n + 1)) x_Clone_Line [.one (.rsl [])] = none)
  | cons a s => exact lift (x_Clone_Line.w1 (a :: s) (by simp) (scal_line _) (uni_map (f := encLine) (fun _ => rfl) _) (by simpa using hs))
def askT (nodes : List Node) (i : Nat) (w h : Int) : List Node := nodes.set i { (nodes[i]?).getD default with w := w, h := h }
def NsOk (nodes : List Node) : Prop := nodes.length < 488671834567 ∧ ∀ n ∈ nodes, Sm n.cols ∧ Sm n.rows
theorem NsOk.at {nodes : List Node} (h : NsOk nodes) {j : Nat} (hj : j < nodes.length) : Sm nodes[j].cols ∧ Sm nodes[j].rows := h.2 _ (List.getElem_mem hj)
theorem set_map {nodes : List Node} {i : Nat} (hi : i < nodes.length) (w h : Int) (e : Node) (he : nodes[i]? = some e) :
    (nodes.map encNode).set i (cellsNode e.parent w h e.keep e.kind (.sl (e.cols.map encLine)) (.sl (e.rows.map encLine)) e.pack e.cell e.place) = (askT nodes i w h).map encNode := by
  unfold askT
  rw [he, List.map_set]; rfl
theorem i_Tree_asked.c (nodes : List Node) (i : Nat) (w h : Int) (ho : NsOk nodes) (hi : i < nodes.length) : PC i_Tree_asked [.agg [.rsl (nodes.map encNode)], vI i, vI w, vI h] (.agg [.sl ((askT nodes i w h).map encNode)], []) := by
  have hn := ho.1
  refine lift ?_
  have := loop_exit (step := i_Tree_asked.r0 CC lpW) (S := fun j => i_Tree_asked.s0 i w h (nodes.map encNode) ((nodes.map encNode).length : Nat) (j : Nat) (nodes.map encNode) ((nodes.take j).map encNode).length ((nodes.take j).map encNode)) nodes.length (fun j hj => by
    have := i_Tree_asked.l0_1 (call := CC) (lp := lpW) i w h (nodes.map encNode) ((nodes.map encNode).length : Nat) (j : Nat) (nodes.map encNode) ((nodes.take j).map encNode).length ((nodes.take j).map encNode) nodes[j] _ _ (by simpa using hj) (by simp) (by simp) (uni_map (f := encNode) (fun _ => rfl) _) (by simp; omega) (at_map hj) (x_Clone_Line.c _ (ho.at hj).1) (x_Clone_Line.c _ (ho.at hj).2)
    rw [this, w64_succ (by omega)]
    have e := map_succ (f := encNode) hj
    unfold encNode at e ⊢
    rw [e]) (i_Tree_asked.l0_2 _ _ _ _ _ _ _ _ _ (by simp))
  have hw := i_Tree_asked.w1 (call := CC) (lp := lpW) nodes i w h i w h nodes.length (nodes.map encNode) nodes[i] (by simp) (by simp) (by simpa using hi) (by simp) (at_map hi) (by simpa using this)
  rw [hw, Int.toNat_natCast, set_map hi w h _ (List.getElem?_eq_getElem hi)]
theorem s_resized.c (nodes : List Node) (i : Nat) (w h : Int) (ho : NsOk nodes) (hi : i < nodes.length) : PC s_resized [.agg [.rsl (nodes.map encNode)], vI i, vI w, vI h] (.agg [.sl ((askT nodes i w h).map encNode)], []) := by
  have hn := ho.1
  refine lift ?_
  have := loop_exit (step := s_resized.r0 CC lpW) (S := fun j => s_resized.s0 i w h (j : Nat) (nodes.map encNode) ((nodes.take j).map encNode).length ((nodes.take j).map encNode)) nodes.length (fun j hj => by
    have := s_resized.l0_1 (call := CC) (lp := lpW) i w h (j : Nat) (nodes.map encNode) ((nodes.take j).map encNode).length ((nodes.take j).map encNode) nodes[j] (by simpa using hj) (by simp) (scal_line _) (uni_map (f := encLine) (fun _ => rfl) _) (by have := (ho.at hj).1; unfold Sm at this; simpa using this) (scal_line _) (uni_map (f := encLine) (fun _ => rfl) _) (by have := (ho.at hj).2; unfold Sm at this; simpa using this) (by simp) (uni_map (f := encNode) (fun _ => rfl) _) (by simp; omega) (at_map hj)
    rw [this, w64_succ (by omega)]
    have e := map_succ (f := encNode) hj
    unfold encNode at e ⊢
    simp only [List.nil_append]
    rw [e]) (s_resized.l0_2 _ _ _ _ _ _ _ (by simp))
  have hw := s_resized.w1 (call := CC) (lp := lpW) nodes i w h i w h nodes.length (nodes.map encNode) nodes[i] (by simp) (by simp) (by simpa using hi) (by simp) (at_map hi) (by simpa using this)
  rw [hw, Int.toNat_natCast, set_map hi w h _ (List.getElem?_eq_getElem hi)]
theorem pack_eq (p : Pack) : s_validPack.m p = i_ValidPack.m p := rfl
theorem place_eq (p : Place) : s_validPlace.m p = i_ValidPlace.m p := by
  unfold s_validPlace.m i_ValidPlace.m s_validAnchor.m
  simp only [range_eq, bif_and, List.all_cons, List.all_nil, Bool.and_true]
  ac_rfl
theorem line_eq (l : Line) : i_linesOk_1.m l = !s_validLine.m l := by
  unfold i_linesOk_1.m s_validLine.m
  simp only [range_eq]
  cases i_within.m l.weight 0 5 <;> rfl
theorem lines_eq (l : List Line) : s_validLines.m l = i_linesOk.m l := by
  unfold s_validLines.m i_linesOk.m
  have : (!l.any i_linesOk_1.m) = l.all s_validLine.m := by
    induction l with
    | nil => rfl
    | cons a l ih => rw [List.any_cons, List.all_cons, Bool.not_or, ih, line_eq, Bool.not_not]
  rw [this, range_eq]
  simp only [bif_and]
  exact Bool.and_comm _ _
theorem cell_eq (cols rows : List Line) (c : Cell) (hw : c.w = 0) (hh : c.h = 0) : s_validCell.m cols rows [] c = i_Cell_lies.m c cols rows [] := by
  unfold s_validCell.m i_Cell_lies.m i_spanOk.m
  simp only [range_eq, bif_and, hw, hh]
  have : i_within.m 0 0 30 = true := rfl
  rw [this]
  simp only [Bool.true_and]
  ac_rfl
def upOk (i : Nat) (e up : Node) : Bool := bif i == 0 then e.parent == -1 else (bif i_within.m e.parent 0 (i - 1) then (bif up.kind == 1 then i_Cell_lies.m e.cell up.cols up.rows [] else true) else false)
def upOf (nodes : List Node) (e : Node) : Node := (nodes[e.parent.toNat]?).getD default
def vNodeAt (nodes : List Node) (i : Nat) (e : Node) : Bool := i_Node_ok.m e && upOk i e (upOf nodes e)
theorem node_cell {e : Node} (h : i_Node_ok.m e = true) : e.cell.w = 0 ∧ e.cell.h = 0 := by
  unfold i_Node_ok.m at h
  simp only [bif_and, bif_nand, Bool.and_eq_true, Bool.not_eq_true', bne_eq_false_iff_eq] at h
  exact ⟨h.2.2.2.2.2.2.2.1, h.2.2.2.2.2.2.2.2.1⟩
theorem len_pos (n : Nat) : decide ((n : Int) > 0) = !((n : Int) == 0) := by
  cases n with
  | zero => rfl
  | succ n =>
    have h1 : (((n + 1 : Nat) : Int) == 0) = false := by rw [beq_eq_false_iff_ne]; omega
    have h2 : decide (((n + 1 : Nat) : Int) > 0) = true := by rw [decide_eq_true_eq]; omega
    rw [h1, h2]; rfl
theorem vNode_eq (nodes : List Node) (i : Nat) (e : Node) (hi : i ≤ 1000000000000) : s_validNode.m nodes i e (upOf nodes e) = vNodeAt nodes i e := by
  have tail : ∀ {b : Bool}, i_Node_ok.m e = true → (bif ((i : Int) == 0) then (e.parent == (-1)) else (bif (s_inRange.m e.parent 0 (w64 ((i : Int) - 1))) then (bif ((upOf nodes e).kind != 1) then true else (s_validCell.m (upOf nodes e).cols (upOf nodes e).rows [] e.cell)) else false)) = upOk i e (upOf nodes e) := by
    intro _ hN
    obtain ⟨hw, hh⟩ := node_cell hN
    unfold upOk
    rw [cell_eq _ _ _ hw hh, range_eq, w64_id (by omega) (by omega)]
    have h0 : ((i : Int) == 0) = (i == 0) := by
      cases i with
      | zero => rfl
      | succ n => rw [show ((n + 1 : Nat) == 0) = false from rfl, beq_eq_false_iff_ne]; omega
    rw [h0]
    cases i == 0 with
    | true => rfl
    | false =>
      cases i_within.m e.parent 0 ((i : Int) - 1) with
      | false => rfl
      | true => simp only [cond_true, cond_false, bne]; cases (upOf nodes e).kind == 1 <;> rfl
  cases hN : i_Node_ok.m e with
  | true =>
    unfold vNodeAt
    rw [hN, Bool.true_and, ← tail (b := true) hN]
    unfold s_validNode.m
    unfold i_Node_ok.m at hN
    simp only [bif_and, bif_nand, Bool.and_eq_true, Bool.not_eq_true', bne_eq_false_iff_eq] at hN
    obtain ⟨h1, h2, h3, h4, h5, h6, h7, h8, h9, h10⟩ := hN
    rw [range_eq, h1, range_eq, h2, range_eq, h3, pack_eq, h4, place_eq, h7, lines_eq, lines_eq]
    simp only [h5, h6, h8, h9, bne_self_eq_false, cond_true, cond_false, bne]
    cases hk : e.kind == 1 with
    | true =>
      rw [hk] at h10
      simp only [cond_true, Bool.and_eq_true] at h10
      simp only [h10.1, h10.2, cond_true, Bool.not_true, cond_false]
      rfl
    | false =>
      rw [hk] at h10
      simp only [cond_false, Bool.and_eq_true] at h10
      simp only [len_pos, h10.1, h10.2, cond_true, cond_false, Bool.not_true, Bool.not_false]
      rfl
  | false =>
    unfold vNodeAt
    rw [hN, Bool.false_and]
    unfold s_validNode.m
    unfold i_Node_ok.m at hN
    simp only [range_eq, pack_eq, place_eq, lines_eq] at hN ⊢
    cases h1 : i_within.m e.w 0 30 with
    | false => rfl
    | true =>
    cases h2 : i_within.m e.h 0 30 with
    | false => rfl
    | true =>
    cases h3 : i_within.m e.kind 0 2 with
    | false => rfl
    | true =>
    cases h4 : i_ValidPack.m e.pack with
    | false => rfl
    | true =>
    cases h5 : e.pack.w != 0 with
    | true => rfl
    | false =>
    cases h6 : e.pack.h != 0 with
    | true => rfl
    | false =>
    cases h7 : i_ValidPlace.m e.place with
    | false => rfl
    | true =>
    cases h8 : e.cell.w != 0 with
    | true => rfl
    | false =>
    cases h9 : e.cell.h != 0 with
    | true => rfl
    | false =>
    rw [h1, h2, h3, h4, h5, h6, h7, h8, h9] at hN
    simp only [cond_true, cond_false, bne, len_pos] at hN ⊢
    cases hk : e.kind == 1 with
    | true =>
      rw [hk] at hN
      simp only [cond_true, bif_and, Bool.not_true, cond_false] at hN ⊢
      cases h10 : i_linesOk.m e.cols with
      | false => rfl
      | true =>
        rw [h10, Bool.true_and] at hN
        rw [hN]; rfl
    | false =>
      rw [hk] at hN
      simp only [cond_false, bif_and, Bool.not_false, cond_true] at hN ⊢
      cases h10 : (((e.cols.map encLine).length : Nat) : Int) == 0 with
      | false => rfl
      | true =>
        rw [h10, Bool.true_and] at hN
        rw [hN]; rfl
def vTree (nodes : List Node) : Bool := nodes.zipIdx.all (fun x => vNodeAt nodes x.2 x.1) && i_within.m nodes.length 1 10
theorem vAll {nodes : List Node} : (∀ j, j < nodes.length → ((nodes[j]?).map (vNodeAt nodes j)).getD true = true) ↔ nodes.zipIdx.all (fun x => vNodeAt nodes x.2 x.1) = true := by
  rw [List.all_eq_true]
  constructor
  · rintro h ⟨x, i⟩ hx
    rw [List.mem_zipIdx_iff_getElem?] at hx
    have hi := (List.getElem?_eq_some_iff.1 hx).1
    have := h i hi
    rw [hx] at this; simpa using this
  · intro h j hj
    rw [List.getElem?_eq_getElem hj]
    exact h (nodes[j], j) (List.mem_zipIdx_iff_getElem?.2 (List.getElem?_eq_getElem hj))
theorem up_at {nodes : List Node} {e : Node} {j : Nat} (hj : j ≤ nodes.length) (h : i_within.m e.parent 0 ((j : Int) - 1) = true) : 0 ≤ e.parent ∧ (nodes.map encNode)[e.parent.toNat]? = some (encNode (upOf nodes e)) := by
  rw [within_iff] at h
  have hl : e.parent.toNat < nodes.length := by omega
  refine ⟨h.1, ?_⟩
  unfold upOf
  rw [List.getElem?_map, List.getElem?_eq_getElem hl]; rfl
def s_validTree.m (nodes : List Node) : Bool := vTree nodes
def i_ValidTree.m (nodes : List Node) : Bool := vTree nodes
theorem s_validTree.c (nodes : List Node) (ho : NsOk nodes) : PC s_validTree [.agg [.rsl (nodes.map encNode)]] (vB (s_validTree.m nodes), []) := by
  have hn := ho.1
  refine lift ?_
  unfold s_validTree.m vTree
  have node : ∀ j (hj : j < nodes.length), PC s_validNode [.agg [.rsl (nodes.map encNode)], vI (j : Nat)] (vB (vNodeAt nodes j nodes[j]), []) := by
    intro j hj
    rw [← vNode_eq nodes j _ (by omega)]
    have hw : w64 ((j : Int) - 1) = (j : Int) - 1 := w64_id (by omega) (by omega)
    exact s_validNode.c nodes j nodes[j] (upOf nodes nodes[j]) (by simp) (fun h => by rw [range_eq, hw] at h; simpa using (up_at (nodes := nodes) (by omega) h).1) (at_map hj) (fun h => by rw [range_eq, hw] at h; exact (up_at (by omega) h).2) (ho.at hj).1 (ho.at hj).2
  have := loop_find (step := s_validTree.r0 CC lpW) (S := fun j => s_validTree.s0 (j : Nat) (nodes.map encNode)) (eb := fun _ => s_validTree.e0_0 (nodes.map encNode)) nodes.length (fun j => ((nodes[j]?).map (vNodeAt nodes j)).getD true) (fun j hj hp => by
    rw [List.getElem?_eq_getElem hj] at hp
    have := s_validTree.l0_3 (call := CC) (lp := lpW) (j : Nat) (nodes.map encNode) (by simpa using hj) ((node j hj).trans (by simpa using hp))
    rw [this, w64_succ (by omega)]) (fun j hj hp => by
    rw [List.getElem?_eq_getElem hj] at hp
    exact s_validTree.l0_1 (call := CC) (lp := lpW) (j : Nat) (nodes.map encNode) (by simpa using hj) ((node j hj).trans (by simpa using hp))) (s_validTree.l0_2 _ _ (by simp))
  rcases this with ⟨h, hl⟩ | ⟨i, hi, hp, _, hl⟩
  · rw [vAll.1 h, Bool.true_and]
    refine s_validTree.w2 nodes _ _ ?_ hl
    have := s_inRange.c ((nodes.map encNode).length : Nat) 1 10
    simpa [range_eq] using this
  · have : nodes.zipIdx.all (fun x => vNodeAt nodes x.2 x.1) = false := by
      cases h : nodes.zipIdx.all (fun x => vNodeAt nodes x.2 x.1) with
      | false => rfl
      | true => rw [vAll.2 h i hi] at hp; cases hp
    rw [this, Bool.false_and]
    exact s_validTree.w1 nodes _ hl
theorem i_ValidTree.c (nodes : List Node) (ho : NsOk nodes) : PC i_ValidTree [.agg [.rsl (nodes.map encNode)]] (vB (i_ValidTree.m nodes), []) := by
  have hn := ho.1
  refine lift ?_
  unfold i_ValidTree.m vTree
  have k0 := i_within.c ((nodes.map encNode).length : Nat) 1 10
  cases hw : i_within.m (nodes.length : Int) 1 10 with
  | false =>
    rw [Bool.and_false]
    exact i_ValidTree.w1 nodes (k0.trans (by rw [List.length_map, hw]))
  | true =>
    rw [Bool.and_true]
    have k0 := k0.trans (by rw [List.length_map, hw])
    have := loop_find (step := i_ValidTree.r0 CC lpW) (S := fun j => i_ValidTree.s0 (nodes.map encNode) ((nodes.map encNode).length : Nat) (j : Nat) (nodes.map encNode)) (eb := fun _ => i_ValidTree.e0_0) nodes.length (fun j => ((nodes[j]?).map (vNodeAt nodes j)).getD true) (fun j hj hp => by
      rw [List.getElem?_eq_getElem hj] at hp
      have hp : vNodeAt nodes j nodes[j] = true := by simpa using hp
      have hsucc := w64_succ (j := j) (by omega)
      unfold vNodeAt at hp
      simp only [Bool.and_eq_true] at hp
      obtain ⟨hN, hU⟩ := hp
      have kN := (i_Node_ok.c nodes[j] (ho.at hj).1 (ho.at hj).2).trans (by rw [hN])
      unfold upOk at hU
      cases j with
      | zero =>
        have hU : (nodes[0].parent == -1) = true := hU
        have := i_ValidTree.l0_12 (call := CC) (lp := lpW) (nodes.map encNode) ((nodes.map encNode).length : Nat) (0 : Nat) (nodes.map encNode) nodes[0] (by simpa using hj) (by simp) (by simp) (by simpa [bne] using hU) (by simp) (at_map hj) kN
        rw [this, hsucc]
      | succ j =>
        simp only [Nat.add_eq_zero_iff, Nat.succ_ne_self, and_false, beq_iff_eq, show (j + 1 == 0) = false from rfl, cond_false] at hU
        cases hW : i_within.m nodes[j + 1].parent 0 (((j + 1 : Nat) : Int) - 1) with
        | false => rw [hW] at hU; cases hU
        | true =>
          rw [hW] at hU
          simp only [cond_true] at hU
          have hup := up_at (nodes := nodes) (by omega) hW
          have kW := (i_within.c nodes[j + 1].parent 0 (w64 (((j + 1 : Nat) : Int) - 1))).trans (by rw [w64_id (by omega) (by omega), hW])
          cases hk : (upOf nodes nodes[j + 1]).kind == 1 with
          | true =>
            rw [hk] at hU
            have hL : i_Cell_lies.m nodes[j + 1].cell (upOf nodes nodes[j + 1]).cols (upOf nodes nodes[j + 1]).rows [] = true := hU
            have := i_ValidTree.l0_9 (call := CC) (lp := lpW) (nodes.map encNode) ((nodes.map encNode).length : Nat) (j + 1 : Nat) (nodes.map encNode) nodes[j + 1] (upOf nodes nodes[j + 1]) (by rw [decide_eq_true_eq, List.length_map]; omega) (by rw [decide_eq_true_eq]; omega) (by rw [beq_eq_false_iff_ne]; omega) (by rw [decide_eq_true_eq]; omega) (by simpa using hup.1) hk (at_map hj) hup.2 kW kN ((i_Cell_lies.c _ _ _ []).trans (by rw [hL]))
            rw [this, hsucc]
          | false =>
            have := i_ValidTree.l0_8 (call := CC) (lp := lpW) (nodes.map encNode) ((nodes.map encNode).length : Nat) (j + 1 : Nat) (nodes.map encNode) nodes[j + 1] (upOf nodes nodes[j + 1]) (by rw [decide_eq_true_eq, List.length_map]; omega) (by rw [decide_eq_true_eq]; omega) (by rw [beq_eq_false_iff_ne]; omega) (by rw [decide_eq_true_eq]; omega) (by simpa using hup.1) hk (at_map hj) hup.2 kW kN
            rw [this, hsucc]) (fun j hj hp => by
      rw [List.getElem?_eq_getElem hj] at hp
      have hp : vNodeAt nodes j nodes[j] = false := by simpa using hp
      unfold vNodeAt at hp
      have kN := i_Node_ok.c nodes[j] (ho.at hj).1 (ho.at hj).2
      cases j with
      | zero =>
        cases hq : nodes[0].parent == -1 with
        | false => exact i_ValidTree.l0_1 (call := CC) (lp := lpW) (nodes.map encNode) ((nodes.map encNode).length : Nat) (0 : Nat) (nodes.map encNode) nodes[0] (by simpa using hj) (by simp) (by simp) (by simp [bne, hq]) (at_map hj)
        | true =>
          have hU : upOk 0 nodes[0] (upOf nodes nodes[0]) = true := by unfold upOk; simpa using hq
          rw [hU, Bool.and_true] at hp
          exact i_ValidTree.l0_11 (call := CC) (lp := lpW) (nodes.map encNode) ((nodes.map encNode).length : Nat) (0 : Nat) (nodes.map encNode) nodes[0] (by simpa using hj) (by simp) (by simp) (by simp [bne, hq]) (by simp) (at_map hj) (kN.trans (by rw [hp]))
      | succ j =>
        have kW := i_within.c nodes[j + 1].parent 0 (w64 (((j + 1 : Nat) : Int) - 1))
        rw [w64_id (by omega) (by omega)] at kW
        have e0 : (((j + 1 : Nat) : Int) == 0) = false := by rw [beq_eq_false_iff_ne]; omega
        cases hW : i_within.m nodes[j + 1].parent 0 (((j + 1 : Nat) : Int) - 1) with
        | false =>
          exact i_ValidTree.l0_3 (call := CC) (lp := lpW) (nodes.map encNode) ((nodes.map encNode).length : Nat) (j + 1 : Nat) (nodes.map encNode) nodes[j + 1] (by rw [decide_eq_true_eq, List.length_map]; omega) (by rw [decide_eq_true_eq]; omega) e0 (by rw [decide_eq_true_eq]; omega) (at_map hj) (by rw [w64_id (by omega) (by omega)]; exact kW.trans (by rw [hW]))
        | true =>
          have hup := up_at (nodes := nodes) (by omega) hW
          have kW := kW.trans (by rw [hW])
          cases hN : i_Node_ok.m nodes[j + 1] with
          | false =>
            exact i_ValidTree.l0_6 (call := CC) (lp := lpW) (nodes.map encNode) ((nodes.map encNode).length : Nat) (j + 1 : Nat) (nodes.map encNode) nodes[j + 1] (by rw [decide_eq_true_eq, List.length_map]; omega) (by rw [decide_eq_true_eq]; omega) e0 (by rw [decide_eq_true_eq]; omega) (at_map hj) (by rw [w64_id (by omega) (by omega)]; exact kW) (kN.trans (by rw [hN]))
          | true =>
            rw [hN, Bool.true_and] at hp
            unfold upOk at hp
            rw [show (j + 1 == 0) = false from rfl, hW] at hp
            simp only [cond_false, cond_true] at hp
            cases hk : (upOf nodes nodes[j + 1]).kind == 1 with
            | false => rw [hk] at hp; cases hp
            | true =>
              rw [hk] at hp
              exact i_ValidTree.l0_7 (call := CC) (lp := lpW) (nodes.map encNode) ((nodes.map encNode).length : Nat) (j + 1 : Nat) (nodes.map encNode) nodes[j + 1] (upOf nodes nodes[j + 1]) (by rw [decide_eq_true_eq, List.length_map]; omega) (by rw [decide_eq_true_eq]; omega) e0 (by rw [decide_eq_true_eq]; omega) (by simpa using hup.1) hk (at_map hj) hup.2 (by rw [w64_id (by omega) (by omega)]; exact kW) (kN.trans (by rw [hN])) ((i_Cell_lies.c _ _ _ []).trans (by simp only [cond_true] at hp; rw [hp]))) (i_ValidTree.l0_2 _ _ _ _ (by simp))
    rcases this with ⟨h, hl⟩ | ⟨i, hi, hp, _, hl⟩
    · rw [vAll.1 h]
      exact i_ValidTree.w3 nodes k0 hl
    · have : nodes.zipIdx.all (fun x => vNodeAt nodes x.2 x.1) = false := by
        cases h : nodes.zipIdx.all (fun x => vNodeAt nodes x.2 x.1) with
        | false => rfl
        | true => rw [vAll.2 h i hi] at hp; cases hp
      rw [this]
      exact i_ValidTree.w2 nodes k0 hl
end Go.Proofs.Ytdgamfanffnhaaa.PI
namespace Go.Proofs.Ytdgamfanffnhaaa.PI
open Go
set_option maxRecDepth 100000
set_option linter.unusedVariables false
def s_goodNode.m (nodes : List Node) (i : Int) : Bool := (bif (s_validTree.m nodes) then (s_inRange.m i 0 (w64 ((((nodes.map encNode).length : Nat) : Int) - 1))) else false)
theorem s_goodNode.c (nodes : List Node) (i : Int) (S1 : NsOk nodes) : PC s_goodNode [.agg [.rsl (nodes.map encNode)], vI i] (vB (s_goodNode.m nodes i), []) := by
  refine lift ?_
  unfold s_goodNode.m
  cases h1 : (s_validTree.m nodes) with
  | true =>
    exact s_goodNode.w1 _ _ _ (K1 := (s_validTree.c nodes S1).trans (by rw [h1])) (K2 := (s_inRange.c i 0 (w64 ((((nodes.map encNode).length : Nat) : Int) - 1))))
  | false =>
    exact s_goodNode.w2 _ _ (K1 := (s_validTree.c nodes S1).trans (by rw [h1]))
def s_goodWish.m (nodes : List Node) (i : Int) (w : Int) (h : Int) : Bool := (bif (s_goodNode.m nodes i) then (bif (s_inRange.m w 0 30) then (s_inRange.m h 0 30) else false) else false)
theorem s_goodWish.c (nodes : List Node) (i : Int) (w : Int) (h : Int) (S1 : NsOk nodes) : PC s_goodWish [.agg [.rsl (nodes.map encNode)], vI i, vI w, vI h] (vB (s_goodWish.m nodes i w h), []) := by
  refine lift ?_
  unfold s_goodWish.m
  cases h1 : (s_goodNode.m nodes i) with
  | true =>
    cases h2 : (s_inRange.m w 0 30) with
    | true =>
      exact s_goodWish.w1 _ _ _ _ _ (K1 := (s_goodNode.c nodes i S1).trans (by rw [h1])) (K2 := (s_inRange.c w 0 30).trans (by rw [h2])) (K3 := (s_inRange.c h 0 30))
    | false =>
      exact s_goodWish.w3 _ _ _ _ (K1 := (s_goodNode.c nodes i S1).trans (by rw [h1])) (K2 := (s_inRange.c w 0 30).trans (by rw [h2]))
  | false =>
    exact s_goodWish.w2 _ _ _ _ (K1 := (s_goodNode.c nodes i S1).trans (by rw [h1]))
end Go.Proofs.Ytdgamfanffnhaaa.PI
namespace Go.Proofs.Ytdgamfanffnhaaa.PI
open Go
set_option maxRecDepth 100000
theorem szLine_eq (a : List Line) {left : Int} (h1 : 0 ≤ left) (h2 : left ≤ 1048576) (hl : a.length ≤ 9223372036854775807) : l_szLineS.m a left = if left < a.length then -1 else left - a.length := by
  unfold l_szLineS.m
  rw [List.length_map, w64_id (by omega) (by omega)]
  by_cases h : left < a.length
  · have : decide (left - (a.length : Int) < 0) = true := by rw [decide_eq_true_eq]; omega
    rw [this, if_pos h]; rfl
  · have : decide (left - (a.length : Int) < 0) = false := by rw [decide_eq_false_iff_not]; omega
    rw [this, if_neg h]; rfl
def nsz (n : Node) : Nat := n.cols.length + n.rows.length
def Win (nodes : List Node) : Prop := nodes.length ≤ 9223372036854775807 ∧ ∀ n ∈ nodes, n.cols.length ≤ 9223372036854775807 ∧ n.rows.length ≤ 9223372036854775807
theorem szNode_eq (e : Node) {left : Int} (h1 : 0 ≤ left) (h2 : left ≤ 1048576) (hc : e.cols.length ≤ 9223372036854775807) (hr : e.rows.length ≤ 9223372036854775807) :
    (left < nsz e ∧ l_szNode.m e.parent e.w e.h e.keep e.kind e.cols e.rows e.pack e.cell e.place left = -1) ∨ ((nsz e : Int) ≤ left ∧ l_szNode.m e.parent e.w e.h e.keep e.kind e.cols e.rows e.pack e.cell e.place left = left - nsz e) := by
  unfold l_szNode.m nsz
  rw [szLine_eq e.cols h1 h2 hc]
  by_cases h : left < e.cols.length
  · simp only [if_pos h]
    left; exact ⟨by omega, rfl⟩
  · simp only [if_neg h]
    have : decide (left - (e.cols.length : Int) < 0) = false := by rw [decide_eq_false_iff_not]; omega
    rw [this, cond_false, szLine_eq e.rows (by omega) (by omega) hr]
    by_cases h' : left - e.cols.length < e.rows.length
    · simp only [if_pos h']
      left; exact ⟨by omega, rfl⟩
    · simp only [if_neg h']
      have : decide (left - (e.cols.length : Int) - (e.rows.length : Int) < 0) = false := by rw [decide_eq_false_iff_not]; omega
      rw [this, cond_false]
      right; exact ⟨by omega, by omega⟩
theorem drop_sum {α : Type} {l : List α} {f : α → Nat} {j : Nat} (hj : j < l.length) : ((l.drop j).map f).sum = f l[j] + ((l.drop (j + 1)).map f).sum := by
  rw [List.drop_eq_getElem_cons hj, List.map_cons, List.sum_cons]
theorem szLoop {nodes : List Node} (hw : Win nodes) (hn : nodes.length ≤ 1048576) : ∀ (m j : Nat) (left : Int), j + m = nodes.length → 0 ≤ left → left ≤ 1048576 →
    (∃ x, lpW (l_szNodeS.r0 CC lpW) (l_szNodeS.s0 (nodes.map encNode) left (j : Nat)) = some (.ret, l_szNodeS.e0_0 x)) ∨
    ∃ l', 0 ≤ l' ∧ lpW (l_szNodeS.r0 CC lpW) (l_szNodeS.s0 (nodes.map encNode) left (j : Nat)) = some (.exit 0, l_szNodeS.e0_1 l') ∧ ((((nodes.drop j).map nsz).sum : Nat) : Int) + l' = left
  | 0, j, left, hj, h1, h2 => by
    right
    refine ⟨left, h1, lp_exit (l_szNodeS.l0_2 _ _ _ (by rw [decide_eq_false_iff_not, List.length_map]; omega)), ?_⟩
    rw [List.drop_eq_nil_of_le (by omega)]; simp
  | m + 1, j, left, hj, h1, h2 => by
    have hlt : j < nodes.length := by omega
    obtain ⟨hc, hr⟩ := hw.2 _ (List.getElem_mem hlt)
    have k := l_szNode.c nodes[j].parent nodes[j].w nodes[j].h nodes[j].keep nodes[j].kind nodes[j].cols nodes[j].rows nodes[j].pack nodes[j].cell nodes[j].place left
    rcases szNode_eq nodes[j] h1 h2 hc hr with ⟨_, e⟩ | ⟨hle, e⟩
    · left
      exact ⟨_, lp_ret (l_szNodeS.l0_1 _ _ _ nodes[j] (-1) (by rw [decide_eq_true_eq, List.length_map]; omega) (by simp) (by decide) (at_map hlt) (k.trans (by rw [e])))⟩
    · have step := l_szNodeS.l0_3 (call := CC) (lp := lpW) (nodes.map encNode) left (j : Nat) nodes[j] (left - nsz nodes[j]) (by rw [decide_eq_true_eq, List.length_map]; omega) (by simp) (by rw [decide_eq_false_iff_not]; omega) (at_map hlt) (k.trans (by rw [e]))
      rw [w64_succ (by omega)] at step
      rcases szLoop hw hn m (j + 1) (left - nsz nodes[j]) (by omega) (by omega) (by omega) with ⟨x, hx⟩ | ⟨l', h0, hx, hs⟩
      · exact .inl ⟨x, lp_again step hx⟩
      · exact .inr ⟨l', h0, lp_again step hx, by rw [drop_sum hlt]; omega⟩
def tsz (nodes : List Node) : Nat := nodes.length + (nodes.map nsz).sum
theorem szTree_spec {nodes : List Node} (hw : Win nodes) : ∃ r, PC l_szTree [.agg [.rsl (nodes.map encNode)], vI 1048576] (vI r, []) ∧ (r < 0 ∨ tsz nodes ≤ 1048576) := by
  have hn := hw.1
  have hs : ∃ r, PC l_szNodeS [.one (.rsl (nodes.map encNode)), vI 1048576] (vI r, []) ∧ (r < 0 ∨ (0 ≤ r ∧ tsz nodes ≤ 1048576)) := by
    have e : w64 (1048576 - (((nodes.map encNode).length : Nat) : Int)) = 1048576 - nodes.length := by rw [List.length_map, w64_id (by omega) (by omega)]
    by_cases h : (1048576 : Int) - nodes.length < 0
    · exact ⟨-1, lift (l_szNodeS.w1 nodes _ (by rw [e, decide_eq_true_eq]; exact h)), .inl (by omega)⟩
    · rcases szLoop hw (by omega) nodes.length 0 (1048576 - nodes.length) (by omega) (by omega) (by omega) with ⟨x, hx⟩ | ⟨l', h0, hx, hsum⟩
      · exact ⟨-1, lift (l_szNodeS.w2 nodes _ x (by rw [e, decide_eq_false_iff_not]; exact h) (by rw [e]; exact hx)), .inl (by omega)⟩
      · refine ⟨l', lift (l_szNodeS.w3 nodes _ l' (by rw [e, decide_eq_false_iff_not]; exact h) (by rw [e]; exact hx)), .inr ⟨h0, ?_⟩⟩
        unfold tsz
        rw [List.drop_zero] at hsum
        omega
  obtain ⟨r, hr, h⟩ := hs
  rcases h with h | ⟨h0, h⟩
  · exact ⟨-1, lift (l_szTree.w1 nodes _ r (by rw [decide_eq_true_eq]; exact h) hr), .inl (by omega)⟩
  · exact ⟨r, lift (l_szTree.w2 nodes _ r (by rw [decide_eq_false_iff_not]; omega) hr), .inr h⟩
theorem sum_mem {α : Type} {l : List α} {f : α → Nat} {x : α} (h : x ∈ l) : f x ≤ (l.map f).sum := by
  induction l with
  | nil => cases h
  | cons a l ih =>
    simp only [List.map_cons, List.sum_cons]
    rcases List.mem_cons.1 h with rfl | h
    · omega
    · have := ih h; omega
theorem tsz_ok {nodes : List Node} (h : tsz nodes ≤ 1048576) : NsOk nodes := by
  unfold tsz at h
  refine ⟨by omega, fun n hn => ?_⟩
  have := sum_mem (f := nsz) hn
  have e : nsz n = n.cols.length + n.rows.length := rfl
  unfold Sm
  omega
theorem set_take {α : Type} {X L : List α} (h : X.length = L.length) {j : Nat} (hj : j < X.length) : (X.take j ++ L.drop j).set j X[j] = X.take (j + 1) ++ L.drop (j + 1) := by
  have e : (X.take j).length = j := by rw [List.length_take]; omega
  rw [List.set_append_right _ _ (by omega), e, Nat.sub_self, List.drop_eq_getElem_cons (by omega : j < L.length), List.set_cons_zero, List.take_add_one, List.getElem?_eq_getElem hj, List.append_assoc]; rfl
theorem at_take {α : Type} {X L : List α} (h : X.length = L.length) {j : Nat} (hj : j < X.length) : (X.take j ++ L.drop j)[j]? = some (L[j]'(by omega)) := by
  have e : (X.take j).length = j := by rw [List.length_take]; omega
  rw [List.getElem?_append_right (by omega), e, Nat.sub_self, List.getElem?_drop]
  simp [List.getElem?_eq_getElem (show j < L.length by omega)]
theorem len_take {α : Type} {X L : List α} (h : X.length = L.length) {j : Nat} (hj : j ≤ X.length) : (X.take j ++ L.drop j).length = X.length := by
  simp; omega
theorem take_end {α : Type} {X L : List α} (h : X.length = L.length) {n : Nat} (hn : n = X.length) : X.take n ++ L.drop n = X := by
  subst hn
  rw [List.take_length, List.drop_eq_nil_of_le (by omega), List.append_nil]
theorem l_toLineS.c (a : List Line) (ha : Sm a) : PC l_toLineS [.one (.rsl (a.map encLine))] (.one (.sl (a.map encLine)), []) := by
  unfold Sm at ha
  have hlen : (a.map encLine).length = (List.replicate a.length zLine).length := by simp
  refine lift (l_toLineS.w1 a a.length (a.map encLine) (by simp) (by rw [decide_eq_true_eq, List.length_map]; omega) (by simp) ?_)
  have := loop_exit (step := l_toLineS.r0 CC lpW) (S := fun j => l_toLineS.s0 (a.map encLine) a.length (j : Nat) ((a.map encLine).take j ++ (List.replicate a.length zLine).drop j)) a.length (fun j hj => by
    have hj' : j < (a.map encLine).length := by simpa using hj
    have hz : ((a.map encLine).take j ++ (List.replicate a.length zLine).drop j)[((j : Nat) : Int).toNat]? = some (encLine ⟨0, 0⟩) := by
      rw [Int.toNat_natCast, at_take hlen hj']; simp; rfl
    have := l_toLineS.l0_1 (call := CC) (lp := lpW) (a.map encLine) a.length (j : Nat) ((a.map encLine).take j ++ (List.replicate a.length zLine).drop j) a[j] a[j] ⟨0, 0⟩ (by rw [decide_eq_true_eq, List.length_map]; omega) (by simp) (by rw [decide_eq_true_eq, len_take hlen (by omega)]; simp) (by rw [decide_eq_true_eq]; omega) (by simp) (at_map hj) hz (l_toLine.c a[j])
    rw [this, w64_succ (by omega), Int.toNat_natCast]
    have e := set_take hlen hj'
    rw [List.getElem_map] at e
    rw [e]) (l_toLineS.l0_2 _ _ _ _ (by simp))
  rw [take_end (n := a.length) hlen (by simp)] at this
  simpa using this
theorem l_toNode.c (n : Node) (hc : Sm n.cols) (hr : Sm n.rows) : PC l_toNode [.agg (encNodeR n)] (.agg (encNode n), []) :=
  lift (l_toNode.w1 n.parent n.w n.h n.keep n.kind n.cols n.rows n.pack n.cell n.place n.cols n.rows n.pack n.cell n.place (l_toLineS.c _ hc) (l_toLineS.c _ hr) (l_toPack.c _) (l_toCell.c _) (l_toPlace.c _))
theorem l_toNodeS.c (a : List Node) (ha : NsOk a) : PC l_toNodeS [.one (.rsl (a.map encNode))] (.one (.sl (a.map encNode)), []) := by
  have hn := ha.1
  have hlen : (a.map encNode).length = (List.replicate a.length (zNode.map nilSl)).length := by simp
  refine lift (l_toNodeS.w1 a a.length a.length (a.map encNode) (by simp) (by rw [decide_eq_true_eq, List.length_map]; omega) (by simp) ?_)
  have := loop_exit (step := l_toNodeS.r0 CC lpW) (S := fun j => l_toNodeS.s0 (a.map encNode) a.length (j : Nat) j ((a.map encNode).take j ++ (List.replicate a.length (zNode.map nilSl)).drop j)) a.length (fun j hj => by
    have hj' : j < (a.map encNode).length := by simpa using hj
    have hz : ((a.map encNode).take j ++ (List.replicate a.length (zNode.map nilSl)).drop j)[((j : Nat) : Int).toNat]? = some (encNode default) := by
      rw [Int.toNat_natCast, at_take hlen hj', List.getElem_replicate]; rfl
    have := l_toNodeS.l0_1 (call := CC) (lp := lpW) (a.map encNode) a.length (j : Nat) j ((a.map encNode).take j ++ (List.replicate a.length (zNode.map nilSl)).drop j) a[j] a[j] default (by rw [decide_eq_true_eq, List.length_map]; omega) (by simp) (by rw [decide_eq_true_eq, len_take hlen (by omega)]; simp) (by rw [decide_eq_true_eq]; omega) (by simp) (at_map hj) hz (l_toNode.c a[j] (ha.at hj).1 (ha.at hj).2)
    rw [this, w64_succ (by omega), Int.toNat_natCast]
    have e := set_take hlen hj'
    rw [List.getElem_map] at e
    rw [e]) (l_toNodeS.l0_2 _ _ _ _ _ (by simp))
  rw [take_end (n := a.length) hlen (by simp)] at this
  simpa using this
theorem l_toTree.c (a : List Node) (ha : NsOk a) : PC l_toTree [.agg [.rsl (a.map encNode)]] (.agg [.sl (a.map encNode)], []) := lift (l_toTree.w1 a a (l_toNodeS.c a ha))
theorem l_eqLine.c (a : Line) : PC l_eqLine [.agg (encLine a), .agg (encLine a)] (vB true, []) := lift (l_eqLine.w1 a a (bne_self_eq_false _) (bne_self_eq_false _))
theorem l_eqPack.c (a : Pack) : PC l_eqPack [.agg (encPack a), .agg (encPack a)] (vB true, []) := lift (l_eqPack.w1 a a (bne_self_eq_false _) (bne_self_eq_false _) (bne_self_eq_false _) (beq_self_eq_true _) (beq_self_eq_true _) (beq_self_eq_true _) (bne_self_eq_false _) (bne_self_eq_false _) (bne_self_eq_false _))
theorem l_eqCell.c (a : Cell) : PC l_eqCell [.agg (encCell a), .agg (encCell a)] (vB true, []) := lift (l_eqCell.w1 a a (bne_self_eq_false _) (bne_self_eq_false _) (bne_self_eq_false _) (bne_self_eq_false _) (bne_self_eq_false _) (bne_self_eq_false _) (bne_self_eq_false _) (bne_self_eq_false _) (bne_self_eq_false _))
theorem l_eqPlace.c (a : Place) : PC l_eqPlace [.agg (encPlace a), .agg (encPlace a)] (vB true, []) := lift (l_eqPlace.w1 a a (bne_self_eq_false _) (bne_self_eq_false _) (bne_self_eq_false _) (bne_self_eq_false _) (bne_self_eq_false _) (bne_self_eq_false _) (bne_self_eq_false _) (bne_self_eq_false _) (bne_self_eq_false _))
theorem l_eqLineS.c (a : List Line) (ha : Sm a) : PC l_eqLineS [.one (.rsl (a.map encLine)), .one (.rsl (a.map encLine))] (vB true, []) := by
  unfold Sm at ha
  refine lift (l_eqLineS.w1 a a (bne_self_eq_false _) ?_)
  exact loop_exit (step := l_eqLineS.r0 CC lpW) (S := fun j => l_eqLineS.s0 (a.map encLine) (a.map encLine) (j : Nat)) a.length (fun j hj => by
    have := l_eqLineS.l0_2 (call := CC) (lp := lpW) (a.map encLine) (a.map encLine) (j : Nat) a[j] a[j] (by rw [decide_eq_true_eq, List.length_map]; omega) (by simp) (at_map hj) (at_map hj) (l_eqLine.c _)
    rw [this, w64_succ (by omega)]) (l_eqLineS.l0_1 _ _ _ (by simp))
theorem l_eqNode.c (n : Node) (hc : Sm n.cols) (hr : Sm n.rows) : PC l_eqNode [.agg (encNodeR n), .agg (encNodeR n)] (vB true, []) :=
  lift (l_eqNode.w1 n n (bne_self_eq_false n.parent) (bne_self_eq_false n.w) (bne_self_eq_false n.h) (beq_self_eq_true n.keep) (bne_self_eq_false n.kind) (l_eqLineS.c n.cols hc) (l_eqLineS.c n.rows hr) (l_eqPack.c n.pack) (l_eqCell.c n.cell) (l_eqPlace.c n.place))
theorem l_eqNodeS.c (a : List Node) (ha : NsOk a) : PC l_eqNodeS [.one (.rsl (a.map encNode)), .one (.rsl (a.map encNode))] (vB true, []) := by
  have hn := ha.1
  refine lift (l_eqNodeS.w1 a a (bne_self_eq_false _) ?_)
  exact loop_exit (step := l_eqNodeS.r0 CC lpW) (S := fun j => l_eqNodeS.s0 (a.map encNode) (a.map encNode) (j : Nat)) a.length (fun j hj => by
    have := l_eqNodeS.l0_2 (call := CC) (lp := lpW) (a.map encNode) (a.map encNode) (j : Nat) a[j] a[j] (by rw [decide_eq_true_eq, List.length_map]; omega) (by simp) (at_map hj) (at_map hj) (l_eqNode.c _ (ha.at hj).1 (ha.at hj).2)
    rw [this, w64_succ (by omega)]) (l_eqNodeS.l0_1 _ _ _ (by simp))
theorem l_eqTree.c (a : List Node) (ha : NsOk a) : PC l_eqTree [.agg [.rsl (a.map encNode)], .agg [.rsl (a.map encNode)]] (vB true, []) := lift (l_eqTree.w1 a a (l_eqNodeS.c a ha))
def outL (k : Int) (n : Nat) : List Line := (List.range n).map fun (j : Nat) => ⟨k + 2 * (j : Int), k + 2 * (j : Int) + 1⟩
theorem outL_at {k : Int} {n j : Nat} (h : j < n) : (outL k n)[j]? = some ⟨k + 2 * j, k + 2 * j + 1⟩ := by
  unfold outL
  simp [List.getElem?_range h]
theorem outL_len (k : Int) (n : Nat) : (outL k n).length = n := by simp [outL]
theorem l_markLineS.c (a : List Line) (k : Int) (h0 : 0 ≤ k) (h : k + 2 * a.length ≤ 1000000000) : PC l_markLineS [.one (.sl (a.map encLine)), vI k] (vI (k + 2 * a.length), [.sl ((outL k a.length).map encLine)]) := by
  have hlen : ((outL k a.length).map encLine).length = (a.map encLine).length := by simp [outL_len]
  refine lift (l_markLineS.w1 a k _ _ ?_)
  have := loop_exit (step := l_markLineS.r0 CC lpW) (S := fun j => l_markLineS.s0 (a.map encLine).length (k + 2 * j) (j : Nat) (((outL k a.length).map encLine).take j ++ (a.map encLine).drop j)) a.length (fun j hj => by
    have hj' : j < ((outL k a.length).map encLine).length := by simpa [outL_len] using hj
    have ha : (((outL k a.length).map encLine).take j ++ (a.map encLine).drop j)[((j : Nat) : Int).toNat]? = some (encLine a[j]) := by
      rw [Int.toNat_natCast, at_take hlen hj', List.getElem_map]
    have := l_markLineS.l0_1 (call := CC) (lp := lpW) (a.map encLine).length (k + 2 * j) (j : Nat) (((outL k a.length).map encLine).take j ++ (a.map encLine).drop j) a[j] (by rw [decide_eq_true_eq, List.length_map]; omega) (by rw [decide_eq_true_eq, len_take hlen (by omega), hlen]) (by simp) (by simp) ha
    rw [this, w64_succ (by omega), Int.toNat_natCast]
    have e1 : w64 (k + 2 * j + 1) = k + 2 * j + 1 := w64_id (by omega) (by omega)
    have e2 : w64 (k + 2 * j + 1 + 1) = k + 2 * ((j + 1 : Nat) : Int) := by rw [w64_id (by omega) (by omega)]; omega
    have e := set_take hlen hj'
    have e3 : ((outL k a.length).map encLine)[j] = [C.int .i64 (k + 2 * j), C.int .i64 (k + 2 * j + 1)] := by
      have := outL_at (k := k) hj
      rw [List.getElem_map]
      rw [List.getElem?_eq_getElem (by rw [outL_len]; exact hj)] at this
      injection this with this
      rw [this]; rfl
    rw [e3] at e
    rw [e1, e2, e]) (l_markLineS.l0_2 _ _ _ _ (by simp))
  rw [take_end (n := a.length) hlen (by simp [outL_len])] at this
  simpa using this
theorem l_heldLineS.c (n : Nat) (k : Int) (h0 : 0 ≤ k) (h : k + 2 * n ≤ 1000000000) : PC l_heldLineS [.one (.rsl ((outL k n).map encLine)), vI k] (vI (k + 2 * n), []) := by
  refine lift (l_heldLineS.w1 (outL k n) k _ ?_)
  have := loop_exit (step := l_heldLineS.r0 CC lpW) (S := fun j => l_heldLineS.s0 ((outL k n).map encLine) (k + 2 * j) (j : Nat)) n (fun j hj => by
    have e1 : w64 (k + 2 * j + 1) = k + 2 * j + 1 := w64_id (by omega) (by omega)
    have e2 : w64 (k + 2 * j + 1 + 1) = k + 2 * ((j + 1 : Nat) : Int) := by rw [w64_id (by omega) (by omega)]; omega
    have := l_heldLineS.l0_2 (call := CC) (lp := lpW) ((outL k n).map encLine) (k + 2 * j) (j : Nat) ⟨k + 2 * j, k + 2 * j + 1⟩ (by rw [decide_eq_true_eq, List.length_map, outL_len]; omega) (by simp) (bne_self_eq_false _) (by rw [e1]; exact bne_self_eq_false _) (by rw [Int.toNat_natCast, List.getElem?_map, outL_at hj]; rfl)
    rw [this, w64_succ (by omega), e1, e2]) (l_heldLineS.l0_1 _ _ _ (by simp [outL_len]))
  simpa using this
def Kn : Nat → Int → Int
  | 0, r => r
  | n + 1, r => w64 (Kn n r + 1)
theorem Kn_eq : ∀ (n : Nat) {r : Int}, 0 ≤ r → r + n ≤ 1000000000000 → Kn n r = r + n
  | 0, r, _, _ => by simp [Kn]
  | n + 1, r, h0, h => by
    rw [Kn, Kn_eq n h0 (by omega), w64_id (by omega) (by omega)]; omega
def newNode (k : Int) (c r : Nat) : Node :=
  ⟨k, Kn 1 k, Kn 2 k, Int.tmod (Kn 3 k) 3 == 0, Kn 4 k, outL (Kn 5 k) c, outL (Kn 5 k + 2 * c) r,
    ⟨Kn 5 k + 2 * c + 2 * r, Kn 1 (Kn 5 k + 2 * c + 2 * r), Kn 2 (Kn 5 k + 2 * c + 2 * r), Int.tmod (Kn 3 (Kn 5 k + 2 * c + 2 * r)) 3 == 0, Int.tmod (Kn 4 (Kn 5 k + 2 * c + 2 * r)) 3 == 0, Int.tmod (Kn 5 (Kn 5 k + 2 * c + 2 * r)) 3 == 0, Kn 6 (Kn 5 k + 2 * c + 2 * r), Kn 7 (Kn 5 k + 2 * c + 2 * r), Kn 8 (Kn 5 k + 2 * c + 2 * r)⟩,
    ⟨Kn 9 (Kn 5 k + 2 * c + 2 * r), Kn 10 (Kn 5 k + 2 * c + 2 * r), Kn 11 (Kn 5 k + 2 * c + 2 * r), Kn 12 (Kn 5 k + 2 * c + 2 * r), Kn 13 (Kn 5 k + 2 * c + 2 * r), Kn 14 (Kn 5 k + 2 * c + 2 * r), Kn 15 (Kn 5 k + 2 * c + 2 * r), Kn 16 (Kn 5 k + 2 * c + 2 * r), Kn 17 (Kn 5 k + 2 * c + 2 * r)⟩,
    ⟨Kn 18 (Kn 5 k + 2 * c + 2 * r), Kn 19 (Kn 5 k + 2 * c + 2 * r), Kn 20 (Kn 5 k + 2 * c + 2 * r), Kn 21 (Kn 5 k + 2 * c + 2 * r), Kn 22 (Kn 5 k + 2 * c + 2 * r), Kn 23 (Kn 5 k + 2 * c + 2 * r), Kn 24 (Kn 5 k + 2 * c + 2 * r), Kn 25 (Kn 5 k + 2 * c + 2 * r), Kn 26 (Kn 5 k + 2 * c + 2 * r)⟩⟩
def kAt (k : Int) (nodes : List Node) : Int := k + (nodes.map fun n => 32 + 2 * nsz n).sum
theorem kAt_succ {k : Int} {nodes : List Node} {j : Nat} (hj : j < nodes.length) : kAt k (nodes.take (j + 1)) = kAt k (nodes.take j) + (32 + 2 * nsz nodes[j] : Nat) := by
  unfold kAt
  rw [List.take_add_one, List.getElem?_eq_getElem hj, List.map_append, List.sum_append]
  simp; omega
theorem kAt_le {k : Int} {nodes : List Node} (j : Nat) : kAt k (nodes.take j) ≤ kAt k nodes := by
  unfold kAt
  have : ((nodes.take j).map fun n => 32 + 2 * nsz n).sum ≤ (nodes.map fun n => 32 + 2 * nsz n).sum := by
    conv => rhs; rw [← List.take_append_drop j nodes, List.map_append, List.sum_append]
    omega
  omega
theorem kAt_ge {k : Int} {nodes : List Node} : k ≤ kAt k nodes := by unfold kAt; omega
theorem kEnd {k : Int} {c r : Nat} (h0 : 0 ≤ k) (h : k + (32 + 2 * (c + r) : Nat) ≤ 1000000000) : Kn 27 (Kn 5 k + 2 * c + 2 * r) = k + (32 + 2 * (c + r) : Nat) := by
  rw [Kn_eq 5 h0 (by omega), Kn_eq 27 (by omega) (by omega)]; omega
theorem mark_round {k : Int} {a : List (List C)} {alen j : Nat} {e : Node} (hj : j < alen) (hl : a.length = alen) (he : a[j]? = some (encNode e)) (h0 : 0 ≤ k) (h : k + (32 + 2 * nsz e : Nat) ≤ 1000000000) (hlen : alen ≤ 1000000000) :
    l_markNodeS.r0 CC lpW (l_markNodeS.s0 alen k (j : Nat) a) = some (.normal, l_markNodeS.s0 alen (k + (32 + 2 * nsz e : Nat)) ((j + 1 : Nat) : Int) (a.set j (encNode (newNode k e.cols.length e.rows.length)))) := by
  have hz : nsz e = e.cols.length + e.rows.length := rfl
  have e5 : Kn 5 k = k + 5 := Kn_eq 5 h0 (by omega)
  have k1 := l_markLineS.c e.cols (Kn 5 k) (by omega) (by omega)
  have k2 := l_markLineS.c e.rows (Kn 5 k + 2 * e.cols.length) (by omega) (by omega)
  have := l_markNodeS.l0_1 (call := CC) (lp := lpW) alen k (j : Nat) a e (Kn 5 k + 2 * e.cols.length) (outL (Kn 5 k) e.cols.length) (Kn 5 k + 2 * e.cols.length + 2 * e.rows.length) (outL (Kn 5 k + 2 * e.cols.length) e.rows.length) (by rw [decide_eq_true_eq]; omega) (by rw [decide_eq_true_eq]; exact hl) (by simp) (by simp) (by rw [Int.toNat_natCast]; exact he) k1 k2
  rw [w64_succ (by omega), Int.toNat_natCast] at this
  have ke := kEnd (c := e.cols.length) (r := e.rows.length) h0 (by rw [← hz]; exact h)
  rw [hz, ← ke]
  exact this
theorem held_round {k : Int} {a : List (List C)} {j c r : Nat} (hj : j < a.length) (he : a[j]? = some (encNode (newNode k c r))) (h0 : 0 ≤ k) (h : k + (32 + 2 * (c + r) : Nat) ≤ 1000000000) (hlen : a.length ≤ 1000000000) :
    l_heldNodeS.r0 CC lpW (l_heldNodeS.s0 a k (j : Nat)) = some (.normal, l_heldNodeS.s0 a (k + (32 + 2 * (c + r) : Nat)) ((j + 1 : Nat) : Int)) := by
  have e5 : Kn 5 k = k + 5 := Kn_eq 5 h0 (by omega)
  have k1 := l_heldLineS.c c (Kn 5 k) (by omega) (by omega)
  have k2 := l_heldLineS.c r (Kn 5 k + 2 * c) (by omega) (by omega)
  have := l_heldNodeS.l0_2 (call := CC) (lp := lpW) a k (j : Nat) (newNode k c r) (Kn 5 k + 2 * c) (Kn 5 k + 2 * c + 2 * r) (by rw [decide_eq_true_eq]; omega) (by simp) (bne_self_eq_false _) (bne_self_eq_false _) (bne_self_eq_false _) (beq_self_eq_true _) (bne_self_eq_false _) (by rw [decide_eq_false_iff_not]; omega) (by rw [decide_eq_false_iff_not]; omega) (bne_self_eq_false _) (bne_self_eq_false _) (bne_self_eq_false _) (beq_self_eq_true _) (beq_self_eq_true _) (beq_self_eq_true _) (bne_self_eq_false _) (bne_self_eq_false _) (bne_self_eq_false _) (bne_self_eq_false _) (bne_self_eq_false _) (bne_self_eq_false _) (bne_self_eq_false _) (bne_self_eq_false _) (bne_self_eq_false _) (bne_self_eq_false _) (bne_self_eq_false _) (bne_self_eq_false _) (bne_self_eq_false _) (bne_self_eq_false _) (bne_self_eq_false _) (bne_self_eq_false _) (bne_self_eq_false _) (bne_self_eq_false _) (bne_self_eq_false _) (bne_self_eq_false _) (bne_self_eq_false _) (by rw [Int.toNat_natCast]; exact he) k1 k2
  rw [w64_succ (by omega)] at this
  have ke := kEnd (c := c) (r := r) h0 h
  rw [← ke]
  exact this
def markN (k : Int) (nodes : List Node) : List Node := nodes.mapIdx fun j n => newNode (kAt k (nodes.take j)) n.cols.length n.rows.length
theorem markN_len (k : Int) (nodes : List Node) : (markN k nodes).length = nodes.length := by simp [markN]
theorem markN_at {k : Int} {nodes : List Node} {j : Nat} (hj : j < nodes.length) : (markN k nodes)[j]? = some (newNode (kAt k (nodes.take j)) nodes[j].cols.length nodes[j].rows.length) := by
  simp [markN, List.getElem?_mapIdx, List.getElem?_eq_getElem hj]
theorem kAt_bound {nodes : List Node} (h : tsz nodes ≤ 1048576) : kAt 1 nodes ≤ 40000000 := by
  unfold kAt; unfold tsz at h
  have : (nodes.map fun n => 32 + 2 * nsz n).sum = 32 * nodes.length + 2 * (nodes.map nsz).sum := by
    clear h
    induction nodes with
    | nil => rfl
    | cons a l ih => simp only [List.map_cons, List.sum_cons, List.length_cons, ih]; omega
  rw [this]; omega
theorem l_markTree.c {nodes : List Node} (h : tsz nodes ≤ 1048576) : PC l_markTree [.agg [.sl (nodes.map encNode)], vI 1] (vI (kAt 1 nodes), [.sl ((markN 1 nodes).map encNode)]) := by
  have hb := kAt_bound h
  have hn : nodes.length ≤ 1048576 := by unfold tsz at h; omega
  have hlen : ((markN 1 nodes).map encNode).length = (nodes.map encNode).length := by simp [markN_len]
  refine lift (l_markTree.w1 nodes 1 _ (markN 1 nodes) (lift (l_markNodeS.w1 nodes 1 _ _ ?_)))
  have := loop_exit (step := l_markNodeS.r0 CC lpW) (S := fun j => l_markNodeS.s0 (nodes.map encNode).length (kAt 1 (nodes.take j)) (j : Nat) (((markN 1 nodes).map encNode).take j ++ (nodes.map encNode).drop j)) nodes.length (fun j hj => by
    have hj' : j < ((markN 1 nodes).map encNode).length := by simpa [markN_len] using hj
    have ha : (((markN 1 nodes).map encNode).take j ++ (nodes.map encNode).drop j)[j]? = some (encNode nodes[j]) := by
      rw [at_take hlen hj', List.getElem_map]
    have hs := kAt_succ (k := 1) hj
    have hle := kAt_le (k := 1) (nodes := nodes) (j + 1)
    have hge := kAt_ge (k := 1) (nodes := nodes.take j)
    have := mark_round (k := kAt 1 (nodes.take j)) (alen := (nodes.map encNode).length) (by simpa using hj) (by rw [len_take hlen (by omega), hlen]) ha (by omega) (by omega) (by simp; omega)
    rw [this, hs]
    have e := set_take hlen hj'
    have e3 : ((markN 1 nodes).map encNode)[j] = encNode (newNode (kAt 1 (nodes.take j)) nodes[j].cols.length nodes[j].rows.length) := by
      have := markN_at (k := 1) hj
      rw [List.getElem_map]
      rw [List.getElem?_eq_getElem (by rw [markN_len]; exact hj)] at this
      injection this with this
      rw [this]
    rw [e3] at e
    rw [e]) (l_markNodeS.l0_2 _ _ _ _ (by simp))
  rw [take_end (n := nodes.length) hlen (by simp [markN_len]), List.take_length] at this
  simpa [show kAt 1 [] = 1 from rfl] using this
theorem l_heldTree.c {nodes : List Node} (h : tsz nodes ≤ 1048576) : PC l_heldTree [.agg [.rsl ((markN 1 nodes).map encNode)], vI 1] (vI (kAt 1 nodes), []) := by
  have hb := kAt_bound h
  have hn : nodes.length ≤ 1048576 := by unfold tsz at h; omega
  have hge := kAt_ge (k := 1) (nodes := nodes)
  refine lift (l_heldTree.w1 (markN 1 nodes) 1 _ (by rw [decide_eq_false_iff_not]; omega) (lift (l_heldNodeS.w1 (markN 1 nodes) 1 _ ?_)))
  have := loop_exit (step := l_heldNodeS.r0 CC lpW) (S := fun j => l_heldNodeS.s0 ((markN 1 nodes).map encNode) (kAt 1 (nodes.take j)) (j : Nat)) nodes.length (fun j hj => by
    have hs := kAt_succ (k := 1) hj
    have hle := kAt_le (k := 1) (nodes := nodes) (j + 1)
    have hge := kAt_ge (k := 1) (nodes := nodes.take j)
    have hz : nsz nodes[j] = nodes[j].cols.length + nodes[j].rows.length := rfl
    have := held_round (k := kAt 1 (nodes.take j)) (a := (markN 1 nodes).map encNode) (j := j) (c := nodes[j].cols.length) (r := nodes[j].rows.length) (by simpa [markN_len] using hj) (by rw [List.getElem?_map, markN_at hj]; rfl) (by omega) (by omega) (by simp [markN_len]; omega)
    rw [this, hs, hz]) (l_heldNodeS.l0_1 _ _ _ (by simp [markN_len]))
  rw [List.take_length] at this
  simpa [show kAt 1 [] = 1 from rfl] using this
end Go.Proofs.Ytdgamfanffnhaaa.PI
namespace Go.Proofs.Ytdgamfanffnhaaa.PI
open Go Go.RowKit Go.ChangeShapes
section
variable {H : Type} {enc : TypeId × Value → H} {P : Program}
theorem post_of_grown {f : Func} {s : ChangeSpec} {apart fresh handsOn again : Bool} {W W' : World} {args : Array Value} {v : Value} {ds gs : List (DataW H)} {before : List MemPlace}
    (hW : DataW.Whole enc P f.params.toList s.vars apart W args.toList ds gs before)
    (hres : ∀ (b : Nat) (sp : Nat → Bool) (hd : Bool), DataW.TrodAll enc P W' b sp hd f.resultTypes.toList (v.resultList f.resultTypes.size) (s.fn H (ds ++ gs)).results [])
    (hargs : ∀ sp : Nat → Bool, (∀ p ∈ before, sp p.block = true) → DataW.TrodAll enc P W' 0 sp true f.params.toList args.toList (s.fn H (ds ++ gs)).args before)
    (hvars : ∀ sp : Nat → Bool, DataW.TrodVars enc P W' sp s.vars (s.fn H (ds ++ gs)).vars [])
    (hb : Below W.heap.size W W')
    (hok : ∀ (j : Nat) (t : TypeId) (r : Value), f.resultTypes[j]? = some t → (v.resultList f.resultTypes.size)[j]? = some r → Value.okWide P W' .any 0 t r) :
    s.post enc P f apart fresh handsOn again W args v W' := by
  have hold : ∀ p ∈ before, (fun b => decide (b < W.heap.size)) p.block = true := fun p hp => by simpa using hW.lt p hp
  have hlt := hW.lt
  refine ⟨ds, gs, before, [], before, [], hW, hres _ _ _, hargs _ hold, hvars _, hb.frame _, fun _ => ?_⟩
  obtain ⟨_, _, _, _, _, hz, hn⟩ := hW
  refine ⟨hok, _, _, ([] ++ before) ++ [], ⟨[] ++ before, [], trodAll_append (hargs _ (fun _ _ => rfl)) (hres _ _ _), hvars _, rfl, ?_, ?_⟩, ?_⟩
  · intro b off hp
    have hp' : MemPlace.cell b off ∈ before := by simpa using hp
    rw [hb.frozen (by have := hlt _ hp'; exact this)]
    exact hz b off hp'
  · intro ha
    have := hn ha
    simpa using this
  · intro p hp _
    simpa using hp
end
def kI : Kd := .int .i64
def kPack : Kd := .st (.fcons kI (.fcons kI (.fcons kI (.fcons .bool (.fcons .bool (.fcons .bool (.fcons kI (.fcons kI (.fcons kI .fnil)))))))))
def kNine : Kd := .st (.fcons kI (.fcons kI (.fcons kI (.fcons kI (.fcons kI (.fcons kI (.fcons kI (.fcons kI (.fcons kI .fnil)))))))))
def kLine : Kd := .st (.fcons kI (.fcons kI .fnil))
def kNode : Kd := .st (.fcons kI (.fcons kI (.fcons kI (.fcons .bool (.fcons kI (.fcons (.sl kLine) (.fcons (.sl kLine) (.fcons kPack (.fcons kNine (.fcons kNine .fnil))))))))))
def kTree : Kd := .st (.fcons (.sl kNode) .fnil)
theorem sh_cons {k r : Kd} {cs : List C} (h : Sh (.fcons k r) cs) : ∃ a b, cs = a ++ b ∧ Sh k a ∧ Sh r b := h
theorem sh_int {cs : List C} (h : Sh kI cs) : ∃ n, cs = [.int .i64 n] := let ⟨n, h, _⟩ := h; ⟨n, h⟩
theorem sh_bool {cs : List C} (h : Sh .bool cs) : ∃ n, cs = [.bool n] := h
theorem sh_nil {cs : List C} (h : Sh .fnil cs) : cs = [] := h
theorem sh_line {cs : List C} (h : Sh kLine cs) : ∃ l : Line, cs = encLine l := by
  obtain ⟨_, _, rfl, h1, g1⟩ := sh_cons h
  obtain ⟨_, _, rfl, h2, g2⟩ := sh_cons g1
  obtain ⟨a, rfl⟩ := sh_int h1; obtain ⟨b, rfl⟩ := sh_int h2
  rw [sh_nil g2]
  exact ⟨⟨a, b⟩, rfl⟩
theorem sh_pack {cs : List C} (h : Sh kPack cs) : ∃ l : Pack, cs = encPack l := by
  obtain ⟨_, _, rfl, h1, g1⟩ := sh_cons h
  obtain ⟨_, _, rfl, h2, g2⟩ := sh_cons g1
  obtain ⟨_, _, rfl, h3, g3⟩ := sh_cons g2
  obtain ⟨_, _, rfl, h4, g4⟩ := sh_cons g3
  obtain ⟨_, _, rfl, h5, g5⟩ := sh_cons g4
  obtain ⟨_, _, rfl, h6, g6⟩ := sh_cons g5
  obtain ⟨_, _, rfl, h7, g7⟩ := sh_cons g6
  obtain ⟨_, _, rfl, h8, g8⟩ := sh_cons g7
  obtain ⟨_, _, rfl, h9, g9⟩ := sh_cons g8
  obtain ⟨a1, rfl⟩ := sh_int h1; obtain ⟨a2, rfl⟩ := sh_int h2; obtain ⟨a3, rfl⟩ := sh_int h3
  obtain ⟨a4, rfl⟩ := sh_bool h4; obtain ⟨a5, rfl⟩ := sh_bool h5; obtain ⟨a6, rfl⟩ := sh_bool h6
  obtain ⟨a7, rfl⟩ := sh_int h7; obtain ⟨a8, rfl⟩ := sh_int h8; obtain ⟨a9, rfl⟩ := sh_int h9
  rw [sh_nil g9]
  exact ⟨⟨a1, a2, a3, a4, a5, a6, a7, a8, a9⟩, rfl⟩
theorem sh_nine {cs : List C} (h : Sh kNine cs) : ∃ a1 a2 a3 a4 a5 a6 a7 a8 a9 : Int, cs = [.int .i64 a1, .int .i64 a2, .int .i64 a3, .int .i64 a4, .int .i64 a5, .int .i64 a6, .int .i64 a7, .int .i64 a8, .int .i64 a9] := by
  obtain ⟨_, _, rfl, h1, g1⟩ := sh_cons h
  obtain ⟨_, _, rfl, h2, g2⟩ := sh_cons g1
  obtain ⟨_, _, rfl, h3, g3⟩ := sh_cons g2
  obtain ⟨_, _, rfl, h4, g4⟩ := sh_cons g3
  obtain ⟨_, _, rfl, h5, g5⟩ := sh_cons g4
  obtain ⟨_, _, rfl, h6, g6⟩ := sh_cons g5
  obtain ⟨_, _, rfl, h7, g7⟩ := sh_cons g6
  obtain ⟨_, _, rfl, h8, g8⟩ := sh_cons g7
  obtain ⟨_, _, rfl, h9, g9⟩ := sh_cons g8
  obtain ⟨a1, rfl⟩ := sh_int h1; obtain ⟨a2, rfl⟩ := sh_int h2; obtain ⟨a3, rfl⟩ := sh_int h3
  obtain ⟨a4, rfl⟩ := sh_int h4; obtain ⟨a5, rfl⟩ := sh_int h5; obtain ⟨a6, rfl⟩ := sh_int h6
  obtain ⟨a7, rfl⟩ := sh_int h7; obtain ⟨a8, rfl⟩ := sh_int h8; obtain ⟨a9, rfl⟩ := sh_int h9
  rw [sh_nil g9]
  exact ⟨a1, a2, a3, a4, a5, a6, a7, a8, a9, rfl⟩
theorem sh_sl {k : Kd} {α : Type} {f : α → List C} (hk : ∀ cs, Sh k cs → ∃ x, cs = f x) {cs : List C} (h : Sh (.sl k) cs) : ∃ l : List α, cs = [.sl (l.map f)] ∧ l.length ≤ maxLen := by
  obtain ⟨rows, rfl, hl, h⟩ := h
  have : ∃ l : List α, rows = l.map f := by
    clear hl
    induction rows with
    | nil => exact ⟨[], rfl⟩
    | cons r rows ih =>
      obtain ⟨l, hl⟩ := ih fun x hx => h x (List.mem_cons_of_mem _ hx)
      obtain ⟨x, hx⟩ := hk r (h r (List.mem_cons_self ..))
      exact ⟨x :: l, by rw [hx, hl]; rfl⟩
  obtain ⟨l, rfl⟩ := this
  exact ⟨l, rfl, by simpa using hl⟩
theorem sh_node {cs : List C} (h : Sh kNode cs) : ∃ n : Node, cs = encNode n ∧ n.cols.length ≤ maxLen ∧ n.rows.length ≤ maxLen := by
  obtain ⟨_, _, rfl, h1, g1⟩ := sh_cons h
  obtain ⟨_, _, rfl, h2, g2⟩ := sh_cons g1
  obtain ⟨_, _, rfl, h3, g3⟩ := sh_cons g2
  obtain ⟨_, _, rfl, h4, g4⟩ := sh_cons g3
  obtain ⟨_, _, rfl, h5, g5⟩ := sh_cons g4
  obtain ⟨_, _, rfl, h6, g6⟩ := sh_cons g5
  obtain ⟨_, _, rfl, h7, g7⟩ := sh_cons g6
  obtain ⟨_, _, rfl, h8, g8⟩ := sh_cons g7
  obtain ⟨_, _, rfl, h9, g9⟩ := sh_cons g8
  obtain ⟨_, _, rfl, h10, g10⟩ := sh_cons g9
  obtain ⟨a1, rfl⟩ := sh_int h1; obtain ⟨a2, rfl⟩ := sh_int h2; obtain ⟨a3, rfl⟩ := sh_int h3
  obtain ⟨a4, rfl⟩ := sh_bool h4; obtain ⟨a5, rfl⟩ := sh_int h5
  obtain ⟨c, rfl, hc⟩ := sh_sl (fun _ => sh_line) h6
  obtain ⟨r, rfl, hr⟩ := sh_sl (fun _ => sh_line) h7
  obtain ⟨p, rfl⟩ := sh_pack h8
  obtain ⟨b1, b2, b3, b4, b5, b6, b7, b8, b9, rfl⟩ := sh_nine h9
  obtain ⟨c1, c2, c3, c4, c5, c6, c7, c8, c9, rfl⟩ := sh_nine h10
  rw [sh_nil g10]
  exact ⟨⟨a1, a2, a3, a4, a5, c, r, p, ⟨b1, b2, b3, b4, b5, b6, b7, b8, b9⟩, ⟨c1, c2, c3, c4, c5, c6, c7, c8, c9⟩⟩, rfl, hc, hr⟩
theorem sh_tree {cs : List C} (h : Sh kTree cs) : ∃ nodes : List Node, cs = [.sl (nodes.map encNode)] ∧ Win nodes := by
  obtain ⟨_, _, rfl, h1, g1⟩ := sh_cons h
  rw [sh_nil g1]
  obtain ⟨rows, rfl, hl, hh⟩ := h1
  have : ∃ l : List Node, rows = l.map encNode ∧ ∀ n ∈ l, n.cols.length ≤ 9223372036854775807 ∧ n.rows.length ≤ 9223372036854775807 := by
    clear hl h
    induction rows with
    | nil => exact ⟨[], rfl, by simp⟩
    | cons r rows ih =>
      obtain ⟨l, hl, hw⟩ := ih fun x hx => hh x (List.mem_cons_of_mem _ hx)
      obtain ⟨x, hx, h1, h2⟩ := sh_node (hh r (List.mem_cons_self ..))
      unfold maxLen at h1 h2
      refine ⟨x :: l, by rw [hx, hl]; rfl, fun n hn => ?_⟩
      rcases List.mem_cons.1 hn with rfl | hn
      · omega
      · exact hw n hn
  obtain ⟨l, rfl, hw⟩ := this
  unfold maxLen at hl
  exact ⟨l, rfl, by simp at hl; omega, hw⟩
theorem ro_rsl {h : Hp} {R : Nat → Prop} {rows : List (List C)} {v : Value} (H : Ro h R [.sl rows] [v]) : Ro h R [.rsl rows] [v] := by
  cases H with
  | sc q _ => exact q.elim
  | e q _ => rcases q with q | q <;> cases q; exact .e (.inr rfl) .nil
  | row q a b c d e f g _ => rcases q with q | q <;> cases q; exact .row (.inr rfl) a b c d e f g .nil
theorem open_tree {H : Type} {enc : TypeId × Value → H} {P : Program} {w : World} {base b0 : Nat} {r : Reach} {spare : Nat → Bool} {held : Bool} {t : TypeId} {fs : Array Field} {v : Value} {d : DataW H} {ps : List MemPlace} (ht : P.underlying t = some (.struct fs)) (hk : kdOk P kTree (.inl t) = true)
    (hval : Value.okWide P w r b0 t v) (hd : DataW.Trod enc P w base spare held t v d ps) : ∃ nodes : List Node, Win nodes ∧ RoV (hp w) (Rw w) (.agg [.rsl (nodes.map encNode)]) v := by
  obtain ⟨arr, rfl, _⟩ := Go.WideShapes.okWide_struct ht hval
  obtain ⟨cs, hs, hro⟩ := arg_sh hk hd
  obtain ⟨nodes, rfl, hw⟩ := sh_tree hs
  refine ⟨nodes, hw, arr, rfl, ?_⟩
  have e : (Value.agg arr).cells = arr := rfl
  rw [e] at hro
  generalize arr.toList = l at hro
  cases hro with
  | sc q _ => exact q.elim
  | e q t => cases t; exact ro_rsl (.e q .nil)
  | row q a b c d e f g t => cases t; exact ro_rsl (.row q a b c d e f g .nil)
end Go.Proofs.Ytdgamfanffnhaaa.PI
namespace Go.Proofs.Ytdgamfanffnhaaa.PI
open Go
def askGood (nodes : List Node) (i w h : Int) : Bool := vTree nodes && (i_within.m i 0 (nodes.length - 1) && (i_within.m w 0 30 && i_within.m h 0 30))
def askFor (nodes : List Node) (i w h : Int) : List Node × Bool := bif askGood nodes i w h then (askT nodes i.toNat w h, true) else ([], false)
theorem len_pred {nodes : List Node} (ho : NsOk nodes) : w64 ((((nodes.map encNode).length : Nat) : Int) - 1) = nodes.length - 1 := by
  have := ho.1
  rw [List.length_map, w64_id (by omega) (by omega)]
theorem wish_eq {nodes : List Node} (ho : NsOk nodes) (i w h : Int) : s_goodWish.m nodes i w h = askGood nodes i w h := by
  unfold s_goodWish.m s_goodNode.m askGood s_validTree.m
  simp only [bif_and, range_eq, len_pred ho, Bool.and_assoc]
theorem ask_at {nodes : List Node} {i w h : Int} (hg : askGood nodes i w h = true) : 0 ≤ i ∧ i.toNat < nodes.length ∧ (i.toNat : Int) = i := by
  unfold askGood at hg
  simp only [Bool.and_eq_true, within_iff] at hg
  omega
theorem s_AskFor.c (nodes : List Node) (i w h : Int) (ho : NsOk nodes) : PC s_AskFor [.agg [.rsl (nodes.map encNode)], vI i, vI w, vI h] (.tup [.agg [.sl ((askFor nodes i w h).1.map encNode)], vB (askFor nodes i w h).2], []) := by
  refine lift ?_
  have k := s_goodWish.c nodes i w h ho
  rw [wish_eq ho] at k
  unfold askFor
  cases hg : askGood nodes i w h with
  | false => rw [hg] at k; exact s_AskFor.w1 nodes i w h k
  | true =>
    rw [hg] at k
    obtain ⟨_, h2, h3⟩ := ask_at hg
    have k2 := s_resized.c nodes i.toNat w h ho h2
    rw [h3] at k2
    exact s_AskFor.w2 nodes i w h _ k k2
theorem i_AskFor.c (nodes : List Node) (i w h : Int) (ho : NsOk nodes) : PC i_AskFor [.agg [.rsl (nodes.map encNode)], vI i, vI w, vI h] (.tup [.agg [.sl ((askFor nodes i w h).1.map encNode)], vB (askFor nodes i w h).2], []) := by
  refine lift ?_
  have k1 := i_ValidTree.c nodes ho
  have k2 := i_within.c i 0 (w64 ((((nodes.map encNode).length : Nat) : Int) - 1))
  have k3 := i_within.c w 0 30
  have k4 := i_within.c h 0 30
  unfold i_ValidTree.m at k1
  have e2 := len_pred ho
  unfold askFor
  cases hg : askGood nodes i w h with
  | true =>
    obtain ⟨_, h2, h3⟩ := ask_at hg
    unfold askGood at hg
    simp only [Bool.and_eq_true] at hg
    obtain ⟨g1, g2, g3, g4⟩ := hg
    have k5 := i_Tree_asked.c nodes i.toNat w h ho h2
    rw [h3] at k5
    exact i_AskFor.w5 nodes i w h _ (k1.trans (by rw [g1])) (k2.trans (by rw [e2, g2])) (k3.trans (by rw [g3])) (k4.trans (by rw [g4])) k5
  | false =>
    unfold askGood at hg
    cases g1 : vTree nodes with
    | false => exact i_AskFor.w1 nodes i w h (k1.trans (by rw [g1]))
    | true =>
    cases g2 : i_within.m i 0 (nodes.length - 1) with
    | false => exact i_AskFor.w2 nodes i w h (k1.trans (by rw [g1])) (k2.trans (by rw [e2, g2]))
    | true =>
    cases g3 : i_within.m w 0 30 with
    | false => exact i_AskFor.w3 nodes i w h (k1.trans (by rw [g1])) (k2.trans (by rw [e2, g2])) (k3.trans (by rw [g3]))
    | true =>
    cases g4 : i_within.m h 0 30 with
    | false => exact i_AskFor.w4 nodes i w h (k1.trans (by rw [g1])) (k2.trans (by rw [e2, g2])) (k3.trans (by rw [g3])) (k4.trans (by rw [g4]))
    | true => rw [g1, g2, g3, g4] at hg; cases hg
theorem tsz_set {nodes : List Node} {i : Nat} {n : Node} (hi : i < nodes.length) (hn : nsz n = nsz nodes[i]) : tsz (nodes.set i n) = tsz nodes := by
  unfold tsz
  rw [List.length_set, List.map_set]
  have : ((nodes.map nsz).set i (nsz n)) = nodes.map nsz := by
    rw [hn]
    apply List.ext_getElem?
    intro j
    rw [List.getElem?_set]
    split
    · rename_i h; subst h; simp [hi]
    · rfl
  rw [this]
theorem tsz_ask {nodes : List Node} {i w h : Int} : tsz (askFor nodes i w h).1 ≤ tsz nodes := by
  unfold askFor
  cases hg : askGood nodes i w h with
  | false => simp [tsz]
  | true =>
    obtain ⟨_, h2, _⟩ := ask_at hg
    simp only [cond_true]
    unfold askT
    rw [tsz_set h2 (by rw [List.getElem?_eq_getElem h2]; rfl)]
    exact Nat.le_refl _
end Go.Proofs.Ytdgamfanffnhaaa.PI
namespace Go.Proofs.Ytdgamfanffnhaaa.PI
open Go
theorem law_AskFor {nodes : List Node} (hw : Win nodes) (i w h : Int) : PC l_FnExactAskFor [.agg [.rsl (nodes.map encNode)], vI i, vI w, vI h] (vB true, []) := by
  obtain ⟨r, hr, hs⟩ := szTree_spec hw
  refine lift ?_
  by_cases h0 : r < 0
  · exact l_FnExactAskFor.w1 nodes i w h r (by rw [decide_eq_true_eq]; exact h0) hr
  · have hs := hs.resolve_left h0
    have ho := tsz_ok hs
    have hq : tsz (askFor nodes i w h).1 ≤ 1048576 := Nat.le_trans tsz_ask hs
    have hqo := tsz_ok hq
    have g1 := kAt_ge (k := 1) (nodes := nodes)
    have g2 := kAt_ge (k := 1) (nodes := (askFor nodes i w h).1)
    exact l_FnExactAskFor.w2 nodes i w h r nodes (askFor nodes i w h).1 (askFor nodes i w h).2 nodes (askFor nodes i w h).1 (askFor nodes i w h).2 nodes _ _ _ (markN 1 (askFor nodes i w h).1) _ nodes (askFor nodes i w h).1 (askFor nodes i w h).2 _
      (by rw [decide_eq_false_iff_not]; exact h0) (beq_self_eq_true _) (by rw [decide_eq_false_iff_not]; omega) (by simp [markN_len]) (by rw [decide_eq_false_iff_not]; omega) (bne_self_eq_false _) (beq_self_eq_true _) (by rw [decide_eq_false_iff_not]; omega) (bne_self_eq_false _)
      hr (l_toTree.c nodes ho) (s_AskFor.c nodes i w h ho) (l_toTree.c nodes ho) (i_AskFor.c nodes i w h ho) (l_eqTree.c _ hqo) (l_toTree.c nodes ho) (l_eqTree.c nodes ho) (l_markTree.c hs) (l_eqTree.c _ hqo) (l_markTree.c hq) (l_heldTree.c hq) (l_toTree.c nodes ho) (i_AskFor.c nodes i w h ho) (l_eqTree.c _ hqo) (l_heldTree.c hq)
end Go.Proofs.Ytdgamfanffnhaaa.PI
namespace Go.Proofs.Ytdgamfanffnhaaa
open Go Go.ChangeShapes Go.WideShapes Go.ChangeAt Go.RowKit PI
theorem Try.own : ownKnob Try.prog.godebug = none := by kernel_rfl
theorem Try.laidOut : laidOutB Try.prog = true := by kernel_rfl
set_option maxRecDepth 100000 in
theorem askFor_lifted (os : Os) (started : os.Started) (H : Type) (enc : TypeId × Value → H) :
    ReturnsInHanded {} Try.checked os 3 .any (Rows.fnExactAskForSpec.pre6 enc Try.prog Try.f3 Rows.fnExactAskForRow.domain false) (Rows.fnExactAskForSpec.post enc Try.prog Try.f3 false true false false) := by
  refine returnsInHanded_of_change (C := Try.checked) Try.own started (by kernel_rfl) Try.func3
    (ChangeSpec.witness6 (enc := enc) (C := Try.checked) false ⟨#[], #[.agg #[.slice none 0 0], .int .i64 0, .int .i64 0, .int .i64 0], []⟩ 8 (by kernel_rfl) (by kernel_rfl) (by kernel_rfl) (by kernel_rfl)) ?_
  intro W base args ds gs before hval0 hW hcnd _
  have hval : ∀ (j : Nat) t v, Try.f3.params[j]? = some t → args[j]? = some v → Value.okWide Try.prog W .any base t v := hval0
  have hW' := hW
  obtain ⟨p, q, hA0, hV, rfl, hfz, hnd⟩ := hW
  have hA : DataW.TrodAll enc Try.prog W 0 (fun _ => true) true Try.f3.params.toList args.toList ds p := hA0
  rw [Try.params3] at hA hval
  obtain ⟨v0, v1, v2, v3, d0, d1, d2, d3, p0, p1, p2, p3, rfl, rfl, rfl, h0, h1, h2, h3⟩ := trodAll_four hA
  obtain ⟨rfl, rfl⟩ := trodVars_none hV
  obtain ⟨nodes, hw, r0⟩ := open_tree (P := Try.prog) Try.underlying24 (by kernel_rfl) (hval 0 24 v0 rfl rfl) h0
  obtain ⟨a, rfl, rfl, rfl, wa⟩ := open_int Try.underlying3 (hval 1 3 v1 rfl rfl) h1
  obtain ⟨b, rfl, rfl, rfl, wb⟩ := open_int Try.underlying3 (hval 2 3 v2 rfl rfl) h2
  obtain ⟨c, rfl, rfl, rfl, wc⟩ := open_int Try.underlying3 (hval 3 3 v3 rfl rfl) h3
  clear hA0 hval0
  simp only [List.append_nil] at hW'
  have ro : ∀ n : Int, RoV (hp W) (Rw W) (vI n) (.int .i64 n) := fun n => .sc rfl .nil
  refine (answer (P := Try.prog) (by kernel_rfl) allOk rfl (.cons r0 (.cons (ro a) (.cons (ro b) (.cons (ro c) .nil)))) (law_AskFor hw a b c)).mono fun e W' ⟨he, hb⟩ => ?_
  subst he
  have hlt : ∀ x ∈ p0, x.block < W.heap.size := fun x hx => hW'.lt x hx
  exact ⟨_, rfl, post_of_grown hW' (fun _ _ _ => trodAll_mk1 (shut_bool Try.underlying4 true))
    (fun sp hs => by
      have := trodAll_mk4 (WideElems.Trod_stays (sp' := sp) Try.laidOut (by kernel_rfl) (of_decide_eq_true (by kernel_rfl)) h0 (fun x hx => hb.same (hlt x hx)) (fun x hx => hs x hx)) (shut_int Try.underlying3 wa) (shut_int Try.underlying3 wb) (shut_int Try.underlying3 wc)
      simp only [List.append_nil, List.nil_append] at this
      exact this)
    (fun _ => rfl) hb (ok_one (by kernel_rfl) rfl (okWide_bool_mk Try.underlying4 true))⟩
theorem fnExactAskFor_holds : Rows.FnExactAskForSaid :=
  OpenClaim.holds_of_wide 3 Try.f3 rfl rfl rfl rfl rfl rfl rfl ⟨rfl, rfl, rfl, rfl, rfl⟩ rfl rfl rfl rfl rfl (by kernel_rfl) Try.func3 (by kernel_rfl)
    (of_decide_eq_true (by kernel_rfl)) (by unfold Func.isWrapper; first | (rw [if_pos (by decide +kernel)]; kernel_rfl) | (rw [if_neg (by decide +kernel)]; exact ⟨rfl, rfl⟩))
    (fun os started H enc _ => askFor_lifted os started H enc)
end Go.Proofs.Ytdgamfanffnhaaa
