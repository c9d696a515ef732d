/-
  A part of the proof of FnLayoutTreeSaid: W6, Auto0, Man1, Auto1, Man2, RowKit, Plain1, Man4, Plain2, Man5, Man6, Plain3, Plain4, Man9, Man10, Plain5, Man11.
-/
import Derived.Test.YtdgamfanffnhaaaLayt2
set_option linter.unusedVariables false
set_option linter.unusedSimpArgs false
namespace Go.Proofs.Ytdgamfanffnhaaa.PI
variable {call : Call} {lp : Lp}
open Go
set_option maxRecDepth 100000
set_option linter.unusedVariables false
def s_shrunk.s0 (lines : List (List C)) (n : Int) (outlen : Nat) (r13 : List (List C)) : St := ⟨[(0, .one (.rsl lines)), (2, vI n), (7, .one (.ref 13 outlen))], [(13, .row false 0 r13 none)]⟩
def s_shrunk.e0_0 (x6len outlen : Nat) (r13 : List (List C)) : St := ⟨[(6, .one (.ref 13 x6len)), (7, .one (.ref 13 outlen))], [(13, .row false 0 r13 none)]⟩
def s_shrunk.e0_1 (outlen : Nat) (r13 : List (List C)) : St := ⟨[(7, .one (.ref 13 outlen))], [(13, .row false 0 r13 none)]⟩
abbrev s_shrunk.r0 (call : Call) (lp : Lp) := round call cf lp [0, 2, 7] [13, 15] [6, 7] [6, 13, 15] b167_0
def s_shrunk.s1 (lines : List (List C)) (n : Int) (outlen weightslen : Nat) (i : Int) (r13 r20 : List (List C)) : St := ⟨[(0, .one (.rsl lines)), (2, vI n), (7, .one (.ref 13 outlen)), (8, .one (.ref 20 weightslen)), (9, vI i)], [(13, .row false 0 r13 none), (20, .row false 0 r20 none)]⟩
def s_shrunk.e1_0 (lines : List (List C)) (n : Int) (outlen weightslen : Nat) (r13 r20 : List (List C)) : St := ⟨[(0, .one (.rsl lines)), (2, vI n), (7, .one (.ref 13 outlen)), (8, .one (.ref 20 weightslen))], [(13, .row false 0 r13 none), (20, .row false 0 r20 none)]⟩
abbrev s_shrunk.r1 (call : Call) (lp : Lp) := round call cf lp [0, 2, 7, 8, 9] [13, 15, 20] [0, 2, 6, 7, 8] [6, 13, 15, 20] b167_1
def s_shrunk.s2 (lines : List (List C)) (n : Int) (outlen partslen : Nat) (i : Int) (r13 r1051 : List (List C)) : St := ⟨[(0, .one (.rsl lines)), (2, vI n), (7, .one (.ref 13 outlen)), (10, .one (.ref 1051 partslen)), (11, vI i)], [(13, .row false 0 r13 none), (1051, .row false 0 r1051 none)]⟩
def s_shrunk.e2_0 (lines : List (List C)) (n : Int) (outlen : Nat) (r13 : List (List C)) : St := ⟨[(0, .one (.rsl lines)), (2, vI n), (7, .one (.ref 13 outlen))], [(13, .row false 0 r13 none)]⟩
abbrev s_shrunk.r2 (call : Call) (lp : Lp) := round call cf lp [0, 2, 7, 10, 11] [13, 15, 1051] [0, 2, 6, 7] [6, 13, 15] b167_2
theorem s_shrunk.l0_1 (lines : List (List C)) (n : Int) (outlen : Nat) (r13 lines2 : List (List C)) (n2 : Int) (outlen2 weightslen : Nat) (r132 r20 : List (List C)) (r : Int) (H1 : decide (n > 0) = true) (H2 : decide (0 ≤ (lines.length : Int)) = true) (H3 : decide ((lines.length : Int) ≤ 17592186044416) = true) (H4 : decide (r20.length = weightslen) = true) (H5 : (r == 0) = true) (K1 : call s_total [.one (.rsl r20)] = some (vI r, [])) (L1 : lp (s_shrunk.r1 call lp) (s_shrunk.s1 lines n outlen ((List.replicate (((lines.length : Int)).toNat) zInt).length) 0 r13 (List.replicate (((lines.length : Int)).toNat) zInt)) = some (.exit 2, (s_shrunk.e1_0 lines2 n2 outlen2 weightslen r132 r20))) :
    s_shrunk.r0 call lp (s_shrunk.s0 lines n outlen r13) = some (.ret, (s_shrunk.e0_0 outlen2 outlen2 r132)) :=
  guided_round [true, true] (nd H5 (nd H4 (nd (nd H2 H3) (nd H1 rfl)))) eN (cC K1 cN) (lC L1 lN) (by kernel_rfl)
theorem s_shrunk.l0_2 (lines : List (List C)) (n : Int) (outlen : Nat) (r13 : List (List C)) (H1 : decide (n > 0) = false) :
    s_shrunk.r0 call lp (s_shrunk.s0 lines n outlen r13) = some (.exit 0, (s_shrunk.e0_1 outlen r13)) :=
  guided_round [false] (nd (not_t H1) rfl) eN cN lN (by kernel_rfl)
theorem s_shrunk.l0_3 (lines : List (List C)) (n : Int) (outlen : Nat) (r13 lines2 : List (List C)) (n2 : Int) (outlen2 weightslen : Nat) (r132 r20 : List (List C)) (r : Int) (r2 : List Int) (lines3 : List (List C)) (n3 : Int) (outlen3 : Nat) (r133 : List (List C)) (H1 : decide (n > 0) = true) (H2 : decide (0 ≤ (lines.length : Int)) = true) (H3 : decide ((lines.length : Int) ≤ 17592186044416) = true) (H4 : decide (r20.length = weightslen) = true) (H5 : (r == 0) = false) (K1 : call s_total [.one (.rsl r20)] = some (vI r, [])) (K2 : call s_spread [vI n2, .one (.rsl r20)] = some (.one (.sl (r2.map encInt)), [])) (L1 : lp (s_shrunk.r1 call lp) (s_shrunk.s1 lines n outlen ((List.replicate (((lines.length : Int)).toNat) zInt).length) 0 r13 (List.replicate (((lines.length : Int)).toNat) zInt)) = some (.exit 2, (s_shrunk.e1_0 lines2 n2 outlen2 weightslen r132 r20))) (L2 : lp (s_shrunk.r2 call lp) (s_shrunk.s2 lines2 n2 outlen2 ((r2.map encInt).length) 0 r132 (r2.map encInt)) = some (.exit 4, (s_shrunk.e2_0 lines3 n3 outlen3 r133))) :
    s_shrunk.r0 call lp (s_shrunk.s0 lines n outlen r13) = some (.normal, (s_shrunk.s0 lines3 n3 outlen3 r133)) :=
  guided_round [true, false] (nd H4 (nd (not_t H5) (nd H4 (nd (nd H2 H3) (nd H1 rfl))))) eN (cC K2 (cC K1 cN)) (lC L2 (lC L1 lN)) (by kernel_rfl)
theorem s_shrunk.l1_1 (lines : List (List C)) (n : Int) (outlen weightslen : Nat) (i : Int) (r13 r20 : List (List C)) (e : Int) (e2 : Line) (e3 : Int) (H1 : decide (i < (lines.length : Int)) = true) (H2 : decide (r13.length = outlen) = true) (H3 : decide (0 ≤ i) = true) (H4 : decide (i < (outlen : Int)) = true) (H5 : decide (0 + outlen ≤ outlen) = true) (H6 : decide (e > e2.min) = true) (H7 : decide (r20.length = weightslen) = true) (H8 : decide (i < (weightslen : Int)) = true) (H9 : decide (0 + weightslen ≤ weightslen) = true) (E1 : r13[(i).toNat]? = some [.int .i64 e]) (E2 : lines[(i).toNat]? = some (encLine e2)) (E3 : r20[(i).toNat]? = some [.int .i64 e3]) :
    s_shrunk.r1 call lp (s_shrunk.s1 lines n outlen weightslen i r13 r20) = some (.normal, (s_shrunk.s1 lines n outlen weightslen (w64 (i + 1)) r13 (r20.set ((i).toNat) [C.int .i64 e2.weight]))) :=
  guided_round [true, true] (nd H7 (nd (nd H7 (nd H3 (nd H8 H9))) (nd H3 (nd H6 (nd H3 (nd H2 (nd (nd H2 (nd H3 (nd H4 H5))) (nd H1 rfl)))))))) (eC E3 (eC E3 (eC E2 (eC E2 (eC E1 (eC E1 eN)))))) cN lN (by kernel_rfl)
theorem s_shrunk.l1_2 (lines : List (List C)) (n : Int) (outlen weightslen : Nat) (i : Int) (r13 r20 : List (List C)) (H1 : decide (i < (lines.length : Int)) = false) :
    s_shrunk.r1 call lp (s_shrunk.s1 lines n outlen weightslen i r13 r20) = some (.exit 2, (s_shrunk.e1_0 lines n outlen weightslen r13 r20)) :=
  guided_round [false] (nd (not_t H1) rfl) eN cN lN (by kernel_rfl)
theorem s_shrunk.l1_3 (lines : List (List C)) (n : Int) (outlen weightslen : Nat) (i : Int) (r13 r20 : List (List C)) (e : Int) (e2 : Line) (H1 : decide (i < (lines.length : Int)) = true) (H2 : decide (r13.length = outlen) = true) (H3 : decide (0 ≤ i) = true) (H4 : decide (i < (outlen : Int)) = true) (H5 : decide (0 + outlen ≤ outlen) = true) (H6 : decide (e > e2.min) = false) (E1 : r13[(i).toNat]? = some [.int .i64 e]) (E2 : lines[(i).toNat]? = some (encLine e2)) :
    s_shrunk.r1 call lp (s_shrunk.s1 lines n outlen weightslen i r13 r20) = some (.normal, (s_shrunk.s1 lines n outlen weightslen (w64 (i + 1)) r13 r20)) :=
  guided_round [true, false] (nd (not_t H6) (nd H3 (nd H2 (nd (nd H2 (nd H3 (nd H4 H5))) (nd H1 rfl))))) (eC E2 (eC E1 (eC E1 eN))) cN lN (by kernel_rfl)
theorem s_shrunk.l2_1 (lines : List (List C)) (n : Int) (outlen partslen : Nat) (i : Int) (r13 r1051 : List (List C)) (e e2 : Int) (e3 : Line) (H1 : decide (i < (partslen : Int)) = true) (H2 : decide (r1051.length = partslen) = true) (H3 : decide (0 ≤ i) = true) (H4 : decide (0 + partslen ≤ partslen) = true) (H5 : decide (r13.length = outlen) = true) (H6 : decide (i < (outlen : Int)) = true) (H7 : decide (0 + outlen ≤ outlen) = true) (E1 : r1051[(i).toNat]? = some [.int .i64 e]) (E2 : r13[(i).toNat]? = some [.int .i64 e2]) (E3 : lines[(i).toNat]? = some (encLine e3)) :
    s_shrunk.r2 call lp (s_shrunk.s2 lines n outlen partslen i r13 r1051) = some (.normal, (s_shrunk.s2 lines (w64 (n - (mn2 e (w64 (e2 - e3.min))))) outlen partslen (w64 (i + 1)) (r13.set ((i).toNat) [C.int .i64 (w64 (e2 - (mn2 e (w64 (e2 - e3.min)))))]) r1051)) :=
  guided_round [true] (nd H5 (nd (nd H5 (nd H3 (nd H6 H7))) (nd H5 (nd (nd H5 (nd H3 (nd H6 H7))) (nd H3 (nd H5 (nd (nd H5 (nd H3 (nd H6 H7))) (nd H2 (nd (nd H2 (nd H3 (nd H1 H4))) (nd H1 rfl)))))))))) (eC E2 (eC E2 (eC E2 (eC E2 (eC E3 (eC E2 (eC E2 (eC E1 (eC E1 eN))))))))) cN lN (by kernel_rfl)
theorem s_shrunk.l2_2 (lines : List (List C)) (n : Int) (outlen partslen : Nat) (i : Int) (r13 r1051 : List (List C)) (H1 : decide (i < (partslen : Int)) = false) :
    s_shrunk.r2 call lp (s_shrunk.s2 lines n outlen partslen i r13 r1051) = some (.exit 4, (s_shrunk.e2_0 lines n outlen r13)) :=
  guided_round [false] (nd (not_t H1) rfl) eN cN lN (by kernel_rfl)
theorem s_shrunk.w1 (lines : List Line) (sizes : List Int) (n : Int) (x6len outlen : Nat) (r13 : List (List C)) (H1 : ((sizes.map encInt).all (·.all C.scalar)) = true) (H2 : (uni 1 (sizes.map encInt)) = true) (H3 : decide (0 + ((sizes.map encInt).length) ≤ 17592186044416) = true) (H4 : decide (r13.length = x6len) = true) (L1 : lp (s_shrunk.r0 call lp) (s_shrunk.s0 (lines.map encLine) n (([] ++ (sizes.map encInt)).length) ([] ++ (sizes.map encInt))) = some (.ret, (s_shrunk.e0_0 x6len outlen r13))) :
    pfun funcs own call lp s_shrunk [.one (.rsl (lines.map encLine)), .one (.rsl (sizes.map encInt)), vI n] = some (.one (.sl r13), []) :=
  guided_fun (cfg := cf) [] (nd (nd H4 rfl) (nd (nd H2 H3) (nd H1 rfl))) eN cN (lC L1 lN) (by kernel_rfl)
theorem s_shrunk.w2 (lines : List Line) (sizes : List Int) (n : Int) (outlen : Nat) (r13 : List (List C)) (H1 : ((sizes.map encInt).all (·.all C.scalar)) = true) (H2 : (uni 1 (sizes.map encInt)) = true) (H3 : decide (0 + ((sizes.map encInt).length) ≤ 17592186044416) = true) (H4 : decide (r13.length = outlen) = true) (L1 : lp (s_shrunk.r0 call lp) (s_shrunk.s0 (lines.map encLine) n (([] ++ (sizes.map encInt)).length) ([] ++ (sizes.map encInt))) = some (.exit 0, (s_shrunk.e0_1 outlen r13))) :
    pfun funcs own call lp s_shrunk [.one (.rsl (lines.map encLine)), .one (.rsl (sizes.map encInt)), vI n] = some (.one (.sl r13), []) :=
  guided_fun (cfg := cf) [] (nd (nd H4 rfl) (nd (nd H2 H3) (nd H1 rfl))) eN cN (lC L1 lN) (by kernel_rfl)
theorem s_half.w1 (room n : Int) (H1 : decide (room < 0) = true) :
    pfun funcs own call lp s_half [vI room, vI n] = some (vI 0, []) :=
  guided_fun (cfg := cf) [true] (nd H1 rfl) eN cN lN (by kernel_rfl)
theorem s_half.w2 (room n : Int) (H1 : decide (room < 0) = false) (H2 : decide (n ≠ 0) = true) :
    pfun funcs own call lp s_half [vI room, vI n] = some (vI (w64 (Int.tdiv room n)), []) :=
  guided_fun (cfg := cf) [false] (nd H2 (nd (not_t H1) rfl)) eN cN lN (by kernel_rfl)
end Go.Proofs.Ytdgamfanffnhaaa.PI
namespace Go.Proofs.Ytdgamfanffnhaaa.PI
open Go
set_option maxRecDepth 100000
set_option linter.unusedVariables false
def l_room.m (w : Int) (h : Int) : Rect := (⟨0, 0, w, h⟩ : Rect)
theorem l_room.c (w : Int) (h : Int) : PC l_room [vI w, vI h] (.agg (encRect (l_room.m w h)), []) := by
  refine lift ?_
  unfold l_room.m
  exact l_room.w1 _ _
def i_within.m (n : Int) (low : Int) (high : Int) : Bool := (bif decide (n ≥ low) then decide (n ≤ high) else false)
theorem i_within.c (n : Int) (low : Int) (high : Int) : PC i_within [vI n, vI low, vI high] (vB (i_within.m n low high), []) := by
  refine lift ?_
  unfold i_within.m
  cases h1 : (decide (n ≥ low)) with
  | true =>
    exact i_within.w1 _ _ _ (H1 := h1)
  | false =>
    exact i_within.w2 _ _ _ (H1 := h1)
def i_sizeOk.m (w : Int) (h : Int) : Bool := (bif (i_within.m w 0 400) then (i_within.m h 0 400) else false)
theorem i_sizeOk.c (w : Int) (h : Int) : PC i_sizeOk [vI w, vI h] (vB (i_sizeOk.m w h), []) := by
  refine lift ?_
  unfold i_sizeOk.m
  cases h1 : (i_within.m w 0 400) with
  | true =>
    exact i_sizeOk.w1 _ _ _ (K1 := (i_within.c w 0 400).trans (by rw [h1])) (K2 := (i_within.c h 0 400))
  | false =>
    exact i_sizeOk.w2 _ _ (K1 := (i_within.c w 0 400).trans (by rw [h1]))
def s_inRange.m (n : Int) (low : Int) (high : Int) : Bool := (bif decide (low ≤ n) then decide (n ≤ high) else false)
theorem s_inRange.c (n : Int) (low : Int) (high : Int) : PC s_inRange [vI n, vI low, vI high] (vB (s_inRange.m n low high), []) := by
  refine lift ?_
  unfold s_inRange.m
  cases h1 : (decide (low ≤ n)) with
  | true =>
    exact s_inRange.w1 _ _ _ (H1 := h1)
  | false =>
    exact s_inRange.w2 _ _ _ (H1 := h1)
def i_ValidPack.m (p : Pack) : Bool := (bif (i_within.m p.w 0 30) then (bif (i_within.m p.h 0 30) then (bif (i_within.m p.side 0 3) then (bif (i_within.m p.anchor 0 8) then (bif (i_within.m p.padX 0 10) then (i_within.m p.padY 0 10) else false) else false) else false) else false) else false)
theorem i_ValidPack.c (p : Pack) : PC i_ValidPack [.agg (encPack p)] (vB (i_ValidPack.m p), []) := by
  refine lift ?_
  unfold i_ValidPack.m
  cases h1 : (i_within.m p.w 0 30) with
  | true =>
    cases h2 : (i_within.m p.h 0 30) with
    | true =>
      cases h3 : (i_within.m p.side 0 3) with
      | true =>
        cases h4 : (i_within.m p.anchor 0 8) with
        | true =>
          cases h5 : (i_within.m p.padX 0 10) with
          | true =>
            exact i_ValidPack.w1 _ _ (K1 := (i_within.c p.w 0 30).trans (by rw [h1])) (K2 := (i_within.c p.h 0 30).trans (by rw [h2])) (K3 := (i_within.c p.side 0 3).trans (by rw [h3])) (K4 := (i_within.c p.anchor 0 8).trans (by rw [h4])) (K5 := (i_within.c p.padX 0 10).trans (by rw [h5])) (K6 := (i_within.c p.padY 0 10))
          | false =>
            exact i_ValidPack.w6 _ (K1 := (i_within.c p.w 0 30).trans (by rw [h1])) (K2 := (i_within.c p.h 0 30).trans (by rw [h2])) (K3 := (i_within.c p.side 0 3).trans (by rw [h3])) (K4 := (i_within.c p.anchor 0 8).trans (by rw [h4])) (K5 := (i_within.c p.padX 0 10).trans (by rw [h5]))
        | false =>
          exact i_ValidPack.w5 _ (K1 := (i_within.c p.w 0 30).trans (by rw [h1])) (K2 := (i_within.c p.h 0 30).trans (by rw [h2])) (K3 := (i_within.c p.side 0 3).trans (by rw [h3])) (K4 := (i_within.c p.anchor 0 8).trans (by rw [h4]))
      | false =>
        exact i_ValidPack.w4 _ (K1 := (i_within.c p.w 0 30).trans (by rw [h1])) (K2 := (i_within.c p.h 0 30).trans (by rw [h2])) (K3 := (i_within.c p.side 0 3).trans (by rw [h3]))
    | false =>
      exact i_ValidPack.w3 _ (K1 := (i_within.c p.w 0 30).trans (by rw [h1])) (K2 := (i_within.c p.h 0 30).trans (by rw [h2]))
  | false =>
    exact i_ValidPack.w2 _ (K1 := (i_within.c p.w 0 30).trans (by rw [h1]))
def i_spanOk.m (at_ : Int) (many : Int) (lines : Int) : Bool := (bif (i_within.m at_ 0 (w64 (lines - 1))) then (i_within.m many 1 (w64 (lines - at_))) else false)
theorem i_spanOk.c (at_ : Int) (many : Int) (lines : Int) : PC i_spanOk [vI at_, vI many, vI lines] (vB (i_spanOk.m at_ many lines), []) := by
  refine lift ?_
  unfold i_spanOk.m
  cases h1 : (i_within.m at_ 0 (w64 (lines - 1))) with
  | true =>
    exact i_spanOk.w1 _ _ _ _ (K1 := (i_within.c at_ 0 (w64 (lines - 1))).trans (by rw [h1])) (K2 := (i_within.c many 1 (w64 (lines - at_))))
  | false =>
    exact i_spanOk.w2 _ _ _ (K1 := (i_within.c at_ 0 (w64 (lines - 1))).trans (by rw [h1]))
def i_Pack_needs.m (p : Pack) : Int × Int := (w64 (p.w + (w64 (2 * p.padX))), w64 (p.h + (w64 (2 * p.padY))))
theorem i_Pack_needs.c (p : Pack) : PC i_Pack_needs [.agg (encPack p)] (.tup [vI ((i_Pack_needs.m p).1), vI ((i_Pack_needs.m p).2)], []) := by
  refine lift ?_
  unfold i_Pack_needs.m
  exact i_Pack_needs.w1 _
def i_Pack_down.m (p : Pack) : Bool := (bif (p.side == 0) then true else (p.side == 1))
theorem i_Pack_down.c (p : Pack) : PC i_Pack_down [.agg (encPack p)] (vB (i_Pack_down.m p), []) := by
  refine lift ?_
  unfold i_Pack_down.m
  cases h1 : (p.side == 0) with
  | true =>
    exact i_Pack_down.w1 _ (H1 := h1)
  | false =>
    exact i_Pack_down.w2 _ (H1 := h1)
def i_Rect_inset.m (r : Rect) (px : Int) (py : Int) : Rect := (⟨w64 (r.x + (mn2 px (w64 (Int.tdiv r.w 2)))), w64 (r.y + (mn2 py (w64 (Int.tdiv r.h 2)))), mx2 (w64 (r.w - (w64 (2 * px)))) 0, mx2 (w64 (r.h - (w64 (2 * py)))) 0⟩ : Rect)
theorem i_Rect_inset.c (r : Rect) (px : Int) (py : Int) : PC i_Rect_inset [.agg (encRect r), vI px, vI py] (.agg (encRect (i_Rect_inset.m r px py)), []) := by
  refine lift ?_
  unfold i_Rect_inset.m
  exact i_Rect_inset.w1 _ _ _
def i_stuck.m (room : Int) (size : Int) (first : Bool) (last : Bool) : Int × Int := (bif first then (bif last then (0, room) else (0, mn2 size room)) else (bif last then (w64 (room - (mn2 size room)), mn2 size room) else (w64 (Int.tdiv (w64 (room - (mn2 size room))) 2), mn2 size room)))
theorem i_stuck.c (room : Int) (size : Int) (first : Bool) (last : Bool) : PC i_stuck [vI room, vI size, vB first, vB last] (.tup [vI ((i_stuck.m room size first last).1), vI ((i_stuck.m room size first last).2)], []) := by
  refine lift ?_
  unfold i_stuck.m
  cases h1 : first with
  | true =>
    cases h2 : last with
    | true =>
      exact i_stuck.w1 _ _
    | false =>
      exact i_stuck.w4 _ _
  | false =>
    cases h3 : last with
    | true =>
      exact i_stuck.w2 _ _
    | false =>
      exact i_stuck.w3 _ _
def i_part.m (left : Int) (where_ : Int) : Int := w64 (Int.tdiv (w64 (left * where_)) 2)
theorem i_part.c (left : Int) (where_ : Int) : PC i_part [vI left, vI where_] (vI (i_part.m left where_), []) := by
  refine lift ?_
  unfold i_part.m
  exact i_part.w1 _ _
def s_validCell.m (cols : List Line) (rows : List Line) (cells : List Cell) (c : Cell) : Bool := (bif (s_inRange.m c.col 0 (w64 ((((cols.map encLine).length : Nat) : Int) - 1))) then (bif (s_inRange.m c.row 0 (w64 ((((rows.map encLine).length : Nat) : Int) - 1))) then (bif (s_inRange.m c.manyCols 1 (w64 ((((cols.map encLine).length : Nat) : Int) - c.col))) then (bif (s_inRange.m c.manyRows 1 (w64 ((((rows.map encLine).length : Nat) : Int) - c.row))) then (bif (s_inRange.m c.w 0 30) then (bif (s_inRange.m c.h 0 30) then (bif (s_inRange.m c.stick 0 15) then (bif (s_inRange.m c.padX 0 10) then (s_inRange.m c.padY 0 10) else false) else false) else false) else false) else false) else false) else false) else false)
theorem s_validCell.c (cols : List Line) (rows : List Line) (cells : List Cell) (c : Cell) : PC s_validCell [.agg [.rsl (cols.map encLine), .rsl (rows.map encLine), .rsl (cells.map encCell)], .agg (encCell c)] (vB (s_validCell.m cols rows cells c), []) := by
  refine lift ?_
  unfold s_validCell.m
  cases h1 : (s_inRange.m c.col 0 (w64 ((((cols.map encLine).length : Nat) : Int) - 1))) with
  | true =>
    cases h2 : (s_inRange.m c.row 0 (w64 ((((rows.map encLine).length : Nat) : Int) - 1))) with
    | true =>
      cases h3 : (s_inRange.m c.manyCols 1 (w64 ((((cols.map encLine).length : Nat) : Int) - c.col))) with
      | true =>
        cases h4 : (s_inRange.m c.manyRows 1 (w64 ((((rows.map encLine).length : Nat) : Int) - c.row))) with
        | true =>
          cases h5 : (s_inRange.m c.w 0 30) with
          | true =>
            cases h6 : (s_inRange.m c.h 0 30) with
            | true =>
              cases h7 : (s_inRange.m c.stick 0 15) with
              | true =>
                cases h8 : (s_inRange.m c.padX 0 10) with
                | true =>
                  exact s_validCell.w1 _ _ _ _ _ (K1 := (s_inRange.c c.col 0 (w64 ((((cols.map encLine).length : Nat) : Int) - 1))).trans (by rw [h1])) (K2 := (s_inRange.c c.row 0 (w64 ((((rows.map encLine).length : Nat) : Int) - 1))).trans (by rw [h2])) (K3 := (s_inRange.c c.manyCols 1 (w64 ((((cols.map encLine).length : Nat) : Int) - c.col))).trans (by rw [h3])) (K4 := (s_inRange.c c.manyRows 1 (w64 ((((rows.map encLine).length : Nat) : Int) - c.row))).trans (by rw [h4])) (K5 := (s_inRange.c c.w 0 30).trans (by rw [h5])) (K6 := (s_inRange.c c.h 0 30).trans (by rw [h6])) (K7 := (s_inRange.c c.stick 0 15).trans (by rw [h7])) (K8 := (s_inRange.c c.padX 0 10).trans (by rw [h8])) (K9 := (s_inRange.c c.padY 0 10))
                | false =>
                  exact s_validCell.w9 _ _ _ _ (K1 := (s_inRange.c c.col 0 (w64 ((((cols.map encLine).length : Nat) : Int) - 1))).trans (by rw [h1])) (K2 := (s_inRange.c c.row 0 (w64 ((((rows.map encLine).length : Nat) : Int) - 1))).trans (by rw [h2])) (K3 := (s_inRange.c c.manyCols 1 (w64 ((((cols.map encLine).length : Nat) : Int) - c.col))).trans (by rw [h3])) (K4 := (s_inRange.c c.manyRows 1 (w64 ((((rows.map encLine).length : Nat) : Int) - c.row))).trans (by rw [h4])) (K5 := (s_inRange.c c.w 0 30).trans (by rw [h5])) (K6 := (s_inRange.c c.h 0 30).trans (by rw [h6])) (K7 := (s_inRange.c c.stick 0 15).trans (by rw [h7])) (K8 := (s_inRange.c c.padX 0 10).trans (by rw [h8]))
              | false =>
                exact s_validCell.w8 _ _ _ _ (K1 := (s_inRange.c c.col 0 (w64 ((((cols.map encLine).length : Nat) : Int) - 1))).trans (by rw [h1])) (K2 := (s_inRange.c c.row 0 (w64 ((((rows.map encLine).length : Nat) : Int) - 1))).trans (by rw [h2])) (K3 := (s_inRange.c c.manyCols 1 (w64 ((((cols.map encLine).length : Nat) : Int) - c.col))).trans (by rw [h3])) (K4 := (s_inRange.c c.manyRows 1 (w64 ((((rows.map encLine).length : Nat) : Int) - c.row))).trans (by rw [h4])) (K5 := (s_inRange.c c.w 0 30).trans (by rw [h5])) (K6 := (s_inRange.c c.h 0 30).trans (by rw [h6])) (K7 := (s_inRange.c c.stick 0 15).trans (by rw [h7]))
            | false =>
              exact s_validCell.w7 _ _ _ _ (K1 := (s_inRange.c c.col 0 (w64 ((((cols.map encLine).length : Nat) : Int) - 1))).trans (by rw [h1])) (K2 := (s_inRange.c c.row 0 (w64 ((((rows.map encLine).length : Nat) : Int) - 1))).trans (by rw [h2])) (K3 := (s_inRange.c c.manyCols 1 (w64 ((((cols.map encLine).length : Nat) : Int) - c.col))).trans (by rw [h3])) (K4 := (s_inRange.c c.manyRows 1 (w64 ((((rows.map encLine).length : Nat) : Int) - c.row))).trans (by rw [h4])) (K5 := (s_inRange.c c.w 0 30).trans (by rw [h5])) (K6 := (s_inRange.c c.h 0 30).trans (by rw [h6]))
          | false =>
            exact s_validCell.w6 _ _ _ _ (K1 := (s_inRange.c c.col 0 (w64 ((((cols.map encLine).length : Nat) : Int) - 1))).trans (by rw [h1])) (K2 := (s_inRange.c c.row 0 (w64 ((((rows.map encLine).length : Nat) : Int) - 1))).trans (by rw [h2])) (K3 := (s_inRange.c c.manyCols 1 (w64 ((((cols.map encLine).length : Nat) : Int) - c.col))).trans (by rw [h3])) (K4 := (s_inRange.c c.manyRows 1 (w64 ((((rows.map encLine).length : Nat) : Int) - c.row))).trans (by rw [h4])) (K5 := (s_inRange.c c.w 0 30).trans (by rw [h5]))
        | false =>
          exact s_validCell.w5 _ _ _ _ (K1 := (s_inRange.c c.col 0 (w64 ((((cols.map encLine).length : Nat) : Int) - 1))).trans (by rw [h1])) (K2 := (s_inRange.c c.row 0 (w64 ((((rows.map encLine).length : Nat) : Int) - 1))).trans (by rw [h2])) (K3 := (s_inRange.c c.manyCols 1 (w64 ((((cols.map encLine).length : Nat) : Int) - c.col))).trans (by rw [h3])) (K4 := (s_inRange.c c.manyRows 1 (w64 ((((rows.map encLine).length : Nat) : Int) - c.row))).trans (by rw [h4]))
      | false =>
        exact s_validCell.w4 _ _ _ _ (K1 := (s_inRange.c c.col 0 (w64 ((((cols.map encLine).length : Nat) : Int) - 1))).trans (by rw [h1])) (K2 := (s_inRange.c c.row 0 (w64 ((((rows.map encLine).length : Nat) : Int) - 1))).trans (by rw [h2])) (K3 := (s_inRange.c c.manyCols 1 (w64 ((((cols.map encLine).length : Nat) : Int) - c.col))).trans (by rw [h3]))
    | false =>
      exact s_validCell.w3 _ _ _ _ (K1 := (s_inRange.c c.col 0 (w64 ((((cols.map encLine).length : Nat) : Int) - 1))).trans (by rw [h1])) (K2 := (s_inRange.c c.row 0 (w64 ((((rows.map encLine).length : Nat) : Int) - 1))).trans (by rw [h2]))
  | false =>
    exact s_validCell.w2 _ _ _ _ (K1 := (s_inRange.c c.col 0 (w64 ((((cols.map encLine).length : Nat) : Int) - 1))).trans (by rw [h1]))
def s_outer.m (p : Pack) : Int × Int := (w64 (p.w + (w64 (2 * p.padX))), w64 (p.h + (w64 (2 * p.padY))))
theorem s_outer.c (p : Pack) : PC s_outer [.agg (encPack p)] (.tup [vI ((s_outer.m p).1), vI ((s_outer.m p).2)], []) := by
  refine lift ?_
  unfold s_outer.m
  exact s_outer.w1 _
def s_upright.m (side : Int) : Bool := (bif (side == 0) then true else (side == 1))
theorem s_upright.c (side : Int) : PC s_upright [vI side] (vB (s_upright.m side), []) := by
  refine lift ?_
  unfold s_upright.m
  cases h1 : (side == 0) with
  | true =>
    exact s_upright.w1 _ (H1 := h1)
  | false =>
    exact s_upright.w2 _ (H1 := h1)
def i_linesOk_1.m (l : Line) : Bool := (bif (i_within.m l.weight 0 5) then (!(i_within.m l.min 0 30)) else true)
theorem i_linesOk_1.c (l : Line) : PC i_linesOk_1 [.agg (encLine l)] (vB (i_linesOk_1.m l), []) := by
  refine lift ?_
  unfold i_linesOk_1.m
  cases h1 : (i_within.m l.weight 0 5) with
  | true =>
    exact i_linesOk_1.w2 _ _ (K1 := (i_within.c l.weight 0 5).trans (by rw [h1])) (K2 := (i_within.c l.min 0 30))
  | false =>
    exact i_linesOk_1.w1 _ (K1 := (i_within.c l.weight 0 5).trans (by rw [h1]))
def i_Pack_need.m (p : Pack) (down : Bool) : Int := (bif down then (i_Pack_needs.m p).2 else (i_Pack_needs.m p).1)
theorem i_Pack_need.c (p : Pack) (down : Bool) : PC i_Pack_need [.agg (encPack p), vB down] (vI (i_Pack_need.m p down), []) := by
  refine lift ?_
  unfold i_Pack_need.m
  cases h1 : down with
  | true =>
    exact i_Pack_need.w1 _ _ _ (K1 := (i_Pack_needs.c p))
  | false =>
    exact i_Pack_need.w2 _ _ _ (K1 := (i_Pack_needs.c p))
def i_Rect_cut.m (r : Rect) (side : Int) (n : Int) : Rect × Rect := (bif (side == 0) then ((⟨r.x, r.y, r.w, mn2 n r.h⟩ : Rect), (⟨r.x, w64 (r.y + (mn2 n r.h)), r.w, w64 (r.h - (mn2 n r.h))⟩ : Rect)) else (bif (side == 1) then ((⟨r.x, w64 (r.y + (w64 (r.h - (mn2 n r.h)))), r.w, mn2 n r.h⟩ : Rect), (⟨r.x, r.y, r.w, w64 (r.h - (mn2 n r.h))⟩ : Rect)) else (bif (side == 2) then ((⟨r.x, r.y, mn2 n r.w, r.h⟩ : Rect), (⟨w64 (r.x + (mn2 n r.w)), r.y, w64 (r.w - (mn2 n r.w)), r.h⟩ : Rect)) else ((⟨w64 (r.x + (w64 (r.w - (mn2 n r.w)))), r.y, mn2 n r.w, r.h⟩ : Rect), (⟨r.x, r.y, w64 (r.w - (mn2 n r.w)), r.h⟩ : Rect)))))
theorem i_Rect_cut.c (r : Rect) (side : Int) (n : Int) : PC i_Rect_cut [.agg (encRect r), vI side, vI n] (.tup [.agg (encRect ((i_Rect_cut.m r side n).1)), .agg (encRect ((i_Rect_cut.m r side n).2))], []) := by
  refine lift ?_
  unfold i_Rect_cut.m
  cases h1 : (side == 0) with
  | true =>
    exact i_Rect_cut.w1 _ _ _ (H1 := h1)
  | false =>
    cases h2 : (side == 1) with
    | true =>
      exact i_Rect_cut.w2 _ _ _ (H1 := h1) (H2 := h2)
    | false =>
      cases h3 : (side == 2) with
      | true =>
        exact i_Rect_cut.w3 _ _ _ (H1 := h1) (H2 := h2) (H3 := h3)
      | false =>
        exact i_Rect_cut.w4 _ _ _ (H1 := h1) (H2 := h2) (H3 := h3)
def s_validSide.m (side : Int) : Bool := (s_inRange.m side 0 3)
theorem s_validSide.c (side : Int) : PC s_validSide [vI side] (vB (s_validSide.m side), []) := by
  refine lift ?_
  unfold s_validSide.m
  exact s_validSide.w1 _ _ (K1 := (s_inRange.c side 0 3))
def s_validAnchor.m (anchor : Int) : Bool := (s_inRange.m anchor 0 8)
theorem s_validAnchor.c (anchor : Int) : PC s_validAnchor [vI anchor] (vB (s_validAnchor.m anchor), []) := by
  refine lift ?_
  unfold s_validAnchor.m
  exact s_validAnchor.w1 _ _ (K1 := (s_inRange.c anchor 0 8))
def s_validLine.m (l : Line) : Bool := (bif (s_inRange.m l.weight 0 5) then (s_inRange.m l.min 0 30) else false)
theorem s_validLine.c (l : Line) : PC s_validLine [.agg (encLine l)] (vB (s_validLine.m l), []) := by
  refine lift ?_
  unfold s_validLine.m
  cases h1 : (s_inRange.m l.weight 0 5) with
  | true =>
    exact s_validLine.w1 _ _ (K1 := (s_inRange.c l.weight 0 5).trans (by rw [h1])) (K2 := (s_inRange.c l.min 0 30))
  | false =>
    exact s_validLine.w2 _ (K1 := (s_inRange.c l.weight 0 5).trans (by rw [h1]))
def s_inset.m (r : Rect) (px : Int) (py : Int) : Rect := (⟨w64 (r.x + (mn2 px (w64 (Int.tdiv r.w 2)))), w64 (r.y + (mn2 py (w64 (Int.tdiv r.h 2)))), mx2 0 (w64 (r.w - (w64 (2 * px)))), mx2 0 (w64 (r.h - (w64 (2 * py))))⟩ : Rect)
theorem s_inset.c (r : Rect) (px : Int) (py : Int) : PC s_inset [.agg (encRect r), vI px, vI py] (.agg (encRect (s_inset.m r px py)), []) := by
  refine lift ?_
  unfold s_inset.m
  exact s_inset.w1 _ _ _
def s_stuck.m (at_ : Int) (room : Int) (wish : Int) (low : Bool) (high : Bool) : Int × Int := (bif low then (bif high then (at_, room) else (at_, mn2 wish room)) else (bif high then (w64 ((w64 (at_ + room)) - (mn2 wish room)), mn2 wish room) else (w64 (at_ + (w64 (Int.tdiv (w64 (room - (mn2 wish room))) 2))), mn2 wish room)))
theorem s_stuck.c (at_ : Int) (room : Int) (wish : Int) (low : Bool) (high : Bool) : PC s_stuck [vI at_, vI room, vI wish, vB low, vB high] (.tup [vI ((s_stuck.m at_ room wish low high).1), vI ((s_stuck.m at_ room wish low high).2)], []) := by
  refine lift ?_
  unfold s_stuck.m
  cases h1 : low with
  | true =>
    cases h2 : high with
    | true =>
      exact s_stuck.w1 _ _ _
    | false =>
      exact s_stuck.w4 _ _ _
  | false =>
    cases h3 : high with
    | true =>
      exact s_stuck.w2 _ _ _
    | false =>
      exact s_stuck.w3 _ _ _
def s_part.m (n : Int) (rel : Int) : Int := w64 (Int.tdiv (w64 (n * rel)) 1000)
theorem s_part.c (n : Int) (rel : Int) : PC s_part [vI n, vI rel] (vI (s_part.m n rel), []) := by
  refine lift ?_
  unfold s_part.m
  exact s_part.w1 _ _
def s_cut.m (r : Rect) (side : Int) (n : Int) : Rect × Rect := (bif (side == 0) then ((⟨r.x, r.y, r.w, mn2 n r.h⟩ : Rect), (⟨r.x, w64 (r.y + (mn2 n r.h)), r.w, w64 (r.h - (mn2 n r.h))⟩ : Rect)) else (bif (side == 1) then ((⟨r.x, w64 (r.y + (w64 (r.h - (mn2 n r.h)))), r.w, mn2 n r.h⟩ : Rect), (⟨r.x, r.y, r.w, w64 (r.h - (mn2 n r.h))⟩ : Rect)) else (bif (side == 2) then ((⟨r.x, r.y, mn2 n r.w, r.h⟩ : Rect), (⟨w64 (r.x + (mn2 n r.w)), r.y, w64 (r.w - (mn2 n r.w)), r.h⟩ : Rect)) else ((⟨w64 (r.x + (w64 (r.w - (mn2 n r.w)))), r.y, mn2 n r.w, r.h⟩ : Rect), (⟨r.x, r.y, w64 (r.w - (mn2 n r.w)), r.h⟩ : Rect)))))
theorem s_cut.c (r : Rect) (side : Int) (n : Int) : PC s_cut [.agg (encRect r), vI side, vI n] (.tup [.agg (encRect ((s_cut.m r side n).1)), .agg (encRect ((s_cut.m r side n).2))], []) := by
  refine lift ?_
  unfold s_cut.m
  cases h1 : (side == 0) with
  | true =>
    exact s_cut.w1 _ _ _ (H1 := h1)
  | false =>
    cases h2 : (side == 1) with
    | true =>
      exact s_cut.w2 _ _ _ (H1 := h1) (H2 := h2)
    | false =>
      cases h3 : (side == 2) with
      | true =>
        exact s_cut.w3 _ _ _ (H1 := h1) (H2 := h2) (H3 := h3)
      | false =>
        exact s_cut.w4 _ _ _ (H1 := h1) (H2 := h2) (H3 := h3)
def s_anchored.m (r : Rect) (w : Int) (h : Int) (anchor : Int) : Rect := (⟨w64 (r.x + (w64 (Int.tdiv (w64 ((w64 (r.w - (mn2 w r.w))) * (Int.tmod anchor 3))) 2))), w64 (r.y + (w64 (Int.tdiv (w64 ((w64 (r.h - (mn2 h r.h))) * (w64 (Int.tdiv anchor 3)))) 2))), mn2 w r.w, mn2 h r.h⟩ : Rect)
theorem s_anchored.c (r : Rect) (w : Int) (h : Int) (anchor : Int) : PC s_anchored [.agg (encRect r), vI w, vI h, vI anchor] (.agg (encRect (s_anchored.m r w h anchor)), []) := by
  refine lift ?_
  unfold s_anchored.m
  exact s_anchored.w1 _ _ _ _
def s_half.m (room : Int) (n : Int) : Int := (bif decide (room < 0) then 0 else w64 (Int.tdiv room n))
theorem s_half.c (room : Int) (n : Int) (G1 : decide (room < 0) = false → decide (n ≠ 0) = true) : PC s_half [vI room, vI n] (vI (s_half.m room n), []) := by
  refine lift ?_
  unfold s_half.m
  cases h1 : (decide (room < 0)) with
  | true =>
    exact s_half.w1 _ _ (H1 := h1)
  | false =>
    exact s_half.w2 _ _ (H1 := h1) (H2 := (G1 h1))
def s_goodRoom.m (w : Int) (h : Int) : Bool := (bif (s_inRange.m w 0 400) then (s_inRange.m h 0 400) else false)
theorem s_goodRoom.c (w : Int) (h : Int) : PC s_goodRoom [vI w, vI h] (vB (s_goodRoom.m w h), []) := by
  refine lift ?_
  unfold s_goodRoom.m
  cases h1 : (s_inRange.m w 0 400) with
  | true =>
    exact s_goodRoom.w1 _ _ _ (K1 := (s_inRange.c w 0 400).trans (by rw [h1])) (K2 := (s_inRange.c h 0 400))
  | false =>
    exact s_goodRoom.w2 _ _ (K1 := (s_inRange.c w 0 400).trans (by rw [h1]))
def i_Cell_lies.m (c : Cell) (cols : List Line) (rows : List Line) (cells : List Cell) : Bool := (bif (i_spanOk.m c.col c.manyCols (((cols.map encLine).length : Nat) : Int)) then (bif (i_spanOk.m c.row c.manyRows (((rows.map encLine).length : Nat) : Int)) then (bif (i_within.m c.stick 0 15) then (bif (i_within.m c.padX 0 10) then (i_within.m c.padY 0 10) else false) else false) else false) else false)
theorem i_Cell_lies.c (c : Cell) (cols : List Line) (rows : List Line) (cells : List Cell) : PC i_Cell_lies [.agg (encCell c), .agg [.rsl (cols.map encLine), .rsl (rows.map encLine), .rsl (cells.map encCell)]] (vB (i_Cell_lies.m c cols rows cells), []) := by
  refine lift ?_
  unfold i_Cell_lies.m
  cases h1 : (i_spanOk.m c.col c.manyCols (((cols.map encLine).length : Nat) : Int)) with
  | true =>
    cases h2 : (i_spanOk.m c.row c.manyRows (((rows.map encLine).length : Nat) : Int)) with
    | true =>
      cases h3 : (i_within.m c.stick 0 15) with
      | true =>
        cases h4 : (i_within.m c.padX 0 10) with
        | true =>
          exact i_Cell_lies.w1 _ _ _ _ _ (K1 := (i_spanOk.c c.col c.manyCols (((cols.map encLine).length : Nat) : Int)).trans (by rw [h1])) (K2 := (i_spanOk.c c.row c.manyRows (((rows.map encLine).length : Nat) : Int)).trans (by rw [h2])) (K3 := (i_within.c c.stick 0 15).trans (by rw [h3])) (K4 := (i_within.c c.padX 0 10).trans (by rw [h4])) (K5 := (i_within.c c.padY 0 10))
        | false =>
          exact i_Cell_lies.w5 _ _ _ _ (K1 := (i_spanOk.c c.col c.manyCols (((cols.map encLine).length : Nat) : Int)).trans (by rw [h1])) (K2 := (i_spanOk.c c.row c.manyRows (((rows.map encLine).length : Nat) : Int)).trans (by rw [h2])) (K3 := (i_within.c c.stick 0 15).trans (by rw [h3])) (K4 := (i_within.c c.padX 0 10).trans (by rw [h4]))
      | false =>
        exact i_Cell_lies.w4 _ _ _ _ (K1 := (i_spanOk.c c.col c.manyCols (((cols.map encLine).length : Nat) : Int)).trans (by rw [h1])) (K2 := (i_spanOk.c c.row c.manyRows (((rows.map encLine).length : Nat) : Int)).trans (by rw [h2])) (K3 := (i_within.c c.stick 0 15).trans (by rw [h3]))
    | false =>
      exact i_Cell_lies.w3 _ _ _ _ (K1 := (i_spanOk.c c.col c.manyCols (((cols.map encLine).length : Nat) : Int)).trans (by rw [h1])) (K2 := (i_spanOk.c c.row c.manyRows (((rows.map encLine).length : Nat) : Int)).trans (by rw [h2]))
  | false =>
    exact i_Cell_lies.w2 _ _ _ _ (K1 := (i_spanOk.c c.col c.manyCols (((cols.map encLine).length : Nat) : Int)).trans (by rw [h1]))
def i_Place_rect.m (p : Place) (w : Int) (h : Int) : Rect := (⟨w64 ((w64 (p.x + (w64 (Int.tdiv (w64 (p.relX * w)) 1000)))) - (i_part.m (mx2 (w64 (p.w + (w64 (Int.tdiv (w64 (p.relW * w)) 1000)))) 0) (Int.tmod p.anchor 3))), w64 ((w64 (p.y + (w64 (Int.tdiv (w64 (p.relY * h)) 1000)))) - (i_part.m (mx2 (w64 (p.h + (w64 (Int.tdiv (w64 (p.relH * h)) 1000)))) 0) (w64 (Int.tdiv p.anchor 3)))), mx2 (w64 (p.w + (w64 (Int.tdiv (w64 (p.relW * w)) 1000)))) 0, mx2 (w64 (p.h + (w64 (Int.tdiv (w64 (p.relH * h)) 1000)))) 0⟩ : Rect)
theorem i_Place_rect.c (p : Place) (w : Int) (h : Int) : PC i_Place_rect [.agg (encPlace p), vI w, vI h] (.agg (encRect (i_Place_rect.m p w h)), []) := by
  refine lift ?_
  unfold i_Place_rect.m
  exact i_Place_rect.w1 _ _ _ _ _ (K1 := (i_part.c (mx2 (w64 (p.w + (w64 (Int.tdiv (w64 (p.relW * w)) 1000)))) 0) (Int.tmod p.anchor 3))) (K2 := (i_part.c (mx2 (w64 (p.h + (w64 (Int.tdiv (w64 (p.relH * h)) 1000)))) 0) (w64 (Int.tdiv p.anchor 3))))
def i_Rect_anchored.m (r : Rect) (w : Int) (h : Int) (anchor : Int) : Rect := (⟨w64 (r.x + (i_part.m (w64 (r.w - (mn2 w r.w))) (Int.tmod anchor 3))), w64 (r.y + (i_part.m (w64 (r.h - (mn2 h r.h))) (w64 (Int.tdiv anchor 3)))), mn2 w r.w, mn2 h r.h⟩ : Rect)
theorem i_Rect_anchored.c (r : Rect) (w : Int) (h : Int) (anchor : Int) : PC i_Rect_anchored [.agg (encRect r), vI w, vI h, vI anchor] (.agg (encRect (i_Rect_anchored.m r w h anchor)), []) := by
  refine lift ?_
  unfold i_Rect_anchored.m
  exact i_Rect_anchored.w1 _ _ _ _ _ _ (K1 := (i_part.c (w64 (r.w - (mn2 w r.w))) (Int.tmod anchor 3))) (K2 := (i_part.c (w64 (r.h - (mn2 h r.h))) (w64 (Int.tdiv anchor 3))))
def s_validPack.m (p : Pack) : Bool := (bif (s_inRange.m p.w 0 30) then (bif (s_inRange.m p.h 0 30) then (bif (s_validSide.m p.side) then (bif (s_validAnchor.m p.anchor) then (bif (s_inRange.m p.padX 0 10) then (s_inRange.m p.padY 0 10) else false) else false) else false) else false) else false)
theorem s_validPack.c (p : Pack) : PC s_validPack [.agg (encPack p)] (vB (s_validPack.m p), []) := by
  refine lift ?_
  unfold s_validPack.m
  cases h1 : (s_inRange.m p.w 0 30) with
  | true =>
    cases h2 : (s_inRange.m p.h 0 30) with
    | true =>
      cases h3 : (s_validSide.m p.side) with
      | true =>
        cases h4 : (s_validAnchor.m p.anchor) with
        | true =>
          cases h5 : (s_inRange.m p.padX 0 10) with
          | true =>
            exact s_validPack.w1 _ _ (K1 := (s_inRange.c p.w 0 30).trans (by rw [h1])) (K2 := (s_inRange.c p.h 0 30).trans (by rw [h2])) (K3 := (s_validSide.c p.side).trans (by rw [h3])) (K4 := (s_validAnchor.c p.anchor).trans (by rw [h4])) (K5 := (s_inRange.c p.padX 0 10).trans (by rw [h5])) (K6 := (s_inRange.c p.padY 0 10))
          | false =>
            exact s_validPack.w6 _ (K1 := (s_inRange.c p.w 0 30).trans (by rw [h1])) (K2 := (s_inRange.c p.h 0 30).trans (by rw [h2])) (K3 := (s_validSide.c p.side).trans (by rw [h3])) (K4 := (s_validAnchor.c p.anchor).trans (by rw [h4])) (K5 := (s_inRange.c p.padX 0 10).trans (by rw [h5]))
        | false =>
          exact s_validPack.w5 _ (K1 := (s_inRange.c p.w 0 30).trans (by rw [h1])) (K2 := (s_inRange.c p.h 0 30).trans (by rw [h2])) (K3 := (s_validSide.c p.side).trans (by rw [h3])) (K4 := (s_validAnchor.c p.anchor).trans (by rw [h4]))
      | false =>
        exact s_validPack.w4 _ (K1 := (s_inRange.c p.w 0 30).trans (by rw [h1])) (K2 := (s_inRange.c p.h 0 30).trans (by rw [h2])) (K3 := (s_validSide.c p.side).trans (by rw [h3]))
    | false =>
      exact s_validPack.w3 _ (K1 := (s_inRange.c p.w 0 30).trans (by rw [h1])) (K2 := (s_inRange.c p.h 0 30).trans (by rw [h2]))
  | false =>
    exact s_validPack.w2 _ (K1 := (s_inRange.c p.w 0 30).trans (by rw [h1]))
def s_validPlace.m (p : Place) : Bool := (bif (s_inRange.m p.x (-300) 300) then (bif (s_inRange.m p.y (-300) 300) then (bif (s_inRange.m p.relX 0 1000) then (bif (s_inRange.m p.relY 0 1000) then (bif (s_inRange.m p.w (-300) 300) then (bif (s_inRange.m p.h (-300) 300) then (bif (s_inRange.m p.relW 0 1000) then (bif (s_inRange.m p.relH 0 1000) then (s_validAnchor.m p.anchor) else false) else false) else false) else false) else false) else false) else false) else false)
theorem s_validPlace.c (p : Place) : PC s_validPlace [.agg (encPlace p)] (vB (s_validPlace.m p), []) := by
  refine lift ?_
  unfold s_validPlace.m
  cases h1 : (s_inRange.m p.x (-300) 300) with
  | true =>
    cases h2 : (s_inRange.m p.y (-300) 300) with
    | true =>
      cases h3 : (s_inRange.m p.relX 0 1000) with
      | true =>
        cases h4 : (s_inRange.m p.relY 0 1000) with
        | true =>
          cases h5 : (s_inRange.m p.w (-300) 300) with
          | true =>
            cases h6 : (s_inRange.m p.h (-300) 300) with
            | true =>
              cases h7 : (s_inRange.m p.relW 0 1000) with
              | true =>
                cases h8 : (s_inRange.m p.relH 0 1000) with
                | true =>
                  exact s_validPlace.w1 _ _ (K1 := (s_inRange.c p.x (-300) 300).trans (by rw [h1])) (K2 := (s_inRange.c p.y (-300) 300).trans (by rw [h2])) (K3 := (s_inRange.c p.relX 0 1000).trans (by rw [h3])) (K4 := (s_inRange.c p.relY 0 1000).trans (by rw [h4])) (K5 := (s_inRange.c p.w (-300) 300).trans (by rw [h5])) (K6 := (s_inRange.c p.h (-300) 300).trans (by rw [h6])) (K7 := (s_inRange.c p.relW 0 1000).trans (by rw [h7])) (K8 := (s_inRange.c p.relH 0 1000).trans (by rw [h8])) (K9 := (s_validAnchor.c p.anchor))
                | false =>
                  exact s_validPlace.w9 _ (K1 := (s_inRange.c p.x (-300) 300).trans (by rw [h1])) (K2 := (s_inRange.c p.y (-300) 300).trans (by rw [h2])) (K3 := (s_inRange.c p.relX 0 1000).trans (by rw [h3])) (K4 := (s_inRange.c p.relY 0 1000).trans (by rw [h4])) (K5 := (s_inRange.c p.w (-300) 300).trans (by rw [h5])) (K6 := (s_inRange.c p.h (-300) 300).trans (by rw [h6])) (K7 := (s_inRange.c p.relW 0 1000).trans (by rw [h7])) (K8 := (s_inRange.c p.relH 0 1000).trans (by rw [h8]))
              | false =>
                exact s_validPlace.w8 _ (K1 := (s_inRange.c p.x (-300) 300).trans (by rw [h1])) (K2 := (s_inRange.c p.y (-300) 300).trans (by rw [h2])) (K3 := (s_inRange.c p.relX 0 1000).trans (by rw [h3])) (K4 := (s_inRange.c p.relY 0 1000).trans (by rw [h4])) (K5 := (s_inRange.c p.w (-300) 300).trans (by rw [h5])) (K6 := (s_inRange.c p.h (-300) 300).trans (by rw [h6])) (K7 := (s_inRange.c p.relW 0 1000).trans (by rw [h7]))
            | false =>
              exact s_validPlace.w7 _ (K1 := (s_inRange.c p.x (-300) 300).trans (by rw [h1])) (K2 := (s_inRange.c p.y (-300) 300).trans (by rw [h2])) (K3 := (s_inRange.c p.relX 0 1000).trans (by rw [h3])) (K4 := (s_inRange.c p.relY 0 1000).trans (by rw [h4])) (K5 := (s_inRange.c p.w (-300) 300).trans (by rw [h5])) (K6 := (s_inRange.c p.h (-300) 300).trans (by rw [h6]))
          | false =>
            exact s_validPlace.w6 _ (K1 := (s_inRange.c p.x (-300) 300).trans (by rw [h1])) (K2 := (s_inRange.c p.y (-300) 300).trans (by rw [h2])) (K3 := (s_inRange.c p.relX 0 1000).trans (by rw [h3])) (K4 := (s_inRange.c p.relY 0 1000).trans (by rw [h4])) (K5 := (s_inRange.c p.w (-300) 300).trans (by rw [h5]))
        | false =>
          exact s_validPlace.w5 _ (K1 := (s_inRange.c p.x (-300) 300).trans (by rw [h1])) (K2 := (s_inRange.c p.y (-300) 300).trans (by rw [h2])) (K3 := (s_inRange.c p.relX 0 1000).trans (by rw [h3])) (K4 := (s_inRange.c p.relY 0 1000).trans (by rw [h4]))
      | false =>
        exact s_validPlace.w4 _ (K1 := (s_inRange.c p.x (-300) 300).trans (by rw [h1])) (K2 := (s_inRange.c p.y (-300) 300).trans (by rw [h2])) (K3 := (s_inRange.c p.relX 0 1000).trans (by rw [h3]))
    | false =>
      exact s_validPlace.w3 _ (K1 := (s_inRange.c p.x (-300) 300).trans (by rw [h1])) (K2 := (s_inRange.c p.y (-300) 300).trans (by rw [h2]))
  | false =>
    exact s_validPlace.w2 _ (K1 := (s_inRange.c p.x (-300) 300).trans (by rw [h1]))
def s_placed.m (p : Place) (r : Rect) : Rect := (⟨w64 (r.x + (w64 ((w64 (p.x + (s_part.m r.w p.relX))) - (w64 (Int.tdiv (w64 ((mx2 0 (w64 (p.w + (s_part.m r.w p.relW)))) * (Int.tmod p.anchor 3))) 2))))), w64 (r.y + (w64 ((w64 (p.y + (s_part.m r.h p.relY))) - (w64 (Int.tdiv (w64 ((mx2 0 (w64 (p.h + (s_part.m r.h p.relH)))) * (w64 (Int.tdiv p.anchor 3)))) 2))))), mx2 0 (w64 (p.w + (s_part.m r.w p.relW))), mx2 0 (w64 (p.h + (s_part.m r.h p.relH)))⟩ : Rect)
theorem s_placed.c (p : Place) (r : Rect) : PC s_placed [.agg (encPlace p), .agg (encRect r)] (.agg (encRect (s_placed.m p r)), []) := by
  refine lift ?_
  unfold s_placed.m
  exact s_placed.w1 _ _ _ _ _ _ (K1 := (s_part.c r.w p.relW)) (K2 := (s_part.c r.h p.relH)) (K3 := (s_part.c r.w p.relX)) (K4 := (s_part.c r.h p.relY))
def s_settled.m (p : Pack) (parcel : Rect) : Rect := (bif p.fillX then (bif p.fillY then (s_anchored.m (s_inset.m parcel p.padX p.padY) ((s_inset.m parcel p.padX p.padY).w) ((s_inset.m parcel p.padX p.padY).h) p.anchor) else (s_anchored.m (s_inset.m parcel p.padX p.padY) ((s_inset.m parcel p.padX p.padY).w) p.h p.anchor)) else (bif p.fillY then (s_anchored.m (s_inset.m parcel p.padX p.padY) p.w ((s_inset.m parcel p.padX p.padY).h) p.anchor) else (s_anchored.m (s_inset.m parcel p.padX p.padY) p.w p.h p.anchor)))
theorem s_settled.c (p : Pack) (parcel : Rect) : PC s_settled [.agg (encPack p), .agg (encRect parcel)] (.agg (encRect (s_settled.m p parcel)), []) := by
  refine lift ?_
  unfold s_settled.m
  cases h1 : p.fillX with
  | true =>
    cases h2 : p.fillY with
    | true =>
      exact s_settled.w1 _ _ _ _ (H1 := h1) (H2 := h2) (K1 := (s_inset.c parcel p.padX p.padY)) (K2 := (s_anchored.c (s_inset.m parcel p.padX p.padY) ((s_inset.m parcel p.padX p.padY).w) ((s_inset.m parcel p.padX p.padY).h) p.anchor))
    | false =>
      exact s_settled.w4 _ _ _ _ (H1 := h1) (H2 := h2) (K1 := (s_inset.c parcel p.padX p.padY)) (K2 := (s_anchored.c (s_inset.m parcel p.padX p.padY) ((s_inset.m parcel p.padX p.padY).w) p.h p.anchor))
  | false =>
    cases h3 : p.fillY with
    | true =>
      exact s_settled.w2 _ _ _ _ (H1 := h1) (H2 := h3) (K1 := (s_inset.c parcel p.padX p.padY)) (K2 := (s_anchored.c (s_inset.m parcel p.padX p.padY) p.w ((s_inset.m parcel p.padX p.padY).h) p.anchor))
    | false =>
      exact s_settled.w3 _ _ _ _ (H1 := h1) (H2 := h3) (K1 := (s_inset.c parcel p.padX p.padY)) (K2 := (s_anchored.c (s_inset.m parcel p.padX p.padY) p.w p.h p.anchor))
end Go.Proofs.Ytdgamfanffnhaaa.PI
namespace Go.Proofs.Ytdgamfanffnhaaa.PI
open Go
def sumW (l : List Int) : Int := l.foldl (fun n e => w64 (n + e)) 0
theorem sumW_succ {l : List Int} {j : Nat} (h : j < l.length) : sumW (l.take (j + 1)) = w64 (sumW (l.take j) + l[j]) := by
  unfold sumW
  rw [List.take_add_one, List.getElem?_eq_getElem h, List.foldl_append]; rfl
abbrev i_sum.m (l : List Int) : Int := sumW l
abbrev s_total.m (l : List Int) : Int := sumW l
theorem i_sum.c (l : List Int) (hl : Sm l) : PC i_sum [.one (.rsl (l.map encInt))] (vI (i_sum.m l), []) := by
  unfold Sm at hl
  refine lift (i_sum.w1 l _ ?_)
  have := loop_exit (step := i_sum.r0 CC lpW) (S := fun j => i_sum.s0 (sumW (l.take j)) (l.map encInt) ((l.map encInt).length : Nat) (j : Nat)) l.length (fun j hj => by
    have := i_sum.l0_1 (call := CC) (lp := lpW) (sumW (l.take j)) (l.map encInt) ((l.map encInt).length : Nat) (j : Nat) l[j] (by simpa using hj) (by simp) (at_map hj)
    rw [this, w64_succ (by omega), sumW_succ hj]) (i_sum.l0_2 _ _ _ _ (by simp))
  simpa [show sumW [] = 0 from rfl] using this
theorem s_total.c (l : List Int) (hl : Sm l) : PC s_total [.one (.rsl (l.map encInt))] (vI (s_total.m l), []) := by
  unfold Sm at hl
  refine lift (s_total.w1 l _ ?_)
  have := loop_exit (step := s_total.r0 CC lpW) (S := fun j => s_total.s0 (l.map encInt) (sumW (l.take j)) (j : Nat)) l.length (fun j hj => by
    have := s_total.l0_1 (call := CC) (lp := lpW) (l.map encInt) (sumW (l.take j)) (j : Nat) l[j] (by simpa using hj) (by simp) (at_map hj)
    rw [this, w64_succ (by omega), sumW_succ hj]) (s_total.l0_2 _ _ _ (by simp))
  simpa [show sumW [] = 0 from rfl] using this
theorem all_at {α : Type} {l : List α} {p : α → Bool} : (∀ i (h : i < l.length), p l[i] = true) ↔ l.all p = true := by
  rw [List.all_eq_true]
  constructor
  · intro h x hx
    obtain ⟨i, hi, rfl⟩ := List.mem_iff_getElem.1 hx
    exact h i hi
  · exact fun h i hi => h _ (List.getElem_mem hi)
def s_validLines.m (list : List Line) : Bool := bif list.all s_validLine.m then s_inRange.m (list.length : Int) 1 5 else false
theorem s_validLines.c (list : List Line) (hl : Sm list) : PC s_validLines [.one (.rsl (list.map encLine))] (vB (s_validLines.m list), []) := by
  unfold Sm at hl
  refine lift ?_
  unfold s_validLines.m
  have := loop_find (step := s_validLines.r0 CC lpW) (S := fun j => s_validLines.s0 (list.map encLine) (j : Nat)) (eb := fun _ => s_validLines.e0_0 (list.map encLine)) list.length (fun j => (list[j]?.map s_validLine.m).getD true) (fun j hj hp => by
    rw [List.getElem?_eq_getElem hj] at hp
    have := s_validLines.l0_3 (call := CC) (lp := lpW) (list.map encLine) (j : Nat) list[j] (by simpa using hj) (by simp) (at_map hj) ((s_validLine.c list[j]).trans (by simpa using hp))
    rw [this, w64_succ (by omega)]) (fun j hj hp => by
    rw [List.getElem?_eq_getElem hj] at hp
    exact s_validLines.l0_1 (call := CC) (lp := lpW) (list.map encLine) (j : Nat) list[j] (by simpa using hj) (by simp) (at_map hj) ((s_validLine.c list[j]).trans (by simpa using hp))) (s_validLines.l0_2 _ _ (by simp))
  rcases this with ⟨h, hl⟩ | ⟨i, hi, hp, _, hl⟩
  · have ha : list.all s_validLine.m = true := all_at.1 fun i hi => by have := h i hi; rw [List.getElem?_eq_getElem hi] at this; simpa using this
    rw [ha]
    refine s_validLines.w2 list _ _ ?_ hl
    have := s_inRange.c ((list.map encLine).length : Nat) 1 5
    simpa using this
  · have ha : list.all s_validLine.m = false := by
      cases h : list.all s_validLine.m with
      | false => rfl
      | true => rw [List.getElem?_eq_getElem hi] at hp; have := all_at.2 h i hi; simp [this] at hp
    rw [ha]
    exact s_validLines.w1 list _ hl
def x_IndexFunc_Line.m (s : List Line) : Int := match s.findIdx? i_linesOk_1.m with
  | some i => (i : Int)
  | none => -1
theorem x_IndexFunc_Line.c (s : List Line) (hl : Sm s) : PC x_IndexFunc_Line [.one (.rsl (s.map encLine)), .one (.fn i_linesOk_1)] (vI (x_IndexFunc_Line.m s), []) := by
  unfold Sm at hl
  refine lift ?_
  unfold x_IndexFunc_Line.m
  have := loop_find (step := x_IndexFunc_Line.r0 CC lpW) (S := fun j => x_IndexFunc_Line.s0 (s.map encLine) ((s.map encLine).length : Nat) (j : Nat)) (eb := fun j => x_IndexFunc_Line.e0_0 (j : Nat)) s.length (fun j => (s[j]?.map fun x => !i_linesOk_1.m x).getD true) (fun j hj hp => by
    rw [List.getElem?_eq_getElem hj] at hp
    have := x_IndexFunc_Line.l0_3 (call := CC) (lp := lpW) (s.map encLine) ((s.map encLine).length : Nat) (j : Nat) s[j] (by simpa using hj) (by simp) (at_map hj) ((i_linesOk_1.c s[j]).trans (by simpa using hp))
    rw [this, w64_succ (by omega)]) (fun j hj hp => by
    rw [List.getElem?_eq_getElem hj] at hp
    exact x_IndexFunc_Line.l0_1 (call := CC) (lp := lpW) (s.map encLine) ((s.map encLine).length : Nat) (j : Nat) s[j] (by simpa using hj) (by simp) (at_map hj) ((i_linesOk_1.c s[j]).trans (by simpa using hp))) (x_IndexFunc_Line.l0_2 _ _ _ (by simp))
  rcases this with ⟨h, hl⟩ | ⟨i, hi, hp, hb, hl⟩
  · have : s.findIdx? i_linesOk_1.m = none := by
      rw [List.findIdx?_eq_none_iff]
      intro x hx
      obtain ⟨i, hi, rfl⟩ := List.mem_iff_getElem.1 hx
      have := h i hi; rw [List.getElem?_eq_getElem hi] at this; simpa using this
    rw [this]
    exact x_IndexFunc_Line.w2 s hl
  · have : s.findIdx? i_linesOk_1.m = some i := by
      rw [List.findIdx?_eq_some_iff_getElem]
      refine ⟨hi, ?_, fun j hj => ?_⟩
      · rw [List.getElem?_eq_getElem hi] at hp; simpa using hp
      · have := hb j hj; rw [List.getElem?_eq_getElem (by omega)] at this; simpa using this
    rw [this]
    exact x_IndexFunc_Line.w1 s _ hl
theorem x_ContainsFunc_Line.c (s : List Line) (hl : Sm s) : PC x_ContainsFunc_Line [.one (.rsl (s.map encLine)), .one (.fn i_linesOk_1)] (vB (s.any i_linesOk_1.m), []) := by
  have h : s.any i_linesOk_1.m = decide (x_IndexFunc_Line.m s ≥ 0) := by
    unfold x_IndexFunc_Line.m
    cases hf : s.findIdx? i_linesOk_1.m with
    | none =>
      rw [List.findIdx?_eq_none_iff] at hf
      have : s.any i_linesOk_1.m = false := by rw [List.any_eq_false]; intro x hx; simp [hf x hx]
      simp [this]
    | some i =>
      rw [List.findIdx?_eq_some_iff_getElem] at hf
      obtain ⟨hi, hp, _⟩ := hf
      have : s.any i_linesOk_1.m = true := List.any_eq_true.2 ⟨s[i], List.getElem_mem hi, hp⟩
      simp [this]
  rw [h]
  exact lift (x_ContainsFunc_Line.w1 s _ (x_IndexFunc_Line.c s hl))
def i_linesOk.m (list : List Line) : Bool := bif i_within.m (list.length : Int) 1 5 then !list.any i_linesOk_1.m else false
theorem i_linesOk.c (list : List Line) (hl : Sm list) : PC i_linesOk [.one (.rsl (list.map encLine))] (vB (i_linesOk.m list), []) := by
  refine lift ?_
  unfold i_linesOk.m
  have k := i_within.c ((list.map encLine).length : Nat) 1 5
  simp only [List.length_map] at k
  cases h : i_within.m (list.length : Int) 1 5 with
  | true => exact i_linesOk.w1 list _ (by simp only [List.length_map]; exact k.trans (by rw [h])) (x_ContainsFunc_Line.c list hl)
  | false => exact i_linesOk.w2 list (by simp only [List.length_map]; exact k.trans (by rw [h]))
def i_ValidPlace.m (p : Place) : Bool := bif [p.x, p.y, p.w, p.h].all fun n => i_within.m n (-300) 300 then (bif [p.relX, p.relY, p.relW, p.relH].all fun n => i_within.m n 0 1000 then i_within.m p.anchor 0 8 else false) else false
theorem i_ValidPlace.c (p : Place) : PC i_ValidPlace [.agg (encPlace p)] (vB (i_ValidPlace.m p), []) := by
  refine lift ?_
  unfold i_ValidPlace.m
  have key : ∀ (l : List Int) (p' : Int → Bool), l.length = 4 → ((∀ i, i < 4 → (l[i]?.map p').getD true = true) ↔ l.all p' = true) := by
    intro l p' hl
    rw [← all_at]
    constructor
    · intro h i hi; have := h i (by omega); rw [List.getElem?_eq_getElem hi] at this; simpa using this
    · intro h i hi; rw [List.getElem?_eq_getElem (by omega)]; simpa using h i (by omega)
  have bad : ∀ (l : List Int) (p' : Int → Bool) (i : Nat), l.length = 4 → i < 4 → (l[i]?.map p').getD true = false → l.all p' = false := by
    intro l p' i hl hi hp
    cases h : l.all p' with
    | false => rfl
    | true => rw [(key l p' hl).2 h i hi] at hp; cases hp
  have r0 : ∀ (l : List Int), l.length = 4 → _ := fun l hl => loop_find (step := i_ValidPlace.r0 CC lpW) (S := fun j => i_ValidPlace.s0 (j : Nat) p (l.map encInt)) (eb := fun _ => i_ValidPlace.e0_0 p) (ee := i_ValidPlace.e0_1 p) (q := 0) 4 (fun j => (l[j]?.map fun n => i_within.m n (-300) 300).getD true) (fun j hj hp => by
      rw [List.getElem?_eq_getElem (by omega)] at hp
      have := i_ValidPlace.l0_3 (call := CC) (lp := lpW) (j : Nat) p (l.map encInt) (l[j]'(by omega)) (by simp; omega) (by simp [hl]) (by simp) (at_map (by omega)) ((i_within.c _ _ _).trans (by simpa using hp))
      rw [this, w64_succ (by omega)]) (fun j hj hp => by
      rw [List.getElem?_eq_getElem (by omega)] at hp
      exact i_ValidPlace.l0_1 (call := CC) (lp := lpW) (j : Nat) p (l.map encInt) (l[j]'(by omega)) (by simp; omega) (by simp [hl]) (by simp) (at_map (by omega)) ((i_within.c _ _ _).trans (by simpa using hp))) (i_ValidPlace.l0_2 _ _ _ (by simp))
  have r1 : ∀ (l : List Int), l.length = 4 → _ := fun l hl => loop_find (step := i_ValidPlace.r1 CC lpW) (S := fun j => i_ValidPlace.s1 (j : Nat) p (l.map encInt)) (eb := fun _ => i_ValidPlace.e1_0 p) (ee := i_ValidPlace.e1_1 p) (q := 2) 4 (fun j => (l[j]?.map fun n => i_within.m n 0 1000).getD true) (fun j hj hp => by
      rw [List.getElem?_eq_getElem (by omega)] at hp
      have := i_ValidPlace.l1_3 (call := CC) (lp := lpW) (j : Nat) p (l.map encInt) (l[j]'(by omega)) (by simp; omega) (by simp [hl]) (by simp) (at_map (by omega)) ((i_within.c _ _ _).trans (by simpa using hp))
      rw [this, w64_succ (by omega)]) (fun j hj hp => by
      rw [List.getElem?_eq_getElem (by omega)] at hp
      exact i_ValidPlace.l1_1 (call := CC) (lp := lpW) (j : Nat) p (l.map encInt) (l[j]'(by omega)) (by simp; omega) (by simp [hl]) (by simp) (at_map (by omega)) ((i_within.c _ _ _).trans (by simpa using hp))) (i_ValidPlace.l1_2 _ _ _ (by simp))
  rcases r0 [p.x, p.y, p.w, p.h] rfl with ⟨h, hl⟩ | ⟨i, hi, hp, _, hl⟩
  · rw [(key _ _ rfl).1 h]
    rcases r1 [p.relX, p.relY, p.relW, p.relH] rfl with ⟨h1, hl1⟩ | ⟨i, hi, hp, _, hl1⟩
    · rw [(key _ _ rfl).1 h1]
      exact i_ValidPlace.w3 p p p _ (i_within.c _ _ _) hl hl1
    · rw [bad _ _ i rfl hi hp]
      exact i_ValidPlace.w2 p p p hl hl1
  · rw [bad _ _ i rfl hi hp]
    exact i_ValidPlace.w1 p p hl
end Go.Proofs.Ytdgamfanffnhaaa.PI
namespace Go.Proofs.Ytdgamfanffnhaaa.PI
open Go
set_option maxRecDepth 100000
set_option linter.unusedVariables false
def i_Node_ok.m (n : Node) : Bool := (bif (i_within.m n.w 0 30) then (bif (i_within.m n.h 0 30) then (bif (i_within.m n.kind 0 2) then (bif (i_ValidPack.m n.pack) then (bif (n.pack.w != 0) then false else (bif (n.pack.h != 0) then false else (bif (i_ValidPlace.m n.place) then (bif (n.cell.w != 0) then false else (bif (n.cell.h != 0) then false else (bif (n.kind == 1) then (bif (i_linesOk.m n.cols) then (i_linesOk.m n.rows) else false) else (bif ((((n.cols.map encLine).length : Nat) : Int) == 0) then ((((n.rows.map encLine).length : Nat) : Int) == 0) else false)))) else false))) else false) else false) else false) else false)
theorem i_Node_ok.c (n : Node) (S1 : Sm n.cols) (S2 : Sm n.rows) : PC i_Node_ok [.agg (encNodeR n)] (vB (i_Node_ok.m n), []) := by
  refine lift ?_
  unfold i_Node_ok.m
  cases h1 : (i_within.m n.w 0 30) with
  | true =>
    cases h2 : (i_within.m n.h 0 30) with
    | true =>
      cases h3 : (i_within.m n.kind 0 2) with
      | true =>
        cases h4 : (i_ValidPack.m n.pack) with
        | true =>
          cases h5 : (n.pack.w != 0) with
          | true =>
            exact i_Node_ok.w5 _ (H5 := h5) (K1 := (i_within.c n.w 0 30).trans (by rw [h1])) (K2 := (i_within.c n.h 0 30).trans (by rw [h2])) (K3 := (i_within.c n.kind 0 2).trans (by rw [h3])) (K4 := (i_ValidPack.c n.pack).trans (by rw [h4]))
          | false =>
            cases h6 : (n.pack.h != 0) with
            | true =>
              exact i_Node_ok.w6 _ (H5 := h5) (H6 := h6) (K1 := (i_within.c n.w 0 30).trans (by rw [h1])) (K2 := (i_within.c n.h 0 30).trans (by rw [h2])) (K3 := (i_within.c n.kind 0 2).trans (by rw [h3])) (K4 := (i_ValidPack.c n.pack).trans (by rw [h4]))
            | false =>
              cases h7 : (i_ValidPlace.m n.place) with
              | true =>
                cases h8 : (n.cell.w != 0) with
                | true =>
                  exact i_Node_ok.w8 _ (H5 := h5) (H6 := h6) (H8 := h8) (K1 := (i_within.c n.w 0 30).trans (by rw [h1])) (K2 := (i_within.c n.h 0 30).trans (by rw [h2])) (K3 := (i_within.c n.kind 0 2).trans (by rw [h3])) (K4 := (i_ValidPack.c n.pack).trans (by rw [h4])) (K5 := (i_ValidPlace.c n.place).trans (by rw [h7]))
                | false =>
                  cases h9 : (n.cell.h != 0) with
                  | true =>
                    exact i_Node_ok.w9 _ (H5 := h5) (H6 := h6) (H8 := h8) (H9 := h9) (K1 := (i_within.c n.w 0 30).trans (by rw [h1])) (K2 := (i_within.c n.h 0 30).trans (by rw [h2])) (K3 := (i_within.c n.kind 0 2).trans (by rw [h3])) (K4 := (i_ValidPack.c n.pack).trans (by rw [h4])) (K5 := (i_ValidPlace.c n.place).trans (by rw [h7]))
                  | false =>
                    cases h10 : (n.kind == 1) with
                    | true =>
                      cases h11 : (i_linesOk.m n.cols) with
                      | true =>
                        exact i_Node_ok.w10 _ _ (H5 := h5) (H6 := h6) (H8 := h8) (H9 := h9) (H10 := h10) (K1 := (i_within.c n.w 0 30).trans (by rw [h1])) (K2 := (i_within.c n.h 0 30).trans (by rw [h2])) (K3 := (i_within.c n.kind 0 2).trans (by rw [h3])) (K4 := (i_ValidPack.c n.pack).trans (by rw [h4])) (K5 := (i_ValidPlace.c n.place).trans (by rw [h7])) (K6 := (i_linesOk.c n.cols S1).trans (by rw [h11])) (K7 := (i_linesOk.c n.rows S2))
                      | false =>
                        exact i_Node_ok.w13 _ (H5 := h5) (H6 := h6) (H8 := h8) (H9 := h9) (H10 := h10) (K1 := (i_within.c n.w 0 30).trans (by rw [h1])) (K2 := (i_within.c n.h 0 30).trans (by rw [h2])) (K3 := (i_within.c n.kind 0 2).trans (by rw [h3])) (K4 := (i_ValidPack.c n.pack).trans (by rw [h4])) (K5 := (i_ValidPlace.c n.place).trans (by rw [h7])) (K6 := (i_linesOk.c n.cols S1).trans (by rw [h11]))
                    | false =>
                      cases h12 : ((((n.cols.map encLine).length : Nat) : Int) == 0) with
                      | true =>
                        exact i_Node_ok.w11 _ (H5 := h5) (H6 := h6) (H8 := h8) (H9 := h9) (H10 := h10) (H11 := h12) (K1 := (i_within.c n.w 0 30).trans (by rw [h1])) (K2 := (i_within.c n.h 0 30).trans (by rw [h2])) (K3 := (i_within.c n.kind 0 2).trans (by rw [h3])) (K4 := (i_ValidPack.c n.pack).trans (by rw [h4])) (K5 := (i_ValidPlace.c n.place).trans (by rw [h7]))
                      | false =>
                        exact i_Node_ok.w12 _ (H5 := h5) (H6 := h6) (H8 := h8) (H9 := h9) (H10 := h10) (H11 := h12) (K1 := (i_within.c n.w 0 30).trans (by rw [h1])) (K2 := (i_within.c n.h 0 30).trans (by rw [h2])) (K3 := (i_within.c n.kind 0 2).trans (by rw [h3])) (K4 := (i_ValidPack.c n.pack).trans (by rw [h4])) (K5 := (i_ValidPlace.c n.place).trans (by rw [h7]))
              | false =>
                exact i_Node_ok.w7 _ (H5 := h5) (H6 := h6) (K1 := (i_within.c n.w 0 30).trans (by rw [h1])) (K2 := (i_within.c n.h 0 30).trans (by rw [h2])) (K3 := (i_within.c n.kind 0 2).trans (by rw [h3])) (K4 := (i_ValidPack.c n.pack).trans (by rw [h4])) (K5 := (i_ValidPlace.c n.place).trans (by rw [h7]))
        | false =>
          exact i_Node_ok.w4 _ (K1 := (i_within.c n.w 0 30).trans (by rw [h1])) (K2 := (i_within.c n.h 0 30).trans (by rw [h2])) (K3 := (i_within.c n.kind 0 2).trans (by rw [h3])) (K4 := (i_ValidPack.c n.pack).trans (by rw [h4]))
      | false =>
        exact i_Node_ok.w3 _ (K1 := (i_within.c n.w 0 30).trans (by rw [h1])) (K2 := (i_within.c n.h 0 30).trans (by rw [h2])) (K3 := (i_within.c n.kind 0 2).trans (by rw [h3]))
    | false =>
      exact i_Node_ok.w2 _ (K1 := (i_within.c n.w 0 30).trans (by rw [h1])) (K2 := (i_within.c n.h 0 30).trans (by rw [h2]))
  | false =>
    exact i_Node_ok.w1 _ (K1 := (i_within.c n.w 0 30).trans (by rw [h1]))
def s_validNode.m (nodes : List Node) (i : Int) (e : Node) (e2 : Node) : Bool := (bif (s_inRange.m e.w 0 30) then (bif (s_inRange.m e.h 0 30) then (bif (s_inRange.m e.kind 0 2) then (bif (s_validPack.m e.pack) then (bif (e.pack.w != 0) then false else (bif (e.pack.h != 0) then false else (bif (s_validPlace.m e.place) then (bif (e.cell.w != 0) then false else (bif (e.cell.h != 0) then false else (bif (e.kind == 1) then (bif (s_validLines.m e.cols) then (bif (s_validLines.m e.rows) then (bif (e.kind != 1) then (bif decide ((((e.cols.map encLine).length : Nat) : Int) > 0) then false else (bif decide ((((e.rows.map encLine).length : Nat) : Int) > 0) then false else (bif (i == 0) then (e.parent == (-1)) else (bif (s_inRange.m e.parent 0 (w64 (i - 1))) then (bif (e2.kind != 1) then true else (s_validCell.m e2.cols e2.rows ([]) e.cell)) else false)))) else (bif (i == 0) then (e.parent == (-1)) else (bif (s_inRange.m e.parent 0 (w64 (i - 1))) then (bif (e2.kind != 1) then true else (s_validCell.m e2.cols e2.rows ([]) e.cell)) else false))) else false) else false) else (bif (e.kind != 1) then (bif decide ((((e.cols.map encLine).length : Nat) : Int) > 0) then false else (bif decide ((((e.rows.map encLine).length : Nat) : Int) > 0) then false else (bif (i == 0) then (e.parent == (-1)) else (bif (s_inRange.m e.parent 0 (w64 (i - 1))) then (bif (e2.kind != 1) then true else (s_validCell.m e2.cols e2.rows ([]) e.cell)) else false)))) else (bif (i == 0) then (e.parent == (-1)) else (bif (s_inRange.m e.parent 0 (w64 (i - 1))) then (bif (e2.kind != 1) then true else (s_validCell.m e2.cols e2.rows ([]) e.cell)) else false)))))) else false))) else false) else false) else false) else false)
theorem s_validNode.c (nodes : List Node) (i : Int) (e : Node) (e2 : Node) (G1 : decide (0 ≤ i) = true) (G2 : (s_inRange.m e.parent 0 (w64 (i - 1))) = true → decide (0 ≤ e.parent) = true) (F1 : (nodes.map encNode)[(i).toNat]? = some (encNode e)) (F2 : (s_inRange.m e.parent 0 (w64 (i - 1))) = true → (nodes.map encNode)[(e.parent).toNat]? = some (encNode e2)) (S1 : Sm e.cols) (S2 : Sm e.rows) : PC s_validNode [.agg [.rsl (nodes.map encNode)], vI i] (vB (s_validNode.m nodes i e e2), []) := by
  refine lift ?_
  unfold s_validNode.m
  cases h1 : (s_inRange.m e.w 0 30) with
  | true =>
    cases h2 : (s_inRange.m e.h 0 30) with
    | true =>
      cases h3 : (s_inRange.m e.kind 0 2) with
      | true =>
        cases h4 : (s_validPack.m e.pack) with
        | true =>
          cases h5 : (e.pack.w != 0) with
          | true =>
            exact s_validNode.w5 _ _ _ (H1 := G1) (H6 := h5) (E1 := F1) (K1 := (s_inRange.c e.w 0 30).trans (by rw [h1])) (K2 := (s_inRange.c e.h 0 30).trans (by rw [h2])) (K3 := (s_inRange.c e.kind 0 2).trans (by rw [h3])) (K4 := (s_validPack.c e.pack).trans (by rw [h4]))
          | false =>
            cases h6 : (e.pack.h != 0) with
            | true =>
              exact s_validNode.w6 _ _ _ (H1 := G1) (H6 := h5) (H7 := h6) (E1 := F1) (K1 := (s_inRange.c e.w 0 30).trans (by rw [h1])) (K2 := (s_inRange.c e.h 0 30).trans (by rw [h2])) (K3 := (s_inRange.c e.kind 0 2).trans (by rw [h3])) (K4 := (s_validPack.c e.pack).trans (by rw [h4]))
            | false =>
              cases h7 : (s_validPlace.m e.place) with
              | true =>
                cases h8 : (e.cell.w != 0) with
                | true =>
                  exact s_validNode.w8 _ _ _ (H1 := G1) (H6 := h5) (H7 := h6) (H9 := h8) (E1 := F1) (K1 := (s_inRange.c e.w 0 30).trans (by rw [h1])) (K2 := (s_inRange.c e.h 0 30).trans (by rw [h2])) (K3 := (s_inRange.c e.kind 0 2).trans (by rw [h3])) (K4 := (s_validPack.c e.pack).trans (by rw [h4])) (K5 := (s_validPlace.c e.place).trans (by rw [h7]))
                | false =>
                  cases h9 : (e.cell.h != 0) with
                  | true =>
                    exact s_validNode.w9 _ _ _ (H1 := G1) (H6 := h5) (H7 := h6) (H9 := h8) (H10 := h9) (E1 := F1) (K1 := (s_inRange.c e.w 0 30).trans (by rw [h1])) (K2 := (s_inRange.c e.h 0 30).trans (by rw [h2])) (K3 := (s_inRange.c e.kind 0 2).trans (by rw [h3])) (K4 := (s_validPack.c e.pack).trans (by rw [h4])) (K5 := (s_validPlace.c e.place).trans (by rw [h7]))
                  | false =>
                    cases h10 : (e.kind == 1) with
                    | true =>
                      cases h11 : (s_validLines.m e.cols) with
                      | true =>
                        cases h12 : (s_validLines.m e.rows) with
                        | true =>
                          cases h13 : (e.kind != 1) with
                          | true =>
                            cases h14 : (decide ((((e.cols.map encLine).length : Nat) : Int) > 0)) with
                            | true =>
                              exact s_validNode.w22 _ _ _ (H1 := G1) (H6 := h5) (H7 := h6) (H9 := h8) (H10 := h9) (H11 := h10) (H14 := h13) (H15 := h14) (E1 := F1) (K1 := (s_inRange.c e.w 0 30).trans (by rw [h1])) (K2 := (s_inRange.c e.h 0 30).trans (by rw [h2])) (K3 := (s_inRange.c e.kind 0 2).trans (by rw [h3])) (K4 := (s_validPack.c e.pack).trans (by rw [h4])) (K5 := (s_validPlace.c e.place).trans (by rw [h7])) (K6 := (s_validLines.c e.cols S1).trans (by rw [h11])) (K7 := (s_validLines.c e.rows S2).trans (by rw [h12]))
                            | false =>
                              cases h15 : (decide ((((e.rows.map encLine).length : Nat) : Int) > 0)) with
                              | true =>
                                exact s_validNode.w27 _ _ _ (H1 := G1) (H6 := h5) (H7 := h6) (H9 := h8) (H10 := h9) (H11 := h10) (H14 := h13) (H15 := h14) (H16 := h15) (E1 := F1) (K1 := (s_inRange.c e.w 0 30).trans (by rw [h1])) (K2 := (s_inRange.c e.h 0 30).trans (by rw [h2])) (K3 := (s_inRange.c e.kind 0 2).trans (by rw [h3])) (K4 := (s_validPack.c e.pack).trans (by rw [h4])) (K5 := (s_validPlace.c e.place).trans (by rw [h7])) (K6 := (s_validLines.c e.cols S1).trans (by rw [h11])) (K7 := (s_validLines.c e.rows S2).trans (by rw [h12]))
                              | false =>
                                cases h16 : (i == 0) with
                                | true =>
                                  exact s_validNode.w28 _ _ _ (H1 := G1) (H6 := h5) (H7 := h6) (H9 := h8) (H10 := h9) (H11 := h10) (H14 := h13) (H15 := h14) (H16 := h15) (H17 := h16) (E1 := F1) (K1 := (s_inRange.c e.w 0 30).trans (by rw [h1])) (K2 := (s_inRange.c e.h 0 30).trans (by rw [h2])) (K3 := (s_inRange.c e.kind 0 2).trans (by rw [h3])) (K4 := (s_validPack.c e.pack).trans (by rw [h4])) (K5 := (s_validPlace.c e.place).trans (by rw [h7])) (K6 := (s_validLines.c e.cols S1).trans (by rw [h11])) (K7 := (s_validLines.c e.rows S2).trans (by rw [h12]))
                                | false =>
                                  cases h17 : (s_inRange.m e.parent 0 (w64 (i - 1))) with
                                  | true =>
                                    cases h18 : (e2.kind != 1) with
                                    | true =>
                                      exact s_validNode.w30 _ _ _ _ (H1 := G1) (H6 := h5) (H7 := h6) (H9 := h8) (H10 := h9) (H11 := h10) (H14 := h13) (H15 := h14) (H16 := h15) (H17 := h16) (H19 := (G2 h17)) (H20 := h18) (E1 := F1) (E2 := (F2 h17)) (K1 := (s_inRange.c e.w 0 30).trans (by rw [h1])) (K2 := (s_inRange.c e.h 0 30).trans (by rw [h2])) (K3 := (s_inRange.c e.kind 0 2).trans (by rw [h3])) (K4 := (s_validPack.c e.pack).trans (by rw [h4])) (K5 := (s_validPlace.c e.place).trans (by rw [h7])) (K6 := (s_validLines.c e.cols S1).trans (by rw [h11])) (K7 := (s_validLines.c e.rows S2).trans (by rw [h12])) (K8 := (s_inRange.c e.parent 0 (w64 (i - 1))).trans (by rw [h17]))
                                    | false =>
                                      exact s_validNode.w31 _ _ _ _ _ (H1 := G1) (H6 := h5) (H7 := h6) (H9 := h8) (H10 := h9) (H11 := h10) (H14 := h13) (H15 := h14) (H16 := h15) (H17 := h16) (H19 := (G2 h17)) (H20 := h18) (E1 := F1) (E2 := (F2 h17)) (K1 := (s_inRange.c e.w 0 30).trans (by rw [h1])) (K2 := (s_inRange.c e.h 0 30).trans (by rw [h2])) (K3 := (s_inRange.c e.kind 0 2).trans (by rw [h3])) (K4 := (s_validPack.c e.pack).trans (by rw [h4])) (K5 := (s_validPlace.c e.place).trans (by rw [h7])) (K6 := (s_validLines.c e.cols S1).trans (by rw [h11])) (K7 := (s_validLines.c e.rows S2).trans (by rw [h12])) (K8 := (s_inRange.c e.parent 0 (w64 (i - 1))).trans (by rw [h17])) (K9 := (s_validCell.c e2.cols e2.rows ([]) e.cell))
                                  | false =>
                                    exact s_validNode.w29 _ _ _ (H1 := G1) (H6 := h5) (H7 := h6) (H9 := h8) (H10 := h9) (H11 := h10) (H14 := h13) (H15 := h14) (H16 := h15) (H17 := h16) (E1 := F1) (K1 := (s_inRange.c e.w 0 30).trans (by rw [h1])) (K2 := (s_inRange.c e.h 0 30).trans (by rw [h2])) (K3 := (s_inRange.c e.kind 0 2).trans (by rw [h3])) (K4 := (s_validPack.c e.pack).trans (by rw [h4])) (K5 := (s_validPlace.c e.place).trans (by rw [h7])) (K6 := (s_validLines.c e.cols S1).trans (by rw [h11])) (K7 := (s_validLines.c e.rows S2).trans (by rw [h12])) (K8 := (s_inRange.c e.parent 0 (w64 (i - 1))).trans (by rw [h17]))
                          | false =>
                            cases h19 : (i == 0) with
                            | true =>
                              exact s_validNode.w23 _ _ _ (H1 := G1) (H6 := h5) (H7 := h6) (H9 := h8) (H10 := h9) (H11 := h10) (H14 := h13) (H15 := h19) (E1 := F1) (K1 := (s_inRange.c e.w 0 30).trans (by rw [h1])) (K2 := (s_inRange.c e.h 0 30).trans (by rw [h2])) (K3 := (s_inRange.c e.kind 0 2).trans (by rw [h3])) (K4 := (s_validPack.c e.pack).trans (by rw [h4])) (K5 := (s_validPlace.c e.place).trans (by rw [h7])) (K6 := (s_validLines.c e.cols S1).trans (by rw [h11])) (K7 := (s_validLines.c e.rows S2).trans (by rw [h12]))
                            | false =>
                              cases h20 : (s_inRange.m e.parent 0 (w64 (i - 1))) with
                              | true =>
                                cases h21 : (e2.kind != 1) with
                                | true =>
                                  exact s_validNode.w25 _ _ _ _ (H1 := G1) (H6 := h5) (H7 := h6) (H9 := h8) (H10 := h9) (H11 := h10) (H14 := h13) (H15 := h19) (H17 := (G2 h20)) (H18 := h21) (E1 := F1) (E2 := (F2 h20)) (K1 := (s_inRange.c e.w 0 30).trans (by rw [h1])) (K2 := (s_inRange.c e.h 0 30).trans (by rw [h2])) (K3 := (s_inRange.c e.kind 0 2).trans (by rw [h3])) (K4 := (s_validPack.c e.pack).trans (by rw [h4])) (K5 := (s_validPlace.c e.place).trans (by rw [h7])) (K6 := (s_validLines.c e.cols S1).trans (by rw [h11])) (K7 := (s_validLines.c e.rows S2).trans (by rw [h12])) (K8 := (s_inRange.c e.parent 0 (w64 (i - 1))).trans (by rw [h20]))
                                | false =>
                                  exact s_validNode.w26 _ _ _ _ _ (H1 := G1) (H6 := h5) (H7 := h6) (H9 := h8) (H10 := h9) (H11 := h10) (H14 := h13) (H15 := h19) (H17 := (G2 h20)) (H18 := h21) (E1 := F1) (E2 := (F2 h20)) (K1 := (s_inRange.c e.w 0 30).trans (by rw [h1])) (K2 := (s_inRange.c e.h 0 30).trans (by rw [h2])) (K3 := (s_inRange.c e.kind 0 2).trans (by rw [h3])) (K4 := (s_validPack.c e.pack).trans (by rw [h4])) (K5 := (s_validPlace.c e.place).trans (by rw [h7])) (K6 := (s_validLines.c e.cols S1).trans (by rw [h11])) (K7 := (s_validLines.c e.rows S2).trans (by rw [h12])) (K8 := (s_inRange.c e.parent 0 (w64 (i - 1))).trans (by rw [h20])) (K9 := (s_validCell.c e2.cols e2.rows ([]) e.cell))
                              | false =>
                                exact s_validNode.w24 _ _ _ (H1 := G1) (H6 := h5) (H7 := h6) (H9 := h8) (H10 := h9) (H11 := h10) (H14 := h13) (H15 := h19) (E1 := F1) (K1 := (s_inRange.c e.w 0 30).trans (by rw [h1])) (K2 := (s_inRange.c e.h 0 30).trans (by rw [h2])) (K3 := (s_inRange.c e.kind 0 2).trans (by rw [h3])) (K4 := (s_validPack.c e.pack).trans (by rw [h4])) (K5 := (s_validPlace.c e.place).trans (by rw [h7])) (K6 := (s_validLines.c e.cols S1).trans (by rw [h11])) (K7 := (s_validLines.c e.rows S2).trans (by rw [h12])) (K8 := (s_inRange.c e.parent 0 (w64 (i - 1))).trans (by rw [h20]))
                        | false =>
                          exact s_validNode.w21 _ _ _ (H1 := G1) (H6 := h5) (H7 := h6) (H9 := h8) (H10 := h9) (H11 := h10) (E1 := F1) (K1 := (s_inRange.c e.w 0 30).trans (by rw [h1])) (K2 := (s_inRange.c e.h 0 30).trans (by rw [h2])) (K3 := (s_inRange.c e.kind 0 2).trans (by rw [h3])) (K4 := (s_validPack.c e.pack).trans (by rw [h4])) (K5 := (s_validPlace.c e.place).trans (by rw [h7])) (K6 := (s_validLines.c e.cols S1).trans (by rw [h11])) (K7 := (s_validLines.c e.rows S2).trans (by rw [h12]))
                      | false =>
                        exact s_validNode.w10 _ _ _ (H1 := G1) (H6 := h5) (H7 := h6) (H9 := h8) (H10 := h9) (H11 := h10) (E1 := F1) (K1 := (s_inRange.c e.w 0 30).trans (by rw [h1])) (K2 := (s_inRange.c e.h 0 30).trans (by rw [h2])) (K3 := (s_inRange.c e.kind 0 2).trans (by rw [h3])) (K4 := (s_validPack.c e.pack).trans (by rw [h4])) (K5 := (s_validPlace.c e.place).trans (by rw [h7])) (K6 := (s_validLines.c e.cols S1).trans (by rw [h11]))
                    | false =>
                      cases h22 : (e.kind != 1) with
                      | true =>
                        cases h23 : (decide ((((e.cols.map encLine).length : Nat) : Int) > 0)) with
                        | true =>
                          exact s_validNode.w11 _ _ _ (H1 := G1) (H6 := h5) (H7 := h6) (H9 := h8) (H10 := h9) (H11 := h10) (H12 := h22) (H13 := h23) (E1 := F1) (K1 := (s_inRange.c e.w 0 30).trans (by rw [h1])) (K2 := (s_inRange.c e.h 0 30).trans (by rw [h2])) (K3 := (s_inRange.c e.kind 0 2).trans (by rw [h3])) (K4 := (s_validPack.c e.pack).trans (by rw [h4])) (K5 := (s_validPlace.c e.place).trans (by rw [h7]))
                        | false =>
                          cases h24 : (decide ((((e.rows.map encLine).length : Nat) : Int) > 0)) with
                          | true =>
                            exact s_validNode.w16 _ _ _ (H1 := G1) (H6 := h5) (H7 := h6) (H9 := h8) (H10 := h9) (H11 := h10) (H12 := h22) (H13 := h23) (H14 := h24) (E1 := F1) (K1 := (s_inRange.c e.w 0 30).trans (by rw [h1])) (K2 := (s_inRange.c e.h 0 30).trans (by rw [h2])) (K3 := (s_inRange.c e.kind 0 2).trans (by rw [h3])) (K4 := (s_validPack.c e.pack).trans (by rw [h4])) (K5 := (s_validPlace.c e.place).trans (by rw [h7]))
                          | false =>
                            cases h25 : (i == 0) with
                            | true =>
                              exact s_validNode.w17 _ _ _ (H1 := G1) (H6 := h5) (H7 := h6) (H9 := h8) (H10 := h9) (H11 := h10) (H12 := h22) (H13 := h23) (H14 := h24) (H15 := h25) (E1 := F1) (K1 := (s_inRange.c e.w 0 30).trans (by rw [h1])) (K2 := (s_inRange.c e.h 0 30).trans (by rw [h2])) (K3 := (s_inRange.c e.kind 0 2).trans (by rw [h3])) (K4 := (s_validPack.c e.pack).trans (by rw [h4])) (K5 := (s_validPlace.c e.place).trans (by rw [h7]))
                            | false =>
                              cases h26 : (s_inRange.m e.parent 0 (w64 (i - 1))) with
                              | true =>
                                cases h27 : (e2.kind != 1) with
                                | true =>
                                  exact s_validNode.w19 _ _ _ _ (H1 := G1) (H6 := h5) (H7 := h6) (H9 := h8) (H10 := h9) (H11 := h10) (H12 := h22) (H13 := h23) (H14 := h24) (H15 := h25) (H17 := (G2 h26)) (H18 := h27) (E1 := F1) (E2 := (F2 h26)) (K1 := (s_inRange.c e.w 0 30).trans (by rw [h1])) (K2 := (s_inRange.c e.h 0 30).trans (by rw [h2])) (K3 := (s_inRange.c e.kind 0 2).trans (by rw [h3])) (K4 := (s_validPack.c e.pack).trans (by rw [h4])) (K5 := (s_validPlace.c e.place).trans (by rw [h7])) (K6 := (s_inRange.c e.parent 0 (w64 (i - 1))).trans (by rw [h26]))
                                | false =>
                                  exact s_validNode.w20 _ _ _ _ _ (H1 := G1) (H6 := h5) (H7 := h6) (H9 := h8) (H10 := h9) (H11 := h10) (H12 := h22) (H13 := h23) (H14 := h24) (H15 := h25) (H17 := (G2 h26)) (H18 := h27) (E1 := F1) (E2 := (F2 h26)) (K1 := (s_inRange.c e.w 0 30).trans (by rw [h1])) (K2 := (s_inRange.c e.h 0 30).trans (by rw [h2])) (K3 := (s_inRange.c e.kind 0 2).trans (by rw [h3])) (K4 := (s_validPack.c e.pack).trans (by rw [h4])) (K5 := (s_validPlace.c e.place).trans (by rw [h7])) (K6 := (s_inRange.c e.parent 0 (w64 (i - 1))).trans (by rw [h26])) (K7 := (s_validCell.c e2.cols e2.rows ([]) e.cell))
                              | false =>
                                exact s_validNode.w18 _ _ _ (H1 := G1) (H6 := h5) (H7 := h6) (H9 := h8) (H10 := h9) (H11 := h10) (H12 := h22) (H13 := h23) (H14 := h24) (H15 := h25) (E1 := F1) (K1 := (s_inRange.c e.w 0 30).trans (by rw [h1])) (K2 := (s_inRange.c e.h 0 30).trans (by rw [h2])) (K3 := (s_inRange.c e.kind 0 2).trans (by rw [h3])) (K4 := (s_validPack.c e.pack).trans (by rw [h4])) (K5 := (s_validPlace.c e.place).trans (by rw [h7])) (K6 := (s_inRange.c e.parent 0 (w64 (i - 1))).trans (by rw [h26]))
                      | false =>
                        cases h28 : (i == 0) with
                        | true =>
                          exact s_validNode.w12 _ _ _ (H1 := G1) (H6 := h5) (H7 := h6) (H9 := h8) (H10 := h9) (H11 := h10) (H12 := h22) (H13 := h28) (E1 := F1) (K1 := (s_inRange.c e.w 0 30).trans (by rw [h1])) (K2 := (s_inRange.c e.h 0 30).trans (by rw [h2])) (K3 := (s_inRange.c e.kind 0 2).trans (by rw [h3])) (K4 := (s_validPack.c e.pack).trans (by rw [h4])) (K5 := (s_validPlace.c e.place).trans (by rw [h7]))
                        | false =>
                          cases h29 : (s_inRange.m e.parent 0 (w64 (i - 1))) with
                          | true =>
                            cases h30 : (e2.kind != 1) with
                            | true =>
                              exact s_validNode.w14 _ _ _ _ (H1 := G1) (H6 := h5) (H7 := h6) (H9 := h8) (H10 := h9) (H11 := h10) (H12 := h22) (H13 := h28) (H15 := (G2 h29)) (H16 := h30) (E1 := F1) (E2 := (F2 h29)) (K1 := (s_inRange.c e.w 0 30).trans (by rw [h1])) (K2 := (s_inRange.c e.h 0 30).trans (by rw [h2])) (K3 := (s_inRange.c e.kind 0 2).trans (by rw [h3])) (K4 := (s_validPack.c e.pack).trans (by rw [h4])) (K5 := (s_validPlace.c e.place).trans (by rw [h7])) (K6 := (s_inRange.c e.parent 0 (w64 (i - 1))).trans (by rw [h29]))
                            | false =>
                              exact s_validNode.w15 _ _ _ _ _ (H1 := G1) (H6 := h5) (H7 := h6) (H9 := h8) (H10 := h9) (H11 := h10) (H12 := h22) (H13 := h28) (H15 := (G2 h29)) (H16 := h30) (E1 := F1) (E2 := (F2 h29)) (K1 := (s_inRange.c e.w 0 30).trans (by rw [h1])) (K2 := (s_inRange.c e.h 0 30).trans (by rw [h2])) (K3 := (s_inRange.c e.kind 0 2).trans (by rw [h3])) (K4 := (s_validPack.c e.pack).trans (by rw [h4])) (K5 := (s_validPlace.c e.place).trans (by rw [h7])) (K6 := (s_inRange.c e.parent 0 (w64 (i - 1))).trans (by rw [h29])) (K7 := (s_validCell.c e2.cols e2.rows ([]) e.cell))
                          | false =>
                            exact s_validNode.w13 _ _ _ (H1 := G1) (H6 := h5) (H7 := h6) (H9 := h8) (H10 := h9) (H11 := h10) (H12 := h22) (H13 := h28) (E1 := F1) (K1 := (s_inRange.c e.w 0 30).trans (by rw [h1])) (K2 := (s_inRange.c e.h 0 30).trans (by rw [h2])) (K3 := (s_inRange.c e.kind 0 2).trans (by rw [h3])) (K4 := (s_validPack.c e.pack).trans (by rw [h4])) (K5 := (s_validPlace.c e.place).trans (by rw [h7])) (K6 := (s_inRange.c e.parent 0 (w64 (i - 1))).trans (by rw [h29]))
              | false =>
                exact s_validNode.w7 _ _ _ (H1 := G1) (H6 := h5) (H7 := h6) (E1 := F1) (K1 := (s_inRange.c e.w 0 30).trans (by rw [h1])) (K2 := (s_inRange.c e.h 0 30).trans (by rw [h2])) (K3 := (s_inRange.c e.kind 0 2).trans (by rw [h3])) (K4 := (s_validPack.c e.pack).trans (by rw [h4])) (K5 := (s_validPlace.c e.place).trans (by rw [h7]))
        | false =>
          exact s_validNode.w4 _ _ _ (H1 := G1) (E1 := F1) (K1 := (s_inRange.c e.w 0 30).trans (by rw [h1])) (K2 := (s_inRange.c e.h 0 30).trans (by rw [h2])) (K3 := (s_inRange.c e.kind 0 2).trans (by rw [h3])) (K4 := (s_validPack.c e.pack).trans (by rw [h4]))
      | false =>
        exact s_validNode.w3 _ _ _ (H1 := G1) (E1 := F1) (K1 := (s_inRange.c e.w 0 30).trans (by rw [h1])) (K2 := (s_inRange.c e.h 0 30).trans (by rw [h2])) (K3 := (s_inRange.c e.kind 0 2).trans (by rw [h3]))
    | false =>
      exact s_validNode.w2 _ _ _ (H1 := G1) (E1 := F1) (K1 := (s_inRange.c e.w 0 30).trans (by rw [h1])) (K2 := (s_inRange.c e.h 0 30).trans (by rw [h2]))
  | false =>
    exact s_validNode.w1 _ _ _ (H1 := G1) (E1 := F1) (K1 := (s_inRange.c e.w 0 30).trans (by rw [h1]))
end Go.Proofs.Ytdgamfanffnhaaa.PI
namespace Go.Proofs.Ytdgamfanffnhaaa.PI
open Go
theorem uni_map {α : Type} {sz : Nat} {f : α → List C} (h : ∀ x, (f x).length = sz) (l : List α) : uni sz (l.map f) = true := by
  unfold uni; rw [List.all_eq_true]; intro el hel
  obtain ⟨x, _, rfl⟩ := List.mem_map.1 hel
  simp [h]
theorem range_eq (n l h : Int) : s_inRange.m n l h = i_within.m n l h := rfl
theorem within_iff {n l h : Int} : i_within.m n l h = true ↔ l ≤ n ∧ n ≤ h := by
  unfold i_within.m
  cases hh : decide (n ≥ l) <;> simp_all; omega
theorem bif_and (a b : Bool) : (bif a then b else false) = (a && b) := by cases a <;> rfl
theorem bif_nand (a b : Bool) : (bif a then false else b) = (!a && b) := by cases a <;> rfl
def NsOk (nodes : List Node) : Prop := nodes.length < 488671834567 ∧ ∀ n ∈ nodes, Sm n.cols ∧ Sm n.rows
theorem NsOk.at {nodes : List Node} (h : NsOk nodes) {j : Nat} (hj : j < nodes.length) : Sm nodes[j].cols ∧ Sm nodes[j].rows := h.2 _ (List.getElem_mem hj)
theorem pack_eq (p : Pack) : s_validPack.m p = i_ValidPack.m p := rfl
theorem place_eq (p : Place) : s_validPlace.m p = i_ValidPlace.m p := by
  unfold s_validPlace.m i_ValidPlace.m s_validAnchor.m
  simp only [range_eq, bif_and, List.all_cons, List.all_nil, Bool.and_true]
  ac_rfl
theorem line_eq (l : Line) : i_linesOk_1.m l = !s_validLine.m l := by
  unfold i_linesOk_1.m s_validLine.m
  simp only [range_eq]
  cases i_within.m l.weight 0 5 <;> rfl
theorem lines_eq (l : List Line) : s_validLines.m l = i_linesOk.m l := by
  unfold s_validLines.m i_linesOk.m
  have : (!l.any i_linesOk_1.m) = l.all s_validLine.m := by
    induction l with
    | nil => rfl
    | cons a l ih => rw [List.any_cons, List.all_cons, Bool.not_or, ih, line_eq, Bool.not_not]
  rw [this, range_eq]
  simp only [bif_and]
  exact Bool.and_comm _ _
theorem cell_eq (cols rows : List Line) (c : Cell) (hw : c.w = 0) (hh : c.h = 0) : s_validCell.m cols rows [] c = i_Cell_lies.m c cols rows [] := by
  unfold s_validCell.m i_Cell_lies.m i_spanOk.m
  simp only [range_eq, bif_and, hw, hh]
  have : i_within.m 0 0 30 = true := rfl
  rw [this]
  simp only [Bool.true_and]
  ac_rfl
def upOk (i : Nat) (e up : Node) : Bool := bif i == 0 then e.parent == -1 else (bif i_within.m e.parent 0 (i - 1) then (bif up.kind == 1 then i_Cell_lies.m e.cell up.cols up.rows [] else true) else false)
def upOf (nodes : List Node) (e : Node) : Node := (nodes[e.parent.toNat]?).getD default
def vNodeAt (nodes : List Node) (i : Nat) (e : Node) : Bool := i_Node_ok.m e && upOk i e (upOf nodes e)
theorem node_cell {e : Node} (h : i_Node_ok.m e = true) : e.cell.w = 0 ∧ e.cell.h = 0 := by
  unfold i_Node_ok.m at h
  simp only [bif_and, bif_nand, Bool.and_eq_true, Bool.not_eq_true', bne_eq_false_iff_eq] at h
  exact ⟨h.2.2.2.2.2.2.2.1, h.2.2.2.2.2.2.2.2.1⟩
theorem len_pos (n : Nat) : decide ((n : Int) > 0) = !((n : Int) == 0) := by
  cases n with
  | zero => rfl
  | succ n =>
    have h1 : (((n + 1 : Nat) : Int) == 0) = false := by rw [beq_eq_false_iff_ne]; omega
    have h2 : decide (((n + 1 : Nat) : Int) > 0) = true := by rw [decide_eq_true_eq]; omega
    rw [h1, h2]; rfl
theorem vNode_eq (nodes : List Node) (i : Nat) (e : Node) (hi : i ≤ 1000000000000) : s_validNode.m nodes i e (upOf nodes e) = vNodeAt nodes i e := by
  have tail : ∀ {b : Bool}, i_Node_ok.m e = true → (bif ((i : Int) == 0) then (e.parent == (-1)) else (bif (s_inRange.m e.parent 0 (w64 ((i : Int) - 1))) then (bif ((upOf nodes e).kind != 1) then true else (s_validCell.m (upOf nodes e).cols (upOf nodes e).rows [] e.cell)) else false)) = upOk i e (upOf nodes e) := by
    intro _ hN
    obtain ⟨hw, hh⟩ := node_cell hN
    unfold upOk
    rw [cell_eq _ _ _ hw hh, range_eq, w64_id (by omega) (by omega)]
    have h0 : ((i : Int) == 0) = (i == 0) := by
      cases i with
      | zero => rfl
      | succ n => rw [show ((n + 1 : Nat) == 0) = false from rfl, beq_eq_false_iff_ne]; omega
    rw [h0]
    cases i == 0 with
    | true => rfl
    | false =>
      cases i_within.m e.parent 0 ((i : Int) - 1) with
      | false => rfl
      | true => simp only [cond_true, cond_false, bne]; cases (upOf nodes e).kind == 1 <;> rfl
  cases hN : i_Node_ok.m e with
  | true =>
    unfold vNodeAt
    rw [hN, Bool.true_and, ← tail (b := true) hN]
    unfold s_validNode.m
    unfold i_Node_ok.m at hN
    simp only [bif_and, bif_nand, Bool.and_eq_true, Bool.not_eq_true', bne_eq_false_iff_eq] at hN
    obtain ⟨h1, h2, h3, h4, h5, h6, h7, h8, h9, h10⟩ := hN
    rw [range_eq, h1, range_eq, h2, range_eq, h3, pack_eq, h4, place_eq, h7, lines_eq, lines_eq]
    simp only [h5, h6, h8, h9, bne_self_eq_false, cond_true, cond_false, bne]
    cases hk : e.kind == 1 with
    | true =>
      rw [hk] at h10
      simp only [cond_true, Bool.and_eq_true] at h10
      simp only [h10.1, h10.2, cond_true, Bool.not_true, cond_false]
      rfl
    | false =>
      rw [hk] at h10
      simp only [cond_false, Bool.and_eq_true] at h10
      simp only [len_pos, h10.1, h10.2, cond_true, cond_false, Bool.not_true, Bool.not_false]
      rfl
  | false =>
    unfold vNodeAt
    rw [hN, Bool.false_and]
    unfold s_validNode.m
    unfold i_Node_ok.m at hN
    simp only [range_eq, pack_eq, place_eq, lines_eq] at hN ⊢
    cases h1 : i_within.m e.w 0 30 with
    | false => rfl
    | true =>
    cases h2 : i_within.m e.h 0 30 with
    | false => rfl
    | true =>
    cases h3 : i_within.m e.kind 0 2 with
    | false => rfl
    | true =>
    cases h4 : i_ValidPack.m e.pack with
    | false => rfl
    | true =>
    cases h5 : e.pack.w != 0 with
    | true => rfl
    | false =>
    cases h6 : e.pack.h != 0 with
    | true => rfl
    | false =>
    cases h7 : i_ValidPlace.m e.place with
    | false => rfl
    | true =>
    cases h8 : e.cell.w != 0 with
    | true => rfl
    | false =>
    cases h9 : e.cell.h != 0 with
    | true => rfl
    | false =>
    rw [h1, h2, h3, h4, h5, h6, h7, h8, h9] at hN
    simp only [cond_true, cond_false, bne, len_pos] at hN ⊢
    cases hk : e.kind == 1 with
    | true =>
      rw [hk] at hN
      simp only [cond_true, bif_and, Bool.not_true, cond_false] at hN ⊢
      cases h10 : i_linesOk.m e.cols with
      | false => rfl
      | true =>
        rw [h10, Bool.true_and] at hN
        rw [hN]; rfl
    | false =>
      rw [hk] at hN
      simp only [cond_false, bif_and, Bool.not_false, cond_true] at hN ⊢
      cases h10 : (((e.cols.map encLine).length : Nat) : Int) == 0 with
      | false => rfl
      | true =>
        rw [h10, Bool.true_and] at hN
        rw [hN]; rfl
def vTree (nodes : List Node) : Bool := nodes.zipIdx.all (fun x => vNodeAt nodes x.2 x.1) && i_within.m nodes.length 1 10
theorem vAll {nodes : List Node} : (∀ j, j < nodes.length → ((nodes[j]?).map (vNodeAt nodes j)).getD true = true) ↔ nodes.zipIdx.all (fun x => vNodeAt nodes x.2 x.1) = true := by
  rw [List.all_eq_true]
  constructor
  · rintro h ⟨x, i⟩ hx
    rw [List.mem_zipIdx_iff_getElem?] at hx
    have hi := (List.getElem?_eq_some_iff.1 hx).1
    have := h i hi
    rw [hx] at this; simpa using this
  · intro h j hj
    rw [List.getElem?_eq_getElem hj]
    exact h (nodes[j], j) (List.mem_zipIdx_iff_getElem?.2 (List.getElem?_eq_getElem hj))
theorem up_at {nodes : List Node} {e : Node} {j : Nat} (hj : j ≤ nodes.length) (h : i_within.m e.parent 0 ((j : Int) - 1) = true) : 0 ≤ e.parent ∧ (nodes.map encNode)[e.parent.toNat]? = some (encNode (upOf nodes e)) := by
  rw [within_iff] at h
  have hl : e.parent.toNat < nodes.length := by omega
  refine ⟨h.1, ?_⟩
  unfold upOf
  rw [List.getElem?_map, List.getElem?_eq_getElem hl]; rfl
def s_validTree.m (nodes : List Node) : Bool := vTree nodes
def i_ValidTree.m (nodes : List Node) : Bool := vTree nodes
theorem s_validTree.c (nodes : List Node) (ho : NsOk nodes) : PC s_validTree [.agg [.rsl (nodes.map encNode)]] (vB (s_validTree.m nodes), []) := by
  have hn := ho.1
  refine lift ?_
  unfold s_validTree.m vTree
  have node : ∀ j (hj : j < nodes.length), PC s_validNode [.agg [.rsl (nodes.map encNode)], vI (j : Nat)] (vB (vNodeAt nodes j nodes[j]), []) := by
    intro j hj
    rw [← vNode_eq nodes j _ (by omega)]
    have hw : w64 ((j : Int) - 1) = (j : Int) - 1 := w64_id (by omega) (by omega)
    exact s_validNode.c nodes j nodes[j] (upOf nodes nodes[j]) (by simp) (fun h => by rw [range_eq, hw] at h; simpa using (up_at (nodes := nodes) (by omega) h).1) (at_map hj) (fun h => by rw [range_eq, hw] at h; exact (up_at (by omega) h).2) (ho.at hj).1 (ho.at hj).2
  have := loop_find (step := s_validTree.r0 CC lpW) (S := fun j => s_validTree.s0 (j : Nat) (nodes.map encNode)) (eb := fun _ => s_validTree.e0_0 (nodes.map encNode)) nodes.length (fun j => ((nodes[j]?).map (vNodeAt nodes j)).getD true) (fun j hj hp => by
    rw [List.getElem?_eq_getElem hj] at hp
    have := s_validTree.l0_3 (call := CC) (lp := lpW) (j : Nat) (nodes.map encNode) (by simpa using hj) ((node j hj).trans (by simpa using hp))
    rw [this, w64_succ (by omega)]) (fun j hj hp => by
    rw [List.getElem?_eq_getElem hj] at hp
    exact s_validTree.l0_1 (call := CC) (lp := lpW) (j : Nat) (nodes.map encNode) (by simpa using hj) ((node j hj).trans (by simpa using hp))) (s_validTree.l0_2 _ _ (by simp))
  rcases this with ⟨h, hl⟩ | ⟨i, hi, hp, _, hl⟩
  · rw [vAll.1 h, Bool.true_and]
    refine s_validTree.w2 nodes _ _ ?_ hl
    have := s_inRange.c ((nodes.map encNode).length : Nat) 1 10
    simpa [range_eq] using this
  · have : nodes.zipIdx.all (fun x => vNodeAt nodes x.2 x.1) = false := by
      cases h : nodes.zipIdx.all (fun x => vNodeAt nodes x.2 x.1) with
      | false => rfl
      | true => rw [vAll.2 h i hi] at hp; cases hp
    rw [this, Bool.false_and]
    exact s_validTree.w1 nodes _ hl
theorem i_ValidTree.c (nodes : List Node) (ho : NsOk nodes) : PC i_ValidTree [.agg [.rsl (nodes.map encNode)]] (vB (i_ValidTree.m nodes), []) := by
  have hn := ho.1
  refine lift ?_
  unfold i_ValidTree.m vTree
  have k0 := i_within.c ((nodes.map encNode).length : Nat) 1 10
  cases hw : i_within.m (nodes.length : Int) 1 10 with
  | false =>
    rw [Bool.and_false]
    exact i_ValidTree.w1 nodes (k0.trans (by rw [List.length_map, hw]))
  | true =>
    rw [Bool.and_true]
    have k0 := k0.trans (by rw [List.length_map, hw])
    have := loop_find (step := i_ValidTree.r0 CC lpW) (S := fun j => i_ValidTree.s0 (nodes.map encNode) ((nodes.map encNode).length : Nat) (j : Nat) (nodes.map encNode)) (eb := fun _ => i_ValidTree.e0_0) nodes.length (fun j => ((nodes[j]?).map (vNodeAt nodes j)).getD true) (fun j hj hp => by
      rw [List.getElem?_eq_getElem hj] at hp
      have hp : vNodeAt nodes j nodes[j] = true := by simpa using hp
      have hsucc := w64_succ (j := j) (by omega)
      unfold vNodeAt at hp
      simp only [Bool.and_eq_true] at hp
      obtain ⟨hN, hU⟩ := hp
      have kN := (i_Node_ok.c nodes[j] (ho.at hj).1 (ho.at hj).2).trans (by rw [hN])
      unfold upOk at hU
      cases j with
      | zero =>
        have hU : (nodes[0].parent == -1) = true := hU
        have := i_ValidTree.l0_12 (call := CC) (lp := lpW) (nodes.map encNode) ((nodes.map encNode).length : Nat) (0 : Nat) (nodes.map encNode) nodes[0] (by simpa using hj) (by simp) (by simp) (by simpa [bne] using hU) (by simp) (at_map hj) kN
        rw [this, hsucc]
      | succ j =>
        simp only [Nat.add_eq_zero_iff, Nat.succ_ne_self, and_false, beq_iff_eq, show (j + 1 == 0) = false from rfl, cond_false] at hU
        cases hW : i_within.m nodes[j + 1].parent 0 (((j + 1 : Nat) : Int) - 1) with
        | false => rw [hW] at hU; cases hU
        | true =>
          rw [hW] at hU
          simp only [cond_true] at hU
          have hup := up_at (nodes := nodes) (by omega) hW
          have kW := (i_within.c nodes[j + 1].parent 0 (w64 (((j + 1 : Nat) : Int) - 1))).trans (by rw [w64_id (by omega) (by omega), hW])
          cases hk : (upOf nodes nodes[j + 1]).kind == 1 with
          | true =>
            rw [hk] at hU
            have hL : i_Cell_lies.m nodes[j + 1].cell (upOf nodes nodes[j + 1]).cols (upOf nodes nodes[j + 1]).rows [] = true := hU
            have := i_ValidTree.l0_9 (call := CC) (lp := lpW) (nodes.map encNode) ((nodes.map encNode).length : Nat) (j + 1 : Nat) (nodes.map encNode) nodes[j + 1] (upOf nodes nodes[j + 1]) (by rw [decide_eq_true_eq, List.length_map]; omega) (by rw [decide_eq_true_eq]; omega) (by rw [beq_eq_false_iff_ne]; omega) (by rw [decide_eq_true_eq]; omega) (by simpa using hup.1) hk (at_map hj) hup.2 kW kN ((i_Cell_lies.c _ _ _ []).trans (by rw [hL]))
            rw [this, hsucc]
          | false =>
            have := i_ValidTree.l0_8 (call := CC) (lp := lpW) (nodes.map encNode) ((nodes.map encNode).length : Nat) (j + 1 : Nat) (nodes.map encNode) nodes[j + 1] (upOf nodes nodes[j + 1]) (by rw [decide_eq_true_eq, List.length_map]; omega) (by rw [decide_eq_true_eq]; omega) (by rw [beq_eq_false_iff_ne]; omega) (by rw [decide_eq_true_eq]; omega) (by simpa using hup.1) hk (at_map hj) hup.2 kW kN
            rw [this, hsucc]) (fun j hj hp => by
      rw [List.getElem?_eq_getElem hj] at hp
      have hp : vNodeAt nodes j nodes[j] = false := by simpa using hp
      unfold vNodeAt at hp
      have kN := i_Node_ok.c nodes[j] (ho.at hj).1 (ho.at hj).2
      cases j with
      | zero =>
        cases hq : nodes[0].parent == -1 with
        | false => exact i_ValidTree.l0_1 (call := CC) (lp := lpW) (nodes.map encNode) ((nodes.map encNode).length : Nat) (0 : Nat) (nodes.map encNode) nodes[0] (by simpa using hj) (by simp) (by simp) (by simp [bne, hq]) (at_map hj)
        | true =>
          have hU : upOk 0 nodes[0] (upOf nodes nodes[0]) = true := by unfold upOk; simpa using hq
          rw [hU, Bool.and_true] at hp
          exact i_ValidTree.l0_11 (call := CC) (lp := lpW) (nodes.map encNode) ((nodes.map encNode).length : Nat) (0 : Nat) (nodes.map encNode) nodes[0] (by simpa using hj) (by simp) (by simp) (by simp [bne, hq]) (by simp) (at_map hj) (kN.trans (by rw [hp]))
      | succ j =>
        have kW := i_within.c nodes[j + 1].parent 0 (w64 (((j + 1 : Nat) : Int) - 1))
        rw [w64_id (by omega) (by omega)] at kW
        have e0 : (((j + 1 : Nat) : Int) == 0) = false := by rw [beq_eq_false_iff_ne]; omega
        cases hW : i_within.m nodes[j + 1].parent 0 (((j + 1 : Nat) : Int) - 1) with
        | false =>
          exact i_ValidTree.l0_3 (call := CC) (lp := lpW) (nodes.map encNode) ((nodes.map encNode).length : Nat) (j + 1 : Nat) (nodes.map encNode) nodes[j + 1] (by rw [decide_eq_true_eq, List.length_map]; omega) (by rw [decide_eq_true_eq]; omega) e0 (by rw [decide_eq_true_eq]; omega) (at_map hj) (by rw [w64_id (by omega) (by omega)]; exact kW.trans (by rw [hW]))
        | true =>
          have hup := up_at (nodes := nodes) (by omega) hW
          have kW := kW.trans (by rw [hW])
          cases hN : i_Node_ok.m nodes[j + 1] with
          | false =>
            exact i_ValidTree.l0_6 (call := CC) (lp := lpW) (nodes.map encNode) ((nodes.map encNode).length : Nat) (j + 1 : Nat) (nodes.map encNode) nodes[j + 1] (by rw [decide_eq_true_eq, List.length_map]; omega) (by rw [decide_eq_true_eq]; omega) e0 (by rw [decide_eq_true_eq]; omega) (at_map hj) (by rw [w64_id (by omega) (by omega)]; exact kW) (kN.trans (by rw [hN]))
          | true =>
            rw [hN, Bool.true_and] at hp
            unfold upOk at hp
            rw [show (j + 1 == 0) = false from rfl, hW] at hp
            simp only [cond_false, cond_true] at hp
            cases hk : (upOf nodes nodes[j + 1]).kind == 1 with
            | false => rw [hk] at hp; cases hp
            | true =>
              rw [hk] at hp
              exact i_ValidTree.l0_7 (call := CC) (lp := lpW) (nodes.map encNode) ((nodes.map encNode).length : Nat) (j + 1 : Nat) (nodes.map encNode) nodes[j + 1] (upOf nodes nodes[j + 1]) (by rw [decide_eq_true_eq, List.length_map]; omega) (by rw [decide_eq_true_eq]; omega) e0 (by rw [decide_eq_true_eq]; omega) (by simpa using hup.1) hk (at_map hj) hup.2 (by rw [w64_id (by omega) (by omega)]; exact kW) (kN.trans (by rw [hN])) ((i_Cell_lies.c _ _ _ []).trans (by simp only [cond_true] at hp; rw [hp]))) (i_ValidTree.l0_2 _ _ _ _ (by simp))
    rcases this with ⟨h, hl⟩ | ⟨i, hi, hp, _, hl⟩
    · rw [vAll.1 h]
      exact i_ValidTree.w3 nodes k0 hl
    · have : nodes.zipIdx.all (fun x => vNodeAt nodes x.2 x.1) = false := by
        cases h : nodes.zipIdx.all (fun x => vNodeAt nodes x.2 x.1) with
        | false => rfl
        | true => rw [vAll.2 h i hi] at hp; cases hp
      rw [this]
      exact i_ValidTree.w2 nodes k0 hl
end Go.Proofs.Ytdgamfanffnhaaa.PI
namespace Go.Proofs.Ytdgamfanffnhaaa.PI
open Go Go.RowKit Go.ChangeShapes
section
variable {H : Type} {enc : TypeId × Value → H} {P : Program}
theorem post_of_grown {f : Func} {s : ChangeSpec} {apart fresh handsOn again : Bool} {W W' : World} {args : Array Value} {v : Value} {ds gs : List (DataW H)} {before : List MemPlace}
    (hW : DataW.Whole enc P f.params.toList s.vars apart W args.toList ds gs before)
    (hres : ∀ (b : Nat) (sp : Nat → Bool) (hd : Bool), DataW.TrodAll enc P W' b sp hd f.resultTypes.toList (v.resultList f.resultTypes.size) (s.fn H (ds ++ gs)).results [])
    (hargs : ∀ sp : Nat → Bool, (∀ p ∈ before, sp p.block = true) → DataW.TrodAll enc P W' 0 sp true f.params.toList args.toList (s.fn H (ds ++ gs)).args before)
    (hvars : ∀ sp : Nat → Bool, DataW.TrodVars enc P W' sp s.vars (s.fn H (ds ++ gs)).vars [])
    (hb : Below W.heap.size W W')
    (hok : ∀ (j : Nat) (t : TypeId) (r : Value), f.resultTypes[j]? = some t → (v.resultList f.resultTypes.size)[j]? = some r → Value.okWide P W' .any 0 t r) :
    s.post enc P f apart fresh handsOn again W args v W' := by
  have hold : ∀ p ∈ before, (fun b => decide (b < W.heap.size)) p.block = true := fun p hp => by simpa using hW.lt p hp
  have hlt := hW.lt
  refine ⟨ds, gs, before, [], before, [], hW, hres _ _ _, hargs _ hold, hvars _, hb.frame _, fun _ => ?_⟩
  obtain ⟨_, _, _, _, _, hz, hn⟩ := hW
  refine ⟨hok, _, _, ([] ++ before) ++ [], ⟨[] ++ before, [], trodAll_append (hargs _ (fun _ _ => rfl)) (hres _ _ _), hvars _, rfl, ?_, ?_⟩, ?_⟩
  · intro b off hp
    have hp' : MemPlace.cell b off ∈ before := by simpa using hp
    rw [hb.frozen (by have := hlt _ hp'; exact this)]
    exact hz b off hp'
  · intro ha
    have := hn ha
    simpa using this
  · intro p hp _
    simpa using hp
end
theorem ro_rsl {h : Hp} {R : Nat → Prop} {rows : List (List C)} {v : Value} (H : Ro h R [.sl rows] [v]) : Ro h R [.rsl rows] [v] := by
  cases H with
  | sc q _ => exact q.elim
  | e q _ => rcases q with q | q <;> cases q; exact .e (.inr rfl) .nil
  | row q a b c d e f g _ => rcases q with q | q <;> cases q; exact .row (.inr rfl) a b c d e f g .nil
end Go.Proofs.Ytdgamfanffnhaaa.PI
namespace Go.Proofs.Ytdgamfanffnhaaa.PI
open Go
theorem getD_at {l : List Int} {j : Nat} (h : j < l.length) : l.getD j 0 = l[j] := by simp [List.getD, h]
theorem getD_out {l : List Int} {j : Nat} (h : l.length ≤ j) : l.getD j 0 = 0 := by simp [List.getD, h]
def Itr {σ : Type} (f : Nat → σ → σ) (s : σ) : Nat → σ
  | 0 => s
  | j + 1 => f j (Itr f s j)
def Bd (M : Int) (l : List Int) : Prop := ∀ x ∈ l, 0 ≤ x ∧ x ≤ M
theorem Bd.mono {M N : Int} {l : List Int} (h : Bd M l) (hm : M ≤ N) : Bd N l := fun x hx => ⟨(h x hx).1, Int.le_trans (h x hx).2 hm⟩
theorem Bd.at {M : Int} {l : List Int} (h : Bd M l) {j : Nat} (hj : j < l.length) : 0 ≤ l[j] ∧ l[j] ≤ M := h _ (List.getElem_mem hj)
theorem Bd.getD {M : Int} {l : List Int} (h : Bd M l) (hM : 0 ≤ M) (j : Nat) : 0 ≤ l.getD j 0 ∧ l.getD j 0 ≤ M := by
  by_cases hj : j < l.length
  · rw [getD_at hj]; exact h.at hj
  · rw [getD_out (by omega)]; exact ⟨Int.le_refl _, hM⟩
theorem sum_bd {M : Int} {l : List Int} (h : Bd M l) : 0 ≤ l.sum ∧ l.sum ≤ l.length * M := by
  induction l with
  | nil => simp
  | cons a l ih =>
    have h1 := h a (by simp)
    have h2 := ih fun x hx => h x (by simp [hx])
    rw [List.sum_cons, List.length_cons, Int.natCast_add, Int.add_mul]
    omega
theorem foldW {M : Int} {l : List Int} (h : Bd M l) : ∀ a : Int, 0 ≤ a → a + l.length * M < 9223372036854775808 → l.foldl (fun n e => w64 (n + e)) a = a + l.sum := by
  induction l with
  | nil => intro a _ _; simp
  | cons b l ih =>
    intro a ha hb
    have h1 := h b (by simp)
    have h2 : Bd M l := fun x hx => h x (by simp [hx])
    have h3 := sum_bd h2
    rw [List.length_cons, Int.natCast_add, Int.add_mul] at hb
    rw [List.foldl_cons, w64_id (by omega) (by omega), ih h2 _ (by omega) (by omega), List.sum_cons]
    omega
theorem sumW_eq {M : Int} {l : List Int} (h : Bd M l) (hb : l.length * M < 9223372036854775808) : sumW l = l.sum := by
  unfold sumW; rw [foldW h 0 (by omega) (by omega)]; omega
theorem sum_set {l : List Int} {j : Nat} (hj : j < l.length) (x : Int) : (l.set j x).sum = l.sum - l[j] + x := by
  induction l generalizing j with
  | nil => simp at hj
  | cons a l ih =>
    cases j with
    | zero => simp; omega
    | succ j =>
      have := ih (j := j) (by simpa using hj)
      simp only [List.set_cons_succ, List.sum_cons, List.getElem_cons_succ, this]; omega
def quotF (n : Int) (ws : List Int) : List Int := ws.map fun w => n * w / ws.sum
def bumpStep (ws : List Int) (j : Nat) (s : List Int × Int) : List Int × Int :=
  if ws.getD j 0 ≠ 0 ∧ 0 < s.2 then (s.1.set j (s.1.getD j 0 + 1), s.2 - 1) else s
def bumped (n : Int) (ws : List Int) (j : Nat) : List Int × Int := Itr (bumpStep ws) (quotF n ws, n - (quotF n ws).sum) j
def spreadF (n : Int) (ws : List Int) : List Int :=
  if ws.sum = 0 then (List.replicate ws.length (0 : Int)).set (ws.length - 1) n else (bumped n ws ws.length).1
theorem quot_len (n : Int) (ws : List Int) : (quotF n ws).length = ws.length := List.length_map ..
theorem bumped_len (n : Int) (ws : List Int) (j : Nat) : (bumped n ws j).1.length = ws.length := by
  induction j with
  | zero => exact quot_len n ws
  | succ j ih =>
    show (bumpStep ws j (bumped n ws j)).1.length = _
    unfold bumpStep
    split
    · simpa using ih
    · exact ih
theorem spread_len (n : Int) (ws : List Int) : (spreadF n ws).length = ws.length := by
  unfold spreadF; split
  · simp
  · exact bumped_len n ws _
theorem quot_nonneg {n : Int} {ws : List Int} (hn : 0 ≤ n) (hw : ∀ w ∈ ws, 0 ≤ w) : ∀ x ∈ quotF n ws, 0 ≤ x := by
  intro x hx
  obtain ⟨w, hw', rfl⟩ := List.mem_map.1 hx
  have hs : 0 ≤ ws.sum := by
    clear hx hw'
    induction ws with
    | nil => simp
    | cons a l ih => have := hw a (by simp); have := ih fun x hx => hw x (by simp [hx]); rw [List.sum_cons]; omega
  exact Int.ediv_nonneg (Int.mul_nonneg hn (hw w hw')) hs
theorem bumped_nonneg {n : Int} {ws : List Int} (hn : 0 ≤ n) (hw : ∀ w ∈ ws, 0 ≤ w) (j : Nat) : ∀ x ∈ (bumped n ws j).1, 0 ≤ x := by
  induction j with
  | zero => exact quot_nonneg hn hw
  | succ j ih =>
    show ∀ x ∈ (bumpStep ws j (bumped n ws j)).1, 0 ≤ x
    unfold bumpStep
    split
    · intro x hx
      rcases List.mem_or_eq_of_mem_set hx with hx | rfl
      · exact ih x hx
      · by_cases h : j < (bumped n ws j).1.length
        · rw [getD_at h]; have := ih _ (List.getElem_mem h); omega
        · rw [getD_out (by omega)]; omega
    · exact ih
theorem bumped_sum {n : Int} {ws : List Int} (j : Nat) (hj : j ≤ ws.length) : (bumped n ws j).1.sum + (bumped n ws j).2 = n := by
  induction j with
  | zero => show (quotF n ws).sum + (n - (quotF n ws).sum) = n; omega
  | succ j ih =>
    have := ih (by omega)
    have hl := bumped_len n ws j
    show (bumpStep ws j (bumped n ws j)).1.sum + (bumpStep ws j (bumped n ws j)).2 = n
    unfold bumpStep
    split
    · simp only
      rw [sum_set (by omega), getD_at (by omega)]; omega
    · exact this
def nz (ws : List Int) (j : Nat) : Int := ((ws.take j).countP (fun w => decide (w ≠ 0)) : Nat)
theorem nz_succ {ws : List Int} {j : Nat} (hj : j < ws.length) : nz ws (j + 1) = nz ws j + (if ws.getD j 0 ≠ 0 then 1 else 0) := by
  unfold nz
  rw [List.take_add_one, List.getElem?_eq_getElem hj, List.countP_append, getD_at hj]
  by_cases h : ws[j] = 0 <;> simp [h]
theorem bumped_left {n : Int} {ws : List Int} (h0 : 0 ≤ n - (quotF n ws).sum) (j : Nat) (hj : j ≤ ws.length) : (bumped n ws j).2 = max 0 (n - (quotF n ws).sum - nz ws j) := by
  induction j with
  | zero => show n - (quotF n ws).sum = _; have : nz ws 0 = 0 := by simp [nz]
            omega
  | succ j ih =>
    have := ih (by omega)
    rw [nz_succ (by omega)]
    show (bumpStep ws j (bumped n ws j)).2 = _
    unfold bumpStep
    by_cases hz : ws.getD j 0 = 0
    · rw [if_neg (fun h => h.1 hz), if_neg (fun h => h hz)]; omega
    · by_cases hp : 0 < (bumped n ws j).2
      · rw [if_pos ⟨hz, hp⟩, if_pos hz]; simp only; omega
      · rw [if_neg (fun h => hp h.2), if_pos hz]; omega
theorem quot_low {n : Int} {all : Int} (hall : 0 < all) (hn : 0 ≤ n) : ∀ ws : List Int, (∀ w ∈ ws, 0 ≤ w) → n * ws.sum ≤ all * (ws.map fun w => n * w / all).sum + (ws.countP (fun w => decide (w ≠ 0)) : Nat) * (all - 1) ∧ all * (ws.map fun w => n * w / all).sum ≤ n * ws.sum
  | [], _ => by simp
  | w :: ws, h => by
    have ⟨i1, i2⟩ := quot_low hall hn ws fun x hx => h x (by simp [hx])
    have hd := Int.mul_ediv_add_emod (n * w) all
    have h1 := Int.emod_nonneg (n * w) (by omega : all ≠ 0)
    have h2 := Int.emod_lt_of_pos (n * w) hall
    rw [List.sum_cons, List.map_cons, List.sum_cons, List.countP_cons, Int.mul_add, Int.mul_add]
    by_cases hz : w = 0
    · subst hz
      simp only [Int.mul_zero, Int.zero_ediv, Int.zero_add, ne_eq, not_true_eq_false, decide_false, Bool.false_eq_true, if_false, Nat.add_zero]
      exact ⟨i1, i2⟩
    · rw [if_pos (by simpa using hz), Int.natCast_add, Int.add_mul]
      simp only [Int.natCast_one, Int.one_mul]
      constructor
      · omega
      · omega
theorem quot_bounds {n : Int} {ws : List Int} (hn : 0 ≤ n) (hw : ∀ w ∈ ws, 0 ≤ w) (hall : 0 < ws.sum) : 0 ≤ n - (quotF n ws).sum ∧ n - (quotF n ws).sum ≤ nz ws ws.length := by
  obtain ⟨h1, h2⟩ := quot_low hall hn ws hw
  have hz : nz ws ws.length = (ws.countP (fun w => decide (w ≠ 0)) : Nat) := by unfold nz; rw [List.take_length]
  unfold quotF
  rw [hz]
  have h2' : ws.sum * (ws.map fun w => n * w / ws.sum).sum ≤ ws.sum * n := by rw [Int.mul_comm ws.sum n]; exact h2
  have a := Int.le_of_mul_le_mul_left h2' hall
  refine ⟨by omega, ?_⟩
  apply Int.le_of_mul_le_mul_left (a := ws.sum) _ hall
  have : ((ws.countP (fun w => decide (w ≠ 0)) : Nat) : Int) * (ws.sum - 1) ≤ ws.sum * (ws.countP (fun w => decide (w ≠ 0)) : Nat) := by
    rw [Int.mul_sub, Int.mul_comm]; omega
  rw [Int.mul_sub]
  rw [Int.mul_comm n] at h1
  omega
theorem spread_sum {n : Int} {ws : List Int} (hn : 0 ≤ n) (hw : ∀ w ∈ ws, 0 ≤ w) (hl : 0 < ws.length) : (spreadF n ws).sum = n := by
  unfold spreadF
  by_cases h : ws.sum = 0
  · rw [if_pos h, sum_set (by simp; omega)]; simp
  · rw [if_neg h]
    have hs : 0 < ws.sum := by
      have : 0 ≤ ws.sum := by
        clear h hl
        induction ws with
        | nil => simp
        | cons a l ih => have := hw a (by simp); have := ih fun x hx => hw x (by simp [hx]); rw [List.sum_cons]; omega
      omega
    have hb := quot_bounds hn hw hs
    have := bumped_sum (n := n) (ws := ws) ws.length (Nat.le_refl _)
    rw [bumped_left hb.1 _ (Nat.le_refl _)] at this
    omega
theorem spread_nonneg {n : Int} {ws : List Int} (hn : 0 ≤ n) (hw : ∀ w ∈ ws, 0 ≤ w) : ∀ x ∈ spreadF n ws, 0 ≤ x := by
  unfold spreadF
  split
  · intro x hx
    rcases List.mem_or_eq_of_mem_set hx with hx | rfl
    · rw [List.mem_replicate] at hx; omega
    · exact hn
  · exact bumped_nonneg hn hw _
theorem le_sum {l : List Int} (h : ∀ x ∈ l, 0 ≤ x) : ∀ x ∈ l, x ≤ l.sum := by
  induction l with
  | nil => simp
  | cons a l ih =>
    have hl : ∀ x ∈ l, 0 ≤ x := fun x hx => h x (by simp [hx])
    have hs : 0 ≤ l.sum := by
      clear ih h
      induction l with
      | nil => simp
      | cons b l ih => have := hl b (by simp); have := ih fun x hx => hl x (by simp [hx]); rw [List.sum_cons]; omega
    have ha := h a (by simp)
    intro x hx
    rw [List.sum_cons]
    rcases List.mem_cons.1 hx with rfl | hx
    · omega
    · have := ih hl x hx; omega
theorem spread_bd {n : Int} {ws : List Int} (hn : 0 ≤ n) (hw : ∀ w ∈ ws, 0 ≤ w) (hl : 0 < ws.length) : Bd n (spreadF n ws) := fun x hx => by
  have := le_sum (spread_nonneg hn hw) x hx
  rw [spread_sum hn hw hl] at this
  exact ⟨spread_nonneg hn hw x hx, this⟩
end Go.Proofs.Ytdgamfanffnhaaa.PI
namespace Go.Proofs.Ytdgamfanffnhaaa.PI
open Go
theorem rep_map (k : Nat) : List.replicate k zInt = (List.replicate k (0 : Int)).map encInt := by rw [List.map_replicate]; rfl
theorem set_int (l : List Int) (k : Nat) (n : Int) : (l.map encInt).set k [C.int .i64 n] = (l.set k n).map encInt := by rw [List.map_set]; rfl
def fillF {α : Type} (z : α) (l : List α) (j : Nat) : List α := l.take j ++ List.replicate (l.length - j) z
theorem fill_len {α : Type} (z : α) (l : List α) {j : Nat} (hj : j ≤ l.length) : (fillF z l j).length = l.length := by
  unfold fillF; rw [List.length_append, List.length_take, List.length_replicate]; omega
theorem fill_set {α : Type} (z : α) (l : List α) {j : Nat} (hj : j < l.length) : (fillF z l j).set j l[j] = fillF z l (j + 1) := by
  unfold fillF
  have hl : (l.take j).length = j := by rw [List.length_take]; omega
  obtain ⟨k, hk⟩ : ∃ k, l.length - j = k + 1 := ⟨l.length - j - 1, by omega⟩
  rw [hk, List.replicate_succ, List.set_append, if_neg (by omega), hl, Nat.sub_self, List.set_cons_zero, List.take_add_one, List.getElem?_eq_getElem hj, List.append_assoc]
  have : l.length - (j + 1) = k := by omega
  rw [this]; rfl
theorem fill_zero {α : Type} (z : α) (l : List α) : fillF z l 0 = List.replicate l.length z := by simp [fillF]
theorem fill_all {α : Type} (z : α) (l : List α) : fillF z l l.length = l := by simp [fillF]
theorem at_int {l : List Int} {j : Nat} (h : j < l.length) : (l.map encInt)[((j : Nat) : Int).toNat]? = some [C.int .i64 l[j]] := at_map h
def Wt (ws : List Int) : Prop := Bd 5 ws ∧ 0 < ws.length ∧ ws.length ≤ 5
def Sz (n : Int) : Prop := 0 ≤ n ∧ n ≤ 100000000000000000
theorem Wt.sm {ws : List Int} (h : Wt ws) : Sm ws := by have := h.2.2; unfold Sm; omega
theorem Wt.sum {ws : List Int} (h : Wt ws) : sumW ws = ws.sum := sumW_eq h.1 (by have := h.2.2; omega)
theorem Wt.pos {ws : List Int} (h : Wt ws) : ∀ w ∈ ws, 0 ≤ w := fun w hw => (h.1 w hw).1
theorem quot_at {n : Int} {ws : List Int} (h : Wt ws) (hn : Sz n) (h0 : ws.sum ≠ 0) {j : Nat} (hj : j < ws.length) : w64 (Int.tdiv (w64 (n * ws[j])) ws.sum) = (quotF n ws)[j]'(by rw [quot_len]; exact hj) := by
  have hs := sum_bd h.1
  have h5 := h.2.2
  have hw := h.1.at hj
  have hm : 0 ≤ n * ws[j] := Int.mul_nonneg hn.1 hw.1
  have hm2 : n * ws[j] ≤ 100000000000000000 * 5 := Int.mul_le_mul hn.2 hw.2 hw.1 (by omega)
  have e : (quotF n ws)[j]'(by rw [quot_len]; exact hj) = n * ws[j] / ws.sum := by simp [quotF]
  rw [e, w64_id (n := n * ws[j]) (by omega) (by omega), Int.tdiv_eq_ediv_of_nonneg hm]
  have h1 : 0 ≤ n * ws[j] / ws.sum := Int.ediv_nonneg hm hs.1
  have h2 : n * ws[j] / ws.sum ≤ n * ws[j] := Int.ediv_le_self _ hm
  exact w64_id (by omega) (by omega)
theorem quot_bd {n : Int} {ws : List Int} (h : Wt ws) (hn : Sz n) : Bd 500000000000000000 (quotF n ws) := by
  intro x hx
  refine ⟨quot_nonneg hn.1 h.pos x hx, ?_⟩
  obtain ⟨w, hw, rfl⟩ := List.mem_map.1 hx
  have hb := h.1 w hw
  have hm : 0 ≤ n * w := Int.mul_nonneg hn.1 hb.1
  have hm2 : n * w ≤ 100000000000000000 * 5 := Int.mul_le_mul hn.2 hb.2 hb.1 (by omega)
  have : n * w / ws.sum ≤ n * w := Int.ediv_le_self _ hm
  omega
theorem bump_facts {n : Int} {ws : List Int} (h : Wt ws) (hn : Sz n) (h0 : ws.sum ≠ 0) (j : Nat) (hj : j ≤ ws.length) :
    0 ≤ (bumped n ws j).2 ∧ (bumped n ws j).2 ≤ n ∧ Bd n (bumped n ws j).1 := by
  have hp : 0 < ws.sum := by have := (sum_bd h.1).1; omega
  have hb := quot_bounds hn.1 h.pos hp
  have h2 := bumped_left hb.1 j hj
  have h3 := bumped_sum (n := n) j hj
  have h4 := bumped_nonneg hn.1 h.pos j (n := n)
  have hz : 0 ≤ nz ws j := Int.natCast_nonneg _
  have hq : 0 ≤ (quotF n ws).sum := by have := sum_bd (quot_bd h hn); omega
  refine ⟨by omega, by omega, fun x hx => ⟨h4 x hx, ?_⟩⟩
  have := le_sum h4 x hx
  omega
theorem bump_stay {n : Int} {ws : List Int} {j : Nat} (h : (bumped n ws j).2 ≤ 0) : ∀ k, bumped n ws (j + k) = bumped n ws j := by
  intro k
  induction k with
  | zero => rfl
  | succ k ih =>
    show bumpStep ws (j + k) (bumped n ws (j + k)) = _
    unfold bumpStep
    rw [if_neg (by rw [ih]; omega), ih]
theorem bump_done {n : Int} {ws : List Int} (h : Wt ws) (hn : Sz n) (h0 : ws.sum ≠ 0) : (bumped n ws ws.length).2 = 0 := by
  have hp : 0 < ws.sum := by have := (sum_bd h.1).1; omega
  have hb := quot_bounds hn.1 h.pos hp
  have h2 := bumped_left hb.1 ws.length (Nat.le_refl _)
  omega
theorem bump_step {n : Int} {ws : List Int} {j : Nat} : bumped n ws (j + 1) = if ws.getD j 0 ≠ 0 ∧ 0 < (bumped n ws j).2 then ((bumped n ws j).1.set j ((bumped n ws j).1.getD j 0 + 1), (bumped n ws j).2 - 1) else bumped n ws j := rfl
theorem i_spread.c (n : Int) (ws : List Int) (h : Wt ws) (hn : Sz n) : PC i_spread [vI n, .one (.rsl (ws.map encInt))] (.one (.sl ((spreadF n ws).map encInt)), []) := by
  have h5 := h.2.2
  have hl0 := h.2.1
  have hn1 := hn.1
  have hn2 := hn.2
  have ks := i_sum.c ws h.sm
  unfold i_sum.m at ks
  rw [h.sum] at ks
  refine lift ?_
  unfold spreadF
  by_cases h0 : ws.sum = 0
  · rw [if_pos h0]
    have hw : w64 ((ws.length : Int) - 1) = ((ws.length - 1 : Nat) : Int) := by rw [w64_id (by omega) (by omega)]; omega
    have := i_spread.w1 (call := CC) (lp := lpW) n ws ws.sum 0 (by simp) (by simp; omega) (by simpa using h0)
    simp only [List.length_map, List.length_replicate, Int.toNat_natCast, hw] at this
    refine (this (by simp) (by simp; omega) (by simp) (by rw [List.getElem?_replicate, if_pos (by omega)]; rfl) ks).trans ?_
    rw [rep_map, set_int]
  · rw [if_neg h0]
    have l0 := loop_exit (step := i_spread.r0 CC lpW) (S := fun j => i_spread.s0 n (ws.map encInt) ws.length ws.sum (ws.map encInt) ((ws.map encInt).length : Nat) (j : Nat) ((fillF 0 (quotF n ws) j).map encInt)) ws.length (fun j hj => by
      have hf : (fillF 0 (quotF n ws) j).length = ws.length := by rw [fill_len _ _ (by rw [quot_len]; omega), quot_len]
      have := i_spread.l0_1 (call := CC) (lp := lpW) n (ws.map encInt) ws.length ws.sum (ws.map encInt) ((ws.map encInt).length : Nat) (j : Nat) ((fillF 0 (quotF n ws) j).map encInt) ws[j] _ (by simpa using hj) (by simp) (by simpa using h0) (by simpa using hf) (by simpa using hj) (by simp) (at_int hj) (at_int (by rw [hf]; exact hj))
      rw [this, w64_succ (by omega), quot_at h hn h0 hj, Int.toNat_natCast, set_int, fill_set 0 (quotF n ws) (by rw [quot_len]; exact hj)]) (i_spread.l0_2 _ _ _ _ _ _ _ _ (by simp))
    have hq : fillF 0 (quotF n ws) ws.length = quotF n ws := by
      have := fill_all (0 : Int) (quotF n ws); rw [quot_len] at this; exact this
    rw [hq] at l0
    have l1 := loop_exit (step := i_spread.r1 CC lpW) (S := fun j => i_spread.s1 ws.length (bumped n ws j).2 (ws.map encInt) ((ws.map encInt).length : Nat) (j : Nat) ((bumped n ws j).1.map encInt)) ws.length (fun j hj => by
      have hbl := bumped_len n ws j
      obtain ⟨b1, b2, b3⟩ := bump_facts h hn h0 j (by omega)
      have hx := b3.at (j := j) (by omega)
      rw [bump_step, getD_at hj, getD_at (l := (bumped n ws j).1) (by omega)]
      by_cases hz : ws[j] = 0
      · rw [if_neg (fun c => c.1 hz)]
        have := i_spread.l1_3 (call := CC) (lp := lpW) ws.length (bumped n ws j).2 (ws.map encInt) ((ws.map encInt).length : Nat) (j : Nat) ((bumped n ws j).1.map encInt) ws[j] (by simpa using hj) (by simp) (by simpa using hz) (at_int hj)
        rw [this, w64_succ (by omega)]
      · by_cases hp : 0 < (bumped n ws j).2
        · rw [if_pos ⟨hz, hp⟩]
          have := i_spread.l1_1 (call := CC) (lp := lpW) ws.length (bumped n ws j).2 (ws.map encInt) ((ws.map encInt).length : Nat) (j : Nat) ((bumped n ws j).1.map encInt) ws[j] _ (by simpa using hj) (by simp) (by simpa using hz) (by simpa using hp) (by simpa using hbl) (by simpa using hj) (by simp) (at_int hj) (at_int (by omega))
          rw [this, w64_succ (by omega), w64_id (n := (bumped n ws j).2 - 1) (by omega) (by omega), w64_id (n := (bumped n ws j).1[j] + 1) (by omega) (by omega), Int.toNat_natCast, set_int]
        · rw [if_neg (fun c => hp c.2)]
          have := i_spread.l1_4 (call := CC) (lp := lpW) ws.length (bumped n ws j).2 (ws.map encInt) ((ws.map encInt).length : Nat) (j : Nat) ((bumped n ws j).1.map encInt) ws[j] (by simpa using hj) (by simp) (by simpa using hz) (by simpa using hp) (at_int hj)
          rw [this, w64_succ (by omega)]) (i_spread.l1_2 _ _ _ _ _ _ (by simp))
    have kq := i_sum.c (quotF n ws) (by unfold Sm; rw [quot_len]; omega)
    unfold i_sum.m at kq
    rw [sumW_eq (quot_bd h hn) (by rw [quot_len]; omega)] at kq
    refine i_spread.w2 n ws ws.sum n (ws.map encInt) ws.length _ (quotF n ws).sum ws.length _ (by simp) (by simp; omega) (by simpa using h0) (by simp [quot_len]) (by simp [bumped_len]) ks kq ?_ ?_
    · have e0 := fill_zero (0 : Int) (quotF n ws)
      rw [e0, quot_len] at l0
      simpa [rep_map] using l0
    · have hb := bump_facts h hn h0 0 (by omega)
      have hs := sum_bd (quot_bd h hn)
      rw [quot_len] at hs
      rw [w64_id (by omega) (by omega)]
      simp only [show bumped n ws 0 = (quotF n ws, n - (quotF n ws).sum) from rfl] at l1
      simpa using l1
theorem s_spread.c (n : Int) (ws : List Int) (h : Wt ws) (hn : Sz n) : PC s_spread [vI n, .one (.rsl (ws.map encInt))] (.one (.sl ((spreadF n ws).map encInt)), []) := by
  have h5 := h.2.2
  have hl0 := h.2.1
  have hn1 := hn.1
  have hn2 := hn.2
  have ks := s_total.c ws h.sm
  unfold s_total.m at ks
  rw [h.sum] at ks
  refine lift ?_
  unfold spreadF
  by_cases h0 : ws.sum = 0
  · rw [if_pos h0]
    have hw : w64 ((ws.length : Int) - 1) = ((ws.length - 1 : Nat) : Int) := by rw [w64_id (by omega) (by omega)]; omega
    have := s_spread.w1 (call := CC) (lp := lpW) n ws ws.sum 0 (by simp) (by simp; omega) (by simpa using h0)
    simp only [List.length_map, List.length_replicate, Int.toNat_natCast, hw] at this
    refine (this (by simp; omega) (by simp) (by simp; omega) (by simp) (by rw [List.getElem?_replicate, if_pos (by omega)]; rfl) ks).trans ?_
    rw [rep_map, set_int]
  · rw [if_neg h0]
    have l0 := loop_exit (step := s_spread.r0 CC lpW) (S := fun j => s_spread.s0 n (ws.map encInt) ws.length ws.sum (n - ((quotF n ws).take j).sum) (j : Nat) ((fillF 0 (quotF n ws) j).map encInt)) ws.length (fun j hj => by
      have hf : (fillF 0 (quotF n ws) j).length = ws.length := by rw [fill_len _ _ (by rw [quot_len]; omega), quot_len]
      have hjq : j < (quotF n ws).length := by rw [quot_len]; exact hj
      have := s_spread.l0_1 (call := CC) (lp := lpW) n (ws.map encInt) ws.length ws.sum (n - ((quotF n ws).take j).sum) (j : Nat) ((fillF 0 (quotF n ws) j).map encInt) ws[j] _ (by simpa using hj) (by simp) (by simpa using h0) (by simpa using hf) (by simp) (at_int hj) (at_int (by rw [hf]; exact hj))
      have hs1 := sum_bd (M := 500000000000000000) (l := (quotF n ws).take j) fun x hx => quot_bd h hn x (List.mem_of_mem_take hx)
      rw [List.length_take, quot_len] at hs1
      have hx := (quot_bd h hn).at hjq
      have e : ((quotF n ws).take (j + 1)).sum = ((quotF n ws).take j).sum + (quotF n ws)[j] := by
        rw [List.take_add_one, List.getElem?_eq_getElem hjq, List.sum_append]; simp
      rw [this, w64_succ (by omega), quot_at h hn h0 hj, Int.toNat_natCast, set_int, fill_set 0 (quotF n ws) hjq, e, w64_id (by omega) (by omega)]
      congr 3; omega) (s_spread.l0_2 _ _ _ _ _ _ _ (by simp))
    have hq : fillF 0 (quotF n ws) ws.length = quotF n ws := by
      have := fill_all (0 : Int) (quotF n ws); rw [quot_len] at this; exact this
    have hq2 : (quotF n ws).take ws.length = quotF n ws := by
      have := List.take_length (l := quotF n ws); rw [quot_len] at this; exact this
    rw [hq, hq2] at l0
    have stop : ∃ k, k ≤ ws.length ∧ (bumped n ws k).2 ≤ 0 ∧ ∀ i, i < k → 0 < (bumped n ws i).2 := by
      have key : ∀ m, m ≤ ws.length → (∀ i, i < m → 0 < (bumped n ws i).2) ∨ ∃ k, k ≤ ws.length ∧ (bumped n ws k).2 ≤ 0 ∧ ∀ i, i < k → 0 < (bumped n ws i).2 := by
        intro m
        induction m with
        | zero => intro _; left; intro i hi; omega
        | succ m ih =>
          intro hm
          rcases ih (by omega) with hh | hh
          · by_cases hc : 0 < (bumped n ws m).2
            · left; intro i hi
              by_cases hi2 : i = m
              · subst hi2; exact hc
              · exact hh i (by omega)
            · right; exact ⟨m, by omega, by omega, hh⟩
          · exact .inr hh
      rcases key ws.length (Nat.le_refl _) with hh | hh
      · exact ⟨ws.length, Nat.le_refl _, by rw [bump_done h hn h0]; omega, hh⟩
      · exact hh
    obtain ⟨k, hk, hk2, hk3⟩ := stop
    have l1 := loop_exit (step := s_spread.r1 CC lpW) (S := fun j => s_spread.s1 (ws.map encInt) ws.length (bumped n ws j).2 (j : Nat) ((bumped n ws j).1.map encInt)) k (fun j hj => by
      have hbl := bumped_len n ws j
      obtain ⟨b1, b2, b3⟩ := bump_facts h hn h0 j (by omega)
      have hx := b3.at (j := j) (by omega)
      have hp := hk3 j hj
      rw [bump_step, getD_at (l := ws) (by omega), getD_at (l := (bumped n ws j).1) (by omega)]
      by_cases hz : ws[j] = 0
      · rw [if_neg (fun c => c.1 hz)]
        have := s_spread.l1_3 (call := CC) (lp := lpW) (ws.map encInt) ws.length (bumped n ws j).2 (j : Nat) ((bumped n ws j).1.map encInt) ws[j] (by simpa using hp) (by simp) (by simp [hz]) (at_int (by omega))
        rw [this, w64_succ (by omega)]
      · have hw := h.1.at (j := j) (by omega)
        rw [if_pos ⟨hz, hp⟩]
        have := s_spread.l1_1 (call := CC) (lp := lpW) (ws.map encInt) ws.length (bumped n ws j).2 (j : Nat) ((bumped n ws j).1.map encInt) ws[j] _ (by simpa using hp) (by simp) (by simp; omega) (by simpa using hbl) (by simp; omega) (by simp) (at_int (by omega)) (at_int (by omega))
        rw [this, w64_succ (by omega), w64_id (n := (bumped n ws j).2 - 1) (by omega) (by omega), w64_id (n := (bumped n ws j).1[j] + 1) (by omega) (by omega), Int.toNat_natCast, set_int]) (s_spread.l1_2 _ _ _ _ _ (by simp; omega))
    have hb : bumped n ws ws.length = bumped n ws k := by
      have := bump_stay hk2 (ws.length - k); rw [show k + (ws.length - k) = ws.length by omega] at this; exact this
    rw [hb]
    refine s_spread.w2 n ws ws.sum (ws.map encInt) ws.length _ _ ws.length _ (by simp) (by simp; omega) (by simpa using h0) (by simp [bumped_len]) ks ?_ l1
    have e0 := fill_zero (0 : Int) (quotF n ws)
    rw [e0, quot_len] at l0
    simp only [show bumped n ws 0 = (quotF n ws, n - (quotF n ws).sum) from rfl]
    simpa [rep_map] using l0
end Go.Proofs.Ytdgamfanffnhaaa.PI
namespace Go.Proofs.Ytdgamfanffnhaaa.PI
open Go
def wts (lines : List Line) : List Int := lines.map fun l => l.weight
def winF (out : List Int) (s : Span) : Int := (cut s.at_.toNat s.many.toNat out).sum
def addAt (a : Nat) (parts : List Int) (j : Nat) (out : List Int) : List Int := out.set (a + j) (out.getD (a + j) 0 + parts.getD j 0)
theorem addAt_eq (a : Nat) (parts : List Int) (j : Nat) (out : List Int) : addAt a parts j out = out.set (a + j) (out.getD (a + j) 0 + parts.getD j 0) := rfl
def partsF (lines : List Line) (out : List Int) (s : Span) : List Int := spreadF (s.need - winF out s) (wts (cut s.at_.toNat s.many.toNat lines))
def addAll (a : Nat) (parts : List Int) (out : List Int) : List Int := Itr (addAt a parts) out parts.length
def spanStep (lines : List Line) (many : Int) (out : List Int) (s : Span) : List Int :=
  if s.many = many ∧ 0 < s.need - winF out s then addAll s.at_.toNat (partsF lines out s) out else out
def spanRound (lines : List Line) (spans : List Span) (many : Nat) (out : List Int) : List Int := spans.foldl (spanStep lines (many + 1 : Nat)) out
def wishAt (lines : List Line) (spans : List Span) (j : Nat) : List Int := Itr (spanRound lines spans) (lines.map fun l => l.min) j
def wishF (lines : List Line) (spans : List Span) : List Int := wishAt lines spans lines.length
def LinesOk (lines : List Line) : Prop := (∀ l ∈ lines, (0 ≤ l.weight ∧ l.weight ≤ 5) ∧ 0 ≤ l.min ∧ l.min ≤ 30) ∧ 0 < lines.length ∧ lines.length ≤ 5
def SpanOk (M : Int) (n : Nat) (s : Span) : Prop := 0 ≤ s.at_ ∧ 1 ≤ s.many ∧ s.at_ + s.many ≤ n ∧ 0 ≤ s.need ∧ s.need ≤ M
theorem cut_len {α : Type} {a m : Nat} {l : List α} (h : a + m ≤ l.length) : (cut a m l).length = m := by unfold cut; rw [List.length_take, List.length_drop]; omega
theorem cut_map {α β : Type} {a m : Nat} {l : List α} {f : α → β} : cut a m (l.map f) = (cut a m l).map f := by unfold cut; rw [List.map_take, List.map_drop]
theorem cut_mem {α : Type} {a m : Nat} {l : List α} : ∀ x ∈ cut a m l, x ∈ l := fun _ hx => List.mem_of_mem_drop (List.mem_of_mem_take hx)
theorem Bd.cut {M : Int} {l : List Int} (h : Bd M l) (a m : Nat) : Bd M (cut a m l) := fun x hx => h x (cut_mem x hx)
theorem getD_set {l : List Int} {i j : Nat} {x : Int} (hj : j < l.length) : (l.set j x).getD i 0 = if i = j then x else l.getD i 0 := by
  by_cases h : i = j
  · subst h; rw [if_pos rfl, getD_at (by simpa using hj)]; simp
  · rw [if_neg h]; simp only [List.getD, List.getElem?_set]; rw [if_neg (fun c => h c.symm)]
theorem Itr_len {a : Nat} {parts out : List Int} (j : Nat) : (Itr (addAt a parts) out j).length = out.length := by
  induction j with
  | zero => rfl
  | succ j ih => show (addAt a parts j _).length = _; rw [addAt_eq, List.length_set, ih]
theorem Itr_get {a : Nat} {parts out : List Int} (j : Nat) (h : a + j ≤ out.length) (k : Nat) : (Itr (addAt a parts) out j).getD k 0 = if a ≤ k ∧ k < a + j then out.getD k 0 + parts.getD (k - a) 0 else out.getD k 0 := by
  induction j with
  | zero => rw [if_neg (by omega)]; rfl
  | succ j ih =>
    have ih := ih (by omega)
    show (addAt a parts j _).getD k 0 = _
    rw [addAt_eq, getD_set (by rw [Itr_len]; omega)]
    by_cases hk : k = a + j
    · subst hk
      rw [if_pos rfl, ih, if_neg (by omega), if_pos (by omega), show a + j - a = j by omega]
    · rw [if_neg hk, ih]
      by_cases hc : a ≤ k ∧ k < a + j
      · rw [if_pos hc, if_pos (by omega)]
      · rw [if_neg hc, if_neg (by omega)]
theorem addAll_len {a : Nat} {parts out : List Int} : (addAll a parts out).length = out.length := Itr_len _
theorem mem_getD {l : List Int} {x : Int} (h : x ∈ l) : ∃ k, k < l.length ∧ l.getD k 0 = x := by
  obtain ⟨k, hk, rfl⟩ := List.mem_iff_getElem.1 h
  exact ⟨k, hk, getD_at hk⟩
theorem cut_getD {a m : Nat} {l : List Int} {k : Nat} (h : a + m ≤ l.length) (hk : a ≤ k ∧ k < a + m) : l.getD k 0 ∈ cut a m l := by
  unfold cut
  rw [getD_at (by omega)]
  rw [List.mem_take_iff_getElem]
  exact ⟨k - a, by rw [List.length_drop]; omega, by rw [List.getElem_drop]; congr 1; omega⟩
theorem wts_ok {lines : List Line} (h : LinesOk lines) {s : Span} {M : Int} (hs : SpanOk M lines.length s) : Wt (wts (cut s.at_.toNat s.many.toNat lines)) := by
  obtain ⟨h1, h2, h3, h4, h5⟩ := hs
  refine ⟨fun w hw => ?_, ?_, ?_⟩
  · obtain ⟨l, hl, rfl⟩ := List.mem_map.1 hw
    exact (h.1 l (cut_mem l hl)).1
  · unfold wts; rw [List.length_map, cut_len (by omega)]; omega
  · have := h.2.2; unfold wts; rw [List.length_map, cut_len (by omega)]; omega
theorem wtsAll_ok {lines : List Line} (h : LinesOk lines) : Wt (wts lines) := by
  refine ⟨fun w hw => ?_, ?_, ?_⟩
  · obtain ⟨l, hl, rfl⟩ := List.mem_map.1 hw
    exact (h.1 l hl).1
  · unfold wts; rw [List.length_map]; exact h.2.1
  · unfold wts; rw [List.length_map]; exact h.2.2
def OutOk (M : Int) (n : Nat) (out : List Int) : Prop := out.length = n ∧ Bd M out
theorem win_bd {M : Int} {n : Nat} {out : List Int} (h : OutOk M n out) (hn : n ≤ 5) (hM : 0 ≤ M) {s : Span} : 0 ≤ winF out s ∧ winF out s ≤ 5 * M := by
  have := sum_bd (h.2.cut s.at_.toNat s.many.toNat)
  have hl : (cut s.at_.toNat s.many.toNat out).length ≤ 5 := by
    have := h.1; unfold cut; rw [List.length_take, List.length_drop]; omega
  refine ⟨this.1, Int.le_trans this.2 (Int.mul_le_mul_of_nonneg_right (by omega) hM)⟩
theorem parts_facts {M : Int} {lines : List Line} (hl : LinesOk lines) {out : List Int} {s : Span} (hs : SpanOk M lines.length s) (hp : 0 < s.need - winF out s) :
    (partsF lines out s).length = s.many.toNat ∧ Bd (s.need - winF out s) (partsF lines out s) ∧ (partsF lines out s).sum = s.need - winF out s := by
  have hw := wts_ok hl hs
  obtain ⟨h1, h2, h3, h4, h5⟩ := hs
  refine ⟨?_, spread_bd (by omega) hw.pos hw.2.1, spread_sum (by omega) hw.pos hw.2.1⟩
  unfold partsF
  rw [spread_len]; unfold wts; rw [List.length_map, cut_len (by omega)]
theorem step_ok {M : Int} {lines : List Line} (hl : LinesOk lines) {out : List Int} (ho : OutOk M lines.length out) {s : Span} (hs : SpanOk M lines.length s) (many : Int) :
    OutOk M lines.length (spanStep lines many out s) := by
  unfold spanStep
  split
  · rename_i hc
    obtain ⟨p1, p2, _⟩ := parts_facts hl hs hc.2
    obtain ⟨h1, h2, h3, h4, h5⟩ := hs
    refine ⟨by rw [addAll_len]; exact ho.1, fun x hx => ?_⟩
    obtain ⟨k, hk, rfl⟩ := mem_getD hx
    have hk : k < out.length := by rwa [addAll_len] at hk
    have hb := ho.2.at hk
    have hol := ho.1
    unfold addAll
    rw [Itr_get _ (by omega)]
    rw [getD_at hk]
    split
    · rename_i hc2
      have hpk := p2.getD (by omega) (k - s.at_.toNat)
      have hin := cut_getD (l := out) (a := s.at_.toNat) (m := s.many.toNat) (by omega) (k := k) (by omega)
      have := le_sum (fun x hx => (ho.2.cut s.at_.toNat s.many.toNat x hx).1) _ hin
      rw [getD_at hk] at this
      unfold winF at hpk
      omega
    · exact hb
  · exact ho
theorem round_ok {M : Int} {lines : List Line} (hl : LinesOk lines) {spans : List Span} (hs : ∀ s ∈ spans, SpanOk M lines.length s) (many : Int) : ∀ {out : List Int}, OutOk M lines.length out → OutOk M lines.length (spans.foldl (spanStep lines many) out) := by
  induction spans with
  | nil => exact fun h => h
  | cons s spans ih => exact fun h => ih (fun x hx => hs x (by simp [hx])) (step_ok hl h (hs s (by simp)) many)
theorem min_ok {M : Int} {lines : List Line} (hl : LinesOk lines) (hM : 30 ≤ M) : OutOk M lines.length (lines.map fun l => l.min) := by
  refine ⟨by simp, fun x hx => ?_⟩
  obtain ⟨l, hm, rfl⟩ := List.mem_map.1 hx
  have := (hl.1 l hm).2
  omega
theorem wishAt_ok {M : Int} {lines : List Line} (hl : LinesOk lines) (hM : 30 ≤ M) {spans : List Span} (hs : ∀ s ∈ spans, SpanOk M lines.length s) (j : Nat) : OutOk M lines.length (wishAt lines spans j) := by
  induction j with
  | zero => exact min_ok hl hM
  | succ j ih => exact round_ok hl hs _ ih
theorem wish_ok {M : Int} {lines : List Line} (hl : LinesOk lines) (hM : 30 ≤ M) {spans : List Span} (hs : ∀ s ∈ spans, SpanOk M lines.length s) : OutOk M lines.length (wishF lines spans) := wishAt_ok hl hM hs _
end Go.Proofs.Ytdgamfanffnhaaa.PI
namespace Go.Proofs.Ytdgamfanffnhaaa.PI
open Go
theorem uni_int (l : List Int) : uni 1 (l.map encInt) = true := uni_map (f := encInt) (fun _ => rfl) l
theorem i_weightsOf.c (lines : List Line) (h : lines.length ≤ 1000) : PC i_weightsOf [.one (.rsl (lines.map encLine))] (.one (.sl ((wts lines).map encInt)), []) := by
  refine lift ?_
  have := loop_exit (step := i_weightsOf.r0 CC lpW) (S := fun j => i_weightsOf.s0 ((wts (lines.take j)).map encInt).length (lines.map encLine) ((lines.map encLine).length : Nat) (j : Nat) ((wts (lines.take j)).map encInt)) lines.length (fun j hj => by
    have := i_weightsOf.l0_1 (call := CC) (lp := lpW) ((wts (lines.take j)).map encInt).length (lines.map encLine) ((lines.map encLine).length : Nat) (j : Nat) ((wts (lines.take j)).map encInt) lines[j] (by simpa using hj) (by simp) (by simp) (uni_int _) (by simp [wts]; omega) (at_map hj)
    have e : (wts (lines.take j)).map encInt ++ [[C.int .i64 lines[j].weight]] = (wts (lines.take (j + 1))).map encInt := by
      unfold wts; rw [List.take_add_one, List.getElem?_eq_getElem hj, List.map_append, List.map_append]; rfl
    rw [this, w64_succ (by omega), e]) (i_weightsOf.l0_2 _ _ _ _ _ (by simp))
  rw [List.take_length] at this
  exact i_weightsOf.w1 lines ((wts lines).map encInt).length _ (by simp) (by simpa [wts] using this)
theorem s_weightsOf.c (lines : List Line) (h : lines.length ≤ 1000) : PC s_weightsOf [.one (.rsl (lines.map encLine))] (.one (.sl ((wts lines).map encInt)), []) := by
  refine lift ?_
  have := loop_exit (step := s_weightsOf.r0 CC lpW) (S := fun j => s_weightsOf.s0 (lines.map encLine) ((wts (lines.take j)).map encInt).length (j : Nat) ((wts (lines.take j)).map encInt)) lines.length (fun j hj => by
    have := s_weightsOf.l0_1 (call := CC) (lp := lpW) (lines.map encLine) ((wts (lines.take j)).map encInt).length (j : Nat) ((wts (lines.take j)).map encInt) lines[j] (by simpa using hj) (by simp) (by simp) (uni_int _) (by simp [wts]; omega) (at_map hj)
    have e : (wts (lines.take j)).map encInt ++ [[C.int .i64 lines[j].weight]] = (wts (lines.take (j + 1))).map encInt := by
      unfold wts; rw [List.take_add_one, List.getElem?_eq_getElem hj, List.map_append, List.map_append]; rfl
    rw [this, w64_succ (by omega), e]) (s_weightsOf.l0_2 _ _ _ _ (by simp))
  rw [List.take_length] at this
  exact s_weightsOf.w1 lines ((wts lines).map encInt).length _ (by simp) (by simpa [wts] using this)
def Big (M : Int) : Prop := 30 ≤ M ∧ M ≤ 100000000000000000
theorem cutw {s : Span} {M : Int} {n : Nat} (hs : SpanOk M n s) (hn : n ≤ 5) : (w64 (s.at_ + s.many)).toNat = s.at_.toNat + s.many.toNat := by
  obtain ⟨h1, h2, h3, h4, h5⟩ := hs
  rw [w64_id (by omega) (by omega)]; omega
theorem win_w {M : Int} {n : Nat} {out : List Int} (hB : Big M) (h : OutOk M n out) (hn : n ≤ 5) (s : Span) : sumW (cut s.at_.toNat s.many.toNat out) = winF out s := by
  have hl : (cut s.at_.toNat s.many.toNat out).length ≤ 5 := by
    have := h.1; unfold cut; rw [List.length_take, List.length_drop]; omega
  refine sumW_eq (h.2.cut _ _) ?_
  obtain ⟨h1, h2⟩ := hB
  have : ((cut s.at_.toNat s.many.toNat out).length : Int) * M ≤ 5 * M := Int.mul_le_mul_of_nonneg_right (by omega) (by omega)
  omega
theorem sz_need {M : Int} {n : Nat} {out : List Int} (hB : Big M) (h : OutOk M n out) (hn : n ≤ 5) {s : Span} (hs : SpanOk M n s) : w64 (s.need - winF out s) = s.need - winF out s := by
  have := win_bd h hn (by have := hB.1; omega) (s := s)
  obtain ⟨h1, h2⟩ := hB
  obtain ⟨_, _, _, h4, h5⟩ := hs
  exact w64_id (by omega) (by omega)
theorem add_at {M : Int} {lines : List Line} (hl : LinesOk lines) (hB : Big M) {out : List Int} (ho : OutOk M lines.length out) {s : Span} (hs : SpanOk M lines.length s) (hp : 0 < s.need - winF out s) {j : Nat} (hj : j < (partsF lines out s).length) :
    ∃ (h1 : j < (partsF lines out s).length) (h2 : s.at_.toNat + j < (Itr (addAt s.at_.toNat (partsF lines out s)) out j).length),
      w64 (s.at_ + j) = ((s.at_.toNat + j : Nat) : Int) ∧ w64 ((Itr (addAt s.at_.toNat (partsF lines out s)) out j)[s.at_.toNat + j] + (partsF lines out s)[j]) = (Itr (addAt s.at_.toNat (partsF lines out s)) out j)[s.at_.toNat + j] + (partsF lines out s)[j] ∧
      Itr (addAt s.at_.toNat (partsF lines out s)) out (j + 1) = (Itr (addAt s.at_.toNat (partsF lines out s)) out j).set (s.at_.toNat + j) ((Itr (addAt s.at_.toNat (partsF lines out s)) out j)[s.at_.toNat + j] + (partsF lines out s)[j]) := by
  obtain ⟨p1, p2, _⟩ := parts_facts hl hs hp
  obtain ⟨h1, h2, h3, h4, h5⟩ := hs
  have hl5 := hl.2.2
  have hol := ho.1
  have hlen : (Itr (addAt s.at_.toNat (partsF lines out s)) out j).length = out.length := Itr_len j
  refine ⟨hj, by omega, ?_, ?_, ?_⟩
  · rw [w64_id (by omega) (by omega)]; omega
  · have e : (Itr (addAt s.at_.toNat (partsF lines out s)) out j)[s.at_.toNat + j]'(by omega) = out[s.at_.toNat + j]'(by omega) := by
      rw [← getD_at, Itr_get _ (by omega), if_neg (by omega), getD_at]
    rw [e]
    have hx := ho.2.at (j := s.at_.toNat + j) (by omega)
    have hy := p2.at hj
    have hw := win_bd ho hl5 (by have := hB.1; omega) (s := s)
    obtain ⟨b1, b2⟩ := hB
    exact w64_id (by omega) (by omega)
  · show addAt _ _ j _ = _
    rw [addAt_eq, getD_at (by omega), getD_at hj]
theorem i_step {M : Int} {lines : List Line} (hl : LinesOk lines) (hB : Big M) (spans : List (List C)) {out : List Int} (ho : OutOk M lines.length out) {s : Span} (hs : SpanOk M lines.length s) (many : Nat) (x33 : List (List C)) (x34 : Int) (j : Nat) (hj : (j : Int) < x34) (hj2 : j ≤ 1000) (hx : x33[(j : Int).toNat]? = some (encSpan s)) :
    i_lineRequests.r2 CC lpW (i_lineRequests.s2 (lines.map encLine) spans lines.length many x33 x34 (j : Nat) (out.map encInt)) = some (.normal, i_lineRequests.s2 (lines.map encLine) spans lines.length many x33 x34 (j + 1 : Nat) ((spanStep lines many out s).map encInt)) := by
  have hl5 := hl.2.2
  have hol := ho.1
  unfold spanStep
  by_cases hm : s.many = many
  · have hc := cutw hs hl5
    have hs' := hs
    obtain ⟨h1, h2, h3, h4, h5⟩ := hs
    have hsub : s.at_.toNat + s.many.toNat - s.at_.toNat = s.many.toNat := by omega
    have k1 := i_sum.c (cut s.at_.toNat s.many.toNat out) (by unfold Sm; rw [cut_len (by omega)]; omega)
    unfold i_sum.m at k1
    rw [win_w hB ho hl5] at k1
    by_cases hp : 0 < s.need - winF out s
    · rw [if_pos ⟨hm, hp⟩]
      obtain ⟨p1, p2, _⟩ := parts_facts hl hs' hp
      have hwin := win_bd ho hl5 (by have := hB.1; omega) (s := s)
      have k2 := i_weightsOf.c (cut s.at_.toNat s.many.toNat lines) (by rw [cut_len (by omega)]; omega)
      have k3 := i_spread.c (s.need - winF out s) _ (wts_ok hl hs') ⟨by omega, by have := hB.2; omega⟩
      have l3 := loop_exit (step := i_lineRequests.r3 CC lpW) (S := fun k => i_lineRequests.s3 (lines.map encLine) spans lines.length many x33 x34 (j : Nat) (partsF lines out s).length ((partsF lines out s).length : Nat) (k : Nat) ((Itr (addAt s.at_.toNat (partsF lines out s)) out k).map encInt) s ((partsF lines out s).map encInt)) (partsF lines out s).length (fun k hk => by
        obtain ⟨q1, q2, q3, q4, q5⟩ := add_at hl hB ho hs' hp hk
        have := i_lineRequests.l3_1 (call := CC) (lp := lpW) (lines.map encLine) spans lines.length many x33 x34 (j : Nat) (partsF lines out s).length ((partsF lines out s).length : Nat) (k : Nat) ((Itr (addAt s.at_.toNat (partsF lines out s)) out k).map encInt) s ((partsF lines out s).map encInt) _ _ (by simpa using hk) (by simp) (by simp) (by simpa using hk) (by simp) (by simpa [Itr_len] using ho.1) (by rw [q3, decide_eq_true_eq]; omega) (by rw [q3, decide_eq_true_eq]; rw [Itr_len, ho.1] at q2; omega) (by simp) (at_int q1) (by rw [q3]; exact at_int q2)
        rw [this, w64_succ (by omega), q3, q4, Int.toNat_natCast, set_int, q5]) (i_lineRequests.l3_2 _ _ _ _ _ _ _ _ _ _ _ _ _ (by simp))
      have := i_lineRequests.l2_3 (call := CC) (lp := lpW) (lines.map encLine) spans lines.length many x33 x34 (j : Nat) (out.map encInt) s (winF out s) (wts (cut s.at_.toNat s.many.toNat lines)) (partsF lines out s) (lines.map encLine) spans lines.length many x33 x34 (j : Nat) ((addAll s.at_.toNat (partsF lines out s) out).map encInt) (by simpa using hj) (by simp) (by simpa using hm)
      rw [hc, hsub, cut_map, cut_map, sz_need hB ho hl5 hs'] at this
      rw [w64_succ (by omega)] at this
      exact this (by rw [w64_id (by omega) (by omega)]; simp; omega) (by simpa using h1) (by simp) (by simp; omega) (by simp [hol]) (uni_int _) (by simp; omega) (by simpa using hp) (by simp; omega) (uni_map (f := encLine) (fun _ => rfl) _) hx k1 k2 k3 (by simpa [addAll, Itr] using l3)
    · rw [if_neg (fun c => hp c.2)]
      have := i_lineRequests.l2_4 (call := CC) (lp := lpW) (lines.map encLine) spans lines.length many x33 x34 (j : Nat) (out.map encInt) s (winF out s) (by simpa using hj) (by simp) (by simpa using hm)
      rw [hc, hsub, cut_map, sz_need hB ho hl5 hs', w64_succ (by omega)] at this
      exact this (by rw [w64_id (by omega) (by omega)]; simp; omega) (by simpa using h1) (by simp) (by simp; omega) (by simp [hol]) (uni_int _) (by simp; omega) (by simpa using hp) hx k1
  · rw [if_neg (fun c => hm c.1)]
    have := i_lineRequests.l2_1 (call := CC) (lp := lpW) (lines.map encLine) spans lines.length many x33 x34 (j : Nat) (out.map encInt) s (by simpa using hj) (by simp) (by simpa [bne_iff_ne] using hm) hx
    rw [this, w64_succ (by omega)]
theorem foldl_succ {α β : Type} {l : List α} {f : β → α → β} {b : β} {j : Nat} (h : j < l.length) : (l.take (j + 1)).foldl f b = f ((l.take j).foldl f b) l[j] := by
  rw [List.take_add_one, List.getElem?_eq_getElem h, List.foldl_append]; rfl
theorem i_lineRequests.c {M : Int} (lines : List Line) (spans : List Span) (hl : LinesOk lines) (hB : Big M) (hs : ∀ s ∈ spans, SpanOk M lines.length s) (hn : spans.length ≤ 1000) :
    PC i_lineRequests [.one (.rsl (lines.map encLine)), .one (.rsl (spans.map encSpan))] (.one (.sl ((wishF lines spans).map encInt)), []) := by
  have hl5 := hl.2.2
  refine lift ?_
  have l0 := loop_exit (step := i_lineRequests.r0 CC lpW) (S := fun j => i_lineRequests.s0 (lines.map encLine) (spans.map encSpan) (((lines.take j).map fun l => l.min).map encInt).length (lines.map encLine) ((lines.map encLine).length : Nat) (j : Nat) (((lines.take j).map fun l => l.min).map encInt)) lines.length (fun j hj => by
    have := i_lineRequests.l0_1 (call := CC) (lp := lpW) (lines.map encLine) (spans.map encSpan) (((lines.take j).map fun l => l.min).map encInt).length (lines.map encLine) ((lines.map encLine).length : Nat) (j : Nat) (((lines.take j).map fun l => l.min).map encInt) lines[j] (by simpa using hj) (by simp) (by simp) (uni_int _) (by simp; omega) (at_map hj)
    have e : ((lines.take j).map fun l => l.min).map encInt ++ [[C.int .i64 lines[j].min]] = ((lines.take (j + 1)).map fun l => l.min).map encInt := by
      rw [List.take_add_one, List.getElem?_eq_getElem hj, List.map_append, List.map_append]; rfl
    rw [this, w64_succ (by omega), e]) (i_lineRequests.l0_2 _ _ _ _ _ _ _ (by simp))
  rw [List.take_length] at l0
  have l1 := loop_exit (step := i_lineRequests.r1 CC lpW) (S := fun j => i_lineRequests.s1 (lines.map encLine) (spans.map encSpan) lines.length (j + 1 : Nat) ((wishAt lines spans j).map encInt)) lines.length (fun j hj => by
    have ho := wishAt_ok hl hB.1 hs j
    have l2 := loop_exit (step := i_lineRequests.r2 CC lpW) (S := fun k => i_lineRequests.s2 (lines.map encLine) (spans.map encSpan) lines.length (j + 1 : Nat) (spans.map encSpan) ((spans.map encSpan).length : Nat) (k : Nat) (((spans.take k).foldl (spanStep lines (j + 1 : Nat)) (wishAt lines spans j)).map encInt)) spans.length (fun k hk => by
      rw [foldl_succ hk]
      exact i_step hl hB _ (round_ok hl (fun x hx => hs x (List.mem_of_mem_take hx)) _ ho) (hs _ (List.getElem_mem hk)) (j + 1) _ _ k (by simpa using hk) (by omega) (at_map hk)) (i_lineRequests.l2_2 _ _ _ _ _ _ _ _ (by simp))
    rw [List.take_length] at l2
    have := i_lineRequests.l1_1 (call := CC) (lp := lpW) (lines.map encLine) (spans.map encSpan) lines.length (j + 1 : Nat) ((wishAt lines spans j).map encInt) _ _ _ _ _ (by simp; omega) l2
    rw [this, w64_succ (by omega)]; rfl) (i_lineRequests.l1_2 _ _ _ _ _ (by simp; omega))
  have hw := wish_ok hl hB.1 hs
  refine i_lineRequests.w1 lines spans (lines.map encLine) (spans.map encSpan) lines.length _ lines.length _ (by simpa using hw.1) (by simpa using l0) ?_
  simpa [wishF, wishAt, Itr] using l1
theorem s_step {M : Int} {lines : List Line} (hl : LinesOk lines) (hB : Big M) (spans : List (List C)) {out : List Int} (ho : OutOk M lines.length out) {s : Span} (hs : SpanOk M lines.length s) (many : Nat) (j : Nat) (hj : j < spans.length) (hj2 : j ≤ 1000) (hx : spans[(j : Int).toNat]? = some (encSpan s)) :
    s_wished.r2 CC lpW (s_wished.s2 (lines.map encLine) spans lines.length many (j : Nat) (out.map encInt)) = some (.normal, s_wished.s2 (lines.map encLine) spans lines.length many (j + 1 : Nat) ((spanStep lines many out s).map encInt)) := by
  have hl5 := hl.2.2
  have hol := ho.1
  unfold spanStep
  by_cases hm : s.many = many
  · have hc := cutw hs hl5
    have hs' := hs
    obtain ⟨h1, h2, h3, h4, h5⟩ := hs
    have hsub : s.at_.toNat + s.many.toNat - s.at_.toNat = s.many.toNat := by omega
    have k1 := s_total.c (cut s.at_.toNat s.many.toNat out) (by unfold Sm; rw [cut_len (by omega)]; omega)
    unfold s_total.m at k1
    rw [win_w hB ho hl5] at k1
    by_cases hp : 0 < s.need - winF out s
    · rw [if_pos ⟨hm, hp⟩]
      obtain ⟨p1, p2, _⟩ := parts_facts hl hs' hp
      have hwin := win_bd ho hl5 (by have := hB.1; omega) (s := s)
      have k2 := s_weightsOf.c (cut s.at_.toNat s.many.toNat lines) (by rw [cut_len (by omega)]; omega)
      have k3 := s_spread.c (s.need - winF out s) _ (wts_ok hl hs') ⟨by omega, by have := hB.2; omega⟩
      have l3 := loop_exit (step := s_wished.r3 CC lpW) (S := fun k => s_wished.s3 (lines.map encLine) spans lines.length many (j : Nat) (partsF lines out s).length (k : Nat) s ((Itr (addAt s.at_.toNat (partsF lines out s)) out k).map encInt) ((partsF lines out s).map encInt)) (partsF lines out s).length (fun k hk => by
        obtain ⟨q1, q2, q3, q4, q5⟩ := add_at hl hB ho hs' hp hk
        have := s_wished.l3_1 (call := CC) (lp := lpW) (lines.map encLine) spans lines.length many (j : Nat) (partsF lines out s).length (k : Nat) s ((Itr (addAt s.at_.toNat (partsF lines out s)) out k).map encInt) ((partsF lines out s).map encInt) _ _ (by simpa using hk) (by simpa [Itr_len] using ho.1) (by rw [q3, decide_eq_true_eq]; omega) (by rw [q3, decide_eq_true_eq]; rw [Itr_len, ho.1] at q2; omega) (by simp) (by simp) (by simp) (by simp) (by rw [q3]; exact at_int q2) (at_int q1)
        rw [this, w64_succ (by omega), q3, q4, Int.toNat_natCast, set_int, q5]) (s_wished.l3_2 _ _ _ _ _ _ _ _ _ _ (by simp))
      have := s_wished.l2_4 (call := CC) (lp := lpW) (lines.map encLine) spans lines.length many (j : Nat) (out.map encInt) s (winF out s) (wts (cut s.at_.toNat s.many.toNat lines)) (partsF lines out s) (lines.map encLine) spans lines.length many (j : Nat) ((addAll s.at_.toNat (partsF lines out s) out).map encInt) (by simpa using hj) (by simp) (by simpa using hm)
      rw [hc, hsub, cut_map, cut_map, sz_need hB ho hl5 hs'] at this
      rw [w64_succ (by omega)] at this
      exact this (by rw [w64_id (by omega) (by omega)]; simp; omega) (by simpa using h1) (by simp) (by simp; omega) (by simp [hol]) (uni_int _) (by simp; omega) (by simp; omega) (by simp; omega) (uni_map (f := encLine) (fun _ => rfl) _) hx k1 k2 k3 (by simpa [addAll, Itr] using l3)
    · rw [if_neg (fun c => hp c.2)]
      have := s_wished.l2_3 (call := CC) (lp := lpW) (lines.map encLine) spans lines.length many (j : Nat) (out.map encInt) s (winF out s) (by simpa using hj) (by simp) (by simpa using hm)
      rw [hc, hsub, cut_map, sz_need hB ho hl5 hs', w64_succ (by omega)] at this
      exact this (by rw [w64_id (by omega) (by omega)]; simp; omega) (by simpa using h1) (by simp) (by simp; omega) (by simp [hol]) (uni_int _) (by simp; omega) (by simp; omega) hx k1
  · rw [if_neg (fun c => hm c.1)]
    have := s_wished.l2_1 (call := CC) (lp := lpW) (lines.map encLine) spans lines.length many (j : Nat) (out.map encInt) s (by simpa using hj) (by simp) (by simpa [bne_iff_ne] using hm) hx
    rw [this, w64_succ (by omega)]
theorem s_wished.c {M : Int} (lines : List Line) (spans : List Span) (hl : LinesOk lines) (hB : Big M) (hs : ∀ s ∈ spans, SpanOk M lines.length s) (hn : spans.length ≤ 1000) :
    PC s_wished [.one (.rsl (lines.map encLine)), .one (.rsl (spans.map encSpan))] (.one (.sl ((wishF lines spans).map encInt)), []) := by
  have hl5 := hl.2.2
  refine lift ?_
  have l0 := loop_exit (step := s_wished.r0 CC lpW) (S := fun j => s_wished.s0 (lines.map encLine) (spans.map encSpan) (((lines.take j).map fun l => l.min).map encInt).length (j : Nat) (((lines.take j).map fun l => l.min).map encInt)) lines.length (fun j hj => by
    have := s_wished.l0_1 (call := CC) (lp := lpW) (lines.map encLine) (spans.map encSpan) (((lines.take j).map fun l => l.min).map encInt).length (j : Nat) (((lines.take j).map fun l => l.min).map encInt) lines[j] (by simpa using hj) (by simp) (by simp) (uni_int _) (by simp; omega) (at_map hj)
    have e : ((lines.take j).map fun l => l.min).map encInt ++ [[C.int .i64 lines[j].min]] = ((lines.take (j + 1)).map fun l => l.min).map encInt := by
      rw [List.take_add_one, List.getElem?_eq_getElem hj, List.map_append, List.map_append]; rfl
    rw [this, w64_succ (by omega), e]) (s_wished.l0_2 _ _ _ _ _ (by simp))
  rw [List.take_length] at l0
  have l1 := loop_exit (step := s_wished.r1 CC lpW) (S := fun j => s_wished.s1 (lines.map encLine) (spans.map encSpan) lines.length (j + 1 : Nat) ((wishAt lines spans j).map encInt)) lines.length (fun j hj => by
    have ho := wishAt_ok hl hB.1 hs j
    have l2 := loop_exit (step := s_wished.r2 CC lpW) (S := fun k => s_wished.s2 (lines.map encLine) (spans.map encSpan) lines.length (j + 1 : Nat) (k : Nat) (((spans.take k).foldl (spanStep lines (j + 1 : Nat)) (wishAt lines spans j)).map encInt)) spans.length (fun k hk => by
      rw [foldl_succ hk]
      exact s_step hl hB _ (round_ok hl (fun x hx => hs x (List.mem_of_mem_take hx)) _ ho) (hs _ (List.getElem_mem hk)) (j + 1) k (by simpa using hk) (by omega) (at_map hk)) (s_wished.l2_2 _ _ _ _ _ _ (by simp))
    rw [List.take_length] at l2
    have := s_wished.l1_1 (call := CC) (lp := lpW) (lines.map encLine) (spans.map encSpan) lines.length (j + 1 : Nat) ((wishAt lines spans j).map encInt) _ _ _ _ _ (by simp; omega) l2
    rw [this, w64_succ (by omega)]; rfl) (s_wished.l1_2 _ _ _ _ _ (by simp; omega))
  have hw := wish_ok hl hB.1 hs
  refine s_wished.w1 lines spans (lines.map encLine) (spans.map encSpan) lines.length _ lines.length _ (by simpa using hw.1) (by simpa using l0) ?_
  simpa [wishF, wishAt, Itr] using l1
end Go.Proofs.Ytdgamfanffnhaaa.PI
namespace Go.Proofs.Ytdgamfanffnhaaa.PI
open Go
def spanC (c : Cell) : Span := ⟨c.col, c.manyCols, c.w + 2 * c.padX⟩
def spanR (c : Cell) : Span := ⟨c.row, c.manyRows, c.h + 2 * c.padY⟩
structure CellOk (M : Int) (nc nr : Nat) (c : Cell) : Prop where
  w : 0 ≤ c.w ∧ c.w ≤ M
  h : 0 ≤ c.h ∧ c.h ≤ M
  px : 0 ≤ c.padX ∧ c.padX ≤ 10
  py : 0 ≤ c.padY ∧ c.padY ≤ 10
  col : 0 ≤ c.col ∧ 1 ≤ c.manyCols ∧ c.col + c.manyCols ≤ nc
  row : 0 ≤ c.row ∧ 1 ≤ c.manyRows ∧ c.row + c.manyRows ≤ nr
  stick : 0 ≤ c.stick ∧ c.stick ≤ 15
def Mid (M : Int) : Prop := 30 ≤ M ∧ M ≤ 10000000000000000
theorem Mid.big {M : Int} (h : Mid M) : Big (M + 20) := ⟨by have := h.1; omega, by have := h.2; omega⟩
theorem cell_spanC {M : Int} {nc nr : Nat} {c : Cell} (h : CellOk M nc nr c) : SpanOk (M + 20) nc (spanC c) := by
  obtain ⟨h1, h2, h3, h4, h5, h6, h7⟩ := h
  unfold SpanOk spanC; simp only; omega
theorem cell_spanR {M : Int} {nc nr : Nat} {c : Cell} (h : CellOk M nc nr c) : SpanOk (M + 20) nr (spanR c) := by
  obtain ⟨h1, h2, h3, h4, h5, h6, h7⟩ := h
  unfold SpanOk spanR; simp only; omega
theorem enc_spanC {M : Int} {nc nr : Nat} {c : Cell} (hM : Mid M) (h : CellOk M nc nr c) : [C.int .i64 c.col, C.int .i64 c.manyCols, C.int .i64 (w64 (c.w + w64 (2 * c.padX)))] = encSpan (spanC c) := by
  obtain ⟨h1, h2, h3, h4, h5, h6, h7⟩ := h
  obtain ⟨m1, m2⟩ := hM
  rw [w64_id (n := 2 * c.padX) (by omega) (by omega), w64_id (by omega) (by omega)]; rfl
theorem enc_spanR {M : Int} {nc nr : Nat} {c : Cell} (hM : Mid M) (h : CellOk M nc nr c) : [C.int .i64 c.row, C.int .i64 c.manyRows, C.int .i64 (w64 (c.h + w64 (2 * c.padY)))] = encSpan (spanR c) := by
  obtain ⟨h1, h2, h3, h4, h5, h6, h7⟩ := h
  obtain ⟨m1, m2⟩ := hM
  rw [w64_id (n := 2 * c.padY) (by omega) (by omega), w64_id (by omega) (by omega)]; rfl
theorem uni_span {α : Type} (f : α → Span) (l : List α) : uni 3 ((l.map f).map encSpan) = true := uni_map (f := encSpan) (fun _ => rfl) _
theorem map_succ2 {α β γ : Type} {l : List α} {g : α → β} {f : β → γ} {j : Nat} (h : j < l.length) : ((l.take j).map g).map f ++ [f (g l[j])] = ((l.take (j + 1)).map g).map f := by
  rw [List.take_add_one, List.getElem?_eq_getElem h, List.map_append, List.map_append]; rfl
theorem i_Grid_spans.c {M : Int} {nc nr : Nat} (cols rows : List Line) (cells : List Cell) (hM : Mid M) (hc : ∀ c ∈ cells, CellOk M nc nr c) (hn : cells.length ≤ 1000) :
    PC i_Grid_spans [.agg [.rsl (cols.map encLine), .rsl (rows.map encLine), .rsl (cells.map encCell)]] (.tup [.one (.sl ((cells.map spanC).map encSpan)), .one (.sl ((cells.map spanR).map encSpan))], []) := by
  refine lift ?_
  have := loop_exit (step := i_Grid_spans.r0 CC lpW) (S := fun j => i_Grid_spans.s0 (((cells.take j).map spanC).map encSpan).length (((cells.take j).map spanR).map encSpan).length (cells.map encCell) ((cells.map encCell).length : Nat) (j : Nat) (cols.map encLine) (rows.map encLine) (cells.map encCell) (((cells.take j).map spanC).map encSpan) (((cells.take j).map spanR).map encSpan)) cells.length (fun j hj => by
    have hk := hc _ (List.getElem_mem hj)
    have := i_Grid_spans.l0_1 (call := CC) (lp := lpW) (((cells.take j).map spanC).map encSpan).length (((cells.take j).map spanR).map encSpan).length (cells.map encCell) ((cells.map encCell).length : Nat) (j : Nat) (cols.map encLine) (rows.map encLine) (cells.map encCell) (((cells.take j).map spanC).map encSpan) (((cells.take j).map spanR).map encSpan) cells[j] (by simpa using hj) (by simp) (by simp) (uni_span _ _) (by simp; omega) (by simp) (uni_span _ _) (by simp; omega) (at_map hj)
    rw [this, w64_succ (by omega), enc_spanC hM hk, enc_spanR hM hk, map_succ2 (g := spanC) (f := encSpan) hj, map_succ2 (g := spanR) (f := encSpan) hj]) (i_Grid_spans.l0_2 _ _ _ _ _ _ _ _ _ _ (by simp))
  rw [List.take_length] at this
  exact i_Grid_spans.w1 cols rows cells ((cells.map spanC).map encSpan).length ((cells.map spanR).map encSpan).length _ _ (by simp) (by simp) (by simpa using this)
theorem s_colSpans.c {M : Int} {nc nr : Nat} (cols rows : List Line) (cells : List Cell) (hM : Mid M) (hc : ∀ c ∈ cells, CellOk M nc nr c) (hn : cells.length ≤ 1000) :
    PC s_colSpans [.agg [.rsl (cols.map encLine), .rsl (rows.map encLine), .rsl (cells.map encCell)]] (.one (.sl ((cells.map spanC).map encSpan)), []) := by
  refine lift ?_
  have := loop_exit (step := s_colSpans.r0 CC lpW) (S := fun j => s_colSpans.s0 (((cells.take j).map spanC).map encSpan).length (j : Nat) (cols.map encLine) (rows.map encLine) (cells.map encCell) (((cells.take j).map spanC).map encSpan)) cells.length (fun j hj => by
    have hk := hc _ (List.getElem_mem hj)
    have := s_colSpans.l0_1 (call := CC) (lp := lpW) (((cells.take j).map spanC).map encSpan).length (j : Nat) (cols.map encLine) (rows.map encLine) (cells.map encCell) (((cells.take j).map spanC).map encSpan) cells[j] (by simpa using hj) (by simp) (by simp) (uni_span _ _) (by simp; omega) (at_map hj)
    rw [this, w64_succ (by omega), enc_spanC hM hk, map_succ2 (g := spanC) (f := encSpan) hj]) (s_colSpans.l0_2 _ _ _ _ _ _ (by simp))
  rw [List.take_length] at this
  exact s_colSpans.w1 cols rows cells ((cells.map spanC).map encSpan).length _ (by simp) (by simpa using this)
theorem s_rowSpans.c {M : Int} {nc nr : Nat} (cols rows : List Line) (cells : List Cell) (hM : Mid M) (hc : ∀ c ∈ cells, CellOk M nc nr c) (hn : cells.length ≤ 1000) :
    PC s_rowSpans [.agg [.rsl (cols.map encLine), .rsl (rows.map encLine), .rsl (cells.map encCell)]] (.one (.sl ((cells.map spanR).map encSpan)), []) := by
  refine lift ?_
  have := loop_exit (step := s_rowSpans.r0 CC lpW) (S := fun j => s_rowSpans.s0 (((cells.take j).map spanR).map encSpan).length (j : Nat) (cols.map encLine) (rows.map encLine) (cells.map encCell) (((cells.take j).map spanR).map encSpan)) cells.length (fun j hj => by
    have hk := hc _ (List.getElem_mem hj)
    have := s_rowSpans.l0_1 (call := CC) (lp := lpW) (((cells.take j).map spanR).map encSpan).length (j : Nat) (cols.map encLine) (rows.map encLine) (cells.map encCell) (((cells.take j).map spanR).map encSpan) cells[j] (by simpa using hj) (by simp) (by simp) (uni_span _ _) (by simp; omega) (at_map hj)
    rw [this, w64_succ (by omega), enc_spanR hM hk, map_succ2 (g := spanR) (f := encSpan) hj]) (s_rowSpans.l0_2 _ _ _ _ _ _ (by simp))
  rw [List.take_length] at this
  exact s_rowSpans.w1 cols rows cells ((cells.map spanR).map encSpan).length _ (by simp) (by simpa using this)
def gridReqF (cols rows : List Line) (cells : List Cell) : Int × Int := ((wishF cols (cells.map spanC)).sum, (wishF rows (cells.map spanR)).sum)
theorem spansC_ok {M : Int} {nc nr : Nat} {cells : List Cell} (hc : ∀ c ∈ cells, CellOk M nc nr c) : ∀ s ∈ cells.map spanC, SpanOk (M + 20) nc s := by
  intro s hs; obtain ⟨c, h, rfl⟩ := List.mem_map.1 hs; exact cell_spanC (hc c h)
theorem spansR_ok {M : Int} {nc nr : Nat} {cells : List Cell} (hc : ∀ c ∈ cells, CellOk M nc nr c) : ∀ s ∈ cells.map spanR, SpanOk (M + 20) nr s := by
  intro s hs; obtain ⟨c, h, rfl⟩ := List.mem_map.1 hs; exact cell_spanR (hc c h)
theorem out_sum {M : Int} {n : Nat} {out : List Int} (h : OutOk M n out) (hn : n ≤ 5) (hM : 0 ≤ M) : 0 ≤ out.sum ∧ out.sum ≤ 5 * M := by
  have := sum_bd h.2
  exact ⟨this.1, Int.le_trans this.2 (Int.mul_le_mul_of_nonneg_right (by have := h.1; omega) hM)⟩
theorem out_sumW {M : Int} {n : Nat} {out : List Int} (hB : Big M) (h : OutOk M n out) (hn : n ≤ 5) : sumW out = out.sum := by
  refine sumW_eq h.2 ?_
  obtain ⟨h1, h2⟩ := hB
  have : (out.length : Int) * M ≤ 5 * M := Int.mul_le_mul_of_nonneg_right (by have := h.1; omega) (by omega)
  omega
theorem gridReq_bd {M : Int} {cols rows : List Line} {cells : List Cell} (hM : Mid M) (h1 : LinesOk cols) (h2 : LinesOk rows) (hc : ∀ c ∈ cells, CellOk M cols.length rows.length c) :
    (0 ≤ (gridReqF cols rows cells).1 ∧ (gridReqF cols rows cells).1 ≤ 5 * (M + 20)) ∧ 0 ≤ (gridReqF cols rows cells).2 ∧ (gridReqF cols rows cells).2 ≤ 5 * (M + 20) := by
  have hb := hM.big
  exact ⟨out_sum (wish_ok h1 hb.1 (spansC_ok hc)) h1.2.2 (by have := hb.1; omega), out_sum (wish_ok h2 hb.1 (spansR_ok hc)) h2.2.2 (by have := hb.1; omega)⟩
theorem i_Grid_request.c {M : Int} (cols rows : List Line) (cells : List Cell) (hM : Mid M) (h1 : LinesOk cols) (h2 : LinesOk rows) (hc : ∀ c ∈ cells, CellOk M cols.length rows.length c) (hn : cells.length ≤ 1000) :
    PC i_Grid_request [.agg [.rsl (cols.map encLine), .rsl (rows.map encLine), .rsl (cells.map encCell)]] (.tup [vI (gridReqF cols rows cells).1, vI (gridReqF cols rows cells).2], []) := by
  refine lift ?_
  have hb := hM.big
  have o1 := wish_ok h1 hb.1 (spansC_ok hc)
  have o2 := wish_ok h2 hb.1 (spansR_ok hc)
  have l1 := o1.1
  have l2 := o2.1
  have n1 := h1.2.2
  have n2 := h2.2.2
  have k3 := i_sum.c (wishF cols (cells.map spanC)) (by unfold Sm; omega)
  have k5 := i_sum.c (wishF rows (cells.map spanR)) (by unfold Sm; omega)
  unfold i_sum.m at k3 k5
  rw [out_sumW hb o1 n1] at k3
  rw [out_sumW hb o2 n2] at k5
  exact i_Grid_request.w1 cols rows cells _ _ _ _ _ _ (i_Grid_spans.c cols rows cells hM hc hn) (i_lineRequests.c cols _ h1 hb (spansC_ok hc) (by simpa using hn)) k3 (i_lineRequests.c rows _ h2 hb (spansR_ok hc) (by simpa using hn)) k5
theorem s_gridRequest.c {M : Int} (cols rows : List Line) (cells : List Cell) (hM : Mid M) (h1 : LinesOk cols) (h2 : LinesOk rows) (hc : ∀ c ∈ cells, CellOk M cols.length rows.length c) (hn : cells.length ≤ 1000) :
    PC s_gridRequest [.agg [.rsl (cols.map encLine), .rsl (rows.map encLine), .rsl (cells.map encCell)]] (.tup [vI (gridReqF cols rows cells).1, vI (gridReqF cols rows cells).2], []) := by
  refine lift ?_
  have hb := hM.big
  have o1 := wish_ok h1 hb.1 (spansC_ok hc)
  have o2 := wish_ok h2 hb.1 (spansR_ok hc)
  have l1 := o1.1
  have l2 := o2.1
  have n1 := h1.2.2
  have n2 := h2.2.2
  have k3 := s_total.c (wishF cols (cells.map spanC)) (by unfold Sm; omega)
  have k5 := s_total.c (wishF rows (cells.map spanR)) (by unfold Sm; omega)
  unfold s_total.m at k3 k5
  rw [out_sumW hb o1 n1] at k3
  rw [out_sumW hb o2 n2] at k5
  exact s_gridRequest.w1 cols rows cells _ _ _ _ _ _ (s_colSpans.c cols rows cells hM hc hn) (s_wished.c cols _ h1 hb (spansC_ok hc) (by simpa using hn)) k3 (s_rowSpans.c cols rows cells hM hc hn) (s_wished.c rows _ h2 hb (spansR_ok hc) (by simpa using hn)) k5
structure PackOk (M : Int) (p : Pack) : Prop where
  w : 0 ≤ p.w ∧ p.w ≤ M
  h : 0 ≤ p.h ∧ p.h ≤ M
  side : 0 ≤ p.side ∧ p.side ≤ 3
  anchor : 0 ≤ p.anchor ∧ p.anchor ≤ 8
  px : 0 ≤ p.padX ∧ p.padX ≤ 10
  py : 0 ≤ p.padY ∧ p.padY ≤ 10
def down (p : Pack) : Bool := p.side == 0 || p.side == 1
def needW (p : Pack) : Int := p.w + 2 * p.padX
def needH (p : Pack) : Int := p.h + 2 * p.padY
def packStep (p : Pack) (s : Int × Int) : Int × Int := if down p = true then (max (needW p) s.1, needH p + s.2) else (needW p + s.1, max (needH p) s.2)
def packReqF (list : List Pack) : Int × Int := list.foldr packStep (0, 0)
theorem mx2_eq (a b : Int) : mx2 a b = max a b := by unfold mx2; split <;> omega
theorem mn2_eq (a b : Int) : mn2 a b = min a b := by unfold mn2; split <;> omega
theorem down_i (p : Pack) : i_Pack_down.m p = down p := by unfold i_Pack_down.m down; cases p.side == 0 <;> rfl
theorem down_s (p : Pack) : s_upright.m p.side = down p := by unfold s_upright.m down; cases p.side == 0 <;> rfl
theorem need_i {M : Int} (hM : Mid M) {p : Pack} (h : PackOk M p) : i_Pack_needs.m p = (needW p, needH p) := by
  obtain ⟨h1, h2, h3, h4, h5, h6⟩ := h
  obtain ⟨m1, m2⟩ := hM
  unfold i_Pack_needs.m needW needH
  rw [w64_id (n := 2 * p.padX) (by omega) (by omega), w64_id (n := 2 * p.padY) (by omega) (by omega), w64_id (n := p.w + 2 * p.padX) (by omega) (by omega), w64_id (n := p.h + 2 * p.padY) (by omega) (by omega)]
theorem need_s {M : Int} (hM : Mid M) {p : Pack} (h : PackOk M p) : s_outer.m p = (needW p, needH p) := need_i hM h
theorem packReq_bd {M : Int} (hM : Mid M) : ∀ {list : List Pack}, (∀ p ∈ list, PackOk M p) → (0 ≤ (packReqF list).1 ∧ (packReqF list).1 ≤ list.length * (M + 20)) ∧ 0 ≤ (packReqF list).2 ∧ (packReqF list).2 ≤ list.length * (M + 20)
  | [], _ => by simp [packReqF]
  | p :: list, h => by
    have ih := packReq_bd hM (list := list) fun x hx => h x (by simp [hx])
    obtain ⟨h1, h2, h3, h4, h5, h6⟩ := h p (by simp)
    have hm := hM.1
    show (0 ≤ (packStep p (packReqF list)).1 ∧ (packStep p (packReqF list)).1 ≤ _) ∧ 0 ≤ (packStep p (packReqF list)).2 ∧ (packStep p (packReqF list)).2 ≤ _
    rw [List.length_cons, Int.natCast_add, Int.add_mul]
    have hp : 0 ≤ (list.length : Int) * (M + 20) := Int.mul_nonneg (by omega) (by omega)
    unfold packStep needW needH
    split <;> simp only <;> omega
theorem packs_small {M : Int} (hM : Mid M) {n : Nat} (hn : n ≤ 100) : (n : Int) * (M + 20) ≤ 1000000000000000000 + 2000 := by
  have : (n : Int) * (M + 20) ≤ 100 * (M + 20) := Int.mul_le_mul_of_nonneg_right (by omega) (by have := hM.1; omega)
  have := hM.2
  omega
theorem i_packRequest.c {M : Int} (hM : Mid M) : ∀ (list : List Pack), (∀ p ∈ list, PackOk M p) → list.length ≤ 100 → PC i_packRequest [.one (.rsl (list.map encPack))] (.tup [vI (packReqF list).1, vI (packReqF list).2], [])
  | [], _, _ => lift (i_packRequest.w1 [] rfl)
  | p :: list, h, hn => by
    have hl : ∀ x ∈ list, PackOk M x := fun x hx => h x (by simp [hx])
    rw [List.length_cons] at hn
    have ih := i_packRequest.c hM list hl (by omega)
    have hb := packReq_bd hM hl
    have hs := packs_small hM (n := list.length) (by omega)
    have hp := h p (by simp)
    have k1 := i_Pack_needs.c p
    rw [need_i hM hp] at k1
    have k3 := i_Pack_down.c p
    rw [down_i] at k3
    obtain ⟨h1, h2, h3, h4, h5, h6⟩ := hp
    obtain ⟨m1, m2⟩ := hM
    refine lift ?_
    have hc : cut 1 (((p :: list).map encPack).length - 1) ((p :: list).map encPack) = list.map encPack := by
      unfold cut; rw [List.map_cons, List.drop_succ_cons, List.drop_zero, List.length_cons, Nat.add_sub_cancel, List.take_length]
    show _ = some (V.tup [vI (packStep p (packReqF list)).1, vI (packStep p (packReqF list)).2], [])
    unfold packStep
    cases hd : down p with
    | true =>
      rw [hd] at k3
      rw [if_pos rfl]
      have := i_packRequest.w2 (call := CC) (lp := lpW) (p :: list) p (needW p) (needH p) (packReqF list).1 (packReqF list).2 (by simp; omega) (by simp) (by simp) (uni_map (f := encPack) (fun _ => rfl) _) rfl k1 (by rw [hc]; exact ih) k3
      rw [this, mx2_eq, w64_id (by unfold needH; omega) (by unfold needH; omega)]
    | false =>
      rw [hd] at k3
      rw [if_neg (by decide)]
      have := i_packRequest.w3 (call := CC) (lp := lpW) (p :: list) p (needW p) (needH p) (packReqF list).1 (packReqF list).2 (by simp; omega) (by simp) (by simp) (uni_map (f := encPack) (fun _ => rfl) _) rfl k1 (by rw [hc]; exact ih) k3
      rw [this, mx2_eq, w64_id (by unfold needW; omega) (by unfold needW; omega)]
theorem drop_cons {α : Type} {l : List α} {j : Nat} (h : j < l.length) : l.drop j = l[j] :: l.drop (j + 1) := List.drop_eq_getElem_cons h
theorem s_request.c {M : Int} (hM : Mid M) (list : List Pack) (h : ∀ p ∈ list, PackOk M p) (hn : list.length ≤ 100) : PC s_request [.one (.rsl (list.map encPack))] (.tup [vI (packReqF list).1, vI (packReqF list).2], []) := by
  refine lift ?_
  have := loop_exit (step := s_request.r0 CC lpW) (S := fun j => s_request.s0 (list.map encPack) (packReqF (list.drop (list.length - j))).1 (packReqF (list.drop (list.length - j))).2 ((list.length : Int) - 1 - (j : Nat))) list.length (fun j hj => by
    have hi : list.length - (j + 1) < list.length := by omega
    have hp := h _ (List.getElem_mem hi)
    have hb := packReq_bd hM (list := list.drop (list.length - j)) fun x hx => h x (List.mem_of_mem_drop hx)
    have hs := packs_small hM (n := (list.drop (list.length - j)).length) (by rw [List.length_drop]; omega)
    have k1 := s_outer.c list[list.length - (j + 1)]
    rw [need_s hM hp] at k1
    have k2 := s_upright.c (list[list.length - (j + 1)]).side
    rw [down_s] at k2
    have hat : (list.map encPack)[((list.length : Int) - 1 - (j : Nat)).toNat]? = some (encPack list[list.length - (j + 1)]) := by
      rw [show ((list.length : Int) - 1 - (j : Nat)).toNat = list.length - (j + 1) by omega, List.getElem?_map, List.getElem?_eq_getElem hi]; rfl
    have hd : list.drop (list.length - (j + 1)) = list[list.length - (j + 1)] :: list.drop (list.length - j) := by
      rw [drop_cons hi]; congr 2; omega
    have hst : packReqF (list.drop (list.length - (j + 1))) = packStep list[list.length - (j + 1)] (packReqF (list.drop (list.length - j))) := by rw [hd]; rfl
    have hw : w64 ((list.length : Int) - 1 - (j : Nat) - 1) = (list.length : Int) - 1 - ((j + 1 : Nat) : Int) := by rw [w64_id (by omega) (by omega)]; omega
    obtain ⟨h1, h2, h3, h4, h5, h6⟩ := hp
    obtain ⟨m1, m2⟩ := hM
    rw [hst]
    unfold packStep
    cases hdn : down list[list.length - (j + 1)] with
    | true =>
      rw [hdn] at k2
      rw [if_pos rfl]
      have := s_request.l0_1 (call := CC) (lp := lpW) (list.map encPack) (packReqF (list.drop (list.length - j))).1 (packReqF (list.drop (list.length - j))).2 ((list.length : Int) - 1 - (j : Nat)) _ _ _ (by rw [decide_eq_true_eq]; omega) (by rw [decide_eq_true_eq]; omega) hat k1 k2
      rw [this, mx2_eq, hw, w64_id (by unfold needH; omega) (by unfold needH; omega), Int.max_comm, Int.add_comm (needH _)]
    | false =>
      rw [hdn] at k2
      rw [if_neg (by decide)]
      have := s_request.l0_3 (call := CC) (lp := lpW) (list.map encPack) (packReqF (list.drop (list.length - j))).1 (packReqF (list.drop (list.length - j))).2 ((list.length : Int) - 1 - (j : Nat)) _ _ _ (by rw [decide_eq_true_eq]; omega) (by rw [decide_eq_true_eq]; omega) hat k1 k2
      rw [this, mx2_eq, hw, w64_id (by unfold needW; omega) (by unfold needW; omega), Int.max_comm, Int.add_comm (needW _)]) (s_request.l0_2 _ _ _ _ (by rw [decide_eq_false_iff_not]; omega))
  refine s_request.w1 list _ _ ?_
  have hw : w64 ((((list.map encPack).length : Nat) : Int) - 1) = (list.length : Int) - 1 := by rw [List.length_map, w64_id (by omega) (by omega)]
  rw [hw]
  simpa [packReqF] using this
end Go.Proofs.Ytdgamfanffnhaaa.PI
namespace Go.Proofs.Ytdgamfanffnhaaa.PI
open Go
def nodeAt (nodes : List Node) (k : Nat) : Node := (nodes[k]?).getD default
theorem nodeAt_eq {nodes : List Node} {k : Nat} (h : k < nodes.length) : nodeAt nodes k = nodes[k] := by unfold nodeAt; rw [List.getElem?_eq_getElem h]; rfl
structure PlaceOk (p : Place) : Prop where
  x : -300 ≤ p.x ∧ p.x ≤ 300
  y : -300 ≤ p.y ∧ p.y ≤ 300
  w : -300 ≤ p.w ∧ p.w ≤ 300
  h : -300 ≤ p.h ∧ p.h ≤ 300
  rx : 0 ≤ p.relX ∧ p.relX ≤ 1000
  ry : 0 ≤ p.relY ∧ p.relY ≤ 1000
  rw : 0 ≤ p.relW ∧ p.relW ≤ 1000
  rh : 0 ≤ p.relH ∧ p.relH ≤ 1000
  anchor : 0 ≤ p.anchor ∧ p.anchor ≤ 8
structure NodeOk (nodes : List Node) (i : Nat) (e : Node) : Prop where
  w : 0 ≤ e.w ∧ e.w ≤ 30
  h : 0 ≤ e.h ∧ e.h ≤ 30
  kind : e.kind = 0 ∨ e.kind = 1 ∨ e.kind = 2
  pack : PackOk 0 e.pack
  place : PlaceOk e.place
  lines : e.kind = 1 → LinesOk e.cols ∧ LinesOk e.rows
  nolines : e.kind ≠ 1 → e.cols = [] ∧ e.rows = []
  root : i = 0 → e.parent = -1
  up : 0 < i → 0 ≤ e.parent ∧ e.parent < i
  cell : 0 < i → (nodeAt nodes e.parent.toNat).kind = 1 → CellOk 0 (nodeAt nodes e.parent.toNat).cols.length (nodeAt nodes e.parent.toNat).rows.length e.cell
structure TreeOk (nodes : List Node) : Prop where
  pos : 0 < nodes.length
  le : nodes.length ≤ 10
  node : ∀ i, i < nodes.length → NodeOk nodes i (nodeAt nodes i)
theorem lines_of {l : List Line} (h : i_linesOk.m l = true) : LinesOk l := by
  unfold i_linesOk.m at h
  rw [bif_and, Bool.and_eq_true, within_iff, Bool.not_eq_true', List.any_eq_false] at h
  refine ⟨fun x hx => ?_, by omega, by omega⟩
  have := h.2 x hx
  unfold i_linesOk_1.m at this
  cases h1 : i_within.m x.weight 0 5 with
  | false => rw [h1] at this; simp at this
  | true =>
    rw [h1] at this
    simp only [cond_true, Bool.not_eq_true', Bool.not_eq_false] at this
    rw [within_iff] at h1 this
    exact ⟨h1, this⟩
theorem span_of {a m : Int} {n : Nat} (hn : n ≤ 1000000) (h : i_spanOk.m a m n = true) : 0 ≤ a ∧ 1 ≤ m ∧ a + m ≤ n := by
  unfold i_spanOk.m at h
  rw [bif_and, Bool.and_eq_true, within_iff, within_iff, w64_id (n := (n : Int) - 1) (by omega) (by omega)] at h
  obtain ⟨⟨h1, h2⟩, h3, h4⟩ := h
  rw [w64_id (by omega) (by omega)] at h4
  omega
theorem vnode_lines {nodes : List Node} {i : Nat} {e : Node} (h : vNodeAt nodes i e = true) (h1 : e.kind = 1) : LinesOk e.cols ∧ LinesOk e.rows := by
  unfold vNodeAt at h
  rw [Bool.and_eq_true] at h
  have h := h.1
  unfold i_Node_ok.m at h
  simp only [bif_and, bif_nand, Bool.and_eq_true, Bool.not_eq_true', bne_eq_false_iff_eq] at h
  have a10 := h.2.2.2.2.2.2.2.2.2
  rw [beq_iff_eq.2 h1] at a10
  simp only [cond_true, Bool.and_eq_true] at a10
  exact ⟨lines_of a10.1, lines_of a10.2⟩
theorem node_of {nodes : List Node} (hn : nodes.length ≤ 10) (hv : ∀ k (hk : k < nodes.length), vNodeAt nodes k nodes[k] = true) {i : Nat} (hi : i < nodes.length) : NodeOk nodes i nodes[i] := by
  have h := hv i hi
  have hl := vnode_lines h
  unfold vNodeAt at h
  rw [Bool.and_eq_true] at h
  obtain ⟨h, hu⟩ := h
  have hc := node_cell h
  unfold i_Node_ok.m at h
  simp only [bif_and, bif_nand, Bool.and_eq_true, Bool.not_eq_true', bne_eq_false_iff_eq] at h
  obtain ⟨a1, a2, a3, a4, a5, a6, a7, a8, a9, a10⟩ := h
  rw [within_iff] at a1 a2 a3
  unfold i_ValidPack.m at a4
  simp only [bif_and, Bool.and_eq_true, within_iff] at a4
  unfold i_ValidPlace.m at a7
  simp only [bif_and, Bool.and_eq_true, within_iff, List.all_cons, List.all_nil, Bool.and_true] at a7
  obtain ⟨⟨b1, b2, b3, b4⟩, ⟨b5, b6, b7, b8⟩, b9⟩ := a7
  have hk : (nodes[i].kind == 1) = true ↔ nodes[i].kind = 1 := beq_iff_eq
  unfold upOk at hu
  refine ⟨a1, a2, by omega, ⟨by omega, by omega, a4.2.2.1, a4.2.2.2.1, a4.2.2.2.2.1, a4.2.2.2.2.2⟩, ⟨b1, b2, b3, b4, b5, b6, b7, b8, b9⟩, ?_, ?_, ?_, ?_, ?_⟩
  · exact hl
  · intro h1
    rw [beq_eq_false_iff_ne.2 h1] at a10
    simp only [cond_false, Bool.and_eq_true, beq_iff_eq, List.length_map] at a10
    exact ⟨List.length_eq_zero_iff.1 (by omega), List.length_eq_zero_iff.1 (by omega)⟩
  · intro h0; subst h0
    simpa using hu
  · intro h0
    rw [show (i == 0) = false by rw [beq_eq_false_iff_ne]; omega] at hu
    simp only [cond_false] at hu
    rw [bif_and, Bool.and_eq_true, within_iff] at hu
    omega
  · intro h0 hkk
    rw [show (i == 0) = false by rw [beq_eq_false_iff_ne]; omega] at hu
    simp only [cond_false] at hu
    rw [bif_and, Bool.and_eq_true, within_iff] at hu
    obtain ⟨hp, hu⟩ := hu
    have hup : upOf nodes nodes[i] = nodeAt nodes nodes[i].parent.toNat := rfl
    rw [hup, hkk] at hu
    simp only [beq_self_eq_true, cond_true] at hu
    unfold i_Cell_lies.m at hu
    simp only [bif_and, Bool.and_eq_true, within_iff, List.length_map] at hu
    obtain ⟨c1, c2, c3, c4, c5⟩ := hu
    have hpl : nodes[i].parent.toNat < nodes.length := by omega
    have hv2 := hv _ hpl
    rw [nodeAt_eq hpl] at hkk c1 c2 ⊢
    have hl2 := vnode_lines hv2 hkk
    have n1 := hl2.1.2.2
    have n2 := hl2.2.2.2
    exact ⟨by omega, by omega, c4, c5, span_of (by omega) c1, span_of (by omega) c2, c3⟩
theorem tree_of {nodes : List Node} (h : vTree nodes = true) : TreeOk nodes := by
  unfold vTree at h
  rw [Bool.and_eq_true, within_iff, ← vAll] at h
  obtain ⟨h1, h2⟩ := h
  refine ⟨by omega, by omega, fun i hi => ?_⟩
  rw [nodeAt_eq hi]
  refine node_of (by omega) (fun k hk => ?_) hi
  have := h1 k hk
  rw [List.getElem?_eq_getElem hk] at this
  simpa using this
def kidsF (nodes : List Node) (i : Nat) : List Nat := (List.range nodes.length).filter fun k => (nodeAt nodes k).parent == (i : Int)
def ints (l : List Nat) : List Int := l.map fun (k : Nat) => (k : Int)
theorem kids_mem {nodes : List Node} (ht : TreeOk nodes) {i k : Nat} (h : k ∈ kidsF nodes i) : k < nodes.length ∧ i < k ∧ (nodeAt nodes k).parent = i := by
  unfold kidsF at h
  rw [List.mem_filter, List.mem_range, beq_iff_eq] at h
  refine ⟨h.1, ?_, h.2⟩
  have hn := ht.node k h.1
  by_cases h0 : k = 0
  · have := hn.root h0; omega
  · have := hn.up (by omega); omega
theorem kids_iff {nodes : List Node} {i k : Nat} : k ∈ kidsF nodes i ↔ k < nodes.length ∧ (nodeAt nodes k).parent = i := by
  unfold kidsF; rw [List.mem_filter, List.mem_range, beq_iff_eq]
theorem kids_len {nodes : List Node} (ht : TreeOk nodes) (i : Nat) : (kidsF nodes i).length ≤ 9 := by
  obtain ⟨n, hn⟩ : ∃ n, nodes.length = n + 1 := ⟨nodes.length - 1, by have := ht.pos; omega⟩
  have h0 : ((nodeAt nodes 0).parent == (i : Int)) = false := by
    have := (ht.node 0 ht.pos).root rfl
    rw [this, beq_eq_false_iff_ne]; omega
  unfold kidsF
  rw [hn, List.range_succ_eq_map, List.filter_cons_of_neg (by rw [h0]; decide)]
  refine Nat.le_trans (List.length_filter_le _ _) ?_
  have := ht.le
  simp; omega
def packOf (nodes : List Node) (sz : Nat → Int × Int) (k : Nat) : Pack := { (nodeAt nodes k).pack with w := (sz k).1, h := (sz k).2 }
def cellOf (nodes : List Node) (sz : Nat → Int × Int) (k : Nat) : Cell := { (nodeAt nodes k).cell with w := (sz k).1, h := (sz k).2 }
def sizeBody (nodes : List Node) (sz : Nat → Int × Int) (i : Nat) : Int × Int :=
  if (nodeAt nodes i).keep = true ∨ kidsF nodes i = [] ∨ (nodeAt nodes i).kind = 2 then ((nodeAt nodes i).w, (nodeAt nodes i).h)
  else if (nodeAt nodes i).kind = 0 then packReqF ((kidsF nodes i).map (packOf nodes sz))
  else gridReqF (nodeAt nodes i).cols (nodeAt nodes i).rows ((kidsF nodes i).map (cellOf nodes sz))
def sizeN (nodes : List Node) : Nat → Nat → Int × Int
  | 0, _ => (0, 0)
  | f + 1, i => sizeBody nodes (sizeN nodes f) i
def sizeF (nodes : List Node) (i : Nat) : Int × Int := sizeN nodes nodes.length i
theorem packs_congr {nodes : List Node} {s s' : Nat → Int × Int} {l : List Nat} (h : ∀ k ∈ l, s k = s' k) : l.map (packOf nodes s) = l.map (packOf nodes s') :=
  List.map_congr_left fun k hk => by unfold packOf; rw [h k hk]
theorem cells_congr {nodes : List Node} {s s' : Nat → Int × Int} {l : List Nat} (h : ∀ k ∈ l, s k = s' k) : l.map (cellOf nodes s) = l.map (cellOf nodes s') :=
  List.map_congr_left fun k hk => by unfold cellOf; rw [h k hk]
theorem body_congr {nodes : List Node} {s s' : Nat → Int × Int} {i : Nat} (h : ∀ k ∈ kidsF nodes i, s k = s' k) : sizeBody nodes s i = sizeBody nodes s' i := by
  unfold sizeBody
  rw [packs_congr h, cells_congr h]
theorem sizeN_stable {nodes : List Node} (ht : TreeOk nodes) : ∀ (f g i : Nat), i < nodes.length → nodes.length - i ≤ f → nodes.length - i ≤ g → sizeN nodes f i = sizeN nodes g i
  | 0, _, _, h, h1, _ => by omega
  | _, 0, _, h, _, h2 => by omega
  | f + 1, g + 1, i, h, h1, h2 => by
    show sizeBody nodes (sizeN nodes f) i = sizeBody nodes (sizeN nodes g) i
    refine body_congr fun k hk => ?_
    obtain ⟨a, b, _⟩ := kids_mem ht hk
    exact sizeN_stable ht f g k a (by omega) (by omega)
theorem sizeF_eq {nodes : List Node} (ht : TreeOk nodes) {i : Nat} (hi : i < nodes.length) : sizeF nodes i = sizeBody nodes (sizeF nodes) i := by
  unfold sizeF
  obtain ⟨n, hn⟩ : ∃ n, nodes.length = n + 1 := ⟨nodes.length - 1, by omega⟩
  rw [hn]
  show sizeBody nodes (sizeN nodes n) i = _
  refine body_congr fun k hk => ?_
  obtain ⟨a, b, _⟩ := kids_mem ht hk
  exact sizeN_stable ht n (n + 1) k a (by omega) (by omega)
def bnd (d : Nat) : Int := 1000 * 10 ^ d
theorem bnd_succ (d : Nat) : bnd (d + 1) = 10 * bnd d := by unfold bnd; rw [Int.pow_succ]; omega
theorem bnd_pos (d : Nat) : 1000 ≤ bnd d := by
  induction d with
  | zero => decide
  | succ d ih => rw [bnd_succ]; omega
theorem bnd_mono {d e : Nat} (h : d ≤ e) : bnd d ≤ bnd e := by
  induction e with
  | zero => have : d = 0 := by omega
            subst this; exact Int.le_refl _
  | succ e ih =>
    by_cases hd : d = e + 1
    · subst hd; exact Int.le_refl _
    · have := ih (by omega); have := bnd_pos e; rw [bnd_succ]; omega
theorem bnd_mid {d : Nat} (h : d ≤ 10) : Mid (bnd d) := by
  have := bnd_mono h
  have h2 := bnd_pos d
  have h3 : bnd 10 = 10000000000000 := by decide
  exact ⟨by omega, by omega⟩
def SzB (M : Int) (s : Int × Int) : Prop := (0 ≤ s.1 ∧ s.1 ≤ M) ∧ 0 ≤ s.2 ∧ s.2 ≤ M
theorem packOf_ok {nodes : List Node} (ht : TreeOk nodes) {sz : Nat → Int × Int} {M : Int} {l : List Nat} (hl : ∀ k ∈ l, k < nodes.length) (hs : ∀ k ∈ l, SzB M (sz k)) : ∀ p ∈ l.map (packOf nodes sz), PackOk M p := by
  intro p hp
  obtain ⟨k, hk, rfl⟩ := List.mem_map.1 hp
  have hn := (ht.node k (hl k hk)).pack
  have h := hs k hk
  exact ⟨h.1, h.2, hn.side, hn.anchor, hn.px, hn.py⟩
theorem cellOf_ok {nodes : List Node} (ht : TreeOk nodes) {i : Nat} (hk1 : (nodeAt nodes i).kind = 1) {sz : Nat → Int × Int} {M : Int} (hs : ∀ k ∈ kidsF nodes i, SzB M (sz k)) : ∀ c ∈ (kidsF nodes i).map (cellOf nodes sz), CellOk M (nodeAt nodes i).cols.length (nodeAt nodes i).rows.length c := by
  intro c hc
  obtain ⟨k, hk, rfl⟩ := List.mem_map.1 hc
  obtain ⟨a, b, e⟩ := kids_mem ht hk
  have hn := (ht.node k a).cell (by omega)
  rw [e, Int.toNat_natCast] at hn
  have hn := hn hk1
  have h := hs k hk
  exact ⟨h.1, h.2, hn.px, hn.py, hn.col, hn.row, hn.stick⟩
theorem size_bd {nodes : List Node} (ht : TreeOk nodes) : ∀ (d i : Nat), i < nodes.length → nodes.length - i ≤ d → SzB (bnd d) (sizeF nodes i)
  | 0, i, h, hd => by omega
  | d + 1, i, h, hd => by
    have ih : ∀ k ∈ kidsF nodes i, SzB (bnd d) (sizeF nodes k) := fun k hk => by
      obtain ⟨a, b, _⟩ := kids_mem ht hk
      exact size_bd ht d k a (by omega)
    rw [sizeF_eq ht h]
    unfold sizeBody
    have hb := bnd_pos d
    have hs := bnd_succ d
    have hn := ht.node i h
    split
    · have h1 := hn.w
      have h2 := hn.h
      unfold SzB; simp only; omega
    · rename_i hc
      by_cases hd10 : d ≤ 10
      · have hm := bnd_mid hd10
        split
        · rename_i hk
          have := packReq_bd hm (packOf_ok ht (fun k hk => (kids_mem ht hk).1) ih)
          have hl := kids_len ht i
          have hx : ((((kidsF nodes i).map (packOf nodes (sizeF nodes))).length : Nat) : Int) * (bnd d + 20) ≤ 9 * (bnd d + 20) := Int.mul_le_mul_of_nonneg_right (by rw [List.length_map]; omega) (by omega)
          unfold SzB; omega
        · rename_i hk
          have hk1 : (nodeAt nodes i).kind = 1 := by
            rcases hn.kind with h0 | h1 | h2
            · exact absurd h0 hk
            · exact h1
            · exact absurd (.inr (.inr h2)) hc
          have := gridReq_bd hm (hn.lines hk1).1 (hn.lines hk1).2 (cellOf_ok ht hk1 ih)
          unfold SzB; omega
      · have := ht.le
        have h3 := size_bd ht d i h (by omega)
        rw [sizeF_eq ht h] at h3
        unfold sizeBody at h3
        rw [if_neg hc] at h3
        obtain ⟨⟨x1, x2⟩, x3, x4⟩ := h3
        unfold SzB
        omega
theorem size_mid {nodes : List Node} (ht : TreeOk nodes) {i : Nat} (hi : i < nodes.length) : SzB 10000000000000 (sizeF nodes i) := by
  have := size_bd ht 10 i hi (by have := ht.le; omega)
  have h3 : bnd 10 = 10000000000000 := by decide
  rw [h3] at this; exact this
end Go.Proofs.Ytdgamfanffnhaaa.PI
namespace Go.Proofs.Ytdgamfanffnhaaa.PI
open Go
structure RB (r : Rect) : Prop where
  x : -10000000000000000 ≤ r.x ∧ r.x ≤ 10000000000000000
  y : -10000000000000000 ≤ r.y ∧ r.y ≤ 10000000000000000
  w : 0 ≤ r.w ∧ r.w ≤ 100000000000000
  h : 0 ≤ r.h ∧ r.h ≤ 100000000000000
def InR (a b : Rect) : Prop := (a.x ≤ b.x ∧ a.y ≤ b.y ∧ b.x + b.w ≤ a.x + a.w ∧ b.y + b.h ≤ a.y + a.h) ∧ 0 ≤ b.w ∧ 0 ≤ b.h
theorem InR.trans {a b c : Rect} (h1 : InR a b) (h2 : InR b c) : InR a c := by unfold InR at *; omega
def shift (dx dy : Int) (r : Rect) : Rect := ⟨dx + r.x, dy + r.y, r.w, r.h⟩
def org (r : Rect) : Rect := ⟨0, 0, r.w, r.h⟩
theorem shift_org (r : Rect) : shift r.x r.y (org r) = r := by unfold shift org; simp
def cutF (r : Rect) (side n : Int) : Rect × Rect :=
  if side = 0 then (⟨r.x, r.y, r.w, min n r.h⟩, ⟨r.x, r.y + min n r.h, r.w, r.h - min n r.h⟩)
  else if side = 1 then (⟨r.x, r.y + (r.h - min n r.h), r.w, min n r.h⟩, ⟨r.x, r.y, r.w, r.h - min n r.h⟩)
  else if side = 2 then (⟨r.x, r.y, min n r.w, r.h⟩, ⟨r.x + min n r.w, r.y, r.w - min n r.w, r.h⟩)
  else (⟨r.x + (r.w - min n r.w), r.y, min n r.w, r.h⟩, ⟨r.x, r.y, r.w - min n r.w, r.h⟩)
theorem cut_i {r : Rect} (h : RB r) (side : Int) {n : Int} (hn : 0 ≤ n) : i_Rect_cut.m r side n = cutF r side n := by
  obtain ⟨h1, h2, h3, h4⟩ := h
  unfold i_Rect_cut.m cutF
  simp only [mn2_eq, Bool.cond_eq_ite, beq_iff_eq]
  rw [w64_id (n := r.h - min n r.h) (by omega) (by omega), w64_id (n := r.w - min n r.w) (by omega) (by omega), w64_id (n := r.y + min n r.h) (by omega) (by omega), w64_id (n := r.x + min n r.w) (by omega) (by omega), w64_id (n := r.y + (r.h - min n r.h)) (by omega) (by omega), w64_id (n := r.x + (r.w - min n r.w)) (by omega) (by omega)]
theorem cut_s {r : Rect} (h : RB r) (side : Int) {n : Int} (hn : 0 ≤ n) : s_cut.m r side n = cutF r side n := cut_i h side hn
theorem cut_in {r : Rect} (h : RB r) (side : Int) {n : Int} (hn : 0 ≤ n) : InR r (cutF r side n).1 ∧ InR r (cutF r side n).2 := by
  obtain ⟨h1, h2, h3, h4⟩ := h
  unfold cutF
  split
  · unfold InR; simp only; omega
  · split
    · unfold InR; simp only; omega
    · split
      · unfold InR; simp only; omega
      · unfold InR; simp only; omega
theorem cut_shift (dx dy : Int) (r : Rect) (side n : Int) : cutF (shift dx dy r) side n = (shift dx dy (cutF r side n).1, shift dx dy (cutF r side n).2) := by
  unfold cutF shift
  simp only
  split
  · simp only [Int.add_assoc]
  · split
    · simp only [Int.add_assoc]
    · split
      · simp only [Int.add_assoc]
      · simp only [Int.add_assoc]
def insetF (r : Rect) (px py : Int) : Rect := ⟨r.x + min px (r.w / 2), r.y + min py (r.h / 2), max (r.w - 2 * px) 0, max (r.h - 2 * py) 0⟩
theorem tdiv2 {n : Int} (h : 0 ≤ n) (k : Int) : Int.tdiv n k = n / k := Int.tdiv_eq_ediv_of_nonneg h
theorem inset_i {r : Rect} (h : RB r) {px py : Int} (hx : 0 ≤ px ∧ px ≤ 10) (hy : 0 ≤ py ∧ py ≤ 10) : i_Rect_inset.m r px py = insetF r px py := by
  obtain ⟨h1, h2, h3, h4⟩ := h
  unfold i_Rect_inset.m insetF
  simp only [mn2_eq, mx2_eq]
  rw [tdiv2 h3.1, tdiv2 h4.1, w64_id (n := r.w / 2) (by omega) (by omega), w64_id (n := r.h / 2) (by omega) (by omega), w64_id (n := 2 * px) (by omega) (by omega), w64_id (n := 2 * py) (by omega) (by omega), w64_id (n := r.w - 2 * px) (by omega) (by omega), w64_id (n := r.h - 2 * py) (by omega) (by omega), w64_id (n := r.x + min px (r.w / 2)) (by omega) (by omega), w64_id (n := r.y + min py (r.h / 2)) (by omega) (by omega)]
theorem inset_s {r : Rect} (h : RB r) {px py : Int} (hx : 0 ≤ px ∧ px ≤ 10) (hy : 0 ≤ py ∧ py ≤ 10) : s_inset.m r px py = insetF r px py := by
  rw [← inset_i h hx hy]
  unfold s_inset.m i_Rect_inset.m
  simp only [mx2_eq, Int.max_comm]
theorem inset_in {r : Rect} (h : RB r) {px py : Int} (hx : 0 ≤ px) (hy : 0 ≤ py) : InR r (insetF r px py) := by
  obtain ⟨h1, h2, h3, h4⟩ := h
  unfold InR insetF; simp only; omega
theorem inset_shift (dx dy : Int) (r : Rect) (px py : Int) : insetF (shift dx dy r) px py = shift dx dy (insetF r px py) := by
  unfold insetF shift; simp only [Int.add_assoc]
def anchoredF (r : Rect) (w h anchor : Int) : Rect := ⟨r.x + (r.w - min w r.w) * (anchor % 3) / 2, r.y + (r.h - min h r.h) * (anchor / 3) / 2, min w r.w, min h r.h⟩
theorem half_bd {n k : Int} (hn : 0 ≤ n) (hk : 0 ≤ k ∧ k ≤ 2) : 0 ≤ n * k / 2 ∧ n * k / 2 ≤ n ∧ 0 ≤ n * k ∧ n * k ≤ 2 * n := by
  have h1 : 0 ≤ n * k := Int.mul_nonneg hn hk.1
  have h2 : n * k ≤ n * 2 := Int.mul_le_mul_of_nonneg_left hk.2 hn
  omega
theorem part_i {n k : Int} (hn : 0 ≤ n ∧ n ≤ 100000000000000) (hk : 0 ≤ k ∧ k ≤ 2) : i_part.m n k = n * k / 2 := by
  obtain ⟨a, b, c, d⟩ := half_bd hn.1 hk
  unfold i_part.m
  rw [w64_id (n := n * k) (by omega) (by omega), tdiv2 c, w64_id (by omega) (by omega)]
theorem anchor_bd {a : Int} (h : 0 ≤ a ∧ a ≤ 8) : Int.tmod a 3 = a % 3 ∧ w64 (Int.tdiv a 3) = a / 3 ∧ (0 ≤ a % 3 ∧ a % 3 ≤ 2) ∧ 0 ≤ a / 3 ∧ a / 3 ≤ 2 := by
  refine ⟨Int.tmod_eq_emod_of_nonneg h.1, ?_, by omega, by omega⟩
  rw [tdiv2 h.1, w64_id (by omega) (by omega)]
theorem anchored_i {r : Rect} (hr : RB r) {w h a : Int} (hw : 0 ≤ w) (hh : 0 ≤ h) (ha : 0 ≤ a ∧ a ≤ 8) : i_Rect_anchored.m r w h a = anchoredF r w h a := by
  obtain ⟨h1, h2, h3, h4⟩ := hr
  obtain ⟨a1, a2, a3, a4⟩ := anchor_bd ha
  unfold i_Rect_anchored.m anchoredF
  simp only [mn2_eq]
  have p1 := half_bd (n := r.w - min w r.w) (by omega) a3
  have p2 := half_bd (n := r.h - min h r.h) (by omega) a4
  rw [w64_id (n := r.w - min w r.w) (by omega) (by omega), w64_id (n := r.h - min h r.h) (by omega) (by omega), a1, a2, part_i (by omega) a3, part_i (by omega) a4, w64_id (by omega) (by omega), w64_id (by omega) (by omega)]
theorem anchored_s {r : Rect} (hr : RB r) {w h a : Int} (hw : 0 ≤ w) (hh : 0 ≤ h) (ha : 0 ≤ a ∧ a ≤ 8) : s_anchored.m r w h a = anchoredF r w h a := anchored_i hr hw hh ha
theorem anchored_in {r : Rect} (hr : RB r) {w h a : Int} (hw : 0 ≤ w) (hh : 0 ≤ h) (ha : 0 ≤ a ∧ a ≤ 8) : InR r (anchoredF r w h a) := by
  obtain ⟨h1, h2, h3, h4⟩ := hr
  obtain ⟨a1, a2, a3, a4⟩ := anchor_bd ha
  have p1 := half_bd (n := r.w - min w r.w) (by omega) a3
  have p2 := half_bd (n := r.h - min h r.h) (by omega) a4
  unfold InR anchoredF; simp only; omega
theorem anchored_shift (dx dy : Int) (r : Rect) (w h a : Int) : anchoredF (shift dx dy r) w h a = shift dx dy (anchoredF r w h a) := by
  unfold anchoredF shift; simp only [Int.add_assoc]
theorem RB.inside {a b : Rect} (h : RB a) (hi : InR a b) (hx : -9000000000000000 ≤ a.x ∧ a.x ≤ 9000000000000000) (hy : -9000000000000000 ≤ a.y ∧ a.y ≤ 9000000000000000) : RB b := by
  obtain ⟨h1, h2, h3, h4⟩ := h
  unfold InR at hi
  exact ⟨by omega, by omega, by omega, by omega⟩
def settledF (p : Pack) (parcel : Rect) : Rect :=
  anchoredF (insetF parcel p.padX p.padY) (if p.fillX = true then (insetF parcel p.padX p.padY).w else p.w) (if p.fillY = true then (insetF parcel p.padX p.padY).h else p.h) p.anchor
structure RS (r : Rect) : Prop where
  b : RB r
  x : -9000000000000000 ≤ r.x ∧ r.x ≤ 9000000000000000
  y : -9000000000000000 ≤ r.y ∧ r.y ≤ 9000000000000000
theorem settled_s {M : Int} {p : Pack} (hp : PackOk M p) {r : Rect} (hr : RS r) : s_settled.m p r = settledF p r := by
  have hi := inset_in hr.b hp.px.1 hp.py.1
  have hb := hr.b.inside hi hr.x hr.y
  have e := inset_s hr.b hp.px hp.py
  unfold s_settled.m settledF
  rw [e]
  have w0 := hp.w.1
  have h0 := hp.h.1
  have a0 := hb.w.1
  have b0 := hb.h.1
  cases p.fillX <;> cases p.fillY <;> simp only [cond_true, cond_false, if_true, Bool.false_eq_true, if_false]
  · exact anchored_s hb w0 h0 hp.anchor
  · exact anchored_s hb w0 b0 hp.anchor
  · exact anchored_s hb a0 h0 hp.anchor
  · exact anchored_s hb a0 b0 hp.anchor
theorem settled_in {M : Int} {p : Pack} (hp : PackOk M p) {r : Rect} (hr : RS r) : InR r (settledF p r) := by
  have hi := inset_in hr.b hp.px.1 hp.py.1
  have hb := hr.b.inside hi hr.x hr.y
  refine hi.trans (anchored_in hb ?_ ?_ hp.anchor)
  · split
    · exact hb.w.1
    · exact hp.w.1
  · split
    · exact hb.h.1
    · exact hp.h.1
theorem settled_shift (dx dy : Int) (p : Pack) (r : Rect) : settledF p (shift dx dy r) = shift dx dy (settledF p r) := by
  unfold settledF
  rw [inset_shift, anchored_shift]; rfl
def thou (n k : Int) : Int := n * k / 1000
def placedF (p : Place) (r : Rect) : Rect :=
  ⟨r.x + (p.x + thou r.w p.relX - max (p.w + thou r.w p.relW) 0 * (p.anchor % 3) / 2), r.y + (p.y + thou r.h p.relY - max (p.h + thou r.h p.relH) 0 * (p.anchor / 3) / 2), max (p.w + thou r.w p.relW) 0, max (p.h + thou r.h p.relH) 0⟩
theorem thou_bd {n k : Int} (hn : 0 ≤ n ∧ n ≤ 100000000000000) (hk : 0 ≤ k ∧ k ≤ 1000) : (0 ≤ thou n k ∧ thou n k ≤ n) ∧ s_part.m n k = thou n k ∧ w64 (Int.tdiv (w64 (k * n)) 1000) = thou n k := by
  have h1 : 0 ≤ n * k := Int.mul_nonneg hn.1 hk.1
  have h2 : n * k ≤ n * 1000 := Int.mul_le_mul_of_nonneg_left hk.2 hn.1
  unfold s_part.m thou
  rw [Int.mul_comm k n, w64_id (n := n * k) (by omega) (by omega), tdiv2 h1, w64_id (by omega) (by omega)]
  omega
theorem placed_s {p : Place} (hp : PlaceOk p) {r : Rect} (hr : RS r) (hw : r.w ≤ 90000000000000) (hh : r.h ≤ 90000000000000) : s_placed.m p r = placedF p r := by
  obtain ⟨⟨h1, h2, h3, h4⟩, x, y⟩ := hr
  obtain ⟨b1, e1, _⟩ := thou_bd h3 hp.rx
  obtain ⟨b2, e2, _⟩ := thou_bd h4 hp.ry
  obtain ⟨b3, e3, _⟩ := thou_bd h3 hp.rw
  obtain ⟨b4, e4, _⟩ := thou_bd h4 hp.rh
  obtain ⟨a1, a2, a3, a4⟩ := anchor_bd hp.anchor
  have px := hp.x
  have py := hp.y
  have pw := hp.w
  have ph := hp.h
  unfold s_placed.m placedF
  rw [e1, e2, e3, e4, a1, a2]
  simp only [mx2_eq]
  rw [w64_id (n := p.w + thou r.w p.relW) (by omega) (by omega), w64_id (n := p.h + thou r.h p.relH) (by omega) (by omega), Int.max_comm 0, Int.max_comm 0]
  have p1 := half_bd (n := max (p.w + thou r.w p.relW) 0) (by omega) a3
  have p2 := half_bd (n := max (p.h + thou r.h p.relH) 0) (by omega) a4
  rw [w64_id (n := max (p.w + thou r.w p.relW) 0 * (p.anchor % 3)) (by omega) (by omega), w64_id (n := max (p.h + thou r.h p.relH) 0 * (p.anchor / 3)) (by omega) (by omega), tdiv2 p1.2.2.1, tdiv2 p2.2.2.1]
  rw [w64_id (n := max (p.w + thou r.w p.relW) 0 * (p.anchor % 3) / 2) (by omega) (by omega), w64_id (n := max (p.h + thou r.h p.relH) 0 * (p.anchor / 3) / 2) (by omega) (by omega), w64_id (n := p.x + thou r.w p.relX) (by omega) (by omega), w64_id (n := p.y + thou r.h p.relY) (by omega) (by omega)]
  rw [w64_id (n := p.x + thou r.w p.relX - max (p.w + thou r.w p.relW) 0 * (p.anchor % 3) / 2) (by omega) (by omega), w64_id (n := p.y + thou r.h p.relY - max (p.h + thou r.h p.relH) 0 * (p.anchor / 3) / 2) (by omega) (by omega), w64_id (by omega) (by omega), w64_id (by omega) (by omega)]
theorem placed_i {p : Place} (hp : PlaceOk p) {w h : Int} (hw : 0 ≤ w ∧ w ≤ 90000000000000) (hh : 0 ≤ h ∧ h ≤ 90000000000000) : i_Place_rect.m p w h = placedF p ⟨0, 0, w, h⟩ := by
  obtain ⟨b1, _, e1⟩ := thou_bd (n := w) (by omega) hp.rx
  obtain ⟨b2, _, e2⟩ := thou_bd (n := h) (by omega) hp.ry
  obtain ⟨b3, _, e3⟩ := thou_bd (n := w) (by omega) hp.rw
  obtain ⟨b4, _, e4⟩ := thou_bd (n := h) (by omega) hp.rh
  obtain ⟨a1, a2, a3, a4⟩ := anchor_bd hp.anchor
  have px := hp.x
  have py := hp.y
  have pw := hp.w
  have ph := hp.h
  unfold i_Place_rect.m placedF
  rw [e1, e2, e3, e4, a1, a2]
  simp only [mx2_eq]
  rw [w64_id (n := p.w + thou w p.relW) (by omega) (by omega), w64_id (n := p.h + thou h p.relH) (by omega) (by omega)]
  have p1 := half_bd (n := max (p.w + thou w p.relW) 0) (by omega) a3
  have p2 := half_bd (n := max (p.h + thou h p.relH) 0) (by omega) a4
  rw [part_i (by omega) a3, part_i (by omega) a4, w64_id (n := p.x + thou w p.relX) (by omega) (by omega), w64_id (n := p.y + thou h p.relY) (by omega) (by omega), w64_id (by omega) (by omega), w64_id (by omega) (by omega), Int.zero_add, Int.zero_add]
theorem placed_shift (dx dy : Int) (p : Place) (r : Rect) : placedF p (shift dx dy r) = shift dx dy (placedF p r) := by
  unfold placedF shift; simp only [Int.add_assoc]
theorem placed_bd {p : Place} (hp : PlaceOk p) {r : Rect} (hr : RB r) : (0 ≤ (placedF p r).w ∧ (placedF p r).w ≤ r.w + 300) ∧ (0 ≤ (placedF p r).h ∧ (placedF p r).h ≤ r.h + 300) ∧ (r.x - r.w - 600 ≤ (placedF p r).x ∧ (placedF p r).x ≤ r.x + r.w + 600) ∧ r.y - r.h - 600 ≤ (placedF p r).y ∧ (placedF p r).y ≤ r.y + r.h + 600 := by
  obtain ⟨h1, h2, h3, h4⟩ := hr
  obtain ⟨b1, _, _⟩ := thou_bd h3 hp.rx
  obtain ⟨b2, _, _⟩ := thou_bd h4 hp.ry
  obtain ⟨b3, _, _⟩ := thou_bd h3 hp.rw
  obtain ⟨b4, _, _⟩ := thou_bd h4 hp.rh
  obtain ⟨a1, a2, a3, a4⟩ := anchor_bd hp.anchor
  have px := hp.x
  have py := hp.y
  have pw := hp.w
  have ph := hp.h
  have p1 := half_bd (n := max (p.w + thou r.w p.relW) 0) (by omega) a3
  have p2 := half_bd (n := max (p.h + thou r.h p.relH) 0) (by omega) a4
  unfold placedF; simp only; omega
end Go.Proofs.Ytdgamfanffnhaaa.PI
namespace Go.Proofs.Ytdgamfanffnhaaa.PI
open Go
def needD (p : Pack) (dn : Bool) : Int := if dn = true then needH p else needW p
structure Shr where
  room : Int
  best : Int
  n : Int
def shStep (dn : Bool) (s : Shr) (p : Pack) : Shr :=
  if down p = dn then ⟨s.room - needD p dn, s.best, if p.expand = true then s.n + 1 else s.n⟩
  else ⟨s.room, min s.best (max (s.room - needD p dn) 0 / s.n), s.n⟩
def shAt (l : List Pack) (room : Int) (dn : Bool) (j : Nat) : Shr := (l.take j).foldl (shStep dn) ⟨room, room, 0⟩
def shareF (l : List Pack) (room : Int) (dn : Bool) : Int := min (shAt l room dn l.length).best (max (shAt l room dn l.length).room 0 / (shAt l room dn l.length).n)
def HeadOk (l : List Pack) (dn : Bool) : Prop := ∃ h : 0 < l.length, l[0].expand = true ∧ down l[0] = dn
structure ShInv (M room : Int) (j : Nat) (s : Shr) : Prop where
  n0 : 0 ≤ s.n ∧ s.n ≤ j
  best : 0 ≤ s.best ∧ s.best ≤ room
  hi : s.room ≤ room
  lo : room - j * (M + 20) ≤ s.room
  n1 : 0 < j → 1 ≤ s.n
theorem need_bd {M : Int} {p : Pack} (h : PackOk M p) (dn : Bool) : 0 ≤ needD p dn ∧ needD p dn ≤ M + 20 := by
  have h1 := h.w
  have h2 := h.h
  have h3 := h.px
  have h4 := h.py
  unfold needD needW needH
  split <;> omega
theorem sh_inv {M : Int} (hM : 0 ≤ M) {l : List Pack} (hl : ∀ p ∈ l, PackOk M p) {room : Int} (hr : 0 ≤ room) {dn : Bool} (hh : HeadOk l dn) (j : Nat) (hj : j ≤ l.length) : ShInv M room j (shAt l room dn j) := by
  induction j with
  | zero => exact ⟨by simp [shAt], by simp [shAt]; omega, by simp [shAt], by simp [shAt], fun h => by omega⟩
  | succ j ih =>
    have hlt : j < l.length := by omega
    have h := ih (by omega)
    have hp := need_bd (hl _ (List.getElem_mem hlt)) dn
    unfold shAt at h ⊢
    rw [foldl_succ hlt]
    generalize (l.take j).foldl (shStep dn) ⟨room, room, 0⟩ = s at h ⊢
    obtain ⟨h1, h2, h3, h4, h5⟩ := h
    have e : ((j + 1 : Nat) : Int) * (M + 20) = j * (M + 20) + (M + 20) := by rw [Int.natCast_add, Int.add_mul]; simp
    unfold shStep
    split
    · refine ⟨?_, h2, ?_, ?_, fun _ => ?_⟩
      · simp only; split <;> omega
      · simp only; omega
      · simp only; rw [e]; omega
      · simp only
        by_cases hj0 : j = 0
        · subst hj0
          obtain ⟨_, he, _⟩ := hh
          rw [if_pos he]; omega
        · have := h5 (by omega); split <;> omega
    · rename_i hd
      have hj0 : 0 < j := by
        apply Classical.byContradiction
        intro c
        have : j = 0 := by omega
        subst this
        exact hd hh.2.2
      have hn := h5 hj0
      have hq : 0 ≤ max (s.room - needD l[j] dn) 0 / s.n := Int.ediv_nonneg (by omega) (by omega)
      refine ⟨by simp only; omega, by simp only; omega, h3, ?_, fun _ => hn⟩
      simp only; rw [e]; omega
theorem share_bd {M : Int} (hM : 0 ≤ M) {l : List Pack} (hl : ∀ p ∈ l, PackOk M p) {room : Int} (hr : 0 ≤ room) {dn : Bool} (hh : HeadOk l dn) : 0 ≤ shareF l room dn ∧ shareF l room dn ≤ room := by
  have h := sh_inv hM hl hr hh l.length (Nat.le_refl _)
  obtain ⟨hpos, _⟩ := hh
  have hn := h.n1 hpos
  have hq : 0 ≤ max (shAt l room dn l.length).room 0 / (shAt l room dn l.length).n := Int.ediv_nonneg (by omega) (by omega)
  have hb := h.best
  unfold shareF
  omega
theorem needD_i {M : Int} (hM : Mid M) {p : Pack} (h : PackOk M p) (dn : Bool) : i_Pack_need.m p dn = needD p dn := by
  unfold i_Pack_need.m needD
  rw [need_i hM h]
  cases dn <;> rfl
theorem div_w {a n : Int} (ha : 0 ≤ a ∧ a ≤ 1000000000000000000) (hn : 1 ≤ n) : w64 (Int.tdiv a n) = a / n := by
  have h1 : 0 ≤ a / n := Int.ediv_nonneg ha.1 (by omega)
  have h2 : a / n ≤ a := Int.ediv_le_self _ ha.1
  rw [tdiv2 ha.1, w64_id (by omega) (by omega)]
theorem share_small {M : Int} (hM : Mid M) {j : Nat} (hj : j ≤ 20) : (j : Int) * (M + 20) ≤ 200000000000000400 := by
  have : (j : Int) * (M + 20) ≤ 20 * (M + 20) := Int.mul_le_mul_of_nonneg_right (by omega) (by have := hM.1; omega)
  have := hM.2
  omega
theorem at_pack {l : List Pack} {j : Nat} (h : j < l.length) : (l.map encPack)[((j : Nat) : Int).toNat]? = some (encPack l[j]) := at_map h
def Room (room : Int) : Prop := 0 ≤ room ∧ room ≤ 100000000000000
theorem i_expandShare.c {M : Int} (hM : Mid M) {l : List Pack} (hl : ∀ p ∈ l, PackOk M p) (hn : l.length ≤ 20) {room : Int} (hr : Room room) {dn : Bool} (hh : HeadOk l dn) :
    PC i_expandShare [.one (.rsl (l.map encPack)), vI room, vB dn] (vI (shareF l room dn), []) := by
  refine lift ?_
  have hM0 : 0 ≤ M := by have := hM.1; omega
  have hr1 := hr.1
  have hr2 := hr.2
  have hm1 := hM.1
  have hm2 := hM.2
  have := loop_exit (step := i_expandShare.r0 CC lpW) (S := fun j => i_expandShare.s0 (shAt l room dn j).room dn (shAt l room dn j).best (shAt l room dn j).n (l.map encPack) ((l.map encPack).length : Nat) (j : Nat)) l.length (fun j hj => by
    have hp := hl _ (List.getElem_mem hj)
    have hb := need_bd hp dn
    have hi := sh_inv hM0 hl hr1 hh j (by omega)
    have hs := share_small hM (j := j) (by omega)
    have k1 := i_Pack_down.c l[j]
    rw [down_i] at k1
    have k2 := i_Pack_need.c l[j] dn
    rw [needD_i hM hp] at k2
    have e : shAt l room dn (j + 1) = shStep dn (shAt l room dn j) l[j] := by unfold shAt; rw [foldl_succ hj]
    rw [e]
    generalize shAt l room dn j = s at hi ⊢
    obtain ⟨h1, h2, h3, h4, h5⟩ := hi
    unfold shStep
    by_cases hd : down l[j] = dn
    · rw [if_pos hd]
      have hd' : (down l[j] == dn) = true := by rw [hd]; exact beq_self_eq_true _
      cases hx : l[j].expand with
      | true =>
        rw [i_expandShare.l0_1 (call := CC) (lp := lpW) s.room dn s.best s.n (l.map encPack) ((l.map encPack).length : Nat) (j : Nat) _ _ _ (by simpa using hj) (by simp) hd' hx (at_pack hj) k1 k2, w64_succ (by omega), w64_id (n := s.room - needD l[j] dn) (by omega) (by omega), w64_id (n := s.n + 1) (by omega) (by omega)]
        rfl
      | false =>
        rw [i_expandShare.l0_4 (call := CC) (lp := lpW) s.room dn s.best s.n (l.map encPack) ((l.map encPack).length : Nat) (j : Nat) _ _ _ (by simpa using hj) (by simp) hd' hx (at_pack hj) k1 k2, w64_succ (by omega), w64_id (n := s.room - needD l[j] dn) (by omega) (by omega)]
        rfl
    · rw [if_neg hd]
      have hj0 : 0 < j := by
        apply Classical.byContradiction
        intro c
        have : j = 0 := by omega
        subst this
        exact hd hh.2.2
      have hn1 := h5 hj0
      have hd' : (down l[j] == dn) = false := beq_eq_false_iff_ne.2 hd
      rw [i_expandShare.l0_3 (call := CC) (lp := lpW) s.room dn s.best s.n (l.map encPack) ((l.map encPack).length : Nat) (j : Nat) _ _ _ (by simpa using hj) (by simp) hd' (by rw [decide_eq_true_eq]; omega) (at_pack hj) k1 k2, w64_succ (by omega), w64_id (n := s.room - needD l[j] dn) (by omega) (by omega), mx2_eq, mn2_eq, div_w (by omega) hn1]) (i_expandShare.l0_2 _ _ _ _ _ _ _ (by simp))
  have hi := sh_inv hM0 hl hr1 hh l.length (Nat.le_refl _)
  have hs := share_small hM (j := l.length) (by omega)
  have hn1 := hi.n1 hh.1
  have hlo := hi.lo
  have hhi := hi.hi
  simp only [show shAt l room dn 0 = ⟨room, room, 0⟩ from rfl] at this
  refine (i_expandShare.w1 l room dn (shAt l room dn l.length).room (shAt l room dn l.length).best (shAt l room dn l.length).n (by rw [decide_eq_true_eq]; omega) (by simpa using this)).trans ?_
  rw [mn2_eq, mx2_eq, div_w (by omega) hn1]
  rfl
theorem half_s {M room : Int} {j : Nat} {s : Shr} (hr : Room room) (hi : ShInv M room j s) (hn1 : 1 ≤ s.n) {k : Int} (hk : 0 ≤ k) (hlo : -1000000000000000000 ≤ s.room - k) : s_half.m (s.room - k) s.n = max (s.room - k) 0 / s.n := by
  have hhi := hi.hi
  have hr2 := hr.2
  unfold s_half.m
  by_cases h : s.room - k < 0
  · rw [decide_eq_true h, cond_true, Int.max_eq_right (by omega), Int.zero_ediv]
  · rw [decide_eq_false h, cond_false, Int.max_eq_left (by omega), div_w (by omega) hn1]
theorem needD_t (p : Pack) : needD p true = needH p := rfl
theorem needD_f (p : Pack) : needD p false = needW p := rfl
theorem s_share.c {M : Int} (hM : Mid M) {l : List Pack} (hl : ∀ p ∈ l, PackOk M p) (hn : l.length ≤ 20) {room : Int} (hr : Room room) {dn : Bool} (hh : HeadOk l dn) :
    PC s_share [.one (.rsl (l.map encPack)), vI room, vB dn] (vI (shareF l room dn), []) := by
  refine lift ?_
  have hM0 : 0 ≤ M := by have := hM.1; omega
  have hr1 := hr.1
  have hr2 := hr.2
  have hm1 := hM.1
  have hm2 := hM.2
  have := loop_exit (step := s_share.r0 CC lpW) (S := fun j => s_share.s0 (l.map encPack) (shAt l room dn j).room dn (shAt l room dn j).best (shAt l room dn j).n (j : Nat)) l.length (fun j hj => by
    have hp := hl _ (List.getElem_mem hj)
    have hb := need_bd hp dn
    have hi := sh_inv hM0 hl hr1 hh j (by omega)
    have hs := share_small hM (j := j) (by omega)
    have k1 := s_outer.c l[j]
    rw [need_s hM hp] at k1
    have k2 := s_upright.c l[j].side
    rw [down_s] at k2
    have e : shAt l room dn (j + 1) = shStep dn (shAt l room dn j) l[j] := by unfold shAt; rw [foldl_succ hj]
    rw [e]
    generalize shAt l room dn j = s at hi ⊢
    have hi' := hi
    obtain ⟨h1, h2, h3, h4, h5⟩ := hi
    unfold shStep
    by_cases hd : down l[j] = dn
    · rw [if_pos hd]
      have hd' : (down l[j] == dn) = true := by rw [hd]; exact beq_self_eq_true _
      cases dn with
      | true =>
        rw [needD_t] at hb ⊢
        cases hx : l[j].expand with
        | true =>
          rw [s_share.l0_1 (call := CC) (lp := lpW) (l.map encPack) s.room s.best s.n (j : Nat) _ _ _ _ (by simpa using hj) (by simp) hd' hx (at_pack hj) k1 k2, w64_succ (by omega), w64_id (n := s.room - needH l[j]) (by omega) (by omega), w64_id (n := s.n + 1) (by omega) (by omega)]
          rfl
        | false =>
          rw [s_share.l0_9 (call := CC) (lp := lpW) (l.map encPack) s.room s.best s.n (j : Nat) _ _ _ _ (by simpa using hj) (by simp) hd' hx (at_pack hj) k1 k2, w64_succ (by omega), w64_id (n := s.room - needH l[j]) (by omega) (by omega)]
          rfl
      | false =>
        rw [needD_f] at hb ⊢
        cases hx : l[j].expand with
        | true =>
          rw [s_share.l0_3 (call := CC) (lp := lpW) (l.map encPack) s.room s.best s.n (j : Nat) _ _ _ _ (by simpa using hj) (by simp) hd' hx (at_pack hj) k1 k2, w64_succ (by omega), w64_id (n := s.room - needW l[j]) (by omega) (by omega), w64_id (n := s.n + 1) (by omega) (by omega)]
          rfl
        | false =>
          rw [s_share.l0_6 (call := CC) (lp := lpW) (l.map encPack) s.room s.best s.n (j : Nat) _ _ _ _ (by simpa using hj) (by simp) hd' hx (at_pack hj) k1 k2, w64_succ (by omega), w64_id (n := s.room - needW l[j]) (by omega) (by omega)]
          rfl
    · rw [if_neg hd]
      have hj0 : 0 < j := by
        apply Classical.byContradiction
        intro c
        have : j = 0 := by omega
        subst this
        exact hd hh.2.2
      have hn1 := h5 hj0
      have hd' : (down l[j] == dn) = false := beq_eq_false_iff_ne.2 hd
      have k3 := s_half.c (s.room - needD l[j] dn) s.n (fun _ => by rw [decide_eq_true_eq]; omega)
      rw [half_s hr hi' hn1 hb.1 (by omega)] at k3
      have hw : w64 (s.room - needD l[j] dn) = s.room - needD l[j] dn := w64_id (by omega) (by omega)
      cases dn with
      | true =>
        rw [s_share.l0_7 (call := CC) (lp := lpW) (l.map encPack) s.room s.best s.n (j : Nat) _ _ _ _ _ (by simpa using hj) (by simp) hd' (by rw [decide_eq_true_eq]; omega) (at_pack hj) k1 k2 (by rw [needD_t] at hw k3; rw [hw]; exact k3), w64_succ (by omega), mn2_eq]
        rfl
      | false =>
        rw [s_share.l0_4 (call := CC) (lp := lpW) (l.map encPack) s.room s.best s.n (j : Nat) _ _ _ _ _ (by simpa using hj) (by simp) hd' (by rw [decide_eq_true_eq]; omega) (at_pack hj) k1 k2 (by rw [needD_f] at hw k3; rw [hw]; exact k3), w64_succ (by omega), mn2_eq]
        rfl) (s_share.l0_2 _ _ _ _ _ _ (by simp))
  have hi := sh_inv hM0 hl hr1 hh l.length (Nat.le_refl _)
  have hs := share_small hM (j := l.length) (by omega)
  have hn1 := hi.n1 hh.1
  have hlo := hi.lo
  have hhi := hi.hi
  simp only [show shAt l room dn 0 = ⟨room, room, 0⟩ from rfl] at this
  have k := s_half.c (shAt l room dn l.length).room (shAt l room dn l.length).n (fun _ => by rw [decide_eq_true_eq]; omega)
  have hhalf := half_s hr hi hn1 (k := 0) (by omega) (by omega)
  rw [Int.sub_zero] at hhalf
  rw [hhalf] at k
  have hb := share_bd hM0 hl hr1 hh
  refine (s_share.w1 l room dn (shAt l room dn l.length).room (shAt l room dn l.length).best (shAt l room dn l.length).n _ (by rw [decide_eq_true_eq]; omega) k (by simpa using this)).trans ?_
  rw [mn2_eq, mx2_eq]
  show some (vI (max (shareF l room dn) 0), _) = _
  rw [Int.max_eq_left hb.1]
def pieceOf (l : List Pack) (r : Rect) : Rect × Rect :=
  match l with
  | [] => (r, r)
  | p :: ps => cutF r p.side (needD p (down p) + if p.expand = true then shareF (p :: ps) (if down p = true then r.h else r.w) (down p) else 0)
def leftN (l : List Pack) (r : Rect) : Nat → Rect
  | 0 => r
  | j + 1 => (pieceOf (l.drop j) (leftN l r j)).2
def pieceN (l : List Pack) (r : Rect) (j : Nat) : Rect := (pieceOf (l.drop j) (leftN l r j)).1
def parcelsF (l : List Pack) (r : Rect) : List Rect := (List.range l.length).map (pieceN l r)
def packedF (l : List Pack) (r : Rect) : List Rect := (List.range l.length).map fun j => settledF (l[j]?.getD default) (pieceN l r j)
theorem InR.refl {r : Rect} (h : RB r) : InR r r := by have := h.w; have := h.h; unfold InR; omega
theorem RS.inside {a b : Rect} (h : RS a) (hi : InR a b) : RB b := h.b.inside hi h.x h.y
theorem head_ok {p : Pack} {ps : List Pack} (h : p.expand = true) : HeadOk (p :: ps) (down p) := ⟨by simp, h, rfl⟩
theorem cutn_nonneg {M : Int} (hM : 0 ≤ M) {p : Pack} {ps : List Pack} (hl : ∀ x ∈ p :: ps, PackOk M x) {r : Rect} (hr : RB r) :
    0 ≤ needD p (down p) + if p.expand = true then shareF (p :: ps) (if down p = true then r.h else r.w) (down p) else 0 := by
  have h1 := need_bd (hl p (by simp)) (down p)
  split
  · rename_i hx
    have h2 := share_bd hM hl (room := if down p = true then r.h else r.w) (by split; exact hr.h.1; exact hr.w.1) (head_ok hx)
    omega
  · omega
theorem piece_in {M : Int} (hM : 0 ≤ M) {l : List Pack} (hl : ∀ x ∈ l, PackOk M x) {r : Rect} (hr : RB r) : InR r (pieceOf l r).1 ∧ InR r (pieceOf l r).2 := by
  cases l with
  | nil => exact ⟨.refl hr, .refl hr⟩
  | cons p ps => exact cut_in hr _ (cutn_nonneg hM hl hr)
theorem left_in {M : Int} (hM : 0 ≤ M) {l : List Pack} (hl : ∀ x ∈ l, PackOk M x) {r : Rect} (hr : RS r) (j : Nat) : InR r (leftN l r j) := by
  induction j with
  | zero => exact .refl hr.b
  | succ j ih => exact ih.trans (piece_in hM (fun x hx => hl x (List.mem_of_mem_drop hx)) (hr.inside ih)).2
theorem pieceN_in {M : Int} (hM : 0 ≤ M) {l : List Pack} (hl : ∀ x ∈ l, PackOk M x) {r : Rect} (hr : RS r) (j : Nat) : InR r (pieceN l r j) :=
  (left_in hM hl hr j).trans (piece_in hM (fun x hx => hl x (List.mem_of_mem_drop hx)) (hr.inside (left_in hM hl hr j))).1
theorem piece_shift (dx dy : Int) (l : List Pack) (r : Rect) : pieceOf l (shift dx dy r) = (shift dx dy (pieceOf l r).1, shift dx dy (pieceOf l r).2) := by
  cases l with
  | nil => rfl
  | cons p ps => exact cut_shift dx dy r _ _
theorem left_shift (dx dy : Int) (l : List Pack) (r : Rect) (j : Nat) : leftN l (shift dx dy r) j = shift dx dy (leftN l r j) := by
  induction j with
  | zero => rfl
  | succ j ih => show (pieceOf _ (leftN l (shift dx dy r) j)).2 = _; rw [ih, piece_shift]; rfl
theorem packed_shift (dx dy : Int) (l : List Pack) (r : Rect) : packedF l (shift dx dy r) = (packedF l r).map (shift dx dy) := by
  unfold packedF
  rw [List.map_map]
  apply List.map_congr_left
  intro j _
  show settledF _ (pieceN l (shift dx dy r) j) = shift dx dy (settledF _ (pieceN l r j))
  unfold pieceN
  rw [left_shift, piece_shift, settled_shift]
theorem uni_rect (l : List Rect) : uni 4 (l.map encRect) = true := uni_map (f := encRect) (fun _ => rfl) _
theorem range_map_succ {β : Type} {f : Nat → Rect} {g : Rect → β} (j : Nat) : ((List.range j).map f).map g ++ [g (f j)] = ((List.range (j + 1)).map f).map g := by
  rw [List.range_succ, List.map_append, List.map_append]; rfl
theorem cut_tail {α β : Type} (f : α → β) (l : List α) (j : Nat) : cut ((j : Nat) : Int).toNat ((l.map f).length - ((j : Nat) : Int).toNat) (l.map f) = (l.drop j).map f := by
  unfold cut
  rw [Int.toNat_natCast, ← List.map_drop, List.take_of_length_le (by simp)]
theorem room_of {r : Rect} (hr : RB r) (dn : Bool) : Room (if dn = true then r.h else r.w) := by
  cases dn
  · exact hr.w
  · exact hr.h
theorem i_parcels.c {M : Int} (hM : Mid M) {l : List Pack} (hl : ∀ p ∈ l, PackOk M p) (hn : l.length ≤ 20) {w h : Int} (hr : RS ⟨0, 0, w, h⟩) :
    PC i_parcels [.one (.rsl (l.map encPack)), vI w, vI h] (.tup [.one (.sl ((parcelsF l ⟨0, 0, w, h⟩).map encRect)), .agg (encRect (leftN l ⟨0, 0, w, h⟩ l.length))], []) := by
  refine lift ?_
  have hM0 : 0 ≤ M := by have := hM.1; omega
  have hm2 := hM.2
  have := loop_exit (step := i_parcels.r0 CC lpW) (S := fun j => i_parcels.s0 (l.map encPack) (((List.range j).map (pieceN l ⟨0, 0, w, h⟩)).map encRect).length (l.map encPack) ((l.map encPack).length : Nat) (j : Nat) ⟨0, 0, 0, 0⟩ (leftN l ⟨0, 0, w, h⟩ j) (((List.range j).map (pieceN l ⟨0, 0, w, h⟩)).map encRect)) l.length (fun j hj => by
    have hp := hl _ (List.getElem_mem hj)
    have hin := left_in hM0 hl hr j
    have hb := hr.inside hin
    have hld : ∀ x ∈ l.drop j, PackOk M x := fun x hx => hl x (List.mem_of_mem_drop hx)
    have hnb := need_bd hp (down l[j])
    have e1 : leftN l ⟨0, 0, w, h⟩ (j + 1) = (pieceOf (l.drop j) (leftN l ⟨0, 0, w, h⟩ j)).2 := rfl
    have e2 := range_map_succ (f := pieceN l ⟨0, 0, w, h⟩) (g := encRect) j
    have e3 : pieceN l ⟨0, 0, w, h⟩ j = (pieceOf (l.drop j) (leftN l ⟨0, 0, w, h⟩ j)).1 := rfl
    rw [e1, ← e2, e3]
    have hd := drop_cons hj
    have hk5 : cut ((j : Nat) : Int).toNat ((l.map encPack).length - ((j : Nat) : Int).toNat) (l.map encPack) = (l[j] :: l.drop (j + 1)).map encPack := by rw [cut_tail, hd]
    rw [hd] at hld ⊢
    generalize leftN l ⟨0, 0, w, h⟩ j = r at hb ⊢
    have k1 := i_Pack_down.c l[j]
    rw [down_i] at k1
    have k2 := i_Pack_need.c l[j] (down l[j])
    rw [needD_i hM hp] at k2
    have hcn := cutn_nonneg hM0 hld hb
    cases hx : l[j].expand with
    | false =>
      rw [hx, if_neg (by decide), Int.add_zero] at hcn
      have k3 := i_Rect_cut.c r l[j].side (needD l[j] (down l[j]))
      rw [cut_i hb _ hcn] at k3
      have ep : pieceOf (l[j] :: l.drop (j + 1)) r = cutF r l[j].side (needD l[j] (down l[j])) := by
        show cutF _ _ _ = _
        rw [hx, if_neg (by decide), Int.add_zero]
      rw [ep]
      rw [i_parcels.l0_3 (call := CC) (lp := lpW) (l.map encPack) _ (l.map encPack) ((l.map encPack).length : Nat) (j : Nat) ⟨0, 0, 0, 0⟩ r _ _ _ _ _ _ (by simpa using hj) (by simp) hx (by simp) (uni_rect _) (by simp; omega) (at_pack hj) k1 k2 k3, w64_succ (by omega)]
    | true =>
      have hho : HeadOk (l[j] :: l.drop (j + 1)) (down l[j]) := head_ok hx
      have hro := room_of hb (down l[j])
      have hsb := share_bd hM0 hld hro.1 hho
      have k5 := i_expandShare.c hM hld (by simp; omega) hro hho
      have hn2 : 0 ≤ needD l[j] (down l[j]) + shareF (l[j] :: l.drop (j + 1)) (if down l[j] = true then r.h else r.w) (down l[j]) := by omega
      have k6 := i_Rect_cut.c r l[j].side (needD l[j] (down l[j]) + shareF (l[j] :: l.drop (j + 1)) (if down l[j] = true then r.h else r.w) (down l[j]))
      rw [cut_i hb _ hn2] at k6
      have hro2 := hro.2
      have ep : pieceOf (l[j] :: l.drop (j + 1)) r = cutF r l[j].side (needD l[j] (down l[j]) + shareF (l[j] :: l.drop (j + 1)) (if down l[j] = true then r.h else r.w) (down l[j])) := by
        show cutF _ _ _ = _
        rw [hx, if_pos rfl]
      rw [ep]
      rw [← w64_id (n := needD l[j] (down l[j]) + shareF (l[j] :: l.drop (j + 1)) (if down l[j] = true then r.h else r.w) (down l[j])) (by omega) (by omega)] at k6
      rw [← hk5] at k5
      cases hdn : down l[j] with
      | true =>
        rw [hdn] at k1 k2 k5 k6 hn2 hro2 hnb hsb
        rw [if_pos rfl] at k5 k6 hn2 hro2 hsb
        rw [if_pos rfl]
        rw [i_parcels.l0_1 (call := CC) (lp := lpW) (l.map encPack) _ (l.map encPack) ((l.map encPack).length : Nat) (j : Nat) ⟨0, 0, 0, 0⟩ r _ _ _ _ _ _ _ _ (by simpa using hj) (by simp) hx (by simp; omega) (by simp) (uni_map (f := encPack) (fun _ => rfl) _) (by simp) (uni_rect _) (by simp; omega) (at_pack hj) k1 k2 k1 k1 k5 k6, w64_succ (by omega), w64_id (by omega) (by omega)]
      | false =>
        rw [hdn] at k1 k2 k5 k6 hn2 hro2 hnb hsb
        rw [if_neg (by decide)] at k5 k6 hn2 hro2 hsb
        rw [if_neg (by decide)]
        rw [i_parcels.l0_4 (call := CC) (lp := lpW) (l.map encPack) _ (l.map encPack) ((l.map encPack).length : Nat) (j : Nat) ⟨0, 0, 0, 0⟩ r _ _ _ _ _ _ _ _ (by simpa using hj) (by simp) hx (by simp; omega) (by simp) (uni_map (f := encPack) (fun _ => rfl) _) (by simp) (uni_rect _) (by simp; omega) (at_pack hj) k1 k2 k1 k1 k5 k6, w64_succ (by omega), w64_id (by omega) (by omega)]) (i_parcels.l0_2 _ _ _ _ _ _ _ _ (by simp))
  simp only [show leftN l ⟨0, 0, w, h⟩ 0 = ⟨0, 0, w, h⟩ from rfl] at this
  exact i_parcels.w1 l w h ((parcelsF l ⟨0, 0, w, h⟩).map encRect).length ⟨0, 0, 0, 0⟩ _ _ (by simp) (by simpa [parcelsF] using this)
end Go.Proofs.Ytdgamfanffnhaaa.PI
namespace Go.Proofs.Ytdgamfanffnhaaa.PI
open Go
theorem s_parcels.c {M : Int} (hM : Mid M) {l : List Pack} (hl : ∀ p ∈ l, PackOk M p) (hn : l.length ≤ 20) {r0 : Rect} (hr : RS r0) :
    PC s_parcels [.one (.rsl (l.map encPack)), .agg (encRect r0)] (.tup [.one (.sl ((parcelsF l r0).map encRect)), .agg (encRect (leftN l r0 l.length))], []) := by
  refine lift ?_
  have hM0 : 0 ≤ M := by have := hM.1; omega
  have hm2 := hM.2
  have := loop_exit (step := s_parcels.r0 CC lpW) (S := fun j => s_parcels.s0 (l.map encPack) (((List.range j).map (pieceN l r0)).map encRect).length (j : Nat) (leftN l r0 j) ⟨0, 0, 0, 0⟩ (((List.range j).map (pieceN l r0)).map encRect)) l.length (fun j hj => by
    have hp := hl _ (List.getElem_mem hj)
    have hin := left_in hM0 hl hr j
    have hb := hr.inside hin
    have hld : ∀ x ∈ l.drop j, PackOk M x := fun x hx => hl x (List.mem_of_mem_drop hx)
    have hnb := need_bd hp (down l[j])
    have e1 : leftN l r0 (j + 1) = (pieceOf (l.drop j) (leftN l r0 j)).2 := rfl
    have e2 := range_map_succ (f := pieceN l r0) (g := encRect) j
    have e3 : pieceN l r0 j = (pieceOf (l.drop j) (leftN l r0 j)).1 := rfl
    rw [e1, ← e2, e3]
    have hd := drop_cons hj
    have hk5 : cut ((j : Nat) : Int).toNat ((l.map encPack).length - ((j : Nat) : Int).toNat) (l.map encPack) = (l[j] :: l.drop (j + 1)).map encPack := by rw [cut_tail, hd]
    rw [hd] at hld ⊢
    generalize leftN l r0 j = r at hb ⊢
    have k1 := s_outer.c l[j]
    rw [need_s hM hp] at k1
    have k2 := s_upright.c l[j].side
    rw [down_s] at k2
    have hcn := cutn_nonneg hM0 hld hb
    cases hx : l[j].expand with
    | false =>
      rw [hx, if_neg (by decide), Int.add_zero] at hcn
      have k3 := s_cut.c r l[j].side (needD l[j] (down l[j]))
      rw [cut_s hb _ hcn] at k3
      have ep : pieceOf (l[j] :: l.drop (j + 1)) r = cutF r l[j].side (needD l[j] (down l[j])) := by
        show cutF _ _ _ = _
        rw [hx, if_neg (by decide), Int.add_zero]
      rw [ep]
      cases hdn : down l[j] with
      | true =>
        rw [hdn] at k2 k3
        rw [s_parcels.l0_5 (call := CC) (lp := lpW) (l.map encPack) _ (j : Nat) r ⟨0, 0, 0, 0⟩ _ _ _ _ _ _ (by simpa using hj) (by simp) hx (by simp) (uni_rect _) (by simp; omega) (at_pack hj) k1 k2 k3, w64_succ (by omega)]
      | false =>
        rw [hdn] at k2 k3
        rw [s_parcels.l0_4 (call := CC) (lp := lpW) (l.map encPack) _ (j : Nat) r ⟨0, 0, 0, 0⟩ _ _ _ _ _ _ (by simpa using hj) (by simp) hx (by simp) (uni_rect _) (by simp; omega) (at_pack hj) k1 k2 k3, w64_succ (by omega)]
    | true =>
      have hho : HeadOk (l[j] :: l.drop (j + 1)) (down l[j]) := head_ok hx
      have hro := room_of hb (down l[j])
      have hsb := share_bd hM0 hld hro.1 hho
      have k5 := s_share.c hM hld (by simp; omega) hro hho
      have hn2 : 0 ≤ needD l[j] (down l[j]) + shareF (l[j] :: l.drop (j + 1)) (if down l[j] = true then r.h else r.w) (down l[j]) := by omega
      have k6 := s_cut.c r l[j].side (needD l[j] (down l[j]) + shareF (l[j] :: l.drop (j + 1)) (if down l[j] = true then r.h else r.w) (down l[j]))
      rw [cut_s hb _ hn2] at k6
      have hro2 := hro.2
      have ep : pieceOf (l[j] :: l.drop (j + 1)) r = cutF r l[j].side (needD l[j] (down l[j]) + shareF (l[j] :: l.drop (j + 1)) (if down l[j] = true then r.h else r.w) (down l[j])) := by
        show cutF _ _ _ = _
        rw [hx, if_pos rfl]
      rw [ep]
      rw [← w64_id (n := needD l[j] (down l[j]) + shareF (l[j] :: l.drop (j + 1)) (if down l[j] = true then r.h else r.w) (down l[j])) (by omega) (by omega)] at k6
      rw [← hk5] at k5
      cases hdn : down l[j] with
      | true =>
        rw [hdn] at k2 k5 k6 hn2 hro2 hnb hsb
        rw [if_pos rfl] at k5 k6 hn2 hro2 hsb
        rw [if_pos rfl]
        rw [s_parcels.l0_1 (call := CC) (lp := lpW) (l.map encPack) _ (j : Nat) r ⟨0, 0, 0, 0⟩ _ _ _ _ _ _ _ (by simpa using hj) (by simp) hx (by simp; omega) (by simp) (uni_map (f := encPack) (fun _ => rfl) _) (by simp) (uni_rect _) (by simp; omega) (at_pack hj) k1 k2 k5 k6, w64_succ (by omega), w64_id (by omega) (by omega)]
      | false =>
        rw [hdn] at k2 k5 k6 hn2 hro2 hnb hsb
        rw [if_neg (by decide)] at k5 k6 hn2 hro2 hsb
        rw [if_neg (by decide)]
        rw [s_parcels.l0_3 (call := CC) (lp := lpW) (l.map encPack) _ (j : Nat) r ⟨0, 0, 0, 0⟩ _ _ _ _ _ _ _ (by simpa using hj) (by simp) hx (by simp; omega) (by simp) (uni_map (f := encPack) (fun _ => rfl) _) (by simp) (uni_rect _) (by simp; omega) (at_pack hj) k1 k2 k5 k6, w64_succ (by omega), w64_id (by omega) (by omega)]) (s_parcels.l0_2 _ _ _ _ _ _ (by simp))
  simp only [show leftN l r0 0 = r0 from rfl] at this
  exact s_parcels.w1 l r0 ((parcelsF l r0).map encRect).length _ ⟨0, 0, 0, 0⟩ _ (by simp) (by simpa [parcelsF] using this)
theorem len_parcels (l : List Pack) (r : Rect) : (parcelsF l r).length = l.length := by simp [parcelsF]
theorem len_packed (l : List Pack) (r : Rect) : (packedF l r).length = l.length := by simp [packedF]
theorem parcels_at {l : List Pack} {r : Rect} {j : Nat} (h : j < (parcelsF l r).length) : (parcelsF l r)[j] = pieceN l r j := by simp [parcelsF]
theorem packed_at {l : List Pack} {r : Rect} {j : Nat} (h : j < l.length) : (packedF l r)[j]'(by rw [len_packed]; exact h) = settledF l[j] (pieceN l r j) := by simp [packedF, h]
theorem piece_rs {M : Int} (hM : 0 ≤ M) {l : List Pack} (hl : ∀ x ∈ l, PackOk M x) {r : Rect} (hr : RS r) (hx : -8000000000000000 ≤ r.x ∧ r.x ≤ 8000000000000000) (hy : -8000000000000000 ≤ r.y ∧ r.y ≤ 8000000000000000) (j : Nat) : RS (pieceN l r j) := by
  have hi := pieceN_in hM hl hr j
  have hb := hr.inside hi
  have hw := hr.b.w
  have hh := hr.b.h
  unfold InR at hi
  exact ⟨hb, by omega, by omega⟩
theorem mix_at (l : List Pack) (r : Rect) {j : Nat} (hj : j < l.length) : ((packedF l r).take j ++ (parcelsF l r).drop j)[j]? = some (pieceN l r j) ∧ ((packedF l r).take j ++ (parcelsF l r).drop j).set j (settledF l[j] (pieceN l r j)) = (packedF l r).take (j + 1) ++ (parcelsF l r).drop (j + 1) ∧ ((packedF l r).take j ++ (parcelsF l r).drop j).length = l.length := by
  have h1 : ((packedF l r).take j).length = j := by rw [List.length_take, len_packed]; omega
  have h2 : j < (parcelsF l r).length := by rw [len_parcels]; exact hj
  have h3 : j < (packedF l r).length := by rw [len_packed]; exact hj
  rw [drop_cons h2, parcels_at h2]
  refine ⟨?_, ?_, ?_⟩
  · rw [List.getElem?_append_right (by omega), h1, Nat.sub_self]; rfl
  · rw [List.set_append, if_neg (by omega), h1, Nat.sub_self, List.set_cons_zero, List.take_add_one, List.getElem?_eq_getElem h3, packed_at hj, List.append_assoc]; rfl
  · rw [List.length_append, h1, List.length_cons, List.length_drop, len_parcels]; omega
theorem at_rect? {l : List Rect} {j : Nat} {x : Rect} (h : l[j]? = some x) : (l.map encRect)[((j : Nat) : Int).toNat]? = some (encRect x) := by rw [Int.toNat_natCast, List.getElem?_map, h]; rfl
theorem set_rect (l : List Rect) (k : Nat) (x : Rect) : (l.map encRect).set k (encRect x) = (l.set k x).map encRect := by rw [List.map_set]
theorem s_packed.c {M : Int} (hM : Mid M) {l : List Pack} (hl : ∀ p ∈ l, PackOk M p) (hn : l.length ≤ 20) {r : Rect} (hr : RS r) (hx : -8000000000000000 ≤ r.x ∧ r.x ≤ 8000000000000000) (hy : -8000000000000000 ≤ r.y ∧ r.y ≤ 8000000000000000) :
    PC s_packed [.one (.rsl (l.map encPack)), .agg (encRect r)] (.one (.sl ((packedF l r).map encRect)), []) := by
  refine lift ?_
  have hM0 : 0 ≤ M := by have := hM.1; omega
  have := loop_exit (step := s_packed.r0 CC lpW) (S := fun j => s_packed.s0 (l.map encPack) l.length (j : Nat) (((packedF l r).take j ++ (parcelsF l r).drop j).map encRect)) l.length (fun j hj => by
    obtain ⟨m1, m2, m3⟩ := mix_at l r hj
    have hp := hl _ (List.getElem_mem hj)
    have hrs := piece_rs hM0 hl hr hx hy j
    have k := s_settled.c l[j] (pieceN l r j)
    rw [settled_s hp hrs] at k
    rw [s_packed.l0_1 (call := CC) (lp := lpW) (l.map encPack) l.length (j : Nat) _ _ _ _ (by simpa using hj) (by simp) (by rw [List.length_map, m3, decide_eq_true_eq]) (by simp) (at_pack hj) (at_rect? m1) k, w64_succ (by omega), Int.toNat_natCast, set_rect, m2]) (s_packed.l0_2 _ _ _ _ (by simp))
  have e1 : (packedF l r).take l.length = packedF l r := by have := List.take_length (l := packedF l r); rwa [len_packed] at this
  have e2 : (parcelsF l r).drop l.length = [] := by have := List.drop_length (l := parcelsF l r); rwa [len_parcels] at this
  simp only [e1, e2, List.append_nil] at this
  exact s_packed.w1 l r _ _ ((packedF l r).map encRect).length _ (by simp) (s_parcels.c hM hl hn hr) (by simpa [len_parcels, len_packed] using this)
theorem i_packRects.c {M : Int} (hM : Mid M) {l : List Pack} (hl : ∀ p ∈ l, PackOk M p) (hn : l.length ≤ 20) {w h : Int} (hr : RS ⟨0, 0, w, h⟩) :
    PC i_packRects [.one (.rsl (l.map encPack)), vI w, vI h] (.one (.sl ((packedF l ⟨0, 0, w, h⟩).map encRect)), []) := by
  refine lift ?_
  have hM0 : 0 ≤ M := by have := hM.1; omega
  have := loop_exit (step := i_packRects.r0 CC lpW) (S := fun j => i_packRects.s0 l.length (l.map encPack) ((l.map encPack).length : Nat) (j : Nat) (((packedF l ⟨0, 0, w, h⟩).take j ++ (parcelsF l ⟨0, 0, w, h⟩).drop j).map encRect)) l.length (fun j hj => by
    obtain ⟨m1, m2, m3⟩ := mix_at l ⟨0, 0, w, h⟩ hj
    have hp := hl _ (List.getElem_mem hj)
    have hrs := piece_rs hM0 hl hr (by simp) (by simp) j
    rw [← m2]
    generalize pieceN l ⟨0, 0, w, h⟩ j = q at m1 hrs ⊢
    have k1 := i_Rect_inset.c q l[j].padX l[j].padY
    rw [inset_i hrs.b hp.px hp.py] at k1
    have hib := hrs.inside (inset_in hrs.b hp.px.1 hp.py.1)
    have k2 := fun a b (ha : 0 ≤ a) (hb : 0 ≤ b) => (i_Rect_anchored.c (insetF q l[j].padX l[j].padY) a b l[j].anchor).trans (by rw [anchored_i hib ha hb hp.anchor])
    have w0 := hp.w.1
    have h0 := hp.h.1
    have a0 := hib.w.1
    have b0 := hib.h.1
    unfold settledF
    have g1 : decide ((((j : Nat) : Int)) < (((l.map encPack).length : Nat) : Int)) = true := by simpa using hj
    have g2 : decide ((((packedF l ⟨0, 0, w, h⟩).take j ++ (parcelsF l ⟨0, 0, w, h⟩).drop j).map encRect).length = l.length) = true := by rw [List.length_map, m3, decide_eq_true_eq]
    cases hx : l[j].fillX with
    | true =>
      cases hy : l[j].fillY with
      | true =>
        rw [if_pos rfl, if_pos rfl]
        rw [i_packRects.l0_1 (call := CC) (lp := lpW) l.length (l.map encPack) ((l.map encPack).length : Nat) (j : Nat) _ _ _ _ _ g1 (by simp) g2 (by simpa using hj) (by simp) hx hy (at_pack hj) (at_rect? m1) k1 (k2 _ _ a0 b0), w64_succ (by omega), Int.toNat_natCast, set_rect]
      | false =>
        rw [if_pos rfl, if_neg (by decide)]
        rw [i_packRects.l0_5 (call := CC) (lp := lpW) l.length (l.map encPack) ((l.map encPack).length : Nat) (j : Nat) _ _ _ _ _ g1 (by simp) g2 (by simpa using hj) (by simp) hx hy (at_pack hj) (at_rect? m1) k1 (k2 _ _ a0 h0), w64_succ (by omega), Int.toNat_natCast, set_rect]
    | false =>
      cases hy : l[j].fillY with
      | true =>
        rw [if_neg (by decide), if_pos rfl]
        rw [i_packRects.l0_3 (call := CC) (lp := lpW) l.length (l.map encPack) ((l.map encPack).length : Nat) (j : Nat) _ _ _ _ _ g1 (by simp) g2 (by simpa using hj) (by simp) hx hy (at_pack hj) (at_rect? m1) k1 (k2 _ _ w0 b0), w64_succ (by omega), Int.toNat_natCast, set_rect]
      | false =>
        rw [if_neg (by decide), if_neg (by decide)]
        rw [i_packRects.l0_4 (call := CC) (lp := lpW) l.length (l.map encPack) ((l.map encPack).length : Nat) (j : Nat) _ _ _ _ _ g1 (by simp) g2 (by simpa using hj) (by simp) hx hy (at_pack hj) (at_rect? m1) k1 (k2 _ _ w0 h0), w64_succ (by omega), Int.toNat_natCast, set_rect]) (i_packRects.l0_2 _ _ _ _ _ (by simp))
  have e1 : (packedF l ⟨0, 0, w, h⟩).take l.length = packedF l ⟨0, 0, w, h⟩ := by have := List.take_length (l := packedF l ⟨0, 0, w, h⟩); rwa [len_packed] at this
  have e2 : (parcelsF l ⟨0, 0, w, h⟩).drop l.length = [] := by have := List.drop_length (l := parcelsF l ⟨0, 0, w, h⟩); rwa [len_parcels] at this
  simp only [e1, e2, List.append_nil] at this
  exact i_packRects.w1 l w h _ _ ((packedF l ⟨0, 0, w, h⟩).map encRect).length _ (by simp) (i_parcels.c hM hl hn hr) (by simpa [len_parcels, len_packed] using this)
end Go.Proofs.Ytdgamfanffnhaaa.PI
namespace Go.Proofs.Ytdgamfanffnhaaa.PI
open Go
def minAt (lines : List Line) (j : Nat) : Int := ((lines[j]?).map fun l => l.min).getD 0
def nowF (lines : List Line) (out : List Int) : List Int := List.zipWith (fun (o : Int) (l : Line) => if l.min < o then l.weight else 0) out lines
def lessAt (lines : List Line) (parts : List Int) (j : Nat) (s : List Int × Int) : List Int × Int :=
  (s.1.set j (s.1.getD j 0 - min (parts.getD j 0) (s.1.getD j 0 - minAt lines j)), s.2 - min (parts.getD j 0) (s.1.getD j 0 - minAt lines j))
def lessTo (lines : List Line) (parts out : List Int) (n : Int) (j : Nat) : List Int × Int := Itr (lessAt lines parts) (out, n) j
def lessAll (lines : List Line) (out : List Int) (n : Int) : List Int × Int := lessTo lines (spreadF n (nowF lines out)) out n lines.length
def shrinkN (lines : List Line) : Nat → List Int → Int → List Int
  | 0, out, _ => out
  | f + 1, out, n => if 0 < n ∧ (nowF lines out).sum ≠ 0 then shrinkN lines f (lessAll lines out n).1 (lessAll lines out n).2 else out
def shrinkF (lines : List Line) (out : List Int) (n : Int) : List Int := shrinkN lines n.toNat out n
def sizedF (lines : List Line) (wishes : List Int) (room : Int) : List Int :=
  if room < wishes.sum then shrinkF lines wishes (wishes.sum - room)
  else if (wts lines).sum = 0 then wishes
  else addAll 0 (spreadF (room - wishes.sum) (wts lines)) wishes
theorem minAt_eq {lines : List Line} {j : Nat} (h : j < lines.length) : minAt lines j = lines[j].min := by unfold minAt; rw [List.getElem?_eq_getElem h]; rfl
def MinOk (lines : List Line) (out : List Int) : Prop := ∀ j, j < lines.length → minAt lines j ≤ out.getD j 0
theorem now_len {lines : List Line} {out : List Int} (h : out.length = lines.length) : (nowF lines out).length = lines.length := by unfold nowF; rw [List.length_zipWith, h, Nat.min_self]
theorem now_at {lines : List Line} {out : List Int} {j : Nat} (h1 : j < out.length) (h2 : j < lines.length) (h3 : j < (nowF lines out).length) : (nowF lines out)[j] = if lines[j].min < out[j] then lines[j].weight else 0 := by simp [nowF]
theorem now_wt {lines : List Line} (hl : LinesOk lines) {out : List Int} (h : out.length = lines.length) : Wt (nowF lines out) := by
  refine ⟨fun x hx => ?_, by rw [now_len h]; exact hl.2.1, by rw [now_len h]; exact hl.2.2⟩
  obtain ⟨j, hj, rfl⟩ := List.mem_iff_getElem.1 hx
  have hj2 : j < lines.length := by rwa [now_len h] at hj
  rw [now_at (by omega) hj2]
  have := (hl.1 _ (List.getElem_mem hj2)).1
  split <;> omega
theorem bumped_zero {n : Int} {ws : List Int} {k : Nat} (hk : k < ws.length) (h0 : ws[k] = 0) (j : Nat) : (bumped n ws j).1.getD k 0 = 0 := by
  induction j with
  | zero =>
    show (quotF n ws).getD k 0 = 0
    rw [getD_at (by rw [quot_len]; exact hk)]
    unfold quotF
    rw [List.getElem_map, h0, Int.mul_zero, Int.zero_ediv]
  | succ j ih =>
    rw [bump_step]
    by_cases hc : ws.getD j 0 ≠ 0 ∧ 0 < (bumped n ws j).2
    · rw [if_pos hc]
      simp only
      by_cases hj : j < ws.length
      · rw [getD_set (by rw [bumped_len]; exact hj)]
        by_cases hkj : k = j
        · subst hkj; rw [getD_at hk] at hc; exact absurd h0 hc.1
        · rw [if_neg hkj, ih]
      · rw [getD_out (by omega)] at hc; exact absurd rfl hc.1
    · rw [if_neg hc, ih]
theorem part_pos {n : Int} {ws : List Int} (hs : ws.sum ≠ 0) {k : Nat} (hk : k < ws.length) (h : (spreadF n ws).getD k 0 ≠ 0) : ws[k] ≠ 0 := by
  intro h0
  apply h
  unfold spreadF
  rw [if_neg hs]
  exact bumped_zero hk h0 _
theorem sum_pos {l : List Int} (h : 0 < l.sum) : ∃ k, k < l.length ∧ 0 < l.getD k 0 := by
  induction l with
  | nil => simp at h
  | cons a l ih =>
    by_cases ha : 0 < a
    · exact ⟨0, by simp, by simpa using ha⟩
    · rw [List.sum_cons] at h
      obtain ⟨k, hk, hp⟩ := ih (by omega)
      exact ⟨k + 1, by simpa using hk, by simpa using hp⟩
theorem less_step (lines : List Line) (parts out : List Int) (n : Int) (j : Nat) : lessTo lines parts out n (j + 1) = lessAt lines parts j (lessTo lines parts out n j) := rfl
theorem less_len (lines : List Line) (parts out : List Int) (n : Int) (j : Nat) : (lessTo lines parts out n j).1.length = out.length := by
  induction j with
  | zero => rfl
  | succ j ih => rw [less_step]; show (List.set _ _ _).length = _; rw [List.length_set, ih]
def kF (lines : List Line) (parts out : List Int) (j : Nat) : Int := min (parts.getD j 0) (out.getD j 0 - minAt lines j)
theorem less_get (lines : List Line) (parts out : List Int) (n : Int) (j : Nat) (hj : j ≤ out.length) (k : Nat) : (lessTo lines parts out n j).1.getD k 0 = if k < j then out.getD k 0 - kF lines parts out k else out.getD k 0 := by
  induction j with
  | zero => rw [if_neg (by omega)]; rfl
  | succ j ih =>
    have ih := ih (by omega)
    rw [less_step]
    show (List.set (lessTo lines parts out n j).1 j _).getD k 0 = _
    rw [getD_set (by rw [less_len]; omega)]
    by_cases hk : k = j
    · subst hk
      rw [if_neg (Nat.lt_irrefl _)] at ih
      rw [if_pos rfl, if_pos (by omega), ih]; rfl
    · rw [if_neg hk, ih]
      by_cases hc : k < j
      · rw [if_pos hc, if_pos (by omega)]
      · rw [if_neg hc, if_neg (by omega)]
theorem less_succ (lines : List Line) (parts out : List Int) (n : Int) (j : Nat) (hj : j < out.length) : lessTo lines parts out n (j + 1) = ((lessTo lines parts out n j).1.set j (out.getD j 0 - kF lines parts out j), (lessTo lines parts out n j).2 - kF lines parts out j) := by
  have := less_get lines parts out n j (by omega) j
  rw [if_neg (Nat.lt_irrefl _)] at this
  rw [less_step]
  unfold lessAt kF
  rw [this]
theorem k_bd {lines : List Line} {parts out : List Int} (hp : ∀ x ∈ parts, 0 ≤ x) (hm : MinOk lines out) {j : Nat} (hj : j < lines.length) : 0 ≤ kF lines parts out j ∧ kF lines parts out j ≤ parts.getD j 0 := by
  have h1 : 0 ≤ parts.getD j 0 := by
    by_cases h : j < parts.length
    · rw [getD_at h]; exact hp _ (List.getElem_mem h)
    · rw [getD_out (by omega)]; omega
  have h2 := hm j hj
  unfold kF
  omega
theorem less_left {lines : List Line} {parts out : List Int} {n : Int} (hp : ∀ x ∈ parts, 0 ≤ x) (hm : MinOk lines out) (ho : out.length = lines.length) (j : Nat) (hj : j ≤ lines.length) :
    n - (parts.take j).sum ≤ (lessTo lines parts out n j).2 ∧ (lessTo lines parts out n j).2 ≤ n ∧ (lessTo lines parts out n j).1.sum = out.sum - (n - (lessTo lines parts out n j).2) := by
  induction j with
  | zero =>
    refine ⟨?_, ?_, ?_⟩
    · show n - (parts.take 0).sum ≤ n; simp
    · exact Int.le_refl _
    · show out.sum = out.sum - (n - n); omega
  | succ j ih =>
    obtain ⟨h1, h2, h3⟩ := ih (by omega)
    have hk := k_bd hp hm (j := j) (by omega)
    have hg := less_get lines parts out n j (by omega) j
    rw [if_neg (Nat.lt_irrefl _)] at hg
    have hlen := less_len lines parts out n j
    have hs : (parts.take (j + 1)).sum = (parts.take j).sum + parts.getD j 0 := by
      by_cases hl : j < parts.length
      · rw [List.take_add_one, List.getElem?_eq_getElem hl, List.sum_append, getD_at hl]; simp
      · rw [getD_out (by omega), List.take_of_length_le (by omega), List.take_of_length_le (by omega)]; omega
    rw [less_succ _ _ _ _ _ (by omega)]
    refine ⟨by simp only; omega, by simp only; omega, ?_⟩
    simp only
    rw [sum_set (by omega), ← getD_at (by omega), hg]
    omega
theorem less_min {lines : List Line} {parts out : List Int} {n : Int} (hm : MinOk lines out) (ho : out.length = lines.length) (j : Nat) (hj : j ≤ lines.length) : MinOk lines (lessTo lines parts out n j).1 := by
  intro k hk
  rw [less_get _ _ _ _ _ (by omega)]
  have := hm k hk
  split
  · unfold kF; omega
  · exact this
theorem less_bd {M : Int} {lines : List Line} (hl : LinesOk lines) {parts out : List Int} {n : Int} (hp : ∀ x ∈ parts, 0 ≤ x) (hm : MinOk lines out) (ho : OutOk M lines.length out) (j : Nat) (hj : j ≤ lines.length) : OutOk M lines.length (lessTo lines parts out n j).1 := by
  refine ⟨by rw [less_len]; exact ho.1, fun x hx => ?_⟩
  obtain ⟨k, hk, rfl⟩ := mem_getD hx
  rw [less_len, ho.1] at hk
  have hmin := less_min (parts := parts) (n := n) hm ho.1 j hj k hk
  have h0 : 0 ≤ minAt lines k := by rw [minAt_eq hk]; exact (hl.1 _ (List.getElem_mem hk)).2.1
  have hb := ho.2.at (j := k) (by rw [ho.1]; exact hk)
  rw [← getD_at] at hb
  rw [less_get _ _ _ _ _ (by rw [ho.1]; exact hj)] at hmin ⊢
  have hkb := k_bd hp hm hk
  split
  · rename_i hc; rw [if_pos hc] at hmin; omega
  · exact hb
theorem lessAll_facts {M : Int} {lines : List Line} (hl : LinesOk lines) {out : List Int} {n : Int} (hm : MinOk lines out) (ho : OutOk M lines.length out) (hn : 0 < n) (hs : (nowF lines out).sum ≠ 0) :
    OutOk M lines.length (lessAll lines out n).1 ∧ MinOk lines (lessAll lines out n).1 ∧ (lessAll lines out n).1.sum ≤ out.sum ∧ 0 ≤ (lessAll lines out n).2 ∧ (lessAll lines out n).2 < n := by
  have hw := now_wt hl ho.1
  have hp := spread_nonneg (n := n) (ws := nowF lines out) (by omega) hw.pos
  have hsum := spread_sum (n := n) (ws := nowF lines out) (by omega) hw.pos hw.2.1
  have hlen : (spreadF n (nowF lines out)).length = lines.length := by rw [spread_len, now_len ho.1]
  obtain ⟨h1, h2, h3⟩ := less_left (n := n) hp hm ho.1 lines.length (Nat.le_refl _)
  have ht : (spreadF n (nowF lines out)).take lines.length = spreadF n (nowF lines out) := by rw [← hlen, List.take_length]
  rw [ht, hsum] at h1
  refine ⟨less_bd hl hp hm ho _ (Nat.le_refl _), less_min hm ho.1 _ (Nat.le_refl _), ?_, ?_, ?_⟩
  · unfold lessAll; omega
  · unfold lessAll; omega
  · obtain ⟨k, hk, hpos⟩ := sum_pos (l := spreadF n (nowF lines out)) (by omega)
    rw [hlen] at hk
    have hk2 : k < (nowF lines out).length := by rw [now_len ho.1]; exact hk
    have hnz := part_pos (n := n) hs hk2 (by omega)
    rw [now_at (by rw [ho.1]; exact hk) hk] at hnz
    have hgt : lines[k].min < out[k]'(by rw [ho.1]; exact hk) := by
      apply Classical.byContradiction
      intro c; rw [if_neg c] at hnz; exact hnz rfl
    rw [← minAt_eq hk, ← getD_at] at hgt
    have hkpos : 1 ≤ kF lines (spreadF n (nowF lines out)) out k := by unfold kF; omega
    have mono : ∀ d j, j + d ≤ lines.length → (lessTo lines (spreadF n (nowF lines out)) out n (j + d)).2 ≤ (lessTo lines (spreadF n (nowF lines out)) out n j).2 := by
      intro d
      induction d with
      | zero => intro j _; exact Int.le_refl _
      | succ d ih =>
        intro j hj
        have := ih j (by omega)
        have hkk := k_bd hp hm (j := j + d) (by omega)
        rw [← Nat.add_assoc, less_succ _ _ _ _ _ (by rw [ho.1]; omega)]
        simp only; omega
    have a := mono (lines.length - (k + 1)) (k + 1) (by omega)
    rw [show k + 1 + (lines.length - (k + 1)) = lines.length by omega] at a
    have b := (less_left (n := n) hp hm ho.1 k (by omega)).2.1
    rw [less_succ _ _ _ _ _ (by rw [ho.1]; exact hk)] at a
    simp only at a
    unfold lessAll
    omega
theorem shrinkN_ok {M : Int} {lines : List Line} (hl : LinesOk lines) : ∀ (f : Nat) {out : List Int} {n : Int}, MinOk lines out → OutOk M lines.length out → OutOk M lines.length (shrinkN lines f out n) ∧ MinOk lines (shrinkN lines f out n) ∧ (shrinkN lines f out n).sum ≤ out.sum
  | 0, out, n, hm, ho => ⟨ho, hm, Int.le_refl _⟩
  | f + 1, out, n, hm, ho => by
    unfold shrinkN
    split
    · rename_i hc
      obtain ⟨h1, h2, h3, _, _⟩ := lessAll_facts hl hm ho hc.1 hc.2
      obtain ⟨a, b, c⟩ := shrinkN_ok hl f (n := (lessAll lines out n).2) h2 h1
      exact ⟨a, b, Int.le_trans c h3⟩
    · exact ⟨ho, hm, Int.le_refl _⟩
theorem addAll_get {a : Nat} {parts out : List Int} (h : a + parts.length ≤ out.length) (k : Nat) : (addAll a parts out).getD k 0 = if a ≤ k ∧ k < a + parts.length then out.getD k 0 + parts.getD (k - a) 0 else out.getD k 0 := Itr_get _ h k
theorem addAll_sum {a : Nat} {parts out : List Int} (h : a + parts.length ≤ out.length) : (addAll a parts out).sum = out.sum + parts.sum := by
  have key : ∀ j, j ≤ parts.length → (Itr (addAt a parts) out j).sum = out.sum + (parts.take j).sum := by
    intro j
    induction j with
    | zero => intro _; show out.sum = _; simp
    | succ j ih =>
      intro hj
      have e : (parts.take (j + 1)).sum = (parts.take j).sum + parts.getD j 0 := by
        rw [List.take_add_one, List.getElem?_eq_getElem (by omega), List.sum_append, getD_at (by omega)]; simp
      show (addAt a parts j _).sum = _
      rw [addAt_eq, sum_set (by rw [Itr_len]; omega), ih (by omega), ← getD_at, e]
      omega
  have := key parts.length (Nat.le_refl _)
  rw [List.take_length] at this
  exact this
theorem getD_ext {l m : List Int} (hl : l.length = m.length) (h : ∀ k, l.getD k 0 = m.getD k 0) : l = m := by
  apply List.ext_getElem hl
  intro k h1 h2
  have := h k
  rwa [getD_at h1, getD_at h2] at this
theorem addAll_zero {a : Nat} {parts out : List Int} (h : a + parts.length ≤ out.length) (hz : ∀ x ∈ parts, x = 0) : addAll a parts out = out := by
  apply getD_ext addAll_len
  intro k
  rw [addAll_get h]
  split
  · rename_i hc
    rw [getD_at (l := parts) (by omega), hz _ (List.getElem_mem _)]; omega
  · rfl
theorem wish_min {M : Int} {lines : List Line} (hl : LinesOk lines) {spans : List Span} (hM : 30 ≤ M) (hs : ∀ s ∈ spans, SpanOk M lines.length s) : MinOk lines (wishF lines spans) := by
  have hstep : ∀ {out : List Int} {s : Span} (many : Int), SpanOk M lines.length s → OutOk M lines.length out → MinOk lines out → MinOk lines (spanStep lines many out s) := by
    intro out s many hss ho hm j hj
    unfold spanStep
    split
    · rename_i hc
      obtain ⟨p1, p2, _⟩ := parts_facts hl hss hc.2
      obtain ⟨h1, h2, h3, h4, h5⟩ := hss
      have hol := ho.1
      rw [addAll_get (by rw [p1]; omega)]
      have := hm j hj
      split
      · have := p2.getD (by omega) (j - s.at_.toNat); omega
      · exact this
    · exact hm j hj
  have hround : ∀ (many : Int) (sp : List Span), (∀ s ∈ sp, SpanOk M lines.length s) → ∀ {out : List Int}, OutOk M lines.length out → MinOk lines out → MinOk lines (sp.foldl (spanStep lines many) out) := by
    intro many sp
    induction sp with
    | nil => exact fun _ _ _ hm => hm
    | cons s sp ih => exact fun hh out ho hm => ih (fun x hx => hh x (by simp [hx])) (step_ok hl ho (hh s (by simp)) many) (hstep many (hh s (by simp)) ho hm)
  have key : ∀ j, MinOk lines (wishAt lines spans j) := by
    intro j
    induction j with
    | zero =>
      intro k hk
      show minAt lines k ≤ (lines.map fun l => l.min).getD k 0
      rw [minAt_eq hk, getD_at (by simpa using hk)]; simp
    | succ j ih => exact hround _ _ hs (wishAt_ok hl hM hs j) ih
  exact key _
theorem sized_ok {M : Int} {lines : List Line} (hl : LinesOk lines) {wishes : List Int} (hm : MinOk lines wishes) (ho : OutOk M lines.length wishes) {room : Int} : (sizedF lines wishes room).length = lines.length ∧ (∀ x ∈ sizedF lines wishes room, 0 ≤ x) ∧ (sizedF lines wishes room).sum ≤ max room wishes.sum := by
  unfold sizedF
  split
  · obtain ⟨a, b, c⟩ := shrinkN_ok hl (wishes.sum - room).toNat (n := wishes.sum - room) hm ho
    exact ⟨a.1, fun x hx => (a.2 x hx).1, by unfold shrinkF; omega⟩
  · rename_i hr
    split
    · exact ⟨ho.1, fun x hx => (ho.2 x hx).1, by omega⟩
    · rename_i hz
      have hw := wtsAll_ok hl
      have hlen : (spreadF (room - wishes.sum) (wts lines)).length = lines.length := by rw [spread_len]; simp [wts]
      have hle : 0 + (spreadF (room - wishes.sum) (wts lines)).length ≤ wishes.length := by rw [hlen, ho.1]; omega
      refine ⟨by rw [addAll_len]; exact ho.1, fun x hx => ?_, ?_⟩
      · obtain ⟨k, hk, rfl⟩ := mem_getD hx
        rw [addAll_len] at hk
        rw [addAll_get hle]
        have h1 := ho.2.at hk
        rw [← getD_at] at h1
        split
        · rename_i hc
          have := (spread_bd (n := room - wishes.sum) (by omega) hw.pos hw.2.1).getD (by omega) (k - 0)
          omega
        · omega
      · rw [addAll_sum hle, spread_sum (by omega) hw.pos hw.2.1]; omega
end Go.Proofs.Ytdgamfanffnhaaa.PI
namespace Go.Proofs.Ytdgamfanffnhaaa.PI
open Go
theorem fill_same {z : Int} {l : List Int} {j : Nat} (hj : j < l.length) (h : l[j] = z) : fillF z l (j + 1) = fillF z l j := by
  rw [← fill_set z l hj, h]
  have hl := fill_len z l (j := j) (by omega)
  have : (fillF z l j)[j]'(by omega) = z := by
    unfold fillF
    rw [List.getElem_append_right (by rw [List.length_take]; omega), List.getElem_replicate]
  apply List.ext_getElem (by simp)
  intro k h1 h2
  rw [List.getElem_set]
  split
  · rename_i hk; subst hk; exact this.symm
  · rfl
theorem at_line {lines : List Line} {j : Nat} (h : j < lines.length) : (lines.map encLine)[((j : Nat) : Int).toNat]? = some (encLine lines[j]) := at_map h
theorem now_zero {lines : List Line} {out : List Int} {j : Nat} (h1 : j < out.length) (h2 : j < lines.length) (hc : ¬ lines[j].min < out[j]) : ∃ h3 : j < (nowF lines out).length, (nowF lines out)[j] = 0 := by
  have h3 : j < (nowF lines out).length := by unfold nowF; rw [List.length_zipWith]; omega
  exact ⟨h3, by rw [now_at h1 h2, if_neg hc]⟩
theorem now_some {lines : List Line} {out : List Int} {j : Nat} (h1 : j < out.length) (h2 : j < lines.length) (hc : lines[j].min < out[j]) : ∃ h3 : j < (nowF lines out).length, (nowF lines out)[j] = lines[j].weight := by
  have h3 : j < (nowF lines out).length := by unfold nowF; rw [List.length_zipWith]; omega
  exact ⟨h3, by rw [now_at h1 h2, if_pos hc]⟩
theorem less_w {M : Int} {lines : List Line} (hl : LinesOk lines) (hM : M ≤ 100000000000000000) {parts out : List Int} {n : Int} (hp : Bd n parts) (hn : 0 ≤ n ∧ n ≤ 100000000000000000) (hsum : parts.sum = n) (hlen : parts.length = lines.length) (hm : MinOk lines out) (ho : OutOk M lines.length out) {j : Nat} (hj : j < lines.length) :
    ∃ (h1 : j < (lessTo lines parts out n j).1.length) (h2 : j < parts.length),
      (lessTo lines parts out n j).1[j] = out.getD j 0 ∧
      w64 (out.getD j 0 - lines[j].min) = out.getD j 0 - minAt lines j ∧
      mn2 parts[j] (out.getD j 0 - minAt lines j) = kF lines parts out j ∧
      w64 (out.getD j 0 - kF lines parts out j) = out.getD j 0 - kF lines parts out j ∧
      w64 ((lessTo lines parts out n j).2 - kF lines parts out j) = (lessTo lines parts out n j).2 - kF lines parts out j := by
  have hol := ho.1
  have h1 : j < (lessTo lines parts out n j).1.length := by rw [less_len]; omega
  have h2 : j < parts.length := by omega
  have hpos : ∀ x ∈ parts, 0 ≤ x := fun x hx => (hp x hx).1
  have hk := k_bd hpos hm hj
  have hpj := hp.at h2
  rw [getD_at h2] at hk
  have hmin := (hl.1 _ (List.getElem_mem hj)).2
  have hb := ho.2.at (j := j) (by omega)
  rw [← getD_at] at hb
  obtain ⟨l1, l2, _⟩ := less_left (n := n) hpos hm ho.1 j (by omega)
  have hts : (parts.take j).sum ≤ parts.sum := by
    have e : parts.sum = (parts.take j).sum + (parts.drop j).sum := by rw [← List.sum_append, List.take_append_drop]
    have := sum_bd (M := n) (l := parts.drop j) fun x hx => hp x (List.mem_of_mem_drop hx)
    omega
  refine ⟨h1, h2, ?_, ?_, ?_, ?_, ?_⟩
  · rw [← getD_at, less_get _ _ _ _ _ (by omega), if_neg (Nat.lt_irrefl _)]
  · rw [minAt_eq hj]; exact w64_id (by omega) (by omega)
  · rw [mn2_eq]; unfold kF; rw [getD_at h2]
  · exact w64_id (by omega) (by omega)
  · exact w64_id (by omega) (by omega)
theorem now_sumW {lines : List Line} (hl : LinesOk lines) {out : List Int} (h : out.length = lines.length) : sumW (nowF lines out) = (nowF lines out).sum := (now_wt hl h).sum
theorem i_shrink {M : Int} {lines : List Line} (hl : LinesOk lines) (hM : M ≤ 100000000000000000) : ∀ (f : Nat) {out : List Int} {n : Int}, MinOk lines out → OutOk M lines.length out → 0 ≤ n → n ≤ 100000000000000000 → n.toNat ≤ f →
    lpW (i_lineSizes.r1 CC lpW) (i_lineSizes.s1 (lines.map encLine) lines.length n (out.map encInt)) = some (.exit 2, i_lineSizes.e1_0 lines.length ((shrinkN lines f out n).map encInt))
  | 0, out, n, hm, ho, h0, hn, hf => lp_exit (i_lineSizes.l1_2 _ _ _ _ (by rw [decide_eq_false_iff_not]; omega))
  | f + 1, out, n, hm, ho, h0, hn, hf => by
    have hl5 := hl.2.2
    have hol := ho.1
    have hnl := now_len hol
    unfold shrinkN
    by_cases hpos : 0 < n
    · have l2 := loop_exit (step := i_lineSizes.r2 CC lpW) (S := fun j => i_lineSizes.s2 (lines.map encLine) lines.length n lines.length (lines.map encLine) ((lines.map encLine).length : Nat) (j : Nat) ((fillF 0 (nowF lines out) j).map encInt) (out.map encInt)) lines.length (fun j hj => by
        have hjo : j < out.length := by omega
        have hfl : (fillF 0 (nowF lines out) j).length = lines.length := by rw [fill_len _ _ (by omega), hnl]
        by_cases hc : lines[j].min < out[j]
        · obtain ⟨h3, e3⟩ := now_some hjo hj hc
          rw [i_lineSizes.l2_1 (call := CC) (lp := lpW) (lines.map encLine) lines.length n lines.length (lines.map encLine) ((lines.map encLine).length : Nat) (j : Nat) ((fillF 0 (nowF lines out) j).map encInt) (out.map encInt) lines[j] out[j] _ (by simpa using hj) (by simp) (by simp [hol]) (by simpa using hj) (by simp) (by simpa using hc) (by rw [List.length_map, hfl, decide_eq_true_eq]) (by simpa using hj) (by simp) (at_line hj) (at_int hjo) (at_int (by rw [hfl]; exact hj)), w64_succ (by omega), Int.toNat_natCast, set_int, ← e3, fill_set 0 _ h3]
        · obtain ⟨h3, e3⟩ := now_zero hjo hj hc
          rw [i_lineSizes.l2_3 (call := CC) (lp := lpW) (lines.map encLine) lines.length n lines.length (lines.map encLine) ((lines.map encLine).length : Nat) (j : Nat) ((fillF 0 (nowF lines out) j).map encInt) (out.map encInt) lines[j] out[j] (by simpa using hj) (by simp) (by simp [hol]) (by simpa using hj) (by simp) (by simpa using hc) (at_line hj) (at_int hjo), w64_succ (by omega), fill_same h3 e3]) (i_lineSizes.l2_2 _ _ _ _ _ _ _ _ _ (by simp))
      have ef : fillF 0 (nowF lines out) lines.length = nowF lines out := by have := fill_all (0 : Int) (nowF lines out); rwa [hnl] at this
      have e0 : (fillF 0 (nowF lines out) 0).map encInt = List.replicate lines.length zInt := by rw [fill_zero, hnl, rep_map]
      simp only [ef, e0] at l2
      have ks := i_sum.c (nowF lines out) (by unfold Sm; omega)
      unfold i_sum.m at ks
      rw [now_sumW hl hol] at ks
      by_cases hz : (nowF lines out).sum = 0
      · rw [if_neg (fun c => c.2 hz)]
        refine lp_exit (i_lineSizes.l1_1 (lines.map encLine) lines.length n (out.map encInt) (lines.map encLine) lines.length n lines.length ((nowF lines out).map encInt) (out.map encInt) _ (by rw [decide_eq_true_eq]; exact hpos) (by simp) (by rw [List.length_map, decide_eq_true_eq]; omega) (by simp [hnl]) (by rw [hz]; rfl) ks ?_)
        simpa using l2
      · rw [if_pos ⟨hpos, hz⟩]
        have hw := now_wt hl hol
        have k2 := i_spread.c n (nowF lines out) hw ⟨h0, hn⟩
        obtain ⟨f1, f2, _, f4, f5⟩ := lessAll_facts hl hm ho hpos hz
        have hpl : (spreadF n (nowF lines out)).length = lines.length := by rw [spread_len, hnl]
        have l3 := loop_exit (step := i_lineSizes.r3 CC lpW) (S := fun j => i_lineSizes.s3 (lines.map encLine) lines.length (lessTo lines (spreadF n (nowF lines out)) out n j).2 (spreadF n (nowF lines out)).length ((spreadF n (nowF lines out)).length : Nat) (j : Nat) ((lessTo lines (spreadF n (nowF lines out)) out n j).1.map encInt) ((spreadF n (nowF lines out)).map encInt)) lines.length (fun j hj => by
          obtain ⟨q1, q2, q3, q4, q5, q6, q7⟩ := less_w hl hM (spread_bd h0 hw.pos hw.2.1) ⟨h0, hn⟩ (spread_sum h0 hw.pos hw.2.1) hpl hm ho hj
          rw [i_lineSizes.l3_1 (call := CC) (lp := lpW) (lines.map encLine) lines.length _ (spreadF n (nowF lines out)).length ((spreadF n (nowF lines out)).length : Nat) (j : Nat) _ ((spreadF n (nowF lines out)).map encInt) _ _ _ (by rw [hpl, decide_eq_true_eq]; omega) (by simp) (by simp) (by rw [hpl, decide_eq_true_eq]; omega) (by simp) (by rw [List.length_map, less_len, hol, decide_eq_true_eq]) (by simpa using hj) (by simp) (at_int q2) (at_int q1) (at_line hj), w64_succ (by omega), q3, q4, q5, q6, q7, Int.toNat_natCast, set_int, less_succ _ _ _ _ _ (by omega)]) (i_lineSizes.l3_2 _ _ _ _ _ _ _ _ (by rw [hpl]; simp))
        refine lp_again (i_lineSizes.l1_3 (lines.map encLine) lines.length n (out.map encInt) (lines.map encLine) lines.length n lines.length ((nowF lines out).map encInt) (out.map encInt) _ (spreadF n (nowF lines out)) (lines.map encLine) lines.length (lessAll lines out n).2 ((lessAll lines out n).1.map encInt) (by rw [decide_eq_true_eq]; exact hpos) (by simp) (by rw [List.length_map, decide_eq_true_eq]; omega) (by simp [hnl]) (by simpa using hz) ks k2 (by simpa using l2) ?_) (i_shrink hl hM f f2 f1 f4 (by omega) (by omega))
        simpa [lessTo, Itr, lessAll] using l3
    · rw [if_neg (fun c => hpos c.1)]
      exact lp_exit (i_lineSizes.l1_2 _ _ _ _ (by rw [decide_eq_false_iff_not]; exact hpos))
theorem s_shrink {M : Int} {lines : List Line} (hl : LinesOk lines) (hM : M ≤ 100000000000000000) : ∀ (f : Nat) {out : List Int} {n : Int}, MinOk lines out → OutOk M lines.length out → 0 ≤ n → n ≤ 100000000000000000 → n.toNat ≤ f →
    lpW (s_shrunk.r0 CC lpW) (s_shrunk.s0 (lines.map encLine) n lines.length (out.map encInt)) = some (.exit 0, s_shrunk.e0_1 lines.length ((shrinkN lines f out n).map encInt)) ∨
    lpW (s_shrunk.r0 CC lpW) (s_shrunk.s0 (lines.map encLine) n lines.length (out.map encInt)) = some (.ret, s_shrunk.e0_0 lines.length lines.length ((shrinkN lines f out n).map encInt))
  | 0, out, n, hm, ho, h0, hn, hf => .inl (lp_exit (s_shrunk.l0_2 _ _ _ _ (by rw [decide_eq_false_iff_not]; omega)))
  | f + 1, out, n, hm, ho, h0, hn, hf => by
    have hl5 := hl.2.2
    have hol := ho.1
    have hnl := now_len hol
    unfold shrinkN
    by_cases hpos : 0 < n
    · have l2 := loop_exit (step := s_shrunk.r1 CC lpW) (S := fun j => s_shrunk.s1 (lines.map encLine) n lines.length lines.length (j : Nat) (out.map encInt) ((fillF 0 (nowF lines out) j).map encInt)) lines.length (fun j hj => by
        have hjo : j < out.length := by omega
        have hfl : (fillF 0 (nowF lines out) j).length = lines.length := by rw [fill_len _ _ (by omega), hnl]
        by_cases hc : lines[j].min < out[j]
        · obtain ⟨h3, e3⟩ := now_some hjo hj hc
          rw [s_shrunk.l1_1 (call := CC) (lp := lpW) (lines.map encLine) n lines.length lines.length (j : Nat) (out.map encInt) ((fillF 0 (nowF lines out) j).map encInt) out[j] lines[j] _ (by simpa using hj) (by simp [hol]) (by simp) (by simpa using hj) (by simp) (by simpa using hc) (by rw [List.length_map, hfl, decide_eq_true_eq]) (by simpa using hj) (by simp) (at_int hjo) (at_line hj) (at_int (by rw [hfl]; exact hj)), w64_succ (by omega), Int.toNat_natCast, set_int, ← e3, fill_set 0 _ h3]
        · obtain ⟨h3, e3⟩ := now_zero hjo hj hc
          rw [s_shrunk.l1_3 (call := CC) (lp := lpW) (lines.map encLine) n lines.length lines.length (j : Nat) (out.map encInt) ((fillF 0 (nowF lines out) j).map encInt) out[j] lines[j] (by simpa using hj) (by simp [hol]) (by simp) (by simpa using hj) (by simp) (by simpa using hc) (at_int hjo) (at_line hj), w64_succ (by omega), fill_same h3 e3]) (s_shrunk.l1_2 _ _ _ _ _ _ _ (by simp))
      have ef : fillF 0 (nowF lines out) lines.length = nowF lines out := by have := fill_all (0 : Int) (nowF lines out); rwa [hnl] at this
      have e0 : (fillF 0 (nowF lines out) 0).map encInt = List.replicate lines.length zInt := by rw [fill_zero, hnl, rep_map]
      simp only [ef, e0] at l2
      have ks := s_total.c (nowF lines out) (by unfold Sm; omega)
      unfold s_total.m at ks
      rw [now_sumW hl hol] at ks
      by_cases hz : (nowF lines out).sum = 0
      · rw [if_neg (fun c => c.2 hz)]
        refine .inr (lp_ret (s_shrunk.l0_1 (lines.map encLine) n lines.length (out.map encInt) (lines.map encLine) n lines.length lines.length (out.map encInt) ((nowF lines out).map encInt) _ (by rw [decide_eq_true_eq]; exact hpos) (by simp) (by rw [List.length_map, decide_eq_true_eq]; omega) (by simp [hnl]) (by rw [hz]; rfl) ks ?_))
        simpa using l2
      · rw [if_pos ⟨hpos, hz⟩]
        have hw := now_wt hl hol
        have k2 := s_spread.c n (nowF lines out) hw ⟨h0, hn⟩
        obtain ⟨f1, f2, _, f4, f5⟩ := lessAll_facts hl hm ho hpos hz
        have hpl : (spreadF n (nowF lines out)).length = lines.length := by rw [spread_len, hnl]
        have l3 := loop_exit (step := s_shrunk.r2 CC lpW) (S := fun j => s_shrunk.s2 (lines.map encLine) (lessTo lines (spreadF n (nowF lines out)) out n j).2 lines.length (spreadF n (nowF lines out)).length (j : Nat) ((lessTo lines (spreadF n (nowF lines out)) out n j).1.map encInt) ((spreadF n (nowF lines out)).map encInt)) lines.length (fun j hj => by
          obtain ⟨q1, q2, q3, q4, q5, q6, q7⟩ := less_w hl hM (spread_bd h0 hw.pos hw.2.1) ⟨h0, hn⟩ (spread_sum h0 hw.pos hw.2.1) hpl hm ho hj
          rw [s_shrunk.l2_1 (call := CC) (lp := lpW) (lines.map encLine) _ lines.length (spreadF n (nowF lines out)).length (j : Nat) _ ((spreadF n (nowF lines out)).map encInt) _ _ _ (by rw [hpl, decide_eq_true_eq]; omega) (by simp) (by simp) (by simp) (by rw [List.length_map, less_len, hol, decide_eq_true_eq]) (by simpa using hj) (by simp) (at_int q2) (at_int q1) (at_line hj), w64_succ (by omega), q3, q4, q5, q6, q7, Int.toNat_natCast, set_int, less_succ _ _ _ _ _ (by omega)]) (s_shrunk.l2_2 _ _ _ _ _ _ _ (by rw [hpl]; simp))
        have again := s_shrunk.l0_3 (call := CC) (lp := lpW) (lines.map encLine) n lines.length (out.map encInt) (lines.map encLine) n lines.length lines.length (out.map encInt) ((nowF lines out).map encInt) _ (spreadF n (nowF lines out)) (lines.map encLine) (lessAll lines out n).2 lines.length ((lessAll lines out n).1.map encInt) (by rw [decide_eq_true_eq]; exact hpos) (by simp) (by rw [List.length_map, decide_eq_true_eq]; omega) (by simp [hnl]) (by simpa using hz) ks k2 (by simpa using l2) (by simpa [lessTo, Itr, lessAll] using l3)
        rcases s_shrink hl hM f f2 f1 f4 (by omega) (by omega) with h | h
        · exact .inl (lp_again again h)
        · exact .inr (lp_again again h)
    · rw [if_neg (fun c => hpos c.1)]
      exact .inl (lp_exit (s_shrunk.l0_2 _ _ _ _ (by rw [decide_eq_false_iff_not]; exact hpos)))
theorem scal_int (l : List Int) : ((l.map encInt).all (·.all C.scalar)) = true := by
  rw [List.all_eq_true]; intro el hel
  obtain ⟨x, _, rfl⟩ := List.mem_map.1 hel
  rfl
theorem s_shrunk.c {M : Int} {lines : List Line} (hl : LinesOk lines) (hM : M ≤ 100000000000000000) {out : List Int} {n : Int} (hm : MinOk lines out) (ho : OutOk M lines.length out) (h0 : 0 ≤ n) (hn : n ≤ 100000000000000000) :
    PC s_shrunk [.one (.rsl (lines.map encLine)), .one (.rsl (out.map encInt)), vI n] (.one (.sl ((shrinkF lines out n).map encInt)), []) := by
  refine lift ?_
  have hol := ho.1
  have hl5 := hl.2.2
  have hr := (shrinkN_ok hl n.toNat (n := n) hm ho).1.1
  unfold shrinkF
  rcases s_shrink hl hM n.toNat hm ho h0 hn (Nat.le_refl _) with h | h
  · exact s_shrunk.w2 lines out n lines.length _ (scal_int _) (uni_int _) (by simp; omega) (by rw [List.length_map, hr, decide_eq_true_eq]) (by simpa [hol] using h)
  · exact s_shrunk.w1 lines out n lines.length lines.length _ (scal_int _) (uni_int _) (by simp; omega) (by rw [List.length_map, hr, decide_eq_true_eq]) (by simpa [hol] using h)
theorem add_w {M : Int} {n : Nat} {wishes parts : List Int} (ho : OutOk M n wishes) (hM : M ≤ 100000000000000000) {m : Int} (hp : Bd m parts) (hm : m ≤ 100000000000000000) (hl : parts.length = n) {j : Nat} (hj : j < n) :
    ∃ (h1 : j < (Itr (addAt 0 parts) wishes j).length) (h2 : j < parts.length),
      w64 ((Itr (addAt 0 parts) wishes j)[j] + parts[j]) = (Itr (addAt 0 parts) wishes j)[j] + parts[j] ∧
      Itr (addAt 0 parts) wishes (j + 1) = (Itr (addAt 0 parts) wishes j).set j ((Itr (addAt 0 parts) wishes j)[j] + parts[j]) := by
  have hol := ho.1
  have hlen : (Itr (addAt 0 parts) wishes j).length = wishes.length := Itr_len j
  refine ⟨by omega, by omega, ?_, ?_⟩
  · have e : (Itr (addAt 0 parts) wishes j)[j]'(by omega) = wishes[j]'(by omega) := by
      rw [← getD_at, Itr_get _ (by omega), if_neg (by omega), getD_at]
    rw [e]
    have h1 := ho.2.at (j := j) (by omega)
    have h2 := hp.at (j := j) (by omega)
    exact w64_id (by omega) (by omega)
  · show addAt _ _ j _ = _
    rw [addAt_eq, Nat.zero_add, getD_at (by omega), getD_at (by omega)]
theorem sum_w {M : Int} {n : Nat} {out : List Int} (ho : OutOk M n out) (hn : n ≤ 5) (hM : 0 ≤ M ∧ M ≤ 1000000000000000000) : sumW out = out.sum := by
  refine sumW_eq ho.2 ?_
  have : (out.length : Int) * M ≤ 5 * M := Int.mul_le_mul_of_nonneg_right (by have := ho.1; omega) (by omega)
  omega
theorem s_sized.c {M : Int} {lines : List Line} (hl : LinesOk lines) (hM : 0 ≤ M ∧ M ≤ 15000000000000000) {wishes : List Int} (hm : MinOk lines wishes) (ho : OutOk M lines.length wishes) {room : Int} (hr : Room room) :
    PC s_sized [.one (.rsl (lines.map encLine)), .one (.rsl (wishes.map encInt)), vI room] (.one (.sl ((sizedF lines wishes room).map encInt)), []) := by
  refine lift ?_
  have hol := ho.1
  have hl5 := hl.2.2
  have hs := out_sum ho hl5 hM.1
  obtain ⟨r1, r2⟩ := hr
  have k1 := s_total.c wishes (by unfold Sm; omega)
  unfold s_total.m at k1
  rw [sum_w ho hl5 ⟨hM.1, by omega⟩] at k1
  have hw : w64 (room - wishes.sum) = room - wishes.sum := w64_id (by omega) (by omega)
  unfold sizedF
  by_cases h1 : room < wishes.sum
  · rw [if_pos h1]
    have hw2 : w64 (0 - (room - wishes.sum)) = wishes.sum - room := by rw [w64_id (by omega) (by omega)]; omega
    exact s_sized.w1 lines wishes room _ _ (by rw [hw, decide_eq_true_eq]; omega) k1 (by rw [hw, hw2]; exact s_shrunk.c hl (by omega) hm ho (by omega) (by omega))
  · rw [if_neg h1]
    have hwt := wtsAll_ok hl
    have k2 := s_weightsOf.c lines (by omega)
    have k3 := s_total.c (wts lines) hwt.sm
    unfold s_total.m at k3
    rw [hwt.sum] at k3
    by_cases hz : (wts lines).sum = 0
    · rw [if_pos hz]
      have := s_sized.w2 (call := CC) (lp := lpW) lines wishes room _ _ _ (by rw [hw, decide_eq_false_iff_not]; omega) (scal_int _) (uni_int _) (by simp; omega) (by rw [hz]; rfl) k1 k2 k3
      rw [this, List.nil_append]
    · rw [if_neg hz]
      have k5 := s_spread.c (room - wishes.sum) (wts lines) hwt ⟨by omega, by omega⟩
      have hpl : (spreadF (room - wishes.sum) (wts lines)).length = lines.length := by rw [spread_len]; simp [wts]
      have hpb := spread_bd (n := room - wishes.sum) (by omega) hwt.pos hwt.2.1
      have l0 := loop_exit (step := s_sized.r0 CC lpW) (S := fun j => s_sized.s0 lines.length (spreadF (room - wishes.sum) (wts lines)).length (j : Nat) ((Itr (addAt 0 (spreadF (room - wishes.sum) (wts lines))) wishes j).map encInt) ((spreadF (room - wishes.sum) (wts lines)).map encInt)) lines.length (fun j hj => by
        obtain ⟨q1, q2, q3, q4⟩ := add_w ho (by omega) hpb (by omega) hpl hj
        rw [s_sized.l0_1 (call := CC) (lp := lpW) lines.length (spreadF (room - wishes.sum) (wts lines)).length (j : Nat) _ ((spreadF (room - wishes.sum) (wts lines)).map encInt) _ _ (by rw [decide_eq_true_eq]; omega) (by rw [List.length_map, Itr_len, hol, decide_eq_true_eq]) (by simp) (by simp) (by simp) (by rw [hpl, decide_eq_true_eq]; omega) (by simp) (at_int q1) (at_int q2), w64_succ (by omega), q3, Int.toNat_natCast, set_int, q4]) (s_sized.l0_2 _ _ _ _ _ (by rw [decide_eq_false_iff_not]; omega))
      refine s_sized.w3 lines wishes room _ _ _ (wts lines) (spreadF (room - wishes.sum) (wts lines)) lines.length _ (by rw [hw, decide_eq_false_iff_not]; omega) (scal_int _) (uni_int _) (by simp; omega) (by simpa using hz) (by rw [List.length_map, addAll_len, hol, decide_eq_true_eq]) k1 k2 k3 k2 (by rw [hw]; exact k5) ?_
      have e : addAll 0 (spreadF (room - wishes.sum) (wts lines)) wishes = Itr (addAt 0 (spreadF (room - wishes.sum) (wts lines))) wishes lines.length := by unfold addAll; rw [hpl]
      rw [e]
      simpa [Itr, hol, hpl] using l0
theorem zero_parts {n : Int} {ws : List Int} (hn : n = 0) (hw : ∀ w ∈ ws, 0 ≤ w) (hl : 0 < ws.length) : ∀ x ∈ spreadF n ws, x = 0 := by
  subst hn
  intro x hx
  have := spread_bd (n := 0) (by omega) hw hl x hx
  omega
theorem i_lineSizes.c {M : Int} {lines : List Line} {spans : List Span} (hl : LinesOk lines) (hB : Big M) (hM : M ≤ 15000000000000000) (hsp : ∀ s ∈ spans, SpanOk M lines.length s) (hn : spans.length ≤ 1000) {room : Int} (hr : Room room) :
    PC i_lineSizes [.one (.rsl (lines.map encLine)), .one (.rsl (spans.map encSpan)), vI room] (.one (.sl ((sizedF lines (wishF lines spans) room).map encInt)), []) := by
  have kw := i_lineRequests.c lines spans hl hB hsp hn
  have ho := wish_ok hl hB.1 hsp
  have hm := wish_min hl hB.1 hsp
  generalize wishF lines spans = wishes at kw ho hm ⊢
  refine lift ?_
  have hM0 : 0 ≤ M := by have := hB.1; omega
  have hol := ho.1
  have hl5 := hl.2.2
  have hs := out_sum ho hl5 hM0
  obtain ⟨r1, r2⟩ := hr
  have k1 := i_sum.c wishes (by unfold Sm; omega)
  unfold i_sum.m at k1
  rw [sum_w ho hl5 ⟨hM0, by omega⟩] at k1
  have hw : w64 (room - wishes.sum) = room - wishes.sum := w64_id (by omega) (by omega)
  have hw2 : w64 (wishes.sum - room) = wishes.sum - room := w64_id (by omega) (by omega)
  have hwt := wtsAll_ok hl
  have k2 := i_weightsOf.c lines (by omega)
  have k3 := i_sum.c (wts lines) hwt.sm
  unfold i_sum.m at k3
  rw [hwt.sum] at k3
  unfold sizedF
  by_cases h1 : room < wishes.sum
  · rw [if_pos h1]
    have hres := (shrinkN_ok hl (wishes.sum - room).toNat (n := wishes.sum - room) hm ho).1.1
    have hsh := i_shrink hl (by omega) (wishes.sum - room).toNat (n := wishes.sum - room) hm ho (by omega) (by omega) (Nat.le_refl _)
    exact i_lineSizes.w2 lines spans room wishes _ _ _ lines.length _ (by rw [hw, decide_eq_false_iff_not]; omega) (by rw [List.length_map]; unfold shrinkF; rw [hres, decide_eq_true_eq]) kw k2 k1 k1 (by rw [hw2]; simpa [hol, shrinkF] using hsh)
  · rw [if_neg h1]
    by_cases hz : (wts lines).sum = 0
    · rw [if_pos hz]
      have hstop : lpW (i_lineSizes.r1 CC lpW) (i_lineSizes.s1 (lines.map encLine) lines.length (wishes.sum - room) (wishes.map encInt)) = some (.exit 2, i_lineSizes.e1_0 lines.length (wishes.map encInt)) := lp_exit (i_lineSizes.l1_2 _ _ _ _ (by rw [decide_eq_false_iff_not]; omega))
      by_cases hmore : 0 < room - wishes.sum
      · exact i_lineSizes.w3 lines spans room wishes _ _ _ _ lines.length _ (by rw [hw, decide_eq_true_eq]; omega) (by rw [hz]; rfl) (by rw [List.length_map, hol, decide_eq_true_eq]) kw k2 k1 k3 k1 (by rw [hw2]; simpa [hol] using hstop)
      · exact i_lineSizes.w2 lines spans room wishes _ _ _ lines.length _ (by rw [hw, decide_eq_false_iff_not]; omega) (by rw [List.length_map, hol, decide_eq_true_eq]) kw k2 k1 k1 (by rw [hw2]; simpa [hol] using hstop)
    · rw [if_neg hz]
      have hpl : (spreadF (room - wishes.sum) (wts lines)).length = lines.length := by rw [spread_len]; simp [wts]
      have hle : 0 + (spreadF (room - wishes.sum) (wts lines)).length ≤ wishes.length := by omega
      by_cases hmore : 0 < room - wishes.sum
      · have k5 := i_spread.c (room - wishes.sum) (wts lines) hwt ⟨by omega, by omega⟩
        have hpb := spread_bd (n := room - wishes.sum) (by omega) hwt.pos hwt.2.1
        have hsum := addAll_sum hle
        rw [spread_sum (by omega) hwt.pos hwt.2.1] at hsum
        have l0 := loop_exit (step := i_lineSizes.r0 CC lpW) (S := fun j => i_lineSizes.s0 (lines.map encLine) room lines.length (spreadF (room - wishes.sum) (wts lines)).length ((spreadF (room - wishes.sum) (wts lines)).length : Nat) (j : Nat) ((Itr (addAt 0 (spreadF (room - wishes.sum) (wts lines))) wishes j).map encInt) ((spreadF (room - wishes.sum) (wts lines)).map encInt)) lines.length (fun j hj => by
          obtain ⟨q1, q2, q3, q4⟩ := add_w ho (by omega) hpb (by omega) hpl hj
          rw [i_lineSizes.l0_1 (call := CC) (lp := lpW) (lines.map encLine) room lines.length (spreadF (room - wishes.sum) (wts lines)).length ((spreadF (room - wishes.sum) (wts lines)).length : Nat) (j : Nat) _ ((spreadF (room - wishes.sum) (wts lines)).map encInt) _ _ (by rw [hpl, decide_eq_true_eq]; omega) (by simp) (by simp) (by rw [hpl, decide_eq_true_eq]; omega) (by simp) (by rw [List.length_map, Itr_len, hol, decide_eq_true_eq]) (by rw [decide_eq_true_eq]; omega) (by simp) (at_int q2) (at_int q1), w64_succ (by omega), q3, Int.toNat_natCast, set_int, q4]) (i_lineSizes.l0_2 _ _ _ _ _ _ _ _ (by rw [hpl, decide_eq_false_iff_not]; omega))
        have e : addAll 0 (spreadF (room - wishes.sum) (wts lines)) wishes = Itr (addAt 0 (spreadF (room - wishes.sum) (wts lines))) wishes lines.length := by unfold addAll; rw [hpl]
        rw [← e] at l0
        have oa : OutOk (M + (room - wishes.sum)) lines.length (addAll 0 (spreadF (room - wishes.sum) (wts lines)) wishes) := by
          refine ⟨by rw [addAll_len]; exact hol, fun x hx => ?_⟩
          obtain ⟨k, hk, rfl⟩ := mem_getD hx
          rw [addAll_len] at hk
          rw [addAll_get hle]
          have h1 := ho.2.at hk
          rw [← getD_at] at h1
          split
          · have := hpb.getD (by omega) (k - 0); omega
          · omega
        generalize addAll 0 (spreadF (room - wishes.sum) (wts lines)) wishes = res at l0 hsum oa ⊢
        have k6 := i_sum.c res (by unfold Sm; have := oa.1; omega)
        unfold i_sum.m at k6
        rw [sum_w oa hl5 ⟨by omega, by omega⟩] at k6
        have hw3 : w64 (res.sum - room) = 0 := by rw [hsum, w64_id (by omega) (by omega)]; omega
        refine i_lineSizes.w1 lines spans room wishes _ _ _ (spreadF (room - wishes.sum) (wts lines)) (lines.map encLine) room lines.length (res.map encInt) res.sum lines.length (res.map encInt) (by rw [hw, decide_eq_true_eq]; omega) (by rw [decide_eq_true_eq]; have := (sum_bd hwt.1).1; omega) (by rw [List.length_map, oa.1, decide_eq_true_eq]) (by rw [List.length_map, oa.1, decide_eq_true_eq]) kw k2 k1 k3 (by rw [hw]; exact k5) k6 ?_ ?_
        · simpa [Itr, hol, hpl] using l0
        · rw [hw3]; exact lp_exit (i_lineSizes.l1_2 _ _ _ _ (by simp))
      · rw [addAll_zero hle (zero_parts (by omega) hwt.pos hwt.2.1)]
        have hstop : lpW (i_lineSizes.r1 CC lpW) (i_lineSizes.s1 (lines.map encLine) lines.length (wishes.sum - room) (wishes.map encInt)) = some (.exit 2, i_lineSizes.e1_0 lines.length (wishes.map encInt)) := lp_exit (i_lineSizes.l1_2 _ _ _ _ (by rw [decide_eq_false_iff_not]; omega))
        exact i_lineSizes.w2 lines spans room wishes _ _ _ lines.length _ (by rw [hw, decide_eq_false_iff_not]; omega) (by rw [List.length_map, hol, decide_eq_true_eq]) kw k2 k1 k1 (by rw [hw2]; simpa [hol] using hstop)
end Go.Proofs.Ytdgamfanffnhaaa.PI
