/-
  A part of the proof of FnExactTouchedBySaid: W5, Auto0, Man1, Auto1, Man2, Auto2, Man3, RowKit, Plain1, Man4, Plain2, Man5, Man6, Ask.
-/
import Derived.Test.YtdgamfanffnhaaaToby1
set_option linter.unusedVariables false
set_option linter.unusedSimpArgs false
namespace Go.Proofs.Ytdgamfanffnhaaa.PI
open Go
set_option maxRecDepth 100000
set_option linter.unusedVariables false
theorem s_validPack.w1 {call : Call} {lp : Lp} (p : Pack) (r6 : Bool) (K1 : call s_inRange [vI p.w, vI 0, vI 30] = some (vB true, [])) (K2 : call s_inRange [vI p.h, vI 0, vI 30] = some (vB true, [])) (K3 : call s_validSide [vI p.side] = some (vB true, [])) (K4 : call s_validAnchor [vI p.anchor] = some (vB true, [])) (K5 : call s_inRange [vI p.padX, vI 0, vI 10] = some (vB true, [])) (K6 : call s_inRange [vI p.padY, vI 0, vI 10] = some (vB r6, [])) :
    pfun funcs own call lp s_validPack [.agg (encPack p)] = some (vB r6, []) :=
  guided_fun (cfg := cf) [true, true, true, true, true, true, true, true, true, true, true, true, true, true, true, true, true, true, true, true] (and_t rfl (and_t (eq_tt rfl) (and_t (eq_tt rfl) (and_t (eq_tt rfl) (and_t rfl (and_t (eq_tt rfl) (and_t (eq_tt rfl) (and_t (eq_tt rfl) (and_t rfl (and_t (eq_tt rfl) (and_t (eq_tt rfl) (and_t (eq_tt rfl) (and_t rfl (and_t (eq_tt rfl) (and_t (eq_tt rfl) (and_t (eq_tt rfl) (and_t rfl (and_t (eq_tt rfl) (and_t (eq_tt rfl) (and_t (eq_tt rfl) rfl)))))))))))))))))))) eN (cC K6 (cC K5 (cC K4 (cC K3 (cC K2 (cC K1 cN)))))) lN (by kernel_rfl)
theorem s_validPack.w2 {call : Call} {lp : Lp} (p : Pack) (K1 : call s_inRange [vI p.w, vI 0, vI 30] = some (vB false, [])) :
    pfun funcs own call lp s_validPack [.agg (encPack p)] = some (vB false, []) :=
  guided_fun (cfg := cf) [false, false, false, false, false, false, false, false, false, false, false, false, false, false, false, false, false, false, false, false] (and_t (not_t rfl) (and_t (not_t (eq_tf rfl)) (and_t (not_t (eq_tf rfl)) (and_t (not_t (eq_tf rfl)) rfl)))) eN (cC K1 cN) lN (by kernel_rfl)
theorem s_validPack.w3 {call : Call} {lp : Lp} (p : Pack) (K1 : call s_inRange [vI p.w, vI 0, vI 30] = some (vB true, [])) (K2 : call s_inRange [vI p.h, vI 0, vI 30] = some (vB false, [])) :
    pfun funcs own call lp s_validPack [.agg (encPack p)] = some (vB false, []) :=
  guided_fun (cfg := cf) [true, true, true, true, false, false, false, false, false, false, false, false, false, false, false, false, false, false, false, false] (and_t (not_t rfl) (and_t (not_t (eq_tf rfl)) (and_t (not_t (eq_tf rfl)) (and_t (not_t (eq_tf rfl)) (and_t rfl (and_t (eq_tt rfl) (and_t (eq_tt rfl) (and_t (eq_tt rfl) rfl)))))))) eN (cC K2 (cC K1 cN)) lN (by kernel_rfl)
theorem s_validPack.w4 {call : Call} {lp : Lp} (p : Pack) (K1 : call s_inRange [vI p.w, vI 0, vI 30] = some (vB true, [])) (K2 : call s_inRange [vI p.h, vI 0, vI 30] = some (vB true, [])) (K3 : call s_validSide [vI p.side] = some (vB false, [])) :
    pfun funcs own call lp s_validPack [.agg (encPack p)] = some (vB false, []) :=
  guided_fun (cfg := cf) [true, true, true, true, true, true, true, true, false, false, false, false, false, false, false, false, false, false, false, false] (and_t (not_t rfl) (and_t (not_t (eq_tf rfl)) (and_t (not_t (eq_tf rfl)) (and_t (not_t (eq_tf rfl)) (and_t rfl (and_t (eq_tt rfl) (and_t (eq_tt rfl) (and_t (eq_tt rfl) (and_t rfl (and_t (eq_tt rfl) (and_t (eq_tt rfl) (and_t (eq_tt rfl) rfl)))))))))))) eN (cC K3 (cC K2 (cC K1 cN))) lN (by kernel_rfl)
theorem s_validPack.w5 {call : Call} {lp : Lp} (p : Pack) (K1 : call s_inRange [vI p.w, vI 0, vI 30] = some (vB true, [])) (K2 : call s_inRange [vI p.h, vI 0, vI 30] = some (vB true, [])) (K3 : call s_validSide [vI p.side] = some (vB true, [])) (K4 : call s_validAnchor [vI p.anchor] = some (vB false, [])) :
    pfun funcs own call lp s_validPack [.agg (encPack p)] = some (vB false, []) :=
  guided_fun (cfg := cf) [true, true, true, true, true, true, true, true, true, true, true, true, false, false, false, false, false, false, false, false] (and_t (not_t rfl) (and_t (not_t (eq_tf rfl)) (and_t (not_t (eq_tf rfl)) (and_t (not_t (eq_tf rfl)) (and_t rfl (and_t (eq_tt rfl) (and_t (eq_tt rfl) (and_t (eq_tt rfl) (and_t rfl (and_t (eq_tt rfl) (and_t (eq_tt rfl) (and_t (eq_tt rfl) (and_t rfl (and_t (eq_tt rfl) (and_t (eq_tt rfl) (and_t (eq_tt rfl) rfl)))))))))))))))) eN (cC K4 (cC K3 (cC K2 (cC K1 cN)))) lN (by kernel_rfl)
theorem s_validPack.w6 {call : Call} {lp : Lp} (p : Pack) (K1 : call s_inRange [vI p.w, vI 0, vI 30] = some (vB true, [])) (K2 : call s_inRange [vI p.h, vI 0, vI 30] = some (vB true, [])) (K3 : call s_validSide [vI p.side] = some (vB true, [])) (K4 : call s_validAnchor [vI p.anchor] = some (vB true, [])) (K5 : call s_inRange [vI p.padX, vI 0, vI 10] = some (vB false, [])) :
    pfun funcs own call lp s_validPack [.agg (encPack p)] = some (vB false, []) :=
  guided_fun (cfg := cf) [true, true, true, true, true, true, true, true, true, true, true, true, true, true, true, true, false, false, false, false] (and_t (not_t rfl) (and_t (not_t (eq_tf rfl)) (and_t (not_t (eq_tf rfl)) (and_t (not_t (eq_tf rfl)) (and_t rfl (and_t (eq_tt rfl) (and_t (eq_tt rfl) (and_t (eq_tt rfl) (and_t rfl (and_t (eq_tt rfl) (and_t (eq_tt rfl) (and_t (eq_tt rfl) (and_t rfl (and_t (eq_tt rfl) (and_t (eq_tt rfl) (and_t (eq_tt rfl) (and_t rfl (and_t (eq_tt rfl) (and_t (eq_tt rfl) (and_t (eq_tt rfl) rfl)))))))))))))))))))) eN (cC K5 (cC K4 (cC K3 (cC K2 (cC K1 cN))))) lN (by kernel_rfl)
theorem s_validPlace.w1 {call : Call} {lp : Lp} (p : Place) (r9 : Bool) (K1 : call s_inRange [vI p.x, vI (-300), vI 300] = some (vB true, [])) (K2 : call s_inRange [vI p.y, vI (-300), vI 300] = some (vB true, [])) (K3 : call s_inRange [vI p.relX, vI 0, vI 1000] = some (vB true, [])) (K4 : call s_inRange [vI p.relY, vI 0, vI 1000] = some (vB true, [])) (K5 : call s_inRange [vI p.w, vI (-300), vI 300] = some (vB true, [])) (K6 : call s_inRange [vI p.h, vI (-300), vI 300] = some (vB true, [])) (K7 : call s_inRange [vI p.relW, vI 0, vI 1000] = some (vB true, [])) (K8 : call s_inRange [vI p.relH, vI 0, vI 1000] = some (vB true, [])) (K9 : call s_validAnchor [vI p.anchor] = some (vB r9, [])) :
    pfun funcs own call lp s_validPlace [.agg (encPlace p)] = some (vB r9, []) :=
  guided_fun (cfg := cf) [true, true, true, true, true, true, true, true, true, true, true, true, true, true, true, true, true, true, true, true, true, true, true, true, true, true, true, true, true, true, true, true] (and_t rfl (and_t (eq_tt rfl) (and_t (eq_tt rfl) (and_t (eq_tt rfl) (and_t rfl (and_t (eq_tt rfl) (and_t (eq_tt rfl) (and_t (eq_tt rfl) (and_t rfl (and_t (eq_tt rfl) (and_t (eq_tt rfl) (and_t (eq_tt rfl) (and_t rfl (and_t (eq_tt rfl) (and_t (eq_tt rfl) (and_t (eq_tt rfl) (and_t rfl (and_t (eq_tt rfl) (and_t (eq_tt rfl) (and_t (eq_tt rfl) (and_t rfl (and_t (eq_tt rfl) (and_t (eq_tt rfl) (and_t (eq_tt rfl) (and_t rfl (and_t (eq_tt rfl) (and_t (eq_tt rfl) (and_t (eq_tt rfl) (and_t rfl (and_t (eq_tt rfl) (and_t (eq_tt rfl) (and_t (eq_tt rfl) rfl)))))))))))))))))))))))))))))))) eN (cC K9 (cC K8 (cC K7 (cC K6 (cC K5 (cC K4 (cC K3 (cC K2 (cC K1 cN))))))))) lN (by kernel_rfl)
theorem s_validPlace.w2 {call : Call} {lp : Lp} (p : Place) (K1 : call s_inRange [vI p.x, vI (-300), vI 300] = some (vB false, [])) :
    pfun funcs own call lp s_validPlace [.agg (encPlace p)] = some (vB false, []) :=
  guided_fun (cfg := cf) [false, false, false, false, false, false, false, false, false, false, false, false, false, false, false, false, false, false, false, false, false, false, false, false, false, false, false, false, false, false, false, false] (and_t (not_t rfl) (and_t (not_t (eq_tf rfl)) (and_t (not_t (eq_tf rfl)) (and_t (not_t (eq_tf rfl)) rfl)))) eN (cC K1 cN) lN (by kernel_rfl)
theorem s_validPlace.w3 {call : Call} {lp : Lp} (p : Place) (K1 : call s_inRange [vI p.x, vI (-300), vI 300] = some (vB true, [])) (K2 : call s_inRange [vI p.y, vI (-300), vI 300] = some (vB false, [])) :
    pfun funcs own call lp s_validPlace [.agg (encPlace p)] = some (vB false, []) :=
  guided_fun (cfg := cf) [true, true, true, true, false, false, false, false, false, false, false, false, false, false, false, false, false, false, false, false, false, false, false, false, false, false, false, false, false, false, false, false] (and_t (not_t rfl) (and_t (not_t (eq_tf rfl)) (and_t (not_t (eq_tf rfl)) (and_t (not_t (eq_tf rfl)) (and_t rfl (and_t (eq_tt rfl) (and_t (eq_tt rfl) (and_t (eq_tt rfl) rfl)))))))) eN (cC K2 (cC K1 cN)) lN (by kernel_rfl)
theorem s_validPlace.w4 {call : Call} {lp : Lp} (p : Place) (K1 : call s_inRange [vI p.x, vI (-300), vI 300] = some (vB true, [])) (K2 : call s_inRange [vI p.y, vI (-300), vI 300] = some (vB true, [])) (K3 : call s_inRange [vI p.relX, vI 0, vI 1000] = some (vB false, [])) :
    pfun funcs own call lp s_validPlace [.agg (encPlace p)] = some (vB false, []) :=
  guided_fun (cfg := cf) [true, true, true, true, true, true, true, true, false, false, false, false, false, false, false, false, false, false, false, false, false, false, false, false, false, false, false, false, false, false, false, false] (and_t (not_t rfl) (and_t (not_t (eq_tf rfl)) (and_t (not_t (eq_tf rfl)) (and_t (not_t (eq_tf rfl)) (and_t rfl (and_t (eq_tt rfl) (and_t (eq_tt rfl) (and_t (eq_tt rfl) (and_t rfl (and_t (eq_tt rfl) (and_t (eq_tt rfl) (and_t (eq_tt rfl) rfl)))))))))))) eN (cC K3 (cC K2 (cC K1 cN))) lN (by kernel_rfl)
theorem s_validPlace.w5 {call : Call} {lp : Lp} (p : Place) (K1 : call s_inRange [vI p.x, vI (-300), vI 300] = some (vB true, [])) (K2 : call s_inRange [vI p.y, vI (-300), vI 300] = some (vB true, [])) (K3 : call s_inRange [vI p.relX, vI 0, vI 1000] = some (vB true, [])) (K4 : call s_inRange [vI p.relY, vI 0, vI 1000] = some (vB false, [])) :
    pfun funcs own call lp s_validPlace [.agg (encPlace p)] = some (vB false, []) :=
  guided_fun (cfg := cf) [true, true, true, true, true, true, true, true, true, true, true, true, false, false, false, false, false, false, false, false, false, false, false, false, false, false, false, false, false, false, false, false] (and_t (not_t rfl) (and_t (not_t (eq_tf rfl)) (and_t (not_t (eq_tf rfl)) (and_t (not_t (eq_tf rfl)) (and_t rfl (and_t (eq_tt rfl) (and_t (eq_tt rfl) (and_t (eq_tt rfl) (and_t rfl (and_t (eq_tt rfl) (and_t (eq_tt rfl) (and_t (eq_tt rfl) (and_t rfl (and_t (eq_tt rfl) (and_t (eq_tt rfl) (and_t (eq_tt rfl) rfl)))))))))))))))) eN (cC K4 (cC K3 (cC K2 (cC K1 cN)))) lN (by kernel_rfl)
theorem s_validPlace.w6 {call : Call} {lp : Lp} (p : Place) (K1 : call s_inRange [vI p.x, vI (-300), vI 300] = some (vB true, [])) (K2 : call s_inRange [vI p.y, vI (-300), vI 300] = some (vB true, [])) (K3 : call s_inRange [vI p.relX, vI 0, vI 1000] = some (vB true, [])) (K4 : call s_inRange [vI p.relY, vI 0, vI 1000] = some (vB true, [])) (K5 : call s_inRange [vI p.w, vI (-300), vI 300] = some (vB false, [])) :
    pfun funcs own call lp s_validPlace [.agg (encPlace p)] = some (vB false, []) :=
  guided_fun (cfg := cf) [true, true, true, true, true, true, true, true, true, true, true, true, true, true, true, true, false, false, false, false, false, false, false, false, false, false, false, false, false, false, false, false] (and_t (not_t rfl) (and_t (not_t (eq_tf rfl)) (and_t (not_t (eq_tf rfl)) (and_t (not_t (eq_tf rfl)) (and_t rfl (and_t (eq_tt rfl) (and_t (eq_tt rfl) (and_t (eq_tt rfl) (and_t rfl (and_t (eq_tt rfl) (and_t (eq_tt rfl) (and_t (eq_tt rfl) (and_t rfl (and_t (eq_tt rfl) (and_t (eq_tt rfl) (and_t (eq_tt rfl) (and_t rfl (and_t (eq_tt rfl) (and_t (eq_tt rfl) (and_t (eq_tt rfl) rfl)))))))))))))))))))) eN (cC K5 (cC K4 (cC K3 (cC K2 (cC K1 cN))))) lN (by kernel_rfl)
theorem s_validPlace.w7 {call : Call} {lp : Lp} (p : Place) (K1 : call s_inRange [vI p.x, vI (-300), vI 300] = some (vB true, [])) (K2 : call s_inRange [vI p.y, vI (-300), vI 300] = some (vB true, [])) (K3 : call s_inRange [vI p.relX, vI 0, vI 1000] = some (vB true, [])) (K4 : call s_inRange [vI p.relY, vI 0, vI 1000] = some (vB true, [])) (K5 : call s_inRange [vI p.w, vI (-300), vI 300] = some (vB true, [])) (K6 : call s_inRange [vI p.h, vI (-300), vI 300] = some (vB false, [])) :
    pfun funcs own call lp s_validPlace [.agg (encPlace p)] = some (vB false, []) :=
  guided_fun (cfg := cf) [true, true, true, true, true, true, true, true, true, true, true, true, true, true, true, true, true, true, true, true, false, false, false, false, false, false, false, false, false, false, false, false] (and_t (not_t rfl) (and_t (not_t (eq_tf rfl)) (and_t (not_t (eq_tf rfl)) (and_t (not_t (eq_tf rfl)) (and_t rfl (and_t (eq_tt rfl) (and_t (eq_tt rfl) (and_t (eq_tt rfl) (and_t rfl (and_t (eq_tt rfl) (and_t (eq_tt rfl) (and_t (eq_tt rfl) (and_t rfl (and_t (eq_tt rfl) (and_t (eq_tt rfl) (and_t (eq_tt rfl) (and_t rfl (and_t (eq_tt rfl) (and_t (eq_tt rfl) (and_t (eq_tt rfl) (and_t rfl (and_t (eq_tt rfl) (and_t (eq_tt rfl) (and_t (eq_tt rfl) rfl)))))))))))))))))))))))) eN (cC K6 (cC K5 (cC K4 (cC K3 (cC K2 (cC K1 cN)))))) lN (by kernel_rfl)
theorem s_validPlace.w8 {call : Call} {lp : Lp} (p : Place) (K1 : call s_inRange [vI p.x, vI (-300), vI 300] = some (vB true, [])) (K2 : call s_inRange [vI p.y, vI (-300), vI 300] = some (vB true, [])) (K3 : call s_inRange [vI p.relX, vI 0, vI 1000] = some (vB true, [])) (K4 : call s_inRange [vI p.relY, vI 0, vI 1000] = some (vB true, [])) (K5 : call s_inRange [vI p.w, vI (-300), vI 300] = some (vB true, [])) (K6 : call s_inRange [vI p.h, vI (-300), vI 300] = some (vB true, [])) (K7 : call s_inRange [vI p.relW, vI 0, vI 1000] = some (vB false, [])) :
    pfun funcs own call lp s_validPlace [.agg (encPlace p)] = some (vB false, []) :=
  guided_fun (cfg := cf) [true, true, true, true, true, true, true, true, true, true, true, true, true, true, true, true, true, true, true, true, true, true, true, true, false, false, false, false, false, false, false, false] (and_t (not_t rfl) (and_t (not_t (eq_tf rfl)) (and_t (not_t (eq_tf rfl)) (and_t (not_t (eq_tf rfl)) (and_t rfl (and_t (eq_tt rfl) (and_t (eq_tt rfl) (and_t (eq_tt rfl) (and_t rfl (and_t (eq_tt rfl) (and_t (eq_tt rfl) (and_t (eq_tt rfl) (and_t rfl (and_t (eq_tt rfl) (and_t (eq_tt rfl) (and_t (eq_tt rfl) (and_t rfl (and_t (eq_tt rfl) (and_t (eq_tt rfl) (and_t (eq_tt rfl) (and_t rfl (and_t (eq_tt rfl) (and_t (eq_tt rfl) (and_t (eq_tt rfl) (and_t rfl (and_t (eq_tt rfl) (and_t (eq_tt rfl) (and_t (eq_tt rfl) rfl)))))))))))))))))))))))))))) eN (cC K7 (cC K6 (cC K5 (cC K4 (cC K3 (cC K2 (cC K1 cN))))))) lN (by kernel_rfl)
theorem s_validPlace.w9 {call : Call} {lp : Lp} (p : Place) (K1 : call s_inRange [vI p.x, vI (-300), vI 300] = some (vB true, [])) (K2 : call s_inRange [vI p.y, vI (-300), vI 300] = some (vB true, [])) (K3 : call s_inRange [vI p.relX, vI 0, vI 1000] = some (vB true, [])) (K4 : call s_inRange [vI p.relY, vI 0, vI 1000] = some (vB true, [])) (K5 : call s_inRange [vI p.w, vI (-300), vI 300] = some (vB true, [])) (K6 : call s_inRange [vI p.h, vI (-300), vI 300] = some (vB true, [])) (K7 : call s_inRange [vI p.relW, vI 0, vI 1000] = some (vB true, [])) (K8 : call s_inRange [vI p.relH, vI 0, vI 1000] = some (vB false, [])) :
    pfun funcs own call lp s_validPlace [.agg (encPlace p)] = some (vB false, []) :=
  guided_fun (cfg := cf) [true, true, true, true, true, true, true, true, true, true, true, true, true, true, true, true, true, true, true, true, true, true, true, true, true, true, true, true, false, false, false, false] (and_t (not_t rfl) (and_t (not_t (eq_tf rfl)) (and_t (not_t (eq_tf rfl)) (and_t (not_t (eq_tf rfl)) (and_t rfl (and_t (eq_tt rfl) (and_t (eq_tt rfl) (and_t (eq_tt rfl) (and_t rfl (and_t (eq_tt rfl) (and_t (eq_tt rfl) (and_t (eq_tt rfl) (and_t rfl (and_t (eq_tt rfl) (and_t (eq_tt rfl) (and_t (eq_tt rfl) (and_t rfl (and_t (eq_tt rfl) (and_t (eq_tt rfl) (and_t (eq_tt rfl) (and_t rfl (and_t (eq_tt rfl) (and_t (eq_tt rfl) (and_t (eq_tt rfl) (and_t rfl (and_t (eq_tt rfl) (and_t (eq_tt rfl) (and_t (eq_tt rfl) (and_t rfl (and_t (eq_tt rfl) (and_t (eq_tt rfl) (and_t (eq_tt rfl) rfl)))))))))))))))))))))))))))))))) eN (cC K8 (cC K7 (cC K6 (cC K5 (cC K4 (cC K3 (cC K2 (cC K1 cN)))))))) lN (by kernel_rfl)
def s_validLines.s0 (list : List (List C)) (i : Int) : St := ⟨[(0, .one (.rsl list)), (3, vI i)], []⟩
def s_validLines.e0_0 (list : List (List C)) : St := ⟨[(0, .one (.rsl list)), (2, vB false)], []⟩
def s_validLines.e0_1 (list : List (List C)) : St := ⟨[(0, .one (.rsl list))], []⟩
abbrev s_validLines.r0 (call : Call) (lp : Lp) := round call cf lp [0, 3] [] [0, 2] [] b128_0
theorem s_validLines.l0_1 {call : Call} {lp : Lp} (list : List (List C)) (i : Int) (e : Line) (H1 : decide (i < (list.length : Int)) = true) (H2 : decide (0 ≤ i) = true) (E1 : list[(i).toNat]? = some (encLine e)) (K1 : call s_validLine [.agg (encLine e)] = some (vB false, [])) :
    s_validLines.r0 call lp (s_validLines.s0 list i) = some (.ret, (s_validLines.e0_0 list)) :=
  guided_round [true, true] (and_t (not_t rfl) (and_t H2 (and_t H1 rfl))) (eC E1 eN) (cC K1 cN) lN (by kernel_rfl)
theorem s_validLines.l0_2 {call : Call} {lp : Lp} (list : List (List C)) (i : Int) (H1 : decide (i < (list.length : Int)) = false) :
    s_validLines.r0 call lp (s_validLines.s0 list i) = some (.exit 0, (s_validLines.e0_1 list)) :=
  guided_round [false] (and_t (not_t H1) rfl) eN cN lN (by kernel_rfl)
theorem s_validLines.l0_3 {call : Call} {lp : Lp} (list : List (List C)) (i : Int) (e : Line) (H1 : decide (i < (list.length : Int)) = true) (H2 : decide (0 ≤ i) = true) (E1 : list[(i).toNat]? = some (encLine e)) (K1 : call s_validLine [.agg (encLine e)] = some (vB true, [])) :
    s_validLines.r0 call lp (s_validLines.s0 list i) = some (.normal, (s_validLines.s0 list (w64 (i + 1)))) :=
  guided_round [true, false] (and_t (not_t (not_f rfl)) (and_t H2 (and_t H1 rfl))) (eC E1 eN) (cC K1 cN) lN (by kernel_rfl)
theorem s_validLines.w1 {call : Call} {lp : Lp} (list : List Line) (list2 : List (List C)) (L1 : lp (s_validLines.r0 call lp) (s_validLines.s0 (list.map encLine) 0) = some (.ret, (s_validLines.e0_0 list2))) :
    pfun funcs own call lp s_validLines [.one (.rsl (list.map encLine))] = some (vB false, []) :=
  guided_fun (cfg := cf) [] rfl eN cN (lC L1 lN) (by kernel_rfl)
theorem s_validLines.w2 {call : Call} {lp : Lp} (list : List Line) (list2 : List (List C)) (r : Bool) (K1 : call s_inRange [vI (list2.length : Int), vI 1, vI 5] = some (vB r, [])) (L1 : lp (s_validLines.r0 call lp) (s_validLines.s0 (list.map encLine) 0) = some (.exit 0, (s_validLines.e0_1 list2))) :
    pfun funcs own call lp s_validLines [.one (.rsl (list.map encLine))] = some (vB r, []) :=
  guided_fun (cfg := cf) [] rfl eN (cC K1 cN) (lC L1 lN) (by kernel_rfl)
theorem s_validCell.w1 {call : Call} {lp : Lp} (cols : List Line) (rows : List Line) (cells : List Cell) (c : Cell) (r9 : Bool) (K1 : call s_inRange [vI c.col, vI 0, vI (w64 ((((cols.map encLine).length : Nat) : Int) - 1))] = some (vB true, [])) (K2 : call s_inRange [vI c.row, vI 0, vI (w64 ((((rows.map encLine).length : Nat) : Int) - 1))] = some (vB true, [])) (K3 : call s_inRange [vI c.manyCols, vI 1, vI (w64 ((((cols.map encLine).length : Nat) : Int) - c.col))] = some (vB true, [])) (K4 : call s_inRange [vI c.manyRows, vI 1, vI (w64 ((((rows.map encLine).length : Nat) : Int) - c.row))] = some (vB true, [])) (K5 : call s_inRange [vI c.w, vI 0, vI 30] = some (vB true, [])) (K6 : call s_inRange [vI c.h, vI 0, vI 30] = some (vB true, [])) (K7 : call s_inRange [vI c.stick, vI 0, vI 15] = some (vB true, [])) (K8 : call s_inRange [vI c.padX, vI 0, vI 10] = some (vB true, [])) (K9 : call s_inRange [vI c.padY, vI 0, vI 10] = some (vB r9, [])) :
    pfun funcs own call lp s_validCell [.agg [.rsl (cols.map encLine), .rsl (rows.map encLine), .rsl (cells.map encCell)], .agg (encCell c)] = some (vB r9, []) :=
  guided_fun (cfg := cf) [true, true, true, true, true, true, true, true, true, true, true, true, true, true, true, true, true, true, true, true, true, true, true, true, true, true, true, true, true, true, true, true, true, true, true, true, true, true, true, true, true, true, true, true, true, true, true, true] (and_t rfl (and_t (eq_tt rfl) (and_t (eq_tt rfl) (and_t (eq_tt rfl) (and_t rfl (and_t (eq_tt rfl) (and_t (eq_tt rfl) (and_t (eq_tt rfl) (and_t rfl (and_t (eq_tt rfl) (and_t (eq_tt rfl) (and_t (eq_tt rfl) (and_t rfl (and_t (eq_tt rfl) (and_t (eq_tt rfl) (and_t (eq_tt rfl) (and_t rfl (and_t (eq_tt rfl) (and_t (eq_tt rfl) (and_t (eq_tt rfl) (and_t rfl (and_t (eq_tt rfl) (and_t (eq_tt rfl) (and_t (eq_tt rfl) (and_t (eq_tt rfl) (and_t (eq_tt rfl) (and_t (eq_tt rfl) (and_t (eq_tt rfl) (and_t (eq_tt rfl) (and_t (eq_tt rfl) (and_t rfl (and_t (eq_tt rfl) (and_t (eq_tt rfl) (and_t (eq_tt rfl) (and_t (eq_tt rfl) (and_t (eq_tt rfl) (and_t (eq_tt rfl) (and_t (eq_tt rfl) (and_t (eq_tt rfl) (and_t (eq_tt rfl) (and_t rfl (and_t (eq_tt rfl) (and_t (eq_tt rfl) (and_t (eq_tt rfl) (and_t (eq_tt rfl) (and_t (eq_tt rfl) (and_t (eq_tt rfl) (and_t (eq_tt rfl) rfl)))))))))))))))))))))))))))))))))))))))))))))))) eN (cC K9 (cC K8 (cC K7 (cC K6 (cC K5 (cC K4 (cC K3 (cC K2 (cC K1 cN))))))))) lN (by kernel_rfl)
theorem s_validCell.w2 {call : Call} {lp : Lp} (cols : List Line) (rows : List Line) (cells : List Cell) (c : Cell) (K1 : call s_inRange [vI c.col, vI 0, vI (w64 ((((cols.map encLine).length : Nat) : Int) - 1))] = some (vB false, [])) :
    pfun funcs own call lp s_validCell [.agg [.rsl (cols.map encLine), .rsl (rows.map encLine), .rsl (cells.map encCell)], .agg (encCell c)] = some (vB false, []) :=
  guided_fun (cfg := cf) [false, false, false, false, false, false, false, false, false, false, false, false, false, false, false, false, false, false, false, false, false, false, false, false, false, false, false, false, false, false, false, false, false, false, false, false, false, false, false, false, false, false, false, false, false, false, false, false] (and_t (not_t rfl) (and_t (not_t (eq_tf rfl)) (and_t (not_t (eq_tf rfl)) (and_t (not_t (eq_tf rfl)) (and_t (not_t (eq_tf rfl)) (and_t (not_t (eq_tf rfl)) (and_t (not_t (eq_tf rfl)) (and_t (not_t (eq_tf rfl)) rfl)))))))) eN (cC K1 cN) lN (by kernel_rfl)
theorem s_validCell.w3 {call : Call} {lp : Lp} (cols : List Line) (rows : List Line) (cells : List Cell) (c : Cell) (K1 : call s_inRange [vI c.col, vI 0, vI (w64 ((((cols.map encLine).length : Nat) : Int) - 1))] = some (vB true, [])) (K2 : call s_inRange [vI c.row, vI 0, vI (w64 ((((rows.map encLine).length : Nat) : Int) - 1))] = some (vB false, [])) :
    pfun funcs own call lp s_validCell [.agg [.rsl (cols.map encLine), .rsl (rows.map encLine), .rsl (cells.map encCell)], .agg (encCell c)] = some (vB false, []) :=
  guided_fun (cfg := cf) [true, true, true, true, true, true, true, true, false, false, false, false, false, false, false, false, false, false, false, false, false, false, false, false, false, false, false, false, false, false, false, false, false, false, false, false, false, false, false, false, false, false, false, false, false, false, false, false] (and_t (not_t rfl) (and_t (not_t (eq_tf rfl)) (and_t (not_t (eq_tf rfl)) (and_t (not_t (eq_tf rfl)) (and_t (not_t (eq_tf rfl)) (and_t (not_t (eq_tf rfl)) (and_t (not_t (eq_tf rfl)) (and_t (not_t (eq_tf rfl)) (and_t (not_t (eq_tf rfl)) (and_t (not_t (eq_tf rfl)) (and_t rfl (and_t (eq_tt rfl) (and_t (eq_tt rfl) (and_t (eq_tt rfl) (and_t (eq_tt rfl) (and_t (eq_tt rfl) (and_t (eq_tt rfl) (and_t (eq_tt rfl) rfl)))))))))))))))))) eN (cC K2 (cC K1 cN)) lN (by kernel_rfl)
theorem s_validCell.w4 {call : Call} {lp : Lp} (cols : List Line) (rows : List Line) (cells : List Cell) (c : Cell) (K1 : call s_inRange [vI c.col, vI 0, vI (w64 ((((cols.map encLine).length : Nat) : Int) - 1))] = some (vB true, [])) (K2 : call s_inRange [vI c.row, vI 0, vI (w64 ((((rows.map encLine).length : Nat) : Int) - 1))] = some (vB true, [])) (K3 : call s_inRange [vI c.manyCols, vI 1, vI (w64 ((((cols.map encLine).length : Nat) : Int) - c.col))] = some (vB false, [])) :
    pfun funcs own call lp s_validCell [.agg [.rsl (cols.map encLine), .rsl (rows.map encLine), .rsl (cells.map encCell)], .agg (encCell c)] = some (vB false, []) :=
  guided_fun (cfg := cf) [true, true, true, true, true, true, true, true, true, true, true, true, true, true, true, true, true, true, false, false, false, false, false, false, false, false, false, false, false, false, false, false, false, false, false, false, false, false, false, false, false, false, false, false, false, false, false, false] (and_t (not_t rfl) (and_t (not_t (eq_tf rfl)) (and_t (not_t (eq_tf rfl)) (and_t (not_t (eq_tf rfl)) (and_t (not_t (eq_tf rfl)) (and_t (not_t (eq_tf rfl)) (and_t (not_t (eq_tf rfl)) (and_t (not_t (eq_tf rfl)) (and_t (not_t (eq_tf rfl)) (and_t (not_t (eq_tf rfl)) (and_t rfl (and_t (eq_tt rfl) (and_t (eq_tt rfl) (and_t (eq_tt rfl) (and_t (eq_tt rfl) (and_t (eq_tt rfl) (and_t (eq_tt rfl) (and_t (eq_tt rfl) (and_t (eq_tt rfl) (and_t (eq_tt rfl) (and_t rfl (and_t (eq_tt rfl) (and_t (eq_tt rfl) (and_t (eq_tt rfl) (and_t (eq_tt rfl) (and_t (eq_tt rfl) (and_t (eq_tt rfl) (and_t (eq_tt rfl) rfl)))))))))))))))))))))))))))) eN (cC K3 (cC K2 (cC K1 cN))) lN (by kernel_rfl)
theorem s_validCell.w5 {call : Call} {lp : Lp} (cols : List Line) (rows : List Line) (cells : List Cell) (c : Cell) (K1 : call s_inRange [vI c.col, vI 0, vI (w64 ((((cols.map encLine).length : Nat) : Int) - 1))] = some (vB true, [])) (K2 : call s_inRange [vI c.row, vI 0, vI (w64 ((((rows.map encLine).length : Nat) : Int) - 1))] = some (vB true, [])) (K3 : call s_inRange [vI c.manyCols, vI 1, vI (w64 ((((cols.map encLine).length : Nat) : Int) - c.col))] = some (vB true, [])) (K4 : call s_inRange [vI c.manyRows, vI 1, vI (w64 ((((rows.map encLine).length : Nat) : Int) - c.row))] = some (vB false, [])) :
    pfun funcs own call lp s_validCell [.agg [.rsl (cols.map encLine), .rsl (rows.map encLine), .rsl (cells.map encCell)], .agg (encCell c)] = some (vB false, []) :=
  guided_fun (cfg := cf) [true, true, true, true, true, true, true, true, true, true, true, true, true, true, true, true, true, true, true, true, true, true, true, true, true, true, true, true, false, false, false, false, false, false, false, false, false, false, false, false, false, false, false, false, false, false, false, false] (and_t (not_t rfl) (and_t (not_t (eq_tf rfl)) (and_t (not_t (eq_tf rfl)) (and_t (not_t (eq_tf rfl)) (and_t rfl (and_t (eq_tt rfl) (and_t (eq_tt rfl) (and_t (eq_tt rfl) (and_t (eq_tt rfl) (and_t (eq_tt rfl) (and_t (eq_tt rfl) (and_t (eq_tt rfl) (and_t (eq_tt rfl) (and_t (eq_tt rfl) (and_t rfl (and_t (eq_tt rfl) (and_t (eq_tt rfl) (and_t (eq_tt rfl) (and_t (eq_tt rfl) (and_t (eq_tt rfl) (and_t (eq_tt rfl) (and_t (eq_tt rfl) (and_t (eq_tt rfl) (and_t (eq_tt rfl) (and_t rfl (and_t (eq_tt rfl) (and_t (eq_tt rfl) (and_t (eq_tt rfl) (and_t (eq_tt rfl) (and_t (eq_tt rfl) (and_t (eq_tt rfl) (and_t (eq_tt rfl) rfl)))))))))))))))))))))))))))))))) eN (cC K4 (cC K3 (cC K2 (cC K1 cN)))) lN (by kernel_rfl)
theorem s_validCell.w6 {call : Call} {lp : Lp} (cols : List Line) (rows : List Line) (cells : List Cell) (c : Cell) (K1 : call s_inRange [vI c.col, vI 0, vI (w64 ((((cols.map encLine).length : Nat) : Int) - 1))] = some (vB true, [])) (K2 : call s_inRange [vI c.row, vI 0, vI (w64 ((((rows.map encLine).length : Nat) : Int) - 1))] = some (vB true, [])) (K3 : call s_inRange [vI c.manyCols, vI 1, vI (w64 ((((cols.map encLine).length : Nat) : Int) - c.col))] = some (vB true, [])) (K4 : call s_inRange [vI c.manyRows, vI 1, vI (w64 ((((rows.map encLine).length : Nat) : Int) - c.row))] = some (vB true, [])) (K5 : call s_inRange [vI c.w, vI 0, vI 30] = some (vB false, [])) :
    pfun funcs own call lp s_validCell [.agg [.rsl (cols.map encLine), .rsl (rows.map encLine), .rsl (cells.map encCell)], .agg (encCell c)] = some (vB false, []) :=
  guided_fun (cfg := cf) [true, true, true, true, true, true, true, true, true, true, true, true, true, true, true, true, true, true, true, true, true, true, true, true, true, true, true, true, true, true, true, true, false, false, false, false, false, false, false, false, false, false, false, false, false, false, false, false] (and_t (not_t rfl) (and_t (not_t (eq_tf rfl)) (and_t (not_t (eq_tf rfl)) (and_t (not_t (eq_tf rfl)) (and_t rfl (and_t (eq_tt rfl) (and_t (eq_tt rfl) (and_t (eq_tt rfl) (and_t rfl (and_t (eq_tt rfl) (and_t (eq_tt rfl) (and_t (eq_tt rfl) (and_t (eq_tt rfl) (and_t (eq_tt rfl) (and_t (eq_tt rfl) (and_t (eq_tt rfl) (and_t (eq_tt rfl) (and_t (eq_tt rfl) (and_t rfl (and_t (eq_tt rfl) (and_t (eq_tt rfl) (and_t (eq_tt rfl) (and_t (eq_tt rfl) (and_t (eq_tt rfl) (and_t (eq_tt rfl) (and_t (eq_tt rfl) (and_t (eq_tt rfl) (and_t (eq_tt rfl) (and_t rfl (and_t (eq_tt rfl) (and_t (eq_tt rfl) (and_t (eq_tt rfl) (and_t (eq_tt rfl) (and_t (eq_tt rfl) (and_t (eq_tt rfl) (and_t (eq_tt rfl) rfl)))))))))))))))))))))))))))))))))))) eN (cC K5 (cC K4 (cC K3 (cC K2 (cC K1 cN))))) lN (by kernel_rfl)
theorem s_validCell.w7 {call : Call} {lp : Lp} (cols : List Line) (rows : List Line) (cells : List Cell) (c : Cell) (K1 : call s_inRange [vI c.col, vI 0, vI (w64 ((((cols.map encLine).length : Nat) : Int) - 1))] = some (vB true, [])) (K2 : call s_inRange [vI c.row, vI 0, vI (w64 ((((rows.map encLine).length : Nat) : Int) - 1))] = some (vB true, [])) (K3 : call s_inRange [vI c.manyCols, vI 1, vI (w64 ((((cols.map encLine).length : Nat) : Int) - c.col))] = some (vB true, [])) (K4 : call s_inRange [vI c.manyRows, vI 1, vI (w64 ((((rows.map encLine).length : Nat) : Int) - c.row))] = some (vB true, [])) (K5 : call s_inRange [vI c.w, vI 0, vI 30] = some (vB true, [])) (K6 : call s_inRange [vI c.h, vI 0, vI 30] = some (vB false, [])) :
    pfun funcs own call lp s_validCell [.agg [.rsl (cols.map encLine), .rsl (rows.map encLine), .rsl (cells.map encCell)], .agg (encCell c)] = some (vB false, []) :=
  guided_fun (cfg := cf) [true, true, true, true, true, true, true, true, true, true, true, true, true, true, true, true, true, true, true, true, true, true, true, true, true, true, true, true, true, true, true, true, true, true, true, true, false, false, false, false, false, false, false, false, false, false, false, false] (and_t (not_t rfl) (and_t (not_t (eq_tf rfl)) (and_t (not_t (eq_tf rfl)) (and_t (not_t (eq_tf rfl)) (and_t rfl (and_t (eq_tt rfl) (and_t (eq_tt rfl) (and_t (eq_tt rfl) (and_t rfl (and_t (eq_tt rfl) (and_t (eq_tt rfl) (and_t (eq_tt rfl) (and_t rfl (and_t (eq_tt rfl) (and_t (eq_tt rfl) (and_t (eq_tt rfl) (and_t (eq_tt rfl) (and_t (eq_tt rfl) (and_t (eq_tt rfl) (and_t (eq_tt rfl) (and_t (eq_tt rfl) (and_t (eq_tt rfl) (and_t rfl (and_t (eq_tt rfl) (and_t (eq_tt rfl) (and_t (eq_tt rfl) (and_t (eq_tt rfl) (and_t (eq_tt rfl) (and_t (eq_tt rfl) (and_t (eq_tt rfl) (and_t (eq_tt rfl) (and_t (eq_tt rfl) (and_t rfl (and_t (eq_tt rfl) (and_t (eq_tt rfl) (and_t (eq_tt rfl) (and_t (eq_tt rfl) (and_t (eq_tt rfl) (and_t (eq_tt rfl) (and_t (eq_tt rfl) rfl)))))))))))))))))))))))))))))))))))))))) eN (cC K6 (cC K5 (cC K4 (cC K3 (cC K2 (cC K1 cN)))))) lN (by kernel_rfl)
theorem s_validCell.w8 {call : Call} {lp : Lp} (cols : List Line) (rows : List Line) (cells : List Cell) (c : Cell) (K1 : call s_inRange [vI c.col, vI 0, vI (w64 ((((cols.map encLine).length : Nat) : Int) - 1))] = some (vB true, [])) (K2 : call s_inRange [vI c.row, vI 0, vI (w64 ((((rows.map encLine).length : Nat) : Int) - 1))] = some (vB true, [])) (K3 : call s_inRange [vI c.manyCols, vI 1, vI (w64 ((((cols.map encLine).length : Nat) : Int) - c.col))] = some (vB true, [])) (K4 : call s_inRange [vI c.manyRows, vI 1, vI (w64 ((((rows.map encLine).length : Nat) : Int) - c.row))] = some (vB true, [])) (K5 : call s_inRange [vI c.w, vI 0, vI 30] = some (vB true, [])) (K6 : call s_inRange [vI c.h, vI 0, vI 30] = some (vB true, [])) (K7 : call s_inRange [vI c.stick, vI 0, vI 15] = some (vB false, [])) :
    pfun funcs own call lp s_validCell [.agg [.rsl (cols.map encLine), .rsl (rows.map encLine), .rsl (cells.map encCell)], .agg (encCell c)] = some (vB false, []) :=
  guided_fun (cfg := cf) [true, true, true, true, true, true, true, true, true, true, true, true, true, true, true, true, true, true, true, true, true, true, true, true, true, true, true, true, true, true, true, true, true, true, true, true, true, true, true, true, false, false, false, false, false, false, false, false] (and_t (not_t rfl) (and_t (not_t (eq_tf rfl)) (and_t (not_t (eq_tf rfl)) (and_t (not_t (eq_tf rfl)) (and_t rfl (and_t (eq_tt rfl) (and_t (eq_tt rfl) (and_t (eq_tt rfl) (and_t rfl (and_t (eq_tt rfl) (and_t (eq_tt rfl) (and_t (eq_tt rfl) (and_t rfl (and_t (eq_tt rfl) (and_t (eq_tt rfl) (and_t (eq_tt rfl) (and_t rfl (and_t (eq_tt rfl) (and_t (eq_tt rfl) (and_t (eq_tt rfl) (and_t (eq_tt rfl) (and_t (eq_tt rfl) (and_t (eq_tt rfl) (and_t (eq_tt rfl) (and_t (eq_tt rfl) (and_t (eq_tt rfl) (and_t rfl (and_t (eq_tt rfl) (and_t (eq_tt rfl) (and_t (eq_tt rfl) (and_t (eq_tt rfl) (and_t (eq_tt rfl) (and_t (eq_tt rfl) (and_t (eq_tt rfl) (and_t (eq_tt rfl) (and_t (eq_tt rfl) (and_t rfl (and_t (eq_tt rfl) (and_t (eq_tt rfl) (and_t (eq_tt rfl) (and_t (eq_tt rfl) (and_t (eq_tt rfl) (and_t (eq_tt rfl) (and_t (eq_tt rfl) rfl)))))))))))))))))))))))))))))))))))))))))))) eN (cC K7 (cC K6 (cC K5 (cC K4 (cC K3 (cC K2 (cC K1 cN))))))) lN (by kernel_rfl)
theorem s_validCell.w9 {call : Call} {lp : Lp} (cols : List Line) (rows : List Line) (cells : List Cell) (c : Cell) (K1 : call s_inRange [vI c.col, vI 0, vI (w64 ((((cols.map encLine).length : Nat) : Int) - 1))] = some (vB true, [])) (K2 : call s_inRange [vI c.row, vI 0, vI (w64 ((((rows.map encLine).length : Nat) : Int) - 1))] = some (vB true, [])) (K3 : call s_inRange [vI c.manyCols, vI 1, vI (w64 ((((cols.map encLine).length : Nat) : Int) - c.col))] = some (vB true, [])) (K4 : call s_inRange [vI c.manyRows, vI 1, vI (w64 ((((rows.map encLine).length : Nat) : Int) - c.row))] = some (vB true, [])) (K5 : call s_inRange [vI c.w, vI 0, vI 30] = some (vB true, [])) (K6 : call s_inRange [vI c.h, vI 0, vI 30] = some (vB true, [])) (K7 : call s_inRange [vI c.stick, vI 0, vI 15] = some (vB true, [])) (K8 : call s_inRange [vI c.padX, vI 0, vI 10] = some (vB false, [])) :
    pfun funcs own call lp s_validCell [.agg [.rsl (cols.map encLine), .rsl (rows.map encLine), .rsl (cells.map encCell)], .agg (encCell c)] = some (vB false, []) :=
  guided_fun (cfg := cf) [true, true, true, true, true, true, true, true, true, true, true, true, true, true, true, true, true, true, true, true, true, true, true, true, true, true, true, true, true, true, true, true, true, true, true, true, true, true, true, true, true, true, true, true, false, false, false, false] (and_t (not_t rfl) (and_t (not_t (eq_tf rfl)) (and_t (not_t (eq_tf rfl)) (and_t (not_t (eq_tf rfl)) (and_t rfl (and_t (eq_tt rfl) (and_t (eq_tt rfl) (and_t (eq_tt rfl) (and_t rfl (and_t (eq_tt rfl) (and_t (eq_tt rfl) (and_t (eq_tt rfl) (and_t rfl (and_t (eq_tt rfl) (and_t (eq_tt rfl) (and_t (eq_tt rfl) (and_t rfl (and_t (eq_tt rfl) (and_t (eq_tt rfl) (and_t (eq_tt rfl) (and_t rfl (and_t (eq_tt rfl) (and_t (eq_tt rfl) (and_t (eq_tt rfl) (and_t (eq_tt rfl) (and_t (eq_tt rfl) (and_t (eq_tt rfl) (and_t (eq_tt rfl) (and_t (eq_tt rfl) (and_t (eq_tt rfl) (and_t rfl (and_t (eq_tt rfl) (and_t (eq_tt rfl) (and_t (eq_tt rfl) (and_t (eq_tt rfl) (and_t (eq_tt rfl) (and_t (eq_tt rfl) (and_t (eq_tt rfl) (and_t (eq_tt rfl) (and_t (eq_tt rfl) (and_t rfl (and_t (eq_tt rfl) (and_t (eq_tt rfl) (and_t (eq_tt rfl) (and_t (eq_tt rfl) (and_t (eq_tt rfl) (and_t (eq_tt rfl) (and_t (eq_tt rfl) rfl)))))))))))))))))))))))))))))))))))))))))))))))) eN (cC K8 (cC K7 (cC K6 (cC K5 (cC K4 (cC K3 (cC K2 (cC K1 cN)))))))) lN (by kernel_rfl)
theorem s_outer.w1 {call : Call} {lp : Lp} (p : Pack) :
    pfun funcs own call lp s_outer [.agg (encPack p)] = some (.tup [vI (w64 (p.w + (w64 (2 * p.padX)))), vI (w64 (p.h + (w64 (2 * p.padY))))], []) :=
  guided_fun (cfg := cf) [] rfl eN cN lN (by kernel_rfl)
theorem s_upright.w1 {call : Call} {lp : Lp} (side : Int) (H1 : (side == 0) = true) :
    pfun funcs own call lp s_upright [vI side] = some (vB true, []) :=
  guided_fun (cfg := cf) [false, false, true] (and_t H1 (and_t (not_t (eq_ft H1)) (and_t (not_t (eq_ft H1)) rfl))) eN cN lN (by kernel_rfl)
theorem s_upright.w2 {call : Call} {lp : Lp} (side : Int) (H1 : (side == 0) = false) :
    pfun funcs own call lp s_upright [vI side] = some (vB (side == 1), []) :=
  guided_fun (cfg := cf) [true, true, false] (and_t (not_t H1) (and_t (eq_ff H1) (and_t (eq_ff H1) rfl))) eN cN lN (by kernel_rfl)
def s_total.s0 (list : List (List C)) (n : Int) (i : Int) : St := ⟨[(0, .one (.rsl list)), (3, vI n), (4, vI i)], []⟩
def s_total.e0_0 (n : Int) : St := ⟨[(3, vI n)], []⟩
abbrev s_total.r0 (call : Call) (lp : Lp) := round call cf lp [0, 3, 4] [] [2, 3] [] b139_0
theorem s_total.l0_1 {call : Call} {lp : Lp} (list : List (List C)) (n : Int) (i : Int) (e : Int) (H1 : decide (i < (list.length : Int)) = true) (H2 : decide (0 ≤ i) = true) (E1 : list[(i).toNat]? = some [.int .i64 e]) :
    s_total.r0 call lp (s_total.s0 list n i) = some (.normal, (s_total.s0 list (w64 (n + e)) (w64 (i + 1)))) :=
  guided_round [true] (and_t H2 (and_t H1 rfl)) (eC E1 eN) cN lN (by kernel_rfl)
theorem s_total.l0_2 {call : Call} {lp : Lp} (list : List (List C)) (n : Int) (i : Int) (H1 : decide (i < (list.length : Int)) = false) :
    s_total.r0 call lp (s_total.s0 list n i) = some (.exit 0, (s_total.e0_0 n)) :=
  guided_round [false] (and_t (not_t H1) rfl) eN cN lN (by kernel_rfl)
theorem s_total.w1 {call : Call} {lp : Lp} (list : List Int) (n : Int) (L1 : lp (s_total.r0 call lp) (s_total.s0 (list.map encInt) 0 0) = some (.exit 0, (s_total.e0_0 n))) :
    pfun funcs own call lp s_total [.one (.rsl (list.map encInt))] = some (vI n, []) :=
  guided_fun (cfg := cf) [] rfl eN cN (lC L1 lN) (by kernel_rfl)
def s_wished.s0 (lines : List (List C)) (spans : List (List C)) (outlen : Nat) (i : Int) (r13 : List (List C)) : St := ⟨[(0, .one (.rsl lines)), (1, .one (.rsl spans)), (5, .one (.ref 13 outlen)), (6, vI i)], [(13, .row false 0 r13 none)]⟩
def s_wished.e0_0 (lines : List (List C)) (spans : List (List C)) (outlen : Nat) (r13 : List (List C)) : St := ⟨[(0, .one (.rsl lines)), (1, .one (.rsl spans)), (5, .one (.ref 13 outlen))], [(13, .row false 0 r13 none)]⟩
abbrev s_wished.r0 (call : Call) (lp : Lp) := round call cf lp [0, 1, 5, 6] [13, 27] [0, 1, 4, 5] [4, 13, 27] b140_0
def s_wished.s1 (lines : List (List C)) (spans : List (List C)) (outlen : Nat) (many : Int) (r13 : List (List C)) : St := ⟨[(0, .one (.rsl lines)), (1, .one (.rsl spans)), (5, .one (.ref 13 outlen)), (7, vI many)], [(13, .row false 0 r13 none)]⟩
def s_wished.e1_0 (outlen : Nat) (r13 : List (List C)) : St := ⟨[(5, .one (.ref 13 outlen))], [(13, .row false 0 r13 none)]⟩
abbrev s_wished.r1 (call : Call) (lp : Lp) := round call cf lp [0, 1, 5, 7] [13, 27] [4, 5] [4, 13, 27] b140_1
def s_wished.s2 (lines : List (List C)) (spans : List (List C)) (outlen : Nat) (many : Int) (i : Int) (r13 : List (List C)) : St := ⟨[(0, .one (.rsl lines)), (1, .one (.rsl spans)), (5, .one (.ref 13 outlen)), (7, vI many), (8, vI i)], [(13, .row false 0 r13 none)]⟩
def s_wished.e2_0 (lines : List (List C)) (spans : List (List C)) (outlen : Nat) (many : Int) (r13 : List (List C)) : St := ⟨[(0, .one (.rsl lines)), (1, .one (.rsl spans)), (5, .one (.ref 13 outlen)), (7, vI many)], [(13, .row false 0 r13 none)]⟩
abbrev s_wished.r2 (call : Call) (lp : Lp) := round call cf lp [0, 1, 5, 7, 8] [13, 27] [0, 1, 4, 5, 7] [4, 13, 27] b140_2
def s_wished.s3 (lines : List (List C)) (spans : List (List C)) (outlen : Nat) (many : Int) (i : Int) (partslen : Nat) (k : Int) (s : Span) (r13 : List (List C)) (r1074 : List (List C)) : St := ⟨[(0, .one (.rsl lines)), (1, .one (.rsl spans)), (5, .one (.ref 13 outlen)), (7, vI many), (8, vI i), (9, .one (.bptr 9 0)), (11, .one (.ref 1074 partslen)), (12, vI k)], [(9, .box false (encSpan s)), (13, .row false 0 r13 none), (1074, .row false 0 r1074 none)]⟩
def s_wished.e3_0 (lines : List (List C)) (spans : List (List C)) (outlen : Nat) (many : Int) (i : Int) (r13 : List (List C)) : St := ⟨[(0, .one (.rsl lines)), (1, .one (.rsl spans)), (5, .one (.ref 13 outlen)), (7, vI many), (8, vI i)], [(13, .row false 0 r13 none)]⟩
abbrev s_wished.r3 (call : Call) (lp : Lp) := round call cf lp [0, 1, 5, 7, 8, 9, 11, 12] [9, 13, 27, 1074] [0, 1, 4, 5, 7, 8] [4, 13, 27] b140_3
theorem s_wished.l0_1 {call : Call} {lp : Lp} (lines : List (List C)) (spans : List (List C)) (outlen : Nat) (i : Int) (r13 : List (List C)) (e : Line) (H1 : decide (i < (lines.length : Int)) = true) (H2 : decide (0 ≤ i) = true) (H3 : decide (r13.length = outlen) = true) (H4 : (uni 1 r13) = true) (H5 : decide (r13.length + 1 ≤ 17592186044416) = true) (E1 : lines[(i).toNat]? = some (encLine e)) :
    s_wished.r0 call lp (s_wished.s0 lines spans outlen i r13) = some (.normal, (s_wished.s0 lines spans ((r13 ++ [[C.int .i64 e.min]]).length) (w64 (i + 1)) (r13 ++ [[C.int .i64 e.min]]))) :=
  guided_round [true] (and_t (and_t H4 H5) (and_t H3 (and_t H2 (and_t H1 rfl)))) (eC E1 eN) cN lN (by kernel_rfl)
theorem s_wished.l0_2 {call : Call} {lp : Lp} (lines : List (List C)) (spans : List (List C)) (outlen : Nat) (i : Int) (r13 : List (List C)) (H1 : decide (i < (lines.length : Int)) = false) :
    s_wished.r0 call lp (s_wished.s0 lines spans outlen i r13) = some (.exit 0, (s_wished.e0_0 lines spans outlen r13)) :=
  guided_round [false] (and_t (not_t H1) rfl) eN cN lN (by kernel_rfl)
theorem s_wished.l1_1 {call : Call} {lp : Lp} (lines : List (List C)) (spans : List (List C)) (outlen : Nat) (many : Int) (r13 : List (List C)) (lines2 : List (List C)) (spans2 : List (List C)) (outlen2 : Nat) (many2 : Int) (r132 : List (List C)) (H1 : decide (many ≤ (lines.length : Int)) = true) (L1 : lp (s_wished.r2 call lp) (s_wished.s2 lines spans outlen many 0 r13) = some (.exit 4, (s_wished.e2_0 lines2 spans2 outlen2 many2 r132))) :
    s_wished.r1 call lp (s_wished.s1 lines spans outlen many r13) = some (.normal, (s_wished.s1 lines2 spans2 outlen2 (w64 (many2 + 1)) r132)) :=
  guided_round [true] (and_t H1 rfl) eN cN (lC L1 lN) (by kernel_rfl)
theorem s_wished.l1_2 {call : Call} {lp : Lp} (lines : List (List C)) (spans : List (List C)) (outlen : Nat) (many : Int) (r13 : List (List C)) (H1 : decide (many ≤ (lines.length : Int)) = false) :
    s_wished.r1 call lp (s_wished.s1 lines spans outlen many r13) = some (.exit 2, (s_wished.e1_0 outlen r13)) :=
  guided_round [false] (and_t (not_t H1) rfl) eN cN lN (by kernel_rfl)
theorem s_wished.l2_1 {call : Call} {lp : Lp} (lines : List (List C)) (spans : List (List C)) (outlen : Nat) (many : Int) (i : Int) (r13 : List (List C)) (e : Span) (H1 : decide (i < (spans.length : Int)) = true) (H2 : decide (0 ≤ i) = true) (H3 : (e.many != many) = true) (E1 : spans[(i).toNat]? = some (encSpan e)) :
    s_wished.r2 call lp (s_wished.s2 lines spans outlen many i r13) = some (.normal, (s_wished.s2 lines spans outlen many (w64 (i + 1)) r13)) :=
  guided_round [true, true] (and_t H3 (and_t H2 (and_t H1 rfl))) (eC E1 eN) cN lN (by kernel_rfl)
theorem s_wished.l2_2 {call : Call} {lp : Lp} (lines : List (List C)) (spans : List (List C)) (outlen : Nat) (many : Int) (i : Int) (r13 : List (List C)) (H1 : decide (i < (spans.length : Int)) = false) :
    s_wished.r2 call lp (s_wished.s2 lines spans outlen many i r13) = some (.exit 4, (s_wished.e2_0 lines spans outlen many r13)) :=
  guided_round [false] (and_t (not_t H1) rfl) eN cN lN (by kernel_rfl)
theorem s_wished.l2_3 {call : Call} {lp : Lp} (lines : List (List C)) (spans : List (List C)) (outlen : Nat) (many : Int) (i : Int) (r13 : List (List C)) (e : Span) (r : Int) (H1 : decide (i < (spans.length : Int)) = true) (H2 : decide (0 ≤ i) = true) (H3 : (e.many != many) = false) (H4 : decide (0 ≤ w64 (e.at_ + e.many)) = true) (H5 : decide (0 ≤ e.at_) = true) (H6 : decide ((e.at_).toNat ≤ (w64 (e.at_ + e.many)).toNat) = true) (H7 : decide ((w64 (e.at_ + e.many)).toNat ≤ outlen) = true) (H8 : decide (r13.length = outlen) = true) (H9 : (uni 1 r13) = true) (H10 : decide (((e.at_).toNat) + (((w64 (e.at_ + e.many)).toNat) - ((e.at_).toNat)) ≤ outlen) = true) (H11 : decide (w64 (e.need - r) ≤ 0) = true) (E1 : spans[(i).toNat]? = some (encSpan e)) (K1 : call s_total [.one (.rsl (cut ((e.at_).toNat) (((w64 (e.at_ + e.many)).toNat) - ((e.at_).toNat)) r13))] = some (vI r, [])) :
    s_wished.r2 call lp (s_wished.s2 lines spans outlen many i r13) = some (.normal, (s_wished.s2 lines spans outlen many (w64 (i + 1)) r13)) :=
  guided_round [true, false, true] (and_t H11 (and_t (and_t H8 H10) (and_t (and_t H8 H9) (and_t (and_t H6 H7) (and_t H5 (and_t H4 (and_t (not_t H3) (and_t H2 (and_t H1 rfl))))))))) (eC E1 eN) (cC K1 cN) lN (by kernel_rfl)
theorem s_wished.l2_4 {call : Call} {lp : Lp} (lines : List (List C)) (spans : List (List C)) (outlen : Nat) (many : Int) (i : Int) (r13 : List (List C)) (e : Span) (r : Int) (r2 : List Int) (r3 : List Int) (lines2 : List (List C)) (spans2 : List (List C)) (outlen2 : Nat) (many2 : Int) (i2 : Int) (r132 : List (List C)) (H1 : decide (i < (spans.length : Int)) = true) (H2 : decide (0 ≤ i) = true) (H3 : (e.many != many) = false) (H4 : decide (0 ≤ w64 (e.at_ + e.many)) = true) (H5 : decide (0 ≤ e.at_) = true) (H6 : decide ((e.at_).toNat ≤ (w64 (e.at_ + e.many)).toNat) = true) (H7 : decide ((w64 (e.at_ + e.many)).toNat ≤ outlen) = true) (H8 : decide (r13.length = outlen) = true) (H9 : (uni 1 r13) = true) (H10 : decide (((e.at_).toNat) + (((w64 (e.at_ + e.many)).toNat) - ((e.at_).toNat)) ≤ outlen) = true) (H11 : decide (w64 (e.need - r) ≤ 0) = false) (H12 : decide ((w64 (e.at_ + e.many)).toNat ≤ lines.length) = true) (H13 : (uni 2 lines) = true) (E1 : spans[(i).toNat]? = some (encSpan e)) (K1 : call s_total [.one (.rsl (cut ((e.at_).toNat) (((w64 (e.at_ + e.many)).toNat) - ((e.at_).toNat)) r13))] = some (vI r, [])) (K2 : call s_weightsOf [.one (.rsl (cut ((e.at_).toNat) (((w64 (e.at_ + e.many)).toNat) - ((e.at_).toNat)) lines))] = some (.one (.sl (r2.map encInt)), [])) (K3 : call s_spread [vI (w64 (e.need - r)), .one (.rsl (r2.map encInt))] = some (.one (.sl (r3.map encInt)), [])) (L1 : lp (s_wished.r3 call lp) (s_wished.s3 lines spans outlen many i ((r3.map encInt).length) 0 e r13 (r3.map encInt)) = some (.exit 6, (s_wished.e3_0 lines2 spans2 outlen2 many2 i2 r132))) :
    s_wished.r2 call lp (s_wished.s2 lines spans outlen many i r13) = some (.normal, (s_wished.s2 lines2 spans2 outlen2 many2 (w64 (i2 + 1)) r132)) :=
  guided_round [true, false, false] (and_t (dr ((r2.map encInt).length)) (and_t (and_t (and_t H6 H12) H13) (and_t H5 (and_t H4 (and_t (not_t H11) (and_t (and_t H8 H10) (and_t (and_t H8 H9) (and_t (and_t H6 H7) (and_t H5 (and_t H4 (and_t (not_t H3) (and_t H2 (and_t H1 rfl))))))))))))) (eC E1 eN) (cC K3 (cC K2 (cC K1 cN))) (lC L1 lN) (by kernel_rfl)
theorem s_wished.l3_1 {call : Call} {lp : Lp} (lines : List (List C)) (spans : List (List C)) (outlen : Nat) (many : Int) (i : Int) (partslen : Nat) (k : Int) (s : Span) (r13 : List (List C)) (r1074 : List (List C)) (e : Int) (e2 : Int) (H1 : decide (k < (partslen : Int)) = true) (H2 : decide (r13.length = outlen) = true) (H3 : decide (0 ≤ w64 (s.at_ + k)) = true) (H4 : decide (w64 (s.at_ + k) < (outlen : Int)) = true) (H5 : decide (0 + outlen ≤ outlen) = true) (H6 : decide (r1074.length = partslen) = true) (H7 : decide (0 ≤ k) = true) (H8 : decide (0 + partslen ≤ partslen) = true) (E1 : r13[(w64 (s.at_ + k)).toNat]? = some [.int .i64 e]) (E2 : r1074[(k).toNat]? = some [.int .i64 e2]) :
    s_wished.r3 call lp (s_wished.s3 lines spans outlen many i partslen k s r13 r1074) = some (.normal, (s_wished.s3 lines spans outlen many i partslen (w64 (k + 1)) s (r13.set ((w64 (s.at_ + k)).toNat) [C.int .i64 (w64 (e + e2))]) r1074)) :=
  guided_round [true] (and_t H2 (and_t (and_t H2 (and_t H3 (and_t H4 H5))) (and_t H6 (and_t (and_t H6 (and_t H7 (and_t H1 H8))) (and_t H2 (and_t (and_t H2 (and_t H3 (and_t H4 H5))) (and_t H1 rfl))))))) (eC E1 (eC E1 (eC E2 (eC E2 (eC E1 (eC E1 eN)))))) cN lN (by kernel_rfl)
theorem s_wished.l3_2 {call : Call} {lp : Lp} (lines : List (List C)) (spans : List (List C)) (outlen : Nat) (many : Int) (i : Int) (partslen : Nat) (k : Int) (s : Span) (r13 : List (List C)) (r1074 : List (List C)) (H1 : decide (k < (partslen : Int)) = false) :
    s_wished.r3 call lp (s_wished.s3 lines spans outlen many i partslen k s r13 r1074) = some (.exit 6, (s_wished.e3_0 lines spans outlen many i r13)) :=
  guided_round [false] (and_t (not_t H1) rfl) eN cN lN (by kernel_rfl)
theorem s_wished.w1 {call : Call} {lp : Lp} (lines : List Line) (spans : List Span) (lines2 : List (List C)) (spans2 : List (List C)) (outlen : Nat) (r13 : List (List C)) (outlen2 : Nat) (r132 : List (List C)) (H1 : decide (r132.length = outlen2) = true) (L1 : lp (s_wished.r0 call lp) (s_wished.s0 (lines.map encLine) (spans.map encSpan) 0 0 []) = some (.exit 0, (s_wished.e0_0 lines2 spans2 outlen r13))) (L2 : lp (s_wished.r1 call lp) (s_wished.s1 lines2 spans2 outlen 1 r13) = some (.exit 2, (s_wished.e1_0 outlen2 r132))) :
    pfun funcs own call lp s_wished [.one (.rsl (lines.map encLine)), .one (.rsl (spans.map encSpan))] = some (.one (.sl r132), []) :=
  guided_fun (cfg := cf) [] (and_t (and_t H1 rfl) rfl) eN cN (lC L2 (lC L1 lN)) (by kernel_rfl)
def s_colSpans.s0 (outlen : Nat) (i : Int) (g : List (List C)) (g2 : List (List C)) (g3 : List (List C)) (r6 : List (List C)) : St := ⟨[(1, .one (.bptr 1 0)), (3, .one (.ref 6 outlen)), (4, vI i)], [(1, .box false [.rsl g, .rsl g2, .rsl g3]), (6, .row false 0 r6 none)]⟩
def s_colSpans.e0_0 (outlen : Nat) (r6 : List (List C)) : St := ⟨[(3, .one (.ref 6 outlen))], [(6, .row false 0 r6 none)]⟩
abbrev s_colSpans.r0 (call : Call) (lp : Lp) := round call cf lp [1, 3, 4] [1, 6, 32, 1001, 2001, 3001] [2, 3] [2, 6, 32] b141_0
theorem s_colSpans.l0_1 {call : Call} {lp : Lp} (outlen : Nat) (i : Int) (g : List (List C)) (g2 : List (List C)) (g3 : List (List C)) (r6 : List (List C)) (e : Cell) (H1 : decide (i < (g3.length : Int)) = true) (H2 : decide (0 ≤ i) = true) (H3 : decide (r6.length = outlen) = true) (H4 : (uni 3 r6) = true) (H5 : decide (r6.length + 1 ≤ 5864062014805) = true) (E1 : g3[(i).toNat]? = some (encCell e)) :
    s_colSpans.r0 call lp (s_colSpans.s0 outlen i g g2 g3 r6) = some (.normal, (s_colSpans.s0 ((r6 ++ [[C.int .i64 e.col, C.int .i64 e.manyCols, C.int .i64 (w64 (e.w + (w64 (2 * e.padX))))]]).length) (w64 (i + 1)) g g2 g3 (r6 ++ [[C.int .i64 e.col, C.int .i64 e.manyCols, C.int .i64 (w64 (e.w + (w64 (2 * e.padX))))]]))) :=
  guided_round [true] (and_t (and_t H4 H5) (and_t H3 (and_t H2 (and_t H1 rfl)))) (eC E1 eN) cN lN (by kernel_rfl)
theorem s_colSpans.l0_2 {call : Call} {lp : Lp} (outlen : Nat) (i : Int) (g : List (List C)) (g2 : List (List C)) (g3 : List (List C)) (r6 : List (List C)) (H1 : decide (i < (g3.length : Int)) = false) :
    s_colSpans.r0 call lp (s_colSpans.s0 outlen i g g2 g3 r6) = some (.exit 0, (s_colSpans.e0_0 outlen r6)) :=
  guided_round [false] (and_t (not_t H1) rfl) eN cN lN (by kernel_rfl)
theorem s_colSpans.w1 {call : Call} {lp : Lp} (cols : List Line) (rows : List Line) (cells : List Cell) (outlen : Nat) (r6 : List (List C)) (H1 : decide (r6.length = outlen) = true) (L1 : lp (s_colSpans.r0 call lp) (s_colSpans.s0 0 0 (cols.map encLine) (rows.map encLine) (cells.map encCell) []) = some (.exit 0, (s_colSpans.e0_0 outlen r6))) :
    pfun funcs own call lp s_colSpans [.agg [.rsl (cols.map encLine), .rsl (rows.map encLine), .rsl (cells.map encCell)]] = some (.one (.sl r6), []) :=
  guided_fun (cfg := cf) [] (and_t (and_t H1 rfl) rfl) eN cN (lC L1 lN) (by kernel_rfl)
def s_rowSpans.s0 (outlen : Nat) (i : Int) (g : List (List C)) (g2 : List (List C)) (g3 : List (List C)) (r6 : List (List C)) : St := ⟨[(1, .one (.bptr 1 0)), (3, .one (.ref 6 outlen)), (4, vI i)], [(1, .box false [.rsl g, .rsl g2, .rsl g3]), (6, .row false 0 r6 none)]⟩
def s_rowSpans.e0_0 (outlen : Nat) (r6 : List (List C)) : St := ⟨[(3, .one (.ref 6 outlen))], [(6, .row false 0 r6 none)]⟩
abbrev s_rowSpans.r0 (call : Call) (lp : Lp) := round call cf lp [1, 3, 4] [1, 6, 32, 1001, 2001, 3001] [2, 3] [2, 6, 32] b142_0
theorem s_rowSpans.l0_1 {call : Call} {lp : Lp} (outlen : Nat) (i : Int) (g : List (List C)) (g2 : List (List C)) (g3 : List (List C)) (r6 : List (List C)) (e : Cell) (H1 : decide (i < (g3.length : Int)) = true) (H2 : decide (0 ≤ i) = true) (H3 : decide (r6.length = outlen) = true) (H4 : (uni 3 r6) = true) (H5 : decide (r6.length + 1 ≤ 5864062014805) = true) (E1 : g3[(i).toNat]? = some (encCell e)) :
    s_rowSpans.r0 call lp (s_rowSpans.s0 outlen i g g2 g3 r6) = some (.normal, (s_rowSpans.s0 ((r6 ++ [[C.int .i64 e.row, C.int .i64 e.manyRows, C.int .i64 (w64 (e.h + (w64 (2 * e.padY))))]]).length) (w64 (i + 1)) g g2 g3 (r6 ++ [[C.int .i64 e.row, C.int .i64 e.manyRows, C.int .i64 (w64 (e.h + (w64 (2 * e.padY))))]]))) :=
  guided_round [true] (and_t (and_t H4 H5) (and_t H3 (and_t H2 (and_t H1 rfl)))) (eC E1 eN) cN lN (by kernel_rfl)
theorem s_rowSpans.l0_2 {call : Call} {lp : Lp} (outlen : Nat) (i : Int) (g : List (List C)) (g2 : List (List C)) (g3 : List (List C)) (r6 : List (List C)) (H1 : decide (i < (g3.length : Int)) = false) :
    s_rowSpans.r0 call lp (s_rowSpans.s0 outlen i g g2 g3 r6) = some (.exit 0, (s_rowSpans.e0_0 outlen r6)) :=
  guided_round [false] (and_t (not_t H1) rfl) eN cN lN (by kernel_rfl)
theorem s_rowSpans.w1 {call : Call} {lp : Lp} (cols : List Line) (rows : List Line) (cells : List Cell) (outlen : Nat) (r6 : List (List C)) (H1 : decide (r6.length = outlen) = true) (L1 : lp (s_rowSpans.r0 call lp) (s_rowSpans.s0 0 0 (cols.map encLine) (rows.map encLine) (cells.map encCell) []) = some (.exit 0, (s_rowSpans.e0_0 outlen r6))) :
    pfun funcs own call lp s_rowSpans [.agg [.rsl (cols.map encLine), .rsl (rows.map encLine), .rsl (cells.map encCell)]] = some (.one (.sl r6), []) :=
  guided_fun (cfg := cf) [] (and_t (and_t H1 rfl) rfl) eN cN (lC L1 lN) (by kernel_rfl)
theorem l_toLine.w1 {call : Call} {lp : Lp} (a : Line) :
    pfun funcs own call lp l_toLine [.agg (encLine a)] = some (.agg (encLine a), []) :=
  guided_fun (cfg := cf) [] rfl eN cN lN (by kernel_rfl)
theorem x_ContainsFunc_Line.w1 {call : Call} {lp : Lp} (s : List Line) (r : Int) (K1 : call x_IndexFunc_Line [.one (.rsl (s.map encLine)), .one (.fn i_linesOk_1)] = some (vI r, [])) :
    pfun funcs own call lp x_ContainsFunc_Line [.one (.rsl (s.map encLine)), .one (.fn i_linesOk_1)] = some (vB (decide (r ≥ 0)), []) :=
  guided_fun (cfg := cf) [] rfl eN (cC K1 cN) lN (by kernel_rfl)
theorem i_linesOk_1.w1 {call : Call} {lp : Lp} (l : Line) (K1 : call i_within [vI l.weight, vI 0, vI 5] = some (vB false, [])) :
    pfun funcs own call lp i_linesOk_1 [.agg (encLine l)] = some (vB true, []) :=
  guided_fun (cfg := cf) [false, false, false, false, true] (and_t (not_t rfl) (and_t (not_t (eq_ft (not_t rfl))) (and_t (not_t (eq_ft (not_t rfl))) (and_t (not_t (eq_ft (not_t rfl))) (and_t (not_t (eq_ft (not_t rfl))) rfl))))) eN (cC K1 cN) lN (by kernel_rfl)
theorem i_linesOk_1.w2 {call : Call} {lp : Lp} (l : Line) (r2 : Bool) (K1 : call i_within [vI l.weight, vI 0, vI 5] = some (vB true, [])) (K2 : call i_within [vI l.min, vI 0, vI 30] = some (vB r2, [])) :
    pfun funcs own call lp i_linesOk_1 [.agg (encLine l)] = some (vB (!r2), []) :=
  guided_fun (cfg := cf) [true, true, true, true, false] (and_t (not_t (not_f rfl)) (and_t (eq_ff (not_f rfl)) (and_t (eq_ff (not_f rfl)) (and_t (eq_ff (not_f rfl)) (and_t (eq_ff (not_f rfl)) rfl))))) eN (cC K2 (cC K1 cN)) lN (by kernel_rfl)
theorem l_eqLine.w1 {call : Call} {lp : Lp} (a : Line) (b : Line) (H1 : (a.weight != b.weight) = false) (H2 : (a.min != b.min) = false) :
    pfun funcs own call lp l_eqLine [.agg (encLine a), .agg (encLine b)] = some (vB true, []) :=
  guided_fun (cfg := cf) [false, false] (and_t (not_t H2) (and_t (not_t H1) rfl)) eN cN lN (by kernel_rfl)
def i_spread.s0 (n : Int) (weights : List (List C)) (outlen : Nat) (all : Int) (x26 : List (List C)) (x27 : Int) (x28 : Int) (r14 : List (List C)) : St := ⟨[(0, vI n), (1, .one (.rsl weights)), (5, .one (.ref 14 outlen)), (6, vI all), (26, .one (.rsl x26)), (27, vI x27), (28, vI x28)], [(14, .row false 0 r14 none)]⟩
def i_spread.e0_0 (n : Int) (weights : List (List C)) (outlen : Nat) (r14 : List (List C)) : St := ⟨[(0, vI n), (1, .one (.rsl weights)), (5, .one (.ref 14 outlen))], [(14, .row false 0 r14 none)]⟩
abbrev i_spread.r0 (call : Call) (lp : Lp) := round call cf lp [0, 1, 5, 6, 26, 27, 28] [14] [0, 1, 4, 5] [4, 14] b147_0
def i_spread.s1 (outlen : Nat) (missing : Int) (x46 : List (List C)) (x47 : Int) (x48 : Int) (r14 : List (List C)) : St := ⟨[(5, .one (.ref 14 outlen)), (9, vI missing), (46, .one (.rsl x46)), (47, vI x47), (48, vI x48)], [(14, .row false 0 r14 none)]⟩
def i_spread.e1_0 (outlen : Nat) (r14 : List (List C)) : St := ⟨[(5, .one (.ref 14 outlen))], [(14, .row false 0 r14 none)]⟩
abbrev i_spread.r1 (call : Call) (lp : Lp) := round call cf lp [5, 9, 46, 47, 48] [14] [4, 5] [4, 14] b147_1
theorem i_spread.l0_1 {call : Call} {lp : Lp} (n : Int) (weights : List (List C)) (outlen : Nat) (all : Int) (x26 : List (List C)) (x27 : Int) (x28 : Int) (r14 : List (List C)) (e : Int) (e2 : Int) (H1 : decide (x28 < x27) = true) (H2 : decide (0 ≤ x28) = true) (H3 : decide (all ≠ 0) = true) (H4 : decide (r14.length = outlen) = true) (H5 : decide (x28 < (outlen : Int)) = true) (H6 : decide (0 + outlen ≤ outlen) = true) (E1 : x26[(x28).toNat]? = some [.int .i64 e]) (E2 : r14[(x28).toNat]? = some [.int .i64 e2]) :
    i_spread.r0 call lp (i_spread.s0 n weights outlen all x26 x27 x28 r14) = some (.normal, (i_spread.s0 n weights outlen all x26 x27 (w64 (x28 + 1)) (r14.set ((x28).toNat) [C.int .i64 (w64 (Int.tdiv (w64 (n * e)) all))]))) :=
  guided_round [true] (and_t H4 (and_t (and_t H4 (and_t H2 (and_t H5 H6))) (and_t H3 (and_t H2 (and_t H1 rfl))))) (eC E2 (eC E2 (eC E1 eN))) cN lN (by kernel_rfl)
theorem i_spread.l0_2 {call : Call} {lp : Lp} (n : Int) (weights : List (List C)) (outlen : Nat) (all : Int) (x26 : List (List C)) (x27 : Int) (x28 : Int) (r14 : List (List C)) (H1 : decide (x28 < x27) = false) :
    i_spread.r0 call lp (i_spread.s0 n weights outlen all x26 x27 x28 r14) = some (.exit 0, (i_spread.e0_0 n weights outlen r14)) :=
  guided_round [false] (and_t (not_t H1) rfl) eN cN lN (by kernel_rfl)
theorem i_spread.l1_1 {call : Call} {lp : Lp} (outlen : Nat) (missing : Int) (x46 : List (List C)) (x47 : Int) (x48 : Int) (r14 : List (List C)) (e : Int) (e2 : Int) (H1 : decide (x48 < x47) = true) (H2 : decide (0 ≤ x48) = true) (H3 : (e != 0) = true) (H4 : decide (missing > 0) = true) (H5 : decide (r14.length = outlen) = true) (H6 : decide (x48 < (outlen : Int)) = true) (H7 : decide (0 + outlen ≤ outlen) = true) (E1 : x46[(x48).toNat]? = some [.int .i64 e]) (E2 : r14[(x48).toNat]? = some [.int .i64 e2]) :
    i_spread.r1 call lp (i_spread.s1 outlen missing x46 x47 x48 r14) = some (.normal, (i_spread.s1 outlen (w64 (missing - 1)) x46 x47 (w64 (x48 + 1)) (r14.set ((x48).toNat) [C.int .i64 (w64 (e2 + 1))]))) :=
  guided_round [true, true, true, true, true] (and_t H5 (and_t (and_t H5 (and_t H2 (and_t H6 H7))) (and_t H5 (and_t (and_t H5 (and_t H2 (and_t H6 H7))) (and_t H4 (and_t H3 (and_t (eq_tt H3) (and_t (eq_tt H3) (and_t H2 (and_t H1 rfl)))))))))) (eC E2 (eC E2 (eC E2 (eC E2 (eC E1 eN))))) cN lN (by kernel_rfl)
theorem i_spread.l1_2 {call : Call} {lp : Lp} (outlen : Nat) (missing : Int) (x46 : List (List C)) (x47 : Int) (x48 : Int) (r14 : List (List C)) (H1 : decide (x48 < x47) = false) :
    i_spread.r1 call lp (i_spread.s1 outlen missing x46 x47 x48 r14) = some (.exit 2, (i_spread.e1_0 outlen r14)) :=
  guided_round [false] (and_t (not_t H1) rfl) eN cN lN (by kernel_rfl)
theorem i_spread.l1_3 {call : Call} {lp : Lp} (outlen : Nat) (missing : Int) (x46 : List (List C)) (x47 : Int) (x48 : Int) (r14 : List (List C)) (e : Int) (H1 : decide (x48 < x47) = true) (H2 : decide (0 ≤ x48) = true) (H3 : (e != 0) = false) (E1 : x46[(x48).toNat]? = some [.int .i64 e]) :
    i_spread.r1 call lp (i_spread.s1 outlen missing x46 x47 x48 r14) = some (.normal, (i_spread.s1 outlen missing x46 x47 (w64 (x48 + 1)) r14)) :=
  guided_round [true, false, false, false, false] (and_t (not_t H3) (and_t (not_t (eq_tf H3)) (and_t (not_t (eq_tf H3)) (and_t H2 (and_t H1 rfl))))) (eC E1 eN) cN lN (by kernel_rfl)
theorem i_spread.l1_4 {call : Call} {lp : Lp} (outlen : Nat) (missing : Int) (x46 : List (List C)) (x47 : Int) (x48 : Int) (r14 : List (List C)) (e : Int) (H1 : decide (x48 < x47) = true) (H2 : decide (0 ≤ x48) = true) (H3 : (e != 0) = true) (H4 : decide (missing > 0) = false) (E1 : x46[(x48).toNat]? = some [.int .i64 e]) :
    i_spread.r1 call lp (i_spread.s1 outlen missing x46 x47 x48 r14) = some (.normal, (i_spread.s1 outlen missing x46 x47 (w64 (x48 + 1)) r14)) :=
  guided_round [true, true, true, true, false] (and_t (not_t H4) (and_t H3 (and_t (eq_tt H3) (and_t (eq_tt H3) (and_t H2 (and_t H1 rfl)))))) (eC E1 eN) cN lN (by kernel_rfl)
theorem i_spread.w1 {call : Call} {lp : Lp} (n : Int) (weights : List Int) (r : Int) (e : Int) (H1 : decide (0 ≤ (((weights.map encInt).length : Nat) : Int)) = true) (H2 : decide ((((weights.map encInt).length : Nat) : Int) ≤ 17592186044416) = true) (H3 : (r == 0) = true) (H4 : decide (0 ≤ w64 ((((List.replicate (((((weights.map encInt).length : Nat) : Int)).toNat) zInt).length : Nat) : Int) - 1)) = true) (H5 : decide (w64 ((((List.replicate (((((weights.map encInt).length : Nat) : Int)).toNat) zInt).length : Nat) : Int) - 1) < (((List.replicate (((((weights.map encInt).length : Nat) : Int)).toNat) zInt).length : Nat) : Int)) = true) (H6 : decide (0 + ((List.replicate (((((weights.map encInt).length : Nat) : Int)).toNat) zInt).length) ≤ (List.replicate (((((weights.map encInt).length : Nat) : Int)).toNat) zInt).length) = true) (E1 : (List.replicate (((((weights.map encInt).length : Nat) : Int)).toNat) zInt)[(w64 ((((List.replicate (((((weights.map encInt).length : Nat) : Int)).toNat) zInt).length : Nat) : Int) - 1)).toNat]? = some [.int .i64 e]) (K1 : call i_sum [.one (.rsl (weights.map encInt))] = some (vI r, [])) :
    pfun funcs own call lp i_spread [vI n, .one (.rsl (weights.map encInt))] = some (.one (.sl ((List.replicate (((((weights.map encInt).length : Nat) : Int)).toNat) zInt).set ((w64 ((((List.replicate (((((weights.map encInt).length : Nat) : Int)).toNat) zInt).length : Nat) : Int) - 1)).toNat) [C.int .i64 n])), []) :=
  guided_fun (cfg := cf) [true] (and_t (and_t (dr ((List.replicate (((((weights.map encInt).length : Nat) : Int)).toNat) zInt).length)) rfl) (and_t (dr ((List.replicate (((((weights.map encInt).length : Nat) : Int)).toNat) zInt).length)) (and_t (and_t (dr ((List.replicate (((((weights.map encInt).length : Nat) : Int)).toNat) zInt).length)) (and_t H4 (and_t H5 H6))) (and_t H3 (and_t (and_t H1 H2) rfl))))) (eC E1 (eC E1 eN)) (cC K1 cN) lN (by kernel_rfl)
theorem i_spread.w2 {call : Call} {lp : Lp} (n : Int) (weights : List Int) (r : Int) (n2 : Int) (weights2 : List (List C)) (outlen : Nat) (r14 : List (List C)) (r2 : Int) (outlen2 : Nat) (r142 : List (List C)) (H1 : decide (0 ≤ (((weights.map encInt).length : Nat) : Int)) = true) (H2 : decide ((((weights.map encInt).length : Nat) : Int) ≤ 17592186044416) = true) (H3 : (r == 0) = false) (H4 : decide (r14.length = outlen) = true) (H5 : decide (r142.length = outlen2) = true) (K1 : call i_sum [.one (.rsl (weights.map encInt))] = some (vI r, [])) (K2 : call i_sum [.one (.rsl r14)] = some (vI r2, [])) (L1 : lp (i_spread.r0 call lp) (i_spread.s0 n (weights.map encInt) ((List.replicate (((((weights.map encInt).length : Nat) : Int)).toNat) zInt).length) r (weights.map encInt) (((weights.map encInt).length : Nat) : Int) 0 (List.replicate (((((weights.map encInt).length : Nat) : Int)).toNat) zInt)) = some (.exit 0, (i_spread.e0_0 n2 weights2 outlen r14))) (L2 : lp (i_spread.r1 call lp) (i_spread.s1 outlen (w64 (n2 - r2)) weights2 (weights2.length : Int) 0 r14) = some (.exit 2, (i_spread.e1_0 outlen2 r142))) :
    pfun funcs own call lp i_spread [vI n, .one (.rsl (weights.map encInt))] = some (.one (.sl r142), []) :=
  guided_fun (cfg := cf) [false] (and_t (and_t H5 rfl) (and_t H4 (and_t (not_t H3) (and_t (and_t H1 H2) rfl)))) eN (cC K2 (cC K1 cN)) (lC L2 (lC L1 lN)) (by kernel_rfl)
def i_weightsOf.s0 (outlen : Nat) (x6 : List (List C)) (x7 : Int) (x8 : Int) (out : List (List C)) : St := ⟨[(3, .one (.ref 3 outlen)), (6, .one (.rsl x6)), (7, vI x7), (8, vI x8)], [(3, .row false 0 out none)]⟩
def i_weightsOf.e0_0 (outlen : Nat) (out : List (List C)) : St := ⟨[(3, .one (.ref 3 outlen))], [(3, .row false 0 out none)]⟩
abbrev i_weightsOf.r0 (call : Call) (lp : Lp) := round call cf lp [3, 6, 7, 8] [3, 16] [2, 3] [2, 3, 16] b148_0
theorem i_weightsOf.l0_1 {call : Call} {lp : Lp} (outlen : Nat) (x6 : List (List C)) (x7 : Int) (x8 : Int) (out : List (List C)) (e : Line) (H1 : decide (x8 < x7) = true) (H2 : decide (0 ≤ x8) = true) (H3 : decide (out.length = outlen) = true) (H4 : (uni 1 out) = true) (H5 : decide (out.length + 1 ≤ 17592186044416) = true) (E1 : x6[(x8).toNat]? = some (encLine e)) :
    i_weightsOf.r0 call lp (i_weightsOf.s0 outlen x6 x7 x8 out) = some (.normal, (i_weightsOf.s0 ((out ++ [[C.int .i64 e.weight]]).length) x6 x7 (w64 (x8 + 1)) (out ++ [[C.int .i64 e.weight]]))) :=
  guided_round [true] (and_t (and_t H4 H5) (and_t H3 (and_t H2 (and_t H1 rfl)))) (eC E1 eN) cN lN (by kernel_rfl)
theorem i_weightsOf.l0_2 {call : Call} {lp : Lp} (outlen : Nat) (x6 : List (List C)) (x7 : Int) (x8 : Int) (out : List (List C)) (H1 : decide (x8 < x7) = false) :
    i_weightsOf.r0 call lp (i_weightsOf.s0 outlen x6 x7 x8 out) = some (.exit 0, (i_weightsOf.e0_0 outlen out)) :=
  guided_round [false] (and_t (not_t H1) rfl) eN cN lN (by kernel_rfl)
theorem i_weightsOf.w1 {call : Call} {lp : Lp} (lines : List Line) (outlen : Nat) (out : List (List C)) (H1 : decide (out.length = outlen) = true) (L1 : lp (i_weightsOf.r0 call lp) (i_weightsOf.s0 0 (lines.map encLine) (((lines.map encLine).length : Nat) : Int) 0 []) = some (.exit 0, (i_weightsOf.e0_0 outlen out))) :
    pfun funcs own call lp i_weightsOf [.one (.rsl (lines.map encLine))] = some (.one (.sl out), []) :=
  guided_fun (cfg := cf) [] (and_t (and_t H1 rfl) rfl) eN cN (lC L1 lN) (by kernel_rfl)
theorem s_validSide.w1 {call : Call} {lp : Lp} (side : Int) (r : Bool) (K1 : call s_inRange [vI side, vI 0, vI 3] = some (vB r, [])) :
    pfun funcs own call lp s_validSide [vI side] = some (vB r, []) :=
  guided_fun (cfg := cf) [] rfl eN (cC K1 cN) lN (by kernel_rfl)
theorem s_validAnchor.w1 {call : Call} {lp : Lp} (anchor : Int) (r : Bool) (K1 : call s_inRange [vI anchor, vI 0, vI 8] = some (vB r, [])) :
    pfun funcs own call lp s_validAnchor [vI anchor] = some (vB r, []) :=
  guided_fun (cfg := cf) [] rfl eN (cC K1 cN) lN (by kernel_rfl)
theorem s_validLine.w1 {call : Call} {lp : Lp} (l : Line) (r2 : Bool) (K1 : call s_inRange [vI l.weight, vI 0, vI 5] = some (vB true, [])) (K2 : call s_inRange [vI l.min, vI 0, vI 30] = some (vB r2, [])) :
    pfun funcs own call lp s_validLine [.agg (encLine l)] = some (vB r2, []) :=
  guided_fun (cfg := cf) [true, true, true, true] (and_t rfl (and_t (eq_tt rfl) (and_t (eq_tt rfl) (and_t (eq_tt rfl) rfl)))) eN (cC K2 (cC K1 cN)) lN (by kernel_rfl)
theorem s_validLine.w2 {call : Call} {lp : Lp} (l : Line) (K1 : call s_inRange [vI l.weight, vI 0, vI 5] = some (vB false, [])) :
    pfun funcs own call lp s_validLine [.agg (encLine l)] = some (vB false, []) :=
  guided_fun (cfg := cf) [false, false, false, false] (and_t (not_t rfl) (and_t (not_t (eq_tf rfl)) (and_t (not_t (eq_tf rfl)) (and_t (not_t (eq_tf rfl)) rfl)))) eN (cC K1 cN) lN (by kernel_rfl)
def s_spread.s0 (n : Int) (weights : List (List C)) (outlen : Nat) (sum : Int) (left : Int) (i : Int) (r12 : List (List C)) : St := ⟨[(0, vI n), (1, .one (.rsl weights)), (5, .one (.ref 12 outlen)), (6, vI sum), (7, vI left), (8, vI i)], [(12, .row false 0 r12 none)]⟩
def s_spread.e0_0 (weights : List (List C)) (outlen : Nat) (left : Int) (r12 : List (List C)) : St := ⟨[(1, .one (.rsl weights)), (5, .one (.ref 12 outlen)), (7, vI left)], [(12, .row false 0 r12 none)]⟩
abbrev s_spread.r0 (call : Call) (lp : Lp) := round call cf lp [0, 1, 5, 6, 7, 8] [12] [1, 4, 5, 7] [4, 12] b161_0
def s_spread.s1 (weights : List (List C)) (outlen : Nat) (left : Int) (i : Int) (r12 : List (List C)) : St := ⟨[(1, .one (.rsl weights)), (5, .one (.ref 12 outlen)), (7, vI left), (9, vI i)], [(12, .row false 0 r12 none)]⟩
def s_spread.e1_0 (outlen : Nat) (r12 : List (List C)) : St := ⟨[(5, .one (.ref 12 outlen))], [(12, .row false 0 r12 none)]⟩
abbrev s_spread.r1 (call : Call) (lp : Lp) := round call cf lp [1, 5, 7, 9] [12] [4, 5] [4, 12] b161_1
theorem s_spread.l0_1 {call : Call} {lp : Lp} (n : Int) (weights : List (List C)) (outlen : Nat) (sum : Int) (left : Int) (i : Int) (r12 : List (List C)) (e : Int) (e2 : Int) (H1 : decide (i < (outlen : Int)) = true) (H2 : decide (0 ≤ i) = true) (H3 : decide (sum ≠ 0) = true) (H4 : decide (r12.length = outlen) = true) (H5 : decide (0 + outlen ≤ outlen) = true) (E1 : weights[(i).toNat]? = some [.int .i64 e]) (E2 : r12[(i).toNat]? = some [.int .i64 e2]) :
    s_spread.r0 call lp (s_spread.s0 n weights outlen sum left i r12) = some (.normal, (s_spread.s0 n weights outlen sum (w64 (left - (w64 (Int.tdiv (w64 (n * e)) sum)))) (w64 (i + 1)) (r12.set ((i).toNat) [C.int .i64 (w64 (Int.tdiv (w64 (n * e)) sum))]))) :=
  guided_round [true, true, true] (and_t (dr ((i).toNat)) (and_t H4 (and_t (dr ((i).toNat)) (and_t (and_t H4 (and_t H2 (and_t H1 H5))) (and_t H4 (and_t (and_t H4 (and_t H2 (and_t H1 H5))) (and_t H3 (and_t H2 (and_t H1 rfl))))))))) (eC E2 (eC E2 (eC E1 eN))) cN lN (by kernel_rfl)
theorem s_spread.l0_2 {call : Call} {lp : Lp} (n : Int) (weights : List (List C)) (outlen : Nat) (sum : Int) (left : Int) (i : Int) (r12 : List (List C)) (H1 : decide (i < (outlen : Int)) = false) :
    s_spread.r0 call lp (s_spread.s0 n weights outlen sum left i r12) = some (.exit 0, (s_spread.e0_0 weights outlen left r12)) :=
  guided_round [false] (and_t (not_t H1) rfl) eN cN lN (by kernel_rfl)
theorem s_spread.l1_1 {call : Call} {lp : Lp} (weights : List (List C)) (outlen : Nat) (left : Int) (i : Int) (r12 : List (List C)) (e : Int) (e2 : Int) (H1 : decide (left > 0) = true) (H2 : decide (0 ≤ i) = true) (H3 : decide (e > 0) = true) (H4 : decide (r12.length = outlen) = true) (H5 : decide (i < (outlen : Int)) = true) (H6 : decide (0 + outlen ≤ outlen) = true) (E1 : weights[(i).toNat]? = some [.int .i64 e]) (E2 : r12[(i).toNat]? = some [.int .i64 e2]) :
    s_spread.r1 call lp (s_spread.s1 weights outlen left i r12) = some (.normal, (s_spread.s1 weights outlen (w64 (left - 1)) (w64 (i + 1)) (r12.set ((i).toNat) [C.int .i64 (w64 (e2 + 1))]))) :=
  guided_round [true, true] (and_t H4 (and_t (and_t H4 (and_t H2 (and_t H5 H6))) (and_t H4 (and_t (and_t H4 (and_t H2 (and_t H5 H6))) (and_t H3 (and_t H2 (and_t H1 rfl))))))) (eC E2 (eC E2 (eC E2 (eC E2 (eC E1 eN))))) cN lN (by kernel_rfl)
theorem s_spread.l1_2 {call : Call} {lp : Lp} (weights : List (List C)) (outlen : Nat) (left : Int) (i : Int) (r12 : List (List C)) (H1 : decide (left > 0) = false) :
    s_spread.r1 call lp (s_spread.s1 weights outlen left i r12) = some (.exit 2, (s_spread.e1_0 outlen r12)) :=
  guided_round [false] (and_t (not_t H1) rfl) eN cN lN (by kernel_rfl)
theorem s_spread.l1_3 {call : Call} {lp : Lp} (weights : List (List C)) (outlen : Nat) (left : Int) (i : Int) (r12 : List (List C)) (e : Int) (H1 : decide (left > 0) = true) (H2 : decide (0 ≤ i) = true) (H3 : decide (e > 0) = false) (E1 : weights[(i).toNat]? = some [.int .i64 e]) :
    s_spread.r1 call lp (s_spread.s1 weights outlen left i r12) = some (.normal, (s_spread.s1 weights outlen left (w64 (i + 1)) r12)) :=
  guided_round [true, false] (and_t (not_t H3) (and_t H2 (and_t H1 rfl))) (eC E1 eN) cN lN (by kernel_rfl)
theorem s_spread.w1 {call : Call} {lp : Lp} (n : Int) (weights : List Int) (r : Int) (e : Int) (H1 : decide (0 ≤ (((weights.map encInt).length : Nat) : Int)) = true) (H2 : decide ((((weights.map encInt).length : Nat) : Int) ≤ 17592186044416) = true) (H3 : (r == 0) = true) (H4 : decide ((((List.replicate (((((weights.map encInt).length : Nat) : Int)).toNat) zInt).length : Nat) : Int) > 0) = true) (H5 : decide (0 ≤ w64 ((((List.replicate (((((weights.map encInt).length : Nat) : Int)).toNat) zInt).length : Nat) : Int) - 1)) = true) (H6 : decide (w64 ((((List.replicate (((((weights.map encInt).length : Nat) : Int)).toNat) zInt).length : Nat) : Int) - 1) < (((List.replicate (((((weights.map encInt).length : Nat) : Int)).toNat) zInt).length : Nat) : Int)) = true) (H7 : decide (0 + ((List.replicate (((((weights.map encInt).length : Nat) : Int)).toNat) zInt).length) ≤ (List.replicate (((((weights.map encInt).length : Nat) : Int)).toNat) zInt).length) = true) (E1 : (List.replicate (((((weights.map encInt).length : Nat) : Int)).toNat) zInt)[(w64 ((((List.replicate (((((weights.map encInt).length : Nat) : Int)).toNat) zInt).length : Nat) : Int) - 1)).toNat]? = some [.int .i64 e]) (K1 : call s_total [.one (.rsl (weights.map encInt))] = some (vI r, [])) :
    pfun funcs own call lp s_spread [vI n, .one (.rsl (weights.map encInt))] = some (.one (.sl ((List.replicate (((((weights.map encInt).length : Nat) : Int)).toNat) zInt).set ((w64 ((((List.replicate (((((weights.map encInt).length : Nat) : Int)).toNat) zInt).length : Nat) : Int) - 1)).toNat) [C.int .i64 n])), []) :=
  guided_fun (cfg := cf) [true, true] (and_t (and_t (dr ((List.replicate (((((weights.map encInt).length : Nat) : Int)).toNat) zInt).length)) rfl) (and_t (dr ((List.replicate (((((weights.map encInt).length : Nat) : Int)).toNat) zInt).length)) (and_t (and_t (dr ((List.replicate (((((weights.map encInt).length : Nat) : Int)).toNat) zInt).length)) (and_t H5 (and_t H6 H7))) (and_t H4 (and_t H3 (and_t (and_t H1 H2) rfl)))))) (eC E1 (eC E1 eN)) (cC K1 cN) lN (by kernel_rfl)
theorem s_spread.w2 {call : Call} {lp : Lp} (n : Int) (weights : List Int) (r : Int) (weights2 : List (List C)) (outlen : Nat) (left : Int) (r12 : List (List C)) (outlen2 : Nat) (r122 : List (List C)) (H1 : decide (0 ≤ (((weights.map encInt).length : Nat) : Int)) = true) (H2 : decide ((((weights.map encInt).length : Nat) : Int) ≤ 17592186044416) = true) (H3 : (r == 0) = false) (H4 : decide (r122.length = outlen2) = true) (K1 : call s_total [.one (.rsl (weights.map encInt))] = some (vI r, [])) (L1 : lp (s_spread.r0 call lp) (s_spread.s0 n (weights.map encInt) ((List.replicate (((((weights.map encInt).length : Nat) : Int)).toNat) zInt).length) r n 0 (List.replicate (((((weights.map encInt).length : Nat) : Int)).toNat) zInt)) = some (.exit 0, (s_spread.e0_0 weights2 outlen left r12))) (L2 : lp (s_spread.r1 call lp) (s_spread.s1 weights2 outlen left 0 r12) = some (.exit 2, (s_spread.e1_0 outlen2 r122))) :
    pfun funcs own call lp s_spread [vI n, .one (.rsl (weights.map encInt))] = some (.one (.sl r122), []) :=
  guided_fun (cfg := cf) [false] (and_t (and_t H4 rfl) (and_t (not_t H3) (and_t (and_t H1 H2) rfl))) eN (cC K1 cN) (lC L2 (lC L1 lN)) (by kernel_rfl)
def s_weightsOf.s0 (list : List (List C)) (outlen : Nat) (i : Int) (r5 : List (List C)) : St := ⟨[(0, .one (.rsl list)), (3, .one (.ref 5 outlen)), (4, vI i)], [(5, .row false 0 r5 none)]⟩
def s_weightsOf.e0_0 (outlen : Nat) (r5 : List (List C)) : St := ⟨[(3, .one (.ref 5 outlen))], [(5, .row false 0 r5 none)]⟩
abbrev s_weightsOf.r0 (call : Call) (lp : Lp) := round call cf lp [0, 3, 4] [5, 19] [2, 3] [2, 5, 19] b162_0
theorem s_weightsOf.l0_1 {call : Call} {lp : Lp} (list : List (List C)) (outlen : Nat) (i : Int) (r5 : List (List C)) (e : Line) (H1 : decide (i < (list.length : Int)) = true) (H2 : decide (0 ≤ i) = true) (H3 : decide (r5.length = outlen) = true) (H4 : (uni 1 r5) = true) (H5 : decide (r5.length + 1 ≤ 17592186044416) = true) (E1 : list[(i).toNat]? = some (encLine e)) :
    s_weightsOf.r0 call lp (s_weightsOf.s0 list outlen i r5) = some (.normal, (s_weightsOf.s0 list ((r5 ++ [[C.int .i64 e.weight]]).length) (w64 (i + 1)) (r5 ++ [[C.int .i64 e.weight]]))) :=
  guided_round [true] (and_t (and_t H4 H5) (and_t H3 (and_t H2 (and_t H1 rfl)))) (eC E1 eN) cN lN (by kernel_rfl)
theorem s_weightsOf.l0_2 {call : Call} {lp : Lp} (list : List (List C)) (outlen : Nat) (i : Int) (r5 : List (List C)) (H1 : decide (i < (list.length : Int)) = false) :
    s_weightsOf.r0 call lp (s_weightsOf.s0 list outlen i r5) = some (.exit 0, (s_weightsOf.e0_0 outlen r5)) :=
  guided_round [false] (and_t (not_t H1) rfl) eN cN lN (by kernel_rfl)
theorem s_weightsOf.w1 {call : Call} {lp : Lp} (list : List Line) (outlen : Nat) (r5 : List (List C)) (H1 : decide (r5.length = outlen) = true) (L1 : lp (s_weightsOf.r0 call lp) (s_weightsOf.s0 (list.map encLine) 0 0 []) = some (.exit 0, (s_weightsOf.e0_0 outlen r5))) :
    pfun funcs own call lp s_weightsOf [.one (.rsl (list.map encLine))] = some (.one (.sl r5), []) :=
  guided_fun (cfg := cf) [] (and_t (and_t H1 rfl) rfl) eN cN (lC L1 lN) (by kernel_rfl)
def x_IndexFunc_Line.s0 (s : List (List C)) (x7 : Int) (x8 : Int) : St := ⟨[(0, .one (.rsl s)), (1, .one (.fn i_linesOk_1)), (7, vI x7), (8, vI x8)], []⟩
def x_IndexFunc_Line.e0_0 (x4 : Int) : St := ⟨[(4, vI x4)], []⟩
def x_IndexFunc_Line.e0_1 : St := ⟨[], []⟩
abbrev x_IndexFunc_Line.r0 (call : Call) (lp : Lp) := round call cf lp [0, 1, 7, 8] [] [4] [] b163_0
theorem x_IndexFunc_Line.l0_1 {call : Call} {lp : Lp} (s : List (List C)) (x7 : Int) (x8 : Int) (e : Line) (H1 : decide (x8 < x7) = true) (H2 : decide (0 ≤ x8) = true) (E1 : s[(x8).toNat]? = some (encLine e)) (K1 : call i_linesOk_1 [.agg (encLine e)] = some (vB true, [])) :
    x_IndexFunc_Line.r0 call lp (x_IndexFunc_Line.s0 s x7 x8) = some (.ret, (x_IndexFunc_Line.e0_0 x8)) :=
  guided_round [true, true] (and_t rfl (and_t H2 (and_t H1 rfl))) (eC E1 eN) (cC K1 cN) lN (by kernel_rfl)
theorem x_IndexFunc_Line.l0_2 {call : Call} {lp : Lp} (s : List (List C)) (x7 : Int) (x8 : Int) (H1 : decide (x8 < x7) = false) :
    x_IndexFunc_Line.r0 call lp (x_IndexFunc_Line.s0 s x7 x8) = some (.exit 0, x_IndexFunc_Line.e0_1) :=
  guided_round [false] (and_t (not_t H1) rfl) eN cN lN (by kernel_rfl)
theorem x_IndexFunc_Line.l0_3 {call : Call} {lp : Lp} (s : List (List C)) (x7 : Int) (x8 : Int) (e : Line) (H1 : decide (x8 < x7) = true) (H2 : decide (0 ≤ x8) = true) (E1 : s[(x8).toNat]? = some (encLine e)) (K1 : call i_linesOk_1 [.agg (encLine e)] = some (vB false, [])) :
    x_IndexFunc_Line.r0 call lp (x_IndexFunc_Line.s0 s x7 x8) = some (.normal, (x_IndexFunc_Line.s0 s x7 (w64 (x8 + 1)))) :=
  guided_round [true, false] (and_t (not_t rfl) (and_t H2 (and_t H1 rfl))) (eC E1 eN) (cC K1 cN) lN (by kernel_rfl)
theorem x_IndexFunc_Line.w1 {call : Call} {lp : Lp} (s : List Line) (x4 : Int) (L1 : lp (x_IndexFunc_Line.r0 call lp) (x_IndexFunc_Line.s0 (s.map encLine) (((s.map encLine).length : Nat) : Int) 0) = some (.ret, (x_IndexFunc_Line.e0_0 x4))) :
    pfun funcs own call lp x_IndexFunc_Line [.one (.rsl (s.map encLine)), .one (.fn i_linesOk_1)] = some (vI x4, []) :=
  guided_fun (cfg := cf) [] rfl eN cN (lC L1 lN) (by kernel_rfl)
theorem x_IndexFunc_Line.w2 {call : Call} {lp : Lp} (s : List Line) (L1 : lp (x_IndexFunc_Line.r0 call lp) (x_IndexFunc_Line.s0 (s.map encLine) (((s.map encLine).length : Nat) : Int) 0) = some (.exit 0, x_IndexFunc_Line.e0_1)) :
    pfun funcs own call lp x_IndexFunc_Line [.one (.rsl (s.map encLine)), .one (.fn i_linesOk_1)] = some (vI (-1), []) :=
  guided_fun (cfg := cf) [] rfl eN cN (lC L1 lN) (by kernel_rfl)
end Go.Proofs.Ytdgamfanffnhaaa.PI
namespace Go.Proofs.Ytdgamfanffnhaaa.PI
open Go
set_option maxRecDepth 100000
set_option linter.unusedVariables false
def i_within.m (n : Int) (low : Int) (high : Int) : Bool := (bif decide (n ≥ low) then decide (n ≤ high) else false)
theorem i_within.c (n : Int) (low : Int) (high : Int) : PC i_within [vI n, vI low, vI high] (vB (i_within.m n low high), []) := by
  refine lift ?_
  unfold i_within.m
  cases h1 : (decide (n ≥ low)) with
  | true =>
    exact i_within.w1 _ _ _ (H1 := h1)
  | false =>
    exact i_within.w2 _ _ _ (H1 := h1)
def s_inRange.m (n : Int) (low : Int) (high : Int) : Bool := (bif decide (low ≤ n) then decide (n ≤ high) else false)
theorem s_inRange.c (n : Int) (low : Int) (high : Int) : PC s_inRange [vI n, vI low, vI high] (vB (s_inRange.m n low high), []) := by
  refine lift ?_
  unfold s_inRange.m
  cases h1 : (decide (low ≤ n)) with
  | true =>
    exact s_inRange.w1 _ _ _ (H1 := h1)
  | false =>
    exact s_inRange.w2 _ _ _ (H1 := h1)
def l_szLineS.m (a : List Line) (left : Int) : Int := (bif decide (w64 (left - (((a.map encLine).length : Nat) : Int)) < 0) then (-1) else w64 (left - (((a.map encLine).length : Nat) : Int)))
theorem l_szLineS.c (a : List Line) (left : Int) : PC l_szLineS [.one (.rsl (a.map encLine)), vI left] (vI (l_szLineS.m a left), []) := by
  refine lift ?_
  unfold l_szLineS.m
  cases h1 : (decide (w64 (left - (((a.map encLine).length : Nat) : Int)) < 0)) with
  | true =>
    exact l_szLineS.w1 _ _ (H1 := h1)
  | false =>
    exact l_szLineS.w2 _ _ (H1 := h1)
def l_toPack.m (a : Pack) : Pack := a
theorem l_toPack.c (a : Pack) : PC l_toPack [.agg (encPack a)] (.agg (encPack (l_toPack.m a)), []) := by
  refine lift ?_
  unfold l_toPack.m
  exact l_toPack.w1 _
def l_toCell.m (a : Cell) : Cell := a
theorem l_toCell.c (a : Cell) : PC l_toCell [.agg (encCell a)] (.agg (encCell (l_toCell.m a)), []) := by
  refine lift ?_
  unfold l_toCell.m
  exact l_toCell.w1 _
def l_toPlace.m (a : Place) : Place := a
theorem l_toPlace.c (a : Place) : PC l_toPlace [.agg (encPlace a)] (.agg (encPlace (l_toPlace.m a)), []) := by
  refine lift ?_
  unfold l_toPlace.m
  exact l_toPlace.w1 _
def i_ValidPack.m (p : Pack) : Bool := (bif (i_within.m p.w 0 30) then (bif (i_within.m p.h 0 30) then (bif (i_within.m p.side 0 3) then (bif (i_within.m p.anchor 0 8) then (bif (i_within.m p.padX 0 10) then (i_within.m p.padY 0 10) else false) else false) else false) else false) else false)
theorem i_ValidPack.c (p : Pack) : PC i_ValidPack [.agg (encPack p)] (vB (i_ValidPack.m p), []) := by
  refine lift ?_
  unfold i_ValidPack.m
  cases h1 : (i_within.m p.w 0 30) with
  | true =>
    cases h2 : (i_within.m p.h 0 30) with
    | true =>
      cases h3 : (i_within.m p.side 0 3) with
      | true =>
        cases h4 : (i_within.m p.anchor 0 8) with
        | true =>
          cases h5 : (i_within.m p.padX 0 10) with
          | true =>
            exact i_ValidPack.w1 _ _ (K1 := (i_within.c p.w 0 30).trans (by rw [h1])) (K2 := (i_within.c p.h 0 30).trans (by rw [h2])) (K3 := (i_within.c p.side 0 3).trans (by rw [h3])) (K4 := (i_within.c p.anchor 0 8).trans (by rw [h4])) (K5 := (i_within.c p.padX 0 10).trans (by rw [h5])) (K6 := (i_within.c p.padY 0 10))
          | false =>
            exact i_ValidPack.w6 _ (K1 := (i_within.c p.w 0 30).trans (by rw [h1])) (K2 := (i_within.c p.h 0 30).trans (by rw [h2])) (K3 := (i_within.c p.side 0 3).trans (by rw [h3])) (K4 := (i_within.c p.anchor 0 8).trans (by rw [h4])) (K5 := (i_within.c p.padX 0 10).trans (by rw [h5]))
        | false =>
          exact i_ValidPack.w5 _ (K1 := (i_within.c p.w 0 30).trans (by rw [h1])) (K2 := (i_within.c p.h 0 30).trans (by rw [h2])) (K3 := (i_within.c p.side 0 3).trans (by rw [h3])) (K4 := (i_within.c p.anchor 0 8).trans (by rw [h4]))
      | false =>
        exact i_ValidPack.w4 _ (K1 := (i_within.c p.w 0 30).trans (by rw [h1])) (K2 := (i_within.c p.h 0 30).trans (by rw [h2])) (K3 := (i_within.c p.side 0 3).trans (by rw [h3]))
    | false =>
      exact i_ValidPack.w3 _ (K1 := (i_within.c p.w 0 30).trans (by rw [h1])) (K2 := (i_within.c p.h 0 30).trans (by rw [h2]))
  | false =>
    exact i_ValidPack.w2 _ (K1 := (i_within.c p.w 0 30).trans (by rw [h1]))
def i_spanOk.m (at_ : Int) (many : Int) (lines : Int) : Bool := (bif (i_within.m at_ 0 (w64 (lines - 1))) then (i_within.m many 1 (w64 (lines - at_))) else false)
theorem i_spanOk.c (at_ : Int) (many : Int) (lines : Int) : PC i_spanOk [vI at_, vI many, vI lines] (vB (i_spanOk.m at_ many lines), []) := by
  refine lift ?_
  unfold i_spanOk.m
  cases h1 : (i_within.m at_ 0 (w64 (lines - 1))) with
  | true =>
    exact i_spanOk.w1 _ _ _ _ (K1 := (i_within.c at_ 0 (w64 (lines - 1))).trans (by rw [h1])) (K2 := (i_within.c many 1 (w64 (lines - at_))))
  | false =>
    exact i_spanOk.w2 _ _ _ (K1 := (i_within.c at_ 0 (w64 (lines - 1))).trans (by rw [h1]))
def i_Pack_needs.m (p : Pack) : Int × Int := (w64 (p.w + (w64 (2 * p.padX))), w64 (p.h + (w64 (2 * p.padY))))
theorem i_Pack_needs.c (p : Pack) : PC i_Pack_needs [.agg (encPack p)] (.tup [vI ((i_Pack_needs.m p).1), vI ((i_Pack_needs.m p).2)], []) := by
  refine lift ?_
  unfold i_Pack_needs.m
  exact i_Pack_needs.w1 _
def i_Pack_down.m (p : Pack) : Bool := (bif (p.side == 0) then true else (p.side == 1))
theorem i_Pack_down.c (p : Pack) : PC i_Pack_down [.agg (encPack p)] (vB (i_Pack_down.m p), []) := by
  refine lift ?_
  unfold i_Pack_down.m
  cases h1 : (p.side == 0) with
  | true =>
    exact i_Pack_down.w1 _ (H1 := h1)
  | false =>
    exact i_Pack_down.w2 _ (H1 := h1)
def s_validCell.m (cols : List Line) (rows : List Line) (cells : List Cell) (c : Cell) : Bool := (bif (s_inRange.m c.col 0 (w64 ((((cols.map encLine).length : Nat) : Int) - 1))) then (bif (s_inRange.m c.row 0 (w64 ((((rows.map encLine).length : Nat) : Int) - 1))) then (bif (s_inRange.m c.manyCols 1 (w64 ((((cols.map encLine).length : Nat) : Int) - c.col))) then (bif (s_inRange.m c.manyRows 1 (w64 ((((rows.map encLine).length : Nat) : Int) - c.row))) then (bif (s_inRange.m c.w 0 30) then (bif (s_inRange.m c.h 0 30) then (bif (s_inRange.m c.stick 0 15) then (bif (s_inRange.m c.padX 0 10) then (s_inRange.m c.padY 0 10) else false) else false) else false) else false) else false) else false) else false) else false)
theorem s_validCell.c (cols : List Line) (rows : List Line) (cells : List Cell) (c : Cell) : PC s_validCell [.agg [.rsl (cols.map encLine), .rsl (rows.map encLine), .rsl (cells.map encCell)], .agg (encCell c)] (vB (s_validCell.m cols rows cells c), []) := by
  refine lift ?_
  unfold s_validCell.m
  cases h1 : (s_inRange.m c.col 0 (w64 ((((cols.map encLine).length : Nat) : Int) - 1))) with
  | true =>
    cases h2 : (s_inRange.m c.row 0 (w64 ((((rows.map encLine).length : Nat) : Int) - 1))) with
    | true =>
      cases h3 : (s_inRange.m c.manyCols 1 (w64 ((((cols.map encLine).length : Nat) : Int) - c.col))) with
      | true =>
        cases h4 : (s_inRange.m c.manyRows 1 (w64 ((((rows.map encLine).length : Nat) : Int) - c.row))) with
        | true =>
          cases h5 : (s_inRange.m c.w 0 30) with
          | true =>
            cases h6 : (s_inRange.m c.h 0 30) with
            | true =>
              cases h7 : (s_inRange.m c.stick 0 15) with
              | true =>
                cases h8 : (s_inRange.m c.padX 0 10) with
                | true =>
                  exact s_validCell.w1 _ _ _ _ _ (K1 := (s_inRange.c c.col 0 (w64 ((((cols.map encLine).length : Nat) : Int) - 1))).trans (by rw [h1])) (K2 := (s_inRange.c c.row 0 (w64 ((((rows.map encLine).length : Nat) : Int) - 1))).trans (by rw [h2])) (K3 := (s_inRange.c c.manyCols 1 (w64 ((((cols.map encLine).length : Nat) : Int) - c.col))).trans (by rw [h3])) (K4 := (s_inRange.c c.manyRows 1 (w64 ((((rows.map encLine).length : Nat) : Int) - c.row))).trans (by rw [h4])) (K5 := (s_inRange.c c.w 0 30).trans (by rw [h5])) (K6 := (s_inRange.c c.h 0 30).trans (by rw [h6])) (K7 := (s_inRange.c c.stick 0 15).trans (by rw [h7])) (K8 := (s_inRange.c c.padX 0 10).trans (by rw [h8])) (K9 := (s_inRange.c c.padY 0 10))
                | false =>
                  exact s_validCell.w9 _ _ _ _ (K1 := (s_inRange.c c.col 0 (w64 ((((cols.map encLine).length : Nat) : Int) - 1))).trans (by rw [h1])) (K2 := (s_inRange.c c.row 0 (w64 ((((rows.map encLine).length : Nat) : Int) - 1))).trans (by rw [h2])) (K3 := (s_inRange.c c.manyCols 1 (w64 ((((cols.map encLine).length : Nat) : Int) - c.col))).trans (by rw [h3])) (K4 := (s_inRange.c c.manyRows 1 (w64 ((((rows.map encLine).length : Nat) : Int) - c.row))).trans (by rw [h4])) (K5 := (s_inRange.c c.w 0 30).trans (by rw [h5])) (K6 := (s_inRange.c c.h 0 30).trans (by rw [h6])) (K7 := (s_inRange.c c.stick 0 15).trans (by rw [h7])) (K8 := (s_inRange.c c.padX 0 10).trans (by rw [h8]))
              | false =>
                exact s_validCell.w8 _ _ _ _ (K1 := (s_inRange.c c.col 0 (w64 ((((cols.map encLine).length : Nat) : Int) - 1))).trans (by rw [h1])) (K2 := (s_inRange.c c.row 0 (w64 ((((rows.map encLine).length : Nat) : Int) - 1))).trans (by rw [h2])) (K3 := (s_inRange.c c.manyCols 1 (w64 ((((cols.map encLine).length : Nat) : Int) - c.col))).trans (by rw [h3])) (K4 := (s_inRange.c c.manyRows 1 (w64 ((((rows.map encLine).length : Nat) : Int) - c.row))).trans (by rw [h4])) (K5 := (s_inRange.c c.w 0 30).trans (by rw [h5])) (K6 := (s_inRange.c c.h 0 30).trans (by rw [h6])) (K7 := (s_inRange.c c.stick 0 15).trans (by rw [h7]))
            | false =>
              exact s_validCell.w7 _ _ _ _ (K1 := (s_inRange.c c.col 0 (w64 ((((cols.map encLine).length : Nat) : Int) - 1))).trans (by rw [h1])) (K2 := (s_inRange.c c.row 0 (w64 ((((rows.map encLine).length : Nat) : Int) - 1))).trans (by rw [h2])) (K3 := (s_inRange.c c.manyCols 1 (w64 ((((cols.map encLine).length : Nat) : Int) - c.col))).trans (by rw [h3])) (K4 := (s_inRange.c c.manyRows 1 (w64 ((((rows.map encLine).length : Nat) : Int) - c.row))).trans (by rw [h4])) (K5 := (s_inRange.c c.w 0 30).trans (by rw [h5])) (K6 := (s_inRange.c c.h 0 30).trans (by rw [h6]))
          | false =>
            exact s_validCell.w6 _ _ _ _ (K1 := (s_inRange.c c.col 0 (w64 ((((cols.map encLine).length : Nat) : Int) - 1))).trans (by rw [h1])) (K2 := (s_inRange.c c.row 0 (w64 ((((rows.map encLine).length : Nat) : Int) - 1))).trans (by rw [h2])) (K3 := (s_inRange.c c.manyCols 1 (w64 ((((cols.map encLine).length : Nat) : Int) - c.col))).trans (by rw [h3])) (K4 := (s_inRange.c c.manyRows 1 (w64 ((((rows.map encLine).length : Nat) : Int) - c.row))).trans (by rw [h4])) (K5 := (s_inRange.c c.w 0 30).trans (by rw [h5]))
        | false =>
          exact s_validCell.w5 _ _ _ _ (K1 := (s_inRange.c c.col 0 (w64 ((((cols.map encLine).length : Nat) : Int) - 1))).trans (by rw [h1])) (K2 := (s_inRange.c c.row 0 (w64 ((((rows.map encLine).length : Nat) : Int) - 1))).trans (by rw [h2])) (K3 := (s_inRange.c c.manyCols 1 (w64 ((((cols.map encLine).length : Nat) : Int) - c.col))).trans (by rw [h3])) (K4 := (s_inRange.c c.manyRows 1 (w64 ((((rows.map encLine).length : Nat) : Int) - c.row))).trans (by rw [h4]))
      | false =>
        exact s_validCell.w4 _ _ _ _ (K1 := (s_inRange.c c.col 0 (w64 ((((cols.map encLine).length : Nat) : Int) - 1))).trans (by rw [h1])) (K2 := (s_inRange.c c.row 0 (w64 ((((rows.map encLine).length : Nat) : Int) - 1))).trans (by rw [h2])) (K3 := (s_inRange.c c.manyCols 1 (w64 ((((cols.map encLine).length : Nat) : Int) - c.col))).trans (by rw [h3]))
    | false =>
      exact s_validCell.w3 _ _ _ _ (K1 := (s_inRange.c c.col 0 (w64 ((((cols.map encLine).length : Nat) : Int) - 1))).trans (by rw [h1])) (K2 := (s_inRange.c c.row 0 (w64 ((((rows.map encLine).length : Nat) : Int) - 1))).trans (by rw [h2]))
  | false =>
    exact s_validCell.w2 _ _ _ _ (K1 := (s_inRange.c c.col 0 (w64 ((((cols.map encLine).length : Nat) : Int) - 1))).trans (by rw [h1]))
def s_outer.m (p : Pack) : Int × Int := (w64 (p.w + (w64 (2 * p.padX))), w64 (p.h + (w64 (2 * p.padY))))
theorem s_outer.c (p : Pack) : PC s_outer [.agg (encPack p)] (.tup [vI ((s_outer.m p).1), vI ((s_outer.m p).2)], []) := by
  refine lift ?_
  unfold s_outer.m
  exact s_outer.w1 _
def s_upright.m (side : Int) : Bool := (bif (side == 0) then true else (side == 1))
theorem s_upright.c (side : Int) : PC s_upright [vI side] (vB (s_upright.m side), []) := by
  refine lift ?_
  unfold s_upright.m
  cases h1 : (side == 0) with
  | true =>
    exact s_upright.w1 _ (H1 := h1)
  | false =>
    exact s_upright.w2 _ (H1 := h1)
def l_toLine.m (a : Line) : Line := a
theorem l_toLine.c (a : Line) : PC l_toLine [.agg (encLine a)] (.agg (encLine (l_toLine.m a)), []) := by
  refine lift ?_
  unfold l_toLine.m
  exact l_toLine.w1 _
def i_linesOk_1.m (l : Line) : Bool := (bif (i_within.m l.weight 0 5) then (!(i_within.m l.min 0 30)) else true)
theorem i_linesOk_1.c (l : Line) : PC i_linesOk_1 [.agg (encLine l)] (vB (i_linesOk_1.m l), []) := by
  refine lift ?_
  unfold i_linesOk_1.m
  cases h1 : (i_within.m l.weight 0 5) with
  | true =>
    exact i_linesOk_1.w2 _ _ (K1 := (i_within.c l.weight 0 5).trans (by rw [h1])) (K2 := (i_within.c l.min 0 30))
  | false =>
    exact i_linesOk_1.w1 _ (K1 := (i_within.c l.weight 0 5).trans (by rw [h1]))
def s_validSide.m (side : Int) : Bool := (s_inRange.m side 0 3)
theorem s_validSide.c (side : Int) : PC s_validSide [vI side] (vB (s_validSide.m side), []) := by
  refine lift ?_
  unfold s_validSide.m
  exact s_validSide.w1 _ _ (K1 := (s_inRange.c side 0 3))
def s_validAnchor.m (anchor : Int) : Bool := (s_inRange.m anchor 0 8)
theorem s_validAnchor.c (anchor : Int) : PC s_validAnchor [vI anchor] (vB (s_validAnchor.m anchor), []) := by
  refine lift ?_
  unfold s_validAnchor.m
  exact s_validAnchor.w1 _ _ (K1 := (s_inRange.c anchor 0 8))
def s_validLine.m (l : Line) : Bool := (bif (s_inRange.m l.weight 0 5) then (s_inRange.m l.min 0 30) else false)
theorem s_validLine.c (l : Line) : PC s_validLine [.agg (encLine l)] (vB (s_validLine.m l), []) := by
  refine lift ?_
  unfold s_validLine.m
  cases h1 : (s_inRange.m l.weight 0 5) with
  | true =>
    exact s_validLine.w1 _ _ (K1 := (s_inRange.c l.weight 0 5).trans (by rw [h1])) (K2 := (s_inRange.c l.min 0 30))
  | false =>
    exact s_validLine.w2 _ (K1 := (s_inRange.c l.weight 0 5).trans (by rw [h1]))
def l_szNode.m (parent : Int) (w : Int) (h : Int) (keep : Bool) (kind : Int) (cols : List Line) (rows : List Line) (pack : Pack) (cell : Cell) (place : Place) (left : Int) : Int := (bif decide ((l_szLineS.m cols left) < 0) then (-1) else (bif decide ((l_szLineS.m rows (l_szLineS.m cols left)) < 0) then (-1) else (l_szLineS.m rows (l_szLineS.m cols left))))
theorem l_szNode.c (parent : Int) (w : Int) (h : Int) (keep : Bool) (kind : Int) (cols : List Line) (rows : List Line) (pack : Pack) (cell : Cell) (place : Place) (left : Int) : PC l_szNode [.agg (cellsNode parent w h keep kind (.rsl (cols.map encLine)) (.rsl (rows.map encLine)) pack cell place), vI left] (vI (l_szNode.m parent w h keep kind cols rows pack cell place left), []) := by
  refine lift ?_
  unfold l_szNode.m
  cases h1 : (decide ((l_szLineS.m cols left) < 0)) with
  | true =>
    exact l_szNode.w1 _ _ _ _ _ _ _ _ _ _ _ _ (H1 := h1) (K1 := (l_szLineS.c cols left))
  | false =>
    cases h2 : (decide ((l_szLineS.m rows (l_szLineS.m cols left)) < 0)) with
    | true =>
      exact l_szNode.w2 _ _ _ _ _ _ _ _ _ _ _ _ _ (H1 := h1) (H2 := h2) (K1 := (l_szLineS.c cols left)) (K2 := (l_szLineS.c rows (l_szLineS.m cols left)))
    | false =>
      exact l_szNode.w3 _ _ _ _ _ _ _ _ _ _ _ _ _ (H1 := h1) (H2 := h2) (K1 := (l_szLineS.c cols left)) (K2 := (l_szLineS.c rows (l_szLineS.m cols left)))
def i_Cell_lies.m (c : Cell) (cols : List Line) (rows : List Line) (cells : List Cell) : Bool := (bif (i_spanOk.m c.col c.manyCols (((cols.map encLine).length : Nat) : Int)) then (bif (i_spanOk.m c.row c.manyRows (((rows.map encLine).length : Nat) : Int)) then (bif (i_within.m c.stick 0 15) then (bif (i_within.m c.padX 0 10) then (i_within.m c.padY 0 10) else false) else false) else false) else false)
theorem i_Cell_lies.c (c : Cell) (cols : List Line) (rows : List Line) (cells : List Cell) : PC i_Cell_lies [.agg (encCell c), .agg [.rsl (cols.map encLine), .rsl (rows.map encLine), .rsl (cells.map encCell)]] (vB (i_Cell_lies.m c cols rows cells), []) := by
  refine lift ?_
  unfold i_Cell_lies.m
  cases h1 : (i_spanOk.m c.col c.manyCols (((cols.map encLine).length : Nat) : Int)) with
  | true =>
    cases h2 : (i_spanOk.m c.row c.manyRows (((rows.map encLine).length : Nat) : Int)) with
    | true =>
      cases h3 : (i_within.m c.stick 0 15) with
      | true =>
        cases h4 : (i_within.m c.padX 0 10) with
        | true =>
          exact i_Cell_lies.w1 _ _ _ _ _ (K1 := (i_spanOk.c c.col c.manyCols (((cols.map encLine).length : Nat) : Int)).trans (by rw [h1])) (K2 := (i_spanOk.c c.row c.manyRows (((rows.map encLine).length : Nat) : Int)).trans (by rw [h2])) (K3 := (i_within.c c.stick 0 15).trans (by rw [h3])) (K4 := (i_within.c c.padX 0 10).trans (by rw [h4])) (K5 := (i_within.c c.padY 0 10))
        | false =>
          exact i_Cell_lies.w5 _ _ _ _ (K1 := (i_spanOk.c c.col c.manyCols (((cols.map encLine).length : Nat) : Int)).trans (by rw [h1])) (K2 := (i_spanOk.c c.row c.manyRows (((rows.map encLine).length : Nat) : Int)).trans (by rw [h2])) (K3 := (i_within.c c.stick 0 15).trans (by rw [h3])) (K4 := (i_within.c c.padX 0 10).trans (by rw [h4]))
      | false =>
        exact i_Cell_lies.w4 _ _ _ _ (K1 := (i_spanOk.c c.col c.manyCols (((cols.map encLine).length : Nat) : Int)).trans (by rw [h1])) (K2 := (i_spanOk.c c.row c.manyRows (((rows.map encLine).length : Nat) : Int)).trans (by rw [h2])) (K3 := (i_within.c c.stick 0 15).trans (by rw [h3]))
    | false =>
      exact i_Cell_lies.w3 _ _ _ _ (K1 := (i_spanOk.c c.col c.manyCols (((cols.map encLine).length : Nat) : Int)).trans (by rw [h1])) (K2 := (i_spanOk.c c.row c.manyRows (((rows.map encLine).length : Nat) : Int)).trans (by rw [h2]))
  | false =>
    exact i_Cell_lies.w2 _ _ _ _ (K1 := (i_spanOk.c c.col c.manyCols (((cols.map encLine).length : Nat) : Int)).trans (by rw [h1]))
def s_validPack.m (p : Pack) : Bool := (bif (s_inRange.m p.w 0 30) then (bif (s_inRange.m p.h 0 30) then (bif (s_validSide.m p.side) then (bif (s_validAnchor.m p.anchor) then (bif (s_inRange.m p.padX 0 10) then (s_inRange.m p.padY 0 10) else false) else false) else false) else false) else false)
theorem s_validPack.c (p : Pack) : PC s_validPack [.agg (encPack p)] (vB (s_validPack.m p), []) := by
  refine lift ?_
  unfold s_validPack.m
  cases h1 : (s_inRange.m p.w 0 30) with
  | true =>
    cases h2 : (s_inRange.m p.h 0 30) with
    | true =>
      cases h3 : (s_validSide.m p.side) with
      | true =>
        cases h4 : (s_validAnchor.m p.anchor) with
        | true =>
          cases h5 : (s_inRange.m p.padX 0 10) with
          | true =>
            exact s_validPack.w1 _ _ (K1 := (s_inRange.c p.w 0 30).trans (by rw [h1])) (K2 := (s_inRange.c p.h 0 30).trans (by rw [h2])) (K3 := (s_validSide.c p.side).trans (by rw [h3])) (K4 := (s_validAnchor.c p.anchor).trans (by rw [h4])) (K5 := (s_inRange.c p.padX 0 10).trans (by rw [h5])) (K6 := (s_inRange.c p.padY 0 10))
          | false =>
            exact s_validPack.w6 _ (K1 := (s_inRange.c p.w 0 30).trans (by rw [h1])) (K2 := (s_inRange.c p.h 0 30).trans (by rw [h2])) (K3 := (s_validSide.c p.side).trans (by rw [h3])) (K4 := (s_validAnchor.c p.anchor).trans (by rw [h4])) (K5 := (s_inRange.c p.padX 0 10).trans (by rw [h5]))
        | false =>
          exact s_validPack.w5 _ (K1 := (s_inRange.c p.w 0 30).trans (by rw [h1])) (K2 := (s_inRange.c p.h 0 30).trans (by rw [h2])) (K3 := (s_validSide.c p.side).trans (by rw [h3])) (K4 := (s_validAnchor.c p.anchor).trans (by rw [h4]))
      | false =>
        exact s_validPack.w4 _ (K1 := (s_inRange.c p.w 0 30).trans (by rw [h1])) (K2 := (s_inRange.c p.h 0 30).trans (by rw [h2])) (K3 := (s_validSide.c p.side).trans (by rw [h3]))
    | false =>
      exact s_validPack.w3 _ (K1 := (s_inRange.c p.w 0 30).trans (by rw [h1])) (K2 := (s_inRange.c p.h 0 30).trans (by rw [h2]))
  | false =>
    exact s_validPack.w2 _ (K1 := (s_inRange.c p.w 0 30).trans (by rw [h1]))
def s_validPlace.m (p : Place) : Bool := (bif (s_inRange.m p.x (-300) 300) then (bif (s_inRange.m p.y (-300) 300) then (bif (s_inRange.m p.relX 0 1000) then (bif (s_inRange.m p.relY 0 1000) then (bif (s_inRange.m p.w (-300) 300) then (bif (s_inRange.m p.h (-300) 300) then (bif (s_inRange.m p.relW 0 1000) then (bif (s_inRange.m p.relH 0 1000) then (s_validAnchor.m p.anchor) else false) else false) else false) else false) else false) else false) else false) else false)
theorem s_validPlace.c (p : Place) : PC s_validPlace [.agg (encPlace p)] (vB (s_validPlace.m p), []) := by
  refine lift ?_
  unfold s_validPlace.m
  cases h1 : (s_inRange.m p.x (-300) 300) with
  | true =>
    cases h2 : (s_inRange.m p.y (-300) 300) with
    | true =>
      cases h3 : (s_inRange.m p.relX 0 1000) with
      | true =>
        cases h4 : (s_inRange.m p.relY 0 1000) with
        | true =>
          cases h5 : (s_inRange.m p.w (-300) 300) with
          | true =>
            cases h6 : (s_inRange.m p.h (-300) 300) with
            | true =>
              cases h7 : (s_inRange.m p.relW 0 1000) with
              | true =>
                cases h8 : (s_inRange.m p.relH 0 1000) with
                | true =>
                  exact s_validPlace.w1 _ _ (K1 := (s_inRange.c p.x (-300) 300).trans (by rw [h1])) (K2 := (s_inRange.c p.y (-300) 300).trans (by rw [h2])) (K3 := (s_inRange.c p.relX 0 1000).trans (by rw [h3])) (K4 := (s_inRange.c p.relY 0 1000).trans (by rw [h4])) (K5 := (s_inRange.c p.w (-300) 300).trans (by rw [h5])) (K6 := (s_inRange.c p.h (-300) 300).trans (by rw [h6])) (K7 := (s_inRange.c p.relW 0 1000).trans (by rw [h7])) (K8 := (s_inRange.c p.relH 0 1000).trans (by rw [h8])) (K9 := (s_validAnchor.c p.anchor))
                | false =>
                  exact s_validPlace.w9 _ (K1 := (s_inRange.c p.x (-300) 300).trans (by rw [h1])) (K2 := (s_inRange.c p.y (-300) 300).trans (by rw [h2])) (K3 := (s_inRange.c p.relX 0 1000).trans (by rw [h3])) (K4 := (s_inRange.c p.relY 0 1000).trans (by rw [h4])) (K5 := (s_inRange.c p.w (-300) 300).trans (by rw [h5])) (K6 := (s_inRange.c p.h (-300) 300).trans (by rw [h6])) (K7 := (s_inRange.c p.relW 0 1000).trans (by rw [h7])) (K8 := (s_inRange.c p.relH 0 1000).trans (by rw [h8]))
              | false =>
                exact s_validPlace.w8 _ (K1 := (s_inRange.c p.x (-300) 300).trans (by rw [h1])) (K2 := (s_inRange.c p.y (-300) 300).trans (by rw [h2])) (K3 := (s_inRange.c p.relX 0 1000).trans (by rw [h3])) (K4 := (s_inRange.c p.relY 0 1000).trans (by rw [h4])) (K5 := (s_inRange.c p.w (-300) 300).trans (by rw [h5])) (K6 := (s_inRange.c p.h (-300) 300).trans (by rw [h6])) (K7 := (s_inRange.c p.relW 0 1000).trans (by rw [h7]))
            | false =>
              exact s_validPlace.w7 _ (K1 := (s_inRange.c p.x (-300) 300).trans (by rw [h1])) (K2 := (s_inRange.c p.y (-300) 300).trans (by rw [h2])) (K3 := (s_inRange.c p.relX 0 1000).trans (by rw [h3])) (K4 := (s_inRange.c p.relY 0 1000).trans (by rw [h4])) (K5 := (s_inRange.c p.w (-300) 300).trans (by rw [h5])) (K6 := (s_inRange.c p.h (-300) 300).trans (by rw [h6]))
          | false =>
            exact s_validPlace.w6 _ (K1 := (s_inRange.c p.x (-300) 300).trans (by rw [h1])) (K2 := (s_inRange.c p.y (-300) 300).trans (by rw [h2])) (K3 := (s_inRange.c p.relX 0 1000).trans (by rw [h3])) (K4 := (s_inRange.c p.relY 0 1000).trans (by rw [h4])) (K5 := (s_inRange.c p.w (-300) 300).trans (by rw [h5]))
        | false =>
          exact s_validPlace.w5 _ (K1 := (s_inRange.c p.x (-300) 300).trans (by rw [h1])) (K2 := (s_inRange.c p.y (-300) 300).trans (by rw [h2])) (K3 := (s_inRange.c p.relX 0 1000).trans (by rw [h3])) (K4 := (s_inRange.c p.relY 0 1000).trans (by rw [h4]))
      | false =>
        exact s_validPlace.w4 _ (K1 := (s_inRange.c p.x (-300) 300).trans (by rw [h1])) (K2 := (s_inRange.c p.y (-300) 300).trans (by rw [h2])) (K3 := (s_inRange.c p.relX 0 1000).trans (by rw [h3]))
    | false =>
      exact s_validPlace.w3 _ (K1 := (s_inRange.c p.x (-300) 300).trans (by rw [h1])) (K2 := (s_inRange.c p.y (-300) 300).trans (by rw [h2]))
  | false =>
    exact s_validPlace.w2 _ (K1 := (s_inRange.c p.x (-300) 300).trans (by rw [h1]))
end Go.Proofs.Ytdgamfanffnhaaa.PI
namespace Go.Proofs.Ytdgamfanffnhaaa.PI
open Go
def sumW (l : List Int) : Int := l.foldl (fun n e => w64 (n + e)) 0
theorem sumW_succ {l : List Int} {j : Nat} (h : j < l.length) : sumW (l.take (j + 1)) = w64 (sumW (l.take j) + l[j]) := by
  unfold sumW
  rw [List.take_add_one, List.getElem?_eq_getElem h, List.foldl_append]; rfl
abbrev i_sum.m (l : List Int) : Int := sumW l
abbrev s_total.m (l : List Int) : Int := sumW l
theorem i_sum.c (l : List Int) (hl : Sm l) : PC i_sum [.one (.rsl (l.map encInt))] (vI (i_sum.m l), []) := by
  unfold Sm at hl
  refine lift (i_sum.w1 l _ ?_)
  have := loop_exit (step := i_sum.r0 CC lpW) (S := fun j => i_sum.s0 (sumW (l.take j)) (l.map encInt) ((l.map encInt).length : Nat) (j : Nat)) l.length (fun j hj => by
    have := i_sum.l0_1 (call := CC) (lp := lpW) (sumW (l.take j)) (l.map encInt) ((l.map encInt).length : Nat) (j : Nat) l[j] (by simpa using hj) (by simp) (at_map hj)
    rw [this, w64_succ (by omega), sumW_succ hj]) (i_sum.l0_2 _ _ _ _ (by simp))
  simpa [show sumW [] = 0 from rfl] using this
theorem s_total.c (l : List Int) (hl : Sm l) : PC s_total [.one (.rsl (l.map encInt))] (vI (s_total.m l), []) := by
  unfold Sm at hl
  refine lift (s_total.w1 l _ ?_)
  have := loop_exit (step := s_total.r0 CC lpW) (S := fun j => s_total.s0 (l.map encInt) (sumW (l.take j)) (j : Nat)) l.length (fun j hj => by
    have := s_total.l0_1 (call := CC) (lp := lpW) (l.map encInt) (sumW (l.take j)) (j : Nat) l[j] (by simpa using hj) (by simp) (at_map hj)
    rw [this, w64_succ (by omega), sumW_succ hj]) (s_total.l0_2 _ _ _ (by simp))
  simpa [show sumW [] = 0 from rfl] using this
theorem all_at {α : Type} {l : List α} {p : α → Bool} : (∀ i (h : i < l.length), p l[i] = true) ↔ l.all p = true := by
  rw [List.all_eq_true]
  constructor
  · intro h x hx
    obtain ⟨i, hi, rfl⟩ := List.mem_iff_getElem.1 hx
    exact h i hi
  · exact fun h i hi => h _ (List.getElem_mem hi)
def s_validLines.m (list : List Line) : Bool := bif list.all s_validLine.m then s_inRange.m (list.length : Int) 1 5 else false
theorem s_validLines.c (list : List Line) (hl : Sm list) : PC s_validLines [.one (.rsl (list.map encLine))] (vB (s_validLines.m list), []) := by
  unfold Sm at hl
  refine lift ?_
  unfold s_validLines.m
  have := loop_find (step := s_validLines.r0 CC lpW) (S := fun j => s_validLines.s0 (list.map encLine) (j : Nat)) (eb := fun _ => s_validLines.e0_0 (list.map encLine)) list.length (fun j => (list[j]?.map s_validLine.m).getD true) (fun j hj hp => by
    rw [List.getElem?_eq_getElem hj] at hp
    have := s_validLines.l0_3 (call := CC) (lp := lpW) (list.map encLine) (j : Nat) list[j] (by simpa using hj) (by simp) (at_map hj) ((s_validLine.c list[j]).trans (by simpa using hp))
    rw [this, w64_succ (by omega)]) (fun j hj hp => by
    rw [List.getElem?_eq_getElem hj] at hp
    exact s_validLines.l0_1 (call := CC) (lp := lpW) (list.map encLine) (j : Nat) list[j] (by simpa using hj) (by simp) (at_map hj) ((s_validLine.c list[j]).trans (by simpa using hp))) (s_validLines.l0_2 _ _ (by simp))
  rcases this with ⟨h, hl⟩ | ⟨i, hi, hp, _, hl⟩
  · have ha : list.all s_validLine.m = true := all_at.1 fun i hi => by have := h i hi; rw [List.getElem?_eq_getElem hi] at this; simpa using this
    rw [ha]
    refine s_validLines.w2 list _ _ ?_ hl
    have := s_inRange.c ((list.map encLine).length : Nat) 1 5
    simpa using this
  · have ha : list.all s_validLine.m = false := by
      cases h : list.all s_validLine.m with
      | false => rfl
      | true => rw [List.getElem?_eq_getElem hi] at hp; have := all_at.2 h i hi; simp [this] at hp
    rw [ha]
    exact s_validLines.w1 list _ hl
def x_IndexFunc_Line.m (s : List Line) : Int := match s.findIdx? i_linesOk_1.m with
  | some i => (i : Int)
  | none => -1
theorem x_IndexFunc_Line.c (s : List Line) (hl : Sm s) : PC x_IndexFunc_Line [.one (.rsl (s.map encLine)), .one (.fn i_linesOk_1)] (vI (x_IndexFunc_Line.m s), []) := by
  unfold Sm at hl
  refine lift ?_
  unfold x_IndexFunc_Line.m
  have := loop_find (step := x_IndexFunc_Line.r0 CC lpW) (S := fun j => x_IndexFunc_Line.s0 (s.map encLine) ((s.map encLine).length : Nat) (j : Nat)) (eb := fun j => x_IndexFunc_Line.e0_0 (j : Nat)) s.length (fun j => (s[j]?.map fun x => !i_linesOk_1.m x).getD true) (fun j hj hp => by
    rw [List.getElem?_eq_getElem hj] at hp
    have := x_IndexFunc_Line.l0_3 (call := CC) (lp := lpW) (s.map encLine) ((s.map encLine).length : Nat) (j : Nat) s[j] (by simpa using hj) (by simp) (at_map hj) ((i_linesOk_1.c s[j]).trans (by simpa using hp))
    rw [this, w64_succ (by omega)]) (fun j hj hp => by
    rw [List.getElem?_eq_getElem hj] at hp
    exact x_IndexFunc_Line.l0_1 (call := CC) (lp := lpW) (s.map encLine) ((s.map encLine).length : Nat) (j : Nat) s[j] (by simpa using hj) (by simp) (at_map hj) ((i_linesOk_1.c s[j]).trans (by simpa using hp))) (x_IndexFunc_Line.l0_2 _ _ _ (by simp))
  rcases this with ⟨h, hl⟩ | ⟨i, hi, hp, hb, hl⟩
  · have : s.findIdx? i_linesOk_1.m = none := by
      rw [List.findIdx?_eq_none_iff]
      intro x hx
      obtain ⟨i, hi, rfl⟩ := List.mem_iff_getElem.1 hx
      have := h i hi; rw [List.getElem?_eq_getElem hi] at this; simpa using this
    rw [this]
    exact x_IndexFunc_Line.w2 s hl
  · have : s.findIdx? i_linesOk_1.m = some i := by
      rw [List.findIdx?_eq_some_iff_getElem]
      refine ⟨hi, ?_, fun j hj => ?_⟩
      · rw [List.getElem?_eq_getElem hi] at hp; simpa using hp
      · have := hb j hj; rw [List.getElem?_eq_getElem (by omega)] at this; simpa using this
    rw [this]
    exact x_IndexFunc_Line.w1 s _ hl
theorem x_ContainsFunc_Line.c (s : List Line) (hl : Sm s) : PC x_ContainsFunc_Line [.one (.rsl (s.map encLine)), .one (.fn i_linesOk_1)] (vB (s.any i_linesOk_1.m), []) := by
  have h : s.any i_linesOk_1.m = decide (x_IndexFunc_Line.m s ≥ 0) := by
    unfold x_IndexFunc_Line.m
    cases hf : s.findIdx? i_linesOk_1.m with
    | none =>
      rw [List.findIdx?_eq_none_iff] at hf
      have : s.any i_linesOk_1.m = false := by rw [List.any_eq_false]; intro x hx; simp [hf x hx]
      simp [this]
    | some i =>
      rw [List.findIdx?_eq_some_iff_getElem] at hf
      obtain ⟨hi, hp, _⟩ := hf
      have : s.any i_linesOk_1.m = true := List.any_eq_true.2 ⟨s[i], List.getElem_mem hi, hp⟩
      simp [this]
  rw [h]
  exact lift (x_ContainsFunc_Line.w1 s _ (x_IndexFunc_Line.c s hl))
def i_linesOk.m (list : List Line) : Bool := bif i_within.m (list.length : Int) 1 5 then !list.any i_linesOk_1.m else false
theorem i_linesOk.c (list : List Line) (hl : Sm list) : PC i_linesOk [.one (.rsl (list.map encLine))] (vB (i_linesOk.m list), []) := by
  refine lift ?_
  unfold i_linesOk.m
  have k := i_within.c ((list.map encLine).length : Nat) 1 5
  simp only [List.length_map] at k
  cases h : i_within.m (list.length : Int) 1 5 with
  | true => exact i_linesOk.w1 list _ (by simp only [List.length_map]; exact k.trans (by rw [h])) (x_ContainsFunc_Line.c list hl)
  | false => exact i_linesOk.w2 list (by simp only [List.length_map]; exact k.trans (by rw [h]))
def i_ValidPlace.m (p : Place) : Bool := bif [p.x, p.y, p.w, p.h].all fun n => i_within.m n (-300) 300 then (bif [p.relX, p.relY, p.relW, p.relH].all fun n => i_within.m n 0 1000 then i_within.m p.anchor 0 8 else false) else false
theorem i_ValidPlace.c (p : Place) : PC i_ValidPlace [.agg (encPlace p)] (vB (i_ValidPlace.m p), []) := by
  refine lift ?_
  unfold i_ValidPlace.m
  have key : ∀ (l : List Int) (p' : Int → Bool), l.length = 4 → ((∀ i, i < 4 → (l[i]?.map p').getD true = true) ↔ l.all p' = true) := by
    intro l p' hl
    rw [← all_at]
    constructor
    · intro h i hi; have := h i (by omega); rw [List.getElem?_eq_getElem hi] at this; simpa using this
    · intro h i hi; rw [List.getElem?_eq_getElem (by omega)]; simpa using h i (by omega)
  have bad : ∀ (l : List Int) (p' : Int → Bool) (i : Nat), l.length = 4 → i < 4 → (l[i]?.map p').getD true = false → l.all p' = false := by
    intro l p' i hl hi hp
    cases h : l.all p' with
    | false => rfl
    | true => rw [(key l p' hl).2 h i hi] at hp; cases hp
  have r0 : ∀ (l : List Int), l.length = 4 → _ := fun l hl => loop_find (step := i_ValidPlace.r0 CC lpW) (S := fun j => i_ValidPlace.s0 (j : Nat) p (l.map encInt)) (eb := fun _ => i_ValidPlace.e0_0 p) (ee := i_ValidPlace.e0_1 p) (q := 0) 4 (fun j => (l[j]?.map fun n => i_within.m n (-300) 300).getD true) (fun j hj hp => by
      rw [List.getElem?_eq_getElem (by omega)] at hp
      have := i_ValidPlace.l0_3 (call := CC) (lp := lpW) (j : Nat) p (l.map encInt) (l[j]'(by omega)) (by simp; omega) (by simp [hl]) (by simp) (at_map (by omega)) ((i_within.c _ _ _).trans (by simpa using hp))
      rw [this, w64_succ (by omega)]) (fun j hj hp => by
      rw [List.getElem?_eq_getElem (by omega)] at hp
      exact i_ValidPlace.l0_1 (call := CC) (lp := lpW) (j : Nat) p (l.map encInt) (l[j]'(by omega)) (by simp; omega) (by simp [hl]) (by simp) (at_map (by omega)) ((i_within.c _ _ _).trans (by simpa using hp))) (i_ValidPlace.l0_2 _ _ _ (by simp))
  have r1 : ∀ (l : List Int), l.length = 4 → _ := fun l hl => loop_find (step := i_ValidPlace.r1 CC lpW) (S := fun j => i_ValidPlace.s1 (j : Nat) p (l.map encInt)) (eb := fun _ => i_ValidPlace.e1_0 p) (ee := i_ValidPlace.e1_1 p) (q := 2) 4 (fun j => (l[j]?.map fun n => i_within.m n 0 1000).getD true) (fun j hj hp => by
      rw [List.getElem?_eq_getElem (by omega)] at hp
      have := i_ValidPlace.l1_3 (call := CC) (lp := lpW) (j : Nat) p (l.map encInt) (l[j]'(by omega)) (by simp; omega) (by simp [hl]) (by simp) (at_map (by omega)) ((i_within.c _ _ _).trans (by simpa using hp))
      rw [this, w64_succ (by omega)]) (fun j hj hp => by
      rw [List.getElem?_eq_getElem (by omega)] at hp
      exact i_ValidPlace.l1_1 (call := CC) (lp := lpW) (j : Nat) p (l.map encInt) (l[j]'(by omega)) (by simp; omega) (by simp [hl]) (by simp) (at_map (by omega)) ((i_within.c _ _ _).trans (by simpa using hp))) (i_ValidPlace.l1_2 _ _ _ (by simp))
  rcases r0 [p.x, p.y, p.w, p.h] rfl with ⟨h, hl⟩ | ⟨i, hi, hp, _, hl⟩
  · rw [(key _ _ rfl).1 h]
    rcases r1 [p.relX, p.relY, p.relW, p.relH] rfl with ⟨h1, hl1⟩ | ⟨i, hi, hp, _, hl1⟩
    · rw [(key _ _ rfl).1 h1]
      exact i_ValidPlace.w3 p p p _ (i_within.c _ _ _) hl hl1
    · rw [bad _ _ i rfl hi hp]
      exact i_ValidPlace.w2 p p p hl hl1
  · rw [bad _ _ i rfl hi hp]
    exact i_ValidPlace.w1 p p hl
end Go.Proofs.Ytdgamfanffnhaaa.PI
namespace Go.Proofs.Ytdgamfanffnhaaa.PI
open Go
set_option maxRecDepth 100000
set_option linter.unusedVariables false
def i_Node_ok.m (n : Node) : Bool := (bif (i_within.m n.w 0 30) then (bif (i_within.m n.h 0 30) then (bif (i_within.m n.kind 0 2) then (bif (i_ValidPack.m n.pack) then (bif (n.pack.w != 0) then false else (bif (n.pack.h != 0) then false else (bif (i_ValidPlace.m n.place) then (bif (n.cell.w != 0) then false else (bif (n.cell.h != 0) then false else (bif (n.kind == 1) then (bif (i_linesOk.m n.cols) then (i_linesOk.m n.rows) else false) else (bif ((((n.cols.map encLine).length : Nat) : Int) == 0) then ((((n.rows.map encLine).length : Nat) : Int) == 0) else false)))) else false))) else false) else false) else false) else false)
theorem i_Node_ok.c (n : Node) (S1 : Sm n.cols) (S2 : Sm n.rows) : PC i_Node_ok [.agg (encNodeR n)] (vB (i_Node_ok.m n), []) := by
  refine lift ?_
  unfold i_Node_ok.m
  cases h1 : (i_within.m n.w 0 30) with
  | true =>
    cases h2 : (i_within.m n.h 0 30) with
    | true =>
      cases h3 : (i_within.m n.kind 0 2) with
      | true =>
        cases h4 : (i_ValidPack.m n.pack) with
        | true =>
          cases h5 : (n.pack.w != 0) with
          | true =>
            exact i_Node_ok.w5 _ (H5 := h5) (K1 := (i_within.c n.w 0 30).trans (by rw [h1])) (K2 := (i_within.c n.h 0 30).trans (by rw [h2])) (K3 := (i_within.c n.kind 0 2).trans (by rw [h3])) (K4 := (i_ValidPack.c n.pack).trans (by rw [h4]))
          | false =>
            cases h6 : (n.pack.h != 0) with
            | true =>
              exact i_Node_ok.w6 _ (H5 := h5) (H6 := h6) (K1 := (i_within.c n.w 0 30).trans (by rw [h1])) (K2 := (i_within.c n.h 0 30).trans (by rw [h2])) (K3 := (i_within.c n.kind 0 2).trans (by rw [h3])) (K4 := (i_ValidPack.c n.pack).trans (by rw [h4]))
            | false =>
              cases h7 : (i_ValidPlace.m n.place) with
              | true =>
                cases h8 : (n.cell.w != 0) with
                | true =>
                  exact i_Node_ok.w8 _ (H5 := h5) (H6 := h6) (H8 := h8) (K1 := (i_within.c n.w 0 30).trans (by rw [h1])) (K2 := (i_within.c n.h 0 30).trans (by rw [h2])) (K3 := (i_within.c n.kind 0 2).trans (by rw [h3])) (K4 := (i_ValidPack.c n.pack).trans (by rw [h4])) (K5 := (i_ValidPlace.c n.place).trans (by rw [h7]))
                | false =>
                  cases h9 : (n.cell.h != 0) with
                  | true =>
                    exact i_Node_ok.w9 _ (H5 := h5) (H6 := h6) (H8 := h8) (H9 := h9) (K1 := (i_within.c n.w 0 30).trans (by rw [h1])) (K2 := (i_within.c n.h 0 30).trans (by rw [h2])) (K3 := (i_within.c n.kind 0 2).trans (by rw [h3])) (K4 := (i_ValidPack.c n.pack).trans (by rw [h4])) (K5 := (i_ValidPlace.c n.place).trans (by rw [h7]))
                  | false =>
                    cases h10 : (n.kind == 1) with
                    | true =>
                      cases h11 : (i_linesOk.m n.cols) with
                      | true =>
                        exact i_Node_ok.w10 _ _ (H5 := h5) (H6 := h6) (H8 := h8) (H9 := h9) (H10 := h10) (K1 := (i_within.c n.w 0 30).trans (by rw [h1])) (K2 := (i_within.c n.h 0 30).trans (by rw [h2])) (K3 := (i_within.c n.kind 0 2).trans (by rw [h3])) (K4 := (i_ValidPack.c n.pack).trans (by rw [h4])) (K5 := (i_ValidPlace.c n.place).trans (by rw [h7])) (K6 := (i_linesOk.c n.cols S1).trans (by rw [h11])) (K7 := (i_linesOk.c n.rows S2))
                      | false =>
                        exact i_Node_ok.w13 _ (H5 := h5) (H6 := h6) (H8 := h8) (H9 := h9) (H10 := h10) (K1 := (i_within.c n.w 0 30).trans (by rw [h1])) (K2 := (i_within.c n.h 0 30).trans (by rw [h2])) (K3 := (i_within.c n.kind 0 2).trans (by rw [h3])) (K4 := (i_ValidPack.c n.pack).trans (by rw [h4])) (K5 := (i_ValidPlace.c n.place).trans (by rw [h7])) (K6 := (i_linesOk.c n.cols S1).trans (by rw [h11]))
                    | false =>
                      cases h12 : ((((n.cols.map encLine).length : Nat) : Int) == 0) with
                      | true =>
                        exact i_Node_ok.w11 _ (H5 := h5) (H6 := h6) (H8 := h8) (H9 := h9) (H10 := h10) (H11 := h12) (K1 := (i_within.c n.w 0 30).trans (by rw [h1])) (K2 := (i_within.c n.h 0 30).trans (by rw [h2])) (K3 := (i_within.c n.kind 0 2).trans (by rw [h3])) (K4 := (i_ValidPack.c n.pack).trans (by rw [h4])) (K5 := (i_ValidPlace.c n.place).trans (by rw [h7]))
                      | false =>
                        exact i_Node_ok.w12 _ (H5 := h5) (H6 := h6) (H8 := h8) (H9 := h9) (H10 := h10) (H11 := h12) (K1 := (i_within.c n.w 0 30).trans (by rw [h1])) (K2 := (i_within.c n.h 0 30).trans (by rw [h2])) (K3 := (i_within.c n.kind 0 2).trans (by rw [h3])) (K4 := (i_ValidPack.c n.pack).trans (by rw [h4])) (K5 := (i_ValidPlace.c n.place).trans (by rw [h7]))
              | false =>
                exact i_Node_ok.w7 _ (H5 := h5) (H6 := h6) (K1 := (i_within.c n.w 0 30).trans (by rw [h1])) (K2 := (i_within.c n.h 0 30).trans (by rw [h2])) (K3 := (i_within.c n.kind 0 2).trans (by rw [h3])) (K4 := (i_ValidPack.c n.pack).trans (by rw [h4])) (K5 := (i_ValidPlace.c n.place).trans (by rw [h7]))
        | false =>
          exact i_Node_ok.w4 _ (K1 := (i_within.c n.w 0 30).trans (by rw [h1])) (K2 := (i_within.c n.h 0 30).trans (by rw [h2])) (K3 := (i_within.c n.kind 0 2).trans (by rw [h3])) (K4 := (i_ValidPack.c n.pack).trans (by rw [h4]))
      | false =>
        exact i_Node_ok.w3 _ (K1 := (i_within.c n.w 0 30).trans (by rw [h1])) (K2 := (i_within.c n.h 0 30).trans (by rw [h2])) (K3 := (i_within.c n.kind 0 2).trans (by rw [h3]))
    | false =>
      exact i_Node_ok.w2 _ (K1 := (i_within.c n.w 0 30).trans (by rw [h1])) (K2 := (i_within.c n.h 0 30).trans (by rw [h2]))
  | false =>
    exact i_Node_ok.w1 _ (K1 := (i_within.c n.w 0 30).trans (by rw [h1]))
def s_validNode.m (nodes : List Node) (i : Int) (e : Node) (e2 : Node) : Bool := (bif (s_inRange.m e.w 0 30) then (bif (s_inRange.m e.h 0 30) then (bif (s_inRange.m e.kind 0 2) then (bif (s_validPack.m e.pack) then (bif (e.pack.w != 0) then false else (bif (e.pack.h != 0) then false else (bif (s_validPlace.m e.place) then (bif (e.cell.w != 0) then false else (bif (e.cell.h != 0) then false else (bif (e.kind == 1) then (bif (s_validLines.m e.cols) then (bif (s_validLines.m e.rows) then (bif (e.kind != 1) then (bif decide ((((e.cols.map encLine).length : Nat) : Int) > 0) then false else (bif decide ((((e.rows.map encLine).length : Nat) : Int) > 0) then false else (bif (i == 0) then (e.parent == (-1)) else (bif (s_inRange.m e.parent 0 (w64 (i - 1))) then (bif (e2.kind != 1) then true else (s_validCell.m e2.cols e2.rows ([]) e.cell)) else false)))) else (bif (i == 0) then (e.parent == (-1)) else (bif (s_inRange.m e.parent 0 (w64 (i - 1))) then (bif (e2.kind != 1) then true else (s_validCell.m e2.cols e2.rows ([]) e.cell)) else false))) else false) else false) else (bif (e.kind != 1) then (bif decide ((((e.cols.map encLine).length : Nat) : Int) > 0) then false else (bif decide ((((e.rows.map encLine).length : Nat) : Int) > 0) then false else (bif (i == 0) then (e.parent == (-1)) else (bif (s_inRange.m e.parent 0 (w64 (i - 1))) then (bif (e2.kind != 1) then true else (s_validCell.m e2.cols e2.rows ([]) e.cell)) else false)))) else (bif (i == 0) then (e.parent == (-1)) else (bif (s_inRange.m e.parent 0 (w64 (i - 1))) then (bif (e2.kind != 1) then true else (s_validCell.m e2.cols e2.rows ([]) e.cell)) else false)))))) else false))) else false) else false) else false) else false)
theorem s_validNode.c (nodes : List Node) (i : Int) (e : Node) (e2 : Node) (G1 : decide (0 ≤ i) = true) (G2 : (s_inRange.m e.parent 0 (w64 (i - 1))) = true → decide (0 ≤ e.parent) = true) (F1 : (nodes.map encNode)[(i).toNat]? = some (encNode e)) (F2 : (s_inRange.m e.parent 0 (w64 (i - 1))) = true → (nodes.map encNode)[(e.parent).toNat]? = some (encNode e2)) (S1 : Sm e.cols) (S2 : Sm e.rows) : PC s_validNode [.agg [.rsl (nodes.map encNode)], vI i] (vB (s_validNode.m nodes i e e2), []) := by
  refine lift ?_
  unfold s_validNode.m
  cases h1 : (s_inRange.m e.w 0 30) with
  | true =>
    cases h2 : (s_inRange.m e.h 0 30) with
    | true =>
      cases h3 : (s_inRange.m e.kind 0 2) with
      | true =>
        cases h4 : (s_validPack.m e.pack) with
        | true =>
          cases h5 : (e.pack.w != 0) with
          | true =>
            exact s_validNode.w5 _ _ _ (H1 := G1) (H6 := h5) (E1 := F1) (K1 := (s_inRange.c e.w 0 30).trans (by rw [h1])) (K2 := (s_inRange.c e.h 0 30).trans (by rw [h2])) (K3 := (s_inRange.c e.kind 0 2).trans (by rw [h3])) (K4 := (s_validPack.c e.pack).trans (by rw [h4]))
          | false =>
            cases h6 : (e.pack.h != 0) with
            | true =>
              exact s_validNode.w6 _ _ _ (H1 := G1) (H6 := h5) (H7 := h6) (E1 := F1) (K1 := (s_inRange.c e.w 0 30).trans (by rw [h1])) (K2 := (s_inRange.c e.h 0 30).trans (by rw [h2])) (K3 := (s_inRange.c e.kind 0 2).trans (by rw [h3])) (K4 := (s_validPack.c e.pack).trans (by rw [h4]))
            | false =>
              cases h7 : (s_validPlace.m e.place) with
              | true =>
                cases h8 : (e.cell.w != 0) with
                | true =>
                  exact s_validNode.w8 _ _ _ (H1 := G1) (H6 := h5) (H7 := h6) (H9 := h8) (E1 := F1) (K1 := (s_inRange.c e.w 0 30).trans (by rw [h1])) (K2 := (s_inRange.c e.h 0 30).trans (by rw [h2])) (K3 := (s_inRange.c e.kind 0 2).trans (by rw [h3])) (K4 := (s_validPack.c e.pack).trans (by rw [h4])) (K5 := (s_validPlace.c e.place).trans (by rw [h7]))
                | false =>
                  cases h9 : (e.cell.h != 0) with
                  | true =>
                    exact s_validNode.w9 _ _ _ (H1 := G1) (H6 := h5) (H7 := h6) (H9 := h8) (H10 := h9) (E1 := F1) (K1 := (s_inRange.c e.w 0 30).trans (by rw [h1])) (K2 := (s_inRange.c e.h 0 30).trans (by rw [h2])) (K3 := (s_inRange.c e.kind 0 2).trans (by rw [h3])) (K4 := (s_validPack.c e.pack).trans (by rw [h4])) (K5 := (s_validPlace.c e.place).trans (by rw [h7]))
                  | false =>
                    cases h10 : (e.kind == 1) with
                    | true =>
                      cases h11 : (s_validLines.m e.cols) with
                      | true =>
                        cases h12 : (s_validLines.m e.rows) with
                        | true =>
                          cases h13 : (e.kind != 1) with
                          | true =>
                            cases h14 : (decide ((((e.cols.map encLine).length : Nat) : Int) > 0)) with
                            | true =>
                              exact s_validNode.w22 _ _ _ (H1 := G1) (H6 := h5) (H7 := h6) (H9 := h8) (H10 := h9) (H11 := h10) (H14 := h13) (H15 := h14) (E1 := F1) (K1 := (s_inRange.c e.w 0 30).trans (by rw [h1])) (K2 := (s_inRange.c e.h 0 30).trans (by rw [h2])) (K3 := (s_inRange.c e.kind 0 2).trans (by rw [h3])) (K4 := (s_validPack.c e.pack).trans (by rw [h4])) (K5 := (s_validPlace.c e.place).trans (by rw [h7])) (K6 := (s_validLines.c e.cols S1).trans (by rw [h11])) (K7 := (s_validLines.c e.rows S2).trans (by rw [h12]))
                            | false =>
                              cases h15 : (decide ((((e.rows.map encLine).length : Nat) : Int) > 0)) with
                              | true =>
                                exact s_validNode.w27 _ _ _ (H1 := G1) (H6 := h5) (H7 := h6) (H9 := h8) (H10 := h9) (H11 := h10) (H14 := h13) (H15 := h14) (H16 := h15) (E1 := F1) (K1 := (s_inRange.c e.w 0 30).trans (by rw [h1])) (K2 := (s_inRange.c e.h 0 30).trans (by rw [h2])) (K3 := (s_inRange.c e.kind 0 2).trans (by rw [h3])) (K4 := (s_validPack.c e.pack).trans (by rw [h4])) (K5 := (s_validPlace.c e.place).trans (by rw [h7])) (K6 := (s_validLines.c e.cols S1).trans (by rw [h11])) (K7 := (s_validLines.c e.rows S2).trans (by rw [h12]))
                              | false =>
                                cases h16 : (i == 0) with
                                | true =>
                                  exact s_validNode.w28 _ _ _ (H1 := G1) (H6 := h5) (H7 := h6) (H9 := h8) (H10 := h9) (H11 := h10) (H14 := h13) (H15 := h14) (H16 := h15) (H17 := h16) (E1 := F1) (K1 := (s_inRange.c e.w 0 30).trans (by rw [h1])) (K2 := (s_inRange.c e.h 0 30).trans (by rw [h2])) (K3 := (s_inRange.c e.kind 0 2).trans (by rw [h3])) (K4 := (s_validPack.c e.pack).trans (by rw [h4])) (K5 := (s_validPlace.c e.place).trans (by rw [h7])) (K6 := (s_validLines.c e.cols S1).trans (by rw [h11])) (K7 := (s_validLines.c e.rows S2).trans (by rw [h12]))
                                | false =>
                                  cases h17 : (s_inRange.m e.parent 0 (w64 (i - 1))) with
                                  | true =>
                                    cases h18 : (e2.kind != 1) with
                                    | true =>
                                      exact s_validNode.w30 _ _ _ _ (H1 := G1) (H6 := h5) (H7 := h6) (H9 := h8) (H10 := h9) (H11 := h10) (H14 := h13) (H15 := h14) (H16 := h15) (H17 := h16) (H19 := (G2 h17)) (H20 := h18) (E1 := F1) (E2 := (F2 h17)) (K1 := (s_inRange.c e.w 0 30).trans (by rw [h1])) (K2 := (s_inRange.c e.h 0 30).trans (by rw [h2])) (K3 := (s_inRange.c e.kind 0 2).trans (by rw [h3])) (K4 := (s_validPack.c e.pack).trans (by rw [h4])) (K5 := (s_validPlace.c e.place).trans (by rw [h7])) (K6 := (s_validLines.c e.cols S1).trans (by rw [h11])) (K7 := (s_validLines.c e.rows S2).trans (by rw [h12])) (K8 := (s_inRange.c e.parent 0 (w64 (i - 1))).trans (by rw [h17]))
                                    | false =>
                                      exact s_validNode.w31 _ _ _ _ _ (H1 := G1) (H6 := h5) (H7 := h6) (H9 := h8) (H10 := h9) (H11 := h10) (H14 := h13) (H15 := h14) (H16 := h15) (H17 := h16) (H19 := (G2 h17)) (H20 := h18) (E1 := F1) (E2 := (F2 h17)) (K1 := (s_inRange.c e.w 0 30).trans (by rw [h1])) (K2 := (s_inRange.c e.h 0 30).trans (by rw [h2])) (K3 := (s_inRange.c e.kind 0 2).trans (by rw [h3])) (K4 := (s_validPack.c e.pack).trans (by rw [h4])) (K5 := (s_validPlace.c e.place).trans (by rw [h7])) (K6 := (s_validLines.c e.cols S1).trans (by rw [h11])) (K7 := (s_validLines.c e.rows S2).trans (by rw [h12])) (K8 := (s_inRange.c e.parent 0 (w64 (i - 1))).trans (by rw [h17])) (K9 := (s_validCell.c e2.cols e2.rows ([]) e.cell))
                                  | false =>
                                    exact s_validNode.w29 _ _ _ (H1 := G1) (H6 := h5) (H7 := h6) (H9 := h8) (H10 := h9) (H11 := h10) (H14 := h13) (H15 := h14) (H16 := h15) (H17 := h16) (E1 := F1) (K1 := (s_inRange.c e.w 0 30).trans (by rw [h1])) (K2 := (s_inRange.c e.h 0 30).trans (by rw [h2])) (K3 := (s_inRange.c e.kind 0 2).trans (by rw [h3])) (K4 := (s_validPack.c e.pack).trans (by rw [h4])) (K5 := (s_validPlace.c e.place).trans (by rw [h7])) (K6 := (s_validLines.c e.cols S1).trans (by rw [h11])) (K7 := (s_validLines.c e.rows S2).trans (by rw [h12])) (K8 := (s_inRange.c e.parent 0 (w64 (i - 1))).trans (by rw [h17]))
                          | false =>
                            cases h19 : (i == 0) with
                            | true =>
                              exact s_validNode.w23 _ _ _ (H1 := G1) (H6 := h5) (H7 := h6) (H9 := h8) (H10 := h9) (H11 := h10) (H14 := h13) (H15 := h19) (E1 := F1) (K1 := (s_inRange.c e.w 0 30).trans (by rw [h1])) (K2 := (s_inRange.c e.h 0 30).trans (by rw [h2])) (K3 := (s_inRange.c e.kind 0 2).trans (by rw [h3])) (K4 := (s_validPack.c e.pack).trans (by rw [h4])) (K5 := (s_validPlace.c e.place).trans (by rw [h7])) (K6 := (s_validLines.c e.cols S1).trans (by rw [h11])) (K7 := (s_validLines.c e.rows S2).trans (by rw [h12]))
                            | false =>
                              cases h20 : (s_inRange.m e.parent 0 (w64 (i - 1))) with
                              | true =>
                                cases h21 : (e2.kind != 1) with
                                | true =>
                                  exact s_validNode.w25 _ _ _ _ (H1 := G1) (H6 := h5) (H7 := h6) (H9 := h8) (H10 := h9) (H11 := h10) (H14 := h13) (H15 := h19) (H17 := (G2 h20)) (H18 := h21) (E1 := F1) (E2 := (F2 h20)) (K1 := (s_inRange.c e.w 0 30).trans (by rw [h1])) (K2 := (s_inRange.c e.h 0 30).trans (by rw [h2])) (K3 := (s_inRange.c e.kind 0 2).trans (by rw [h3])) (K4 := (s_validPack.c e.pack).trans (by rw [h4])) (K5 := (s_validPlace.c e.place).trans (by rw [h7])) (K6 := (s_validLines.c e.cols S1).trans (by rw [h11])) (K7 := (s_validLines.c e.rows S2).trans (by rw [h12])) (K8 := (s_inRange.c e.parent 0 (w64 (i - 1))).trans (by rw [h20]))
                                | false =>
                                  exact s_validNode.w26 _ _ _ _ _ (H1 := G1) (H6 := h5) (H7 := h6) (H9 := h8) (H10 := h9) (H11 := h10) (H14 := h13) (H15 := h19) (H17 := (G2 h20)) (H18 := h21) (E1 := F1) (E2 := (F2 h20)) (K1 := (s_inRange.c e.w 0 30).trans (by rw [h1])) (K2 := (s_inRange.c e.h 0 30).trans (by rw [h2])) (K3 := (s_inRange.c e.kind 0 2).trans (by rw [h3])) (K4 := (s_validPack.c e.pack).trans (by rw [h4])) (K5 := (s_validPlace.c e.place).trans (by rw [h7])) (K6 := (s_validLines.c e.cols S1).trans (by rw [h11])) (K7 := (s_validLines.c e.rows S2).trans (by rw [h12])) (K8 := (s_inRange.c e.parent 0 (w64 (i - 1))).trans (by rw [h20])) (K9 := (s_validCell.c e2.cols e2.rows ([]) e.cell))
                              | false =>
                                exact s_validNode.w24 _ _ _ (H1 := G1) (H6 := h5) (H7 := h6) (H9 := h8) (H10 := h9) (H11 := h10) (H14 := h13) (H15 := h19) (E1 := F1) (K1 := (s_inRange.c e.w 0 30).trans (by rw [h1])) (K2 := (s_inRange.c e.h 0 30).trans (by rw [h2])) (K3 := (s_inRange.c e.kind 0 2).trans (by rw [h3])) (K4 := (s_validPack.c e.pack).trans (by rw [h4])) (K5 := (s_validPlace.c e.place).trans (by rw [h7])) (K6 := (s_validLines.c e.cols S1).trans (by rw [h11])) (K7 := (s_validLines.c e.rows S2).trans (by rw [h12])) (K8 := (s_inRange.c e.parent 0 (w64 (i - 1))).trans (by rw [h20]))
                        | false =>
                          exact s_validNode.w21 _ _ _ (H1 := G1) (H6 := h5) (H7 := h6) (H9 := h8) (H10 := h9) (H11 := h10) (E1 := F1) (K1 := (s_inRange.c e.w 0 30).trans (by rw [h1])) (K2 := (s_inRange.c e.h 0 30).trans (by rw [h2])) (K3 := (s_inRange.c e.kind 0 2).trans (by rw [h3])) (K4 := (s_validPack.c e.pack).trans (by rw [h4])) (K5 := (s_validPlace.c e.place).trans (by rw [h7])) (K6 := (s_validLines.c e.cols S1).trans (by rw [h11])) (K7 := (s_validLines.c e.rows S2).trans (by rw [h12]))
                      | false =>
                        exact s_validNode.w10 _ _ _ (H1 := G1) (H6 := h5) (H7 := h6) (H9 := h8) (H10 := h9) (H11 := h10) (E1 := F1) (K1 := (s_inRange.c e.w 0 30).trans (by rw [h1])) (K2 := (s_inRange.c e.h 0 30).trans (by rw [h2])) (K3 := (s_inRange.c e.kind 0 2).trans (by rw [h3])) (K4 := (s_validPack.c e.pack).trans (by rw [h4])) (K5 := (s_validPlace.c e.place).trans (by rw [h7])) (K6 := (s_validLines.c e.cols S1).trans (by rw [h11]))
                    | false =>
                      cases h22 : (e.kind != 1) with
                      | true =>
                        cases h23 : (decide ((((e.cols.map encLine).length : Nat) : Int) > 0)) with
                        | true =>
                          exact s_validNode.w11 _ _ _ (H1 := G1) (H6 := h5) (H7 := h6) (H9 := h8) (H10 := h9) (H11 := h10) (H12 := h22) (H13 := h23) (E1 := F1) (K1 := (s_inRange.c e.w 0 30).trans (by rw [h1])) (K2 := (s_inRange.c e.h 0 30).trans (by rw [h2])) (K3 := (s_inRange.c e.kind 0 2).trans (by rw [h3])) (K4 := (s_validPack.c e.pack).trans (by rw [h4])) (K5 := (s_validPlace.c e.place).trans (by rw [h7]))
                        | false =>
                          cases h24 : (decide ((((e.rows.map encLine).length : Nat) : Int) > 0)) with
                          | true =>
                            exact s_validNode.w16 _ _ _ (H1 := G1) (H6 := h5) (H7 := h6) (H9 := h8) (H10 := h9) (H11 := h10) (H12 := h22) (H13 := h23) (H14 := h24) (E1 := F1) (K1 := (s_inRange.c e.w 0 30).trans (by rw [h1])) (K2 := (s_inRange.c e.h 0 30).trans (by rw [h2])) (K3 := (s_inRange.c e.kind 0 2).trans (by rw [h3])) (K4 := (s_validPack.c e.pack).trans (by rw [h4])) (K5 := (s_validPlace.c e.place).trans (by rw [h7]))
                          | false =>
                            cases h25 : (i == 0) with
                            | true =>
                              exact s_validNode.w17 _ _ _ (H1 := G1) (H6 := h5) (H7 := h6) (H9 := h8) (H10 := h9) (H11 := h10) (H12 := h22) (H13 := h23) (H14 := h24) (H15 := h25) (E1 := F1) (K1 := (s_inRange.c e.w 0 30).trans (by rw [h1])) (K2 := (s_inRange.c e.h 0 30).trans (by rw [h2])) (K3 := (s_inRange.c e.kind 0 2).trans (by rw [h3])) (K4 := (s_validPack.c e.pack).trans (by rw [h4])) (K5 := (s_validPlace.c e.place).trans (by rw [h7]))
                            | false =>
                              cases h26 : (s_inRange.m e.parent 0 (w64 (i - 1))) with
                              | true =>
                                cases h27 : (e2.kind != 1) with
                                | true =>
                                  exact s_validNode.w19 _ _ _ _ (H1 := G1) (H6 := h5) (H7 := h6) (H9 := h8) (H10 := h9) (H11 := h10) (H12 := h22) (H13 := h23) (H14 := h24) (H15 := h25) (H17 := (G2 h26)) (H18 := h27) (E1 := F1) (E2 := (F2 h26)) (K1 := (s_inRange.c e.w 0 30).trans (by rw [h1])) (K2 := (s_inRange.c e.h 0 30).trans (by rw [h2])) (K3 := (s_inRange.c e.kind 0 2).trans (by rw [h3])) (K4 := (s_validPack.c e.pack).trans (by rw [h4])) (K5 := (s_validPlace.c e.place).trans (by rw [h7])) (K6 := (s_inRange.c e.parent 0 (w64 (i - 1))).trans (by rw [h26]))
                                | false =>
                                  exact s_validNode.w20 _ _ _ _ _ (H1 := G1) (H6 := h5) (H7 := h6) (H9 := h8) (H10 := h9) (H11 := h10) (H12 := h22) (H13 := h23) (H14 := h24) (H15 := h25) (H17 := (G2 h26)) (H18 := h27) (E1 := F1) (E2 := (F2 h26)) (K1 := (s_inRange.c e.w 0 30).trans (by rw [h1])) (K2 := (s_inRange.c e.h 0 30).trans (by rw [h2])) (K3 := (s_inRange.c e.kind 0 2).trans (by rw [h3])) (K4 := (s_validPack.c e.pack).trans (by rw [h4])) (K5 := (s_validPlace.c e.place).trans (by rw [h7])) (K6 := (s_inRange.c e.parent 0 (w64 (i - 1))).trans (by rw [h26])) (K7 := (s_validCell.c e2.cols e2.rows ([]) e.cell))
                              | false =>
                                exact s_validNode.w18 _ _ _ (H1 := G1) (H6 := h5) (H7 := h6) (H9 := h8) (H10 := h9) (H11 := h10) (H12 := h22) (H13 := h23) (H14 := h24) (H15 := h25) (E1 := F1) (K1 := (s_inRange.c e.w 0 30).trans (by rw [h1])) (K2 := (s_inRange.c e.h 0 30).trans (by rw [h2])) (K3 := (s_inRange.c e.kind 0 2).trans (by rw [h3])) (K4 := (s_validPack.c e.pack).trans (by rw [h4])) (K5 := (s_validPlace.c e.place).trans (by rw [h7])) (K6 := (s_inRange.c e.parent 0 (w64 (i - 1))).trans (by rw [h26]))
                      | false =>
                        cases h28 : (i == 0) with
                        | true =>
                          exact s_validNode.w12 _ _ _ (H1 := G1) (H6 := h5) (H7 := h6) (H9 := h8) (H10 := h9) (H11 := h10) (H12 := h22) (H13 := h28) (E1 := F1) (K1 := (s_inRange.c e.w 0 30).trans (by rw [h1])) (K2 := (s_inRange.c e.h 0 30).trans (by rw [h2])) (K3 := (s_inRange.c e.kind 0 2).trans (by rw [h3])) (K4 := (s_validPack.c e.pack).trans (by rw [h4])) (K5 := (s_validPlace.c e.place).trans (by rw [h7]))
                        | false =>
                          cases h29 : (s_inRange.m e.parent 0 (w64 (i - 1))) with
                          | true =>
                            cases h30 : (e2.kind != 1) with
                            | true =>
                              exact s_validNode.w14 _ _ _ _ (H1 := G1) (H6 := h5) (H7 := h6) (H9 := h8) (H10 := h9) (H11 := h10) (H12 := h22) (H13 := h28) (H15 := (G2 h29)) (H16 := h30) (E1 := F1) (E2 := (F2 h29)) (K1 := (s_inRange.c e.w 0 30).trans (by rw [h1])) (K2 := (s_inRange.c e.h 0 30).trans (by rw [h2])) (K3 := (s_inRange.c e.kind 0 2).trans (by rw [h3])) (K4 := (s_validPack.c e.pack).trans (by rw [h4])) (K5 := (s_validPlace.c e.place).trans (by rw [h7])) (K6 := (s_inRange.c e.parent 0 (w64 (i - 1))).trans (by rw [h29]))
                            | false =>
                              exact s_validNode.w15 _ _ _ _ _ (H1 := G1) (H6 := h5) (H7 := h6) (H9 := h8) (H10 := h9) (H11 := h10) (H12 := h22) (H13 := h28) (H15 := (G2 h29)) (H16 := h30) (E1 := F1) (E2 := (F2 h29)) (K1 := (s_inRange.c e.w 0 30).trans (by rw [h1])) (K2 := (s_inRange.c e.h 0 30).trans (by rw [h2])) (K3 := (s_inRange.c e.kind 0 2).trans (by rw [h3])) (K4 := (s_validPack.c e.pack).trans (by rw [h4])) (K5 := (s_validPlace.c e.place).trans (by rw [h7])) (K6 := (s_inRange.c e.parent 0 (w64 (i - 1))).trans (by rw [h29])) (K7 := (s_validCell.c e2.cols e2.rows ([]) e.cell))
                          | false =>
                            exact s_validNode.w13 _ _ _ (H1 := G1) (H6 := h5) (H7 := h6) (H9 := h8) (H10 := h9) (H11 := h10) (H12 := h22) (H13 := h28) (E1 := F1) (K1 := (s_inRange.c e.w 0 30).trans (by rw [h1])) (K2 := (s_inRange.c e.h 0 30).trans (by rw [h2])) (K3 := (s_inRange.c e.kind 0 2).trans (by rw [h3])) (K4 := (s_validPack.c e.pack).trans (by rw [h4])) (K5 := (s_validPlace.c e.place).trans (by rw [h7])) (K6 := (s_inRange.c e.parent 0 (w64 (i - 1))).trans (by rw [h29]))
              | false =>
                exact s_validNode.w7 _ _ _ (H1 := G1) (H6 := h5) (H7 := h6) (E1 := F1) (K1 := (s_inRange.c e.w 0 30).trans (by rw [h1])) (K2 := (s_inRange.c e.h 0 30).trans (by rw [h2])) (K3 := (s_inRange.c e.kind 0 2).trans (by rw [h3])) (K4 := (s_validPack.c e.pack).trans (by rw [h4])) (K5 := (s_validPlace.c e.place).trans (by rw [h7]))
        | false =>
          exact s_validNode.w4 _ _ _ (H1 := G1) (E1 := F1) (K1 := (s_inRange.c e.w 0 30).trans (by rw [h1])) (K2 := (s_inRange.c e.h 0 30).trans (by rw [h2])) (K3 := (s_inRange.c e.kind 0 2).trans (by rw [h3])) (K4 := (s_validPack.c e.pack).trans (by rw [h4]))
      | false =>
        exact s_validNode.w3 _ _ _ (H1 := G1) (E1 := F1) (K1 := (s_inRange.c e.w 0 30).trans (by rw [h1])) (K2 := (s_inRange.c e.h 0 30).trans (by rw [h2])) (K3 := (s_inRange.c e.kind 0 2).trans (by rw [h3]))
    | false =>
      exact s_validNode.w2 _ _ _ (H1 := G1) (E1 := F1) (K1 := (s_inRange.c e.w 0 30).trans (by rw [h1])) (K2 := (s_inRange.c e.h 0 30).trans (by rw [h2]))
  | false =>
    exact s_validNode.w1 _ _ _ (H1 := G1) (E1 := F1) (K1 := (s_inRange.c e.w 0 30).trans (by rw [h1]))
end Go.Proofs.Ytdgamfanffnhaaa.PI
namespace Go.Proofs.Ytdgamfanffnhaaa.PI
open Go
theorem uni_map {α : Type} {sz : Nat} {f : α → List C} (h : ∀ x, (f x).length = sz) (l : List α) : uni sz (l.map f) = true := by
  unfold uni; rw [List.all_eq_true]; intro el hel
  obtain ⟨x, _, rfl⟩ := List.mem_map.1 hel
  simp [h]
theorem scal_line (l : List Line) : ((l.map encLine).all (·.all C.scalar)) = true := by
  rw [List.all_eq_true]; intro el hel
  obtain ⟨x, _, rfl⟩ := List.mem_map.1 hel
  rfl
theorem map_succ {α β : Type} {l : List α} {f : α → β} {j : Nat} (h : j < l.length) : (l.take j).map f ++ [f l[j]] = (l.take (j + 1)).map f := by
  rw [List.take_add_one, List.getElem?_eq_getElem h, List.map_append]; rfl
theorem range_eq (n l h : Int) : s_inRange.m n l h = i_within.m n l h := rfl
theorem within_iff {n l h : Int} : i_within.m n l h = true ↔ l ≤ n ∧ n ≤ h := by
  unfold i_within.m
  cases hh : decide (n ≥ l) <;> simp_all; omega
theorem bif_and (a b : Bool) : (bif a then b else false) = (a && b) := by cases a <;> rfl
theorem bif_nand (a b : Bool) : (bif a then false else b) = (!a && b) := by cases a <;> rfl
theorem x_Clone_Line.c (s : List Line) (hs : Sm s) : PC x_Clone_Line [.one (.rsl (s.map encLine))] (.one (.sl (s.map encLine)), []) := by
  unfold Sm at hs
  cases s with
  | nil =>
    refine lift_both (by rfl) (fun b => ?_) (fun n => ?_)
    · cases b
      · exact (by kernel_rfl : pfun funcs own (pcW funcs own) lpW x_Clone_Line [.one (.em false)] = some (.one (.sl []), []))
      · exact (by kernel_rfl : pfun funcs own (pcW funcs own) lpW x_Clone_Line [.one (.em true)] = some (.one (.sl []), []))
    · exact (by kernel_rfl : pfun funcs own (pcN funcs own n) (lpN (n + 1)) x_Clone_Line [.one (.rsl [])] = none)
  | cons a s => exact lift (x_Clone_Line.w1 (a :: s) (by simp) (scal_line _) (uni_map (f := encLine) (fun _ => rfl) _) (by simpa using hs))
def askT (nodes : List Node) (i : Nat) (w h : Int) : List Node := nodes.set i { (nodes[i]?).getD default with w := w, h := h }
def NsOk (nodes : List Node) : Prop := nodes.length < 488671834567 ∧ ∀ n ∈ nodes, Sm n.cols ∧ Sm n.rows
theorem NsOk.at {nodes : List Node} (h : NsOk nodes) {j : Nat} (hj : j < nodes.length) : Sm nodes[j].cols ∧ Sm nodes[j].rows := h.2 _ (List.getElem_mem hj)
theorem set_map {nodes : List Node} {i : Nat} (hi : i < nodes.length) (w h : Int) (e : Node) (he : nodes[i]? = some e) :
    (nodes.map encNode).set i (cellsNode e.parent w h e.keep e.kind (.sl (e.cols.map encLine)) (.sl (e.rows.map encLine)) e.pack e.cell e.place) = (askT nodes i w h).map encNode := by
  unfold askT
  rw [he, List.map_set]; rfl
theorem i_Tree_asked.c (nodes : List Node) (i : Nat) (w h : Int) (ho : NsOk nodes) (hi : i < nodes.length) : PC i_Tree_asked [.agg [.rsl (nodes.map encNode)], vI i, vI w, vI h] (.agg [.sl ((askT nodes i w h).map encNode)], []) := by
  have hn := ho.1
  refine lift ?_
  have := loop_exit (step := i_Tree_asked.r0 CC lpW) (S := fun j => i_Tree_asked.s0 i w h (nodes.map encNode) ((nodes.map encNode).length : Nat) (j : Nat) (nodes.map encNode) ((nodes.take j).map encNode).length ((nodes.take j).map encNode)) nodes.length (fun j hj => by
    have := i_Tree_asked.l0_1 (call := CC) (lp := lpW) i w h (nodes.map encNode) ((nodes.map encNode).length : Nat) (j : Nat) (nodes.map encNode) ((nodes.take j).map encNode).length ((nodes.take j).map encNode) nodes[j] _ _ (by simpa using hj) (by simp) (by simp) (uni_map (f := encNode) (fun _ => rfl) _) (by simp; omega) (at_map hj) (x_Clone_Line.c _ (ho.at hj).1) (x_Clone_Line.c _ (ho.at hj).2)
    rw [this, w64_succ (by omega)]
    have e := map_succ (f := encNode) hj
    unfold encNode at e ⊢
    rw [e]) (i_Tree_asked.l0_2 _ _ _ _ _ _ _ _ _ (by simp))
  have hw := i_Tree_asked.w1 (call := CC) (lp := lpW) nodes i w h i w h nodes.length (nodes.map encNode) nodes[i] (by simp) (by simp) (by simpa using hi) (by simp) (at_map hi) (by simpa using this)
  rw [hw, Int.toNat_natCast, set_map hi w h _ (List.getElem?_eq_getElem hi)]
theorem s_resized.c (nodes : List Node) (i : Nat) (w h : Int) (ho : NsOk nodes) (hi : i < nodes.length) : PC s_resized [.agg [.rsl (nodes.map encNode)], vI i, vI w, vI h] (.agg [.sl ((askT nodes i w h).map encNode)], []) := by
  have hn := ho.1
  refine lift ?_
  have := loop_exit (step := s_resized.r0 CC lpW) (S := fun j => s_resized.s0 i w h (j : Nat) (nodes.map encNode) ((nodes.take j).map encNode).length ((nodes.take j).map encNode)) nodes.length (fun j hj => by
    have := s_resized.l0_1 (call := CC) (lp := lpW) i w h (j : Nat) (nodes.map encNode) ((nodes.take j).map encNode).length ((nodes.take j).map encNode) nodes[j] (by simpa using hj) (by simp) (scal_line _) (uni_map (f := encLine) (fun _ => rfl) _) (by have := (ho.at hj).1; unfold Sm at this; simpa using this) (scal_line _) (uni_map (f := encLine) (fun _ => rfl) _) (by have := (ho.at hj).2; unfold Sm at this; simpa using this) (by simp) (uni_map (f := encNode) (fun _ => rfl) _) (by simp; omega) (at_map hj)
    rw [this, w64_succ (by omega)]
    have e := map_succ (f := encNode) hj
    unfold encNode at e ⊢
    simp only [List.nil_append]
    rw [e]) (s_resized.l0_2 _ _ _ _ _ _ _ (by simp))
  have hw := s_resized.w1 (call := CC) (lp := lpW) nodes i w h i w h nodes.length (nodes.map encNode) nodes[i] (by simp) (by simp) (by simpa using hi) (by simp) (at_map hi) (by simpa using this)
  rw [hw, Int.toNat_natCast, set_map hi w h _ (List.getElem?_eq_getElem hi)]
theorem pack_eq (p : Pack) : s_validPack.m p = i_ValidPack.m p := rfl
theorem place_eq (p : Place) : s_validPlace.m p = i_ValidPlace.m p := by
  unfold s_validPlace.m i_ValidPlace.m s_validAnchor.m
  simp only [range_eq, bif_and, List.all_cons, List.all_nil, Bool.and_true]
  ac_rfl
theorem line_eq (l : Line) : i_linesOk_1.m l = !s_validLine.m l := by
  unfold i_linesOk_1.m s_validLine.m
  simp only [range_eq]
  cases i_within.m l.weight 0 5 <;> rfl
theorem lines_eq (l : List Line) : s_validLines.m l = i_linesOk.m l := by
  unfold s_validLines.m i_linesOk.m
  have : (!l.any i_linesOk_1.m) = l.all s_validLine.m := by
    induction l with
    | nil => rfl
    | cons a l ih => rw [List.any_cons, List.all_cons, Bool.not_or, ih, line_eq, Bool.not_not]
  rw [this, range_eq]
  simp only [bif_and]
  exact Bool.and_comm _ _
theorem cell_eq (cols rows : List Line) (c : Cell) (hw : c.w = 0) (hh : c.h = 0) : s_validCell.m cols rows [] c = i_Cell_lies.m c cols rows [] := by
  unfold s_validCell.m i_Cell_lies.m i_spanOk.m
  simp only [range_eq, bif_and, hw, hh]
  have : i_within.m 0 0 30 = true := rfl
  rw [this]
  simp only [Bool.true_and]
  ac_rfl
def upOk (i : Nat) (e up : Node) : Bool := bif i == 0 then e.parent == -1 else (bif i_within.m e.parent 0 (i - 1) then (bif up.kind == 1 then i_Cell_lies.m e.cell up.cols up.rows [] else true) else false)
def upOf (nodes : List Node) (e : Node) : Node := (nodes[e.parent.toNat]?).getD default
def vNodeAt (nodes : List Node) (i : Nat) (e : Node) : Bool := i_Node_ok.m e && upOk i e (upOf nodes e)
theorem node_cell {e : Node} (h : i_Node_ok.m e = true) : e.cell.w = 0 ∧ e.cell.h = 0 := by
  unfold i_Node_ok.m at h
  simp only [bif_and, bif_nand, Bool.and_eq_true, Bool.not_eq_true', bne_eq_false_iff_eq] at h
  exact ⟨h.2.2.2.2.2.2.2.1, h.2.2.2.2.2.2.2.2.1⟩
theorem len_pos (n : Nat) : decide ((n : Int) > 0) = !((n : Int) == 0) := by
  cases n with
  | zero => rfl
  | succ n =>
    have h1 : (((n + 1 : Nat) : Int) == 0) = false := by rw [beq_eq_false_iff_ne]; omega
    have h2 : decide (((n + 1 : Nat) : Int) > 0) = true := by rw [decide_eq_true_eq]; omega
    rw [h1, h2]; rfl
theorem vNode_eq (nodes : List Node) (i : Nat) (e : Node) (hi : i ≤ 1000000000000) : s_validNode.m nodes i e (upOf nodes e) = vNodeAt nodes i e := by
  have tail : ∀ {b : Bool}, i_Node_ok.m e = true → (bif ((i : Int) == 0) then (e.parent == (-1)) else (bif (s_inRange.m e.parent 0 (w64 ((i : Int) - 1))) then (bif ((upOf nodes e).kind != 1) then true else (s_validCell.m (upOf nodes e).cols (upOf nodes e).rows [] e.cell)) else false)) = upOk i e (upOf nodes e) := by
    intro _ hN
    obtain ⟨hw, hh⟩ := node_cell hN
    unfold upOk
    rw [cell_eq _ _ _ hw hh, range_eq, w64_id (by omega) (by omega)]
    have h0 : ((i : Int) == 0) = (i == 0) := by
      cases i with
      | zero => rfl
      | succ n => rw [show ((n + 1 : Nat) == 0) = false from rfl, beq_eq_false_iff_ne]; omega
    rw [h0]
    cases i == 0 with
    | true => rfl
    | false =>
      cases i_within.m e.parent 0 ((i : Int) - 1) with
      | false => rfl
      | true => simp only [cond_true, cond_false, bne]; cases (upOf nodes e).kind == 1 <;> rfl
  cases hN : i_Node_ok.m e with
  | true =>
    unfold vNodeAt
    rw [hN, Bool.true_and, ← tail (b := true) hN]
    unfold s_validNode.m
    unfold i_Node_ok.m at hN
    simp only [bif_and, bif_nand, Bool.and_eq_true, Bool.not_eq_true', bne_eq_false_iff_eq] at hN
    obtain ⟨h1, h2, h3, h4, h5, h6, h7, h8, h9, h10⟩ := hN
    rw [range_eq, h1, range_eq, h2, range_eq, h3, pack_eq, h4, place_eq, h7, lines_eq, lines_eq]
    simp only [h5, h6, h8, h9, bne_self_eq_false, cond_true, cond_false, bne]
    cases hk : e.kind == 1 with
    | true =>
      rw [hk] at h10
      simp only [cond_true, Bool.and_eq_true] at h10
      simp only [h10.1, h10.2, cond_true, Bool.not_true, cond_false]
      rfl
    | false =>
      rw [hk] at h10
      simp only [cond_false, Bool.and_eq_true] at h10
      simp only [len_pos, h10.1, h10.2, cond_true, cond_false, Bool.not_true, Bool.not_false]
      rfl
  | false =>
    unfold vNodeAt
    rw [hN, Bool.false_and]
    unfold s_validNode.m
    unfold i_Node_ok.m at hN
    simp only [range_eq, pack_eq, place_eq, lines_eq] at hN ⊢
    cases h1 : i_within.m e.w 0 30 with
    | false => rfl
    | true =>
    cases h2 : i_within.m e.h 0 30 with
    | false => rfl
    | true =>
    cases h3 : i_within.m e.kind 0 2 with
    | false => rfl
    | true =>
    cases h4 : i_ValidPack.m e.pack with
    | false => rfl
    | true =>
    cases h5 : e.pack.w != 0 with
    | true => rfl
    | false =>
    cases h6 : e.pack.h != 0 with
    | true => rfl
    | false =>
    cases h7 : i_ValidPlace.m e.place with
    | false => rfl
    | true =>
    cases h8 : e.cell.w != 0 with
    | true => rfl
    | false =>
    cases h9 : e.cell.h != 0 with
    | true => rfl
    | false =>
    rw [h1, h2, h3, h4, h5, h6, h7, h8, h9] at hN
    simp only [cond_true, cond_false, bne, len_pos] at hN ⊢
    cases hk : e.kind == 1 with
    | true =>
      rw [hk] at hN
      simp only [cond_true, bif_and, Bool.not_true, cond_false] at hN ⊢
      cases h10 : i_linesOk.m e.cols with
      | false => rfl
      | true =>
        rw [h10, Bool.true_and] at hN
        rw [hN]; rfl
    | false =>
      rw [hk] at hN
      simp only [cond_false, bif_and, Bool.not_false, cond_true] at hN ⊢
      cases h10 : (((e.cols.map encLine).length : Nat) : Int) == 0 with
      | false => rfl
      | true =>
        rw [h10, Bool.true_and] at hN
        rw [hN]; rfl
def vTree (nodes : List Node) : Bool := nodes.zipIdx.all (fun x => vNodeAt nodes x.2 x.1) && i_within.m nodes.length 1 10
theorem vAll {nodes : List Node} : (∀ j, j < nodes.length → ((nodes[j]?).map (vNodeAt nodes j)).getD true = true) ↔ nodes.zipIdx.all (fun x => vNodeAt nodes x.2 x.1) = true := by
  rw [List.all_eq_true]
  constructor
  · rintro h ⟨x, i⟩ hx
    rw [List.mem_zipIdx_iff_getElem?] at hx
    have hi := (List.getElem?_eq_some_iff.1 hx).1
    have := h i hi
    rw [hx] at this; simpa using this
  · intro h j hj
    rw [List.getElem?_eq_getElem hj]
    exact h (nodes[j], j) (List.mem_zipIdx_iff_getElem?.2 (List.getElem?_eq_getElem hj))
theorem up_at {nodes : List Node} {e : Node} {j : Nat} (hj : j ≤ nodes.length) (h : i_within.m e.parent 0 ((j : Int) - 1) = true) : 0 ≤ e.parent ∧ (nodes.map encNode)[e.parent.toNat]? = some (encNode (upOf nodes e)) := by
  rw [within_iff] at h
  have hl : e.parent.toNat < nodes.length := by omega
  refine ⟨h.1, ?_⟩
  unfold upOf
  rw [List.getElem?_map, List.getElem?_eq_getElem hl]; rfl
def s_validTree.m (nodes : List Node) : Bool := vTree nodes
def i_ValidTree.m (nodes : List Node) : Bool := vTree nodes
theorem s_validTree.c (nodes : List Node) (ho : NsOk nodes) : PC s_validTree [.agg [.rsl (nodes.map encNode)]] (vB (s_validTree.m nodes), []) := by
  have hn := ho.1
  refine lift ?_
  unfold s_validTree.m vTree
  have node : ∀ j (hj : j < nodes.length), PC s_validNode [.agg [.rsl (nodes.map encNode)], vI (j : Nat)] (vB (vNodeAt nodes j nodes[j]), []) := by
    intro j hj
    rw [← vNode_eq nodes j _ (by omega)]
    have hw : w64 ((j : Int) - 1) = (j : Int) - 1 := w64_id (by omega) (by omega)
    exact s_validNode.c nodes j nodes[j] (upOf nodes nodes[j]) (by simp) (fun h => by rw [range_eq, hw] at h; simpa using (up_at (nodes := nodes) (by omega) h).1) (at_map hj) (fun h => by rw [range_eq, hw] at h; exact (up_at (by omega) h).2) (ho.at hj).1 (ho.at hj).2
  have := loop_find (step := s_validTree.r0 CC lpW) (S := fun j => s_validTree.s0 (j : Nat) (nodes.map encNode)) (eb := fun _ => s_validTree.e0_0 (nodes.map encNode)) nodes.length (fun j => ((nodes[j]?).map (vNodeAt nodes j)).getD true) (fun j hj hp => by
    rw [List.getElem?_eq_getElem hj] at hp
    have := s_validTree.l0_3 (call := CC) (lp := lpW) (j : Nat) (nodes.map encNode) (by simpa using hj) ((node j hj).trans (by simpa using hp))
    rw [this, w64_succ (by omega)]) (fun j hj hp => by
    rw [List.getElem?_eq_getElem hj] at hp
    exact s_validTree.l0_1 (call := CC) (lp := lpW) (j : Nat) (nodes.map encNode) (by simpa using hj) ((node j hj).trans (by simpa using hp))) (s_validTree.l0_2 _ _ (by simp))
  rcases this with ⟨h, hl⟩ | ⟨i, hi, hp, _, hl⟩
  · rw [vAll.1 h, Bool.true_and]
    refine s_validTree.w2 nodes _ _ ?_ hl
    have := s_inRange.c ((nodes.map encNode).length : Nat) 1 10
    simpa [range_eq] using this
  · have : nodes.zipIdx.all (fun x => vNodeAt nodes x.2 x.1) = false := by
      cases h : nodes.zipIdx.all (fun x => vNodeAt nodes x.2 x.1) with
      | false => rfl
      | true => rw [vAll.2 h i hi] at hp; cases hp
    rw [this, Bool.false_and]
    exact s_validTree.w1 nodes _ hl
theorem i_ValidTree.c (nodes : List Node) (ho : NsOk nodes) : PC i_ValidTree [.agg [.rsl (nodes.map encNode)]] (vB (i_ValidTree.m nodes), []) := by
  have hn := ho.1
  refine lift ?_
  unfold i_ValidTree.m vTree
  have k0 := i_within.c ((nodes.map encNode).length : Nat) 1 10
  cases hw : i_within.m (nodes.length : Int) 1 10 with
  | false =>
    rw [Bool.and_false]
    exact i_ValidTree.w1 nodes (k0.trans (by rw [List.length_map, hw]))
  | true =>
    rw [Bool.and_true]
    have k0 := k0.trans (by rw [List.length_map, hw])
    have := loop_find (step := i_ValidTree.r0 CC lpW) (S := fun j => i_ValidTree.s0 (nodes.map encNode) ((nodes.map encNode).length : Nat) (j : Nat) (nodes.map encNode)) (eb := fun _ => i_ValidTree.e0_0) nodes.length (fun j => ((nodes[j]?).map (vNodeAt nodes j)).getD true) (fun j hj hp => by
      rw [List.getElem?_eq_getElem hj] at hp
      have hp : vNodeAt nodes j nodes[j] = true := by simpa using hp
      have hsucc := w64_succ (j := j) (by omega)
      unfold vNodeAt at hp
      simp only [Bool.and_eq_true] at hp
      obtain ⟨hN, hU⟩ := hp
      have kN := (i_Node_ok.c nodes[j] (ho.at hj).1 (ho.at hj).2).trans (by rw [hN])
      unfold upOk at hU
      cases j with
      | zero =>
        have hU : (nodes[0].parent == -1) = true := hU
        have := i_ValidTree.l0_12 (call := CC) (lp := lpW) (nodes.map encNode) ((nodes.map encNode).length : Nat) (0 : Nat) (nodes.map encNode) nodes[0] (by simpa using hj) (by simp) (by simp) (by simpa [bne] using hU) (by simp) (at_map hj) kN
        rw [this, hsucc]
      | succ j =>
        simp only [Nat.add_eq_zero_iff, Nat.succ_ne_self, and_false, beq_iff_eq, show (j + 1 == 0) = false from rfl, cond_false] at hU
        cases hW : i_within.m nodes[j + 1].parent 0 (((j + 1 : Nat) : Int) - 1) with
        | false => rw [hW] at hU; cases hU
        | true =>
          rw [hW] at hU
          simp only [cond_true] at hU
          have hup := up_at (nodes := nodes) (by omega) hW
          have kW := (i_within.c nodes[j + 1].parent 0 (w64 (((j + 1 : Nat) : Int) - 1))).trans (by rw [w64_id (by omega) (by omega), hW])
          cases hk : (upOf nodes nodes[j + 1]).kind == 1 with
          | true =>
            rw [hk] at hU
            have hL : i_Cell_lies.m nodes[j + 1].cell (upOf nodes nodes[j + 1]).cols (upOf nodes nodes[j + 1]).rows [] = true := hU
            have := i_ValidTree.l0_9 (call := CC) (lp := lpW) (nodes.map encNode) ((nodes.map encNode).length : Nat) (j + 1 : Nat) (nodes.map encNode) nodes[j + 1] (upOf nodes nodes[j + 1]) (by rw [decide_eq_true_eq, List.length_map]; omega) (by rw [decide_eq_true_eq]; omega) (by rw [beq_eq_false_iff_ne]; omega) (by rw [decide_eq_true_eq]; omega) (by simpa using hup.1) hk (at_map hj) hup.2 kW kN ((i_Cell_lies.c _ _ _ []).trans (by rw [hL]))
            rw [this, hsucc]
          | false =>
            have := i_ValidTree.l0_8 (call := CC) (lp := lpW) (nodes.map encNode) ((nodes.map encNode).length : Nat) (j + 1 : Nat) (nodes.map encNode) nodes[j + 1] (upOf nodes nodes[j + 1]) (by rw [decide_eq_true_eq, List.length_map]; omega) (by rw [decide_eq_true_eq]; omega) (by rw [beq_eq_false_iff_ne]; omega) (by rw [decide_eq_true_eq]; omega) (by simpa using hup.1) hk (at_map hj) hup.2 kW kN
            rw [this, hsucc]) (fun j hj hp => by
      rw [List.getElem?_eq_getElem hj] at hp
      have hp : vNodeAt nodes j nodes[j] = false := by simpa using hp
      unfold vNodeAt at hp
      have kN := i_Node_ok.c nodes[j] (ho.at hj).1 (ho.at hj).2
      cases j with
      | zero =>
        cases hq : nodes[0].parent == -1 with
        | false => exact i_ValidTree.l0_1 (call := CC) (lp := lpW) (nodes.map encNode) ((nodes.map encNode).length : Nat) (0 : Nat) (nodes.map encNode) nodes[0] (by simpa using hj) (by simp) (by simp) (by simp [bne, hq]) (at_map hj)
        | true =>
          have hU : upOk 0 nodes[0] (upOf nodes nodes[0]) = true := by unfold upOk; simpa using hq
          rw [hU, Bool.and_true] at hp
          exact i_ValidTree.l0_11 (call := CC) (lp := lpW) (nodes.map encNode) ((nodes.map encNode).length : Nat) (0 : Nat) (nodes.map encNode) nodes[0] (by simpa using hj) (by simp) (by simp) (by simp [bne, hq]) (by simp) (at_map hj) (kN.trans (by rw [hp]))
      | succ j =>
        have kW := i_within.c nodes[j + 1].parent 0 (w64 (((j + 1 : Nat) : Int) - 1))
        rw [w64_id (by omega) (by omega)] at kW
        have e0 : (((j + 1 : Nat) : Int) == 0) = false := by rw [beq_eq_false_iff_ne]; omega
        cases hW : i_within.m nodes[j + 1].parent 0 (((j + 1 : Nat) : Int) - 1) with
        | false =>
          exact i_ValidTree.l0_3 (call := CC) (lp := lpW) (nodes.map encNode) ((nodes.map encNode).length : Nat) (j + 1 : Nat) (nodes.map encNode) nodes[j + 1] (by rw [decide_eq_true_eq, List.length_map]; omega) (by rw [decide_eq_true_eq]; omega) e0 (by rw [decide_eq_true_eq]; omega) (at_map hj) (by rw [w64_id (by omega) (by omega)]; exact kW.trans (by rw [hW]))
        | true =>
          have hup := up_at (nodes := nodes) (by omega) hW
          have kW := kW.trans (by rw [hW])
          cases hN : i_Node_ok.m nodes[j + 1] with
          | false =>
            exact i_ValidTree.l0_6 (call := CC) (lp := lpW) (nodes.map encNode) ((nodes.map encNode).length : Nat) (j + 1 : Nat) (nodes.map encNode) nodes[j + 1] (by rw [decide_eq_true_eq, List.length_map]; omega) (by rw [decide_eq_true_eq]; omega) e0 (by rw [decide_eq_true_eq]; omega) (at_map hj) (by rw [w64_id (by omega) (by omega)]; exact kW) (kN.trans (by rw [hN]))
          | true =>
            rw [hN, Bool.true_and] at hp
            unfold upOk at hp
            rw [show (j + 1 == 0) = false from rfl, hW] at hp
            simp only [cond_false, cond_true] at hp
            cases hk : (upOf nodes nodes[j + 1]).kind == 1 with
            | false => rw [hk] at hp; cases hp
            | true =>
              rw [hk] at hp
              exact i_ValidTree.l0_7 (call := CC) (lp := lpW) (nodes.map encNode) ((nodes.map encNode).length : Nat) (j + 1 : Nat) (nodes.map encNode) nodes[j + 1] (upOf nodes nodes[j + 1]) (by rw [decide_eq_true_eq, List.length_map]; omega) (by rw [decide_eq_true_eq]; omega) e0 (by rw [decide_eq_true_eq]; omega) (by simpa using hup.1) hk (at_map hj) hup.2 (by rw [w64_id (by omega) (by omega)]; exact kW) (kN.trans (by rw [hN])) ((i_Cell_lies.c _ _ _ []).trans (by simp only [cond_true] at hp; rw [hp]))) (i_ValidTree.l0_2 _ _ _ _ (by simp))
    rcases this with ⟨h, hl⟩ | ⟨i, hi, hp, _, hl⟩
    · rw [vAll.1 h]
      exact i_ValidTree.w3 nodes k0 hl
    · have : nodes.zipIdx.all (fun x => vNodeAt nodes x.2 x.1) = false := by
        cases h : nodes.zipIdx.all (fun x => vNodeAt nodes x.2 x.1) with
        | false => rfl
        | true => rw [vAll.2 h i hi] at hp; cases hp
      rw [this]
      exact i_ValidTree.w2 nodes k0 hl
end Go.Proofs.Ytdgamfanffnhaaa.PI
namespace Go.Proofs.Ytdgamfanffnhaaa.PI
open Go
set_option maxRecDepth 100000
set_option linter.unusedVariables false
def s_goodNode.m (nodes : List Node) (i : Int) : Bool := (bif (s_validTree.m nodes) then (s_inRange.m i 0 (w64 ((((nodes.map encNode).length : Nat) : Int) - 1))) else false)
theorem s_goodNode.c (nodes : List Node) (i : Int) (S1 : NsOk nodes) : PC s_goodNode [.agg [.rsl (nodes.map encNode)], vI i] (vB (s_goodNode.m nodes i), []) := by
  refine lift ?_
  unfold s_goodNode.m
  cases h1 : (s_validTree.m nodes) with
  | true =>
    exact s_goodNode.w1 _ _ _ (K1 := (s_validTree.c nodes S1).trans (by rw [h1])) (K2 := (s_inRange.c i 0 (w64 ((((nodes.map encNode).length : Nat) : Int) - 1))))
  | false =>
    exact s_goodNode.w2 _ _ (K1 := (s_validTree.c nodes S1).trans (by rw [h1]))
def s_goodWish.m (nodes : List Node) (i : Int) (w : Int) (h : Int) : Bool := (bif (s_goodNode.m nodes i) then (bif (s_inRange.m w 0 30) then (s_inRange.m h 0 30) else false) else false)
theorem s_goodWish.c (nodes : List Node) (i : Int) (w : Int) (h : Int) (S1 : NsOk nodes) : PC s_goodWish [.agg [.rsl (nodes.map encNode)], vI i, vI w, vI h] (vB (s_goodWish.m nodes i w h), []) := by
  refine lift ?_
  unfold s_goodWish.m
  cases h1 : (s_goodNode.m nodes i) with
  | true =>
    cases h2 : (s_inRange.m w 0 30) with
    | true =>
      exact s_goodWish.w1 _ _ _ _ _ (K1 := (s_goodNode.c nodes i S1).trans (by rw [h1])) (K2 := (s_inRange.c w 0 30).trans (by rw [h2])) (K3 := (s_inRange.c h 0 30))
    | false =>
      exact s_goodWish.w3 _ _ _ _ (K1 := (s_goodNode.c nodes i S1).trans (by rw [h1])) (K2 := (s_inRange.c w 0 30).trans (by rw [h2]))
  | false =>
    exact s_goodWish.w2 _ _ _ _ (K1 := (s_goodNode.c nodes i S1).trans (by rw [h1]))
end Go.Proofs.Ytdgamfanffnhaaa.PI
namespace Go.Proofs.Ytdgamfanffnhaaa.PI
open Go
set_option maxRecDepth 100000
theorem szLine_eq (a : List Line) {left : Int} (h1 : 0 ≤ left) (h2 : left ≤ 1048576) (hl : a.length ≤ 9223372036854775807) : l_szLineS.m a left = if left < a.length then -1 else left - a.length := by
  unfold l_szLineS.m
  rw [List.length_map, w64_id (by omega) (by omega)]
  by_cases h : left < a.length
  · have : decide (left - (a.length : Int) < 0) = true := by rw [decide_eq_true_eq]; omega
    rw [this, if_pos h]; rfl
  · have : decide (left - (a.length : Int) < 0) = false := by rw [decide_eq_false_iff_not]; omega
    rw [this, if_neg h]; rfl
def nsz (n : Node) : Nat := n.cols.length + n.rows.length
def Win (nodes : List Node) : Prop := nodes.length ≤ 9223372036854775807 ∧ ∀ n ∈ nodes, n.cols.length ≤ 9223372036854775807 ∧ n.rows.length ≤ 9223372036854775807
theorem szNode_eq (e : Node) {left : Int} (h1 : 0 ≤ left) (h2 : left ≤ 1048576) (hc : e.cols.length ≤ 9223372036854775807) (hr : e.rows.length ≤ 9223372036854775807) :
    (left < nsz e ∧ l_szNode.m e.parent e.w e.h e.keep e.kind e.cols e.rows e.pack e.cell e.place left = -1) ∨ ((nsz e : Int) ≤ left ∧ l_szNode.m e.parent e.w e.h e.keep e.kind e.cols e.rows e.pack e.cell e.place left = left - nsz e) := by
  unfold l_szNode.m nsz
  rw [szLine_eq e.cols h1 h2 hc]
  by_cases h : left < e.cols.length
  · simp only [if_pos h]
    left; exact ⟨by omega, rfl⟩
  · simp only [if_neg h]
    have : decide (left - (e.cols.length : Int) < 0) = false := by rw [decide_eq_false_iff_not]; omega
    rw [this, cond_false, szLine_eq e.rows (by omega) (by omega) hr]
    by_cases h' : left - e.cols.length < e.rows.length
    · simp only [if_pos h']
      left; exact ⟨by omega, rfl⟩
    · simp only [if_neg h']
      have : decide (left - (e.cols.length : Int) - (e.rows.length : Int) < 0) = false := by rw [decide_eq_false_iff_not]; omega
      rw [this, cond_false]
      right; exact ⟨by omega, by omega⟩
theorem drop_sum {α : Type} {l : List α} {f : α → Nat} {j : Nat} (hj : j < l.length) : ((l.drop j).map f).sum = f l[j] + ((l.drop (j + 1)).map f).sum := by
  rw [List.drop_eq_getElem_cons hj, List.map_cons, List.sum_cons]
theorem szLoop {nodes : List Node} (hw : Win nodes) (hn : nodes.length ≤ 1048576) : ∀ (m j : Nat) (left : Int), j + m = nodes.length → 0 ≤ left → left ≤ 1048576 →
    (∃ x, lpW (l_szNodeS.r0 CC lpW) (l_szNodeS.s0 (nodes.map encNode) left (j : Nat)) = some (.ret, l_szNodeS.e0_0 x)) ∨
    ∃ l', 0 ≤ l' ∧ lpW (l_szNodeS.r0 CC lpW) (l_szNodeS.s0 (nodes.map encNode) left (j : Nat)) = some (.exit 0, l_szNodeS.e0_1 l') ∧ ((((nodes.drop j).map nsz).sum : Nat) : Int) + l' = left
  | 0, j, left, hj, h1, h2 => by
    right
    refine ⟨left, h1, lp_exit (l_szNodeS.l0_2 _ _ _ (by rw [decide_eq_false_iff_not, List.length_map]; omega)), ?_⟩
    rw [List.drop_eq_nil_of_le (by omega)]; simp
  | m + 1, j, left, hj, h1, h2 => by
    have hlt : j < nodes.length := by omega
    obtain ⟨hc, hr⟩ := hw.2 _ (List.getElem_mem hlt)
    have k := l_szNode.c nodes[j].parent nodes[j].w nodes[j].h nodes[j].keep nodes[j].kind nodes[j].cols nodes[j].rows nodes[j].pack nodes[j].cell nodes[j].place left
    rcases szNode_eq nodes[j] h1 h2 hc hr with ⟨_, e⟩ | ⟨hle, e⟩
    · left
      exact ⟨_, lp_ret (l_szNodeS.l0_1 _ _ _ nodes[j] (-1) (by rw [decide_eq_true_eq, List.length_map]; omega) (by simp) (by decide) (at_map hlt) (k.trans (by rw [e])))⟩
    · have step := l_szNodeS.l0_3 (call := CC) (lp := lpW) (nodes.map encNode) left (j : Nat) nodes[j] (left - nsz nodes[j]) (by rw [decide_eq_true_eq, List.length_map]; omega) (by simp) (by rw [decide_eq_false_iff_not]; omega) (at_map hlt) (k.trans (by rw [e]))
      rw [w64_succ (by omega)] at step
      rcases szLoop hw hn m (j + 1) (left - nsz nodes[j]) (by omega) (by omega) (by omega) with ⟨x, hx⟩ | ⟨l', h0, hx, hs⟩
      · exact .inl ⟨x, lp_again step hx⟩
      · exact .inr ⟨l', h0, lp_again step hx, by rw [drop_sum hlt]; omega⟩
def tsz (nodes : List Node) : Nat := nodes.length + (nodes.map nsz).sum
theorem szTree_spec {nodes : List Node} (hw : Win nodes) : ∃ r, PC l_szTree [.agg [.rsl (nodes.map encNode)], vI 1048576] (vI r, []) ∧ (r < 0 ∨ tsz nodes ≤ 1048576) := by
  have hn := hw.1
  have hs : ∃ r, PC l_szNodeS [.one (.rsl (nodes.map encNode)), vI 1048576] (vI r, []) ∧ (r < 0 ∨ (0 ≤ r ∧ tsz nodes ≤ 1048576)) := by
    have e : w64 (1048576 - (((nodes.map encNode).length : Nat) : Int)) = 1048576 - nodes.length := by rw [List.length_map, w64_id (by omega) (by omega)]
    by_cases h : (1048576 : Int) - nodes.length < 0
    · exact ⟨-1, lift (l_szNodeS.w1 nodes _ (by rw [e, decide_eq_true_eq]; exact h)), .inl (by omega)⟩
    · rcases szLoop hw (by omega) nodes.length 0 (1048576 - nodes.length) (by omega) (by omega) (by omega) with ⟨x, hx⟩ | ⟨l', h0, hx, hsum⟩
      · exact ⟨-1, lift (l_szNodeS.w2 nodes _ x (by rw [e, decide_eq_false_iff_not]; exact h) (by rw [e]; exact hx)), .inl (by omega)⟩
      · refine ⟨l', lift (l_szNodeS.w3 nodes _ l' (by rw [e, decide_eq_false_iff_not]; exact h) (by rw [e]; exact hx)), .inr ⟨h0, ?_⟩⟩
        unfold tsz
        rw [List.drop_zero] at hsum
        omega
  obtain ⟨r, hr, h⟩ := hs
  rcases h with h | ⟨h0, h⟩
  · exact ⟨-1, lift (l_szTree.w1 nodes _ r (by rw [decide_eq_true_eq]; exact h) hr), .inl (by omega)⟩
  · exact ⟨r, lift (l_szTree.w2 nodes _ r (by rw [decide_eq_false_iff_not]; omega) hr), .inr h⟩
theorem sum_mem {α : Type} {l : List α} {f : α → Nat} {x : α} (h : x ∈ l) : f x ≤ (l.map f).sum := by
  induction l with
  | nil => cases h
  | cons a l ih =>
    simp only [List.map_cons, List.sum_cons]
    rcases List.mem_cons.1 h with rfl | h
    · omega
    · have := ih h; omega
theorem tsz_ok {nodes : List Node} (h : tsz nodes ≤ 1048576) : NsOk nodes := by
  unfold tsz at h
  refine ⟨by omega, fun n hn => ?_⟩
  have := sum_mem (f := nsz) hn
  have e : nsz n = n.cols.length + n.rows.length := rfl
  unfold Sm
  omega
theorem set_take {α : Type} {X L : List α} (h : X.length = L.length) {j : Nat} (hj : j < X.length) : (X.take j ++ L.drop j).set j X[j] = X.take (j + 1) ++ L.drop (j + 1) := by
  have e : (X.take j).length = j := by rw [List.length_take]; omega
  rw [List.set_append_right _ _ (by omega), e, Nat.sub_self, List.drop_eq_getElem_cons (by omega : j < L.length), List.set_cons_zero, List.take_add_one, List.getElem?_eq_getElem hj, List.append_assoc]; rfl
theorem at_take {α : Type} {X L : List α} (h : X.length = L.length) {j : Nat} (hj : j < X.length) : (X.take j ++ L.drop j)[j]? = some (L[j]'(by omega)) := by
  have e : (X.take j).length = j := by rw [List.length_take]; omega
  rw [List.getElem?_append_right (by omega), e, Nat.sub_self, List.getElem?_drop]
  simp [List.getElem?_eq_getElem (show j < L.length by omega)]
theorem len_take {α : Type} {X L : List α} (h : X.length = L.length) {j : Nat} (hj : j ≤ X.length) : (X.take j ++ L.drop j).length = X.length := by
  simp; omega
theorem take_end {α : Type} {X L : List α} (h : X.length = L.length) {n : Nat} (hn : n = X.length) : X.take n ++ L.drop n = X := by
  subst hn
  rw [List.take_length, List.drop_eq_nil_of_le (by omega), List.append_nil]
theorem l_toLineS.c (a : List Line) (ha : Sm a) : PC l_toLineS [.one (.rsl (a.map encLine))] (.one (.sl (a.map encLine)), []) := by
  unfold Sm at ha
  have hlen : (a.map encLine).length = (List.replicate a.length zLine).length := by simp
  refine lift (l_toLineS.w1 a a.length (a.map encLine) (by simp) (by rw [decide_eq_true_eq, List.length_map]; omega) (by simp) ?_)
  have := loop_exit (step := l_toLineS.r0 CC lpW) (S := fun j => l_toLineS.s0 (a.map encLine) a.length (j : Nat) ((a.map encLine).take j ++ (List.replicate a.length zLine).drop j)) a.length (fun j hj => by
    have hj' : j < (a.map encLine).length := by simpa using hj
    have hz : ((a.map encLine).take j ++ (List.replicate a.length zLine).drop j)[((j : Nat) : Int).toNat]? = some (encLine ⟨0, 0⟩) := by
      rw [Int.toNat_natCast, at_take hlen hj']; simp; rfl
    have := l_toLineS.l0_1 (call := CC) (lp := lpW) (a.map encLine) a.length (j : Nat) ((a.map encLine).take j ++ (List.replicate a.length zLine).drop j) a[j] a[j] ⟨0, 0⟩ (by rw [decide_eq_true_eq, List.length_map]; omega) (by simp) (by rw [decide_eq_true_eq, len_take hlen (by omega)]; simp) (by rw [decide_eq_true_eq]; omega) (by simp) (at_map hj) hz (l_toLine.c a[j])
    rw [this, w64_succ (by omega), Int.toNat_natCast]
    have e := set_take hlen hj'
    rw [List.getElem_map] at e
    rw [e]) (l_toLineS.l0_2 _ _ _ _ (by simp))
  rw [take_end (n := a.length) hlen (by simp)] at this
  simpa using this
theorem l_toNode.c (n : Node) (hc : Sm n.cols) (hr : Sm n.rows) : PC l_toNode [.agg (encNodeR n)] (.agg (encNode n), []) :=
  lift (l_toNode.w1 n.parent n.w n.h n.keep n.kind n.cols n.rows n.pack n.cell n.place n.cols n.rows n.pack n.cell n.place (l_toLineS.c _ hc) (l_toLineS.c _ hr) (l_toPack.c _) (l_toCell.c _) (l_toPlace.c _))
theorem l_toNodeS.c (a : List Node) (ha : NsOk a) : PC l_toNodeS [.one (.rsl (a.map encNode))] (.one (.sl (a.map encNode)), []) := by
  have hn := ha.1
  have hlen : (a.map encNode).length = (List.replicate a.length (zNode.map nilSl)).length := by simp
  refine lift (l_toNodeS.w1 a a.length a.length (a.map encNode) (by simp) (by rw [decide_eq_true_eq, List.length_map]; omega) (by simp) ?_)
  have := loop_exit (step := l_toNodeS.r0 CC lpW) (S := fun j => l_toNodeS.s0 (a.map encNode) a.length (j : Nat) j ((a.map encNode).take j ++ (List.replicate a.length (zNode.map nilSl)).drop j)) a.length (fun j hj => by
    have hj' : j < (a.map encNode).length := by simpa using hj
    have hz : ((a.map encNode).take j ++ (List.replicate a.length (zNode.map nilSl)).drop j)[((j : Nat) : Int).toNat]? = some (encNode default) := by
      rw [Int.toNat_natCast, at_take hlen hj', List.getElem_replicate]; rfl
    have := l_toNodeS.l0_1 (call := CC) (lp := lpW) (a.map encNode) a.length (j : Nat) j ((a.map encNode).take j ++ (List.replicate a.length (zNode.map nilSl)).drop j) a[j] a[j] default (by rw [decide_eq_true_eq, List.length_map]; omega) (by simp) (by rw [decide_eq_true_eq, len_take hlen (by omega)]; simp) (by rw [decide_eq_true_eq]; omega) (by simp) (at_map hj) hz (l_toNode.c a[j] (ha.at hj).1 (ha.at hj).2)
    rw [this, w64_succ (by omega), Int.toNat_natCast]
    have e := set_take hlen hj'
    rw [List.getElem_map] at e
    rw [e]) (l_toNodeS.l0_2 _ _ _ _ _ (by simp))
  rw [take_end (n := a.length) hlen (by simp)] at this
  simpa using this
theorem l_toTree.c (a : List Node) (ha : NsOk a) : PC l_toTree [.agg [.rsl (a.map encNode)]] (.agg [.sl (a.map encNode)], []) := lift (l_toTree.w1 a a (l_toNodeS.c a ha))
theorem l_eqLine.c (a : Line) : PC l_eqLine [.agg (encLine a), .agg (encLine a)] (vB true, []) := lift (l_eqLine.w1 a a (bne_self_eq_false _) (bne_self_eq_false _))
theorem l_eqPack.c (a : Pack) : PC l_eqPack [.agg (encPack a), .agg (encPack a)] (vB true, []) := lift (l_eqPack.w1 a a (bne_self_eq_false _) (bne_self_eq_false _) (bne_self_eq_false _) (beq_self_eq_true _) (beq_self_eq_true _) (beq_self_eq_true _) (bne_self_eq_false _) (bne_self_eq_false _) (bne_self_eq_false _))
theorem l_eqCell.c (a : Cell) : PC l_eqCell [.agg (encCell a), .agg (encCell a)] (vB true, []) := lift (l_eqCell.w1 a a (bne_self_eq_false _) (bne_self_eq_false _) (bne_self_eq_false _) (bne_self_eq_false _) (bne_self_eq_false _) (bne_self_eq_false _) (bne_self_eq_false _) (bne_self_eq_false _) (bne_self_eq_false _))
theorem l_eqPlace.c (a : Place) : PC l_eqPlace [.agg (encPlace a), .agg (encPlace a)] (vB true, []) := lift (l_eqPlace.w1 a a (bne_self_eq_false _) (bne_self_eq_false _) (bne_self_eq_false _) (bne_self_eq_false _) (bne_self_eq_false _) (bne_self_eq_false _) (bne_self_eq_false _) (bne_self_eq_false _) (bne_self_eq_false _))
theorem l_eqLineS.c (a : List Line) (ha : Sm a) : PC l_eqLineS [.one (.rsl (a.map encLine)), .one (.rsl (a.map encLine))] (vB true, []) := by
  unfold Sm at ha
  refine lift (l_eqLineS.w1 a a (bne_self_eq_false _) ?_)
  exact loop_exit (step := l_eqLineS.r0 CC lpW) (S := fun j => l_eqLineS.s0 (a.map encLine) (a.map encLine) (j : Nat)) a.length (fun j hj => by
    have := l_eqLineS.l0_2 (call := CC) (lp := lpW) (a.map encLine) (a.map encLine) (j : Nat) a[j] a[j] (by rw [decide_eq_true_eq, List.length_map]; omega) (by simp) (at_map hj) (at_map hj) (l_eqLine.c _)
    rw [this, w64_succ (by omega)]) (l_eqLineS.l0_1 _ _ _ (by simp))
theorem l_eqNode.c (n : Node) (hc : Sm n.cols) (hr : Sm n.rows) : PC l_eqNode [.agg (encNodeR n), .agg (encNodeR n)] (vB true, []) :=
  lift (l_eqNode.w1 n n (bne_self_eq_false n.parent) (bne_self_eq_false n.w) (bne_self_eq_false n.h) (beq_self_eq_true n.keep) (bne_self_eq_false n.kind) (l_eqLineS.c n.cols hc) (l_eqLineS.c n.rows hr) (l_eqPack.c n.pack) (l_eqCell.c n.cell) (l_eqPlace.c n.place))
theorem l_eqNodeS.c (a : List Node) (ha : NsOk a) : PC l_eqNodeS [.one (.rsl (a.map encNode)), .one (.rsl (a.map encNode))] (vB true, []) := by
  have hn := ha.1
  refine lift (l_eqNodeS.w1 a a (bne_self_eq_false _) ?_)
  exact loop_exit (step := l_eqNodeS.r0 CC lpW) (S := fun j => l_eqNodeS.s0 (a.map encNode) (a.map encNode) (j : Nat)) a.length (fun j hj => by
    have := l_eqNodeS.l0_2 (call := CC) (lp := lpW) (a.map encNode) (a.map encNode) (j : Nat) a[j] a[j] (by rw [decide_eq_true_eq, List.length_map]; omega) (by simp) (at_map hj) (at_map hj) (l_eqNode.c _ (ha.at hj).1 (ha.at hj).2)
    rw [this, w64_succ (by omega)]) (l_eqNodeS.l0_1 _ _ _ (by simp))
theorem l_eqTree.c (a : List Node) (ha : NsOk a) : PC l_eqTree [.agg [.rsl (a.map encNode)], .agg [.rsl (a.map encNode)]] (vB true, []) := lift (l_eqTree.w1 a a (l_eqNodeS.c a ha))
def outL (k : Int) (n : Nat) : List Line := (List.range n).map fun (j : Nat) => ⟨k + 2 * (j : Int), k + 2 * (j : Int) + 1⟩
theorem outL_at {k : Int} {n j : Nat} (h : j < n) : (outL k n)[j]? = some ⟨k + 2 * j, k + 2 * j + 1⟩ := by
  unfold outL
  simp [List.getElem?_range h]
theorem outL_len (k : Int) (n : Nat) : (outL k n).length = n := by simp [outL]
theorem l_markLineS.c (a : List Line) (k : Int) (h0 : 0 ≤ k) (h : k + 2 * a.length ≤ 1000000000) : PC l_markLineS [.one (.sl (a.map encLine)), vI k] (vI (k + 2 * a.length), [.sl ((outL k a.length).map encLine)]) := by
  have hlen : ((outL k a.length).map encLine).length = (a.map encLine).length := by simp [outL_len]
  refine lift (l_markLineS.w1 a k _ _ ?_)
  have := loop_exit (step := l_markLineS.r0 CC lpW) (S := fun j => l_markLineS.s0 (a.map encLine).length (k + 2 * j) (j : Nat) (((outL k a.length).map encLine).take j ++ (a.map encLine).drop j)) a.length (fun j hj => by
    have hj' : j < ((outL k a.length).map encLine).length := by simpa [outL_len] using hj
    have ha : (((outL k a.length).map encLine).take j ++ (a.map encLine).drop j)[((j : Nat) : Int).toNat]? = some (encLine a[j]) := by
      rw [Int.toNat_natCast, at_take hlen hj', List.getElem_map]
    have := l_markLineS.l0_1 (call := CC) (lp := lpW) (a.map encLine).length (k + 2 * j) (j : Nat) (((outL k a.length).map encLine).take j ++ (a.map encLine).drop j) a[j] (by rw [decide_eq_true_eq, List.length_map]; omega) (by rw [decide_eq_true_eq, len_take hlen (by omega), hlen]) (by simp) (by simp) ha
    rw [this, w64_succ (by omega), Int.toNat_natCast]
    have e1 : w64 (k + 2 * j + 1) = k + 2 * j + 1 := w64_id (by omega) (by omega)
    have e2 : w64 (k + 2 * j + 1 + 1) = k + 2 * ((j + 1 : Nat) : Int) := by rw [w64_id (by omega) (by omega)]; omega
    have e := set_take hlen hj'
    have e3 : ((outL k a.length).map encLine)[j] = [C.int .i64 (k + 2 * j), C.int .i64 (k + 2 * j + 1)] := by
      have := outL_at (k := k) hj
      rw [List.getElem_map]
      rw [List.getElem?_eq_getElem (by rw [outL_len]; exact hj)] at this
      injection this with this
      rw [this]; rfl
    rw [e3] at e
    rw [e1, e2, e]) (l_markLineS.l0_2 _ _ _ _ (by simp))
  rw [take_end (n := a.length) hlen (by simp [outL_len])] at this
  simpa using this
def Kn : Nat → Int → Int
  | 0, r => r
  | n + 1, r => w64 (Kn n r + 1)
theorem Kn_eq : ∀ (n : Nat) {r : Int}, 0 ≤ r → r + n ≤ 1000000000000 → Kn n r = r + n
  | 0, r, _, _ => by simp [Kn]
  | n + 1, r, h0, h => by
    rw [Kn, Kn_eq n h0 (by omega), w64_id (by omega) (by omega)]; omega
def newNode (k : Int) (c r : Nat) : Node :=
  ⟨k, Kn 1 k, Kn 2 k, Int.tmod (Kn 3 k) 3 == 0, Kn 4 k, outL (Kn 5 k) c, outL (Kn 5 k + 2 * c) r,
    ⟨Kn 5 k + 2 * c + 2 * r, Kn 1 (Kn 5 k + 2 * c + 2 * r), Kn 2 (Kn 5 k + 2 * c + 2 * r), Int.tmod (Kn 3 (Kn 5 k + 2 * c + 2 * r)) 3 == 0, Int.tmod (Kn 4 (Kn 5 k + 2 * c + 2 * r)) 3 == 0, Int.tmod (Kn 5 (Kn 5 k + 2 * c + 2 * r)) 3 == 0, Kn 6 (Kn 5 k + 2 * c + 2 * r), Kn 7 (Kn 5 k + 2 * c + 2 * r), Kn 8 (Kn 5 k + 2 * c + 2 * r)⟩,
    ⟨Kn 9 (Kn 5 k + 2 * c + 2 * r), Kn 10 (Kn 5 k + 2 * c + 2 * r), Kn 11 (Kn 5 k + 2 * c + 2 * r), Kn 12 (Kn 5 k + 2 * c + 2 * r), Kn 13 (Kn 5 k + 2 * c + 2 * r), Kn 14 (Kn 5 k + 2 * c + 2 * r), Kn 15 (Kn 5 k + 2 * c + 2 * r), Kn 16 (Kn 5 k + 2 * c + 2 * r), Kn 17 (Kn 5 k + 2 * c + 2 * r)⟩,
    ⟨Kn 18 (Kn 5 k + 2 * c + 2 * r), Kn 19 (Kn 5 k + 2 * c + 2 * r), Kn 20 (Kn 5 k + 2 * c + 2 * r), Kn 21 (Kn 5 k + 2 * c + 2 * r), Kn 22 (Kn 5 k + 2 * c + 2 * r), Kn 23 (Kn 5 k + 2 * c + 2 * r), Kn 24 (Kn 5 k + 2 * c + 2 * r), Kn 25 (Kn 5 k + 2 * c + 2 * r), Kn 26 (Kn 5 k + 2 * c + 2 * r)⟩⟩
def kAt (k : Int) (nodes : List Node) : Int := k + (nodes.map fun n => 32 + 2 * nsz n).sum
theorem kAt_succ {k : Int} {nodes : List Node} {j : Nat} (hj : j < nodes.length) : kAt k (nodes.take (j + 1)) = kAt k (nodes.take j) + (32 + 2 * nsz nodes[j] : Nat) := by
  unfold kAt
  rw [List.take_add_one, List.getElem?_eq_getElem hj, List.map_append, List.sum_append]
  simp; omega
theorem kAt_le {k : Int} {nodes : List Node} (j : Nat) : kAt k (nodes.take j) ≤ kAt k nodes := by
  unfold kAt
  have : ((nodes.take j).map fun n => 32 + 2 * nsz n).sum ≤ (nodes.map fun n => 32 + 2 * nsz n).sum := by
    conv => rhs; rw [← List.take_append_drop j nodes, List.map_append, List.sum_append]
    omega
  omega
theorem kAt_ge {k : Int} {nodes : List Node} : k ≤ kAt k nodes := by unfold kAt; omega
theorem kEnd {k : Int} {c r : Nat} (h0 : 0 ≤ k) (h : k + (32 + 2 * (c + r) : Nat) ≤ 1000000000) : Kn 27 (Kn 5 k + 2 * c + 2 * r) = k + (32 + 2 * (c + r) : Nat) := by
  rw [Kn_eq 5 h0 (by omega), Kn_eq 27 (by omega) (by omega)]; omega
theorem mark_round {k : Int} {a : List (List C)} {alen j : Nat} {e : Node} (hj : j < alen) (hl : a.length = alen) (he : a[j]? = some (encNode e)) (h0 : 0 ≤ k) (h : k + (32 + 2 * nsz e : Nat) ≤ 1000000000) (hlen : alen ≤ 1000000000) :
    l_markNodeS.r0 CC lpW (l_markNodeS.s0 alen k (j : Nat) a) = some (.normal, l_markNodeS.s0 alen (k + (32 + 2 * nsz e : Nat)) ((j + 1 : Nat) : Int) (a.set j (encNode (newNode k e.cols.length e.rows.length)))) := by
  have hz : nsz e = e.cols.length + e.rows.length := rfl
  have e5 : Kn 5 k = k + 5 := Kn_eq 5 h0 (by omega)
  have k1 := l_markLineS.c e.cols (Kn 5 k) (by omega) (by omega)
  have k2 := l_markLineS.c e.rows (Kn 5 k + 2 * e.cols.length) (by omega) (by omega)
  have := l_markNodeS.l0_1 (call := CC) (lp := lpW) alen k (j : Nat) a e (Kn 5 k + 2 * e.cols.length) (outL (Kn 5 k) e.cols.length) (Kn 5 k + 2 * e.cols.length + 2 * e.rows.length) (outL (Kn 5 k + 2 * e.cols.length) e.rows.length) (by rw [decide_eq_true_eq]; omega) (by rw [decide_eq_true_eq]; exact hl) (by simp) (by simp) (by rw [Int.toNat_natCast]; exact he) k1 k2
  rw [w64_succ (by omega), Int.toNat_natCast] at this
  have ke := kEnd (c := e.cols.length) (r := e.rows.length) h0 (by rw [← hz]; exact h)
  rw [hz, ← ke]
  exact this
def markN (k : Int) (nodes : List Node) : List Node := nodes.mapIdx fun j n => newNode (kAt k (nodes.take j)) n.cols.length n.rows.length
theorem markN_len (k : Int) (nodes : List Node) : (markN k nodes).length = nodes.length := by simp [markN]
theorem markN_at {k : Int} {nodes : List Node} {j : Nat} (hj : j < nodes.length) : (markN k nodes)[j]? = some (newNode (kAt k (nodes.take j)) nodes[j].cols.length nodes[j].rows.length) := by
  simp [markN, List.getElem?_mapIdx, List.getElem?_eq_getElem hj]
theorem kAt_bound {nodes : List Node} (h : tsz nodes ≤ 1048576) : kAt 1 nodes ≤ 40000000 := by
  unfold kAt; unfold tsz at h
  have : (nodes.map fun n => 32 + 2 * nsz n).sum = 32 * nodes.length + 2 * (nodes.map nsz).sum := by
    clear h
    induction nodes with
    | nil => rfl
    | cons a l ih => simp only [List.map_cons, List.sum_cons, List.length_cons, ih]; omega
  rw [this]; omega
theorem l_markTree.c {nodes : List Node} (h : tsz nodes ≤ 1048576) : PC l_markTree [.agg [.sl (nodes.map encNode)], vI 1] (vI (kAt 1 nodes), [.sl ((markN 1 nodes).map encNode)]) := by
  have hb := kAt_bound h
  have hn : nodes.length ≤ 1048576 := by unfold tsz at h; omega
  have hlen : ((markN 1 nodes).map encNode).length = (nodes.map encNode).length := by simp [markN_len]
  refine lift (l_markTree.w1 nodes 1 _ (markN 1 nodes) (lift (l_markNodeS.w1 nodes 1 _ _ ?_)))
  have := loop_exit (step := l_markNodeS.r0 CC lpW) (S := fun j => l_markNodeS.s0 (nodes.map encNode).length (kAt 1 (nodes.take j)) (j : Nat) (((markN 1 nodes).map encNode).take j ++ (nodes.map encNode).drop j)) nodes.length (fun j hj => by
    have hj' : j < ((markN 1 nodes).map encNode).length := by simpa [markN_len] using hj
    have ha : (((markN 1 nodes).map encNode).take j ++ (nodes.map encNode).drop j)[j]? = some (encNode nodes[j]) := by
      rw [at_take hlen hj', List.getElem_map]
    have hs := kAt_succ (k := 1) hj
    have hle := kAt_le (k := 1) (nodes := nodes) (j + 1)
    have hge := kAt_ge (k := 1) (nodes := nodes.take j)
    have := mark_round (k := kAt 1 (nodes.take j)) (alen := (nodes.map encNode).length) (by simpa using hj) (by rw [len_take hlen (by omega), hlen]) ha (by omega) (by omega) (by simp; omega)
    rw [this, hs]
    have e := set_take hlen hj'
    have e3 : ((markN 1 nodes).map encNode)[j] = encNode (newNode (kAt 1 (nodes.take j)) nodes[j].cols.length nodes[j].rows.length) := by
      have := markN_at (k := 1) hj
      rw [List.getElem_map]
      rw [List.getElem?_eq_getElem (by rw [markN_len]; exact hj)] at this
      injection this with this
      rw [this]
    rw [e3] at e
    rw [e]) (l_markNodeS.l0_2 _ _ _ _ (by simp))
  rw [take_end (n := nodes.length) hlen (by simp [markN_len]), List.take_length] at this
  simpa [show kAt 1 [] = 1 from rfl] using this
end Go.Proofs.Ytdgamfanffnhaaa.PI
namespace Go.Proofs.Ytdgamfanffnhaaa.PI
open Go Go.RowKit Go.ChangeShapes
section
variable {H : Type} {enc : TypeId × Value → H} {P : Program}
theorem post_of_grown {f : Func} {s : ChangeSpec} {apart fresh handsOn again : Bool} {W W' : World} {args : Array Value} {v : Value} {ds gs : List (DataW H)} {before : List MemPlace}
    (hW : DataW.Whole enc P f.params.toList s.vars apart W args.toList ds gs before)
    (hres : ∀ (b : Nat) (sp : Nat → Bool) (hd : Bool), DataW.TrodAll enc P W' b sp hd f.resultTypes.toList (v.resultList f.resultTypes.size) (s.fn H (ds ++ gs)).results [])
    (hargs : ∀ sp : Nat → Bool, (∀ p ∈ before, sp p.block = true) → DataW.TrodAll enc P W' 0 sp true f.params.toList args.toList (s.fn H (ds ++ gs)).args before)
    (hvars : ∀ sp : Nat → Bool, DataW.TrodVars enc P W' sp s.vars (s.fn H (ds ++ gs)).vars [])
    (hb : Below W.heap.size W W')
    (hok : ∀ (j : Nat) (t : TypeId) (r : Value), f.resultTypes[j]? = some t → (v.resultList f.resultTypes.size)[j]? = some r → Value.okWide P W' .any 0 t r) :
    s.post enc P f apart fresh handsOn again W args v W' := by
  have hold : ∀ p ∈ before, (fun b => decide (b < W.heap.size)) p.block = true := fun p hp => by simpa using hW.lt p hp
  have hlt := hW.lt
  refine ⟨ds, gs, before, [], before, [], hW, hres _ _ _, hargs _ hold, hvars _, hb.frame _, fun _ => ?_⟩
  obtain ⟨_, _, _, _, _, hz, hn⟩ := hW
  refine ⟨hok, _, _, ([] ++ before) ++ [], ⟨[] ++ before, [], trodAll_append (hargs _ (fun _ _ => rfl)) (hres _ _ _), hvars _, rfl, ?_, ?_⟩, ?_⟩
  · intro b off hp
    have hp' : MemPlace.cell b off ∈ before := by simpa using hp
    rw [hb.frozen (by have := hlt _ hp'; exact this)]
    exact hz b off hp'
  · intro ha
    have := hn ha
    simpa using this
  · intro p hp _
    simpa using hp
end
def kI : Kd := .int .i64
def kPack : Kd := .st (.fcons kI (.fcons kI (.fcons kI (.fcons .bool (.fcons .bool (.fcons .bool (.fcons kI (.fcons kI (.fcons kI .fnil)))))))))
def kNine : Kd := .st (.fcons kI (.fcons kI (.fcons kI (.fcons kI (.fcons kI (.fcons kI (.fcons kI (.fcons kI (.fcons kI .fnil)))))))))
def kLine : Kd := .st (.fcons kI (.fcons kI .fnil))
def kNode : Kd := .st (.fcons kI (.fcons kI (.fcons kI (.fcons .bool (.fcons kI (.fcons (.sl kLine) (.fcons (.sl kLine) (.fcons kPack (.fcons kNine (.fcons kNine .fnil))))))))))
def kTree : Kd := .st (.fcons (.sl kNode) .fnil)
theorem sh_cons {k r : Kd} {cs : List C} (h : Sh (.fcons k r) cs) : ∃ a b, cs = a ++ b ∧ Sh k a ∧ Sh r b := h
theorem sh_int {cs : List C} (h : Sh kI cs) : ∃ n, cs = [.int .i64 n] := let ⟨n, h, _⟩ := h; ⟨n, h⟩
theorem sh_bool {cs : List C} (h : Sh .bool cs) : ∃ n, cs = [.bool n] := h
theorem sh_nil {cs : List C} (h : Sh .fnil cs) : cs = [] := h
theorem sh_line {cs : List C} (h : Sh kLine cs) : ∃ l : Line, cs = encLine l := by
  obtain ⟨_, _, rfl, h1, g1⟩ := sh_cons h
  obtain ⟨_, _, rfl, h2, g2⟩ := sh_cons g1
  obtain ⟨a, rfl⟩ := sh_int h1; obtain ⟨b, rfl⟩ := sh_int h2
  rw [sh_nil g2]
  exact ⟨⟨a, b⟩, rfl⟩
theorem sh_pack {cs : List C} (h : Sh kPack cs) : ∃ l : Pack, cs = encPack l := by
  obtain ⟨_, _, rfl, h1, g1⟩ := sh_cons h
  obtain ⟨_, _, rfl, h2, g2⟩ := sh_cons g1
  obtain ⟨_, _, rfl, h3, g3⟩ := sh_cons g2
  obtain ⟨_, _, rfl, h4, g4⟩ := sh_cons g3
  obtain ⟨_, _, rfl, h5, g5⟩ := sh_cons g4
  obtain ⟨_, _, rfl, h6, g6⟩ := sh_cons g5
  obtain ⟨_, _, rfl, h7, g7⟩ := sh_cons g6
  obtain ⟨_, _, rfl, h8, g8⟩ := sh_cons g7
  obtain ⟨_, _, rfl, h9, g9⟩ := sh_cons g8
  obtain ⟨a1, rfl⟩ := sh_int h1; obtain ⟨a2, rfl⟩ := sh_int h2; obtain ⟨a3, rfl⟩ := sh_int h3
  obtain ⟨a4, rfl⟩ := sh_bool h4; obtain ⟨a5, rfl⟩ := sh_bool h5; obtain ⟨a6, rfl⟩ := sh_bool h6
  obtain ⟨a7, rfl⟩ := sh_int h7; obtain ⟨a8, rfl⟩ := sh_int h8; obtain ⟨a9, rfl⟩ := sh_int h9
  rw [sh_nil g9]
  exact ⟨⟨a1, a2, a3, a4, a5, a6, a7, a8, a9⟩, rfl⟩
theorem sh_nine {cs : List C} (h : Sh kNine cs) : ∃ a1 a2 a3 a4 a5 a6 a7 a8 a9 : Int, cs = [.int .i64 a1, .int .i64 a2, .int .i64 a3, .int .i64 a4, .int .i64 a5, .int .i64 a6, .int .i64 a7, .int .i64 a8, .int .i64 a9] := by
  obtain ⟨_, _, rfl, h1, g1⟩ := sh_cons h
  obtain ⟨_, _, rfl, h2, g2⟩ := sh_cons g1
  obtain ⟨_, _, rfl, h3, g3⟩ := sh_cons g2
  obtain ⟨_, _, rfl, h4, g4⟩ := sh_cons g3
  obtain ⟨_, _, rfl, h5, g5⟩ := sh_cons g4
  obtain ⟨_, _, rfl, h6, g6⟩ := sh_cons g5
  obtain ⟨_, _, rfl, h7, g7⟩ := sh_cons g6
  obtain ⟨_, _, rfl, h8, g8⟩ := sh_cons g7
  obtain ⟨_, _, rfl, h9, g9⟩ := sh_cons g8
  obtain ⟨a1, rfl⟩ := sh_int h1; obtain ⟨a2, rfl⟩ := sh_int h2; obtain ⟨a3, rfl⟩ := sh_int h3
  obtain ⟨a4, rfl⟩ := sh_int h4; obtain ⟨a5, rfl⟩ := sh_int h5; obtain ⟨a6, rfl⟩ := sh_int h6
  obtain ⟨a7, rfl⟩ := sh_int h7; obtain ⟨a8, rfl⟩ := sh_int h8; obtain ⟨a9, rfl⟩ := sh_int h9
  rw [sh_nil g9]
  exact ⟨a1, a2, a3, a4, a5, a6, a7, a8, a9, rfl⟩
theorem sh_sl {k : Kd} {α : Type} {f : α → List C} (hk : ∀ cs, Sh k cs → ∃ x, cs = f x) {cs : List C} (h : Sh (.sl k) cs) : ∃ l : List α, cs = [.sl (l.map f)] ∧ l.length ≤ maxLen := by
  obtain ⟨rows, rfl, hl, h⟩ := h
  have : ∃ l : List α, rows = l.map f := by
    clear hl
    induction rows with
    | nil => exact ⟨[], rfl⟩
    | cons r rows ih =>
      obtain ⟨l, hl⟩ := ih fun x hx => h x (List.mem_cons_of_mem _ hx)
      obtain ⟨x, hx⟩ := hk r (h r (List.mem_cons_self ..))
      exact ⟨x :: l, by rw [hx, hl]; rfl⟩
  obtain ⟨l, rfl⟩ := this
  exact ⟨l, rfl, by simpa using hl⟩
theorem sh_node {cs : List C} (h : Sh kNode cs) : ∃ n : Node, cs = encNode n ∧ n.cols.length ≤ maxLen ∧ n.rows.length ≤ maxLen := by
  obtain ⟨_, _, rfl, h1, g1⟩ := sh_cons h
  obtain ⟨_, _, rfl, h2, g2⟩ := sh_cons g1
  obtain ⟨_, _, rfl, h3, g3⟩ := sh_cons g2
  obtain ⟨_, _, rfl, h4, g4⟩ := sh_cons g3
  obtain ⟨_, _, rfl, h5, g5⟩ := sh_cons g4
  obtain ⟨_, _, rfl, h6, g6⟩ := sh_cons g5
  obtain ⟨_, _, rfl, h7, g7⟩ := sh_cons g6
  obtain ⟨_, _, rfl, h8, g8⟩ := sh_cons g7
  obtain ⟨_, _, rfl, h9, g9⟩ := sh_cons g8
  obtain ⟨_, _, rfl, h10, g10⟩ := sh_cons g9
  obtain ⟨a1, rfl⟩ := sh_int h1; obtain ⟨a2, rfl⟩ := sh_int h2; obtain ⟨a3, rfl⟩ := sh_int h3
  obtain ⟨a4, rfl⟩ := sh_bool h4; obtain ⟨a5, rfl⟩ := sh_int h5
  obtain ⟨c, rfl, hc⟩ := sh_sl (fun _ => sh_line) h6
  obtain ⟨r, rfl, hr⟩ := sh_sl (fun _ => sh_line) h7
  obtain ⟨p, rfl⟩ := sh_pack h8
  obtain ⟨b1, b2, b3, b4, b5, b6, b7, b8, b9, rfl⟩ := sh_nine h9
  obtain ⟨c1, c2, c3, c4, c5, c6, c7, c8, c9, rfl⟩ := sh_nine h10
  rw [sh_nil g10]
  exact ⟨⟨a1, a2, a3, a4, a5, c, r, p, ⟨b1, b2, b3, b4, b5, b6, b7, b8, b9⟩, ⟨c1, c2, c3, c4, c5, c6, c7, c8, c9⟩⟩, rfl, hc, hr⟩
theorem sh_tree {cs : List C} (h : Sh kTree cs) : ∃ nodes : List Node, cs = [.sl (nodes.map encNode)] ∧ Win nodes := by
  obtain ⟨_, _, rfl, h1, g1⟩ := sh_cons h
  rw [sh_nil g1]
  obtain ⟨rows, rfl, hl, hh⟩ := h1
  have : ∃ l : List Node, rows = l.map encNode ∧ ∀ n ∈ l, n.cols.length ≤ 9223372036854775807 ∧ n.rows.length ≤ 9223372036854775807 := by
    clear hl h
    induction rows with
    | nil => exact ⟨[], rfl, by simp⟩
    | cons r rows ih =>
      obtain ⟨l, hl, hw⟩ := ih fun x hx => hh x (List.mem_cons_of_mem _ hx)
      obtain ⟨x, hx, h1, h2⟩ := sh_node (hh r (List.mem_cons_self ..))
      unfold maxLen at h1 h2
      refine ⟨x :: l, by rw [hx, hl]; rfl, fun n hn => ?_⟩
      rcases List.mem_cons.1 hn with rfl | hn
      · omega
      · exact hw n hn
  obtain ⟨l, rfl, hw⟩ := this
  unfold maxLen at hl
  exact ⟨l, rfl, by simp at hl; omega, hw⟩
theorem ro_rsl {h : Hp} {R : Nat → Prop} {rows : List (List C)} {v : Value} (H : Ro h R [.sl rows] [v]) : Ro h R [.rsl rows] [v] := by
  cases H with
  | sc q _ => exact q.elim
  | e q _ => rcases q with q | q <;> cases q; exact .e (.inr rfl) .nil
  | row q a b c d e f g _ => rcases q with q | q <;> cases q; exact .row (.inr rfl) a b c d e f g .nil
theorem open_tree {H : Type} {enc : TypeId × Value → H} {P : Program} {w : World} {base b0 : Nat} {r : Reach} {spare : Nat → Bool} {held : Bool} {t : TypeId} {fs : Array Field} {v : Value} {d : DataW H} {ps : List MemPlace} (ht : P.underlying t = some (.struct fs)) (hk : kdOk P kTree (.inl t) = true)
    (hval : Value.okWide P w r b0 t v) (hd : DataW.Trod enc P w base spare held t v d ps) : ∃ nodes : List Node, Win nodes ∧ RoV (hp w) (Rw w) (.agg [.rsl (nodes.map encNode)]) v := by
  obtain ⟨arr, rfl, _⟩ := Go.WideShapes.okWide_struct ht hval
  obtain ⟨cs, hs, hro⟩ := arg_sh hk hd
  obtain ⟨nodes, rfl, hw⟩ := sh_tree hs
  refine ⟨nodes, hw, arr, rfl, ?_⟩
  have e : (Value.agg arr).cells = arr := rfl
  rw [e] at hro
  generalize arr.toList = l at hro
  cases hro with
  | sc q _ => exact q.elim
  | e q t => cases t; exact ro_rsl (.e q .nil)
  | row q a b c d e f g t => cases t; exact ro_rsl (.row q a b c d e f g .nil)
end Go.Proofs.Ytdgamfanffnhaaa.PI
namespace Go.Proofs.Ytdgamfanffnhaaa.PI
open Go
theorem getD_at {l : List Int} {j : Nat} (h : j < l.length) : l.getD j 0 = l[j] := by simp [List.getD, h]
theorem getD_out {l : List Int} {j : Nat} (h : l.length ≤ j) : l.getD j 0 = 0 := by simp [List.getD, h]
def Itr {σ : Type} (f : Nat → σ → σ) (s : σ) : Nat → σ
  | 0 => s
  | j + 1 => f j (Itr f s j)
def Bd (M : Int) (l : List Int) : Prop := ∀ x ∈ l, 0 ≤ x ∧ x ≤ M
theorem Bd.mono {M N : Int} {l : List Int} (h : Bd M l) (hm : M ≤ N) : Bd N l := fun x hx => ⟨(h x hx).1, Int.le_trans (h x hx).2 hm⟩
theorem Bd.at {M : Int} {l : List Int} (h : Bd M l) {j : Nat} (hj : j < l.length) : 0 ≤ l[j] ∧ l[j] ≤ M := h _ (List.getElem_mem hj)
theorem Bd.getD {M : Int} {l : List Int} (h : Bd M l) (hM : 0 ≤ M) (j : Nat) : 0 ≤ l.getD j 0 ∧ l.getD j 0 ≤ M := by
  by_cases hj : j < l.length
  · rw [getD_at hj]; exact h.at hj
  · rw [getD_out (by omega)]; exact ⟨Int.le_refl _, hM⟩
theorem sum_bd {M : Int} {l : List Int} (h : Bd M l) : 0 ≤ l.sum ∧ l.sum ≤ l.length * M := by
  induction l with
  | nil => simp
  | cons a l ih =>
    have h1 := h a (by simp)
    have h2 := ih fun x hx => h x (by simp [hx])
    rw [List.sum_cons, List.length_cons, Int.natCast_add, Int.add_mul]
    omega
theorem foldW {M : Int} {l : List Int} (h : Bd M l) : ∀ a : Int, 0 ≤ a → a + l.length * M < 9223372036854775808 → l.foldl (fun n e => w64 (n + e)) a = a + l.sum := by
  induction l with
  | nil => intro a _ _; simp
  | cons b l ih =>
    intro a ha hb
    have h1 := h b (by simp)
    have h2 : Bd M l := fun x hx => h x (by simp [hx])
    have h3 := sum_bd h2
    rw [List.length_cons, Int.natCast_add, Int.add_mul] at hb
    rw [List.foldl_cons, w64_id (by omega) (by omega), ih h2 _ (by omega) (by omega), List.sum_cons]
    omega
theorem sumW_eq {M : Int} {l : List Int} (h : Bd M l) (hb : l.length * M < 9223372036854775808) : sumW l = l.sum := by
  unfold sumW; rw [foldW h 0 (by omega) (by omega)]; omega
theorem sum_set {l : List Int} {j : Nat} (hj : j < l.length) (x : Int) : (l.set j x).sum = l.sum - l[j] + x := by
  induction l generalizing j with
  | nil => simp at hj
  | cons a l ih =>
    cases j with
    | zero => simp; omega
    | succ j =>
      have := ih (j := j) (by simpa using hj)
      simp only [List.set_cons_succ, List.sum_cons, List.getElem_cons_succ, this]; omega
def quotF (n : Int) (ws : List Int) : List Int := ws.map fun w => n * w / ws.sum
def bumpStep (ws : List Int) (j : Nat) (s : List Int × Int) : List Int × Int :=
  if ws.getD j 0 ≠ 0 ∧ 0 < s.2 then (s.1.set j (s.1.getD j 0 + 1), s.2 - 1) else s
def bumped (n : Int) (ws : List Int) (j : Nat) : List Int × Int := Itr (bumpStep ws) (quotF n ws, n - (quotF n ws).sum) j
def spreadF (n : Int) (ws : List Int) : List Int :=
  if ws.sum = 0 then (List.replicate ws.length (0 : Int)).set (ws.length - 1) n else (bumped n ws ws.length).1
theorem quot_len (n : Int) (ws : List Int) : (quotF n ws).length = ws.length := List.length_map ..
theorem bumped_len (n : Int) (ws : List Int) (j : Nat) : (bumped n ws j).1.length = ws.length := by
  induction j with
  | zero => exact quot_len n ws
  | succ j ih =>
    show (bumpStep ws j (bumped n ws j)).1.length = _
    unfold bumpStep
    split
    · simpa using ih
    · exact ih
theorem spread_len (n : Int) (ws : List Int) : (spreadF n ws).length = ws.length := by
  unfold spreadF; split
  · simp
  · exact bumped_len n ws _
theorem quot_nonneg {n : Int} {ws : List Int} (hn : 0 ≤ n) (hw : ∀ w ∈ ws, 0 ≤ w) : ∀ x ∈ quotF n ws, 0 ≤ x := by
  intro x hx
  obtain ⟨w, hw', rfl⟩ := List.mem_map.1 hx
  have hs : 0 ≤ ws.sum := by
    clear hx hw'
    induction ws with
    | nil => simp
    | cons a l ih => have := hw a (by simp); have := ih fun x hx => hw x (by simp [hx]); rw [List.sum_cons]; omega
  exact Int.ediv_nonneg (Int.mul_nonneg hn (hw w hw')) hs
theorem bumped_nonneg {n : Int} {ws : List Int} (hn : 0 ≤ n) (hw : ∀ w ∈ ws, 0 ≤ w) (j : Nat) : ∀ x ∈ (bumped n ws j).1, 0 ≤ x := by
  induction j with
  | zero => exact quot_nonneg hn hw
  | succ j ih =>
    show ∀ x ∈ (bumpStep ws j (bumped n ws j)).1, 0 ≤ x
    unfold bumpStep
    split
    · intro x hx
      rcases List.mem_or_eq_of_mem_set hx with hx | rfl
      · exact ih x hx
      · by_cases h : j < (bumped n ws j).1.length
        · rw [getD_at h]; have := ih _ (List.getElem_mem h); omega
        · rw [getD_out (by omega)]; omega
    · exact ih
theorem bumped_sum {n : Int} {ws : List Int} (j : Nat) (hj : j ≤ ws.length) : (bumped n ws j).1.sum + (bumped n ws j).2 = n := by
  induction j with
  | zero => show (quotF n ws).sum + (n - (quotF n ws).sum) = n; omega
  | succ j ih =>
    have := ih (by omega)
    have hl := bumped_len n ws j
    show (bumpStep ws j (bumped n ws j)).1.sum + (bumpStep ws j (bumped n ws j)).2 = n
    unfold bumpStep
    split
    · simp only
      rw [sum_set (by omega), getD_at (by omega)]; omega
    · exact this
def nz (ws : List Int) (j : Nat) : Int := ((ws.take j).countP (fun w => decide (w ≠ 0)) : Nat)
theorem nz_succ {ws : List Int} {j : Nat} (hj : j < ws.length) : nz ws (j + 1) = nz ws j + (if ws.getD j 0 ≠ 0 then 1 else 0) := by
  unfold nz
  rw [List.take_add_one, List.getElem?_eq_getElem hj, List.countP_append, getD_at hj]
  by_cases h : ws[j] = 0 <;> simp [h]
theorem bumped_left {n : Int} {ws : List Int} (h0 : 0 ≤ n - (quotF n ws).sum) (j : Nat) (hj : j ≤ ws.length) : (bumped n ws j).2 = max 0 (n - (quotF n ws).sum - nz ws j) := by
  induction j with
  | zero => show n - (quotF n ws).sum = _; have : nz ws 0 = 0 := by simp [nz]
            omega
  | succ j ih =>
    have := ih (by omega)
    rw [nz_succ (by omega)]
    show (bumpStep ws j (bumped n ws j)).2 = _
    unfold bumpStep
    by_cases hz : ws.getD j 0 = 0
    · rw [if_neg (fun h => h.1 hz), if_neg (fun h => h hz)]; omega
    · by_cases hp : 0 < (bumped n ws j).2
      · rw [if_pos ⟨hz, hp⟩, if_pos hz]; simp only; omega
      · rw [if_neg (fun h => hp h.2), if_pos hz]; omega
theorem quot_low {n : Int} {all : Int} (hall : 0 < all) (hn : 0 ≤ n) : ∀ ws : List Int, (∀ w ∈ ws, 0 ≤ w) → n * ws.sum ≤ all * (ws.map fun w => n * w / all).sum + (ws.countP (fun w => decide (w ≠ 0)) : Nat) * (all - 1) ∧ all * (ws.map fun w => n * w / all).sum ≤ n * ws.sum
  | [], _ => by simp
  | w :: ws, h => by
    have ⟨i1, i2⟩ := quot_low hall hn ws fun x hx => h x (by simp [hx])
    have hd := Int.mul_ediv_add_emod (n * w) all
    have h1 := Int.emod_nonneg (n * w) (by omega : all ≠ 0)
    have h2 := Int.emod_lt_of_pos (n * w) hall
    rw [List.sum_cons, List.map_cons, List.sum_cons, List.countP_cons, Int.mul_add, Int.mul_add]
    by_cases hz : w = 0
    · subst hz
      simp only [Int.mul_zero, Int.zero_ediv, Int.zero_add, ne_eq, not_true_eq_false, decide_false, Bool.false_eq_true, if_false, Nat.add_zero]
      exact ⟨i1, i2⟩
    · rw [if_pos (by simpa using hz), Int.natCast_add, Int.add_mul]
      simp only [Int.natCast_one, Int.one_mul]
      constructor
      · omega
      · omega
theorem quot_bounds {n : Int} {ws : List Int} (hn : 0 ≤ n) (hw : ∀ w ∈ ws, 0 ≤ w) (hall : 0 < ws.sum) : 0 ≤ n - (quotF n ws).sum ∧ n - (quotF n ws).sum ≤ nz ws ws.length := by
  obtain ⟨h1, h2⟩ := quot_low hall hn ws hw
  have hz : nz ws ws.length = (ws.countP (fun w => decide (w ≠ 0)) : Nat) := by unfold nz; rw [List.take_length]
  unfold quotF
  rw [hz]
  have h2' : ws.sum * (ws.map fun w => n * w / ws.sum).sum ≤ ws.sum * n := by rw [Int.mul_comm ws.sum n]; exact h2
  have a := Int.le_of_mul_le_mul_left h2' hall
  refine ⟨by omega, ?_⟩
  apply Int.le_of_mul_le_mul_left (a := ws.sum) _ hall
  have : ((ws.countP (fun w => decide (w ≠ 0)) : Nat) : Int) * (ws.sum - 1) ≤ ws.sum * (ws.countP (fun w => decide (w ≠ 0)) : Nat) := by
    rw [Int.mul_sub, Int.mul_comm]; omega
  rw [Int.mul_sub]
  rw [Int.mul_comm n] at h1
  omega
theorem spread_sum {n : Int} {ws : List Int} (hn : 0 ≤ n) (hw : ∀ w ∈ ws, 0 ≤ w) (hl : 0 < ws.length) : (spreadF n ws).sum = n := by
  unfold spreadF
  by_cases h : ws.sum = 0
  · rw [if_pos h, sum_set (by simp; omega)]; simp
  · rw [if_neg h]
    have hs : 0 < ws.sum := by
      have : 0 ≤ ws.sum := by
        clear h hl
        induction ws with
        | nil => simp
        | cons a l ih => have := hw a (by simp); have := ih fun x hx => hw x (by simp [hx]); rw [List.sum_cons]; omega
      omega
    have hb := quot_bounds hn hw hs
    have := bumped_sum (n := n) (ws := ws) ws.length (Nat.le_refl _)
    rw [bumped_left hb.1 _ (Nat.le_refl _)] at this
    omega
theorem spread_nonneg {n : Int} {ws : List Int} (hn : 0 ≤ n) (hw : ∀ w ∈ ws, 0 ≤ w) : ∀ x ∈ spreadF n ws, 0 ≤ x := by
  unfold spreadF
  split
  · intro x hx
    rcases List.mem_or_eq_of_mem_set hx with hx | rfl
    · rw [List.mem_replicate] at hx; omega
    · exact hn
  · exact bumped_nonneg hn hw _
theorem le_sum {l : List Int} (h : ∀ x ∈ l, 0 ≤ x) : ∀ x ∈ l, x ≤ l.sum := by
  induction l with
  | nil => simp
  | cons a l ih =>
    have hl : ∀ x ∈ l, 0 ≤ x := fun x hx => h x (by simp [hx])
    have hs : 0 ≤ l.sum := by
      clear ih h
      induction l with
      | nil => simp
      | cons b l ih => have := hl b (by simp); have := ih fun x hx => hl x (by simp [hx]); rw [List.sum_cons]; omega
    have ha := h a (by simp)
    intro x hx
    rw [List.sum_cons]
    rcases List.mem_cons.1 hx with rfl | hx
    · omega
    · have := ih hl x hx; omega
theorem spread_bd {n : Int} {ws : List Int} (hn : 0 ≤ n) (hw : ∀ w ∈ ws, 0 ≤ w) (hl : 0 < ws.length) : Bd n (spreadF n ws) := fun x hx => by
  have := le_sum (spread_nonneg hn hw) x hx
  rw [spread_sum hn hw hl] at this
  exact ⟨spread_nonneg hn hw x hx, this⟩
end Go.Proofs.Ytdgamfanffnhaaa.PI
namespace Go.Proofs.Ytdgamfanffnhaaa.PI
open Go
theorem rep_map (k : Nat) : List.replicate k zInt = (List.replicate k (0 : Int)).map encInt := by rw [List.map_replicate]; rfl
theorem set_int (l : List Int) (k : Nat) (n : Int) : (l.map encInt).set k [C.int .i64 n] = (l.set k n).map encInt := by rw [List.map_set]; rfl
def fillF {α : Type} (z : α) (l : List α) (j : Nat) : List α := l.take j ++ List.replicate (l.length - j) z
theorem fill_len {α : Type} (z : α) (l : List α) {j : Nat} (hj : j ≤ l.length) : (fillF z l j).length = l.length := by
  unfold fillF; rw [List.length_append, List.length_take, List.length_replicate]; omega
theorem fill_set {α : Type} (z : α) (l : List α) {j : Nat} (hj : j < l.length) : (fillF z l j).set j l[j] = fillF z l (j + 1) := by
  unfold fillF
  have hl : (l.take j).length = j := by rw [List.length_take]; omega
  obtain ⟨k, hk⟩ : ∃ k, l.length - j = k + 1 := ⟨l.length - j - 1, by omega⟩
  rw [hk, List.replicate_succ, List.set_append, if_neg (by omega), hl, Nat.sub_self, List.set_cons_zero, List.take_add_one, List.getElem?_eq_getElem hj, List.append_assoc]
  have : l.length - (j + 1) = k := by omega
  rw [this]; rfl
theorem fill_zero {α : Type} (z : α) (l : List α) : fillF z l 0 = List.replicate l.length z := by simp [fillF]
theorem fill_all {α : Type} (z : α) (l : List α) : fillF z l l.length = l := by simp [fillF]
theorem at_int {l : List Int} {j : Nat} (h : j < l.length) : (l.map encInt)[((j : Nat) : Int).toNat]? = some [C.int .i64 l[j]] := at_map h
def Wt (ws : List Int) : Prop := Bd 5 ws ∧ 0 < ws.length ∧ ws.length ≤ 5
def Sz (n : Int) : Prop := 0 ≤ n ∧ n ≤ 100000000000000000
theorem Wt.sm {ws : List Int} (h : Wt ws) : Sm ws := by have := h.2.2; unfold Sm; omega
theorem Wt.sum {ws : List Int} (h : Wt ws) : sumW ws = ws.sum := sumW_eq h.1 (by have := h.2.2; omega)
theorem Wt.pos {ws : List Int} (h : Wt ws) : ∀ w ∈ ws, 0 ≤ w := fun w hw => (h.1 w hw).1
theorem quot_at {n : Int} {ws : List Int} (h : Wt ws) (hn : Sz n) (h0 : ws.sum ≠ 0) {j : Nat} (hj : j < ws.length) : w64 (Int.tdiv (w64 (n * ws[j])) ws.sum) = (quotF n ws)[j]'(by rw [quot_len]; exact hj) := by
  have hs := sum_bd h.1
  have h5 := h.2.2
  have hw := h.1.at hj
  have hm : 0 ≤ n * ws[j] := Int.mul_nonneg hn.1 hw.1
  have hm2 : n * ws[j] ≤ 100000000000000000 * 5 := Int.mul_le_mul hn.2 hw.2 hw.1 (by omega)
  have e : (quotF n ws)[j]'(by rw [quot_len]; exact hj) = n * ws[j] / ws.sum := by simp [quotF]
  rw [e, w64_id (n := n * ws[j]) (by omega) (by omega), Int.tdiv_eq_ediv_of_nonneg hm]
  have h1 : 0 ≤ n * ws[j] / ws.sum := Int.ediv_nonneg hm hs.1
  have h2 : n * ws[j] / ws.sum ≤ n * ws[j] := Int.ediv_le_self _ hm
  exact w64_id (by omega) (by omega)
theorem quot_bd {n : Int} {ws : List Int} (h : Wt ws) (hn : Sz n) : Bd 500000000000000000 (quotF n ws) := by
  intro x hx
  refine ⟨quot_nonneg hn.1 h.pos x hx, ?_⟩
  obtain ⟨w, hw, rfl⟩ := List.mem_map.1 hx
  have hb := h.1 w hw
  have hm : 0 ≤ n * w := Int.mul_nonneg hn.1 hb.1
  have hm2 : n * w ≤ 100000000000000000 * 5 := Int.mul_le_mul hn.2 hb.2 hb.1 (by omega)
  have : n * w / ws.sum ≤ n * w := Int.ediv_le_self _ hm
  omega
theorem bump_facts {n : Int} {ws : List Int} (h : Wt ws) (hn : Sz n) (h0 : ws.sum ≠ 0) (j : Nat) (hj : j ≤ ws.length) :
    0 ≤ (bumped n ws j).2 ∧ (bumped n ws j).2 ≤ n ∧ Bd n (bumped n ws j).1 := by
  have hp : 0 < ws.sum := by have := (sum_bd h.1).1; omega
  have hb := quot_bounds hn.1 h.pos hp
  have h2 := bumped_left hb.1 j hj
  have h3 := bumped_sum (n := n) j hj
  have h4 := bumped_nonneg hn.1 h.pos j (n := n)
  have hz : 0 ≤ nz ws j := Int.natCast_nonneg _
  have hq : 0 ≤ (quotF n ws).sum := by have := sum_bd (quot_bd h hn); omega
  refine ⟨by omega, by omega, fun x hx => ⟨h4 x hx, ?_⟩⟩
  have := le_sum h4 x hx
  omega
theorem bump_stay {n : Int} {ws : List Int} {j : Nat} (h : (bumped n ws j).2 ≤ 0) : ∀ k, bumped n ws (j + k) = bumped n ws j := by
  intro k
  induction k with
  | zero => rfl
  | succ k ih =>
    show bumpStep ws (j + k) (bumped n ws (j + k)) = _
    unfold bumpStep
    rw [if_neg (by rw [ih]; omega), ih]
theorem bump_done {n : Int} {ws : List Int} (h : Wt ws) (hn : Sz n) (h0 : ws.sum ≠ 0) : (bumped n ws ws.length).2 = 0 := by
  have hp : 0 < ws.sum := by have := (sum_bd h.1).1; omega
  have hb := quot_bounds hn.1 h.pos hp
  have h2 := bumped_left hb.1 ws.length (Nat.le_refl _)
  omega
theorem bump_step {n : Int} {ws : List Int} {j : Nat} : bumped n ws (j + 1) = if ws.getD j 0 ≠ 0 ∧ 0 < (bumped n ws j).2 then ((bumped n ws j).1.set j ((bumped n ws j).1.getD j 0 + 1), (bumped n ws j).2 - 1) else bumped n ws j := rfl
theorem i_spread.c (n : Int) (ws : List Int) (h : Wt ws) (hn : Sz n) : PC i_spread [vI n, .one (.rsl (ws.map encInt))] (.one (.sl ((spreadF n ws).map encInt)), []) := by
  have h5 := h.2.2
  have hl0 := h.2.1
  have hn1 := hn.1
  have hn2 := hn.2
  have ks := i_sum.c ws h.sm
  unfold i_sum.m at ks
  rw [h.sum] at ks
  refine lift ?_
  unfold spreadF
  by_cases h0 : ws.sum = 0
  · rw [if_pos h0]
    have hw : w64 ((ws.length : Int) - 1) = ((ws.length - 1 : Nat) : Int) := by rw [w64_id (by omega) (by omega)]; omega
    have := i_spread.w1 (call := CC) (lp := lpW) n ws ws.sum 0 (by simp) (by simp; omega) (by simpa using h0)
    simp only [List.length_map, List.length_replicate, Int.toNat_natCast, hw] at this
    refine (this (by simp) (by simp; omega) (by simp) (by rw [List.getElem?_replicate, if_pos (by omega)]; rfl) ks).trans ?_
    rw [rep_map, set_int]
  · rw [if_neg h0]
    have l0 := loop_exit (step := i_spread.r0 CC lpW) (S := fun j => i_spread.s0 n (ws.map encInt) ws.length ws.sum (ws.map encInt) ((ws.map encInt).length : Nat) (j : Nat) ((fillF 0 (quotF n ws) j).map encInt)) ws.length (fun j hj => by
      have hf : (fillF 0 (quotF n ws) j).length = ws.length := by rw [fill_len _ _ (by rw [quot_len]; omega), quot_len]
      have := i_spread.l0_1 (call := CC) (lp := lpW) n (ws.map encInt) ws.length ws.sum (ws.map encInt) ((ws.map encInt).length : Nat) (j : Nat) ((fillF 0 (quotF n ws) j).map encInt) ws[j] _ (by simpa using hj) (by simp) (by simpa using h0) (by simpa using hf) (by simpa using hj) (by simp) (at_int hj) (at_int (by rw [hf]; exact hj))
      rw [this, w64_succ (by omega), quot_at h hn h0 hj, Int.toNat_natCast, set_int, fill_set 0 (quotF n ws) (by rw [quot_len]; exact hj)]) (i_spread.l0_2 _ _ _ _ _ _ _ _ (by simp))
    have hq : fillF 0 (quotF n ws) ws.length = quotF n ws := by
      have := fill_all (0 : Int) (quotF n ws); rw [quot_len] at this; exact this
    rw [hq] at l0
    have l1 := loop_exit (step := i_spread.r1 CC lpW) (S := fun j => i_spread.s1 ws.length (bumped n ws j).2 (ws.map encInt) ((ws.map encInt).length : Nat) (j : Nat) ((bumped n ws j).1.map encInt)) ws.length (fun j hj => by
      have hbl := bumped_len n ws j
      obtain ⟨b1, b2, b3⟩ := bump_facts h hn h0 j (by omega)
      have hx := b3.at (j := j) (by omega)
      rw [bump_step, getD_at hj, getD_at (l := (bumped n ws j).1) (by omega)]
      by_cases hz : ws[j] = 0
      · rw [if_neg (fun c => c.1 hz)]
        have := i_spread.l1_3 (call := CC) (lp := lpW) ws.length (bumped n ws j).2 (ws.map encInt) ((ws.map encInt).length : Nat) (j : Nat) ((bumped n ws j).1.map encInt) ws[j] (by simpa using hj) (by simp) (by simpa using hz) (at_int hj)
        rw [this, w64_succ (by omega)]
      · by_cases hp : 0 < (bumped n ws j).2
        · rw [if_pos ⟨hz, hp⟩]
          have := i_spread.l1_1 (call := CC) (lp := lpW) ws.length (bumped n ws j).2 (ws.map encInt) ((ws.map encInt).length : Nat) (j : Nat) ((bumped n ws j).1.map encInt) ws[j] _ (by simpa using hj) (by simp) (by simpa using hz) (by simpa using hp) (by simpa using hbl) (by simpa using hj) (by simp) (at_int hj) (at_int (by omega))
          rw [this, w64_succ (by omega), w64_id (n := (bumped n ws j).2 - 1) (by omega) (by omega), w64_id (n := (bumped n ws j).1[j] + 1) (by omega) (by omega), Int.toNat_natCast, set_int]
        · rw [if_neg (fun c => hp c.2)]
          have := i_spread.l1_4 (call := CC) (lp := lpW) ws.length (bumped n ws j).2 (ws.map encInt) ((ws.map encInt).length : Nat) (j : Nat) ((bumped n ws j).1.map encInt) ws[j] (by simpa using hj) (by simp) (by simpa using hz) (by simpa using hp) (at_int hj)
          rw [this, w64_succ (by omega)]) (i_spread.l1_2 _ _ _ _ _ _ (by simp))
    have kq := i_sum.c (quotF n ws) (by unfold Sm; rw [quot_len]; omega)
    unfold i_sum.m at kq
    rw [sumW_eq (quot_bd h hn) (by rw [quot_len]; omega)] at kq
    refine i_spread.w2 n ws ws.sum n (ws.map encInt) ws.length _ (quotF n ws).sum ws.length _ (by simp) (by simp; omega) (by simpa using h0) (by simp [quot_len]) (by simp [bumped_len]) ks kq ?_ ?_
    · have e0 := fill_zero (0 : Int) (quotF n ws)
      rw [e0, quot_len] at l0
      simpa [rep_map] using l0
    · have hb := bump_facts h hn h0 0 (by omega)
      have hs := sum_bd (quot_bd h hn)
      rw [quot_len] at hs
      rw [w64_id (by omega) (by omega)]
      simp only [show bumped n ws 0 = (quotF n ws, n - (quotF n ws).sum) from rfl] at l1
      simpa using l1
theorem s_spread.c (n : Int) (ws : List Int) (h : Wt ws) (hn : Sz n) : PC s_spread [vI n, .one (.rsl (ws.map encInt))] (.one (.sl ((spreadF n ws).map encInt)), []) := by
  have h5 := h.2.2
  have hl0 := h.2.1
  have hn1 := hn.1
  have hn2 := hn.2
  have ks := s_total.c ws h.sm
  unfold s_total.m at ks
  rw [h.sum] at ks
  refine lift ?_
  unfold spreadF
  by_cases h0 : ws.sum = 0
  · rw [if_pos h0]
    have hw : w64 ((ws.length : Int) - 1) = ((ws.length - 1 : Nat) : Int) := by rw [w64_id (by omega) (by omega)]; omega
    have := s_spread.w1 (call := CC) (lp := lpW) n ws ws.sum 0 (by simp) (by simp; omega) (by simpa using h0)
    simp only [List.length_map, List.length_replicate, Int.toNat_natCast, hw] at this
    refine (this (by simp; omega) (by simp) (by simp; omega) (by simp) (by rw [List.getElem?_replicate, if_pos (by omega)]; rfl) ks).trans ?_
    rw [rep_map, set_int]
  · rw [if_neg h0]
    have l0 := loop_exit (step := s_spread.r0 CC lpW) (S := fun j => s_spread.s0 n (ws.map encInt) ws.length ws.sum (n - ((quotF n ws).take j).sum) (j : Nat) ((fillF 0 (quotF n ws) j).map encInt)) ws.length (fun j hj => by
      have hf : (fillF 0 (quotF n ws) j).length = ws.length := by rw [fill_len _ _ (by rw [quot_len]; omega), quot_len]
      have hjq : j < (quotF n ws).length := by rw [quot_len]; exact hj
      have := s_spread.l0_1 (call := CC) (lp := lpW) n (ws.map encInt) ws.length ws.sum (n - ((quotF n ws).take j).sum) (j : Nat) ((fillF 0 (quotF n ws) j).map encInt) ws[j] _ (by simpa using hj) (by simp) (by simpa using h0) (by simpa using hf) (by simp) (at_int hj) (at_int (by rw [hf]; exact hj))
      have hs1 := sum_bd (M := 500000000000000000) (l := (quotF n ws).take j) fun x hx => quot_bd h hn x (List.mem_of_mem_take hx)
      rw [List.length_take, quot_len] at hs1
      have hx := (quot_bd h hn).at hjq
      have e : ((quotF n ws).take (j + 1)).sum = ((quotF n ws).take j).sum + (quotF n ws)[j] := by
        rw [List.take_add_one, List.getElem?_eq_getElem hjq, List.sum_append]; simp
      rw [this, w64_succ (by omega), quot_at h hn h0 hj, Int.toNat_natCast, set_int, fill_set 0 (quotF n ws) hjq, e, w64_id (by omega) (by omega)]
      congr 3; omega) (s_spread.l0_2 _ _ _ _ _ _ _ (by simp))
    have hq : fillF 0 (quotF n ws) ws.length = quotF n ws := by
      have := fill_all (0 : Int) (quotF n ws); rw [quot_len] at this; exact this
    have hq2 : (quotF n ws).take ws.length = quotF n ws := by
      have := List.take_length (l := quotF n ws); rw [quot_len] at this; exact this
    rw [hq, hq2] at l0
    have stop : ∃ k, k ≤ ws.length ∧ (bumped n ws k).2 ≤ 0 ∧ ∀ i, i < k → 0 < (bumped n ws i).2 := by
      have key : ∀ m, m ≤ ws.length → (∀ i, i < m → 0 < (bumped n ws i).2) ∨ ∃ k, k ≤ ws.length ∧ (bumped n ws k).2 ≤ 0 ∧ ∀ i, i < k → 0 < (bumped n ws i).2 := by
        intro m
        induction m with
        | zero => intro _; left; intro i hi; omega
        | succ m ih =>
          intro hm
          rcases ih (by omega) with hh | hh
          · by_cases hc : 0 < (bumped n ws m).2
            · left; intro i hi
              by_cases hi2 : i = m
              · subst hi2; exact hc
              · exact hh i (by omega)
            · right; exact ⟨m, by omega, by omega, hh⟩
          · exact .inr hh
      rcases key ws.length (Nat.le_refl _) with hh | hh
      · exact ⟨ws.length, Nat.le_refl _, by rw [bump_done h hn h0]; omega, hh⟩
      · exact hh
    obtain ⟨k, hk, hk2, hk3⟩ := stop
    have l1 := loop_exit (step := s_spread.r1 CC lpW) (S := fun j => s_spread.s1 (ws.map encInt) ws.length (bumped n ws j).2 (j : Nat) ((bumped n ws j).1.map encInt)) k (fun j hj => by
      have hbl := bumped_len n ws j
      obtain ⟨b1, b2, b3⟩ := bump_facts h hn h0 j (by omega)
      have hx := b3.at (j := j) (by omega)
      have hp := hk3 j hj
      rw [bump_step, getD_at (l := ws) (by omega), getD_at (l := (bumped n ws j).1) (by omega)]
      by_cases hz : ws[j] = 0
      · rw [if_neg (fun c => c.1 hz)]
        have := s_spread.l1_3 (call := CC) (lp := lpW) (ws.map encInt) ws.length (bumped n ws j).2 (j : Nat) ((bumped n ws j).1.map encInt) ws[j] (by simpa using hp) (by simp) (by simp [hz]) (at_int (by omega))
        rw [this, w64_succ (by omega)]
      · have hw := h.1.at (j := j) (by omega)
        rw [if_pos ⟨hz, hp⟩]
        have := s_spread.l1_1 (call := CC) (lp := lpW) (ws.map encInt) ws.length (bumped n ws j).2 (j : Nat) ((bumped n ws j).1.map encInt) ws[j] _ (by simpa using hp) (by simp) (by simp; omega) (by simpa using hbl) (by simp; omega) (by simp) (at_int (by omega)) (at_int (by omega))
        rw [this, w64_succ (by omega), w64_id (n := (bumped n ws j).2 - 1) (by omega) (by omega), w64_id (n := (bumped n ws j).1[j] + 1) (by omega) (by omega), Int.toNat_natCast, set_int]) (s_spread.l1_2 _ _ _ _ _ (by simp; omega))
    have hb : bumped n ws ws.length = bumped n ws k := by
      have := bump_stay hk2 (ws.length - k); rw [show k + (ws.length - k) = ws.length by omega] at this; exact this
    rw [hb]
    refine s_spread.w2 n ws ws.sum (ws.map encInt) ws.length _ _ ws.length _ (by simp) (by simp; omega) (by simpa using h0) (by simp [bumped_len]) ks ?_ l1
    have e0 := fill_zero (0 : Int) (quotF n ws)
    rw [e0, quot_len] at l0
    simp only [show bumped n ws 0 = (quotF n ws, n - (quotF n ws).sum) from rfl]
    simpa [rep_map] using l0
end Go.Proofs.Ytdgamfanffnhaaa.PI
namespace Go.Proofs.Ytdgamfanffnhaaa.PI
open Go
def wts (lines : List Line) : List Int := lines.map fun l => l.weight
def winF (out : List Int) (s : Span) : Int := (cut s.at_.toNat s.many.toNat out).sum
def addAt (a : Nat) (parts : List Int) (j : Nat) (out : List Int) : List Int := out.set (a + j) (out.getD (a + j) 0 + parts.getD j 0)
theorem addAt_eq (a : Nat) (parts : List Int) (j : Nat) (out : List Int) : addAt a parts j out = out.set (a + j) (out.getD (a + j) 0 + parts.getD j 0) := rfl
def partsF (lines : List Line) (out : List Int) (s : Span) : List Int := spreadF (s.need - winF out s) (wts (cut s.at_.toNat s.many.toNat lines))
def addAll (a : Nat) (parts : List Int) (out : List Int) : List Int := Itr (addAt a parts) out parts.length
def spanStep (lines : List Line) (many : Int) (out : List Int) (s : Span) : List Int :=
  if s.many = many ∧ 0 < s.need - winF out s then addAll s.at_.toNat (partsF lines out s) out else out
def spanRound (lines : List Line) (spans : List Span) (many : Nat) (out : List Int) : List Int := spans.foldl (spanStep lines (many + 1 : Nat)) out
def wishAt (lines : List Line) (spans : List Span) (j : Nat) : List Int := Itr (spanRound lines spans) (lines.map fun l => l.min) j
def wishF (lines : List Line) (spans : List Span) : List Int := wishAt lines spans lines.length
def LinesOk (lines : List Line) : Prop := (∀ l ∈ lines, (0 ≤ l.weight ∧ l.weight ≤ 5) ∧ 0 ≤ l.min ∧ l.min ≤ 30) ∧ 0 < lines.length ∧ lines.length ≤ 5
def SpanOk (M : Int) (n : Nat) (s : Span) : Prop := 0 ≤ s.at_ ∧ 1 ≤ s.many ∧ s.at_ + s.many ≤ n ∧ 0 ≤ s.need ∧ s.need ≤ M
theorem cut_len {α : Type} {a m : Nat} {l : List α} (h : a + m ≤ l.length) : (cut a m l).length = m := by unfold cut; rw [List.length_take, List.length_drop]; omega
theorem cut_map {α β : Type} {a m : Nat} {l : List α} {f : α → β} : cut a m (l.map f) = (cut a m l).map f := by unfold cut; rw [List.map_take, List.map_drop]
theorem cut_mem {α : Type} {a m : Nat} {l : List α} : ∀ x ∈ cut a m l, x ∈ l := fun _ hx => List.mem_of_mem_drop (List.mem_of_mem_take hx)
theorem Bd.cut {M : Int} {l : List Int} (h : Bd M l) (a m : Nat) : Bd M (cut a m l) := fun x hx => h x (cut_mem x hx)
theorem getD_set {l : List Int} {i j : Nat} {x : Int} (hj : j < l.length) : (l.set j x).getD i 0 = if i = j then x else l.getD i 0 := by
  by_cases h : i = j
  · subst h; rw [if_pos rfl, getD_at (by simpa using hj)]; simp
  · rw [if_neg h]; simp only [List.getD, List.getElem?_set]; rw [if_neg (fun c => h c.symm)]
theorem Itr_len {a : Nat} {parts out : List Int} (j : Nat) : (Itr (addAt a parts) out j).length = out.length := by
  induction j with
  | zero => rfl
  | succ j ih => show (addAt a parts j _).length = _; rw [addAt_eq, List.length_set, ih]
theorem Itr_get {a : Nat} {parts out : List Int} (j : Nat) (h : a + j ≤ out.length) (k : Nat) : (Itr (addAt a parts) out j).getD k 0 = if a ≤ k ∧ k < a + j then out.getD k 0 + parts.getD (k - a) 0 else out.getD k 0 := by
  induction j with
  | zero => rw [if_neg (by omega)]; rfl
  | succ j ih =>
    have ih := ih (by omega)
    show (addAt a parts j _).getD k 0 = _
    rw [addAt_eq, getD_set (by rw [Itr_len]; omega)]
    by_cases hk : k = a + j
    · subst hk
      rw [if_pos rfl, ih, if_neg (by omega), if_pos (by omega), show a + j - a = j by omega]
    · rw [if_neg hk, ih]
      by_cases hc : a ≤ k ∧ k < a + j
      · rw [if_pos hc, if_pos (by omega)]
      · rw [if_neg hc, if_neg (by omega)]
theorem addAll_len {a : Nat} {parts out : List Int} : (addAll a parts out).length = out.length := Itr_len _
theorem mem_getD {l : List Int} {x : Int} (h : x ∈ l) : ∃ k, k < l.length ∧ l.getD k 0 = x := by
  obtain ⟨k, hk, rfl⟩ := List.mem_iff_getElem.1 h
  exact ⟨k, hk, getD_at hk⟩
theorem cut_getD {a m : Nat} {l : List Int} {k : Nat} (h : a + m ≤ l.length) (hk : a ≤ k ∧ k < a + m) : l.getD k 0 ∈ cut a m l := by
  unfold cut
  rw [getD_at (by omega)]
  rw [List.mem_take_iff_getElem]
  exact ⟨k - a, by rw [List.length_drop]; omega, by rw [List.getElem_drop]; congr 1; omega⟩
theorem wts_ok {lines : List Line} (h : LinesOk lines) {s : Span} {M : Int} (hs : SpanOk M lines.length s) : Wt (wts (cut s.at_.toNat s.many.toNat lines)) := by
  obtain ⟨h1, h2, h3, h4, h5⟩ := hs
  refine ⟨fun w hw => ?_, ?_, ?_⟩
  · obtain ⟨l, hl, rfl⟩ := List.mem_map.1 hw
    exact (h.1 l (cut_mem l hl)).1
  · unfold wts; rw [List.length_map, cut_len (by omega)]; omega
  · have := h.2.2; unfold wts; rw [List.length_map, cut_len (by omega)]; omega
def OutOk (M : Int) (n : Nat) (out : List Int) : Prop := out.length = n ∧ Bd M out
theorem win_bd {M : Int} {n : Nat} {out : List Int} (h : OutOk M n out) (hn : n ≤ 5) (hM : 0 ≤ M) {s : Span} : 0 ≤ winF out s ∧ winF out s ≤ 5 * M := by
  have := sum_bd (h.2.cut s.at_.toNat s.many.toNat)
  have hl : (cut s.at_.toNat s.many.toNat out).length ≤ 5 := by
    have := h.1; unfold cut; rw [List.length_take, List.length_drop]; omega
  refine ⟨this.1, Int.le_trans this.2 (Int.mul_le_mul_of_nonneg_right (by omega) hM)⟩
theorem parts_facts {M : Int} {lines : List Line} (hl : LinesOk lines) {out : List Int} {s : Span} (hs : SpanOk M lines.length s) (hp : 0 < s.need - winF out s) :
    (partsF lines out s).length = s.many.toNat ∧ Bd (s.need - winF out s) (partsF lines out s) ∧ (partsF lines out s).sum = s.need - winF out s := by
  have hw := wts_ok hl hs
  obtain ⟨h1, h2, h3, h4, h5⟩ := hs
  refine ⟨?_, spread_bd (by omega) hw.pos hw.2.1, spread_sum (by omega) hw.pos hw.2.1⟩
  unfold partsF
  rw [spread_len]; unfold wts; rw [List.length_map, cut_len (by omega)]
theorem step_ok {M : Int} {lines : List Line} (hl : LinesOk lines) {out : List Int} (ho : OutOk M lines.length out) {s : Span} (hs : SpanOk M lines.length s) (many : Int) :
    OutOk M lines.length (spanStep lines many out s) := by
  unfold spanStep
  split
  · rename_i hc
    obtain ⟨p1, p2, _⟩ := parts_facts hl hs hc.2
    obtain ⟨h1, h2, h3, h4, h5⟩ := hs
    refine ⟨by rw [addAll_len]; exact ho.1, fun x hx => ?_⟩
    obtain ⟨k, hk, rfl⟩ := mem_getD hx
    have hk : k < out.length := by rwa [addAll_len] at hk
    have hb := ho.2.at hk
    have hol := ho.1
    unfold addAll
    rw [Itr_get _ (by omega)]
    rw [getD_at hk]
    split
    · rename_i hc2
      have hpk := p2.getD (by omega) (k - s.at_.toNat)
      have hin := cut_getD (l := out) (a := s.at_.toNat) (m := s.many.toNat) (by omega) (k := k) (by omega)
      have := le_sum (fun x hx => (ho.2.cut s.at_.toNat s.many.toNat x hx).1) _ hin
      rw [getD_at hk] at this
      unfold winF at hpk
      omega
    · exact hb
  · exact ho
theorem round_ok {M : Int} {lines : List Line} (hl : LinesOk lines) {spans : List Span} (hs : ∀ s ∈ spans, SpanOk M lines.length s) (many : Int) : ∀ {out : List Int}, OutOk M lines.length out → OutOk M lines.length (spans.foldl (spanStep lines many) out) := by
  induction spans with
  | nil => exact fun h => h
  | cons s spans ih => exact fun h => ih (fun x hx => hs x (by simp [hx])) (step_ok hl h (hs s (by simp)) many)
theorem min_ok {M : Int} {lines : List Line} (hl : LinesOk lines) (hM : 30 ≤ M) : OutOk M lines.length (lines.map fun l => l.min) := by
  refine ⟨by simp, fun x hx => ?_⟩
  obtain ⟨l, hm, rfl⟩ := List.mem_map.1 hx
  have := (hl.1 l hm).2
  omega
theorem wishAt_ok {M : Int} {lines : List Line} (hl : LinesOk lines) (hM : 30 ≤ M) {spans : List Span} (hs : ∀ s ∈ spans, SpanOk M lines.length s) (j : Nat) : OutOk M lines.length (wishAt lines spans j) := by
  induction j with
  | zero => exact min_ok hl hM
  | succ j ih => exact round_ok hl hs _ ih
theorem wish_ok {M : Int} {lines : List Line} (hl : LinesOk lines) (hM : 30 ≤ M) {spans : List Span} (hs : ∀ s ∈ spans, SpanOk M lines.length s) : OutOk M lines.length (wishF lines spans) := wishAt_ok hl hM hs _
end Go.Proofs.Ytdgamfanffnhaaa.PI
namespace Go.Proofs.Ytdgamfanffnhaaa.PI
open Go
theorem uni_int (l : List Int) : uni 1 (l.map encInt) = true := uni_map (f := encInt) (fun _ => rfl) l
theorem i_weightsOf.c (lines : List Line) (h : lines.length ≤ 1000) : PC i_weightsOf [.one (.rsl (lines.map encLine))] (.one (.sl ((wts lines).map encInt)), []) := by
  refine lift ?_
  have := loop_exit (step := i_weightsOf.r0 CC lpW) (S := fun j => i_weightsOf.s0 ((wts (lines.take j)).map encInt).length (lines.map encLine) ((lines.map encLine).length : Nat) (j : Nat) ((wts (lines.take j)).map encInt)) lines.length (fun j hj => by
    have := i_weightsOf.l0_1 (call := CC) (lp := lpW) ((wts (lines.take j)).map encInt).length (lines.map encLine) ((lines.map encLine).length : Nat) (j : Nat) ((wts (lines.take j)).map encInt) lines[j] (by simpa using hj) (by simp) (by simp) (uni_int _) (by simp [wts]; omega) (at_map hj)
    have e : (wts (lines.take j)).map encInt ++ [[C.int .i64 lines[j].weight]] = (wts (lines.take (j + 1))).map encInt := by
      unfold wts; rw [List.take_add_one, List.getElem?_eq_getElem hj, List.map_append, List.map_append]; rfl
    rw [this, w64_succ (by omega), e]) (i_weightsOf.l0_2 _ _ _ _ _ (by simp))
  rw [List.take_length] at this
  exact i_weightsOf.w1 lines ((wts lines).map encInt).length _ (by simp) (by simpa [wts] using this)
theorem s_weightsOf.c (lines : List Line) (h : lines.length ≤ 1000) : PC s_weightsOf [.one (.rsl (lines.map encLine))] (.one (.sl ((wts lines).map encInt)), []) := by
  refine lift ?_
  have := loop_exit (step := s_weightsOf.r0 CC lpW) (S := fun j => s_weightsOf.s0 (lines.map encLine) ((wts (lines.take j)).map encInt).length (j : Nat) ((wts (lines.take j)).map encInt)) lines.length (fun j hj => by
    have := s_weightsOf.l0_1 (call := CC) (lp := lpW) (lines.map encLine) ((wts (lines.take j)).map encInt).length (j : Nat) ((wts (lines.take j)).map encInt) lines[j] (by simpa using hj) (by simp) (by simp) (uni_int _) (by simp [wts]; omega) (at_map hj)
    have e : (wts (lines.take j)).map encInt ++ [[C.int .i64 lines[j].weight]] = (wts (lines.take (j + 1))).map encInt := by
      unfold wts; rw [List.take_add_one, List.getElem?_eq_getElem hj, List.map_append, List.map_append]; rfl
    rw [this, w64_succ (by omega), e]) (s_weightsOf.l0_2 _ _ _ _ (by simp))
  rw [List.take_length] at this
  exact s_weightsOf.w1 lines ((wts lines).map encInt).length _ (by simp) (by simpa [wts] using this)
def Big (M : Int) : Prop := 30 ≤ M ∧ M ≤ 100000000000000000
theorem cutw {s : Span} {M : Int} {n : Nat} (hs : SpanOk M n s) (hn : n ≤ 5) : (w64 (s.at_ + s.many)).toNat = s.at_.toNat + s.many.toNat := by
  obtain ⟨h1, h2, h3, h4, h5⟩ := hs
  rw [w64_id (by omega) (by omega)]; omega
theorem win_w {M : Int} {n : Nat} {out : List Int} (hB : Big M) (h : OutOk M n out) (hn : n ≤ 5) (s : Span) : sumW (cut s.at_.toNat s.many.toNat out) = winF out s := by
  have hl : (cut s.at_.toNat s.many.toNat out).length ≤ 5 := by
    have := h.1; unfold cut; rw [List.length_take, List.length_drop]; omega
  refine sumW_eq (h.2.cut _ _) ?_
  obtain ⟨h1, h2⟩ := hB
  have : ((cut s.at_.toNat s.many.toNat out).length : Int) * M ≤ 5 * M := Int.mul_le_mul_of_nonneg_right (by omega) (by omega)
  omega
theorem sz_need {M : Int} {n : Nat} {out : List Int} (hB : Big M) (h : OutOk M n out) (hn : n ≤ 5) {s : Span} (hs : SpanOk M n s) : w64 (s.need - winF out s) = s.need - winF out s := by
  have := win_bd h hn (by have := hB.1; omega) (s := s)
  obtain ⟨h1, h2⟩ := hB
  obtain ⟨_, _, _, h4, h5⟩ := hs
  exact w64_id (by omega) (by omega)
theorem add_at {M : Int} {lines : List Line} (hl : LinesOk lines) (hB : Big M) {out : List Int} (ho : OutOk M lines.length out) {s : Span} (hs : SpanOk M lines.length s) (hp : 0 < s.need - winF out s) {j : Nat} (hj : j < (partsF lines out s).length) :
    ∃ (h1 : j < (partsF lines out s).length) (h2 : s.at_.toNat + j < (Itr (addAt s.at_.toNat (partsF lines out s)) out j).length),
      w64 (s.at_ + j) = ((s.at_.toNat + j : Nat) : Int) ∧ w64 ((Itr (addAt s.at_.toNat (partsF lines out s)) out j)[s.at_.toNat + j] + (partsF lines out s)[j]) = (Itr (addAt s.at_.toNat (partsF lines out s)) out j)[s.at_.toNat + j] + (partsF lines out s)[j] ∧
      Itr (addAt s.at_.toNat (partsF lines out s)) out (j + 1) = (Itr (addAt s.at_.toNat (partsF lines out s)) out j).set (s.at_.toNat + j) ((Itr (addAt s.at_.toNat (partsF lines out s)) out j)[s.at_.toNat + j] + (partsF lines out s)[j]) := by
  obtain ⟨p1, p2, _⟩ := parts_facts hl hs hp
  obtain ⟨h1, h2, h3, h4, h5⟩ := hs
  have hl5 := hl.2.2
  have hol := ho.1
  have hlen : (Itr (addAt s.at_.toNat (partsF lines out s)) out j).length = out.length := Itr_len j
  refine ⟨hj, by omega, ?_, ?_, ?_⟩
  · rw [w64_id (by omega) (by omega)]; omega
  · have e : (Itr (addAt s.at_.toNat (partsF lines out s)) out j)[s.at_.toNat + j]'(by omega) = out[s.at_.toNat + j]'(by omega) := by
      rw [← getD_at, Itr_get _ (by omega), if_neg (by omega), getD_at]
    rw [e]
    have hx := ho.2.at (j := s.at_.toNat + j) (by omega)
    have hy := p2.at hj
    have hw := win_bd ho hl5 (by have := hB.1; omega) (s := s)
    obtain ⟨b1, b2⟩ := hB
    exact w64_id (by omega) (by omega)
  · show addAt _ _ j _ = _
    rw [addAt_eq, getD_at (by omega), getD_at hj]
theorem i_step {M : Int} {lines : List Line} (hl : LinesOk lines) (hB : Big M) (spans : List (List C)) {out : List Int} (ho : OutOk M lines.length out) {s : Span} (hs : SpanOk M lines.length s) (many : Nat) (x33 : List (List C)) (x34 : Int) (j : Nat) (hj : (j : Int) < x34) (hj2 : j ≤ 1000) (hx : x33[(j : Int).toNat]? = some (encSpan s)) :
    i_lineRequests.r2 CC lpW (i_lineRequests.s2 (lines.map encLine) spans lines.length many x33 x34 (j : Nat) (out.map encInt)) = some (.normal, i_lineRequests.s2 (lines.map encLine) spans lines.length many x33 x34 (j + 1 : Nat) ((spanStep lines many out s).map encInt)) := by
  have hl5 := hl.2.2
  have hol := ho.1
  unfold spanStep
  by_cases hm : s.many = many
  · have hc := cutw hs hl5
    have hs' := hs
    obtain ⟨h1, h2, h3, h4, h5⟩ := hs
    have hsub : s.at_.toNat + s.many.toNat - s.at_.toNat = s.many.toNat := by omega
    have k1 := i_sum.c (cut s.at_.toNat s.many.toNat out) (by unfold Sm; rw [cut_len (by omega)]; omega)
    unfold i_sum.m at k1
    rw [win_w hB ho hl5] at k1
    by_cases hp : 0 < s.need - winF out s
    · rw [if_pos ⟨hm, hp⟩]
      obtain ⟨p1, p2, _⟩ := parts_facts hl hs' hp
      have hwin := win_bd ho hl5 (by have := hB.1; omega) (s := s)
      have k2 := i_weightsOf.c (cut s.at_.toNat s.many.toNat lines) (by rw [cut_len (by omega)]; omega)
      have k3 := i_spread.c (s.need - winF out s) _ (wts_ok hl hs') ⟨by omega, by have := hB.2; omega⟩
      have l3 := loop_exit (step := i_lineRequests.r3 CC lpW) (S := fun k => i_lineRequests.s3 (lines.map encLine) spans lines.length many x33 x34 (j : Nat) (partsF lines out s).length ((partsF lines out s).length : Nat) (k : Nat) ((Itr (addAt s.at_.toNat (partsF lines out s)) out k).map encInt) s ((partsF lines out s).map encInt)) (partsF lines out s).length (fun k hk => by
        obtain ⟨q1, q2, q3, q4, q5⟩ := add_at hl hB ho hs' hp hk
        have := i_lineRequests.l3_1 (call := CC) (lp := lpW) (lines.map encLine) spans lines.length many x33 x34 (j : Nat) (partsF lines out s).length ((partsF lines out s).length : Nat) (k : Nat) ((Itr (addAt s.at_.toNat (partsF lines out s)) out k).map encInt) s ((partsF lines out s).map encInt) _ _ (by simpa using hk) (by simp) (by simp) (by simpa using hk) (by simp) (by simpa [Itr_len] using ho.1) (by rw [q3, decide_eq_true_eq]; omega) (by rw [q3, decide_eq_true_eq]; rw [Itr_len, ho.1] at q2; omega) (by simp) (at_int q1) (by rw [q3]; exact at_int q2)
        rw [this, w64_succ (by omega), q3, q4, Int.toNat_natCast, set_int, q5]) (i_lineRequests.l3_2 _ _ _ _ _ _ _ _ _ _ _ _ _ (by simp))
      have := i_lineRequests.l2_3 (call := CC) (lp := lpW) (lines.map encLine) spans lines.length many x33 x34 (j : Nat) (out.map encInt) s (winF out s) (wts (cut s.at_.toNat s.many.toNat lines)) (partsF lines out s) (lines.map encLine) spans lines.length many x33 x34 (j : Nat) ((addAll s.at_.toNat (partsF lines out s) out).map encInt) (by simpa using hj) (by simp) (by simpa using hm)
      rw [hc, hsub, cut_map, cut_map, sz_need hB ho hl5 hs'] at this
      rw [w64_succ (by omega)] at this
      exact this (by rw [w64_id (by omega) (by omega)]; simp; omega) (by simpa using h1) (by simp) (by simp; omega) (by simp [hol]) (uni_int _) (by simp; omega) (by simpa using hp) (by simp; omega) (uni_map (f := encLine) (fun _ => rfl) _) hx k1 k2 k3 (by simpa [addAll, Itr] using l3)
    · rw [if_neg (fun c => hp c.2)]
      have := i_lineRequests.l2_4 (call := CC) (lp := lpW) (lines.map encLine) spans lines.length many x33 x34 (j : Nat) (out.map encInt) s (winF out s) (by simpa using hj) (by simp) (by simpa using hm)
      rw [hc, hsub, cut_map, sz_need hB ho hl5 hs', w64_succ (by omega)] at this
      exact this (by rw [w64_id (by omega) (by omega)]; simp; omega) (by simpa using h1) (by simp) (by simp; omega) (by simp [hol]) (uni_int _) (by simp; omega) (by simpa using hp) hx k1
  · rw [if_neg (fun c => hm c.1)]
    have := i_lineRequests.l2_1 (call := CC) (lp := lpW) (lines.map encLine) spans lines.length many x33 x34 (j : Nat) (out.map encInt) s (by simpa using hj) (by simp) (by simpa [bne_iff_ne] using hm) hx
    rw [this, w64_succ (by omega)]
theorem foldl_succ {α β : Type} {l : List α} {f : β → α → β} {b : β} {j : Nat} (h : j < l.length) : (l.take (j + 1)).foldl f b = f ((l.take j).foldl f b) l[j] := by
  rw [List.take_add_one, List.getElem?_eq_getElem h, List.foldl_append]; rfl
theorem i_lineRequests.c {M : Int} (lines : List Line) (spans : List Span) (hl : LinesOk lines) (hB : Big M) (hs : ∀ s ∈ spans, SpanOk M lines.length s) (hn : spans.length ≤ 1000) :
    PC i_lineRequests [.one (.rsl (lines.map encLine)), .one (.rsl (spans.map encSpan))] (.one (.sl ((wishF lines spans).map encInt)), []) := by
  have hl5 := hl.2.2
  refine lift ?_
  have l0 := loop_exit (step := i_lineRequests.r0 CC lpW) (S := fun j => i_lineRequests.s0 (lines.map encLine) (spans.map encSpan) (((lines.take j).map fun l => l.min).map encInt).length (lines.map encLine) ((lines.map encLine).length : Nat) (j : Nat) (((lines.take j).map fun l => l.min).map encInt)) lines.length (fun j hj => by
    have := i_lineRequests.l0_1 (call := CC) (lp := lpW) (lines.map encLine) (spans.map encSpan) (((lines.take j).map fun l => l.min).map encInt).length (lines.map encLine) ((lines.map encLine).length : Nat) (j : Nat) (((lines.take j).map fun l => l.min).map encInt) lines[j] (by simpa using hj) (by simp) (by simp) (uni_int _) (by simp; omega) (at_map hj)
    have e : ((lines.take j).map fun l => l.min).map encInt ++ [[C.int .i64 lines[j].min]] = ((lines.take (j + 1)).map fun l => l.min).map encInt := by
      rw [List.take_add_one, List.getElem?_eq_getElem hj, List.map_append, List.map_append]; rfl
    rw [this, w64_succ (by omega), e]) (i_lineRequests.l0_2 _ _ _ _ _ _ _ (by simp))
  rw [List.take_length] at l0
  have l1 := loop_exit (step := i_lineRequests.r1 CC lpW) (S := fun j => i_lineRequests.s1 (lines.map encLine) (spans.map encSpan) lines.length (j + 1 : Nat) ((wishAt lines spans j).map encInt)) lines.length (fun j hj => by
    have ho := wishAt_ok hl hB.1 hs j
    have l2 := loop_exit (step := i_lineRequests.r2 CC lpW) (S := fun k => i_lineRequests.s2 (lines.map encLine) (spans.map encSpan) lines.length (j + 1 : Nat) (spans.map encSpan) ((spans.map encSpan).length : Nat) (k : Nat) (((spans.take k).foldl (spanStep lines (j + 1 : Nat)) (wishAt lines spans j)).map encInt)) spans.length (fun k hk => by
      rw [foldl_succ hk]
      exact i_step hl hB _ (round_ok hl (fun x hx => hs x (List.mem_of_mem_take hx)) _ ho) (hs _ (List.getElem_mem hk)) (j + 1) _ _ k (by simpa using hk) (by omega) (at_map hk)) (i_lineRequests.l2_2 _ _ _ _ _ _ _ _ (by simp))
    rw [List.take_length] at l2
    have := i_lineRequests.l1_1 (call := CC) (lp := lpW) (lines.map encLine) (spans.map encSpan) lines.length (j + 1 : Nat) ((wishAt lines spans j).map encInt) _ _ _ _ _ (by simp; omega) l2
    rw [this, w64_succ (by omega)]; rfl) (i_lineRequests.l1_2 _ _ _ _ _ (by simp; omega))
  have hw := wish_ok hl hB.1 hs
  refine i_lineRequests.w1 lines spans (lines.map encLine) (spans.map encSpan) lines.length _ lines.length _ (by simpa using hw.1) (by simpa using l0) ?_
  simpa [wishF, wishAt, Itr] using l1
theorem s_step {M : Int} {lines : List Line} (hl : LinesOk lines) (hB : Big M) (spans : List (List C)) {out : List Int} (ho : OutOk M lines.length out) {s : Span} (hs : SpanOk M lines.length s) (many : Nat) (j : Nat) (hj : j < spans.length) (hj2 : j ≤ 1000) (hx : spans[(j : Int).toNat]? = some (encSpan s)) :
    s_wished.r2 CC lpW (s_wished.s2 (lines.map encLine) spans lines.length many (j : Nat) (out.map encInt)) = some (.normal, s_wished.s2 (lines.map encLine) spans lines.length many (j + 1 : Nat) ((spanStep lines many out s).map encInt)) := by
  have hl5 := hl.2.2
  have hol := ho.1
  unfold spanStep
  by_cases hm : s.many = many
  · have hc := cutw hs hl5
    have hs' := hs
    obtain ⟨h1, h2, h3, h4, h5⟩ := hs
    have hsub : s.at_.toNat + s.many.toNat - s.at_.toNat = s.many.toNat := by omega
    have k1 := s_total.c (cut s.at_.toNat s.many.toNat out) (by unfold Sm; rw [cut_len (by omega)]; omega)
    unfold s_total.m at k1
    rw [win_w hB ho hl5] at k1
    by_cases hp : 0 < s.need - winF out s
    · rw [if_pos ⟨hm, hp⟩]
      obtain ⟨p1, p2, _⟩ := parts_facts hl hs' hp
      have hwin := win_bd ho hl5 (by have := hB.1; omega) (s := s)
      have k2 := s_weightsOf.c (cut s.at_.toNat s.many.toNat lines) (by rw [cut_len (by omega)]; omega)
      have k3 := s_spread.c (s.need - winF out s) _ (wts_ok hl hs') ⟨by omega, by have := hB.2; omega⟩
      have l3 := loop_exit (step := s_wished.r3 CC lpW) (S := fun k => s_wished.s3 (lines.map encLine) spans lines.length many (j : Nat) (partsF lines out s).length (k : Nat) s ((Itr (addAt s.at_.toNat (partsF lines out s)) out k).map encInt) ((partsF lines out s).map encInt)) (partsF lines out s).length (fun k hk => by
        obtain ⟨q1, q2, q3, q4, q5⟩ := add_at hl hB ho hs' hp hk
        have := s_wished.l3_1 (call := CC) (lp := lpW) (lines.map encLine) spans lines.length many (j : Nat) (partsF lines out s).length (k : Nat) s ((Itr (addAt s.at_.toNat (partsF lines out s)) out k).map encInt) ((partsF lines out s).map encInt) _ _ (by simpa using hk) (by simpa [Itr_len] using ho.1) (by rw [q3, decide_eq_true_eq]; omega) (by rw [q3, decide_eq_true_eq]; rw [Itr_len, ho.1] at q2; omega) (by simp) (by simp) (by simp) (by simp) (by rw [q3]; exact at_int q2) (at_int q1)
        rw [this, w64_succ (by omega), q3, q4, Int.toNat_natCast, set_int, q5]) (s_wished.l3_2 _ _ _ _ _ _ _ _ _ _ (by simp))
      have := s_wished.l2_4 (call := CC) (lp := lpW) (lines.map encLine) spans lines.length many (j : Nat) (out.map encInt) s (winF out s) (wts (cut s.at_.toNat s.many.toNat lines)) (partsF lines out s) (lines.map encLine) spans lines.length many (j : Nat) ((addAll s.at_.toNat (partsF lines out s) out).map encInt) (by simpa using hj) (by simp) (by simpa using hm)
      rw [hc, hsub, cut_map, cut_map, sz_need hB ho hl5 hs'] at this
      rw [w64_succ (by omega)] at this
      exact this (by rw [w64_id (by omega) (by omega)]; simp; omega) (by simpa using h1) (by simp) (by simp; omega) (by simp [hol]) (uni_int _) (by simp; omega) (by simp; omega) (by simp; omega) (uni_map (f := encLine) (fun _ => rfl) _) hx k1 k2 k3 (by simpa [addAll, Itr] using l3)
    · rw [if_neg (fun c => hp c.2)]
      have := s_wished.l2_3 (call := CC) (lp := lpW) (lines.map encLine) spans lines.length many (j : Nat) (out.map encInt) s (winF out s) (by simpa using hj) (by simp) (by simpa using hm)
      rw [hc, hsub, cut_map, sz_need hB ho hl5 hs', w64_succ (by omega)] at this
      exact this (by rw [w64_id (by omega) (by omega)]; simp; omega) (by simpa using h1) (by simp) (by simp; omega) (by simp [hol]) (uni_int _) (by simp; omega) (by simp; omega) hx k1
  · rw [if_neg (fun c => hm c.1)]
    have := s_wished.l2_1 (call := CC) (lp := lpW) (lines.map encLine) spans lines.length many (j : Nat) (out.map encInt) s (by simpa using hj) (by simp) (by simpa [bne_iff_ne] using hm) hx
    rw [this, w64_succ (by omega)]
theorem s_wished.c {M : Int} (lines : List Line) (spans : List Span) (hl : LinesOk lines) (hB : Big M) (hs : ∀ s ∈ spans, SpanOk M lines.length s) (hn : spans.length ≤ 1000) :
    PC s_wished [.one (.rsl (lines.map encLine)), .one (.rsl (spans.map encSpan))] (.one (.sl ((wishF lines spans).map encInt)), []) := by
  have hl5 := hl.2.2
  refine lift ?_
  have l0 := loop_exit (step := s_wished.r0 CC lpW) (S := fun j => s_wished.s0 (lines.map encLine) (spans.map encSpan) (((lines.take j).map fun l => l.min).map encInt).length (j : Nat) (((lines.take j).map fun l => l.min).map encInt)) lines.length (fun j hj => by
    have := s_wished.l0_1 (call := CC) (lp := lpW) (lines.map encLine) (spans.map encSpan) (((lines.take j).map fun l => l.min).map encInt).length (j : Nat) (((lines.take j).map fun l => l.min).map encInt) lines[j] (by simpa using hj) (by simp) (by simp) (uni_int _) (by simp; omega) (at_map hj)
    have e : ((lines.take j).map fun l => l.min).map encInt ++ [[C.int .i64 lines[j].min]] = ((lines.take (j + 1)).map fun l => l.min).map encInt := by
      rw [List.take_add_one, List.getElem?_eq_getElem hj, List.map_append, List.map_append]; rfl
    rw [this, w64_succ (by omega), e]) (s_wished.l0_2 _ _ _ _ _ (by simp))
  rw [List.take_length] at l0
  have l1 := loop_exit (step := s_wished.r1 CC lpW) (S := fun j => s_wished.s1 (lines.map encLine) (spans.map encSpan) lines.length (j + 1 : Nat) ((wishAt lines spans j).map encInt)) lines.length (fun j hj => by
    have ho := wishAt_ok hl hB.1 hs j
    have l2 := loop_exit (step := s_wished.r2 CC lpW) (S := fun k => s_wished.s2 (lines.map encLine) (spans.map encSpan) lines.length (j + 1 : Nat) (k : Nat) (((spans.take k).foldl (spanStep lines (j + 1 : Nat)) (wishAt lines spans j)).map encInt)) spans.length (fun k hk => by
      rw [foldl_succ hk]
      exact s_step hl hB _ (round_ok hl (fun x hx => hs x (List.mem_of_mem_take hx)) _ ho) (hs _ (List.getElem_mem hk)) (j + 1) k (by simpa using hk) (by omega) (at_map hk)) (s_wished.l2_2 _ _ _ _ _ _ (by simp))
    rw [List.take_length] at l2
    have := s_wished.l1_1 (call := CC) (lp := lpW) (lines.map encLine) (spans.map encSpan) lines.length (j + 1 : Nat) ((wishAt lines spans j).map encInt) _ _ _ _ _ (by simp; omega) l2
    rw [this, w64_succ (by omega)]; rfl) (s_wished.l1_2 _ _ _ _ _ (by simp; omega))
  have hw := wish_ok hl hB.1 hs
  refine s_wished.w1 lines spans (lines.map encLine) (spans.map encSpan) lines.length _ lines.length _ (by simpa using hw.1) (by simpa using l0) ?_
  simpa [wishF, wishAt, Itr] using l1
end Go.Proofs.Ytdgamfanffnhaaa.PI
namespace Go.Proofs.Ytdgamfanffnhaaa.PI
open Go
def spanC (c : Cell) : Span := ⟨c.col, c.manyCols, c.w + 2 * c.padX⟩
def spanR (c : Cell) : Span := ⟨c.row, c.manyRows, c.h + 2 * c.padY⟩
structure CellOk (M : Int) (nc nr : Nat) (c : Cell) : Prop where
  w : 0 ≤ c.w ∧ c.w ≤ M
  h : 0 ≤ c.h ∧ c.h ≤ M
  px : 0 ≤ c.padX ∧ c.padX ≤ 10
  py : 0 ≤ c.padY ∧ c.padY ≤ 10
  col : 0 ≤ c.col ∧ 1 ≤ c.manyCols ∧ c.col + c.manyCols ≤ nc
  row : 0 ≤ c.row ∧ 1 ≤ c.manyRows ∧ c.row + c.manyRows ≤ nr
  stick : 0 ≤ c.stick ∧ c.stick ≤ 15
def Mid (M : Int) : Prop := 30 ≤ M ∧ M ≤ 10000000000000000
theorem Mid.big {M : Int} (h : Mid M) : Big (M + 20) := ⟨by have := h.1; omega, by have := h.2; omega⟩
theorem cell_spanC {M : Int} {nc nr : Nat} {c : Cell} (h : CellOk M nc nr c) : SpanOk (M + 20) nc (spanC c) := by
  obtain ⟨h1, h2, h3, h4, h5, h6, h7⟩ := h
  unfold SpanOk spanC; simp only; omega
theorem cell_spanR {M : Int} {nc nr : Nat} {c : Cell} (h : CellOk M nc nr c) : SpanOk (M + 20) nr (spanR c) := by
  obtain ⟨h1, h2, h3, h4, h5, h6, h7⟩ := h
  unfold SpanOk spanR; simp only; omega
theorem enc_spanC {M : Int} {nc nr : Nat} {c : Cell} (hM : Mid M) (h : CellOk M nc nr c) : [C.int .i64 c.col, C.int .i64 c.manyCols, C.int .i64 (w64 (c.w + w64 (2 * c.padX)))] = encSpan (spanC c) := by
  obtain ⟨h1, h2, h3, h4, h5, h6, h7⟩ := h
  obtain ⟨m1, m2⟩ := hM
  rw [w64_id (n := 2 * c.padX) (by omega) (by omega), w64_id (by omega) (by omega)]; rfl
theorem enc_spanR {M : Int} {nc nr : Nat} {c : Cell} (hM : Mid M) (h : CellOk M nc nr c) : [C.int .i64 c.row, C.int .i64 c.manyRows, C.int .i64 (w64 (c.h + w64 (2 * c.padY)))] = encSpan (spanR c) := by
  obtain ⟨h1, h2, h3, h4, h5, h6, h7⟩ := h
  obtain ⟨m1, m2⟩ := hM
  rw [w64_id (n := 2 * c.padY) (by omega) (by omega), w64_id (by omega) (by omega)]; rfl
theorem uni_span {α : Type} (f : α → Span) (l : List α) : uni 3 ((l.map f).map encSpan) = true := uni_map (f := encSpan) (fun _ => rfl) _
theorem map_succ2 {α β γ : Type} {l : List α} {g : α → β} {f : β → γ} {j : Nat} (h : j < l.length) : ((l.take j).map g).map f ++ [f (g l[j])] = ((l.take (j + 1)).map g).map f := by
  rw [List.take_add_one, List.getElem?_eq_getElem h, List.map_append, List.map_append]; rfl
theorem i_Grid_spans.c {M : Int} {nc nr : Nat} (cols rows : List Line) (cells : List Cell) (hM : Mid M) (hc : ∀ c ∈ cells, CellOk M nc nr c) (hn : cells.length ≤ 1000) :
    PC i_Grid_spans [.agg [.rsl (cols.map encLine), .rsl (rows.map encLine), .rsl (cells.map encCell)]] (.tup [.one (.sl ((cells.map spanC).map encSpan)), .one (.sl ((cells.map spanR).map encSpan))], []) := by
  refine lift ?_
  have := loop_exit (step := i_Grid_spans.r0 CC lpW) (S := fun j => i_Grid_spans.s0 (((cells.take j).map spanC).map encSpan).length (((cells.take j).map spanR).map encSpan).length (cells.map encCell) ((cells.map encCell).length : Nat) (j : Nat) (cols.map encLine) (rows.map encLine) (cells.map encCell) (((cells.take j).map spanC).map encSpan) (((cells.take j).map spanR).map encSpan)) cells.length (fun j hj => by
    have hk := hc _ (List.getElem_mem hj)
    have := i_Grid_spans.l0_1 (call := CC) (lp := lpW) (((cells.take j).map spanC).map encSpan).length (((cells.take j).map spanR).map encSpan).length (cells.map encCell) ((cells.map encCell).length : Nat) (j : Nat) (cols.map encLine) (rows.map encLine) (cells.map encCell) (((cells.take j).map spanC).map encSpan) (((cells.take j).map spanR).map encSpan) cells[j] (by simpa using hj) (by simp) (by simp) (uni_span _ _) (by simp; omega) (by simp) (uni_span _ _) (by simp; omega) (at_map hj)
    rw [this, w64_succ (by omega), enc_spanC hM hk, enc_spanR hM hk, map_succ2 (g := spanC) (f := encSpan) hj, map_succ2 (g := spanR) (f := encSpan) hj]) (i_Grid_spans.l0_2 _ _ _ _ _ _ _ _ _ _ (by simp))
  rw [List.take_length] at this
  exact i_Grid_spans.w1 cols rows cells ((cells.map spanC).map encSpan).length ((cells.map spanR).map encSpan).length _ _ (by simp) (by simp) (by simpa using this)
theorem s_colSpans.c {M : Int} {nc nr : Nat} (cols rows : List Line) (cells : List Cell) (hM : Mid M) (hc : ∀ c ∈ cells, CellOk M nc nr c) (hn : cells.length ≤ 1000) :
    PC s_colSpans [.agg [.rsl (cols.map encLine), .rsl (rows.map encLine), .rsl (cells.map encCell)]] (.one (.sl ((cells.map spanC).map encSpan)), []) := by
  refine lift ?_
  have := loop_exit (step := s_colSpans.r0 CC lpW) (S := fun j => s_colSpans.s0 (((cells.take j).map spanC).map encSpan).length (j : Nat) (cols.map encLine) (rows.map encLine) (cells.map encCell) (((cells.take j).map spanC).map encSpan)) cells.length (fun j hj => by
    have hk := hc _ (List.getElem_mem hj)
    have := s_colSpans.l0_1 (call := CC) (lp := lpW) (((cells.take j).map spanC).map encSpan).length (j : Nat) (cols.map encLine) (rows.map encLine) (cells.map encCell) (((cells.take j).map spanC).map encSpan) cells[j] (by simpa using hj) (by simp) (by simp) (uni_span _ _) (by simp; omega) (at_map hj)
    rw [this, w64_succ (by omega), enc_spanC hM hk, map_succ2 (g := spanC) (f := encSpan) hj]) (s_colSpans.l0_2 _ _ _ _ _ _ (by simp))
  rw [List.take_length] at this
  exact s_colSpans.w1 cols rows cells ((cells.map spanC).map encSpan).length _ (by simp) (by simpa using this)
theorem s_rowSpans.c {M : Int} {nc nr : Nat} (cols rows : List Line) (cells : List Cell) (hM : Mid M) (hc : ∀ c ∈ cells, CellOk M nc nr c) (hn : cells.length ≤ 1000) :
    PC s_rowSpans [.agg [.rsl (cols.map encLine), .rsl (rows.map encLine), .rsl (cells.map encCell)]] (.one (.sl ((cells.map spanR).map encSpan)), []) := by
  refine lift ?_
  have := loop_exit (step := s_rowSpans.r0 CC lpW) (S := fun j => s_rowSpans.s0 (((cells.take j).map spanR).map encSpan).length (j : Nat) (cols.map encLine) (rows.map encLine) (cells.map encCell) (((cells.take j).map spanR).map encSpan)) cells.length (fun j hj => by
    have hk := hc _ (List.getElem_mem hj)
    have := s_rowSpans.l0_1 (call := CC) (lp := lpW) (((cells.take j).map spanR).map encSpan).length (j : Nat) (cols.map encLine) (rows.map encLine) (cells.map encCell) (((cells.take j).map spanR).map encSpan) cells[j] (by simpa using hj) (by simp) (by simp) (uni_span _ _) (by simp; omega) (at_map hj)
    rw [this, w64_succ (by omega), enc_spanR hM hk, map_succ2 (g := spanR) (f := encSpan) hj]) (s_rowSpans.l0_2 _ _ _ _ _ _ (by simp))
  rw [List.take_length] at this
  exact s_rowSpans.w1 cols rows cells ((cells.map spanR).map encSpan).length _ (by simp) (by simpa using this)
def gridReqF (cols rows : List Line) (cells : List Cell) : Int × Int := ((wishF cols (cells.map spanC)).sum, (wishF rows (cells.map spanR)).sum)
theorem spansC_ok {M : Int} {nc nr : Nat} {cells : List Cell} (hc : ∀ c ∈ cells, CellOk M nc nr c) : ∀ s ∈ cells.map spanC, SpanOk (M + 20) nc s := by
  intro s hs; obtain ⟨c, h, rfl⟩ := List.mem_map.1 hs; exact cell_spanC (hc c h)
theorem spansR_ok {M : Int} {nc nr : Nat} {cells : List Cell} (hc : ∀ c ∈ cells, CellOk M nc nr c) : ∀ s ∈ cells.map spanR, SpanOk (M + 20) nr s := by
  intro s hs; obtain ⟨c, h, rfl⟩ := List.mem_map.1 hs; exact cell_spanR (hc c h)
theorem out_sum {M : Int} {n : Nat} {out : List Int} (h : OutOk M n out) (hn : n ≤ 5) (hM : 0 ≤ M) : 0 ≤ out.sum ∧ out.sum ≤ 5 * M := by
  have := sum_bd h.2
  exact ⟨this.1, Int.le_trans this.2 (Int.mul_le_mul_of_nonneg_right (by have := h.1; omega) hM)⟩
theorem out_sumW {M : Int} {n : Nat} {out : List Int} (hB : Big M) (h : OutOk M n out) (hn : n ≤ 5) : sumW out = out.sum := by
  refine sumW_eq h.2 ?_
  obtain ⟨h1, h2⟩ := hB
  have : (out.length : Int) * M ≤ 5 * M := Int.mul_le_mul_of_nonneg_right (by have := h.1; omega) (by omega)
  omega
theorem gridReq_bd {M : Int} {cols rows : List Line} {cells : List Cell} (hM : Mid M) (h1 : LinesOk cols) (h2 : LinesOk rows) (hc : ∀ c ∈ cells, CellOk M cols.length rows.length c) :
    (0 ≤ (gridReqF cols rows cells).1 ∧ (gridReqF cols rows cells).1 ≤ 5 * (M + 20)) ∧ 0 ≤ (gridReqF cols rows cells).2 ∧ (gridReqF cols rows cells).2 ≤ 5 * (M + 20) := by
  have hb := hM.big
  exact ⟨out_sum (wish_ok h1 hb.1 (spansC_ok hc)) h1.2.2 (by have := hb.1; omega), out_sum (wish_ok h2 hb.1 (spansR_ok hc)) h2.2.2 (by have := hb.1; omega)⟩
theorem i_Grid_request.c {M : Int} (cols rows : List Line) (cells : List Cell) (hM : Mid M) (h1 : LinesOk cols) (h2 : LinesOk rows) (hc : ∀ c ∈ cells, CellOk M cols.length rows.length c) (hn : cells.length ≤ 1000) :
    PC i_Grid_request [.agg [.rsl (cols.map encLine), .rsl (rows.map encLine), .rsl (cells.map encCell)]] (.tup [vI (gridReqF cols rows cells).1, vI (gridReqF cols rows cells).2], []) := by
  refine lift ?_
  have hb := hM.big
  have o1 := wish_ok h1 hb.1 (spansC_ok hc)
  have o2 := wish_ok h2 hb.1 (spansR_ok hc)
  have l1 := o1.1
  have l2 := o2.1
  have n1 := h1.2.2
  have n2 := h2.2.2
  have k3 := i_sum.c (wishF cols (cells.map spanC)) (by unfold Sm; omega)
  have k5 := i_sum.c (wishF rows (cells.map spanR)) (by unfold Sm; omega)
  unfold i_sum.m at k3 k5
  rw [out_sumW hb o1 n1] at k3
  rw [out_sumW hb o2 n2] at k5
  exact i_Grid_request.w1 cols rows cells _ _ _ _ _ _ (i_Grid_spans.c cols rows cells hM hc hn) (i_lineRequests.c cols _ h1 hb (spansC_ok hc) (by simpa using hn)) k3 (i_lineRequests.c rows _ h2 hb (spansR_ok hc) (by simpa using hn)) k5
theorem s_gridRequest.c {M : Int} (cols rows : List Line) (cells : List Cell) (hM : Mid M) (h1 : LinesOk cols) (h2 : LinesOk rows) (hc : ∀ c ∈ cells, CellOk M cols.length rows.length c) (hn : cells.length ≤ 1000) :
    PC s_gridRequest [.agg [.rsl (cols.map encLine), .rsl (rows.map encLine), .rsl (cells.map encCell)]] (.tup [vI (gridReqF cols rows cells).1, vI (gridReqF cols rows cells).2], []) := by
  refine lift ?_
  have hb := hM.big
  have o1 := wish_ok h1 hb.1 (spansC_ok hc)
  have o2 := wish_ok h2 hb.1 (spansR_ok hc)
  have l1 := o1.1
  have l2 := o2.1
  have n1 := h1.2.2
  have n2 := h2.2.2
  have k3 := s_total.c (wishF cols (cells.map spanC)) (by unfold Sm; omega)
  have k5 := s_total.c (wishF rows (cells.map spanR)) (by unfold Sm; omega)
  unfold s_total.m at k3 k5
  rw [out_sumW hb o1 n1] at k3
  rw [out_sumW hb o2 n2] at k5
  exact s_gridRequest.w1 cols rows cells _ _ _ _ _ _ (s_colSpans.c cols rows cells hM hc hn) (s_wished.c cols _ h1 hb (spansC_ok hc) (by simpa using hn)) k3 (s_rowSpans.c cols rows cells hM hc hn) (s_wished.c rows _ h2 hb (spansR_ok hc) (by simpa using hn)) k5
structure PackOk (M : Int) (p : Pack) : Prop where
  w : 0 ≤ p.w ∧ p.w ≤ M
  h : 0 ≤ p.h ∧ p.h ≤ M
  side : 0 ≤ p.side ∧ p.side ≤ 3
  anchor : 0 ≤ p.anchor ∧ p.anchor ≤ 8
  px : 0 ≤ p.padX ∧ p.padX ≤ 10
  py : 0 ≤ p.padY ∧ p.padY ≤ 10
def down (p : Pack) : Bool := p.side == 0 || p.side == 1
def needW (p : Pack) : Int := p.w + 2 * p.padX
def needH (p : Pack) : Int := p.h + 2 * p.padY
def packStep (p : Pack) (s : Int × Int) : Int × Int := if down p = true then (max (needW p) s.1, needH p + s.2) else (needW p + s.1, max (needH p) s.2)
def packReqF (list : List Pack) : Int × Int := list.foldr packStep (0, 0)
theorem mx2_eq (a b : Int) : mx2 a b = max a b := by unfold mx2; split <;> omega
theorem down_i (p : Pack) : i_Pack_down.m p = down p := by unfold i_Pack_down.m down; cases p.side == 0 <;> rfl
theorem down_s (p : Pack) : s_upright.m p.side = down p := by unfold s_upright.m down; cases p.side == 0 <;> rfl
theorem need_i {M : Int} (hM : Mid M) {p : Pack} (h : PackOk M p) : i_Pack_needs.m p = (needW p, needH p) := by
  obtain ⟨h1, h2, h3, h4, h5, h6⟩ := h
  obtain ⟨m1, m2⟩ := hM
  unfold i_Pack_needs.m needW needH
  rw [w64_id (n := 2 * p.padX) (by omega) (by omega), w64_id (n := 2 * p.padY) (by omega) (by omega), w64_id (n := p.w + 2 * p.padX) (by omega) (by omega), w64_id (n := p.h + 2 * p.padY) (by omega) (by omega)]
theorem need_s {M : Int} (hM : Mid M) {p : Pack} (h : PackOk M p) : s_outer.m p = (needW p, needH p) := need_i hM h
theorem packReq_bd {M : Int} (hM : Mid M) : ∀ {list : List Pack}, (∀ p ∈ list, PackOk M p) → (0 ≤ (packReqF list).1 ∧ (packReqF list).1 ≤ list.length * (M + 20)) ∧ 0 ≤ (packReqF list).2 ∧ (packReqF list).2 ≤ list.length * (M + 20)
  | [], _ => by simp [packReqF]
  | p :: list, h => by
    have ih := packReq_bd hM (list := list) fun x hx => h x (by simp [hx])
    obtain ⟨h1, h2, h3, h4, h5, h6⟩ := h p (by simp)
    have hm := hM.1
    show (0 ≤ (packStep p (packReqF list)).1 ∧ (packStep p (packReqF list)).1 ≤ _) ∧ 0 ≤ (packStep p (packReqF list)).2 ∧ (packStep p (packReqF list)).2 ≤ _
    rw [List.length_cons, Int.natCast_add, Int.add_mul]
    have hp : 0 ≤ (list.length : Int) * (M + 20) := Int.mul_nonneg (by omega) (by omega)
    unfold packStep needW needH
    split <;> simp only <;> omega
theorem packs_small {M : Int} (hM : Mid M) {n : Nat} (hn : n ≤ 100) : (n : Int) * (M + 20) ≤ 1000000000000000000 + 2000 := by
  have : (n : Int) * (M + 20) ≤ 100 * (M + 20) := Int.mul_le_mul_of_nonneg_right (by omega) (by have := hM.1; omega)
  have := hM.2
  omega
theorem i_packRequest.c {M : Int} (hM : Mid M) : ∀ (list : List Pack), (∀ p ∈ list, PackOk M p) → list.length ≤ 100 → PC i_packRequest [.one (.rsl (list.map encPack))] (.tup [vI (packReqF list).1, vI (packReqF list).2], [])
  | [], _, _ => lift (i_packRequest.w1 [] rfl)
  | p :: list, h, hn => by
    have hl : ∀ x ∈ list, PackOk M x := fun x hx => h x (by simp [hx])
    rw [List.length_cons] at hn
    have ih := i_packRequest.c hM list hl (by omega)
    have hb := packReq_bd hM hl
    have hs := packs_small hM (n := list.length) (by omega)
    have hp := h p (by simp)
    have k1 := i_Pack_needs.c p
    rw [need_i hM hp] at k1
    have k3 := i_Pack_down.c p
    rw [down_i] at k3
    obtain ⟨h1, h2, h3, h4, h5, h6⟩ := hp
    obtain ⟨m1, m2⟩ := hM
    refine lift ?_
    have hc : cut 1 (((p :: list).map encPack).length - 1) ((p :: list).map encPack) = list.map encPack := by
      unfold cut; rw [List.map_cons, List.drop_succ_cons, List.drop_zero, List.length_cons, Nat.add_sub_cancel, List.take_length]
    show _ = some (V.tup [vI (packStep p (packReqF list)).1, vI (packStep p (packReqF list)).2], [])
    unfold packStep
    cases hd : down p with
    | true =>
      rw [hd] at k3
      rw [if_pos rfl]
      have := i_packRequest.w2 (call := CC) (lp := lpW) (p :: list) p (needW p) (needH p) (packReqF list).1 (packReqF list).2 (by simp; omega) (by simp) (by simp) (uni_map (f := encPack) (fun _ => rfl) _) rfl k1 (by rw [hc]; exact ih) k3
      rw [this, mx2_eq, w64_id (by unfold needH; omega) (by unfold needH; omega)]
    | false =>
      rw [hd] at k3
      rw [if_neg (by decide)]
      have := i_packRequest.w3 (call := CC) (lp := lpW) (p :: list) p (needW p) (needH p) (packReqF list).1 (packReqF list).2 (by simp; omega) (by simp) (by simp) (uni_map (f := encPack) (fun _ => rfl) _) rfl k1 (by rw [hc]; exact ih) k3
      rw [this, mx2_eq, w64_id (by unfold needW; omega) (by unfold needW; omega)]
theorem drop_cons {α : Type} {l : List α} {j : Nat} (h : j < l.length) : l.drop j = l[j] :: l.drop (j + 1) := List.drop_eq_getElem_cons h
theorem s_request.c {M : Int} (hM : Mid M) (list : List Pack) (h : ∀ p ∈ list, PackOk M p) (hn : list.length ≤ 100) : PC s_request [.one (.rsl (list.map encPack))] (.tup [vI (packReqF list).1, vI (packReqF list).2], []) := by
  refine lift ?_
  have := loop_exit (step := s_request.r0 CC lpW) (S := fun j => s_request.s0 (list.map encPack) (packReqF (list.drop (list.length - j))).1 (packReqF (list.drop (list.length - j))).2 ((list.length : Int) - 1 - (j : Nat))) list.length (fun j hj => by
    have hi : list.length - (j + 1) < list.length := by omega
    have hp := h _ (List.getElem_mem hi)
    have hb := packReq_bd hM (list := list.drop (list.length - j)) fun x hx => h x (List.mem_of_mem_drop hx)
    have hs := packs_small hM (n := (list.drop (list.length - j)).length) (by rw [List.length_drop]; omega)
    have k1 := s_outer.c list[list.length - (j + 1)]
    rw [need_s hM hp] at k1
    have k2 := s_upright.c (list[list.length - (j + 1)]).side
    rw [down_s] at k2
    have hat : (list.map encPack)[((list.length : Int) - 1 - (j : Nat)).toNat]? = some (encPack list[list.length - (j + 1)]) := by
      rw [show ((list.length : Int) - 1 - (j : Nat)).toNat = list.length - (j + 1) by omega, List.getElem?_map, List.getElem?_eq_getElem hi]; rfl
    have hd : list.drop (list.length - (j + 1)) = list[list.length - (j + 1)] :: list.drop (list.length - j) := by
      rw [drop_cons hi]; congr 2; omega
    have hst : packReqF (list.drop (list.length - (j + 1))) = packStep list[list.length - (j + 1)] (packReqF (list.drop (list.length - j))) := by rw [hd]; rfl
    have hw : w64 ((list.length : Int) - 1 - (j : Nat) - 1) = (list.length : Int) - 1 - ((j + 1 : Nat) : Int) := by rw [w64_id (by omega) (by omega)]; omega
    obtain ⟨h1, h2, h3, h4, h5, h6⟩ := hp
    obtain ⟨m1, m2⟩ := hM
    rw [hst]
    unfold packStep
    cases hdn : down list[list.length - (j + 1)] with
    | true =>
      rw [hdn] at k2
      rw [if_pos rfl]
      have := s_request.l0_1 (call := CC) (lp := lpW) (list.map encPack) (packReqF (list.drop (list.length - j))).1 (packReqF (list.drop (list.length - j))).2 ((list.length : Int) - 1 - (j : Nat)) _ _ _ (by rw [decide_eq_true_eq]; omega) (by rw [decide_eq_true_eq]; omega) hat k1 k2
      rw [this, mx2_eq, hw, w64_id (by unfold needH; omega) (by unfold needH; omega), Int.max_comm, Int.add_comm (needH _)]
    | false =>
      rw [hdn] at k2
      rw [if_neg (by decide)]
      have := s_request.l0_3 (call := CC) (lp := lpW) (list.map encPack) (packReqF (list.drop (list.length - j))).1 (packReqF (list.drop (list.length - j))).2 ((list.length : Int) - 1 - (j : Nat)) _ _ _ (by rw [decide_eq_true_eq]; omega) (by rw [decide_eq_true_eq]; omega) hat k1 k2
      rw [this, mx2_eq, hw, w64_id (by unfold needW; omega) (by unfold needW; omega), Int.max_comm, Int.add_comm (needW _)]) (s_request.l0_2 _ _ _ _ (by rw [decide_eq_false_iff_not]; omega))
  refine s_request.w1 list _ _ ?_
  have hw : w64 ((((list.map encPack).length : Nat) : Int) - 1) = (list.length : Int) - 1 := by rw [List.length_map, w64_id (by omega) (by omega)]
  rw [hw]
  simpa [packReqF] using this
end Go.Proofs.Ytdgamfanffnhaaa.PI
namespace Go.Proofs.Ytdgamfanffnhaaa.PI
open Go
def askGood (nodes : List Node) (i w h : Int) : Bool := vTree nodes && (i_within.m i 0 (nodes.length - 1) && (i_within.m w 0 30 && i_within.m h 0 30))
def askFor (nodes : List Node) (i w h : Int) : List Node × Bool := bif askGood nodes i w h then (askT nodes i.toNat w h, true) else ([], false)
theorem len_pred {nodes : List Node} (ho : NsOk nodes) : w64 ((((nodes.map encNode).length : Nat) : Int) - 1) = nodes.length - 1 := by
  have := ho.1
  rw [List.length_map, w64_id (by omega) (by omega)]
theorem wish_eq {nodes : List Node} (ho : NsOk nodes) (i w h : Int) : s_goodWish.m nodes i w h = askGood nodes i w h := by
  unfold s_goodWish.m s_goodNode.m askGood s_validTree.m
  simp only [bif_and, range_eq, len_pred ho, Bool.and_assoc]
theorem ask_at {nodes : List Node} {i w h : Int} (hg : askGood nodes i w h = true) : 0 ≤ i ∧ i.toNat < nodes.length ∧ (i.toNat : Int) = i := by
  unfold askGood at hg
  simp only [Bool.and_eq_true, within_iff] at hg
  omega
theorem i_AskFor.c (nodes : List Node) (i w h : Int) (ho : NsOk nodes) : PC i_AskFor [.agg [.rsl (nodes.map encNode)], vI i, vI w, vI h] (.tup [.agg [.sl ((askFor nodes i w h).1.map encNode)], vB (askFor nodes i w h).2], []) := by
  refine lift ?_
  have k1 := i_ValidTree.c nodes ho
  have k2 := i_within.c i 0 (w64 ((((nodes.map encNode).length : Nat) : Int) - 1))
  have k3 := i_within.c w 0 30
  have k4 := i_within.c h 0 30
  unfold i_ValidTree.m at k1
  have e2 := len_pred ho
  unfold askFor
  cases hg : askGood nodes i w h with
  | true =>
    obtain ⟨_, h2, h3⟩ := ask_at hg
    unfold askGood at hg
    simp only [Bool.and_eq_true] at hg
    obtain ⟨g1, g2, g3, g4⟩ := hg
    have k5 := i_Tree_asked.c nodes i.toNat w h ho h2
    rw [h3] at k5
    exact i_AskFor.w5 nodes i w h _ (k1.trans (by rw [g1])) (k2.trans (by rw [e2, g2])) (k3.trans (by rw [g3])) (k4.trans (by rw [g4])) k5
  | false =>
    unfold askGood at hg
    cases g1 : vTree nodes with
    | false => exact i_AskFor.w1 nodes i w h (k1.trans (by rw [g1]))
    | true =>
    cases g2 : i_within.m i 0 (nodes.length - 1) with
    | false => exact i_AskFor.w2 nodes i w h (k1.trans (by rw [g1])) (k2.trans (by rw [e2, g2]))
    | true =>
    cases g3 : i_within.m w 0 30 with
    | false => exact i_AskFor.w3 nodes i w h (k1.trans (by rw [g1])) (k2.trans (by rw [e2, g2])) (k3.trans (by rw [g3]))
    | true =>
    cases g4 : i_within.m h 0 30 with
    | false => exact i_AskFor.w4 nodes i w h (k1.trans (by rw [g1])) (k2.trans (by rw [e2, g2])) (k3.trans (by rw [g3])) (k4.trans (by rw [g4]))
    | true => rw [g1, g2, g3, g4] at hg; cases hg
end Go.Proofs.Ytdgamfanffnhaaa.PI
