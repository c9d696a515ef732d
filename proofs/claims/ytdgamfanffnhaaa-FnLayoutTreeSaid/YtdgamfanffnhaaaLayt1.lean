/-
  A part of the proof of FnLayoutTreeSaid: Code, Ok, Tool, W0, W1, W2.
-/
import Derived.Test.YtdgamfanffnhaaaPkCore
import Derived.Test.YtdgamfanffnhaaaPkRel
import Derived.Test.YtdgamfanffnhaaaPkState
import Derived.Test.YtdgamfanffnhaaaPkUpd
import Derived.Test.YtdgamfanffnhaaaPkMach
import Derived.Test.YtdgamfanffnhaaaPkChk
import Derived.Test.YtdgamfanffnhaaaPkOpsA
import Derived.Test.YtdgamfanffnhaaaPkOpsA2
import Derived.Test.YtdgamfanffnhaaaPkOpsA3
import Derived.Test.YtdgamfanffnhaaaPkOpsA4
import Derived.Test.YtdgamfanffnhaaaPkOpsB
import Derived.Test.YtdgamfanffnhaaaPkOpsC
import Derived.Test.YtdgamfanffnhaaaPkOpsD
import Derived.Test.YtdgamfanffnhaaaPkOpsE
import Derived.Test.YtdgamfanffnhaaaPkOpsF
import Derived.Test.YtdgamfanffnhaaaPkOpsG
import Derived.Test.YtdgamfanffnhaaaPkOpsH
import Derived.Test.YtdgamfanffnhaaaPkCallA
import Derived.Test.YtdgamfanffnhaaaPkCallB
import Derived.Test.YtdgamfanffnhaaaPkCallC
import Derived.Test.YtdgamfanffnhaaaPkCallD
import Derived.Test.YtdgamfanffnhaaaPkCallE
import Derived.Test.YtdgamfanffnhaaaPkCallF
import Derived.Test.YtdgamfanffnhaaaPkOpAll
import Derived.Test.YtdgamfanffnhaaaPkDraw
import Derived.Test.YtdgamfanffnhaaaPkExec
import Derived.Test.YtdgamfanffnhaaaPkFun
import Derived.Test.YtdgamfanffnhaaaPkLim
import Derived.Test.YtdgamfanffnhaaaPkGuided
import Derived.Test.YtdgamfanffnhaaaPkShape
import Derived.Test.YtdgamfanffnhaaaPkEnc
import Derived.Test.YtdgamfanffnhaaaProg
import Derived.KernelRfl
import Derived.JoinedTies
import Derived.Test.YtdgamfanffnhaaaRows
set_option linter.unusedVariables false
set_option linter.unusedSimpArgs false
namespace Go.Proofs.Ytdgamfanffnhaaa.PI
def bitl : Nat → Nat → List Bool
  | 0, _ => []
  | n + 1, k => (k % 2 == 1) :: bitl n (k / 2)
theorem nd {a b : Bool} (ha : a = true) (hb : b = true) : (a && b) = true := and_t ha hb
theorem nd2 {a b : Bool} (ha : a = true) (hb : b = true) : (a && (a && b)) = true := and_t ha (and_t ha hb)
theorem nd3 {a b : Bool} (ha : a = true) (hb : b = true) : (a && (a && (a && b))) = true := and_t ha (nd2 ha hb)
theorem nd4 {a b : Bool} (ha : a = true) (hb : b = true) : (a && (a && (a && (a && b)))) = true := and_t ha (nd3 ha hb)
theorem nd5 {a b : Bool} (ha : a = true) (hb : b = true) : (a && (a && (a && (a && (a && b))))) = true := and_t ha (nd4 ha hb)
theorem nd6 {a b : Bool} (ha : a = true) (hb : b = true) : (a && (a && (a && (a && (a && (a && b)))))) = true := and_t ha (nd5 ha hb)
theorem nd7 {a b : Bool} (ha : a = true) (hb : b = true) : (a && (a && (a && (a && (a && (a && (a && b))))))) = true := and_t ha (nd6 ha hb)
theorem nd8 {a b : Bool} (ha : a = true) (hb : b = true) : (a && (a && (a && (a && (a && (a && (a && (a && b)))))))) = true := and_t ha (nd7 ha hb)
set_option maxRecDepth 100000
def zInt : List C := [.int .i64 0]
def zTree : List C := [.nil]
def zRect : List C := [.int .i64 0, .int .i64 0, .int .i64 0, .int .i64 0]
def zPack : List C := [.int .i64 0, .int .i64 0, .int .i64 0, .bool false, .bool false, .bool false, .int .i64 0, .int .i64 0, .int .i64 0]
def zCell : List C := [.int .i64 0, .int .i64 0, .int .i64 0, .int .i64 0, .int .i64 0, .int .i64 0, .int .i64 0, .int .i64 0, .int .i64 0]
def zPlace : List C := [.int .i64 0, .int .i64 0, .int .i64 0, .int .i64 0, .int .i64 0, .int .i64 0, .int .i64 0, .int .i64 0, .int .i64 0]
def zNode : List C := [.int .i64 0, .int .i64 0, .int .i64 0, .bool false, .int .i64 0, .nil, .nil, .int .i64 0, .int .i64 0, .int .i64 0, .bool false, .bool false, .bool false, .int .i64 0, .int .i64 0, .int .i64 0, .int .i64 0, .int .i64 0, .int .i64 0, .int .i64 0, .int .i64 0, .int .i64 0, .int .i64 0, .int .i64 0, .int .i64 0, .int .i64 0, .int .i64 0, .int .i64 0, .int .i64 0, .int .i64 0, .int .i64 0, .int .i64 0, .int .i64 0, .int .i64 0]
def zGrid : List C := [.nil, .nil, .nil]
def zLine : List C := [.int .i64 0, .int .i64 0]
def zReader : List C := [.nil, .int .i64 0]
def zSpan : List C := [.int .i64 0, .int .i64 0, .int .i64 0]
abbrev l_FnLayoutTree : Nat := 5
abbrev s_DrawLayoutTree : Nat := 23
abbrev i_LayoutTree : Nat := 24
abbrev l_equalRects : Nat := 25
abbrev s_LayoutTree : Nat := 26
abbrev l_room : Nat := 27
abbrev i_ValidTree : Nat := 50
abbrev i_within : Nat := 51
abbrev i_Tree_request : Nat := 57
abbrev s_treeRoom : Nat := 58
abbrev s_newReader : Nat := 59
abbrev i_sizeOk : Nat := 60
abbrev i_Tree_layout : Nat := 61
abbrev s_validTree : Nat := 62
abbrev s_goodRoom : Nat := 63
abbrev s_layout : Nat := 64
abbrev s_someTree : Nat := 65
abbrev s_sizeOf : Nat := 66
abbrev i_Tree_kids : Nat := 68
abbrev s_kidsOf : Nat := 71
abbrev s_reader_one : Nat := 73
abbrev s_reader_pick : Nat := 74
abbrev s_inRange : Nat := 76
abbrev i_Node_ok : Nat := 81
abbrev i_Cell_lies : Nat := 82
abbrev i_packRequest : Nat := 87
abbrev i_Tree_packs : Nat := 88
abbrev i_Tree_grid : Nat := 89
abbrev i_Grid_request : Nat := 90
abbrev i_packRects : Nat := 91
abbrev i_Grid_rects : Nat := 92
abbrev i_Place_rect : Nat := 93
abbrev s_validNode : Nat := 94
abbrev s_laid : Nat := 95
abbrev s_goodTree : Nat := 96
abbrev s_request : Nat := 97
abbrev s_packsOf : Nat := 98
abbrev s_gridRequest : Nat := 99
abbrev s_gridOf : Nat := 100
abbrev i_ValidPack : Nat := 107
abbrev i_ValidPlace : Nat := 108
abbrev i_linesOk : Nat := 109
abbrev i_spanOk : Nat := 110
abbrev i_Pack_needs : Nat := 115
abbrev i_Pack_down : Nat := 116
abbrev i_Grid_spans : Nat := 117
abbrev i_sum : Nat := 118
abbrev i_lineRequests : Nat := 119
abbrev i_parcels : Nat := 120
abbrev i_Rect_inset : Nat := 121
abbrev i_Rect_anchored : Nat := 122
abbrev i_lineSizes : Nat := 123
abbrev i_stuck : Nat := 124
abbrev i_part : Nat := 125
abbrev s_validPack : Nat := 126
abbrev s_validPlace : Nat := 127
abbrev s_validLines : Nat := 128
abbrev s_validCell : Nat := 129
abbrev s_packed : Nat := 130
abbrev s_gridded : Nat := 131
abbrev s_placed : Nat := 132
abbrev s_goodLines : Nat := 133
abbrev s_goodPack : Nat := 134
abbrev s_goodPlace : Nat := 135
abbrev s_goodCell : Nat := 136
abbrev s_outer : Nat := 137
abbrev s_upright : Nat := 138
abbrev s_total : Nat := 139
abbrev s_wished : Nat := 140
abbrev s_colSpans : Nat := 141
abbrev s_rowSpans : Nat := 142
abbrev x_ContainsFunc_Line : Nat := 144
abbrev i_linesOk_1 : Nat := 145
abbrev i_spread : Nat := 147
abbrev i_weightsOf : Nat := 148
abbrev i_Pack_need : Nat := 149
abbrev i_expandShare : Nat := 150
abbrev i_Rect_cut : Nat := 151
abbrev s_validSide : Nat := 152
abbrev s_validAnchor : Nat := 153
abbrev s_validLine : Nat := 154
abbrev s_parcels : Nat := 155
abbrev s_settled : Nat := 156
abbrev s_sized : Nat := 157
abbrev s_inset : Nat := 158
abbrev s_stuck : Nat := 159
abbrev s_part : Nat := 160
abbrev s_spread : Nat := 161
abbrev s_weightsOf : Nat := 162
abbrev x_IndexFunc_Line : Nat := 163
abbrev s_share : Nat := 164
abbrev s_cut : Nat := 165
abbrev s_anchored : Nat := 166
abbrev s_shrunk : Nat := 167
abbrev s_half : Nat := 168
def b5_0 : PCode :=
  (.seq (.seq (.region [o 39 (.mov 7), o 40 (.mov 6), o 41 (.len false 40), o 42 (.bin 0 .lss 39 41)])
 (.cond 42 .skip
  (.exit 0)))
 (.seq (.block 1 (.seq (.region [o 45 (.mov 6), o 46 (.mov 7), o 47 (.idx 4 45 46), o 48 (.fld 2 47), o 49 (.load false 1 48), o 50 (.bin 0 .lss 49 (i 0)), o 51 (.mov 50),
 gd 52 51 false (.mov 6), gd 53 51 false (.mov 7), gd 54 51 false (.idx 4 52 53), gd 55 51 false (.fld 3 54), gd 56 51 false (.load false 1 55),
 gd 57 51 false (.bin 0 .lss 56 (i 0)), o 58 (.pick 51 bT 57)])
 (.cond 58 (.seq (.region [o 2 (.mov bF)])
 .ret)
  .skip)))
 (.region [o 43 (.mov 7), o 44 (.bin 0 .add 43 (i 1)), o 7 (.mov 44)])))
def pf5 : PFunc := ⟨1, [], false, false, [.tmp 2],
  (.seq (.region [o 2 (.mov bF)])
 (.seq (.seq (.region [o 8 (.mov 0), o 9 (.len false 8), o 10 (.bin 0 .gtr 9 (i 1048576))])
 (.cond 10 (.seq (.region [o 2 (.mov bT)])
 .ret)
  .skip))
 (.seq (.region [o 12 (.mov 0), o 13 (.call s_DrawLayoutTree [12]), o 11 (.mov 13), o 14 (.ext 11 0), o 15 (.ext 11 1), o 16 (.ext 11 2), o 3 (.alloc zTree),
 u (.store 1 3 14), o 4 (.mov 15), o 5 (.mov 16)])
 (.seq (.region [o 17 (.load true 1 3), o 18 (.mov 4), o 19 (.mov 5), o 20 (.call i_LayoutTree [17, 18, 19]), o 6 (.mov 20)])
 (.seq (.seq (.region [o 21 (.mov 6), o 22 (.load true 1 3), o 23 (.mov 4), o 24 (.mov 5), o 25 (.call s_LayoutTree [22, 23, 24]), o 26 (.call l_equalRects [21, 25]),
 o 27 (.not 26), o 28 (.mov 27), gd 29 28 false (.mov 6), gd 30 28 false (.len false 29), gd 31 28 false (.bin 0 .eql 30 (i 0)), o 32 (.pick 28 bT 31)])
 (.cond 32 (.seq (.region [o 33 (.mov 6), o 34 (.load true 1 3), o 35 (.mov 4), o 36 (.mov 5), o 37 (.call s_LayoutTree [34, 35, 36]), o 38 (.call l_equalRects [33, 37]),
 o 2 (.mov 38)])
 .ret)
  .skip))
 (.seq (.seq (.region [o 7 (.mov (i 0))])
 (.block 0 (.loop [3, 4, 5, 6, 7] [3, 1003, 1013, 1020] [2, 3, 4, 5, 6] [3, 1003, 1013, 1020] b5_0)))
 (.seq (.dregion [(o 59 (.mov 6), []), (o 60 (.idx 4 59 (i 0)), [0]), (o 61 (.load true 4 60), [0, 1]), (o 62 (.mov 4), []), (o 63 (.mov 5), []),
 (o 64 (.call l_room [62, 63]), [3, 4]), (o 65 (.eqa false 4 61 64), [0, 1, 2, 3, 4, 5]), (o 66 (.mov 65), [0, 1, 2, 3, 4, 5, 6]),
 (gd 67 66 true (.mov 6), [0, 1, 2, 3, 4, 5, 6, 7]), (gd 68 66 true (.len false 67), [0, 1, 2, 3, 4, 5, 6, 7, 8]),
 (gd 69 66 true (.fld 0 3), [0, 1, 2, 3, 4, 5, 6, 7]), (gd 70 66 true (.load false 1 69), [0, 1, 2, 3, 4, 5, 6, 7, 10]),
 (gd 71 66 true (.len false 70), [0, 1, 2, 3, 4, 5, 6, 7, 10, 11]), (gd 72 66 true (.bin 0 .eql 68 71), [0, 1, 2, 3, 4, 5, 6, 7, 8, 9, 10, 11, 12]),
 (o 73 (.pick 66 72 bF), [0, 1, 2, 3, 4, 5, 6, 7, 8, 9, 10, 11, 12, 13]), (o 2 (.mov 73), [0, 1, 2, 3, 4, 5, 6, 7, 8, 9, 10, 11, 12, 13, 14])])
 .ret)))))))⟩
def pf23 : PFunc := ⟨1, [], false, true, [.cell 2 true 1, .tmp 3, .tmp 4],
  (.seq (.region [o 2 (.alloc zTree), o 3 (.mov (i 0)), o 4 (.mov (i 0))])
 (.seq (.region [o 5 (.mov 0), o 6 (.call s_newReader [5]), o 7 (.call s_treeRoom [6]), o 8 (.ext 7 0), o 9 (.ext 7 1), o 10 (.ext 7 2), u (.store 1 2 8), o 3 (.mov 9),
 o 4 (.mov 10)])
 .ret))⟩
def pf24 : PFunc := ⟨3, [], true, false, [.tmp 6],
  (.seq (.region [o 3 (.box 0), o 6 (.mov nl)])
 (.seq (.seq (.region [o 7 (.load true 1 3), o 8 (.call i_ValidTree [7]), o 9 (.not 8), o 10 (.mov 9), gd 11 10 false (.mov 1), gd 12 10 false (.mov 2),
 gd 13 10 false (.call i_sizeOk [11, 12]), gd 14 10 false (.not 13), o 15 (.pick 10 bT 14)])
 (.cond 15 (.seq (.region [o 6 (.mov nl)])
 .ret)
  .skip))
 (.seq (.region [o 16 (.load true 1 3), o 17 (.mov 1), o 18 (.mov 2), o 19 (.call i_Tree_layout [16, 17, 18]), o 6 (.mov 19)])
 .ret)))⟩
def b25_0 : PCode :=
  (.seq (.seq (.region [o 11 (.mov 5), o 12 (.mov 0), o 13 (.len false 12), o 14 (.bin 0 .lss 11 13)])
 (.cond 14 .skip
  (.exit 0)))
 (.seq (.block 1 (.seq (.dregion [(o 17 (.mov 0), []), (o 18 (.mov 5), []), (o 19 (.idx 4 17 18), [0, 1]), (o 20 (.load true 4 19), [0, 1, 2]), (o 21 (.mov 1), []), (o 22 (.mov 5), []),
 (o 23 (.idx 4 21 22), [4, 5]), (o 24 (.load true 4 23), [4, 5, 6]), (o 25 (.eqa true 4 20 24), [0, 1, 2, 3, 4, 5, 6, 7])])
 (.cond 25 (.seq (.region [o 4 (.mov bF)])
 .ret)
  .skip)))
 (.region [o 15 (.mov 5), o 16 (.bin 0 .add 15 (i 1)), o 5 (.mov 16)])))
def pf25 : PFunc := ⟨2, [], false, false, [.tmp 4],
  (.seq (.region [o 4 (.mov bF)])
 (.seq (.seq (.region [o 6 (.mov 0), o 7 (.len false 6), o 8 (.mov 1), o 9 (.len false 8), o 10 (.bin 0 .neq 7 9)])
 (.cond 10 (.seq (.region [o 4 (.mov bF)])
 .ret)
  .skip))
 (.seq (.seq (.region [o 5 (.mov (i 0))])
 (.block 0 (.loop [0, 1, 5] [] [4] [] b25_0)))
 (.seq (.region [o 4 (.mov bT)])
 .ret))))⟩
def pf26 : PFunc := ⟨3, [], false, false, [.tmp 6],
  (.seq (.region [o 3 (.box 0), o 6 (.mov nl)])
 (.seq (.seq (.region [o 7 (.load true 1 3), o 8 (.call s_validTree [7]), o 9 (.not 8), o 10 (.mov 9), gd 11 10 false (.mov 1), gd 12 10 false (.mov 2),
 gd 13 10 false (.call s_goodRoom [11, 12]), gd 14 10 false (.not 13), o 15 (.pick 10 bT 14)])
 (.cond 15 (.seq (.region [o 6 (.mov nl)])
 .ret)
  .skip))
 (.seq (.region [o 16 (.load true 1 3), o 17 (.mov 1), o 18 (.mov 2), o 19 (.call s_layout [16, 17, 18]), o 6 (.mov 19)])
 .ret)))⟩
def pf27 : PFunc := ⟨2, [], false, false, [.cell 4 true 4],
  (.seq (.region [o 4 (.alloc zRect)])
 (.seq (.region [o 5 (.mov 0), o 6 (.mov 1), o 7 (.build zRect [(2, 1, 5), (3, 1, 6)]), u (.store 4 4 7)])
 .ret))⟩
def b50_0 : PCode :=
  (.seq (.region [o 15 (.bin 0 .lss 14 13)])
 (.seq (.cond 15 .skip
  (.exit 0))
 (.seq (.block 1 (.seq (.region [o 16 (.mov 14), o 17 (.idx 34 12 14), o 18 (.load true 34 17), o 4 (.alloc zNode), o 3 (.mov 16), u (.store 34 4 18)])
 (.seq (.seq (.region [o 19 (.mov 3), o 20 (.bin 0 .eql 19 (i 0)), o 21 (.mov 20), gd 22 21 true (.fld 0 4), gd 23 21 true (.load false 1 22),
 gd 24 21 true (.bin 0 .neq 23 (i (-1))), o 25 (.pick 21 24 bF), o 26 (.mov 25), gd 27 26 false (.mov 3), gd 28 26 false (.bin 0 .gtr 27 (i 0)),
 gd 29 26 false (.mov 28), gd 30 29 true (.fld 0 4), gd 31 29 true (.load false 1 30), gd 32 29 true (.mov 3), gd 33 29 true (.bin 0 .sub 32 (i 1)),
 gd 34 29 true (.call i_within [31, i 0, 33]), gd 35 29 true (.not 34), gd 36 26 false (.pick 29 35 bF), o 37 (.pick 26 bT 36), o 38 (.mov 37),
 gd 39 38 false (.load true 34 4), gd 40 38 false (.call i_Node_ok [39]), gd 41 38 false (.not 40), o 42 (.pick 38 bT 41)])
 (.cond 42 (.seq (.region [o 2 (.mov bF)])
 .ret)
  .skip))
 (.seq (.region [o 43 (.mov 3), o 44 (.bin 0 .gtr 43 (i 0))])
 (.cond 44 (.seq (.region [o 45 (.fld 0 1), o 46 (.load false 1 45), o 47 (.fld 0 4), o 48 (.load false 1 47), o 49 (.idx 34 46 48), o 50 (.load true 34 49), o 5 (.alloc zNode),
 u (.store 34 5 50)])
 (.seq (.region [o 51 (.fld 4 5), o 52 (.load false 1 51), o 53 (.bin 0 .eql 52 (i 1)), o 54 (.mov 53), gd 55 54 true (.fld 16 4), gd 56 54 true (.load true 9 55),
 gd 57 54 true (.fld 5 5), gd 58 54 true (.load false 1 57), gd 59 54 true (.fld 6 5), gd 60 54 true (.load false 1 59),
 gd 61 54 true (.build zGrid [(0, 1, 58), (1, 1, 60)]), gd 62 54 true (.call i_Cell_lies [56, 61]), gd 63 54 true (.not 62), o 64 (.pick 54 63 bF)])
 (.cond 64 (.seq (.region [o 2 (.mov bF)])
 .ret)
  .skip)))
  .skip)))))
 (.region [o 65 (.bin 0 .add 14 (i 1)), o 14 (.mov 65)]))))
def pf50 : PFunc := ⟨1, [], false, false, [.tmp 2],
  (.seq (.region [o 1 (.box 0), o 2 (.mov bF)])
 (.seq (.seq (.region [o 6 (.fld 0 1), o 7 (.load false 1 6), o 8 (.len false 7), o 9 (.call i_within [8, i 1, i 10]), o 10 (.not 9)])
 (.cond 10 (.seq (.region [o 2 (.mov bF)])
 .ret)
  .skip))
 (.seq (.seq (.region [o 11 (.fld 0 1), o 12 (.load false 1 11), o 13 (.len false 12), o 14 (.mov (i 0))])
 (.block 0 (.loop [1, 12, 13, 14] [1, 1001] [2] [] b50_0)))
 (.seq (.region [o 2 (.mov bT)])
 .ret))))⟩
def pf51 : PFunc := ⟨3, [], false, false, [.tmp 6],
  (.seq (.region [o 6 (.mov bF)])
 (.seq (.region [o 7 (.mov 0), o 8 (.mov 1), o 9 (.bin 0 .geq 7 8), o 10 (.mov 9), gd 11 10 true (.mov 0), gd 12 10 true (.mov 2), gd 13 10 true (.bin 0 .leq 11 12),
 o 14 (.pick 10 13 bF), o 6 (.mov 14)])
 .ret))⟩
def pf57 : PFunc := ⟨2, [], false, true, [.tmp 4, .tmp 5],
  (.seq (.region [o 2 (.box 0), o 4 (.mov (i 0)), o 5 (.mov (i 0))])
 (.seq (.dregion [(o 8 (.fld 0 2), []), (o 9 (.load false 1 8), [0]), (o 10 (.mov 1), []), (o 11 (.idx 34 9 10), [0, 1, 2]), (o 12 (.load true 34 11), [0, 1, 2, 3]),
 (o 13 (.load true 1 2), []), (o 14 (.mov 1), []), (o 15 (.call i_Tree_kids [13, 14]), [5, 6]), (o 6 (.alloc zNode), []),
 (u (.store 34 6 12), [0, 1, 2, 3, 4, 5, 6, 7, 8]), (o 7 (.mov 15), [0, 1, 2, 3, 4, 5, 6, 7, 8, 9])])
 (.seq (.block 0 (.seq (.region [o 17 (.fld 3 6), o 18 (.load false 1 17), o 19 (.mov 18), gd 20 19 false (.mov 7), gd 21 19 false (.len false 20), gd 22 19 false (.bin 0 .eql 21 (i 0)),
 o 23 (.pick 19 bT 22), o 24 (.mov 23), gd 25 24 false (.fld 4 6), gd 26 24 false (.load false 1 25), gd 27 24 false (.bin 0 .eql 26 (i 2)),
 o 28 (.pick 24 bT 27), o 16 (.mov 28)])
 (.cond 16 (.seq (.dregion [(o 29 (.fld 1 6), []), (o 30 (.load false 1 29), [0]), (o 31 (.fld 2 6), []), (o 32 (.load false 1 31), [2]), (o 4 (.mov 30), [0, 1]),
 (o 5 (.mov 32), [0, 1, 2, 3, 4])])
 .ret)
  (.seq (.region [o 34 (.fld 4 6), o 35 (.load false 1 34), o 36 (.bin 0 .eql 35 (i 0)), o 33 (.mov 36)])
 (.cond 33 (.seq (.region [o 37 (.load true 1 2), o 38 (.mov 7), o 39 (.call i_Tree_packs [37, 38]), o 40 (.call i_packRequest [39]), o 41 (.ext 40 0), o 42 (.ext 40 1),
 o 4 (.mov 41), o 5 (.mov 42)])
 .ret)
  .skip)))))
 (.seq (.region [o 43 (.load true 1 2), o 44 (.mov 1), o 45 (.mov 7), o 46 (.call i_Tree_grid [43, 44, 45]), o 47 (.call i_Grid_request [46]), o 48 (.ext 47 0),
 o 49 (.ext 47 1), o 4 (.mov 48), o 5 (.mov 49)])
 .ret))))⟩
def pf58 : PFunc := ⟨1, [true], false, false, [.cell 2 true 1, .tmp 3, .tmp 4],
  (.seq (.region [o 2 (.alloc zTree), o 3 (.mov (i 0)), o 4 (.mov (i 0))])
 (.seq (.region [o 10 (.mov 0), o 11 (.call s_someTree [10]), o 5 (.alloc zTree), u (.store 1 5 11)])
 (.seq (.region [o 12 (.mov 0), o 13 (.bslice 6 zInt [(0, i 60), (1, i 100), (2, i 20), (3, i 0), (4, i 400), (5, i 401)]), o 14 (.call s_reader_one [12, 13]),
 o 6 (.mov 14)])
 (.seq (.region [o 15 (.mov 0), o 16 (.bslice 6 zInt [(0, i 50), (1, i 100), (2, i 10), (3, i 0), (4, i 400), (5, i (-1))]), o 17 (.call s_reader_one [15, 16]),
 o 7 (.mov 17)])
 (.seq (.seq (.region [o 18 (.load true 1 5), o 19 (.call s_validTree [18]), o 20 (.mov 19), gd 21 20 true (.mov 0), gd 22 20 true (.call s_reader_pick [21, i 2]),
 gd 23 20 true (.bin 0 .eql 22 (i 0)), o 24 (.pick 20 23 bF)])
 (.cond 24 (.seq (.region [o 26 (.load true 1 5), o 27 (.call s_sizeOf [26, i 0]), o 25 (.mov 27), o 28 (.ext 25 0), o 29 (.ext 25 1), o 8 (.mov 28), o 9 (.mov 29)])
 (.seq (.region [o 30 (.mov 8), o 6 (.mov 30)])
 (.region [o 31 (.mov 9), o 7 (.mov 31)])))
  .skip))
 (.seq (.region [o 32 (.load true 1 5), o 33 (.mov 6), o 34 (.mov 7), u (.store 1 2 32), o 3 (.mov 33), o 4 (.mov 34)])
 .ret))))))⟩
def pf59 : PFunc := ⟨1, [], false, false, [.tmp 2],
  (.seq (.region [o 2 (.mov (.k (.np)))])
 (.seq (.seq (.region [o 3 (.mov 0), o 4 (.len false 3), o 5 (.bin 0 .gtr 4 (i 2000))])
 (.cond 5 (.region [o 6 (.mov 0), o 7 (.slice false 1 6 none (some (i 2000))), o 0 (.mov 7)])
  .skip))
 (.seq (.region [o 8 (.mov 0), o 9 (.build zReader [(0, 1, 8)]), o 10 (.box 9), o 2 (.mov 10)])
 .ret)))⟩
def pf60 : PFunc := ⟨2, [], false, false, [.tmp 4],
  (.seq (.region [o 4 (.mov bF)])
 (.seq (.region [o 5 (.mov 0), o 6 (.call i_within [5, i 0, i 400]), o 7 (.mov 6), gd 8 7 true (.mov 1), gd 9 7 true (.call i_within [8, i 0, i 400]),
 o 10 (.pick 7 9 bF), o 4 (.mov 10)])
 .ret))⟩
def b61_1 : PCode :=
  (.seq (.region [o 46 (.bin 0 .lss 45 44)])
 (.seq (.cond 46 .skip
  (.exit 3))
 (.seq (.block 4 (.seq (.region [o 47 (.idx 1 43 45), o 48 (.load false 1 47), o 14 (.mov 48)])
 (.dregion [(o 49 (.mov 12), []), (o 50 (.fld 0 3), []), (o 51 (.load false 1 50), [1]), (o 52 (.mov 14), []), (o 53 (.idx 34 51 52), [1, 2, 3]),
 (o 54 (.fld 25 53), [1, 2, 3, 4]), (o 55 (.load true 9 54), [1, 2, 3, 4, 5]), (o 56 (.fld 2 11), []), (o 57 (.load false 1 56), [7]),
 (o 58 (.fld 3 11), []), (o 59 (.load false 1 58), [9]), (o 60 (.call i_Place_rect [55, 57, 59]), [1, 2, 3, 4, 5, 6, 7, 8, 9, 10]),
 (o 61 (.bslice 1 zRect [(0, 60)]), [1, 2, 3, 4, 5, 6, 7, 8, 9, 10, 11]), (o 62 (.app 4 4398046511104 49 61), [0, 1, 2, 3, 4, 5, 6, 7, 8, 9, 10, 11, 12]),
 (o 12 (.mov 62), [0, 1, 2, 3, 4, 5, 6, 7, 8, 9, 10, 11, 12, 13])])))
 (.region [o 63 (.bin 0 .add 45 (i 1)), o 45 (.mov 63)]))))
def b61_2 : PCode :=
  (.seq (.region [o 88 (.bin 0 .lss 87 86)])
 (.seq (.cond 88 .skip
  (.exit 5))
 (.seq (.block 6 (.seq (.region [o 89 (.mov 87), o 90 (.idx 1 85 87), o 91 (.load false 1 90), o 15 (.mov 89), o 16 (.mov 91)])
 (.dregion [(o 92 (.mov 7), []), (o 93 (.mov 16), []), (o 94 (.fld 0 11), []), (o 95 (.load false 1 94), [2]), (o 96 (.mov 12), []), (o 97 (.mov 15), []),
 (o 98 (.idx 4 96 97), [4, 5]), (o 99 (.fld 0 98), [4, 5, 6]), (o 100 (.load false 1 99), [4, 5, 6, 7]),
 (o 101 (.bin 0 .add 95 100), [2, 3, 4, 5, 6, 7, 8]), (o 102 (.fld 1 11), []), (o 103 (.load false 1 102), [10]), (o 104 (.mov 12), []),
 (o 105 (.mov 15), []), (o 106 (.idx 4 104 105), [12, 13]), (o 107 (.fld 1 106), [12, 13, 14]), (o 108 (.load false 1 107), [12, 13, 14, 15]),
 (o 109 (.bin 0 .add 103 108), [10, 11, 12, 13, 14, 15, 16]), (o 110 (.mov 12), []), (o 111 (.mov 15), []), (o 112 (.idx 4 110 111), [18, 19]),
 (o 113 (.fld 2 112), [18, 19, 20]), (o 114 (.load false 1 113), [18, 19, 20, 21]), (o 115 (.mov 12), []), (o 116 (.mov 15), []),
 (o 117 (.idx 4 115 116), [23, 24]), (o 118 (.fld 3 117), [23, 24, 25]), (o 119 (.load false 1 118), [23, 24, 25, 26]),
 (o 120 (.build zRect [(0, 1, 101), (1, 1, 109), (2, 1, 114), (3, 1, 119)]), [2, 3, 4, 5, 6, 7, 8, 9, 10, 11, 12, 13, 14, 15, 16, 17, 18, 19, 20, 21, 22, 23, 24, 25, 26, 27]),
 (o 121 (.idx 4 92 93), [0, 1, 2, 3, 4, 5, 6, 7, 8, 9, 10, 11, 12, 13, 14, 15, 16, 17, 18, 19, 20, 21, 22, 23, 24, 25, 26, 27, 28]),
 (u (.store 4 121 120), [0, 1, 2, 3, 4, 5, 6, 7, 8, 9, 10, 11, 12, 13, 14, 15, 16, 17, 18, 19, 20, 21, 22, 23, 24, 25, 26, 27, 28, 29])])))
 (.region [o 122 (.bin 0 .add 87 (i 1)), o 87 (.mov 122)]))))
def b61_0 : PCode :=
  (.seq (.region [o 30 (.bin 0 .lss 29 28)])
 (.seq (.cond 30 .skip
  (.exit 0))
 (.seq (.block 1 (.seq (.region [o 31 (.mov 29), o 32 (.idx 34 27 29), o 33 (.load true 34 32), o 9 (.alloc zNode), o 8 (.mov 31), u (.store 34 9 33)])
 (.seq (.dregion [(o 34 (.load true 1 3), []), (o 35 (.mov 8), []), (o 36 (.call i_Tree_kids [34, 35]), [0, 1]), (o 37 (.mov 7), []), (o 38 (.mov 8), []),
 (o 39 (.idx 4 37 38), [3, 4]), (o 40 (.load true 4 39), [3, 4, 5]), (o 11 (.alloc zRect), []), (o 10 (.mov 36), [0, 1, 2, 7]),
 (u (.store 4 11 40), [0, 1, 2, 3, 4, 5, 6, 7, 8])])
 (.seq (.region [o 12 .nilroot])
 (.seq (.seq (.region [o 41 (.fld 4 9), o 42 (.load false 1 41)])
 (.block 2 (.seq (.region [o 65 (.bin 0 .eql 42 (i 0)), o 64 (.mov 65)])
 (.cond 64 (.dregion [(o 66 (.load true 1 3), []), (o 67 (.mov 10), []), (o 68 (.call i_Tree_packs [66, 67]), [0, 1]), (o 69 (.fld 2 11), []), (o 70 (.load false 1 69), [3]),
 (o 71 (.fld 3 11), []), (o 72 (.load false 1 71), [5]), (o 73 (.call i_packRects [68, 70, 72]), [0, 1, 2, 3, 4, 5, 6]),
 (o 12 (.mov 73), [0, 1, 2, 3, 4, 5, 6, 7])])
  (.seq (.region [o 75 (.bin 0 .eql 42 (i 1)), o 74 (.mov 75)])
 (.cond 74 (.dregion [(o 76 (.load true 1 3), []), (o 77 (.mov 8), []), (o 78 (.mov 10), []), (o 79 (.call i_Tree_grid [76, 77, 78]), [0, 1, 2]), (o 80 (.fld 2 11), []),
 (o 81 (.load false 1 80), [4]), (o 82 (.fld 3 11), []), (o 83 (.load false 1 82), [6]),
 (o 84 (.call i_Grid_rects [79, 81, 83]), [0, 1, 2, 3, 4, 5, 6, 7]), (o 12 (.mov 84), [0, 1, 2, 3, 4, 5, 6, 7, 8])])
  (.seq (.region [o 43 (.mov 10), o 44 (.len false 43), o 45 (.mov (i 0))])
 (.block 3 (.loop [3, 7, 10, 11, 12, 27, 28, 29, 43, 44, 45] [3, 11, 12, 20, 62, 1003, 1036, 1073, 1084] [3, 6, 7, 10, 11, 12, 27, 28, 29] [3, 6, 11, 12, 20, 62, 1003, 1036, 1073, 1084] b61_1)))))))))
 (.seq (.region [o 85 (.mov 10), o 86 (.len false 85), o 87 (.mov (i 0))])
 (.block 5 (.loop [3, 7, 11, 12, 27, 28, 29, 85, 86, 87] [3, 11, 12, 20, 62, 1003, 1036, 1073, 1084] [3, 6, 7, 27, 28, 29] [3, 6, 20, 1003] b61_2))))))))
 (.region [o 123 (.bin 0 .add 29 (i 1)), o 29 (.mov 123)]))))
def pf61 : PFunc := ⟨3, [], false, true, [.tmp 6],
  (.seq (.region [o 3 (.box 0), o 6 (.mov nl)])
 (.seq (.region [o 17 (.fld 0 3), o 18 (.load false 1 17), o 19 (.len false 18), o 20 (.mk zRect 4398046511104 19), o 7 (.mov 20)])
 (.seq (.region [o 21 (.mov 7), o 22 (.mov 1), o 23 (.mov 2), o 24 (.build zRect [(2, 1, 22), (3, 1, 23)]), o 25 (.idx 4 21 (i 0)), u (.store 4 25 24)])
 (.seq (.seq (.region [o 26 (.fld 0 3), o 27 (.load false 1 26), o 28 (.len false 27), o 29 (.mov (i 0))])
 (.block 0 (.loop [3, 7, 27, 28, 29] [3, 20, 1003] [6, 7] [6, 20] b61_0)))
 (.seq (.region [o 124 (.mov 7), o 6 (.mov 124)])
 .ret)))))⟩
def b62_0 : PCode :=
  (.seq (.seq (.region [o 4 (.mov 3), o 5 (.fld 0 1), o 6 (.load false 1 5), o 7 (.len false 6), o 8 (.bin 0 .lss 4 7)])
 (.cond 8 .skip
  (.exit 0)))
 (.seq (.block 1 (.seq (.region [o 11 (.load true 1 1), o 12 (.mov 3), o 13 (.call s_validNode [11, 12]), o 14 (.not 13)])
 (.cond 14 (.seq (.region [o 2 (.mov bF)])
 .ret)
  .skip)))
 (.region [o 9 (.mov 3), o 10 (.bin 0 .add 9 (i 1)), o 3 (.mov 10)])))
def pf62 : PFunc := ⟨1, [], false, false, [.tmp 2],
  (.seq (.region [o 1 (.box 0), o 2 (.mov bF)])
 (.seq (.seq (.region [o 3 (.mov (i 0))])
 (.block 0 (.loop [1, 3] [1, 1001] [1, 2] [1, 1001] b62_0)))
 (.seq (.region [o 15 (.fld 0 1), o 16 (.load false 1 15), o 17 (.len false 16), o 18 (.call s_inRange [17, i 1, i 10]), o 2 (.mov 18)])
 .ret)))⟩
def pf63 : PFunc := ⟨2, [], false, false, [.tmp 4],
  (.seq (.region [o 4 (.mov bF)])
 (.seq (.region [o 5 (.mov 0), o 6 (.call s_inRange [5, i 0, i 400]), o 7 (.mov 6), gd 8 7 true (.mov 1), gd 9 7 true (.call s_inRange [8, i 0, i 400]),
 o 10 (.pick 7 9 bF), o 4 (.mov 10)])
 .ret))⟩
def pf64 : PFunc := ⟨3, [], false, false, [.tmp 6],
  (.seq (.region [o 3 (.box 0), o 6 (.mov nl)])
 (.seq (.region [o 8 (.fld 0 3), o 9 (.load false 1 8), o 10 (.len false 9), o 11 (.mk zRect 4398046511104 10), o 7 (.mov 11)])
 (.seq (.region [o 12 (.load true 1 3), o 13 (.mov 1), o 14 (.mov 2), o 15 (.build zRect [(2, 1, 13), (3, 1, 14)]), o 16 (.mov 7), o 17 (.call s_laid [12, i 0, 15, 16])])
 (.seq (.region [o 18 (.mov 7), o 6 (.mov 18)])
 .ret))))⟩
def pf65 : PFunc := ⟨1, [true], false, false, [.cell 2 true 1],
  (.seq (.region [o 2 (.alloc zTree)])
 (.seq (.region [o 5 (.mov 0), o 6 (.call s_goodTree [5]), o 3 (.alloc zTree), u (.store 1 3 6)])
 (.seq (.region [o 7 (.mov 0), o 8 (.fld 0 3), o 9 (.load false 1 8), o 10 (.len false 9), o 11 (.call s_reader_pick [7, 10]), o 4 (.mov 11)])
 (.seq (.seq (.region [o 12 (.mov 0), o 13 (.call s_reader_pick [12, i 24])])
 (.block 0 (.seq (.region [o 15 (.bin 0 .eql 13 (i 0)), o 14 (.mov 15)])
 (.cond 14 (.dregion [(o 16 (.fld 0 3), []), (o 17 (.load false 1 16), [0]), (o 18 (.mov 4), []), (o 19 (.mov 0), []), (o 20 (.mov 4), []),
 (o 21 (.bslice 3 zInt [(0, 20), (1, i (-1)), (2, i 10)]), [4]), (o 22 (.call s_reader_one [19, 21]), [3, 4, 5]),
 (o 23 (.idx 34 17 18), [0, 1, 2, 3, 4, 5, 6]), (o 24 (.fld 0 23), [0, 1, 2, 3, 4, 5, 6, 7]), (u (.store 1 24 22), [0, 1, 2, 3, 4, 5, 6, 7, 8])])
  (.seq (.region [o 26 (.bin 0 .eql 13 (i 1)), o 25 (.mov 26)])
 (.cond 25 (.dregion [(o 27 (.fld 0 3), []), (o 28 (.load false 1 27), [0]), (o 29 (.mov 4), []), (o 30 (.mov 0), []), (o 31 (.bslice 2 zInt [(0, i (-1)), (1, i 31)]), []),
 (o 32 (.call s_reader_one [30, 31]), [3, 4]), (o 33 (.idx 34 28 29), [0, 1, 2, 3, 4, 5]), (o 34 (.fld 1 33), [0, 1, 2, 3, 4, 5, 6]),
 (u (.store 1 34 32), [0, 1, 2, 3, 4, 5, 6, 7])])
  (.seq (.region [o 36 (.bin 0 .eql 13 (i 2)), o 35 (.mov 36)])
 (.cond 35 (.dregion [(o 37 (.fld 0 3), []), (o 38 (.load false 1 37), [0]), (o 39 (.mov 4), []), (o 40 (.mov 0), []),
 (o 41 (.bslice 4 zInt [(0, i (-1)), (1, i 3), (2, i 1), (3, i 0)]), []), (o 42 (.call s_reader_one [40, 41]), [3, 4]),
 (o 43 (.idx 34 38 39), [0, 1, 2, 3, 4, 5]), (o 44 (.fld 4 43), [0, 1, 2, 3, 4, 5, 6]), (u (.store 1 44 42), [0, 1, 2, 3, 4, 5, 6, 7])])
  (.seq (.region [o 46 (.bin 0 .eql 13 (i 3)), o 45 (.mov 46)])
 (.cond 45 (.region [o 47 (.fld 0 3), o 48 (.load false 1 47), o 49 (.mov 4), o 50 (.idx 34 48 49), o 51 (.fld 7 50), o 52 (.fld 0 51), u (.store 1 52 (i 1))])
  .skip))))))))))
 (.seq (.region [o 53 (.load true 1 3), u (.store 1 2 53)])
 .ret)))))⟩
def pf66 : PFunc := ⟨2, [], false, true, [.tmp 4, .tmp 5],
  (.seq (.region [o 2 (.box 0), o 4 (.mov (i 0)), o 5 (.mov (i 0))])
 (.seq (.region [o 8 (.fld 0 2), o 9 (.load false 1 8), o 10 (.mov 1), o 11 (.idx 34 9 10), o 12 (.load true 34 11), o 6 (.alloc zNode), u (.store 34 6 12)])
 (.seq (.region [o 13 (.load true 1 2), o 14 (.mov 1), o 15 (.call s_kidsOf [13, 14]), o 7 (.mov 15)])
 (.seq (.seq (.region [o 16 (.fld 3 6), o 17 (.load false 1 16), o 18 (.mov 17), gd 19 18 false (.mov 7), gd 20 18 false (.len false 19), gd 21 18 false (.bin 0 .eql 20 (i 0)),
 o 22 (.pick 18 bT 21), o 23 (.mov 22), gd 24 23 false (.fld 4 6), gd 25 23 false (.load false 1 24), gd 26 23 false (.bin 0 .eql 25 (i 2)),
 o 27 (.pick 23 bT 26)])
 (.cond 27 (.seq (.dregion [(o 28 (.fld 1 6), []), (o 29 (.load false 1 28), [0]), (o 30 (.fld 2 6), []), (o 31 (.load false 1 30), [2]), (o 4 (.mov 29), [0, 1]),
 (o 5 (.mov 31), [0, 1, 2, 3, 4])])
 .ret)
  .skip))
 (.seq (.seq (.region [o 32 (.fld 4 6), o 33 (.load false 1 32), o 34 (.bin 0 .eql 33 (i 0))])
 (.cond 34 (.seq (.region [o 35 (.load true 1 2), o 36 (.mov 7), o 37 (.call s_packsOf [35, 36]), o 38 (.call s_request [37]), o 39 (.ext 38 0), o 40 (.ext 38 1), o 4 (.mov 39),
 o 5 (.mov 40)])
 .ret)
  .skip))
 (.seq (.region [o 41 (.load true 1 2), o 42 (.mov 1), o 43 (.mov 7), o 44 (.call s_gridOf [41, 42, 43]), o 45 (.call s_gridRequest [44]), o 46 (.ext 45 0),
 o 47 (.ext 45 1), o 4 (.mov 46), o 5 (.mov 47)])
 .ret))))))⟩
def b68_0 : PCode :=
  (.seq (.region [o 12 (.bin 0 .lss 11 10)])
 (.seq (.cond 12 .skip
  (.exit 0))
 (.seq (.block 1 (.seq (.region [o 13 (.mov 11), o 14 (.idx 34 9 11), o 15 (.load true 34 14), o 7 (.alloc zNode), o 6 (.mov 13), u (.store 34 7 15)])
 (.seq (.region [o 16 (.fld 0 7), o 17 (.load false 1 16), o 18 (.mov 1), o 19 (.bin 0 .eql 17 18)])
 (.cond 19 (.region [o 20 (.mov 5), o 21 (.mov 6), o 22 (.bslice 1 zInt [(0, 21)]), o 23 (.app 1 17592186044416 20 22), o 5 (.mov 23)])
  .skip))))
 (.region [o 24 (.bin 0 .add 11 (i 1)), o 11 (.mov 24)]))))
def pf68 : PFunc := ⟨2, [], false, false, [.tmp 4],
  (.seq (.region [o 2 (.box 0), o 4 (.mov nl)])
 (.seq (.region [o 5 .nilroot])
 (.seq (.seq (.region [o 8 (.fld 0 2), o 9 (.load false 1 8), o 10 (.len false 9), o 11 (.mov (i 0))])
 (.block 0 (.loop [1, 5, 9, 10, 11] [2, 5, 23, 1002] [4, 5] [4, 5, 23] b68_0)))
 (.seq (.region [o 25 (.mov 5), o 4 (.mov 25)])
 .ret))))⟩
def b71_0 : PCode :=
  (.seq (.seq (.region [o 8 (.mov 6), o 9 (.fld 0 2), o 10 (.load false 1 9), o 11 (.len false 10), o 12 (.bin 0 .lss 8 11)])
 (.cond 12 .skip
  (.exit 0)))
 (.seq (.block 1 (.seq (.region [o 15 (.fld 0 2), o 16 (.load false 1 15), o 17 (.mov 6), o 18 (.idx 34 16 17), o 19 (.fld 0 18), o 20 (.load false 1 19), o 21 (.mov 1),
 o 22 (.bin 0 .eql 20 21)])
 (.cond 22 (.region [o 23 (.mov 5), o 24 (.mov 6), o 25 (.bslice 1 zInt [(0, 24)]), o 26 (.app 1 17592186044416 23 25), o 5 (.mov 26)])
  .skip)))
 (.region [o 13 (.mov 6), o 14 (.bin 0 .add 13 (i 1)), o 6 (.mov 14)])))
def pf71 : PFunc := ⟨2, [], false, false, [.tmp 4],
  (.seq (.region [o 2 (.box 0), o 4 (.mov nl)])
 (.seq (.region [o 7 (.bslice 0 zInt []), o 5 (.mov 7)])
 (.seq (.seq (.region [o 6 (.mov (i 1))])
 (.block 0 (.loop [1, 2, 5, 6] [2, 7, 26, 1002] [4, 5] [4, 7, 26] b71_0)))
 (.seq (.region [o 27 (.mov 5), o 4 (.mov 27)])
 .ret))))⟩
def pf73 : PFunc := ⟨2, [true, false], false, false, [.tmp 4],
  (.seq (.region [o 4 (.mov (i 0))])
 (.seq (.region [o 5 (.mov 1), o 6 (.mov 0), o 7 (.mov 1), o 8 (.len false 7), o 9 (.call s_reader_pick [6, 8]), o 10 (.idx 1 5 9), o 11 (.load false 1 10),
 o 4 (.mov 11)])
 .ret))⟩
def pf74 : PFunc := ⟨2, [true, false], false, false, [.tmp 4],
  (.seq (.region [o 4 (.mov (i 0))])
 (.seq (.region [o 7 (.mov 0), o 8 (.mov 0), o 9 (.nilc 8), o 10 (.fld 1 9), o 11 (.load false 1 10), o 12 (.bin 0 .add 11 (i 1)), o 13 (.nilc 7), o 14 (.fld 1 13),
 u (.store 1 14 12)])
 (.seq (.seq (.region [o 15 (.mov 1), o 16 (.bin 0 .lss 15 (i 1)), o 17 (.mov 16), gd 18 17 false (.mov 0), gd 19 17 false (.nilc 18), gd 20 17 false (.fld 0 19),
 gd 21 17 false (.load false 1 20), gd 22 17 false (.len false 21), gd 23 17 false (.bin 0 .eql 22 (i 0)), o 24 (.pick 17 bT 23)])
 (.cond 24 (.seq (.region [o 4 (.mov (i 0))])
 .ret)
  .skip))
 (.seq (.region [o 25 (.mov 0), o 26 (.nilc 25), o 27 (.fld 1 26), o 28 (.load false 1 27), o 29 (.bin 0 .sub 28 (i 1)), o 5 (.mov 29)])
 (.seq (.seq (.region [o 30 (.mov 5), o 31 (.mov 0), o 32 (.nilc 31), o 33 (.fld 0 32), o 34 (.load false 1 33), o 35 (.len false 34), o 36 (.bin 0 .lss 30 35)])
 (.cond 36 (.seq (.region [o 37 (.mov 0), o 38 (.nilc 37), o 39 (.fld 0 38), o 40 (.load false 1 39), o 41 (.mov 5), o 42 (.idx 1 40 41), o 43 (.load false 1 42),
 o 44 (.conv .i64 43), o 45 (.mov 1), o 46 (.bin 0 .rem 44 45), o 4 (.mov 46)])
 .ret)
  .skip))
 (.seq (.dregion [(o 47 (.mov 0), []), (o 48 (.nilc 47), [0]), (o 49 (.fld 0 48), [0, 1]), (o 50 (.load false 1 49), [0, 1, 2]), (o 51 (.mov 5), []), (o 52 (.mov 0), []),
 (o 53 (.nilc 52), [5]), (o 54 (.fld 0 53), [5, 6]), (o 55 (.load false 1 54), [5, 6, 7]), (o 56 (.len false 55), [5, 6, 7, 8]),
 (o 57 (.bin 0 .rem 51 56), [4, 5, 6, 7, 8, 9]), (o 58 (.idx 1 50 57), [0, 1, 2, 3, 4, 5, 6, 7, 8, 9, 10]),
 (o 59 (.load false 1 58), [0, 1, 2, 3, 4, 5, 6, 7, 8, 9, 10, 11]), (o 60 (.conv .i64 59), [0, 1, 2, 3, 4, 5, 6, 7, 8, 9, 10, 11, 12]),
 (o 61 (.bin 0 .mul 60 (i 131)), [0, 1, 2, 3, 4, 5, 6, 7, 8, 9, 10, 11, 12, 13]), (o 62 (.mov 0), []), (o 63 (.nilc 62), [15]),
 (o 64 (.fld 0 63), [15, 16]), (o 65 (.load false 1 64), [15, 16, 17]), (o 66 (.mov 5), []), (o 67 (.bin 0 .mul 66 (i 7)), [19]),
 (o 68 (.bin 0 .add 67 (i 3)), [19, 20]), (o 69 (.mov 0), []), (o 70 (.nilc 69), [22]), (o 71 (.fld 0 70), [22, 23]),
 (o 72 (.load false 1 71), [22, 23, 24]), (o 73 (.len false 72), [22, 23, 24, 25]), (o 74 (.bin 0 .rem 68 73), [19, 20, 21, 22, 23, 24, 25, 26]),
 (o 75 (.idx 1 65 74), [15, 16, 17, 18, 19, 20, 21, 22, 23, 24, 25, 26, 27]),
 (o 76 (.load false 1 75), [15, 16, 17, 18, 19, 20, 21, 22, 23, 24, 25, 26, 27, 28]),
 (o 77 (.conv .i64 76), [15, 16, 17, 18, 19, 20, 21, 22, 23, 24, 25, 26, 27, 28, 29]),
 (o 78 (.bin 0 .mul 77 (i 1117)), [15, 16, 17, 18, 19, 20, 21, 22, 23, 24, 25, 26, 27, 28, 29, 30]),
 (o 79 (.bin 0 .add 61 78), [0, 1, 2, 3, 4, 5, 6, 7, 8, 9, 10, 11, 12, 13, 14, 15, 16, 17, 18, 19, 20, 21, 22, 23, 24, 25, 26, 27, 28, 29, 30, 31]),
 (o 80 (.mov 5), []), (o 81 (.bin 0 .mul 80 (i 29)), [33]),
 (o 82 (.bin 0 .add 79 81), [0, 1, 2, 3, 4, 5, 6, 7, 8, 9, 10, 11, 12, 13, 14, 15, 16, 17, 18, 19, 20, 21, 22, 23, 24, 25, 26, 27, 28, 29, 30, 31, 32, 33, 34]),
 (o 83 (.mov 5), []), (o 84 (.mov 0), []), (o 85 (.nilc 84), [37]), (o 86 (.fld 0 85), [37, 38]), (o 87 (.load false 1 86), [37, 38, 39]),
 (o 88 (.len false 87), [37, 38, 39, 40]), (o 89 (.bin 0 .quo 83 88), [36, 37, 38, 39, 40, 41]),
 (o 90 (.bin 0 .mul 89 (i 53)), [36, 37, 38, 39, 40, 41, 42]),
 (o 91 (.bin 0 .add 82 90), [0, 1, 2, 3, 4, 5, 6, 7, 8, 9, 10, 11, 12, 13, 14, 15, 16, 17, 18, 19, 20, 21, 22, 23, 24, 25, 26, 27, 28, 29, 30, 31, 32, 33, 34, 35, 36, 37, 38, 39, 40, 41, 42, 43]),
 (o 6 (.mov 91), [0, 1, 2, 3, 4, 5, 6, 7, 8, 9, 10, 11, 12, 13, 14, 15, 16, 17, 18, 19, 20, 21, 22, 23, 24, 25, 26, 27, 28, 29, 30, 31, 32, 33, 34, 35, 36, 37, 38, 39, 40, 41, 42, 43, 44])])
 (.seq (.region [o 92 (.mov 6), o 93 (.mov 6), o 94 (.bin 0 .quo 93 (i 64)), o 95 (.bin 0 .xor 92 94), o 6 (.mov 95)])
 (.seq (.region [o 96 (.mov 6), o 97 (.mov 1), o 98 (.bin 0 .rem 96 97), o 4 (.mov 98)])
 .ret))))))))⟩
def pf76 : PFunc := ⟨3, [], false, false, [.tmp 6],
  (.seq (.region [o 6 (.mov bF)])
 (.seq (.region [o 7 (.mov 1), o 8 (.mov 0), o 9 (.bin 0 .leq 7 8), o 10 (.mov 9), gd 11 10 true (.mov 0), gd 12 10 true (.mov 2), gd 13 10 true (.bin 0 .leq 11 12),
 o 14 (.pick 10 13 bF), o 6 (.mov 14)])
 .ret))⟩
def pf81 : PFunc := ⟨1, [], false, false, [.tmp 2],
  (.seq (.region [o 1 (.box 0), o 2 (.mov bF)])
 (.seq (.seq (.region [o 3 (.fld 1 1), o 4 (.load false 1 3), o 5 (.call i_within [4, i 0, i 30]), o 6 (.not 5), o 7 (.mov 6), gd 8 7 false (.fld 2 1),
 gd 9 7 false (.load false 1 8), gd 10 7 false (.call i_within [9, i 0, i 30]), gd 11 7 false (.not 10), o 12 (.pick 7 bT 11), o 13 (.mov 12),
 gd 14 13 false (.fld 4 1), gd 15 13 false (.load false 1 14), gd 16 13 false (.call i_within [15, i 0, i 2]), gd 17 13 false (.not 16),
 o 18 (.pick 13 bT 17)])
 (.cond 18 (.seq (.region [o 2 (.mov bF)])
 .ret)
  .skip))
 (.seq (.seq (.region [o 19 (.fld 7 1), o 20 (.load true 9 19), o 21 (.call i_ValidPack [20]), o 22 (.not 21), o 23 (.mov 22), gd 24 23 false (.fld 7 1),
 gd 25 23 false (.fld 0 24), gd 26 23 false (.load false 1 25), gd 27 23 false (.bin 0 .neq 26 (i 0)), o 28 (.pick 23 bT 27), o 29 (.mov 28),
 gd 30 29 false (.fld 7 1), gd 31 29 false (.fld 1 30), gd 32 29 false (.load false 1 31), gd 33 29 false (.bin 0 .neq 32 (i 0)), o 34 (.pick 29 bT 33),
 o 35 (.mov 34), gd 36 35 false (.fld 25 1), gd 37 35 false (.load true 9 36), gd 38 35 false (.call i_ValidPlace [37]), gd 39 35 false (.not 38),
 o 40 (.pick 35 bT 39), o 41 (.mov 40), gd 42 41 false (.fld 16 1), gd 43 41 false (.fld 4 42), gd 44 41 false (.load false 1 43),
 gd 45 41 false (.bin 0 .neq 44 (i 0)), o 46 (.pick 41 bT 45), o 47 (.mov 46), gd 48 47 false (.fld 16 1), gd 49 47 false (.fld 5 48),
 gd 50 47 false (.load false 1 49), gd 51 47 false (.bin 0 .neq 50 (i 0)), o 52 (.pick 47 bT 51)])
 (.cond 52 (.seq (.region [o 2 (.mov bF)])
 .ret)
  .skip))
 (.seq (.seq (.region [o 53 (.fld 4 1), o 54 (.load false 1 53), o 55 (.bin 0 .eql 54 (i 1))])
 (.cond 55 (.seq (.region [o 56 (.fld 5 1), o 57 (.load false 1 56), o 58 (.call i_linesOk [57]), o 59 (.mov 58), gd 60 59 true (.fld 6 1), gd 61 59 true (.load false 1 60),
 gd 62 59 true (.call i_linesOk [61]), o 63 (.pick 59 62 bF), o 2 (.mov 63)])
 .ret)
  .skip))
 (.seq (.region [o 64 (.fld 5 1), o 65 (.load false 1 64), o 66 (.len false 65), o 67 (.bin 0 .eql 66 (i 0)), o 68 (.mov 67), gd 69 68 true (.fld 6 1),
 gd 70 68 true (.load false 1 69), gd 71 68 true (.len false 70), gd 72 68 true (.bin 0 .eql 71 (i 0)), o 73 (.pick 68 72 bF), o 2 (.mov 73)])
 .ret)))))⟩
def pf82 : PFunc := ⟨2, [], false, false, [.tmp 4],
  (.seq (.region [o 2 (.box 0), o 3 (.box 1), o 4 (.mov bF)])
 (.seq (.region [o 5 (.fld 0 2), o 6 (.load false 1 5), o 7 (.fld 2 2), o 8 (.load false 1 7), o 9 (.fld 0 3), o 10 (.load false 1 9), o 11 (.len false 10),
 o 12 (.call i_spanOk [6, 8, 11]), o 13 (.mov 12), gd 14 13 true (.fld 1 2), gd 15 13 true (.load false 1 14), gd 16 13 true (.fld 3 2),
 gd 17 13 true (.load false 1 16), gd 18 13 true (.fld 1 3), gd 19 13 true (.load false 1 18), gd 20 13 true (.len false 19),
 gd 21 13 true (.call i_spanOk [15, 17, 20]), o 22 (.pick 13 21 bF), o 23 (.mov 22), gd 24 23 true (.fld 6 2), gd 25 23 true (.load false 1 24),
 gd 26 23 true (.call i_within [25, i 0, i 15]), o 27 (.pick 23 26 bF), o 28 (.mov 27), gd 29 28 true (.fld 7 2), gd 30 28 true (.load false 1 29),
 gd 31 28 true (.call i_within [30, i 0, i 10]), o 32 (.pick 28 31 bF), o 33 (.mov 32), gd 34 33 true (.fld 8 2), gd 35 33 true (.load false 1 34),
 gd 36 33 true (.call i_within [35, i 0, i 10]), o 37 (.pick 33 36 bF), o 4 (.mov 37)])
 .ret))⟩
def pf87 : PFunc := ⟨1, [], false, false, [.tmp 2, .tmp 3],
  (.seq (.region [o 2 (.mov (i 0)), o 3 (.mov (i 0))])
 (.seq (.seq (.region [o 8 (.mov 0), o 9 (.len false 8), o 10 (.bin 0 .eql 9 (i 0))])
 (.cond 10 (.seq (.region [o 2 (.mov (i 0)), o 3 (.mov (i 0))])
 .ret)
  .skip))
 (.seq (.region [o 12 (.mov 0), o 13 (.idx 9 12 (i 0)), o 14 (.load true 9 13), o 15 (.call i_Pack_needs [14]), o 11 (.mov 15), o 16 (.ext 11 0), o 17 (.ext 11 1),
 o 4 (.mov 16), o 5 (.mov 17)])
 (.seq (.region [o 19 (.mov 0), o 20 (.slice false 9 19 (some (i 1)) none), o 21 (.call i_packRequest [20]), o 18 (.mov 21), o 22 (.ext 18 0), o 23 (.ext 18 1),
 o 6 (.mov 22), o 7 (.mov 23)])
 (.seq (.seq (.region [o 24 (.mov 0), o 25 (.idx 9 24 (i 0)), o 26 (.load true 9 25), o 27 (.call i_Pack_down [26])])
 (.cond 27 (.seq (.region [o 28 (.mov 4), o 29 (.mov 6), o 30 (.mx [28, 29]), o 31 (.mov 5), o 32 (.mov 7), o 33 (.bin 0 .add 31 32), o 2 (.mov 30), o 3 (.mov 33)])
 .ret)
  .skip))
 (.seq (.region [o 34 (.mov 4), o 35 (.mov 6), o 36 (.bin 0 .add 34 35), o 37 (.mov 5), o 38 (.mov 7), o 39 (.mx [37, 38]), o 2 (.mov 36), o 3 (.mov 39)])
 .ret))))))⟩
def b88_0 : PCode :=
  (.seq (.region [o 12 (.bin 0 .lss 11 10)])
 (.seq (.cond 12 .skip
  (.exit 0))
 (.seq (.block 1 (.seq (.region [o 13 (.idx 1 9 11), o 14 (.load false 1 13), o 7 (.mov 14)])
 (.seq (.region [o 15 (.fld 0 2), o 16 (.load false 1 15), o 17 (.mov 7), o 18 (.idx 34 16 17), o 19 (.fld 7 18), o 20 (.load true 9 19), o 8 (.alloc zPack),
 u (.store 9 8 20)])
 (.seq (.region [o 22 (.load true 1 2), o 23 (.mov 7), o 24 (.call i_Tree_request [22, 23]), o 21 (.mov 24), o 25 (.ext 21 0), o 26 (.ext 21 1), o 27 (.fld 0 8),
 u (.store 1 27 25), o 28 (.fld 1 8), u (.store 1 28 26)])
 (.region [o 29 (.mov 5), o 30 (.load true 9 8), o 31 (.bslice 1 zPack [(0, 30)]), o 32 (.app 9 2513169434916 29 31), o 5 (.mov 32)])))))
 (.region [o 33 (.bin 0 .add 11 (i 1)), o 11 (.mov 33)]))))
def pf88 : PFunc := ⟨2, [], false, false, [.tmp 4],
  (.seq (.region [o 2 (.box 0), o 4 (.mov nl)])
 (.seq (.region [o 5 .nilroot])
 (.seq (.seq (.region [o 9 (.mov 1), o 10 (.len false 9), o 11 (.mov (i 0))])
 (.block 0 (.loop [2, 5, 9, 10, 11] [2, 5, 32, 1002] [4, 5] [4, 5, 32] b88_0)))
 (.seq (.region [o 34 (.mov 5), o 4 (.mov 34)])
 .ret))))⟩
def b89_0 : PCode :=
  (.seq (.region [o 27 (.bin 0 .lss 26 25)])
 (.seq (.cond 27 .skip
  (.exit 0))
 (.seq (.block 1 (.seq (.region [o 28 (.idx 1 24 26), o 29 (.load false 1 28), o 9 (.mov 29)])
 (.seq (.region [o 30 (.fld 0 3), o 31 (.load false 1 30), o 32 (.mov 9), o 33 (.idx 34 31 32), o 34 (.fld 16 33), o 35 (.load true 9 34), o 10 (.alloc zCell),
 u (.store 9 10 35)])
 (.seq (.region [o 37 (.load true 1 3), o 38 (.mov 9), o 39 (.call i_Tree_request [37, 38]), o 36 (.mov 39), o 40 (.ext 36 0), o 41 (.ext 36 1), o 42 (.fld 4 10),
 u (.store 1 42 40), o 43 (.fld 5 10), u (.store 1 43 41)])
 (.region [o 44 (.fld 2 7), o 45 (.load false 1 44), o 46 (.load true 9 10), o 47 (.bslice 1 zCell [(0, 46)]), o 48 (.app 9 1954687338268 45 47), o 49 (.fld 2 7),
 u (.store 1 49 48)])))))
 (.region [o 50 (.bin 0 .add 26 (i 1)), o 26 (.mov 50)]))))
def pf89 : PFunc := ⟨3, [], false, false, [.cell 6 true 3],
  (.seq (.region [o 3 (.box 0), o 6 (.alloc zGrid)])
 (.seq (.dregion [(o 11 (.fld 0 3), []), (o 12 (.load false 1 11), [0]), (o 13 (.mov 1), []), (o 14 (.idx 34 12 13), [0, 1, 2]), (o 15 (.fld 5 14), [0, 1, 2, 3]),
 (o 16 (.load false 1 15), [0, 1, 2, 3, 4]), (o 17 (.fld 0 3), []), (o 18 (.load false 1 17), [6]), (o 19 (.mov 1), []),
 (o 20 (.idx 34 18 19), [6, 7, 8]), (o 21 (.fld 6 20), [6, 7, 8, 9]), (o 22 (.load false 1 21), [6, 7, 8, 9, 10]),
 (o 23 (.build zGrid [(0, 1, 16), (1, 1, 22)]), [0, 1, 2, 3, 4, 5, 6, 7, 8, 9, 10, 11]), (o 7 (.alloc zGrid), []),
 (u (.store 3 7 23), [0, 1, 2, 3, 4, 5, 6, 7, 8, 9, 10, 11, 12, 13])])
 (.seq (.seq (.region [o 24 (.mov 2), o 25 (.len false 24), o 26 (.mov (i 0))])
 (.block 0 (.loop [3, 6, 7, 24, 25, 26] [3, 6, 7, 48, 1003, 1006, 1007, 2006, 2007, 3006, 3007] [6, 7] [3, 6, 7, 48, 1003, 1006, 1007, 2006, 2007, 3006, 3007] b89_0)))
 (.seq (.region [o 51 (.load true 3 7), u (.store 3 6 51)])
 .ret))))⟩
def pf90 : PFunc := ⟨1, [], false, false, [.tmp 2, .tmp 3],
  (.seq (.region [o 1 (.box 0), o 2 (.mov (i 0)), o 3 (.mov (i 0))])
 (.seq (.region [o 7 (.load true 3 1), o 8 (.call i_Grid_spans [7]), o 6 (.mov 8), o 9 (.ext 6 0), o 10 (.ext 6 1), o 4 (.mov 9), o 5 (.mov 10)])
 (.seq (.dregion [(o 11 (.fld 0 1), []), (o 12 (.load false 1 11), [0]), (o 13 (.mov 4), []), (o 14 (.call i_lineRequests [12, 13]), [0, 1, 2]),
 (o 15 (.call i_sum [14]), [0, 1, 2, 3]), (o 16 (.fld 1 1), []), (o 17 (.load false 1 16), [5]), (o 18 (.mov 5), []),
 (o 19 (.call i_lineRequests [17, 18]), [0, 1, 2, 3, 4, 5, 6, 7]), (o 20 (.call i_sum [19]), [0, 1, 2, 3, 4, 5, 6, 7, 8]),
 (o 2 (.mov 15), [0, 1, 2, 3, 4, 5, 6, 7, 8, 9]), (o 3 (.mov 20), [0, 1, 2, 3, 4, 5, 6, 7, 8, 9, 10])])
 .ret)))⟩
def b91_0 : PCode :=
  (.seq (.region [o 24 (.bin 0 .lss 23 22)])
 (.seq (.cond 24 .skip
  (.exit 0))
 (.seq (.block 1 (.seq (.region [o 25 (.mov 23), o 26 (.idx 9 21 23), o 27 (.load true 9 26), o 10 (.alloc zPack), o 9 (.mov 25), u (.store 9 10 27)])
 (.seq (.dregion [(o 28 (.mov 7), []), (o 29 (.mov 9), []), (o 30 (.idx 4 28 29), [0, 1]), (o 31 (.load true 4 30), [0, 1, 2]), (o 32 (.fld 7 10), []),
 (o 33 (.load false 1 32), [4]), (o 34 (.fld 8 10), []), (o 35 (.load false 1 34), [6]),
 (o 36 (.call i_Rect_inset [31, 33, 35]), [0, 1, 2, 3, 4, 5, 6, 7]), (o 11 (.alloc zRect), []), (u (.store 4 11 36), [0, 1, 2, 3, 4, 5, 6, 7, 8, 9])])
 (.seq (.dregion [(o 37 (.fld 0 10), []), (o 38 (.load false 1 37), [0]), (o 39 (.fld 1 10), []), (o 40 (.load false 1 39), [2]), (o 12 (.mov 38), [0, 1]),
 (o 13 (.mov 40), [0, 1, 2, 3, 4])])
 (.seq (.seq (.region [o 41 (.fld 3 10), o 42 (.load false 1 41)])
 (.cond 42 (.region [o 43 (.fld 2 11), o 44 (.load false 1 43), o 12 (.mov 44)])
  .skip))
 (.seq (.seq (.region [o 45 (.fld 4 10), o 46 (.load false 1 45)])
 (.cond 46 (.region [o 47 (.fld 3 11), o 48 (.load false 1 47), o 13 (.mov 48)])
  .skip))
 (.region [o 49 (.mov 7), o 50 (.mov 9), o 51 (.load true 4 11), o 52 (.mov 12), o 53 (.mov 13), o 54 (.fld 6 10), o 55 (.load false 1 54),
 o 56 (.call i_Rect_anchored [51, 52, 53, 55]), o 57 (.idx 4 49 50), u (.store 4 57 56)])))))))
 (.region [o 58 (.bin 0 .add 23 (i 1)), o 23 (.mov 58)]))))
def pf91 : PFunc := ⟨3, [], false, false, [.tmp 6],
  (.seq (.region [o 6 (.mov nl)])
 (.seq (.region [o 15 (.mov 0), o 16 (.mov 1), o 17 (.mov 2), o 18 (.call i_parcels [15, 16, 17]), o 14 (.mov 18), o 19 (.ext 14 0), o 20 (.ext 14 1), o 8 (.alloc zRect),
 o 7 (.mov 19), u (.store 4 8 20)])
 (.seq (.seq (.region [o 21 (.mov 0), o 22 (.len false 21), o 23 (.mov (i 0))])
 (.block 0 (.loop [7, 21, 22, 23] [1018] [6, 7] [6, 1018] b91_0)))
 (.seq (.region [o 59 (.mov 7), o 6 (.mov 59)])
 .ret))))⟩
def b92_0 : PCode :=
  (.seq (.region [o 38 (.bin 0 .lss 37 36)])
 (.seq (.cond 38 .skip
  (.exit 0))
 (.seq (.block 1 (.seq (.region [o 39 (.idx 9 35 37), o 40 (.load true 9 39), o 13 (.alloc zCell), u (.store 9 13 40)])
 (.seq (.dregion [(o 41 (.mov 9), []), (o 42 (.fld 0 13), []), (o 43 (.load false 1 42), [1]), (o 44 (.slice false 1 41 none (some 43)), [0, 1, 2]),
 (o 45 (.call i_sum [44]), [0, 1, 2, 3]), (o 46 (.mov 10), []), (o 47 (.fld 1 13), []), (o 48 (.load false 1 47), [6]),
 (o 49 (.slice false 1 46 none (some 48)), [5, 6, 7]), (o 50 (.call i_sum [49]), [0, 1, 2, 3, 4, 5, 6, 7, 8]), (o 51 (.mov 9), []),
 (o 52 (.fld 0 13), []), (o 53 (.load false 1 52), [11]), (o 54 (.fld 0 13), []), (o 55 (.load false 1 54), [13]), (o 56 (.fld 2 13), []),
 (o 57 (.load false 1 56), [15]), (o 58 (.bin 0 .add 55 57), [13, 14, 15, 16]),
 (o 59 (.slice false 1 51 (some 53) (some 58)), [10, 11, 12, 13, 14, 15, 16, 17]),
 (o 60 (.call i_sum [59]), [0, 1, 2, 3, 4, 5, 6, 7, 8, 9, 10, 11, 12, 13, 14, 15, 16, 17, 18]), (o 61 (.mov 10), []), (o 62 (.fld 1 13), []),
 (o 63 (.load false 1 62), [21]), (o 64 (.fld 1 13), []), (o 65 (.load false 1 64), [23]), (o 66 (.fld 3 13), []), (o 67 (.load false 1 66), [25]),
 (o 68 (.bin 0 .add 65 67), [23, 24, 25, 26]), (o 69 (.slice false 1 61 (some 63) (some 68)), [20, 21, 22, 23, 24, 25, 26, 27]),
 (o 70 (.call i_sum [69]), [0, 1, 2, 3, 4, 5, 6, 7, 8, 9, 10, 11, 12, 13, 14, 15, 16, 17, 18, 19, 20, 21, 22, 23, 24, 25, 26, 27, 28]),
 (o 71 (.build zRect [(0, 1, 45), (1, 1, 50), (2, 1, 60), (3, 1, 70)]), [0, 1, 2, 3, 4, 5, 6, 7, 8, 9, 10, 11, 12, 13, 14, 15, 16, 17, 18, 19, 20, 21, 22, 23, 24, 25, 26, 27, 28, 29]),
 (o 14 (.alloc zRect), []),
 (u (.store 4 14 71), [0, 1, 2, 3, 4, 5, 6, 7, 8, 9, 10, 11, 12, 13, 14, 15, 16, 17, 18, 19, 20, 21, 22, 23, 24, 25, 26, 27, 28, 29, 30, 31])])
 (.seq (.region [o 72 (.load true 4 14), o 73 (.fld 7 13), o 74 (.load false 1 73), o 75 (.fld 8 13), o 76 (.load false 1 75), o 77 (.call i_Rect_inset [72, 74, 76]),
 u (.store 4 14 77)])
 (.seq (.region [o 79 (.fld 2 14), o 80 (.load false 1 79), o 81 (.fld 4 13), o 82 (.load false 1 81), o 83 (.fld 6 13), o 84 (.load false 1 83),
 o 85 (.bin 0 .and 84 (i 1)), o 86 (.bin 0 .neq 85 (i 0)), o 87 (.fld 6 13), o 88 (.load false 1 87), o 89 (.bin 0 .and 88 (i 2)),
 o 90 (.bin 0 .neq 89 (i 0)), o 91 (.call i_stuck [80, 82, 86, 90]), o 78 (.mov 91), o 92 (.ext 78 0), o 93 (.ext 78 1), o 15 (.mov 92), o 16 (.mov 93)])
 (.seq (.region [o 95 (.fld 3 14), o 96 (.load false 1 95), o 97 (.fld 5 13), o 98 (.load false 1 97), o 99 (.fld 6 13), o 100 (.load false 1 99),
 o 101 (.bin 0 .and 100 (i 4)), o 102 (.bin 0 .neq 101 (i 0)), o 103 (.fld 6 13), o 104 (.load false 1 103), o 105 (.bin 0 .and 104 (i 8)),
 o 106 (.bin 0 .neq 105 (i 0)), o 107 (.call i_stuck [96, 98, 102, 106]), o 94 (.mov 107), o 108 (.ext 94 0), o 109 (.ext 94 1), o 17 (.mov 108),
 o 18 (.mov 109)])
 (.region [o 110 (.mov 11), o 111 (.fld 0 14), o 112 (.load false 1 111), o 113 (.mov 15), o 114 (.bin 0 .add 112 113), o 115 (.fld 1 14),
 o 116 (.load false 1 115), o 117 (.mov 17), o 118 (.bin 0 .add 116 117), o 119 (.mov 16), o 120 (.mov 18),
 o 121 (.build zRect [(0, 1, 114), (1, 1, 118), (2, 1, 119), (3, 1, 120)]), o 122 (.bslice 1 zRect [(0, 121)]), o 123 (.app 4 4398046511104 110 122),
 o 11 (.mov 123)])))))))
 (.region [o 124 (.bin 0 .add 37 (i 1)), o 37 (.mov 124)]))))
def pf92 : PFunc := ⟨3, [], false, false, [.tmp 6],
  (.seq (.region [o 3 (.box 0), o 6 (.mov nl)])
 (.seq (.region [o 20 (.load true 3 3), o 21 (.call i_Grid_spans [20]), o 19 (.mov 21), o 22 (.ext 19 0), o 23 (.ext 19 1), o 7 (.mov 22), o 8 (.mov 23)])
 (.seq (.dregion [(o 24 (.fld 0 3), []), (o 25 (.load false 1 24), [0]), (o 26 (.mov 7), []), (o 27 (.mov 1), []), (o 28 (.call i_lineSizes [25, 26, 27]), [0, 1, 2, 3]),
 (o 29 (.fld 1 3), []), (o 30 (.load false 1 29), [5]), (o 31 (.mov 8), []), (o 32 (.mov 2), []),
 (o 33 (.call i_lineSizes [30, 31, 32]), [0, 1, 2, 3, 4, 5, 6, 7, 8]), (o 9 (.mov 28), [0, 1, 2, 3, 4, 5, 6, 7, 8, 9]),
 (o 10 (.mov 33), [0, 1, 2, 3, 4, 5, 6, 7, 8, 9, 10])])
 (.seq (.region [o 11 .nilroot])
 (.seq (.seq (.region [o 34 (.fld 2 3), o 35 (.load false 1 34), o 36 (.len false 35), o 37 (.mov (i 0))])
 (.block 0 (.loop [9, 10, 11, 35, 36, 37] [3, 11, 123, 1003, 1028, 1033, 2003, 3003] [6, 11] [6, 11, 123] b92_0)))
 (.seq (.region [o 125 (.mov 11), o 6 (.mov 125)])
 .ret))))))⟩
def pf93 : PFunc := ⟨3, [], false, false, [.cell 6 true 4],
  (.seq (.region [o 3 (.box 0), o 6 (.alloc zRect)])
 (.seq (.dregion [(o 11 (.fld 4 3), []), (o 12 (.load false 1 11), [0]), (o 13 (.fld 6 3), []), (o 14 (.load false 1 13), [2]), (o 15 (.mov 1), []),
 (o 16 (.bin 0 .mul 14 15), [2, 3, 4]), (o 17 (.bin 0 .quo 16 (i 1000)), [2, 3, 4, 5]), (o 18 (.bin 0 .add 12 17), [0, 1, 2, 3, 4, 5, 6]),
 (o 19 (.mx [18, i 0]), [0, 1, 2, 3, 4, 5, 6, 7]), (o 20 (.fld 5 3), []), (o 21 (.load false 1 20), [9]), (o 22 (.fld 7 3), []),
 (o 23 (.load false 1 22), [11]), (o 24 (.mov 2), []), (o 25 (.bin 0 .mul 23 24), [11, 12, 13]), (o 26 (.bin 0 .quo 25 (i 1000)), [11, 12, 13, 14]),
 (o 27 (.bin 0 .add 21 26), [9, 10, 11, 12, 13, 14, 15]), (o 28 (.mx [27, i 0]), [9, 10, 11, 12, 13, 14, 15, 16]),
 (o 7 (.mov 19), [0, 1, 2, 3, 4, 5, 6, 7, 8]), (o 8 (.mov 28), [0, 1, 2, 3, 4, 5, 6, 7, 8, 9, 10, 11, 12, 13, 14, 15, 16, 17, 18])])
 (.seq (.dregion [(o 29 (.fld 0 3), []), (o 30 (.load false 1 29), [0]), (o 31 (.fld 2 3), []), (o 32 (.load false 1 31), [2]), (o 33 (.mov 1), []),
 (o 34 (.bin 0 .mul 32 33), [2, 3, 4]), (o 35 (.bin 0 .quo 34 (i 1000)), [2, 3, 4, 5]), (o 36 (.bin 0 .add 30 35), [0, 1, 2, 3, 4, 5, 6]),
 (o 37 (.fld 1 3), []), (o 38 (.load false 1 37), [8]), (o 39 (.fld 3 3), []), (o 40 (.load false 1 39), [10]), (o 41 (.mov 2), []),
 (o 42 (.bin 0 .mul 40 41), [10, 11, 12]), (o 43 (.bin 0 .quo 42 (i 1000)), [10, 11, 12, 13]), (o 44 (.bin 0 .add 38 43), [8, 9, 10, 11, 12, 13, 14]),
 (o 9 (.mov 36), [0, 1, 2, 3, 4, 5, 6, 7]), (o 10 (.mov 44), [0, 1, 2, 3, 4, 5, 6, 7, 8, 9, 10, 11, 12, 13, 14, 15, 16])])
 (.seq (.dregion [(o 45 (.mov 9), []), (o 46 (.mov 7), []), (o 47 (.fld 8 3), []), (o 48 (.load false 1 47), [2]), (o 49 (.bin 0 .rem 48 (i 3)), [2, 3]),
 (o 50 (.call i_part [46, 49]), [1, 2, 3, 4]), (o 51 (.bin 0 .sub 45 50), [0, 1, 2, 3, 4, 5]), (o 52 (.mov 10), []), (o 53 (.mov 8), []),
 (o 54 (.fld 8 3), []), (o 55 (.load false 1 54), [9]), (o 56 (.bin 0 .quo 55 (i 3)), [9, 10]),
 (o 57 (.call i_part [53, 56]), [1, 2, 3, 4, 5, 8, 9, 10, 11]), (o 58 (.bin 0 .sub 52 57), [1, 2, 3, 4, 5, 7, 8, 9, 10, 11, 12]), (o 59 (.mov 7), []),
 (o 60 (.mov 8), []), (o 61 (.build zRect [(0, 1, 51), (1, 1, 58), (2, 1, 59), (3, 1, 60)]), [0, 1, 2, 3, 4, 5, 6, 7, 8, 9, 10, 11, 12, 13, 14, 15]),
 (u (.store 4 6 61), [0, 1, 2, 3, 4, 5, 6, 7, 8, 9, 10, 11, 12, 13, 14, 15, 16])])
 .ret))))⟩
def pf94 : PFunc := ⟨2, [], false, false, [.tmp 4],
  (.seq (.region [o 2 (.box 0), o 4 (.mov bF)])
 (.seq (.region [o 7 (.fld 0 2), o 8 (.load false 1 7), o 9 (.mov 1), o 10 (.idx 34 8 9), o 11 (.load true 34 10), o 5 (.alloc zNode), u (.store 34 5 11)])
 (.seq (.seq (.region [o 12 (.fld 1 5), o 13 (.load false 1 12), o 14 (.call s_inRange [13, i 0, i 30]), o 15 (.not 14), o 16 (.mov 15), gd 17 16 false (.fld 2 5),
 gd 18 16 false (.load false 1 17), gd 19 16 false (.call s_inRange [18, i 0, i 30]), gd 20 16 false (.not 19), o 21 (.pick 16 bT 20), o 22 (.mov 21),
 gd 23 22 false (.fld 4 5), gd 24 22 false (.load false 1 23), gd 25 22 false (.call s_inRange [24, i 0, i 2]), gd 26 22 false (.not 25),
 o 27 (.pick 22 bT 26), o 28 (.mov 27), gd 29 28 false (.fld 7 5), gd 30 28 false (.load true 9 29), gd 31 28 false (.call s_validPack [30]),
 gd 32 28 false (.not 31), o 33 (.pick 28 bT 32), o 34 (.mov 33), gd 35 34 false (.fld 7 5), gd 36 34 false (.fld 0 35),
 gd 37 34 false (.load false 1 36), gd 38 34 false (.bin 0 .neq 37 (i 0)), o 39 (.pick 34 bT 38), o 40 (.mov 39), gd 41 40 false (.fld 7 5),
 gd 42 40 false (.fld 1 41), gd 43 40 false (.load false 1 42), gd 44 40 false (.bin 0 .neq 43 (i 0)), o 45 (.pick 40 bT 44), o 46 (.mov 45),
 gd 47 46 false (.fld 25 5), gd 48 46 false (.load true 9 47), gd 49 46 false (.call s_validPlace [48]), gd 50 46 false (.not 49), o 51 (.pick 46 bT 50),
 o 52 (.mov 51), gd 53 52 false (.fld 16 5), gd 54 52 false (.fld 4 53), gd 55 52 false (.load false 1 54), gd 56 52 false (.bin 0 .neq 55 (i 0)),
 o 57 (.pick 52 bT 56), o 58 (.mov 57), gd 59 58 false (.fld 16 5), gd 60 58 false (.fld 5 59), gd 61 58 false (.load false 1 60),
 gd 62 58 false (.bin 0 .neq 61 (i 0)), o 63 (.pick 58 bT 62)])
 (.cond 63 (.seq (.region [o 4 (.mov bF)])
 .ret)
  .skip))
 (.seq (.seq (.region [o 64 (.fld 4 5), o 65 (.load false 1 64), o 66 (.bin 0 .eql 65 (i 1)), o 67 (.mov 66), gd 68 67 true (.fld 5 5), gd 69 67 true (.load false 1 68),
 gd 70 67 true (.call s_validLines [69]), gd 71 67 true (.not 70), gd 72 67 true (.mov 71), gd 73 72 false (.fld 6 5), gd 74 72 false (.load false 1 73),
 gd 75 72 false (.call s_validLines [74]), gd 76 72 false (.not 75), gd 77 67 true (.pick 72 bT 76), o 78 (.pick 67 77 bF), o 79 (.mov 78),
 gd 80 79 false (.fld 4 5), gd 81 79 false (.load false 1 80), gd 82 79 false (.bin 0 .neq 81 (i 1)), gd 83 79 false (.mov 82), gd 84 83 true (.fld 5 5),
 gd 85 83 true (.load false 1 84), gd 86 83 true (.len false 85), gd 87 83 true (.bin 0 .gtr 86 (i 0)), gd 88 83 true (.mov 87),
 gd 89 88 false (.fld 6 5), gd 90 88 false (.load false 1 89), gd 91 88 false (.len false 90), gd 92 88 false (.bin 0 .gtr 91 (i 0)),
 gd 93 83 true (.pick 88 bT 92), gd 94 79 false (.pick 83 93 bF), o 95 (.pick 79 bT 94)])
 (.cond 95 (.seq (.region [o 4 (.mov bF)])
 .ret)
  .skip))
 (.seq (.seq (.region [o 96 (.mov 1), o 97 (.bin 0 .eql 96 (i 0))])
 (.cond 97 (.seq (.region [o 98 (.fld 0 5), o 99 (.load false 1 98), o 100 (.bin 0 .eql 99 (i (-1))), o 4 (.mov 100)])
 .ret)
  .skip))
 (.seq (.seq (.region [o 101 (.fld 0 5), o 102 (.load false 1 101), o 103 (.mov 1), o 104 (.bin 0 .sub 103 (i 1)), o 105 (.call s_inRange [102, i 0, 104]), o 106 (.not 105)])
 (.cond 106 (.seq (.region [o 4 (.mov bF)])
 .ret)
  .skip))
 (.seq (.region [o 107 (.fld 0 2), o 108 (.load false 1 107), o 109 (.fld 0 5), o 110 (.load false 1 109), o 111 (.idx 34 108 110), o 112 (.load true 34 111),
 o 6 (.alloc zNode), u (.store 34 6 112)])
 (.seq (.region [o 113 (.fld 4 6), o 114 (.load false 1 113), o 115 (.bin 0 .neq 114 (i 1)), o 116 (.mov 115), gd 117 116 false (.fld 5 6),
 gd 118 116 false (.load false 1 117), gd 119 116 false (.fld 6 6), gd 120 116 false (.load false 1 119),
 gd 121 116 false (.build zGrid [(0, 1, 118), (1, 1, 120)]), gd 122 116 false (.fld 16 5), gd 123 116 false (.load true 9 122),
 gd 124 116 false (.call s_validCell [121, 123]), o 125 (.pick 116 bT 124), o 4 (.mov 125)])
 .ret))))))))⟩
def b95_0 : PCode :=
  (.seq (.seq (.region [o 26 (.mov 10), o 27 (.mov 8), o 28 (.len false 27), o 29 (.bin 0 .lss 26 28)])
 (.cond 29 .skip
  (.exit 1)))
 (.seq (.block 2 (.dregion [(o 32 (.mov 9), []), (o 33 (.fld 0 4), []), (o 34 (.load false 1 33), [1]), (o 35 (.mov 8), []), (o 36 (.mov 10), []), (o 37 (.idx 1 35 36), [3, 4]),
 (o 38 (.load false 1 37), [3, 4, 5]), (o 39 (.idx 34 34 38), [1, 2, 3, 4, 5, 6]), (o 40 (.fld 25 39), [1, 2, 3, 4, 5, 6, 7]),
 (o 41 (.load true 9 40), [1, 2, 3, 4, 5, 6, 7, 8]), (o 42 (.load true 4 6), []), (o 43 (.call s_placed [41, 42]), [1, 2, 3, 4, 5, 6, 7, 8, 9, 10]),
 (o 44 (.bslice 1 zRect [(0, 43)]), [1, 2, 3, 4, 5, 6, 7, 8, 9, 10, 11]), (o 45 (.app 4 4398046511104 32 44), [0, 1, 2, 3, 4, 5, 6, 7, 8, 9, 10, 11, 12]),
 (o 9 (.mov 45), [0, 1, 2, 3, 4, 5, 6, 7, 8, 9, 10, 11, 12, 13])]))
 (.region [o 30 (.mov 10), o 31 (.bin 0 .add 30 (i 1)), o 10 (.mov 31)])))
def b95_1 : PCode :=
  (.seq (.seq (.region [o 61 (.mov 11), o 62 (.mov 8), o 63 (.len false 62), o 64 (.bin 0 .lss 61 63)])
 (.cond 64 .skip
  (.exit 3)))
 (.seq (.block 4 (.dregion [(o 67 (.load true 1 4), []), (o 68 (.mov 8), []), (o 69 (.mov 11), []), (o 70 (.idx 1 68 69), [1, 2]), (o 71 (.load false 1 70), [1, 2, 3]),
 (o 72 (.mov 9), []), (o 73 (.mov 11), []), (o 74 (.idx 4 72 73), [5, 6]), (o 75 (.load true 4 74), [5, 6, 7]), (o 76 (.mov 3), []),
 (o 77 (.call s_laid [67, 71, 75, 76]), [0, 1, 2, 3, 4, 5, 6, 7, 8, 9])]))
 (.region [o 65 (.mov 11), o 66 (.bin 0 .add 65 (i 1)), o 11 (.mov 66)])))
def pf95 : PFunc := ⟨4, [false, false, false, true], false, true, [],
  (.seq (.region [o 4 (.box 0), o 6 (.box 2)])
 (.seq (.region [o 12 (.mov 3), o 13 (.mov 1), o 14 (.load true 4 6), o 15 (.idx 4 12 13), u (.store 4 15 14)])
 (.seq (.region [o 16 (.load true 1 4), o 17 (.mov 1), o 18 (.call s_kidsOf [16, 17]), o 8 (.mov 18)])
 (.seq (.region [o 19 (.bslice 0 zRect []), o 9 (.mov 19)])
 (.seq (.seq (.region [o 20 (.fld 0 4), o 21 (.load false 1 20), o 22 (.mov 1), o 23 (.idx 34 21 22), o 24 (.fld 4 23), o 25 (.load false 1 24)])
 (.block 0 (.seq (.region [o 47 (.bin 0 .eql 25 (i 0)), o 46 (.mov 47)])
 (.cond 46 (.dregion [(o 48 (.load true 1 4), []), (o 49 (.mov 8), []), (o 50 (.call s_packsOf [48, 49]), [0, 1]), (o 51 (.load true 4 6), []),
 (o 52 (.call s_packed [50, 51]), [0, 1, 2, 3]), (o 9 (.mov 52), [0, 1, 2, 3, 4])])
  (.seq (.region [o 54 (.bin 0 .eql 25 (i 1)), o 53 (.mov 54)])
 (.cond 53 (.dregion [(o 55 (.load true 1 4), []), (o 56 (.mov 1), []), (o 57 (.mov 8), []), (o 58 (.call s_gridOf [55, 56, 57]), [0, 1, 2]), (o 59 (.load true 4 6), []),
 (o 60 (.call s_gridded [58, 59]), [0, 1, 2, 3, 4]), (o 9 (.mov 60), [0, 1, 2, 3, 4, 5])])
  (.seq (.region [o 10 (.mov (i 0))])
 (.block 1 (.loop [3, 4, 6, 8, 9, 10] [4, 6, 19, 45, 1003, 1004, 1018, 1052, 1060] [3, 4, 8, 9] [4, 19, 45, 1003, 1004, 1018, 1052, 1060] b95_0)))))))))
 (.seq (.region [o 11 (.mov (i 0))])
 (.block 3 (.loop [3, 4, 8, 9, 11] [4, 19, 45, 1003, 1004, 1018, 1052, 1060] [] [1003] b95_1))))))))⟩
def b96_0 : PCode :=
  (.seq (.seq (.region [o 10 (.mov 4), o 11 (.bin 0 .gtr 10 (i 0))])
 (.cond 11 .skip
  (.exit 0)))
 (.seq (.block 1 (.seq (.dregion [(o 14 (.fld 0 3), []), (o 15 (.load false 1 14), [0]), (o 16 (.len false 15), [0, 1]), (o 17 (.bin 0 .sub 16 (i 1)), [0, 1, 2]), (o 18 (.mov 0), []),
 (o 19 (.mov 0), []), (o 20 (.call s_reader_pick [19, i 31]), [5]), (o 21 (.bslice 4 zInt [(0, i 5), (1, i 10), (2, i 0), (3, 20)]), [5, 6]),
 (o 22 (.call s_reader_one [18, 21]), [4, 5, 6, 7]), (o 23 (.mov 0), []), (o 24 (.mov 0), []),
 (o 25 (.call s_reader_pick [24, i 31]), [4, 5, 6, 7, 8, 10]), (o 26 (.bslice 4 zInt [(0, i 4), (1, i 8), (2, i 0), (3, 25)]), [4, 5, 6, 7, 8, 10, 11]),
 (o 27 (.call s_reader_one [23, 26]), [4, 5, 6, 7, 8, 9, 10, 11, 12]), (o 28 (.mov 0), []),
 (o 29 (.call s_reader_pick [28, i 6]), [4, 5, 6, 7, 8, 9, 10, 11, 12, 13, 14]),
 (o 30 (.bin 0 .eql 29 (i 0)), [4, 5, 6, 7, 8, 9, 10, 11, 12, 13, 14, 15]), (o 31 (.mov 0), []),
 (o 32 (.bslice 4 zInt [(0, i 0), (1, i 1), (2, i 0), (3, i 2)]), []),
 (o 33 (.call s_reader_one [31, 32]), [4, 5, 6, 7, 8, 9, 10, 11, 12, 13, 14, 15, 17, 18]),
 (o 34 (.build zNode [(0, 1, 17), (1, 1, 22), (2, 1, 27), (3, 1, 30), (4, 1, 33)]), [0, 1, 2, 3, 4, 5, 6, 7, 8, 9, 10, 11, 12, 13, 14, 15, 16, 17, 18, 19]),
 (o 5 (.alloc zNode), []), (u (.store 34 5 34), [0, 1, 2, 3, 4, 5, 6, 7, 8, 9, 10, 11, 12, 13, 14, 15, 16, 17, 18, 19, 20, 21])])
 (.seq (.seq (.region [o 35 (.fld 0 3), o 36 (.load false 1 35), o 37 (.len false 36), o 38 (.bin 0 .gtr 37 (i 0))])
 (.cond 38 (.seq (.region [o 39 (.mov 0), o 40 (.fld 0 3), o 41 (.load false 1 40), o 42 (.len false 41), o 43 (.call s_reader_pick [39, 42]), o 44 (.fld 0 5), u (.store 1 44 43)])
 (.seq (.region [o 45 (.mov 0), o 46 (.call s_reader_pick [45, i 3]), o 47 (.bin 0 .eql 46 (i 0))])
 (.cond 47 (.region [o 48 (.fld 0 5), u (.store 1 48 (i 0))])
  .skip)))
  .skip))
 (.seq (.seq (.region [o 49 (.fld 4 5), o 50 (.load false 1 49), o 51 (.bin 0 .eql 50 (i 1))])
 (.cond 51 (.seq (.region [o 52 (.mov 0), o 53 (.call s_goodLines [52]), o 54 (.fld 5 5), u (.store 1 54 53)])
 (.region [o 55 (.mov 0), o 56 (.call s_goodLines [55]), o 57 (.fld 6 5), u (.store 1 57 56)]))
  .skip))
 (.seq (.region [o 58 (.mov 0), o 59 (.call s_goodPack [58]), o 60 (.fld 7 5), u (.store 9 60 59)])
 (.seq (.region [o 61 (.fld 7 5), o 62 (.fld 0 61), u (.store 1 62 (i 0))])
 (.seq (.region [o 63 (.fld 7 5), o 64 (.fld 1 63), u (.store 1 64 (i 0))])
 (.seq (.region [o 65 (.mov 0), o 66 (.call s_goodPlace [65]), o 67 (.fld 25 5), u (.store 9 67 66)])
 (.seq (.seq (.region [o 68 (.fld 0 5), o 69 (.load false 1 68), o 70 (.bin 0 .geq 69 (i 0)), o 71 (.mov 70), gd 72 71 true (.fld 0 3), gd 73 71 true (.load false 1 72),
 gd 74 71 true (.fld 0 5), gd 75 71 true (.load false 1 74), gd 76 71 true (.idx 34 73 75), gd 77 71 true (.fld 4 76), gd 78 71 true (.load false 1 77),
 gd 79 71 true (.bin 0 .eql 78 (i 1)), o 80 (.pick 71 79 bF)])
 (.cond 80 (.seq (.dregion [(o 81 (.mov 0), []), (o 82 (.fld 0 3), []), (o 83 (.load false 1 82), [1]), (o 84 (.fld 0 5), []), (o 85 (.load false 1 84), [3]),
 (o 86 (.idx 34 83 85), [1, 2, 3, 4]), (o 87 (.fld 5 86), [1, 2, 3, 4, 5]), (o 88 (.load false 1 87), [1, 2, 3, 4, 5, 6]),
 (o 89 (.len false 88), [1, 2, 3, 4, 5, 6, 7]), (o 90 (.fld 0 3), []), (o 91 (.load false 1 90), [9]), (o 92 (.fld 0 5), []),
 (o 93 (.load false 1 92), [11]), (o 94 (.idx 34 91 93), [9, 10, 11, 12]), (o 95 (.fld 6 94), [9, 10, 11, 12, 13]),
 (o 96 (.load false 1 95), [9, 10, 11, 12, 13, 14]), (o 97 (.len false 96), [9, 10, 11, 12, 13, 14, 15]),
 (o 98 (.call s_goodCell [81, 89, 97]), [0, 1, 2, 3, 4, 5, 6, 7, 8, 9, 10, 11, 12, 13, 14, 15, 16]),
 (o 99 (.fld 16 5), [0, 1, 2, 3, 4, 5, 6, 7, 8, 9, 10, 11, 12, 13, 14, 15, 16, 17]),
 (u (.store 9 99 98), [0, 1, 2, 3, 4, 5, 6, 7, 8, 9, 10, 11, 12, 13, 14, 15, 16, 17, 18])])
 (.seq (.region [o 100 (.fld 16 5), o 101 (.fld 4 100), u (.store 1 101 (i 0))])
 (.region [o 102 (.fld 16 5), o 103 (.fld 5 102), u (.store 1 103 (i 0))])))
  .skip))
 (.region [o 104 (.fld 0 3), o 105 (.load false 1 104), o 106 (.load true 34 5), o 107 (.bslice 1 zNode [(0, 106)]), o 108 (.app 34 488671834567 105 107),
 o 109 (.fld 0 3), u (.store 1 109 108)]))))))))))
 (.region [o 12 (.mov 4), o 13 (.bin 0 .sub 12 (i 1)), o 4 (.mov 13)])))
def pf96 : PFunc := ⟨1, [true], false, false, [.cell 2 true 1],
  (.seq (.region [o 2 (.alloc zTree)])
 (.seq (.region [o 6 (.build zTree []), o 3 (.alloc zTree), u (.store 1 3 6)])
 (.seq (.seq (.region [o 7 (.mov 0), o 8 (.bslice 7 zInt [(0, i 5), (1, i 6), (2, i 4), (3, i 7), (4, i 3), (5, i 1), (6, i 10)]), o 9 (.call s_reader_one [7, 8]),
 o 4 (.mov 9)])
 (.block 0 (.loop [0, 2, 3, 4] [2, 3, 108, 1000, 1002, 1003, 2000] [2, 3] [2, 3, 108, 1000, 1002, 1003, 2000] b96_0)))
 (.seq (.region [o 110 (.load true 1 3), u (.store 1 2 110)])
 .ret))))⟩
def b97_0 : PCode :=
  (.seq (.seq (.region [o 12 (.mov 6), o 13 (.bin 0 .geq 12 (i 0))])
 (.cond 13 .skip
  (.exit 0)))
 (.seq (.block 1 (.seq (.region [o 17 (.mov 0), o 18 (.mov 6), o 19 (.idx 9 17 18), o 20 (.load true 9 19), o 21 (.call s_outer [20]), o 16 (.mov 21), o 22 (.ext 16 0), o 23 (.ext 16 1),
 o 7 (.mov 22), o 8 (.mov 23)])
 (.seq (.region [o 24 (.mov 0), o 25 (.mov 6), o 26 (.idx 9 24 25), o 27 (.fld 2 26), o 28 (.load false 1 27), o 29 (.call s_upright [28])])
 (.cond 29 (.seq (.region [o 30 (.mov 4), o 31 (.mov 7), o 32 (.mx [30, 31]), o 4 (.mov 32)])
 (.region [o 33 (.mov 5), o 34 (.mov 8), o 35 (.bin 0 .add 33 34), o 5 (.mov 35)]))
  (.seq (.region [o 36 (.mov 4), o 37 (.mov 7), o 38 (.bin 0 .add 36 37), o 4 (.mov 38)])
 (.region [o 39 (.mov 5), o 40 (.mov 8), o 41 (.mx [39, 40]), o 5 (.mov 41)]))))))
 (.region [o 14 (.mov 6), o 15 (.bin 0 .sub 14 (i 1)), o 6 (.mov 15)])))
def pf97 : PFunc := ⟨1, [], false, false, [.tmp 2, .tmp 3],
  (.seq (.region [o 2 (.mov (i 0)), o 3 (.mov (i 0))])
 (.seq (.region [o 4 (.mov (i 0))])
 (.seq (.region [o 5 (.mov (i 0))])
 (.seq (.seq (.region [o 9 (.mov 0), o 10 (.len false 9), o 11 (.bin 0 .sub 10 (i 1)), o 6 (.mov 11)])
 (.block 0 (.loop [0, 4, 5, 6] [] [2, 3, 4, 5] [] b97_0)))
 (.seq (.region [o 42 (.mov 4), o 43 (.mov 5), o 2 (.mov 42), o 3 (.mov 43)])
 .ret)))))⟩
def b98_0 : PCode :=
  (.seq (.seq (.region [o 11 (.mov 6), o 12 (.mov 1), o 13 (.len false 12), o 14 (.bin 0 .lss 11 13)])
 (.cond 14 .skip
  (.exit 0)))
 (.seq (.block 1 (.seq (.dregion [(o 17 (.fld 0 2), []), (o 18 (.load false 1 17), [0]), (o 19 (.mov 1), []), (o 20 (.mov 6), []), (o 21 (.idx 1 19 20), [2, 3]),
 (o 22 (.load false 1 21), [2, 3, 4]), (o 23 (.idx 34 18 22), [0, 1, 2, 3, 4, 5]), (o 24 (.fld 7 23), [0, 1, 2, 3, 4, 5, 6]),
 (o 25 (.load true 9 24), [0, 1, 2, 3, 4, 5, 6, 7]), (o 7 (.alloc zPack), []), (u (.store 9 7 25), [0, 1, 2, 3, 4, 5, 6, 7, 8, 9])])
 (.seq (.dregion [(o 27 (.load true 1 2), []), (o 28 (.mov 1), []), (o 29 (.mov 6), []), (o 30 (.idx 1 28 29), [1, 2]), (o 31 (.load false 1 30), [1, 2, 3]),
 (o 32 (.call s_sizeOf [27, 31]), [0, 1, 2, 3, 4]), (o 26 (.mov 32), [0, 1, 2, 3, 4, 5]), (o 33 (.ext 26 0), [0, 1, 2, 3, 4, 5, 6]),
 (o 34 (.ext 26 1), [0, 1, 2, 3, 4, 5, 6]), (o 8 (.mov 33), [0, 1, 2, 3, 4, 5, 6, 7]), (o 9 (.mov 34), [0, 1, 2, 3, 4, 5, 6, 7, 8, 9])])
 (.seq (.region [o 35 (.mov 8), o 36 (.fld 0 7), u (.store 1 36 35)])
 (.seq (.region [o 37 (.mov 9), o 38 (.fld 1 7), u (.store 1 38 37)])
 (.region [o 39 (.mov 5), o 40 (.load true 9 7), o 41 (.bslice 1 zPack [(0, 40)]), o 42 (.app 9 2513169434916 39 41), o 5 (.mov 42)]))))))
 (.region [o 15 (.mov 6), o 16 (.bin 0 .add 15 (i 1)), o 6 (.mov 16)])))
def pf98 : PFunc := ⟨2, [], false, false, [.tmp 4],
  (.seq (.region [o 2 (.box 0), o 4 (.mov nl)])
 (.seq (.region [o 10 (.bslice 0 zPack []), o 5 (.mov 10)])
 (.seq (.seq (.region [o 6 (.mov (i 0))])
 (.block 0 (.loop [1, 2, 5, 6] [2, 10, 42, 1002] [4, 5] [4, 10, 42] b98_0)))
 (.seq (.region [o 43 (.mov 5), o 4 (.mov 43)])
 .ret))))⟩
def pf99 : PFunc := ⟨1, [], false, false, [.tmp 2, .tmp 3],
  (.seq (.region [o 1 (.box 0), o 2 (.mov (i 0)), o 3 (.mov (i 0))])
 (.seq (.dregion [(o 4 (.fld 0 1), []), (o 5 (.load false 1 4), [0]), (o 6 (.load true 3 1), []), (o 7 (.call s_colSpans [6]), [2]),
 (o 8 (.call s_wished [5, 7]), [0, 1, 2, 3]), (o 9 (.call s_total [8]), [0, 1, 2, 3, 4]), (o 10 (.fld 1 1), []), (o 11 (.load false 1 10), [6]),
 (o 12 (.load true 3 1), []), (o 13 (.call s_rowSpans [12]), [0, 1, 2, 3, 4, 5, 8]), (o 14 (.call s_wished [11, 13]), [0, 1, 2, 3, 4, 5, 6, 7, 8, 9]),
 (o 15 (.call s_total [14]), [0, 1, 2, 3, 4, 5, 6, 7, 8, 9, 10]), (o 2 (.mov 9), [0, 1, 2, 3, 4, 5, 6, 7, 8, 9, 10, 11]),
 (o 3 (.mov 15), [0, 1, 2, 3, 4, 5, 6, 7, 8, 9, 10, 11, 12])])
 .ret))⟩
def b100_0 : PCode :=
  (.seq (.seq (.region [o 25 (.mov 8), o 26 (.mov 2), o 27 (.len false 26), o 28 (.bin 0 .lss 25 27)])
 (.cond 28 .skip
  (.exit 0)))
 (.seq (.block 1 (.seq (.dregion [(o 31 (.fld 0 3), []), (o 32 (.load false 1 31), [0]), (o 33 (.mov 2), []), (o 34 (.mov 8), []), (o 35 (.idx 1 33 34), [2, 3]),
 (o 36 (.load false 1 35), [2, 3, 4]), (o 37 (.idx 34 32 36), [0, 1, 2, 3, 4, 5]), (o 38 (.fld 16 37), [0, 1, 2, 3, 4, 5, 6]),
 (o 39 (.load true 9 38), [0, 1, 2, 3, 4, 5, 6, 7]), (o 9 (.alloc zCell), []), (u (.store 9 9 39), [0, 1, 2, 3, 4, 5, 6, 7, 8, 9])])
 (.seq (.dregion [(o 41 (.load true 1 3), []), (o 42 (.mov 2), []), (o 43 (.mov 8), []), (o 44 (.idx 1 42 43), [1, 2]), (o 45 (.load false 1 44), [1, 2, 3]),
 (o 46 (.call s_sizeOf [41, 45]), [0, 1, 2, 3, 4]), (o 40 (.mov 46), [0, 1, 2, 3, 4, 5]), (o 47 (.ext 40 0), [0, 1, 2, 3, 4, 5, 6]),
 (o 48 (.ext 40 1), [0, 1, 2, 3, 4, 5, 6]), (o 10 (.mov 47), [0, 1, 2, 3, 4, 5, 6, 7]), (o 11 (.mov 48), [0, 1, 2, 3, 4, 5, 6, 7, 8, 9])])
 (.seq (.region [o 49 (.mov 10), o 50 (.fld 4 9), u (.store 1 50 49)])
 (.seq (.region [o 51 (.mov 11), o 52 (.fld 5 9), u (.store 1 52 51)])
 (.region [o 53 (.fld 2 7), o 54 (.load false 1 53), o 55 (.load true 9 9), o 56 (.bslice 1 zCell [(0, 55)]), o 57 (.app 9 1954687338268 54 56), o 58 (.fld 2 7),
 u (.store 1 58 57)]))))))
 (.region [o 29 (.mov 8), o 30 (.bin 0 .add 29 (i 1)), o 8 (.mov 30)])))
def pf100 : PFunc := ⟨3, [], false, false, [.cell 6 true 3],
  (.seq (.region [o 3 (.box 0), o 6 (.alloc zGrid)])
 (.seq (.dregion [(o 12 (.fld 0 3), []), (o 13 (.load false 1 12), [0]), (o 14 (.mov 1), []), (o 15 (.idx 34 13 14), [0, 1, 2]), (o 16 (.fld 5 15), [0, 1, 2, 3]),
 (o 17 (.load false 1 16), [0, 1, 2, 3, 4]), (o 18 (.fld 0 3), []), (o 19 (.load false 1 18), [6]), (o 20 (.mov 1), []),
 (o 21 (.idx 34 19 20), [6, 7, 8]), (o 22 (.fld 6 21), [6, 7, 8, 9]), (o 23 (.load false 1 22), [6, 7, 8, 9, 10]),
 (o 24 (.build zGrid [(0, 1, 17), (1, 1, 23)]), [0, 1, 2, 3, 4, 5, 6, 7, 8, 9, 10, 11]), (o 7 (.alloc zGrid), []),
 (u (.store 3 7 24), [0, 1, 2, 3, 4, 5, 6, 7, 8, 9, 10, 11, 12, 13])])
 (.seq (.seq (.region [o 8 (.mov (i 0))])
 (.block 0 (.loop [2, 3, 6, 7, 8] [3, 6, 7, 57, 1003, 1006, 1007, 2006, 2007, 3006, 3007] [6, 7] [3, 6, 7, 57, 1003, 1006, 1007, 2006, 2007, 3006, 3007] b100_0)))
 (.seq (.region [o 59 (.load true 3 7), u (.store 3 6 59)])
 .ret))))⟩
def pf107 : PFunc := ⟨1, [], false, false, [.tmp 2],
  (.seq (.region [o 1 (.box 0), o 2 (.mov bF)])
 (.seq (.region [o 3 (.fld 0 1), o 4 (.load false 1 3), o 5 (.call i_within [4, i 0, i 30]), o 6 (.mov 5), gd 7 6 true (.fld 1 1), gd 8 6 true (.load false 1 7),
 gd 9 6 true (.call i_within [8, i 0, i 30]), o 10 (.pick 6 9 bF), o 11 (.mov 10), gd 12 11 true (.fld 2 1), gd 13 11 true (.load false 1 12),
 gd 14 11 true (.call i_within [13, i 0, i 3]), o 15 (.pick 11 14 bF), o 16 (.mov 15), gd 17 16 true (.fld 6 1), gd 18 16 true (.load false 1 17),
 gd 19 16 true (.call i_within [18, i 0, i 8]), o 20 (.pick 16 19 bF), o 21 (.mov 20), gd 22 21 true (.fld 7 1), gd 23 21 true (.load false 1 22),
 gd 24 21 true (.call i_within [23, i 0, i 10]), o 25 (.pick 21 24 bF), o 26 (.mov 25), gd 27 26 true (.fld 8 1), gd 28 26 true (.load false 1 27),
 gd 29 26 true (.call i_within [28, i 0, i 10]), o 30 (.pick 26 29 bF), o 2 (.mov 30)])
 .ret))⟩
def b108_0 : PCode :=
  (.seq (.region [o 18 (.bin 0 .lss 17 16)])
 (.seq (.cond 18 .skip
  (.exit 0))
 (.seq (.block 1 (.seq (.region [o 19 (.idx 1 15 17), o 20 (.load false 1 19), o 4 (.mov 20)])
 (.seq (.region [o 21 (.mov 4), o 22 (.call i_within [21, i (-300), i 300]), o 23 (.not 22)])
 (.cond 23 (.seq (.region [o 2 (.mov bF)])
 .ret)
  .skip))))
 (.region [o 24 (.bin 0 .add 17 (i 1)), o 17 (.mov 24)]))))
def b108_1 : PCode :=
  (.seq (.region [o 36 (.bin 0 .lss 35 34)])
 (.seq (.cond 36 .skip
  (.exit 2))
 (.seq (.block 3 (.seq (.region [o 37 (.idx 1 33 35), o 38 (.load false 1 37), o 6 (.mov 38)])
 (.seq (.region [o 39 (.mov 6), o 40 (.call i_within [39, i 0, i 1000]), o 41 (.not 40)])
 (.cond 41 (.seq (.region [o 2 (.mov bF)])
 .ret)
  .skip))))
 (.region [o 42 (.bin 0 .add 35 (i 1)), o 35 (.mov 42)]))))
def pf108 : PFunc := ⟨1, [], false, false, [.tmp 2],
  (.seq (.region [o 1 (.box 0), o 2 (.mov bF)])
 (.seq (.seq (.region [o 7 (.fld 0 1), o 8 (.load false 1 7), o 9 (.fld 1 1), o 10 (.load false 1 9), o 11 (.fld 4 1), o 12 (.load false 1 11), o 13 (.fld 5 1),
 o 14 (.load false 1 13), o 15 (.bslice 4 zInt [(0, 8), (1, 10), (2, 12), (3, 14)]), o 16 (.len false 15), o 17 (.mov (i 0))])
 (.block 0 (.loop [1, 15, 16, 17] [1, 15] [1, 2] [1] b108_0)))
 (.seq (.seq (.region [o 25 (.fld 2 1), o 26 (.load false 1 25), o 27 (.fld 3 1), o 28 (.load false 1 27), o 29 (.fld 6 1), o 30 (.load false 1 29), o 31 (.fld 7 1),
 o 32 (.load false 1 31), o 33 (.bslice 4 zInt [(0, 26), (1, 28), (2, 30), (3, 32)]), o 34 (.len false 33), o 35 (.mov (i 0))])
 (.block 2 (.loop [1, 33, 34, 35] [1, 33] [1, 2] [1] b108_1)))
 (.seq (.region [o 43 (.fld 8 1), o 44 (.load false 1 43), o 45 (.call i_within [44, i 0, i 8]), o 2 (.mov 45)])
 .ret))))⟩
def pf109 : PFunc := ⟨1, [], false, false, [.tmp 2],
  (.seq (.region [o 2 (.mov bF)])
 (.seq (.region [o 3 (.mov 0), o 4 (.len false 3), o 5 (.call i_within [4, i 1, i 5]), o 6 (.mov 5), gd 7 6 true (.mov 0),
 gd 8 6 true (.call x_ContainsFunc_Line [7, .k (.fn i_linesOk_1)]), gd 9 6 true (.not 8), o 10 (.pick 6 9 bF), o 2 (.mov 10)])
 .ret))⟩
def pf110 : PFunc := ⟨3, [], false, false, [.tmp 6],
  (.seq (.region [o 6 (.mov bF)])
 (.seq (.region [o 7 (.mov 0), o 8 (.mov 2), o 9 (.bin 0 .sub 8 (i 1)), o 10 (.call i_within [7, i 0, 9]), o 11 (.mov 10), gd 12 11 true (.mov 1), gd 13 11 true (.mov 2),
 gd 14 11 true (.mov 0), gd 15 11 true (.bin 0 .sub 13 14), gd 16 11 true (.call i_within [12, i 1, 15]), o 17 (.pick 11 16 bF), o 6 (.mov 17)])
 .ret))⟩
def pf115 : PFunc := ⟨1, [], false, false, [.tmp 2, .tmp 3],
  (.seq (.region [o 1 (.box 0), o 2 (.mov (i 0)), o 3 (.mov (i 0))])
 (.seq (.dregion [(o 4 (.fld 0 1), []), (o 5 (.load false 1 4), [0]), (o 6 (.fld 7 1), []), (o 7 (.load false 1 6), [2]), (o 8 (.bin 0 .mul (i 2) 7), [2, 3]),
 (o 9 (.bin 0 .add 5 8), [0, 1, 2, 3, 4]), (o 10 (.fld 1 1), []), (o 11 (.load false 1 10), [6]), (o 12 (.fld 8 1), []), (o 13 (.load false 1 12), [8]),
 (o 14 (.bin 0 .mul (i 2) 13), [8, 9]), (o 15 (.bin 0 .add 11 14), [6, 7, 8, 9, 10]), (o 2 (.mov 9), [0, 1, 2, 3, 4, 5]),
 (o 3 (.mov 15), [0, 1, 2, 3, 4, 5, 6, 7, 8, 9, 10, 11, 12])])
 .ret))⟩
def pf116 : PFunc := ⟨1, [], false, false, [.tmp 2],
  (.seq (.region [o 1 (.box 0), o 2 (.mov bF)])
 (.seq (.region [o 3 (.fld 2 1), o 4 (.load false 1 3), o 5 (.bin 0 .eql 4 (i 0)), o 6 (.mov 5), gd 7 6 false (.fld 2 1), gd 8 6 false (.load false 1 7),
 gd 9 6 false (.bin 0 .eql 8 (i 1)), o 10 (.pick 6 bT 9), o 2 (.mov 10)])
 .ret))⟩
def b117_0 : PCode :=
  (.seq (.region [o 12 (.bin 0 .lss 11 10)])
 (.seq (.cond 12 .skip
  (.exit 0))
 (.seq (.block 1 (.seq (.region [o 13 (.idx 9 9 11), o 14 (.load true 9 13), o 7 (.alloc zCell), u (.store 9 7 14)])
 (.seq (.region [o 15 (.mov 4), o 16 (.fld 0 7), o 17 (.load false 1 16), o 18 (.fld 2 7), o 19 (.load false 1 18), o 20 (.fld 4 7), o 21 (.load false 1 20),
 o 22 (.fld 7 7), o 23 (.load false 1 22), o 24 (.bin 0 .mul (i 2) 23), o 25 (.bin 0 .add 21 24),
 o 26 (.build zSpan [(0, 1, 17), (1, 1, 19), (2, 1, 25)]), o 27 (.bslice 1 zSpan [(0, 26)]), o 28 (.app 3 5864062014805 15 27), o 4 (.mov 28)])
 (.region [o 29 (.mov 5), o 30 (.fld 1 7), o 31 (.load false 1 30), o 32 (.fld 3 7), o 33 (.load false 1 32), o 34 (.fld 5 7), o 35 (.load false 1 34),
 o 36 (.fld 8 7), o 37 (.load false 1 36), o 38 (.bin 0 .mul (i 2) 37), o 39 (.bin 0 .add 35 38),
 o 40 (.build zSpan [(0, 1, 31), (1, 1, 33), (2, 1, 39)]), o 41 (.bslice 1 zSpan [(0, 40)]), o 42 (.app 3 5864062014805 29 41), o 5 (.mov 42)]))))
 (.region [o 43 (.bin 0 .add 11 (i 1)), o 11 (.mov 43)]))))
def pf117 : PFunc := ⟨1, [], false, false, [.tmp 2, .tmp 3],
  (.seq (.region [o 1 (.box 0), o 2 (.mov nl), o 3 (.mov nl)])
 (.seq (.region [o 4 .nilroot, o 5 .nilroot])
 (.seq (.seq (.region [o 8 (.fld 2 1), o 9 (.load false 1 8), o 10 (.len false 9), o 11 (.mov (i 0))])
 (.block 0 (.loop [4, 5, 9, 10, 11] [1, 4, 5, 28, 42, 1001, 2001, 3001] [2, 3, 4, 5] [2, 3, 4, 5, 28, 42] b117_0)))
 (.seq (.region [o 44 (.mov 4), o 45 (.mov 5), o 2 (.mov 44), o 3 (.mov 45)])
 .ret))))⟩
def b118_0 : PCode :=
  (.seq (.region [o 9 (.bin 0 .lss 8 7)])
 (.seq (.cond 9 .skip
  (.exit 0))
 (.seq (.block 1 (.seq (.region [o 10 (.idx 1 6 8), o 11 (.load false 1 10), o 5 (.mov 11)])
 (.region [o 12 (.mov 3), o 13 (.mov 5), o 14 (.bin 0 .add 12 13), o 3 (.mov 14)])))
 (.region [o 15 (.bin 0 .add 8 (i 1)), o 8 (.mov 15)]))))
def pf118 : PFunc := ⟨1, [], false, false, [.tmp 2],
  (.seq (.region [o 2 (.mov (i 0))])
 (.seq (.region [o 3 (.mov (i 0))])
 (.seq (.seq (.region [o 6 (.mov 0), o 7 (.len false 6), o 8 (.mov (i 0))])
 (.block 0 (.loop [3, 6, 7, 8] [] [2, 3] [] b118_0)))
 (.seq (.region [o 16 (.mov 3), o 2 (.mov 16)])
 .ret))))⟩
def b119_0 : PCode :=
  (.seq (.region [o 18 (.bin 0 .lss 17 16)])
 (.seq (.cond 18 .skip
  (.exit 0))
 (.seq (.block 1 (.seq (.region [o 19 (.idx 2 15 17), o 20 (.load true 2 19), o 7 (.alloc zLine), u (.store 2 7 20)])
 (.region [o 21 (.mov 5), o 22 (.fld 1 7), o 23 (.load false 1 22), o 24 (.bslice 1 zInt [(0, 23)]), o 25 (.app 1 17592186044416 21 24), o 5 (.mov 25)])))
 (.region [o 26 (.bin 0 .add 17 (i 1)), o 17 (.mov 26)]))))
def b119_3 : PCode :=
  (.seq (.region [o 69 (.bin 0 .lss 68 67)])
 (.seq (.cond 69 .skip
  (.exit 6))
 (.seq (.block 7 (.seq (.region [o 70 (.mov 68), o 71 (.idx 1 66 68), o 72 (.load false 1 71), o 13 (.mov 70), o 14 (.mov 72)])
 (.region [o 73 (.mov 5), o 74 (.fld 0 10), o 75 (.load false 1 74), o 76 (.mov 13), o 77 (.bin 0 .add 75 76), o 78 (.idx 1 73 77), o 79 (.load false 1 78),
 o 80 (.mov 14), o 81 (.bin 0 .add 79 80), o 82 (.idx 1 73 77), u (.store 1 82 81)])))
 (.region [o 83 (.bin 0 .add 68 (i 1)), o 68 (.mov 83)]))))
def b119_2 : PCode :=
  (.seq (.region [o 36 (.bin 0 .lss 35 34)])
 (.seq (.cond 36 .skip
  (.exit 4))
 (.seq (.block 5 (.seq (.region [o 37 (.idx 3 33 35), o 38 (.load true 3 37), o 10 (.alloc zSpan), u (.store 3 10 38)])
 (.seq (.seq (.region [o 39 (.fld 1 10), o 40 (.load false 1 39), o 41 (.mov 8), o 42 (.bin 0 .neq 40 41)])
 (.cond 42 (.exit 5)
  .skip))
 (.seq (.region [o 43 (.fld 0 10), o 44 (.load false 1 43), o 45 (.fld 1 10), o 46 (.load false 1 45), o 47 (.bin 0 .add 44 46), o 11 (.mov 47)])
 (.seq (.dregion [(o 48 (.fld 2 10), []), (o 49 (.load false 1 48), [0]), (o 50 (.mov 5), []), (o 51 (.fld 0 10), []), (o 52 (.load false 1 51), [3]),
 (o 53 (.mov 11), []), (o 54 (.slice false 1 50 (some 52) (some 53)), [2, 3, 4, 5]), (o 55 (.call i_sum [54]), [2, 3, 4, 5, 6]),
 (o 56 (.bin 0 .sub 49 55), [0, 1, 2, 3, 4, 5, 6, 7]), (o 12 (.mov 56), [0, 1, 2, 3, 4, 5, 6, 7, 8])])
 (.seq (.region [o 57 (.mov 12), o 58 (.bin 0 .gtr 57 (i 0))])
 (.cond 58 (.seq (.region [o 59 (.mov 12), o 60 (.mov 0), o 61 (.fld 0 10), o 62 (.load false 1 61), o 63 (.mov 11), o 64 (.slice false 2 60 (some 62) (some 63)),
 o 65 (.call i_weightsOf [64]), o 66 (.call i_spread [59, 65]), o 67 (.len false 66), o 68 (.mov (i 0))])
 (.block 6 (.loop [0, 1, 5, 8, 10, 33, 34, 35, 66, 67, 68] [5, 10, 25, 1066] [0, 1, 4, 5, 8, 33, 34, 35] [4, 5, 25] b119_3)))
  .skip)))))))
 (.region [o 84 (.bin 0 .add 35 (i 1)), o 35 (.mov 84)]))))
def b119_1 : PCode :=
  (.seq (.seq (.region [o 27 (.mov 8), o 28 (.mov 0), o 29 (.len false 28), o 30 (.bin 0 .leq 27 29)])
 (.cond 30 .skip
  (.exit 2)))
 (.seq (.block 3 (.seq (.region [o 33 (.mov 1), o 34 (.len false 33), o 35 (.mov (i 0))])
 (.block 4 (.loop [0, 1, 5, 8, 33, 34, 35] [5, 25] [0, 1, 4, 5, 8] [4, 5, 25] b119_2))))
 (.region [o 31 (.mov 8), o 32 (.bin 0 .add 31 (i 1)), o 8 (.mov 32)])))
def pf119 : PFunc := ⟨2, [], false, false, [.tmp 4],
  (.seq (.region [o 4 (.mov nl)])
 (.seq (.region [o 5 .nilroot])
 (.seq (.seq (.region [o 15 (.mov 0), o 16 (.len false 15), o 17 (.mov (i 0))])
 (.block 0 (.loop [0, 1, 5, 15, 16, 17] [5, 25] [0, 1, 4, 5] [4, 5, 25] b119_0)))
 (.seq (.seq (.region [o 8 (.mov (i 1))])
 (.block 2 (.loop [0, 1, 5, 8] [5, 25] [4, 5] [4, 5, 25] b119_1)))
 (.seq (.region [o 85 (.mov 5), o 4 (.mov 85)])
 .ret)))))⟩
def b120_0 : PCode :=
  (.seq (.region [o 21 (.bin 0 .lss 20 19)])
 (.seq (.cond 21 .skip
  (.exit 0))
 (.seq (.block 1 (.seq (.region [o 22 (.mov 20), o 23 (.idx 9 18 20), o 24 (.load true 9 23), o 11 (.alloc zPack), o 10 (.mov 22), u (.store 9 11 24)])
 (.seq (.dregion [(o 25 (.load true 9 11), []), (o 26 (.load true 9 11), []), (o 27 (.call i_Pack_down [26]), [1]), (o 28 (.call i_Pack_need [25, 27]), [0, 1, 2]),
 (o 12 (.mov 28), [0, 1, 2, 3])])
 (.seq (.seq (.region [o 29 (.fld 5 11), o 30 (.load false 1 29)])
 (.cond 30 (.seq (.region [o 31 (.fld 2 8), o 32 (.load false 1 31), o 13 (.mov 32)])
 (.seq (.seq (.region [o 33 (.load true 9 11), o 34 (.call i_Pack_down [33])])
 (.cond 34 (.region [o 35 (.fld 3 8), o 36 (.load false 1 35), o 13 (.mov 36)])
  .skip))
 (.dregion [(o 37 (.mov 12), []), (o 38 (.mov 0), []), (o 39 (.mov 10), []), (o 40 (.slice false 9 38 (some 39) none), [1, 2]), (o 41 (.mov 13), []),
 (o 42 (.load true 9 11), []), (o 43 (.call i_Pack_down [42]), [5]), (o 44 (.call i_expandShare [40, 41, 43]), [1, 2, 3, 4, 5, 6]),
 (o 45 (.bin 0 .add 37 44), [0, 1, 2, 3, 4, 5, 6, 7]), (o 12 (.mov 45), [0, 1, 2, 3, 4, 5, 6, 7, 8])])))
  .skip))
 (.seq (.region [o 14 (.alloc zRect)])
 (.seq (.region [o 47 (.load true 4 8), o 48 (.fld 2 11), o 49 (.load false 1 48), o 50 (.mov 12), o 51 (.call i_Rect_cut [47, 49, 50]), o 46 (.mov 51), o 52 (.ext 46 0),
 o 53 (.ext 46 1), u (.store 4 14 52), u (.store 4 8 53)])
 (.region [o 54 (.mov 9), o 55 (.load true 4 14), o 56 (.bslice 1 zRect [(0, 55)]), o 57 (.app 4 4398046511104 54 56), o 9 (.mov 57)])))))))
 (.region [o 58 (.bin 0 .add 20 (i 1)), o 20 (.mov 58)]))))
def pf120 : PFunc := ⟨3, [], false, false, [.tmp 6, .cell 7 true 4],
  (.seq (.region [o 6 (.mov nl), o 7 (.alloc zRect)])
 (.seq (.region [o 15 (.mov 1), o 16 (.mov 2), o 17 (.build zRect [(2, 1, 15), (3, 1, 16)]), o 8 (.alloc zRect), u (.store 4 8 17)])
 (.seq (.region [o 9 .nilroot])
 (.seq (.seq (.region [o 18 (.mov 0), o 19 (.len false 18), o 20 (.mov (i 0))])
 (.block 0 (.loop [0, 7, 8, 9, 18, 19, 20] [7, 8, 9, 57] [6, 7, 8, 9] [6, 7, 8, 9, 57] b120_0)))
 (.seq (.dregion [(o 59 (.mov 9), []), (o 60 (.load true 4 8), []), (o 6 (.mov 59), [0]), (u (.store 4 7 60), [0, 1, 2])])
 .ret)))))⟩
def pf121 : PFunc := ⟨3, [], false, false, [.cell 6 true 4],
  (.seq (.region [o 3 (.box 0), o 6 (.alloc zRect)])
 (.seq (.region [o 7 (.fld 0 3), o 8 (.load false 1 7), o 9 (.mov 1), o 10 (.fld 2 3), o 11 (.load false 1 10), o 12 (.bin 0 .quo 11 (i 2)), o 13 (.mn [9, 12]),
 o 14 (.bin 0 .add 8 13), o 15 (.fld 1 3), o 16 (.load false 1 15), o 17 (.mov 2), o 18 (.fld 3 3), o 19 (.load false 1 18), o 20 (.bin 0 .quo 19 (i 2)),
 o 21 (.mn [17, 20]), o 22 (.bin 0 .add 16 21), o 23 (.fld 2 3), o 24 (.load false 1 23), o 25 (.mov 1), o 26 (.bin 0 .mul (i 2) 25),
 o 27 (.bin 0 .sub 24 26), o 28 (.mx [27, i 0]), o 29 (.fld 3 3), o 30 (.load false 1 29), o 31 (.mov 2), o 32 (.bin 0 .mul (i 2) 31),
 o 33 (.bin 0 .sub 30 32), o 34 (.mx [33, i 0]), o 35 (.build zRect [(0, 1, 14), (1, 1, 22), (2, 1, 28), (3, 1, 34)]), u (.store 4 6 35)])
 .ret))⟩
def pf122 : PFunc := ⟨4, [], false, false, [.cell 8 true 4],
  (.seq (.region [o 4 (.box 0), o 8 (.alloc zRect)])
 (.seq (.dregion [(o 9 (.mov 1), []), (o 10 (.fld 2 4), []), (o 11 (.load false 1 10), [1]), (o 12 (.mn [9, 11]), [0, 1, 2]), (o 13 (.mov 2), []), (o 14 (.fld 3 4), []),
 (o 15 (.load false 1 14), [5]), (o 16 (.mn [13, 15]), [4, 5, 6]), (o 1 (.mov 12), [0, 1, 2, 3]), (o 2 (.mov 16), [0, 1, 2, 3, 4, 5, 6, 7, 8])])
 (.seq (.dregion [(o 17 (.fld 0 4), []), (o 18 (.load false 1 17), [0]), (o 19 (.fld 2 4), []), (o 20 (.load false 1 19), [2]), (o 21 (.mov 1), []),
 (o 22 (.bin 0 .sub 20 21), [2, 3, 4]), (o 23 (.mov 3), []), (o 24 (.bin 0 .rem 23 (i 3)), [6]), (o 25 (.call i_part [22, 24]), [2, 3, 4, 5, 6, 7]),
 (o 26 (.bin 0 .add 18 25), [0, 1, 2, 3, 4, 5, 6, 7, 8]), (o 27 (.fld 1 4), []), (o 28 (.load false 1 27), [10]), (o 29 (.fld 3 4), []),
 (o 30 (.load false 1 29), [12]), (o 31 (.mov 2), []), (o 32 (.bin 0 .sub 30 31), [12, 13, 14]), (o 33 (.mov 3), []), (o 34 (.bin 0 .quo 33 (i 3)), [16]),
 (o 35 (.call i_part [32, 34]), [2, 3, 4, 5, 6, 7, 8, 12, 13, 14, 15, 16, 17]),
 (o 36 (.bin 0 .add 28 35), [2, 3, 4, 5, 6, 7, 8, 10, 11, 12, 13, 14, 15, 16, 17, 18]), (o 37 (.mov 1), []), (o 38 (.mov 2), []),
 (o 39 (.build zRect [(0, 1, 26), (1, 1, 36), (2, 1, 37), (3, 1, 38)]), [0, 1, 2, 3, 4, 5, 6, 7, 8, 9, 10, 11, 12, 13, 14, 15, 16, 17, 18, 19, 20, 21]),
 (u (.store 4 8 39), [0, 1, 2, 3, 4, 5, 6, 7, 8, 9, 10, 11, 12, 13, 14, 15, 16, 17, 18, 19, 20, 21, 22])])
 .ret)))⟩
def b123_0 : PCode :=
  (.seq (.region [o 39 (.bin 0 .lss 38 37)])
 (.seq (.cond 39 .skip
  (.exit 0))
 (.seq (.block 1 (.seq (.region [o 40 (.mov 38), o 41 (.idx 1 36 38), o 42 (.load false 1 41), o 10 (.mov 40), o 11 (.mov 42)])
 (.region [o 43 (.mov 7), o 44 (.mov 10), o 45 (.idx 1 43 44), o 46 (.load false 1 45), o 47 (.mov 11), o 48 (.bin 0 .add 46 47), o 49 (.idx 1 43 44),
 u (.store 1 49 48)])))
 (.region [o 50 (.bin 0 .add 38 (i 1)), o 38 (.mov 50)]))))
def b123_2 : PCode :=
  (.seq (.region [o 63 (.bin 0 .lss 62 61)])
 (.seq (.cond 63 .skip
  (.exit 4))
 (.seq (.block 5 (.seq (.region [o 64 (.mov 62), o 65 (.idx 2 60 62), o 66 (.load true 2 65), o 15 (.alloc zLine), o 14 (.mov 64), u (.store 2 15 66)])
 (.seq (.dregion [(o 67 (.mov 7), []), (o 68 (.mov 14), []), (o 69 (.idx 1 67 68), [0, 1]), (o 70 (.load false 1 69), [0, 1, 2]), (o 71 (.fld 1 15), []),
 (o 72 (.load false 1 71), [4]), (o 73 (.bin 0 .gtr 70 72), [0, 1, 2, 3, 4, 5])])
 (.cond 73 (.region [o 74 (.mov 13), o 75 (.mov 14), o 76 (.fld 0 15), o 77 (.load false 1 76), o 78 (.idx 1 74 75), u (.store 1 78 77)])
  .skip))))
 (.region [o 79 (.bin 0 .add 62 (i 1)), o 62 (.mov 79)]))))
def b123_3 : PCode :=
  (.seq (.region [o 88 (.bin 0 .lss 87 86)])
 (.seq (.cond 88 .skip
  (.exit 6))
 (.seq (.block 7 (.seq (.region [o 89 (.mov 87), o 90 (.idx 1 85 87), o 91 (.load false 1 90), o 16 (.mov 89), o 17 (.mov 91)])
 (.seq (.dregion [(o 92 (.mov 17), []), (o 93 (.mov 7), []), (o 94 (.mov 16), []), (o 95 (.idx 1 93 94), [1, 2]), (o 96 (.load false 1 95), [1, 2, 3]),
 (o 97 (.mov 0), []), (o 98 (.mov 16), []), (o 99 (.idx 2 97 98), [5, 6]), (o 100 (.fld 1 99), [5, 6, 7]), (o 101 (.load false 1 100), [5, 6, 7, 8]),
 (o 102 (.bin 0 .sub 96 101), [1, 2, 3, 4, 5, 6, 7, 8, 9]), (o 103 (.mn [92, 102]), [0, 1, 2, 3, 4, 5, 6, 7, 8, 9, 10]),
 (o 17 (.mov 103), [0, 1, 2, 3, 4, 5, 6, 7, 8, 9, 10, 11])])
 (.seq (.region [o 104 (.mov 7), o 105 (.mov 16), o 106 (.idx 1 104 105), o 107 (.load false 1 106), o 108 (.mov 17), o 109 (.bin 0 .sub 107 108), o 110 (.idx 1 104 105),
 u (.store 1 110 109)])
 (.region [o 111 (.mov 12), o 112 (.mov 17), o 113 (.bin 0 .sub 111 112), o 12 (.mov 113)])))))
 (.region [o 114 (.bin 0 .add 87 (i 1)), o 87 (.mov 114)]))))
def b123_1 : PCode :=
  (.seq (.seq (.region [o 55 (.mov 12), o 56 (.bin 0 .gtr 55 (i 0))])
 (.cond 56 .skip
  (.exit 2)))
 (.block 3 (.seq (.region [o 57 (.mov 0), o 58 (.len false 57), o 59 (.mk zInt 17592186044416 58), o 13 (.mov 59)])
 (.seq (.seq (.region [o 60 (.mov 0), o 61 (.len false 60), o 62 (.mov (i 0))])
 (.block 4 (.loop [0, 7, 12, 13, 60, 61, 62] [59, 1020] [0, 6, 7, 12, 13] [6, 59, 1020] b123_2)))
 (.seq (.seq (.region [o 80 (.mov 13), o 81 (.call i_sum [80]), o 82 (.bin 0 .eql 81 (i 0))])
 (.cond 82 (.exit 2)
  .skip))
 (.seq (.region [o 83 (.mov 12), o 84 (.mov 13), o 85 (.call i_spread [83, 84]), o 86 (.len false 85), o 87 (.mov (i 0))])
 (.block 6 (.loop [0, 7, 12, 85, 86, 87] [1020, 1085] [0, 6, 7, 12] [6, 1020] b123_3))))))))
def pf123 : PFunc := ⟨3, [], false, false, [.tmp 6],
  (.seq (.region [o 6 (.mov nl)])
 (.seq (.region [o 18 (.mov 0), o 19 (.mov 1), o 20 (.call i_lineRequests [18, 19]), o 7 (.mov 20)])
 (.seq (.region [o 21 (.mov 0), o 22 (.call i_weightsOf [21]), o 8 (.mov 22)])
 (.seq (.seq (.region [o 23 (.mov 2), o 24 (.mov 7), o 25 (.call i_sum [24]), o 26 (.bin 0 .sub 23 25), o 9 (.mov 26)])
 (.seq (.region [o 27 (.mov 9), o 28 (.bin 0 .gtr 27 (i 0)), o 29 (.mov 28), gd 30 29 true (.mov 8), gd 31 29 true (.call i_sum [30]),
 gd 32 29 true (.bin 0 .gtr 31 (i 0)), o 33 (.pick 29 32 bF)])
 (.cond 33 (.seq (.region [o 34 (.mov 9), o 35 (.mov 8), o 36 (.call i_spread [34, 35]), o 37 (.len false 36), o 38 (.mov (i 0))])
 (.block 0 (.loop [0, 2, 7, 36, 37, 38] [1020, 1036] [0, 2, 6, 7] [6, 1020] b123_0)))
  .skip)))
 (.seq (.seq (.region [o 51 (.mov 7), o 52 (.call i_sum [51]), o 53 (.mov 2), o 54 (.bin 0 .sub 52 53), o 12 (.mov 54)])
 (.block 2 (.loop [0, 7, 12] [1020] [6, 7] [6, 1020] b123_1)))
 (.seq (.region [o 115 (.mov 7), o 6 (.mov 115)])
 .ret))))))⟩
def pf124 : PFunc := ⟨4, [], false, false, [.tmp 8, .tmp 9],
  (.seq (.region [o 8 (.mov (i 0)), o 9 (.mov (i 0))])
 (.seq (.region [o 10 (.mov 1), o 11 (.mov 0), o 12 (.mn [10, 11]), o 1 (.mov 12)])
 (.seq (.block 0 (.seq (.region [o 14 (.mov 2), o 15 (.mov 14), gd 16 15 true (.mov 3), o 17 (.pick 15 16 bF), o 13 (.mov 17)])
 (.cond 13 (.seq (.region [o 18 (.mov 0), o 8 (.mov (i 0)), o 9 (.mov 18)])
 .ret)
  (.seq (.region [o 20 (.mov 2), o 19 (.mov 20)])
 (.cond 19 (.seq (.region [o 21 (.mov 1), o 8 (.mov (i 0)), o 9 (.mov 21)])
 .ret)
  (.seq (.region [o 23 (.mov 3), o 22 (.mov 23)])
 (.cond 22 (.seq (.region [o 24 (.mov 0), o 25 (.mov 1), o 26 (.bin 0 .sub 24 25), o 27 (.mov 1), o 8 (.mov 26), o 9 (.mov 27)])
 .ret)
  .skip)))))))
 (.seq (.region [o 28 (.mov 0), o 29 (.mov 1), o 30 (.bin 0 .sub 28 29), o 31 (.bin 0 .quo 30 (i 2)), o 32 (.mov 1), o 8 (.mov 31), o 9 (.mov 32)])
 .ret))))⟩
def pf125 : PFunc := ⟨2, [], false, false, [.tmp 4],
  (.seq (.region [o 4 (.mov (i 0))])
 (.seq (.region [o 5 (.mov 0), o 6 (.mov 1), o 7 (.bin 0 .mul 5 6), o 8 (.bin 0 .quo 7 (i 2)), o 4 (.mov 8)])
 .ret))⟩
def pf126 : PFunc := ⟨1, [], false, false, [.tmp 2],
  (.seq (.region [o 1 (.box 0), o 2 (.mov bF)])
 (.seq (.region [o 3 (.fld 0 1), o 4 (.load false 1 3), o 5 (.call s_inRange [4, i 0, i 30]), o 6 (.mov 5), gd 7 6 true (.fld 1 1), gd 8 6 true (.load false 1 7),
 gd 9 6 true (.call s_inRange [8, i 0, i 30]), o 10 (.pick 6 9 bF), o 11 (.mov 10), gd 12 11 true (.fld 2 1), gd 13 11 true (.load false 1 12),
 gd 14 11 true (.call s_validSide [13]), o 15 (.pick 11 14 bF), o 16 (.mov 15), gd 17 16 true (.fld 6 1), gd 18 16 true (.load false 1 17),
 gd 19 16 true (.call s_validAnchor [18]), o 20 (.pick 16 19 bF), o 21 (.mov 20), gd 22 21 true (.fld 7 1), gd 23 21 true (.load false 1 22),
 gd 24 21 true (.call s_inRange [23, i 0, i 10]), o 25 (.pick 21 24 bF), o 26 (.mov 25), gd 27 26 true (.fld 8 1), gd 28 26 true (.load false 1 27),
 gd 29 26 true (.call s_inRange [28, i 0, i 10]), o 30 (.pick 26 29 bF), o 2 (.mov 30)])
 .ret))⟩
def pf127 : PFunc := ⟨1, [], false, false, [.tmp 2],
  (.seq (.region [o 1 (.box 0), o 2 (.mov bF)])
 (.seq (.region [o 3 (.fld 0 1), o 4 (.load false 1 3), o 5 (.call s_inRange [4, i (-300), i 300]), o 6 (.mov 5), gd 7 6 true (.fld 1 1), gd 8 6 true (.load false 1 7),
 gd 9 6 true (.call s_inRange [8, i (-300), i 300]), o 10 (.pick 6 9 bF), o 11 (.mov 10), gd 12 11 true (.fld 2 1), gd 13 11 true (.load false 1 12),
 gd 14 11 true (.call s_inRange [13, i 0, i 1000]), o 15 (.pick 11 14 bF), o 16 (.mov 15), gd 17 16 true (.fld 3 1), gd 18 16 true (.load false 1 17),
 gd 19 16 true (.call s_inRange [18, i 0, i 1000]), o 20 (.pick 16 19 bF), o 21 (.mov 20), gd 22 21 true (.fld 4 1), gd 23 21 true (.load false 1 22),
 gd 24 21 true (.call s_inRange [23, i (-300), i 300]), o 25 (.pick 21 24 bF), o 26 (.mov 25), gd 27 26 true (.fld 5 1), gd 28 26 true (.load false 1 27),
 gd 29 26 true (.call s_inRange [28, i (-300), i 300]), o 30 (.pick 26 29 bF), o 31 (.mov 30), gd 32 31 true (.fld 6 1), gd 33 31 true (.load false 1 32),
 gd 34 31 true (.call s_inRange [33, i 0, i 1000]), o 35 (.pick 31 34 bF), o 36 (.mov 35), gd 37 36 true (.fld 7 1), gd 38 36 true (.load false 1 37),
 gd 39 36 true (.call s_inRange [38, i 0, i 1000]), o 40 (.pick 36 39 bF), o 41 (.mov 40), gd 42 41 true (.fld 8 1), gd 43 41 true (.load false 1 42),
 gd 44 41 true (.call s_validAnchor [43]), o 45 (.pick 41 44 bF), o 2 (.mov 45)])
 .ret))⟩
def b128_0 : PCode :=
  (.seq (.seq (.region [o 4 (.mov 3), o 5 (.mov 0), o 6 (.len false 5), o 7 (.bin 0 .lss 4 6)])
 (.cond 7 .skip
  (.exit 0)))
 (.seq (.block 1 (.seq (.region [o 10 (.mov 0), o 11 (.mov 3), o 12 (.idx 2 10 11), o 13 (.load true 2 12), o 14 (.call s_validLine [13]), o 15 (.not 14)])
 (.cond 15 (.seq (.region [o 2 (.mov bF)])
 .ret)
  .skip)))
 (.region [o 8 (.mov 3), o 9 (.bin 0 .add 8 (i 1)), o 3 (.mov 9)])))
def pf128 : PFunc := ⟨1, [], false, false, [.tmp 2],
  (.seq (.region [o 2 (.mov bF)])
 (.seq (.seq (.region [o 3 (.mov (i 0))])
 (.block 0 (.loop [0, 3] [] [0, 2] [] b128_0)))
 (.seq (.region [o 16 (.mov 0), o 17 (.len false 16), o 18 (.call s_inRange [17, i 1, i 5]), o 2 (.mov 18)])
 .ret)))⟩
def pf129 : PFunc := ⟨2, [], false, false, [.tmp 4],
  (.seq (.region [o 2 (.box 0), o 3 (.box 1), o 4 (.mov bF)])
 (.seq (.region [o 5 (.fld 0 3), o 6 (.load false 1 5), o 7 (.fld 0 2), o 8 (.load false 1 7), o 9 (.len false 8), o 10 (.bin 0 .sub 9 (i 1)),
 o 11 (.call s_inRange [6, i 0, 10]), o 12 (.mov 11), gd 13 12 true (.fld 1 3), gd 14 12 true (.load false 1 13), gd 15 12 true (.fld 1 2),
 gd 16 12 true (.load false 1 15), gd 17 12 true (.len false 16), gd 18 12 true (.bin 0 .sub 17 (i 1)), gd 19 12 true (.call s_inRange [14, i 0, 18]),
 o 20 (.pick 12 19 bF), o 21 (.mov 20), gd 22 21 true (.fld 2 3), gd 23 21 true (.load false 1 22), gd 24 21 true (.fld 0 2),
 gd 25 21 true (.load false 1 24), gd 26 21 true (.len false 25), gd 27 21 true (.fld 0 3), gd 28 21 true (.load false 1 27),
 gd 29 21 true (.bin 0 .sub 26 28), gd 30 21 true (.call s_inRange [23, i 1, 29]), o 31 (.pick 21 30 bF), o 32 (.mov 31), gd 33 32 true (.fld 3 3),
 gd 34 32 true (.load false 1 33), gd 35 32 true (.fld 1 2), gd 36 32 true (.load false 1 35), gd 37 32 true (.len false 36), gd 38 32 true (.fld 1 3),
 gd 39 32 true (.load false 1 38), gd 40 32 true (.bin 0 .sub 37 39), gd 41 32 true (.call s_inRange [34, i 1, 40]), o 42 (.pick 32 41 bF),
 o 43 (.mov 42), gd 44 43 true (.fld 4 3), gd 45 43 true (.load false 1 44), gd 46 43 true (.call s_inRange [45, i 0, i 30]), o 47 (.pick 43 46 bF),
 o 48 (.mov 47), gd 49 48 true (.fld 5 3), gd 50 48 true (.load false 1 49), gd 51 48 true (.call s_inRange [50, i 0, i 30]), o 52 (.pick 48 51 bF),
 o 53 (.mov 52), gd 54 53 true (.fld 6 3), gd 55 53 true (.load false 1 54), gd 56 53 true (.call s_inRange [55, i 0, i 15]), o 57 (.pick 53 56 bF),
 o 58 (.mov 57), gd 59 58 true (.fld 7 3), gd 60 58 true (.load false 1 59), gd 61 58 true (.call s_inRange [60, i 0, i 10]), o 62 (.pick 58 61 bF),
 o 63 (.mov 62), gd 64 63 true (.fld 8 3), gd 65 63 true (.load false 1 64), gd 66 63 true (.call s_inRange [65, i 0, i 10]), o 67 (.pick 63 66 bF),
 o 4 (.mov 67)])
 .ret))⟩
def b130_0 : PCode :=
  (.seq (.seq (.region [o 14 (.mov 7), o 15 (.mov 5), o 16 (.len false 15), o 17 (.bin 0 .lss 14 16)])
 (.cond 17 .skip
  (.exit 0)))
 (.seq (.block 1 (.dregion [(o 20 (.mov 5), []), (o 21 (.mov 7), []), (o 22 (.mov 0), []), (o 23 (.mov 7), []), (o 24 (.idx 9 22 23), [2, 3]), (o 25 (.load true 9 24), [2, 3, 4]),
 (o 26 (.mov 5), []), (o 27 (.mov 7), []), (o 28 (.idx 4 26 27), [6, 7]), (o 29 (.load true 4 28), [6, 7, 8]),
 (o 30 (.call s_settled [25, 29]), [2, 3, 4, 5, 6, 7, 8, 9]), (o 31 (.idx 4 20 21), [0, 1, 2, 3, 4, 5, 6, 7, 8, 9, 10]),
 (u (.store 4 31 30), [0, 1, 2, 3, 4, 5, 6, 7, 8, 9, 10, 11])]))
 (.region [o 18 (.mov 7), o 19 (.bin 0 .add 18 (i 1)), o 7 (.mov 19)])))
def pf130 : PFunc := ⟨2, [], false, false, [.tmp 4],
  (.seq (.region [o 3 (.box 1), o 4 (.mov nl)])
 (.seq (.region [o 9 (.mov 0), o 10 (.load true 4 3), o 11 (.call s_parcels [9, 10]), o 8 (.mov 11), o 12 (.ext 8 0), o 13 (.ext 8 1), o 6 (.alloc zRect), o 5 (.mov 12),
 u (.store 4 6 13)])
 (.seq (.seq (.region [o 7 (.mov (i 0))])
 (.block 0 (.loop [0, 5, 7] [1011] [4, 5] [4, 1011] b130_0)))
 (.seq (.region [o 32 (.mov 5), o 4 (.mov 32)])
 .ret))))⟩
def b131_0 : PCode :=
  (.seq (.seq (.region [o 37 (.mov 8), o 38 (.fld 2 2), o 39 (.load false 1 38), o 40 (.len false 39), o 41 (.bin 0 .lss 37 40)])
 (.cond 41 .skip
  (.exit 0)))
 (.seq (.block 1 (.seq (.region [o 44 (.fld 2 2), o 45 (.load false 1 44), o 46 (.mov 8), o 47 (.idx 9 45 46), o 48 (.load true 9 47), o 9 (.alloc zCell), u (.store 9 9 48)])
 (.seq (.dregion [(o 49 (.fld 0 3), []), (o 50 (.load false 1 49), [0]), (o 51 (.mov 5), []), (o 52 (.fld 0 9), []), (o 53 (.load false 1 52), [3]),
 (o 54 (.slice false 1 51 none (some 53)), [2, 3, 4]), (o 55 (.call s_total [54]), [2, 3, 4, 5]), (o 56 (.bin 0 .add 50 55), [0, 1, 2, 3, 4, 5, 6]),
 (o 57 (.fld 1 3), []), (o 58 (.load false 1 57), [8]), (o 59 (.mov 6), []), (o 60 (.fld 1 9), []), (o 61 (.load false 1 60), [11]),
 (o 62 (.slice false 1 59 none (some 61)), [10, 11, 12]), (o 63 (.call s_total [62]), [2, 3, 4, 5, 6, 10, 11, 12, 13]),
 (o 64 (.bin 0 .add 58 63), [2, 3, 4, 5, 6, 8, 9, 10, 11, 12, 13, 14]), (o 65 (.mov 5), []), (o 66 (.fld 0 9), []), (o 67 (.load false 1 66), [17]),
 (o 68 (.fld 0 9), []), (o 69 (.load false 1 68), [19]), (o 70 (.fld 2 9), []), (o 71 (.load false 1 70), [21]),
 (o 72 (.bin 0 .add 69 71), [19, 20, 21, 22]), (o 73 (.slice false 1 65 (some 67) (some 72)), [16, 17, 18, 19, 20, 21, 22, 23]),
 (o 74 (.call s_total [73]), [2, 3, 4, 5, 6, 10, 11, 12, 13, 14, 16, 17, 18, 19, 20, 21, 22, 23, 24]), (o 75 (.mov 6), []), (o 76 (.fld 1 9), []),
 (o 77 (.load false 1 76), [27]), (o 78 (.fld 1 9), []), (o 79 (.load false 1 78), [29]), (o 80 (.fld 3 9), []), (o 81 (.load false 1 80), [31]),
 (o 82 (.bin 0 .add 79 81), [29, 30, 31, 32]), (o 83 (.slice false 1 75 (some 77) (some 82)), [26, 27, 28, 29, 30, 31, 32, 33]),
 (o 84 (.call s_total [83]), [2, 3, 4, 5, 6, 10, 11, 12, 13, 14, 16, 17, 18, 19, 20, 21, 22, 23, 24, 25, 26, 27, 28, 29, 30, 31, 32, 33, 34]),
 (o 85 (.build zRect [(0, 1, 56), (1, 1, 64), (2, 1, 74), (3, 1, 84)]), [0, 1, 2, 3, 4, 5, 6, 7, 8, 9, 10, 11, 12, 13, 14, 15, 16, 17, 18, 19, 20, 21, 22, 23, 24, 25, 26, 27, 28, 29, 30, 31, 32, 33, 34, 35]),
 (o 10 (.alloc zRect), []),
 (u (.store 4 10 85), [0, 1, 2, 3, 4, 5, 6, 7, 8, 9, 10, 11, 12, 13, 14, 15, 16, 17, 18, 19, 20, 21, 22, 23, 24, 25, 26, 27, 28, 29, 30, 31, 32, 33, 34, 35, 36, 37])])
 (.seq (.region [o 86 (.load true 4 10), o 87 (.fld 7 9), o 88 (.load false 1 87), o 89 (.fld 8 9), o 90 (.load false 1 89), o 91 (.call s_inset [86, 88, 90]),
 o 11 (.alloc zRect), u (.store 4 11 91)])
 (.seq (.region [o 93 (.fld 0 11), o 94 (.load false 1 93), o 95 (.fld 2 11), o 96 (.load false 1 95), o 97 (.fld 4 9), o 98 (.load false 1 97), o 99 (.fld 6 9),
 o 100 (.load false 1 99), o 101 (.bin 0 .rem 100 (i 2)), o 102 (.bin 0 .eql 101 (i 1)), o 103 (.fld 6 9), o 104 (.load false 1 103),
 o 105 (.bin 0 .quo 104 (i 2)), o 106 (.bin 0 .rem 105 (i 2)), o 107 (.bin 0 .eql 106 (i 1)), o 108 (.call s_stuck [94, 96, 98, 102, 107]),
 o 92 (.mov 108), o 109 (.ext 92 0), o 110 (.ext 92 1), o 12 (.mov 109), o 13 (.mov 110)])
 (.seq (.region [o 112 (.fld 1 11), o 113 (.load false 1 112), o 114 (.fld 3 11), o 115 (.load false 1 114), o 116 (.fld 5 9), o 117 (.load false 1 116),
 o 118 (.fld 6 9), o 119 (.load false 1 118), o 120 (.bin 0 .quo 119 (i 4)), o 121 (.bin 0 .rem 120 (i 2)), o 122 (.bin 0 .eql 121 (i 1)),
 o 123 (.fld 6 9), o 124 (.load false 1 123), o 125 (.bin 0 .quo 124 (i 8)), o 126 (.bin 0 .eql 125 (i 1)),
 o 127 (.call s_stuck [113, 115, 117, 122, 126]), o 111 (.mov 127), o 128 (.ext 111 0), o 129 (.ext 111 1), o 14 (.mov 128), o 15 (.mov 129)])
 (.region [o 130 (.mov 7), o 131 (.mov 12), o 132 (.mov 14), o 133 (.mov 13), o 134 (.mov 15),
 o 135 (.build zRect [(0, 1, 131), (1, 1, 132), (2, 1, 133), (3, 1, 134)]), o 136 (.bslice 1 zRect [(0, 135)]), o 137 (.app 4 4398046511104 130 136),
 o 7 (.mov 137)])))))))
 (.region [o 42 (.mov 8), o 43 (.bin 0 .add 42 (i 1)), o 8 (.mov 43)])))
def pf131 : PFunc := ⟨2, [], false, false, [.tmp 4],
  (.seq (.region [o 2 (.box 0), o 3 (.box 1), o 4 (.mov nl)])
 (.seq (.dregion [(o 16 (.fld 0 2), []), (o 17 (.load false 1 16), [0]), (o 18 (.fld 0 2), []), (o 19 (.load false 1 18), [2]), (o 20 (.load true 3 2), []),
 (o 21 (.call s_colSpans [20]), [4]), (o 22 (.call s_wished [19, 21]), [2, 3, 4, 5]), (o 23 (.fld 2 3), []), (o 24 (.load false 1 23), [7]),
 (o 25 (.call s_sized [17, 22, 24]), [0, 1, 2, 3, 4, 5, 6, 7, 8]), (o 5 (.mov 25), [0, 1, 2, 3, 4, 5, 6, 7, 8, 9])])
 (.seq (.dregion [(o 26 (.fld 1 2), []), (o 27 (.load false 1 26), [0]), (o 28 (.fld 1 2), []), (o 29 (.load false 1 28), [2]), (o 30 (.load true 3 2), []),
 (o 31 (.call s_rowSpans [30]), [4]), (o 32 (.call s_wished [29, 31]), [2, 3, 4, 5]), (o 33 (.fld 3 3), []), (o 34 (.load false 1 33), [7]),
 (o 35 (.call s_sized [27, 32, 34]), [0, 1, 2, 3, 4, 5, 6, 7, 8]), (o 6 (.mov 35), [0, 1, 2, 3, 4, 5, 6, 7, 8, 9])])
 (.seq (.region [o 36 (.bslice 0 zRect []), o 7 (.mov 36)])
 (.seq (.seq (.region [o 8 (.mov (i 0))])
 (.block 0 (.loop [2, 3, 5, 6, 7, 8] [2, 3, 36, 137, 1002, 1025, 1035, 2002, 3002] [4, 7] [4, 36, 137] b131_0)))
 (.seq (.region [o 138 (.mov 7), o 4 (.mov 138)])
 .ret))))))⟩
def pf132 : PFunc := ⟨2, [], false, false, [.cell 4 true 4],
  (.seq (.region [o 2 (.box 0), o 3 (.box 1), o 4 (.alloc zRect)])
 (.seq (.dregion [(o 9 (.fld 4 2), []), (o 10 (.load false 1 9), [0]), (o 11 (.fld 2 3), []), (o 12 (.load false 1 11), [2]), (o 13 (.fld 6 2), []),
 (o 14 (.load false 1 13), [4]), (o 15 (.call s_part [12, 14]), [2, 3, 4, 5]), (o 16 (.bin 0 .add 10 15), [0, 1, 2, 3, 4, 5, 6]),
 (o 17 (.mx [i 0, 16]), [0, 1, 2, 3, 4, 5, 6, 7]), (o 5 (.mov 17), [0, 1, 2, 3, 4, 5, 6, 7, 8])])
 (.seq (.dregion [(o 18 (.fld 5 2), []), (o 19 (.load false 1 18), [0]), (o 20 (.fld 3 3), []), (o 21 (.load false 1 20), [2]), (o 22 (.fld 7 2), []),
 (o 23 (.load false 1 22), [4]), (o 24 (.call s_part [21, 23]), [2, 3, 4, 5]), (o 25 (.bin 0 .add 19 24), [0, 1, 2, 3, 4, 5, 6]),
 (o 26 (.mx [i 0, 25]), [0, 1, 2, 3, 4, 5, 6, 7]), (o 6 (.mov 26), [0, 1, 2, 3, 4, 5, 6, 7, 8])])
 (.seq (.dregion [(o 27 (.fld 0 2), []), (o 28 (.load false 1 27), [0]), (o 29 (.fld 2 3), []), (o 30 (.load false 1 29), [2]), (o 31 (.fld 2 2), []),
 (o 32 (.load false 1 31), [4]), (o 33 (.call s_part [30, 32]), [2, 3, 4, 5]), (o 34 (.bin 0 .add 28 33), [0, 1, 2, 3, 4, 5, 6]), (o 35 (.mov 5), []),
 (o 36 (.fld 8 2), []), (o 37 (.load false 1 36), [9]), (o 38 (.bin 0 .rem 37 (i 3)), [9, 10]), (o 39 (.bin 0 .mul 35 38), [8, 9, 10, 11]),
 (o 40 (.bin 0 .quo 39 (i 2)), [8, 9, 10, 11, 12]), (o 41 (.bin 0 .sub 34 40), [0, 1, 2, 3, 4, 5, 6, 7, 8, 9, 10, 11, 12, 13]),
 (o 7 (.mov 41), [0, 1, 2, 3, 4, 5, 6, 7, 8, 9, 10, 11, 12, 13, 14])])
 (.seq (.dregion [(o 42 (.fld 1 2), []), (o 43 (.load false 1 42), [0]), (o 44 (.fld 3 3), []), (o 45 (.load false 1 44), [2]), (o 46 (.fld 3 2), []),
 (o 47 (.load false 1 46), [4]), (o 48 (.call s_part [45, 47]), [2, 3, 4, 5]), (o 49 (.bin 0 .add 43 48), [0, 1, 2, 3, 4, 5, 6]), (o 50 (.mov 6), []),
 (o 51 (.fld 8 2), []), (o 52 (.load false 1 51), [9]), (o 53 (.bin 0 .quo 52 (i 3)), [9, 10]), (o 54 (.bin 0 .mul 50 53), [8, 9, 10, 11]),
 (o 55 (.bin 0 .quo 54 (i 2)), [8, 9, 10, 11, 12]), (o 56 (.bin 0 .sub 49 55), [0, 1, 2, 3, 4, 5, 6, 7, 8, 9, 10, 11, 12, 13]),
 (o 8 (.mov 56), [0, 1, 2, 3, 4, 5, 6, 7, 8, 9, 10, 11, 12, 13, 14])])
 (.seq (.region [o 57 (.fld 0 3), o 58 (.load false 1 57), o 59 (.mov 7), o 60 (.bin 0 .add 58 59), o 61 (.fld 1 3), o 62 (.load false 1 61), o 63 (.mov 8),
 o 64 (.bin 0 .add 62 63), o 65 (.mov 5), o 66 (.mov 6), o 67 (.build zRect [(0, 1, 60), (1, 1, 64), (2, 1, 65), (3, 1, 66)]), u (.store 4 4 67)])
 .ret))))))⟩
def b133_0 : PCode :=
  (.seq (.seq (.region [o 9 (.mov 4), o 10 (.bin 0 .gtr 9 (i 0))])
 (.cond 10 .skip
  (.exit 0)))
 (.seq (.block 1 (.region [o 13 (.mov 3), o 14 (.mov 0), o 15 (.bslice 5 zInt [(0, i 1), (1, i 0), (2, i 2), (3, i 0), (4, i 5)]), o 16 (.call s_reader_one [14, 15]),
 o 17 (.mov 0), o 18 (.bslice 4 zInt [(0, i 0), (1, i 5), (2, i 10), (3, i 0)]), o 19 (.call s_reader_one [17, 18]),
 o 20 (.build zLine [(0, 1, 16), (1, 1, 19)]), o 21 (.bslice 1 zLine [(0, 20)]), o 22 (.app 2 8796093022208 13 21), o 3 (.mov 22)]))
 (.region [o 11 (.mov 4), o 12 (.bin 0 .sub 11 (i 1)), o 4 (.mov 12)])))
def pf133 : PFunc := ⟨1, [true], false, false, [.tmp 2],
  (.seq (.region [o 2 (.mov nl)])
 (.seq (.region [o 5 (.bslice 0 zLine []), o 3 (.mov 5)])
 (.seq (.seq (.region [o 6 (.mov 0), o 7 (.bslice 5 zInt [(0, i 3), (1, i 2), (2, i 4), (3, i 1), (4, i 5)]), o 8 (.call s_reader_one [6, 7]), o 4 (.mov 8)])
 (.block 0 (.loop [0, 3, 4] [5, 22, 1000, 2000] [2, 3] [2, 5, 22, 1000, 2000] b133_0)))
 (.seq (.region [o 23 (.mov 3), o 2 (.mov 23)])
 .ret))))⟩
def pf134 : PFunc := ⟨1, [true], false, false, [.cell 2 true 9],
  (.seq (.region [o 2 (.alloc zPack)])
 (.seq (.region [o 4 (.mov 0), o 5 (.mov 0), o 6 (.call s_reader_pick [5, i 31]), o 7 (.bslice 5 zInt [(0, i 5), (1, i 10), (2, i 0), (3, 6), (4, i 3)]),
 o 8 (.call s_reader_one [4, 7]), o 9 (.mov 0), o 10 (.mov 0), o 11 (.call s_reader_pick [10, i 31]),
 o 12 (.bslice 5 zInt [(0, i 4), (1, i 8), (2, i 0), (3, 11), (4, i 6)]), o 13 (.call s_reader_one [9, 12]), o 14 (.mov 0),
 o 15 (.call s_reader_pick [14, i 4]), o 16 (.mov 0), o 17 (.mov 0), o 18 (.call s_reader_pick [17, i 9]),
 o 19 (.bslice 4 zInt [(0, i 4), (1, i 4), (2, i 0), (3, 18)]), o 20 (.call s_reader_one [16, 19]),
 o 21 (.build zPack [(0, 1, 8), (1, 1, 13), (2, 1, 15), (6, 1, 20)]), o 3 (.alloc zPack), u (.store 9 3 21)])
 (.seq (.region [o 22 (.mov 0), o 23 (.call s_reader_pick [22, i 3]), o 24 (.bin 0 .eql 23 (i 0)), o 25 (.fld 3 3), u (.store 1 25 24)])
 (.seq (.region [o 26 (.mov 0), o 27 (.call s_reader_pick [26, i 3]), o 28 (.bin 0 .eql 27 (i 0)), o 29 (.fld 4 3), u (.store 1 29 28)])
 (.seq (.region [o 30 (.mov 0), o 31 (.call s_reader_pick [30, i 2]), o 32 (.bin 0 .eql 31 (i 0)), o 33 (.fld 5 3), u (.store 1 33 32)])
 (.seq (.seq (.region [o 34 (.mov 0), o 35 (.call s_reader_pick [34, i 2]), o 36 (.bin 0 .eql 35 (i 0))])
 (.cond 36 (.seq (.region [o 37 (.mov 0), o 38 (.call s_reader_pick [37, i 4]), o 39 (.fld 7 3), u (.store 1 39 38)])
 (.region [o 40 (.mov 0), o 41 (.call s_reader_pick [40, i 4]), o 42 (.fld 8 3), u (.store 1 42 41)]))
  .skip))
 (.seq (.region [o 43 (.load true 9 3), u (.store 9 2 43)])
 .ret)))))))⟩
def pf135 : PFunc := ⟨1, [true], false, false, [.cell 2 true 9],
  (.seq (.region [o 2 (.alloc zPlace)])
 (.seq (.region [o 4 (.mov 0), o 5 (.bslice 4 zInt [(0, i 0), (1, i 5), (2, i (-5)), (3, i 0)]), o 6 (.call s_reader_one [4, 5]), o 7 (.mov 0),
 o 8 (.bslice 4 zInt [(0, i 0), (1, i 3), (2, i (-7)), (3, i 0)]), o 9 (.call s_reader_one [7, 8]), o 10 (.mov 0),
 o 11 (.bslice 4 zInt [(0, i 0), (1, i 500), (2, i 1000), (3, i 333)]), o 12 (.call s_reader_one [10, 11]), o 13 (.mov 0),
 o 14 (.bslice 4 zInt [(0, i 0), (1, i 500), (2, i 1000), (3, i 250)]), o 15 (.call s_reader_one [13, 14]), o 16 (.mov 0),
 o 17 (.bslice 4 zInt [(0, i 10), (1, i 5), (2, i 0), (3, i (-10))]), o 18 (.call s_reader_one [16, 17]), o 19 (.mov 0),
 o 20 (.bslice 4 zInt [(0, i 8), (1, i 3), (2, i 0), (3, i (-4))]), o 21 (.call s_reader_one [19, 20]), o 22 (.mov 0),
 o 23 (.bslice 4 zInt [(0, i 0), (1, i 0), (2, i 500), (3, i 1000)]), o 24 (.call s_reader_one [22, 23]), o 25 (.mov 0),
 o 26 (.bslice 4 zInt [(0, i 0), (1, i 0), (2, i 500), (3, i 1000)]), o 27 (.call s_reader_one [25, 26]), o 28 (.mov 0), o 29 (.mov 0),
 o 30 (.call s_reader_pick [29, i 9]), o 31 (.bslice 4 zInt [(0, i 0), (1, i 4), (2, i 8), (3, 30)]), o 32 (.call s_reader_one [28, 31]),
 o 33 (.build zPlace [(0, 1, 6), (1, 1, 9), (2, 1, 12), (3, 1, 15), (4, 1, 18), (5, 1, 21), (6, 1, 24), (7, 1, 27), (8, 1, 32)]), o 3 (.alloc zPlace),
 u (.store 9 3 33)])
 (.seq (.region [o 34 (.load true 9 3), u (.store 9 2 34)])
 .ret)))⟩
def pf136 : PFunc := ⟨3, [true, false, false], false, false, [.cell 6 true 9],
  (.seq (.region [o 6 (.alloc zCell)])
 (.seq (.region [o 8 (.mov 0), o 9 (.mov 1), o 10 (.call s_reader_pick [8, 9]), o 11 (.mov 0), o 12 (.mov 2), o 13 (.call s_reader_pick [11, 12]), o 14 (.mov 0),
 o 15 (.bslice 4 zInt [(0, i 5), (1, i 10), (2, i 0), (3, i 30)]), o 16 (.call s_reader_one [14, 15]), o 17 (.mov 0),
 o 18 (.bslice 4 zInt [(0, i 4), (1, i 8), (2, i 0), (3, i 30)]), o 19 (.call s_reader_one [17, 18]), o 20 (.mov 0), o 21 (.mov 0),
 o 22 (.call s_reader_pick [21, i 16]), o 23 (.bslice 5 zInt [(0, i 0), (1, i 15), (2, 22), (3, i 3), (4, i 1)]), o 24 (.call s_reader_one [20, 23]),
 o 25 (.build zCell [(0, 1, 10), (1, 1, 13), (4, 1, 16), (5, 1, 19), (6, 1, 24)]), o 7 (.alloc zCell), u (.store 9 7 25)])
 (.seq (.region [o 26 (.fld 2 7), u (.store 1 26 (i 1))])
 (.seq (.region [o 27 (.fld 3 7), u (.store 1 27 (i 1))])
 (.seq (.seq (.region [o 28 (.mov 0), o 29 (.call s_reader_pick [28, i 3]), o 30 (.bin 0 .eql 29 (i 0))])
 (.cond 30 (.seq (.region [o 31 (.mov 0), o 32 (.mov 1), o 33 (.fld 0 7), o 34 (.load false 1 33), o 35 (.bin 0 .sub 32 34), o 36 (.call s_reader_pick [31, 35]),
 o 37 (.bin 0 .add (i 1) 36), o 38 (.fld 2 7), u (.store 1 38 37)])
 (.region [o 39 (.mov 0), o 40 (.mov 2), o 41 (.fld 1 7), o 42 (.load false 1 41), o 43 (.bin 0 .sub 40 42), o 44 (.call s_reader_pick [39, 43]),
 o 45 (.bin 0 .add (i 1) 44), o 46 (.fld 3 7), u (.store 1 46 45)]))
  .skip))
 (.seq (.seq (.region [o 47 (.mov 0), o 48 (.call s_reader_pick [47, i 3]), o 49 (.bin 0 .eql 48 (i 0))])
 (.cond 49 (.seq (.region [o 50 (.mov 0), o 51 (.call s_reader_pick [50, i 4]), o 52 (.fld 7 7), u (.store 1 52 51)])
 (.region [o 53 (.mov 0), o 54 (.call s_reader_pick [53, i 4]), o 55 (.fld 8 7), u (.store 1 55 54)]))
  .skip))
 (.seq (.region [o 56 (.load true 9 7), u (.store 9 6 56)])
 .ret)))))))⟩
def pf137 : PFunc := ⟨1, [], false, false, [.tmp 2, .tmp 3],
  (.seq (.region [o 1 (.box 0), o 2 (.mov (i 0)), o 3 (.mov (i 0))])
 (.seq (.dregion [(o 4 (.fld 0 1), []), (o 5 (.load false 1 4), [0]), (o 6 (.fld 7 1), []), (o 7 (.load false 1 6), [2]), (o 8 (.bin 0 .mul (i 2) 7), [2, 3]),
 (o 9 (.bin 0 .add 5 8), [0, 1, 2, 3, 4]), (o 10 (.fld 1 1), []), (o 11 (.load false 1 10), [6]), (o 12 (.fld 8 1), []), (o 13 (.load false 1 12), [8]),
 (o 14 (.bin 0 .mul (i 2) 13), [8, 9]), (o 15 (.bin 0 .add 11 14), [6, 7, 8, 9, 10]), (o 2 (.mov 9), [0, 1, 2, 3, 4, 5]),
 (o 3 (.mov 15), [0, 1, 2, 3, 4, 5, 6, 7, 8, 9, 10, 11, 12])])
 .ret))⟩
def pf138 : PFunc := ⟨1, [], false, false, [.tmp 2],
  (.seq (.region [o 2 (.mov bF)])
 (.seq (.region [o 3 (.mov 0), o 4 (.bin 0 .eql 3 (i 0)), o 5 (.mov 4), gd 6 5 false (.mov 0), gd 7 5 false (.bin 0 .eql 6 (i 1)), o 8 (.pick 5 bT 7), o 2 (.mov 8)])
 .ret))⟩
def b139_0 : PCode :=
  (.seq (.seq (.region [o 5 (.mov 4), o 6 (.mov 0), o 7 (.len false 6), o 8 (.bin 0 .lss 5 7)])
 (.cond 8 .skip
  (.exit 0)))
 (.seq (.block 1 (.region [o 11 (.mov 3), o 12 (.mov 0), o 13 (.mov 4), o 14 (.idx 1 12 13), o 15 (.load false 1 14), o 16 (.bin 0 .add 11 15), o 3 (.mov 16)]))
 (.region [o 9 (.mov 4), o 10 (.bin 0 .add 9 (i 1)), o 4 (.mov 10)])))
def pf139 : PFunc := ⟨1, [], false, false, [.tmp 2],
  (.seq (.region [o 2 (.mov (i 0))])
 (.seq (.region [o 3 (.mov (i 0))])
 (.seq (.seq (.region [o 4 (.mov (i 0))])
 (.block 0 (.loop [0, 3, 4] [] [2, 3] [] b139_0)))
 (.seq (.region [o 17 (.mov 3), o 2 (.mov 17)])
 .ret))))⟩
def b140_0 : PCode :=
  (.seq (.seq (.region [o 14 (.mov 6), o 15 (.mov 0), o 16 (.len false 15), o 17 (.bin 0 .lss 14 16)])
 (.cond 17 .skip
  (.exit 0)))
 (.seq (.block 1 (.region [o 20 (.mov 5), o 21 (.mov 0), o 22 (.mov 6), o 23 (.idx 2 21 22), o 24 (.fld 1 23), o 25 (.load false 1 24), o 26 (.bslice 1 zInt [(0, 25)]),
 o 27 (.app 1 17592186044416 20 26), o 5 (.mov 27)]))
 (.region [o 18 (.mov 6), o 19 (.bin 0 .add 18 (i 1)), o 6 (.mov 19)])))
def b140_3 : PCode :=
  (.seq (.seq (.region [o 75 (.mov 12), o 76 (.mov 11), o 77 (.len false 76), o 78 (.bin 0 .lss 75 77)])
 (.cond 78 .skip
  (.exit 6)))
 (.seq (.block 7 (.dregion [(o 81 (.mov 5), []), (o 82 (.fld 0 9), []), (o 83 (.load false 1 82), [1]), (o 84 (.mov 12), []), (o 85 (.bin 0 .add 83 84), [1, 2, 3]),
 (o 86 (.mov 5), []), (o 87 (.fld 0 9), []), (o 88 (.load false 1 87), [6]), (o 89 (.mov 12), []), (o 90 (.bin 0 .add 88 89), [6, 7, 8]),
 (o 91 (.idx 1 86 90), [5, 6, 7, 8, 9]), (o 92 (.load false 1 91), [5, 6, 7, 8, 9, 10]), (o 93 (.mov 11), []), (o 94 (.mov 12), []),
 (o 95 (.idx 1 93 94), [12, 13]), (o 96 (.load false 1 95), [12, 13, 14]), (o 97 (.bin 0 .add 92 96), [5, 6, 7, 8, 9, 10, 11, 12, 13, 14, 15]),
 (o 98 (.idx 1 81 85), [0, 1, 2, 3, 4, 5, 6, 7, 8, 9, 10, 11, 12, 13, 14, 15, 16]),
 (u (.store 1 98 97), [0, 1, 2, 3, 4, 5, 6, 7, 8, 9, 10, 11, 12, 13, 14, 15, 16, 17])]))
 (.region [o 79 (.mov 12), o 80 (.bin 0 .add 79 (i 1)), o 12 (.mov 80)])))
def b140_2 : PCode :=
  (.seq (.seq (.region [o 34 (.mov 8), o 35 (.mov 1), o 36 (.len false 35), o 37 (.bin 0 .lss 34 36)])
 (.cond 37 .skip
  (.exit 4)))
 (.seq (.block 5 (.seq (.region [o 40 (.mov 1), o 41 (.mov 8), o 42 (.idx 3 40 41), o 43 (.load true 3 42), o 9 (.alloc zSpan), u (.store 3 9 43)])
 (.seq (.seq (.region [o 44 (.fld 1 9), o 45 (.load false 1 44), o 46 (.mov 7), o 47 (.bin 0 .neq 45 46)])
 (.cond 47 (.exit 5)
  .skip))
 (.seq (.dregion [(o 48 (.fld 2 9), []), (o 49 (.load false 1 48), [0]), (o 50 (.mov 5), []), (o 51 (.fld 0 9), []), (o 52 (.load false 1 51), [3]), (o 53 (.fld 0 9), []),
 (o 54 (.load false 1 53), [5]), (o 55 (.fld 1 9), []), (o 56 (.load false 1 55), [7]), (o 57 (.bin 0 .add 54 56), [5, 6, 7, 8]),
 (o 58 (.slice false 1 50 (some 52) (some 57)), [2, 3, 4, 5, 6, 7, 8, 9]), (o 59 (.call s_total [58]), [2, 3, 4, 5, 6, 7, 8, 9, 10]),
 (o 60 (.bin 0 .sub 49 59), [0, 1, 2, 3, 4, 5, 6, 7, 8, 9, 10, 11]), (o 10 (.mov 60), [0, 1, 2, 3, 4, 5, 6, 7, 8, 9, 10, 11, 12])])
 (.seq (.seq (.region [o 61 (.mov 10), o 62 (.bin 0 .leq 61 (i 0))])
 (.cond 62 (.exit 5)
  .skip))
 (.seq (.region [o 63 (.mov 10), o 64 (.mov 0), o 65 (.fld 0 9), o 66 (.load false 1 65), o 67 (.fld 0 9), o 68 (.load false 1 67), o 69 (.fld 1 9),
 o 70 (.load false 1 69), o 71 (.bin 0 .add 68 70), o 72 (.slice false 2 64 (some 66) (some 71)), o 73 (.call s_weightsOf [72]),
 o 74 (.call s_spread [63, 73]), o 11 (.mov 74)])
 (.seq (.region [o 12 (.mov (i 0))])
 (.block 6 (.loop [0, 1, 5, 7, 8, 9, 11, 12] [9, 13, 27, 1074] [0, 1, 4, 5, 7, 8] [4, 13, 27] b140_3)))))))))
 (.region [o 38 (.mov 8), o 39 (.bin 0 .add 38 (i 1)), o 8 (.mov 39)])))
def b140_1 : PCode :=
  (.seq (.seq (.region [o 28 (.mov 7), o 29 (.mov 0), o 30 (.len false 29), o 31 (.bin 0 .leq 28 30)])
 (.cond 31 .skip
  (.exit 2)))
 (.seq (.block 3 (.seq (.region [o 8 (.mov (i 0))])
 (.block 4 (.loop [0, 1, 5, 7, 8] [13, 27] [0, 1, 4, 5, 7] [4, 13, 27] b140_2))))
 (.region [o 32 (.mov 7), o 33 (.bin 0 .add 32 (i 1)), o 7 (.mov 33)])))
def pf140 : PFunc := ⟨2, [], false, false, [.tmp 4],
  (.seq (.region [o 4 (.mov nl)])
 (.seq (.region [o 13 (.bslice 0 zInt []), o 5 (.mov 13)])
 (.seq (.seq (.region [o 6 (.mov (i 0))])
 (.block 0 (.loop [0, 1, 5, 6] [13, 27] [0, 1, 4, 5] [4, 13, 27] b140_0)))
 (.seq (.seq (.region [o 7 (.mov (i 1))])
 (.block 2 (.loop [0, 1, 5, 7] [13, 27] [4, 5] [4, 13, 27] b140_1)))
 (.seq (.region [o 99 (.mov 5), o 4 (.mov 99)])
 .ret)))))⟩
def b141_0 : PCode :=
  (.seq (.seq (.region [o 7 (.mov 4), o 8 (.fld 2 1), o 9 (.load false 1 8), o 10 (.len false 9), o 11 (.bin 0 .lss 7 10)])
 (.cond 11 .skip
  (.exit 0)))
 (.seq (.block 1 (.seq (.region [o 14 (.fld 2 1), o 15 (.load false 1 14), o 16 (.mov 4), o 17 (.idx 9 15 16), o 18 (.load true 9 17), o 5 (.alloc zCell), u (.store 9 5 18)])
 (.region [o 19 (.mov 3), o 20 (.fld 0 5), o 21 (.load false 1 20), o 22 (.fld 2 5), o 23 (.load false 1 22), o 24 (.fld 4 5), o 25 (.load false 1 24),
 o 26 (.fld 7 5), o 27 (.load false 1 26), o 28 (.bin 0 .mul (i 2) 27), o 29 (.bin 0 .add 25 28),
 o 30 (.build zSpan [(0, 1, 21), (1, 1, 23), (2, 1, 29)]), o 31 (.bslice 1 zSpan [(0, 30)]), o 32 (.app 3 5864062014805 19 31), o 3 (.mov 32)])))
 (.region [o 12 (.mov 4), o 13 (.bin 0 .add 12 (i 1)), o 4 (.mov 13)])))
def pf141 : PFunc := ⟨1, [], false, false, [.tmp 2],
  (.seq (.region [o 1 (.box 0), o 2 (.mov nl)])
 (.seq (.region [o 6 (.bslice 0 zSpan []), o 3 (.mov 6)])
 (.seq (.seq (.region [o 4 (.mov (i 0))])
 (.block 0 (.loop [1, 3, 4] [1, 6, 32, 1001, 2001, 3001] [2, 3] [2, 6, 32] b141_0)))
 (.seq (.region [o 33 (.mov 3), o 2 (.mov 33)])
 .ret))))⟩
def b142_0 : PCode :=
  (.seq (.seq (.region [o 7 (.mov 4), o 8 (.fld 2 1), o 9 (.load false 1 8), o 10 (.len false 9), o 11 (.bin 0 .lss 7 10)])
 (.cond 11 .skip
  (.exit 0)))
 (.seq (.block 1 (.seq (.region [o 14 (.fld 2 1), o 15 (.load false 1 14), o 16 (.mov 4), o 17 (.idx 9 15 16), o 18 (.load true 9 17), o 5 (.alloc zCell), u (.store 9 5 18)])
 (.region [o 19 (.mov 3), o 20 (.fld 1 5), o 21 (.load false 1 20), o 22 (.fld 3 5), o 23 (.load false 1 22), o 24 (.fld 5 5), o 25 (.load false 1 24),
 o 26 (.fld 8 5), o 27 (.load false 1 26), o 28 (.bin 0 .mul (i 2) 27), o 29 (.bin 0 .add 25 28),
 o 30 (.build zSpan [(0, 1, 21), (1, 1, 23), (2, 1, 29)]), o 31 (.bslice 1 zSpan [(0, 30)]), o 32 (.app 3 5864062014805 19 31), o 3 (.mov 32)])))
 (.region [o 12 (.mov 4), o 13 (.bin 0 .add 12 (i 1)), o 4 (.mov 13)])))
def pf142 : PFunc := ⟨1, [], false, false, [.tmp 2],
  (.seq (.region [o 1 (.box 0), o 2 (.mov nl)])
 (.seq (.region [o 6 (.bslice 0 zSpan []), o 3 (.mov 6)])
 (.seq (.seq (.region [o 4 (.mov (i 0))])
 (.block 0 (.loop [1, 3, 4] [1, 6, 32, 1001, 2001, 3001] [2, 3] [2, 6, 32] b142_0)))
 (.seq (.region [o 33 (.mov 3), o 2 (.mov 33)])
 .ret))))⟩
def pf144 : PFunc := ⟨2, [], false, false, [.tmp 4],
  (.seq (.region [o 4 (.mov bF)])
 (.seq (.region [o 5 (.mov 0), o 6 (.mov 1), o 7 (.call x_IndexFunc_Line [5, 6]), o 8 (.bin 0 .geq 7 (i 0)), o 4 (.mov 8)])
 .ret))⟩
def pf145 : PFunc := ⟨1, [], false, false, [.tmp 2],
  (.seq (.region [o 1 (.box 0), o 2 (.mov bF)])
 (.seq (.region [o 3 (.fld 0 1), o 4 (.load false 1 3), o 5 (.call i_within [4, i 0, i 5]), o 6 (.not 5), o 7 (.mov 6), gd 8 7 false (.fld 1 1),
 gd 9 7 false (.load false 1 8), gd 10 7 false (.call i_within [9, i 0, i 30]), gd 11 7 false (.not 10), o 12 (.pick 7 bT 11), o 2 (.mov 12)])
 .ret))⟩
def b147_0 : PCode :=
  (.seq (.region [o 29 (.bin 0 .lss 28 27)])
 (.seq (.cond 29 .skip
  (.exit 0))
 (.seq (.block 1 (.seq (.region [o 30 (.mov 28), o 31 (.idx 1 26 28), o 32 (.load false 1 31), o 7 (.mov 30), o 8 (.mov 32)])
 (.region [o 33 (.mov 5), o 34 (.mov 7), o 35 (.mov 0), o 36 (.mov 8), o 37 (.bin 0 .mul 35 36), o 38 (.mov 6), o 39 (.bin 0 .quo 37 38), o 40 (.idx 1 33 34),
 u (.store 1 40 39)])))
 (.region [o 41 (.bin 0 .add 28 (i 1)), o 28 (.mov 41)]))))
def b147_1 : PCode :=
  (.seq (.region [o 49 (.bin 0 .lss 48 47)])
 (.seq (.cond 49 .skip
  (.exit 2))
 (.seq (.block 3 (.seq (.region [o 50 (.mov 48), o 51 (.idx 1 46 48), o 52 (.load false 1 51), o 10 (.mov 50), o 11 (.mov 52)])
 (.seq (.region [o 53 (.mov 11), o 54 (.bin 0 .neq 53 (i 0)), o 55 (.mov 54), gd 56 55 true (.mov 9), gd 57 55 true (.bin 0 .gtr 56 (i 0)), o 58 (.pick 55 57 bF)])
 (.cond 58 (.seq (.region [o 59 (.mov 5), o 60 (.mov 10), o 61 (.idx 1 59 60), o 62 (.load false 1 61), o 63 (.bin 0 .add 62 (i 1)), o 64 (.idx 1 59 60), u (.store 1 64 63)])
 (.region [o 65 (.mov 9), o 66 (.bin 0 .sub 65 (i 1)), o 9 (.mov 66)]))
  .skip))))
 (.region [o 67 (.bin 0 .add 48 (i 1)), o 48 (.mov 67)]))))
def pf147 : PFunc := ⟨2, [], false, false, [.tmp 4],
  (.seq (.region [o 4 (.mov nl)])
 (.seq (.region [o 12 (.mov 1), o 13 (.len false 12), o 14 (.mk zInt 17592186044416 13), o 5 (.mov 14)])
 (.seq (.region [o 15 (.mov 1), o 16 (.call i_sum [15]), o 6 (.mov 16)])
 (.seq (.seq (.region [o 17 (.mov 6), o 18 (.bin 0 .eql 17 (i 0))])
 (.cond 18 (.seq (.region [o 19 (.mov 5), o 20 (.mov 5), o 21 (.len false 20), o 22 (.bin 0 .sub 21 (i 1)), o 23 (.mov 0), o 24 (.idx 1 19 22), u (.store 1 24 23)])
 (.seq (.region [o 25 (.mov 5), o 4 (.mov 25)])
 .ret))
  .skip))
 (.seq (.seq (.region [o 26 (.mov 1), o 27 (.len false 26), o 28 (.mov (i 0))])
 (.block 0 (.loop [0, 1, 5, 6, 26, 27, 28] [14] [0, 1, 4, 5] [4, 14] b147_0)))
 (.seq (.region [o 42 (.mov 0), o 43 (.mov 5), o 44 (.call i_sum [43]), o 45 (.bin 0 .sub 42 44), o 9 (.mov 45)])
 (.seq (.seq (.region [o 46 (.mov 1), o 47 (.len false 46), o 48 (.mov (i 0))])
 (.block 2 (.loop [5, 9, 46, 47, 48] [14] [4, 5] [4, 14] b147_1)))
 (.seq (.region [o 68 (.mov 5), o 4 (.mov 68)])
 .ret))))))))⟩
def b148_0 : PCode :=
  (.seq (.region [o 9 (.bin 0 .lss 8 7)])
 (.seq (.cond 9 .skip
  (.exit 0))
 (.seq (.block 1 (.seq (.region [o 10 (.idx 2 6 8), o 11 (.load true 2 10), o 5 (.alloc zLine), u (.store 2 5 11)])
 (.region [o 12 (.mov 3), o 13 (.fld 0 5), o 14 (.load false 1 13), o 15 (.bslice 1 zInt [(0, 14)]), o 16 (.app 1 17592186044416 12 15), o 3 (.mov 16)])))
 (.region [o 17 (.bin 0 .add 8 (i 1)), o 8 (.mov 17)]))))
def pf148 : PFunc := ⟨1, [], false, false, [.tmp 2],
  (.seq (.region [o 2 (.mov nl)])
 (.seq (.region [o 3 .nilroot])
 (.seq (.seq (.region [o 6 (.mov 0), o 7 (.len false 6), o 8 (.mov (i 0))])
 (.block 0 (.loop [3, 6, 7, 8] [3, 16] [2, 3] [2, 3, 16] b148_0)))
 (.seq (.region [o 18 (.mov 3), o 2 (.mov 18)])
 .ret))))⟩
def pf149 : PFunc := ⟨2, [], false, false, [.tmp 4],
  (.seq (.region [o 2 (.box 0), o 4 (.mov (i 0))])
 (.seq (.region [o 8 (.load true 9 2), o 9 (.call i_Pack_needs [8]), o 7 (.mov 9), o 10 (.ext 7 0), o 11 (.ext 7 1), o 5 (.mov 10), o 6 (.mov 11)])
 (.seq (.seq (.region [o 12 (.mov 1)])
 (.cond 12 (.seq (.region [o 13 (.mov 6), o 4 (.mov 13)])
 .ret)
  .skip))
 (.seq (.region [o 14 (.mov 5), o 4 (.mov 14)])
 .ret))))⟩
def b150_0 : PCode :=
  (.seq (.region [o 15 (.bin 0 .lss 14 13)])
 (.seq (.cond 15 .skip
  (.exit 0))
 (.seq (.block 1 (.seq (.region [o 16 (.idx 9 12 14), o 17 (.load true 9 16), o 10 (.alloc zPack), u (.store 9 10 17)])
 (.seq (.seq (.region [o 18 (.load true 9 10), o 19 (.call i_Pack_down [18]), o 20 (.mov 2), o 21 (.bin 1 .eql 19 20)])
 (.cond 21 (.seq (.region [o 22 (.mov 1), o 23 (.load true 9 10), o 24 (.mov 2), o 25 (.call i_Pack_need [23, 24]), o 26 (.bin 0 .sub 22 25), o 1 (.mov 26)])
 (.seq (.seq (.region [o 27 (.fld 5 10), o 28 (.load false 1 27)])
 (.cond 28 (.region [o 29 (.mov 8), o 30 (.bin 0 .add 29 (i 1)), o 8 (.mov 30)])
  .skip))
 (.exit 1)))
  .skip))
 (.region [o 31 (.mov 7), o 32 (.mov 1), o 33 (.load true 9 10), o 34 (.mov 2), o 35 (.call i_Pack_need [33, 34]), o 36 (.bin 0 .sub 32 35), o 37 (.mx [36, i 0]),
 o 38 (.mov 8), o 39 (.bin 0 .quo 37 38), o 40 (.mn [31, 39]), o 7 (.mov 40)]))))
 (.region [o 41 (.bin 0 .add 14 (i 1)), o 14 (.mov 41)]))))
def pf150 : PFunc := ⟨3, [], false, false, [.tmp 6],
  (.seq (.region [o 6 (.mov (i 0))])
 (.seq (.region [o 11 (.mov 1), o 7 (.mov 11), o 8 (.mov (i 0))])
 (.seq (.seq (.region [o 12 (.mov 0), o 13 (.len false 12), o 14 (.mov (i 0))])
 (.block 0 (.loop [1, 2, 7, 8, 12, 13, 14] [] [1, 6, 7, 8] [] b150_0)))
 (.seq (.region [o 42 (.mov 7), o 43 (.mov 1), o 44 (.mx [43, i 0]), o 45 (.mov 8), o 46 (.bin 0 .quo 44 45), o 47 (.mn [42, 46]), o 6 (.mov 47)])
 .ret))))⟩
def pf151 : PFunc := ⟨3, [], false, false, [.cell 6 true 4, .cell 7 true 4],
  (.seq (.region [o 3 (.box 0), o 6 (.alloc zRect), o 7 (.alloc zRect)])
 (.seq (.dregion [(o 10 (.load true 4 3), []), (o 11 (.load true 4 3), []), (o 8 (.alloc zRect), []), (o 9 (.alloc zRect), []), (u (.store 4 8 10), [0, 2, 3]),
 (u (.store 4 9 11), [0, 1, 2, 3, 4])])
 (.seq (.seq (.region [o 12 (.mov 1), o 13 (.bin 0 .eql 12 (i 0)), o 14 (.mov 13), gd 15 14 false (.mov 1), gd 16 14 false (.bin 0 .eql 15 (i 1)), o 17 (.pick 14 bT 16)])
 (.cond 17 (.seq (.region [o 18 (.mov 2), o 19 (.fld 3 3), o 20 (.load false 1 19), o 21 (.mn [18, 20]), o 2 (.mov 21)])
 (.seq (.dregion [(o 22 (.mov 2), []), (o 23 (.fld 3 3), []), (o 24 (.load false 1 23), [1]), (o 25 (.mov 2), []), (o 26 (.bin 0 .sub 24 25), [1, 2, 3]),
 (o 27 (.fld 3 8), [0]), (u (.store 1 27 22), [0, 5]), (o 28 (.fld 3 9), [0, 1, 2, 3, 4, 5, 6]), (u (.store 1 28 26), [0, 1, 2, 3, 4, 5, 6, 7])])
 (.seq (.seq (.region [o 29 (.mov 1), o 30 (.bin 0 .eql 29 (i 0))])
 (.cond 30 (.region [o 31 (.fld 1 9), o 32 (.load false 1 31), o 33 (.mov 2), o 34 (.bin 0 .add 32 33), o 35 (.fld 1 9), u (.store 1 35 34)])
  (.region [o 36 (.fld 1 8), o 37 (.load false 1 36), o 38 (.fld 3 3), o 39 (.load false 1 38), o 40 (.mov 2), o 41 (.bin 0 .sub 39 40), o 42 (.bin 0 .add 37 41),
 o 43 (.fld 1 8), u (.store 1 43 42)])))
 (.seq (.dregion [(o 44 (.load true 4 8), []), (o 45 (.load true 4 9), []), (u (.store 4 6 44), [0]), (u (.store 4 7 45), [0, 1, 2])])
 .ret))))
  .skip))
 (.seq (.region [o 46 (.mov 2), o 47 (.fld 2 3), o 48 (.load false 1 47), o 49 (.mn [46, 48]), o 2 (.mov 49)])
 (.seq (.dregion [(o 50 (.mov 2), []), (o 51 (.fld 2 3), []), (o 52 (.load false 1 51), [1]), (o 53 (.mov 2), []), (o 54 (.bin 0 .sub 52 53), [1, 2, 3]),
 (o 55 (.fld 2 8), [0]), (u (.store 1 55 50), [0, 5]), (o 56 (.fld 2 9), [0, 1, 2, 3, 4, 5, 6]), (u (.store 1 56 54), [0, 1, 2, 3, 4, 5, 6, 7])])
 (.seq (.seq (.region [o 57 (.mov 1), o 58 (.bin 0 .eql 57 (i 2))])
 (.cond 58 (.region [o 59 (.fld 0 9), o 60 (.load false 1 59), o 61 (.mov 2), o 62 (.bin 0 .add 60 61), o 63 (.fld 0 9), u (.store 1 63 62)])
  (.region [o 64 (.fld 0 8), o 65 (.load false 1 64), o 66 (.fld 2 3), o 67 (.load false 1 66), o 68 (.mov 2), o 69 (.bin 0 .sub 67 68), o 70 (.bin 0 .add 65 69),
 o 71 (.fld 0 8), u (.store 1 71 70)])))
 (.seq (.dregion [(o 72 (.load true 4 8), []), (o 73 (.load true 4 9), []), (u (.store 4 6 72), [0]), (u (.store 4 7 73), [0, 1, 2])])
 .ret)))))))⟩
def pf152 : PFunc := ⟨1, [], false, false, [.tmp 2],
  (.seq (.region [o 2 (.mov bF)])
 (.seq (.region [o 3 (.mov 0), o 4 (.call s_inRange [3, i 0, i 3]), o 2 (.mov 4)])
 .ret))⟩
def pf153 : PFunc := ⟨1, [], false, false, [.tmp 2],
  (.seq (.region [o 2 (.mov bF)])
 (.seq (.region [o 3 (.mov 0), o 4 (.call s_inRange [3, i 0, i 8]), o 2 (.mov 4)])
 .ret))⟩
def pf154 : PFunc := ⟨1, [], false, false, [.tmp 2],
  (.seq (.region [o 1 (.box 0), o 2 (.mov bF)])
 (.seq (.region [o 3 (.fld 0 1), o 4 (.load false 1 3), o 5 (.call s_inRange [4, i 0, i 5]), o 6 (.mov 5), gd 7 6 true (.fld 1 1), gd 8 6 true (.load false 1 7),
 gd 9 6 true (.call s_inRange [8, i 0, i 30]), o 10 (.pick 6 9 bF), o 2 (.mov 10)])
 .ret))⟩
def b155_0 : PCode :=
  (.seq (.seq (.region [o 15 (.mov 7), o 16 (.mov 0), o 17 (.len false 16), o 18 (.bin 0 .lss 15 17)])
 (.cond 18 .skip
  (.exit 0)))
 (.seq (.block 1 (.seq (.region [o 22 (.mov 0), o 23 (.mov 7), o 24 (.idx 9 22 23), o 25 (.load true 9 24), o 26 (.call s_outer [25]), o 21 (.mov 26), o 27 (.ext 21 0), o 28 (.ext 21 1),
 o 8 (.mov 27), o 9 (.mov 28)])
 (.seq (.region [o 29 (.fld 2 3), o 30 (.load false 1 29), o 10 (.mov 30)])
 (.seq (.region [o 31 (.mov 0), o 32 (.mov 7), o 33 (.idx 9 31 32), o 34 (.fld 2 33), o 35 (.load false 1 34), o 36 (.call s_upright [35]), o 11 (.mov 36)])
 (.seq (.seq (.region [o 37 (.mov 11)])
 (.cond 37 (.seq (.region [o 38 (.mov 9), o 8 (.mov 38)])
 (.region [o 39 (.fld 3 3), o 40 (.load false 1 39), o 10 (.mov 40)]))
  .skip))
 (.seq (.seq (.region [o 41 (.mov 0), o 42 (.mov 7), o 43 (.idx 9 41 42), o 44 (.fld 5 43), o 45 (.load false 1 44)])
 (.cond 45 (.region [o 46 (.mov 8), o 47 (.mov 0), o 48 (.mov 7), o 49 (.slice false 9 47 (some 48) none), o 50 (.mov 10), o 51 (.mov 11), o 52 (.call s_share [49, 50, 51]),
 o 53 (.bin 0 .add 46 52), o 8 (.mov 53)])
  .skip))
 (.seq (.dregion [(o 55 (.load true 4 3), []), (o 56 (.mov 0), []), (o 57 (.mov 7), []), (o 58 (.idx 9 56 57), [1, 2]), (o 59 (.fld 2 58), [1, 2, 3]),
 (o 60 (.load false 1 59), [1, 2, 3, 4]), (o 61 (.mov 8), []), (o 62 (.call s_cut [55, 60, 61]), [0, 1, 2, 3, 4, 5, 6]),
 (o 54 (.mov 62), [0, 1, 2, 3, 4, 5, 6, 7]), (o 63 (.ext 54 0), [0, 1, 2, 3, 4, 5, 6, 7, 8]), (o 64 (.ext 54 1), [0, 1, 2, 3, 4, 5, 6, 7, 8]),
 (o 12 (.alloc zRect), []), (o 13 (.alloc zRect), []), (u (.store 4 12 63), [0, 1, 2, 3, 4, 5, 6, 7, 8, 9, 11, 12]),
 (u (.store 4 13 64), [0, 1, 2, 3, 4, 5, 6, 7, 8, 9, 10, 11, 12, 13])])
 (.seq (.region [o 65 (.mov 6), o 66 (.load true 4 12), o 67 (.bslice 1 zRect [(0, 66)]), o 68 (.app 4 4398046511104 65 67), o 6 (.mov 68)])
 (.region [o 69 (.load true 4 13), u (.store 4 3 69)])))))))))
 (.region [o 19 (.mov 7), o 20 (.bin 0 .add 19 (i 1)), o 7 (.mov 20)])))
def pf155 : PFunc := ⟨2, [], false, false, [.tmp 4, .cell 5 true 4],
  (.seq (.region [o 3 (.box 1), o 4 (.mov nl), o 5 (.alloc zRect)])
 (.seq (.region [o 14 (.bslice 0 zRect []), o 6 (.mov 14)])
 (.seq (.seq (.region [o 7 (.mov (i 0))])
 (.block 0 (.loop [0, 3, 5, 6, 7] [3, 5, 14, 68] [3, 4, 5, 6] [3, 4, 5, 14, 68] b155_0)))
 (.seq (.dregion [(o 70 (.mov 6), []), (o 71 (.load true 4 3), []), (o 4 (.mov 70), [0]), (u (.store 4 5 71), [0, 1, 2])])
 .ret))))⟩
def pf156 : PFunc := ⟨2, [], false, false, [.cell 4 true 4],
  (.seq (.region [o 2 (.box 0), o 3 (.box 1), o 4 (.alloc zRect)])
 (.seq (.region [o 8 (.load true 4 3), o 9 (.fld 7 2), o 10 (.load false 1 9), o 11 (.fld 8 2), o 12 (.load false 1 11), o 13 (.call s_inset [8, 10, 12]),
 o 5 (.alloc zRect), u (.store 4 5 13)])
 (.seq (.region [o 14 (.fld 0 2), o 15 (.load false 1 14), o 6 (.mov 15)])
 (.seq (.region [o 16 (.fld 1 2), o 17 (.load false 1 16), o 7 (.mov 17)])
 (.seq (.seq (.region [o 18 (.fld 3 2), o 19 (.load false 1 18)])
 (.cond 19 (.region [o 20 (.fld 2 5), o 21 (.load false 1 20), o 6 (.mov 21)])
  .skip))
 (.seq (.seq (.region [o 22 (.fld 4 2), o 23 (.load false 1 22)])
 (.cond 23 (.region [o 24 (.fld 3 5), o 25 (.load false 1 24), o 7 (.mov 25)])
  .skip))
 (.seq (.region [o 26 (.load true 4 5), o 27 (.mov 6), o 28 (.mov 7), o 29 (.fld 6 2), o 30 (.load false 1 29), o 31 (.call s_anchored [26, 27, 28, 30]),
 u (.store 4 4 31)])
 .ret)))))))⟩
def b157_0 : PCode :=
  (.seq (.seq (.region [o 34 (.mov 10), o 35 (.mov 8), o 36 (.len false 35), o 37 (.bin 0 .lss 34 36)])
 (.cond 37 .skip
  (.exit 0)))
 (.seq (.block 1 (.dregion [(o 40 (.mov 8), []), (o 41 (.mov 10), []), (o 42 (.mov 8), []), (o 43 (.mov 10), []), (o 44 (.idx 1 42 43), [2, 3]),
 (o 45 (.load false 1 44), [2, 3, 4]), (o 46 (.mov 9), []), (o 47 (.mov 10), []), (o 48 (.idx 1 46 47), [6, 7]), (o 49 (.load false 1 48), [6, 7, 8]),
 (o 50 (.bin 0 .add 45 49), [2, 3, 4, 5, 6, 7, 8, 9]), (o 51 (.idx 1 40 41), [0, 1, 2, 3, 4, 5, 6, 7, 8, 9, 10]),
 (u (.store 1 51 50), [0, 1, 2, 3, 4, 5, 6, 7, 8, 9, 10, 11])]))
 (.region [o 38 (.mov 10), o 39 (.bin 0 .add 38 (i 1)), o 10 (.mov 39)])))
def pf157 : PFunc := ⟨3, [], false, false, [.tmp 6],
  (.seq (.region [o 6 (.mov nl)])
 (.seq (.region [o 11 (.mov 2), o 12 (.mov 1), o 13 (.call s_total [12]), o 14 (.bin 0 .sub 11 13), o 7 (.mov 14)])
 (.seq (.seq (.region [o 15 (.mov 7), o 16 (.bin 0 .lss 15 (i 0))])
 (.cond 16 (.seq (.region [o 17 (.mov 0), o 18 (.mov 1), o 19 (.mov 7), o 20 (.bin 0 .sub (i 0) 19), o 21 (.call s_shrunk [17, 18, 20]), o 6 (.mov 21)])
 .ret)
  .skip))
 (.seq (.region [o 22 (.bslice 0 zInt []), o 23 (.mov 1), o 24 (.app 1 17592186044416 22 23), o 8 (.mov 24)])
 (.seq (.seq (.region [o 25 (.mov 0), o 26 (.call s_weightsOf [25]), o 27 (.call s_total [26]), o 28 (.bin 0 .eql 27 (i 0))])
 (.cond 28 (.seq (.region [o 29 (.mov 8), o 6 (.mov 29)])
 .ret)
  .skip))
 (.seq (.region [o 30 (.mov 7), o 31 (.mov 0), o 32 (.call s_weightsOf [31]), o 33 (.call s_spread [30, 32]), o 9 (.mov 33)])
 (.seq (.seq (.region [o 10 (.mov (i 0))])
 (.block 0 (.loop [8, 9, 10] [22, 24, 1033] [6, 8] [6, 22, 24, 1021] b157_0)))
 (.seq (.region [o 52 (.mov 8), o 6 (.mov 52)])
 .ret))))))))⟩
def pf158 : PFunc := ⟨3, [], false, false, [.cell 6 true 4],
  (.seq (.region [o 3 (.box 0), o 6 (.alloc zRect)])
 (.seq (.region [o 7 (.fld 0 3), o 8 (.load false 1 7), o 9 (.mov 1), o 10 (.fld 2 3), o 11 (.load false 1 10), o 12 (.bin 0 .quo 11 (i 2)), o 13 (.mn [9, 12]),
 o 14 (.bin 0 .add 8 13), o 15 (.fld 1 3), o 16 (.load false 1 15), o 17 (.mov 2), o 18 (.fld 3 3), o 19 (.load false 1 18), o 20 (.bin 0 .quo 19 (i 2)),
 o 21 (.mn [17, 20]), o 22 (.bin 0 .add 16 21), o 23 (.fld 2 3), o 24 (.load false 1 23), o 25 (.mov 1), o 26 (.bin 0 .mul (i 2) 25),
 o 27 (.bin 0 .sub 24 26), o 28 (.mx [i 0, 27]), o 29 (.fld 3 3), o 30 (.load false 1 29), o 31 (.mov 2), o 32 (.bin 0 .mul (i 2) 31),
 o 33 (.bin 0 .sub 30 32), o 34 (.mx [i 0, 33]), o 35 (.build zRect [(0, 1, 14), (1, 1, 22), (2, 1, 28), (3, 1, 34)]), u (.store 4 6 35)])
 .ret))⟩
def pf159 : PFunc := ⟨5, [], false, false, [.tmp 10, .tmp 11],
  (.seq (.region [o 10 (.mov (i 0)), o 11 (.mov (i 0))])
 (.seq (.region [o 13 (.mov 2), o 14 (.mov 1), o 15 (.mn [13, 14]), o 12 (.mov 15)])
 (.seq (.block 0 (.seq (.region [o 17 (.mov 3), o 18 (.mov 17), gd 19 18 true (.mov 4), o 20 (.pick 18 19 bF), o 16 (.mov 20)])
 (.cond 16 (.seq (.region [o 21 (.mov 0), o 22 (.mov 1), o 10 (.mov 21), o 11 (.mov 22)])
 .ret)
  (.seq (.region [o 24 (.mov 3), o 23 (.mov 24)])
 (.cond 23 (.seq (.region [o 25 (.mov 0), o 26 (.mov 12), o 10 (.mov 25), o 11 (.mov 26)])
 .ret)
  (.seq (.region [o 28 (.mov 4), o 27 (.mov 28)])
 (.cond 27 (.seq (.region [o 29 (.mov 0), o 30 (.mov 1), o 31 (.bin 0 .add 29 30), o 32 (.mov 12), o 33 (.bin 0 .sub 31 32), o 34 (.mov 12), o 10 (.mov 33), o 11 (.mov 34)])
 .ret)
  .skip)))))))
 (.seq (.region [o 35 (.mov 0), o 36 (.mov 1), o 37 (.mov 12), o 38 (.bin 0 .sub 36 37), o 39 (.bin 0 .quo 38 (i 2)), o 40 (.bin 0 .add 35 39), o 41 (.mov 12),
 o 10 (.mov 40), o 11 (.mov 41)])
 .ret))))⟩
def pf160 : PFunc := ⟨2, [], false, false, [.tmp 4],
  (.seq (.region [o 4 (.mov (i 0))])
 (.seq (.region [o 5 (.mov 0), o 6 (.mov 1), o 7 (.bin 0 .mul 5 6), o 8 (.bin 0 .quo 7 (i 1000)), o 4 (.mov 8)])
 .ret))⟩
def b161_0 : PCode :=
  (.seq (.seq (.region [o 28 (.mov 8), o 29 (.mov 5), o 30 (.len false 29), o 31 (.bin 0 .lss 28 30)])
 (.cond 31 .skip
  (.exit 0)))
 (.seq (.block 1 (.seq (.region [o 34 (.mov 5), o 35 (.mov 8), o 36 (.mov 0), o 37 (.mov 1), o 38 (.mov 8), o 39 (.idx 1 37 38), o 40 (.load false 1 39), o 41 (.bin 0 .mul 36 40),
 o 42 (.mov 6), o 43 (.bin 0 .quo 41 42), o 44 (.idx 1 34 35), u (.store 1 44 43)])
 (.region [o 45 (.mov 7), o 46 (.mov 5), o 47 (.mov 8), o 48 (.idx 1 46 47), o 49 (.load false 1 48), o 50 (.bin 0 .sub 45 49), o 7 (.mov 50)])))
 (.region [o 32 (.mov 8), o 33 (.bin 0 .add 32 (i 1)), o 8 (.mov 33)])))
def b161_1 : PCode :=
  (.seq (.seq (.region [o 51 (.mov 7), o 52 (.bin 0 .gtr 51 (i 0))])
 (.cond 52 .skip
  (.exit 2)))
 (.seq (.block 3 (.seq (.region [o 55 (.mov 1), o 56 (.mov 9), o 57 (.idx 1 55 56), o 58 (.load false 1 57), o 59 (.bin 0 .gtr 58 (i 0))])
 (.cond 59 (.seq (.region [o 60 (.mov 5), o 61 (.mov 9), o 62 (.mov 5), o 63 (.mov 9), o 64 (.idx 1 62 63), o 65 (.load false 1 64), o 66 (.bin 0 .add 65 (i 1)),
 o 67 (.idx 1 60 61), u (.store 1 67 66)])
 (.region [o 68 (.mov 7), o 69 (.bin 0 .sub 68 (i 1)), o 7 (.mov 69)]))
  .skip)))
 (.region [o 53 (.mov 9), o 54 (.bin 0 .add 53 (i 1)), o 9 (.mov 54)])))
def pf161 : PFunc := ⟨2, [], false, false, [.tmp 4],
  (.seq (.region [o 4 (.mov nl)])
 (.seq (.region [o 10 (.mov 1), o 11 (.len false 10), o 12 (.mk zInt 17592186044416 11), o 5 (.mov 12)])
 (.seq (.region [o 13 (.mov 1), o 14 (.call s_total [13]), o 6 (.mov 14)])
 (.seq (.seq (.region [o 15 (.mov 6), o 16 (.bin 0 .eql 15 (i 0))])
 (.cond 16 (.seq (.seq (.region [o 17 (.mov 5), o 18 (.len false 17), o 19 (.bin 0 .gtr 18 (i 0))])
 (.cond 19 (.region [o 20 (.mov 5), o 21 (.mov 5), o 22 (.len false 21), o 23 (.bin 0 .sub 22 (i 1)), o 24 (.mov 0), o 25 (.idx 1 20 23), u (.store 1 25 24)])
  .skip))
 (.seq (.region [o 26 (.mov 5), o 4 (.mov 26)])
 .ret))
  .skip))
 (.seq (.region [o 27 (.mov 0), o 7 (.mov 27)])
 (.seq (.seq (.region [o 8 (.mov (i 0))])
 (.block 0 (.loop [0, 1, 5, 6, 7, 8] [12] [1, 4, 5, 7] [4, 12] b161_0)))
 (.seq (.seq (.region [o 9 (.mov (i 0))])
 (.block 2 (.loop [1, 5, 7, 9] [12] [4, 5] [4, 12] b161_1)))
 (.seq (.region [o 70 (.mov 5), o 4 (.mov 70)])
 .ret))))))))⟩
def b162_0 : PCode :=
  (.seq (.seq (.region [o 6 (.mov 4), o 7 (.mov 0), o 8 (.len false 7), o 9 (.bin 0 .lss 6 8)])
 (.cond 9 .skip
  (.exit 0)))
 (.seq (.block 1 (.region [o 12 (.mov 3), o 13 (.mov 0), o 14 (.mov 4), o 15 (.idx 2 13 14), o 16 (.fld 0 15), o 17 (.load false 1 16), o 18 (.bslice 1 zInt [(0, 17)]),
 o 19 (.app 1 17592186044416 12 18), o 3 (.mov 19)]))
 (.region [o 10 (.mov 4), o 11 (.bin 0 .add 10 (i 1)), o 4 (.mov 11)])))
def pf162 : PFunc := ⟨1, [], false, false, [.tmp 2],
  (.seq (.region [o 2 (.mov nl)])
 (.seq (.region [o 5 (.bslice 0 zInt []), o 3 (.mov 5)])
 (.seq (.seq (.region [o 4 (.mov (i 0))])
 (.block 0 (.loop [0, 3, 4] [5, 19] [2, 3] [2, 5, 19] b162_0)))
 (.seq (.region [o 20 (.mov 3), o 2 (.mov 20)])
 .ret))))⟩
def b163_0 : PCode :=
  (.seq (.region [o 9 (.bin 0 .lss 8 7)])
 (.seq (.cond 9 .skip
  (.exit 0))
 (.seq (.block 1 (.seq (.region [o 10 (.mov 8), o 5 (.mov 10)])
 (.seq (.region [o 11 (.mov 1), o 12 (.mov 0), o 13 (.mov 5), o 14 (.idx 2 12 13), o 15 (.load true 2 14), o 16 (.callv 11 [15])])
 (.cond 16 (.seq (.region [o 17 (.mov 5), o 4 (.mov 17)])
 .ret)
  .skip))))
 (.region [o 18 (.bin 0 .add 8 (i 1)), o 8 (.mov 18)]))))
def pf163 : PFunc := ⟨2, [], false, false, [.tmp 4],
  (.seq (.region [o 4 (.mov (i 0))])
 (.seq (.seq (.region [o 6 (.mov 0), o 7 (.len false 6), o 8 (.mov (i 0))])
 (.block 0 (.loop [0, 1, 7, 8] [] [4] [] b163_0)))
 (.seq (.region [o 4 (.mov (i (-1)))])
 .ret)))⟩
def b164_0 : PCode :=
  (.seq (.seq (.region [o 13 (.mov 9), o 14 (.mov 0), o 15 (.len false 14), o 16 (.bin 0 .lss 13 15)])
 (.cond 16 .skip
  (.exit 0)))
 (.seq (.block 1 (.seq (.region [o 20 (.mov 0), o 21 (.mov 9), o 22 (.idx 9 20 21), o 23 (.load true 9 22), o 24 (.call s_outer [23]), o 19 (.mov 24), o 25 (.ext 19 0), o 26 (.ext 19 1),
 o 10 (.mov 25), o 11 (.mov 26)])
 (.seq (.seq (.region [o 27 (.mov 2)])
 (.cond 27 (.region [o 28 (.mov 11), o 10 (.mov 28)])
  .skip))
 (.block 2 (.seq (.region [o 30 (.mov 0), o 31 (.mov 9), o 32 (.idx 9 30 31), o 33 (.fld 2 32), o 34 (.load false 1 33), o 35 (.call s_upright [34]), o 36 (.mov 2),
 o 37 (.bin 1 .eql 35 36), o 29 (.mov 37)])
 (.cond 29 (.seq (.region [o 38 (.mov 1), o 39 (.mov 10), o 40 (.bin 0 .sub 38 39), o 1 (.mov 40)])
 (.seq (.region [o 41 (.mov 0), o 42 (.mov 9), o 43 (.idx 9 41 42), o 44 (.fld 5 43), o 45 (.load false 1 44)])
 (.cond 45 (.region [o 46 (.mov 8), o 47 (.bin 0 .add 46 (i 1)), o 8 (.mov 47)])
  .skip)))
  (.seq (.region [o 49 (.mov 8), o 50 (.bin 0 .gtr 49 (i 0)), o 48 (.mov 50)])
 (.cond 48 (.region [o 51 (.mov 7), o 52 (.mov 1), o 53 (.mov 10), o 54 (.bin 0 .sub 52 53), o 55 (.mov 8), o 56 (.call s_half [54, 55]), o 57 (.mn [51, 56]), o 7 (.mov 57)])
  .skip))))))))
 (.region [o 17 (.mov 9), o 18 (.bin 0 .add 17 (i 1)), o 9 (.mov 18)])))
def pf164 : PFunc := ⟨3, [], false, false, [.tmp 6],
  (.seq (.region [o 6 (.mov (i 0))])
 (.seq (.region [o 12 (.mov 1), o 7 (.mov 12)])
 (.seq (.region [o 8 (.mov (i 0))])
 (.seq (.seq (.region [o 9 (.mov (i 0))])
 (.block 0 (.loop [0, 1, 2, 7, 8, 9] [] [1, 6, 7, 8] [] b164_0)))
 (.seq (.seq (.region [o 58 (.mov 8), o 59 (.bin 0 .gtr 58 (i 0))])
 (.cond 59 (.region [o 60 (.mov 7), o 61 (.mov 1), o 62 (.mov 8), o 63 (.call s_half [61, 62]), o 64 (.mn [60, 63]), o 7 (.mov 64)])
  .skip))
 (.seq (.region [o 65 (.mov 7), o 66 (.mx [65, i 0]), o 6 (.mov 66)])
 .ret))))))⟩
def pf165 : PFunc := ⟨3, [], false, false, [.cell 6 true 4, .cell 7 true 4],
  (.seq (.region [o 3 (.box 0), o 6 (.alloc zRect), o 7 (.alloc zRect)])
 (.seq (.region [o 10 (.load true 4 3), o 8 (.alloc zRect), u (.store 4 8 10)])
 (.seq (.region [o 11 (.load true 4 3), o 9 (.alloc zRect), u (.store 4 9 11)])
 (.seq (.seq (.region [o 12 (.mov 1)])
 (.block 0 (.seq (.region [o 31 (.bin 0 .eql 12 (i 0)), o 30 (.mov 31)])
 (.cond 30 (.seq (.region [o 32 (.mov 2), o 33 (.fld 3 3), o 34 (.load false 1 33), o 35 (.mn [32, 34]), o 36 (.fld 3 8), u (.store 1 36 35)])
 (.seq (.region [o 37 (.fld 1 3), o 38 (.load false 1 37), o 39 (.fld 3 8), o 40 (.load false 1 39), o 41 (.bin 0 .add 38 40), o 42 (.fld 1 9), u (.store 1 42 41)])
 (.region [o 43 (.fld 3 3), o 44 (.load false 1 43), o 45 (.fld 3 8), o 46 (.load false 1 45), o 47 (.bin 0 .sub 44 46), o 48 (.fld 3 9), u (.store 1 48 47)])))
  (.seq (.region [o 50 (.bin 0 .eql 12 (i 1)), o 49 (.mov 50)])
 (.cond 49 (.seq (.region [o 51 (.mov 2), o 52 (.fld 3 3), o 53 (.load false 1 52), o 54 (.mn [51, 53]), o 55 (.fld 3 8), u (.store 1 55 54)])
 (.seq (.region [o 56 (.fld 3 3), o 57 (.load false 1 56), o 58 (.fld 3 8), o 59 (.load false 1 58), o 60 (.bin 0 .sub 57 59), o 61 (.fld 3 9), u (.store 1 61 60)])
 (.region [o 62 (.fld 1 3), o 63 (.load false 1 62), o 64 (.fld 3 9), o 65 (.load false 1 64), o 66 (.bin 0 .add 63 65), o 67 (.fld 1 8), u (.store 1 67 66)])))
  (.seq (.region [o 69 (.bin 0 .eql 12 (i 2)), o 68 (.mov 69)])
 (.cond 68 (.seq (.region [o 70 (.mov 2), o 71 (.fld 2 3), o 72 (.load false 1 71), o 73 (.mn [70, 72]), o 74 (.fld 2 8), u (.store 1 74 73)])
 (.seq (.region [o 75 (.fld 0 3), o 76 (.load false 1 75), o 77 (.fld 2 8), o 78 (.load false 1 77), o 79 (.bin 0 .add 76 78), o 80 (.fld 0 9), u (.store 1 80 79)])
 (.region [o 81 (.fld 2 3), o 82 (.load false 1 81), o 83 (.fld 2 8), o 84 (.load false 1 83), o 85 (.bin 0 .sub 82 84), o 86 (.fld 2 9), u (.store 1 86 85)])))
  (.seq (.region [o 13 (.mov 2), o 14 (.fld 2 3), o 15 (.load false 1 14), o 16 (.mn [13, 15]), o 17 (.fld 2 8), u (.store 1 17 16)])
 (.seq (.region [o 18 (.fld 2 3), o 19 (.load false 1 18), o 20 (.fld 2 8), o 21 (.load false 1 20), o 22 (.bin 0 .sub 19 21), o 23 (.fld 2 9), u (.store 1 23 22)])
 (.region [o 24 (.fld 0 3), o 25 (.load false 1 24), o 26 (.fld 2 9), o 27 (.load false 1 26), o 28 (.bin 0 .add 25 27), o 29 (.fld 0 8), u (.store 1 29 28)])))))))))))
 (.seq (.dregion [(o 87 (.load true 4 8), []), (o 88 (.load true 4 9), []), (u (.store 4 6 87), [0]), (u (.store 4 7 88), [0, 1, 2])])
 .ret)))))⟩
def pf166 : PFunc := ⟨4, [], false, false, [.cell 8 true 4],
  (.seq (.region [o 4 (.box 0), o 8 (.alloc zRect)])
 (.seq (.region [o 9 (.mov 1), o 10 (.fld 2 4), o 11 (.load false 1 10), o 12 (.mn [9, 11]), o 1 (.mov 12)])
 (.seq (.region [o 13 (.mov 2), o 14 (.fld 3 4), o 15 (.load false 1 14), o 16 (.mn [13, 15]), o 2 (.mov 16)])
 (.seq (.region [o 17 (.fld 0 4), o 18 (.load false 1 17), o 19 (.fld 2 4), o 20 (.load false 1 19), o 21 (.mov 1), o 22 (.bin 0 .sub 20 21), o 23 (.mov 3),
 o 24 (.bin 0 .rem 23 (i 3)), o 25 (.bin 0 .mul 22 24), o 26 (.bin 0 .quo 25 (i 2)), o 27 (.bin 0 .add 18 26), o 28 (.fld 1 4), o 29 (.load false 1 28),
 o 30 (.fld 3 4), o 31 (.load false 1 30), o 32 (.mov 2), o 33 (.bin 0 .sub 31 32), o 34 (.mov 3), o 35 (.bin 0 .quo 34 (i 3)), o 36 (.bin 0 .mul 33 35),
 o 37 (.bin 0 .quo 36 (i 2)), o 38 (.bin 0 .add 29 37), o 39 (.mov 1), o 40 (.mov 2),
 o 41 (.build zRect [(0, 1, 27), (1, 1, 38), (2, 1, 39), (3, 1, 40)]), u (.store 4 8 41)])
 .ret))))⟩
def b167_1 : PCode :=
  (.seq (.seq (.region [o 21 (.mov 9), o 22 (.mov 0), o 23 (.len false 22), o 24 (.bin 0 .lss 21 23)])
 (.cond 24 .skip
  (.exit 2)))
 (.seq (.block 3 (.seq (.dregion [(o 27 (.mov 7), []), (o 28 (.mov 9), []), (o 29 (.idx 1 27 28), [0, 1]), (o 30 (.load false 1 29), [0, 1, 2]), (o 31 (.mov 0), []), (o 32 (.mov 9), []),
 (o 33 (.idx 2 31 32), [4, 5]), (o 34 (.fld 1 33), [4, 5, 6]), (o 35 (.load false 1 34), [4, 5, 6, 7]),
 (o 36 (.bin 0 .gtr 30 35), [0, 1, 2, 3, 4, 5, 6, 7, 8])])
 (.cond 36 (.region [o 37 (.mov 8), o 38 (.mov 9), o 39 (.mov 0), o 40 (.mov 9), o 41 (.idx 2 39 40), o 42 (.fld 0 41), o 43 (.load false 1 42), o 44 (.idx 1 37 38),
 u (.store 1 44 43)])
  .skip)))
 (.region [o 25 (.mov 9), o 26 (.bin 0 .add 25 (i 1)), o 9 (.mov 26)])))
def b167_2 : PCode :=
  (.seq (.seq (.region [o 52 (.mov 11), o 53 (.mov 10), o 54 (.len false 53), o 55 (.bin 0 .lss 52 54)])
 (.cond 55 .skip
  (.exit 4)))
 (.seq (.block 5 (.seq (.dregion [(o 58 (.mov 10), []), (o 59 (.mov 11), []), (o 60 (.idx 1 58 59), [0, 1]), (o 61 (.load false 1 60), [0, 1, 2]), (o 62 (.mov 7), []),
 (o 63 (.mov 11), []), (o 64 (.idx 1 62 63), [4, 5]), (o 65 (.load false 1 64), [4, 5, 6]), (o 66 (.mov 0), []), (o 67 (.mov 11), []),
 (o 68 (.idx 2 66 67), [8, 9]), (o 69 (.fld 1 68), [8, 9, 10]), (o 70 (.load false 1 69), [8, 9, 10, 11]),
 (o 71 (.bin 0 .sub 65 70), [4, 5, 6, 7, 8, 9, 10, 11, 12]), (o 72 (.mn [61, 71]), [0, 1, 2, 3, 4, 5, 6, 7, 8, 9, 10, 11, 12, 13]),
 (o 12 (.mov 72), [0, 1, 2, 3, 4, 5, 6, 7, 8, 9, 10, 11, 12, 13, 14])])
 (.seq (.region [o 73 (.mov 7), o 74 (.mov 11), o 75 (.mov 7), o 76 (.mov 11), o 77 (.idx 1 75 76), o 78 (.load false 1 77), o 79 (.mov 12), o 80 (.bin 0 .sub 78 79),
 o 81 (.idx 1 73 74), u (.store 1 81 80)])
 (.region [o 82 (.mov 2), o 83 (.mov 12), o 84 (.bin 0 .sub 82 83), o 2 (.mov 84)]))))
 (.region [o 56 (.mov 11), o 57 (.bin 0 .add 56 (i 1)), o 11 (.mov 57)])))
def b167_0 : PCode :=
  (.seq (.seq (.region [o 16 (.mov 2), o 17 (.bin 0 .gtr 16 (i 0))])
 (.cond 17 .skip
  (.exit 0)))
 (.block 1 (.seq (.region [o 18 (.mov 0), o 19 (.len false 18), o 20 (.mk zInt 17592186044416 19), o 8 (.mov 20)])
 (.seq (.seq (.region [o 9 (.mov (i 0))])
 (.block 2 (.loop [0, 2, 7, 8, 9] [13, 15, 20] [0, 2, 6, 7, 8] [6, 13, 15, 20] b167_1)))
 (.seq (.seq (.region [o 45 (.mov 8), o 46 (.call s_total [45]), o 47 (.bin 0 .eql 46 (i 0))])
 (.cond 47 (.seq (.region [o 48 (.mov 7), o 6 (.mov 48)])
 .ret)
  .skip))
 (.seq (.region [o 49 (.mov 2), o 50 (.mov 8), o 51 (.call s_spread [49, 50]), o 10 (.mov 51)])
 (.seq (.region [o 11 (.mov (i 0))])
 (.block 4 (.loop [0, 2, 7, 10, 11] [13, 15, 1051] [0, 2, 6, 7] [6, 13, 15] b167_2)))))))))
def pf167 : PFunc := ⟨3, [], false, false, [.tmp 6],
  (.seq (.region [o 6 (.mov nl)])
 (.seq (.region [o 13 (.bslice 0 zInt []), o 14 (.mov 1), o 15 (.app 1 17592186044416 13 14), o 7 (.mov 15)])
 (.seq (.block 0 (.loop [0, 2, 7] [13, 15] [6, 7] [6, 13, 15] b167_0))
 (.seq (.region [o 85 (.mov 7), o 6 (.mov 85)])
 .ret))))⟩
def pf168 : PFunc := ⟨2, [], false, false, [.tmp 4],
  (.seq (.region [o 4 (.mov (i 0))])
 (.seq (.seq (.region [o 5 (.mov 0), o 6 (.bin 0 .lss 5 (i 0))])
 (.cond 6 (.seq (.region [o 4 (.mov (i 0))])
 .ret)
  .skip))
 (.seq (.region [o 7 (.mov 0), o 8 (.mov 1), o 9 (.bin 0 .quo 7 8), o 4 (.mov 9)])
 .ret)))⟩
def funcs : Nat → Option PFunc
  | 5 => some pf5
  | 23 => some pf23
  | 24 => some pf24
  | 25 => some pf25
  | 26 => some pf26
  | 27 => some pf27
  | 50 => some pf50
  | 51 => some pf51
  | 57 => some pf57
  | 58 => some pf58
  | 59 => some pf59
  | 60 => some pf60
  | 61 => some pf61
  | 62 => some pf62
  | 63 => some pf63
  | 64 => some pf64
  | 65 => some pf65
  | 66 => some pf66
  | 68 => some pf68
  | 71 => some pf71
  | 73 => some pf73
  | 74 => some pf74
  | 76 => some pf76
  | 81 => some pf81
  | 82 => some pf82
  | 87 => some pf87
  | 88 => some pf88
  | 89 => some pf89
  | 90 => some pf90
  | 91 => some pf91
  | 92 => some pf92
  | 93 => some pf93
  | 94 => some pf94
  | 95 => some pf95
  | 96 => some pf96
  | 97 => some pf97
  | 98 => some pf98
  | 99 => some pf99
  | 100 => some pf100
  | 107 => some pf107
  | 108 => some pf108
  | 109 => some pf109
  | 110 => some pf110
  | 115 => some pf115
  | 116 => some pf116
  | 117 => some pf117
  | 118 => some pf118
  | 119 => some pf119
  | 120 => some pf120
  | 121 => some pf121
  | 122 => some pf122
  | 123 => some pf123
  | 124 => some pf124
  | 125 => some pf125
  | 126 => some pf126
  | 127 => some pf127
  | 128 => some pf128
  | 129 => some pf129
  | 130 => some pf130
  | 131 => some pf131
  | 132 => some pf132
  | 133 => some pf133
  | 134 => some pf134
  | 135 => some pf135
  | 136 => some pf136
  | 137 => some pf137
  | 138 => some pf138
  | 139 => some pf139
  | 140 => some pf140
  | 141 => some pf141
  | 142 => some pf142
  | 144 => some pf144
  | 145 => some pf145
  | 147 => some pf147
  | 148 => some pf148
  | 149 => some pf149
  | 150 => some pf150
  | 151 => some pf151
  | 152 => some pf152
  | 153 => some pf153
  | 154 => some pf154
  | 155 => some pf155
  | 156 => some pf156
  | 157 => some pf157
  | 158 => some pf158
  | 159 => some pf159
  | 160 => some pf160
  | 161 => some pf161
  | 162 => some pf162
  | 163 => some pf163
  | 164 => some pf164
  | 165 => some pf165
  | 166 => some pf166
  | 167 => some pf167
  | 168 => some pf168
  | _ => none
def own : Nat → List Bool
  | 16 => [true, false]
  | 21 => [true, false]
  | 54 => [true, false]
  | 58 => [true]
  | 65 => [true]
  | 67 => [true]
  | 73 => [true, false]
  | 74 => [true, false]
  | 85 => [true, false]
  | 95 => [false, false, false, true]
  | 96 => [true]
  | 133 => [true]
  | 134 => [true]
  | 135 => [true]
  | 136 => [true, false, false]
  | _ => []
abbrev cf : Cfg := ⟨own, false⟩
abbrev cz : Cfg := ⟨own, true⟩
end Go.Proofs.Ytdgamfanffnhaaa.PI
namespace Go.Proofs.Ytdgamfanffnhaaa.PI
open Go Go.Proofs
set_option maxRecDepth 100000
theorem ok5 : okFunc Try.prog own 5 pf5 = true := by kernel_rfl
theorem ok23 : okFunc Try.prog own 23 pf23 = true := by kernel_rfl
theorem ok24 : okFunc Try.prog own 24 pf24 = true := by kernel_rfl
theorem ok25 : okFunc Try.prog own 25 pf25 = true := by kernel_rfl
theorem ok26 : okFunc Try.prog own 26 pf26 = true := by kernel_rfl
theorem ok27 : okFunc Try.prog own 27 pf27 = true := by kernel_rfl
theorem ok50 : okFunc Try.prog own 50 pf50 = true := by kernel_rfl
theorem ok51 : okFunc Try.prog own 51 pf51 = true := by kernel_rfl
theorem ok57 : okFunc Try.prog own 57 pf57 = true := by kernel_rfl
theorem ok58 : okFunc Try.prog own 58 pf58 = true := by kernel_rfl
theorem ok59 : okFunc Try.prog own 59 pf59 = true := by kernel_rfl
theorem ok60 : okFunc Try.prog own 60 pf60 = true := by kernel_rfl
theorem ok61 : okFunc Try.prog own 61 pf61 = true := by kernel_rfl
theorem ok62 : okFunc Try.prog own 62 pf62 = true := by kernel_rfl
theorem ok63 : okFunc Try.prog own 63 pf63 = true := by kernel_rfl
theorem ok64 : okFunc Try.prog own 64 pf64 = true := by kernel_rfl
theorem ok65 : okFunc Try.prog own 65 pf65 = true := by kernel_rfl
theorem ok66 : okFunc Try.prog own 66 pf66 = true := by kernel_rfl
theorem ok68 : okFunc Try.prog own 68 pf68 = true := by kernel_rfl
theorem ok71 : okFunc Try.prog own 71 pf71 = true := by kernel_rfl
theorem ok73 : okFunc Try.prog own 73 pf73 = true := by kernel_rfl
theorem ok74 : okFunc Try.prog own 74 pf74 = true := by kernel_rfl
theorem ok76 : okFunc Try.prog own 76 pf76 = true := by kernel_rfl
theorem ok81 : okFunc Try.prog own 81 pf81 = true := by kernel_rfl
theorem ok82 : okFunc Try.prog own 82 pf82 = true := by kernel_rfl
theorem ok87 : okFunc Try.prog own 87 pf87 = true := by kernel_rfl
theorem ok88 : okFunc Try.prog own 88 pf88 = true := by kernel_rfl
theorem ok89 : okFunc Try.prog own 89 pf89 = true := by kernel_rfl
theorem ok90 : okFunc Try.prog own 90 pf90 = true := by kernel_rfl
theorem ok91 : okFunc Try.prog own 91 pf91 = true := by kernel_rfl
theorem ok92 : okFunc Try.prog own 92 pf92 = true := by kernel_rfl
theorem ok93 : okFunc Try.prog own 93 pf93 = true := by kernel_rfl
theorem ok94 : okFunc Try.prog own 94 pf94 = true := by kernel_rfl
theorem ok95 : okFunc Try.prog own 95 pf95 = true := by kernel_rfl
theorem ok96 : okFunc Try.prog own 96 pf96 = true := by kernel_rfl
theorem ok97 : okFunc Try.prog own 97 pf97 = true := by kernel_rfl
theorem ok98 : okFunc Try.prog own 98 pf98 = true := by kernel_rfl
theorem ok99 : okFunc Try.prog own 99 pf99 = true := by kernel_rfl
theorem ok100 : okFunc Try.prog own 100 pf100 = true := by kernel_rfl
theorem ok107 : okFunc Try.prog own 107 pf107 = true := by kernel_rfl
theorem ok108 : okFunc Try.prog own 108 pf108 = true := by kernel_rfl
theorem ok109 : okFunc Try.prog own 109 pf109 = true := by kernel_rfl
theorem ok110 : okFunc Try.prog own 110 pf110 = true := by kernel_rfl
theorem ok115 : okFunc Try.prog own 115 pf115 = true := by kernel_rfl
theorem ok116 : okFunc Try.prog own 116 pf116 = true := by kernel_rfl
theorem ok117 : okFunc Try.prog own 117 pf117 = true := by kernel_rfl
theorem ok118 : okFunc Try.prog own 118 pf118 = true := by kernel_rfl
theorem ok119 : okFunc Try.prog own 119 pf119 = true := by kernel_rfl
theorem ok120 : okFunc Try.prog own 120 pf120 = true := by kernel_rfl
theorem ok121 : okFunc Try.prog own 121 pf121 = true := by kernel_rfl
theorem ok122 : okFunc Try.prog own 122 pf122 = true := by kernel_rfl
theorem ok123 : okFunc Try.prog own 123 pf123 = true := by kernel_rfl
theorem ok124 : okFunc Try.prog own 124 pf124 = true := by kernel_rfl
theorem ok125 : okFunc Try.prog own 125 pf125 = true := by kernel_rfl
theorem ok126 : okFunc Try.prog own 126 pf126 = true := by kernel_rfl
theorem ok127 : okFunc Try.prog own 127 pf127 = true := by kernel_rfl
theorem ok128 : okFunc Try.prog own 128 pf128 = true := by kernel_rfl
theorem ok129 : okFunc Try.prog own 129 pf129 = true := by kernel_rfl
theorem ok130 : okFunc Try.prog own 130 pf130 = true := by kernel_rfl
theorem ok131 : okFunc Try.prog own 131 pf131 = true := by kernel_rfl
theorem ok132 : okFunc Try.prog own 132 pf132 = true := by kernel_rfl
theorem ok133 : okFunc Try.prog own 133 pf133 = true := by kernel_rfl
theorem ok134 : okFunc Try.prog own 134 pf134 = true := by kernel_rfl
theorem ok135 : okFunc Try.prog own 135 pf135 = true := by kernel_rfl
theorem ok136 : okFunc Try.prog own 136 pf136 = true := by kernel_rfl
theorem ok137 : okFunc Try.prog own 137 pf137 = true := by kernel_rfl
theorem ok138 : okFunc Try.prog own 138 pf138 = true := by kernel_rfl
theorem ok139 : okFunc Try.prog own 139 pf139 = true := by kernel_rfl
theorem ok140 : okFunc Try.prog own 140 pf140 = true := by kernel_rfl
theorem ok141 : okFunc Try.prog own 141 pf141 = true := by kernel_rfl
theorem ok142 : okFunc Try.prog own 142 pf142 = true := by kernel_rfl
theorem ok144 : okFunc Try.prog own 144 pf144 = true := by kernel_rfl
theorem ok145 : okFunc Try.prog own 145 pf145 = true := by kernel_rfl
theorem ok147 : okFunc Try.prog own 147 pf147 = true := by kernel_rfl
theorem ok148 : okFunc Try.prog own 148 pf148 = true := by kernel_rfl
theorem ok149 : okFunc Try.prog own 149 pf149 = true := by kernel_rfl
theorem ok150 : okFunc Try.prog own 150 pf150 = true := by kernel_rfl
theorem ok151 : okFunc Try.prog own 151 pf151 = true := by kernel_rfl
theorem ok152 : okFunc Try.prog own 152 pf152 = true := by kernel_rfl
theorem ok153 : okFunc Try.prog own 153 pf153 = true := by kernel_rfl
theorem ok154 : okFunc Try.prog own 154 pf154 = true := by kernel_rfl
theorem ok155 : okFunc Try.prog own 155 pf155 = true := by kernel_rfl
theorem ok156 : okFunc Try.prog own 156 pf156 = true := by kernel_rfl
theorem ok157 : okFunc Try.prog own 157 pf157 = true := by kernel_rfl
theorem ok158 : okFunc Try.prog own 158 pf158 = true := by kernel_rfl
theorem ok159 : okFunc Try.prog own 159 pf159 = true := by kernel_rfl
theorem ok160 : okFunc Try.prog own 160 pf160 = true := by kernel_rfl
theorem ok161 : okFunc Try.prog own 161 pf161 = true := by kernel_rfl
theorem ok162 : okFunc Try.prog own 162 pf162 = true := by kernel_rfl
theorem ok163 : okFunc Try.prog own 163 pf163 = true := by kernel_rfl
theorem ok164 : okFunc Try.prog own 164 pf164 = true := by kernel_rfl
theorem ok165 : okFunc Try.prog own 165 pf165 = true := by kernel_rfl
theorem ok166 : okFunc Try.prog own 166 pf166 = true := by kernel_rfl
theorem ok167 : okFunc Try.prog own 167 pf167 = true := by kernel_rfl
theorem ok168 : okFunc Try.prog own 168 pf168 = true := by kernel_rfl
theorem allOk : ∀ f pf, funcs f = some pf → okFunc Try.prog own f pf = true := by
  intro f pf h
  unfold funcs at h
  split at h
  · injection h with h; subst h; exact ok5
  · injection h with h; subst h; exact ok23
  · injection h with h; subst h; exact ok24
  · injection h with h; subst h; exact ok25
  · injection h with h; subst h; exact ok26
  · injection h with h; subst h; exact ok27
  · injection h with h; subst h; exact ok50
  · injection h with h; subst h; exact ok51
  · injection h with h; subst h; exact ok57
  · injection h with h; subst h; exact ok58
  · injection h with h; subst h; exact ok59
  · injection h with h; subst h; exact ok60
  · injection h with h; subst h; exact ok61
  · injection h with h; subst h; exact ok62
  · injection h with h; subst h; exact ok63
  · injection h with h; subst h; exact ok64
  · injection h with h; subst h; exact ok65
  · injection h with h; subst h; exact ok66
  · injection h with h; subst h; exact ok68
  · injection h with h; subst h; exact ok71
  · injection h with h; subst h; exact ok73
  · injection h with h; subst h; exact ok74
  · injection h with h; subst h; exact ok76
  · injection h with h; subst h; exact ok81
  · injection h with h; subst h; exact ok82
  · injection h with h; subst h; exact ok87
  · injection h with h; subst h; exact ok88
  · injection h with h; subst h; exact ok89
  · injection h with h; subst h; exact ok90
  · injection h with h; subst h; exact ok91
  · injection h with h; subst h; exact ok92
  · injection h with h; subst h; exact ok93
  · injection h with h; subst h; exact ok94
  · injection h with h; subst h; exact ok95
  · injection h with h; subst h; exact ok96
  · injection h with h; subst h; exact ok97
  · injection h with h; subst h; exact ok98
  · injection h with h; subst h; exact ok99
  · injection h with h; subst h; exact ok100
  · injection h with h; subst h; exact ok107
  · injection h with h; subst h; exact ok108
  · injection h with h; subst h; exact ok109
  · injection h with h; subst h; exact ok110
  · injection h with h; subst h; exact ok115
  · injection h with h; subst h; exact ok116
  · injection h with h; subst h; exact ok117
  · injection h with h; subst h; exact ok118
  · injection h with h; subst h; exact ok119
  · injection h with h; subst h; exact ok120
  · injection h with h; subst h; exact ok121
  · injection h with h; subst h; exact ok122
  · injection h with h; subst h; exact ok123
  · injection h with h; subst h; exact ok124
  · injection h with h; subst h; exact ok125
  · injection h with h; subst h; exact ok126
  · injection h with h; subst h; exact ok127
  · injection h with h; subst h; exact ok128
  · injection h with h; subst h; exact ok129
  · injection h with h; subst h; exact ok130
  · injection h with h; subst h; exact ok131
  · injection h with h; subst h; exact ok132
  · injection h with h; subst h; exact ok133
  · injection h with h; subst h; exact ok134
  · injection h with h; subst h; exact ok135
  · injection h with h; subst h; exact ok136
  · injection h with h; subst h; exact ok137
  · injection h with h; subst h; exact ok138
  · injection h with h; subst h; exact ok139
  · injection h with h; subst h; exact ok140
  · injection h with h; subst h; exact ok141
  · injection h with h; subst h; exact ok142
  · injection h with h; subst h; exact ok144
  · injection h with h; subst h; exact ok145
  · injection h with h; subst h; exact ok147
  · injection h with h; subst h; exact ok148
  · injection h with h; subst h; exact ok149
  · injection h with h; subst h; exact ok150
  · injection h with h; subst h; exact ok151
  · injection h with h; subst h; exact ok152
  · injection h with h; subst h; exact ok153
  · injection h with h; subst h; exact ok154
  · injection h with h; subst h; exact ok155
  · injection h with h; subst h; exact ok156
  · injection h with h; subst h; exact ok157
  · injection h with h; subst h; exact ok158
  · injection h with h; subst h; exact ok159
  · injection h with h; subst h; exact ok160
  · injection h with h; subst h; exact ok161
  · injection h with h; subst h; exact ok162
  · injection h with h; subst h; exact ok163
  · injection h with h; subst h; exact ok164
  · injection h with h; subst h; exact ok165
  · injection h with h; subst h; exact ok166
  · injection h with h; subst h; exact ok167
  · injection h with h; subst h; exact ok168
  · cases h
end Go.Proofs.Ytdgamfanffnhaaa.PI
namespace Go.Proofs.Ytdgamfanffnhaaa.PI
open Go
abbrev PC (f : Nat) (args : List V) (r : Res) : Prop := pcW funcs own f args = some r
theorem w64_id {n : Int} (h1 : -9223372036854775808 ≤ n) (h2 : n < 9223372036854775808) : w64 n = n := by
  show (if (true && decide (n % 18446744073709551616 ≥ 9223372036854775808)) = true then n % 18446744073709551616 - 18446744073709551616 else n % 18446744073709551616) = n
  split
  · rename_i h; simp at h; omega
  · rename_i h; simp at h; omega
theorem loop_n {step : St → Option (PExit × St)} {S : Nat → St} {r : PExit × St} (n : Nat) (h : ∀ i, i < n → step (S i) = some (.normal, S (i + 1))) (e : lpW step (S n) = some r) : lpW step (S 0) = some r := by
  have : ∀ m k, k + m = n → lpW step (S k) = some r := by
    intro m
    induction m with
    | zero => intro k hk; have : k = n := by omega
              subst this; exact e
    | succ m ih => intro k hk; exact lp_again (h k (by omega)) (ih (k + 1) (by omega))
  exact this n 0 (by omega)
theorem loop_exit {step : St → Option (PExit × St)} {S : Nat → St} {st : St} {q : Nat} (n : Nat) (h : ∀ i, i < n → step (S i) = some (.normal, S (i + 1))) (e : step (S n) = some (.exit q, st)) : lpW step (S 0) = some (.exit q, st) := loop_n n h (lp_exit e)
theorem loop_ret {step : St → Option (PExit × St)} {S : Nat → St} {st : St} (n : Nat) (h : ∀ i, i < n → step (S i) = some (.normal, S (i + 1))) (e : step (S n) = some (.ret, st)) : lpW step (S 0) = some (.ret, st) := loop_n n h (lp_ret e)
theorem loop_find {step : St → Option (PExit × St)} {S eb : Nat → St} {ee : St} {q : Nat} (n : Nat) (p : Nat → Bool) (hok : ∀ i, i < n → p i = true → step (S i) = some (.normal, S (i + 1))) (hbad : ∀ i, i < n → p i = false → step (S i) = some (.ret, eb i)) (hend : step (S n) = some (.exit q, ee)) :
    ((∀ i, i < n → p i = true) ∧ lpW step (S 0) = some (.exit q, ee)) ∨ ∃ i, i < n ∧ p i = false ∧ (∀ j, j < i → p j = true) ∧ lpW step (S 0) = some (.ret, eb i) := by
  by_cases h : ∀ i, i < n → p i = true
  · exact .inl ⟨h, loop_exit n (fun i hi => hok i hi (h i hi)) hend⟩
  · right
    have : ∃ i, i < n ∧ p i = false := by
      apply Classical.byContradiction
      intro hc
      apply h
      intro i hi
      cases hp : p i with
      | true => rfl
      | false => exact absurd ⟨i, hi, hp⟩ hc
    have least : ∀ m, (∃ i, i < m ∧ i < n ∧ p i = false) → ∃ i, i < n ∧ p i = false ∧ ∀ j, j < i → p j = true := by
      intro m
      induction m with
      | zero => rintro ⟨i, hi, _⟩; omega
      | succ m ih =>
        rintro ⟨i, hi, hin, hp⟩
        by_cases hm : ∃ i, i < m ∧ i < n ∧ p i = false
        · exact ih hm
        · refine ⟨i, hin, hp, fun j hj => ?_⟩
          cases hq : p j with
          | true => rfl
          | false => exact absurd ⟨j, by omega, by omega, hq⟩ hm
    obtain ⟨i, hi, hp⟩ := this
    obtain ⟨i, hi, hp, hl⟩ := least (i + 1) ⟨i, by omega, hi, hp⟩
    exact ⟨i, hi, hp, hl, loop_ret i (fun j hj => hok j (by omega) (hl j hj)) (hbad i hi hp)⟩
def Sm {α : Type} (l : List α) : Prop := l.length ≤ 8796093022208
theorem w64_succ {j : Nat} (h : j ≤ 1000000000000000000) : w64 ((j : Int) + 1) = ((j + 1 : Nat) : Int) := by
  rw [w64_id (by omega) (by omega)]; omega
theorem at_map {α β : Type} {l : List α} {f : α → β} {j : Nat} (h : j < l.length) : (l.map f)[((j : Nat) : Int).toNat]? = some (f l[j]) := by
  simp [h]
noncomputable abbrev CC : Call := pcW funcs own
end Go.Proofs.Ytdgamfanffnhaaa.PI
namespace Go.Proofs.Ytdgamfanffnhaaa.PI
variable {call : Call} {lp : Lp}
open Go
set_option maxRecDepth 100000
set_option linter.unusedVariables false
def l_FnLayoutTree.s0 (w h : Int) (outlen : Nat) (k : Int) (tlen : Nat) (r1013 r1020 : List (List C)) : St := ⟨[(3, .one (.bptr 3 0)), (4, vI w), (5, vI h), (6, .one (.ref 1020 outlen)), (7, vI k)], [(3, .box false [.ref 1013 tlen]), (1013, .row false 0 r1013 none), (1020, .row false 0 r1020 none)]⟩
def l_FnLayoutTree.e0_1 (w h : Int) (outlen tlen : Nat) (r1013 r1020 : List (List C)) : St := ⟨[(3, .one (.bptr 3 0)), (4, vI w), (5, vI h), (6, .one (.ref 1020 outlen))], [(3, .box false [.ref 1013 tlen]), (1013, .row false 0 r1013 none), (1020, .row false 0 r1020 none)]⟩
abbrev l_FnLayoutTree.r0 (call : Call) (lp : Lp) := round call cf lp [3, 4, 5, 6, 7] [3, 1003, 1013, 1020] [2, 3, 4, 5, 6] [3, 1003, 1013, 1020] b5_0
theorem l_FnLayoutTree.l0_1 (w h : Int) (outlen : Nat) (k : Int) (tlen : Nat) (r1013 r1020 : List (List C)) (H1 : decide (k < (outlen : Int)) = false) :
    l_FnLayoutTree.r0 call lp (l_FnLayoutTree.s0 w h outlen k tlen r1013 r1020) = some (.exit 0, (l_FnLayoutTree.e0_1 w h outlen tlen r1013 r1020)) :=
  guided_round [false] (nd (not_t H1) rfl) eN cN lN (by kernel_rfl)
theorem l_FnLayoutTree.l0_2 (w h : Int) (outlen : Nat) (k : Int) (tlen : Nat) (r1013 r1020 : List (List C)) (e : Rect) (H1 : decide (k < (outlen : Int)) = true) (H2 : decide (r1020.length = outlen) = true) (H3 : decide (0 ≤ k) = true) (H4 : decide (0 + outlen ≤ outlen) = true) (H5 : decide (e.w < 0) = false) (H6 : decide (e.h < 0) = false) (E1 : r1020[(k).toNat]? = some (encRect e)) :
    l_FnLayoutTree.r0 call lp (l_FnLayoutTree.s0 w h outlen k tlen r1013 r1020) = some (.normal, (l_FnLayoutTree.s0 w h outlen (w64 (k + 1)) tlen r1013 r1020)) :=
  guided_round (bitl 9 127) (nd (not_t H6) (nd (not_t H5) (nd (eq_ff H5) (nd H2 (nd2 (eq_ff H5) (nd (nd H2 (nd H3 (nd H1 H4))) (nd3 (eq_ff H5) (nd H2 (nd (nd H2 (nd H3 (nd H1 H4))) (nd H1 rfl)))))))))) (eC E1 (eC E1 (eC E1 (eC E1 eN)))) cN lN (by kernel_rfl)
theorem l_FnLayoutTree.w1 (code : List Int) (H1 : decide ((((code.map encB).length : Nat) : Int) > 1048576) = true) :
    pfun funcs own call lp l_FnLayoutTree [.one (.rsl (code.map encB))] = some (vB true, []) :=
  guided_fun (cfg := cf) [true] (nd H1 rfl) eN cN lN (by kernel_rfl)
theorem l_FnLayoutTree.w4 (code : List Int) (nodes : List Node) (r r2 : Int) (r3 r5 : List Rect) (r6 : Bool) (H1 : decide ((((code.map encB).length : Nat) : Int) > 1048576) = false) (K1 : call s_DrawLayoutTree [.one (.rsl (code.map encB))] = some (.tup [.agg [.sl (nodes.map encNode)], vI r, vI r2], [])) (K2 : call i_LayoutTree [.agg [.rsl (nodes.map encNode)], vI r, vI r2] = some (.one (.nil), [])) (K3 : call s_LayoutTree [.agg [.rsl (nodes.map encNode)], vI r, vI r2] = some (.one (.sl (r3.map encRect)), [])) (K4 : call l_equalRects [.one (.rsl []), .one (.rsl (r3.map encRect))] = some (vB true, [])) (K5 : call s_LayoutTree [.agg [.rsl (nodes.map encNode)], vI r, vI r2] = some (.one (.sl (r5.map encRect)), [])) (K6 : call l_equalRects [.one (.rsl []), .one (.rsl (r5.map encRect))] = some (vB r6, [])) :
    pfun funcs own call lp l_FnLayoutTree [.one (.rsl (code.map encB))] = some (vB r6, []) :=
  guided_fun (cfg := cf) (bitl 6 46) (nd (dr ((r5.map encRect).length)) (nd (dr ((nodes.map encNode).length)) (nd (not_t (not_f rfl)) (nd3 (eq_ff (not_f rfl)) (nd (dr ((r3.map encRect).length)) (nd2 (dr ((nodes.map encNode).length)) (nd (not_t H1) rfl))))))) eN (cC K6 (cC K5 (cC K4 (cC K3 (cC K2 (cC K1 cN)))))) lN (by kernel_rfl)
theorem l_FnLayoutTree.w6 (code : List Int) (nodes : List Node) (r r2 : Int) (r3 r4 : List Rect) (w h : Int) (outlen tlen : Nat) (r1013 r1020 : List (List C)) (e r6 : Rect) (H1 : decide ((((code.map encB).length : Nat) : Int) > 1048576) = false) (H3 : ((((r3.map encRect).length : Nat) : Int) == 0) = false) (H4 : decide (r1020.length = outlen) = true) (H5 : decide (0 < (outlen : Int)) = true) (H6 : decide (0 + outlen ≤ outlen) = true) (H7 : (e.x == r6.x) = true) (H8 : (e.y == r6.y) = true) (H9 : (e.w == r6.w) = true) (H10 : (e.h == r6.h) = true) (E1 : r1020[0]? = some (encRect e)) (K1 : call s_DrawLayoutTree [.one (.rsl (code.map encB))] = some (.tup [.agg [.sl (nodes.map encNode)], vI r, vI r2], [])) (K2 : call i_LayoutTree [.agg [.rsl (nodes.map encNode)], vI r, vI r2] = some (.one (.sl (r3.map encRect)), [])) (K3 : call s_LayoutTree [.agg [.rsl (nodes.map encNode)], vI r, vI r2] = some (.one (.sl (r4.map encRect)), [])) (K4 : call l_equalRects [.one (.rsl (r3.map encRect)), .one (.rsl (r4.map encRect))] = some (vB true, [])) (K5 : call l_room [vI w, vI h] = some (.agg (encRect r6), [])) (L1 : lp (l_FnLayoutTree.r0 call lp) (l_FnLayoutTree.s0 r r2 ((r3.map encRect).length) 0 ((nodes.map encNode).length) (nodes.map encNode) (r3.map encRect)) = some (.exit 0, (l_FnLayoutTree.e0_1 w h outlen tlen r1013 r1020))) :
    pfun funcs own call lp l_FnLayoutTree [.one (.rsl (code.map encB))] = some (vB ((outlen : Int) == (tlen : Int)), []) :=
  guided_fun (cfg := cf) (bitl 13 8142) (nd (nd H7 (nd H8 (nd H9 (nd H10 rfl)))) (nd6 (eq_tt (nd H7 (nd H8 (nd H9 (nd H10 rfl))))) (nd H4 (nd (nd H4 (nd H5 H6)) (nd (not_t H3) (nd (not_t (not_f rfl)) (nd3 (eq_ff (not_f rfl)) (nd (dr ((r4.map encRect).length)) (nd (dr ((r3.map encRect).length)) (nd2 (dr ((nodes.map encNode).length)) (nd (not_t H1) rfl))))))))))) (eC E1 (eC E1 eN)) (cC K5 (cC K4 (cC K3 (cC K2 (cC K1 cN))))) (lC L1 lN) (by kernel_rfl)
theorem s_DrawLayoutTree.w1 (code b : List Int) (p : Int) (nodes : List Node) (r r2 p2 : Int) (K1 : call s_newReader [.one (.rsl (code.map encB))] = some (.one (.pt [.rsl (b.map encB), .int .i64 p]), [])) (K2 : call s_treeRoom [.one (.pt [.rsl (b.map encB), .int .i64 p])] = some (.tup [.agg [.sl (nodes.map encNode)], vI r, vI r2], [.pt [.rsl (b.map encB), .int .i64 p2]])) :
    pfun funcs own call lp s_DrawLayoutTree [.one (.rsl (code.map encB))] = some (.tup [.agg [.sl (nodes.map encNode)], vI r, vI r2], []) :=
  guided_fun (cfg := cz) [] (nd (nd (nd (dr ((nodes.map encNode).length)) rfl) rfl) rfl) eN (cC K2 (cC K1 cN)) lN (by kernel_rfl)
theorem i_LayoutTree.w1 (nodes : List Node) (w h : Int) (K1 : call i_ValidTree [.agg [.rsl (nodes.map encNode)]] = some (vB false, [])) :
    pfun funcs own call lp i_LayoutTree [.agg [.rsl (nodes.map encNode)], vI w, vI h] = some (.one (.nil), []) :=
  guided_fun (cfg := cf) (bitl 6 48) (nd (not_t rfl) (nd4 (not_t (eq_ft (not_t rfl))) rfl)) eN (cC K1 cN) lN (by kernel_rfl)
theorem i_LayoutTree.w2 (nodes : List Node) (w h : Int) (K1 : call i_ValidTree [.agg [.rsl (nodes.map encNode)]] = some (vB true, [])) (K2 : call i_sizeOk [vI w, vI h] = some (vB false, [])) :
    pfun funcs own call lp i_LayoutTree [.agg [.rsl (nodes.map encNode)], vI w, vI h] = some (.one (.nil), []) :=
  guided_fun (cfg := cf) (bitl 6 47) (nd (not_t rfl) (nd (not_t (not_f rfl)) (nd4 (eq_ff (not_f rfl)) rfl))) eN (cC K2 (cC K1 cN)) lN (by kernel_rfl)
theorem i_LayoutTree.w3 (nodes : List Node) (w h : Int) (r3 : List Rect) (K1 : call i_ValidTree [.agg [.rsl (nodes.map encNode)]] = some (vB true, [])) (K2 : call i_sizeOk [vI w, vI h] = some (vB true, [])) (K3 : call i_Tree_layout [.agg [.rsl (nodes.map encNode)], vI w, vI h] = some (.one (.sl (r3.map encRect)), [])) :
    pfun funcs own call lp i_LayoutTree [.agg [.rsl (nodes.map encNode)], vI w, vI h] = some (.one (.sl (r3.map encRect)), []) :=
  guided_fun (cfg := cf) (bitl 6 15) (nd (nd (dr ((r3.map encRect).length)) rfl) (nd2 (not_t (not_f rfl)) (nd4 (eq_ff (not_f rfl)) rfl))) eN (cC K3 (cC K2 (cC K1 cN))) lN (by kernel_rfl)
def l_equalRects.s0 (a b : List (List C)) (i : Int) : St := ⟨[(0, .one (.rsl a)), (1, .one (.rsl b)), (5, vI i)], []⟩
def l_equalRects.e0_1 : St := ⟨[], []⟩
abbrev l_equalRects.r0 (call : Call) (lp : Lp) := round call cf lp [0, 1, 5] [] [4] [] b25_0
theorem l_equalRects.l0_1 (a b : List (List C)) (i : Int) (H1 : decide (i < (a.length : Int)) = false) :
    l_equalRects.r0 call lp (l_equalRects.s0 a b i) = some (.exit 0, l_equalRects.e0_1) :=
  guided_round [false] (nd (not_t H1) rfl) eN cN lN (by kernel_rfl)
theorem l_equalRects.l0_2 (a b : List (List C)) (i : Int) (e e2 : Rect) (H1 : decide (i < (a.length : Int)) = true) (H2 : decide (0 ≤ i) = true) (H3 : (e.x == e2.x) = true) (H4 : (e.y == e2.y) = true) (H5 : (e.w == e2.w) = true) (H6 : (e.h == e2.h) = true) (E1 : a[(i).toNat]? = some (encRect e)) (E2 : b[(i).toNat]? = some (encRect e2)) :
    l_equalRects.r0 call lp (l_equalRects.s0 a b i) = some (.normal, (l_equalRects.s0 a b (w64 (i + 1)))) :=
  guided_round [true, false] (nd (not_t (not_f (nd H3 (nd H4 (nd H5 (nd H6 rfl)))))) (nd2 H2 (nd H1 rfl))) (eC E2 (eC E1 eN)) cN lN (by kernel_rfl)
theorem l_equalRects.w1 (a b : List Rect) (H1 : ((((a.map encRect).length : Nat) : Int) != (((b.map encRect).length : Nat) : Int)) = false) (L1 : lp (l_equalRects.r0 call lp) (l_equalRects.s0 (a.map encRect) (b.map encRect) 0) = some (.exit 0, l_equalRects.e0_1)) :
    pfun funcs own call lp l_equalRects [.one (.rsl (a.map encRect)), .one (.rsl (b.map encRect))] = some (vB true, []) :=
  guided_fun (cfg := cf) [false] (nd (not_t H1) rfl) eN cN (lC L1 lN) (by kernel_rfl)
theorem s_LayoutTree.w1 (nodes : List Node) (w h : Int) (K1 : call s_validTree [.agg [.rsl (nodes.map encNode)]] = some (vB false, [])) :
    pfun funcs own call lp s_LayoutTree [.agg [.rsl (nodes.map encNode)], vI w, vI h] = some (.one (.sl []), []) :=
  guided_fun (cfg := cf) (bitl 6 48) (nd (not_t rfl) (nd4 (not_t (eq_ft (not_t rfl))) rfl)) eN (cC K1 cN) lN (by kernel_rfl)
theorem s_LayoutTree.w2 (nodes : List Node) (w h : Int) (K1 : call s_validTree [.agg [.rsl (nodes.map encNode)]] = some (vB true, [])) (K2 : call s_goodRoom [vI w, vI h] = some (vB false, [])) :
    pfun funcs own call lp s_LayoutTree [.agg [.rsl (nodes.map encNode)], vI w, vI h] = some (.one (.sl []), []) :=
  guided_fun (cfg := cf) (bitl 6 47) (nd (not_t rfl) (nd (not_t (not_f rfl)) (nd4 (eq_ff (not_f rfl)) rfl))) eN (cC K2 (cC K1 cN)) lN (by kernel_rfl)
theorem s_LayoutTree.w3 (nodes : List Node) (w h : Int) (r3 : List Rect) (K1 : call s_validTree [.agg [.rsl (nodes.map encNode)]] = some (vB true, [])) (K2 : call s_goodRoom [vI w, vI h] = some (vB true, [])) (K3 : call s_layout [.agg [.rsl (nodes.map encNode)], vI w, vI h] = some (.one (.sl (r3.map encRect)), [])) :
    pfun funcs own call lp s_LayoutTree [.agg [.rsl (nodes.map encNode)], vI w, vI h] = some (.one (.sl (r3.map encRect)), []) :=
  guided_fun (cfg := cf) (bitl 6 15) (nd (nd (dr ((r3.map encRect).length)) rfl) (nd2 (not_t (not_f rfl)) (nd4 (eq_ff (not_f rfl)) rfl))) eN (cC K3 (cC K2 (cC K1 cN))) lN (by kernel_rfl)
theorem l_room.w1 (w h : Int) :
    pfun funcs own call lp l_room [vI w, vI h] = some (.agg [.int .i64 0, .int .i64 0, .int .i64 w, .int .i64 h], []) :=
  guided_fun (cfg := cf) [] rfl eN cN lN (by kernel_rfl)
end Go.Proofs.Ytdgamfanffnhaaa.PI
namespace Go.Proofs.Ytdgamfanffnhaaa.PI
variable {call : Call} {lp : Lp}
open Go
set_option maxRecDepth 100000
set_option linter.unusedVariables false
def i_ValidTree.s0 (x12 : List (List C)) (x13 x14 : Int) (t : List (List C)) : St := ⟨[(1, .one (.bptr 1 0)), (12, .one (.rsl x12)), (13, vI x13), (14, vI x14)], [(1, .box false [.rsl t])]⟩
def i_ValidTree.e0_0 : St := ⟨[(2, vB false)], []⟩
def i_ValidTree.e0_1 : St := ⟨[], []⟩
abbrev i_ValidTree.r0 (call : Call) (lp : Lp) := round call cf lp [1, 12, 13, 14] [1, 1001] [2] [] b50_0
theorem i_ValidTree.l0_1 (x12 : List (List C)) (x13 x14 : Int) (t : List (List C)) (e : Node) (H1 : decide (x14 < x13) = true) (H2 : decide (0 ≤ x14) = true) (H3 : (x14 == 0) = true) (H4 : (e.parent != (-1)) = true) (E1 : x12[(x14).toNat]? = some (encNode e)) :
    i_ValidTree.r0 call lp (i_ValidTree.s0 x12 x13 x14 t) = some (.ret, i_ValidTree.e0_0) :=
  guided_round (bitl 15 25119) (nd H4 (nd4 (not_t (eq_ft H4)) (nd H3 (nd3 (eq_tt H3) (nd H2 (nd H1 rfl)))))) (eC E1 eN) cN lN (by kernel_rfl)
theorem i_ValidTree.l0_2 (x12 : List (List C)) (x13 x14 : Int) (t : List (List C)) (H1 : decide (x14 < x13) = false) :
    i_ValidTree.r0 call lp (i_ValidTree.s0 x12 x13 x14 t) = some (.exit 0, i_ValidTree.e0_1) :=
  guided_round [false] (nd (not_t H1) rfl) eN cN lN (by kernel_rfl)
theorem i_ValidTree.l0_3 (x12 : List (List C)) (x13 x14 : Int) (t : List (List C)) (e : Node) (H1 : decide (x14 < x13) = true) (H2 : decide (0 ≤ x14) = true) (H3 : (x14 == 0) = false) (H4 : decide (x14 > 0) = true) (E1 : x12[(x14).toNat]? = some (encNode e)) (K1 : call i_within [vI e.parent, vI 0, vI (w64 (x14 - 1))] = some (vB false, [])) :
    i_ValidTree.r0 call lp (i_ValidTree.s0 x12 x13 x14 t) = some (.ret, i_ValidTree.e0_0) :=
  guided_round (bitl 22 3211233) (nd (not_t rfl) (nd3 (not_t (eq_ft (not_t rfl))) (nd H4 (nd6 (eq_tt H4) (nd (not_t H3) (nd3 (not_t (eq_tf H3)) (nd H2 (nd H1 rfl)))))))) (eC E1 eN) (cC K1 cN) lN (by kernel_rfl)
theorem i_ValidTree.l0_6 (x12 : List (List C)) (x13 x14 : Int) (t : List (List C)) (e : Node) (H1 : decide (x14 < x13) = true) (H2 : decide (0 ≤ x14) = true) (H3 : (x14 == 0) = false) (H4 : decide (x14 > 0) = true) (E1 : x12[(x14).toNat]? = some (encNode e)) (K1 : call i_within [vI e.parent, vI 0, vI (w64 (x14 - 1))] = some (vB true, [])) (K2 : call i_Node_ok [.agg (encNodeR e)] = some (vB false, [])) :
    i_ValidTree.r0 call lp (i_ValidTree.s0 x12 x13 x14 t) = some (.ret, i_ValidTree.e0_0) :=
  guided_round (bitl 22 3080161) (nd (not_t rfl) (nd (not_t (not_f rfl)) (nd3 (eq_ff (not_f rfl)) (nd H4 (nd6 (eq_tt H4) (nd (not_t H3) (nd3 (not_t (eq_tf H3)) (nd H2 (nd H1 rfl))))))))) (eC E1 eN) (cC K2 (cC K1 cN)) lN (by kernel_rfl)
theorem i_ValidTree.l0_7 (x12 : List (List C)) (x13 x14 : Int) (t : List (List C)) (e e2 : Node) (H1 : decide (x14 < x13) = true) (H2 : decide (0 ≤ x14) = true) (H3 : (x14 == 0) = false) (H4 : decide (x14 > 0) = true) (H7 : decide (0 ≤ e.parent) = true) (H8 : (e2.kind == 1) = true) (E1 : x12[(x14).toNat]? = some (encNode e)) (E2 : t[(e.parent).toNat]? = some (encNode e2)) (K1 : call i_within [vI e.parent, vI 0, vI (w64 (x14 - 1))] = some (vB true, [])) (K2 : call i_Node_ok [.agg (encNodeR e)] = some (vB true, [])) (K3 : call i_Cell_lies [.agg (encCell e.cell), .agg [.rsl (e2.cols.map encLine), .rsl (e2.rows.map encLine), .rsl []]] = some (vB false, [])) :
    i_ValidTree.r0 call lp (i_ValidTree.s0 x12 x13 x14 t) = some (.ret, i_ValidTree.e0_0) :=
  guided_round (bitl 34 17176657889) (nd (not_t rfl) (nd H8 (nd8 (eq_tt H8) (nd (eq_tt H8) (nd H7 (nd H4 (nd2 (not_t (not_f rfl)) (nd3 (eq_ff (not_f rfl)) (nd H4 (nd6 (eq_tt H4) (nd (not_t H3) (nd3 (not_t (eq_tf H3)) (nd H2 (nd H1 rfl)))))))))))))) (eC E2 (eC E1 eN)) (cC K3 (cC K2 (cC K1 cN))) lN (by kernel_rfl)
theorem i_ValidTree.l0_8 (x12 : List (List C)) (x13 x14 : Int) (t : List (List C)) (e e2 : Node) (H1 : decide (x14 < x13) = true) (H2 : decide (0 ≤ x14) = true) (H3 : (x14 == 0) = false) (H4 : decide (x14 > 0) = true) (H7 : decide (0 ≤ e.parent) = true) (H8 : (e2.kind == 1) = false) (E1 : x12[(x14).toNat]? = some (encNode e)) (E2 : t[(e.parent).toNat]? = some (encNode e2)) (K1 : call i_within [vI e.parent, vI 0, vI (w64 (x14 - 1))] = some (vB true, [])) (K2 : call i_Node_ok [.agg (encNodeR e)] = some (vB true, [])) :
    i_ValidTree.r0 call lp (i_ValidTree.s0 x12 x13 x14 t) = some (.normal, (i_ValidTree.s0 x12 x13 (w64 (x14 + 1)) t)) :=
  guided_round (bitl 34 5177313) (nd (not_t H8) (nd8 (not_t (eq_tf H8)) (nd (not_t (eq_tf H8)) (nd H7 (nd H4 (nd2 (not_t (not_f rfl)) (nd3 (eq_ff (not_f rfl)) (nd H4 (nd6 (eq_tt H4) (nd (not_t H3) (nd3 (not_t (eq_tf H3)) (nd H2 (nd H1 rfl))))))))))))) (eC E2 (eC E1 eN)) (cC K2 (cC K1 cN)) lN (by kernel_rfl)
theorem i_ValidTree.l0_9 (x12 : List (List C)) (x13 x14 : Int) (t : List (List C)) (e e2 : Node) (H1 : decide (x14 < x13) = true) (H2 : decide (0 ≤ x14) = true) (H3 : (x14 == 0) = false) (H4 : decide (x14 > 0) = true) (H7 : decide (0 ≤ e.parent) = true) (H8 : (e2.kind == 1) = true) (E1 : x12[(x14).toNat]? = some (encNode e)) (E2 : t[(e.parent).toNat]? = some (encNode e2)) (K1 : call i_within [vI e.parent, vI 0, vI (w64 (x14 - 1))] = some (vB true, [])) (K2 : call i_Node_ok [.agg (encNodeR e)] = some (vB true, [])) (K3 : call i_Cell_lies [.agg (encCell e.cell), .agg [.rsl (e2.cols.map encLine), .rsl (e2.rows.map encLine), .rsl []]] = some (vB true, [])) :
    i_ValidTree.r0 call lp (i_ValidTree.s0 x12 x13 x14 t) = some (.normal, (i_ValidTree.s0 x12 x13 (w64 (x14 + 1)) t)) :=
  guided_round (bitl 34 8586723297) (nd (not_t (not_f rfl)) (nd H8 (nd8 (eq_tt H8) (nd (eq_tt H8) (nd H7 (nd H4 (nd2 (not_t (not_f rfl)) (nd3 (eq_ff (not_f rfl)) (nd H4 (nd6 (eq_tt H4) (nd (not_t H3) (nd3 (not_t (eq_tf H3)) (nd H2 (nd H1 rfl)))))))))))))) (eC E2 (eC E1 eN)) (cC K3 (cC K2 (cC K1 cN))) lN (by kernel_rfl)
theorem i_ValidTree.l0_11 (x12 : List (List C)) (x13 x14 : Int) (t : List (List C)) (e : Node) (H1 : decide (x14 < x13) = true) (H2 : decide (0 ≤ x14) = true) (H3 : (x14 == 0) = true) (H4 : (e.parent != (-1)) = false) (H5 : decide (x14 > 0) = false) (E1 : x12[(x14).toNat]? = some (encNode e)) (K1 : call i_Node_ok [.agg (encNodeR e)] = some (vB false, [])) :
    i_ValidTree.r0 call lp (i_ValidTree.s0 x12 x13 x14 t) = some (.ret, i_ValidTree.e0_0) :=
  guided_round (bitl 22 3031295) (nd (not_t rfl) (nd (not_t H4) (nd (not_t H5) (nd (eq_ff H4) (nd6 (not_t (eq_tf H5)) (nd3 (eq_ff H4) (nd H3 (nd3 (eq_tt H3) (nd H2 (nd H1 rfl)))))))))) (eC E1 eN) (cC K1 cN) lN (by kernel_rfl)
theorem i_ValidTree.l0_12 (x12 : List (List C)) (x13 x14 : Int) (t : List (List C)) (e : Node) (H1 : decide (x14 < x13) = true) (H2 : decide (0 ≤ x14) = true) (H3 : (x14 == 0) = true) (H4 : (e.parent != (-1)) = false) (H5 : decide (x14 > 0) = false) (E1 : x12[(x14).toNat]? = some (encNode e)) (K1 : call i_Node_ok [.agg (encNodeR e)] = some (vB true, [])) :
    i_ValidTree.r0 call lp (i_ValidTree.s0 x12 x13 x14 t) = some (.normal, (i_ValidTree.s0 x12 x13 (w64 (x14 + 1)) t)) :=
  guided_round (bitl 23 934143) (nd (not_t H5) (nd (not_t (not_f rfl)) (nd (not_t H4) (nd (not_t H5) (nd (eq_ff H4) (nd6 (not_t (eq_tf H5)) (nd3 (eq_ff H4) (nd H3 (nd3 (eq_tt H3) (nd H2 (nd H1 rfl))))))))))) (eC E1 eN) (cC K1 cN) lN (by kernel_rfl)
theorem i_ValidTree.w1 (nodes : List Node) (K1 : call i_within [vI (((nodes.map encNode).length : Nat) : Int), vI 1, vI 10] = some (vB false, [])) :
    pfun funcs own call lp i_ValidTree [.agg [.rsl (nodes.map encNode)]] = some (vB false, []) :=
  guided_fun (cfg := cf) [true] (nd (not_t rfl) rfl) eN (cC K1 cN) lN (by kernel_rfl)
theorem i_ValidTree.w2 (nodes : List Node) (K1 : call i_within [vI (((nodes.map encNode).length : Nat) : Int), vI 1, vI 10] = some (vB true, [])) (L1 : lp (i_ValidTree.r0 call lp) (i_ValidTree.s0 (nodes.map encNode) (((nodes.map encNode).length : Nat) : Int) 0 (nodes.map encNode)) = some (.ret, i_ValidTree.e0_0)) :
    pfun funcs own call lp i_ValidTree [.agg [.rsl (nodes.map encNode)]] = some (vB false, []) :=
  guided_fun (cfg := cf) [false] (nd (not_t (not_f rfl)) rfl) eN (cC K1 cN) (lC L1 lN) (by kernel_rfl)
theorem i_ValidTree.w3 (nodes : List Node) (K1 : call i_within [vI (((nodes.map encNode).length : Nat) : Int), vI 1, vI 10] = some (vB true, [])) (L1 : lp (i_ValidTree.r0 call lp) (i_ValidTree.s0 (nodes.map encNode) (((nodes.map encNode).length : Nat) : Int) 0 (nodes.map encNode)) = some (.exit 0, i_ValidTree.e0_1)) :
    pfun funcs own call lp i_ValidTree [.agg [.rsl (nodes.map encNode)]] = some (vB true, []) :=
  guided_fun (cfg := cf) [false] (nd (not_t (not_f rfl)) rfl) eN (cC K1 cN) (lC L1 lN) (by kernel_rfl)
theorem i_within.w1 (n low high : Int) (H1 : decide (n ≥ low) = true) :
    pfun funcs own call lp i_within [vI n, vI low, vI high] = some (vB (decide (n ≤ high)), []) :=
  guided_fun (cfg := cf) (bitl 4 15) (nd H1 (nd3 (eq_tt H1) rfl)) eN cN lN (by kernel_rfl)
theorem i_within.w2 (n low high : Int) (H1 : decide (n ≥ low) = false) :
    pfun funcs own call lp i_within [vI n, vI low, vI high] = some (vB false, []) :=
  guided_fun (cfg := cf) (bitl 4 0) (nd (not_t H1) (nd3 (not_t (eq_tf H1)) rfl)) eN cN lN (by kernel_rfl)
theorem i_Tree_request.w1 (nodes : List Node) (i : Int) (e : Node) (r : List Int) (H1 : decide (0 ≤ i) = true) (H2 : e.keep = true) (E1 : (nodes.map encNode)[(i).toNat]? = some (encNode e)) (K1 : call i_Tree_kids [.agg [.rsl (nodes.map encNode)], vI i] = some (.one (.sl (r.map encInt)), [])) :
    pfun funcs own call lp i_Tree_request [.agg [.rsl (nodes.map encNode)], vI i] = some (.tup [vI e.w, vI e.h], []) :=
  guided_fun (cfg := cz) (bitl 9 392) (nd H2 (nd3 (not_t (eq_ft H2)) (nd H1 rfl))) (eC E1 eN) (cC K1 cN) lN (by kernel_rfl)
theorem i_Tree_request.w2 (nodes : List Node) (i : Int) (e : Node) (r : List Int) (H1 : decide (0 ≤ i) = true) (H2 : e.keep = false) (H3 : ((((r.map encInt).length : Nat) : Int) == 0) = true) (E1 : (nodes.map encNode)[(i).toNat]? = some (encNode e)) (K1 : call i_Tree_kids [.agg [.rsl (nodes.map encNode)], vI i] = some (.one (.sl (r.map encInt)), [])) :
    pfun funcs own call lp i_Tree_request [.agg [.rsl (nodes.map encNode)], vI i] = some (.tup [vI e.w, vI e.h], []) :=
  guided_fun (cfg := cz) (bitl 9 391) (nd H3 (nd3 (not_t (eq_ft H3)) (nd (not_t H2) (nd3 (eq_ff H2) (nd H1 rfl))))) (eC E1 eN) (cC K1 cN) lN (by kernel_rfl)
theorem i_Tree_request.w3 (nodes : List Node) (i : Int) (e : Node) (r : List Int) (H1 : decide (0 ≤ i) = true) (H2 : e.keep = false) (H3 : ((((r.map encInt).length : Nat) : Int) == 0) = false) (H4 : (e.kind == 2) = true) (E1 : (nodes.map encNode)[(i).toNat]? = some (encNode e)) (K1 : call i_Tree_kids [.agg [.rsl (nodes.map encNode)], vI i] = some (.one (.sl (r.map encInt)), [])) :
    pfun funcs own call lp i_Tree_request [.agg [.rsl (nodes.map encNode)], vI i] = some (.tup [vI e.w, vI e.h], []) :=
  guided_fun (cfg := cz) (bitl 9 375) (nd H4 (nd (not_t H3) (nd3 (eq_ff H3) (nd (not_t H2) (nd3 (eq_ff H2) (nd H1 rfl)))))) (eC E1 eN) (cC K1 cN) lN (by kernel_rfl)
theorem i_Tree_request.w4 (nodes : List Node) (i : Int) (e : Node) (r : List Int) (r2 : List Pack) (r3 r4 : Int) (H1 : decide (0 ≤ i) = true) (H2 : e.keep = false) (H3 : ((((r.map encInt).length : Nat) : Int) == 0) = false) (H4 : (e.kind == 2) = false) (H5 : (e.kind == 0) = true) (E1 : (nodes.map encNode)[(i).toNat]? = some (encNode e)) (K1 : call i_Tree_kids [.agg [.rsl (nodes.map encNode)], vI i] = some (.one (.sl (r.map encInt)), [])) (K2 : call i_Tree_packs [.agg [.rsl (nodes.map encNode)], .one (.rsl (r.map encInt))] = some (.one (.sl (r2.map encPack)), [])) (K3 : call i_packRequest [.one (.rsl (r2.map encPack))] = some (.tup [vI r3, vI r4], [])) :
    pfun funcs own call lp i_Tree_request [.agg [.rsl (nodes.map encNode)], vI i] = some (.tup [vI r3, vI r4], []) :=
  guided_fun (cfg := cz) (bitl 10 631) (nd (dr ((r2.map encPack).length)) (nd (dr ((r.map encInt).length)) (nd H5 (nd (not_t H4) (nd (not_t H3) (nd3 (eq_ff H3) (nd (not_t H2) (nd3 (eq_ff H2) (nd H1 rfl))))))))) (eC E1 eN) (cC K3 (cC K2 (cC K1 cN))) lN (by kernel_rfl)
theorem i_Tree_request.w5 (nodes : List Node) (i : Int) (e : Node) (r : List Int) (cols rows : List Line) (cells : List Cell) (r2 r3 : Int) (H1 : decide (0 ≤ i) = true) (H2 : e.keep = false) (H3 : ((((r.map encInt).length : Nat) : Int) == 0) = false) (H4 : (e.kind == 2) = false) (H5 : (e.kind == 0) = false) (E1 : (nodes.map encNode)[(i).toNat]? = some (encNode e)) (K1 : call i_Tree_kids [.agg [.rsl (nodes.map encNode)], vI i] = some (.one (.sl (r.map encInt)), [])) (K2 : call i_Tree_grid [.agg [.rsl (nodes.map encNode)], vI i, .one (.rsl (r.map encInt))] = some (.agg [.rsl (cols.map encLine), .rsl (rows.map encLine), .sl (cells.map encCell)], [])) (K3 : call i_Grid_request [.agg [.rsl (cols.map encLine), .rsl (rows.map encLine), .rsl (cells.map encCell)]] = some (.tup [vI r2, vI r3], [])) :
    pfun funcs own call lp i_Tree_request [.agg [.rsl (nodes.map encNode)], vI i] = some (.tup [vI r2, vI r3], []) :=
  guided_fun (cfg := cz) (bitl 10 119) (nd (dr ((cells.map encCell).length)) (nd (dr ((r.map encInt).length)) (nd (not_t H5) (nd (not_t H4) (nd (not_t H3) (nd3 (eq_ff H3) (nd (not_t H2) (nd3 (eq_ff H2) (nd H1 rfl))))))))) (eC E1 eN) (cC K3 (cC K2 (cC K1 cN))) lN (by kernel_rfl)
theorem s_treeRoom.w1 (b : List Int) (p : Int) (nodes : List Node) (p2 r p3 r2 p4 r4 p5 r5 r6 : Int) (H2 : (r4 == 0) = true) (K1 : call s_someTree [.one (.pt [.rsl (b.map encB), .int .i64 p])] = some (.agg [.sl (nodes.map encNode)], [.pt [.rsl (b.map encB), .int .i64 p2]])) (K2 : call s_reader_one [.one (.pt [.rsl (b.map encB), .int .i64 p2]), .one (.rsl [[C.int .i64 60], [C.int .i64 100], [C.int .i64 20], [C.int .i64 0], [C.int .i64 400], [C.int .i64 401]])] = some (vI r, [.pt [.rsl (b.map encB), .int .i64 p3]])) (K3 : call s_reader_one [.one (.pt [.rsl (b.map encB), .int .i64 p3]), .one (.rsl [[C.int .i64 50], [C.int .i64 100], [C.int .i64 10], [C.int .i64 0], [C.int .i64 400], [C.int .i64 (-1)]])] = some (vI r2, [.pt [.rsl (b.map encB), .int .i64 p4]])) (K4 : call s_validTree [.agg [.rsl (nodes.map encNode)]] = some (vB true, [])) (K5 : call s_reader_pick [.one (.pt [.rsl (b.map encB), .int .i64 p4]), vI 2] = some (vI r4, [.pt [.rsl (b.map encB), .int .i64 p5]])) (K6 : call s_sizeOf [.agg [.rsl (nodes.map encNode)], vI 0] = some (.tup [vI r5, vI r6], [])) :
    pfun funcs own call lp s_treeRoom [.one (.pt [.rsl (b.map encB), .int .i64 p])] = some (.tup [.agg [.sl (nodes.map encNode)], vI r5, vI r6], [.pt [.rsl (b.map encB), .int .i64 p5]]) :=
  guided_fun (cfg := cf) (bitl 5 31) (nd (nd (nd (dr ((nodes.map encNode).length)) rfl) rfl) (nd (dr ((nodes.map encNode).length)) (nd H2 (nd rfl (nd3 (eq_tt rfl) (nd (dr ((nodes.map encNode).length)) rfl)))))) eN (cC K6 (cC K5 (cC K4 (cC K3 (cC K2 (cC K1 cN)))))) lN (by kernel_rfl)
theorem s_treeRoom.w2 (b : List Int) (p : Int) (nodes : List Node) (p2 r p3 r2 p4 : Int) (K1 : call s_someTree [.one (.pt [.rsl (b.map encB), .int .i64 p])] = some (.agg [.sl (nodes.map encNode)], [.pt [.rsl (b.map encB), .int .i64 p2]])) (K2 : call s_reader_one [.one (.pt [.rsl (b.map encB), .int .i64 p2]), .one (.rsl [[C.int .i64 60], [C.int .i64 100], [C.int .i64 20], [C.int .i64 0], [C.int .i64 400], [C.int .i64 401]])] = some (vI r, [.pt [.rsl (b.map encB), .int .i64 p3]])) (K3 : call s_reader_one [.one (.pt [.rsl (b.map encB), .int .i64 p3]), .one (.rsl [[C.int .i64 50], [C.int .i64 100], [C.int .i64 10], [C.int .i64 0], [C.int .i64 400], [C.int .i64 (-1)]])] = some (vI r2, [.pt [.rsl (b.map encB), .int .i64 p4]])) (K4 : call s_validTree [.agg [.rsl (nodes.map encNode)]] = some (vB false, [])) :
    pfun funcs own call lp s_treeRoom [.one (.pt [.rsl (b.map encB), .int .i64 p])] = some (.tup [.agg [.sl (nodes.map encNode)], vI r, vI r2], [.pt [.rsl (b.map encB), .int .i64 p4]]) :=
  guided_fun (cfg := cf) (bitl 5 0) (nd (nd (nd (dr ((nodes.map encNode).length)) rfl) rfl) (nd (not_t rfl) (nd3 (not_t (eq_tf rfl)) (nd (dr ((nodes.map encNode).length)) rfl)))) eN (cC K4 (cC K3 (cC K2 (cC K1 cN)))) lN (by kernel_rfl)
theorem s_treeRoom.w3 (b : List Int) (p : Int) (nodes : List Node) (p2 r p3 r2 p4 r4 p5 : Int) (H2 : (r4 == 0) = false) (K1 : call s_someTree [.one (.pt [.rsl (b.map encB), .int .i64 p])] = some (.agg [.sl (nodes.map encNode)], [.pt [.rsl (b.map encB), .int .i64 p2]])) (K2 : call s_reader_one [.one (.pt [.rsl (b.map encB), .int .i64 p2]), .one (.rsl [[C.int .i64 60], [C.int .i64 100], [C.int .i64 20], [C.int .i64 0], [C.int .i64 400], [C.int .i64 401]])] = some (vI r, [.pt [.rsl (b.map encB), .int .i64 p3]])) (K3 : call s_reader_one [.one (.pt [.rsl (b.map encB), .int .i64 p3]), .one (.rsl [[C.int .i64 50], [C.int .i64 100], [C.int .i64 10], [C.int .i64 0], [C.int .i64 400], [C.int .i64 (-1)]])] = some (vI r2, [.pt [.rsl (b.map encB), .int .i64 p4]])) (K4 : call s_validTree [.agg [.rsl (nodes.map encNode)]] = some (vB true, [])) (K5 : call s_reader_pick [.one (.pt [.rsl (b.map encB), .int .i64 p4]), vI 2] = some (vI r4, [.pt [.rsl (b.map encB), .int .i64 p5]])) :
    pfun funcs own call lp s_treeRoom [.one (.pt [.rsl (b.map encB), .int .i64 p])] = some (.tup [.agg [.sl (nodes.map encNode)], vI r, vI r2], [.pt [.rsl (b.map encB), .int .i64 p5]]) :=
  guided_fun (cfg := cf) (bitl 5 15) (nd (nd (nd (dr ((nodes.map encNode).length)) rfl) rfl) (nd (not_t H2) (nd rfl (nd3 (eq_tt rfl) (nd (dr ((nodes.map encNode).length)) rfl))))) eN (cC K5 (cC K4 (cC K3 (cC K2 (cC K1 cN))))) lN (by kernel_rfl)
theorem s_newReader.w1 (code : List Int) (H1 : decide ((((code.map encB).length : Nat) : Int) > 2000) = true) (H2 : decide (2000 ≤ (code.map encB).length) = true) (H3 : (uni 1 (code.map encB)) = true) :
    pfun funcs own call lp s_newReader [.one (.rsl (code.map encB))] = some (.one (.pt [.rsl (cut 0 (2000 - 0) (code.map encB)), .int .i64 0]), []) :=
  guided_fun (cfg := cf) [true] (nd (nd H2 H3) (nd H1 rfl)) eN cN lN (by kernel_rfl)
theorem s_newReader.w2 (code : List Int) (H1 : decide ((((code.map encB).length : Nat) : Int) > 2000) = false) :
    pfun funcs own call lp s_newReader [.one (.rsl (code.map encB))] = some (.one (.pt [.rsl (code.map encB), .int .i64 0]), []) :=
  guided_fun (cfg := cf) [false] (nd (not_t H1) rfl) eN cN lN (by kernel_rfl)
theorem i_sizeOk.w1 (w h : Int) (r2 : Bool) (K1 : call i_within [vI w, vI 0, vI 400] = some (vB true, [])) (K2 : call i_within [vI h, vI 0, vI 400] = some (vB r2, [])) :
    pfun funcs own call lp i_sizeOk [vI w, vI h] = some (vB r2, []) :=
  guided_fun (cfg := cf) [true, true, true] (nd rfl (nd2 (eq_tt rfl) rfl)) eN (cC K2 (cC K1 cN)) lN (by kernel_rfl)
theorem i_sizeOk.w2 (w h : Int) (K1 : call i_within [vI w, vI 0, vI 400] = some (vB false, [])) :
    pfun funcs own call lp i_sizeOk [vI w, vI h] = some (vB false, []) :=
  guided_fun (cfg := cf) [false, false, false] (nd (not_t rfl) (nd2 (not_t (eq_tf rfl)) rfl)) eN (cC K1 cN) lN (by kernel_rfl)
end Go.Proofs.Ytdgamfanffnhaaa.PI
namespace Go.Proofs.Ytdgamfanffnhaaa.PI
variable {call : Call} {lp : Lp}
open Go
set_option maxRecDepth 100000
set_option linter.unusedVariables false
def i_Tree_layout.s0 (outlen : Nat) (x27 : List (List C)) (x28 x29 : Int) (t r20 : List (List C)) : St := ⟨[(3, .one (.bptr 3 0)), (7, .one (.ref 20 outlen)), (27, .one (.rsl x27)), (28, vI x28), (29, vI x29)], [(3, .box false [.rsl t]), (20, .row false 0 r20 none)]⟩
def i_Tree_layout.e0_0 (outlen : Nat) (r20 : List (List C)) : St := ⟨[(7, .one (.ref 20 outlen))], [(20, .row false 0 r20 none)]⟩
abbrev i_Tree_layout.r0 (call : Call) (lp : Lp) := round call cz lp [3, 7, 27, 28, 29] [3, 20, 1003] [6, 7] [6, 20] b61_0
def i_Tree_layout.s1 (outlen kidslen listlen : Nat) (x27 : List (List C)) (x28 x29 : Int) (x43len : Nat) (x44 x45 : Int) (t : List (List C)) (r : Rect) (list r20 r1036 : List (List C)) : St := ⟨[(3, .one (.bptr 3 0)), (7, .one (.ref 20 outlen)), (10, .one (.ref 1036 kidslen)), (11, .one (.bptr 11 0)), (12, .one (.ref 12 listlen)), (27, .one (.rsl x27)), (28, vI x28), (29, vI x29), (43, .one (.ref 1036 x43len)), (44, vI x44), (45, vI x45)], [(3, .box false [.rsl t]), (11, .box false (encRect r)), (12, .row false 0 list none), (20, .row false 0 r20 none), (1036, .row false 0 r1036 none)]⟩
def i_Tree_layout.e1_0 (outlen kidslen listlen : Nat) (x27 : List (List C)) (x28 x29 : Int) (t : List (List C)) (r : Rect) (list r20 r1036 : List (List C)) : St := ⟨[(3, .one (.bptr 3 0)), (7, .one (.ref 20 outlen)), (10, .one (.ref 1036 kidslen)), (11, .one (.bptr 11 0)), (12, .one (.ref 12 listlen)), (27, .one (.rsl x27)), (28, vI x28), (29, vI x29)], [(3, .box false [.rsl t]), (11, .box false (encRect r)), (12, .row false 0 list none), (20, .row false 0 r20 none), (1036, .row false 0 r1036 none)]⟩
abbrev i_Tree_layout.r1 (call : Call) (lp : Lp) := round call cz lp [3, 7, 10, 11, 12, 27, 28, 29, 43, 44, 45] [3, 11, 12, 20, 62, 1003, 1036, 1073, 1084] [3, 6, 7, 10, 11, 12, 27, 28, 29] [3, 6, 11, 12, 20, 62, 1003, 1036, 1073, 1084] b61_1
def i_Tree_layout.s2 (outlen listlen : Nat) (x27 : List (List C)) (x28 x29 : Int) (x85len : Nat) (x86 x87 : Int) (t : List (List C)) (r : Rect) (r20 r1036 r1073 : List (List C)) : St := ⟨[(3, .one (.bptr 3 0)), (7, .one (.ref 20 outlen)), (11, .one (.bptr 11 0)), (12, .one (.ref 1073 listlen)), (27, .one (.rsl x27)), (28, vI x28), (29, vI x29), (85, .one (.ref 1036 x85len)), (86, vI x86), (87, vI x87)], [(3, .box false [.rsl t]), (11, .box false (encRect r)), (12, .row false 0 [] none), (20, .row false 0 r20 none), (1036, .row false 0 r1036 none), (1073, .row false 0 r1073 none)]⟩
def i_Tree_layout.s2b (outlen listlen : Nat) (x27 : List (List C)) (x28 x29 : Int) (x85len : Nat) (x86 x87 : Int) (t : List (List C)) (r : Rect) (r20 r1036 r1084 : List (List C)) : St := ⟨[(3, .one (.bptr 3 0)), (7, .one (.ref 20 outlen)), (11, .one (.bptr 11 0)), (12, .one (.ref 1084 listlen)), (27, .one (.rsl x27)), (28, vI x28), (29, vI x29), (85, .one (.ref 1036 x85len)), (86, vI x86), (87, vI x87)], [(3, .box false [.rsl t]), (11, .box false (encRect r)), (12, .row false 0 [] none), (20, .row false 0 r20 none), (1036, .frow r1036), (1084, .row false 0 r1084 none)]⟩
def i_Tree_layout.s2c (outlen listlen : Nat) (x27 : List (List C)) (x28 x29 : Int) (x85len : Nat) (x86 x87 : Int) (t : List (List C)) (r : Rect) (list r20 r1036 : List (List C)) : St := ⟨[(3, .one (.bptr 3 0)), (7, .one (.ref 20 outlen)), (11, .one (.bptr 11 0)), (12, .one (.ref 12 listlen)), (27, .one (.rsl x27)), (28, vI x28), (29, vI x29), (85, .one (.ref 1036 x85len)), (86, vI x86), (87, vI x87)], [(3, .box false [.rsl t]), (11, .box false (encRect r)), (12, .row false 0 list none), (20, .row false 0 r20 none), (1036, .row false 0 r1036 none)]⟩
def i_Tree_layout.e2_0 (outlen : Nat) (x27 : List (List C)) (x28 x29 : Int) (t r20 : List (List C)) : St := ⟨[(3, .one (.bptr 3 0)), (7, .one (.ref 20 outlen)), (27, .one (.rsl x27)), (28, vI x28), (29, vI x29)], [(3, .box false [.rsl t]), (20, .row false 0 r20 none)]⟩
abbrev i_Tree_layout.r2 (call : Call) (lp : Lp) := round call cz lp [3, 7, 11, 12, 27, 28, 29, 85, 86, 87] [3, 11, 12, 20, 62, 1003, 1036, 1073, 1084] [3, 6, 7, 27, 28, 29] [3, 6, 20, 1003] b61_2
theorem i_Tree_layout.l0_1 (outlen : Nat) (x27 : List (List C)) (x28 x29 : Int) (t r20 : List (List C)) (e : Node) (r : List Int) (e2 : Rect) (r2 : List Pack) (r3 : List Rect) (outlen2 : Nat) (x272 : List (List C)) (x282 x292 : Int) (t2 r202 : List (List C)) (H1 : decide (x29 < x28) = true) (H2 : decide (0 ≤ x29) = true) (H3 : decide (r20.length = outlen) = true) (H4 : decide (x29 < (outlen : Int)) = true) (H5 : decide (0 + outlen ≤ outlen) = true) (H6 : (e.kind == 0) = true) (E1 : x27[(x29).toNat]? = some (encNode e)) (E2 : r20[(x29).toNat]? = some (encRect e2)) (K1 : call i_Tree_kids [.agg [.rsl t], vI x29] = some (.one (.sl (r.map encInt)), [])) (K2 : call i_Tree_packs [.agg [.rsl t], .one (.rsl (r.map encInt))] = some (.one (.sl (r2.map encPack)), [])) (K3 : call i_packRects [.one (.rsl (r2.map encPack)), vI e2.w, vI e2.h] = some (.one (.sl (r3.map encRect)), [])) (L1 : lp (i_Tree_layout.r2 call lp) (i_Tree_layout.s2 outlen ((r3.map encRect).length) x27 x28 x29 ((r.map encInt).length) (((r.map encInt).length : Nat) : Int) 0 t e2 r20 (r.map encInt) (r3.map encRect)) = some (.exit 5, (i_Tree_layout.e2_0 outlen2 x272 x282 x292 t2 r202))) :
    i_Tree_layout.r0 call lp (i_Tree_layout.s0 outlen x27 x28 x29 t r20) = some (.normal, (i_Tree_layout.s0 outlen2 x272 x282 (w64 (x292 + 1)) t2 r202)) :=
  guided_round [true, true] (nd (dr ((r2.map encPack).length)) (nd (dr ((r.map encInt).length)) (nd H6 (nd H3 (nd (nd H3 (nd H2 (nd H4 H5))) (nd H2 (nd H1 rfl))))))) (eC E2 (eC E2 (eC E1 eN))) (cC K3 (cC K2 (cC K1 cN))) (lC L1 lN) (by kernel_rfl)
theorem i_Tree_layout.l0_2 (outlen : Nat) (x27 : List (List C)) (x28 x29 : Int) (t r20 : List (List C)) (H1 : decide (x29 < x28) = false) :
    i_Tree_layout.r0 call lp (i_Tree_layout.s0 outlen x27 x28 x29 t r20) = some (.exit 0, (i_Tree_layout.e0_0 outlen r20)) :=
  guided_round [false] (nd (not_t H1) rfl) eN cN lN (by kernel_rfl)
theorem i_Tree_layout.l0_3 (outlen : Nat) (x27 : List (List C)) (x28 x29 : Int) (t r20 : List (List C)) (e : Node) (r : List Int) (e2 : Rect) (cols rows : List Line) (cells : List Cell) (r2 : List Rect) (outlen2 : Nat) (x272 : List (List C)) (x282 x292 : Int) (t2 r202 : List (List C)) (H1 : decide (x29 < x28) = true) (H2 : decide (0 ≤ x29) = true) (H3 : decide (r20.length = outlen) = true) (H4 : decide (x29 < (outlen : Int)) = true) (H5 : decide (0 + outlen ≤ outlen) = true) (H6 : (e.kind == 0) = false) (H7 : (e.kind == 1) = true) (E1 : x27[(x29).toNat]? = some (encNode e)) (E2 : r20[(x29).toNat]? = some (encRect e2)) (K1 : call i_Tree_kids [.agg [.rsl t], vI x29] = some (.one (.sl (r.map encInt)), [])) (K2 : call i_Tree_grid [.agg [.rsl t], vI x29, .one (.rsl (r.map encInt))] = some (.agg [.rsl (cols.map encLine), .rsl (rows.map encLine), .sl (cells.map encCell)], [])) (K3 : call i_Grid_rects [.agg [.rsl (cols.map encLine), .rsl (rows.map encLine), .rsl (cells.map encCell)], vI e2.w, vI e2.h] = some (.one (.sl (r2.map encRect)), [])) (L1 : lp (i_Tree_layout.r2 call lp) (i_Tree_layout.s2b outlen ((r2.map encRect).length) x27 x28 x29 ((r.map encInt).length) (((r.map encInt).length : Nat) : Int) 0 t e2 r20 (r.map encInt) (r2.map encRect)) = some (.exit 5, (i_Tree_layout.e2_0 outlen2 x272 x282 x292 t2 r202))) :
    i_Tree_layout.r0 call lp (i_Tree_layout.s0 outlen x27 x28 x29 t r20) = some (.normal, (i_Tree_layout.s0 outlen2 x272 x282 (w64 (x292 + 1)) t2 r202)) :=
  guided_round [true, false, true] (nd (dr ((cells.map encCell).length)) (nd (dr ((r.map encInt).length)) (nd H7 (nd (not_t H6) (nd H3 (nd (nd H3 (nd H2 (nd H4 H5))) (nd H2 (nd H1 rfl)))))))) (eC E2 (eC E2 (eC E1 eN))) (cC K3 (cC K2 (cC K1 cN))) (lC L1 lN) (by kernel_rfl)
theorem i_Tree_layout.l0_4 (outlen : Nat) (x27 : List (List C)) (x28 x29 : Int) (t r20 : List (List C)) (e : Node) (r : List Int) (e2 : Rect) (outlen2 kidslen listlen : Nat) (x272 : List (List C)) (x282 x292 : Int) (t2 : List (List C)) (r2 : Rect) (list r202 r1036 : List (List C)) (outlen3 : Nat) (x273 : List (List C)) (x283 x293 : Int) (t3 r203 : List (List C)) (H1 : decide (x29 < x28) = true) (H2 : decide (0 ≤ x29) = true) (H3 : decide (r20.length = outlen) = true) (H4 : decide (x29 < (outlen : Int)) = true) (H5 : decide (0 + outlen ≤ outlen) = true) (H6 : (e.kind == 0) = false) (H7 : (e.kind == 1) = false) (E1 : x27[(x29).toNat]? = some (encNode e)) (E2 : r20[(x29).toNat]? = some (encRect e2)) (K1 : call i_Tree_kids [.agg [.rsl t], vI x29] = some (.one (.sl (r.map encInt)), [])) (L1 : lp (i_Tree_layout.r1 call lp) (i_Tree_layout.s1 outlen ((r.map encInt).length) 0 x27 x28 x29 ((r.map encInt).length) (((r.map encInt).length : Nat) : Int) 0 t e2 [] r20 (r.map encInt)) = some (.exit 3, (i_Tree_layout.e1_0 outlen2 kidslen listlen x272 x282 x292 t2 r2 list r202 r1036))) (L2 : lp (i_Tree_layout.r2 call lp) (i_Tree_layout.s2c outlen2 listlen x272 x282 x292 kidslen (kidslen : Int) 0 t2 r2 list r202 r1036) = some (.exit 5, (i_Tree_layout.e2_0 outlen3 x273 x283 x293 t3 r203))) :
    i_Tree_layout.r0 call lp (i_Tree_layout.s0 outlen x27 x28 x29 t r20) = some (.normal, (i_Tree_layout.s0 outlen3 x273 x283 (w64 (x293 + 1)) t3 r203)) :=
  guided_round [true, false, false] (nd (not_t H7) (nd (not_t H6) (nd H3 (nd (nd H3 (nd H2 (nd H4 H5))) (nd H2 (nd H1 rfl)))))) (eC E2 (eC E2 (eC E1 eN))) (cC K1 cN) (lC L2 (lC L1 lN)) (by kernel_rfl)
theorem i_Tree_layout.l1_1 (outlen kidslen listlen : Nat) (x27 : List (List C)) (x28 x29 : Int) (x43len : Nat) (x44 x45 : Int) (t : List (List C)) (r : Rect) (list r20 r1036 : List (List C)) (e : Int) (e2 : Node) (r2 : Rect) (H1 : decide (x45 < x44) = true) (H2 : decide (r1036.length = x43len) = true) (H3 : decide (0 ≤ x45) = true) (H4 : decide (x45 < (x43len : Int)) = true) (H5 : decide (0 + x43len ≤ x43len) = true) (H6 : decide (0 ≤ e) = true) (H7 : decide (list.length = listlen) = true) (H8 : (uni 4 list) = true) (H9 : decide (list.length + 1 ≤ 4398046511104) = true) (E1 : r1036[(x45).toNat]? = some [.int .i64 e]) (E2 : t[(e).toNat]? = some (encNode e2)) (K1 : call i_Place_rect [.agg (encPlace e2.place), vI r.w, vI r.h] = some (.agg (encRect r2), [])) :
    i_Tree_layout.r1 call lp (i_Tree_layout.s1 outlen kidslen listlen x27 x28 x29 x43len x44 x45 t r list r20 r1036) = some (.normal, (i_Tree_layout.s1 outlen kidslen ((list ++ [(encRect r2)]).length) x27 x28 x29 x43len x44 (w64 (x45 + 1)) t r (list ++ [(encRect r2)]) r20 r1036)) :=
  guided_round [true] (nd (nd H8 H9) (nd H7 (nd H6 (nd H2 (nd (nd H2 (nd H3 (nd H4 H5))) (nd H1 rfl)))))) (eC E2 (eC E1 (eC E1 eN))) (cC K1 cN) lN (by kernel_rfl)
theorem i_Tree_layout.l1_2 (outlen kidslen listlen : Nat) (x27 : List (List C)) (x28 x29 : Int) (x43len : Nat) (x44 x45 : Int) (t : List (List C)) (r : Rect) (list r20 r1036 : List (List C)) (H1 : decide (x45 < x44) = false) :
    i_Tree_layout.r1 call lp (i_Tree_layout.s1 outlen kidslen listlen x27 x28 x29 x43len x44 x45 t r list r20 r1036) = some (.exit 3, (i_Tree_layout.e1_0 outlen kidslen listlen x27 x28 x29 t r list r20 r1036)) :=
  guided_round [false] (nd (not_t H1) rfl) eN cN lN (by kernel_rfl)
theorem i_Tree_layout.l2_1 (outlen listlen : Nat) (x27 : List (List C)) (x28 x29 : Int) (x85len : Nat) (x86 x87 : Int) (t : List (List C)) (r : Rect) (r20 r1036 r1073 : List (List C)) (e : Int) (e2 e3 : Rect) (H1 : decide (x87 < x86) = true) (H2 : decide (r1036.length = x85len) = true) (H3 : decide (0 ≤ x87) = true) (H4 : decide (x87 < (x85len : Int)) = true) (H5 : decide (0 + x85len ≤ x85len) = true) (H6 : decide (r1073.length = listlen) = true) (H7 : decide (x87 < (listlen : Int)) = true) (H8 : decide (0 + listlen ≤ listlen) = true) (H9 : decide (r20.length = outlen) = true) (H10 : decide (0 ≤ e) = true) (H11 : decide (e < (outlen : Int)) = true) (H12 : decide (0 + outlen ≤ outlen) = true) (E1 : r1036[(x87).toNat]? = some [.int .i64 e]) (E2 : r1073[(x87).toNat]? = some (encRect e2)) (E3 : r20[(e).toNat]? = some (encRect e3)) :
    i_Tree_layout.r2 call lp (i_Tree_layout.s2 outlen listlen x27 x28 x29 x85len x86 x87 t r r20 r1036 r1073) = some (.normal, (i_Tree_layout.s2 outlen listlen x27 x28 x29 x85len x86 (w64 (x87 + 1)) t r (r20.set ((e).toNat) [C.int .i64 (w64 (r.x + e2.x)), C.int .i64 (w64 (r.y + e2.y)), C.int .i64 e2.w, C.int .i64 e2.h]) r1036 r1073)) :=
  guided_round [true] (nd H9 (nd (nd H9 (nd H10 (nd H11 H12))) (nd H6 (nd (nd H6 (nd H3 (nd H7 H8))) (nd H6 (nd (nd H6 (nd H3 (nd H7 H8))) (nd H6 (nd (nd H6 (nd H3 (nd H7 H8))) (nd H6 (nd (nd H6 (nd H3 (nd H7 H8))) (nd H2 (nd (nd H2 (nd H3 (nd H4 H5))) (nd H1 rfl))))))))))))) (eC E3 (eC E3 (eC E2 (eC E2 (eC E2 (eC E2 (eC E2 (eC E2 (eC E2 (eC E2 (eC E1 (eC E1 eN)))))))))))) cN lN (by kernel_rfl)
theorem i_Tree_layout.l2_2 (outlen listlen : Nat) (x27 : List (List C)) (x28 x29 : Int) (x85len : Nat) (x86 x87 : Int) (t : List (List C)) (r : Rect) (r20 r1036 r1073 : List (List C)) (H1 : decide (x87 < x86) = false) :
    i_Tree_layout.r2 call lp (i_Tree_layout.s2 outlen listlen x27 x28 x29 x85len x86 x87 t r r20 r1036 r1073) = some (.exit 5, (i_Tree_layout.e2_0 outlen x27 x28 x29 t r20)) :=
  guided_round [false] (nd (not_t H1) rfl) eN cN lN (by kernel_rfl)
theorem i_Tree_layout.l2_3 (outlen listlen : Nat) (x27 : List (List C)) (x28 x29 : Int) (x85len : Nat) (x86 x87 : Int) (t : List (List C)) (r : Rect) (r20 r1036 r1084 : List (List C)) (e : Int) (e2 e3 : Rect) (H1 : decide (x87 < x86) = true) (H2 : decide (r1036.length = x85len) = true) (H3 : decide (0 ≤ x87) = true) (H4 : decide (x87 < (x85len : Int)) = true) (H5 : decide (0 + x85len ≤ x85len) = true) (H6 : decide (r1084.length = listlen) = true) (H7 : decide (x87 < (listlen : Int)) = true) (H8 : decide (0 + listlen ≤ listlen) = true) (H9 : decide (r20.length = outlen) = true) (H10 : decide (0 ≤ e) = true) (H11 : decide (e < (outlen : Int)) = true) (H12 : decide (0 + outlen ≤ outlen) = true) (E1 : r1036[(x87).toNat]? = some [.int .i64 e]) (E2 : r1084[(x87).toNat]? = some (encRect e2)) (E3 : r20[(e).toNat]? = some (encRect e3)) :
    i_Tree_layout.r2 call lp (i_Tree_layout.s2b outlen listlen x27 x28 x29 x85len x86 x87 t r r20 r1036 r1084) = some (.normal, (i_Tree_layout.s2b outlen listlen x27 x28 x29 x85len x86 (w64 (x87 + 1)) t r (r20.set ((e).toNat) [C.int .i64 (w64 (r.x + e2.x)), C.int .i64 (w64 (r.y + e2.y)), C.int .i64 e2.w, C.int .i64 e2.h]) r1036 r1084)) :=
  guided_round [true] (nd H9 (nd (nd H9 (nd H10 (nd H11 H12))) (nd H6 (nd (nd H6 (nd H3 (nd H7 H8))) (nd H6 (nd (nd H6 (nd H3 (nd H7 H8))) (nd H6 (nd (nd H6 (nd H3 (nd H7 H8))) (nd H6 (nd (nd H6 (nd H3 (nd H7 H8))) (nd H2 (nd (nd H2 (nd H3 (nd H4 H5))) (nd H1 rfl))))))))))))) (eC E3 (eC E3 (eC E2 (eC E2 (eC E2 (eC E2 (eC E2 (eC E2 (eC E2 (eC E2 (eC E1 (eC E1 eN)))))))))))) cN lN (by kernel_rfl)
theorem i_Tree_layout.l2_4 (outlen listlen : Nat) (x27 : List (List C)) (x28 x29 : Int) (x85len : Nat) (x86 x87 : Int) (t : List (List C)) (r : Rect) (r20 r1036 r1084 : List (List C)) (H1 : decide (x87 < x86) = false) :
    i_Tree_layout.r2 call lp (i_Tree_layout.s2b outlen listlen x27 x28 x29 x85len x86 x87 t r r20 r1036 r1084) = some (.exit 5, (i_Tree_layout.e2_0 outlen x27 x28 x29 t r20)) :=
  guided_round [false] (nd (not_t H1) rfl) eN cN lN (by kernel_rfl)
theorem i_Tree_layout.l2_5 (outlen listlen : Nat) (x27 : List (List C)) (x28 x29 : Int) (x85len : Nat) (x86 x87 : Int) (t : List (List C)) (r : Rect) (list r20 r1036 : List (List C)) (e : Int) (e2 e3 : Rect) (H1 : decide (x87 < x86) = true) (H2 : decide (r1036.length = x85len) = true) (H3 : decide (0 ≤ x87) = true) (H4 : decide (x87 < (x85len : Int)) = true) (H5 : decide (0 + x85len ≤ x85len) = true) (H6 : decide (list.length = listlen) = true) (H7 : decide (x87 < (listlen : Int)) = true) (H8 : decide (0 + listlen ≤ listlen) = true) (H9 : decide (r20.length = outlen) = true) (H10 : decide (0 ≤ e) = true) (H11 : decide (e < (outlen : Int)) = true) (H12 : decide (0 + outlen ≤ outlen) = true) (E1 : r1036[(x87).toNat]? = some [.int .i64 e]) (E2 : list[(x87).toNat]? = some (encRect e2)) (E3 : r20[(e).toNat]? = some (encRect e3)) :
    i_Tree_layout.r2 call lp (i_Tree_layout.s2c outlen listlen x27 x28 x29 x85len x86 x87 t r list r20 r1036) = some (.normal, (i_Tree_layout.s2c outlen listlen x27 x28 x29 x85len x86 (w64 (x87 + 1)) t r list (r20.set ((e).toNat) [C.int .i64 (w64 (r.x + e2.x)), C.int .i64 (w64 (r.y + e2.y)), C.int .i64 e2.w, C.int .i64 e2.h]) r1036)) :=
  guided_round [true] (nd H9 (nd (nd H9 (nd H10 (nd H11 H12))) (nd H6 (nd (nd H6 (nd H3 (nd H7 H8))) (nd H6 (nd (nd H6 (nd H3 (nd H7 H8))) (nd H6 (nd (nd H6 (nd H3 (nd H7 H8))) (nd H6 (nd (nd H6 (nd H3 (nd H7 H8))) (nd H2 (nd (nd H2 (nd H3 (nd H4 H5))) (nd H1 rfl))))))))))))) (eC E3 (eC E3 (eC E2 (eC E2 (eC E2 (eC E2 (eC E2 (eC E2 (eC E2 (eC E2 (eC E1 (eC E1 eN)))))))))))) cN lN (by kernel_rfl)
theorem i_Tree_layout.l2_6 (outlen listlen : Nat) (x27 : List (List C)) (x28 x29 : Int) (x85len : Nat) (x86 x87 : Int) (t : List (List C)) (r : Rect) (list r20 r1036 : List (List C)) (H1 : decide (x87 < x86) = false) :
    i_Tree_layout.r2 call lp (i_Tree_layout.s2c outlen listlen x27 x28 x29 x85len x86 x87 t r list r20 r1036) = some (.exit 5, (i_Tree_layout.e2_0 outlen x27 x28 x29 t r20)) :=
  guided_round [false] (nd (not_t H1) rfl) eN cN lN (by kernel_rfl)
theorem i_Tree_layout.w1 (nodes : List Node) (w h : Int) (e : Rect) (outlen : Nat) (r20 : List (List C)) (H1 : decide (0 ≤ (((nodes.map encNode).length : Nat) : Int)) = true) (H2 : decide ((((nodes.map encNode).length : Nat) : Int) ≤ 4398046511104) = true) (H3 : decide (0 < (((List.replicate (((((nodes.map encNode).length : Nat) : Int)).toNat) zRect).length : Nat) : Int)) = true) (H4 : decide (0 + ((List.replicate (((((nodes.map encNode).length : Nat) : Int)).toNat) zRect).length) ≤ (List.replicate (((((nodes.map encNode).length : Nat) : Int)).toNat) zRect).length) = true) (H5 : decide (r20.length = outlen) = true) (E1 : (List.replicate (((((nodes.map encNode).length : Nat) : Int)).toNat) zRect)[0]? = some (encRect e)) (L1 : lp (i_Tree_layout.r0 call lp) (i_Tree_layout.s0 ((List.replicate (((((nodes.map encNode).length : Nat) : Int)).toNat) zRect).length) (nodes.map encNode) (((nodes.map encNode).length : Nat) : Int) 0 (nodes.map encNode) ((List.replicate (((((nodes.map encNode).length : Nat) : Int)).toNat) zRect).set 0 [C.int .i64 0, C.int .i64 0, C.int .i64 w, C.int .i64 h])) = some (.exit 0, (i_Tree_layout.e0_0 outlen r20))) :
    pfun funcs own call lp i_Tree_layout [.agg [.rsl (nodes.map encNode)], vI w, vI h] = some (.one (.sl r20), []) :=
  guided_fun (cfg := cz) [] (nd (nd H5 rfl) (nd (dr ((List.replicate (((((nodes.map encNode).length : Nat) : Int)).toNat) zRect).length)) (nd (nd (dr ((List.replicate (((((nodes.map encNode).length : Nat) : Int)).toNat) zRect).length)) (nd H3 H4)) (nd (nd H1 H2) rfl)))) (eC E1 (eC E1 eN)) cN (lC L1 lN) (by kernel_rfl)
def s_validTree.s0 (i : Int) (t : List (List C)) : St := ⟨[(1, .one (.bptr 1 0)), (3, vI i)], [(1, .box false [.rsl t])]⟩
def s_validTree.e0_0 (t : List (List C)) : St := ⟨[(1, .one (.bptr 1 0)), (2, vB false)], [(1, .box false [.rsl t])]⟩
def s_validTree.e0_1 (t : List (List C)) : St := ⟨[(1, .one (.bptr 1 0))], [(1, .box false [.rsl t])]⟩
abbrev s_validTree.r0 (call : Call) (lp : Lp) := round call cf lp [1, 3] [1, 1001] [1, 2] [1, 1001] b62_0
theorem s_validTree.l0_1 (i : Int) (t : List (List C)) (H1 : decide (i < (t.length : Int)) = true) (K1 : call s_validNode [.agg [.rsl t], vI i] = some (vB false, [])) :
    s_validTree.r0 call lp (s_validTree.s0 i t) = some (.ret, (s_validTree.e0_0 t)) :=
  guided_round [true, true] (nd (not_t rfl) (nd H1 rfl)) eN (cC K1 cN) lN (by kernel_rfl)
theorem s_validTree.l0_2 (i : Int) (t : List (List C)) (H1 : decide (i < (t.length : Int)) = false) :
    s_validTree.r0 call lp (s_validTree.s0 i t) = some (.exit 0, (s_validTree.e0_1 t)) :=
  guided_round [false] (nd (not_t H1) rfl) eN cN lN (by kernel_rfl)
theorem s_validTree.l0_3 (i : Int) (t : List (List C)) (H1 : decide (i < (t.length : Int)) = true) (K1 : call s_validNode [.agg [.rsl t], vI i] = some (vB true, [])) :
    s_validTree.r0 call lp (s_validTree.s0 i t) = some (.normal, (s_validTree.s0 (w64 (i + 1)) t)) :=
  guided_round [true, false] (nd (not_t (not_f rfl)) (nd H1 rfl)) eN (cC K1 cN) lN (by kernel_rfl)
theorem s_validTree.w1 (nodes : List Node) (t : List (List C)) (L1 : lp (s_validTree.r0 call lp) (s_validTree.s0 0 (nodes.map encNode)) = some (.ret, (s_validTree.e0_0 t))) :
    pfun funcs own call lp s_validTree [.agg [.rsl (nodes.map encNode)]] = some (vB false, []) :=
  guided_fun (cfg := cf) [] rfl eN cN (lC L1 lN) (by kernel_rfl)
theorem s_validTree.w2 (nodes : List Node) (t : List (List C)) (r : Bool) (K1 : call s_inRange [vI (t.length : Int), vI 1, vI 10] = some (vB r, [])) (L1 : lp (s_validTree.r0 call lp) (s_validTree.s0 0 (nodes.map encNode)) = some (.exit 0, (s_validTree.e0_1 t))) :
    pfun funcs own call lp s_validTree [.agg [.rsl (nodes.map encNode)]] = some (vB r, []) :=
  guided_fun (cfg := cf) [] rfl eN (cC K1 cN) (lC L1 lN) (by kernel_rfl)
theorem s_goodRoom.w1 (w h : Int) (r2 : Bool) (K1 : call s_inRange [vI w, vI 0, vI 400] = some (vB true, [])) (K2 : call s_inRange [vI h, vI 0, vI 400] = some (vB r2, [])) :
    pfun funcs own call lp s_goodRoom [vI w, vI h] = some (vB r2, []) :=
  guided_fun (cfg := cf) [true, true, true] (nd rfl (nd2 (eq_tt rfl) rfl)) eN (cC K2 (cC K1 cN)) lN (by kernel_rfl)
theorem s_goodRoom.w2 (w h : Int) (K1 : call s_inRange [vI w, vI 0, vI 400] = some (vB false, [])) :
    pfun funcs own call lp s_goodRoom [vI w, vI h] = some (vB false, []) :=
  guided_fun (cfg := cf) [false, false, false] (nd (not_t rfl) (nd2 (not_t (eq_tf rfl)) rfl)) eN (cC K1 cN) lN (by kernel_rfl)
theorem s_layout.w1 (nodes : List Node) (w h : Int) (out : List Rect) (H1 : decide (0 ≤ (((nodes.map encNode).length : Nat) : Int)) = true) (H2 : decide ((((nodes.map encNode).length : Nat) : Int) ≤ 4398046511104) = true) (H3 : decide ((out.map encRect).length = (List.replicate (((((nodes.map encNode).length : Nat) : Int)).toNat) zRect).length) = true) (K1 : call s_laid [.agg [.rsl (nodes.map encNode)], vI 0, .agg [.int .i64 0, .int .i64 0, .int .i64 w, .int .i64 h], .one (.sl (List.replicate (((((nodes.map encNode).length : Nat) : Int)).toNat) zRect))] = some (undefV, [.sl (out.map encRect)])) :
    pfun funcs own call lp s_layout [.agg [.rsl (nodes.map encNode)], vI w, vI h] = some (.one (.sl (out.map encRect)), []) :=
  guided_fun (cfg := cf) [] (nd (nd H3 rfl) (nd (dr ((List.replicate (((((nodes.map encNode).length : Nat) : Int)).toNat) zRect).length)) (nd (nd H1 H2) rfl))) eN (cC K1 cN) lN (by kernel_rfl)
theorem s_someTree.w1 (b : List Int) (p : Int) (nodes : List Node) (p2 r p3 r2 p4 r3 p5 : Int) (e : Node) (H1 : (r2 == 0) = true) (H2 : decide (0 ≤ r) = true) (H3 : decide (r < (((nodes.map encNode).length : Nat) : Int)) = true) (H4 : decide (0 + ((nodes.map encNode).length) ≤ (nodes.map encNode).length) = true) (E1 : (nodes.map encNode)[(r).toNat]? = some (encNode e)) (K1 : call s_goodTree [.one (.pt [.rsl (b.map encB), .int .i64 p])] = some (.agg [.sl (nodes.map encNode)], [.pt [.rsl (b.map encB), .int .i64 p2]])) (K2 : call s_reader_pick [.one (.pt [.rsl (b.map encB), .int .i64 p2]), vI (((nodes.map encNode).length : Nat) : Int)] = some (vI r, [.pt [.rsl (b.map encB), .int .i64 p3]])) (K3 : call s_reader_pick [.one (.pt [.rsl (b.map encB), .int .i64 p3]), vI 24] = some (vI r2, [.pt [.rsl (b.map encB), .int .i64 p4]])) (K4 : call s_reader_one [.one (.pt [.rsl (b.map encB), .int .i64 p4]), .one (.rsl [[C.int .i64 r], [C.int .i64 (-1)], [C.int .i64 10]])] = some (vI r3, [.pt [.rsl (b.map encB), .int .i64 p5]])) :
    pfun funcs own call lp s_someTree [.one (.pt [.rsl (b.map encB), .int .i64 p])] = some (.agg [.sl ((nodes.map encNode).set ((r).toNat) (cellsNode r3 e.w e.h e.keep e.kind (.sl (e.cols.map encLine)) (.sl (e.rows.map encLine)) e.pack e.cell e.place))], [.pt [.rsl (b.map encB), .int .i64 p5]]) :=
  guided_fun (cfg := cf) [true] (nd (nd (nd (dr ((nodes.map encNode).length)) rfl) rfl) (nd (dr ((nodes.map encNode).length)) (nd (nd (dr ((nodes.map encNode).length)) (nd H2 (nd H3 H4))) (nd H1 rfl)))) (eC E1 (eC E1 eN)) (cC K4 (cC K3 (cC K2 (cC K1 cN)))) lN (by kernel_rfl)
theorem s_someTree.w2 (b : List Int) (p : Int) (nodes : List Node) (p2 r p3 r2 p4 r3 p5 : Int) (e : Node) (H1 : (r2 == 0) = false) (H2 : (r2 == 1) = true) (H3 : decide (0 ≤ r) = true) (H4 : decide (r < (((nodes.map encNode).length : Nat) : Int)) = true) (H5 : decide (0 + ((nodes.map encNode).length) ≤ (nodes.map encNode).length) = true) (E1 : (nodes.map encNode)[(r).toNat]? = some (encNode e)) (K1 : call s_goodTree [.one (.pt [.rsl (b.map encB), .int .i64 p])] = some (.agg [.sl (nodes.map encNode)], [.pt [.rsl (b.map encB), .int .i64 p2]])) (K2 : call s_reader_pick [.one (.pt [.rsl (b.map encB), .int .i64 p2]), vI (((nodes.map encNode).length : Nat) : Int)] = some (vI r, [.pt [.rsl (b.map encB), .int .i64 p3]])) (K3 : call s_reader_pick [.one (.pt [.rsl (b.map encB), .int .i64 p3]), vI 24] = some (vI r2, [.pt [.rsl (b.map encB), .int .i64 p4]])) (K4 : call s_reader_one [.one (.pt [.rsl (b.map encB), .int .i64 p4]), .one (.rsl [[C.int .i64 (-1)], [C.int .i64 31]])] = some (vI r3, [.pt [.rsl (b.map encB), .int .i64 p5]])) :
    pfun funcs own call lp s_someTree [.one (.pt [.rsl (b.map encB), .int .i64 p])] = some (.agg [.sl ((nodes.map encNode).set ((r).toNat) (cellsNode e.parent r3 e.h e.keep e.kind (.sl (e.cols.map encLine)) (.sl (e.rows.map encLine)) e.pack e.cell e.place))], [.pt [.rsl (b.map encB), .int .i64 p5]]) :=
  guided_fun (cfg := cf) [false, true] (nd (nd (nd (dr ((nodes.map encNode).length)) rfl) rfl) (nd (dr ((nodes.map encNode).length)) (nd (nd (dr ((nodes.map encNode).length)) (nd H3 (nd H4 H5))) (nd H2 (nd (not_t H1) rfl))))) (eC E1 (eC E1 eN)) (cC K4 (cC K3 (cC K2 (cC K1 cN)))) lN (by kernel_rfl)
theorem s_someTree.w3 (b : List Int) (p : Int) (nodes : List Node) (p2 r p3 r2 p4 r3 p5 : Int) (e : Node) (H1 : (r2 == 0) = false) (H2 : (r2 == 1) = false) (H3 : (r2 == 2) = true) (H4 : decide (0 ≤ r) = true) (H5 : decide (r < (((nodes.map encNode).length : Nat) : Int)) = true) (H6 : decide (0 + ((nodes.map encNode).length) ≤ (nodes.map encNode).length) = true) (E1 : (nodes.map encNode)[(r).toNat]? = some (encNode e)) (K1 : call s_goodTree [.one (.pt [.rsl (b.map encB), .int .i64 p])] = some (.agg [.sl (nodes.map encNode)], [.pt [.rsl (b.map encB), .int .i64 p2]])) (K2 : call s_reader_pick [.one (.pt [.rsl (b.map encB), .int .i64 p2]), vI (((nodes.map encNode).length : Nat) : Int)] = some (vI r, [.pt [.rsl (b.map encB), .int .i64 p3]])) (K3 : call s_reader_pick [.one (.pt [.rsl (b.map encB), .int .i64 p3]), vI 24] = some (vI r2, [.pt [.rsl (b.map encB), .int .i64 p4]])) (K4 : call s_reader_one [.one (.pt [.rsl (b.map encB), .int .i64 p4]), .one (.rsl [[C.int .i64 (-1)], [C.int .i64 3], [C.int .i64 1], [C.int .i64 0]])] = some (vI r3, [.pt [.rsl (b.map encB), .int .i64 p5]])) :
    pfun funcs own call lp s_someTree [.one (.pt [.rsl (b.map encB), .int .i64 p])] = some (.agg [.sl ((nodes.map encNode).set ((r).toNat) (cellsNode e.parent e.w e.h e.keep r3 (.sl (e.cols.map encLine)) (.sl (e.rows.map encLine)) e.pack e.cell e.place))], [.pt [.rsl (b.map encB), .int .i64 p5]]) :=
  guided_fun (cfg := cf) [false, false, true] (nd (nd (nd (dr ((nodes.map encNode).length)) rfl) rfl) (nd (dr ((nodes.map encNode).length)) (nd (nd (dr ((nodes.map encNode).length)) (nd H4 (nd H5 H6))) (nd H3 (nd (not_t H2) (nd (not_t H1) rfl)))))) (eC E1 (eC E1 eN)) (cC K4 (cC K3 (cC K2 (cC K1 cN)))) lN (by kernel_rfl)
theorem s_someTree.w4 (b : List Int) (p : Int) (nodes : List Node) (p2 r p3 r2 p4 : Int) (e : Node) (H1 : (r2 == 0) = false) (H2 : (r2 == 1) = false) (H3 : (r2 == 2) = false) (H4 : (r2 == 3) = true) (H5 : decide (0 ≤ r) = true) (H6 : decide (r < (((nodes.map encNode).length : Nat) : Int)) = true) (H7 : decide (0 + ((nodes.map encNode).length) ≤ (nodes.map encNode).length) = true) (E1 : (nodes.map encNode)[(r).toNat]? = some (encNode e)) (K1 : call s_goodTree [.one (.pt [.rsl (b.map encB), .int .i64 p])] = some (.agg [.sl (nodes.map encNode)], [.pt [.rsl (b.map encB), .int .i64 p2]])) (K2 : call s_reader_pick [.one (.pt [.rsl (b.map encB), .int .i64 p2]), vI (((nodes.map encNode).length : Nat) : Int)] = some (vI r, [.pt [.rsl (b.map encB), .int .i64 p3]])) (K3 : call s_reader_pick [.one (.pt [.rsl (b.map encB), .int .i64 p3]), vI 24] = some (vI r2, [.pt [.rsl (b.map encB), .int .i64 p4]])) :
    pfun funcs own call lp s_someTree [.one (.pt [.rsl (b.map encB), .int .i64 p])] = some (.agg [.sl ((nodes.map encNode).set ((r).toNat) [C.int .i64 e.parent, C.int .i64 e.w, C.int .i64 e.h, C.bool e.keep, C.int .i64 e.kind, C.sl (e.cols.map encLine), C.sl (e.rows.map encLine), C.int .i64 1, C.int .i64 e.pack.h, C.int .i64 e.pack.side, C.bool e.pack.fillX, C.bool e.pack.fillY, C.bool e.pack.expand, C.int .i64 e.pack.anchor, C.int .i64 e.pack.padX, C.int .i64 e.pack.padY, C.int .i64 e.cell.col, C.int .i64 e.cell.row, C.int .i64 e.cell.manyCols, C.int .i64 e.cell.manyRows, C.int .i64 e.cell.w, C.int .i64 e.cell.h, C.int .i64 e.cell.stick, C.int .i64 e.cell.padX, C.int .i64 e.cell.padY, C.int .i64 e.place.x, C.int .i64 e.place.y, C.int .i64 e.place.relX, C.int .i64 e.place.relY, C.int .i64 e.place.w, C.int .i64 e.place.h, C.int .i64 e.place.relW, C.int .i64 e.place.relH, C.int .i64 e.place.anchor])], [.pt [.rsl (b.map encB), .int .i64 p4]]) :=
  guided_fun (cfg := cf) (bitl 4 8) (nd (nd (nd (dr ((nodes.map encNode).length)) rfl) rfl) (nd (dr ((nodes.map encNode).length)) (nd (nd (dr ((nodes.map encNode).length)) (nd H5 (nd H6 H7))) (nd H4 (nd (not_t H3) (nd (not_t H2) (nd (not_t H1) rfl))))))) (eC E1 (eC E1 eN)) (cC K3 (cC K2 (cC K1 cN))) lN (by kernel_rfl)
theorem s_someTree.w5 (b : List Int) (p : Int) (nodes : List Node) (p2 r p3 r2 p4 : Int) (H1 : (r2 == 0) = false) (H2 : (r2 == 1) = false) (H3 : (r2 == 2) = false) (H4 : (r2 == 3) = false) (K1 : call s_goodTree [.one (.pt [.rsl (b.map encB), .int .i64 p])] = some (.agg [.sl (nodes.map encNode)], [.pt [.rsl (b.map encB), .int .i64 p2]])) (K2 : call s_reader_pick [.one (.pt [.rsl (b.map encB), .int .i64 p2]), vI (((nodes.map encNode).length : Nat) : Int)] = some (vI r, [.pt [.rsl (b.map encB), .int .i64 p3]])) (K3 : call s_reader_pick [.one (.pt [.rsl (b.map encB), .int .i64 p3]), vI 24] = some (vI r2, [.pt [.rsl (b.map encB), .int .i64 p4]])) :
    pfun funcs own call lp s_someTree [.one (.pt [.rsl (b.map encB), .int .i64 p])] = some (.agg [.sl (nodes.map encNode)], [.pt [.rsl (b.map encB), .int .i64 p4]]) :=
  guided_fun (cfg := cf) (bitl 4 0) (nd (nd (nd (dr ((nodes.map encNode).length)) rfl) rfl) (nd (not_t H4) (nd (not_t H3) (nd (not_t H2) (nd (not_t H1) rfl))))) eN (cC K3 (cC K2 (cC K1 cN))) lN (by kernel_rfl)
theorem s_sizeOf.w1 (nodes : List Node) (i : Int) (e : Node) (r : List Int) (H1 : decide (0 ≤ i) = true) (H2 : e.keep = true) (E1 : (nodes.map encNode)[(i).toNat]? = some (encNode e)) (K1 : call s_kidsOf [.agg [.rsl (nodes.map encNode)], vI i] = some (.one (.sl (r.map encInt)), [])) :
    pfun funcs own call lp s_sizeOf [.agg [.rsl (nodes.map encNode)], vI i] = some (.tup [vI e.w, vI e.h], []) :=
  guided_fun (cfg := cz) (bitl 9 392) (nd H2 (nd3 (not_t (eq_ft H2)) (nd H1 rfl))) (eC E1 eN) (cC K1 cN) lN (by kernel_rfl)
theorem s_sizeOf.w2 (nodes : List Node) (i : Int) (e : Node) (r : List Int) (H1 : decide (0 ≤ i) = true) (H2 : e.keep = false) (H3 : ((((r.map encInt).length : Nat) : Int) == 0) = true) (E1 : (nodes.map encNode)[(i).toNat]? = some (encNode e)) (K1 : call s_kidsOf [.agg [.rsl (nodes.map encNode)], vI i] = some (.one (.sl (r.map encInt)), [])) :
    pfun funcs own call lp s_sizeOf [.agg [.rsl (nodes.map encNode)], vI i] = some (.tup [vI e.w, vI e.h], []) :=
  guided_fun (cfg := cz) (bitl 9 391) (nd H3 (nd3 (not_t (eq_ft H3)) (nd (not_t H2) (nd3 (eq_ff H2) (nd H1 rfl))))) (eC E1 eN) (cC K1 cN) lN (by kernel_rfl)
theorem s_sizeOf.w3 (nodes : List Node) (i : Int) (e : Node) (r : List Int) (H1 : decide (0 ≤ i) = true) (H2 : e.keep = false) (H3 : ((((r.map encInt).length : Nat) : Int) == 0) = false) (H4 : (e.kind == 2) = true) (E1 : (nodes.map encNode)[(i).toNat]? = some (encNode e)) (K1 : call s_kidsOf [.agg [.rsl (nodes.map encNode)], vI i] = some (.one (.sl (r.map encInt)), [])) :
    pfun funcs own call lp s_sizeOf [.agg [.rsl (nodes.map encNode)], vI i] = some (.tup [vI e.w, vI e.h], []) :=
  guided_fun (cfg := cz) (bitl 9 375) (nd H4 (nd (not_t H3) (nd3 (eq_ff H3) (nd (not_t H2) (nd3 (eq_ff H2) (nd H1 rfl)))))) (eC E1 eN) (cC K1 cN) lN (by kernel_rfl)
theorem s_sizeOf.w4 (nodes : List Node) (i : Int) (e : Node) (r : List Int) (r2 : List Pack) (r3 r4 : Int) (H1 : decide (0 ≤ i) = true) (H2 : e.keep = false) (H3 : ((((r.map encInt).length : Nat) : Int) == 0) = false) (H4 : (e.kind == 2) = false) (H5 : (e.kind == 0) = true) (E1 : (nodes.map encNode)[(i).toNat]? = some (encNode e)) (K1 : call s_kidsOf [.agg [.rsl (nodes.map encNode)], vI i] = some (.one (.sl (r.map encInt)), [])) (K2 : call s_packsOf [.agg [.rsl (nodes.map encNode)], .one (.rsl (r.map encInt))] = some (.one (.sl (r2.map encPack)), [])) (K3 : call s_request [.one (.rsl (r2.map encPack))] = some (.tup [vI r3, vI r4], [])) :
    pfun funcs own call lp s_sizeOf [.agg [.rsl (nodes.map encNode)], vI i] = some (.tup [vI r3, vI r4], []) :=
  guided_fun (cfg := cz) (bitl 10 631) (nd (dr ((r2.map encPack).length)) (nd (dr ((r.map encInt).length)) (nd H5 (nd (not_t H4) (nd (not_t H3) (nd3 (eq_ff H3) (nd (not_t H2) (nd3 (eq_ff H2) (nd H1 rfl))))))))) (eC E1 eN) (cC K3 (cC K2 (cC K1 cN))) lN (by kernel_rfl)
theorem s_sizeOf.w5 (nodes : List Node) (i : Int) (e : Node) (r : List Int) (cols rows : List Line) (cells : List Cell) (r2 r3 : Int) (H1 : decide (0 ≤ i) = true) (H2 : e.keep = false) (H3 : ((((r.map encInt).length : Nat) : Int) == 0) = false) (H4 : (e.kind == 2) = false) (H5 : (e.kind == 0) = false) (E1 : (nodes.map encNode)[(i).toNat]? = some (encNode e)) (K1 : call s_kidsOf [.agg [.rsl (nodes.map encNode)], vI i] = some (.one (.sl (r.map encInt)), [])) (K2 : call s_gridOf [.agg [.rsl (nodes.map encNode)], vI i, .one (.rsl (r.map encInt))] = some (.agg [.rsl (cols.map encLine), .rsl (rows.map encLine), .sl (cells.map encCell)], [])) (K3 : call s_gridRequest [.agg [.rsl (cols.map encLine), .rsl (rows.map encLine), .rsl (cells.map encCell)]] = some (.tup [vI r2, vI r3], [])) :
    pfun funcs own call lp s_sizeOf [.agg [.rsl (nodes.map encNode)], vI i] = some (.tup [vI r2, vI r3], []) :=
  guided_fun (cfg := cz) (bitl 10 119) (nd (dr ((cells.map encCell).length)) (nd (dr ((r.map encInt).length)) (nd (not_t H5) (nd (not_t H4) (nd (not_t H3) (nd3 (eq_ff H3) (nd (not_t H2) (nd3 (eq_ff H2) (nd H1 rfl))))))))) (eC E1 eN) (cC K3 (cC K2 (cC K1 cN))) lN (by kernel_rfl)
def i_Tree_kids.s0 (i : Int) (outlen : Nat) (x9 : List (List C)) (x10 x11 : Int) (t out : List (List C)) : St := ⟨[(1, vI i), (5, .one (.ref 5 outlen)), (9, .one (.rsl x9)), (10, vI x10), (11, vI x11)], [(2, .box false [.rsl t]), (5, .row false 0 out none)]⟩
def i_Tree_kids.e0_0 (outlen : Nat) (out : List (List C)) : St := ⟨[(5, .one (.ref 5 outlen))], [(5, .row false 0 out none)]⟩
abbrev i_Tree_kids.r0 (call : Call) (lp : Lp) := round call cf lp [1, 5, 9, 10, 11] [2, 5, 23, 1002] [4, 5] [4, 5, 23] b68_0
theorem i_Tree_kids.l0_1 (i : Int) (outlen : Nat) (x9 : List (List C)) (x10 x11 : Int) (t out : List (List C)) (e : Node) (H1 : decide (x11 < x10) = true) (H2 : decide (0 ≤ x11) = true) (H3 : (e.parent == i) = true) (H4 : decide (out.length = outlen) = true) (H5 : (uni 1 out) = true) (H6 : decide (out.length + 1 ≤ 17592186044416) = true) (E1 : x9[(x11).toNat]? = some (encNode e)) :
    i_Tree_kids.r0 call lp (i_Tree_kids.s0 i outlen x9 x10 x11 t out) = some (.normal, (i_Tree_kids.s0 i ((out ++ [[C.int .i64 x11]]).length) x9 x10 (w64 (x11 + 1)) t (out ++ [[C.int .i64 x11]]))) :=
  guided_round [true, true] (nd (nd H5 H6) (nd H4 (nd H3 (nd H2 (nd H1 rfl))))) (eC E1 eN) cN lN (by kernel_rfl)
theorem i_Tree_kids.l0_2 (i : Int) (outlen : Nat) (x9 : List (List C)) (x10 x11 : Int) (t out : List (List C)) (H1 : decide (x11 < x10) = false) :
    i_Tree_kids.r0 call lp (i_Tree_kids.s0 i outlen x9 x10 x11 t out) = some (.exit 0, (i_Tree_kids.e0_0 outlen out)) :=
  guided_round [false] (nd (not_t H1) rfl) eN cN lN (by kernel_rfl)
theorem i_Tree_kids.l0_3 (i : Int) (outlen : Nat) (x9 : List (List C)) (x10 x11 : Int) (t out : List (List C)) (e : Node) (H1 : decide (x11 < x10) = true) (H2 : decide (0 ≤ x11) = true) (H3 : (e.parent == i) = false) (E1 : x9[(x11).toNat]? = some (encNode e)) :
    i_Tree_kids.r0 call lp (i_Tree_kids.s0 i outlen x9 x10 x11 t out) = some (.normal, (i_Tree_kids.s0 i outlen x9 x10 (w64 (x11 + 1)) t out)) :=
  guided_round [true, false] (nd (not_t H3) (nd H2 (nd H1 rfl))) (eC E1 eN) cN lN (by kernel_rfl)
theorem i_Tree_kids.w1 (nodes : List Node) (i : Int) (outlen : Nat) (out : List (List C)) (H1 : decide (out.length = outlen) = true) (L1 : lp (i_Tree_kids.r0 call lp) (i_Tree_kids.s0 i 0 (nodes.map encNode) (((nodes.map encNode).length : Nat) : Int) 0 (nodes.map encNode) []) = some (.exit 0, (i_Tree_kids.e0_0 outlen out))) :
    pfun funcs own call lp i_Tree_kids [.agg [.rsl (nodes.map encNode)], vI i] = some (.one (.sl out), []) :=
  guided_fun (cfg := cf) [] (nd (nd H1 rfl) rfl) eN cN (lC L1 lN) (by kernel_rfl)
def s_kidsOf.s0 (i : Int) (outlen : Nat) (k : Int) (t r7 : List (List C)) : St := ⟨[(1, vI i), (2, .one (.bptr 2 0)), (5, .one (.ref 7 outlen)), (6, vI k)], [(2, .box false [.rsl t]), (7, .row false 0 r7 none)]⟩
def s_kidsOf.e0_0 (outlen : Nat) (r7 : List (List C)) : St := ⟨[(5, .one (.ref 7 outlen))], [(7, .row false 0 r7 none)]⟩
abbrev s_kidsOf.r0 (call : Call) (lp : Lp) := round call cf lp [1, 2, 5, 6] [2, 7, 26, 1002] [4, 5] [4, 7, 26] b71_0
theorem s_kidsOf.l0_1 (i : Int) (outlen : Nat) (k : Int) (t r7 : List (List C)) (e : Node) (H1 : decide (k < (t.length : Int)) = true) (H2 : decide (0 ≤ k) = true) (H3 : (e.parent == i) = true) (H4 : decide (r7.length = outlen) = true) (H5 : (uni 1 r7) = true) (H6 : decide (r7.length + 1 ≤ 17592186044416) = true) (E1 : t[(k).toNat]? = some (encNode e)) :
    s_kidsOf.r0 call lp (s_kidsOf.s0 i outlen k t r7) = some (.normal, (s_kidsOf.s0 i ((r7 ++ [[C.int .i64 k]]).length) (w64 (k + 1)) t (r7 ++ [[C.int .i64 k]]))) :=
  guided_round [true, true] (nd (nd H5 H6) (nd H4 (nd H3 (nd H2 (nd H1 rfl))))) (eC E1 eN) cN lN (by kernel_rfl)
theorem s_kidsOf.l0_2 (i : Int) (outlen : Nat) (k : Int) (t r7 : List (List C)) (H1 : decide (k < (t.length : Int)) = false) :
    s_kidsOf.r0 call lp (s_kidsOf.s0 i outlen k t r7) = some (.exit 0, (s_kidsOf.e0_0 outlen r7)) :=
  guided_round [false] (nd (not_t H1) rfl) eN cN lN (by kernel_rfl)
theorem s_kidsOf.l0_3 (i : Int) (outlen : Nat) (k : Int) (t r7 : List (List C)) (e : Node) (H1 : decide (k < (t.length : Int)) = true) (H2 : decide (0 ≤ k) = true) (H3 : (e.parent == i) = false) (E1 : t[(k).toNat]? = some (encNode e)) :
    s_kidsOf.r0 call lp (s_kidsOf.s0 i outlen k t r7) = some (.normal, (s_kidsOf.s0 i outlen (w64 (k + 1)) t r7)) :=
  guided_round [true, false] (nd (not_t H3) (nd H2 (nd H1 rfl))) (eC E1 eN) cN lN (by kernel_rfl)
theorem s_kidsOf.w1 (nodes : List Node) (i : Int) (outlen : Nat) (r7 : List (List C)) (H1 : decide (r7.length = outlen) = true) (L1 : lp (s_kidsOf.r0 call lp) (s_kidsOf.s0 i 0 1 (nodes.map encNode) []) = some (.exit 0, (s_kidsOf.e0_0 outlen r7))) :
    pfun funcs own call lp s_kidsOf [.agg [.rsl (nodes.map encNode)], vI i] = some (.one (.sl r7), []) :=
  guided_fun (cfg := cf) [] (nd (nd H1 rfl) rfl) eN cN (lC L1 lN) (by kernel_rfl)
theorem s_reader_one.w1 (b : List Int) (p : Int) (list : List Int) (r p2 e : Int) (H1 : decide (0 ≤ r) = true) (E1 : (list.map encInt)[(r).toNat]? = some [.int .i64 e]) (K1 : call s_reader_pick [.one (.pt [.rsl (b.map encB), .int .i64 p]), vI (((list.map encInt).length : Nat) : Int)] = some (vI r, [.pt [.rsl (b.map encB), .int .i64 p2]])) :
    pfun funcs own call lp s_reader_one [.one (.pt [.rsl (b.map encB), .int .i64 p]), .one (.rsl (list.map encInt))] = some (vI e, [.pt [.rsl (b.map encB), .int .i64 p2]]) :=
  guided_fun (cfg := cf) [] (nd H1 rfl) (eC E1 eN) (cC K1 cN) lN (by kernel_rfl)
theorem s_reader_pick.w1 (b : List Int) (p n : Int) (H1 : decide (n < 1) = true) :
    pfun funcs own call lp s_reader_pick [.one (.pt [.rsl (b.map encB), .int .i64 p]), vI n] = some (vI 0, [.pt [.rsl (b.map encB), .int .i64 (w64 (p + 1))]]) :=
  guided_fun (cfg := cf) (bitl 8 192) (nd H1 (nd6 (not_t (eq_ft H1)) rfl)) eN cN lN (by kernel_rfl)
theorem s_reader_pick.w2 (b : List Int) (p n : Int) (H1 : decide (n < 1) = false) (H2 : ((((b.map encB).length : Nat) : Int) == 0) = true) :
    pfun funcs own call lp s_reader_pick [.one (.pt [.rsl (b.map encB), .int .i64 p]), vI n] = some (vI 0, [.pt [.rsl (b.map encB), .int .i64 (w64 (p + 1))]]) :=
  guided_fun (cfg := cf) (bitl 8 191) (nd H2 (nd (not_t H1) (nd6 (eq_ff H1) rfl))) eN cN lN (by kernel_rfl)
theorem s_reader_pick.w3 (b : List Int) (p n e : Int) (H1 : decide (n < 1) = false) (H2 : ((((b.map encB).length : Nat) : Int) == 0) = false) (H3 : decide (w64 ((w64 (p + 1)) - 1) < (((b.map encB).length : Nat) : Int)) = true) (H4 : decide (0 ≤ w64 ((w64 (p + 1)) - 1)) = true) (H5 : decide (n ≠ 0) = true) (E1 : (b.map encB)[(w64 ((w64 (p + 1)) - 1)).toNat]? = some [.int .u8 e]) :
    pfun funcs own call lp s_reader_pick [.one (.pt [.rsl (b.map encB), .int .i64 p]), vI n] = some (vI (Int.tmod (w64 (e)) n), [.pt [.rsl (b.map encB), .int .i64 (w64 (p + 1))]]) :=
  guided_fun (cfg := cf) (bitl 9 319) (nd H5 (nd H4 (nd H3 (nd (not_t H2) (nd (not_t H1) (nd6 (eq_ff H1) rfl)))))) (eC E1 eN) cN lN (by kernel_rfl)
theorem s_reader_pick.w4 (b : List Int) (p n e e2 : Int) (H1 : decide (n < 1) = false) (H2 : ((((b.map encB).length : Nat) : Int) == 0) = false) (H3 : decide (w64 ((w64 (p + 1)) - 1) < (((b.map encB).length : Nat) : Int)) = false) (H4 : decide ((((b.map encB).length : Nat) : Int) ≠ 0) = true) (H5 : decide (0 ≤ Int.tmod (w64 ((w64 (p + 1)) - 1)) (((b.map encB).length : Nat) : Int)) = true) (H6 : decide (0 ≤ Int.tmod (w64 ((w64 ((w64 ((w64 (p + 1)) - 1)) * 7)) + 3)) (((b.map encB).length : Nat) : Int)) = true) (H7 : decide (n ≠ 0) = true) (E1 : (b.map encB)[(Int.tmod (w64 ((w64 (p + 1)) - 1)) (((b.map encB).length : Nat) : Int)).toNat]? = some [.int .u8 e]) (E2 : (b.map encB)[(Int.tmod (w64 ((w64 ((w64 ((w64 (p + 1)) - 1)) * 7)) + 3)) (((b.map encB).length : Nat) : Int)).toNat]? = some [.int .u8 e2]) :
    pfun funcs own call lp s_reader_pick [.one (.pt [.rsl (b.map encB), .int .i64 p]), vI n] = some (vI (Int.tmod (xor64 (w64 ((w64 ((w64 ((w64 ((w64 (e)) * 131)) + (w64 ((w64 (e2)) * 1117)))) + (w64 ((w64 ((w64 (p + 1)) - 1)) * 29)))) + (w64 ((w64 (Int.tdiv (w64 ((w64 (p + 1)) - 1)) (((b.map encB).length : Nat) : Int))) * 53)))) (w64 (Int.tdiv (w64 ((w64 ((w64 ((w64 ((w64 (e)) * 131)) + (w64 ((w64 (e2)) * 1117)))) + (w64 ((w64 ((w64 (p + 1)) - 1)) * 29)))) + (w64 ((w64 (Int.tdiv (w64 ((w64 (p + 1)) - 1)) (((b.map encB).length : Nat) : Int))) * 53)))) 64))) n), [.pt [.rsl (b.map encB), .int .i64 (w64 (p + 1))]]) :=
  guided_fun (cfg := cf) (bitl 9 63) (nd H7 (nd H4 (nd H6 (nd H4 (nd H5 (nd H4 (nd (not_t H3) (nd (not_t H2) (nd (not_t H1) (nd6 (eq_ff H1) rfl)))))))))) (eC E2 (eC E1 eN)) cN lN (by kernel_rfl)
theorem s_inRange.w1 (n low high : Int) (H1 : decide (low ≤ n) = true) :
    pfun funcs own call lp s_inRange [vI n, vI low, vI high] = some (vB (decide (n ≤ high)), []) :=
  guided_fun (cfg := cf) (bitl 4 15) (nd H1 (nd3 (eq_tt H1) rfl)) eN cN lN (by kernel_rfl)
theorem s_inRange.w2 (n low high : Int) (H1 : decide (low ≤ n) = false) :
    pfun funcs own call lp s_inRange [vI n, vI low, vI high] = some (vB false, []) :=
  guided_fun (cfg := cf) (bitl 4 0) (nd (not_t H1) (nd3 (not_t (eq_tf H1)) rfl)) eN cN lN (by kernel_rfl)
theorem i_Node_ok.w1 (n : Node) (K1 : call i_within [vI n.w, vI 0, vI 30] = some (vB false, [])) :
    pfun funcs own call lp i_Node_ok [.agg (encNodeR n)] = some (vB false, []) :=
  guided_fun (cfg := cf) (bitl 11 1552) (nd (not_t rfl) (nd4 (not_t (eq_ft (not_t rfl))) rfl)) eN (cC K1 cN) lN (by kernel_rfl)
theorem i_Node_ok.w2 (n : Node) (K1 : call i_within [vI n.w, vI 0, vI 30] = some (vB true, [])) (K2 : call i_within [vI n.h, vI 0, vI 30] = some (vB false, [])) :
    pfun funcs own call lp i_Node_ok [.agg (encNodeR n)] = some (vB false, []) :=
  guided_fun (cfg := cf) (bitl 11 1551) (nd (not_t rfl) (nd4 (not_t (eq_ft (not_t rfl))) (nd (not_t (not_f rfl)) (nd4 (eq_ff (not_f rfl)) rfl)))) eN (cC K2 (cC K1 cN)) lN (by kernel_rfl)
theorem i_Node_ok.w3 (n : Node) (K1 : call i_within [vI n.w, vI 0, vI 30] = some (vB true, [])) (K2 : call i_within [vI n.h, vI 0, vI 30] = some (vB true, [])) (K3 : call i_within [vI n.kind, vI 0, vI 2] = some (vB false, [])) :
    pfun funcs own call lp i_Node_ok [.agg (encNodeR n)] = some (vB false, []) :=
  guided_fun (cfg := cf) (bitl 11 1519) (nd (not_t rfl) (nd (not_t (not_f rfl)) (nd4 (eq_ff (not_f rfl)) (nd (not_t (not_f rfl)) (nd4 (eq_ff (not_f rfl)) rfl))))) eN (cC K3 (cC K2 (cC K1 cN))) lN (by kernel_rfl)
theorem i_Node_ok.w4 (n : Node) (K1 : call i_within [vI n.w, vI 0, vI 30] = some (vB true, [])) (K2 : call i_within [vI n.h, vI 0, vI 30] = some (vB true, [])) (K3 : call i_within [vI n.kind, vI 0, vI 2] = some (vB true, [])) (K4 : call i_ValidPack [.agg (encPack n.pack)] = some (vB false, [])) :
    pfun funcs own call lp i_Node_ok [.agg (encNodeR n)] = some (vB false, []) :=
  guided_fun (cfg := cf) (bitl 37 104187593199) (nd (not_t rfl) (nd4 (not_t (eq_ft (not_t rfl))) (nd2 (not_t (not_f rfl)) (nd4 (eq_ff (not_f rfl)) (nd (not_t (not_f rfl)) (nd4 (eq_ff (not_f rfl)) rfl)))))) eN (cC K4 (cC K3 (cC K2 (cC K1 cN)))) lN (by kernel_rfl)
theorem i_Node_ok.w5 (n : Node) (H5 : (n.pack.w != 0) = true) (K1 : call i_within [vI n.w, vI 0, vI 30] = some (vB true, [])) (K2 : call i_within [vI n.h, vI 0, vI 30] = some (vB true, [])) (K3 : call i_within [vI n.kind, vI 0, vI 2] = some (vB true, [])) (K4 : call i_ValidPack [.agg (encPack n.pack)] = some (vB true, [])) :
    pfun funcs own call lp i_Node_ok [.agg (encNodeR n)] = some (vB false, []) :=
  guided_fun (cfg := cf) (bitl 37 104187591151) (nd H5 (nd4 (not_t (eq_ft H5)) (nd (not_t (not_f rfl)) (nd4 (eq_ff (not_f rfl)) (nd2 (not_t (not_f rfl)) (nd4 (eq_ff (not_f rfl)) (nd (not_t (not_f rfl)) (nd4 (eq_ff (not_f rfl)) rfl)))))))) eN (cC K4 (cC K3 (cC K2 (cC K1 cN)))) lN (by kernel_rfl)
theorem i_Node_ok.w6 (n : Node) (H5 : (n.pack.w != 0) = false) (H6 : (n.pack.h != 0) = true) (K1 : call i_within [vI n.w, vI 0, vI 30] = some (vB true, [])) (K2 : call i_within [vI n.h, vI 0, vI 30] = some (vB true, [])) (K3 : call i_within [vI n.kind, vI 0, vI 2] = some (vB true, [])) (K4 : call i_ValidPack [.agg (encPack n.pack)] = some (vB true, [])) :
    pfun funcs own call lp i_Node_ok [.agg (encNodeR n)] = some (vB false, []) :=
  guided_fun (cfg := cf) (bitl 37 104187525615) (nd H6 (nd4 (not_t (eq_ft H6)) (nd (not_t H5) (nd4 (eq_ff H5) (nd (not_t (not_f rfl)) (nd4 (eq_ff (not_f rfl)) (nd2 (not_t (not_f rfl)) (nd4 (eq_ff (not_f rfl)) (nd (not_t (not_f rfl)) (nd4 (eq_ff (not_f rfl)) rfl)))))))))) eN (cC K4 (cC K3 (cC K2 (cC K1 cN)))) lN (by kernel_rfl)
theorem i_Node_ok.w7 (n : Node) (H5 : (n.pack.w != 0) = false) (H6 : (n.pack.h != 0) = false) (K1 : call i_within [vI n.w, vI 0, vI 30] = some (vB true, [])) (K2 : call i_within [vI n.h, vI 0, vI 30] = some (vB true, [])) (K3 : call i_within [vI n.kind, vI 0, vI 2] = some (vB true, [])) (K4 : call i_ValidPack [.agg (encPack n.pack)] = some (vB true, [])) (K5 : call i_ValidPlace [.agg (encPlace n.place)] = some (vB false, [])) :
    pfun funcs own call lp i_Node_ok [.agg (encNodeR n)] = some (vB false, []) :=
  guided_fun (cfg := cf) (bitl 37 104185428463) (nd (not_t rfl) (nd4 (not_t (eq_ft (not_t rfl))) (nd (not_t H6) (nd4 (eq_ff H6) (nd (not_t H5) (nd4 (eq_ff H5) (nd (not_t (not_f rfl)) (nd4 (eq_ff (not_f rfl)) (nd2 (not_t (not_f rfl)) (nd4 (eq_ff (not_f rfl)) (nd (not_t (not_f rfl)) (nd4 (eq_ff (not_f rfl)) rfl)))))))))))) eN (cC K5 (cC K4 (cC K3 (cC K2 (cC K1 cN))))) lN (by kernel_rfl)
theorem i_Node_ok.w8 (n : Node) (H5 : (n.pack.w != 0) = false) (H6 : (n.pack.h != 0) = false) (H8 : (n.cell.w != 0) = true) (K1 : call i_within [vI n.w, vI 0, vI 30] = some (vB true, [])) (K2 : call i_within [vI n.h, vI 0, vI 30] = some (vB true, [])) (K3 : call i_within [vI n.kind, vI 0, vI 2] = some (vB true, [])) (K4 : call i_ValidPack [.agg (encPack n.pack)] = some (vB true, [])) (K5 : call i_ValidPlace [.agg (encPlace n.place)] = some (vB true, [])) :
    pfun funcs own call lp i_Node_ok [.agg (encNodeR n)] = some (vB false, []) :=
  guided_fun (cfg := cf) (bitl 37 104118319599) (nd H8 (nd4 (not_t (eq_ft H8)) (nd (not_t (not_f rfl)) (nd4 (eq_ff (not_f rfl)) (nd (not_t H6) (nd4 (eq_ff H6) (nd (not_t H5) (nd4 (eq_ff H5) (nd (not_t (not_f rfl)) (nd4 (eq_ff (not_f rfl)) (nd2 (not_t (not_f rfl)) (nd4 (eq_ff (not_f rfl)) (nd (not_t (not_f rfl)) (nd4 (eq_ff (not_f rfl)) rfl)))))))))))))) eN (cC K5 (cC K4 (cC K3 (cC K2 (cC K1 cN))))) lN (by kernel_rfl)
theorem i_Node_ok.w9 (n : Node) (H5 : (n.pack.w != 0) = false) (H6 : (n.pack.h != 0) = false) (H8 : (n.cell.w != 0) = false) (H9 : (n.cell.h != 0) = true) (K1 : call i_within [vI n.w, vI 0, vI 30] = some (vB true, [])) (K2 : call i_within [vI n.h, vI 0, vI 30] = some (vB true, [])) (K3 : call i_within [vI n.kind, vI 0, vI 2] = some (vB true, [])) (K4 : call i_ValidPack [.agg (encPack n.pack)] = some (vB true, [])) (K5 : call i_ValidPlace [.agg (encPlace n.place)] = some (vB true, [])) :
    pfun funcs own call lp i_Node_ok [.agg (encNodeR n)] = some (vB false, []) :=
  guided_fun (cfg := cf) (bitl 37 101970835951) (nd H9 (nd (not_t H8) (nd4 (eq_ff H8) (nd (not_t (not_f rfl)) (nd4 (eq_ff (not_f rfl)) (nd (not_t H6) (nd4 (eq_ff H6) (nd (not_t H5) (nd4 (eq_ff H5) (nd (not_t (not_f rfl)) (nd4 (eq_ff (not_f rfl)) (nd2 (not_t (not_f rfl)) (nd4 (eq_ff (not_f rfl)) (nd (not_t (not_f rfl)) (nd4 (eq_ff (not_f rfl)) rfl))))))))))))))) eN (cC K5 (cC K4 (cC K3 (cC K2 (cC K1 cN))))) lN (by kernel_rfl)
theorem i_Node_ok.w10 (n : Node) (r7 : Bool) (H5 : (n.pack.w != 0) = false) (H6 : (n.pack.h != 0) = false) (H8 : (n.cell.w != 0) = false) (H9 : (n.cell.h != 0) = false) (H10 : (n.kind == 1) = true) (K1 : call i_within [vI n.w, vI 0, vI 30] = some (vB true, [])) (K2 : call i_within [vI n.h, vI 0, vI 30] = some (vB true, [])) (K3 : call i_within [vI n.kind, vI 0, vI 2] = some (vB true, [])) (K4 : call i_ValidPack [.agg (encPack n.pack)] = some (vB true, [])) (K5 : call i_ValidPlace [.agg (encPlace n.place)] = some (vB true, [])) (K6 : call i_linesOk [.one (.rsl (n.cols.map encLine))] = some (vB true, [])) (K7 : call i_linesOk [.one (.rsl (n.rows.map encLine))] = some (vB r7, [])) :
    pfun funcs own call lp i_Node_ok [.agg (encNodeR n)] = some (vB r7, []) :=
  guided_fun (cfg := cf) (bitl 42 4293858916847) (nd rfl (nd3 (eq_tt rfl) (nd H10 (nd (not_t H9) (nd (not_t H8) (nd4 (eq_ff H8) (nd (not_t (not_f rfl)) (nd4 (eq_ff (not_f rfl)) (nd (not_t H6) (nd4 (eq_ff H6) (nd (not_t H5) (nd4 (eq_ff H5) (nd (not_t (not_f rfl)) (nd4 (eq_ff (not_f rfl)) (nd2 (not_t (not_f rfl)) (nd4 (eq_ff (not_f rfl)) (nd (not_t (not_f rfl)) (nd4 (eq_ff (not_f rfl)) rfl)))))))))))))))))) eN (cC K7 (cC K6 (cC K5 (cC K4 (cC K3 (cC K2 (cC K1 cN))))))) lN (by kernel_rfl)
theorem i_Node_ok.w11 (n : Node) (H5 : (n.pack.w != 0) = false) (H6 : (n.pack.h != 0) = false) (H8 : (n.cell.w != 0) = false) (H9 : (n.cell.h != 0) = false) (H10 : (n.kind == 1) = false) (H11 : ((((n.cols.map encLine).length : Nat) : Int) == 0) = true) (K1 : call i_within [vI n.w, vI 0, vI 30] = some (vB true, [])) (K2 : call i_within [vI n.h, vI 0, vI 30] = some (vB true, [])) (K3 : call i_within [vI n.kind, vI 0, vI 2] = some (vB true, [])) (K4 : call i_ValidPack [.agg (encPack n.pack)] = some (vB true, [])) (K5 : call i_ValidPlace [.agg (encPlace n.place)] = some (vB true, [])) :
    pfun funcs own call lp i_Node_ok [.agg (encNodeR n)] = some (vB ((((n.rows.map encLine).length : Nat) : Int) == 0), []) :=
  guided_fun (cfg := cf) (bitl 43 8554466474479) (nd H11 (nd4 (eq_tt H11) (nd (not_t H10) (nd (not_t H9) (nd (not_t H8) (nd4 (eq_ff H8) (nd (not_t (not_f rfl)) (nd4 (eq_ff (not_f rfl)) (nd (not_t H6) (nd4 (eq_ff H6) (nd (not_t H5) (nd4 (eq_ff H5) (nd (not_t (not_f rfl)) (nd4 (eq_ff (not_f rfl)) (nd2 (not_t (not_f rfl)) (nd4 (eq_ff (not_f rfl)) (nd (not_t (not_f rfl)) (nd4 (eq_ff (not_f rfl)) rfl)))))))))))))))))) eN (cC K5 (cC K4 (cC K3 (cC K2 (cC K1 cN))))) lN (by kernel_rfl)
theorem i_Node_ok.w12 (n : Node) (H5 : (n.pack.w != 0) = false) (H6 : (n.pack.h != 0) = false) (H8 : (n.cell.w != 0) = false) (H9 : (n.cell.h != 0) = false) (H10 : (n.kind == 1) = false) (H11 : ((((n.cols.map encLine).length : Nat) : Int) == 0) = false) (K1 : call i_within [vI n.w, vI 0, vI 30] = some (vB true, [])) (K2 : call i_within [vI n.h, vI 0, vI 30] = some (vB true, [])) (K3 : call i_within [vI n.kind, vI 0, vI 2] = some (vB true, [])) (K4 : call i_ValidPack [.agg (encPack n.pack)] = some (vB true, [])) (K5 : call i_ValidPlace [.agg (encPlace n.place)] = some (vB true, [])) :
    pfun funcs own call lp i_Node_ok [.agg (encNodeR n)] = some (vB false, []) :=
  guided_fun (cfg := cf) (bitl 43 33251359215) (nd (not_t H11) (nd4 (not_t (eq_tf H11)) (nd (not_t H10) (nd (not_t H9) (nd (not_t H8) (nd4 (eq_ff H8) (nd (not_t (not_f rfl)) (nd4 (eq_ff (not_f rfl)) (nd (not_t H6) (nd4 (eq_ff H6) (nd (not_t H5) (nd4 (eq_ff H5) (nd (not_t (not_f rfl)) (nd4 (eq_ff (not_f rfl)) (nd2 (not_t (not_f rfl)) (nd4 (eq_ff (not_f rfl)) (nd (not_t (not_f rfl)) (nd4 (eq_ff (not_f rfl)) rfl)))))))))))))))))) eN (cC K5 (cC K4 (cC K3 (cC K2 (cC K1 cN))))) lN (by kernel_rfl)
theorem i_Node_ok.w13 (n : Node) (H5 : (n.pack.w != 0) = false) (H6 : (n.pack.h != 0) = false) (H8 : (n.cell.w != 0) = false) (H9 : (n.cell.h != 0) = false) (H10 : (n.kind == 1) = true) (K1 : call i_within [vI n.w, vI 0, vI 30] = some (vB true, [])) (K2 : call i_within [vI n.h, vI 0, vI 30] = some (vB true, [])) (K3 : call i_within [vI n.kind, vI 0, vI 2] = some (vB true, [])) (K4 : call i_ValidPack [.agg (encPack n.pack)] = some (vB true, [])) (K5 : call i_ValidPlace [.agg (encPlace n.place)] = some (vB true, [])) (K6 : call i_linesOk [.one (.rsl (n.cols.map encLine))] = some (vB false, [])) :
    pfun funcs own call lp i_Node_ok [.agg (encNodeR n)] = some (vB false, []) :=
  guided_fun (cfg := cf) (bitl 42 170690312687) (nd (not_t rfl) (nd3 (not_t (eq_tf rfl)) (nd H10 (nd (not_t H9) (nd (not_t H8) (nd4 (eq_ff H8) (nd (not_t (not_f rfl)) (nd4 (eq_ff (not_f rfl)) (nd (not_t H6) (nd4 (eq_ff H6) (nd (not_t H5) (nd4 (eq_ff H5) (nd (not_t (not_f rfl)) (nd4 (eq_ff (not_f rfl)) (nd2 (not_t (not_f rfl)) (nd4 (eq_ff (not_f rfl)) (nd (not_t (not_f rfl)) (nd4 (eq_ff (not_f rfl)) rfl)))))))))))))))))) eN (cC K6 (cC K5 (cC K4 (cC K3 (cC K2 (cC K1 cN)))))) lN (by kernel_rfl)
theorem i_Cell_lies.w1 (c : Cell) (cols rows : List Line) (cells : List Cell) (r5 : Bool) (K1 : call i_spanOk [vI c.col, vI c.manyCols, vI (((cols.map encLine).length : Nat) : Int)] = some (vB true, [])) (K2 : call i_spanOk [vI c.row, vI c.manyRows, vI (((rows.map encLine).length : Nat) : Int)] = some (vB true, [])) (K3 : call i_within [vI c.stick, vI 0, vI 15] = some (vB true, [])) (K4 : call i_within [vI c.padX, vI 0, vI 10] = some (vB true, [])) (K5 : call i_within [vI c.padY, vI 0, vI 10] = some (vB r5, [])) :
    pfun funcs own call lp i_Cell_lies [.agg (encCell c), .agg [.rsl (cols.map encLine), .rsl (rows.map encLine), .rsl (cells.map encCell)]] = some (vB r5, []) :=
  guided_fun (cfg := cf) (bitl 21 2097151) (nd rfl (nd3 (eq_tt rfl) (nd rfl (nd3 (eq_tt rfl) (nd rfl (nd3 (eq_tt rfl) (nd rfl (nd8 (eq_tt rfl) rfl)))))))) eN (cC K5 (cC K4 (cC K3 (cC K2 (cC K1 cN))))) lN (by kernel_rfl)
theorem i_Cell_lies.w2 (c : Cell) (cols rows : List Line) (cells : List Cell) (K1 : call i_spanOk [vI c.col, vI c.manyCols, vI (((cols.map encLine).length : Nat) : Int)] = some (vB false, [])) :
    pfun funcs own call lp i_Cell_lies [.agg (encCell c), .agg [.rsl (cols.map encLine), .rsl (rows.map encLine), .rsl (cells.map encCell)]] = some (vB false, []) :=
  guided_fun (cfg := cf) (bitl 21 0) (nd (not_t rfl) (nd8 (not_t (eq_tf rfl)) rfl)) eN (cC K1 cN) lN (by kernel_rfl)
theorem i_Cell_lies.w3 (c : Cell) (cols rows : List Line) (cells : List Cell) (K1 : call i_spanOk [vI c.col, vI c.manyCols, vI (((cols.map encLine).length : Nat) : Int)] = some (vB true, [])) (K2 : call i_spanOk [vI c.row, vI c.manyRows, vI (((rows.map encLine).length : Nat) : Int)] = some (vB false, [])) :
    pfun funcs own call lp i_Cell_lies [.agg (encCell c), .agg [.rsl (cols.map encLine), .rsl (rows.map encLine), .rsl (cells.map encCell)]] = some (vB false, []) :=
  guided_fun (cfg := cf) (bitl 21 511) (nd (not_t rfl) (nd3 (not_t (eq_tf rfl)) (nd rfl (nd8 (eq_tt rfl) rfl)))) eN (cC K2 (cC K1 cN)) lN (by kernel_rfl)
theorem i_Cell_lies.w4 (c : Cell) (cols rows : List Line) (cells : List Cell) (K1 : call i_spanOk [vI c.col, vI c.manyCols, vI (((cols.map encLine).length : Nat) : Int)] = some (vB true, [])) (K2 : call i_spanOk [vI c.row, vI c.manyRows, vI (((rows.map encLine).length : Nat) : Int)] = some (vB true, [])) (K3 : call i_within [vI c.stick, vI 0, vI 15] = some (vB false, [])) :
    pfun funcs own call lp i_Cell_lies [.agg (encCell c), .agg [.rsl (cols.map encLine), .rsl (rows.map encLine), .rsl (cells.map encCell)]] = some (vB false, []) :=
  guided_fun (cfg := cf) (bitl 21 8191) (nd (not_t rfl) (nd3 (not_t (eq_tf rfl)) (nd rfl (nd3 (eq_tt rfl) (nd rfl (nd8 (eq_tt rfl) rfl)))))) eN (cC K3 (cC K2 (cC K1 cN))) lN (by kernel_rfl)
theorem i_Cell_lies.w5 (c : Cell) (cols rows : List Line) (cells : List Cell) (K1 : call i_spanOk [vI c.col, vI c.manyCols, vI (((cols.map encLine).length : Nat) : Int)] = some (vB true, [])) (K2 : call i_spanOk [vI c.row, vI c.manyRows, vI (((rows.map encLine).length : Nat) : Int)] = some (vB true, [])) (K3 : call i_within [vI c.stick, vI 0, vI 15] = some (vB true, [])) (K4 : call i_within [vI c.padX, vI 0, vI 10] = some (vB false, [])) :
    pfun funcs own call lp i_Cell_lies [.agg (encCell c), .agg [.rsl (cols.map encLine), .rsl (rows.map encLine), .rsl (cells.map encCell)]] = some (vB false, []) :=
  guided_fun (cfg := cf) (bitl 21 131071) (nd (not_t rfl) (nd3 (not_t (eq_tf rfl)) (nd rfl (nd3 (eq_tt rfl) (nd rfl (nd3 (eq_tt rfl) (nd rfl (nd8 (eq_tt rfl) rfl)))))))) eN (cC K4 (cC K3 (cC K2 (cC K1 cN)))) lN (by kernel_rfl)
theorem i_packRequest.w1 (list : List Pack) (H1 : ((((list.map encPack).length : Nat) : Int) == 0) = true) :
    pfun funcs own call lp i_packRequest [.one (.rsl (list.map encPack))] = some (.tup [vI 0, vI 0], []) :=
  guided_fun (cfg := cf) [true] (nd H1 rfl) eN cN lN (by kernel_rfl)
theorem i_packRequest.w2 (list : List Pack) (e : Pack) (r r2 r3 r4 : Int) (H1 : ((((list.map encPack).length : Nat) : Int) == 0) = false) (H2 : decide (1 ≤ (list.map encPack).length) = true) (H3 : decide ((list.map encPack).length ≤ (list.map encPack).length) = true) (H4 : (uni 9 (list.map encPack)) = true) (E1 : (list.map encPack)[0]? = some (encPack e)) (K1 : call i_Pack_needs [.agg (encPack e)] = some (.tup [vI r, vI r2], [])) (K2 : call i_packRequest [.one (.rsl (cut 1 (((list.map encPack).length) - 1) (list.map encPack)))] = some (.tup [vI r3, vI r4], [])) (K3 : call i_Pack_down [.agg (encPack e)] = some (vB true, [])) :
    pfun funcs own call lp i_packRequest [.one (.rsl (list.map encPack))] = some (.tup [vI (mx2 r r3), vI (w64 (r2 + r4))], []) :=
  guided_fun (cfg := cf) [false, true] (nd rfl (nd (nd (nd H2 H3) H4) (nd (not_t H1) rfl))) (eC E1 (eC E1 eN)) (cC K3 (cC K2 (cC K1 cN))) lN (by kernel_rfl)
theorem i_packRequest.w3 (list : List Pack) (e : Pack) (r r2 r3 r4 : Int) (H1 : ((((list.map encPack).length : Nat) : Int) == 0) = false) (H2 : decide (1 ≤ (list.map encPack).length) = true) (H3 : decide ((list.map encPack).length ≤ (list.map encPack).length) = true) (H4 : (uni 9 (list.map encPack)) = true) (E1 : (list.map encPack)[0]? = some (encPack e)) (K1 : call i_Pack_needs [.agg (encPack e)] = some (.tup [vI r, vI r2], [])) (K2 : call i_packRequest [.one (.rsl (cut 1 (((list.map encPack).length) - 1) (list.map encPack)))] = some (.tup [vI r3, vI r4], [])) (K3 : call i_Pack_down [.agg (encPack e)] = some (vB false, [])) :
    pfun funcs own call lp i_packRequest [.one (.rsl (list.map encPack))] = some (.tup [vI (w64 (r + r3)), vI (mx2 r2 r4)], []) :=
  guided_fun (cfg := cf) [false, false] (nd (not_t rfl) (nd (nd (nd H2 H3) H4) (nd (not_t H1) rfl))) (eC E1 (eC E1 eN)) (cC K3 (cC K2 (cC K1 cN))) lN (by kernel_rfl)
def i_Tree_packs.s0 (outlen : Nat) (x9 : List (List C)) (x10 x11 : Int) (t out : List (List C)) : St := ⟨[(2, .one (.bptr 2 0)), (5, .one (.ref 5 outlen)), (9, .one (.rsl x9)), (10, vI x10), (11, vI x11)], [(2, .box false [.rsl t]), (5, .row false 0 out none)]⟩
def i_Tree_packs.e0_0 (outlen : Nat) (out : List (List C)) : St := ⟨[(5, .one (.ref 5 outlen))], [(5, .row false 0 out none)]⟩
abbrev i_Tree_packs.r0 (call : Call) (lp : Lp) := round call cf lp [2, 5, 9, 10, 11] [2, 5, 32, 1002] [4, 5] [4, 5, 32] b88_0
theorem i_Tree_packs.l0_1 (outlen : Nat) (x9 : List (List C)) (x10 x11 : Int) (t out : List (List C)) (e : Int) (e2 : Node) (r r2 : Int) (H1 : decide (x11 < x10) = true) (H2 : decide (0 ≤ x11) = true) (H3 : decide (0 ≤ e) = true) (H4 : decide (out.length = outlen) = true) (H5 : (uni 9 out) = true) (H6 : decide (out.length + 1 ≤ 2513169434916) = true) (E1 : x9[(x11).toNat]? = some [.int .i64 e]) (E2 : t[(e).toNat]? = some (encNode e2)) (K1 : call i_Tree_request [.agg [.rsl t], vI e] = some (.tup [vI r, vI r2], [])) :
    i_Tree_packs.r0 call lp (i_Tree_packs.s0 outlen x9 x10 x11 t out) = some (.normal, (i_Tree_packs.s0 ((out ++ [[C.int .i64 r, C.int .i64 r2, C.int .i64 e2.pack.side, C.bool e2.pack.fillX, C.bool e2.pack.fillY, C.bool e2.pack.expand, C.int .i64 e2.pack.anchor, C.int .i64 e2.pack.padX, C.int .i64 e2.pack.padY]]).length) x9 x10 (w64 (x11 + 1)) t (out ++ [[C.int .i64 r, C.int .i64 r2, C.int .i64 e2.pack.side, C.bool e2.pack.fillX, C.bool e2.pack.fillY, C.bool e2.pack.expand, C.int .i64 e2.pack.anchor, C.int .i64 e2.pack.padX, C.int .i64 e2.pack.padY]]))) :=
  guided_round [true] (nd (nd H5 H6) (nd H4 (nd H3 (nd H2 (nd H1 rfl))))) (eC E2 (eC E1 eN)) (cC K1 cN) lN (by kernel_rfl)
theorem i_Tree_packs.l0_2 (outlen : Nat) (x9 : List (List C)) (x10 x11 : Int) (t out : List (List C)) (H1 : decide (x11 < x10) = false) :
    i_Tree_packs.r0 call lp (i_Tree_packs.s0 outlen x9 x10 x11 t out) = some (.exit 0, (i_Tree_packs.e0_0 outlen out)) :=
  guided_round [false] (nd (not_t H1) rfl) eN cN lN (by kernel_rfl)
theorem i_Tree_packs.w1 (nodes : List Node) (kids : List Int) (outlen : Nat) (out : List (List C)) (H1 : decide (out.length = outlen) = true) (L1 : lp (i_Tree_packs.r0 call lp) (i_Tree_packs.s0 0 (kids.map encInt) (((kids.map encInt).length : Nat) : Int) 0 (nodes.map encNode) []) = some (.exit 0, (i_Tree_packs.e0_0 outlen out))) :
    pfun funcs own call lp i_Tree_packs [.agg [.rsl (nodes.map encNode)], .one (.rsl (kids.map encInt))] = some (.one (.sl out), []) :=
  guided_fun (cfg := cf) [] (nd (nd H1 rfl) rfl) eN cN (lC L1 lN) (by kernel_rfl)
def i_Tree_grid.s0 (x24 : List (List C)) (x25 x26 : Int) (t g g2 : List (List C)) (glen : Nat) (g3 : List (List C)) : St := ⟨[(3, .one (.bptr 3 0)), (6, .one (.bptr 6 0)), (7, .one (.bptr 7 0)), (24, .one (.rsl x24)), (25, vI x25), (26, vI x26)], [(3, .box false [.rsl t]), (6, .box false [.nil, .nil, .nil]), (7, .box false [.rsl g, .rsl g2, .ref 3007 glen]), (3007, .row false 0 g3 none)]⟩
def i_Tree_grid.e0_0 (t g g2 : List (List C)) (glen : Nat) (g3 : List (List C)) : St := ⟨[(6, .one (.bptr 6 0)), (7, .one (.bptr 7 0))], [(3, .box false [.rsl t]), (6, .box false [.nil, .nil, .nil]), (7, .box false [.rsl g, .rsl g2, .ref 3007 glen]), (3007, .row false 0 g3 none)]⟩
abbrev i_Tree_grid.r0 (call : Call) (lp : Lp) := round call cf lp [3, 6, 7, 24, 25, 26] [3, 6, 7, 48, 1003, 1006, 1007, 2006, 2007, 3006, 3007] [6, 7] [3, 6, 7, 48, 1003, 1006, 1007, 2006, 2007, 3006, 3007] b89_0
theorem i_Tree_grid.l0_1 (x24 : List (List C)) (x25 x26 : Int) (t g g2 : List (List C)) (glen : Nat) (g3 : List (List C)) (e : Int) (e2 : Node) (r r2 : Int) (H1 : decide (x26 < x25) = true) (H2 : decide (0 ≤ x26) = true) (H3 : decide (0 ≤ e) = true) (H4 : decide (g3.length = glen) = true) (H5 : (uni 9 g3) = true) (H6 : decide (g3.length + 1 ≤ 1954687338268) = true) (E1 : x24[(x26).toNat]? = some [.int .i64 e]) (E2 : t[(e).toNat]? = some (encNode e2)) (K1 : call i_Tree_request [.agg [.rsl t], vI e] = some (.tup [vI r, vI r2], [])) :
    i_Tree_grid.r0 call lp (i_Tree_grid.s0 x24 x25 x26 t g g2 glen g3) = some (.normal, (i_Tree_grid.s0 x24 x25 (w64 (x26 + 1)) t g g2 ((g3 ++ [[C.int .i64 e2.cell.col, C.int .i64 e2.cell.row, C.int .i64 e2.cell.manyCols, C.int .i64 e2.cell.manyRows, C.int .i64 r, C.int .i64 r2, C.int .i64 e2.cell.stick, C.int .i64 e2.cell.padX, C.int .i64 e2.cell.padY]]).length) (g3 ++ [[C.int .i64 e2.cell.col, C.int .i64 e2.cell.row, C.int .i64 e2.cell.manyCols, C.int .i64 e2.cell.manyRows, C.int .i64 r, C.int .i64 r2, C.int .i64 e2.cell.stick, C.int .i64 e2.cell.padX, C.int .i64 e2.cell.padY]]))) :=
  guided_round [true] (nd (nd H5 H6) (nd H4 (nd H3 (nd H2 (nd H1 rfl))))) (eC E2 (eC E1 eN)) (cC K1 cN) lN (by kernel_rfl)
theorem i_Tree_grid.l0_2 (x24 : List (List C)) (x25 x26 : Int) (t g g2 : List (List C)) (glen : Nat) (g3 : List (List C)) (H1 : decide (x26 < x25) = false) :
    i_Tree_grid.r0 call lp (i_Tree_grid.s0 x24 x25 x26 t g g2 glen g3) = some (.exit 0, (i_Tree_grid.e0_0 t g g2 glen g3)) :=
  guided_round [false] (nd (not_t H1) rfl) eN cN lN (by kernel_rfl)
theorem i_Tree_grid.w1 (nodes : List Node) (i : Int) (kids : List Int) (e : Node) (t g g2 : List (List C)) (glen : Nat) (g3 : List (List C)) (H1 : decide (0 ≤ i) = true) (H2 : decide (g3.length = glen) = true) (E1 : (nodes.map encNode)[(i).toNat]? = some (encNode e)) (L1 : lp (i_Tree_grid.r0 call lp) (i_Tree_grid.s0 (kids.map encInt) (((kids.map encInt).length : Nat) : Int) 0 (nodes.map encNode) (e.cols.map encLine) (e.rows.map encLine) 0 []) = some (.exit 0, (i_Tree_grid.e0_0 t g g2 glen g3))) :
    pfun funcs own call lp i_Tree_grid [.agg [.rsl (nodes.map encNode)], vI i, .one (.rsl (kids.map encInt))] = some (.agg [.rsl g, .rsl g2, .sl g3], []) :=
  guided_fun (cfg := cf) [] (nd (nd (nd H2 rfl) rfl) (nd2 H1 rfl)) (eC E1 (eC E1 eN)) cN (lC L1 lN) (by kernel_rfl)
theorem i_Grid_request.w1 (cols rows : List Line) (cells : List Cell) (r r2 : List Span) (r3 : List Int) (r4 : Int) (r5 : List Int) (r6 : Int) (K1 : call i_Grid_spans [.agg [.rsl (cols.map encLine), .rsl (rows.map encLine), .rsl (cells.map encCell)]] = some (.tup [.one (.sl (r.map encSpan)), .one (.sl (r2.map encSpan))], [])) (K2 : call i_lineRequests [.one (.rsl (cols.map encLine)), .one (.rsl (r.map encSpan))] = some (.one (.sl (r3.map encInt)), [])) (K3 : call i_sum [.one (.rsl (r3.map encInt))] = some (vI r4, [])) (K4 : call i_lineRequests [.one (.rsl (rows.map encLine)), .one (.rsl (r2.map encSpan))] = some (.one (.sl (r5.map encInt)), [])) (K5 : call i_sum [.one (.rsl (r5.map encInt))] = some (vI r6, [])) :
    pfun funcs own call lp i_Grid_request [.agg [.rsl (cols.map encLine), .rsl (rows.map encLine), .rsl (cells.map encCell)]] = some (.tup [vI r4, vI r6], []) :=
  guided_fun (cfg := cf) [] (nd (dr ((r5.map encInt).length)) (nd (dr ((r2.map encSpan).length)) (nd (dr ((r3.map encInt).length)) (nd (dr ((r.map encSpan).length)) rfl)))) eN (cC K5 (cC K4 (cC K3 (cC K2 (cC K1 cN))))) lN (by kernel_rfl)
def i_packRects.s0 (outlen : Nat) (x21 : List (List C)) (x22 x23 : Int) (r1018 : List (List C)) : St := ⟨[(7, .one (.ref 1018 outlen)), (21, .one (.rsl x21)), (22, vI x22), (23, vI x23)], [(1018, .row false 0 r1018 none)]⟩
def i_packRects.e0_0 (outlen : Nat) (r1018 : List (List C)) : St := ⟨[(7, .one (.ref 1018 outlen))], [(1018, .row false 0 r1018 none)]⟩
abbrev i_packRects.r0 (call : Call) (lp : Lp) := round call cf lp [7, 21, 22, 23] [1018] [6, 7] [6, 1018] b91_0
theorem i_packRects.l0_1 (outlen : Nat) (x21 : List (List C)) (x22 x23 : Int) (r1018 : List (List C)) (e : Pack) (e2 r r2 : Rect) (H1 : decide (x23 < x22) = true) (H2 : decide (0 ≤ x23) = true) (H3 : decide (r1018.length = outlen) = true) (H4 : decide (x23 < (outlen : Int)) = true) (H5 : decide (0 + outlen ≤ outlen) = true) (H6 : e.fillX = true) (H7 : e.fillY = true) (E1 : x21[(x23).toNat]? = some (encPack e)) (E2 : r1018[(x23).toNat]? = some (encRect e2)) (K1 : call i_Rect_inset [.agg (encRect e2), vI e.padX, vI e.padY] = some (.agg (encRect r), [])) (K2 : call i_Rect_anchored [.agg (encRect r), vI r.w, vI r.h, vI e.anchor] = some (.agg (encRect r2), [])) :
    i_packRects.r0 call lp (i_packRects.s0 outlen x21 x22 x23 r1018) = some (.normal, (i_packRects.s0 outlen x21 x22 (w64 (x23 + 1)) (r1018.set ((x23).toNat) (encRect r2)))) :=
  guided_round [true, true, true] (nd H3 (nd (nd H3 (nd H2 (nd H4 H5))) (nd H7 (nd H6 (nd H3 (nd (nd H3 (nd H2 (nd H4 H5))) (nd H2 (nd H1 rfl)))))))) (eC E2 (eC E2 (eC E2 (eC E2 (eC E1 eN))))) (cC K2 (cC K1 cN)) lN (by kernel_rfl)
theorem i_packRects.l0_2 (outlen : Nat) (x21 : List (List C)) (x22 x23 : Int) (r1018 : List (List C)) (H1 : decide (x23 < x22) = false) :
    i_packRects.r0 call lp (i_packRects.s0 outlen x21 x22 x23 r1018) = some (.exit 0, (i_packRects.e0_0 outlen r1018)) :=
  guided_round [false] (nd (not_t H1) rfl) eN cN lN (by kernel_rfl)
theorem i_packRects.l0_3 (outlen : Nat) (x21 : List (List C)) (x22 x23 : Int) (r1018 : List (List C)) (e : Pack) (e2 r r2 : Rect) (H1 : decide (x23 < x22) = true) (H2 : decide (0 ≤ x23) = true) (H3 : decide (r1018.length = outlen) = true) (H4 : decide (x23 < (outlen : Int)) = true) (H5 : decide (0 + outlen ≤ outlen) = true) (H6 : e.fillX = false) (H7 : e.fillY = true) (E1 : x21[(x23).toNat]? = some (encPack e)) (E2 : r1018[(x23).toNat]? = some (encRect e2)) (K1 : call i_Rect_inset [.agg (encRect e2), vI e.padX, vI e.padY] = some (.agg (encRect r), [])) (K2 : call i_Rect_anchored [.agg (encRect r), vI e.w, vI r.h, vI e.anchor] = some (.agg (encRect r2), [])) :
    i_packRects.r0 call lp (i_packRects.s0 outlen x21 x22 x23 r1018) = some (.normal, (i_packRects.s0 outlen x21 x22 (w64 (x23 + 1)) (r1018.set ((x23).toNat) (encRect r2)))) :=
  guided_round [true, false, true] (nd H3 (nd (nd H3 (nd H2 (nd H4 H5))) (nd H7 (nd (not_t H6) (nd H3 (nd (nd H3 (nd H2 (nd H4 H5))) (nd H2 (nd H1 rfl)))))))) (eC E2 (eC E2 (eC E2 (eC E2 (eC E1 eN))))) (cC K2 (cC K1 cN)) lN (by kernel_rfl)
theorem i_packRects.l0_4 (outlen : Nat) (x21 : List (List C)) (x22 x23 : Int) (r1018 : List (List C)) (e : Pack) (e2 r r2 : Rect) (H1 : decide (x23 < x22) = true) (H2 : decide (0 ≤ x23) = true) (H3 : decide (r1018.length = outlen) = true) (H4 : decide (x23 < (outlen : Int)) = true) (H5 : decide (0 + outlen ≤ outlen) = true) (H6 : e.fillX = false) (H7 : e.fillY = false) (E1 : x21[(x23).toNat]? = some (encPack e)) (E2 : r1018[(x23).toNat]? = some (encRect e2)) (K1 : call i_Rect_inset [.agg (encRect e2), vI e.padX, vI e.padY] = some (.agg (encRect r), [])) (K2 : call i_Rect_anchored [.agg (encRect r), vI e.w, vI e.h, vI e.anchor] = some (.agg (encRect r2), [])) :
    i_packRects.r0 call lp (i_packRects.s0 outlen x21 x22 x23 r1018) = some (.normal, (i_packRects.s0 outlen x21 x22 (w64 (x23 + 1)) (r1018.set ((x23).toNat) (encRect r2)))) :=
  guided_round [true, false, false] (nd H3 (nd (nd H3 (nd H2 (nd H4 H5))) (nd (not_t H7) (nd (not_t H6) (nd H3 (nd (nd H3 (nd H2 (nd H4 H5))) (nd H2 (nd H1 rfl)))))))) (eC E2 (eC E2 (eC E2 (eC E2 (eC E1 eN))))) (cC K2 (cC K1 cN)) lN (by kernel_rfl)
theorem i_packRects.l0_5 (outlen : Nat) (x21 : List (List C)) (x22 x23 : Int) (r1018 : List (List C)) (e : Pack) (e2 r r2 : Rect) (H1 : decide (x23 < x22) = true) (H2 : decide (0 ≤ x23) = true) (H3 : decide (r1018.length = outlen) = true) (H4 : decide (x23 < (outlen : Int)) = true) (H5 : decide (0 + outlen ≤ outlen) = true) (H6 : e.fillX = true) (H7 : e.fillY = false) (E1 : x21[(x23).toNat]? = some (encPack e)) (E2 : r1018[(x23).toNat]? = some (encRect e2)) (K1 : call i_Rect_inset [.agg (encRect e2), vI e.padX, vI e.padY] = some (.agg (encRect r), [])) (K2 : call i_Rect_anchored [.agg (encRect r), vI r.w, vI e.h, vI e.anchor] = some (.agg (encRect r2), [])) :
    i_packRects.r0 call lp (i_packRects.s0 outlen x21 x22 x23 r1018) = some (.normal, (i_packRects.s0 outlen x21 x22 (w64 (x23 + 1)) (r1018.set ((x23).toNat) (encRect r2)))) :=
  guided_round [true, true, false] (nd H3 (nd (nd H3 (nd H2 (nd H4 H5))) (nd (not_t H7) (nd H6 (nd H3 (nd (nd H3 (nd H2 (nd H4 H5))) (nd H2 (nd H1 rfl)))))))) (eC E2 (eC E2 (eC E2 (eC E2 (eC E1 eN))))) (cC K2 (cC K1 cN)) lN (by kernel_rfl)
theorem i_packRects.w1 (list : List Pack) (w h : Int) (r : List Rect) (r2 : Rect) (outlen : Nat) (r1018 : List (List C)) (H1 : decide (r1018.length = outlen) = true) (K1 : call i_parcels [.one (.rsl (list.map encPack)), vI w, vI h] = some (.tup [.one (.sl (r.map encRect)), .agg (encRect r2)], [])) (L1 : lp (i_packRects.r0 call lp) (i_packRects.s0 ((r.map encRect).length) (list.map encPack) (((list.map encPack).length : Nat) : Int) 0 (r.map encRect)) = some (.exit 0, (i_packRects.e0_0 outlen r1018))) :
    pfun funcs own call lp i_packRects [.one (.rsl (list.map encPack)), vI w, vI h] = some (.one (.sl r1018), []) :=
  guided_fun (cfg := cf) [] (nd (nd H1 rfl) rfl) eN (cC K1 cN) (lC L1 lN) (by kernel_rfl)
def i_Grid_rects.s0 (xslen yslen outlen : Nat) (x35 : List (List C)) (x36 x37 : Int) (g g2 g3 out r1028 r1033 : List (List C)) : St := ⟨[(9, .one (.ref 1028 xslen)), (10, .one (.ref 1033 yslen)), (11, .one (.ref 11 outlen)), (35, .one (.rsl x35)), (36, vI x36), (37, vI x37)], [(3, .box false [.rsl g, .rsl g2, .rsl g3]), (11, .row false 0 out none), (1028, .row false 0 r1028 none), (1033, .row false 0 r1033 none)]⟩
def i_Grid_rects.e0_0 (outlen : Nat) (out : List (List C)) : St := ⟨[(11, .one (.ref 11 outlen))], [(11, .row false 0 out none)]⟩
abbrev i_Grid_rects.r0 (call : Call) (lp : Lp) := round call cf lp [9, 10, 11, 35, 36, 37] [3, 11, 123, 1003, 1028, 1033, 2003, 3003] [6, 11] [6, 11, 123] b92_0
theorem i_Grid_rects.l0_1 (xslen yslen outlen : Nat) (x35 : List (List C)) (x36 x37 : Int) (g g2 g3 out r1028 r1033 : List (List C)) (e : Cell) (r r2 r3 r4 : Int) (r5 : Rect) (r6 r7 r8 r9 : Int) (H1 : decide (x37 < x36) = true) (H2 : decide (0 ≤ x37) = true) (H3 : decide (0 ≤ e.col) = true) (H4 : decide (0 ≤ (e.col).toNat) = true) (H5 : decide ((e.col).toNat ≤ xslen) = true) (H6 : decide (r1028.length = xslen) = true) (H7 : (uni 1 r1028) = true) (H8 : decide (0 + (((e.col).toNat) - 0) ≤ xslen) = true) (H9 : decide (0 ≤ e.row) = true) (H10 : decide (0 ≤ (e.row).toNat) = true) (H11 : decide ((e.row).toNat ≤ yslen) = true) (H12 : decide (r1033.length = yslen) = true) (H13 : (uni 1 r1033) = true) (H14 : decide (0 + (((e.row).toNat) - 0) ≤ yslen) = true) (H15 : decide (0 ≤ w64 (e.col + e.manyCols)) = true) (H16 : decide ((e.col).toNat ≤ (w64 (e.col + e.manyCols)).toNat) = true) (H17 : decide ((w64 (e.col + e.manyCols)).toNat ≤ xslen) = true) (H18 : decide (((e.col).toNat) + (((w64 (e.col + e.manyCols)).toNat) - ((e.col).toNat)) ≤ xslen) = true) (H19 : decide (0 ≤ w64 (e.row + e.manyRows)) = true) (H20 : decide ((e.row).toNat ≤ (w64 (e.row + e.manyRows)).toNat) = true) (H21 : decide ((w64 (e.row + e.manyRows)).toNat ≤ yslen) = true) (H22 : decide (((e.row).toNat) + (((w64 (e.row + e.manyRows)).toNat) - ((e.row).toNat)) ≤ yslen) = true) (H23 : decide (out.length = outlen) = true) (H24 : (uni 4 out) = true) (H25 : decide (out.length + 1 ≤ 4398046511104) = true) (E1 : x35[(x37).toNat]? = some (encCell e)) (K1 : call i_sum [.one (.rsl (cut 0 (((e.col).toNat) - 0) r1028))] = some (vI r, [])) (K2 : call i_sum [.one (.rsl (cut 0 (((e.row).toNat) - 0) r1033))] = some (vI r2, [])) (K3 : call i_sum [.one (.rsl (cut ((e.col).toNat) (((w64 (e.col + e.manyCols)).toNat) - ((e.col).toNat)) r1028))] = some (vI r3, [])) (K4 : call i_sum [.one (.rsl (cut ((e.row).toNat) (((w64 (e.row + e.manyRows)).toNat) - ((e.row).toNat)) r1033))] = some (vI r4, [])) (K5 : call i_Rect_inset [.agg [.int .i64 r, .int .i64 r2, .int .i64 r3, .int .i64 r4], vI e.padX, vI e.padY] = some (.agg (encRect r5), [])) (K6 : call i_stuck [vI r5.w, vI e.w, vB (and64 e.stick 1 != 0), vB (and64 e.stick 2 != 0)] = some (.tup [vI r6, vI r7], [])) (K7 : call i_stuck [vI r5.h, vI e.h, vB (and64 e.stick 4 != 0), vB (and64 e.stick 8 != 0)] = some (.tup [vI r8, vI r9], [])) :
    i_Grid_rects.r0 call lp (i_Grid_rects.s0 xslen yslen outlen x35 x36 x37 g g2 g3 out r1028 r1033) = some (.normal, (i_Grid_rects.s0 xslen yslen ((out ++ [[C.int .i64 (w64 (r5.x + r6)), C.int .i64 (w64 (r5.y + r8)), C.int .i64 r7, C.int .i64 r9]]).length) x35 x36 (w64 (x37 + 1)) g g2 g3 (out ++ [[C.int .i64 (w64 (r5.x + r6)), C.int .i64 (w64 (r5.y + r8)), C.int .i64 r7, C.int .i64 r9]]) r1028 r1033)) :=
  guided_round [true] (nd (nd H24 H25) (nd H23 (nd (nd H12 H22) (nd (nd H12 H13) (nd (nd H20 H21) (nd H9 (nd H19 (nd (nd H6 H18) (nd (nd H6 H7) (nd (nd H16 H17) (nd H3 (nd H15 (nd (nd H12 H14) (nd (nd H12 H13) (nd (nd H10 H11) (nd H9 (nd (nd H6 H8) (nd (nd H6 H7) (nd (nd H4 H5) (nd H3 (nd H2 (nd H1 rfl)))))))))))))))))))))) (eC E1 eN) (cC K7 (cC K6 (cC K5 (cC K4 (cC K3 (cC K2 (cC K1 cN))))))) lN (by kernel_rfl)
theorem i_Grid_rects.l0_2 (xslen yslen outlen : Nat) (x35 : List (List C)) (x36 x37 : Int) (g g2 g3 out r1028 r1033 : List (List C)) (H1 : decide (x37 < x36) = false) :
    i_Grid_rects.r0 call lp (i_Grid_rects.s0 xslen yslen outlen x35 x36 x37 g g2 g3 out r1028 r1033) = some (.exit 0, (i_Grid_rects.e0_0 outlen out)) :=
  guided_round [false] (nd (not_t H1) rfl) eN cN lN (by kernel_rfl)
theorem i_Grid_rects.w1 (cols rows : List Line) (cells : List Cell) (w h : Int) (r r2 : List Span) (r3 r4 : List Int) (outlen : Nat) (out : List (List C)) (H1 : decide (out.length = outlen) = true) (K1 : call i_Grid_spans [.agg [.rsl (cols.map encLine), .rsl (rows.map encLine), .rsl (cells.map encCell)]] = some (.tup [.one (.sl (r.map encSpan)), .one (.sl (r2.map encSpan))], [])) (K2 : call i_lineSizes [.one (.rsl (cols.map encLine)), .one (.rsl (r.map encSpan)), vI w] = some (.one (.sl (r3.map encInt)), [])) (K3 : call i_lineSizes [.one (.rsl (rows.map encLine)), .one (.rsl (r2.map encSpan)), vI h] = some (.one (.sl (r4.map encInt)), [])) (L1 : lp (i_Grid_rects.r0 call lp) (i_Grid_rects.s0 ((r3.map encInt).length) ((r4.map encInt).length) 0 (cells.map encCell) (((cells.map encCell).length : Nat) : Int) 0 (cols.map encLine) (rows.map encLine) (cells.map encCell) [] (r3.map encInt) (r4.map encInt)) = some (.exit 0, (i_Grid_rects.e0_0 outlen out))) :
    pfun funcs own call lp i_Grid_rects [.agg [.rsl (cols.map encLine), .rsl (rows.map encLine), .rsl (cells.map encCell)], vI w, vI h] = some (.one (.sl out), []) :=
  guided_fun (cfg := cf) [] (nd (nd H1 rfl) (nd (dr ((r2.map encSpan).length)) (nd (dr ((r.map encSpan).length)) rfl))) eN (cC K3 (cC K2 (cC K1 cN))) (lC L1 lN) (by kernel_rfl)
theorem i_Place_rect.w1 (p : Place) (w h r r2 : Int) (K1 : call i_part [vI (mx2 (w64 (p.w + (w64 (Int.tdiv (w64 (p.relW * w)) 1000)))) 0), vI (Int.tmod p.anchor 3)] = some (vI r, [])) (K2 : call i_part [vI (mx2 (w64 (p.h + (w64 (Int.tdiv (w64 (p.relH * h)) 1000)))) 0), vI (w64 (Int.tdiv p.anchor 3))] = some (vI r2, [])) :
    pfun funcs own call lp i_Place_rect [.agg (encPlace p), vI w, vI h] = some (.agg [.int .i64 (w64 ((w64 (p.x + (w64 (Int.tdiv (w64 (p.relX * w)) 1000)))) - r)), .int .i64 (w64 ((w64 (p.y + (w64 (Int.tdiv (w64 (p.relY * h)) 1000)))) - r2)), .int .i64 (mx2 (w64 (p.w + (w64 (Int.tdiv (w64 (p.relW * w)) 1000)))) 0), .int .i64 (mx2 (w64 (p.h + (w64 (Int.tdiv (w64 (p.relH * h)) 1000)))) 0)], []) :=
  guided_fun (cfg := cf) [] rfl eN (cC K2 (cC K1 cN)) lN (by kernel_rfl)
end Go.Proofs.Ytdgamfanffnhaaa.PI
