/- PI's code of the functions of this seat, printed by gen.py out of Lean's own print of the loaded program. Not trusted: the kernel checks it. -/
import Derived.Test.YtdgamfanffnhaaaPjCore
namespace Go.Proofs.Ytdgamfanffnhaaa.PI
set_option maxRecDepth 100000
def zInt : List C := [.int .i64 0]
def zTree : List C := [.nil]
def zRect : List C := [.int .i64 0, .int .i64 0, .int .i64 0, .int .i64 0]
def zPack : List C := [.int .i64 0, .int .i64 0, .int .i64 0, .bool false, .bool false, .bool false, .int .i64 0, .int .i64 0, .int .i64 0]
def zCell : List C := [.int .i64 0, .int .i64 0, .int .i64 0, .int .i64 0, .int .i64 0, .int .i64 0, .int .i64 0, .int .i64 0, .int .i64 0]
def zPlace : List C := [.int .i64 0, .int .i64 0, .int .i64 0, .int .i64 0, .int .i64 0, .int .i64 0, .int .i64 0, .int .i64 0, .int .i64 0]
def zNode : List C := [.int .i64 0, .int .i64 0, .int .i64 0, .bool false, .int .i64 0, .nil, .nil, .int .i64 0, .int .i64 0, .int .i64 0, .bool false, .bool false, .bool false, .int .i64 0, .int .i64 0, .int .i64 0, .int .i64 0, .int .i64 0, .int .i64 0, .int .i64 0, .int .i64 0, .int .i64 0, .int .i64 0, .int .i64 0, .int .i64 0, .int .i64 0, .int .i64 0, .int .i64 0, .int .i64 0, .int .i64 0, .int .i64 0, .int .i64 0, .int .i64 0, .int .i64 0]
def zGrid : List C := [.nil, .nil, .nil]
def zLine : List C := [.int .i64 0, .int .i64 0]
def zReader : List C := [.nil, .int .i64 0]
def zSpan : List C := [.int .i64 0, .int .i64 0, .int .i64 0]
abbrev l_FnExactAskFor : Nat := 3
abbrev l_FnExactTouchedBy : Nat := 4
abbrev l_FnLayoutTree : Nat := 5
abbrev l_FnLayoutTreePack : Nat := 6
abbrev l_FnNaturalLayout : Nat := 7
abbrev l_FnCutNodes : Nat := 8
abbrev l_FnOverlapsIn : Nat := 9
abbrev l_FnHitNode : Nat := 10
abbrev l_szTree : Nat := 11
abbrev s_AskFor : Nat := 12
abbrev l_toTree : Nat := 13
abbrev i_AskFor : Nat := 14
abbrev l_eqTree : Nat := 15
abbrev l_markTree : Nat := 16
abbrev l_heldTree : Nat := 17
abbrev s_TouchedBy : Nat := 18
abbrev i_TouchedBy : Nat := 19
abbrev l_eqIntS : Nat := 20
abbrev l_markIntS : Nat := 21
abbrev l_heldIntS : Nat := 22
abbrev s_DrawLayoutTree : Nat := 23
abbrev i_LayoutTree : Nat := 24
abbrev l_equalRects : Nat := 25
abbrev s_LayoutTree : Nat := 26
abbrev l_room : Nat := 27
abbrev l_within2 : Nat := 28
abbrev s_DrawNaturalLayout : Nat := 29
abbrev i_NaturalLayout : Nat := 30
abbrev s_NaturalLayout : Nat := 31
abbrev i_RequestOf : Nat := 32
abbrev s_DrawCutNodes : Nat := 33
abbrev i_CutNodes : Nat := 34
abbrev l_equalInts : Nat := 35
abbrev s_CutNodes : Nat := 36
abbrev l_ascends : Nat := 37
abbrev l_isIn : Nat := 38
abbrev s_DrawOverlapsIn : Nat := 39
abbrev i_OverlapsIn : Nat := 40
abbrev s_OverlapsIn : Nat := 41
abbrev s_DrawHitNode : Nat := 42
abbrev i_HitNode : Nat := 43
abbrev s_HitNode : Nat := 44
abbrev i_SeenPart : Nat := 45
abbrev l_szNodeS : Nat := 46
abbrev s_goodWish : Nat := 47
abbrev s_resized : Nat := 48
abbrev l_toNodeS : Nat := 49
abbrev i_ValidTree : Nat := 50
abbrev i_within : Nat := 51
abbrev i_Tree_asked : Nat := 52
abbrev l_eqNodeS : Nat := 53
abbrev l_markNodeS : Nat := 54
abbrev l_heldNodeS : Nat := 55
abbrev s_wantsOf : Nat := 56
abbrev i_Tree_request : Nat := 57
abbrev s_treeRoom : Nat := 58
abbrev s_newReader : Nat := 59
abbrev i_sizeOk : Nat := 60
abbrev i_Tree_layout : Nat := 61
abbrev s_validTree : Nat := 62
abbrev s_goodRoom : Nat := 63
abbrev s_layout : Nat := 64
abbrev s_someTree : Nat := 65
abbrev s_sizeOf : Nat := 66
abbrev s_seenNode : Nat := 67
abbrev i_Tree_kids : Nat := 68
abbrev i_Rect_meet : Nat := 69
abbrev s_goodNode : Nat := 70
abbrev s_kidsOf : Nat := 71
abbrev s_meet : Nat := 72
abbrev s_reader_one : Nat := 73
abbrev s_reader_pick : Nat := 74
abbrev i_Rect_has : Nat := 75
abbrev s_inRange : Nat := 76
abbrev s_hit : Nat := 77
abbrev i_Tree_seen : Nat := 78
abbrev l_szNode : Nat := 79
abbrev l_toNode : Nat := 80
abbrev i_Node_ok : Nat := 81
abbrev i_Cell_lies : Nat := 82
abbrev x_Clone_Line : Nat := 83
abbrev l_eqNode : Nat := 84
abbrev l_markLineS : Nat := 85
abbrev l_heldLineS : Nat := 86
abbrev i_packRequest : Nat := 87
abbrev i_Tree_packs : Nat := 88
abbrev i_Tree_grid : Nat := 89
abbrev i_Grid_request : Nat := 90
abbrev i_packRects : Nat := 91
abbrev i_Grid_rects : Nat := 92
abbrev i_Place_rect : Nat := 93
abbrev s_validNode : Nat := 94
abbrev s_laid : Nat := 95
abbrev s_goodTree : Nat := 96
abbrev s_request : Nat := 97
abbrev s_packsOf : Nat := 98
abbrev s_gridRequest : Nat := 99
abbrev s_gridOf : Nat := 100
abbrev s_hasPoint : Nat := 101
abbrev l_szLineS : Nat := 102
abbrev l_toLineS : Nat := 103
abbrev l_toPack : Nat := 104
abbrev l_toCell : Nat := 105
abbrev l_toPlace : Nat := 106
abbrev i_ValidPack : Nat := 107
abbrev i_ValidPlace : Nat := 108
abbrev i_linesOk : Nat := 109
abbrev i_spanOk : Nat := 110
abbrev l_eqLineS : Nat := 111
abbrev l_eqPack : Nat := 112
abbrev l_eqCell : Nat := 113
abbrev l_eqPlace : Nat := 114
abbrev i_Pack_needs : Nat := 115
abbrev i_Pack_down : Nat := 116
abbrev i_Grid_spans : Nat := 117
abbrev i_sum : Nat := 118
abbrev i_lineRequests : Nat := 119
abbrev i_parcels : Nat := 120
abbrev i_Rect_inset : Nat := 121
abbrev i_Rect_anchored : Nat := 122
abbrev i_lineSizes : Nat := 123
abbrev i_stuck : Nat := 124
abbrev i_part : Nat := 125
abbrev s_validPack : Nat := 126
abbrev s_validPlace : Nat := 127
abbrev s_validLines : Nat := 128
abbrev s_validCell : Nat := 129
abbrev s_packed : Nat := 130
abbrev s_gridded : Nat := 131
abbrev s_placed : Nat := 132
abbrev s_goodLines : Nat := 133
abbrev s_goodPack : Nat := 134
abbrev s_goodPlace : Nat := 135
abbrev s_goodCell : Nat := 136
abbrev s_outer : Nat := 137
abbrev s_upright : Nat := 138
abbrev s_total : Nat := 139
abbrev s_wished : Nat := 140
abbrev s_colSpans : Nat := 141
abbrev s_rowSpans : Nat := 142
abbrev l_toLine : Nat := 143
abbrev x_ContainsFunc_Line : Nat := 144
abbrev i_linesOk_1 : Nat := 145
abbrev l_eqLine : Nat := 146
abbrev i_spread : Nat := 147
abbrev i_weightsOf : Nat := 148
abbrev i_Pack_need : Nat := 149
abbrev i_expandShare : Nat := 150
abbrev i_Rect_cut : Nat := 151
abbrev s_validSide : Nat := 152
abbrev s_validAnchor : Nat := 153
abbrev s_validLine : Nat := 154
abbrev s_parcels : Nat := 155
abbrev s_settled : Nat := 156
abbrev s_sized : Nat := 157
abbrev s_inset : Nat := 158
abbrev s_stuck : Nat := 159
abbrev s_part : Nat := 160
abbrev s_spread : Nat := 161
abbrev s_weightsOf : Nat := 162
abbrev x_IndexFunc_Line : Nat := 163
abbrev s_share : Nat := 164
abbrev s_cut : Nat := 165
abbrev s_anchored : Nat := 166
abbrev s_shrunk : Nat := 167
abbrev s_half : Nat := 168
/-- loop.example/widgetroom/laws.FnExactAskFor -/
def pf3 : PFunc := ⟨4, [], false, false, [.tmp 8],
  (.seq (.region [o 4 (.box 0), o 8 (.mov bF)])
 (.seq (.region [o 9 (.mov (i 1048576))])
 (.seq (.region [o 20 (.load true 1 4), o 21 (.mov 9), o 22 (.call l_szTree [20, 21]), o 9 (.mov 22)])
 (.seq (.seq (.region [o 23 (.mov 9), o 24 (.bin 0 .lss 23 (i 0))])
 (.cond 24 (.seq (.region [o 8 (.mov bT)])
 .ret)
  .skip))
 (.seq (.region [o 26 (.load true 1 4), o 27 (.call l_toTree [26]), o 28 (.mov 1), o 29 (.mov 2), o 30 (.mov 3), o 31 (.call s_AskFor [27, 28, 29, 30]), o 25 (.mov 31),
 o 32 (.ext 25 0), o 33 (.ext 25 1), o 10 (.alloc zTree), u (.store 1 10 32), o 11 (.mov 33)])
 (.seq (.region [o 34 (.load true 1 4), o 35 (.call l_toTree [34]), o 12 (.alloc zTree), u (.store 1 12 35)])
 (.seq (.region [o 37 (.load true 1 12), o 38 (.mov 1), o 39 (.mov 2), o 40 (.mov 3), o 41 (.call i_AskFor [37, 38, 39, 40]), o 36 (.mov 41), o 42 (.ext 36 0),
 o 43 (.ext 36 1), o 13 (.alloc zTree), u (.store 1 13 42), o 14 (.mov 43)])
 (.seq (.seq (.region [o 44 (.load true 1 13), o 45 (.load true 1 10), o 46 (.call l_eqTree [44, 45]), o 47 (.not 46), o 48 (.mov 47), gd 49 48 false (.mov 14),
 gd 50 48 false (.mov 11), gd 51 48 false (.bin 1 .neq 49 50), o 52 (.pick 48 bT 51)])
 (.cond 52 (.seq (.region [o 8 (.mov bF)])
 .ret)
  .skip))
 (.seq (.seq (.dregion [(o 53 (.load true 1 12), []), (o 54 (.load true 1 4), []), (o 55 (.call l_toTree [54]), [1]), (o 56 (.call l_eqTree [53, 55]), [0, 1, 2]),
 (o 57 (.not 56), [0, 1, 2, 3])])
 (.cond 57 (.seq (.region [o 8 (.mov bF)])
 .ret)
  .skip))
 (.seq (.region [o 15 (.mov (i 1))])
 (.seq (.region [o 58 (.load true 1 12), o 59 (.mov 15), o 60 (.call l_markTree [58, 59]), o 15 (.mov 60)])
 (.seq (.seq (.region [o 61 (.mov 15), o 62 (.bin 0 .lss 61 (i 0)), o 63 (.mov 62), gd 64 63 false (.load true 1 13), gd 65 63 false (.load true 1 10),
 gd 66 63 false (.call l_eqTree [64, 65]), gd 67 63 false (.not 66), o 68 (.pick 63 bT 67), o 69 (.mov 68), gd 70 69 false (.mov 14),
 gd 71 69 false (.mov 11), gd 72 69 false (.bin 1 .neq 70 71), o 73 (.pick 69 bT 72)])
 (.cond 73 (.seq (.region [o 8 (.mov bF)])
 .ret)
  .skip))
 (.seq (.region [o 16 (.mov (i 1))])
 (.seq (.region [o 74 (.load true 1 13), o 75 (.mov 16), o 76 (.call l_markTree [74, 75]), o 16 (.mov 76)])
 (.seq (.region [o 17 (.mov (i 1))])
 (.seq (.region [o 77 (.load true 1 13), o 78 (.mov 17), o 79 (.call l_heldTree [77, 78]), o 17 (.mov 79)])
 (.seq (.seq (.region [o 80 (.mov 17), o 81 (.bin 0 .lss 80 (i 0))])
 (.cond 81 (.seq (.region [o 8 (.mov bF)])
 .ret)
  .skip))
 (.seq (.seq (.region [o 82 (.mov 17), o 83 (.mov 16), o 84 (.bin 0 .neq 82 83)])
 (.cond 84 (.seq (.region [o 8 (.mov bF)])
 .ret)
  .skip))
 (.seq (.region [o 86 (.load true 1 4), o 87 (.call l_toTree [86]), o 88 (.mov 1), o 89 (.mov 2), o 90 (.mov 3), o 91 (.call i_AskFor [87, 88, 89, 90]), o 85 (.mov 91),
 o 92 (.ext 85 0), o 93 (.ext 85 1), o 18 (.alloc zTree), u (.store 1 18 92), o 19 (.mov 93)])
 (.seq (.seq (.region [o 94 (.load true 1 18), o 95 (.load true 1 10), o 96 (.call l_eqTree [94, 95]), o 97 (.not 96), o 98 (.mov 97), gd 99 98 false (.mov 19),
 gd 100 98 false (.mov 11), gd 101 98 false (.bin 1 .neq 99 100), o 102 (.pick 98 bT 101)])
 (.cond 102 (.seq (.region [o 8 (.mov bF)])
 .ret)
  .skip))
 (.seq (.region [o 17 (.mov (i 1))])
 (.seq (.region [o 103 (.load true 1 13), o 104 (.mov 17), o 105 (.call l_heldTree [103, 104]), o 17 (.mov 105)])
 (.seq (.seq (.region [o 106 (.mov 17), o 107 (.bin 0 .lss 106 (i 0))])
 (.cond 107 (.seq (.region [o 8 (.mov bF)])
 .ret)
  .skip))
 (.seq (.seq (.region [o 108 (.mov 17), o 109 (.mov 16), o 110 (.bin 0 .neq 108 109)])
 (.cond 110 (.seq (.region [o 8 (.mov bF)])
 .ret)
  .skip))
 (.seq (.region [o 8 (.mov bT)])
 .ret)))))))))))))))))))))))))⟩
/-- loop.example/widgetroom/laws.FnExactTouchedBy -/
def pf4 : PFunc := ⟨4, [], false, false, [.tmp 8],
  (.seq (.region [o 4 (.box 0), o 8 (.mov bF)])
 (.seq (.region [o 9 (.mov (i 1048576))])
 (.seq (.region [o 17 (.load true 1 4), o 18 (.mov 9), o 19 (.call l_szTree [17, 18]), o 9 (.mov 19)])
 (.seq (.seq (.region [o 20 (.mov 9), o 21 (.bin 0 .lss 20 (i 0))])
 (.cond 21 (.seq (.region [o 8 (.mov bT)])
 .ret)
  .skip))
 (.seq (.region [o 22 (.load true 1 4), o 23 (.call l_toTree [22]), o 24 (.mov 1), o 25 (.mov 2), o 26 (.mov 3), o 27 (.call s_TouchedBy [23, 24, 25, 26]),
 o 10 (.mov 27)])
 (.seq (.region [o 28 (.load true 1 4), o 29 (.call l_toTree [28]), o 11 (.alloc zTree), u (.store 1 11 29)])
 (.seq (.region [o 30 (.load true 1 11), o 31 (.mov 1), o 32 (.mov 2), o 33 (.mov 3), o 34 (.call i_TouchedBy [30, 31, 32, 33]), o 12 (.mov 34)])
 (.seq (.seq (.region [o 35 (.mov 12), o 36 (.mov 10), o 37 (.call l_eqIntS [35, 36]), o 38 (.not 37)])
 (.cond 38 (.seq (.region [o 8 (.mov bF)])
 .ret)
  .skip))
 (.seq (.seq (.dregion [(o 39 (.load true 1 11), []), (o 40 (.load true 1 4), []), (o 41 (.call l_toTree [40]), [1]), (o 42 (.call l_eqTree [39, 41]), [0, 1, 2]),
 (o 43 (.not 42), [0, 1, 2, 3])])
 (.cond 43 (.seq (.region [o 8 (.mov bF)])
 .ret)
  .skip))
 (.seq (.region [o 13 (.mov (i 1))])
 (.seq (.region [o 44 (.load true 1 11), o 45 (.mov 13), o 46 (.call l_markTree [44, 45]), o 13 (.mov 46)])
 (.seq (.seq (.region [o 47 (.mov 13), o 48 (.bin 0 .lss 47 (i 0)), o 49 (.mov 48), gd 50 49 false (.mov 12), gd 51 49 false (.mov 10),
 gd 52 49 false (.call l_eqIntS [50, 51]), gd 53 49 false (.not 52), o 54 (.pick 49 bT 53)])
 (.cond 54 (.seq (.region [o 8 (.mov bF)])
 .ret)
  .skip))
 (.seq (.region [o 14 (.mov (i 1))])
 (.seq (.region [o 55 (.mov 12), o 56 (.mov 14), o 57 (.call l_markIntS [55, 56]), o 14 (.mov 57)])
 (.seq (.region [o 15 (.mov (i 1))])
 (.seq (.region [o 58 (.mov 12), o 59 (.mov 15), o 60 (.call l_heldIntS [58, 59]), o 15 (.mov 60)])
 (.seq (.seq (.region [o 61 (.mov 15), o 62 (.bin 0 .lss 61 (i 0))])
 (.cond 62 (.seq (.region [o 8 (.mov bF)])
 .ret)
  .skip))
 (.seq (.seq (.region [o 63 (.mov 15), o 64 (.mov 14), o 65 (.bin 0 .neq 63 64)])
 (.cond 65 (.seq (.region [o 8 (.mov bF)])
 .ret)
  .skip))
 (.seq (.region [o 66 (.load true 1 4), o 67 (.call l_toTree [66]), o 68 (.mov 1), o 69 (.mov 2), o 70 (.mov 3), o 71 (.call i_TouchedBy [67, 68, 69, 70]),
 o 16 (.mov 71)])
 (.seq (.seq (.region [o 72 (.mov 16), o 73 (.mov 10), o 74 (.call l_eqIntS [72, 73]), o 75 (.not 74)])
 (.cond 75 (.seq (.region [o 8 (.mov bF)])
 .ret)
  .skip))
 (.seq (.region [o 15 (.mov (i 1))])
 (.seq (.region [o 76 (.mov 12), o 77 (.mov 15), o 78 (.call l_heldIntS [76, 77]), o 15 (.mov 78)])
 (.seq (.seq (.region [o 79 (.mov 15), o 80 (.bin 0 .lss 79 (i 0))])
 (.cond 80 (.seq (.region [o 8 (.mov bF)])
 .ret)
  .skip))
 (.seq (.seq (.region [o 81 (.mov 15), o 82 (.mov 14), o 83 (.bin 0 .neq 81 82)])
 (.cond 83 (.seq (.region [o 8 (.mov bF)])
 .ret)
  .skip))
 (.seq (.region [o 8 (.mov bT)])
 .ret)))))))))))))))))))))))))⟩
def b5_0 : PCode :=
  (.seq (.seq (.region [o 39 (.mov 7), o 40 (.mov 6), o 41 (.len false 40), o 42 (.bin 0 .lss 39 41)])
 (.cond 42 .skip
  (.exit 0)))
 (.seq (.block 1 (.seq (.region [o 45 (.mov 6), o 46 (.mov 7), o 47 (.idx 4 45 46), o 48 (.fld 2 47), o 49 (.load false 1 48), o 50 (.bin 0 .lss 49 (i 0)), o 51 (.mov 50),
 gd 52 51 false (.mov 6), gd 53 51 false (.mov 7), gd 54 51 false (.idx 4 52 53), gd 55 51 false (.fld 3 54), gd 56 51 false (.load false 1 55),
 gd 57 51 false (.bin 0 .lss 56 (i 0)), o 58 (.pick 51 bT 57)])
 (.cond 58 (.seq (.region [o 2 (.mov bF)])
 .ret)
  .skip)))
 (.region [o 43 (.mov 7), o 44 (.bin 0 .add 43 (i 1)), o 7 (.mov 44)])))
/-- loop.example/widgetroom/laws.FnLayoutTree -/
def pf5 : PFunc := ⟨1, [], false, false, [.tmp 2],
  (.seq (.region [o 2 (.mov bF)])
 (.seq (.seq (.region [o 8 (.mov 0), o 9 (.len false 8), o 10 (.bin 0 .gtr 9 (i 1048576))])
 (.cond 10 (.seq (.region [o 2 (.mov bT)])
 .ret)
  .skip))
 (.seq (.region [o 12 (.mov 0), o 13 (.call s_DrawLayoutTree [12]), o 11 (.mov 13), o 14 (.ext 11 0), o 15 (.ext 11 1), o 16 (.ext 11 2), o 3 (.alloc zTree),
 u (.store 1 3 14), o 4 (.mov 15), o 5 (.mov 16)])
 (.seq (.region [o 17 (.load true 1 3), o 18 (.mov 4), o 19 (.mov 5), o 20 (.call i_LayoutTree [17, 18, 19]), o 6 (.mov 20)])
 (.seq (.seq (.region [o 21 (.mov 6), o 22 (.load true 1 3), o 23 (.mov 4), o 24 (.mov 5), o 25 (.call s_LayoutTree [22, 23, 24]), o 26 (.call l_equalRects [21, 25]),
 o 27 (.not 26), o 28 (.mov 27), gd 29 28 false (.mov 6), gd 30 28 false (.len false 29), gd 31 28 false (.bin 0 .eql 30 (i 0)), o 32 (.pick 28 bT 31)])
 (.cond 32 (.seq (.region [o 33 (.mov 6), o 34 (.load true 1 3), o 35 (.mov 4), o 36 (.mov 5), o 37 (.call s_LayoutTree [34, 35, 36]), o 38 (.call l_equalRects [33, 37]),
 o 2 (.mov 38)])
 .ret)
  .skip))
 (.seq (.seq (.region [o 7 (.mov (i 0))])
 (.block 0 (.loop [3, 4, 5, 6, 7] [3, 1003, 1013, 1020] [2, 3, 4, 5, 6] [3, 1003, 1013, 1020] b5_0)))
 (.seq (.dregion [(o 59 (.mov 6), []), (o 60 (.idx 4 59 (i 0)), [0]), (o 61 (.load true 4 60), [0, 1]), (o 62 (.mov 4), []), (o 63 (.mov 5), []),
 (o 64 (.call l_room [62, 63]), [3, 4]), (o 65 (.eqa false 4 61 64), [0, 1, 2, 3, 4, 5]), (o 66 (.mov 65), [0, 1, 2, 3, 4, 5, 6]),
 (gd 67 66 true (.mov 6), [0, 1, 2, 3, 4, 5, 6, 7]), (gd 68 66 true (.len false 67), [0, 1, 2, 3, 4, 5, 6, 7, 8]),
 (gd 69 66 true (.fld 0 3), [0, 1, 2, 3, 4, 5, 6, 7]), (gd 70 66 true (.load false 1 69), [0, 1, 2, 3, 4, 5, 6, 7, 10]),
 (gd 71 66 true (.len false 70), [0, 1, 2, 3, 4, 5, 6, 7, 10, 11]), (gd 72 66 true (.bin 0 .eql 68 71), [0, 1, 2, 3, 4, 5, 6, 7, 8, 9, 10, 11, 12]),
 (o 73 (.pick 66 72 bF), [0, 1, 2, 3, 4, 5, 6, 7, 8, 9, 10, 11, 12, 13]), (o 2 (.mov 73), [0, 1, 2, 3, 4, 5, 6, 7, 8, 9, 10, 11, 12, 13, 14])])
 .ret)))))))⟩
def b6_0 : PCode :=
  (.seq (.seq (.region [o 40 (.mov 7), o 41 (.mov 6), o 42 (.len false 41), o 43 (.bin 0 .lss 40 42)])
 (.cond 43 .skip
  (.exit 0)))
 (.seq (.block 1 (.seq (.region [o 46 (.fld 0 3), o 47 (.load false 1 46), o 48 (.mov 7), o 49 (.idx 34 47 48), o 50 (.fld 0 49), o 51 (.load false 1 50), o 8 (.mov 51)])
 (.seq (.dregion [(o 52 (.fld 0 3), []), (o 53 (.load false 1 52), [0]), (o 54 (.mov 8), []), (o 55 (.idx 34 53 54), [0, 1, 2]), (o 56 (.fld 4 55), [0, 1, 2, 3]),
 (o 57 (.load false 1 56), [0, 1, 2, 3, 4]), (o 58 (.bin 0 .eql 57 (i 0)), [0, 1, 2, 3, 4, 5]), (o 59 (.mov 58), [0, 1, 2, 3, 4, 5, 6]),
 (gd 60 59 true (.mov 6), [0, 1, 2, 3, 4, 5, 6, 7]), (gd 61 59 true (.mov 8), [0, 1, 2, 3, 4, 5, 6, 7]),
 (gd 62 59 true (.idx 4 60 61), [0, 1, 2, 3, 4, 5, 6, 7, 8, 9]), (gd 63 59 true (.load true 4 62), [0, 1, 2, 3, 4, 5, 6, 7, 8, 9, 10]),
 (gd 64 59 true (.mov 6), [0, 1, 2, 3, 4, 5, 6, 7]), (gd 65 59 true (.mov 7), [0, 1, 2, 3, 4, 5, 6, 7]),
 (gd 66 59 true (.idx 4 64 65), [0, 1, 2, 3, 4, 5, 6, 7, 12, 13]), (gd 67 59 true (.load true 4 66), [0, 1, 2, 3, 4, 5, 6, 7, 12, 13, 14]),
 (gd 68 59 true (.call l_within2 [63, 67]), [0, 1, 2, 3, 4, 5, 6, 7, 8, 9, 10, 11, 12, 13, 14, 15]),
 (gd 69 59 true (.not 68), [0, 1, 2, 3, 4, 5, 6, 7, 8, 9, 10, 11, 12, 13, 14, 15, 16]),
 (o 70 (.pick 59 69 bF), [0, 1, 2, 3, 4, 5, 6, 7, 8, 9, 10, 11, 12, 13, 14, 15, 16, 17])])
 (.cond 70 (.seq (.region [o 2 (.mov bF)])
 .ret)
  .skip))))
 (.region [o 44 (.mov 7), o 45 (.bin 0 .add 44 (i 1)), o 7 (.mov 45)])))
/-- loop.example/widgetroom/laws.FnLayoutTreePack -/
def pf6 : PFunc := ⟨1, [], false, false, [.tmp 2],
  (.seq (.region [o 2 (.mov bF)])
 (.seq (.seq (.region [o 9 (.mov 0), o 10 (.len false 9), o 11 (.bin 0 .gtr 10 (i 1048576))])
 (.cond 11 (.seq (.region [o 2 (.mov bT)])
 .ret)
  .skip))
 (.seq (.region [o 13 (.mov 0), o 14 (.call s_DrawLayoutTree [13]), o 12 (.mov 14), o 15 (.ext 12 0), o 16 (.ext 12 1), o 17 (.ext 12 2), o 3 (.alloc zTree),
 u (.store 1 3 15), o 4 (.mov 16), o 5 (.mov 17)])
 (.seq (.region [o 18 (.load true 1 3), o 19 (.mov 4), o 20 (.mov 5), o 21 (.call i_LayoutTree [18, 19, 20]), o 6 (.mov 21)])
 (.seq (.seq (.region [o 22 (.mov 6), o 23 (.load true 1 3), o 24 (.mov 4), o 25 (.mov 5), o 26 (.call s_LayoutTree [23, 24, 25]), o 27 (.call l_equalRects [22, 26]),
 o 28 (.not 27), o 29 (.mov 28), gd 30 29 false (.mov 6), gd 31 29 false (.len false 30), gd 32 29 false (.bin 0 .eql 31 (i 0)), o 33 (.pick 29 bT 32)])
 (.cond 33 (.seq (.region [o 34 (.mov 6), o 35 (.load true 1 3), o 36 (.mov 4), o 37 (.mov 5), o 38 (.call s_LayoutTree [35, 36, 37]), o 39 (.call l_equalRects [34, 38]),
 o 2 (.mov 39)])
 .ret)
  .skip))
 (.seq (.seq (.region [o 7 (.mov (i 1))])
 (.block 0 (.loop [3, 6, 7] [3, 1003, 1014, 1021] [2] [] b6_0)))
 (.seq (.region [o 2 (.mov bT)])
 .ret)))))))⟩
def b7_0 : PCode :=
  (.seq (.seq (.region [o 36 (.mov 7), o 37 (.mov 4), o 38 (.len false 37), o 39 (.bin 0 .lss 36 38)])
 (.cond 39 .skip
  (.exit 0)))
 (.seq (.block 1 (.seq (.region [o 43 (.load true 1 3), o 44 (.mov 7), o 45 (.call i_RequestOf [43, 44]), o 42 (.mov 45), o 46 (.ext 42 0), o 47 (.ext 42 1), o 8 (.mov 46),
 o 9 (.mov 47)])
 (.seq (.region [o 48 (.fld 0 3), o 49 (.load false 1 48), o 50 (.mov 7), o 51 (.idx 34 49 50), o 52 (.fld 0 51), o 53 (.load false 1 52), o 54 (.bin 0 .eql 53 (i 0)),
 o 55 (.mov 54), gd 56 55 true (.fld 0 3), gd 57 55 true (.load false 1 56), gd 58 55 true (.idx 34 57 (i 0)), gd 59 55 true (.fld 3 58),
 gd 60 55 true (.load false 1 59), gd 61 55 true (.not 60), o 62 (.pick 55 61 bF), o 63 (.mov 62), gd 64 63 true (.fld 0 3),
 gd 65 63 true (.load false 1 64), gd 66 63 true (.idx 34 65 (i 0)), gd 67 63 true (.fld 4 66), gd 68 63 true (.load false 1 67),
 gd 69 63 true (.bin 0 .neq 68 (i 2)), o 70 (.pick 63 69 bF), o 71 (.mov 70), gd 72 71 true (.mov 4), gd 73 71 true (.mov 7),
 gd 74 71 true (.idx 4 72 73), gd 75 71 true (.fld 2 74), gd 76 71 true (.load false 1 75), gd 77 71 true (.mov 8), gd 78 71 true (.bin 0 .lss 76 77),
 gd 79 71 true (.mov 78), gd 80 79 false (.mov 4), gd 81 79 false (.mov 7), gd 82 79 false (.idx 4 80 81), gd 83 79 false (.fld 3 82),
 gd 84 79 false (.load false 1 83), gd 85 79 false (.mov 9), gd 86 79 false (.bin 0 .lss 84 85), gd 87 71 true (.pick 79 bT 86), o 88 (.pick 71 87 bF)])
 (.cond 88 (.seq (.region [o 2 (.mov bF)])
 .ret)
  .skip))))
 (.region [o 40 (.mov 7), o 41 (.bin 0 .add 40 (i 1)), o 7 (.mov 41)])))
/-- loop.example/widgetroom/laws.FnNaturalLayout -/
def pf7 : PFunc := ⟨1, [], false, false, [.tmp 2],
  (.seq (.region [o 2 (.mov bF)])
 (.seq (.seq (.region [o 10 (.mov 0), o 11 (.len false 10), o 12 (.bin 0 .gtr 11 (i 1048576))])
 (.cond 12 (.seq (.region [o 2 (.mov bT)])
 .ret)
  .skip))
 (.seq (.region [o 13 (.mov 0), o 14 (.call s_DrawNaturalLayout [13]), o 3 (.alloc zTree), u (.store 1 3 14)])
 (.seq (.region [o 15 (.load true 1 3), o 16 (.call i_NaturalLayout [15]), o 4 (.mov 16)])
 (.seq (.seq (.region [o 17 (.mov 4), o 18 (.load true 1 3), o 19 (.call s_NaturalLayout [18]), o 20 (.call l_equalRects [17, 19]), o 21 (.not 20), o 22 (.mov 21),
 gd 23 22 false (.mov 4), gd 24 22 false (.len false 23), gd 25 22 false (.bin 0 .eql 24 (i 0)), o 26 (.pick 22 bT 25)])
 (.cond 26 (.seq (.region [o 27 (.mov 4), o 28 (.load true 1 3), o 29 (.call s_NaturalLayout [28]), o 30 (.call l_equalRects [27, 29]), o 2 (.mov 30)])
 .ret)
  .skip))
 (.seq (.region [o 32 (.load true 1 3), o 33 (.call i_RequestOf [32, i 0]), o 31 (.mov 33), o 34 (.ext 31 0), o 35 (.ext 31 1), o 5 (.mov 34), o 6 (.mov 35)])
 (.seq (.seq (.region [o 7 (.mov (i 1))])
 (.block 0 (.loop [3, 4, 5, 6, 7] [3, 1003, 1014, 1016] [2, 3, 4, 5, 6] [3, 1003, 1014, 1016] b7_0)))
 (.seq (.dregion [(o 89 (.mov 4), []), (o 90 (.idx 4 89 (i 0)), [0]), (o 91 (.load true 4 90), [0, 1]), (o 92 (.mov 5), []), (o 93 (.mov 6), []),
 (o 94 (.call l_room [92, 93]), [3, 4]), (o 95 (.eqa false 4 91 94), [0, 1, 2, 3, 4, 5]), (o 96 (.mov 95), [0, 1, 2, 3, 4, 5, 6]),
 (gd 97 96 true (.load true 1 3), [0, 1, 2, 3, 4, 5, 6, 7]), (gd 98 96 true (.mov 5), [0, 1, 2, 3, 4, 5, 6, 7]),
 (gd 99 96 true (.mov 6), [0, 1, 2, 3, 4, 5, 6, 7]), (gd 100 96 true (.call i_LayoutTree [97, 98, 99]), [0, 1, 2, 3, 4, 5, 6, 7, 8, 9, 10]),
 (gd 101 96 true (.mov 4), [0, 1, 2, 3, 4, 5, 6, 7]), (gd 102 96 true (.call l_equalRects [100, 101]), [0, 1, 2, 3, 4, 5, 6, 7, 8, 9, 10, 11, 12]),
 (o 103 (.pick 96 102 bF), [0, 1, 2, 3, 4, 5, 6, 7, 8, 9, 10, 11, 12, 13]), (o 2 (.mov 103), [0, 1, 2, 3, 4, 5, 6, 7, 8, 9, 10, 11, 12, 13, 14])])
 .ret))))))))⟩
def b8_0 : PCode :=
  (.seq (.seq (.region [o 50 (.mov 9), o 51 (.mov 6), o 52 (.len false 51), o 53 (.bin 0 .lss 50 52)])
 (.cond 53 .skip
  (.exit 0)))
 (.seq (.block 1 (.seq (.dregion [(o 56 (.fld 0 3), []), (o 57 (.load false 1 56), [0]), (o 58 (.mov 6), []), (o 59 (.mov 9), []), (o 60 (.idx 1 58 59), [2, 3]),
 (o 61 (.load false 1 60), [2, 3, 4]), (o 62 (.idx 34 57 61), [0, 1, 2, 3, 4, 5]), (o 63 (.fld 0 62), [0, 1, 2, 3, 4, 5, 6]),
 (o 64 (.load false 1 63), [0, 1, 2, 3, 4, 5, 6, 7]), (o 10 (.mov 64), [0, 1, 2, 3, 4, 5, 6, 7, 8])])
 (.seq (.region [o 65 (.mov 10), o 66 (.bin 0 .eql 65 (i 0)), o 67 (.mov 66), gd 68 67 true (.fld 0 3), gd 69 67 true (.load false 1 68),
 gd 70 67 true (.idx 34 69 (i 0)), gd 71 67 true (.fld 3 70), gd 72 67 true (.load false 1 71), gd 73 67 true (.not 72), o 74 (.pick 67 73 bF),
 o 75 (.mov 74), gd 76 75 true (.fld 0 3), gd 77 75 true (.load false 1 76), gd 78 75 true (.idx 34 77 (i 0)), gd 79 75 true (.fld 4 78),
 gd 80 75 true (.load false 1 79), gd 81 75 true (.bin 0 .neq 80 (i 2)), o 82 (.pick 75 81 bF), o 83 (.mov 82), gd 84 83 true (.mov 4),
 gd 85 83 true (.mov 7), gd 86 83 true (.bin 0 .geq 84 85), o 87 (.pick 83 86 bF), o 88 (.mov 87), gd 89 88 true (.mov 5), gd 90 88 true (.mov 8),
 gd 91 88 true (.bin 0 .geq 89 90), o 92 (.pick 88 91 bF)])
 (.cond 92 (.seq (.region [o 2 (.mov bF)])
 .ret)
  .skip))))
 (.region [o 54 (.mov 9), o 55 (.bin 0 .add 54 (i 1)), o 9 (.mov 55)])))
/-- loop.example/widgetroom/laws.FnCutNodes -/
def pf8 : PFunc := ⟨1, [], false, false, [.tmp 2],
  (.seq (.region [o 2 (.mov bF)])
 (.seq (.seq (.region [o 11 (.mov 0), o 12 (.len false 11), o 13 (.bin 0 .gtr 12 (i 1048576))])
 (.cond 13 (.seq (.region [o 2 (.mov bT)])
 .ret)
  .skip))
 (.seq (.region [o 15 (.mov 0), o 16 (.call s_DrawCutNodes [15]), o 14 (.mov 16), o 17 (.ext 14 0), o 18 (.ext 14 1), o 19 (.ext 14 2), o 3 (.alloc zTree),
 u (.store 1 3 17), o 4 (.mov 18), o 5 (.mov 19)])
 (.seq (.region [o 20 (.load true 1 3), o 21 (.mov 4), o 22 (.mov 5), o 23 (.call i_CutNodes [20, 21, 22]), o 6 (.mov 23)])
 (.seq (.seq (.region [o 24 (.mov 6), o 25 (.load true 1 3), o 26 (.mov 4), o 27 (.mov 5), o 28 (.call s_CutNodes [25, 26, 27]), o 29 (.call l_equalInts [24, 28]),
 o 30 (.not 29), o 31 (.mov 30), gd 32 31 false (.load true 1 3), gd 33 31 false (.mov 4), gd 34 31 false (.mov 5),
 gd 35 31 false (.call i_LayoutTree [32, 33, 34]), gd 36 31 false (.len false 35), gd 37 31 false (.bin 0 .eql 36 (i 0)), o 38 (.pick 31 bT 37)])
 (.cond 38 (.seq (.region [o 39 (.mov 6), o 40 (.load true 1 3), o 41 (.mov 4), o 42 (.mov 5), o 43 (.call s_CutNodes [40, 41, 42]), o 44 (.call l_equalInts [39, 43]),
 o 2 (.mov 44)])
 .ret)
  .skip))
 (.seq (.region [o 46 (.load true 1 3), o 47 (.call i_RequestOf [46, i 0]), o 45 (.mov 47), o 48 (.ext 45 0), o 49 (.ext 45 1), o 7 (.mov 48), o 8 (.mov 49)])
 (.seq (.seq (.region [o 9 (.mov (i 0))])
 (.block 0 (.loop [3, 4, 5, 6, 7, 8, 9] [3, 1003, 1016, 1023] [2, 6] [1023] b8_0)))
 (.seq (.region [o 93 (.mov 6), o 94 (.call l_ascends [93]), o 95 (.mov 94), gd 96 95 true (.mov 6), gd 97 95 true (.call l_isIn [96, i 0]), gd 98 95 true (.not 97),
 o 99 (.pick 95 98 bF), o 2 (.mov 99)])
 .ret))))))))⟩
def b9_0 : PCode :=
  (.seq (.seq (.region [o 44 (.mov 8), o 45 (.bin 0 .add 44 (i 1)), o 46 (.mov 7), o 47 (.len false 46), o 48 (.bin 0 .lss 45 47)])
 (.cond 48 .skip
  (.exit 0)))
 (.seq (.block 1 (.seq (.dregion [(o 51 (.mov 7), []), (o 52 (.mov 8), []), (o 53 (.idx 1 51 52), [0, 1]), (o 54 (.load false 1 53), [0, 1, 2]), (o 55 (.mov 7), []), (o 56 (.mov 8), []),
 (o 57 (.bin 0 .add 56 (i 1)), [5]), (o 58 (.idx 1 55 57), [4, 5, 6]), (o 59 (.load false 1 58), [4, 5, 6, 7]),
 (o 60 (.bin 0 .geq 54 59), [0, 1, 2, 3, 4, 5, 6, 7, 8]), (o 61 (.mov 60), [0, 1, 2, 3, 4, 5, 6, 7, 8, 9]),
 (gd 62 61 false (.fld 0 3), [0, 1, 2, 3, 4, 5, 6, 7, 8, 9, 10]), (gd 63 61 false (.load false 1 62), [0, 1, 2, 3, 4, 5, 6, 7, 8, 9, 10, 11]),
 (gd 64 61 false (.mov 7), [0, 1, 2, 3, 4, 5, 6, 7, 8, 9, 10]), (gd 65 61 false (.mov 8), [0, 1, 2, 3, 4, 5, 6, 7, 8, 9, 10]),
 (gd 66 61 false (.idx 1 64 65), [0, 1, 2, 3, 4, 5, 6, 7, 8, 9, 10, 13, 14]),
 (gd 67 61 false (.load false 1 66), [0, 1, 2, 3, 4, 5, 6, 7, 8, 9, 10, 13, 14, 15]),
 (gd 68 61 false (.idx 34 63 67), [0, 1, 2, 3, 4, 5, 6, 7, 8, 9, 10, 11, 12, 13, 14, 15, 16]),
 (gd 69 61 false (.fld 0 68), [0, 1, 2, 3, 4, 5, 6, 7, 8, 9, 10, 11, 12, 13, 14, 15, 16, 17]),
 (gd 70 61 false (.load false 1 69), [0, 1, 2, 3, 4, 5, 6, 7, 8, 9, 10, 11, 12, 13, 14, 15, 16, 17, 18]),
 (gd 71 61 false (.mov 6), [0, 1, 2, 3, 4, 5, 6, 7, 8, 9, 10]),
 (gd 72 61 false (.bin 0 .neq 70 71), [0, 1, 2, 3, 4, 5, 6, 7, 8, 9, 10, 11, 12, 13, 14, 15, 16, 17, 18, 19, 20]),
 (o 73 (.pick 61 bT 72), [0, 1, 2, 3, 4, 5, 6, 7, 8, 9, 10, 11, 12, 13, 14, 15, 16, 17, 18, 19, 20, 21]),
 (o 74 (.mov 73), [0, 1, 2, 3, 4, 5, 6, 7, 8, 9, 10, 11, 12, 13, 14, 15, 16, 17, 18, 19, 20, 21, 22]),
 (gd 75 74 false (.fld 0 3), [0, 1, 2, 3, 4, 5, 6, 7, 8, 9, 10, 11, 12, 13, 14, 15, 16, 17, 18, 19, 20, 21, 22, 23]),
 (gd 76 74 false (.load false 1 75), [0, 1, 2, 3, 4, 5, 6, 7, 8, 9, 10, 11, 12, 13, 14, 15, 16, 17, 18, 19, 20, 21, 22, 23, 24]),
 (gd 77 74 false (.mov 7), [0, 1, 2, 3, 4, 5, 6, 7, 8, 9, 10, 11, 12, 13, 14, 15, 16, 17, 18, 19, 20, 21, 22, 23]),
 (gd 78 74 false (.mov 8), [0, 1, 2, 3, 4, 5, 6, 7, 8, 9, 10, 11, 12, 13, 14, 15, 16, 17, 18, 19, 20, 21, 22, 23]),
 (gd 79 74 false (.bin 0 .add 78 (i 1)), [0, 1, 2, 3, 4, 5, 6, 7, 8, 9, 10, 11, 12, 13, 14, 15, 16, 17, 18, 19, 20, 21, 22, 23, 27]),
 (gd 80 74 false (.idx 1 77 79), [0, 1, 2, 3, 4, 5, 6, 7, 8, 9, 10, 11, 12, 13, 14, 15, 16, 17, 18, 19, 20, 21, 22, 23, 26, 27, 28]),
 (gd 81 74 false (.load false 1 80), [0, 1, 2, 3, 4, 5, 6, 7, 8, 9, 10, 11, 12, 13, 14, 15, 16, 17, 18, 19, 20, 21, 22, 23, 26, 27, 28, 29]),
 (gd 82 74 false (.idx 34 76 81), [0, 1, 2, 3, 4, 5, 6, 7, 8, 9, 10, 11, 12, 13, 14, 15, 16, 17, 18, 19, 20, 21, 22, 23, 24, 25, 26, 27, 28, 29, 30]),
 (gd 83 74 false (.fld 0 82), [0, 1, 2, 3, 4, 5, 6, 7, 8, 9, 10, 11, 12, 13, 14, 15, 16, 17, 18, 19, 20, 21, 22, 23, 24, 25, 26, 27, 28, 29, 30, 31]),
 (gd 84 74 false (.load false 1 83), [0, 1, 2, 3, 4, 5, 6, 7, 8, 9, 10, 11, 12, 13, 14, 15, 16, 17, 18, 19, 20, 21, 22, 23, 24, 25, 26, 27, 28, 29, 30, 31, 32]),
 (gd 85 74 false (.mov 6), [0, 1, 2, 3, 4, 5, 6, 7, 8, 9, 10, 11, 12, 13, 14, 15, 16, 17, 18, 19, 20, 21, 22, 23]),
 (gd 86 74 false (.bin 0 .neq 84 85), [0, 1, 2, 3, 4, 5, 6, 7, 8, 9, 10, 11, 12, 13, 14, 15, 16, 17, 18, 19, 20, 21, 22, 23, 24, 25, 26, 27, 28, 29, 30, 31, 32, 33, 34]),
 (o 87 (.pick 74 bT 86), [0, 1, 2, 3, 4, 5, 6, 7, 8, 9, 10, 11, 12, 13, 14, 15, 16, 17, 18, 19, 20, 21, 22, 23, 24, 25, 26, 27, 28, 29, 30, 31, 32, 33, 34, 35])])
 (.cond 87 (.seq (.region [o 2 (.mov bF)])
 .ret)
  .skip)))
 (.region [o 49 (.mov 8), o 50 (.bin 0 .add 49 (i 2)), o 8 (.mov 50)])))
/-- loop.example/widgetroom/laws.FnOverlapsIn -/
def pf9 : PFunc := ⟨1, [], false, false, [.tmp 2],
  (.seq (.region [o 2 (.mov bF)])
 (.seq (.seq (.region [o 9 (.mov 0), o 10 (.len false 9), o 11 (.bin 0 .gtr 10 (i 1048576))])
 (.cond 11 (.seq (.region [o 2 (.mov bT)])
 .ret)
  .skip))
 (.seq (.region [o 13 (.mov 0), o 14 (.call s_DrawOverlapsIn [13]), o 12 (.mov 14), o 15 (.ext 12 0), o 16 (.ext 12 1), o 17 (.ext 12 2), o 18 (.ext 12 3),
 o 3 (.alloc zTree), u (.store 1 3 15), o 4 (.mov 16), o 5 (.mov 17), o 6 (.mov 18)])
 (.seq (.region [o 19 (.load true 1 3), o 20 (.mov 4), o 21 (.mov 5), o 22 (.mov 6), o 23 (.call i_OverlapsIn [19, 20, 21, 22]), o 7 (.mov 23)])
 (.seq (.seq (.region [o 24 (.mov 7), o 25 (.load true 1 3), o 26 (.mov 4), o 27 (.mov 5), o 28 (.mov 6), o 29 (.call s_OverlapsIn [25, 26, 27, 28]),
 o 30 (.call l_equalInts [24, 29]), o 31 (.not 30), o 32 (.mov 31), gd 33 32 false (.mov 7), gd 34 32 false (.len false 33),
 gd 35 32 false (.bin 0 .eql 34 (i 0)), o 36 (.pick 32 bT 35)])
 (.cond 36 (.seq (.region [o 37 (.mov 7), o 38 (.load true 1 3), o 39 (.mov 4), o 40 (.mov 5), o 41 (.mov 6), o 42 (.call s_OverlapsIn [38, 39, 40, 41]),
 o 43 (.call l_equalInts [37, 42]), o 2 (.mov 43)])
 .ret)
  .skip))
 (.seq (.seq (.region [o 8 (.mov (i 0))])
 (.block 0 (.loop [3, 6, 7, 8] [3, 1003, 1014, 1023] [2, 3, 6, 7] [3, 1003, 1014, 1023] b9_0)))
 (.seq (.region [o 88 (.fld 0 3), o 89 (.load false 1 88), o 90 (.mov 6), o 91 (.idx 34 89 90), o 92 (.fld 4 91), o 93 (.load false 1 92), o 94 (.bin 0 .neq 93 (i 0)),
 o 95 (.mov 94), gd 96 95 true (.mov 7), gd 97 95 true (.len false 96), gd 98 95 true (.bin 0 .rem 97 (i 2)), gd 99 95 true (.bin 0 .eql 98 (i 0)),
 o 100 (.pick 95 99 bF), o 2 (.mov 100)])
 .ret)))))))⟩
def b10_0 : PCode :=
  (.seq (.seq (.region [o 97 (.mov 12), o 98 (.mov 9), o 99 (.len false 98), o 100 (.bin 0 .lss 97 99)])
 (.cond 100 .skip
  (.exit 0)))
 (.seq (.block 1 (.seq (.region [o 103 (.mov 9), o 104 (.mov 12), o 105 (.idx 4 103 104), o 106 (.load true 4 105), o 13 (.alloc zRect), u (.store 4 13 106)])
 (.seq (.region [o 107 (.fld 0 3), o 108 (.load false 1 107), o 109 (.mov 12), o 110 (.idx 34 108 109), o 111 (.fld 0 110), o 112 (.load false 1 111), o 113 (.mov 8),
 o 114 (.bin 0 .eql 112 113), o 115 (.mov 114), gd 116 115 true (.mov 6), gd 117 115 true (.fld 0 13), gd 118 115 true (.load false 1 117),
 gd 119 115 true (.bin 0 .geq 116 118), o 120 (.pick 115 119 bF), o 121 (.mov 120), gd 122 121 true (.mov 6), gd 123 121 true (.fld 0 13),
 gd 124 121 true (.load false 1 123), gd 125 121 true (.fld 2 13), gd 126 121 true (.load false 1 125), gd 127 121 true (.bin 0 .add 124 126),
 gd 128 121 true (.bin 0 .lss 122 127), o 129 (.pick 121 128 bF), o 130 (.mov 129), gd 131 130 true (.mov 7), gd 132 130 true (.fld 1 13),
 gd 133 130 true (.load false 1 132), gd 134 130 true (.bin 0 .geq 131 133), o 135 (.pick 130 134 bF), o 136 (.mov 135), gd 137 136 true (.mov 7),
 gd 138 136 true (.fld 1 13), gd 139 136 true (.load false 1 138), gd 140 136 true (.fld 3 13), gd 141 136 true (.load false 1 140),
 gd 142 136 true (.bin 0 .add 139 141), gd 143 136 true (.bin 0 .lss 137 142), o 144 (.pick 136 143 bF)])
 (.cond 144 (.seq (.region [o 2 (.mov bF)])
 .ret)
  .skip))))
 (.region [o 101 (.mov 12), o 102 (.bin 0 .add 101 (i 1)), o 12 (.mov 102)])))
/-- loop.example/widgetroom/laws.FnHitNode -/
def pf10 : PFunc := ⟨1, [], false, false, [.tmp 2],
  (.seq (.region [o 2 (.mov bF)])
 (.seq (.seq (.region [o 14 (.mov 0), o 15 (.len false 14), o 16 (.bin 0 .gtr 15 (i 1048576))])
 (.cond 16 (.seq (.region [o 2 (.mov bT)])
 .ret)
  .skip))
 (.seq (.region [o 18 (.mov 0), o 19 (.call s_DrawHitNode [18]), o 17 (.mov 19), o 20 (.ext 17 0), o 21 (.ext 17 1), o 22 (.ext 17 2), o 23 (.ext 17 3), o 24 (.ext 17 4),
 o 3 (.alloc zTree), u (.store 1 3 20), o 4 (.mov 21), o 5 (.mov 22), o 6 (.mov 23), o 7 (.mov 24)])
 (.seq (.region [o 25 (.load true 1 3), o 26 (.mov 4), o 27 (.mov 5), o 28 (.mov 6), o 29 (.mov 7), o 30 (.call i_HitNode [25, 26, 27, 28, 29]), o 8 (.mov 30)])
 (.seq (.seq (.region [o 31 (.mov 8), o 32 (.load true 1 3), o 33 (.mov 4), o 34 (.mov 5), o 35 (.mov 6), o 36 (.mov 7), o 37 (.call s_HitNode [32, 33, 34, 35, 36]),
 o 38 (.bin 0 .neq 31 37), o 39 (.mov 38), gd 40 39 false (.mov 8), gd 41 39 false (.bin 0 .lss 40 (i 0)), o 42 (.pick 39 bT 41)])
 (.cond 42 (.seq (.region [o 43 (.mov 8), o 44 (.load true 1 3), o 45 (.mov 4), o 46 (.mov 5), o 47 (.mov 6), o 48 (.mov 7), o 49 (.call s_HitNode [44, 45, 46, 47, 48]),
 o 50 (.bin 0 .eql 43 49), o 2 (.mov 50)])
 .ret)
  .skip))
 (.seq (.region [o 51 (.load true 1 3), o 52 (.mov 4), o 53 (.mov 5), o 54 (.call i_LayoutTree [51, 52, 53]), o 9 (.mov 54)])
 (.seq (.region [o 56 (.load true 1 3), o 57 (.mov 4), o 58 (.mov 5), o 59 (.mov 8), o 60 (.call i_SeenPart [56, 57, 58, 59]), o 55 (.mov 60), o 61 (.ext 55 0),
 o 62 (.ext 55 1), o 10 (.alloc zRect), u (.store 4 10 61), o 11 (.mov 62)])
 (.seq (.seq (.region [o 63 (.mov 11), o 64 (.not 63), o 65 (.mov 64), gd 66 65 false (.mov 6), gd 67 65 false (.fld 0 10), gd 68 65 false (.load false 1 67),
 gd 69 65 false (.bin 0 .lss 66 68), o 70 (.pick 65 bT 69), o 71 (.mov 70), gd 72 71 false (.mov 6), gd 73 71 false (.fld 0 10),
 gd 74 71 false (.load false 1 73), gd 75 71 false (.fld 2 10), gd 76 71 false (.load false 1 75), gd 77 71 false (.bin 0 .add 74 76),
 gd 78 71 false (.bin 0 .geq 72 77), o 79 (.pick 71 bT 78), o 80 (.mov 79), gd 81 80 false (.mov 7), gd 82 80 false (.fld 1 10),
 gd 83 80 false (.load false 1 82), gd 84 80 false (.bin 0 .lss 81 83), o 85 (.pick 80 bT 84), o 86 (.mov 85), gd 87 86 false (.mov 7),
 gd 88 86 false (.fld 1 10), gd 89 86 false (.load false 1 88), gd 90 86 false (.fld 3 10), gd 91 86 false (.load false 1 90),
 gd 92 86 false (.bin 0 .add 89 91), gd 93 86 false (.bin 0 .geq 87 92), o 94 (.pick 86 bT 93)])
 (.cond 94 (.seq (.region [o 2 (.mov bF)])
 .ret)
  .skip))
 (.seq (.seq (.region [o 95 (.mov 8), o 96 (.bin 0 .add 95 (i 1)), o 12 (.mov 96)])
 (.block 0 (.loop [3, 6, 7, 8, 9, 12] [3, 1003, 1019, 1054] [2] [] b10_0)))
 (.seq (.region [o 2 (.mov bT)])
 .ret))))))))))⟩
/-- loop.example/widgetroom/laws.szTree -/
def pf11 : PFunc := ⟨2, [], false, false, [.tmp 4],
  (.seq (.region [o 2 (.box 0), o 4 (.mov (i 0))])
 (.seq (.region [o 5 (.fld 0 2), o 6 (.load false 1 5), o 7 (.mov 1), o 8 (.call l_szNodeS [6, 7]), o 1 (.mov 8)])
 (.seq (.seq (.region [o 9 (.mov 1), o 10 (.bin 0 .lss 9 (i 0))])
 (.cond 10 (.seq (.region [o 4 (.mov (i (-1)))])
 .ret)
  .skip))
 (.seq (.region [o 11 (.mov 1), o 4 (.mov 11)])
 .ret))))⟩
/-- loop.example/widgetroom/spec.AskFor -/
def pf12 : PFunc := ⟨4, [], false, false, [.cell 8 true 1, .tmp 9],
  (.seq (.region [o 4 (.box 0), o 8 (.alloc zTree), o 9 (.mov bF)])
 (.seq (.seq (.region [o 10 (.load true 1 4), o 11 (.mov 1), o 12 (.mov 2), o 13 (.mov 3), o 14 (.call s_goodWish [10, 11, 12, 13]), o 15 (.not 14)])
 (.cond 15 (.seq (.region [o 16 (.build zTree []), u (.store 1 8 16), o 9 (.mov bF)])
 .ret)
  .skip))
 (.seq (.region [o 17 (.load true 1 4), o 18 (.mov 1), o 19 (.mov 2), o 20 (.mov 3), o 21 (.call s_resized [17, 18, 19, 20]), u (.store 1 8 21), o 9 (.mov bT)])
 .ret)))⟩
/-- loop.example/widgetroom/laws.toTree -/
def pf13 : PFunc := ⟨1, [], false, false, [.cell 2 true 1],
  (.seq (.region [o 1 (.box 0), o 2 (.alloc zTree)])
 (.seq (.region [o 3 (.alloc zTree)])
 (.seq (.region [o 4 (.fld 0 1), o 5 (.load false 1 4), o 6 (.call l_toNodeS [5]), o 7 (.fld 0 3), u (.store 1 7 6)])
 (.seq (.region [o 8 (.load true 1 3), u (.store 1 2 8)])
 .ret))))⟩
/-- loop.example/widgetroom/impl.AskFor -/
def pf14 : PFunc := ⟨4, [], false, false, [.cell 8 true 1, .tmp 9],
  (.seq (.region [o 4 (.box 0), o 8 (.alloc zTree), o 9 (.mov bF)])
 (.seq (.seq (.region [o 10 (.load true 1 4), o 11 (.call i_ValidTree [10]), o 12 (.not 11), o 13 (.mov 12), gd 14 13 false (.mov 1), gd 15 13 false (.fld 0 4),
 gd 16 13 false (.load false 1 15), gd 17 13 false (.len false 16), gd 18 13 false (.bin 0 .sub 17 (i 1)), gd 19 13 false (.call i_within [14, i 0, 18]),
 gd 20 13 false (.not 19), o 21 (.pick 13 bT 20), o 22 (.mov 21), gd 23 22 false (.mov 2), gd 24 22 false (.call i_within [23, i 0, i 30]),
 gd 25 22 false (.not 24), o 26 (.pick 22 bT 25), o 27 (.mov 26), gd 28 27 false (.mov 3), gd 29 27 false (.call i_within [28, i 0, i 30]),
 gd 30 27 false (.not 29), o 31 (.pick 27 bT 30)])
 (.cond 31 (.seq (.region [o 32 (.build zTree []), u (.store 1 8 32), o 9 (.mov bF)])
 .ret)
  .skip))
 (.seq (.region [o 33 (.load true 1 4), o 34 (.mov 1), o 35 (.mov 2), o 36 (.mov 3), o 37 (.call i_Tree_asked [33, 34, 35, 36]), u (.store 1 8 37), o 9 (.mov bT)])
 .ret)))⟩
/-- loop.example/widgetroom/laws.eqTree -/
def pf15 : PFunc := ⟨2, [], false, false, [.tmp 4],
  (.seq (.region [o 2 (.box 0), o 3 (.box 1), o 4 (.mov bF)])
 (.seq (.seq (.region [o 5 (.fld 0 2), o 6 (.load false 1 5), o 7 (.fld 0 3), o 8 (.load false 1 7), o 9 (.call l_eqNodeS [6, 8]), o 10 (.not 9)])
 (.cond 10 (.seq (.region [o 4 (.mov bF)])
 .ret)
  .skip))
 (.seq (.region [o 4 (.mov bT)])
 .ret)))⟩
/-- loop.example/widgetroom/laws.markTree -/
def pf16 : PFunc := ⟨2, [true, false], false, false, [.tmp 4],
  (.seq (.region [o 2 (.box 0), o 4 (.mov (i 0))])
 (.seq (.region [o 5 (.fld 0 2), o 6 (.load false 1 5), o 7 (.mov 1), o 8 (.call l_markNodeS [6, 7]), o 1 (.mov 8)])
 (.seq (.region [o 9 (.mov 1), o 4 (.mov 9)])
 .ret)))⟩
/-- loop.example/widgetroom/laws.heldTree -/
def pf17 : PFunc := ⟨2, [], false, false, [.tmp 4],
  (.seq (.region [o 2 (.box 0), o 4 (.mov (i 0))])
 (.seq (.region [o 5 (.fld 0 2), o 6 (.load false 1 5), o 7 (.mov 1), o 8 (.call l_heldNodeS [6, 7]), o 1 (.mov 8)])
 (.seq (.seq (.region [o 9 (.mov 1), o 10 (.bin 0 .lss 9 (i 0))])
 (.cond 10 (.seq (.region [o 4 (.mov (i (-1)))])
 .ret)
  .skip))
 (.seq (.region [o 11 (.mov 1), o 4 (.mov 11)])
 .ret))))⟩
def b18_0 : PCode :=
  (.seq (.seq (.region [o 28 (.mov 12), o 29 (.fld 0 4), o 30 (.load false 1 29), o 31 (.len false 30), o 32 (.bin 0 .lss 28 31)])
 (.cond 32 .skip
  (.exit 0)))
 (.seq (.block 1 (.seq (.dregion [(o 35 (.mov 9), []), (o 36 (.mov 12), []), (o 37 (.bin 0 .mul (i 2) 36), [1]), (o 38 (.idx 1 35 37), [0, 1, 2]), (o 39 (.load false 1 38), [0, 1, 2, 3]),
 (o 40 (.mov 10), []), (o 41 (.mov 12), []), (o 42 (.bin 0 .mul (i 2) 41), [6]), (o 43 (.idx 1 40 42), [5, 6, 7]),
 (o 44 (.load false 1 43), [5, 6, 7, 8]), (o 45 (.bin 0 .neq 39 44), [0, 1, 2, 3, 4, 5, 6, 7, 8, 9]),
 (o 46 (.mov 45), [0, 1, 2, 3, 4, 5, 6, 7, 8, 9, 10]), (gd 47 46 false (.mov 9), [0, 1, 2, 3, 4, 5, 6, 7, 8, 9, 10, 11]),
 (gd 48 46 false (.mov 12), [0, 1, 2, 3, 4, 5, 6, 7, 8, 9, 10, 11]), (gd 49 46 false (.bin 0 .mul (i 2) 48), [0, 1, 2, 3, 4, 5, 6, 7, 8, 9, 10, 11, 13]),
 (gd 50 46 false (.bin 0 .add 49 (i 1)), [0, 1, 2, 3, 4, 5, 6, 7, 8, 9, 10, 11, 13, 14]),
 (gd 51 46 false (.idx 1 47 50), [0, 1, 2, 3, 4, 5, 6, 7, 8, 9, 10, 11, 12, 13, 14, 15]),
 (gd 52 46 false (.load false 1 51), [0, 1, 2, 3, 4, 5, 6, 7, 8, 9, 10, 11, 12, 13, 14, 15, 16]),
 (gd 53 46 false (.mov 10), [0, 1, 2, 3, 4, 5, 6, 7, 8, 9, 10, 11]), (gd 54 46 false (.mov 12), [0, 1, 2, 3, 4, 5, 6, 7, 8, 9, 10, 11]),
 (gd 55 46 false (.bin 0 .mul (i 2) 54), [0, 1, 2, 3, 4, 5, 6, 7, 8, 9, 10, 11, 19]),
 (gd 56 46 false (.bin 0 .add 55 (i 1)), [0, 1, 2, 3, 4, 5, 6, 7, 8, 9, 10, 11, 19, 20]),
 (gd 57 46 false (.idx 1 53 56), [0, 1, 2, 3, 4, 5, 6, 7, 8, 9, 10, 11, 18, 19, 20, 21]),
 (gd 58 46 false (.load false 1 57), [0, 1, 2, 3, 4, 5, 6, 7, 8, 9, 10, 11, 18, 19, 20, 21, 22]),
 (gd 59 46 false (.bin 0 .neq 52 58), [0, 1, 2, 3, 4, 5, 6, 7, 8, 9, 10, 11, 12, 13, 14, 15, 16, 17, 18, 19, 20, 21, 22, 23]),
 (o 60 (.pick 46 bT 59), [0, 1, 2, 3, 4, 5, 6, 7, 8, 9, 10, 11, 12, 13, 14, 15, 16, 17, 18, 19, 20, 21, 22, 23, 24])])
 (.cond 60 (.region [o 61 (.mov 11), o 62 (.mov 12), o 63 (.bslice 1 zInt [(0, 62)]), o 64 (.app 1 17592186044416 61 63), o 11 (.mov 64)])
  .skip)))
 (.region [o 33 (.mov 12), o 34 (.bin 0 .add 33 (i 1)), o 12 (.mov 34)])))
/-- loop.example/widgetroom/spec.TouchedBy -/
def pf18 : PFunc := ⟨4, [], false, false, [.tmp 8],
  (.seq (.region [o 4 (.box 0), o 8 (.mov nl)])
 (.seq (.seq (.region [o 13 (.load true 1 4), o 14 (.mov 1), o 15 (.mov 2), o 16 (.mov 3), o 17 (.call s_goodWish [13, 14, 15, 16]), o 18 (.not 17)])
 (.cond 18 (.seq (.region [o 8 (.mov nl)])
 .ret)
  .skip))
 (.seq (.region [o 19 (.load true 1 4), o 20 (.call s_wantsOf [19]), o 9 (.mov 20)])
 (.seq (.region [o 21 (.load true 1 4), o 22 (.mov 1), o 23 (.mov 2), o 24 (.mov 3), o 25 (.call s_resized [21, 22, 23, 24]), o 26 (.call s_wantsOf [25]), o 10 (.mov 26)])
 (.seq (.region [o 27 (.bslice 0 zInt []), o 11 (.mov 27)])
 (.seq (.seq (.region [o 12 (.mov (i 0))])
 (.block 0 (.loop [4, 9, 10, 11, 12] [4, 27, 64, 1004, 1020, 1026] [8, 11] [8, 27, 64] b18_0)))
 (.seq (.region [o 65 (.mov 11), o 8 (.mov 65)])
 .ret)))))))⟩
def b19_0 : PCode :=
  (.seq (.region [o 31 (.bin 0 .lss 30 29)])
 (.seq (.cond 31 .skip
  (.exit 0))
 (.seq (.block 1 (.seq (.region [o 32 (.mov 30), o 12 (.mov 32)])
 (.seq (.region [o 34 (.load true 1 4), o 35 (.mov 12), o 36 (.call i_Tree_request [34, 35]), o 33 (.mov 36), o 37 (.ext 33 0), o 38 (.ext 33 1), o 13 (.mov 37),
 o 14 (.mov 38)])
 (.seq (.region [o 40 (.load true 1 9), o 41 (.mov 12), o 42 (.call i_Tree_request [40, 41]), o 39 (.mov 42), o 43 (.ext 39 0), o 44 (.ext 39 1), o 15 (.mov 43),
 o 16 (.mov 44)])
 (.seq (.region [o 45 (.mov 13), o 46 (.mov 15), o 47 (.bin 0 .neq 45 46), o 48 (.mov 47), gd 49 48 false (.mov 14), gd 50 48 false (.mov 16),
 gd 51 48 false (.bin 0 .neq 49 50), o 52 (.pick 48 bT 51)])
 (.cond 52 (.region [o 53 (.mov 11), o 54 (.mov 12), o 55 (.bslice 1 zInt [(0, 54)]), o 56 (.app 1 17592186044416 53 55), o 11 (.mov 56)])
  .skip))))))
 (.region [o 57 (.bin 0 .add 30 (i 1)), o 30 (.mov 57)]))))
/-- loop.example/widgetroom/impl.TouchedBy -/
def pf19 : PFunc := ⟨4, [], false, false, [.tmp 8],
  (.seq (.region [o 4 (.box 0), o 8 (.mov nl)])
 (.seq (.region [o 18 (.load true 1 4), o 19 (.mov 1), o 20 (.mov 2), o 21 (.mov 3), o 22 (.call i_AskFor [18, 19, 20, 21]), o 17 (.mov 22), o 23 (.ext 17 0),
 o 24 (.ext 17 1), o 9 (.alloc zTree), u (.store 1 9 23), o 10 (.mov 24)])
 (.seq (.seq (.region [o 25 (.mov 10), o 26 (.not 25)])
 (.cond 26 (.seq (.region [o 8 (.mov nl)])
 .ret)
  .skip))
 (.seq (.region [o 11 .nilroot])
 (.seq (.seq (.region [o 27 (.fld 0 4), o 28 (.load false 1 27), o 29 (.len false 28), o 30 (.mov (i 0))])
 (.block 0 (.loop [4, 9, 11, 29, 30] [4, 9, 11, 56, 1004, 1009, 1022] [8, 11] [8, 11, 56] b19_0)))
 (.seq (.region [o 58 (.mov 11), o 8 (.mov 58)])
 .ret))))))⟩
def b20_0 : PCode :=
  (.seq (.seq (.region [o 11 (.mov 5), o 12 (.mov 0), o 13 (.len false 12), o 14 (.bin 0 .lss 11 13)])
 (.cond 14 .skip
  (.exit 0)))
 (.seq (.block 1 (.seq (.dregion [(o 17 (.mov 0), []), (o 18 (.mov 5), []), (o 19 (.idx 1 17 18), [0, 1]), (o 20 (.load false 1 19), [0, 1, 2]), (o 21 (.mov 1), []), (o 22 (.mov 5), []),
 (o 23 (.idx 1 21 22), [4, 5]), (o 24 (.load false 1 23), [4, 5, 6]), (o 25 (.bin 0 .neq 20 24), [0, 1, 2, 3, 4, 5, 6, 7])])
 (.cond 25 (.seq (.region [o 4 (.mov bF)])
 .ret)
  .skip)))
 (.region [o 15 (.mov 5), o 16 (.bin 0 .add 15 (i 1)), o 5 (.mov 16)])))
/-- loop.example/widgetroom/laws.eqIntS -/
def pf20 : PFunc := ⟨2, [], false, false, [.tmp 4],
  (.seq (.region [o 4 (.mov bF)])
 (.seq (.seq (.region [o 6 (.mov 0), o 7 (.len false 6), o 8 (.mov 1), o 9 (.len false 8), o 10 (.bin 0 .neq 7 9)])
 (.cond 10 (.seq (.region [o 4 (.mov bF)])
 .ret)
  .skip))
 (.seq (.seq (.region [o 5 (.mov (i 0))])
 (.block 0 (.loop [0, 1, 5] [] [4] [] b20_0)))
 (.seq (.region [o 4 (.mov bT)])
 .ret))))⟩
def b21_0 : PCode :=
  (.seq (.seq (.region [o 6 (.mov 5), o 7 (.mov 0), o 8 (.len false 7), o 9 (.bin 0 .lss 6 8)])
 (.cond 9 .skip
  (.exit 0)))
 (.seq (.block 1 (.seq (.region [o 12 (.mov 0), o 13 (.mov 5), o 14 (.mov 1), o 15 (.idx 1 12 13), u (.store 1 15 14)])
 (.region [o 16 (.mov 1), o 17 (.bin 0 .add 16 (i 1)), o 1 (.mov 17)])))
 (.region [o 10 (.mov 5), o 11 (.bin 0 .add 10 (i 1)), o 5 (.mov 11)])))
/-- loop.example/widgetroom/laws.markIntS -/
def pf21 : PFunc := ⟨2, [true, false], false, false, [.tmp 4],
  (.seq (.region [o 4 (.mov (i 0))])
 (.seq (.seq (.region [o 5 (.mov (i 0))])
 (.block 0 (.loop [0, 1, 5] [1000] [1, 4] [1000] b21_0)))
 (.seq (.region [o 18 (.mov 1), o 4 (.mov 18)])
 .ret)))⟩
def b22_0 : PCode :=
  (.seq (.seq (.region [o 6 (.mov 5), o 7 (.mov 0), o 8 (.len false 7), o 9 (.bin 0 .lss 6 8)])
 (.cond 9 .skip
  (.exit 0)))
 (.seq (.block 1 (.seq (.seq (.region [o 12 (.mov 0), o 13 (.mov 5), o 14 (.idx 1 12 13), o 15 (.load false 1 14), o 16 (.mov 1), o 17 (.bin 0 .neq 15 16)])
 (.cond 17 (.seq (.region [o 4 (.mov (i (-1)))])
 .ret)
  .skip))
 (.region [o 18 (.mov 1), o 19 (.bin 0 .add 18 (i 1)), o 1 (.mov 19)])))
 (.region [o 10 (.mov 5), o 11 (.bin 0 .add 10 (i 1)), o 5 (.mov 11)])))
/-- loop.example/widgetroom/laws.heldIntS -/
def pf22 : PFunc := ⟨2, [], false, false, [.tmp 4],
  (.seq (.region [o 4 (.mov (i 0))])
 (.seq (.seq (.region [o 5 (.mov (i 0))])
 (.block 0 (.loop [0, 1, 5] [] [1, 4] [] b22_0)))
 (.seq (.region [o 20 (.mov 1), o 4 (.mov 20)])
 .ret)))⟩
/-- loop.example/widgetroom/spec.DrawLayoutTree -/
def pf23 : PFunc := ⟨1, [], false, true, [.cell 2 true 1, .tmp 3, .tmp 4],
  (.seq (.region [o 2 (.alloc zTree), o 3 (.mov (i 0)), o 4 (.mov (i 0))])
 (.seq (.region [o 5 (.mov 0), o 6 (.call s_newReader [5]), o 7 (.call s_treeRoom [6]), o 8 (.ext 7 0), o 9 (.ext 7 1), o 10 (.ext 7 2), u (.store 1 2 8), o 3 (.mov 9),
 o 4 (.mov 10)])
 .ret))⟩
/-- loop.example/widgetroom/impl.LayoutTree -/
def pf24 : PFunc := ⟨3, [], true, false, [.tmp 6],
  (.seq (.region [o 3 (.box 0), o 6 (.mov nl)])
 (.seq (.seq (.region [o 7 (.load true 1 3), o 8 (.call i_ValidTree [7]), o 9 (.not 8), o 10 (.mov 9), gd 11 10 false (.mov 1), gd 12 10 false (.mov 2),
 gd 13 10 false (.call i_sizeOk [11, 12]), gd 14 10 false (.not 13), o 15 (.pick 10 bT 14)])
 (.cond 15 (.seq (.region [o 6 (.mov nl)])
 .ret)
  .skip))
 (.seq (.region [o 16 (.load true 1 3), o 17 (.mov 1), o 18 (.mov 2), o 19 (.call i_Tree_layout [16, 17, 18]), o 6 (.mov 19)])
 .ret)))⟩
def b25_0 : PCode :=
  (.seq (.seq (.region [o 11 (.mov 5), o 12 (.mov 0), o 13 (.len false 12), o 14 (.bin 0 .lss 11 13)])
 (.cond 14 .skip
  (.exit 0)))
 (.seq (.block 1 (.seq (.dregion [(o 17 (.mov 0), []), (o 18 (.mov 5), []), (o 19 (.idx 4 17 18), [0, 1]), (o 20 (.load true 4 19), [0, 1, 2]), (o 21 (.mov 1), []), (o 22 (.mov 5), []),
 (o 23 (.idx 4 21 22), [4, 5]), (o 24 (.load true 4 23), [4, 5, 6]), (o 25 (.eqa true 4 20 24), [0, 1, 2, 3, 4, 5, 6, 7])])
 (.cond 25 (.seq (.region [o 4 (.mov bF)])
 .ret)
  .skip)))
 (.region [o 15 (.mov 5), o 16 (.bin 0 .add 15 (i 1)), o 5 (.mov 16)])))
/-- loop.example/widgetroom/laws.equalRects -/
def pf25 : PFunc := ⟨2, [], false, false, [.tmp 4],
  (.seq (.region [o 4 (.mov bF)])
 (.seq (.seq (.region [o 6 (.mov 0), o 7 (.len false 6), o 8 (.mov 1), o 9 (.len false 8), o 10 (.bin 0 .neq 7 9)])
 (.cond 10 (.seq (.region [o 4 (.mov bF)])
 .ret)
  .skip))
 (.seq (.seq (.region [o 5 (.mov (i 0))])
 (.block 0 (.loop [0, 1, 5] [] [4] [] b25_0)))
 (.seq (.region [o 4 (.mov bT)])
 .ret))))⟩
/-- loop.example/widgetroom/spec.LayoutTree -/
def pf26 : PFunc := ⟨3, [], false, false, [.tmp 6],
  (.seq (.region [o 3 (.box 0), o 6 (.mov nl)])
 (.seq (.seq (.region [o 7 (.load true 1 3), o 8 (.call s_validTree [7]), o 9 (.not 8), o 10 (.mov 9), gd 11 10 false (.mov 1), gd 12 10 false (.mov 2),
 gd 13 10 false (.call s_goodRoom [11, 12]), gd 14 10 false (.not 13), o 15 (.pick 10 bT 14)])
 (.cond 15 (.seq (.region [o 6 (.mov nl)])
 .ret)
  .skip))
 (.seq (.region [o 16 (.load true 1 3), o 17 (.mov 1), o 18 (.mov 2), o 19 (.call s_layout [16, 17, 18]), o 6 (.mov 19)])
 .ret)))⟩
/-- loop.example/widgetroom/laws.room -/
def pf27 : PFunc := ⟨2, [], false, false, [.cell 4 true 4],
  (.seq (.region [o 4 (.alloc zRect)])
 (.seq (.region [o 5 (.mov 0), o 6 (.mov 1), o 7 (.build zRect [(2, 1, 5), (3, 1, 6)]), u (.store 4 4 7)])
 .ret))⟩
/-- loop.example/widgetroom/laws.within2 -/
def pf28 : PFunc := ⟨2, [], false, false, [.tmp 4],
  (.seq (.region [o 2 (.box 0), o 3 (.box 1), o 4 (.mov bF)])
 (.seq (.region [o 5 (.fld 0 2), o 6 (.load false 1 5), o 7 (.fld 0 3), o 8 (.load false 1 7), o 9 (.bin 0 .leq 6 8), o 10 (.mov 9), gd 11 10 true (.fld 1 2),
 gd 12 10 true (.load false 1 11), gd 13 10 true (.fld 1 3), gd 14 10 true (.load false 1 13), gd 15 10 true (.bin 0 .leq 12 14), o 16 (.pick 10 15 bF),
 o 17 (.mov 16), gd 18 17 true (.fld 0 3), gd 19 17 true (.load false 1 18), gd 20 17 true (.fld 2 3), gd 21 17 true (.load false 1 20),
 gd 22 17 true (.bin 0 .add 19 21), gd 23 17 true (.fld 0 2), gd 24 17 true (.load false 1 23), gd 25 17 true (.fld 2 2),
 gd 26 17 true (.load false 1 25), gd 27 17 true (.bin 0 .add 24 26), gd 28 17 true (.bin 0 .leq 22 27), o 29 (.pick 17 28 bF), o 30 (.mov 29),
 gd 31 30 true (.fld 1 3), gd 32 30 true (.load false 1 31), gd 33 30 true (.fld 3 3), gd 34 30 true (.load false 1 33),
 gd 35 30 true (.bin 0 .add 32 34), gd 36 30 true (.fld 1 2), gd 37 30 true (.load false 1 36), gd 38 30 true (.fld 3 2),
 gd 39 30 true (.load false 1 38), gd 40 30 true (.bin 0 .add 37 39), gd 41 30 true (.bin 0 .leq 35 40), o 42 (.pick 30 41 bF), o 4 (.mov 42)])
 .ret))⟩
/-- loop.example/widgetroom/spec.DrawNaturalLayout -/
def pf29 : PFunc := ⟨1, [], false, true, [.cell 2 true 1],
  (.seq (.region [o 2 (.alloc zTree)])
 (.seq (.region [o 3 (.mov 0), o 4 (.call s_newReader [3]), o 5 (.call s_someTree [4]), u (.store 1 2 5)])
 .ret))⟩
/-- loop.example/widgetroom/impl.NaturalLayout -/
def pf30 : PFunc := ⟨1, [], false, false, [.tmp 2],
  (.seq (.region [o 1 (.box 0), o 2 (.mov nl)])
 (.seq (.region [o 6 (.load true 1 1), o 7 (.call i_RequestOf [6, i 0]), o 5 (.mov 7), o 8 (.ext 5 0), o 9 (.ext 5 1), o 3 (.mov 8), o 4 (.mov 9)])
 (.seq (.region [o 10 (.load true 1 1), o 11 (.mov 3), o 12 (.mov 4), o 13 (.call i_LayoutTree [10, 11, 12]), o 2 (.mov 13)])
 .ret)))⟩
/-- loop.example/widgetroom/spec.NaturalLayout -/
def pf31 : PFunc := ⟨1, [], false, false, [.tmp 2],
  (.seq (.region [o 1 (.box 0), o 2 (.mov nl)])
 (.seq (.seq (.region [o 5 (.load true 1 1), o 6 (.call s_validTree [5]), o 7 (.not 6)])
 (.cond 7 (.seq (.region [o 2 (.mov nl)])
 .ret)
  .skip))
 (.seq (.region [o 9 (.load true 1 1), o 10 (.call s_sizeOf [9, i 0]), o 8 (.mov 10), o 11 (.ext 8 0), o 12 (.ext 8 1), o 3 (.mov 11), o 4 (.mov 12)])
 (.seq (.seq (.region [o 13 (.mov 3), o 14 (.mov 4), o 15 (.call s_goodRoom [13, 14]), o 16 (.not 15)])
 (.cond 16 (.seq (.region [o 2 (.mov nl)])
 .ret)
  .skip))
 (.seq (.region [o 17 (.load true 1 1), o 18 (.mov 3), o 19 (.mov 4), o 20 (.call s_layout [17, 18, 19]), o 2 (.mov 20)])
 .ret)))))⟩
/-- loop.example/widgetroom/impl.RequestOf -/
def pf32 : PFunc := ⟨2, [], false, false, [.tmp 4, .tmp 5],
  (.seq (.region [o 2 (.box 0), o 4 (.mov (i 0)), o 5 (.mov (i 0))])
 (.seq (.seq (.region [o 6 (.load true 1 2), o 7 (.call i_ValidTree [6]), o 8 (.not 7), o 9 (.mov 8), gd 10 9 false (.mov 1), gd 11 9 false (.fld 0 2),
 gd 12 9 false (.load false 1 11), gd 13 9 false (.len false 12), gd 14 9 false (.bin 0 .sub 13 (i 1)), gd 15 9 false (.call i_within [10, i 0, 14]),
 gd 16 9 false (.not 15), o 17 (.pick 9 bT 16)])
 (.cond 17 (.seq (.region [o 4 (.mov (i (-1))), o 5 (.mov (i (-1)))])
 .ret)
  .skip))
 (.seq (.region [o 18 (.load true 1 2), o 19 (.mov 1), o 20 (.call i_Tree_request [18, 19]), o 21 (.ext 20 0), o 22 (.ext 20 1), o 4 (.mov 21), o 5 (.mov 22)])
 .ret)))⟩
/-- loop.example/widgetroom/spec.DrawCutNodes -/
def pf33 : PFunc := ⟨1, [], false, true, [.cell 2 true 1, .tmp 3, .tmp 4],
  (.seq (.region [o 2 (.alloc zTree), o 3 (.mov (i 0)), o 4 (.mov (i 0))])
 (.seq (.region [o 5 (.mov 0), o 6 (.call s_newReader [5]), o 7 (.call s_treeRoom [6]), o 8 (.ext 7 0), o 9 (.ext 7 1), o 10 (.ext 7 2), u (.store 1 2 8), o 3 (.mov 9),
 o 4 (.mov 10)])
 .ret))⟩
def b34_0 : PCode :=
  (.seq (.region [o 20 (.bin 0 .lss 19 18)])
 (.seq (.cond 20 .skip
  (.exit 0))
 (.seq (.block 1 (.seq (.region [o 21 (.mov 19), o 22 (.idx 4 17 19), o 23 (.load true 4 22), o 10 (.alloc zRect), o 9 (.mov 21), u (.store 4 10 23)])
 (.seq (.region [o 25 (.load true 1 3), o 26 (.mov 9), o 27 (.call i_Tree_request [25, 26]), o 24 (.mov 27), o 28 (.ext 24 0), o 29 (.ext 24 1), o 11 (.mov 28),
 o 12 (.mov 29)])
 (.seq (.region [o 30 (.mov 9), o 31 (.bin 0 .gtr 30 (i 0)), o 32 (.mov 31), gd 33 32 true (.fld 2 10), gd 34 32 true (.load false 1 33), gd 35 32 true (.mov 11),
 gd 36 32 true (.bin 0 .lss 34 35), gd 37 32 true (.mov 36), gd 38 37 false (.fld 3 10), gd 39 37 false (.load false 1 38), gd 40 37 false (.mov 12),
 gd 41 37 false (.bin 0 .lss 39 40), gd 42 32 true (.pick 37 bT 41), o 43 (.pick 32 42 bF)])
 (.cond 43 (.region [o 44 (.mov 8), o 45 (.mov 9), o 46 (.bslice 1 zInt [(0, 45)]), o 47 (.app 1 17592186044416 44 46), o 8 (.mov 47)])
  .skip)))))
 (.region [o 48 (.bin 0 .add 19 (i 1)), o 19 (.mov 48)]))))
/-- loop.example/widgetroom/impl.CutNodes -/
def pf34 : PFunc := ⟨3, [], false, false, [.tmp 6],
  (.seq (.region [o 3 (.box 0), o 6 (.mov nl)])
 (.seq (.region [o 13 (.load true 1 3), o 14 (.mov 1), o 15 (.mov 2), o 16 (.call i_LayoutTree [13, 14, 15]), o 7 (.mov 16)])
 (.seq (.region [o 8 .nilroot])
 (.seq (.seq (.region [o 17 (.mov 7), o 18 (.len false 17), o 19 (.mov (i 0))])
 (.block 0 (.loop [3, 8, 17, 18, 19] [3, 8, 47, 1003, 1016] [6, 8] [6, 8, 47] b34_0)))
 (.seq (.region [o 49 (.mov 8), o 6 (.mov 49)])
 .ret)))))⟩
def b35_0 : PCode :=
  (.seq (.seq (.region [o 11 (.mov 5), o 12 (.mov 0), o 13 (.len false 12), o 14 (.bin 0 .lss 11 13)])
 (.cond 14 .skip
  (.exit 0)))
 (.seq (.block 1 (.seq (.dregion [(o 17 (.mov 0), []), (o 18 (.mov 5), []), (o 19 (.idx 1 17 18), [0, 1]), (o 20 (.load false 1 19), [0, 1, 2]), (o 21 (.mov 1), []), (o 22 (.mov 5), []),
 (o 23 (.idx 1 21 22), [4, 5]), (o 24 (.load false 1 23), [4, 5, 6]), (o 25 (.bin 0 .neq 20 24), [0, 1, 2, 3, 4, 5, 6, 7])])
 (.cond 25 (.seq (.region [o 4 (.mov bF)])
 .ret)
  .skip)))
 (.region [o 15 (.mov 5), o 16 (.bin 0 .add 15 (i 1)), o 5 (.mov 16)])))
/-- loop.example/widgetroom/laws.equalInts -/
def pf35 : PFunc := ⟨2, [], false, false, [.tmp 4],
  (.seq (.region [o 4 (.mov bF)])
 (.seq (.seq (.region [o 6 (.mov 0), o 7 (.len false 6), o 8 (.mov 1), o 9 (.len false 8), o 10 (.bin 0 .neq 7 9)])
 (.cond 10 (.seq (.region [o 4 (.mov bF)])
 .ret)
  .skip))
 (.seq (.seq (.region [o 5 (.mov (i 0))])
 (.block 0 (.loop [0, 1, 5] [] [4] [] b35_0)))
 (.seq (.region [o 4 (.mov bT)])
 .ret))))⟩
def b36_0 : PCode :=
  (.seq (.seq (.region [o 27 (.mov 10), o 28 (.fld 0 3), o 29 (.load false 1 28), o 30 (.len false 29), o 31 (.bin 0 .lss 27 30)])
 (.cond 31 .skip
  (.exit 0)))
 (.seq (.block 1 (.seq (.dregion [(o 34 (.mov 7), []), (o 35 (.mov 10), []), (o 36 (.idx 4 34 35), [0, 1]), (o 37 (.fld 2 36), [0, 1, 2]), (o 38 (.load false 1 37), [0, 1, 2, 3]),
 (o 39 (.mov 8), []), (o 40 (.mov 10), []), (o 41 (.bin 0 .mul (i 2) 40), [6]), (o 42 (.idx 1 39 41), [5, 6, 7]), (o 43 (.load false 1 42), [5, 6, 7, 8]),
 (o 44 (.bin 0 .lss 38 43), [0, 1, 2, 3, 4, 5, 6, 7, 8, 9]), (o 45 (.mov 44), [0, 1, 2, 3, 4, 5, 6, 7, 8, 9, 10]),
 (gd 46 45 false (.mov 7), [0, 1, 2, 3, 4, 5, 6, 7, 8, 9, 10, 11]), (gd 47 45 false (.mov 10), [0, 1, 2, 3, 4, 5, 6, 7, 8, 9, 10, 11]),
 (gd 48 45 false (.idx 4 46 47), [0, 1, 2, 3, 4, 5, 6, 7, 8, 9, 10, 11, 12, 13]),
 (gd 49 45 false (.fld 3 48), [0, 1, 2, 3, 4, 5, 6, 7, 8, 9, 10, 11, 12, 13, 14]),
 (gd 50 45 false (.load false 1 49), [0, 1, 2, 3, 4, 5, 6, 7, 8, 9, 10, 11, 12, 13, 14, 15]),
 (gd 51 45 false (.mov 8), [0, 1, 2, 3, 4, 5, 6, 7, 8, 9, 10, 11]), (gd 52 45 false (.mov 10), [0, 1, 2, 3, 4, 5, 6, 7, 8, 9, 10, 11]),
 (gd 53 45 false (.bin 0 .mul (i 2) 52), [0, 1, 2, 3, 4, 5, 6, 7, 8, 9, 10, 11, 18]),
 (gd 54 45 false (.bin 0 .add 53 (i 1)), [0, 1, 2, 3, 4, 5, 6, 7, 8, 9, 10, 11, 18, 19]),
 (gd 55 45 false (.idx 1 51 54), [0, 1, 2, 3, 4, 5, 6, 7, 8, 9, 10, 11, 17, 18, 19, 20]),
 (gd 56 45 false (.load false 1 55), [0, 1, 2, 3, 4, 5, 6, 7, 8, 9, 10, 11, 17, 18, 19, 20, 21]),
 (gd 57 45 false (.bin 0 .lss 50 56), [0, 1, 2, 3, 4, 5, 6, 7, 8, 9, 10, 11, 12, 13, 14, 15, 16, 17, 18, 19, 20, 21, 22]),
 (o 58 (.pick 45 bT 57), [0, 1, 2, 3, 4, 5, 6, 7, 8, 9, 10, 11, 12, 13, 14, 15, 16, 17, 18, 19, 20, 21, 22, 23])])
 (.cond 58 (.region [o 59 (.mov 9), o 60 (.mov 10), o 61 (.bslice 1 zInt [(0, 60)]), o 62 (.app 1 17592186044416 59 61), o 9 (.mov 62)])
  .skip)))
 (.region [o 32 (.mov 10), o 33 (.bin 0 .add 32 (i 1)), o 10 (.mov 33)])))
/-- loop.example/widgetroom/spec.CutNodes -/
def pf36 : PFunc := ⟨3, [], false, false, [.tmp 6],
  (.seq (.region [o 3 (.box 0), o 6 (.mov nl)])
 (.seq (.seq (.region [o 11 (.load true 1 3), o 12 (.call s_validTree [11]), o 13 (.not 12), o 14 (.mov 13), gd 15 14 false (.mov 1), gd 16 14 false (.mov 2),
 gd 17 14 false (.call s_goodRoom [15, 16]), gd 18 14 false (.not 17), o 19 (.pick 14 bT 18)])
 (.cond 19 (.seq (.region [o 6 (.mov nl)])
 .ret)
  .skip))
 (.seq (.region [o 20 (.load true 1 3), o 21 (.mov 1), o 22 (.mov 2), o 23 (.call s_layout [20, 21, 22]), o 7 (.mov 23)])
 (.seq (.region [o 24 (.load true 1 3), o 25 (.call s_wantsOf [24]), o 8 (.mov 25)])
 (.seq (.region [o 26 (.bslice 0 zInt []), o 9 (.mov 26)])
 (.seq (.seq (.region [o 10 (.mov (i 1))])
 (.block 0 (.loop [3, 7, 8, 9, 10] [3, 26, 62, 1003, 1023, 1025] [6, 9] [6, 26, 62] b36_0)))
 (.seq (.region [o 63 (.mov 9), o 6 (.mov 63)])
 .ret)))))))⟩
def b37_0 : PCode :=
  (.seq (.seq (.region [o 4 (.mov 3), o 5 (.mov 0), o 6 (.len false 5), o 7 (.bin 0 .lss 4 6)])
 (.cond 7 .skip
  (.exit 0)))
 (.seq (.block 1 (.seq (.dregion [(o 10 (.mov 0), []), (o 11 (.mov 3), []), (o 12 (.idx 1 10 11), [0, 1]), (o 13 (.load false 1 12), [0, 1, 2]), (o 14 (.mov 0), []), (o 15 (.mov 3), []),
 (o 16 (.bin 0 .sub 15 (i 1)), [5]), (o 17 (.idx 1 14 16), [4, 5, 6]), (o 18 (.load false 1 17), [4, 5, 6, 7]),
 (o 19 (.bin 0 .leq 13 18), [0, 1, 2, 3, 4, 5, 6, 7, 8])])
 (.cond 19 (.seq (.region [o 2 (.mov bF)])
 .ret)
  .skip)))
 (.region [o 8 (.mov 3), o 9 (.bin 0 .add 8 (i 1)), o 3 (.mov 9)])))
/-- loop.example/widgetroom/laws.ascends -/
def pf37 : PFunc := ⟨1, [], false, false, [.tmp 2],
  (.seq (.region [o 2 (.mov bF)])
 (.seq (.seq (.region [o 3 (.mov (i 1))])
 (.block 0 (.loop [0, 3] [] [2] [] b37_0)))
 (.seq (.region [o 2 (.mov bT)])
 .ret)))⟩
def b38_0 : PCode :=
  (.seq (.seq (.region [o 6 (.mov 5), o 7 (.mov 0), o 8 (.len false 7), o 9 (.bin 0 .lss 6 8)])
 (.cond 9 .skip
  (.exit 0)))
 (.seq (.block 1 (.seq (.region [o 12 (.mov 0), o 13 (.mov 5), o 14 (.idx 1 12 13), o 15 (.load false 1 14), o 16 (.mov 1), o 17 (.bin 0 .eql 15 16)])
 (.cond 17 (.seq (.region [o 4 (.mov bT)])
 .ret)
  .skip)))
 (.region [o 10 (.mov 5), o 11 (.bin 0 .add 10 (i 1)), o 5 (.mov 11)])))
/-- loop.example/widgetroom/laws.isIn -/
def pf38 : PFunc := ⟨2, [], false, false, [.tmp 4],
  (.seq (.region [o 4 (.mov bF)])
 (.seq (.seq (.region [o 5 (.mov (i 0))])
 (.block 0 (.loop [0, 1, 5] [] [4] [] b38_0)))
 (.seq (.region [o 4 (.mov bF)])
 .ret)))⟩
/-- loop.example/widgetroom/spec.DrawOverlapsIn -/
def pf39 : PFunc := ⟨1, [], false, true, [.cell 2 true 1, .tmp 3, .tmp 4, .tmp 5],
  (.seq (.region [o 2 (.alloc zTree), o 3 (.mov (i 0)), o 4 (.mov (i 0)), o 5 (.mov (i 0))])
 (.seq (.region [o 6 (.mov 0), o 7 (.call s_newReader [6]), o 8 (.call s_seenNode [7]), o 9 (.ext 8 0), o 10 (.ext 8 1), o 11 (.ext 8 2), o 12 (.ext 8 3),
 u (.store 1 2 9), o 3 (.mov 10), o 4 (.mov 11), o 5 (.mov 12)])
 .ret))⟩
def b40_1 : PCode :=
  (.seq (.region [o 44 (.bin 0 .lss 43 42)])
 (.seq (.cond 44 .skip
  (.exit 2))
 (.seq (.block 3 (.seq (.region [o 45 (.idx 1 41 43), o 46 (.load false 1 45), o 15 (.mov 46)])
 (.seq (.dregion [(o 48 (.mov 9), []), (o 49 (.mov 13), []), (o 50 (.idx 4 48 49), [0, 1]), (o 51 (.load true 4 50), [0, 1, 2]), (o 52 (.mov 9), []), (o 53 (.mov 15), []),
 (o 54 (.idx 4 52 53), [4, 5]), (o 55 (.load true 4 54), [4, 5, 6]), (o 56 (.call i_Rect_meet [51, 55]), [0, 1, 2, 3, 4, 5, 6, 7]),
 (o 47 (.mov 56), [0, 1, 2, 3, 4, 5, 6, 7, 8]), (o 57 (.ext 47 0), [0, 1, 2, 3, 4, 5, 6, 7, 8, 9]), (o 58 (.ext 47 1), [0, 1, 2, 3, 4, 5, 6, 7, 8, 9]),
 (o 16 (.alloc zRect), []), (u (.store 4 16 57), [0, 1, 2, 3, 4, 5, 6, 7, 8, 9, 10, 12]),
 (o 17 (.mov 58), [0, 1, 2, 3, 4, 5, 6, 7, 8, 9, 10, 11, 12, 13])])
 (.seq (.region [o 59 (.mov 17)])
 (.cond 59 (.region [o 60 (.mov 11), o 61 (.mov 13), o 62 (.mov 15), o 63 (.bslice 2 zInt [(0, 61), (1, 62)]), o 64 (.app 1 17592186044416 60 63), o 11 (.mov 64)])
  .skip)))))
 (.region [o 65 (.bin 0 .add 43 (i 1)), o 43 (.mov 65)]))))
def b40_0 : PCode :=
  (.seq (.region [o 34 (.bin 0 .lss 33 32)])
 (.seq (.cond 34 .skip
  (.exit 0))
 (.seq (.block 1 (.seq (.region [o 35 (.mov 33), o 36 (.idx 1 31 33), o 37 (.load false 1 36), o 12 (.mov 35), o 13 (.mov 37)])
 (.seq (.region [o 38 (.mov 10), o 39 (.mov 12), o 40 (.bin 0 .add 39 (i 1)), o 41 (.slice false 1 38 (some 40) none), o 42 (.len false 41), o 43 (.mov (i 0))])
 (.block 2 (.loop [9, 10, 11, 13, 31, 32, 33, 41, 42, 43] [11, 64, 1021, 1030] [8, 9, 10, 11, 31, 32, 33] [8, 11, 64, 1021, 1030] b40_1)))))
 (.region [o 66 (.bin 0 .add 33 (i 1)), o 33 (.mov 66)]))))
/-- loop.example/widgetroom/impl.OverlapsIn -/
def pf40 : PFunc := ⟨4, [], false, false, [.tmp 8],
  (.seq (.region [o 4 (.box 0), o 8 (.mov nl)])
 (.seq (.region [o 18 (.load true 1 4), o 19 (.mov 1), o 20 (.mov 2), o 21 (.call i_LayoutTree [18, 19, 20]), o 9 (.mov 21)])
 (.seq (.seq (.region [o 22 (.mov 3), o 23 (.mov 9), o 24 (.len false 23), o 25 (.bin 0 .sub 24 (i 1)), o 26 (.call i_within [22, i 0, 25]), o 27 (.not 26)])
 (.cond 27 (.seq (.region [o 8 (.mov nl)])
 .ret)
  .skip))
 (.seq (.region [o 28 (.load true 1 4), o 29 (.mov 3), o 30 (.call i_Tree_kids [28, 29]), o 10 (.mov 30)])
 (.seq (.region [o 11 .nilroot])
 (.seq (.seq (.region [o 31 (.mov 10), o 32 (.len false 31), o 33 (.mov (i 0))])
 (.block 0 (.loop [9, 10, 11, 31, 32, 33] [11, 64, 1021, 1030] [8, 11] [8, 11, 64] b40_0)))
 (.seq (.region [o 67 (.mov 11), o 8 (.mov 67)])
 .ret)))))))⟩
def b41_1 : PCode :=
  (.seq (.seq (.region [o 42 (.mov 13), o 43 (.mov 10), o 44 (.len false 43), o 45 (.bin 0 .lss 42 44)])
 (.cond 45 .skip
  (.exit 2)))
 (.seq (.block 3 (.seq (.dregion [(o 49 (.mov 9), []), (o 50 (.mov 10), []), (o 51 (.mov 12), []), (o 52 (.idx 1 50 51), [1, 2]), (o 53 (.load false 1 52), [1, 2, 3]),
 (o 54 (.idx 4 49 53), [0, 1, 2, 3, 4]), (o 55 (.load true 4 54), [0, 1, 2, 3, 4, 5]), (o 56 (.mov 9), []), (o 57 (.mov 10), []), (o 58 (.mov 13), []),
 (o 59 (.idx 1 57 58), [8, 9]), (o 60 (.load false 1 59), [8, 9, 10]), (o 61 (.idx 4 56 60), [7, 8, 9, 10, 11]),
 (o 62 (.load true 4 61), [7, 8, 9, 10, 11, 12]), (o 63 (.call s_meet [55, 62]), [0, 1, 2, 3, 4, 5, 6, 7, 8, 9, 10, 11, 12, 13]),
 (o 48 (.mov 63), [0, 1, 2, 3, 4, 5, 6, 7, 8, 9, 10, 11, 12, 13, 14]), (o 64 (.ext 48 0), [0, 1, 2, 3, 4, 5, 6, 7, 8, 9, 10, 11, 12, 13, 14, 15]),
 (o 65 (.ext 48 1), [0, 1, 2, 3, 4, 5, 6, 7, 8, 9, 10, 11, 12, 13, 14, 15]), (o 14 (.alloc zRect), []),
 (u (.store 4 14 64), [0, 1, 2, 3, 4, 5, 6, 7, 8, 9, 10, 11, 12, 13, 14, 15, 16, 18]),
 (o 15 (.mov 65), [0, 1, 2, 3, 4, 5, 6, 7, 8, 9, 10, 11, 12, 13, 14, 15, 16, 17, 18, 19])])
 (.seq (.region [o 66 (.mov 15)])
 (.cond 66 (.dregion [(o 67 (.mov 11), []), (o 68 (.mov 10), []), (o 69 (.mov 12), []), (o 70 (.idx 1 68 69), [1, 2]), (o 71 (.load false 1 70), [1, 2, 3]),
 (o 72 (.mov 10), []), (o 73 (.mov 13), []), (o 74 (.idx 1 72 73), [5, 6]), (o 75 (.load false 1 74), [5, 6, 7]),
 (o 76 (.bslice 2 zInt [(0, 71), (1, 75)]), [1, 2, 3, 4, 5, 6, 7, 8]), (o 77 (.app 1 17592186044416 67 76), [0, 1, 2, 3, 4, 5, 6, 7, 8, 9]),
 (o 11 (.mov 77), [0, 1, 2, 3, 4, 5, 6, 7, 8, 9, 10])])
  .skip))))
 (.region [o 46 (.mov 13), o 47 (.bin 0 .add 46 (i 1)), o 13 (.mov 47)])))
def b41_0 : PCode :=
  (.seq (.seq (.region [o 34 (.mov 12), o 35 (.mov 10), o 36 (.len false 35), o 37 (.bin 0 .lss 34 36)])
 (.cond 37 .skip
  (.exit 0)))
 (.seq (.block 1 (.seq (.region [o 40 (.mov 12), o 41 (.bin 0 .add 40 (i 1)), o 13 (.mov 41)])
 (.block 2 (.loop [9, 10, 11, 12, 13] [33, 77, 1029, 1032] [8, 9, 10, 11, 12] [8, 33, 77, 1029, 1032] b41_1))))
 (.region [o 38 (.mov 12), o 39 (.bin 0 .add 38 (i 1)), o 12 (.mov 39)])))
/-- loop.example/widgetroom/spec.OverlapsIn -/
def pf41 : PFunc := ⟨4, [], false, false, [.tmp 8],
  (.seq (.region [o 4 (.box 0), o 8 (.mov nl)])
 (.seq (.seq (.region [o 16 (.load true 1 4), o 17 (.mov 3), o 18 (.call s_goodNode [16, 17]), o 19 (.not 18), o 20 (.mov 19), gd 21 20 false (.mov 1), gd 22 20 false (.mov 2),
 gd 23 20 false (.call s_goodRoom [21, 22]), gd 24 20 false (.not 23), o 25 (.pick 20 bT 24)])
 (.cond 25 (.seq (.region [o 8 (.mov nl)])
 .ret)
  .skip))
 (.seq (.region [o 26 (.load true 1 4), o 27 (.mov 1), o 28 (.mov 2), o 29 (.call s_layout [26, 27, 28]), o 9 (.mov 29)])
 (.seq (.region [o 30 (.load true 1 4), o 31 (.mov 3), o 32 (.call s_kidsOf [30, 31]), o 10 (.mov 32)])
 (.seq (.region [o 33 (.bslice 0 zInt []), o 11 (.mov 33)])
 (.seq (.seq (.region [o 12 (.mov (i 0))])
 (.block 0 (.loop [9, 10, 11, 12] [33, 77, 1029, 1032] [8, 11] [8, 33, 77] b41_0)))
 (.seq (.region [o 78 (.mov 11), o 8 (.mov 78)])
 .ret)))))))⟩
/-- loop.example/widgetroom/spec.DrawHitNode -/
def pf42 : PFunc := ⟨1, [], false, true, [.cell 2 true 1, .tmp 3, .tmp 4, .tmp 5, .tmp 6],
  (.seq (.region [o 2 (.alloc zTree), o 3 (.mov (i 0)), o 4 (.mov (i 0)), o 5 (.mov (i 0)), o 6 (.mov (i 0))])
 (.seq (.region [o 14 (.mov 0), o 15 (.call s_newReader [14]), o 7 (.mov 15)])
 (.seq (.region [o 17 (.mov 7), o 18 (.call s_treeRoom [17]), o 16 (.mov 18), o 19 (.ext 16 0), o 20 (.ext 16 1), o 21 (.ext 16 2), o 8 (.alloc zTree), u (.store 1 8 19),
 o 9 (.mov 20), o 10 (.mov 21)])
 (.seq (.region [o 22 (.mov 7), o 23 (.mov 9), o 24 (.bin 0 .sub 23 (i 1)), o 25 (.mov 9),
 o 26 (.bslice 6 zInt [(0, i 0), (1, i 5), (2, i 20), (3, 24), (4, 25), (5, i (-1))]), o 27 (.call s_reader_one [22, 26]), o 11 (.mov 27)])
 (.seq (.region [o 28 (.mov 7), o 29 (.mov 10), o 30 (.bin 0 .sub 29 (i 1)), o 31 (.mov 10), o 32 (.bslice 5 zInt [(0, i 0), (1, i 7), (2, i 15), (3, 30), (4, 31)]),
 o 33 (.call s_reader_one [28, 32]), o 12 (.mov 33)])
 (.seq (.seq (.region [o 34 (.load true 1 8), o 35 (.call s_validTree [34]), o 36 (.mov 35), gd 37 36 true (.mov 9), gd 38 36 true (.mov 10),
 gd 39 36 true (.call s_goodRoom [37, 38]), o 40 (.pick 36 39 bF), o 41 (.mov 40), gd 42 41 true (.mov 7), gd 43 41 true (.call s_reader_pick [42, i 2]),
 gd 44 41 true (.bin 0 .eql 43 (i 0)), o 45 (.pick 41 44 bF)])
 (.cond 45 (.seq (.dregion [(o 46 (.load true 1 8), []), (o 47 (.mov 9), []), (o 48 (.mov 10), []), (o 49 (.call s_layout [46, 47, 48]), [0, 1, 2]), (o 50 (.mov 7), []),
 (o 51 (.fld 0 8), []), (o 52 (.load false 1 51), [5]), (o 53 (.len false 52), [5, 6]), (o 54 (.call s_reader_pick [50, 53]), [0, 1, 2, 3, 4, 5, 6, 7]),
 (o 55 (.idx 4 49 54), [0, 1, 2, 3, 4, 5, 6, 7, 8]), (o 56 (.load true 4 55), [0, 1, 2, 3, 4, 5, 6, 7, 8, 9]), (o 13 (.alloc zRect), []),
 (u (.store 4 13 56), [0, 1, 2, 3, 4, 5, 6, 7, 8, 9, 10, 11])])
 (.seq (.region [o 57 (.fld 0 13), o 58 (.load false 1 57), o 59 (.fld 2 13), o 60 (.load false 1 59), o 61 (.bin 0 .quo 60 (i 2)), o 62 (.bin 0 .add 58 61),
 o 11 (.mov 62)])
 (.region [o 63 (.fld 1 13), o 64 (.load false 1 63), o 65 (.fld 3 13), o 66 (.load false 1 65), o 67 (.bin 0 .quo 66 (i 2)), o 68 (.bin 0 .add 64 67),
 o 12 (.mov 68)])))
  .skip))
 (.seq (.region [o 69 (.load true 1 8), o 70 (.mov 9), o 71 (.mov 10), o 72 (.mov 11), o 73 (.mov 12), u (.store 1 2 69), o 3 (.mov 70), o 4 (.mov 71), o 5 (.mov 72),
 o 6 (.mov 73)])
 .ret)))))))⟩
def b43_1 : PCode :=
  (.seq (.region [o 36 (.bin 0 .lss 35 34)])
 (.seq (.cond 36 .skip
  (.exit 2))
 (.seq (.block 3 (.seq (.region [o 37 (.idx 1 33 35), o 38 (.load false 1 37), o 15 (.mov 38)])
 (.seq (.region [o 39 (.mov 11), o 40 (.mov 15), o 41 (.idx 4 39 40), o 42 (.load true 4 41), o 43 (.mov 3), o 44 (.mov 4), o 45 (.call i_Rect_has [42, 43, 44])])
 (.cond 45 (.region [o 46 (.mov 15), o 13 (.mov 46)])
  .skip))))
 (.region [o 47 (.bin 0 .add 35 (i 1)), o 35 (.mov 47)]))))
def b43_0 : PCode :=
  (.block 1 (.seq (.region [o 13 (.mov (i (-1)))])
 (.seq (.seq (.region [o 31 (.load true 1 5), o 32 (.mov 12), o 33 (.call i_Tree_kids [31, 32]), o 34 (.len false 33), o 35 (.mov (i 0))])
 (.block 2 (.loop [3, 4, 5, 11, 12, 13, 33, 34, 35] [5, 1005, 1019, 1033] [3, 4, 5, 10, 11, 12, 13] [5, 1005, 1019] b43_1)))
 (.seq (.seq (.region [o 48 (.mov 13), o 49 (.bin 0 .lss 48 (i 0))])
 (.cond 49 (.seq (.region [o 50 (.mov 12), o 10 (.mov 50)])
 .ret)
  .skip))
 (.region [o 51 (.mov 13), o 12 (.mov 51)])))))
/-- loop.example/widgetroom/impl.HitNode -/
def pf43 : PFunc := ⟨5, [], false, false, [.tmp 10],
  (.seq (.region [o 5 (.box 0), o 10 (.mov (i 0))])
 (.seq (.region [o 16 (.load true 1 5), o 17 (.mov 1), o 18 (.mov 2), o 19 (.call i_LayoutTree [16, 17, 18]), o 11 (.mov 19)])
 (.seq (.seq (.region [o 20 (.mov 11), o 21 (.bin 2 .eql 20 nl), o 22 (.mov 21), gd 23 22 false (.mov 11), gd 24 22 false (.idx 4 23 (i 0)), gd 25 22 false (.load true 4 24),
 gd 26 22 false (.mov 3), gd 27 22 false (.mov 4), gd 28 22 false (.call i_Rect_has [25, 26, 27]), gd 29 22 false (.not 28), o 30 (.pick 22 bT 29)])
 (.cond 30 (.seq (.region [o 10 (.mov (i (-1)))])
 .ret)
  .skip))
 (.seq (.region [o 12 (.mov (i 0))])
 (.block 0 (.loop [3, 4, 5, 11, 12] [5, 1005, 1019] [10] [] b43_0))))))⟩
/-- loop.example/widgetroom/spec.HitNode -/
def pf44 : PFunc := ⟨5, [], false, false, [.tmp 10],
  (.seq (.region [o 5 (.box 0), o 10 (.mov (i 0))])
 (.seq (.seq (.region [o 11 (.load true 1 5), o 12 (.call s_validTree [11]), o 13 (.not 12), o 14 (.mov 13), gd 15 14 false (.mov 1), gd 16 14 false (.mov 2),
 gd 17 14 false (.call s_goodRoom [15, 16]), gd 18 14 false (.not 17), o 19 (.pick 14 bT 18), o 20 (.mov 19), gd 21 20 false (.mov 3),
 gd 22 20 false (.mov 1), gd 23 20 false (.bin 0 .sub 22 (i 1)), gd 24 20 false (.call s_inRange [21, i 0, 23]), gd 25 20 false (.not 24),
 o 26 (.pick 20 bT 25), o 27 (.mov 26), gd 28 27 false (.mov 4), gd 29 27 false (.mov 2), gd 30 27 false (.bin 0 .sub 29 (i 1)),
 gd 31 27 false (.call s_inRange [28, i 0, 30]), gd 32 27 false (.not 31), o 33 (.pick 27 bT 32)])
 (.cond 33 (.seq (.region [o 10 (.mov (i (-1)))])
 .ret)
  .skip))
 (.seq (.dregion [(o 34 (.load true 1 5), []), (o 35 (.load true 1 5), []), (o 36 (.mov 1), []), (o 37 (.mov 2), []), (o 38 (.call s_layout [35, 36, 37]), [1, 2, 3]),
 (o 39 (.mov 3), []), (o 40 (.mov 4), []), (o 41 (.call s_hit [34, 38, i 0, 39, 40]), [0, 1, 2, 3, 4, 5, 6]), (o 10 (.mov 41), [0, 1, 2, 3, 4, 5, 6, 7])])
 .ret)))⟩
/-- loop.example/widgetroom/impl.SeenPart -/
def pf45 : PFunc := ⟨4, [], false, false, [.cell 8 true 4, .tmp 9],
  (.seq (.region [o 4 (.box 0), o 8 (.alloc zRect), o 9 (.mov bF)])
 (.seq (.region [o 11 (.load true 1 4), o 12 (.mov 1), o 13 (.mov 2), o 14 (.call i_LayoutTree [11, 12, 13]), o 10 (.mov 14)])
 (.seq (.seq (.region [o 15 (.mov 3), o 16 (.mov 10), o 17 (.len false 16), o 18 (.bin 0 .sub 17 (i 1)), o 19 (.call i_within [15, i 0, 18]), o 20 (.not 19)])
 (.cond 20 (.seq (.region [o 21 (.build zRect []), u (.store 4 8 21), o 9 (.mov bF)])
 .ret)
  .skip))
 (.seq (.region [o 22 (.load true 1 4), o 23 (.mov 10), o 24 (.mov 3), o 25 (.call i_Tree_seen [22, 23, 24]), o 26 (.ext 25 0), o 27 (.ext 25 1), u (.store 4 8 26),
 o 9 (.mov 27)])
 .ret))))⟩
def b46_0 : PCode :=
  (.seq (.seq (.region [o 12 (.mov 5), o 13 (.mov 0), o 14 (.len false 13), o 15 (.bin 0 .lss 12 14)])
 (.cond 15 .skip
  (.exit 0)))
 (.seq (.block 1 (.seq (.region [o 18 (.mov 0), o 19 (.mov 5), o 20 (.idx 34 18 19), o 21 (.load true 34 20), o 22 (.mov 1), o 23 (.call l_szNode [21, 22]), o 1 (.mov 23)])
 (.seq (.region [o 24 (.mov 1), o 25 (.bin 0 .lss 24 (i 0))])
 (.cond 25 (.seq (.region [o 4 (.mov (i (-1)))])
 .ret)
  .skip))))
 (.region [o 16 (.mov 5), o 17 (.bin 0 .add 16 (i 1)), o 5 (.mov 17)])))
/-- loop.example/widgetroom/laws.szNodeS -/
def pf46 : PFunc := ⟨2, [], false, false, [.tmp 4],
  (.seq (.region [o 4 (.mov (i 0))])
 (.seq (.region [o 6 (.mov 1), o 7 (.mov 0), o 8 (.len false 7), o 9 (.bin 0 .sub 6 8), o 1 (.mov 9)])
 (.seq (.seq (.region [o 10 (.mov 1), o 11 (.bin 0 .lss 10 (i 0))])
 (.cond 11 (.seq (.region [o 4 (.mov (i (-1)))])
 .ret)
  .skip))
 (.seq (.seq (.region [o 5 (.mov (i 0))])
 (.block 0 (.loop [0, 1, 5] [] [1, 4] [] b46_0)))
 (.seq (.region [o 26 (.mov 1), o 4 (.mov 26)])
 .ret)))))⟩
/-- loop.example/widgetroom/spec.goodWish -/
def pf47 : PFunc := ⟨4, [], false, false, [.tmp 8],
  (.seq (.region [o 4 (.box 0), o 8 (.mov bF)])
 (.seq (.region [o 9 (.load true 1 4), o 10 (.mov 1), o 11 (.call s_goodNode [9, 10]), o 12 (.mov 11), gd 13 12 true (.mov 2),
 gd 14 12 true (.call s_inRange [13, i 0, i 30]), o 15 (.pick 12 14 bF), o 16 (.mov 15), gd 17 16 true (.mov 3),
 gd 18 16 true (.call s_inRange [17, i 0, i 30]), o 19 (.pick 16 18 bF), o 8 (.mov 19)])
 .ret))⟩
def b48_0 : PCode :=
  (.seq (.seq (.region [o 14 (.mov 10), o 15 (.fld 0 4), o 16 (.load false 1 15), o 17 (.len false 16), o 18 (.bin 0 .lss 14 17)])
 (.cond 18 .skip
  (.exit 0)))
 (.seq (.block 1 (.seq (.region [o 21 (.fld 0 4), o 22 (.load false 1 21), o 23 (.mov 10), o 24 (.idx 34 22 23), o 25 (.load true 34 24), o 11 (.alloc zNode), u (.store 34 11 25)])
 (.seq (.region [o 26 (.bslice 0 zLine []), o 27 (.fld 5 11), o 28 (.load false 1 27), o 29 (.app 2 8796093022208 26 28), o 30 (.fld 5 11), u (.store 1 30 29)])
 (.seq (.region [o 31 (.bslice 0 zLine []), o 32 (.fld 6 11), o 33 (.load false 1 32), o 34 (.app 2 8796093022208 31 33), o 35 (.fld 6 11), u (.store 1 35 34)])
 (.region [o 36 (.fld 0 9), o 37 (.load false 1 36), o 38 (.load true 34 11), o 39 (.bslice 1 zNode [(0, 38)]), o 40 (.app 34 488671834567 37 39), o 41 (.fld 0 9),
 u (.store 1 41 40)])))))
 (.region [o 19 (.mov 10), o 20 (.bin 0 .add 19 (i 1)), o 10 (.mov 20)])))
/-- loop.example/widgetroom/spec.resized -/
def pf48 : PFunc := ⟨4, [], false, false, [.cell 8 true 1],
  (.seq (.region [o 4 (.box 0), o 8 (.alloc zTree)])
 (.seq (.region [o 12 (.bslice 0 zNode []), o 13 (.build zTree [(0, 1, 12)]), o 9 (.alloc zTree), u (.store 1 9 13)])
 (.seq (.seq (.region [o 10 (.mov (i 0))])
 (.block 0 (.loop [1, 2, 3, 4, 8, 9, 10] [4, 8, 9, 12, 40, 1004, 1008, 1009] [1, 2, 3, 8, 9] [8, 9, 12, 40, 1008, 1009] b48_0)))
 (.seq (.region [o 42 (.fld 0 9), o 43 (.load false 1 42), o 44 (.mov 1), o 45 (.mov 2), o 46 (.idx 34 43 44), o 47 (.fld 1 46), u (.store 1 47 45)])
 (.seq (.region [o 48 (.fld 0 9), o 49 (.load false 1 48), o 50 (.mov 1), o 51 (.mov 3), o 52 (.idx 34 49 50), o 53 (.fld 2 52), u (.store 1 53 51)])
 (.seq (.region [o 54 (.load true 1 9), u (.store 1 8 54)])
 .ret))))))⟩
def b49_0 : PCode :=
  (.seq (.seq (.region [o 8 (.mov 4), o 9 (.mov 0), o 10 (.len false 9), o 11 (.bin 0 .lss 8 10)])
 (.cond 11 .skip
  (.exit 0)))
 (.seq (.block 1 (.region [o 14 (.mov 3), o 15 (.mov 4), o 16 (.mov 0), o 17 (.mov 4), o 18 (.idx 34 16 17), o 19 (.load true 34 18), o 20 (.call l_toNode [19]),
 o 21 (.idx 34 14 15), u (.store 34 21 20)]))
 (.region [o 12 (.mov 4), o 13 (.bin 0 .add 12 (i 1)), o 4 (.mov 13)])))
/-- loop.example/widgetroom/laws.toNodeS -/
def pf49 : PFunc := ⟨1, [], false, false, [.tmp 2],
  (.seq (.region [o 2 (.mov nl)])
 (.seq (.region [o 5 (.mov 0), o 6 (.len false 5), o 7 (.mk zNode 488671834567 6), o 3 (.mov 7)])
 (.seq (.seq (.region [o 4 (.mov (i 0))])
 (.block 0 (.loop [0, 3, 4] [7, 6020, 7020] [2, 3] [2, 7, 6020, 7020] b49_0)))
 (.seq (.region [o 22 (.mov 3), o 2 (.mov 22)])
 .ret))))⟩
def b50_0 : PCode :=
  (.seq (.region [o 15 (.bin 0 .lss 14 13)])
 (.seq (.cond 15 .skip
  (.exit 0))
 (.seq (.block 1 (.seq (.region [o 16 (.mov 14), o 17 (.idx 34 12 14), o 18 (.load true 34 17), o 4 (.alloc zNode), o 3 (.mov 16), u (.store 34 4 18)])
 (.seq (.seq (.region [o 19 (.mov 3), o 20 (.bin 0 .eql 19 (i 0)), o 21 (.mov 20), gd 22 21 true (.fld 0 4), gd 23 21 true (.load false 1 22),
 gd 24 21 true (.bin 0 .neq 23 (i (-1))), o 25 (.pick 21 24 bF), o 26 (.mov 25), gd 27 26 false (.mov 3), gd 28 26 false (.bin 0 .gtr 27 (i 0)),
 gd 29 26 false (.mov 28), gd 30 29 true (.fld 0 4), gd 31 29 true (.load false 1 30), gd 32 29 true (.mov 3), gd 33 29 true (.bin 0 .sub 32 (i 1)),
 gd 34 29 true (.call i_within [31, i 0, 33]), gd 35 29 true (.not 34), gd 36 26 false (.pick 29 35 bF), o 37 (.pick 26 bT 36), o 38 (.mov 37),
 gd 39 38 false (.load true 34 4), gd 40 38 false (.call i_Node_ok [39]), gd 41 38 false (.not 40), o 42 (.pick 38 bT 41)])
 (.cond 42 (.seq (.region [o 2 (.mov bF)])
 .ret)
  .skip))
 (.seq (.region [o 43 (.mov 3), o 44 (.bin 0 .gtr 43 (i 0))])
 (.cond 44 (.seq (.region [o 45 (.fld 0 1), o 46 (.load false 1 45), o 47 (.fld 0 4), o 48 (.load false 1 47), o 49 (.idx 34 46 48), o 50 (.load true 34 49), o 5 (.alloc zNode),
 u (.store 34 5 50)])
 (.seq (.region [o 51 (.fld 4 5), o 52 (.load false 1 51), o 53 (.bin 0 .eql 52 (i 1)), o 54 (.mov 53), gd 55 54 true (.fld 16 4), gd 56 54 true (.load true 9 55),
 gd 57 54 true (.fld 5 5), gd 58 54 true (.load false 1 57), gd 59 54 true (.fld 6 5), gd 60 54 true (.load false 1 59),
 gd 61 54 true (.build zGrid [(0, 1, 58), (1, 1, 60)]), gd 62 54 true (.call i_Cell_lies [56, 61]), gd 63 54 true (.not 62), o 64 (.pick 54 63 bF)])
 (.cond 64 (.seq (.region [o 2 (.mov bF)])
 .ret)
  .skip)))
  .skip)))))
 (.region [o 65 (.bin 0 .add 14 (i 1)), o 14 (.mov 65)]))))
/-- loop.example/widgetroom/impl.ValidTree -/
def pf50 : PFunc := ⟨1, [], false, false, [.tmp 2],
  (.seq (.region [o 1 (.box 0), o 2 (.mov bF)])
 (.seq (.seq (.region [o 6 (.fld 0 1), o 7 (.load false 1 6), o 8 (.len false 7), o 9 (.call i_within [8, i 1, i 10]), o 10 (.not 9)])
 (.cond 10 (.seq (.region [o 2 (.mov bF)])
 .ret)
  .skip))
 (.seq (.seq (.region [o 11 (.fld 0 1), o 12 (.load false 1 11), o 13 (.len false 12), o 14 (.mov (i 0))])
 (.block 0 (.loop [1, 12, 13, 14] [1, 1001] [2] [] b50_0)))
 (.seq (.region [o 2 (.mov bT)])
 .ret))))⟩
/-- loop.example/widgetroom/impl.within -/
def pf51 : PFunc := ⟨3, [], false, false, [.tmp 6],
  (.seq (.region [o 6 (.mov bF)])
 (.seq (.region [o 7 (.mov 0), o 8 (.mov 1), o 9 (.bin 0 .geq 7 8), o 10 (.mov 9), gd 11 10 true (.mov 0), gd 12 10 true (.mov 2), gd 13 10 true (.bin 0 .leq 11 12),
 o 14 (.pick 10 13 bF), o 6 (.mov 14)])
 .ret))⟩
def b52_0 : PCode :=
  (.seq (.region [o 17 (.bin 0 .lss 16 15)])
 (.seq (.cond 17 .skip
  (.exit 0))
 (.seq (.block 1 (.seq (.region [o 18 (.idx 34 14 16), o 19 (.load true 34 18), o 11 (.alloc zNode), u (.store 34 11 19)])
 (.seq (.dregion [(o 20 (.fld 5 11), []), (o 21 (.load false 1 20), [0]), (o 22 (.call x_Clone_Line [21]), [0, 1]), (o 23 (.fld 6 11), []), (o 24 (.load false 1 23), [3]),
 (o 25 (.call x_Clone_Line [24]), [0, 1, 2, 3, 4]), (o 26 (.fld 5 11), [0, 1, 2, 3, 4]), (u (.store 1 26 22), [0, 1, 2, 3, 4, 5, 6]),
 (o 27 (.fld 6 11), [0, 1, 2, 3, 4, 5, 6, 7]), (u (.store 1 27 25), [0, 1, 2, 3, 4, 5, 6, 7, 8])])
 (.region [o 28 (.fld 0 9), o 29 (.load false 1 28), o 30 (.load true 34 11), o 31 (.bslice 1 zNode [(0, 30)]), o 32 (.app 34 488671834567 29 31), o 33 (.fld 0 9),
 u (.store 1 33 32)]))))
 (.region [o 34 (.bin 0 .add 16 (i 1)), o 16 (.mov 34)]))))
/-- (loop.example/widgetroom/impl.Tree).asked -/
def pf52 : PFunc := ⟨4, [], false, false, [.cell 8 true 1],
  (.seq (.region [o 4 (.box 0), o 8 (.alloc zTree)])
 (.seq (.region [o 12 (.build zTree []), o 9 (.alloc zTree), u (.store 1 9 12)])
 (.seq (.seq (.region [o 13 (.fld 0 4), o 14 (.load false 1 13), o 15 (.len false 14), o 16 (.mov (i 0))])
 (.block 0 (.loop [1, 2, 3, 8, 9, 14, 15, 16] [4, 8, 9, 32, 1004, 1008, 1009] [1, 2, 3, 8, 9] [8, 9, 32, 1008, 1009] b52_0)))
 (.seq (.dregion [(o 35 (.fld 0 9), []), (o 36 (.load false 1 35), [0]), (o 37 (.mov 1), []), (o 38 (.fld 0 9), []), (o 39 (.load false 1 38), [3]), (o 40 (.mov 1), []),
 (o 41 (.mov 2), []), (o 42 (.mov 3), []), (o 43 (.idx 34 36 37), [0, 1, 2, 6]), (o 44 (.fld 1 43), [0, 1, 2, 6, 8]),
 (u (.store 1 44 41), [0, 1, 2, 6, 8, 9]), (o 45 (.idx 34 39 40), [0, 1, 2, 3, 4, 5, 6, 7, 8, 9, 10]),
 (o 46 (.fld 2 45), [0, 1, 2, 3, 4, 5, 6, 7, 8, 9, 10, 11]), (u (.store 1 46 42), [0, 1, 2, 3, 4, 5, 6, 7, 8, 9, 10, 11, 12])])
 (.seq (.region [o 47 (.load true 1 9), u (.store 1 8 47)])
 .ret)))))⟩
def b53_0 : PCode :=
  (.seq (.seq (.region [o 11 (.mov 5), o 12 (.mov 0), o 13 (.len false 12), o 14 (.bin 0 .lss 11 13)])
 (.cond 14 .skip
  (.exit 0)))
 (.seq (.block 1 (.seq (.dregion [(o 17 (.mov 0), []), (o 18 (.mov 5), []), (o 19 (.idx 34 17 18), [0, 1]), (o 20 (.load true 34 19), [0, 1, 2]), (o 21 (.mov 1), []), (o 22 (.mov 5), []),
 (o 23 (.idx 34 21 22), [4, 5]), (o 24 (.load true 34 23), [4, 5, 6]), (o 25 (.call l_eqNode [20, 24]), [0, 1, 2, 3, 4, 5, 6, 7]),
 (o 26 (.not 25), [0, 1, 2, 3, 4, 5, 6, 7, 8])])
 (.cond 26 (.seq (.region [o 4 (.mov bF)])
 .ret)
  .skip)))
 (.region [o 15 (.mov 5), o 16 (.bin 0 .add 15 (i 1)), o 5 (.mov 16)])))
/-- loop.example/widgetroom/laws.eqNodeS -/
def pf53 : PFunc := ⟨2, [], false, false, [.tmp 4],
  (.seq (.region [o 4 (.mov bF)])
 (.seq (.seq (.region [o 6 (.mov 0), o 7 (.len false 6), o 8 (.mov 1), o 9 (.len false 8), o 10 (.bin 0 .neq 7 9)])
 (.cond 10 (.seq (.region [o 4 (.mov bF)])
 .ret)
  .skip))
 (.seq (.seq (.region [o 5 (.mov (i 0))])
 (.block 0 (.loop [0, 1, 5] [] [4] [] b53_0)))
 (.seq (.region [o 4 (.mov bT)])
 .ret))))⟩
def b54_0 : PCode :=
  (.seq (.seq (.region [o 6 (.mov 5), o 7 (.mov 0), o 8 (.len false 7), o 9 (.bin 0 .lss 6 8)])
 (.cond 9 .skip
  (.exit 0)))
 (.seq (.block 1 (.seq (.region [o 12 (.mov 0), o 13 (.mov 5), o 14 (.mov 1), o 15 (.idx 34 12 13), o 16 (.fld 0 15), u (.store 1 16 14)])
 (.seq (.region [o 17 (.mov 1), o 18 (.bin 0 .add 17 (i 1)), o 1 (.mov 18)])
 (.seq (.region [o 19 (.mov 0), o 20 (.mov 5), o 21 (.mov 1), o 22 (.idx 34 19 20), o 23 (.fld 1 22), u (.store 1 23 21)])
 (.seq (.region [o 24 (.mov 1), o 25 (.bin 0 .add 24 (i 1)), o 1 (.mov 25)])
 (.seq (.region [o 26 (.mov 0), o 27 (.mov 5), o 28 (.mov 1), o 29 (.idx 34 26 27), o 30 (.fld 2 29), u (.store 1 30 28)])
 (.seq (.region [o 31 (.mov 1), o 32 (.bin 0 .add 31 (i 1)), o 1 (.mov 32)])
 (.seq (.region [o 33 (.mov 0), o 34 (.mov 5), o 35 (.mov 1), o 36 (.bin 0 .rem 35 (i 3)), o 37 (.bin 0 .eql 36 (i 0)), o 38 (.idx 34 33 34), o 39 (.fld 3 38),
 u (.store 1 39 37)])
 (.seq (.region [o 40 (.mov 1), o 41 (.bin 0 .add 40 (i 1)), o 1 (.mov 41)])
 (.seq (.region [o 42 (.mov 0), o 43 (.mov 5), o 44 (.mov 1), o 45 (.idx 34 42 43), o 46 (.fld 4 45), u (.store 1 46 44)])
 (.seq (.region [o 47 (.mov 1), o 48 (.bin 0 .add 47 (i 1)), o 1 (.mov 48)])
 (.seq (.region [o 49 (.mov 0), o 50 (.mov 5), o 51 (.idx 34 49 50), o 52 (.fld 5 51), o 53 (.load false 1 52), o 54 (.mov 1), o 55 (.call l_markLineS [53, 54]),
 o 1 (.mov 55)])
 (.seq (.region [o 56 (.mov 0), o 57 (.mov 5), o 58 (.idx 34 56 57), o 59 (.fld 6 58), o 60 (.load false 1 59), o 61 (.mov 1), o 62 (.call l_markLineS [60, 61]),
 o 1 (.mov 62)])
 (.seq (.region [o 63 (.mov 0), o 64 (.mov 5), o 65 (.mov 1), o 66 (.idx 34 63 64), o 67 (.fld 7 66), o 68 (.fld 0 67), u (.store 1 68 65)])
 (.seq (.region [o 69 (.mov 1), o 70 (.bin 0 .add 69 (i 1)), o 1 (.mov 70)])
 (.seq (.region [o 71 (.mov 0), o 72 (.mov 5), o 73 (.mov 1), o 74 (.idx 34 71 72), o 75 (.fld 7 74), o 76 (.fld 1 75), u (.store 1 76 73)])
 (.seq (.region [o 77 (.mov 1), o 78 (.bin 0 .add 77 (i 1)), o 1 (.mov 78)])
 (.seq (.region [o 79 (.mov 0), o 80 (.mov 5), o 81 (.mov 1), o 82 (.idx 34 79 80), o 83 (.fld 7 82), o 84 (.fld 2 83), u (.store 1 84 81)])
 (.seq (.region [o 85 (.mov 1), o 86 (.bin 0 .add 85 (i 1)), o 1 (.mov 86)])
 (.seq (.region [o 87 (.mov 0), o 88 (.mov 5), o 89 (.mov 1), o 90 (.bin 0 .rem 89 (i 3)), o 91 (.bin 0 .eql 90 (i 0)), o 92 (.idx 34 87 88), o 93 (.fld 7 92),
 o 94 (.fld 3 93), u (.store 1 94 91)])
 (.seq (.region [o 95 (.mov 1), o 96 (.bin 0 .add 95 (i 1)), o 1 (.mov 96)])
 (.seq (.region [o 97 (.mov 0), o 98 (.mov 5), o 99 (.mov 1), o 100 (.bin 0 .rem 99 (i 3)), o 101 (.bin 0 .eql 100 (i 0)), o 102 (.idx 34 97 98), o 103 (.fld 7 102),
 o 104 (.fld 4 103), u (.store 1 104 101)])
 (.seq (.region [o 105 (.mov 1), o 106 (.bin 0 .add 105 (i 1)), o 1 (.mov 106)])
 (.seq (.region [o 107 (.mov 0), o 108 (.mov 5), o 109 (.mov 1), o 110 (.bin 0 .rem 109 (i 3)), o 111 (.bin 0 .eql 110 (i 0)), o 112 (.idx 34 107 108),
 o 113 (.fld 7 112), o 114 (.fld 5 113), u (.store 1 114 111)])
 (.seq (.region [o 115 (.mov 1), o 116 (.bin 0 .add 115 (i 1)), o 1 (.mov 116)])
 (.seq (.region [o 117 (.mov 0), o 118 (.mov 5), o 119 (.mov 1), o 120 (.idx 34 117 118), o 121 (.fld 7 120), o 122 (.fld 6 121), u (.store 1 122 119)])
 (.seq (.region [o 123 (.mov 1), o 124 (.bin 0 .add 123 (i 1)), o 1 (.mov 124)])
 (.seq (.region [o 125 (.mov 0), o 126 (.mov 5), o 127 (.mov 1), o 128 (.idx 34 125 126), o 129 (.fld 7 128), o 130 (.fld 7 129), u (.store 1 130 127)])
 (.seq (.region [o 131 (.mov 1), o 132 (.bin 0 .add 131 (i 1)), o 1 (.mov 132)])
 (.seq (.region [o 133 (.mov 0), o 134 (.mov 5), o 135 (.mov 1), o 136 (.idx 34 133 134), o 137 (.fld 7 136), o 138 (.fld 8 137), u (.store 1 138 135)])
 (.seq (.region [o 139 (.mov 1), o 140 (.bin 0 .add 139 (i 1)), o 1 (.mov 140)])
 (.seq (.region [o 141 (.mov 0), o 142 (.mov 5), o 143 (.mov 1), o 144 (.idx 34 141 142), o 145 (.fld 16 144), o 146 (.fld 0 145), u (.store 1 146 143)])
 (.seq (.region [o 147 (.mov 1), o 148 (.bin 0 .add 147 (i 1)), o 1 (.mov 148)])
 (.seq (.region [o 149 (.mov 0), o 150 (.mov 5), o 151 (.mov 1), o 152 (.idx 34 149 150), o 153 (.fld 16 152), o 154 (.fld 1 153), u (.store 1 154 151)])
 (.seq (.region [o 155 (.mov 1), o 156 (.bin 0 .add 155 (i 1)), o 1 (.mov 156)])
 (.seq (.region [o 157 (.mov 0), o 158 (.mov 5), o 159 (.mov 1), o 160 (.idx 34 157 158), o 161 (.fld 16 160), o 162 (.fld 2 161), u (.store 1 162 159)])
 (.seq (.region [o 163 (.mov 1), o 164 (.bin 0 .add 163 (i 1)), o 1 (.mov 164)])
 (.seq (.region [o 165 (.mov 0), o 166 (.mov 5), o 167 (.mov 1), o 168 (.idx 34 165 166), o 169 (.fld 16 168), o 170 (.fld 3 169), u (.store 1 170 167)])
 (.seq (.region [o 171 (.mov 1), o 172 (.bin 0 .add 171 (i 1)), o 1 (.mov 172)])
 (.seq (.region [o 173 (.mov 0), o 174 (.mov 5), o 175 (.mov 1), o 176 (.idx 34 173 174), o 177 (.fld 16 176), o 178 (.fld 4 177), u (.store 1 178 175)])
 (.seq (.region [o 179 (.mov 1), o 180 (.bin 0 .add 179 (i 1)), o 1 (.mov 180)])
 (.seq (.region [o 181 (.mov 0), o 182 (.mov 5), o 183 (.mov 1), o 184 (.idx 34 181 182), o 185 (.fld 16 184), o 186 (.fld 5 185), u (.store 1 186 183)])
 (.seq (.region [o 187 (.mov 1), o 188 (.bin 0 .add 187 (i 1)), o 1 (.mov 188)])
 (.seq (.region [o 189 (.mov 0), o 190 (.mov 5), o 191 (.mov 1), o 192 (.idx 34 189 190), o 193 (.fld 16 192), o 194 (.fld 6 193), u (.store 1 194 191)])
 (.seq (.region [o 195 (.mov 1), o 196 (.bin 0 .add 195 (i 1)), o 1 (.mov 196)])
 (.seq (.region [o 197 (.mov 0), o 198 (.mov 5), o 199 (.mov 1), o 200 (.idx 34 197 198), o 201 (.fld 16 200), o 202 (.fld 7 201), u (.store 1 202 199)])
 (.seq (.region [o 203 (.mov 1), o 204 (.bin 0 .add 203 (i 1)), o 1 (.mov 204)])
 (.seq (.region [o 205 (.mov 0), o 206 (.mov 5), o 207 (.mov 1), o 208 (.idx 34 205 206), o 209 (.fld 16 208), o 210 (.fld 8 209), u (.store 1 210 207)])
 (.seq (.region [o 211 (.mov 1), o 212 (.bin 0 .add 211 (i 1)), o 1 (.mov 212)])
 (.seq (.region [o 213 (.mov 0), o 214 (.mov 5), o 215 (.mov 1), o 216 (.idx 34 213 214), o 217 (.fld 25 216), o 218 (.fld 0 217), u (.store 1 218 215)])
 (.seq (.region [o 219 (.mov 1), o 220 (.bin 0 .add 219 (i 1)), o 1 (.mov 220)])
 (.seq (.region [o 221 (.mov 0), o 222 (.mov 5), o 223 (.mov 1), o 224 (.idx 34 221 222), o 225 (.fld 25 224), o 226 (.fld 1 225), u (.store 1 226 223)])
 (.seq (.region [o 227 (.mov 1), o 228 (.bin 0 .add 227 (i 1)), o 1 (.mov 228)])
 (.seq (.region [o 229 (.mov 0), o 230 (.mov 5), o 231 (.mov 1), o 232 (.idx 34 229 230), o 233 (.fld 25 232), o 234 (.fld 2 233), u (.store 1 234 231)])
 (.seq (.region [o 235 (.mov 1), o 236 (.bin 0 .add 235 (i 1)), o 1 (.mov 236)])
 (.seq (.region [o 237 (.mov 0), o 238 (.mov 5), o 239 (.mov 1), o 240 (.idx 34 237 238), o 241 (.fld 25 240), o 242 (.fld 3 241), u (.store 1 242 239)])
 (.seq (.region [o 243 (.mov 1), o 244 (.bin 0 .add 243 (i 1)), o 1 (.mov 244)])
 (.seq (.region [o 245 (.mov 0), o 246 (.mov 5), o 247 (.mov 1), o 248 (.idx 34 245 246), o 249 (.fld 25 248), o 250 (.fld 4 249), u (.store 1 250 247)])
 (.seq (.region [o 251 (.mov 1), o 252 (.bin 0 .add 251 (i 1)), o 1 (.mov 252)])
 (.seq (.region [o 253 (.mov 0), o 254 (.mov 5), o 255 (.mov 1), o 256 (.idx 34 253 254), o 257 (.fld 25 256), o 258 (.fld 5 257), u (.store 1 258 255)])
 (.seq (.region [o 259 (.mov 1), o 260 (.bin 0 .add 259 (i 1)), o 1 (.mov 260)])
 (.seq (.region [o 261 (.mov 0), o 262 (.mov 5), o 263 (.mov 1), o 264 (.idx 34 261 262), o 265 (.fld 25 264), o 266 (.fld 6 265), u (.store 1 266 263)])
 (.seq (.region [o 267 (.mov 1), o 268 (.bin 0 .add 267 (i 1)), o 1 (.mov 268)])
 (.seq (.region [o 269 (.mov 0), o 270 (.mov 5), o 271 (.mov 1), o 272 (.idx 34 269 270), o 273 (.fld 25 272), o 274 (.fld 7 273), u (.store 1 274 271)])
 (.seq (.region [o 275 (.mov 1), o 276 (.bin 0 .add 275 (i 1)), o 1 (.mov 276)])
 (.seq (.region [o 277 (.mov 0), o 278 (.mov 5), o 279 (.mov 1), o 280 (.idx 34 277 278), o 281 (.fld 25 280), o 282 (.fld 8 281), u (.store 1 282 279)])
 (.region [o 283 (.mov 1), o 284 (.bin 0 .add 283 (i 1)), o 1 (.mov 284)])))))))))))))))))))))))))))))))))))))))))))))))))))))))))))))))))))
 (.region [o 10 (.mov 5), o 11 (.bin 0 .add 10 (i 1)), o 5 (.mov 11)])))
/-- loop.example/widgetroom/laws.markNodeS -/
def pf54 : PFunc := ⟨2, [true, false], false, false, [.tmp 4],
  (.seq (.region [o 4 (.mov (i 0))])
 (.seq (.seq (.region [o 5 (.mov (i 0))])
 (.block 0 (.loop [0, 1, 5] [1000] [1, 4] [1000] b54_0)))
 (.seq (.region [o 285 (.mov 1), o 4 (.mov 285)])
 .ret)))⟩
def b55_0 : PCode :=
  (.seq (.seq (.region [o 6 (.mov 5), o 7 (.mov 0), o 8 (.len false 7), o 9 (.bin 0 .lss 6 8)])
 (.cond 9 .skip
  (.exit 0)))
 (.seq (.block 1 (.seq (.seq (.region [o 12 (.mov 0), o 13 (.mov 5), o 14 (.idx 34 12 13), o 15 (.fld 0 14), o 16 (.load false 1 15), o 17 (.mov 1), o 18 (.bin 0 .neq 16 17)])
 (.cond 18 (.seq (.region [o 4 (.mov (i (-1)))])
 .ret)
  .skip))
 (.seq (.region [o 19 (.mov 1), o 20 (.bin 0 .add 19 (i 1)), o 1 (.mov 20)])
 (.seq (.seq (.region [o 21 (.mov 0), o 22 (.mov 5), o 23 (.idx 34 21 22), o 24 (.fld 1 23), o 25 (.load false 1 24), o 26 (.mov 1), o 27 (.bin 0 .neq 25 26)])
 (.cond 27 (.seq (.region [o 4 (.mov (i (-1)))])
 .ret)
  .skip))
 (.seq (.region [o 28 (.mov 1), o 29 (.bin 0 .add 28 (i 1)), o 1 (.mov 29)])
 (.seq (.seq (.region [o 30 (.mov 0), o 31 (.mov 5), o 32 (.idx 34 30 31), o 33 (.fld 2 32), o 34 (.load false 1 33), o 35 (.mov 1), o 36 (.bin 0 .neq 34 35)])
 (.cond 36 (.seq (.region [o 4 (.mov (i (-1)))])
 .ret)
  .skip))
 (.seq (.region [o 37 (.mov 1), o 38 (.bin 0 .add 37 (i 1)), o 1 (.mov 38)])
 (.seq (.seq (.region [o 39 (.mov 0), o 40 (.mov 5), o 41 (.idx 34 39 40), o 42 (.fld 3 41), o 43 (.load false 1 42), o 44 (.mov 1), o 45 (.bin 0 .rem 44 (i 3)),
 o 46 (.bin 0 .eql 45 (i 0)), o 47 (.bin 1 .neq 43 46)])
 (.cond 47 (.seq (.region [o 4 (.mov (i (-1)))])
 .ret)
  .skip))
 (.seq (.region [o 48 (.mov 1), o 49 (.bin 0 .add 48 (i 1)), o 1 (.mov 49)])
 (.seq (.seq (.region [o 50 (.mov 0), o 51 (.mov 5), o 52 (.idx 34 50 51), o 53 (.fld 4 52), o 54 (.load false 1 53), o 55 (.mov 1), o 56 (.bin 0 .neq 54 55)])
 (.cond 56 (.seq (.region [o 4 (.mov (i (-1)))])
 .ret)
  .skip))
 (.seq (.region [o 57 (.mov 1), o 58 (.bin 0 .add 57 (i 1)), o 1 (.mov 58)])
 (.seq (.region [o 59 (.mov 0), o 60 (.mov 5), o 61 (.idx 34 59 60), o 62 (.fld 5 61), o 63 (.load false 1 62), o 64 (.mov 1), o 65 (.call l_heldLineS [63, 64]),
 o 1 (.mov 65)])
 (.seq (.seq (.region [o 66 (.mov 1), o 67 (.bin 0 .lss 66 (i 0))])
 (.cond 67 (.seq (.region [o 4 (.mov (i (-1)))])
 .ret)
  .skip))
 (.seq (.region [o 68 (.mov 0), o 69 (.mov 5), o 70 (.idx 34 68 69), o 71 (.fld 6 70), o 72 (.load false 1 71), o 73 (.mov 1), o 74 (.call l_heldLineS [72, 73]),
 o 1 (.mov 74)])
 (.seq (.seq (.region [o 75 (.mov 1), o 76 (.bin 0 .lss 75 (i 0))])
 (.cond 76 (.seq (.region [o 4 (.mov (i (-1)))])
 .ret)
  .skip))
 (.seq (.seq (.region [o 77 (.mov 0), o 78 (.mov 5), o 79 (.idx 34 77 78), o 80 (.fld 7 79), o 81 (.fld 0 80), o 82 (.load false 1 81), o 83 (.mov 1), o 84 (.bin 0 .neq 82 83)])
 (.cond 84 (.seq (.region [o 4 (.mov (i (-1)))])
 .ret)
  .skip))
 (.seq (.region [o 85 (.mov 1), o 86 (.bin 0 .add 85 (i 1)), o 1 (.mov 86)])
 (.seq (.seq (.region [o 87 (.mov 0), o 88 (.mov 5), o 89 (.idx 34 87 88), o 90 (.fld 7 89), o 91 (.fld 1 90), o 92 (.load false 1 91), o 93 (.mov 1), o 94 (.bin 0 .neq 92 93)])
 (.cond 94 (.seq (.region [o 4 (.mov (i (-1)))])
 .ret)
  .skip))
 (.seq (.region [o 95 (.mov 1), o 96 (.bin 0 .add 95 (i 1)), o 1 (.mov 96)])
 (.seq (.seq (.region [o 97 (.mov 0), o 98 (.mov 5), o 99 (.idx 34 97 98), o 100 (.fld 7 99), o 101 (.fld 2 100), o 102 (.load false 1 101), o 103 (.mov 1),
 o 104 (.bin 0 .neq 102 103)])
 (.cond 104 (.seq (.region [o 4 (.mov (i (-1)))])
 .ret)
  .skip))
 (.seq (.region [o 105 (.mov 1), o 106 (.bin 0 .add 105 (i 1)), o 1 (.mov 106)])
 (.seq (.seq (.region [o 107 (.mov 0), o 108 (.mov 5), o 109 (.idx 34 107 108), o 110 (.fld 7 109), o 111 (.fld 3 110), o 112 (.load false 1 111), o 113 (.mov 1),
 o 114 (.bin 0 .rem 113 (i 3)), o 115 (.bin 0 .eql 114 (i 0)), o 116 (.bin 1 .neq 112 115)])
 (.cond 116 (.seq (.region [o 4 (.mov (i (-1)))])
 .ret)
  .skip))
 (.seq (.region [o 117 (.mov 1), o 118 (.bin 0 .add 117 (i 1)), o 1 (.mov 118)])
 (.seq (.seq (.region [o 119 (.mov 0), o 120 (.mov 5), o 121 (.idx 34 119 120), o 122 (.fld 7 121), o 123 (.fld 4 122), o 124 (.load false 1 123), o 125 (.mov 1),
 o 126 (.bin 0 .rem 125 (i 3)), o 127 (.bin 0 .eql 126 (i 0)), o 128 (.bin 1 .neq 124 127)])
 (.cond 128 (.seq (.region [o 4 (.mov (i (-1)))])
 .ret)
  .skip))
 (.seq (.region [o 129 (.mov 1), o 130 (.bin 0 .add 129 (i 1)), o 1 (.mov 130)])
 (.seq (.seq (.region [o 131 (.mov 0), o 132 (.mov 5), o 133 (.idx 34 131 132), o 134 (.fld 7 133), o 135 (.fld 5 134), o 136 (.load false 1 135), o 137 (.mov 1),
 o 138 (.bin 0 .rem 137 (i 3)), o 139 (.bin 0 .eql 138 (i 0)), o 140 (.bin 1 .neq 136 139)])
 (.cond 140 (.seq (.region [o 4 (.mov (i (-1)))])
 .ret)
  .skip))
 (.seq (.region [o 141 (.mov 1), o 142 (.bin 0 .add 141 (i 1)), o 1 (.mov 142)])
 (.seq (.seq (.region [o 143 (.mov 0), o 144 (.mov 5), o 145 (.idx 34 143 144), o 146 (.fld 7 145), o 147 (.fld 6 146), o 148 (.load false 1 147), o 149 (.mov 1),
 o 150 (.bin 0 .neq 148 149)])
 (.cond 150 (.seq (.region [o 4 (.mov (i (-1)))])
 .ret)
  .skip))
 (.seq (.region [o 151 (.mov 1), o 152 (.bin 0 .add 151 (i 1)), o 1 (.mov 152)])
 (.seq (.seq (.region [o 153 (.mov 0), o 154 (.mov 5), o 155 (.idx 34 153 154), o 156 (.fld 7 155), o 157 (.fld 7 156), o 158 (.load false 1 157), o 159 (.mov 1),
 o 160 (.bin 0 .neq 158 159)])
 (.cond 160 (.seq (.region [o 4 (.mov (i (-1)))])
 .ret)
  .skip))
 (.seq (.region [o 161 (.mov 1), o 162 (.bin 0 .add 161 (i 1)), o 1 (.mov 162)])
 (.seq (.seq (.region [o 163 (.mov 0), o 164 (.mov 5), o 165 (.idx 34 163 164), o 166 (.fld 7 165), o 167 (.fld 8 166), o 168 (.load false 1 167), o 169 (.mov 1),
 o 170 (.bin 0 .neq 168 169)])
 (.cond 170 (.seq (.region [o 4 (.mov (i (-1)))])
 .ret)
  .skip))
 (.seq (.region [o 171 (.mov 1), o 172 (.bin 0 .add 171 (i 1)), o 1 (.mov 172)])
 (.seq (.seq (.region [o 173 (.mov 0), o 174 (.mov 5), o 175 (.idx 34 173 174), o 176 (.fld 16 175), o 177 (.fld 0 176), o 178 (.load false 1 177), o 179 (.mov 1),
 o 180 (.bin 0 .neq 178 179)])
 (.cond 180 (.seq (.region [o 4 (.mov (i (-1)))])
 .ret)
  .skip))
 (.seq (.region [o 181 (.mov 1), o 182 (.bin 0 .add 181 (i 1)), o 1 (.mov 182)])
 (.seq (.seq (.region [o 183 (.mov 0), o 184 (.mov 5), o 185 (.idx 34 183 184), o 186 (.fld 16 185), o 187 (.fld 1 186), o 188 (.load false 1 187), o 189 (.mov 1),
 o 190 (.bin 0 .neq 188 189)])
 (.cond 190 (.seq (.region [o 4 (.mov (i (-1)))])
 .ret)
  .skip))
 (.seq (.region [o 191 (.mov 1), o 192 (.bin 0 .add 191 (i 1)), o 1 (.mov 192)])
 (.seq (.seq (.region [o 193 (.mov 0), o 194 (.mov 5), o 195 (.idx 34 193 194), o 196 (.fld 16 195), o 197 (.fld 2 196), o 198 (.load false 1 197), o 199 (.mov 1),
 o 200 (.bin 0 .neq 198 199)])
 (.cond 200 (.seq (.region [o 4 (.mov (i (-1)))])
 .ret)
  .skip))
 (.seq (.region [o 201 (.mov 1), o 202 (.bin 0 .add 201 (i 1)), o 1 (.mov 202)])
 (.seq (.seq (.region [o 203 (.mov 0), o 204 (.mov 5), o 205 (.idx 34 203 204), o 206 (.fld 16 205), o 207 (.fld 3 206), o 208 (.load false 1 207), o 209 (.mov 1),
 o 210 (.bin 0 .neq 208 209)])
 (.cond 210 (.seq (.region [o 4 (.mov (i (-1)))])
 .ret)
  .skip))
 (.seq (.region [o 211 (.mov 1), o 212 (.bin 0 .add 211 (i 1)), o 1 (.mov 212)])
 (.seq (.seq (.region [o 213 (.mov 0), o 214 (.mov 5), o 215 (.idx 34 213 214), o 216 (.fld 16 215), o 217 (.fld 4 216), o 218 (.load false 1 217), o 219 (.mov 1),
 o 220 (.bin 0 .neq 218 219)])
 (.cond 220 (.seq (.region [o 4 (.mov (i (-1)))])
 .ret)
  .skip))
 (.seq (.region [o 221 (.mov 1), o 222 (.bin 0 .add 221 (i 1)), o 1 (.mov 222)])
 (.seq (.seq (.region [o 223 (.mov 0), o 224 (.mov 5), o 225 (.idx 34 223 224), o 226 (.fld 16 225), o 227 (.fld 5 226), o 228 (.load false 1 227), o 229 (.mov 1),
 o 230 (.bin 0 .neq 228 229)])
 (.cond 230 (.seq (.region [o 4 (.mov (i (-1)))])
 .ret)
  .skip))
 (.seq (.region [o 231 (.mov 1), o 232 (.bin 0 .add 231 (i 1)), o 1 (.mov 232)])
 (.seq (.seq (.region [o 233 (.mov 0), o 234 (.mov 5), o 235 (.idx 34 233 234), o 236 (.fld 16 235), o 237 (.fld 6 236), o 238 (.load false 1 237), o 239 (.mov 1),
 o 240 (.bin 0 .neq 238 239)])
 (.cond 240 (.seq (.region [o 4 (.mov (i (-1)))])
 .ret)
  .skip))
 (.seq (.region [o 241 (.mov 1), o 242 (.bin 0 .add 241 (i 1)), o 1 (.mov 242)])
 (.seq (.seq (.region [o 243 (.mov 0), o 244 (.mov 5), o 245 (.idx 34 243 244), o 246 (.fld 16 245), o 247 (.fld 7 246), o 248 (.load false 1 247), o 249 (.mov 1),
 o 250 (.bin 0 .neq 248 249)])
 (.cond 250 (.seq (.region [o 4 (.mov (i (-1)))])
 .ret)
  .skip))
 (.seq (.region [o 251 (.mov 1), o 252 (.bin 0 .add 251 (i 1)), o 1 (.mov 252)])
 (.seq (.seq (.region [o 253 (.mov 0), o 254 (.mov 5), o 255 (.idx 34 253 254), o 256 (.fld 16 255), o 257 (.fld 8 256), o 258 (.load false 1 257), o 259 (.mov 1),
 o 260 (.bin 0 .neq 258 259)])
 (.cond 260 (.seq (.region [o 4 (.mov (i (-1)))])
 .ret)
  .skip))
 (.seq (.region [o 261 (.mov 1), o 262 (.bin 0 .add 261 (i 1)), o 1 (.mov 262)])
 (.seq (.seq (.region [o 263 (.mov 0), o 264 (.mov 5), o 265 (.idx 34 263 264), o 266 (.fld 25 265), o 267 (.fld 0 266), o 268 (.load false 1 267), o 269 (.mov 1),
 o 270 (.bin 0 .neq 268 269)])
 (.cond 270 (.seq (.region [o 4 (.mov (i (-1)))])
 .ret)
  .skip))
 (.seq (.region [o 271 (.mov 1), o 272 (.bin 0 .add 271 (i 1)), o 1 (.mov 272)])
 (.seq (.seq (.region [o 273 (.mov 0), o 274 (.mov 5), o 275 (.idx 34 273 274), o 276 (.fld 25 275), o 277 (.fld 1 276), o 278 (.load false 1 277), o 279 (.mov 1),
 o 280 (.bin 0 .neq 278 279)])
 (.cond 280 (.seq (.region [o 4 (.mov (i (-1)))])
 .ret)
  .skip))
 (.seq (.region [o 281 (.mov 1), o 282 (.bin 0 .add 281 (i 1)), o 1 (.mov 282)])
 (.seq (.seq (.region [o 283 (.mov 0), o 284 (.mov 5), o 285 (.idx 34 283 284), o 286 (.fld 25 285), o 287 (.fld 2 286), o 288 (.load false 1 287), o 289 (.mov 1),
 o 290 (.bin 0 .neq 288 289)])
 (.cond 290 (.seq (.region [o 4 (.mov (i (-1)))])
 .ret)
  .skip))
 (.seq (.region [o 291 (.mov 1), o 292 (.bin 0 .add 291 (i 1)), o 1 (.mov 292)])
 (.seq (.seq (.region [o 293 (.mov 0), o 294 (.mov 5), o 295 (.idx 34 293 294), o 296 (.fld 25 295), o 297 (.fld 3 296), o 298 (.load false 1 297), o 299 (.mov 1),
 o 300 (.bin 0 .neq 298 299)])
 (.cond 300 (.seq (.region [o 4 (.mov (i (-1)))])
 .ret)
  .skip))
 (.seq (.region [o 301 (.mov 1), o 302 (.bin 0 .add 301 (i 1)), o 1 (.mov 302)])
 (.seq (.seq (.region [o 303 (.mov 0), o 304 (.mov 5), o 305 (.idx 34 303 304), o 306 (.fld 25 305), o 307 (.fld 4 306), o 308 (.load false 1 307), o 309 (.mov 1),
 o 310 (.bin 0 .neq 308 309)])
 (.cond 310 (.seq (.region [o 4 (.mov (i (-1)))])
 .ret)
  .skip))
 (.seq (.region [o 311 (.mov 1), o 312 (.bin 0 .add 311 (i 1)), o 1 (.mov 312)])
 (.seq (.seq (.region [o 313 (.mov 0), o 314 (.mov 5), o 315 (.idx 34 313 314), o 316 (.fld 25 315), o 317 (.fld 5 316), o 318 (.load false 1 317), o 319 (.mov 1),
 o 320 (.bin 0 .neq 318 319)])
 (.cond 320 (.seq (.region [o 4 (.mov (i (-1)))])
 .ret)
  .skip))
 (.seq (.region [o 321 (.mov 1), o 322 (.bin 0 .add 321 (i 1)), o 1 (.mov 322)])
 (.seq (.seq (.region [o 323 (.mov 0), o 324 (.mov 5), o 325 (.idx 34 323 324), o 326 (.fld 25 325), o 327 (.fld 6 326), o 328 (.load false 1 327), o 329 (.mov 1),
 o 330 (.bin 0 .neq 328 329)])
 (.cond 330 (.seq (.region [o 4 (.mov (i (-1)))])
 .ret)
  .skip))
 (.seq (.region [o 331 (.mov 1), o 332 (.bin 0 .add 331 (i 1)), o 1 (.mov 332)])
 (.seq (.seq (.region [o 333 (.mov 0), o 334 (.mov 5), o 335 (.idx 34 333 334), o 336 (.fld 25 335), o 337 (.fld 7 336), o 338 (.load false 1 337), o 339 (.mov 1),
 o 340 (.bin 0 .neq 338 339)])
 (.cond 340 (.seq (.region [o 4 (.mov (i (-1)))])
 .ret)
  .skip))
 (.seq (.region [o 341 (.mov 1), o 342 (.bin 0 .add 341 (i 1)), o 1 (.mov 342)])
 (.seq (.seq (.region [o 343 (.mov 0), o 344 (.mov 5), o 345 (.idx 34 343 344), o 346 (.fld 25 345), o 347 (.fld 8 346), o 348 (.load false 1 347), o 349 (.mov 1),
 o 350 (.bin 0 .neq 348 349)])
 (.cond 350 (.seq (.region [o 4 (.mov (i (-1)))])
 .ret)
  .skip))
 (.region [o 351 (.mov 1), o 352 (.bin 0 .add 351 (i 1)), o 1 (.mov 352)])))))))))))))))))))))))))))))))))))))))))))))))))))))))))))))))))))))
 (.region [o 10 (.mov 5), o 11 (.bin 0 .add 10 (i 1)), o 5 (.mov 11)])))
/-- loop.example/widgetroom/laws.heldNodeS -/
def pf55 : PFunc := ⟨2, [], false, false, [.tmp 4],
  (.seq (.region [o 4 (.mov (i 0))])
 (.seq (.seq (.region [o 5 (.mov (i 0))])
 (.block 0 (.loop [0, 1, 5] [] [1, 4] [] b55_0)))
 (.seq (.region [o 353 (.mov 1), o 4 (.mov 353)])
 .ret)))⟩
def b56_0 : PCode :=
  (.seq (.seq (.region [o 8 (.mov 4), o 9 (.fld 0 1), o 10 (.load false 1 9), o 11 (.len false 10), o 12 (.bin 0 .lss 8 11)])
 (.cond 12 .skip
  (.exit 0)))
 (.seq (.block 1 (.seq (.region [o 16 (.load true 1 1), o 17 (.mov 4), o 18 (.call s_sizeOf [16, 17]), o 15 (.mov 18), o 19 (.ext 15 0), o 20 (.ext 15 1), o 5 (.mov 19), o 6 (.mov 20)])
 (.region [o 21 (.mov 3), o 22 (.mov 5), o 23 (.mov 6), o 24 (.bslice 2 zInt [(0, 22), (1, 23)]), o 25 (.app 1 17592186044416 21 24), o 3 (.mov 25)])))
 (.region [o 13 (.mov 4), o 14 (.bin 0 .add 13 (i 1)), o 4 (.mov 14)])))
/-- loop.example/widgetroom/spec.wantsOf -/
def pf56 : PFunc := ⟨1, [], false, false, [.tmp 2],
  (.seq (.region [o 1 (.box 0), o 2 (.mov nl)])
 (.seq (.region [o 7 (.bslice 0 zInt []), o 3 (.mov 7)])
 (.seq (.seq (.region [o 4 (.mov (i 0))])
 (.block 0 (.loop [1, 3, 4] [1, 7, 25, 1001] [2, 3] [2, 7, 25] b56_0)))
 (.seq (.region [o 26 (.mov 3), o 2 (.mov 26)])
 .ret))))⟩
/-- (loop.example/widgetroom/impl.Tree).request -/
def pf57 : PFunc := ⟨2, [], false, true, [.tmp 4, .tmp 5],
  (.seq (.region [o 2 (.box 0), o 4 (.mov (i 0)), o 5 (.mov (i 0))])
 (.seq (.dregion [(o 8 (.fld 0 2), []), (o 9 (.load false 1 8), [0]), (o 10 (.mov 1), []), (o 11 (.idx 34 9 10), [0, 1, 2]), (o 12 (.load true 34 11), [0, 1, 2, 3]),
 (o 13 (.load true 1 2), []), (o 14 (.mov 1), []), (o 15 (.call i_Tree_kids [13, 14]), [5, 6]), (o 6 (.alloc zNode), []),
 (u (.store 34 6 12), [0, 1, 2, 3, 4, 5, 6, 7, 8]), (o 7 (.mov 15), [0, 1, 2, 3, 4, 5, 6, 7, 8, 9])])
 (.seq (.block 0 (.seq (.region [o 17 (.fld 3 6), o 18 (.load false 1 17), o 19 (.mov 18), gd 20 19 false (.mov 7), gd 21 19 false (.len false 20), gd 22 19 false (.bin 0 .eql 21 (i 0)),
 o 23 (.pick 19 bT 22), o 24 (.mov 23), gd 25 24 false (.fld 4 6), gd 26 24 false (.load false 1 25), gd 27 24 false (.bin 0 .eql 26 (i 2)),
 o 28 (.pick 24 bT 27), o 16 (.mov 28)])
 (.cond 16 (.seq (.dregion [(o 29 (.fld 1 6), []), (o 30 (.load false 1 29), [0]), (o 31 (.fld 2 6), []), (o 32 (.load false 1 31), [2]), (o 4 (.mov 30), [0, 1]),
 (o 5 (.mov 32), [0, 1, 2, 3, 4])])
 .ret)
  (.seq (.region [o 34 (.fld 4 6), o 35 (.load false 1 34), o 36 (.bin 0 .eql 35 (i 0)), o 33 (.mov 36)])
 (.cond 33 (.seq (.region [o 37 (.load true 1 2), o 38 (.mov 7), o 39 (.call i_Tree_packs [37, 38]), o 40 (.call i_packRequest [39]), o 41 (.ext 40 0), o 42 (.ext 40 1),
 o 4 (.mov 41), o 5 (.mov 42)])
 .ret)
  .skip)))))
 (.seq (.region [o 43 (.load true 1 2), o 44 (.mov 1), o 45 (.mov 7), o 46 (.call i_Tree_grid [43, 44, 45]), o 47 (.call i_Grid_request [46]), o 48 (.ext 47 0),
 o 49 (.ext 47 1), o 4 (.mov 48), o 5 (.mov 49)])
 .ret))))⟩
/-- loop.example/widgetroom/spec.treeRoom -/
def pf58 : PFunc := ⟨1, [true], false, false, [.cell 2 true 1, .tmp 3, .tmp 4],
  (.seq (.region [o 2 (.alloc zTree), o 3 (.mov (i 0)), o 4 (.mov (i 0))])
 (.seq (.region [o 10 (.mov 0), o 11 (.call s_someTree [10]), o 5 (.alloc zTree), u (.store 1 5 11)])
 (.seq (.region [o 12 (.mov 0), o 13 (.bslice 6 zInt [(0, i 60), (1, i 100), (2, i 20), (3, i 0), (4, i 400), (5, i 401)]), o 14 (.call s_reader_one [12, 13]),
 o 6 (.mov 14)])
 (.seq (.region [o 15 (.mov 0), o 16 (.bslice 6 zInt [(0, i 50), (1, i 100), (2, i 10), (3, i 0), (4, i 400), (5, i (-1))]), o 17 (.call s_reader_one [15, 16]),
 o 7 (.mov 17)])
 (.seq (.seq (.region [o 18 (.load true 1 5), o 19 (.call s_validTree [18]), o 20 (.mov 19), gd 21 20 true (.mov 0), gd 22 20 true (.call s_reader_pick [21, i 2]),
 gd 23 20 true (.bin 0 .eql 22 (i 0)), o 24 (.pick 20 23 bF)])
 (.cond 24 (.seq (.region [o 26 (.load true 1 5), o 27 (.call s_sizeOf [26, i 0]), o 25 (.mov 27), o 28 (.ext 25 0), o 29 (.ext 25 1), o 8 (.mov 28), o 9 (.mov 29)])
 (.seq (.region [o 30 (.mov 8), o 6 (.mov 30)])
 (.region [o 31 (.mov 9), o 7 (.mov 31)])))
  .skip))
 (.seq (.region [o 32 (.load true 1 5), o 33 (.mov 6), o 34 (.mov 7), u (.store 1 2 32), o 3 (.mov 33), o 4 (.mov 34)])
 .ret))))))⟩
/-- loop.example/widgetroom/spec.newReader -/
def pf59 : PFunc := ⟨1, [], false, false, [.tmp 2],
  (.seq (.region [o 2 (.mov (.k (.np)))])
 (.seq (.seq (.region [o 3 (.mov 0), o 4 (.len false 3), o 5 (.bin 0 .gtr 4 (i 2000))])
 (.cond 5 (.region [o 6 (.mov 0), o 7 (.slice false 1 6 none (some (i 2000))), o 0 (.mov 7)])
  .skip))
 (.seq (.region [o 8 (.mov 0), o 9 (.build zReader [(0, 1, 8)]), o 10 (.box 9), o 2 (.mov 10)])
 .ret)))⟩
/-- loop.example/widgetroom/impl.sizeOk -/
def pf60 : PFunc := ⟨2, [], false, false, [.tmp 4],
  (.seq (.region [o 4 (.mov bF)])
 (.seq (.region [o 5 (.mov 0), o 6 (.call i_within [5, i 0, i 400]), o 7 (.mov 6), gd 8 7 true (.mov 1), gd 9 7 true (.call i_within [8, i 0, i 400]),
 o 10 (.pick 7 9 bF), o 4 (.mov 10)])
 .ret))⟩
def b61_1 : PCode :=
  (.seq (.region [o 46 (.bin 0 .lss 45 44)])
 (.seq (.cond 46 .skip
  (.exit 3))
 (.seq (.block 4 (.seq (.region [o 47 (.idx 1 43 45), o 48 (.load false 1 47), o 14 (.mov 48)])
 (.dregion [(o 49 (.mov 12), []), (o 50 (.fld 0 3), []), (o 51 (.load false 1 50), [1]), (o 52 (.mov 14), []), (o 53 (.idx 34 51 52), [1, 2, 3]),
 (o 54 (.fld 25 53), [1, 2, 3, 4]), (o 55 (.load true 9 54), [1, 2, 3, 4, 5]), (o 56 (.fld 2 11), []), (o 57 (.load false 1 56), [7]),
 (o 58 (.fld 3 11), []), (o 59 (.load false 1 58), [9]), (o 60 (.call i_Place_rect [55, 57, 59]), [1, 2, 3, 4, 5, 6, 7, 8, 9, 10]),
 (o 61 (.bslice 1 zRect [(0, 60)]), [1, 2, 3, 4, 5, 6, 7, 8, 9, 10, 11]), (o 62 (.app 4 4398046511104 49 61), [0, 1, 2, 3, 4, 5, 6, 7, 8, 9, 10, 11, 12]),
 (o 12 (.mov 62), [0, 1, 2, 3, 4, 5, 6, 7, 8, 9, 10, 11, 12, 13])])))
 (.region [o 63 (.bin 0 .add 45 (i 1)), o 45 (.mov 63)]))))
def b61_2 : PCode :=
  (.seq (.region [o 88 (.bin 0 .lss 87 86)])
 (.seq (.cond 88 .skip
  (.exit 5))
 (.seq (.block 6 (.seq (.region [o 89 (.mov 87), o 90 (.idx 1 85 87), o 91 (.load false 1 90), o 15 (.mov 89), o 16 (.mov 91)])
 (.dregion [(o 92 (.mov 7), []), (o 93 (.mov 16), []), (o 94 (.fld 0 11), []), (o 95 (.load false 1 94), [2]), (o 96 (.mov 12), []), (o 97 (.mov 15), []),
 (o 98 (.idx 4 96 97), [4, 5]), (o 99 (.fld 0 98), [4, 5, 6]), (o 100 (.load false 1 99), [4, 5, 6, 7]),
 (o 101 (.bin 0 .add 95 100), [2, 3, 4, 5, 6, 7, 8]), (o 102 (.fld 1 11), []), (o 103 (.load false 1 102), [10]), (o 104 (.mov 12), []),
 (o 105 (.mov 15), []), (o 106 (.idx 4 104 105), [12, 13]), (o 107 (.fld 1 106), [12, 13, 14]), (o 108 (.load false 1 107), [12, 13, 14, 15]),
 (o 109 (.bin 0 .add 103 108), [10, 11, 12, 13, 14, 15, 16]), (o 110 (.mov 12), []), (o 111 (.mov 15), []), (o 112 (.idx 4 110 111), [18, 19]),
 (o 113 (.fld 2 112), [18, 19, 20]), (o 114 (.load false 1 113), [18, 19, 20, 21]), (o 115 (.mov 12), []), (o 116 (.mov 15), []),
 (o 117 (.idx 4 115 116), [23, 24]), (o 118 (.fld 3 117), [23, 24, 25]), (o 119 (.load false 1 118), [23, 24, 25, 26]),
 (o 120 (.build zRect [(0, 1, 101), (1, 1, 109), (2, 1, 114), (3, 1, 119)]), [2, 3, 4, 5, 6, 7, 8, 9, 10, 11, 12, 13, 14, 15, 16, 17, 18, 19, 20, 21, 22, 23, 24, 25, 26, 27]),
 (o 121 (.idx 4 92 93), [0, 1, 2, 3, 4, 5, 6, 7, 8, 9, 10, 11, 12, 13, 14, 15, 16, 17, 18, 19, 20, 21, 22, 23, 24, 25, 26, 27, 28]),
 (u (.store 4 121 120), [0, 1, 2, 3, 4, 5, 6, 7, 8, 9, 10, 11, 12, 13, 14, 15, 16, 17, 18, 19, 20, 21, 22, 23, 24, 25, 26, 27, 28, 29])])))
 (.region [o 122 (.bin 0 .add 87 (i 1)), o 87 (.mov 122)]))))
def b61_0 : PCode :=
  (.seq (.region [o 30 (.bin 0 .lss 29 28)])
 (.seq (.cond 30 .skip
  (.exit 0))
 (.seq (.block 1 (.seq (.region [o 31 (.mov 29), o 32 (.idx 34 27 29), o 33 (.load true 34 32), o 9 (.alloc zNode), o 8 (.mov 31), u (.store 34 9 33)])
 (.seq (.dregion [(o 34 (.load true 1 3), []), (o 35 (.mov 8), []), (o 36 (.call i_Tree_kids [34, 35]), [0, 1]), (o 37 (.mov 7), []), (o 38 (.mov 8), []),
 (o 39 (.idx 4 37 38), [3, 4]), (o 40 (.load true 4 39), [3, 4, 5]), (o 11 (.alloc zRect), []), (o 10 (.mov 36), [0, 1, 2, 7]),
 (u (.store 4 11 40), [0, 1, 2, 3, 4, 5, 6, 7, 8])])
 (.seq (.region [o 12 .nilroot])
 (.seq (.seq (.region [o 41 (.fld 4 9), o 42 (.load false 1 41)])
 (.block 2 (.seq (.region [o 65 (.bin 0 .eql 42 (i 0)), o 64 (.mov 65)])
 (.cond 64 (.dregion [(o 66 (.load true 1 3), []), (o 67 (.mov 10), []), (o 68 (.call i_Tree_packs [66, 67]), [0, 1]), (o 69 (.fld 2 11), []), (o 70 (.load false 1 69), [3]),
 (o 71 (.fld 3 11), []), (o 72 (.load false 1 71), [5]), (o 73 (.call i_packRects [68, 70, 72]), [0, 1, 2, 3, 4, 5, 6]),
 (o 12 (.mov 73), [0, 1, 2, 3, 4, 5, 6, 7])])
  (.seq (.region [o 75 (.bin 0 .eql 42 (i 1)), o 74 (.mov 75)])
 (.cond 74 (.dregion [(o 76 (.load true 1 3), []), (o 77 (.mov 8), []), (o 78 (.mov 10), []), (o 79 (.call i_Tree_grid [76, 77, 78]), [0, 1, 2]), (o 80 (.fld 2 11), []),
 (o 81 (.load false 1 80), [4]), (o 82 (.fld 3 11), []), (o 83 (.load false 1 82), [6]),
 (o 84 (.call i_Grid_rects [79, 81, 83]), [0, 1, 2, 3, 4, 5, 6, 7]), (o 12 (.mov 84), [0, 1, 2, 3, 4, 5, 6, 7, 8])])
  (.seq (.region [o 43 (.mov 10), o 44 (.len false 43), o 45 (.mov (i 0))])
 (.block 3 (.loop [3, 7, 10, 11, 12, 27, 28, 29, 43, 44, 45] [3, 11, 12, 20, 62, 1003, 1036, 1073, 1084] [3, 6, 7, 10, 11, 12, 27, 28, 29] [3, 6, 11, 12, 20, 62, 1003, 1036, 1073, 1084] b61_1)))))))))
 (.seq (.region [o 85 (.mov 10), o 86 (.len false 85), o 87 (.mov (i 0))])
 (.block 5 (.loop [3, 7, 11, 12, 27, 28, 29, 85, 86, 87] [3, 11, 12, 20, 62, 1003, 1036, 1073, 1084] [3, 6, 7, 27, 28, 29] [3, 6, 20, 1003] b61_2))))))))
 (.region [o 123 (.bin 0 .add 29 (i 1)), o 29 (.mov 123)]))))
/-- (loop.example/widgetroom/impl.Tree).layout -/
def pf61 : PFunc := ⟨3, [], false, true, [.tmp 6],
  (.seq (.region [o 3 (.box 0), o 6 (.mov nl)])
 (.seq (.region [o 17 (.fld 0 3), o 18 (.load false 1 17), o 19 (.len false 18), o 20 (.mk zRect 4398046511104 19), o 7 (.mov 20)])
 (.seq (.region [o 21 (.mov 7), o 22 (.mov 1), o 23 (.mov 2), o 24 (.build zRect [(2, 1, 22), (3, 1, 23)]), o 25 (.idx 4 21 (i 0)), u (.store 4 25 24)])
 (.seq (.seq (.region [o 26 (.fld 0 3), o 27 (.load false 1 26), o 28 (.len false 27), o 29 (.mov (i 0))])
 (.block 0 (.loop [3, 7, 27, 28, 29] [3, 20, 1003] [6, 7] [6, 20] b61_0)))
 (.seq (.region [o 124 (.mov 7), o 6 (.mov 124)])
 .ret)))))⟩
def b62_0 : PCode :=
  (.seq (.seq (.region [o 4 (.mov 3), o 5 (.fld 0 1), o 6 (.load false 1 5), o 7 (.len false 6), o 8 (.bin 0 .lss 4 7)])
 (.cond 8 .skip
  (.exit 0)))
 (.seq (.block 1 (.seq (.region [o 11 (.load true 1 1), o 12 (.mov 3), o 13 (.call s_validNode [11, 12]), o 14 (.not 13)])
 (.cond 14 (.seq (.region [o 2 (.mov bF)])
 .ret)
  .skip)))
 (.region [o 9 (.mov 3), o 10 (.bin 0 .add 9 (i 1)), o 3 (.mov 10)])))
/-- loop.example/widgetroom/spec.validTree -/
def pf62 : PFunc := ⟨1, [], false, false, [.tmp 2],
  (.seq (.region [o 1 (.box 0), o 2 (.mov bF)])
 (.seq (.seq (.region [o 3 (.mov (i 0))])
 (.block 0 (.loop [1, 3] [1, 1001] [1, 2] [1, 1001] b62_0)))
 (.seq (.region [o 15 (.fld 0 1), o 16 (.load false 1 15), o 17 (.len false 16), o 18 (.call s_inRange [17, i 1, i 10]), o 2 (.mov 18)])
 .ret)))⟩
/-- loop.example/widgetroom/spec.goodRoom -/
def pf63 : PFunc := ⟨2, [], false, false, [.tmp 4],
  (.seq (.region [o 4 (.mov bF)])
 (.seq (.region [o 5 (.mov 0), o 6 (.call s_inRange [5, i 0, i 400]), o 7 (.mov 6), gd 8 7 true (.mov 1), gd 9 7 true (.call s_inRange [8, i 0, i 400]),
 o 10 (.pick 7 9 bF), o 4 (.mov 10)])
 .ret))⟩
/-- loop.example/widgetroom/spec.layout -/
def pf64 : PFunc := ⟨3, [], false, false, [.tmp 6],
  (.seq (.region [o 3 (.box 0), o 6 (.mov nl)])
 (.seq (.region [o 8 (.fld 0 3), o 9 (.load false 1 8), o 10 (.len false 9), o 11 (.mk zRect 4398046511104 10), o 7 (.mov 11)])
 (.seq (.region [o 12 (.load true 1 3), o 13 (.mov 1), o 14 (.mov 2), o 15 (.build zRect [(2, 1, 13), (3, 1, 14)]), o 16 (.mov 7), o 17 (.call s_laid [12, i 0, 15, 16])])
 (.seq (.region [o 18 (.mov 7), o 6 (.mov 18)])
 .ret))))⟩
/-- loop.example/widgetroom/spec.someTree -/
def pf65 : PFunc := ⟨1, [true], false, false, [.cell 2 true 1],
  (.seq (.region [o 2 (.alloc zTree)])
 (.seq (.region [o 5 (.mov 0), o 6 (.call s_goodTree [5]), o 3 (.alloc zTree), u (.store 1 3 6)])
 (.seq (.region [o 7 (.mov 0), o 8 (.fld 0 3), o 9 (.load false 1 8), o 10 (.len false 9), o 11 (.call s_reader_pick [7, 10]), o 4 (.mov 11)])
 (.seq (.seq (.region [o 12 (.mov 0), o 13 (.call s_reader_pick [12, i 24])])
 (.block 0 (.seq (.region [o 15 (.bin 0 .eql 13 (i 0)), o 14 (.mov 15)])
 (.cond 14 (.dregion [(o 16 (.fld 0 3), []), (o 17 (.load false 1 16), [0]), (o 18 (.mov 4), []), (o 19 (.mov 0), []), (o 20 (.mov 4), []),
 (o 21 (.bslice 3 zInt [(0, 20), (1, i (-1)), (2, i 10)]), [4]), (o 22 (.call s_reader_one [19, 21]), [3, 4, 5]),
 (o 23 (.idx 34 17 18), [0, 1, 2, 3, 4, 5, 6]), (o 24 (.fld 0 23), [0, 1, 2, 3, 4, 5, 6, 7]), (u (.store 1 24 22), [0, 1, 2, 3, 4, 5, 6, 7, 8])])
  (.seq (.region [o 26 (.bin 0 .eql 13 (i 1)), o 25 (.mov 26)])
 (.cond 25 (.dregion [(o 27 (.fld 0 3), []), (o 28 (.load false 1 27), [0]), (o 29 (.mov 4), []), (o 30 (.mov 0), []), (o 31 (.bslice 2 zInt [(0, i (-1)), (1, i 31)]), []),
 (o 32 (.call s_reader_one [30, 31]), [3, 4]), (o 33 (.idx 34 28 29), [0, 1, 2, 3, 4, 5]), (o 34 (.fld 1 33), [0, 1, 2, 3, 4, 5, 6]),
 (u (.store 1 34 32), [0, 1, 2, 3, 4, 5, 6, 7])])
  (.seq (.region [o 36 (.bin 0 .eql 13 (i 2)), o 35 (.mov 36)])
 (.cond 35 (.dregion [(o 37 (.fld 0 3), []), (o 38 (.load false 1 37), [0]), (o 39 (.mov 4), []), (o 40 (.mov 0), []),
 (o 41 (.bslice 4 zInt [(0, i (-1)), (1, i 3), (2, i 1), (3, i 0)]), []), (o 42 (.call s_reader_one [40, 41]), [3, 4]),
 (o 43 (.idx 34 38 39), [0, 1, 2, 3, 4, 5]), (o 44 (.fld 4 43), [0, 1, 2, 3, 4, 5, 6]), (u (.store 1 44 42), [0, 1, 2, 3, 4, 5, 6, 7])])
  (.seq (.region [o 46 (.bin 0 .eql 13 (i 3)), o 45 (.mov 46)])
 (.cond 45 (.region [o 47 (.fld 0 3), o 48 (.load false 1 47), o 49 (.mov 4), o 50 (.idx 34 48 49), o 51 (.fld 7 50), o 52 (.fld 0 51), u (.store 1 52 (i 1))])
  .skip))))))))))
 (.seq (.region [o 53 (.load true 1 3), u (.store 1 2 53)])
 .ret)))))⟩
/-- loop.example/widgetroom/spec.sizeOf -/
def pf66 : PFunc := ⟨2, [], false, true, [.tmp 4, .tmp 5],
  (.seq (.region [o 2 (.box 0), o 4 (.mov (i 0)), o 5 (.mov (i 0))])
 (.seq (.region [o 8 (.fld 0 2), o 9 (.load false 1 8), o 10 (.mov 1), o 11 (.idx 34 9 10), o 12 (.load true 34 11), o 6 (.alloc zNode), u (.store 34 6 12)])
 (.seq (.region [o 13 (.load true 1 2), o 14 (.mov 1), o 15 (.call s_kidsOf [13, 14]), o 7 (.mov 15)])
 (.seq (.seq (.region [o 16 (.fld 3 6), o 17 (.load false 1 16), o 18 (.mov 17), gd 19 18 false (.mov 7), gd 20 18 false (.len false 19), gd 21 18 false (.bin 0 .eql 20 (i 0)),
 o 22 (.pick 18 bT 21), o 23 (.mov 22), gd 24 23 false (.fld 4 6), gd 25 23 false (.load false 1 24), gd 26 23 false (.bin 0 .eql 25 (i 2)),
 o 27 (.pick 23 bT 26)])
 (.cond 27 (.seq (.dregion [(o 28 (.fld 1 6), []), (o 29 (.load false 1 28), [0]), (o 30 (.fld 2 6), []), (o 31 (.load false 1 30), [2]), (o 4 (.mov 29), [0, 1]),
 (o 5 (.mov 31), [0, 1, 2, 3, 4])])
 .ret)
  .skip))
 (.seq (.seq (.region [o 32 (.fld 4 6), o 33 (.load false 1 32), o 34 (.bin 0 .eql 33 (i 0))])
 (.cond 34 (.seq (.region [o 35 (.load true 1 2), o 36 (.mov 7), o 37 (.call s_packsOf [35, 36]), o 38 (.call s_request [37]), o 39 (.ext 38 0), o 40 (.ext 38 1), o 4 (.mov 39),
 o 5 (.mov 40)])
 .ret)
  .skip))
 (.seq (.region [o 41 (.load true 1 2), o 42 (.mov 1), o 43 (.mov 7), o 44 (.call s_gridOf [41, 42, 43]), o 45 (.call s_gridRequest [44]), o 46 (.ext 45 0),
 o 47 (.ext 45 1), o 4 (.mov 46), o 5 (.mov 47)])
 .ret))))))⟩
/-- loop.example/widgetroom/spec.seenNode -/
def pf67 : PFunc := ⟨1, [true], false, false, [.cell 2 true 1, .tmp 3, .tmp 4, .tmp 5],
  (.seq (.region [o 2 (.alloc zTree), o 3 (.mov (i 0)), o 4 (.mov (i 0)), o 5 (.mov (i 0))])
 (.seq (.region [o 10 (.mov 0), o 11 (.call s_treeRoom [10]), o 9 (.mov 11), o 12 (.ext 9 0), o 13 (.ext 9 1), o 14 (.ext 9 2), o 6 (.alloc zTree), u (.store 1 6 12),
 o 7 (.mov 13), o 8 (.mov 14)])
 (.seq (.dregion [(o 15 (.load true 1 6), []), (o 16 (.mov 7), []), (o 17 (.mov 8), []), (o 18 (.mov 0), []), (o 19 (.mov 0), []), (o 20 (.fld 0 6), []),
 (o 21 (.load false 1 20), [5]), (o 22 (.len false 21), [5, 6]), (o 23 (.call s_reader_pick [19, 22]), [4, 5, 6, 7]), (o 24 (.mov 0), []),
 (o 25 (.fld 0 6), []), (o 26 (.load false 1 25), [10]), (o 27 (.len false 26), [10, 11]),
 (o 28 (.call s_reader_pick [24, 27]), [4, 5, 6, 7, 8, 9, 10, 11, 12]),
 (o 29 (.bslice 5 zInt [(0, 23), (1, 28), (2, i 0), (3, i (-1)), (4, i 10)]), [4, 5, 6, 7, 8, 9, 10, 11, 12, 13]),
 (o 30 (.call s_reader_one [18, 29]), [3, 4, 5, 6, 7, 8, 9, 10, 11, 12, 13, 14]), (u (.store 1 2 15), [0, 3, 4, 5, 6, 7, 8, 9, 10, 11, 12, 13, 14, 15]),
 (o 3 (.mov 16), [0, 1, 3, 4, 5, 6, 7, 8, 9, 10, 11, 12, 13, 14, 15, 16]),
 (o 4 (.mov 17), [0, 1, 2, 3, 4, 5, 6, 7, 8, 9, 10, 11, 12, 13, 14, 15, 16, 17]),
 (o 5 (.mov 30), [0, 1, 2, 3, 4, 5, 6, 7, 8, 9, 10, 11, 12, 13, 14, 15, 16, 17, 18])])
 .ret)))⟩
def b68_0 : PCode :=
  (.seq (.region [o 12 (.bin 0 .lss 11 10)])
 (.seq (.cond 12 .skip
  (.exit 0))
 (.seq (.block 1 (.seq (.region [o 13 (.mov 11), o 14 (.idx 34 9 11), o 15 (.load true 34 14), o 7 (.alloc zNode), o 6 (.mov 13), u (.store 34 7 15)])
 (.seq (.region [o 16 (.fld 0 7), o 17 (.load false 1 16), o 18 (.mov 1), o 19 (.bin 0 .eql 17 18)])
 (.cond 19 (.region [o 20 (.mov 5), o 21 (.mov 6), o 22 (.bslice 1 zInt [(0, 21)]), o 23 (.app 1 17592186044416 20 22), o 5 (.mov 23)])
  .skip))))
 (.region [o 24 (.bin 0 .add 11 (i 1)), o 11 (.mov 24)]))))
/-- (loop.example/widgetroom/impl.Tree).kids -/
def pf68 : PFunc := ⟨2, [], false, false, [.tmp 4],
  (.seq (.region [o 2 (.box 0), o 4 (.mov nl)])
 (.seq (.region [o 5 .nilroot])
 (.seq (.seq (.region [o 8 (.fld 0 2), o 9 (.load false 1 8), o 10 (.len false 9), o 11 (.mov (i 0))])
 (.block 0 (.loop [1, 5, 9, 10, 11] [2, 5, 23, 1002] [4, 5] [4, 5, 23] b68_0)))
 (.seq (.region [o 25 (.mov 5), o 4 (.mov 25)])
 .ret))))⟩
/-- (loop.example/widgetroom/impl.Rect).meet -/
def pf69 : PFunc := ⟨2, [], false, false, [.cell 4 true 4, .tmp 5],
  (.seq (.region [o 2 (.box 0), o 3 (.box 1), o 4 (.alloc zRect), o 5 (.mov bF)])
 (.seq (.dregion [(o 9 (.fld 0 2), []), (o 10 (.load false 1 9), [0]), (o 11 (.fld 0 3), []), (o 12 (.load false 1 11), [2]), (o 13 (.mx [10, 12]), [0, 1, 2, 3]),
 (o 14 (.fld 1 2), []), (o 15 (.load false 1 14), [5]), (o 16 (.fld 1 3), []), (o 17 (.load false 1 16), [7]), (o 18 (.mx [15, 17]), [5, 6, 7, 8]),
 (o 6 (.mov 13), [0, 1, 2, 3, 4]), (o 7 (.mov 18), [0, 1, 2, 3, 4, 5, 6, 7, 8, 9, 10])])
 (.seq (.region [o 19 (.mov 6), o 20 (.mov 7), o 21 (.fld 0 2), o 22 (.load false 1 21), o 23 (.fld 2 2), o 24 (.load false 1 23), o 25 (.bin 0 .add 22 24),
 o 26 (.fld 0 3), o 27 (.load false 1 26), o 28 (.fld 2 3), o 29 (.load false 1 28), o 30 (.bin 0 .add 27 29), o 31 (.mn [25, 30]), o 32 (.mov 6),
 o 33 (.bin 0 .sub 31 32), o 34 (.fld 1 2), o 35 (.load false 1 34), o 36 (.fld 3 2), o 37 (.load false 1 36), o 38 (.bin 0 .add 35 37), o 39 (.fld 1 3),
 o 40 (.load false 1 39), o 41 (.fld 3 3), o 42 (.load false 1 41), o 43 (.bin 0 .add 40 42), o 44 (.mn [38, 43]), o 45 (.mov 7),
 o 46 (.bin 0 .sub 44 45), o 47 (.build zRect [(0, 1, 19), (1, 1, 20), (2, 1, 33), (3, 1, 46)]), o 8 (.alloc zRect), u (.store 4 8 47)])
 (.seq (.seq (.region [o 48 (.fld 2 8), o 49 (.load false 1 48), o 50 (.bin 0 .lss 49 (i 1)), o 51 (.mov 50), gd 52 51 false (.fld 3 8), gd 53 51 false (.load false 1 52),
 gd 54 51 false (.bin 0 .lss 53 (i 1)), o 55 (.pick 51 bT 54)])
 (.cond 55 (.seq (.region [o 56 (.build zRect []), u (.store 4 4 56), o 5 (.mov bF)])
 .ret)
  .skip))
 (.seq (.region [o 57 (.load true 4 8), u (.store 4 4 57), o 5 (.mov bT)])
 .ret)))))⟩
/-- loop.example/widgetroom/spec.goodNode -/
def pf70 : PFunc := ⟨2, [], false, false, [.tmp 4],
  (.seq (.region [o 2 (.box 0), o 4 (.mov bF)])
 (.seq (.region [o 5 (.load true 1 2), o 6 (.call s_validTree [5]), o 7 (.mov 6), gd 8 7 true (.mov 1), gd 9 7 true (.fld 0 2), gd 10 7 true (.load false 1 9),
 gd 11 7 true (.len false 10), gd 12 7 true (.bin 0 .sub 11 (i 1)), gd 13 7 true (.call s_inRange [8, i 0, 12]), o 14 (.pick 7 13 bF), o 4 (.mov 14)])
 .ret))⟩
def b71_0 : PCode :=
  (.seq (.seq (.region [o 8 (.mov 6), o 9 (.fld 0 2), o 10 (.load false 1 9), o 11 (.len false 10), o 12 (.bin 0 .lss 8 11)])
 (.cond 12 .skip
  (.exit 0)))
 (.seq (.block 1 (.seq (.region [o 15 (.fld 0 2), o 16 (.load false 1 15), o 17 (.mov 6), o 18 (.idx 34 16 17), o 19 (.fld 0 18), o 20 (.load false 1 19), o 21 (.mov 1),
 o 22 (.bin 0 .eql 20 21)])
 (.cond 22 (.region [o 23 (.mov 5), o 24 (.mov 6), o 25 (.bslice 1 zInt [(0, 24)]), o 26 (.app 1 17592186044416 23 25), o 5 (.mov 26)])
  .skip)))
 (.region [o 13 (.mov 6), o 14 (.bin 0 .add 13 (i 1)), o 6 (.mov 14)])))
/-- loop.example/widgetroom/spec.kidsOf -/
def pf71 : PFunc := ⟨2, [], false, false, [.tmp 4],
  (.seq (.region [o 2 (.box 0), o 4 (.mov nl)])
 (.seq (.region [o 7 (.bslice 0 zInt []), o 5 (.mov 7)])
 (.seq (.seq (.region [o 6 (.mov (i 1))])
 (.block 0 (.loop [1, 2, 5, 6] [2, 7, 26, 1002] [4, 5] [4, 7, 26] b71_0)))
 (.seq (.region [o 27 (.mov 5), o 4 (.mov 27)])
 .ret))))⟩
/-- loop.example/widgetroom/spec.meet -/
def pf72 : PFunc := ⟨2, [], false, false, [.cell 4 true 4, .tmp 5],
  (.seq (.region [o 2 (.box 0), o 3 (.box 1), o 4 (.alloc zRect), o 5 (.mov bF)])
 (.seq (.region [o 10 (.fld 0 2), o 11 (.load false 1 10), o 12 (.fld 0 3), o 13 (.load false 1 12), o 14 (.mx [11, 13]), o 6 (.mov 14)])
 (.seq (.region [o 15 (.fld 1 2), o 16 (.load false 1 15), o 17 (.fld 1 3), o 18 (.load false 1 17), o 19 (.mx [16, 18]), o 7 (.mov 19)])
 (.seq (.region [o 20 (.fld 0 2), o 21 (.load false 1 20), o 22 (.fld 2 2), o 23 (.load false 1 22), o 24 (.bin 0 .add 21 23), o 25 (.fld 0 3), o 26 (.load false 1 25),
 o 27 (.fld 2 3), o 28 (.load false 1 27), o 29 (.bin 0 .add 26 28), o 30 (.mn [24, 29]), o 31 (.mov 6), o 32 (.bin 0 .sub 30 31), o 8 (.mov 32)])
 (.seq (.region [o 33 (.fld 1 2), o 34 (.load false 1 33), o 35 (.fld 3 2), o 36 (.load false 1 35), o 37 (.bin 0 .add 34 36), o 38 (.fld 1 3), o 39 (.load false 1 38),
 o 40 (.fld 3 3), o 41 (.load false 1 40), o 42 (.bin 0 .add 39 41), o 43 (.mn [37, 42]), o 44 (.mov 7), o 45 (.bin 0 .sub 43 44), o 9 (.mov 45)])
 (.seq (.seq (.region [o 46 (.mov 8), o 47 (.bin 0 .leq 46 (i 0)), o 48 (.mov 47), gd 49 48 false (.mov 9), gd 50 48 false (.bin 0 .leq 49 (i 0)), o 51 (.pick 48 bT 50)])
 (.cond 51 (.seq (.region [o 52 (.build zRect []), u (.store 4 4 52), o 5 (.mov bF)])
 .ret)
  .skip))
 (.seq (.region [o 53 (.mov 6), o 54 (.mov 7), o 55 (.mov 8), o 56 (.mov 9), o 57 (.build zRect [(0, 1, 53), (1, 1, 54), (2, 1, 55), (3, 1, 56)]), u (.store 4 4 57),
 o 5 (.mov bT)])
 .ret)))))))⟩
/-- (*loop.example/widgetroom/spec.reader).one -/
def pf73 : PFunc := ⟨2, [true, false], false, false, [.tmp 4],
  (.seq (.region [o 4 (.mov (i 0))])
 (.seq (.region [o 5 (.mov 1), o 6 (.mov 0), o 7 (.mov 1), o 8 (.len false 7), o 9 (.call s_reader_pick [6, 8]), o 10 (.idx 1 5 9), o 11 (.load false 1 10),
 o 4 (.mov 11)])
 .ret))⟩
/-- (*loop.example/widgetroom/spec.reader).pick -/
def pf74 : PFunc := ⟨2, [true, false], false, false, [.tmp 4],
  (.seq (.region [o 4 (.mov (i 0))])
 (.seq (.region [o 7 (.mov 0), o 8 (.mov 0), o 9 (.nilc 8), o 10 (.fld 1 9), o 11 (.load false 1 10), o 12 (.bin 0 .add 11 (i 1)), o 13 (.nilc 7), o 14 (.fld 1 13),
 u (.store 1 14 12)])
 (.seq (.seq (.region [o 15 (.mov 1), o 16 (.bin 0 .lss 15 (i 1)), o 17 (.mov 16), gd 18 17 false (.mov 0), gd 19 17 false (.nilc 18), gd 20 17 false (.fld 0 19),
 gd 21 17 false (.load false 1 20), gd 22 17 false (.len false 21), gd 23 17 false (.bin 0 .eql 22 (i 0)), o 24 (.pick 17 bT 23)])
 (.cond 24 (.seq (.region [o 4 (.mov (i 0))])
 .ret)
  .skip))
 (.seq (.region [o 25 (.mov 0), o 26 (.nilc 25), o 27 (.fld 1 26), o 28 (.load false 1 27), o 29 (.bin 0 .sub 28 (i 1)), o 5 (.mov 29)])
 (.seq (.seq (.region [o 30 (.mov 5), o 31 (.mov 0), o 32 (.nilc 31), o 33 (.fld 0 32), o 34 (.load false 1 33), o 35 (.len false 34), o 36 (.bin 0 .lss 30 35)])
 (.cond 36 (.seq (.region [o 37 (.mov 0), o 38 (.nilc 37), o 39 (.fld 0 38), o 40 (.load false 1 39), o 41 (.mov 5), o 42 (.idx 1 40 41), o 43 (.load false 1 42),
 o 44 (.conv .i64 43), o 45 (.mov 1), o 46 (.bin 0 .rem 44 45), o 4 (.mov 46)])
 .ret)
  .skip))
 (.seq (.dregion [(o 47 (.mov 0), []), (o 48 (.nilc 47), [0]), (o 49 (.fld 0 48), [0, 1]), (o 50 (.load false 1 49), [0, 1, 2]), (o 51 (.mov 5), []), (o 52 (.mov 0), []),
 (o 53 (.nilc 52), [5]), (o 54 (.fld 0 53), [5, 6]), (o 55 (.load false 1 54), [5, 6, 7]), (o 56 (.len false 55), [5, 6, 7, 8]),
 (o 57 (.bin 0 .rem 51 56), [4, 5, 6, 7, 8, 9]), (o 58 (.idx 1 50 57), [0, 1, 2, 3, 4, 5, 6, 7, 8, 9, 10]),
 (o 59 (.load false 1 58), [0, 1, 2, 3, 4, 5, 6, 7, 8, 9, 10, 11]), (o 60 (.conv .i64 59), [0, 1, 2, 3, 4, 5, 6, 7, 8, 9, 10, 11, 12]),
 (o 61 (.bin 0 .mul 60 (i 131)), [0, 1, 2, 3, 4, 5, 6, 7, 8, 9, 10, 11, 12, 13]), (o 62 (.mov 0), []), (o 63 (.nilc 62), [15]),
 (o 64 (.fld 0 63), [15, 16]), (o 65 (.load false 1 64), [15, 16, 17]), (o 66 (.mov 5), []), (o 67 (.bin 0 .mul 66 (i 7)), [19]),
 (o 68 (.bin 0 .add 67 (i 3)), [19, 20]), (o 69 (.mov 0), []), (o 70 (.nilc 69), [22]), (o 71 (.fld 0 70), [22, 23]),
 (o 72 (.load false 1 71), [22, 23, 24]), (o 73 (.len false 72), [22, 23, 24, 25]), (o 74 (.bin 0 .rem 68 73), [19, 20, 21, 22, 23, 24, 25, 26]),
 (o 75 (.idx 1 65 74), [15, 16, 17, 18, 19, 20, 21, 22, 23, 24, 25, 26, 27]),
 (o 76 (.load false 1 75), [15, 16, 17, 18, 19, 20, 21, 22, 23, 24, 25, 26, 27, 28]),
 (o 77 (.conv .i64 76), [15, 16, 17, 18, 19, 20, 21, 22, 23, 24, 25, 26, 27, 28, 29]),
 (o 78 (.bin 0 .mul 77 (i 1117)), [15, 16, 17, 18, 19, 20, 21, 22, 23, 24, 25, 26, 27, 28, 29, 30]),
 (o 79 (.bin 0 .add 61 78), [0, 1, 2, 3, 4, 5, 6, 7, 8, 9, 10, 11, 12, 13, 14, 15, 16, 17, 18, 19, 20, 21, 22, 23, 24, 25, 26, 27, 28, 29, 30, 31]),
 (o 80 (.mov 5), []), (o 81 (.bin 0 .mul 80 (i 29)), [33]),
 (o 82 (.bin 0 .add 79 81), [0, 1, 2, 3, 4, 5, 6, 7, 8, 9, 10, 11, 12, 13, 14, 15, 16, 17, 18, 19, 20, 21, 22, 23, 24, 25, 26, 27, 28, 29, 30, 31, 32, 33, 34]),
 (o 83 (.mov 5), []), (o 84 (.mov 0), []), (o 85 (.nilc 84), [37]), (o 86 (.fld 0 85), [37, 38]), (o 87 (.load false 1 86), [37, 38, 39]),
 (o 88 (.len false 87), [37, 38, 39, 40]), (o 89 (.bin 0 .quo 83 88), [36, 37, 38, 39, 40, 41]),
 (o 90 (.bin 0 .mul 89 (i 53)), [36, 37, 38, 39, 40, 41, 42]),
 (o 91 (.bin 0 .add 82 90), [0, 1, 2, 3, 4, 5, 6, 7, 8, 9, 10, 11, 12, 13, 14, 15, 16, 17, 18, 19, 20, 21, 22, 23, 24, 25, 26, 27, 28, 29, 30, 31, 32, 33, 34, 35, 36, 37, 38, 39, 40, 41, 42, 43]),
 (o 6 (.mov 91), [0, 1, 2, 3, 4, 5, 6, 7, 8, 9, 10, 11, 12, 13, 14, 15, 16, 17, 18, 19, 20, 21, 22, 23, 24, 25, 26, 27, 28, 29, 30, 31, 32, 33, 34, 35, 36, 37, 38, 39, 40, 41, 42, 43, 44])])
 (.seq (.region [o 92 (.mov 6), o 93 (.mov 6), o 94 (.bin 0 .quo 93 (i 64)), o 95 (.bin 0 .xor 92 94), o 6 (.mov 95)])
 (.seq (.region [o 96 (.mov 6), o 97 (.mov 1), o 98 (.bin 0 .rem 96 97), o 4 (.mov 98)])
 .ret))))))))⟩
/-- (loop.example/widgetroom/impl.Rect).has -/
def pf75 : PFunc := ⟨3, [], false, false, [.tmp 6],
  (.seq (.region [o 3 (.box 0), o 6 (.mov bF)])
 (.seq (.region [o 7 (.mov 1), o 8 (.fld 0 3), o 9 (.load false 1 8), o 10 (.bin 0 .geq 7 9), o 11 (.mov 10), gd 12 11 true (.mov 1), gd 13 11 true (.fld 0 3),
 gd 14 11 true (.load false 1 13), gd 15 11 true (.fld 2 3), gd 16 11 true (.load false 1 15), gd 17 11 true (.bin 0 .add 14 16),
 gd 18 11 true (.bin 0 .lss 12 17), o 19 (.pick 11 18 bF), o 20 (.mov 19), gd 21 20 true (.mov 2), gd 22 20 true (.fld 1 3),
 gd 23 20 true (.load false 1 22), gd 24 20 true (.bin 0 .geq 21 23), o 25 (.pick 20 24 bF), o 26 (.mov 25), gd 27 26 true (.mov 2),
 gd 28 26 true (.fld 1 3), gd 29 26 true (.load false 1 28), gd 30 26 true (.fld 3 3), gd 31 26 true (.load false 1 30),
 gd 32 26 true (.bin 0 .add 29 31), gd 33 26 true (.bin 0 .lss 27 32), o 34 (.pick 26 33 bF), o 6 (.mov 34)])
 .ret))⟩
/-- loop.example/widgetroom/spec.inRange -/
def pf76 : PFunc := ⟨3, [], false, false, [.tmp 6],
  (.seq (.region [o 6 (.mov bF)])
 (.seq (.region [o 7 (.mov 1), o 8 (.mov 0), o 9 (.bin 0 .leq 7 8), o 10 (.mov 9), gd 11 10 true (.mov 0), gd 12 10 true (.mov 2), gd 13 10 true (.bin 0 .leq 11 12),
 o 14 (.pick 10 13 bF), o 6 (.mov 14)])
 .ret))⟩
def b77_0 : PCode :=
  (.seq (.seq (.region [o 19 (.mov 12), o 20 (.bin 0 .geq 19 (i 0))])
 (.cond 20 .skip
  (.exit 0)))
 (.seq (.block 1 (.seq (.region [o 23 (.mov 1), o 24 (.mov 11), o 25 (.mov 12), o 26 (.idx 1 24 25), o 27 (.load false 1 26), o 28 (.idx 4 23 27), o 29 (.load true 4 28), o 30 (.mov 3),
 o 31 (.mov 4), o 32 (.call s_hasPoint [29, 30, 31])])
 (.cond 32 (.seq (.dregion [(o 33 (.load true 1 5), []), (o 34 (.mov 1), []), (o 35 (.mov 11), []), (o 36 (.mov 12), []), (o 37 (.idx 1 35 36), [2, 3]),
 (o 38 (.load false 1 37), [2, 3, 4]), (o 39 (.mov 3), []), (o 40 (.mov 4), []), (o 41 (.call s_hit [33, 34, 38, 39, 40]), [0, 1, 2, 3, 4, 5, 6, 7]),
 (o 10 (.mov 41), [0, 1, 2, 3, 4, 5, 6, 7, 8])])
 .ret)
  .skip)))
 (.region [o 21 (.mov 12), o 22 (.bin 0 .sub 21 (i 1)), o 12 (.mov 22)])))
/-- loop.example/widgetroom/spec.hit -/
def pf77 : PFunc := ⟨5, [], false, false, [.tmp 10],
  (.seq (.region [o 5 (.box 0), o 10 (.mov (i 0))])
 (.seq (.region [o 13 (.load true 1 5), o 14 (.mov 2), o 15 (.call s_kidsOf [13, 14]), o 11 (.mov 15)])
 (.seq (.seq (.region [o 16 (.mov 11), o 17 (.len false 16), o 18 (.bin 0 .sub 17 (i 1)), o 12 (.mov 18)])
 (.block 0 (.loop [1, 2, 3, 4, 5, 11, 12] [5, 1005, 1015] [2, 10] [] b77_0)))
 (.seq (.region [o 42 (.mov 2), o 10 (.mov 42)])
 .ret))))⟩
def b78_0 : PCode :=
  (.seq (.seq (.region [o 29 (.mov 9), o 30 (.mov 29), gd 31 30 true (.mov 10), gd 32 30 true (.bin 0 .geq 31 (i 0)), o 33 (.pick 30 32 bF)])
 (.cond 33 .skip
  (.exit 0)))
 (.seq (.block 1 (.dregion [(o 41 (.load true 4 8), []), (o 42 (.mov 1), []), (o 43 (.mov 10), []), (o 44 (.idx 4 42 43), [1, 2]), (o 45 (.load true 4 44), [1, 2, 3]),
 (o 46 (.call i_Rect_meet [41, 45]), [0, 1, 2, 3, 4]), (o 40 (.mov 46), [0, 1, 2, 3, 4, 5]), (o 47 (.ext 40 0), [0, 1, 2, 3, 4, 5, 6]),
 (o 48 (.ext 40 1), [0, 1, 2, 3, 4, 5, 6]), (u (.store 4 8 47), [0, 1, 2, 3, 4, 5, 6, 7]), (o 9 (.mov 48), [0, 1, 2, 3, 4, 5, 6, 7, 8, 9])]))
 (.region [o 34 (.fld 0 3), o 35 (.load false 1 34), o 36 (.mov 10), o 37 (.idx 34 35 36), o 38 (.fld 0 37), o 39 (.load false 1 38), o 10 (.mov 39)])))
/-- (loop.example/widgetroom/impl.Tree).seen -/
def pf78 : PFunc := ⟨3, [], false, false, [.cell 6 true 4, .tmp 7],
  (.seq (.region [o 3 (.box 0), o 6 (.alloc zRect), o 7 (.mov bF)])
 (.seq (.dregion [(o 12 (.mov 1), []), (o 13 (.mov 2), []), (o 14 (.idx 4 12 13), [0, 1]), (o 15 (.load true 4 14), [0, 1, 2]), (o 16 (.mov 1), []), (o 17 (.mov 2), []),
 (o 18 (.idx 4 16 17), [4, 5]), (o 19 (.load true 4 18), [4, 5, 6]), (o 20 (.call i_Rect_meet [15, 19]), [0, 1, 2, 3, 4, 5, 6, 7]),
 (o 11 (.mov 20), [0, 1, 2, 3, 4, 5, 6, 7, 8]), (o 21 (.ext 11 0), [0, 1, 2, 3, 4, 5, 6, 7, 8, 9]), (o 22 (.ext 11 1), [0, 1, 2, 3, 4, 5, 6, 7, 8, 9]),
 (o 8 (.alloc zRect), []), (u (.store 4 8 21), [0, 1, 2, 3, 4, 5, 6, 7, 8, 9, 10, 12]), (o 9 (.mov 22), [0, 1, 2, 3, 4, 5, 6, 7, 8, 9, 10, 11, 12, 13])])
 (.seq (.seq (.region [o 23 (.fld 0 3), o 24 (.load false 1 23), o 25 (.mov 2), o 26 (.idx 34 24 25), o 27 (.fld 0 26), o 28 (.load false 1 27), o 10 (.mov 28)])
 (.block 0 (.loop [1, 3, 6, 8, 9, 10] [3, 6, 8, 1003] [6, 7, 8, 9] [6, 8] b78_0)))
 (.seq (.region [o 49 (.load true 4 8), o 50 (.mov 9), u (.store 4 6 49), o 7 (.mov 50)])
 .ret))))⟩
/-- loop.example/widgetroom/laws.szNode -/
def pf79 : PFunc := ⟨2, [], false, false, [.tmp 4],
  (.seq (.region [o 2 (.box 0), o 4 (.mov (i 0))])
 (.seq (.region [o 5 (.fld 5 2), o 6 (.load false 1 5), o 7 (.mov 1), o 8 (.call l_szLineS [6, 7]), o 1 (.mov 8)])
 (.seq (.seq (.region [o 9 (.mov 1), o 10 (.bin 0 .lss 9 (i 0))])
 (.cond 10 (.seq (.region [o 4 (.mov (i (-1)))])
 .ret)
  .skip))
 (.seq (.region [o 11 (.fld 6 2), o 12 (.load false 1 11), o 13 (.mov 1), o 14 (.call l_szLineS [12, 13]), o 1 (.mov 14)])
 (.seq (.seq (.region [o 15 (.mov 1), o 16 (.bin 0 .lss 15 (i 0))])
 (.cond 16 (.seq (.region [o 4 (.mov (i (-1)))])
 .ret)
  .skip))
 (.seq (.region [o 17 (.mov 1), o 4 (.mov 17)])
 .ret))))))⟩
/-- loop.example/widgetroom/laws.toNode -/
def pf80 : PFunc := ⟨1, [], false, false, [.cell 2 true 34],
  (.seq (.region [o 1 (.box 0), o 2 (.alloc zNode)])
 (.seq (.region [o 3 (.alloc zNode)])
 (.seq (.region [o 4 (.fld 0 1), o 5 (.load false 1 4), o 6 (.fld 0 3), u (.store 1 6 5)])
 (.seq (.region [o 7 (.fld 1 1), o 8 (.load false 1 7), o 9 (.fld 1 3), u (.store 1 9 8)])
 (.seq (.region [o 10 (.fld 2 1), o 11 (.load false 1 10), o 12 (.fld 2 3), u (.store 1 12 11)])
 (.seq (.region [o 13 (.fld 3 1), o 14 (.load false 1 13), o 15 (.fld 3 3), u (.store 1 15 14)])
 (.seq (.region [o 16 (.fld 4 1), o 17 (.load false 1 16), o 18 (.fld 4 3), u (.store 1 18 17)])
 (.seq (.region [o 19 (.fld 5 1), o 20 (.load false 1 19), o 21 (.call l_toLineS [20]), o 22 (.fld 5 3), u (.store 1 22 21)])
 (.seq (.region [o 23 (.fld 6 1), o 24 (.load false 1 23), o 25 (.call l_toLineS [24]), o 26 (.fld 6 3), u (.store 1 26 25)])
 (.seq (.region [o 27 (.fld 7 1), o 28 (.load true 9 27), o 29 (.call l_toPack [28]), o 30 (.fld 7 3), u (.store 9 30 29)])
 (.seq (.region [o 31 (.fld 16 1), o 32 (.load true 9 31), o 33 (.call l_toCell [32]), o 34 (.fld 16 3), u (.store 9 34 33)])
 (.seq (.region [o 35 (.fld 25 1), o 36 (.load true 9 35), o 37 (.call l_toPlace [36]), o 38 (.fld 25 3), u (.store 9 38 37)])
 (.seq (.region [o 39 (.load true 34 3), u (.store 34 2 39)])
 .ret)))))))))))))⟩
/-- (loop.example/widgetroom/impl.Node).ok -/
def pf81 : PFunc := ⟨1, [], false, false, [.tmp 2],
  (.seq (.region [o 1 (.box 0), o 2 (.mov bF)])
 (.seq (.seq (.region [o 3 (.fld 1 1), o 4 (.load false 1 3), o 5 (.call i_within [4, i 0, i 30]), o 6 (.not 5), o 7 (.mov 6), gd 8 7 false (.fld 2 1),
 gd 9 7 false (.load false 1 8), gd 10 7 false (.call i_within [9, i 0, i 30]), gd 11 7 false (.not 10), o 12 (.pick 7 bT 11), o 13 (.mov 12),
 gd 14 13 false (.fld 4 1), gd 15 13 false (.load false 1 14), gd 16 13 false (.call i_within [15, i 0, i 2]), gd 17 13 false (.not 16),
 o 18 (.pick 13 bT 17)])
 (.cond 18 (.seq (.region [o 2 (.mov bF)])
 .ret)
  .skip))
 (.seq (.seq (.region [o 19 (.fld 7 1), o 20 (.load true 9 19), o 21 (.call i_ValidPack [20]), o 22 (.not 21), o 23 (.mov 22), gd 24 23 false (.fld 7 1),
 gd 25 23 false (.fld 0 24), gd 26 23 false (.load false 1 25), gd 27 23 false (.bin 0 .neq 26 (i 0)), o 28 (.pick 23 bT 27), o 29 (.mov 28),
 gd 30 29 false (.fld 7 1), gd 31 29 false (.fld 1 30), gd 32 29 false (.load false 1 31), gd 33 29 false (.bin 0 .neq 32 (i 0)), o 34 (.pick 29 bT 33),
 o 35 (.mov 34), gd 36 35 false (.fld 25 1), gd 37 35 false (.load true 9 36), gd 38 35 false (.call i_ValidPlace [37]), gd 39 35 false (.not 38),
 o 40 (.pick 35 bT 39), o 41 (.mov 40), gd 42 41 false (.fld 16 1), gd 43 41 false (.fld 4 42), gd 44 41 false (.load false 1 43),
 gd 45 41 false (.bin 0 .neq 44 (i 0)), o 46 (.pick 41 bT 45), o 47 (.mov 46), gd 48 47 false (.fld 16 1), gd 49 47 false (.fld 5 48),
 gd 50 47 false (.load false 1 49), gd 51 47 false (.bin 0 .neq 50 (i 0)), o 52 (.pick 47 bT 51)])
 (.cond 52 (.seq (.region [o 2 (.mov bF)])
 .ret)
  .skip))
 (.seq (.seq (.region [o 53 (.fld 4 1), o 54 (.load false 1 53), o 55 (.bin 0 .eql 54 (i 1))])
 (.cond 55 (.seq (.region [o 56 (.fld 5 1), o 57 (.load false 1 56), o 58 (.call i_linesOk [57]), o 59 (.mov 58), gd 60 59 true (.fld 6 1), gd 61 59 true (.load false 1 60),
 gd 62 59 true (.call i_linesOk [61]), o 63 (.pick 59 62 bF), o 2 (.mov 63)])
 .ret)
  .skip))
 (.seq (.region [o 64 (.fld 5 1), o 65 (.load false 1 64), o 66 (.len false 65), o 67 (.bin 0 .eql 66 (i 0)), o 68 (.mov 67), gd 69 68 true (.fld 6 1),
 gd 70 68 true (.load false 1 69), gd 71 68 true (.len false 70), gd 72 68 true (.bin 0 .eql 71 (i 0)), o 73 (.pick 68 72 bF), o 2 (.mov 73)])
 .ret)))))⟩
/-- (loop.example/widgetroom/impl.Cell).lies -/
def pf82 : PFunc := ⟨2, [], false, false, [.tmp 4],
  (.seq (.region [o 2 (.box 0), o 3 (.box 1), o 4 (.mov bF)])
 (.seq (.region [o 5 (.fld 0 2), o 6 (.load false 1 5), o 7 (.fld 2 2), o 8 (.load false 1 7), o 9 (.fld 0 3), o 10 (.load false 1 9), o 11 (.len false 10),
 o 12 (.call i_spanOk [6, 8, 11]), o 13 (.mov 12), gd 14 13 true (.fld 1 2), gd 15 13 true (.load false 1 14), gd 16 13 true (.fld 3 2),
 gd 17 13 true (.load false 1 16), gd 18 13 true (.fld 1 3), gd 19 13 true (.load false 1 18), gd 20 13 true (.len false 19),
 gd 21 13 true (.call i_spanOk [15, 17, 20]), o 22 (.pick 13 21 bF), o 23 (.mov 22), gd 24 23 true (.fld 6 2), gd 25 23 true (.load false 1 24),
 gd 26 23 true (.call i_within [25, i 0, i 15]), o 27 (.pick 23 26 bF), o 28 (.mov 27), gd 29 28 true (.fld 7 2), gd 30 28 true (.load false 1 29),
 gd 31 28 true (.call i_within [30, i 0, i 10]), o 32 (.pick 28 31 bF), o 33 (.mov 32), gd 34 33 true (.fld 8 2), gd 35 33 true (.load false 1 34),
 gd 36 33 true (.call i_within [35, i 0, i 10]), o 37 (.pick 33 36 bF), o 4 (.mov 37)])
 .ret))⟩
/-- slices.Clone[[]loop.example/widgetroom/impl.Line,loop.example/widgetroom/impl.Line] -/
def pf83 : PFunc := ⟨1, [], false, false, [.tmp 2],
  (.seq (.region [o 2 (.mov nl)])
 (.seq (.seq (.region [o 3 (.mov 0), o 4 (.bin 2 .eql 3 nl)])
 (.cond 4 (.seq (.region [o 2 (.mov nl)])
 .ret)
  .skip))
 (.seq (.region [o 5 (.bslice 0 zLine []), o 6 (.mov 0), o 7 (.app 2 8796093022208 5 6), o 2 (.mov 7)])
 .ret)))⟩
/-- loop.example/widgetroom/laws.eqNode -/
def pf84 : PFunc := ⟨2, [], false, false, [.tmp 4],
  (.seq (.region [o 2 (.box 0), o 3 (.box 1), o 4 (.mov bF)])
 (.seq (.seq (.region [o 5 (.fld 0 2), o 6 (.load false 1 5), o 7 (.fld 0 3), o 8 (.load false 1 7), o 9 (.bin 0 .neq 6 8)])
 (.cond 9 (.seq (.region [o 4 (.mov bF)])
 .ret)
  .skip))
 (.seq (.seq (.region [o 10 (.fld 1 2), o 11 (.load false 1 10), o 12 (.fld 1 3), o 13 (.load false 1 12), o 14 (.bin 0 .neq 11 13)])
 (.cond 14 (.seq (.region [o 4 (.mov bF)])
 .ret)
  .skip))
 (.seq (.seq (.region [o 15 (.fld 2 2), o 16 (.load false 1 15), o 17 (.fld 2 3), o 18 (.load false 1 17), o 19 (.bin 0 .neq 16 18)])
 (.cond 19 (.seq (.region [o 4 (.mov bF)])
 .ret)
  .skip))
 (.seq (.seq (.region [o 20 (.fld 3 2), o 21 (.load false 1 20), o 22 (.fld 3 3), o 23 (.load false 1 22), o 24 (.bin 1 .neq 21 23)])
 (.cond 24 (.seq (.region [o 4 (.mov bF)])
 .ret)
  .skip))
 (.seq (.seq (.region [o 25 (.fld 4 2), o 26 (.load false 1 25), o 27 (.fld 4 3), o 28 (.load false 1 27), o 29 (.bin 0 .neq 26 28)])
 (.cond 29 (.seq (.region [o 4 (.mov bF)])
 .ret)
  .skip))
 (.seq (.seq (.region [o 30 (.fld 5 2), o 31 (.load false 1 30), o 32 (.fld 5 3), o 33 (.load false 1 32), o 34 (.call l_eqLineS [31, 33]), o 35 (.not 34)])
 (.cond 35 (.seq (.region [o 4 (.mov bF)])
 .ret)
  .skip))
 (.seq (.seq (.region [o 36 (.fld 6 2), o 37 (.load false 1 36), o 38 (.fld 6 3), o 39 (.load false 1 38), o 40 (.call l_eqLineS [37, 39]), o 41 (.not 40)])
 (.cond 41 (.seq (.region [o 4 (.mov bF)])
 .ret)
  .skip))
 (.seq (.seq (.region [o 42 (.fld 7 2), o 43 (.load true 9 42), o 44 (.fld 7 3), o 45 (.load true 9 44), o 46 (.call l_eqPack [43, 45]), o 47 (.not 46)])
 (.cond 47 (.seq (.region [o 4 (.mov bF)])
 .ret)
  .skip))
 (.seq (.seq (.region [o 48 (.fld 16 2), o 49 (.load true 9 48), o 50 (.fld 16 3), o 51 (.load true 9 50), o 52 (.call l_eqCell [49, 51]), o 53 (.not 52)])
 (.cond 53 (.seq (.region [o 4 (.mov bF)])
 .ret)
  .skip))
 (.seq (.seq (.region [o 54 (.fld 25 2), o 55 (.load true 9 54), o 56 (.fld 25 3), o 57 (.load true 9 56), o 58 (.call l_eqPlace [55, 57]), o 59 (.not 58)])
 (.cond 59 (.seq (.region [o 4 (.mov bF)])
 .ret)
  .skip))
 (.seq (.region [o 4 (.mov bT)])
 .ret))))))))))))⟩
def b85_0 : PCode :=
  (.seq (.seq (.region [o 6 (.mov 5), o 7 (.mov 0), o 8 (.len false 7), o 9 (.bin 0 .lss 6 8)])
 (.cond 9 .skip
  (.exit 0)))
 (.seq (.block 1 (.seq (.region [o 12 (.mov 0), o 13 (.mov 5), o 14 (.mov 1), o 15 (.idx 2 12 13), o 16 (.fld 0 15), u (.store 1 16 14)])
 (.seq (.region [o 17 (.mov 1), o 18 (.bin 0 .add 17 (i 1)), o 1 (.mov 18)])
 (.seq (.region [o 19 (.mov 0), o 20 (.mov 5), o 21 (.mov 1), o 22 (.idx 2 19 20), o 23 (.fld 1 22), u (.store 1 23 21)])
 (.region [o 24 (.mov 1), o 25 (.bin 0 .add 24 (i 1)), o 1 (.mov 25)])))))
 (.region [o 10 (.mov 5), o 11 (.bin 0 .add 10 (i 1)), o 5 (.mov 11)])))
/-- loop.example/widgetroom/laws.markLineS -/
def pf85 : PFunc := ⟨2, [true, false], false, false, [.tmp 4],
  (.seq (.region [o 4 (.mov (i 0))])
 (.seq (.seq (.region [o 5 (.mov (i 0))])
 (.block 0 (.loop [0, 1, 5] [1000] [1, 4] [1000] b85_0)))
 (.seq (.region [o 26 (.mov 1), o 4 (.mov 26)])
 .ret)))⟩
def b86_0 : PCode :=
  (.seq (.seq (.region [o 6 (.mov 5), o 7 (.mov 0), o 8 (.len false 7), o 9 (.bin 0 .lss 6 8)])
 (.cond 9 .skip
  (.exit 0)))
 (.seq (.block 1 (.seq (.seq (.region [o 12 (.mov 0), o 13 (.mov 5), o 14 (.idx 2 12 13), o 15 (.fld 0 14), o 16 (.load false 1 15), o 17 (.mov 1), o 18 (.bin 0 .neq 16 17)])
 (.cond 18 (.seq (.region [o 4 (.mov (i (-1)))])
 .ret)
  .skip))
 (.seq (.region [o 19 (.mov 1), o 20 (.bin 0 .add 19 (i 1)), o 1 (.mov 20)])
 (.seq (.seq (.region [o 21 (.mov 0), o 22 (.mov 5), o 23 (.idx 2 21 22), o 24 (.fld 1 23), o 25 (.load false 1 24), o 26 (.mov 1), o 27 (.bin 0 .neq 25 26)])
 (.cond 27 (.seq (.region [o 4 (.mov (i (-1)))])
 .ret)
  .skip))
 (.region [o 28 (.mov 1), o 29 (.bin 0 .add 28 (i 1)), o 1 (.mov 29)])))))
 (.region [o 10 (.mov 5), o 11 (.bin 0 .add 10 (i 1)), o 5 (.mov 11)])))
/-- loop.example/widgetroom/laws.heldLineS -/
def pf86 : PFunc := ⟨2, [], false, false, [.tmp 4],
  (.seq (.region [o 4 (.mov (i 0))])
 (.seq (.seq (.region [o 5 (.mov (i 0))])
 (.block 0 (.loop [0, 1, 5] [] [1, 4] [] b86_0)))
 (.seq (.region [o 30 (.mov 1), o 4 (.mov 30)])
 .ret)))⟩
/-- loop.example/widgetroom/impl.packRequest -/
def pf87 : PFunc := ⟨1, [], false, false, [.tmp 2, .tmp 3],
  (.seq (.region [o 2 (.mov (i 0)), o 3 (.mov (i 0))])
 (.seq (.seq (.region [o 8 (.mov 0), o 9 (.len false 8), o 10 (.bin 0 .eql 9 (i 0))])
 (.cond 10 (.seq (.region [o 2 (.mov (i 0)), o 3 (.mov (i 0))])
 .ret)
  .skip))
 (.seq (.region [o 12 (.mov 0), o 13 (.idx 9 12 (i 0)), o 14 (.load true 9 13), o 15 (.call i_Pack_needs [14]), o 11 (.mov 15), o 16 (.ext 11 0), o 17 (.ext 11 1),
 o 4 (.mov 16), o 5 (.mov 17)])
 (.seq (.region [o 19 (.mov 0), o 20 (.slice false 9 19 (some (i 1)) none), o 21 (.call i_packRequest [20]), o 18 (.mov 21), o 22 (.ext 18 0), o 23 (.ext 18 1),
 o 6 (.mov 22), o 7 (.mov 23)])
 (.seq (.seq (.region [o 24 (.mov 0), o 25 (.idx 9 24 (i 0)), o 26 (.load true 9 25), o 27 (.call i_Pack_down [26])])
 (.cond 27 (.seq (.region [o 28 (.mov 4), o 29 (.mov 6), o 30 (.mx [28, 29]), o 31 (.mov 5), o 32 (.mov 7), o 33 (.bin 0 .add 31 32), o 2 (.mov 30), o 3 (.mov 33)])
 .ret)
  .skip))
 (.seq (.region [o 34 (.mov 4), o 35 (.mov 6), o 36 (.bin 0 .add 34 35), o 37 (.mov 5), o 38 (.mov 7), o 39 (.mx [37, 38]), o 2 (.mov 36), o 3 (.mov 39)])
 .ret))))))⟩
def b88_0 : PCode :=
  (.seq (.region [o 12 (.bin 0 .lss 11 10)])
 (.seq (.cond 12 .skip
  (.exit 0))
 (.seq (.block 1 (.seq (.region [o 13 (.idx 1 9 11), o 14 (.load false 1 13), o 7 (.mov 14)])
 (.seq (.region [o 15 (.fld 0 2), o 16 (.load false 1 15), o 17 (.mov 7), o 18 (.idx 34 16 17), o 19 (.fld 7 18), o 20 (.load true 9 19), o 8 (.alloc zPack),
 u (.store 9 8 20)])
 (.seq (.region [o 22 (.load true 1 2), o 23 (.mov 7), o 24 (.call i_Tree_request [22, 23]), o 21 (.mov 24), o 25 (.ext 21 0), o 26 (.ext 21 1), o 27 (.fld 0 8),
 u (.store 1 27 25), o 28 (.fld 1 8), u (.store 1 28 26)])
 (.region [o 29 (.mov 5), o 30 (.load true 9 8), o 31 (.bslice 1 zPack [(0, 30)]), o 32 (.app 9 2513169434916 29 31), o 5 (.mov 32)])))))
 (.region [o 33 (.bin 0 .add 11 (i 1)), o 11 (.mov 33)]))))
/-- (loop.example/widgetroom/impl.Tree).packs -/
def pf88 : PFunc := ⟨2, [], false, false, [.tmp 4],
  (.seq (.region [o 2 (.box 0), o 4 (.mov nl)])
 (.seq (.region [o 5 .nilroot])
 (.seq (.seq (.region [o 9 (.mov 1), o 10 (.len false 9), o 11 (.mov (i 0))])
 (.block 0 (.loop [2, 5, 9, 10, 11] [2, 5, 32, 1002] [4, 5] [4, 5, 32] b88_0)))
 (.seq (.region [o 34 (.mov 5), o 4 (.mov 34)])
 .ret))))⟩
def b89_0 : PCode :=
  (.seq (.region [o 27 (.bin 0 .lss 26 25)])
 (.seq (.cond 27 .skip
  (.exit 0))
 (.seq (.block 1 (.seq (.region [o 28 (.idx 1 24 26), o 29 (.load false 1 28), o 9 (.mov 29)])
 (.seq (.region [o 30 (.fld 0 3), o 31 (.load false 1 30), o 32 (.mov 9), o 33 (.idx 34 31 32), o 34 (.fld 16 33), o 35 (.load true 9 34), o 10 (.alloc zCell),
 u (.store 9 10 35)])
 (.seq (.region [o 37 (.load true 1 3), o 38 (.mov 9), o 39 (.call i_Tree_request [37, 38]), o 36 (.mov 39), o 40 (.ext 36 0), o 41 (.ext 36 1), o 42 (.fld 4 10),
 u (.store 1 42 40), o 43 (.fld 5 10), u (.store 1 43 41)])
 (.region [o 44 (.fld 2 7), o 45 (.load false 1 44), o 46 (.load true 9 10), o 47 (.bslice 1 zCell [(0, 46)]), o 48 (.app 9 1954687338268 45 47), o 49 (.fld 2 7),
 u (.store 1 49 48)])))))
 (.region [o 50 (.bin 0 .add 26 (i 1)), o 26 (.mov 50)]))))
/-- (loop.example/widgetroom/impl.Tree).grid -/
def pf89 : PFunc := ⟨3, [], false, false, [.cell 6 true 3],
  (.seq (.region [o 3 (.box 0), o 6 (.alloc zGrid)])
 (.seq (.dregion [(o 11 (.fld 0 3), []), (o 12 (.load false 1 11), [0]), (o 13 (.mov 1), []), (o 14 (.idx 34 12 13), [0, 1, 2]), (o 15 (.fld 5 14), [0, 1, 2, 3]),
 (o 16 (.load false 1 15), [0, 1, 2, 3, 4]), (o 17 (.fld 0 3), []), (o 18 (.load false 1 17), [6]), (o 19 (.mov 1), []),
 (o 20 (.idx 34 18 19), [6, 7, 8]), (o 21 (.fld 6 20), [6, 7, 8, 9]), (o 22 (.load false 1 21), [6, 7, 8, 9, 10]),
 (o 23 (.build zGrid [(0, 1, 16), (1, 1, 22)]), [0, 1, 2, 3, 4, 5, 6, 7, 8, 9, 10, 11]), (o 7 (.alloc zGrid), []),
 (u (.store 3 7 23), [0, 1, 2, 3, 4, 5, 6, 7, 8, 9, 10, 11, 12, 13])])
 (.seq (.seq (.region [o 24 (.mov 2), o 25 (.len false 24), o 26 (.mov (i 0))])
 (.block 0 (.loop [3, 6, 7, 24, 25, 26] [3, 6, 7, 48, 1003, 1006, 1007, 2006, 2007, 3006, 3007] [6, 7] [3, 6, 7, 48, 1003, 1006, 1007, 2006, 2007, 3006, 3007] b89_0)))
 (.seq (.region [o 51 (.load true 3 7), u (.store 3 6 51)])
 .ret))))⟩
/-- (loop.example/widgetroom/impl.Grid).request -/
def pf90 : PFunc := ⟨1, [], false, false, [.tmp 2, .tmp 3],
  (.seq (.region [o 1 (.box 0), o 2 (.mov (i 0)), o 3 (.mov (i 0))])
 (.seq (.region [o 7 (.load true 3 1), o 8 (.call i_Grid_spans [7]), o 6 (.mov 8), o 9 (.ext 6 0), o 10 (.ext 6 1), o 4 (.mov 9), o 5 (.mov 10)])
 (.seq (.dregion [(o 11 (.fld 0 1), []), (o 12 (.load false 1 11), [0]), (o 13 (.mov 4), []), (o 14 (.call i_lineRequests [12, 13]), [0, 1, 2]),
 (o 15 (.call i_sum [14]), [0, 1, 2, 3]), (o 16 (.fld 1 1), []), (o 17 (.load false 1 16), [5]), (o 18 (.mov 5), []),
 (o 19 (.call i_lineRequests [17, 18]), [0, 1, 2, 3, 4, 5, 6, 7]), (o 20 (.call i_sum [19]), [0, 1, 2, 3, 4, 5, 6, 7, 8]),
 (o 2 (.mov 15), [0, 1, 2, 3, 4, 5, 6, 7, 8, 9]), (o 3 (.mov 20), [0, 1, 2, 3, 4, 5, 6, 7, 8, 9, 10])])
 .ret)))⟩
def b91_0 : PCode :=
  (.seq (.region [o 24 (.bin 0 .lss 23 22)])
 (.seq (.cond 24 .skip
  (.exit 0))
 (.seq (.block 1 (.seq (.region [o 25 (.mov 23), o 26 (.idx 9 21 23), o 27 (.load true 9 26), o 10 (.alloc zPack), o 9 (.mov 25), u (.store 9 10 27)])
 (.seq (.dregion [(o 28 (.mov 7), []), (o 29 (.mov 9), []), (o 30 (.idx 4 28 29), [0, 1]), (o 31 (.load true 4 30), [0, 1, 2]), (o 32 (.fld 7 10), []),
 (o 33 (.load false 1 32), [4]), (o 34 (.fld 8 10), []), (o 35 (.load false 1 34), [6]),
 (o 36 (.call i_Rect_inset [31, 33, 35]), [0, 1, 2, 3, 4, 5, 6, 7]), (o 11 (.alloc zRect), []), (u (.store 4 11 36), [0, 1, 2, 3, 4, 5, 6, 7, 8, 9])])
 (.seq (.dregion [(o 37 (.fld 0 10), []), (o 38 (.load false 1 37), [0]), (o 39 (.fld 1 10), []), (o 40 (.load false 1 39), [2]), (o 12 (.mov 38), [0, 1]),
 (o 13 (.mov 40), [0, 1, 2, 3, 4])])
 (.seq (.seq (.region [o 41 (.fld 3 10), o 42 (.load false 1 41)])
 (.cond 42 (.region [o 43 (.fld 2 11), o 44 (.load false 1 43), o 12 (.mov 44)])
  .skip))
 (.seq (.seq (.region [o 45 (.fld 4 10), o 46 (.load false 1 45)])
 (.cond 46 (.region [o 47 (.fld 3 11), o 48 (.load false 1 47), o 13 (.mov 48)])
  .skip))
 (.region [o 49 (.mov 7), o 50 (.mov 9), o 51 (.load true 4 11), o 52 (.mov 12), o 53 (.mov 13), o 54 (.fld 6 10), o 55 (.load false 1 54),
 o 56 (.call i_Rect_anchored [51, 52, 53, 55]), o 57 (.idx 4 49 50), u (.store 4 57 56)])))))))
 (.region [o 58 (.bin 0 .add 23 (i 1)), o 23 (.mov 58)]))))
/-- loop.example/widgetroom/impl.packRects -/
def pf91 : PFunc := ⟨3, [], false, false, [.tmp 6],
  (.seq (.region [o 6 (.mov nl)])
 (.seq (.region [o 15 (.mov 0), o 16 (.mov 1), o 17 (.mov 2), o 18 (.call i_parcels [15, 16, 17]), o 14 (.mov 18), o 19 (.ext 14 0), o 20 (.ext 14 1), o 8 (.alloc zRect),
 o 7 (.mov 19), u (.store 4 8 20)])
 (.seq (.seq (.region [o 21 (.mov 0), o 22 (.len false 21), o 23 (.mov (i 0))])
 (.block 0 (.loop [7, 21, 22, 23] [1018] [6, 7] [6, 1018] b91_0)))
 (.seq (.region [o 59 (.mov 7), o 6 (.mov 59)])
 .ret))))⟩
def b92_0 : PCode :=
  (.seq (.region [o 38 (.bin 0 .lss 37 36)])
 (.seq (.cond 38 .skip
  (.exit 0))
 (.seq (.block 1 (.seq (.region [o 39 (.idx 9 35 37), o 40 (.load true 9 39), o 13 (.alloc zCell), u (.store 9 13 40)])
 (.seq (.dregion [(o 41 (.mov 9), []), (o 42 (.fld 0 13), []), (o 43 (.load false 1 42), [1]), (o 44 (.slice false 1 41 none (some 43)), [0, 1, 2]),
 (o 45 (.call i_sum [44]), [0, 1, 2, 3]), (o 46 (.mov 10), []), (o 47 (.fld 1 13), []), (o 48 (.load false 1 47), [6]),
 (o 49 (.slice false 1 46 none (some 48)), [5, 6, 7]), (o 50 (.call i_sum [49]), [0, 1, 2, 3, 4, 5, 6, 7, 8]), (o 51 (.mov 9), []),
 (o 52 (.fld 0 13), []), (o 53 (.load false 1 52), [11]), (o 54 (.fld 0 13), []), (o 55 (.load false 1 54), [13]), (o 56 (.fld 2 13), []),
 (o 57 (.load false 1 56), [15]), (o 58 (.bin 0 .add 55 57), [13, 14, 15, 16]),
 (o 59 (.slice false 1 51 (some 53) (some 58)), [10, 11, 12, 13, 14, 15, 16, 17]),
 (o 60 (.call i_sum [59]), [0, 1, 2, 3, 4, 5, 6, 7, 8, 9, 10, 11, 12, 13, 14, 15, 16, 17, 18]), (o 61 (.mov 10), []), (o 62 (.fld 1 13), []),
 (o 63 (.load false 1 62), [21]), (o 64 (.fld 1 13), []), (o 65 (.load false 1 64), [23]), (o 66 (.fld 3 13), []), (o 67 (.load false 1 66), [25]),
 (o 68 (.bin 0 .add 65 67), [23, 24, 25, 26]), (o 69 (.slice false 1 61 (some 63) (some 68)), [20, 21, 22, 23, 24, 25, 26, 27]),
 (o 70 (.call i_sum [69]), [0, 1, 2, 3, 4, 5, 6, 7, 8, 9, 10, 11, 12, 13, 14, 15, 16, 17, 18, 19, 20, 21, 22, 23, 24, 25, 26, 27, 28]),
 (o 71 (.build zRect [(0, 1, 45), (1, 1, 50), (2, 1, 60), (3, 1, 70)]), [0, 1, 2, 3, 4, 5, 6, 7, 8, 9, 10, 11, 12, 13, 14, 15, 16, 17, 18, 19, 20, 21, 22, 23, 24, 25, 26, 27, 28, 29]),
 (o 14 (.alloc zRect), []),
 (u (.store 4 14 71), [0, 1, 2, 3, 4, 5, 6, 7, 8, 9, 10, 11, 12, 13, 14, 15, 16, 17, 18, 19, 20, 21, 22, 23, 24, 25, 26, 27, 28, 29, 30, 31])])
 (.seq (.region [o 72 (.load true 4 14), o 73 (.fld 7 13), o 74 (.load false 1 73), o 75 (.fld 8 13), o 76 (.load false 1 75), o 77 (.call i_Rect_inset [72, 74, 76]),
 u (.store 4 14 77)])
 (.seq (.region [o 79 (.fld 2 14), o 80 (.load false 1 79), o 81 (.fld 4 13), o 82 (.load false 1 81), o 83 (.fld 6 13), o 84 (.load false 1 83),
 o 85 (.bin 0 .and 84 (i 1)), o 86 (.bin 0 .neq 85 (i 0)), o 87 (.fld 6 13), o 88 (.load false 1 87), o 89 (.bin 0 .and 88 (i 2)),
 o 90 (.bin 0 .neq 89 (i 0)), o 91 (.call i_stuck [80, 82, 86, 90]), o 78 (.mov 91), o 92 (.ext 78 0), o 93 (.ext 78 1), o 15 (.mov 92), o 16 (.mov 93)])
 (.seq (.region [o 95 (.fld 3 14), o 96 (.load false 1 95), o 97 (.fld 5 13), o 98 (.load false 1 97), o 99 (.fld 6 13), o 100 (.load false 1 99),
 o 101 (.bin 0 .and 100 (i 4)), o 102 (.bin 0 .neq 101 (i 0)), o 103 (.fld 6 13), o 104 (.load false 1 103), o 105 (.bin 0 .and 104 (i 8)),
 o 106 (.bin 0 .neq 105 (i 0)), o 107 (.call i_stuck [96, 98, 102, 106]), o 94 (.mov 107), o 108 (.ext 94 0), o 109 (.ext 94 1), o 17 (.mov 108),
 o 18 (.mov 109)])
 (.region [o 110 (.mov 11), o 111 (.fld 0 14), o 112 (.load false 1 111), o 113 (.mov 15), o 114 (.bin 0 .add 112 113), o 115 (.fld 1 14),
 o 116 (.load false 1 115), o 117 (.mov 17), o 118 (.bin 0 .add 116 117), o 119 (.mov 16), o 120 (.mov 18),
 o 121 (.build zRect [(0, 1, 114), (1, 1, 118), (2, 1, 119), (3, 1, 120)]), o 122 (.bslice 1 zRect [(0, 121)]), o 123 (.app 4 4398046511104 110 122),
 o 11 (.mov 123)])))))))
 (.region [o 124 (.bin 0 .add 37 (i 1)), o 37 (.mov 124)]))))
/-- (loop.example/widgetroom/impl.Grid).rects -/
def pf92 : PFunc := ⟨3, [], false, false, [.tmp 6],
  (.seq (.region [o 3 (.box 0), o 6 (.mov nl)])
 (.seq (.region [o 20 (.load true 3 3), o 21 (.call i_Grid_spans [20]), o 19 (.mov 21), o 22 (.ext 19 0), o 23 (.ext 19 1), o 7 (.mov 22), o 8 (.mov 23)])
 (.seq (.dregion [(o 24 (.fld 0 3), []), (o 25 (.load false 1 24), [0]), (o 26 (.mov 7), []), (o 27 (.mov 1), []), (o 28 (.call i_lineSizes [25, 26, 27]), [0, 1, 2, 3]),
 (o 29 (.fld 1 3), []), (o 30 (.load false 1 29), [5]), (o 31 (.mov 8), []), (o 32 (.mov 2), []),
 (o 33 (.call i_lineSizes [30, 31, 32]), [0, 1, 2, 3, 4, 5, 6, 7, 8]), (o 9 (.mov 28), [0, 1, 2, 3, 4, 5, 6, 7, 8, 9]),
 (o 10 (.mov 33), [0, 1, 2, 3, 4, 5, 6, 7, 8, 9, 10])])
 (.seq (.region [o 11 .nilroot])
 (.seq (.seq (.region [o 34 (.fld 2 3), o 35 (.load false 1 34), o 36 (.len false 35), o 37 (.mov (i 0))])
 (.block 0 (.loop [9, 10, 11, 35, 36, 37] [3, 11, 123, 1003, 1028, 1033, 2003, 3003] [6, 11] [6, 11, 123] b92_0)))
 (.seq (.region [o 125 (.mov 11), o 6 (.mov 125)])
 .ret))))))⟩
/-- (loop.example/widgetroom/impl.Place).rect -/
def pf93 : PFunc := ⟨3, [], false, false, [.cell 6 true 4],
  (.seq (.region [o 3 (.box 0), o 6 (.alloc zRect)])
 (.seq (.dregion [(o 11 (.fld 4 3), []), (o 12 (.load false 1 11), [0]), (o 13 (.fld 6 3), []), (o 14 (.load false 1 13), [2]), (o 15 (.mov 1), []),
 (o 16 (.bin 0 .mul 14 15), [2, 3, 4]), (o 17 (.bin 0 .quo 16 (i 1000)), [2, 3, 4, 5]), (o 18 (.bin 0 .add 12 17), [0, 1, 2, 3, 4, 5, 6]),
 (o 19 (.mx [18, i 0]), [0, 1, 2, 3, 4, 5, 6, 7]), (o 20 (.fld 5 3), []), (o 21 (.load false 1 20), [9]), (o 22 (.fld 7 3), []),
 (o 23 (.load false 1 22), [11]), (o 24 (.mov 2), []), (o 25 (.bin 0 .mul 23 24), [11, 12, 13]), (o 26 (.bin 0 .quo 25 (i 1000)), [11, 12, 13, 14]),
 (o 27 (.bin 0 .add 21 26), [9, 10, 11, 12, 13, 14, 15]), (o 28 (.mx [27, i 0]), [9, 10, 11, 12, 13, 14, 15, 16]),
 (o 7 (.mov 19), [0, 1, 2, 3, 4, 5, 6, 7, 8]), (o 8 (.mov 28), [0, 1, 2, 3, 4, 5, 6, 7, 8, 9, 10, 11, 12, 13, 14, 15, 16, 17, 18])])
 (.seq (.dregion [(o 29 (.fld 0 3), []), (o 30 (.load false 1 29), [0]), (o 31 (.fld 2 3), []), (o 32 (.load false 1 31), [2]), (o 33 (.mov 1), []),
 (o 34 (.bin 0 .mul 32 33), [2, 3, 4]), (o 35 (.bin 0 .quo 34 (i 1000)), [2, 3, 4, 5]), (o 36 (.bin 0 .add 30 35), [0, 1, 2, 3, 4, 5, 6]),
 (o 37 (.fld 1 3), []), (o 38 (.load false 1 37), [8]), (o 39 (.fld 3 3), []), (o 40 (.load false 1 39), [10]), (o 41 (.mov 2), []),
 (o 42 (.bin 0 .mul 40 41), [10, 11, 12]), (o 43 (.bin 0 .quo 42 (i 1000)), [10, 11, 12, 13]), (o 44 (.bin 0 .add 38 43), [8, 9, 10, 11, 12, 13, 14]),
 (o 9 (.mov 36), [0, 1, 2, 3, 4, 5, 6, 7]), (o 10 (.mov 44), [0, 1, 2, 3, 4, 5, 6, 7, 8, 9, 10, 11, 12, 13, 14, 15, 16])])
 (.seq (.dregion [(o 45 (.mov 9), []), (o 46 (.mov 7), []), (o 47 (.fld 8 3), []), (o 48 (.load false 1 47), [2]), (o 49 (.bin 0 .rem 48 (i 3)), [2, 3]),
 (o 50 (.call i_part [46, 49]), [1, 2, 3, 4]), (o 51 (.bin 0 .sub 45 50), [0, 1, 2, 3, 4, 5]), (o 52 (.mov 10), []), (o 53 (.mov 8), []),
 (o 54 (.fld 8 3), []), (o 55 (.load false 1 54), [9]), (o 56 (.bin 0 .quo 55 (i 3)), [9, 10]),
 (o 57 (.call i_part [53, 56]), [1, 2, 3, 4, 5, 8, 9, 10, 11]), (o 58 (.bin 0 .sub 52 57), [1, 2, 3, 4, 5, 7, 8, 9, 10, 11, 12]), (o 59 (.mov 7), []),
 (o 60 (.mov 8), []), (o 61 (.build zRect [(0, 1, 51), (1, 1, 58), (2, 1, 59), (3, 1, 60)]), [0, 1, 2, 3, 4, 5, 6, 7, 8, 9, 10, 11, 12, 13, 14, 15]),
 (u (.store 4 6 61), [0, 1, 2, 3, 4, 5, 6, 7, 8, 9, 10, 11, 12, 13, 14, 15, 16])])
 .ret))))⟩
/-- loop.example/widgetroom/spec.validNode -/
def pf94 : PFunc := ⟨2, [], false, false, [.tmp 4],
  (.seq (.region [o 2 (.box 0), o 4 (.mov bF)])
 (.seq (.region [o 7 (.fld 0 2), o 8 (.load false 1 7), o 9 (.mov 1), o 10 (.idx 34 8 9), o 11 (.load true 34 10), o 5 (.alloc zNode), u (.store 34 5 11)])
 (.seq (.seq (.region [o 12 (.fld 1 5), o 13 (.load false 1 12), o 14 (.call s_inRange [13, i 0, i 30]), o 15 (.not 14), o 16 (.mov 15), gd 17 16 false (.fld 2 5),
 gd 18 16 false (.load false 1 17), gd 19 16 false (.call s_inRange [18, i 0, i 30]), gd 20 16 false (.not 19), o 21 (.pick 16 bT 20), o 22 (.mov 21),
 gd 23 22 false (.fld 4 5), gd 24 22 false (.load false 1 23), gd 25 22 false (.call s_inRange [24, i 0, i 2]), gd 26 22 false (.not 25),
 o 27 (.pick 22 bT 26), o 28 (.mov 27), gd 29 28 false (.fld 7 5), gd 30 28 false (.load true 9 29), gd 31 28 false (.call s_validPack [30]),
 gd 32 28 false (.not 31), o 33 (.pick 28 bT 32), o 34 (.mov 33), gd 35 34 false (.fld 7 5), gd 36 34 false (.fld 0 35),
 gd 37 34 false (.load false 1 36), gd 38 34 false (.bin 0 .neq 37 (i 0)), o 39 (.pick 34 bT 38), o 40 (.mov 39), gd 41 40 false (.fld 7 5),
 gd 42 40 false (.fld 1 41), gd 43 40 false (.load false 1 42), gd 44 40 false (.bin 0 .neq 43 (i 0)), o 45 (.pick 40 bT 44), o 46 (.mov 45),
 gd 47 46 false (.fld 25 5), gd 48 46 false (.load true 9 47), gd 49 46 false (.call s_validPlace [48]), gd 50 46 false (.not 49), o 51 (.pick 46 bT 50),
 o 52 (.mov 51), gd 53 52 false (.fld 16 5), gd 54 52 false (.fld 4 53), gd 55 52 false (.load false 1 54), gd 56 52 false (.bin 0 .neq 55 (i 0)),
 o 57 (.pick 52 bT 56), o 58 (.mov 57), gd 59 58 false (.fld 16 5), gd 60 58 false (.fld 5 59), gd 61 58 false (.load false 1 60),
 gd 62 58 false (.bin 0 .neq 61 (i 0)), o 63 (.pick 58 bT 62)])
 (.cond 63 (.seq (.region [o 4 (.mov bF)])
 .ret)
  .skip))
 (.seq (.seq (.region [o 64 (.fld 4 5), o 65 (.load false 1 64), o 66 (.bin 0 .eql 65 (i 1)), o 67 (.mov 66), gd 68 67 true (.fld 5 5), gd 69 67 true (.load false 1 68),
 gd 70 67 true (.call s_validLines [69]), gd 71 67 true (.not 70), gd 72 67 true (.mov 71), gd 73 72 false (.fld 6 5), gd 74 72 false (.load false 1 73),
 gd 75 72 false (.call s_validLines [74]), gd 76 72 false (.not 75), gd 77 67 true (.pick 72 bT 76), o 78 (.pick 67 77 bF), o 79 (.mov 78),
 gd 80 79 false (.fld 4 5), gd 81 79 false (.load false 1 80), gd 82 79 false (.bin 0 .neq 81 (i 1)), gd 83 79 false (.mov 82), gd 84 83 true (.fld 5 5),
 gd 85 83 true (.load false 1 84), gd 86 83 true (.len false 85), gd 87 83 true (.bin 0 .gtr 86 (i 0)), gd 88 83 true (.mov 87),
 gd 89 88 false (.fld 6 5), gd 90 88 false (.load false 1 89), gd 91 88 false (.len false 90), gd 92 88 false (.bin 0 .gtr 91 (i 0)),
 gd 93 83 true (.pick 88 bT 92), gd 94 79 false (.pick 83 93 bF), o 95 (.pick 79 bT 94)])
 (.cond 95 (.seq (.region [o 4 (.mov bF)])
 .ret)
  .skip))
 (.seq (.seq (.region [o 96 (.mov 1), o 97 (.bin 0 .eql 96 (i 0))])
 (.cond 97 (.seq (.region [o 98 (.fld 0 5), o 99 (.load false 1 98), o 100 (.bin 0 .eql 99 (i (-1))), o 4 (.mov 100)])
 .ret)
  .skip))
 (.seq (.seq (.region [o 101 (.fld 0 5), o 102 (.load false 1 101), o 103 (.mov 1), o 104 (.bin 0 .sub 103 (i 1)), o 105 (.call s_inRange [102, i 0, 104]), o 106 (.not 105)])
 (.cond 106 (.seq (.region [o 4 (.mov bF)])
 .ret)
  .skip))
 (.seq (.region [o 107 (.fld 0 2), o 108 (.load false 1 107), o 109 (.fld 0 5), o 110 (.load false 1 109), o 111 (.idx 34 108 110), o 112 (.load true 34 111),
 o 6 (.alloc zNode), u (.store 34 6 112)])
 (.seq (.region [o 113 (.fld 4 6), o 114 (.load false 1 113), o 115 (.bin 0 .neq 114 (i 1)), o 116 (.mov 115), gd 117 116 false (.fld 5 6),
 gd 118 116 false (.load false 1 117), gd 119 116 false (.fld 6 6), gd 120 116 false (.load false 1 119),
 gd 121 116 false (.build zGrid [(0, 1, 118), (1, 1, 120)]), gd 122 116 false (.fld 16 5), gd 123 116 false (.load true 9 122),
 gd 124 116 false (.call s_validCell [121, 123]), o 125 (.pick 116 bT 124), o 4 (.mov 125)])
 .ret))))))))⟩
def b95_0 : PCode :=
  (.seq (.seq (.region [o 26 (.mov 10), o 27 (.mov 8), o 28 (.len false 27), o 29 (.bin 0 .lss 26 28)])
 (.cond 29 .skip
  (.exit 1)))
 (.seq (.block 2 (.dregion [(o 32 (.mov 9), []), (o 33 (.fld 0 4), []), (o 34 (.load false 1 33), [1]), (o 35 (.mov 8), []), (o 36 (.mov 10), []), (o 37 (.idx 1 35 36), [3, 4]),
 (o 38 (.load false 1 37), [3, 4, 5]), (o 39 (.idx 34 34 38), [1, 2, 3, 4, 5, 6]), (o 40 (.fld 25 39), [1, 2, 3, 4, 5, 6, 7]),
 (o 41 (.load true 9 40), [1, 2, 3, 4, 5, 6, 7, 8]), (o 42 (.load true 4 6), []), (o 43 (.call s_placed [41, 42]), [1, 2, 3, 4, 5, 6, 7, 8, 9, 10]),
 (o 44 (.bslice 1 zRect [(0, 43)]), [1, 2, 3, 4, 5, 6, 7, 8, 9, 10, 11]), (o 45 (.app 4 4398046511104 32 44), [0, 1, 2, 3, 4, 5, 6, 7, 8, 9, 10, 11, 12]),
 (o 9 (.mov 45), [0, 1, 2, 3, 4, 5, 6, 7, 8, 9, 10, 11, 12, 13])]))
 (.region [o 30 (.mov 10), o 31 (.bin 0 .add 30 (i 1)), o 10 (.mov 31)])))
def b95_1 : PCode :=
  (.seq (.seq (.region [o 61 (.mov 11), o 62 (.mov 8), o 63 (.len false 62), o 64 (.bin 0 .lss 61 63)])
 (.cond 64 .skip
  (.exit 3)))
 (.seq (.block 4 (.dregion [(o 67 (.load true 1 4), []), (o 68 (.mov 8), []), (o 69 (.mov 11), []), (o 70 (.idx 1 68 69), [1, 2]), (o 71 (.load false 1 70), [1, 2, 3]),
 (o 72 (.mov 9), []), (o 73 (.mov 11), []), (o 74 (.idx 4 72 73), [5, 6]), (o 75 (.load true 4 74), [5, 6, 7]), (o 76 (.mov 3), []),
 (o 77 (.call s_laid [67, 71, 75, 76]), [0, 1, 2, 3, 4, 5, 6, 7, 8, 9])]))
 (.region [o 65 (.mov 11), o 66 (.bin 0 .add 65 (i 1)), o 11 (.mov 66)])))
/-- loop.example/widgetroom/spec.laid -/
def pf95 : PFunc := ⟨4, [false, false, false, true], false, true, [],
  (.seq (.region [o 4 (.box 0), o 6 (.box 2)])
 (.seq (.region [o 12 (.mov 3), o 13 (.mov 1), o 14 (.load true 4 6), o 15 (.idx 4 12 13), u (.store 4 15 14)])
 (.seq (.region [o 16 (.load true 1 4), o 17 (.mov 1), o 18 (.call s_kidsOf [16, 17]), o 8 (.mov 18)])
 (.seq (.region [o 19 (.bslice 0 zRect []), o 9 (.mov 19)])
 (.seq (.seq (.region [o 20 (.fld 0 4), o 21 (.load false 1 20), o 22 (.mov 1), o 23 (.idx 34 21 22), o 24 (.fld 4 23), o 25 (.load false 1 24)])
 (.block 0 (.seq (.region [o 47 (.bin 0 .eql 25 (i 0)), o 46 (.mov 47)])
 (.cond 46 (.dregion [(o 48 (.load true 1 4), []), (o 49 (.mov 8), []), (o 50 (.call s_packsOf [48, 49]), [0, 1]), (o 51 (.load true 4 6), []),
 (o 52 (.call s_packed [50, 51]), [0, 1, 2, 3]), (o 9 (.mov 52), [0, 1, 2, 3, 4])])
  (.seq (.region [o 54 (.bin 0 .eql 25 (i 1)), o 53 (.mov 54)])
 (.cond 53 (.dregion [(o 55 (.load true 1 4), []), (o 56 (.mov 1), []), (o 57 (.mov 8), []), (o 58 (.call s_gridOf [55, 56, 57]), [0, 1, 2]), (o 59 (.load true 4 6), []),
 (o 60 (.call s_gridded [58, 59]), [0, 1, 2, 3, 4]), (o 9 (.mov 60), [0, 1, 2, 3, 4, 5])])
  (.seq (.region [o 10 (.mov (i 0))])
 (.block 1 (.loop [3, 4, 6, 8, 9, 10] [4, 6, 19, 45, 1003, 1004, 1018, 1052, 1060] [3, 4, 8, 9] [4, 19, 45, 1003, 1004, 1018, 1052, 1060] b95_0)))))))))
 (.seq (.region [o 11 (.mov (i 0))])
 (.block 3 (.loop [3, 4, 8, 9, 11] [4, 19, 45, 1003, 1004, 1018, 1052, 1060] [] [1003] b95_1))))))))⟩
def b96_0 : PCode :=
  (.seq (.seq (.region [o 10 (.mov 4), o 11 (.bin 0 .gtr 10 (i 0))])
 (.cond 11 .skip
  (.exit 0)))
 (.seq (.block 1 (.seq (.dregion [(o 14 (.fld 0 3), []), (o 15 (.load false 1 14), [0]), (o 16 (.len false 15), [0, 1]), (o 17 (.bin 0 .sub 16 (i 1)), [0, 1, 2]), (o 18 (.mov 0), []),
 (o 19 (.mov 0), []), (o 20 (.call s_reader_pick [19, i 31]), [5]), (o 21 (.bslice 4 zInt [(0, i 5), (1, i 10), (2, i 0), (3, 20)]), [5, 6]),
 (o 22 (.call s_reader_one [18, 21]), [4, 5, 6, 7]), (o 23 (.mov 0), []), (o 24 (.mov 0), []),
 (o 25 (.call s_reader_pick [24, i 31]), [4, 5, 6, 7, 8, 10]), (o 26 (.bslice 4 zInt [(0, i 4), (1, i 8), (2, i 0), (3, 25)]), [4, 5, 6, 7, 8, 10, 11]),
 (o 27 (.call s_reader_one [23, 26]), [4, 5, 6, 7, 8, 9, 10, 11, 12]), (o 28 (.mov 0), []),
 (o 29 (.call s_reader_pick [28, i 6]), [4, 5, 6, 7, 8, 9, 10, 11, 12, 13, 14]),
 (o 30 (.bin 0 .eql 29 (i 0)), [4, 5, 6, 7, 8, 9, 10, 11, 12, 13, 14, 15]), (o 31 (.mov 0), []),
 (o 32 (.bslice 4 zInt [(0, i 0), (1, i 1), (2, i 0), (3, i 2)]), []),
 (o 33 (.call s_reader_one [31, 32]), [4, 5, 6, 7, 8, 9, 10, 11, 12, 13, 14, 15, 17, 18]),
 (o 34 (.build zNode [(0, 1, 17), (1, 1, 22), (2, 1, 27), (3, 1, 30), (4, 1, 33)]), [0, 1, 2, 3, 4, 5, 6, 7, 8, 9, 10, 11, 12, 13, 14, 15, 16, 17, 18, 19]),
 (o 5 (.alloc zNode), []), (u (.store 34 5 34), [0, 1, 2, 3, 4, 5, 6, 7, 8, 9, 10, 11, 12, 13, 14, 15, 16, 17, 18, 19, 20, 21])])
 (.seq (.seq (.region [o 35 (.fld 0 3), o 36 (.load false 1 35), o 37 (.len false 36), o 38 (.bin 0 .gtr 37 (i 0))])
 (.cond 38 (.seq (.region [o 39 (.mov 0), o 40 (.fld 0 3), o 41 (.load false 1 40), o 42 (.len false 41), o 43 (.call s_reader_pick [39, 42]), o 44 (.fld 0 5), u (.store 1 44 43)])
 (.seq (.region [o 45 (.mov 0), o 46 (.call s_reader_pick [45, i 3]), o 47 (.bin 0 .eql 46 (i 0))])
 (.cond 47 (.region [o 48 (.fld 0 5), u (.store 1 48 (i 0))])
  .skip)))
  .skip))
 (.seq (.seq (.region [o 49 (.fld 4 5), o 50 (.load false 1 49), o 51 (.bin 0 .eql 50 (i 1))])
 (.cond 51 (.seq (.region [o 52 (.mov 0), o 53 (.call s_goodLines [52]), o 54 (.fld 5 5), u (.store 1 54 53)])
 (.region [o 55 (.mov 0), o 56 (.call s_goodLines [55]), o 57 (.fld 6 5), u (.store 1 57 56)]))
  .skip))
 (.seq (.region [o 58 (.mov 0), o 59 (.call s_goodPack [58]), o 60 (.fld 7 5), u (.store 9 60 59)])
 (.seq (.region [o 61 (.fld 7 5), o 62 (.fld 0 61), u (.store 1 62 (i 0))])
 (.seq (.region [o 63 (.fld 7 5), o 64 (.fld 1 63), u (.store 1 64 (i 0))])
 (.seq (.region [o 65 (.mov 0), o 66 (.call s_goodPlace [65]), o 67 (.fld 25 5), u (.store 9 67 66)])
 (.seq (.seq (.region [o 68 (.fld 0 5), o 69 (.load false 1 68), o 70 (.bin 0 .geq 69 (i 0)), o 71 (.mov 70), gd 72 71 true (.fld 0 3), gd 73 71 true (.load false 1 72),
 gd 74 71 true (.fld 0 5), gd 75 71 true (.load false 1 74), gd 76 71 true (.idx 34 73 75), gd 77 71 true (.fld 4 76), gd 78 71 true (.load false 1 77),
 gd 79 71 true (.bin 0 .eql 78 (i 1)), o 80 (.pick 71 79 bF)])
 (.cond 80 (.seq (.dregion [(o 81 (.mov 0), []), (o 82 (.fld 0 3), []), (o 83 (.load false 1 82), [1]), (o 84 (.fld 0 5), []), (o 85 (.load false 1 84), [3]),
 (o 86 (.idx 34 83 85), [1, 2, 3, 4]), (o 87 (.fld 5 86), [1, 2, 3, 4, 5]), (o 88 (.load false 1 87), [1, 2, 3, 4, 5, 6]),
 (o 89 (.len false 88), [1, 2, 3, 4, 5, 6, 7]), (o 90 (.fld 0 3), []), (o 91 (.load false 1 90), [9]), (o 92 (.fld 0 5), []),
 (o 93 (.load false 1 92), [11]), (o 94 (.idx 34 91 93), [9, 10, 11, 12]), (o 95 (.fld 6 94), [9, 10, 11, 12, 13]),
 (o 96 (.load false 1 95), [9, 10, 11, 12, 13, 14]), (o 97 (.len false 96), [9, 10, 11, 12, 13, 14, 15]),
 (o 98 (.call s_goodCell [81, 89, 97]), [0, 1, 2, 3, 4, 5, 6, 7, 8, 9, 10, 11, 12, 13, 14, 15, 16]),
 (o 99 (.fld 16 5), [0, 1, 2, 3, 4, 5, 6, 7, 8, 9, 10, 11, 12, 13, 14, 15, 16, 17]),
 (u (.store 9 99 98), [0, 1, 2, 3, 4, 5, 6, 7, 8, 9, 10, 11, 12, 13, 14, 15, 16, 17, 18])])
 (.seq (.region [o 100 (.fld 16 5), o 101 (.fld 4 100), u (.store 1 101 (i 0))])
 (.region [o 102 (.fld 16 5), o 103 (.fld 5 102), u (.store 1 103 (i 0))])))
  .skip))
 (.region [o 104 (.fld 0 3), o 105 (.load false 1 104), o 106 (.load true 34 5), o 107 (.bslice 1 zNode [(0, 106)]), o 108 (.app 34 488671834567 105 107),
 o 109 (.fld 0 3), u (.store 1 109 108)]))))))))))
 (.region [o 12 (.mov 4), o 13 (.bin 0 .sub 12 (i 1)), o 4 (.mov 13)])))
/-- loop.example/widgetroom/spec.goodTree -/
def pf96 : PFunc := ⟨1, [true], false, false, [.cell 2 true 1],
  (.seq (.region [o 2 (.alloc zTree)])
 (.seq (.region [o 6 (.build zTree []), o 3 (.alloc zTree), u (.store 1 3 6)])
 (.seq (.seq (.region [o 7 (.mov 0), o 8 (.bslice 7 zInt [(0, i 5), (1, i 6), (2, i 4), (3, i 7), (4, i 3), (5, i 1), (6, i 10)]), o 9 (.call s_reader_one [7, 8]),
 o 4 (.mov 9)])
 (.block 0 (.loop [0, 2, 3, 4] [2, 3, 108, 1000, 1002, 1003, 2000] [2, 3] [2, 3, 108, 1000, 1002, 1003, 2000] b96_0)))
 (.seq (.region [o 110 (.load true 1 3), u (.store 1 2 110)])
 .ret))))⟩
def b97_0 : PCode :=
  (.seq (.seq (.region [o 12 (.mov 6), o 13 (.bin 0 .geq 12 (i 0))])
 (.cond 13 .skip
  (.exit 0)))
 (.seq (.block 1 (.seq (.region [o 17 (.mov 0), o 18 (.mov 6), o 19 (.idx 9 17 18), o 20 (.load true 9 19), o 21 (.call s_outer [20]), o 16 (.mov 21), o 22 (.ext 16 0), o 23 (.ext 16 1),
 o 7 (.mov 22), o 8 (.mov 23)])
 (.seq (.region [o 24 (.mov 0), o 25 (.mov 6), o 26 (.idx 9 24 25), o 27 (.fld 2 26), o 28 (.load false 1 27), o 29 (.call s_upright [28])])
 (.cond 29 (.seq (.region [o 30 (.mov 4), o 31 (.mov 7), o 32 (.mx [30, 31]), o 4 (.mov 32)])
 (.region [o 33 (.mov 5), o 34 (.mov 8), o 35 (.bin 0 .add 33 34), o 5 (.mov 35)]))
  (.seq (.region [o 36 (.mov 4), o 37 (.mov 7), o 38 (.bin 0 .add 36 37), o 4 (.mov 38)])
 (.region [o 39 (.mov 5), o 40 (.mov 8), o 41 (.mx [39, 40]), o 5 (.mov 41)]))))))
 (.region [o 14 (.mov 6), o 15 (.bin 0 .sub 14 (i 1)), o 6 (.mov 15)])))
/-- loop.example/widgetroom/spec.request -/
def pf97 : PFunc := ⟨1, [], false, false, [.tmp 2, .tmp 3],
  (.seq (.region [o 2 (.mov (i 0)), o 3 (.mov (i 0))])
 (.seq (.region [o 4 (.mov (i 0))])
 (.seq (.region [o 5 (.mov (i 0))])
 (.seq (.seq (.region [o 9 (.mov 0), o 10 (.len false 9), o 11 (.bin 0 .sub 10 (i 1)), o 6 (.mov 11)])
 (.block 0 (.loop [0, 4, 5, 6] [] [2, 3, 4, 5] [] b97_0)))
 (.seq (.region [o 42 (.mov 4), o 43 (.mov 5), o 2 (.mov 42), o 3 (.mov 43)])
 .ret)))))⟩
def b98_0 : PCode :=
  (.seq (.seq (.region [o 11 (.mov 6), o 12 (.mov 1), o 13 (.len false 12), o 14 (.bin 0 .lss 11 13)])
 (.cond 14 .skip
  (.exit 0)))
 (.seq (.block 1 (.seq (.dregion [(o 17 (.fld 0 2), []), (o 18 (.load false 1 17), [0]), (o 19 (.mov 1), []), (o 20 (.mov 6), []), (o 21 (.idx 1 19 20), [2, 3]),
 (o 22 (.load false 1 21), [2, 3, 4]), (o 23 (.idx 34 18 22), [0, 1, 2, 3, 4, 5]), (o 24 (.fld 7 23), [0, 1, 2, 3, 4, 5, 6]),
 (o 25 (.load true 9 24), [0, 1, 2, 3, 4, 5, 6, 7]), (o 7 (.alloc zPack), []), (u (.store 9 7 25), [0, 1, 2, 3, 4, 5, 6, 7, 8, 9])])
 (.seq (.dregion [(o 27 (.load true 1 2), []), (o 28 (.mov 1), []), (o 29 (.mov 6), []), (o 30 (.idx 1 28 29), [1, 2]), (o 31 (.load false 1 30), [1, 2, 3]),
 (o 32 (.call s_sizeOf [27, 31]), [0, 1, 2, 3, 4]), (o 26 (.mov 32), [0, 1, 2, 3, 4, 5]), (o 33 (.ext 26 0), [0, 1, 2, 3, 4, 5, 6]),
 (o 34 (.ext 26 1), [0, 1, 2, 3, 4, 5, 6]), (o 8 (.mov 33), [0, 1, 2, 3, 4, 5, 6, 7]), (o 9 (.mov 34), [0, 1, 2, 3, 4, 5, 6, 7, 8, 9])])
 (.seq (.region [o 35 (.mov 8), o 36 (.fld 0 7), u (.store 1 36 35)])
 (.seq (.region [o 37 (.mov 9), o 38 (.fld 1 7), u (.store 1 38 37)])
 (.region [o 39 (.mov 5), o 40 (.load true 9 7), o 41 (.bslice 1 zPack [(0, 40)]), o 42 (.app 9 2513169434916 39 41), o 5 (.mov 42)]))))))
 (.region [o 15 (.mov 6), o 16 (.bin 0 .add 15 (i 1)), o 6 (.mov 16)])))
/-- loop.example/widgetroom/spec.packsOf -/
def pf98 : PFunc := ⟨2, [], false, false, [.tmp 4],
  (.seq (.region [o 2 (.box 0), o 4 (.mov nl)])
 (.seq (.region [o 10 (.bslice 0 zPack []), o 5 (.mov 10)])
 (.seq (.seq (.region [o 6 (.mov (i 0))])
 (.block 0 (.loop [1, 2, 5, 6] [2, 10, 42, 1002] [4, 5] [4, 10, 42] b98_0)))
 (.seq (.region [o 43 (.mov 5), o 4 (.mov 43)])
 .ret))))⟩
/-- loop.example/widgetroom/spec.gridRequest -/
def pf99 : PFunc := ⟨1, [], false, false, [.tmp 2, .tmp 3],
  (.seq (.region [o 1 (.box 0), o 2 (.mov (i 0)), o 3 (.mov (i 0))])
 (.seq (.dregion [(o 4 (.fld 0 1), []), (o 5 (.load false 1 4), [0]), (o 6 (.load true 3 1), []), (o 7 (.call s_colSpans [6]), [2]),
 (o 8 (.call s_wished [5, 7]), [0, 1, 2, 3]), (o 9 (.call s_total [8]), [0, 1, 2, 3, 4]), (o 10 (.fld 1 1), []), (o 11 (.load false 1 10), [6]),
 (o 12 (.load true 3 1), []), (o 13 (.call s_rowSpans [12]), [0, 1, 2, 3, 4, 5, 8]), (o 14 (.call s_wished [11, 13]), [0, 1, 2, 3, 4, 5, 6, 7, 8, 9]),
 (o 15 (.call s_total [14]), [0, 1, 2, 3, 4, 5, 6, 7, 8, 9, 10]), (o 2 (.mov 9), [0, 1, 2, 3, 4, 5, 6, 7, 8, 9, 10, 11]),
 (o 3 (.mov 15), [0, 1, 2, 3, 4, 5, 6, 7, 8, 9, 10, 11, 12])])
 .ret))⟩
def b100_0 : PCode :=
  (.seq (.seq (.region [o 25 (.mov 8), o 26 (.mov 2), o 27 (.len false 26), o 28 (.bin 0 .lss 25 27)])
 (.cond 28 .skip
  (.exit 0)))
 (.seq (.block 1 (.seq (.dregion [(o 31 (.fld 0 3), []), (o 32 (.load false 1 31), [0]), (o 33 (.mov 2), []), (o 34 (.mov 8), []), (o 35 (.idx 1 33 34), [2, 3]),
 (o 36 (.load false 1 35), [2, 3, 4]), (o 37 (.idx 34 32 36), [0, 1, 2, 3, 4, 5]), (o 38 (.fld 16 37), [0, 1, 2, 3, 4, 5, 6]),
 (o 39 (.load true 9 38), [0, 1, 2, 3, 4, 5, 6, 7]), (o 9 (.alloc zCell), []), (u (.store 9 9 39), [0, 1, 2, 3, 4, 5, 6, 7, 8, 9])])
 (.seq (.dregion [(o 41 (.load true 1 3), []), (o 42 (.mov 2), []), (o 43 (.mov 8), []), (o 44 (.idx 1 42 43), [1, 2]), (o 45 (.load false 1 44), [1, 2, 3]),
 (o 46 (.call s_sizeOf [41, 45]), [0, 1, 2, 3, 4]), (o 40 (.mov 46), [0, 1, 2, 3, 4, 5]), (o 47 (.ext 40 0), [0, 1, 2, 3, 4, 5, 6]),
 (o 48 (.ext 40 1), [0, 1, 2, 3, 4, 5, 6]), (o 10 (.mov 47), [0, 1, 2, 3, 4, 5, 6, 7]), (o 11 (.mov 48), [0, 1, 2, 3, 4, 5, 6, 7, 8, 9])])
 (.seq (.region [o 49 (.mov 10), o 50 (.fld 4 9), u (.store 1 50 49)])
 (.seq (.region [o 51 (.mov 11), o 52 (.fld 5 9), u (.store 1 52 51)])
 (.region [o 53 (.fld 2 7), o 54 (.load false 1 53), o 55 (.load true 9 9), o 56 (.bslice 1 zCell [(0, 55)]), o 57 (.app 9 1954687338268 54 56), o 58 (.fld 2 7),
 u (.store 1 58 57)]))))))
 (.region [o 29 (.mov 8), o 30 (.bin 0 .add 29 (i 1)), o 8 (.mov 30)])))
/-- loop.example/widgetroom/spec.gridOf -/
def pf100 : PFunc := ⟨3, [], false, false, [.cell 6 true 3],
  (.seq (.region [o 3 (.box 0), o 6 (.alloc zGrid)])
 (.seq (.dregion [(o 12 (.fld 0 3), []), (o 13 (.load false 1 12), [0]), (o 14 (.mov 1), []), (o 15 (.idx 34 13 14), [0, 1, 2]), (o 16 (.fld 5 15), [0, 1, 2, 3]),
 (o 17 (.load false 1 16), [0, 1, 2, 3, 4]), (o 18 (.fld 0 3), []), (o 19 (.load false 1 18), [6]), (o 20 (.mov 1), []),
 (o 21 (.idx 34 19 20), [6, 7, 8]), (o 22 (.fld 6 21), [6, 7, 8, 9]), (o 23 (.load false 1 22), [6, 7, 8, 9, 10]),
 (o 24 (.build zGrid [(0, 1, 17), (1, 1, 23)]), [0, 1, 2, 3, 4, 5, 6, 7, 8, 9, 10, 11]), (o 7 (.alloc zGrid), []),
 (u (.store 3 7 24), [0, 1, 2, 3, 4, 5, 6, 7, 8, 9, 10, 11, 12, 13])])
 (.seq (.seq (.region [o 8 (.mov (i 0))])
 (.block 0 (.loop [2, 3, 6, 7, 8] [3, 6, 7, 57, 1003, 1006, 1007, 2006, 2007, 3006, 3007] [6, 7] [3, 6, 7, 57, 1003, 1006, 1007, 2006, 2007, 3006, 3007] b100_0)))
 (.seq (.region [o 59 (.load true 3 7), u (.store 3 6 59)])
 .ret))))⟩
/-- loop.example/widgetroom/spec.hasPoint -/
def pf101 : PFunc := ⟨3, [], false, false, [.tmp 6],
  (.seq (.region [o 3 (.box 0), o 6 (.mov bF)])
 (.seq (.region [o 7 (.mov 1), o 8 (.fld 0 3), o 9 (.load false 1 8), o 10 (.fld 0 3), o 11 (.load false 1 10), o 12 (.fld 2 3), o 13 (.load false 1 12),
 o 14 (.bin 0 .add 11 13), o 15 (.bin 0 .sub 14 (i 1)), o 16 (.call s_inRange [7, 9, 15]), o 17 (.mov 16), gd 18 17 true (.mov 2),
 gd 19 17 true (.fld 1 3), gd 20 17 true (.load false 1 19), gd 21 17 true (.fld 1 3), gd 22 17 true (.load false 1 21), gd 23 17 true (.fld 3 3),
 gd 24 17 true (.load false 1 23), gd 25 17 true (.bin 0 .add 22 24), gd 26 17 true (.bin 0 .sub 25 (i 1)), gd 27 17 true (.call s_inRange [18, 20, 26]),
 o 28 (.pick 17 27 bF), o 6 (.mov 28)])
 .ret))⟩
/-- loop.example/widgetroom/laws.szLineS -/
def pf102 : PFunc := ⟨2, [], false, false, [.tmp 4],
  (.seq (.region [o 4 (.mov (i 0))])
 (.seq (.region [o 5 (.mov 1), o 6 (.mov 0), o 7 (.len false 6), o 8 (.bin 0 .sub 5 7), o 1 (.mov 8)])
 (.seq (.seq (.region [o 9 (.mov 1), o 10 (.bin 0 .lss 9 (i 0))])
 (.cond 10 (.seq (.region [o 4 (.mov (i (-1)))])
 .ret)
  .skip))
 (.seq (.region [o 11 (.mov 1), o 4 (.mov 11)])
 .ret))))⟩
def b103_0 : PCode :=
  (.seq (.seq (.region [o 8 (.mov 4), o 9 (.mov 0), o 10 (.len false 9), o 11 (.bin 0 .lss 8 10)])
 (.cond 11 .skip
  (.exit 0)))
 (.seq (.block 1 (.region [o 14 (.mov 3), o 15 (.mov 4), o 16 (.mov 0), o 17 (.mov 4), o 18 (.idx 2 16 17), o 19 (.load true 2 18), o 20 (.call l_toLine [19]), o 21 (.idx 2 14 15),
 u (.store 2 21 20)]))
 (.region [o 12 (.mov 4), o 13 (.bin 0 .add 12 (i 1)), o 4 (.mov 13)])))
/-- loop.example/widgetroom/laws.toLineS -/
def pf103 : PFunc := ⟨1, [], false, false, [.tmp 2],
  (.seq (.region [o 2 (.mov nl)])
 (.seq (.region [o 5 (.mov 0), o 6 (.len false 5), o 7 (.mk zLine 8796093022208 6), o 3 (.mov 7)])
 (.seq (.seq (.region [o 4 (.mov (i 0))])
 (.block 0 (.loop [0, 3, 4] [7] [2, 3] [2, 7] b103_0)))
 (.seq (.region [o 22 (.mov 3), o 2 (.mov 22)])
 .ret))))⟩
/-- loop.example/widgetroom/laws.toPack -/
def pf104 : PFunc := ⟨1, [], false, false, [.cell 2 true 9],
  (.seq (.region [o 1 (.box 0), o 2 (.alloc zPack)])
 (.seq (.region [o 3 (.alloc zPack)])
 (.seq (.region [o 4 (.fld 0 1), o 5 (.load false 1 4), o 6 (.fld 0 3), u (.store 1 6 5)])
 (.seq (.region [o 7 (.fld 1 1), o 8 (.load false 1 7), o 9 (.fld 1 3), u (.store 1 9 8)])
 (.seq (.region [o 10 (.fld 2 1), o 11 (.load false 1 10), o 12 (.fld 2 3), u (.store 1 12 11)])
 (.seq (.region [o 13 (.fld 3 1), o 14 (.load false 1 13), o 15 (.fld 3 3), u (.store 1 15 14)])
 (.seq (.region [o 16 (.fld 4 1), o 17 (.load false 1 16), o 18 (.fld 4 3), u (.store 1 18 17)])
 (.seq (.region [o 19 (.fld 5 1), o 20 (.load false 1 19), o 21 (.fld 5 3), u (.store 1 21 20)])
 (.seq (.region [o 22 (.fld 6 1), o 23 (.load false 1 22), o 24 (.fld 6 3), u (.store 1 24 23)])
 (.seq (.region [o 25 (.fld 7 1), o 26 (.load false 1 25), o 27 (.fld 7 3), u (.store 1 27 26)])
 (.seq (.region [o 28 (.fld 8 1), o 29 (.load false 1 28), o 30 (.fld 8 3), u (.store 1 30 29)])
 (.seq (.region [o 31 (.load true 9 3), u (.store 9 2 31)])
 .ret))))))))))))⟩
/-- loop.example/widgetroom/laws.toCell -/
def pf105 : PFunc := ⟨1, [], false, false, [.cell 2 true 9],
  (.seq (.region [o 1 (.box 0), o 2 (.alloc zCell)])
 (.seq (.region [o 3 (.alloc zCell)])
 (.seq (.region [o 4 (.fld 0 1), o 5 (.load false 1 4), o 6 (.fld 0 3), u (.store 1 6 5)])
 (.seq (.region [o 7 (.fld 1 1), o 8 (.load false 1 7), o 9 (.fld 1 3), u (.store 1 9 8)])
 (.seq (.region [o 10 (.fld 2 1), o 11 (.load false 1 10), o 12 (.fld 2 3), u (.store 1 12 11)])
 (.seq (.region [o 13 (.fld 3 1), o 14 (.load false 1 13), o 15 (.fld 3 3), u (.store 1 15 14)])
 (.seq (.region [o 16 (.fld 4 1), o 17 (.load false 1 16), o 18 (.fld 4 3), u (.store 1 18 17)])
 (.seq (.region [o 19 (.fld 5 1), o 20 (.load false 1 19), o 21 (.fld 5 3), u (.store 1 21 20)])
 (.seq (.region [o 22 (.fld 6 1), o 23 (.load false 1 22), o 24 (.fld 6 3), u (.store 1 24 23)])
 (.seq (.region [o 25 (.fld 7 1), o 26 (.load false 1 25), o 27 (.fld 7 3), u (.store 1 27 26)])
 (.seq (.region [o 28 (.fld 8 1), o 29 (.load false 1 28), o 30 (.fld 8 3), u (.store 1 30 29)])
 (.seq (.region [o 31 (.load true 9 3), u (.store 9 2 31)])
 .ret))))))))))))⟩
/-- loop.example/widgetroom/laws.toPlace -/
def pf106 : PFunc := ⟨1, [], false, false, [.cell 2 true 9],
  (.seq (.region [o 1 (.box 0), o 2 (.alloc zPlace)])
 (.seq (.region [o 3 (.alloc zPlace)])
 (.seq (.region [o 4 (.fld 0 1), o 5 (.load false 1 4), o 6 (.fld 0 3), u (.store 1 6 5)])
 (.seq (.region [o 7 (.fld 1 1), o 8 (.load false 1 7), o 9 (.fld 1 3), u (.store 1 9 8)])
 (.seq (.region [o 10 (.fld 2 1), o 11 (.load false 1 10), o 12 (.fld 2 3), u (.store 1 12 11)])
 (.seq (.region [o 13 (.fld 3 1), o 14 (.load false 1 13), o 15 (.fld 3 3), u (.store 1 15 14)])
 (.seq (.region [o 16 (.fld 4 1), o 17 (.load false 1 16), o 18 (.fld 4 3), u (.store 1 18 17)])
 (.seq (.region [o 19 (.fld 5 1), o 20 (.load false 1 19), o 21 (.fld 5 3), u (.store 1 21 20)])
 (.seq (.region [o 22 (.fld 6 1), o 23 (.load false 1 22), o 24 (.fld 6 3), u (.store 1 24 23)])
 (.seq (.region [o 25 (.fld 7 1), o 26 (.load false 1 25), o 27 (.fld 7 3), u (.store 1 27 26)])
 (.seq (.region [o 28 (.fld 8 1), o 29 (.load false 1 28), o 30 (.fld 8 3), u (.store 1 30 29)])
 (.seq (.region [o 31 (.load true 9 3), u (.store 9 2 31)])
 .ret))))))))))))⟩
/-- loop.example/widgetroom/impl.ValidPack -/
def pf107 : PFunc := ⟨1, [], false, false, [.tmp 2],
  (.seq (.region [o 1 (.box 0), o 2 (.mov bF)])
 (.seq (.region [o 3 (.fld 0 1), o 4 (.load false 1 3), o 5 (.call i_within [4, i 0, i 30]), o 6 (.mov 5), gd 7 6 true (.fld 1 1), gd 8 6 true (.load false 1 7),
 gd 9 6 true (.call i_within [8, i 0, i 30]), o 10 (.pick 6 9 bF), o 11 (.mov 10), gd 12 11 true (.fld 2 1), gd 13 11 true (.load false 1 12),
 gd 14 11 true (.call i_within [13, i 0, i 3]), o 15 (.pick 11 14 bF), o 16 (.mov 15), gd 17 16 true (.fld 6 1), gd 18 16 true (.load false 1 17),
 gd 19 16 true (.call i_within [18, i 0, i 8]), o 20 (.pick 16 19 bF), o 21 (.mov 20), gd 22 21 true (.fld 7 1), gd 23 21 true (.load false 1 22),
 gd 24 21 true (.call i_within [23, i 0, i 10]), o 25 (.pick 21 24 bF), o 26 (.mov 25), gd 27 26 true (.fld 8 1), gd 28 26 true (.load false 1 27),
 gd 29 26 true (.call i_within [28, i 0, i 10]), o 30 (.pick 26 29 bF), o 2 (.mov 30)])
 .ret))⟩
def b108_0 : PCode :=
  (.seq (.region [o 18 (.bin 0 .lss 17 16)])
 (.seq (.cond 18 .skip
  (.exit 0))
 (.seq (.block 1 (.seq (.region [o 19 (.idx 1 15 17), o 20 (.load false 1 19), o 4 (.mov 20)])
 (.seq (.region [o 21 (.mov 4), o 22 (.call i_within [21, i (-300), i 300]), o 23 (.not 22)])
 (.cond 23 (.seq (.region [o 2 (.mov bF)])
 .ret)
  .skip))))
 (.region [o 24 (.bin 0 .add 17 (i 1)), o 17 (.mov 24)]))))
def b108_1 : PCode :=
  (.seq (.region [o 36 (.bin 0 .lss 35 34)])
 (.seq (.cond 36 .skip
  (.exit 2))
 (.seq (.block 3 (.seq (.region [o 37 (.idx 1 33 35), o 38 (.load false 1 37), o 6 (.mov 38)])
 (.seq (.region [o 39 (.mov 6), o 40 (.call i_within [39, i 0, i 1000]), o 41 (.not 40)])
 (.cond 41 (.seq (.region [o 2 (.mov bF)])
 .ret)
  .skip))))
 (.region [o 42 (.bin 0 .add 35 (i 1)), o 35 (.mov 42)]))))
/-- loop.example/widgetroom/impl.ValidPlace -/
def pf108 : PFunc := ⟨1, [], false, false, [.tmp 2],
  (.seq (.region [o 1 (.box 0), o 2 (.mov bF)])
 (.seq (.seq (.region [o 7 (.fld 0 1), o 8 (.load false 1 7), o 9 (.fld 1 1), o 10 (.load false 1 9), o 11 (.fld 4 1), o 12 (.load false 1 11), o 13 (.fld 5 1),
 o 14 (.load false 1 13), o 15 (.bslice 4 zInt [(0, 8), (1, 10), (2, 12), (3, 14)]), o 16 (.len false 15), o 17 (.mov (i 0))])
 (.block 0 (.loop [1, 15, 16, 17] [1, 15] [1, 2] [1] b108_0)))
 (.seq (.seq (.region [o 25 (.fld 2 1), o 26 (.load false 1 25), o 27 (.fld 3 1), o 28 (.load false 1 27), o 29 (.fld 6 1), o 30 (.load false 1 29), o 31 (.fld 7 1),
 o 32 (.load false 1 31), o 33 (.bslice 4 zInt [(0, 26), (1, 28), (2, 30), (3, 32)]), o 34 (.len false 33), o 35 (.mov (i 0))])
 (.block 2 (.loop [1, 33, 34, 35] [1, 33] [1, 2] [1] b108_1)))
 (.seq (.region [o 43 (.fld 8 1), o 44 (.load false 1 43), o 45 (.call i_within [44, i 0, i 8]), o 2 (.mov 45)])
 .ret))))⟩
/-- loop.example/widgetroom/impl.linesOk -/
def pf109 : PFunc := ⟨1, [], false, false, [.tmp 2],
  (.seq (.region [o 2 (.mov bF)])
 (.seq (.region [o 3 (.mov 0), o 4 (.len false 3), o 5 (.call i_within [4, i 1, i 5]), o 6 (.mov 5), gd 7 6 true (.mov 0),
 gd 8 6 true (.call x_ContainsFunc_Line [7, .k (.fn i_linesOk_1)]), gd 9 6 true (.not 8), o 10 (.pick 6 9 bF), o 2 (.mov 10)])
 .ret))⟩
/-- loop.example/widgetroom/impl.spanOk -/
def pf110 : PFunc := ⟨3, [], false, false, [.tmp 6],
  (.seq (.region [o 6 (.mov bF)])
 (.seq (.region [o 7 (.mov 0), o 8 (.mov 2), o 9 (.bin 0 .sub 8 (i 1)), o 10 (.call i_within [7, i 0, 9]), o 11 (.mov 10), gd 12 11 true (.mov 1), gd 13 11 true (.mov 2),
 gd 14 11 true (.mov 0), gd 15 11 true (.bin 0 .sub 13 14), gd 16 11 true (.call i_within [12, i 1, 15]), o 17 (.pick 11 16 bF), o 6 (.mov 17)])
 .ret))⟩
def b111_0 : PCode :=
  (.seq (.seq (.region [o 11 (.mov 5), o 12 (.mov 0), o 13 (.len false 12), o 14 (.bin 0 .lss 11 13)])
 (.cond 14 .skip
  (.exit 0)))
 (.seq (.block 1 (.seq (.dregion [(o 17 (.mov 0), []), (o 18 (.mov 5), []), (o 19 (.idx 2 17 18), [0, 1]), (o 20 (.load true 2 19), [0, 1, 2]), (o 21 (.mov 1), []), (o 22 (.mov 5), []),
 (o 23 (.idx 2 21 22), [4, 5]), (o 24 (.load true 2 23), [4, 5, 6]), (o 25 (.call l_eqLine [20, 24]), [0, 1, 2, 3, 4, 5, 6, 7]),
 (o 26 (.not 25), [0, 1, 2, 3, 4, 5, 6, 7, 8])])
 (.cond 26 (.seq (.region [o 4 (.mov bF)])
 .ret)
  .skip)))
 (.region [o 15 (.mov 5), o 16 (.bin 0 .add 15 (i 1)), o 5 (.mov 16)])))
/-- loop.example/widgetroom/laws.eqLineS -/
def pf111 : PFunc := ⟨2, [], false, false, [.tmp 4],
  (.seq (.region [o 4 (.mov bF)])
 (.seq (.seq (.region [o 6 (.mov 0), o 7 (.len false 6), o 8 (.mov 1), o 9 (.len false 8), o 10 (.bin 0 .neq 7 9)])
 (.cond 10 (.seq (.region [o 4 (.mov bF)])
 .ret)
  .skip))
 (.seq (.seq (.region [o 5 (.mov (i 0))])
 (.block 0 (.loop [0, 1, 5] [] [4] [] b111_0)))
 (.seq (.region [o 4 (.mov bT)])
 .ret))))⟩
/-- loop.example/widgetroom/laws.eqPack -/
def pf112 : PFunc := ⟨2, [], false, false, [.tmp 4],
  (.seq (.region [o 2 (.box 0), o 3 (.box 1), o 4 (.mov bF)])
 (.seq (.seq (.region [o 5 (.fld 0 2), o 6 (.load false 1 5), o 7 (.fld 0 3), o 8 (.load false 1 7), o 9 (.bin 0 .neq 6 8)])
 (.cond 9 (.seq (.region [o 4 (.mov bF)])
 .ret)
  .skip))
 (.seq (.seq (.region [o 10 (.fld 1 2), o 11 (.load false 1 10), o 12 (.fld 1 3), o 13 (.load false 1 12), o 14 (.bin 0 .neq 11 13)])
 (.cond 14 (.seq (.region [o 4 (.mov bF)])
 .ret)
  .skip))
 (.seq (.seq (.region [o 15 (.fld 2 2), o 16 (.load false 1 15), o 17 (.fld 2 3), o 18 (.load false 1 17), o 19 (.bin 0 .neq 16 18)])
 (.cond 19 (.seq (.region [o 4 (.mov bF)])
 .ret)
  .skip))
 (.seq (.seq (.region [o 20 (.fld 3 2), o 21 (.load false 1 20), o 22 (.fld 3 3), o 23 (.load false 1 22), o 24 (.bin 1 .neq 21 23)])
 (.cond 24 (.seq (.region [o 4 (.mov bF)])
 .ret)
  .skip))
 (.seq (.seq (.region [o 25 (.fld 4 2), o 26 (.load false 1 25), o 27 (.fld 4 3), o 28 (.load false 1 27), o 29 (.bin 1 .neq 26 28)])
 (.cond 29 (.seq (.region [o 4 (.mov bF)])
 .ret)
  .skip))
 (.seq (.seq (.region [o 30 (.fld 5 2), o 31 (.load false 1 30), o 32 (.fld 5 3), o 33 (.load false 1 32), o 34 (.bin 1 .neq 31 33)])
 (.cond 34 (.seq (.region [o 4 (.mov bF)])
 .ret)
  .skip))
 (.seq (.seq (.region [o 35 (.fld 6 2), o 36 (.load false 1 35), o 37 (.fld 6 3), o 38 (.load false 1 37), o 39 (.bin 0 .neq 36 38)])
 (.cond 39 (.seq (.region [o 4 (.mov bF)])
 .ret)
  .skip))
 (.seq (.seq (.region [o 40 (.fld 7 2), o 41 (.load false 1 40), o 42 (.fld 7 3), o 43 (.load false 1 42), o 44 (.bin 0 .neq 41 43)])
 (.cond 44 (.seq (.region [o 4 (.mov bF)])
 .ret)
  .skip))
 (.seq (.seq (.region [o 45 (.fld 8 2), o 46 (.load false 1 45), o 47 (.fld 8 3), o 48 (.load false 1 47), o 49 (.bin 0 .neq 46 48)])
 (.cond 49 (.seq (.region [o 4 (.mov bF)])
 .ret)
  .skip))
 (.seq (.region [o 4 (.mov bT)])
 .ret)))))))))))⟩
/-- loop.example/widgetroom/laws.eqCell -/
def pf113 : PFunc := ⟨2, [], false, false, [.tmp 4],
  (.seq (.region [o 2 (.box 0), o 3 (.box 1), o 4 (.mov bF)])
 (.seq (.seq (.region [o 5 (.fld 0 2), o 6 (.load false 1 5), o 7 (.fld 0 3), o 8 (.load false 1 7), o 9 (.bin 0 .neq 6 8)])
 (.cond 9 (.seq (.region [o 4 (.mov bF)])
 .ret)
  .skip))
 (.seq (.seq (.region [o 10 (.fld 1 2), o 11 (.load false 1 10), o 12 (.fld 1 3), o 13 (.load false 1 12), o 14 (.bin 0 .neq 11 13)])
 (.cond 14 (.seq (.region [o 4 (.mov bF)])
 .ret)
  .skip))
 (.seq (.seq (.region [o 15 (.fld 2 2), o 16 (.load false 1 15), o 17 (.fld 2 3), o 18 (.load false 1 17), o 19 (.bin 0 .neq 16 18)])
 (.cond 19 (.seq (.region [o 4 (.mov bF)])
 .ret)
  .skip))
 (.seq (.seq (.region [o 20 (.fld 3 2), o 21 (.load false 1 20), o 22 (.fld 3 3), o 23 (.load false 1 22), o 24 (.bin 0 .neq 21 23)])
 (.cond 24 (.seq (.region [o 4 (.mov bF)])
 .ret)
  .skip))
 (.seq (.seq (.region [o 25 (.fld 4 2), o 26 (.load false 1 25), o 27 (.fld 4 3), o 28 (.load false 1 27), o 29 (.bin 0 .neq 26 28)])
 (.cond 29 (.seq (.region [o 4 (.mov bF)])
 .ret)
  .skip))
 (.seq (.seq (.region [o 30 (.fld 5 2), o 31 (.load false 1 30), o 32 (.fld 5 3), o 33 (.load false 1 32), o 34 (.bin 0 .neq 31 33)])
 (.cond 34 (.seq (.region [o 4 (.mov bF)])
 .ret)
  .skip))
 (.seq (.seq (.region [o 35 (.fld 6 2), o 36 (.load false 1 35), o 37 (.fld 6 3), o 38 (.load false 1 37), o 39 (.bin 0 .neq 36 38)])
 (.cond 39 (.seq (.region [o 4 (.mov bF)])
 .ret)
  .skip))
 (.seq (.seq (.region [o 40 (.fld 7 2), o 41 (.load false 1 40), o 42 (.fld 7 3), o 43 (.load false 1 42), o 44 (.bin 0 .neq 41 43)])
 (.cond 44 (.seq (.region [o 4 (.mov bF)])
 .ret)
  .skip))
 (.seq (.seq (.region [o 45 (.fld 8 2), o 46 (.load false 1 45), o 47 (.fld 8 3), o 48 (.load false 1 47), o 49 (.bin 0 .neq 46 48)])
 (.cond 49 (.seq (.region [o 4 (.mov bF)])
 .ret)
  .skip))
 (.seq (.region [o 4 (.mov bT)])
 .ret)))))))))))⟩
/-- loop.example/widgetroom/laws.eqPlace -/
def pf114 : PFunc := ⟨2, [], false, false, [.tmp 4],
  (.seq (.region [o 2 (.box 0), o 3 (.box 1), o 4 (.mov bF)])
 (.seq (.seq (.region [o 5 (.fld 0 2), o 6 (.load false 1 5), o 7 (.fld 0 3), o 8 (.load false 1 7), o 9 (.bin 0 .neq 6 8)])
 (.cond 9 (.seq (.region [o 4 (.mov bF)])
 .ret)
  .skip))
 (.seq (.seq (.region [o 10 (.fld 1 2), o 11 (.load false 1 10), o 12 (.fld 1 3), o 13 (.load false 1 12), o 14 (.bin 0 .neq 11 13)])
 (.cond 14 (.seq (.region [o 4 (.mov bF)])
 .ret)
  .skip))
 (.seq (.seq (.region [o 15 (.fld 2 2), o 16 (.load false 1 15), o 17 (.fld 2 3), o 18 (.load false 1 17), o 19 (.bin 0 .neq 16 18)])
 (.cond 19 (.seq (.region [o 4 (.mov bF)])
 .ret)
  .skip))
 (.seq (.seq (.region [o 20 (.fld 3 2), o 21 (.load false 1 20), o 22 (.fld 3 3), o 23 (.load false 1 22), o 24 (.bin 0 .neq 21 23)])
 (.cond 24 (.seq (.region [o 4 (.mov bF)])
 .ret)
  .skip))
 (.seq (.seq (.region [o 25 (.fld 4 2), o 26 (.load false 1 25), o 27 (.fld 4 3), o 28 (.load false 1 27), o 29 (.bin 0 .neq 26 28)])
 (.cond 29 (.seq (.region [o 4 (.mov bF)])
 .ret)
  .skip))
 (.seq (.seq (.region [o 30 (.fld 5 2), o 31 (.load false 1 30), o 32 (.fld 5 3), o 33 (.load false 1 32), o 34 (.bin 0 .neq 31 33)])
 (.cond 34 (.seq (.region [o 4 (.mov bF)])
 .ret)
  .skip))
 (.seq (.seq (.region [o 35 (.fld 6 2), o 36 (.load false 1 35), o 37 (.fld 6 3), o 38 (.load false 1 37), o 39 (.bin 0 .neq 36 38)])
 (.cond 39 (.seq (.region [o 4 (.mov bF)])
 .ret)
  .skip))
 (.seq (.seq (.region [o 40 (.fld 7 2), o 41 (.load false 1 40), o 42 (.fld 7 3), o 43 (.load false 1 42), o 44 (.bin 0 .neq 41 43)])
 (.cond 44 (.seq (.region [o 4 (.mov bF)])
 .ret)
  .skip))
 (.seq (.seq (.region [o 45 (.fld 8 2), o 46 (.load false 1 45), o 47 (.fld 8 3), o 48 (.load false 1 47), o 49 (.bin 0 .neq 46 48)])
 (.cond 49 (.seq (.region [o 4 (.mov bF)])
 .ret)
  .skip))
 (.seq (.region [o 4 (.mov bT)])
 .ret)))))))))))⟩
/-- (loop.example/widgetroom/impl.Pack).needs -/
def pf115 : PFunc := ⟨1, [], false, false, [.tmp 2, .tmp 3],
  (.seq (.region [o 1 (.box 0), o 2 (.mov (i 0)), o 3 (.mov (i 0))])
 (.seq (.dregion [(o 4 (.fld 0 1), []), (o 5 (.load false 1 4), [0]), (o 6 (.fld 7 1), []), (o 7 (.load false 1 6), [2]), (o 8 (.bin 0 .mul (i 2) 7), [2, 3]),
 (o 9 (.bin 0 .add 5 8), [0, 1, 2, 3, 4]), (o 10 (.fld 1 1), []), (o 11 (.load false 1 10), [6]), (o 12 (.fld 8 1), []), (o 13 (.load false 1 12), [8]),
 (o 14 (.bin 0 .mul (i 2) 13), [8, 9]), (o 15 (.bin 0 .add 11 14), [6, 7, 8, 9, 10]), (o 2 (.mov 9), [0, 1, 2, 3, 4, 5]),
 (o 3 (.mov 15), [0, 1, 2, 3, 4, 5, 6, 7, 8, 9, 10, 11, 12])])
 .ret))⟩
/-- (loop.example/widgetroom/impl.Pack).down -/
def pf116 : PFunc := ⟨1, [], false, false, [.tmp 2],
  (.seq (.region [o 1 (.box 0), o 2 (.mov bF)])
 (.seq (.region [o 3 (.fld 2 1), o 4 (.load false 1 3), o 5 (.bin 0 .eql 4 (i 0)), o 6 (.mov 5), gd 7 6 false (.fld 2 1), gd 8 6 false (.load false 1 7),
 gd 9 6 false (.bin 0 .eql 8 (i 1)), o 10 (.pick 6 bT 9), o 2 (.mov 10)])
 .ret))⟩
def b117_0 : PCode :=
  (.seq (.region [o 12 (.bin 0 .lss 11 10)])
 (.seq (.cond 12 .skip
  (.exit 0))
 (.seq (.block 1 (.seq (.region [o 13 (.idx 9 9 11), o 14 (.load true 9 13), o 7 (.alloc zCell), u (.store 9 7 14)])
 (.seq (.region [o 15 (.mov 4), o 16 (.fld 0 7), o 17 (.load false 1 16), o 18 (.fld 2 7), o 19 (.load false 1 18), o 20 (.fld 4 7), o 21 (.load false 1 20),
 o 22 (.fld 7 7), o 23 (.load false 1 22), o 24 (.bin 0 .mul (i 2) 23), o 25 (.bin 0 .add 21 24),
 o 26 (.build zSpan [(0, 1, 17), (1, 1, 19), (2, 1, 25)]), o 27 (.bslice 1 zSpan [(0, 26)]), o 28 (.app 3 5864062014805 15 27), o 4 (.mov 28)])
 (.region [o 29 (.mov 5), o 30 (.fld 1 7), o 31 (.load false 1 30), o 32 (.fld 3 7), o 33 (.load false 1 32), o 34 (.fld 5 7), o 35 (.load false 1 34),
 o 36 (.fld 8 7), o 37 (.load false 1 36), o 38 (.bin 0 .mul (i 2) 37), o 39 (.bin 0 .add 35 38),
 o 40 (.build zSpan [(0, 1, 31), (1, 1, 33), (2, 1, 39)]), o 41 (.bslice 1 zSpan [(0, 40)]), o 42 (.app 3 5864062014805 29 41), o 5 (.mov 42)]))))
 (.region [o 43 (.bin 0 .add 11 (i 1)), o 11 (.mov 43)]))))
/-- (loop.example/widgetroom/impl.Grid).spans -/
def pf117 : PFunc := ⟨1, [], false, false, [.tmp 2, .tmp 3],
  (.seq (.region [o 1 (.box 0), o 2 (.mov nl), o 3 (.mov nl)])
 (.seq (.region [o 4 .nilroot, o 5 .nilroot])
 (.seq (.seq (.region [o 8 (.fld 2 1), o 9 (.load false 1 8), o 10 (.len false 9), o 11 (.mov (i 0))])
 (.block 0 (.loop [4, 5, 9, 10, 11] [1, 4, 5, 28, 42, 1001, 2001, 3001] [2, 3, 4, 5] [2, 3, 4, 5, 28, 42] b117_0)))
 (.seq (.region [o 44 (.mov 4), o 45 (.mov 5), o 2 (.mov 44), o 3 (.mov 45)])
 .ret))))⟩
def b118_0 : PCode :=
  (.seq (.region [o 9 (.bin 0 .lss 8 7)])
 (.seq (.cond 9 .skip
  (.exit 0))
 (.seq (.block 1 (.seq (.region [o 10 (.idx 1 6 8), o 11 (.load false 1 10), o 5 (.mov 11)])
 (.region [o 12 (.mov 3), o 13 (.mov 5), o 14 (.bin 0 .add 12 13), o 3 (.mov 14)])))
 (.region [o 15 (.bin 0 .add 8 (i 1)), o 8 (.mov 15)]))))
/-- loop.example/widgetroom/impl.sum -/
def pf118 : PFunc := ⟨1, [], false, false, [.tmp 2],
  (.seq (.region [o 2 (.mov (i 0))])
 (.seq (.region [o 3 (.mov (i 0))])
 (.seq (.seq (.region [o 6 (.mov 0), o 7 (.len false 6), o 8 (.mov (i 0))])
 (.block 0 (.loop [3, 6, 7, 8] [] [2, 3] [] b118_0)))
 (.seq (.region [o 16 (.mov 3), o 2 (.mov 16)])
 .ret))))⟩
def b119_0 : PCode :=
  (.seq (.region [o 18 (.bin 0 .lss 17 16)])
 (.seq (.cond 18 .skip
  (.exit 0))
 (.seq (.block 1 (.seq (.region [o 19 (.idx 2 15 17), o 20 (.load true 2 19), o 7 (.alloc zLine), u (.store 2 7 20)])
 (.region [o 21 (.mov 5), o 22 (.fld 1 7), o 23 (.load false 1 22), o 24 (.bslice 1 zInt [(0, 23)]), o 25 (.app 1 17592186044416 21 24), o 5 (.mov 25)])))
 (.region [o 26 (.bin 0 .add 17 (i 1)), o 17 (.mov 26)]))))
def b119_3 : PCode :=
  (.seq (.region [o 69 (.bin 0 .lss 68 67)])
 (.seq (.cond 69 .skip
  (.exit 6))
 (.seq (.block 7 (.seq (.region [o 70 (.mov 68), o 71 (.idx 1 66 68), o 72 (.load false 1 71), o 13 (.mov 70), o 14 (.mov 72)])
 (.region [o 73 (.mov 5), o 74 (.fld 0 10), o 75 (.load false 1 74), o 76 (.mov 13), o 77 (.bin 0 .add 75 76), o 78 (.idx 1 73 77), o 79 (.load false 1 78),
 o 80 (.mov 14), o 81 (.bin 0 .add 79 80), o 82 (.idx 1 73 77), u (.store 1 82 81)])))
 (.region [o 83 (.bin 0 .add 68 (i 1)), o 68 (.mov 83)]))))
def b119_2 : PCode :=
  (.seq (.region [o 36 (.bin 0 .lss 35 34)])
 (.seq (.cond 36 .skip
  (.exit 4))
 (.seq (.block 5 (.seq (.region [o 37 (.idx 3 33 35), o 38 (.load true 3 37), o 10 (.alloc zSpan), u (.store 3 10 38)])
 (.seq (.seq (.region [o 39 (.fld 1 10), o 40 (.load false 1 39), o 41 (.mov 8), o 42 (.bin 0 .neq 40 41)])
 (.cond 42 (.exit 5)
  .skip))
 (.seq (.region [o 43 (.fld 0 10), o 44 (.load false 1 43), o 45 (.fld 1 10), o 46 (.load false 1 45), o 47 (.bin 0 .add 44 46), o 11 (.mov 47)])
 (.seq (.dregion [(o 48 (.fld 2 10), []), (o 49 (.load false 1 48), [0]), (o 50 (.mov 5), []), (o 51 (.fld 0 10), []), (o 52 (.load false 1 51), [3]),
 (o 53 (.mov 11), []), (o 54 (.slice false 1 50 (some 52) (some 53)), [2, 3, 4, 5]), (o 55 (.call i_sum [54]), [2, 3, 4, 5, 6]),
 (o 56 (.bin 0 .sub 49 55), [0, 1, 2, 3, 4, 5, 6, 7]), (o 12 (.mov 56), [0, 1, 2, 3, 4, 5, 6, 7, 8])])
 (.seq (.region [o 57 (.mov 12), o 58 (.bin 0 .gtr 57 (i 0))])
 (.cond 58 (.seq (.region [o 59 (.mov 12), o 60 (.mov 0), o 61 (.fld 0 10), o 62 (.load false 1 61), o 63 (.mov 11), o 64 (.slice false 2 60 (some 62) (some 63)),
 o 65 (.call i_weightsOf [64]), o 66 (.call i_spread [59, 65]), o 67 (.len false 66), o 68 (.mov (i 0))])
 (.block 6 (.loop [0, 1, 5, 8, 10, 33, 34, 35, 66, 67, 68] [5, 10, 25, 1066] [0, 1, 4, 5, 8, 33, 34, 35] [4, 5, 25] b119_3)))
  .skip)))))))
 (.region [o 84 (.bin 0 .add 35 (i 1)), o 35 (.mov 84)]))))
def b119_1 : PCode :=
  (.seq (.seq (.region [o 27 (.mov 8), o 28 (.mov 0), o 29 (.len false 28), o 30 (.bin 0 .leq 27 29)])
 (.cond 30 .skip
  (.exit 2)))
 (.seq (.block 3 (.seq (.region [o 33 (.mov 1), o 34 (.len false 33), o 35 (.mov (i 0))])
 (.block 4 (.loop [0, 1, 5, 8, 33, 34, 35] [5, 25] [0, 1, 4, 5, 8] [4, 5, 25] b119_2))))
 (.region [o 31 (.mov 8), o 32 (.bin 0 .add 31 (i 1)), o 8 (.mov 32)])))
/-- loop.example/widgetroom/impl.lineRequests -/
def pf119 : PFunc := ⟨2, [], false, false, [.tmp 4],
  (.seq (.region [o 4 (.mov nl)])
 (.seq (.region [o 5 .nilroot])
 (.seq (.seq (.region [o 15 (.mov 0), o 16 (.len false 15), o 17 (.mov (i 0))])
 (.block 0 (.loop [0, 1, 5, 15, 16, 17] [5, 25] [0, 1, 4, 5] [4, 5, 25] b119_0)))
 (.seq (.seq (.region [o 8 (.mov (i 1))])
 (.block 2 (.loop [0, 1, 5, 8] [5, 25] [4, 5] [4, 5, 25] b119_1)))
 (.seq (.region [o 85 (.mov 5), o 4 (.mov 85)])
 .ret)))))⟩
def b120_0 : PCode :=
  (.seq (.region [o 21 (.bin 0 .lss 20 19)])
 (.seq (.cond 21 .skip
  (.exit 0))
 (.seq (.block 1 (.seq (.region [o 22 (.mov 20), o 23 (.idx 9 18 20), o 24 (.load true 9 23), o 11 (.alloc zPack), o 10 (.mov 22), u (.store 9 11 24)])
 (.seq (.dregion [(o 25 (.load true 9 11), []), (o 26 (.load true 9 11), []), (o 27 (.call i_Pack_down [26]), [1]), (o 28 (.call i_Pack_need [25, 27]), [0, 1, 2]),
 (o 12 (.mov 28), [0, 1, 2, 3])])
 (.seq (.seq (.region [o 29 (.fld 5 11), o 30 (.load false 1 29)])
 (.cond 30 (.seq (.region [o 31 (.fld 2 8), o 32 (.load false 1 31), o 13 (.mov 32)])
 (.seq (.seq (.region [o 33 (.load true 9 11), o 34 (.call i_Pack_down [33])])
 (.cond 34 (.region [o 35 (.fld 3 8), o 36 (.load false 1 35), o 13 (.mov 36)])
  .skip))
 (.dregion [(o 37 (.mov 12), []), (o 38 (.mov 0), []), (o 39 (.mov 10), []), (o 40 (.slice false 9 38 (some 39) none), [1, 2]), (o 41 (.mov 13), []),
 (o 42 (.load true 9 11), []), (o 43 (.call i_Pack_down [42]), [5]), (o 44 (.call i_expandShare [40, 41, 43]), [1, 2, 3, 4, 5, 6]),
 (o 45 (.bin 0 .add 37 44), [0, 1, 2, 3, 4, 5, 6, 7]), (o 12 (.mov 45), [0, 1, 2, 3, 4, 5, 6, 7, 8])])))
  .skip))
 (.seq (.region [o 14 (.alloc zRect)])
 (.seq (.region [o 47 (.load true 4 8), o 48 (.fld 2 11), o 49 (.load false 1 48), o 50 (.mov 12), o 51 (.call i_Rect_cut [47, 49, 50]), o 46 (.mov 51), o 52 (.ext 46 0),
 o 53 (.ext 46 1), u (.store 4 14 52), u (.store 4 8 53)])
 (.region [o 54 (.mov 9), o 55 (.load true 4 14), o 56 (.bslice 1 zRect [(0, 55)]), o 57 (.app 4 4398046511104 54 56), o 9 (.mov 57)])))))))
 (.region [o 58 (.bin 0 .add 20 (i 1)), o 20 (.mov 58)]))))
/-- loop.example/widgetroom/impl.parcels -/
def pf120 : PFunc := ⟨3, [], false, false, [.tmp 6, .cell 7 true 4],
  (.seq (.region [o 6 (.mov nl), o 7 (.alloc zRect)])
 (.seq (.region [o 15 (.mov 1), o 16 (.mov 2), o 17 (.build zRect [(2, 1, 15), (3, 1, 16)]), o 8 (.alloc zRect), u (.store 4 8 17)])
 (.seq (.region [o 9 .nilroot])
 (.seq (.seq (.region [o 18 (.mov 0), o 19 (.len false 18), o 20 (.mov (i 0))])
 (.block 0 (.loop [0, 7, 8, 9, 18, 19, 20] [7, 8, 9, 57] [6, 7, 8, 9] [6, 7, 8, 9, 57] b120_0)))
 (.seq (.dregion [(o 59 (.mov 9), []), (o 60 (.load true 4 8), []), (o 6 (.mov 59), [0]), (u (.store 4 7 60), [0, 1, 2])])
 .ret)))))⟩
/-- (loop.example/widgetroom/impl.Rect).inset -/
def pf121 : PFunc := ⟨3, [], false, false, [.cell 6 true 4],
  (.seq (.region [o 3 (.box 0), o 6 (.alloc zRect)])
 (.seq (.region [o 7 (.fld 0 3), o 8 (.load false 1 7), o 9 (.mov 1), o 10 (.fld 2 3), o 11 (.load false 1 10), o 12 (.bin 0 .quo 11 (i 2)), o 13 (.mn [9, 12]),
 o 14 (.bin 0 .add 8 13), o 15 (.fld 1 3), o 16 (.load false 1 15), o 17 (.mov 2), o 18 (.fld 3 3), o 19 (.load false 1 18), o 20 (.bin 0 .quo 19 (i 2)),
 o 21 (.mn [17, 20]), o 22 (.bin 0 .add 16 21), o 23 (.fld 2 3), o 24 (.load false 1 23), o 25 (.mov 1), o 26 (.bin 0 .mul (i 2) 25),
 o 27 (.bin 0 .sub 24 26), o 28 (.mx [27, i 0]), o 29 (.fld 3 3), o 30 (.load false 1 29), o 31 (.mov 2), o 32 (.bin 0 .mul (i 2) 31),
 o 33 (.bin 0 .sub 30 32), o 34 (.mx [33, i 0]), o 35 (.build zRect [(0, 1, 14), (1, 1, 22), (2, 1, 28), (3, 1, 34)]), u (.store 4 6 35)])
 .ret))⟩
/-- (loop.example/widgetroom/impl.Rect).anchored -/
def pf122 : PFunc := ⟨4, [], false, false, [.cell 8 true 4],
  (.seq (.region [o 4 (.box 0), o 8 (.alloc zRect)])
 (.seq (.dregion [(o 9 (.mov 1), []), (o 10 (.fld 2 4), []), (o 11 (.load false 1 10), [1]), (o 12 (.mn [9, 11]), [0, 1, 2]), (o 13 (.mov 2), []), (o 14 (.fld 3 4), []),
 (o 15 (.load false 1 14), [5]), (o 16 (.mn [13, 15]), [4, 5, 6]), (o 1 (.mov 12), [0, 1, 2, 3]), (o 2 (.mov 16), [0, 1, 2, 3, 4, 5, 6, 7, 8])])
 (.seq (.dregion [(o 17 (.fld 0 4), []), (o 18 (.load false 1 17), [0]), (o 19 (.fld 2 4), []), (o 20 (.load false 1 19), [2]), (o 21 (.mov 1), []),
 (o 22 (.bin 0 .sub 20 21), [2, 3, 4]), (o 23 (.mov 3), []), (o 24 (.bin 0 .rem 23 (i 3)), [6]), (o 25 (.call i_part [22, 24]), [2, 3, 4, 5, 6, 7]),
 (o 26 (.bin 0 .add 18 25), [0, 1, 2, 3, 4, 5, 6, 7, 8]), (o 27 (.fld 1 4), []), (o 28 (.load false 1 27), [10]), (o 29 (.fld 3 4), []),
 (o 30 (.load false 1 29), [12]), (o 31 (.mov 2), []), (o 32 (.bin 0 .sub 30 31), [12, 13, 14]), (o 33 (.mov 3), []), (o 34 (.bin 0 .quo 33 (i 3)), [16]),
 (o 35 (.call i_part [32, 34]), [2, 3, 4, 5, 6, 7, 8, 12, 13, 14, 15, 16, 17]),
 (o 36 (.bin 0 .add 28 35), [2, 3, 4, 5, 6, 7, 8, 10, 11, 12, 13, 14, 15, 16, 17, 18]), (o 37 (.mov 1), []), (o 38 (.mov 2), []),
 (o 39 (.build zRect [(0, 1, 26), (1, 1, 36), (2, 1, 37), (3, 1, 38)]), [0, 1, 2, 3, 4, 5, 6, 7, 8, 9, 10, 11, 12, 13, 14, 15, 16, 17, 18, 19, 20, 21]),
 (u (.store 4 8 39), [0, 1, 2, 3, 4, 5, 6, 7, 8, 9, 10, 11, 12, 13, 14, 15, 16, 17, 18, 19, 20, 21, 22])])
 .ret)))⟩
def b123_0 : PCode :=
  (.seq (.region [o 39 (.bin 0 .lss 38 37)])
 (.seq (.cond 39 .skip
  (.exit 0))
 (.seq (.block 1 (.seq (.region [o 40 (.mov 38), o 41 (.idx 1 36 38), o 42 (.load false 1 41), o 10 (.mov 40), o 11 (.mov 42)])
 (.region [o 43 (.mov 7), o 44 (.mov 10), o 45 (.idx 1 43 44), o 46 (.load false 1 45), o 47 (.mov 11), o 48 (.bin 0 .add 46 47), o 49 (.idx 1 43 44),
 u (.store 1 49 48)])))
 (.region [o 50 (.bin 0 .add 38 (i 1)), o 38 (.mov 50)]))))
def b123_2 : PCode :=
  (.seq (.region [o 63 (.bin 0 .lss 62 61)])
 (.seq (.cond 63 .skip
  (.exit 4))
 (.seq (.block 5 (.seq (.region [o 64 (.mov 62), o 65 (.idx 2 60 62), o 66 (.load true 2 65), o 15 (.alloc zLine), o 14 (.mov 64), u (.store 2 15 66)])
 (.seq (.dregion [(o 67 (.mov 7), []), (o 68 (.mov 14), []), (o 69 (.idx 1 67 68), [0, 1]), (o 70 (.load false 1 69), [0, 1, 2]), (o 71 (.fld 1 15), []),
 (o 72 (.load false 1 71), [4]), (o 73 (.bin 0 .gtr 70 72), [0, 1, 2, 3, 4, 5])])
 (.cond 73 (.region [o 74 (.mov 13), o 75 (.mov 14), o 76 (.fld 0 15), o 77 (.load false 1 76), o 78 (.idx 1 74 75), u (.store 1 78 77)])
  .skip))))
 (.region [o 79 (.bin 0 .add 62 (i 1)), o 62 (.mov 79)]))))
def b123_3 : PCode :=
  (.seq (.region [o 88 (.bin 0 .lss 87 86)])
 (.seq (.cond 88 .skip
  (.exit 6))
 (.seq (.block 7 (.seq (.region [o 89 (.mov 87), o 90 (.idx 1 85 87), o 91 (.load false 1 90), o 16 (.mov 89), o 17 (.mov 91)])
 (.seq (.dregion [(o 92 (.mov 17), []), (o 93 (.mov 7), []), (o 94 (.mov 16), []), (o 95 (.idx 1 93 94), [1, 2]), (o 96 (.load false 1 95), [1, 2, 3]),
 (o 97 (.mov 0), []), (o 98 (.mov 16), []), (o 99 (.idx 2 97 98), [5, 6]), (o 100 (.fld 1 99), [5, 6, 7]), (o 101 (.load false 1 100), [5, 6, 7, 8]),
 (o 102 (.bin 0 .sub 96 101), [1, 2, 3, 4, 5, 6, 7, 8, 9]), (o 103 (.mn [92, 102]), [0, 1, 2, 3, 4, 5, 6, 7, 8, 9, 10]),
 (o 17 (.mov 103), [0, 1, 2, 3, 4, 5, 6, 7, 8, 9, 10, 11])])
 (.seq (.region [o 104 (.mov 7), o 105 (.mov 16), o 106 (.idx 1 104 105), o 107 (.load false 1 106), o 108 (.mov 17), o 109 (.bin 0 .sub 107 108), o 110 (.idx 1 104 105),
 u (.store 1 110 109)])
 (.region [o 111 (.mov 12), o 112 (.mov 17), o 113 (.bin 0 .sub 111 112), o 12 (.mov 113)])))))
 (.region [o 114 (.bin 0 .add 87 (i 1)), o 87 (.mov 114)]))))
def b123_1 : PCode :=
  (.seq (.seq (.region [o 55 (.mov 12), o 56 (.bin 0 .gtr 55 (i 0))])
 (.cond 56 .skip
  (.exit 2)))
 (.block 3 (.seq (.region [o 57 (.mov 0), o 58 (.len false 57), o 59 (.mk zInt 17592186044416 58), o 13 (.mov 59)])
 (.seq (.seq (.region [o 60 (.mov 0), o 61 (.len false 60), o 62 (.mov (i 0))])
 (.block 4 (.loop [0, 7, 12, 13, 60, 61, 62] [59, 1020] [0, 6, 7, 12, 13] [6, 59, 1020] b123_2)))
 (.seq (.seq (.region [o 80 (.mov 13), o 81 (.call i_sum [80]), o 82 (.bin 0 .eql 81 (i 0))])
 (.cond 82 (.exit 2)
  .skip))
 (.seq (.region [o 83 (.mov 12), o 84 (.mov 13), o 85 (.call i_spread [83, 84]), o 86 (.len false 85), o 87 (.mov (i 0))])
 (.block 6 (.loop [0, 7, 12, 85, 86, 87] [1020, 1085] [0, 6, 7, 12] [6, 1020] b123_3))))))))
/-- loop.example/widgetroom/impl.lineSizes -/
def pf123 : PFunc := ⟨3, [], false, false, [.tmp 6],
  (.seq (.region [o 6 (.mov nl)])
 (.seq (.region [o 18 (.mov 0), o 19 (.mov 1), o 20 (.call i_lineRequests [18, 19]), o 7 (.mov 20)])
 (.seq (.region [o 21 (.mov 0), o 22 (.call i_weightsOf [21]), o 8 (.mov 22)])
 (.seq (.seq (.region [o 23 (.mov 2), o 24 (.mov 7), o 25 (.call i_sum [24]), o 26 (.bin 0 .sub 23 25), o 9 (.mov 26)])
 (.seq (.region [o 27 (.mov 9), o 28 (.bin 0 .gtr 27 (i 0)), o 29 (.mov 28), gd 30 29 true (.mov 8), gd 31 29 true (.call i_sum [30]),
 gd 32 29 true (.bin 0 .gtr 31 (i 0)), o 33 (.pick 29 32 bF)])
 (.cond 33 (.seq (.region [o 34 (.mov 9), o 35 (.mov 8), o 36 (.call i_spread [34, 35]), o 37 (.len false 36), o 38 (.mov (i 0))])
 (.block 0 (.loop [0, 2, 7, 36, 37, 38] [1020, 1036] [0, 2, 6, 7] [6, 1020] b123_0)))
  .skip)))
 (.seq (.seq (.region [o 51 (.mov 7), o 52 (.call i_sum [51]), o 53 (.mov 2), o 54 (.bin 0 .sub 52 53), o 12 (.mov 54)])
 (.block 2 (.loop [0, 7, 12] [1020] [6, 7] [6, 1020] b123_1)))
 (.seq (.region [o 115 (.mov 7), o 6 (.mov 115)])
 .ret))))))⟩
/-- loop.example/widgetroom/impl.stuck -/
def pf124 : PFunc := ⟨4, [], false, false, [.tmp 8, .tmp 9],
  (.seq (.region [o 8 (.mov (i 0)), o 9 (.mov (i 0))])
 (.seq (.region [o 10 (.mov 1), o 11 (.mov 0), o 12 (.mn [10, 11]), o 1 (.mov 12)])
 (.seq (.block 0 (.seq (.region [o 14 (.mov 2), o 15 (.mov 14), gd 16 15 true (.mov 3), o 17 (.pick 15 16 bF), o 13 (.mov 17)])
 (.cond 13 (.seq (.region [o 18 (.mov 0), o 8 (.mov (i 0)), o 9 (.mov 18)])
 .ret)
  (.seq (.region [o 20 (.mov 2), o 19 (.mov 20)])
 (.cond 19 (.seq (.region [o 21 (.mov 1), o 8 (.mov (i 0)), o 9 (.mov 21)])
 .ret)
  (.seq (.region [o 23 (.mov 3), o 22 (.mov 23)])
 (.cond 22 (.seq (.region [o 24 (.mov 0), o 25 (.mov 1), o 26 (.bin 0 .sub 24 25), o 27 (.mov 1), o 8 (.mov 26), o 9 (.mov 27)])
 .ret)
  .skip)))))))
 (.seq (.region [o 28 (.mov 0), o 29 (.mov 1), o 30 (.bin 0 .sub 28 29), o 31 (.bin 0 .quo 30 (i 2)), o 32 (.mov 1), o 8 (.mov 31), o 9 (.mov 32)])
 .ret))))⟩
/-- loop.example/widgetroom/impl.part -/
def pf125 : PFunc := ⟨2, [], false, false, [.tmp 4],
  (.seq (.region [o 4 (.mov (i 0))])
 (.seq (.region [o 5 (.mov 0), o 6 (.mov 1), o 7 (.bin 0 .mul 5 6), o 8 (.bin 0 .quo 7 (i 2)), o 4 (.mov 8)])
 .ret))⟩
/-- loop.example/widgetroom/spec.validPack -/
def pf126 : PFunc := ⟨1, [], false, false, [.tmp 2],
  (.seq (.region [o 1 (.box 0), o 2 (.mov bF)])
 (.seq (.region [o 3 (.fld 0 1), o 4 (.load false 1 3), o 5 (.call s_inRange [4, i 0, i 30]), o 6 (.mov 5), gd 7 6 true (.fld 1 1), gd 8 6 true (.load false 1 7),
 gd 9 6 true (.call s_inRange [8, i 0, i 30]), o 10 (.pick 6 9 bF), o 11 (.mov 10), gd 12 11 true (.fld 2 1), gd 13 11 true (.load false 1 12),
 gd 14 11 true (.call s_validSide [13]), o 15 (.pick 11 14 bF), o 16 (.mov 15), gd 17 16 true (.fld 6 1), gd 18 16 true (.load false 1 17),
 gd 19 16 true (.call s_validAnchor [18]), o 20 (.pick 16 19 bF), o 21 (.mov 20), gd 22 21 true (.fld 7 1), gd 23 21 true (.load false 1 22),
 gd 24 21 true (.call s_inRange [23, i 0, i 10]), o 25 (.pick 21 24 bF), o 26 (.mov 25), gd 27 26 true (.fld 8 1), gd 28 26 true (.load false 1 27),
 gd 29 26 true (.call s_inRange [28, i 0, i 10]), o 30 (.pick 26 29 bF), o 2 (.mov 30)])
 .ret))⟩
/-- loop.example/widgetroom/spec.validPlace -/
def pf127 : PFunc := ⟨1, [], false, false, [.tmp 2],
  (.seq (.region [o 1 (.box 0), o 2 (.mov bF)])
 (.seq (.region [o 3 (.fld 0 1), o 4 (.load false 1 3), o 5 (.call s_inRange [4, i (-300), i 300]), o 6 (.mov 5), gd 7 6 true (.fld 1 1), gd 8 6 true (.load false 1 7),
 gd 9 6 true (.call s_inRange [8, i (-300), i 300]), o 10 (.pick 6 9 bF), o 11 (.mov 10), gd 12 11 true (.fld 2 1), gd 13 11 true (.load false 1 12),
 gd 14 11 true (.call s_inRange [13, i 0, i 1000]), o 15 (.pick 11 14 bF), o 16 (.mov 15), gd 17 16 true (.fld 3 1), gd 18 16 true (.load false 1 17),
 gd 19 16 true (.call s_inRange [18, i 0, i 1000]), o 20 (.pick 16 19 bF), o 21 (.mov 20), gd 22 21 true (.fld 4 1), gd 23 21 true (.load false 1 22),
 gd 24 21 true (.call s_inRange [23, i (-300), i 300]), o 25 (.pick 21 24 bF), o 26 (.mov 25), gd 27 26 true (.fld 5 1), gd 28 26 true (.load false 1 27),
 gd 29 26 true (.call s_inRange [28, i (-300), i 300]), o 30 (.pick 26 29 bF), o 31 (.mov 30), gd 32 31 true (.fld 6 1), gd 33 31 true (.load false 1 32),
 gd 34 31 true (.call s_inRange [33, i 0, i 1000]), o 35 (.pick 31 34 bF), o 36 (.mov 35), gd 37 36 true (.fld 7 1), gd 38 36 true (.load false 1 37),
 gd 39 36 true (.call s_inRange [38, i 0, i 1000]), o 40 (.pick 36 39 bF), o 41 (.mov 40), gd 42 41 true (.fld 8 1), gd 43 41 true (.load false 1 42),
 gd 44 41 true (.call s_validAnchor [43]), o 45 (.pick 41 44 bF), o 2 (.mov 45)])
 .ret))⟩
def b128_0 : PCode :=
  (.seq (.seq (.region [o 4 (.mov 3), o 5 (.mov 0), o 6 (.len false 5), o 7 (.bin 0 .lss 4 6)])
 (.cond 7 .skip
  (.exit 0)))
 (.seq (.block 1 (.seq (.region [o 10 (.mov 0), o 11 (.mov 3), o 12 (.idx 2 10 11), o 13 (.load true 2 12), o 14 (.call s_validLine [13]), o 15 (.not 14)])
 (.cond 15 (.seq (.region [o 2 (.mov bF)])
 .ret)
  .skip)))
 (.region [o 8 (.mov 3), o 9 (.bin 0 .add 8 (i 1)), o 3 (.mov 9)])))
/-- loop.example/widgetroom/spec.validLines -/
def pf128 : PFunc := ⟨1, [], false, false, [.tmp 2],
  (.seq (.region [o 2 (.mov bF)])
 (.seq (.seq (.region [o 3 (.mov (i 0))])
 (.block 0 (.loop [0, 3] [] [0, 2] [] b128_0)))
 (.seq (.region [o 16 (.mov 0), o 17 (.len false 16), o 18 (.call s_inRange [17, i 1, i 5]), o 2 (.mov 18)])
 .ret)))⟩
/-- loop.example/widgetroom/spec.validCell -/
def pf129 : PFunc := ⟨2, [], false, false, [.tmp 4],
  (.seq (.region [o 2 (.box 0), o 3 (.box 1), o 4 (.mov bF)])
 (.seq (.region [o 5 (.fld 0 3), o 6 (.load false 1 5), o 7 (.fld 0 2), o 8 (.load false 1 7), o 9 (.len false 8), o 10 (.bin 0 .sub 9 (i 1)),
 o 11 (.call s_inRange [6, i 0, 10]), o 12 (.mov 11), gd 13 12 true (.fld 1 3), gd 14 12 true (.load false 1 13), gd 15 12 true (.fld 1 2),
 gd 16 12 true (.load false 1 15), gd 17 12 true (.len false 16), gd 18 12 true (.bin 0 .sub 17 (i 1)), gd 19 12 true (.call s_inRange [14, i 0, 18]),
 o 20 (.pick 12 19 bF), o 21 (.mov 20), gd 22 21 true (.fld 2 3), gd 23 21 true (.load false 1 22), gd 24 21 true (.fld 0 2),
 gd 25 21 true (.load false 1 24), gd 26 21 true (.len false 25), gd 27 21 true (.fld 0 3), gd 28 21 true (.load false 1 27),
 gd 29 21 true (.bin 0 .sub 26 28), gd 30 21 true (.call s_inRange [23, i 1, 29]), o 31 (.pick 21 30 bF), o 32 (.mov 31), gd 33 32 true (.fld 3 3),
 gd 34 32 true (.load false 1 33), gd 35 32 true (.fld 1 2), gd 36 32 true (.load false 1 35), gd 37 32 true (.len false 36), gd 38 32 true (.fld 1 3),
 gd 39 32 true (.load false 1 38), gd 40 32 true (.bin 0 .sub 37 39), gd 41 32 true (.call s_inRange [34, i 1, 40]), o 42 (.pick 32 41 bF),
 o 43 (.mov 42), gd 44 43 true (.fld 4 3), gd 45 43 true (.load false 1 44), gd 46 43 true (.call s_inRange [45, i 0, i 30]), o 47 (.pick 43 46 bF),
 o 48 (.mov 47), gd 49 48 true (.fld 5 3), gd 50 48 true (.load false 1 49), gd 51 48 true (.call s_inRange [50, i 0, i 30]), o 52 (.pick 48 51 bF),
 o 53 (.mov 52), gd 54 53 true (.fld 6 3), gd 55 53 true (.load false 1 54), gd 56 53 true (.call s_inRange [55, i 0, i 15]), o 57 (.pick 53 56 bF),
 o 58 (.mov 57), gd 59 58 true (.fld 7 3), gd 60 58 true (.load false 1 59), gd 61 58 true (.call s_inRange [60, i 0, i 10]), o 62 (.pick 58 61 bF),
 o 63 (.mov 62), gd 64 63 true (.fld 8 3), gd 65 63 true (.load false 1 64), gd 66 63 true (.call s_inRange [65, i 0, i 10]), o 67 (.pick 63 66 bF),
 o 4 (.mov 67)])
 .ret))⟩
def b130_0 : PCode :=
  (.seq (.seq (.region [o 14 (.mov 7), o 15 (.mov 5), o 16 (.len false 15), o 17 (.bin 0 .lss 14 16)])
 (.cond 17 .skip
  (.exit 0)))
 (.seq (.block 1 (.dregion [(o 20 (.mov 5), []), (o 21 (.mov 7), []), (o 22 (.mov 0), []), (o 23 (.mov 7), []), (o 24 (.idx 9 22 23), [2, 3]), (o 25 (.load true 9 24), [2, 3, 4]),
 (o 26 (.mov 5), []), (o 27 (.mov 7), []), (o 28 (.idx 4 26 27), [6, 7]), (o 29 (.load true 4 28), [6, 7, 8]),
 (o 30 (.call s_settled [25, 29]), [2, 3, 4, 5, 6, 7, 8, 9]), (o 31 (.idx 4 20 21), [0, 1, 2, 3, 4, 5, 6, 7, 8, 9, 10]),
 (u (.store 4 31 30), [0, 1, 2, 3, 4, 5, 6, 7, 8, 9, 10, 11])]))
 (.region [o 18 (.mov 7), o 19 (.bin 0 .add 18 (i 1)), o 7 (.mov 19)])))
/-- loop.example/widgetroom/spec.packed -/
def pf130 : PFunc := ⟨2, [], false, false, [.tmp 4],
  (.seq (.region [o 3 (.box 1), o 4 (.mov nl)])
 (.seq (.region [o 9 (.mov 0), o 10 (.load true 4 3), o 11 (.call s_parcels [9, 10]), o 8 (.mov 11), o 12 (.ext 8 0), o 13 (.ext 8 1), o 6 (.alloc zRect), o 5 (.mov 12),
 u (.store 4 6 13)])
 (.seq (.seq (.region [o 7 (.mov (i 0))])
 (.block 0 (.loop [0, 5, 7] [1011] [4, 5] [4, 1011] b130_0)))
 (.seq (.region [o 32 (.mov 5), o 4 (.mov 32)])
 .ret))))⟩
def b131_0 : PCode :=
  (.seq (.seq (.region [o 37 (.mov 8), o 38 (.fld 2 2), o 39 (.load false 1 38), o 40 (.len false 39), o 41 (.bin 0 .lss 37 40)])
 (.cond 41 .skip
  (.exit 0)))
 (.seq (.block 1 (.seq (.region [o 44 (.fld 2 2), o 45 (.load false 1 44), o 46 (.mov 8), o 47 (.idx 9 45 46), o 48 (.load true 9 47), o 9 (.alloc zCell), u (.store 9 9 48)])
 (.seq (.dregion [(o 49 (.fld 0 3), []), (o 50 (.load false 1 49), [0]), (o 51 (.mov 5), []), (o 52 (.fld 0 9), []), (o 53 (.load false 1 52), [3]),
 (o 54 (.slice false 1 51 none (some 53)), [2, 3, 4]), (o 55 (.call s_total [54]), [2, 3, 4, 5]), (o 56 (.bin 0 .add 50 55), [0, 1, 2, 3, 4, 5, 6]),
 (o 57 (.fld 1 3), []), (o 58 (.load false 1 57), [8]), (o 59 (.mov 6), []), (o 60 (.fld 1 9), []), (o 61 (.load false 1 60), [11]),
 (o 62 (.slice false 1 59 none (some 61)), [10, 11, 12]), (o 63 (.call s_total [62]), [2, 3, 4, 5, 6, 10, 11, 12, 13]),
 (o 64 (.bin 0 .add 58 63), [2, 3, 4, 5, 6, 8, 9, 10, 11, 12, 13, 14]), (o 65 (.mov 5), []), (o 66 (.fld 0 9), []), (o 67 (.load false 1 66), [17]),
 (o 68 (.fld 0 9), []), (o 69 (.load false 1 68), [19]), (o 70 (.fld 2 9), []), (o 71 (.load false 1 70), [21]),
 (o 72 (.bin 0 .add 69 71), [19, 20, 21, 22]), (o 73 (.slice false 1 65 (some 67) (some 72)), [16, 17, 18, 19, 20, 21, 22, 23]),
 (o 74 (.call s_total [73]), [2, 3, 4, 5, 6, 10, 11, 12, 13, 14, 16, 17, 18, 19, 20, 21, 22, 23, 24]), (o 75 (.mov 6), []), (o 76 (.fld 1 9), []),
 (o 77 (.load false 1 76), [27]), (o 78 (.fld 1 9), []), (o 79 (.load false 1 78), [29]), (o 80 (.fld 3 9), []), (o 81 (.load false 1 80), [31]),
 (o 82 (.bin 0 .add 79 81), [29, 30, 31, 32]), (o 83 (.slice false 1 75 (some 77) (some 82)), [26, 27, 28, 29, 30, 31, 32, 33]),
 (o 84 (.call s_total [83]), [2, 3, 4, 5, 6, 10, 11, 12, 13, 14, 16, 17, 18, 19, 20, 21, 22, 23, 24, 25, 26, 27, 28, 29, 30, 31, 32, 33, 34]),
 (o 85 (.build zRect [(0, 1, 56), (1, 1, 64), (2, 1, 74), (3, 1, 84)]), [0, 1, 2, 3, 4, 5, 6, 7, 8, 9, 10, 11, 12, 13, 14, 15, 16, 17, 18, 19, 20, 21, 22, 23, 24, 25, 26, 27, 28, 29, 30, 31, 32, 33, 34, 35]),
 (o 10 (.alloc zRect), []),
 (u (.store 4 10 85), [0, 1, 2, 3, 4, 5, 6, 7, 8, 9, 10, 11, 12, 13, 14, 15, 16, 17, 18, 19, 20, 21, 22, 23, 24, 25, 26, 27, 28, 29, 30, 31, 32, 33, 34, 35, 36, 37])])
 (.seq (.region [o 86 (.load true 4 10), o 87 (.fld 7 9), o 88 (.load false 1 87), o 89 (.fld 8 9), o 90 (.load false 1 89), o 91 (.call s_inset [86, 88, 90]),
 o 11 (.alloc zRect), u (.store 4 11 91)])
 (.seq (.region [o 93 (.fld 0 11), o 94 (.load false 1 93), o 95 (.fld 2 11), o 96 (.load false 1 95), o 97 (.fld 4 9), o 98 (.load false 1 97), o 99 (.fld 6 9),
 o 100 (.load false 1 99), o 101 (.bin 0 .rem 100 (i 2)), o 102 (.bin 0 .eql 101 (i 1)), o 103 (.fld 6 9), o 104 (.load false 1 103),
 o 105 (.bin 0 .quo 104 (i 2)), o 106 (.bin 0 .rem 105 (i 2)), o 107 (.bin 0 .eql 106 (i 1)), o 108 (.call s_stuck [94, 96, 98, 102, 107]),
 o 92 (.mov 108), o 109 (.ext 92 0), o 110 (.ext 92 1), o 12 (.mov 109), o 13 (.mov 110)])
 (.seq (.region [o 112 (.fld 1 11), o 113 (.load false 1 112), o 114 (.fld 3 11), o 115 (.load false 1 114), o 116 (.fld 5 9), o 117 (.load false 1 116),
 o 118 (.fld 6 9), o 119 (.load false 1 118), o 120 (.bin 0 .quo 119 (i 4)), o 121 (.bin 0 .rem 120 (i 2)), o 122 (.bin 0 .eql 121 (i 1)),
 o 123 (.fld 6 9), o 124 (.load false 1 123), o 125 (.bin 0 .quo 124 (i 8)), o 126 (.bin 0 .eql 125 (i 1)),
 o 127 (.call s_stuck [113, 115, 117, 122, 126]), o 111 (.mov 127), o 128 (.ext 111 0), o 129 (.ext 111 1), o 14 (.mov 128), o 15 (.mov 129)])
 (.region [o 130 (.mov 7), o 131 (.mov 12), o 132 (.mov 14), o 133 (.mov 13), o 134 (.mov 15),
 o 135 (.build zRect [(0, 1, 131), (1, 1, 132), (2, 1, 133), (3, 1, 134)]), o 136 (.bslice 1 zRect [(0, 135)]), o 137 (.app 4 4398046511104 130 136),
 o 7 (.mov 137)])))))))
 (.region [o 42 (.mov 8), o 43 (.bin 0 .add 42 (i 1)), o 8 (.mov 43)])))
/-- loop.example/widgetroom/spec.gridded -/
def pf131 : PFunc := ⟨2, [], false, false, [.tmp 4],
  (.seq (.region [o 2 (.box 0), o 3 (.box 1), o 4 (.mov nl)])
 (.seq (.dregion [(o 16 (.fld 0 2), []), (o 17 (.load false 1 16), [0]), (o 18 (.fld 0 2), []), (o 19 (.load false 1 18), [2]), (o 20 (.load true 3 2), []),
 (o 21 (.call s_colSpans [20]), [4]), (o 22 (.call s_wished [19, 21]), [2, 3, 4, 5]), (o 23 (.fld 2 3), []), (o 24 (.load false 1 23), [7]),
 (o 25 (.call s_sized [17, 22, 24]), [0, 1, 2, 3, 4, 5, 6, 7, 8]), (o 5 (.mov 25), [0, 1, 2, 3, 4, 5, 6, 7, 8, 9])])
 (.seq (.dregion [(o 26 (.fld 1 2), []), (o 27 (.load false 1 26), [0]), (o 28 (.fld 1 2), []), (o 29 (.load false 1 28), [2]), (o 30 (.load true 3 2), []),
 (o 31 (.call s_rowSpans [30]), [4]), (o 32 (.call s_wished [29, 31]), [2, 3, 4, 5]), (o 33 (.fld 3 3), []), (o 34 (.load false 1 33), [7]),
 (o 35 (.call s_sized [27, 32, 34]), [0, 1, 2, 3, 4, 5, 6, 7, 8]), (o 6 (.mov 35), [0, 1, 2, 3, 4, 5, 6, 7, 8, 9])])
 (.seq (.region [o 36 (.bslice 0 zRect []), o 7 (.mov 36)])
 (.seq (.seq (.region [o 8 (.mov (i 0))])
 (.block 0 (.loop [2, 3, 5, 6, 7, 8] [2, 3, 36, 137, 1002, 1025, 1035, 2002, 3002] [4, 7] [4, 36, 137] b131_0)))
 (.seq (.region [o 138 (.mov 7), o 4 (.mov 138)])
 .ret))))))⟩
/-- loop.example/widgetroom/spec.placed -/
def pf132 : PFunc := ⟨2, [], false, false, [.cell 4 true 4],
  (.seq (.region [o 2 (.box 0), o 3 (.box 1), o 4 (.alloc zRect)])
 (.seq (.dregion [(o 9 (.fld 4 2), []), (o 10 (.load false 1 9), [0]), (o 11 (.fld 2 3), []), (o 12 (.load false 1 11), [2]), (o 13 (.fld 6 2), []),
 (o 14 (.load false 1 13), [4]), (o 15 (.call s_part [12, 14]), [2, 3, 4, 5]), (o 16 (.bin 0 .add 10 15), [0, 1, 2, 3, 4, 5, 6]),
 (o 17 (.mx [i 0, 16]), [0, 1, 2, 3, 4, 5, 6, 7]), (o 5 (.mov 17), [0, 1, 2, 3, 4, 5, 6, 7, 8])])
 (.seq (.dregion [(o 18 (.fld 5 2), []), (o 19 (.load false 1 18), [0]), (o 20 (.fld 3 3), []), (o 21 (.load false 1 20), [2]), (o 22 (.fld 7 2), []),
 (o 23 (.load false 1 22), [4]), (o 24 (.call s_part [21, 23]), [2, 3, 4, 5]), (o 25 (.bin 0 .add 19 24), [0, 1, 2, 3, 4, 5, 6]),
 (o 26 (.mx [i 0, 25]), [0, 1, 2, 3, 4, 5, 6, 7]), (o 6 (.mov 26), [0, 1, 2, 3, 4, 5, 6, 7, 8])])
 (.seq (.dregion [(o 27 (.fld 0 2), []), (o 28 (.load false 1 27), [0]), (o 29 (.fld 2 3), []), (o 30 (.load false 1 29), [2]), (o 31 (.fld 2 2), []),
 (o 32 (.load false 1 31), [4]), (o 33 (.call s_part [30, 32]), [2, 3, 4, 5]), (o 34 (.bin 0 .add 28 33), [0, 1, 2, 3, 4, 5, 6]), (o 35 (.mov 5), []),
 (o 36 (.fld 8 2), []), (o 37 (.load false 1 36), [9]), (o 38 (.bin 0 .rem 37 (i 3)), [9, 10]), (o 39 (.bin 0 .mul 35 38), [8, 9, 10, 11]),
 (o 40 (.bin 0 .quo 39 (i 2)), [8, 9, 10, 11, 12]), (o 41 (.bin 0 .sub 34 40), [0, 1, 2, 3, 4, 5, 6, 7, 8, 9, 10, 11, 12, 13]),
 (o 7 (.mov 41), [0, 1, 2, 3, 4, 5, 6, 7, 8, 9, 10, 11, 12, 13, 14])])
 (.seq (.dregion [(o 42 (.fld 1 2), []), (o 43 (.load false 1 42), [0]), (o 44 (.fld 3 3), []), (o 45 (.load false 1 44), [2]), (o 46 (.fld 3 2), []),
 (o 47 (.load false 1 46), [4]), (o 48 (.call s_part [45, 47]), [2, 3, 4, 5]), (o 49 (.bin 0 .add 43 48), [0, 1, 2, 3, 4, 5, 6]), (o 50 (.mov 6), []),
 (o 51 (.fld 8 2), []), (o 52 (.load false 1 51), [9]), (o 53 (.bin 0 .quo 52 (i 3)), [9, 10]), (o 54 (.bin 0 .mul 50 53), [8, 9, 10, 11]),
 (o 55 (.bin 0 .quo 54 (i 2)), [8, 9, 10, 11, 12]), (o 56 (.bin 0 .sub 49 55), [0, 1, 2, 3, 4, 5, 6, 7, 8, 9, 10, 11, 12, 13]),
 (o 8 (.mov 56), [0, 1, 2, 3, 4, 5, 6, 7, 8, 9, 10, 11, 12, 13, 14])])
 (.seq (.region [o 57 (.fld 0 3), o 58 (.load false 1 57), o 59 (.mov 7), o 60 (.bin 0 .add 58 59), o 61 (.fld 1 3), o 62 (.load false 1 61), o 63 (.mov 8),
 o 64 (.bin 0 .add 62 63), o 65 (.mov 5), o 66 (.mov 6), o 67 (.build zRect [(0, 1, 60), (1, 1, 64), (2, 1, 65), (3, 1, 66)]), u (.store 4 4 67)])
 .ret))))))⟩
def b133_0 : PCode :=
  (.seq (.seq (.region [o 9 (.mov 4), o 10 (.bin 0 .gtr 9 (i 0))])
 (.cond 10 .skip
  (.exit 0)))
 (.seq (.block 1 (.region [o 13 (.mov 3), o 14 (.mov 0), o 15 (.bslice 5 zInt [(0, i 1), (1, i 0), (2, i 2), (3, i 0), (4, i 5)]), o 16 (.call s_reader_one [14, 15]),
 o 17 (.mov 0), o 18 (.bslice 4 zInt [(0, i 0), (1, i 5), (2, i 10), (3, i 0)]), o 19 (.call s_reader_one [17, 18]),
 o 20 (.build zLine [(0, 1, 16), (1, 1, 19)]), o 21 (.bslice 1 zLine [(0, 20)]), o 22 (.app 2 8796093022208 13 21), o 3 (.mov 22)]))
 (.region [o 11 (.mov 4), o 12 (.bin 0 .sub 11 (i 1)), o 4 (.mov 12)])))
/-- loop.example/widgetroom/spec.goodLines -/
def pf133 : PFunc := ⟨1, [true], false, false, [.tmp 2],
  (.seq (.region [o 2 (.mov nl)])
 (.seq (.region [o 5 (.bslice 0 zLine []), o 3 (.mov 5)])
 (.seq (.seq (.region [o 6 (.mov 0), o 7 (.bslice 5 zInt [(0, i 3), (1, i 2), (2, i 4), (3, i 1), (4, i 5)]), o 8 (.call s_reader_one [6, 7]), o 4 (.mov 8)])
 (.block 0 (.loop [0, 3, 4] [5, 22, 1000, 2000] [2, 3] [2, 5, 22, 1000, 2000] b133_0)))
 (.seq (.region [o 23 (.mov 3), o 2 (.mov 23)])
 .ret))))⟩
/-- loop.example/widgetroom/spec.goodPack -/
def pf134 : PFunc := ⟨1, [true], false, false, [.cell 2 true 9],
  (.seq (.region [o 2 (.alloc zPack)])
 (.seq (.region [o 4 (.mov 0), o 5 (.mov 0), o 6 (.call s_reader_pick [5, i 31]), o 7 (.bslice 5 zInt [(0, i 5), (1, i 10), (2, i 0), (3, 6), (4, i 3)]),
 o 8 (.call s_reader_one [4, 7]), o 9 (.mov 0), o 10 (.mov 0), o 11 (.call s_reader_pick [10, i 31]),
 o 12 (.bslice 5 zInt [(0, i 4), (1, i 8), (2, i 0), (3, 11), (4, i 6)]), o 13 (.call s_reader_one [9, 12]), o 14 (.mov 0),
 o 15 (.call s_reader_pick [14, i 4]), o 16 (.mov 0), o 17 (.mov 0), o 18 (.call s_reader_pick [17, i 9]),
 o 19 (.bslice 4 zInt [(0, i 4), (1, i 4), (2, i 0), (3, 18)]), o 20 (.call s_reader_one [16, 19]),
 o 21 (.build zPack [(0, 1, 8), (1, 1, 13), (2, 1, 15), (6, 1, 20)]), o 3 (.alloc zPack), u (.store 9 3 21)])
 (.seq (.region [o 22 (.mov 0), o 23 (.call s_reader_pick [22, i 3]), o 24 (.bin 0 .eql 23 (i 0)), o 25 (.fld 3 3), u (.store 1 25 24)])
 (.seq (.region [o 26 (.mov 0), o 27 (.call s_reader_pick [26, i 3]), o 28 (.bin 0 .eql 27 (i 0)), o 29 (.fld 4 3), u (.store 1 29 28)])
 (.seq (.region [o 30 (.mov 0), o 31 (.call s_reader_pick [30, i 2]), o 32 (.bin 0 .eql 31 (i 0)), o 33 (.fld 5 3), u (.store 1 33 32)])
 (.seq (.seq (.region [o 34 (.mov 0), o 35 (.call s_reader_pick [34, i 2]), o 36 (.bin 0 .eql 35 (i 0))])
 (.cond 36 (.seq (.region [o 37 (.mov 0), o 38 (.call s_reader_pick [37, i 4]), o 39 (.fld 7 3), u (.store 1 39 38)])
 (.region [o 40 (.mov 0), o 41 (.call s_reader_pick [40, i 4]), o 42 (.fld 8 3), u (.store 1 42 41)]))
  .skip))
 (.seq (.region [o 43 (.load true 9 3), u (.store 9 2 43)])
 .ret)))))))⟩
/-- loop.example/widgetroom/spec.goodPlace -/
def pf135 : PFunc := ⟨1, [true], false, false, [.cell 2 true 9],
  (.seq (.region [o 2 (.alloc zPlace)])
 (.seq (.region [o 4 (.mov 0), o 5 (.bslice 4 zInt [(0, i 0), (1, i 5), (2, i (-5)), (3, i 0)]), o 6 (.call s_reader_one [4, 5]), o 7 (.mov 0),
 o 8 (.bslice 4 zInt [(0, i 0), (1, i 3), (2, i (-7)), (3, i 0)]), o 9 (.call s_reader_one [7, 8]), o 10 (.mov 0),
 o 11 (.bslice 4 zInt [(0, i 0), (1, i 500), (2, i 1000), (3, i 333)]), o 12 (.call s_reader_one [10, 11]), o 13 (.mov 0),
 o 14 (.bslice 4 zInt [(0, i 0), (1, i 500), (2, i 1000), (3, i 250)]), o 15 (.call s_reader_one [13, 14]), o 16 (.mov 0),
 o 17 (.bslice 4 zInt [(0, i 10), (1, i 5), (2, i 0), (3, i (-10))]), o 18 (.call s_reader_one [16, 17]), o 19 (.mov 0),
 o 20 (.bslice 4 zInt [(0, i 8), (1, i 3), (2, i 0), (3, i (-4))]), o 21 (.call s_reader_one [19, 20]), o 22 (.mov 0),
 o 23 (.bslice 4 zInt [(0, i 0), (1, i 0), (2, i 500), (3, i 1000)]), o 24 (.call s_reader_one [22, 23]), o 25 (.mov 0),
 o 26 (.bslice 4 zInt [(0, i 0), (1, i 0), (2, i 500), (3, i 1000)]), o 27 (.call s_reader_one [25, 26]), o 28 (.mov 0), o 29 (.mov 0),
 o 30 (.call s_reader_pick [29, i 9]), o 31 (.bslice 4 zInt [(0, i 0), (1, i 4), (2, i 8), (3, 30)]), o 32 (.call s_reader_one [28, 31]),
 o 33 (.build zPlace [(0, 1, 6), (1, 1, 9), (2, 1, 12), (3, 1, 15), (4, 1, 18), (5, 1, 21), (6, 1, 24), (7, 1, 27), (8, 1, 32)]), o 3 (.alloc zPlace),
 u (.store 9 3 33)])
 (.seq (.region [o 34 (.load true 9 3), u (.store 9 2 34)])
 .ret)))⟩
/-- loop.example/widgetroom/spec.goodCell -/
def pf136 : PFunc := ⟨3, [true, false, false], false, false, [.cell 6 true 9],
  (.seq (.region [o 6 (.alloc zCell)])
 (.seq (.region [o 8 (.mov 0), o 9 (.mov 1), o 10 (.call s_reader_pick [8, 9]), o 11 (.mov 0), o 12 (.mov 2), o 13 (.call s_reader_pick [11, 12]), o 14 (.mov 0),
 o 15 (.bslice 4 zInt [(0, i 5), (1, i 10), (2, i 0), (3, i 30)]), o 16 (.call s_reader_one [14, 15]), o 17 (.mov 0),
 o 18 (.bslice 4 zInt [(0, i 4), (1, i 8), (2, i 0), (3, i 30)]), o 19 (.call s_reader_one [17, 18]), o 20 (.mov 0), o 21 (.mov 0),
 o 22 (.call s_reader_pick [21, i 16]), o 23 (.bslice 5 zInt [(0, i 0), (1, i 15), (2, 22), (3, i 3), (4, i 1)]), o 24 (.call s_reader_one [20, 23]),
 o 25 (.build zCell [(0, 1, 10), (1, 1, 13), (4, 1, 16), (5, 1, 19), (6, 1, 24)]), o 7 (.alloc zCell), u (.store 9 7 25)])
 (.seq (.region [o 26 (.fld 2 7), u (.store 1 26 (i 1))])
 (.seq (.region [o 27 (.fld 3 7), u (.store 1 27 (i 1))])
 (.seq (.seq (.region [o 28 (.mov 0), o 29 (.call s_reader_pick [28, i 3]), o 30 (.bin 0 .eql 29 (i 0))])
 (.cond 30 (.seq (.region [o 31 (.mov 0), o 32 (.mov 1), o 33 (.fld 0 7), o 34 (.load false 1 33), o 35 (.bin 0 .sub 32 34), o 36 (.call s_reader_pick [31, 35]),
 o 37 (.bin 0 .add (i 1) 36), o 38 (.fld 2 7), u (.store 1 38 37)])
 (.region [o 39 (.mov 0), o 40 (.mov 2), o 41 (.fld 1 7), o 42 (.load false 1 41), o 43 (.bin 0 .sub 40 42), o 44 (.call s_reader_pick [39, 43]),
 o 45 (.bin 0 .add (i 1) 44), o 46 (.fld 3 7), u (.store 1 46 45)]))
  .skip))
 (.seq (.seq (.region [o 47 (.mov 0), o 48 (.call s_reader_pick [47, i 3]), o 49 (.bin 0 .eql 48 (i 0))])
 (.cond 49 (.seq (.region [o 50 (.mov 0), o 51 (.call s_reader_pick [50, i 4]), o 52 (.fld 7 7), u (.store 1 52 51)])
 (.region [o 53 (.mov 0), o 54 (.call s_reader_pick [53, i 4]), o 55 (.fld 8 7), u (.store 1 55 54)]))
  .skip))
 (.seq (.region [o 56 (.load true 9 7), u (.store 9 6 56)])
 .ret)))))))⟩
/-- loop.example/widgetroom/spec.outer -/
def pf137 : PFunc := ⟨1, [], false, false, [.tmp 2, .tmp 3],
  (.seq (.region [o 1 (.box 0), o 2 (.mov (i 0)), o 3 (.mov (i 0))])
 (.seq (.dregion [(o 4 (.fld 0 1), []), (o 5 (.load false 1 4), [0]), (o 6 (.fld 7 1), []), (o 7 (.load false 1 6), [2]), (o 8 (.bin 0 .mul (i 2) 7), [2, 3]),
 (o 9 (.bin 0 .add 5 8), [0, 1, 2, 3, 4]), (o 10 (.fld 1 1), []), (o 11 (.load false 1 10), [6]), (o 12 (.fld 8 1), []), (o 13 (.load false 1 12), [8]),
 (o 14 (.bin 0 .mul (i 2) 13), [8, 9]), (o 15 (.bin 0 .add 11 14), [6, 7, 8, 9, 10]), (o 2 (.mov 9), [0, 1, 2, 3, 4, 5]),
 (o 3 (.mov 15), [0, 1, 2, 3, 4, 5, 6, 7, 8, 9, 10, 11, 12])])
 .ret))⟩
/-- loop.example/widgetroom/spec.upright -/
def pf138 : PFunc := ⟨1, [], false, false, [.tmp 2],
  (.seq (.region [o 2 (.mov bF)])
 (.seq (.region [o 3 (.mov 0), o 4 (.bin 0 .eql 3 (i 0)), o 5 (.mov 4), gd 6 5 false (.mov 0), gd 7 5 false (.bin 0 .eql 6 (i 1)), o 8 (.pick 5 bT 7), o 2 (.mov 8)])
 .ret))⟩
def b139_0 : PCode :=
  (.seq (.seq (.region [o 5 (.mov 4), o 6 (.mov 0), o 7 (.len false 6), o 8 (.bin 0 .lss 5 7)])
 (.cond 8 .skip
  (.exit 0)))
 (.seq (.block 1 (.region [o 11 (.mov 3), o 12 (.mov 0), o 13 (.mov 4), o 14 (.idx 1 12 13), o 15 (.load false 1 14), o 16 (.bin 0 .add 11 15), o 3 (.mov 16)]))
 (.region [o 9 (.mov 4), o 10 (.bin 0 .add 9 (i 1)), o 4 (.mov 10)])))
/-- loop.example/widgetroom/spec.total -/
def pf139 : PFunc := ⟨1, [], false, false, [.tmp 2],
  (.seq (.region [o 2 (.mov (i 0))])
 (.seq (.region [o 3 (.mov (i 0))])
 (.seq (.seq (.region [o 4 (.mov (i 0))])
 (.block 0 (.loop [0, 3, 4] [] [2, 3] [] b139_0)))
 (.seq (.region [o 17 (.mov 3), o 2 (.mov 17)])
 .ret))))⟩
def b140_0 : PCode :=
  (.seq (.seq (.region [o 14 (.mov 6), o 15 (.mov 0), o 16 (.len false 15), o 17 (.bin 0 .lss 14 16)])
 (.cond 17 .skip
  (.exit 0)))
 (.seq (.block 1 (.region [o 20 (.mov 5), o 21 (.mov 0), o 22 (.mov 6), o 23 (.idx 2 21 22), o 24 (.fld 1 23), o 25 (.load false 1 24), o 26 (.bslice 1 zInt [(0, 25)]),
 o 27 (.app 1 17592186044416 20 26), o 5 (.mov 27)]))
 (.region [o 18 (.mov 6), o 19 (.bin 0 .add 18 (i 1)), o 6 (.mov 19)])))
def b140_3 : PCode :=
  (.seq (.seq (.region [o 75 (.mov 12), o 76 (.mov 11), o 77 (.len false 76), o 78 (.bin 0 .lss 75 77)])
 (.cond 78 .skip
  (.exit 6)))
 (.seq (.block 7 (.dregion [(o 81 (.mov 5), []), (o 82 (.fld 0 9), []), (o 83 (.load false 1 82), [1]), (o 84 (.mov 12), []), (o 85 (.bin 0 .add 83 84), [1, 2, 3]),
 (o 86 (.mov 5), []), (o 87 (.fld 0 9), []), (o 88 (.load false 1 87), [6]), (o 89 (.mov 12), []), (o 90 (.bin 0 .add 88 89), [6, 7, 8]),
 (o 91 (.idx 1 86 90), [5, 6, 7, 8, 9]), (o 92 (.load false 1 91), [5, 6, 7, 8, 9, 10]), (o 93 (.mov 11), []), (o 94 (.mov 12), []),
 (o 95 (.idx 1 93 94), [12, 13]), (o 96 (.load false 1 95), [12, 13, 14]), (o 97 (.bin 0 .add 92 96), [5, 6, 7, 8, 9, 10, 11, 12, 13, 14, 15]),
 (o 98 (.idx 1 81 85), [0, 1, 2, 3, 4, 5, 6, 7, 8, 9, 10, 11, 12, 13, 14, 15, 16]),
 (u (.store 1 98 97), [0, 1, 2, 3, 4, 5, 6, 7, 8, 9, 10, 11, 12, 13, 14, 15, 16, 17])]))
 (.region [o 79 (.mov 12), o 80 (.bin 0 .add 79 (i 1)), o 12 (.mov 80)])))
def b140_2 : PCode :=
  (.seq (.seq (.region [o 34 (.mov 8), o 35 (.mov 1), o 36 (.len false 35), o 37 (.bin 0 .lss 34 36)])
 (.cond 37 .skip
  (.exit 4)))
 (.seq (.block 5 (.seq (.region [o 40 (.mov 1), o 41 (.mov 8), o 42 (.idx 3 40 41), o 43 (.load true 3 42), o 9 (.alloc zSpan), u (.store 3 9 43)])
 (.seq (.seq (.region [o 44 (.fld 1 9), o 45 (.load false 1 44), o 46 (.mov 7), o 47 (.bin 0 .neq 45 46)])
 (.cond 47 (.exit 5)
  .skip))
 (.seq (.dregion [(o 48 (.fld 2 9), []), (o 49 (.load false 1 48), [0]), (o 50 (.mov 5), []), (o 51 (.fld 0 9), []), (o 52 (.load false 1 51), [3]), (o 53 (.fld 0 9), []),
 (o 54 (.load false 1 53), [5]), (o 55 (.fld 1 9), []), (o 56 (.load false 1 55), [7]), (o 57 (.bin 0 .add 54 56), [5, 6, 7, 8]),
 (o 58 (.slice false 1 50 (some 52) (some 57)), [2, 3, 4, 5, 6, 7, 8, 9]), (o 59 (.call s_total [58]), [2, 3, 4, 5, 6, 7, 8, 9, 10]),
 (o 60 (.bin 0 .sub 49 59), [0, 1, 2, 3, 4, 5, 6, 7, 8, 9, 10, 11]), (o 10 (.mov 60), [0, 1, 2, 3, 4, 5, 6, 7, 8, 9, 10, 11, 12])])
 (.seq (.seq (.region [o 61 (.mov 10), o 62 (.bin 0 .leq 61 (i 0))])
 (.cond 62 (.exit 5)
  .skip))
 (.seq (.region [o 63 (.mov 10), o 64 (.mov 0), o 65 (.fld 0 9), o 66 (.load false 1 65), o 67 (.fld 0 9), o 68 (.load false 1 67), o 69 (.fld 1 9),
 o 70 (.load false 1 69), o 71 (.bin 0 .add 68 70), o 72 (.slice false 2 64 (some 66) (some 71)), o 73 (.call s_weightsOf [72]),
 o 74 (.call s_spread [63, 73]), o 11 (.mov 74)])
 (.seq (.region [o 12 (.mov (i 0))])
 (.block 6 (.loop [0, 1, 5, 7, 8, 9, 11, 12] [9, 13, 27, 1074] [0, 1, 4, 5, 7, 8] [4, 13, 27] b140_3)))))))))
 (.region [o 38 (.mov 8), o 39 (.bin 0 .add 38 (i 1)), o 8 (.mov 39)])))
def b140_1 : PCode :=
  (.seq (.seq (.region [o 28 (.mov 7), o 29 (.mov 0), o 30 (.len false 29), o 31 (.bin 0 .leq 28 30)])
 (.cond 31 .skip
  (.exit 2)))
 (.seq (.block 3 (.seq (.region [o 8 (.mov (i 0))])
 (.block 4 (.loop [0, 1, 5, 7, 8] [13, 27] [0, 1, 4, 5, 7] [4, 13, 27] b140_2))))
 (.region [o 32 (.mov 7), o 33 (.bin 0 .add 32 (i 1)), o 7 (.mov 33)])))
/-- loop.example/widgetroom/spec.wished -/
def pf140 : PFunc := ⟨2, [], false, false, [.tmp 4],
  (.seq (.region [o 4 (.mov nl)])
 (.seq (.region [o 13 (.bslice 0 zInt []), o 5 (.mov 13)])
 (.seq (.seq (.region [o 6 (.mov (i 0))])
 (.block 0 (.loop [0, 1, 5, 6] [13, 27] [0, 1, 4, 5] [4, 13, 27] b140_0)))
 (.seq (.seq (.region [o 7 (.mov (i 1))])
 (.block 2 (.loop [0, 1, 5, 7] [13, 27] [4, 5] [4, 13, 27] b140_1)))
 (.seq (.region [o 99 (.mov 5), o 4 (.mov 99)])
 .ret)))))⟩
def b141_0 : PCode :=
  (.seq (.seq (.region [o 7 (.mov 4), o 8 (.fld 2 1), o 9 (.load false 1 8), o 10 (.len false 9), o 11 (.bin 0 .lss 7 10)])
 (.cond 11 .skip
  (.exit 0)))
 (.seq (.block 1 (.seq (.region [o 14 (.fld 2 1), o 15 (.load false 1 14), o 16 (.mov 4), o 17 (.idx 9 15 16), o 18 (.load true 9 17), o 5 (.alloc zCell), u (.store 9 5 18)])
 (.region [o 19 (.mov 3), o 20 (.fld 0 5), o 21 (.load false 1 20), o 22 (.fld 2 5), o 23 (.load false 1 22), o 24 (.fld 4 5), o 25 (.load false 1 24),
 o 26 (.fld 7 5), o 27 (.load false 1 26), o 28 (.bin 0 .mul (i 2) 27), o 29 (.bin 0 .add 25 28),
 o 30 (.build zSpan [(0, 1, 21), (1, 1, 23), (2, 1, 29)]), o 31 (.bslice 1 zSpan [(0, 30)]), o 32 (.app 3 5864062014805 19 31), o 3 (.mov 32)])))
 (.region [o 12 (.mov 4), o 13 (.bin 0 .add 12 (i 1)), o 4 (.mov 13)])))
/-- loop.example/widgetroom/spec.colSpans -/
def pf141 : PFunc := ⟨1, [], false, false, [.tmp 2],
  (.seq (.region [o 1 (.box 0), o 2 (.mov nl)])
 (.seq (.region [o 6 (.bslice 0 zSpan []), o 3 (.mov 6)])
 (.seq (.seq (.region [o 4 (.mov (i 0))])
 (.block 0 (.loop [1, 3, 4] [1, 6, 32, 1001, 2001, 3001] [2, 3] [2, 6, 32] b141_0)))
 (.seq (.region [o 33 (.mov 3), o 2 (.mov 33)])
 .ret))))⟩
def b142_0 : PCode :=
  (.seq (.seq (.region [o 7 (.mov 4), o 8 (.fld 2 1), o 9 (.load false 1 8), o 10 (.len false 9), o 11 (.bin 0 .lss 7 10)])
 (.cond 11 .skip
  (.exit 0)))
 (.seq (.block 1 (.seq (.region [o 14 (.fld 2 1), o 15 (.load false 1 14), o 16 (.mov 4), o 17 (.idx 9 15 16), o 18 (.load true 9 17), o 5 (.alloc zCell), u (.store 9 5 18)])
 (.region [o 19 (.mov 3), o 20 (.fld 1 5), o 21 (.load false 1 20), o 22 (.fld 3 5), o 23 (.load false 1 22), o 24 (.fld 5 5), o 25 (.load false 1 24),
 o 26 (.fld 8 5), o 27 (.load false 1 26), o 28 (.bin 0 .mul (i 2) 27), o 29 (.bin 0 .add 25 28),
 o 30 (.build zSpan [(0, 1, 21), (1, 1, 23), (2, 1, 29)]), o 31 (.bslice 1 zSpan [(0, 30)]), o 32 (.app 3 5864062014805 19 31), o 3 (.mov 32)])))
 (.region [o 12 (.mov 4), o 13 (.bin 0 .add 12 (i 1)), o 4 (.mov 13)])))
/-- loop.example/widgetroom/spec.rowSpans -/
def pf142 : PFunc := ⟨1, [], false, false, [.tmp 2],
  (.seq (.region [o 1 (.box 0), o 2 (.mov nl)])
 (.seq (.region [o 6 (.bslice 0 zSpan []), o 3 (.mov 6)])
 (.seq (.seq (.region [o 4 (.mov (i 0))])
 (.block 0 (.loop [1, 3, 4] [1, 6, 32, 1001, 2001, 3001] [2, 3] [2, 6, 32] b142_0)))
 (.seq (.region [o 33 (.mov 3), o 2 (.mov 33)])
 .ret))))⟩
/-- loop.example/widgetroom/laws.toLine -/
def pf143 : PFunc := ⟨1, [], false, false, [.cell 2 true 2],
  (.seq (.region [o 1 (.box 0), o 2 (.alloc zLine)])
 (.seq (.region [o 3 (.alloc zLine)])
 (.seq (.region [o 4 (.fld 0 1), o 5 (.load false 1 4), o 6 (.fld 0 3), u (.store 1 6 5)])
 (.seq (.region [o 7 (.fld 1 1), o 8 (.load false 1 7), o 9 (.fld 1 3), u (.store 1 9 8)])
 (.seq (.region [o 10 (.load true 2 3), u (.store 2 2 10)])
 .ret)))))⟩
/-- slices.ContainsFunc[[]loop.example/widgetroom/impl.Line,loop.example/widgetroom/impl.Line] -/
def pf144 : PFunc := ⟨2, [], false, false, [.tmp 4],
  (.seq (.region [o 4 (.mov bF)])
 (.seq (.region [o 5 (.mov 0), o 6 (.mov 1), o 7 (.call x_IndexFunc_Line [5, 6]), o 8 (.bin 0 .geq 7 (i 0)), o 4 (.mov 8)])
 .ret))⟩
/-- loop.example/widgetroom/impl.linesOk$1 -/
def pf145 : PFunc := ⟨1, [], false, false, [.tmp 2],
  (.seq (.region [o 1 (.box 0), o 2 (.mov bF)])
 (.seq (.region [o 3 (.fld 0 1), o 4 (.load false 1 3), o 5 (.call i_within [4, i 0, i 5]), o 6 (.not 5), o 7 (.mov 6), gd 8 7 false (.fld 1 1),
 gd 9 7 false (.load false 1 8), gd 10 7 false (.call i_within [9, i 0, i 30]), gd 11 7 false (.not 10), o 12 (.pick 7 bT 11), o 2 (.mov 12)])
 .ret))⟩
/-- loop.example/widgetroom/laws.eqLine -/
def pf146 : PFunc := ⟨2, [], false, false, [.tmp 4],
  (.seq (.region [o 2 (.box 0), o 3 (.box 1), o 4 (.mov bF)])
 (.seq (.seq (.region [o 5 (.fld 0 2), o 6 (.load false 1 5), o 7 (.fld 0 3), o 8 (.load false 1 7), o 9 (.bin 0 .neq 6 8)])
 (.cond 9 (.seq (.region [o 4 (.mov bF)])
 .ret)
  .skip))
 (.seq (.seq (.region [o 10 (.fld 1 2), o 11 (.load false 1 10), o 12 (.fld 1 3), o 13 (.load false 1 12), o 14 (.bin 0 .neq 11 13)])
 (.cond 14 (.seq (.region [o 4 (.mov bF)])
 .ret)
  .skip))
 (.seq (.region [o 4 (.mov bT)])
 .ret))))⟩
def b147_0 : PCode :=
  (.seq (.region [o 29 (.bin 0 .lss 28 27)])
 (.seq (.cond 29 .skip
  (.exit 0))
 (.seq (.block 1 (.seq (.region [o 30 (.mov 28), o 31 (.idx 1 26 28), o 32 (.load false 1 31), o 7 (.mov 30), o 8 (.mov 32)])
 (.region [o 33 (.mov 5), o 34 (.mov 7), o 35 (.mov 0), o 36 (.mov 8), o 37 (.bin 0 .mul 35 36), o 38 (.mov 6), o 39 (.bin 0 .quo 37 38), o 40 (.idx 1 33 34),
 u (.store 1 40 39)])))
 (.region [o 41 (.bin 0 .add 28 (i 1)), o 28 (.mov 41)]))))
def b147_1 : PCode :=
  (.seq (.region [o 49 (.bin 0 .lss 48 47)])
 (.seq (.cond 49 .skip
  (.exit 2))
 (.seq (.block 3 (.seq (.region [o 50 (.mov 48), o 51 (.idx 1 46 48), o 52 (.load false 1 51), o 10 (.mov 50), o 11 (.mov 52)])
 (.seq (.region [o 53 (.mov 11), o 54 (.bin 0 .neq 53 (i 0)), o 55 (.mov 54), gd 56 55 true (.mov 9), gd 57 55 true (.bin 0 .gtr 56 (i 0)), o 58 (.pick 55 57 bF)])
 (.cond 58 (.seq (.region [o 59 (.mov 5), o 60 (.mov 10), o 61 (.idx 1 59 60), o 62 (.load false 1 61), o 63 (.bin 0 .add 62 (i 1)), o 64 (.idx 1 59 60), u (.store 1 64 63)])
 (.region [o 65 (.mov 9), o 66 (.bin 0 .sub 65 (i 1)), o 9 (.mov 66)]))
  .skip))))
 (.region [o 67 (.bin 0 .add 48 (i 1)), o 48 (.mov 67)]))))
/-- loop.example/widgetroom/impl.spread -/
def pf147 : PFunc := ⟨2, [], false, false, [.tmp 4],
  (.seq (.region [o 4 (.mov nl)])
 (.seq (.region [o 12 (.mov 1), o 13 (.len false 12), o 14 (.mk zInt 17592186044416 13), o 5 (.mov 14)])
 (.seq (.region [o 15 (.mov 1), o 16 (.call i_sum [15]), o 6 (.mov 16)])
 (.seq (.seq (.region [o 17 (.mov 6), o 18 (.bin 0 .eql 17 (i 0))])
 (.cond 18 (.seq (.region [o 19 (.mov 5), o 20 (.mov 5), o 21 (.len false 20), o 22 (.bin 0 .sub 21 (i 1)), o 23 (.mov 0), o 24 (.idx 1 19 22), u (.store 1 24 23)])
 (.seq (.region [o 25 (.mov 5), o 4 (.mov 25)])
 .ret))
  .skip))
 (.seq (.seq (.region [o 26 (.mov 1), o 27 (.len false 26), o 28 (.mov (i 0))])
 (.block 0 (.loop [0, 1, 5, 6, 26, 27, 28] [14] [0, 1, 4, 5] [4, 14] b147_0)))
 (.seq (.region [o 42 (.mov 0), o 43 (.mov 5), o 44 (.call i_sum [43]), o 45 (.bin 0 .sub 42 44), o 9 (.mov 45)])
 (.seq (.seq (.region [o 46 (.mov 1), o 47 (.len false 46), o 48 (.mov (i 0))])
 (.block 2 (.loop [5, 9, 46, 47, 48] [14] [4, 5] [4, 14] b147_1)))
 (.seq (.region [o 68 (.mov 5), o 4 (.mov 68)])
 .ret))))))))⟩
def b148_0 : PCode :=
  (.seq (.region [o 9 (.bin 0 .lss 8 7)])
 (.seq (.cond 9 .skip
  (.exit 0))
 (.seq (.block 1 (.seq (.region [o 10 (.idx 2 6 8), o 11 (.load true 2 10), o 5 (.alloc zLine), u (.store 2 5 11)])
 (.region [o 12 (.mov 3), o 13 (.fld 0 5), o 14 (.load false 1 13), o 15 (.bslice 1 zInt [(0, 14)]), o 16 (.app 1 17592186044416 12 15), o 3 (.mov 16)])))
 (.region [o 17 (.bin 0 .add 8 (i 1)), o 8 (.mov 17)]))))
/-- loop.example/widgetroom/impl.weightsOf -/
def pf148 : PFunc := ⟨1, [], false, false, [.tmp 2],
  (.seq (.region [o 2 (.mov nl)])
 (.seq (.region [o 3 .nilroot])
 (.seq (.seq (.region [o 6 (.mov 0), o 7 (.len false 6), o 8 (.mov (i 0))])
 (.block 0 (.loop [3, 6, 7, 8] [3, 16] [2, 3] [2, 3, 16] b148_0)))
 (.seq (.region [o 18 (.mov 3), o 2 (.mov 18)])
 .ret))))⟩
/-- (loop.example/widgetroom/impl.Pack).need -/
def pf149 : PFunc := ⟨2, [], false, false, [.tmp 4],
  (.seq (.region [o 2 (.box 0), o 4 (.mov (i 0))])
 (.seq (.region [o 8 (.load true 9 2), o 9 (.call i_Pack_needs [8]), o 7 (.mov 9), o 10 (.ext 7 0), o 11 (.ext 7 1), o 5 (.mov 10), o 6 (.mov 11)])
 (.seq (.seq (.region [o 12 (.mov 1)])
 (.cond 12 (.seq (.region [o 13 (.mov 6), o 4 (.mov 13)])
 .ret)
  .skip))
 (.seq (.region [o 14 (.mov 5), o 4 (.mov 14)])
 .ret))))⟩
def b150_0 : PCode :=
  (.seq (.region [o 15 (.bin 0 .lss 14 13)])
 (.seq (.cond 15 .skip
  (.exit 0))
 (.seq (.block 1 (.seq (.region [o 16 (.idx 9 12 14), o 17 (.load true 9 16), o 10 (.alloc zPack), u (.store 9 10 17)])
 (.seq (.seq (.region [o 18 (.load true 9 10), o 19 (.call i_Pack_down [18]), o 20 (.mov 2), o 21 (.bin 1 .eql 19 20)])
 (.cond 21 (.seq (.region [o 22 (.mov 1), o 23 (.load true 9 10), o 24 (.mov 2), o 25 (.call i_Pack_need [23, 24]), o 26 (.bin 0 .sub 22 25), o 1 (.mov 26)])
 (.seq (.seq (.region [o 27 (.fld 5 10), o 28 (.load false 1 27)])
 (.cond 28 (.region [o 29 (.mov 8), o 30 (.bin 0 .add 29 (i 1)), o 8 (.mov 30)])
  .skip))
 (.exit 1)))
  .skip))
 (.region [o 31 (.mov 7), o 32 (.mov 1), o 33 (.load true 9 10), o 34 (.mov 2), o 35 (.call i_Pack_need [33, 34]), o 36 (.bin 0 .sub 32 35), o 37 (.mx [36, i 0]),
 o 38 (.mov 8), o 39 (.bin 0 .quo 37 38), o 40 (.mn [31, 39]), o 7 (.mov 40)]))))
 (.region [o 41 (.bin 0 .add 14 (i 1)), o 14 (.mov 41)]))))
/-- loop.example/widgetroom/impl.expandShare -/
def pf150 : PFunc := ⟨3, [], false, false, [.tmp 6],
  (.seq (.region [o 6 (.mov (i 0))])
 (.seq (.region [o 11 (.mov 1), o 7 (.mov 11), o 8 (.mov (i 0))])
 (.seq (.seq (.region [o 12 (.mov 0), o 13 (.len false 12), o 14 (.mov (i 0))])
 (.block 0 (.loop [1, 2, 7, 8, 12, 13, 14] [] [1, 6, 7, 8] [] b150_0)))
 (.seq (.region [o 42 (.mov 7), o 43 (.mov 1), o 44 (.mx [43, i 0]), o 45 (.mov 8), o 46 (.bin 0 .quo 44 45), o 47 (.mn [42, 46]), o 6 (.mov 47)])
 .ret))))⟩
/-- (loop.example/widgetroom/impl.Rect).cut -/
def pf151 : PFunc := ⟨3, [], false, false, [.cell 6 true 4, .cell 7 true 4],
  (.seq (.region [o 3 (.box 0), o 6 (.alloc zRect), o 7 (.alloc zRect)])
 (.seq (.dregion [(o 10 (.load true 4 3), []), (o 11 (.load true 4 3), []), (o 8 (.alloc zRect), []), (o 9 (.alloc zRect), []), (u (.store 4 8 10), [0, 2, 3]),
 (u (.store 4 9 11), [0, 1, 2, 3, 4])])
 (.seq (.seq (.region [o 12 (.mov 1), o 13 (.bin 0 .eql 12 (i 0)), o 14 (.mov 13), gd 15 14 false (.mov 1), gd 16 14 false (.bin 0 .eql 15 (i 1)), o 17 (.pick 14 bT 16)])
 (.cond 17 (.seq (.region [o 18 (.mov 2), o 19 (.fld 3 3), o 20 (.load false 1 19), o 21 (.mn [18, 20]), o 2 (.mov 21)])
 (.seq (.dregion [(o 22 (.mov 2), []), (o 23 (.fld 3 3), []), (o 24 (.load false 1 23), [1]), (o 25 (.mov 2), []), (o 26 (.bin 0 .sub 24 25), [1, 2, 3]),
 (o 27 (.fld 3 8), [0]), (u (.store 1 27 22), [0, 5]), (o 28 (.fld 3 9), [0, 1, 2, 3, 4, 5, 6]), (u (.store 1 28 26), [0, 1, 2, 3, 4, 5, 6, 7])])
 (.seq (.seq (.region [o 29 (.mov 1), o 30 (.bin 0 .eql 29 (i 0))])
 (.cond 30 (.region [o 31 (.fld 1 9), o 32 (.load false 1 31), o 33 (.mov 2), o 34 (.bin 0 .add 32 33), o 35 (.fld 1 9), u (.store 1 35 34)])
  (.region [o 36 (.fld 1 8), o 37 (.load false 1 36), o 38 (.fld 3 3), o 39 (.load false 1 38), o 40 (.mov 2), o 41 (.bin 0 .sub 39 40), o 42 (.bin 0 .add 37 41),
 o 43 (.fld 1 8), u (.store 1 43 42)])))
 (.seq (.dregion [(o 44 (.load true 4 8), []), (o 45 (.load true 4 9), []), (u (.store 4 6 44), [0]), (u (.store 4 7 45), [0, 1, 2])])
 .ret))))
  .skip))
 (.seq (.region [o 46 (.mov 2), o 47 (.fld 2 3), o 48 (.load false 1 47), o 49 (.mn [46, 48]), o 2 (.mov 49)])
 (.seq (.dregion [(o 50 (.mov 2), []), (o 51 (.fld 2 3), []), (o 52 (.load false 1 51), [1]), (o 53 (.mov 2), []), (o 54 (.bin 0 .sub 52 53), [1, 2, 3]),
 (o 55 (.fld 2 8), [0]), (u (.store 1 55 50), [0, 5]), (o 56 (.fld 2 9), [0, 1, 2, 3, 4, 5, 6]), (u (.store 1 56 54), [0, 1, 2, 3, 4, 5, 6, 7])])
 (.seq (.seq (.region [o 57 (.mov 1), o 58 (.bin 0 .eql 57 (i 2))])
 (.cond 58 (.region [o 59 (.fld 0 9), o 60 (.load false 1 59), o 61 (.mov 2), o 62 (.bin 0 .add 60 61), o 63 (.fld 0 9), u (.store 1 63 62)])
  (.region [o 64 (.fld 0 8), o 65 (.load false 1 64), o 66 (.fld 2 3), o 67 (.load false 1 66), o 68 (.mov 2), o 69 (.bin 0 .sub 67 68), o 70 (.bin 0 .add 65 69),
 o 71 (.fld 0 8), u (.store 1 71 70)])))
 (.seq (.dregion [(o 72 (.load true 4 8), []), (o 73 (.load true 4 9), []), (u (.store 4 6 72), [0]), (u (.store 4 7 73), [0, 1, 2])])
 .ret)))))))⟩
/-- loop.example/widgetroom/spec.validSide -/
def pf152 : PFunc := ⟨1, [], false, false, [.tmp 2],
  (.seq (.region [o 2 (.mov bF)])
 (.seq (.region [o 3 (.mov 0), o 4 (.call s_inRange [3, i 0, i 3]), o 2 (.mov 4)])
 .ret))⟩
/-- loop.example/widgetroom/spec.validAnchor -/
def pf153 : PFunc := ⟨1, [], false, false, [.tmp 2],
  (.seq (.region [o 2 (.mov bF)])
 (.seq (.region [o 3 (.mov 0), o 4 (.call s_inRange [3, i 0, i 8]), o 2 (.mov 4)])
 .ret))⟩
/-- loop.example/widgetroom/spec.validLine -/
def pf154 : PFunc := ⟨1, [], false, false, [.tmp 2],
  (.seq (.region [o 1 (.box 0), o 2 (.mov bF)])
 (.seq (.region [o 3 (.fld 0 1), o 4 (.load false 1 3), o 5 (.call s_inRange [4, i 0, i 5]), o 6 (.mov 5), gd 7 6 true (.fld 1 1), gd 8 6 true (.load false 1 7),
 gd 9 6 true (.call s_inRange [8, i 0, i 30]), o 10 (.pick 6 9 bF), o 2 (.mov 10)])
 .ret))⟩
def b155_0 : PCode :=
  (.seq (.seq (.region [o 15 (.mov 7), o 16 (.mov 0), o 17 (.len false 16), o 18 (.bin 0 .lss 15 17)])
 (.cond 18 .skip
  (.exit 0)))
 (.seq (.block 1 (.seq (.region [o 22 (.mov 0), o 23 (.mov 7), o 24 (.idx 9 22 23), o 25 (.load true 9 24), o 26 (.call s_outer [25]), o 21 (.mov 26), o 27 (.ext 21 0), o 28 (.ext 21 1),
 o 8 (.mov 27), o 9 (.mov 28)])
 (.seq (.region [o 29 (.fld 2 3), o 30 (.load false 1 29), o 10 (.mov 30)])
 (.seq (.region [o 31 (.mov 0), o 32 (.mov 7), o 33 (.idx 9 31 32), o 34 (.fld 2 33), o 35 (.load false 1 34), o 36 (.call s_upright [35]), o 11 (.mov 36)])
 (.seq (.seq (.region [o 37 (.mov 11)])
 (.cond 37 (.seq (.region [o 38 (.mov 9), o 8 (.mov 38)])
 (.region [o 39 (.fld 3 3), o 40 (.load false 1 39), o 10 (.mov 40)]))
  .skip))
 (.seq (.seq (.region [o 41 (.mov 0), o 42 (.mov 7), o 43 (.idx 9 41 42), o 44 (.fld 5 43), o 45 (.load false 1 44)])
 (.cond 45 (.region [o 46 (.mov 8), o 47 (.mov 0), o 48 (.mov 7), o 49 (.slice false 9 47 (some 48) none), o 50 (.mov 10), o 51 (.mov 11), o 52 (.call s_share [49, 50, 51]),
 o 53 (.bin 0 .add 46 52), o 8 (.mov 53)])
  .skip))
 (.seq (.dregion [(o 55 (.load true 4 3), []), (o 56 (.mov 0), []), (o 57 (.mov 7), []), (o 58 (.idx 9 56 57), [1, 2]), (o 59 (.fld 2 58), [1, 2, 3]),
 (o 60 (.load false 1 59), [1, 2, 3, 4]), (o 61 (.mov 8), []), (o 62 (.call s_cut [55, 60, 61]), [0, 1, 2, 3, 4, 5, 6]),
 (o 54 (.mov 62), [0, 1, 2, 3, 4, 5, 6, 7]), (o 63 (.ext 54 0), [0, 1, 2, 3, 4, 5, 6, 7, 8]), (o 64 (.ext 54 1), [0, 1, 2, 3, 4, 5, 6, 7, 8]),
 (o 12 (.alloc zRect), []), (o 13 (.alloc zRect), []), (u (.store 4 12 63), [0, 1, 2, 3, 4, 5, 6, 7, 8, 9, 11, 12]),
 (u (.store 4 13 64), [0, 1, 2, 3, 4, 5, 6, 7, 8, 9, 10, 11, 12, 13])])
 (.seq (.region [o 65 (.mov 6), o 66 (.load true 4 12), o 67 (.bslice 1 zRect [(0, 66)]), o 68 (.app 4 4398046511104 65 67), o 6 (.mov 68)])
 (.region [o 69 (.load true 4 13), u (.store 4 3 69)])))))))))
 (.region [o 19 (.mov 7), o 20 (.bin 0 .add 19 (i 1)), o 7 (.mov 20)])))
/-- loop.example/widgetroom/spec.parcels -/
def pf155 : PFunc := ⟨2, [], false, false, [.tmp 4, .cell 5 true 4],
  (.seq (.region [o 3 (.box 1), o 4 (.mov nl), o 5 (.alloc zRect)])
 (.seq (.region [o 14 (.bslice 0 zRect []), o 6 (.mov 14)])
 (.seq (.seq (.region [o 7 (.mov (i 0))])
 (.block 0 (.loop [0, 3, 5, 6, 7] [3, 5, 14, 68] [3, 4, 5, 6] [3, 4, 5, 14, 68] b155_0)))
 (.seq (.dregion [(o 70 (.mov 6), []), (o 71 (.load true 4 3), []), (o 4 (.mov 70), [0]), (u (.store 4 5 71), [0, 1, 2])])
 .ret))))⟩
/-- loop.example/widgetroom/spec.settled -/
def pf156 : PFunc := ⟨2, [], false, false, [.cell 4 true 4],
  (.seq (.region [o 2 (.box 0), o 3 (.box 1), o 4 (.alloc zRect)])
 (.seq (.region [o 8 (.load true 4 3), o 9 (.fld 7 2), o 10 (.load false 1 9), o 11 (.fld 8 2), o 12 (.load false 1 11), o 13 (.call s_inset [8, 10, 12]),
 o 5 (.alloc zRect), u (.store 4 5 13)])
 (.seq (.region [o 14 (.fld 0 2), o 15 (.load false 1 14), o 6 (.mov 15)])
 (.seq (.region [o 16 (.fld 1 2), o 17 (.load false 1 16), o 7 (.mov 17)])
 (.seq (.seq (.region [o 18 (.fld 3 2), o 19 (.load false 1 18)])
 (.cond 19 (.region [o 20 (.fld 2 5), o 21 (.load false 1 20), o 6 (.mov 21)])
  .skip))
 (.seq (.seq (.region [o 22 (.fld 4 2), o 23 (.load false 1 22)])
 (.cond 23 (.region [o 24 (.fld 3 5), o 25 (.load false 1 24), o 7 (.mov 25)])
  .skip))
 (.seq (.region [o 26 (.load true 4 5), o 27 (.mov 6), o 28 (.mov 7), o 29 (.fld 6 2), o 30 (.load false 1 29), o 31 (.call s_anchored [26, 27, 28, 30]),
 u (.store 4 4 31)])
 .ret)))))))⟩
def b157_0 : PCode :=
  (.seq (.seq (.region [o 34 (.mov 10), o 35 (.mov 8), o 36 (.len false 35), o 37 (.bin 0 .lss 34 36)])
 (.cond 37 .skip
  (.exit 0)))
 (.seq (.block 1 (.dregion [(o 40 (.mov 8), []), (o 41 (.mov 10), []), (o 42 (.mov 8), []), (o 43 (.mov 10), []), (o 44 (.idx 1 42 43), [2, 3]),
 (o 45 (.load false 1 44), [2, 3, 4]), (o 46 (.mov 9), []), (o 47 (.mov 10), []), (o 48 (.idx 1 46 47), [6, 7]), (o 49 (.load false 1 48), [6, 7, 8]),
 (o 50 (.bin 0 .add 45 49), [2, 3, 4, 5, 6, 7, 8, 9]), (o 51 (.idx 1 40 41), [0, 1, 2, 3, 4, 5, 6, 7, 8, 9, 10]),
 (u (.store 1 51 50), [0, 1, 2, 3, 4, 5, 6, 7, 8, 9, 10, 11])]))
 (.region [o 38 (.mov 10), o 39 (.bin 0 .add 38 (i 1)), o 10 (.mov 39)])))
/-- loop.example/widgetroom/spec.sized -/
def pf157 : PFunc := ⟨3, [], false, false, [.tmp 6],
  (.seq (.region [o 6 (.mov nl)])
 (.seq (.region [o 11 (.mov 2), o 12 (.mov 1), o 13 (.call s_total [12]), o 14 (.bin 0 .sub 11 13), o 7 (.mov 14)])
 (.seq (.seq (.region [o 15 (.mov 7), o 16 (.bin 0 .lss 15 (i 0))])
 (.cond 16 (.seq (.region [o 17 (.mov 0), o 18 (.mov 1), o 19 (.mov 7), o 20 (.bin 0 .sub (i 0) 19), o 21 (.call s_shrunk [17, 18, 20]), o 6 (.mov 21)])
 .ret)
  .skip))
 (.seq (.region [o 22 (.bslice 0 zInt []), o 23 (.mov 1), o 24 (.app 1 17592186044416 22 23), o 8 (.mov 24)])
 (.seq (.seq (.region [o 25 (.mov 0), o 26 (.call s_weightsOf [25]), o 27 (.call s_total [26]), o 28 (.bin 0 .eql 27 (i 0))])
 (.cond 28 (.seq (.region [o 29 (.mov 8), o 6 (.mov 29)])
 .ret)
  .skip))
 (.seq (.region [o 30 (.mov 7), o 31 (.mov 0), o 32 (.call s_weightsOf [31]), o 33 (.call s_spread [30, 32]), o 9 (.mov 33)])
 (.seq (.seq (.region [o 10 (.mov (i 0))])
 (.block 0 (.loop [8, 9, 10] [22, 24, 1033] [6, 8] [6, 22, 24, 1021] b157_0)))
 (.seq (.region [o 52 (.mov 8), o 6 (.mov 52)])
 .ret))))))))⟩
/-- loop.example/widgetroom/spec.inset -/
def pf158 : PFunc := ⟨3, [], false, false, [.cell 6 true 4],
  (.seq (.region [o 3 (.box 0), o 6 (.alloc zRect)])
 (.seq (.region [o 7 (.fld 0 3), o 8 (.load false 1 7), o 9 (.mov 1), o 10 (.fld 2 3), o 11 (.load false 1 10), o 12 (.bin 0 .quo 11 (i 2)), o 13 (.mn [9, 12]),
 o 14 (.bin 0 .add 8 13), o 15 (.fld 1 3), o 16 (.load false 1 15), o 17 (.mov 2), o 18 (.fld 3 3), o 19 (.load false 1 18), o 20 (.bin 0 .quo 19 (i 2)),
 o 21 (.mn [17, 20]), o 22 (.bin 0 .add 16 21), o 23 (.fld 2 3), o 24 (.load false 1 23), o 25 (.mov 1), o 26 (.bin 0 .mul (i 2) 25),
 o 27 (.bin 0 .sub 24 26), o 28 (.mx [i 0, 27]), o 29 (.fld 3 3), o 30 (.load false 1 29), o 31 (.mov 2), o 32 (.bin 0 .mul (i 2) 31),
 o 33 (.bin 0 .sub 30 32), o 34 (.mx [i 0, 33]), o 35 (.build zRect [(0, 1, 14), (1, 1, 22), (2, 1, 28), (3, 1, 34)]), u (.store 4 6 35)])
 .ret))⟩
/-- loop.example/widgetroom/spec.stuck -/
def pf159 : PFunc := ⟨5, [], false, false, [.tmp 10, .tmp 11],
  (.seq (.region [o 10 (.mov (i 0)), o 11 (.mov (i 0))])
 (.seq (.region [o 13 (.mov 2), o 14 (.mov 1), o 15 (.mn [13, 14]), o 12 (.mov 15)])
 (.seq (.block 0 (.seq (.region [o 17 (.mov 3), o 18 (.mov 17), gd 19 18 true (.mov 4), o 20 (.pick 18 19 bF), o 16 (.mov 20)])
 (.cond 16 (.seq (.region [o 21 (.mov 0), o 22 (.mov 1), o 10 (.mov 21), o 11 (.mov 22)])
 .ret)
  (.seq (.region [o 24 (.mov 3), o 23 (.mov 24)])
 (.cond 23 (.seq (.region [o 25 (.mov 0), o 26 (.mov 12), o 10 (.mov 25), o 11 (.mov 26)])
 .ret)
  (.seq (.region [o 28 (.mov 4), o 27 (.mov 28)])
 (.cond 27 (.seq (.region [o 29 (.mov 0), o 30 (.mov 1), o 31 (.bin 0 .add 29 30), o 32 (.mov 12), o 33 (.bin 0 .sub 31 32), o 34 (.mov 12), o 10 (.mov 33), o 11 (.mov 34)])
 .ret)
  .skip)))))))
 (.seq (.region [o 35 (.mov 0), o 36 (.mov 1), o 37 (.mov 12), o 38 (.bin 0 .sub 36 37), o 39 (.bin 0 .quo 38 (i 2)), o 40 (.bin 0 .add 35 39), o 41 (.mov 12),
 o 10 (.mov 40), o 11 (.mov 41)])
 .ret))))⟩
/-- loop.example/widgetroom/spec.part -/
def pf160 : PFunc := ⟨2, [], false, false, [.tmp 4],
  (.seq (.region [o 4 (.mov (i 0))])
 (.seq (.region [o 5 (.mov 0), o 6 (.mov 1), o 7 (.bin 0 .mul 5 6), o 8 (.bin 0 .quo 7 (i 1000)), o 4 (.mov 8)])
 .ret))⟩
def b161_0 : PCode :=
  (.seq (.seq (.region [o 28 (.mov 8), o 29 (.mov 5), o 30 (.len false 29), o 31 (.bin 0 .lss 28 30)])
 (.cond 31 .skip
  (.exit 0)))
 (.seq (.block 1 (.seq (.region [o 34 (.mov 5), o 35 (.mov 8), o 36 (.mov 0), o 37 (.mov 1), o 38 (.mov 8), o 39 (.idx 1 37 38), o 40 (.load false 1 39), o 41 (.bin 0 .mul 36 40),
 o 42 (.mov 6), o 43 (.bin 0 .quo 41 42), o 44 (.idx 1 34 35), u (.store 1 44 43)])
 (.region [o 45 (.mov 7), o 46 (.mov 5), o 47 (.mov 8), o 48 (.idx 1 46 47), o 49 (.load false 1 48), o 50 (.bin 0 .sub 45 49), o 7 (.mov 50)])))
 (.region [o 32 (.mov 8), o 33 (.bin 0 .add 32 (i 1)), o 8 (.mov 33)])))
def b161_1 : PCode :=
  (.seq (.seq (.region [o 51 (.mov 7), o 52 (.bin 0 .gtr 51 (i 0))])
 (.cond 52 .skip
  (.exit 2)))
 (.seq (.block 3 (.seq (.region [o 55 (.mov 1), o 56 (.mov 9), o 57 (.idx 1 55 56), o 58 (.load false 1 57), o 59 (.bin 0 .gtr 58 (i 0))])
 (.cond 59 (.seq (.region [o 60 (.mov 5), o 61 (.mov 9), o 62 (.mov 5), o 63 (.mov 9), o 64 (.idx 1 62 63), o 65 (.load false 1 64), o 66 (.bin 0 .add 65 (i 1)),
 o 67 (.idx 1 60 61), u (.store 1 67 66)])
 (.region [o 68 (.mov 7), o 69 (.bin 0 .sub 68 (i 1)), o 7 (.mov 69)]))
  .skip)))
 (.region [o 53 (.mov 9), o 54 (.bin 0 .add 53 (i 1)), o 9 (.mov 54)])))
/-- loop.example/widgetroom/spec.spread -/
def pf161 : PFunc := ⟨2, [], false, false, [.tmp 4],
  (.seq (.region [o 4 (.mov nl)])
 (.seq (.region [o 10 (.mov 1), o 11 (.len false 10), o 12 (.mk zInt 17592186044416 11), o 5 (.mov 12)])
 (.seq (.region [o 13 (.mov 1), o 14 (.call s_total [13]), o 6 (.mov 14)])
 (.seq (.seq (.region [o 15 (.mov 6), o 16 (.bin 0 .eql 15 (i 0))])
 (.cond 16 (.seq (.seq (.region [o 17 (.mov 5), o 18 (.len false 17), o 19 (.bin 0 .gtr 18 (i 0))])
 (.cond 19 (.region [o 20 (.mov 5), o 21 (.mov 5), o 22 (.len false 21), o 23 (.bin 0 .sub 22 (i 1)), o 24 (.mov 0), o 25 (.idx 1 20 23), u (.store 1 25 24)])
  .skip))
 (.seq (.region [o 26 (.mov 5), o 4 (.mov 26)])
 .ret))
  .skip))
 (.seq (.region [o 27 (.mov 0), o 7 (.mov 27)])
 (.seq (.seq (.region [o 8 (.mov (i 0))])
 (.block 0 (.loop [0, 1, 5, 6, 7, 8] [12] [1, 4, 5, 7] [4, 12] b161_0)))
 (.seq (.seq (.region [o 9 (.mov (i 0))])
 (.block 2 (.loop [1, 5, 7, 9] [12] [4, 5] [4, 12] b161_1)))
 (.seq (.region [o 70 (.mov 5), o 4 (.mov 70)])
 .ret))))))))⟩
def b162_0 : PCode :=
  (.seq (.seq (.region [o 6 (.mov 4), o 7 (.mov 0), o 8 (.len false 7), o 9 (.bin 0 .lss 6 8)])
 (.cond 9 .skip
  (.exit 0)))
 (.seq (.block 1 (.region [o 12 (.mov 3), o 13 (.mov 0), o 14 (.mov 4), o 15 (.idx 2 13 14), o 16 (.fld 0 15), o 17 (.load false 1 16), o 18 (.bslice 1 zInt [(0, 17)]),
 o 19 (.app 1 17592186044416 12 18), o 3 (.mov 19)]))
 (.region [o 10 (.mov 4), o 11 (.bin 0 .add 10 (i 1)), o 4 (.mov 11)])))
/-- loop.example/widgetroom/spec.weightsOf -/
def pf162 : PFunc := ⟨1, [], false, false, [.tmp 2],
  (.seq (.region [o 2 (.mov nl)])
 (.seq (.region [o 5 (.bslice 0 zInt []), o 3 (.mov 5)])
 (.seq (.seq (.region [o 4 (.mov (i 0))])
 (.block 0 (.loop [0, 3, 4] [5, 19] [2, 3] [2, 5, 19] b162_0)))
 (.seq (.region [o 20 (.mov 3), o 2 (.mov 20)])
 .ret))))⟩
def b163_0 : PCode :=
  (.seq (.region [o 9 (.bin 0 .lss 8 7)])
 (.seq (.cond 9 .skip
  (.exit 0))
 (.seq (.block 1 (.seq (.region [o 10 (.mov 8), o 5 (.mov 10)])
 (.seq (.region [o 11 (.mov 1), o 12 (.mov 0), o 13 (.mov 5), o 14 (.idx 2 12 13), o 15 (.load true 2 14), o 16 (.callv 11 [15])])
 (.cond 16 (.seq (.region [o 17 (.mov 5), o 4 (.mov 17)])
 .ret)
  .skip))))
 (.region [o 18 (.bin 0 .add 8 (i 1)), o 8 (.mov 18)]))))
/-- slices.IndexFunc[[]loop.example/widgetroom/impl.Line,loop.example/widgetroom/impl.Line] -/
def pf163 : PFunc := ⟨2, [], false, false, [.tmp 4],
  (.seq (.region [o 4 (.mov (i 0))])
 (.seq (.seq (.region [o 6 (.mov 0), o 7 (.len false 6), o 8 (.mov (i 0))])
 (.block 0 (.loop [0, 1, 7, 8] [] [4] [] b163_0)))
 (.seq (.region [o 4 (.mov (i (-1)))])
 .ret)))⟩
def b164_0 : PCode :=
  (.seq (.seq (.region [o 13 (.mov 9), o 14 (.mov 0), o 15 (.len false 14), o 16 (.bin 0 .lss 13 15)])
 (.cond 16 .skip
  (.exit 0)))
 (.seq (.block 1 (.seq (.region [o 20 (.mov 0), o 21 (.mov 9), o 22 (.idx 9 20 21), o 23 (.load true 9 22), o 24 (.call s_outer [23]), o 19 (.mov 24), o 25 (.ext 19 0), o 26 (.ext 19 1),
 o 10 (.mov 25), o 11 (.mov 26)])
 (.seq (.seq (.region [o 27 (.mov 2)])
 (.cond 27 (.region [o 28 (.mov 11), o 10 (.mov 28)])
  .skip))
 (.block 2 (.seq (.region [o 30 (.mov 0), o 31 (.mov 9), o 32 (.idx 9 30 31), o 33 (.fld 2 32), o 34 (.load false 1 33), o 35 (.call s_upright [34]), o 36 (.mov 2),
 o 37 (.bin 1 .eql 35 36), o 29 (.mov 37)])
 (.cond 29 (.seq (.region [o 38 (.mov 1), o 39 (.mov 10), o 40 (.bin 0 .sub 38 39), o 1 (.mov 40)])
 (.seq (.region [o 41 (.mov 0), o 42 (.mov 9), o 43 (.idx 9 41 42), o 44 (.fld 5 43), o 45 (.load false 1 44)])
 (.cond 45 (.region [o 46 (.mov 8), o 47 (.bin 0 .add 46 (i 1)), o 8 (.mov 47)])
  .skip)))
  (.seq (.region [o 49 (.mov 8), o 50 (.bin 0 .gtr 49 (i 0)), o 48 (.mov 50)])
 (.cond 48 (.region [o 51 (.mov 7), o 52 (.mov 1), o 53 (.mov 10), o 54 (.bin 0 .sub 52 53), o 55 (.mov 8), o 56 (.call s_half [54, 55]), o 57 (.mn [51, 56]), o 7 (.mov 57)])
  .skip))))))))
 (.region [o 17 (.mov 9), o 18 (.bin 0 .add 17 (i 1)), o 9 (.mov 18)])))
/-- loop.example/widgetroom/spec.share -/
def pf164 : PFunc := ⟨3, [], false, false, [.tmp 6],
  (.seq (.region [o 6 (.mov (i 0))])
 (.seq (.region [o 12 (.mov 1), o 7 (.mov 12)])
 (.seq (.region [o 8 (.mov (i 0))])
 (.seq (.seq (.region [o 9 (.mov (i 0))])
 (.block 0 (.loop [0, 1, 2, 7, 8, 9] [] [1, 6, 7, 8] [] b164_0)))
 (.seq (.seq (.region [o 58 (.mov 8), o 59 (.bin 0 .gtr 58 (i 0))])
 (.cond 59 (.region [o 60 (.mov 7), o 61 (.mov 1), o 62 (.mov 8), o 63 (.call s_half [61, 62]), o 64 (.mn [60, 63]), o 7 (.mov 64)])
  .skip))
 (.seq (.region [o 65 (.mov 7), o 66 (.mx [65, i 0]), o 6 (.mov 66)])
 .ret))))))⟩
/-- loop.example/widgetroom/spec.cut -/
def pf165 : PFunc := ⟨3, [], false, false, [.cell 6 true 4, .cell 7 true 4],
  (.seq (.region [o 3 (.box 0), o 6 (.alloc zRect), o 7 (.alloc zRect)])
 (.seq (.region [o 10 (.load true 4 3), o 8 (.alloc zRect), u (.store 4 8 10)])
 (.seq (.region [o 11 (.load true 4 3), o 9 (.alloc zRect), u (.store 4 9 11)])
 (.seq (.seq (.region [o 12 (.mov 1)])
 (.block 0 (.seq (.region [o 31 (.bin 0 .eql 12 (i 0)), o 30 (.mov 31)])
 (.cond 30 (.seq (.region [o 32 (.mov 2), o 33 (.fld 3 3), o 34 (.load false 1 33), o 35 (.mn [32, 34]), o 36 (.fld 3 8), u (.store 1 36 35)])
 (.seq (.region [o 37 (.fld 1 3), o 38 (.load false 1 37), o 39 (.fld 3 8), o 40 (.load false 1 39), o 41 (.bin 0 .add 38 40), o 42 (.fld 1 9), u (.store 1 42 41)])
 (.region [o 43 (.fld 3 3), o 44 (.load false 1 43), o 45 (.fld 3 8), o 46 (.load false 1 45), o 47 (.bin 0 .sub 44 46), o 48 (.fld 3 9), u (.store 1 48 47)])))
  (.seq (.region [o 50 (.bin 0 .eql 12 (i 1)), o 49 (.mov 50)])
 (.cond 49 (.seq (.region [o 51 (.mov 2), o 52 (.fld 3 3), o 53 (.load false 1 52), o 54 (.mn [51, 53]), o 55 (.fld 3 8), u (.store 1 55 54)])
 (.seq (.region [o 56 (.fld 3 3), o 57 (.load false 1 56), o 58 (.fld 3 8), o 59 (.load false 1 58), o 60 (.bin 0 .sub 57 59), o 61 (.fld 3 9), u (.store 1 61 60)])
 (.region [o 62 (.fld 1 3), o 63 (.load false 1 62), o 64 (.fld 3 9), o 65 (.load false 1 64), o 66 (.bin 0 .add 63 65), o 67 (.fld 1 8), u (.store 1 67 66)])))
  (.seq (.region [o 69 (.bin 0 .eql 12 (i 2)), o 68 (.mov 69)])
 (.cond 68 (.seq (.region [o 70 (.mov 2), o 71 (.fld 2 3), o 72 (.load false 1 71), o 73 (.mn [70, 72]), o 74 (.fld 2 8), u (.store 1 74 73)])
 (.seq (.region [o 75 (.fld 0 3), o 76 (.load false 1 75), o 77 (.fld 2 8), o 78 (.load false 1 77), o 79 (.bin 0 .add 76 78), o 80 (.fld 0 9), u (.store 1 80 79)])
 (.region [o 81 (.fld 2 3), o 82 (.load false 1 81), o 83 (.fld 2 8), o 84 (.load false 1 83), o 85 (.bin 0 .sub 82 84), o 86 (.fld 2 9), u (.store 1 86 85)])))
  (.seq (.region [o 13 (.mov 2), o 14 (.fld 2 3), o 15 (.load false 1 14), o 16 (.mn [13, 15]), o 17 (.fld 2 8), u (.store 1 17 16)])
 (.seq (.region [o 18 (.fld 2 3), o 19 (.load false 1 18), o 20 (.fld 2 8), o 21 (.load false 1 20), o 22 (.bin 0 .sub 19 21), o 23 (.fld 2 9), u (.store 1 23 22)])
 (.region [o 24 (.fld 0 3), o 25 (.load false 1 24), o 26 (.fld 2 9), o 27 (.load false 1 26), o 28 (.bin 0 .add 25 27), o 29 (.fld 0 8), u (.store 1 29 28)])))))))))))
 (.seq (.dregion [(o 87 (.load true 4 8), []), (o 88 (.load true 4 9), []), (u (.store 4 6 87), [0]), (u (.store 4 7 88), [0, 1, 2])])
 .ret)))))⟩
/-- loop.example/widgetroom/spec.anchored -/
def pf166 : PFunc := ⟨4, [], false, false, [.cell 8 true 4],
  (.seq (.region [o 4 (.box 0), o 8 (.alloc zRect)])
 (.seq (.region [o 9 (.mov 1), o 10 (.fld 2 4), o 11 (.load false 1 10), o 12 (.mn [9, 11]), o 1 (.mov 12)])
 (.seq (.region [o 13 (.mov 2), o 14 (.fld 3 4), o 15 (.load false 1 14), o 16 (.mn [13, 15]), o 2 (.mov 16)])
 (.seq (.region [o 17 (.fld 0 4), o 18 (.load false 1 17), o 19 (.fld 2 4), o 20 (.load false 1 19), o 21 (.mov 1), o 22 (.bin 0 .sub 20 21), o 23 (.mov 3),
 o 24 (.bin 0 .rem 23 (i 3)), o 25 (.bin 0 .mul 22 24), o 26 (.bin 0 .quo 25 (i 2)), o 27 (.bin 0 .add 18 26), o 28 (.fld 1 4), o 29 (.load false 1 28),
 o 30 (.fld 3 4), o 31 (.load false 1 30), o 32 (.mov 2), o 33 (.bin 0 .sub 31 32), o 34 (.mov 3), o 35 (.bin 0 .quo 34 (i 3)), o 36 (.bin 0 .mul 33 35),
 o 37 (.bin 0 .quo 36 (i 2)), o 38 (.bin 0 .add 29 37), o 39 (.mov 1), o 40 (.mov 2),
 o 41 (.build zRect [(0, 1, 27), (1, 1, 38), (2, 1, 39), (3, 1, 40)]), u (.store 4 8 41)])
 .ret))))⟩
def b167_1 : PCode :=
  (.seq (.seq (.region [o 21 (.mov 9), o 22 (.mov 0), o 23 (.len false 22), o 24 (.bin 0 .lss 21 23)])
 (.cond 24 .skip
  (.exit 2)))
 (.seq (.block 3 (.seq (.dregion [(o 27 (.mov 7), []), (o 28 (.mov 9), []), (o 29 (.idx 1 27 28), [0, 1]), (o 30 (.load false 1 29), [0, 1, 2]), (o 31 (.mov 0), []), (o 32 (.mov 9), []),
 (o 33 (.idx 2 31 32), [4, 5]), (o 34 (.fld 1 33), [4, 5, 6]), (o 35 (.load false 1 34), [4, 5, 6, 7]),
 (o 36 (.bin 0 .gtr 30 35), [0, 1, 2, 3, 4, 5, 6, 7, 8])])
 (.cond 36 (.region [o 37 (.mov 8), o 38 (.mov 9), o 39 (.mov 0), o 40 (.mov 9), o 41 (.idx 2 39 40), o 42 (.fld 0 41), o 43 (.load false 1 42), o 44 (.idx 1 37 38),
 u (.store 1 44 43)])
  .skip)))
 (.region [o 25 (.mov 9), o 26 (.bin 0 .add 25 (i 1)), o 9 (.mov 26)])))
def b167_2 : PCode :=
  (.seq (.seq (.region [o 52 (.mov 11), o 53 (.mov 10), o 54 (.len false 53), o 55 (.bin 0 .lss 52 54)])
 (.cond 55 .skip
  (.exit 4)))
 (.seq (.block 5 (.seq (.dregion [(o 58 (.mov 10), []), (o 59 (.mov 11), []), (o 60 (.idx 1 58 59), [0, 1]), (o 61 (.load false 1 60), [0, 1, 2]), (o 62 (.mov 7), []),
 (o 63 (.mov 11), []), (o 64 (.idx 1 62 63), [4, 5]), (o 65 (.load false 1 64), [4, 5, 6]), (o 66 (.mov 0), []), (o 67 (.mov 11), []),
 (o 68 (.idx 2 66 67), [8, 9]), (o 69 (.fld 1 68), [8, 9, 10]), (o 70 (.load false 1 69), [8, 9, 10, 11]),
 (o 71 (.bin 0 .sub 65 70), [4, 5, 6, 7, 8, 9, 10, 11, 12]), (o 72 (.mn [61, 71]), [0, 1, 2, 3, 4, 5, 6, 7, 8, 9, 10, 11, 12, 13]),
 (o 12 (.mov 72), [0, 1, 2, 3, 4, 5, 6, 7, 8, 9, 10, 11, 12, 13, 14])])
 (.seq (.region [o 73 (.mov 7), o 74 (.mov 11), o 75 (.mov 7), o 76 (.mov 11), o 77 (.idx 1 75 76), o 78 (.load false 1 77), o 79 (.mov 12), o 80 (.bin 0 .sub 78 79),
 o 81 (.idx 1 73 74), u (.store 1 81 80)])
 (.region [o 82 (.mov 2), o 83 (.mov 12), o 84 (.bin 0 .sub 82 83), o 2 (.mov 84)]))))
 (.region [o 56 (.mov 11), o 57 (.bin 0 .add 56 (i 1)), o 11 (.mov 57)])))
def b167_0 : PCode :=
  (.seq (.seq (.region [o 16 (.mov 2), o 17 (.bin 0 .gtr 16 (i 0))])
 (.cond 17 .skip
  (.exit 0)))
 (.block 1 (.seq (.region [o 18 (.mov 0), o 19 (.len false 18), o 20 (.mk zInt 17592186044416 19), o 8 (.mov 20)])
 (.seq (.seq (.region [o 9 (.mov (i 0))])
 (.block 2 (.loop [0, 2, 7, 8, 9] [13, 15, 20] [0, 2, 6, 7, 8] [6, 13, 15, 20] b167_1)))
 (.seq (.seq (.region [o 45 (.mov 8), o 46 (.call s_total [45]), o 47 (.bin 0 .eql 46 (i 0))])
 (.cond 47 (.seq (.region [o 48 (.mov 7), o 6 (.mov 48)])
 .ret)
  .skip))
 (.seq (.region [o 49 (.mov 2), o 50 (.mov 8), o 51 (.call s_spread [49, 50]), o 10 (.mov 51)])
 (.seq (.region [o 11 (.mov (i 0))])
 (.block 4 (.loop [0, 2, 7, 10, 11] [13, 15, 1051] [0, 2, 6, 7] [6, 13, 15] b167_2)))))))))
/-- loop.example/widgetroom/spec.shrunk -/
def pf167 : PFunc := ⟨3, [], false, false, [.tmp 6],
  (.seq (.region [o 6 (.mov nl)])
 (.seq (.region [o 13 (.bslice 0 zInt []), o 14 (.mov 1), o 15 (.app 1 17592186044416 13 14), o 7 (.mov 15)])
 (.seq (.block 0 (.loop [0, 2, 7] [13, 15] [6, 7] [6, 13, 15] b167_0))
 (.seq (.region [o 85 (.mov 7), o 6 (.mov 85)])
 .ret))))⟩
/-- loop.example/widgetroom/spec.half -/
def pf168 : PFunc := ⟨2, [], false, false, [.tmp 4],
  (.seq (.region [o 4 (.mov (i 0))])
 (.seq (.seq (.region [o 5 (.mov 0), o 6 (.bin 0 .lss 5 (i 0))])
 (.cond 6 (.seq (.region [o 4 (.mov (i 0))])
 .ret)
  .skip))
 (.seq (.region [o 7 (.mov 0), o 8 (.mov 1), o 9 (.bin 0 .quo 7 8), o 4 (.mov 9)])
 .ret)))⟩
def funcs : Nat → Option PFunc
  | 3 => some pf3
  | 4 => some pf4
  | 5 => some pf5
  | 6 => some pf6
  | 7 => some pf7
  | 8 => some pf8
  | 9 => some pf9
  | 10 => some pf10
  | 11 => some pf11
  | 12 => some pf12
  | 13 => some pf13
  | 14 => some pf14
  | 15 => some pf15
  | 16 => some pf16
  | 17 => some pf17
  | 18 => some pf18
  | 19 => some pf19
  | 20 => some pf20
  | 21 => some pf21
  | 22 => some pf22
  | 23 => some pf23
  | 24 => some pf24
  | 25 => some pf25
  | 26 => some pf26
  | 27 => some pf27
  | 28 => some pf28
  | 29 => some pf29
  | 30 => some pf30
  | 31 => some pf31
  | 32 => some pf32
  | 33 => some pf33
  | 34 => some pf34
  | 35 => some pf35
  | 36 => some pf36
  | 37 => some pf37
  | 38 => some pf38
  | 39 => some pf39
  | 40 => some pf40
  | 41 => some pf41
  | 42 => some pf42
  | 43 => some pf43
  | 44 => some pf44
  | 45 => some pf45
  | 46 => some pf46
  | 47 => some pf47
  | 48 => some pf48
  | 49 => some pf49
  | 50 => some pf50
  | 51 => some pf51
  | 52 => some pf52
  | 53 => some pf53
  | 54 => some pf54
  | 55 => some pf55
  | 56 => some pf56
  | 57 => some pf57
  | 58 => some pf58
  | 59 => some pf59
  | 60 => some pf60
  | 61 => some pf61
  | 62 => some pf62
  | 63 => some pf63
  | 64 => some pf64
  | 65 => some pf65
  | 66 => some pf66
  | 67 => some pf67
  | 68 => some pf68
  | 69 => some pf69
  | 70 => some pf70
  | 71 => some pf71
  | 72 => some pf72
  | 73 => some pf73
  | 74 => some pf74
  | 75 => some pf75
  | 76 => some pf76
  | 77 => some pf77
  | 78 => some pf78
  | 79 => some pf79
  | 80 => some pf80
  | 81 => some pf81
  | 82 => some pf82
  | 83 => some pf83
  | 84 => some pf84
  | 85 => some pf85
  | 86 => some pf86
  | 87 => some pf87
  | 88 => some pf88
  | 89 => some pf89
  | 90 => some pf90
  | 91 => some pf91
  | 92 => some pf92
  | 93 => some pf93
  | 94 => some pf94
  | 95 => some pf95
  | 96 => some pf96
  | 97 => some pf97
  | 98 => some pf98
  | 99 => some pf99
  | 100 => some pf100
  | 101 => some pf101
  | 102 => some pf102
  | 103 => some pf103
  | 104 => some pf104
  | 105 => some pf105
  | 106 => some pf106
  | 107 => some pf107
  | 108 => some pf108
  | 109 => some pf109
  | 110 => some pf110
  | 111 => some pf111
  | 112 => some pf112
  | 113 => some pf113
  | 114 => some pf114
  | 115 => some pf115
  | 116 => some pf116
  | 117 => some pf117
  | 118 => some pf118
  | 119 => some pf119
  | 120 => some pf120
  | 121 => some pf121
  | 122 => some pf122
  | 123 => some pf123
  | 124 => some pf124
  | 125 => some pf125
  | 126 => some pf126
  | 127 => some pf127
  | 128 => some pf128
  | 129 => some pf129
  | 130 => some pf130
  | 131 => some pf131
  | 132 => some pf132
  | 133 => some pf133
  | 134 => some pf134
  | 135 => some pf135
  | 136 => some pf136
  | 137 => some pf137
  | 138 => some pf138
  | 139 => some pf139
  | 140 => some pf140
  | 141 => some pf141
  | 142 => some pf142
  | 143 => some pf143
  | 144 => some pf144
  | 145 => some pf145
  | 146 => some pf146
  | 147 => some pf147
  | 148 => some pf148
  | 149 => some pf149
  | 150 => some pf150
  | 151 => some pf151
  | 152 => some pf152
  | 153 => some pf153
  | 154 => some pf154
  | 155 => some pf155
  | 156 => some pf156
  | 157 => some pf157
  | 158 => some pf158
  | 159 => some pf159
  | 160 => some pf160
  | 161 => some pf161
  | 162 => some pf162
  | 163 => some pf163
  | 164 => some pf164
  | 165 => some pf165
  | 166 => some pf166
  | 167 => some pf167
  | 168 => some pf168
  | _ => none
def own : Nat → List Bool
  | 16 => [true, false]
  | 21 => [true, false]
  | 54 => [true, false]
  | 58 => [true]
  | 65 => [true]
  | 67 => [true]
  | 73 => [true, false]
  | 74 => [true, false]
  | 85 => [true, false]
  | 95 => [false, false, false, true]
  | 96 => [true]
  | 133 => [true]
  | 134 => [true]
  | 135 => [true]
  | 136 => [true, false, false]
  | _ => []
abbrev cf : Cfg := ⟨own, false⟩
abbrev cz : Cfg := ⟨own, true⟩
end Go.Proofs.Ytdgamfanffnhaaa.PI
