/-
The functions of the program in the form that the machine of these texts runs: printed by a program.
-/
import Derived.Test.YtfnioapgelabfaaGreatDoorRxMach
set_option linter.unusedVariables false
set_option linter.unusedSimpArgs false
namespace Go.Rx
set_option maxRecDepth 20000
def O (d : Nat) (op : ROp) : RO := ⟨some d, op, none, 0, 0⟩
def G (d : Nat) (op : ROp) (t : Nat) (b : Bool) : RO := ⟨some d, op, some (t, b), 0, 0⟩
def rialtolaw29_alive : PF := { ntmps := 182, raw := false, split := false, res := [.tmp 0], body := (
  .seq (.region false [O 0 (.mv (.c (.bool false)))])
 (.seq (.region false [O 24 (.call 20 []),
 O 1 (.pend 9),
 O 1 (.init true 9 1 (.t 24))])
 (.seq (.region false [O 26 (.load true 9 (.t 1)),
 O 27 (.call 21 [.t 26]),
 O 25 (.mv (.t 27)),
 O 28 (.ext (.t 25) 0),
 O 29 (.ext (.t 25) 1),
 O 2 (.pend 6),
 O 2 (.init true 6 2 (.t 28)),
 O 3 (.mv (.t 29))])
 (.seq (.region false [O 30 (.build [.int .i64 0, .int .i64 0, .int .i64 0] [(0, 1, (.c (.int .i64 1))), (1, 1, (.c (.int .i64 1)))]),
 O 4 (.pend 3),
 O 4 (.init true 3 4 (.t 30))])
 (.seq (.region false [O 32 (.load true 9 (.t 1)),
 O 33 (.load true 6 (.t 2)),
 O 34 (.load true 3 (.t 4)),
 O 35 (.call 15 [.t 32, .t 33, .t 34, (.c (.str ⟨#[108, 97, 109, 112]⟩))]),
 O 31 (.mv (.t 35)),
 O 36 (.ext (.t 31) 0),
 O 37 (.ext (.t 31) 1),
 O 38 (.ext (.t 31) 2),
 O 5 (.pend 6),
 O 5 (.init true 6 5 (.t 36)),
 O 6 (.mv (.t 37)),
 O 7 (.mv (.t 38))])
 (.seq (.region false [O 40 (.load true 9 (.t 1)),
 O 41 (.load true 6 (.t 5)),
 O 42 (.load true 3 (.t 4)),
 O 43 (.call 11 [.t 40, .t 41, .t 42]),
 O 39 (.mv (.t 43)),
 O 44 (.ext (.t 39) 0),
 O 45 (.ext (.t 39) 1),
 O 8 (.mv (.t 44)),
 O 9 (.mv (.t 45))])
 (.seq (.region false [O 47 (.load true 9 (.t 1)),
 O 48 (.load true 6 (.t 5)),
 O 49 (.load true 3 (.t 4)),
 O 50 (.call 17 [.t 47, .t 48, .t 49, (.c (.int .i64 0))]),
 O 46 (.mv (.t 50)),
 O 51 (.ext (.t 46) 0),
 O 52 (.ext (.t 46) 1),
 O 10 (.pend 6),
 O 10 (.init true 6 10 (.t 51)),
 O 11 (.mv (.t 52))])
 (.seq (.region false [O 54 (.load true 9 (.t 1)),
 O 55 (.load true 6 (.t 10)),
 O 56 (.load true 3 (.t 4)),
 O 57 (.call 12 [.t 54, .t 55, .t 56]),
 O 53 (.mv (.t 57)),
 O 58 (.ext (.t 53) 0),
 O 59 (.ext (.t 53) 1),
 O 12 (.mv (.t 58)),
 O 13 (.mv (.t 59))])
 (.seq (.region false [O 61 (.load true 9 (.t 1)),
 O 62 (.load true 6 (.t 10)),
 O 63 (.build [.int .i64 0, .int .i64 0, .int .i64 0] []),
 O 64 (.call 18 [.t 61, .t 62, .t 63, (.c (.int .i64 0))]),
 O 60 (.mv (.t 64)),
 O 65 (.ext (.t 60) 0),
 O 66 (.ext (.t 60) 1),
 O 14 (.pend 6),
 O 14 (.init true 6 14 (.t 65)),
 O 15 (.mv (.t 66))])
 (.seq (.region false [O 68 (.load true 9 (.t 1)),
 O 69 (.load true 6 (.t 5)),
 O 70 (.load true 3 (.t 4)),
 O 71 (.call 19 [.t 68, .t 69, .t 70, (.c (.int .i64 0)), (.c (.int .i64 1))]),
 O 67 (.mv (.t 71)),
 O 72 (.ext (.t 67) 0),
 O 73 (.ext (.t 67) 1),
 O 16 (.pend 6),
 O 16 (.init true 6 16 (.t 72)),
 O 17 (.mv (.t 73))])
 (.seq (.region false [O 75 (.load true 9 (.t 1)),
 O 76 (.load true 6 (.t 5)),
 O 77 (.load true 3 (.t 4)),
 O 78 (.call 19 [.t 75, .t 76, .t 77, (.c (.int .i64 0)), (.c (.int .i64 0))]),
 O 74 (.mv (.t 78)),
 O 79 (.ext (.t 74) 0),
 O 80 (.ext (.t 74) 1),
 O 18 (.pend 6),
 O 18 (.init true 6 18 (.t 79)),
 O 19 (.mv (.t 80))])
 (.seq (.region false [O 82 (.load true 9 (.t 1)),
 O 83 (.load true 6 (.t 16)),
 O 84 (.load true 3 (.t 4)),
 O 85 (.call 16 [.t 82, .t 83, .t 84, (.c (.int .i64 0))]),
 O 81 (.mv (.t 85)),
 O 86 (.ext (.t 81) 0),
 O 87 (.ext (.t 81) 1),
 O 20 (.pend 6),
 O 20 (.init true 6 20 (.t 86)),
 O 21 (.mv (.t 87))])
 (.seq (.region false [O 89 (.load true 9 (.t 1)),
 O 90 (.load true 6 (.t 10)),
 O 91 (.load true 3 (.t 4)),
 O 92 (.call 18 [.t 89, .t 90, .t 91, (.c (.int .i64 0))]),
 O 88 (.mv (.t 92)),
 O 93 (.ext (.t 88) 0),
 O 94 (.ext (.t 88) 1),
 O 22 (.pend 6),
 O 22 (.init true 6 22 (.t 93)),
 O 23 (.mv (.t 94))])
 (.seq (.region false [O 95 (.mv (.t 3)),
 O 96 (.bin .eql (.t 95) (.c (.int .i64 0))),
 O 97 (.mv (.t 96)),
 G 98 (.mv (.t 7)) 97 true,
 G 99 (.bin .eql (.t 98) (.c (.int .i64 0))) 97 true,
 O 100 (.pick (.t 97) (.t 99) (.c (.bool false))),
 O 101 (.mv (.t 100)),
 G 102 (.mv (.t 6)) 101 true,
 G 103 (.bin .eql (.t 102) (.c (.int .i64 0))) 101 true,
 O 104 (.pick (.t 101) (.t 103) (.c (.bool false))),
 O 105 (.mv (.t 104)),
 G 106 (.mv (.t 9)) 105 true,
 G 107 (.bin .eql (.t 106) (.c (.int .i64 0))) 105 true,
 O 108 (.pick (.t 105) (.t 107) (.c (.bool false))),
 O 109 (.mv (.t 108)),
 G 110 (.mv (.t 8)) 109 true,
 G 111 (.len (.t 110)) 109 true,
 G 112 (.bin .eql (.t 111) (.c (.int .i64 1))) 109 true,
 O 113 (.pick (.t 109) (.t 112) (.c (.bool false))),
 O 114 (.mv (.t 113)),
 G 115 (.mv (.t 11)) 114 true,
 G 116 (.bin .eql (.t 115) (.c (.int .i64 0))) 114 true,
 O 117 (.pick (.t 114) (.t 116) (.c (.bool false))),
 O 118 (.mv (.t 117)),
 G 119 (.mv (.t 13)) 118 true,
 G 120 (.bin .eql (.t 119) (.c (.int .i64 0))) 118 true,
 O 121 (.pick (.t 118) (.t 120) (.c (.bool false))),
 O 122 (.mv (.t 121)),
 G 123 (.mv (.t 12)) 122 true,
 G 124 (.len (.t 123)) 122 true,
 G 125 (.bin .eql (.t 124) (.c (.int .i64 1))) 122 true,
 O 126 (.pick (.t 122) (.t 125) (.c (.bool false))),
 O 127 (.mv (.t 126)),
 G 128 (.mv (.t 12)) 127 true,
 G 129 (.ixsl 2 (.t 128) (.c (.int .i64 0))) 127 true,
 G 130 (.load true 2 (.t 129)) 127 true,
 G 131 (.build [.int .i64 0, .int .i64 0] [(0, 1, (.c (.int .i64 1)))]) 127 true,
 G 132 (.eqs [.i, .i] false (.t 130) (.t 131)) 127 true,
 O 133 (.pick (.t 127) (.t 132) (.c (.bool false))),
 O 134 (.mv (.t 133)),
 G 135 (.mv (.t 15)) 134 true,
 G 136 (.bin .eql (.t 135) (.c (.int .i64 3))) 134 true,
 O 137 (.pick (.t 134) (.t 136) (.c (.bool false))),
 O 138 (.mv (.t 137)),
 G 139 (.mv (.t 17)) 138 true,
 G 140 (.bin .eql (.t 139) (.c (.int .i64 0))) 138 true,
 O 141 (.pick (.t 138) (.t 140) (.c (.bool false))),
 O 142 (.mv (.t 141)),
 G 143 (.mv (.t 19)) 142 true,
 G 144 (.bin .eql (.t 143) (.c (.int .i64 1))) 142 true,
 O 145 (.pick (.t 142) (.t 144) (.c (.bool false))),
 O 146 (.mv (.t 145)),
 G 147 (.mv (.t 21)) 146 true,
 G 148 (.bin .eql (.t 147) (.c (.int .i64 3))) 146 true,
 O 149 (.pick (.t 146) (.t 148) (.c (.bool false))),
 O 150 (.mv (.t 149)),
 G 151 (.mv (.t 23)) 150 true,
 G 152 (.bin .eql (.t 151) (.c (.int .i64 0))) 150 true,
 O 153 (.pick (.t 150) (.t 152) (.c (.bool false))),
 O 154 (.mv (.t 153)),
 G 155 (.faddr 1 (.t 16)) 154 true,
 G 156 (.load false 1 (.t 155)) 154 true,
 G 157 (.len (.t 156)) 154 true,
 G 158 (.bin .eql (.t 157) (.c (.int .i64 3))) 154 true,
 O 159 (.pick (.t 154) (.t 158) (.c (.bool false))),
 O 160 (.mv (.t 159)),
 G 161 (.faddr 1 (.t 16)) 160 true,
 G 162 (.load false 1 (.t 161)) 160 true,
 G 163 (.ixsl 15 (.t 162) (.c (.int .i64 1))) 160 true,
 G 164 (.faddr 2 (.t 163)) 160 true,
 G 165 (.load false 1 (.t 164)) 160 true,
 G 166 (.ixsl 6 (.t 165) (.c (.int .i64 0))) 160 true,
 G 167 (.faddr 3 (.t 166)) 160 true,
 G 168 (.load false 1 (.t 167)) 160 true,
 G 169 (.bin .eql (.t 168) (.c (.int .i64 1))) 160 true,
 O 170 (.pick (.t 160) (.t 169) (.c (.bool false))),
 O 171 (.mv (.t 170)),
 G 172 (.faddr 1 (.t 2)) 171 true,
 G 173 (.load false 1 (.t 172)) 171 true,
 G 174 (.ixsl 15 (.t 173) (.c (.int .i64 1))) 171 true,
 G 175 (.faddr 2 (.t 174)) 171 true,
 G 176 (.load false 1 (.t 175)) 171 true,
 G 177 (.ixsl 6 (.t 176) (.c (.int .i64 0))) 171 true,
 G 178 (.faddr 0 (.t 177)) 171 true,
 G 179 (.load false 1 (.t 178)) 171 true,
 G 180 (.un .not (.t 179)) 171 true,
 O 181 (.pick (.t 171) (.t 180) (.c (.bool false))),
 O 0 (.mv (.t 181))])
 (.ret))))))))))))))) }
def rialtolaw29_GoodsRests : PF := { ntmps := 84, raw := false, split := false, res := [.tmp 10], body := (
  .seq (.region false [O 5 (.box true (.t 0)),
 O 6 (.box true (.t 1)),
 O 7 (.box true (.t 2)),
 O 8 (.box true (.t 3)),
 O 9 (.box true (.t 4)),
 O 10 (.mv (.c (.bool false)))])
 (.seq (.region false [O 16 (.load true 9 (.t 5)),
 O 17 (.load true 6 (.t 6)),
 O 18 (.load true 3 (.t 7)),
 O 19 (.load true 4 (.t 8)),
 O 20 (.call 3 [.t 16, .t 17, .t 18, .t 19]),
 O 15 (.mv (.t 20)),
 O 21 (.ext (.t 15) 0),
 O 22 (.ext (.t 15) 1),
 O 23 (.ext (.t 15) 2),
 O 11 (.pend 6),
 O 11 (.init true 6 11 (.t 21)),
 O 12 (.mv (.t 22)),
 O 13 (.mv (.t 23))])
 (.seq (.seq (.region false [O 24 (.mv (.t 13)),
 O 25 (.bin .neq (.t 24) (.c (.int .i64 0)))])
 (.cond (.t 25) (.seq (.region false [O 26 (.call 4 []),
 O 27 (.mv (.t 26)),
 G 28 (.load true 9 (.t 5)) 27 true,
 G 29 (.load true 6 (.t 6)) 27 true,
 G 30 (.load true 3 (.t 7)) 27 true,
 G 31 (.call 5 [.t 28, .t 29, .t 30]) 27 true,
 G 32 (.mv (.t 31)) 27 true,
 G 33 (.mv (.t 13)) 32 false,
 G 34 (.bin .eql (.t 33) (.c (.int .i64 1))) 32 false,
 G 35 (.pick (.t 32) (.c (.bool true)) (.t 34)) 27 true,
 O 36 (.pick (.t 27) (.t 35) (.c (.bool false))),
 O 37 (.mv (.t 36)),
 G 38 (.faddr 1 (.t 11)) 37 true,
 G 39 (.load false 1 (.t 38)) 37 true,
 G 40 (.len (.t 39)) 37 true,
 G 41 (.bin .eql (.t 40) (.c (.int .i64 0))) 37 true,
 O 42 (.pick (.t 37) (.t 41) (.c (.bool false))),
 O 10 (.mv (.t 42))])
 (.ret)) (.skip)))
 (.seq (.region false [O 14 (.mv (.c (.int .i64 0)))])
 (.seq (.seq (.region false [O 43 (.faddr 0 (.t 8)),
 O 44 (.load false 1 (.t 43)),
 O 45 (.bin .eql (.t 44) (.c (.int .i64 1)))])
 (.cond (.t 45) (.region false [O 14 (.mv (.c (.int .i64 1)))]) (.skip)))
 (.seq (.seq (.region false [O 46 (.faddr 0 (.t 8)),
 O 47 (.load false 1 (.t 46)),
 O 48 (.bin .eql (.t 47) (.c (.int .i64 2)))])
 (.cond (.t 48) (.region false [O 14 (.mv (.c (.int .i64 (-1))))]) (.skip)))
 (.seq (.seq (.region true [O 49 (.load true 9 (.t 5)),
 O 50 (.load true 6 (.t 11)),
 O 51 (.callp 6 [.t 49, .t 50]),
 O 52 (.un .not (.t 51)),
 O 53 (.mv (.t 52)),
 G 54 (.load true 6 (.t 11)) 53 false,
 G 55 (.callp 7 [.t 54]) 53 false,
 G 56 (.load true 6 (.t 6)) 53 false,
 G 57 (.callp 7 [.t 56]) 53 false,
 G 58 (.mv (.t 14)) 53 false,
 G 59 (.bin .add (.t 57) (.t 58)) 53 false,
 G 60 (.bin .neq (.t 55) (.t 59)) 53 false,
 O 61 (.pick (.t 53) (.c (.bool true)) (.t 60))])
 (.cond (.t 61) (.seq (.region false [O 10 (.mv (.c (.bool false)))])
 (.ret)) (.skip)))
 (.seq (.seq (.region true [O 62 (.faddr 0 (.t 5)),
 O 63 (.load false 1 (.t 62)),
 O 64 (.faddr 1 (.t 7)),
 O 65 (.load false 1 (.t 64)),
 O 66 (.ixsl 2 (.t 63) (.t 65)),
 O 67 (.load true 2 (.t 66)),
 O 68 (.load true 2 (.t 9)),
 O 69 (.callp 8 [.t 67, .t 68]),
 O 70 (.mv (.t 69)),
 G 71 (.load true 2 (.t 9)) 70 false,
 G 72 (.callp 9 [.t 71]) 70 false,
 G 73 (.un .not (.t 72)) 70 false,
 O 74 (.pick (.t 70) (.c (.bool true)) (.t 73))])
 (.cond (.t 74) (.seq (.region false [O 75 (.call 4 []),
 O 10 (.mv (.t 75))])
 (.ret)) (.skip)))
 (.seq (.region false [O 76 (.call 4 []),
 O 77 (.mv (.t 76)),
 G 78 (.load true 9 (.t 5)) 77 true,
 G 79 (.load true 6 (.t 6)) 77 true,
 G 80 (.load true 6 (.t 11)) 77 true,
 G 81 (.load true 2 (.t 9)) 77 true,
 G 82 (.call 10 [.t 78, .t 79, .t 80, .t 81]) 77 true,
 O 83 (.pick (.t 77) (.t 82) (.c (.bool false))),
 O 10 (.mv (.t 83))])
 (.ret)))))))))) }
def rialtolaw29_GoodsAlike : PF := { ntmps := 146, raw := false, split := false, res := [.tmp 12], body := (
  .seq (.region false [O 6 (.box true (.t 0)),
 O 7 (.box true (.t 1)),
 O 8 (.box true (.t 2)),
 O 9 (.box true (.t 3)),
 O 10 (.box true (.t 4)),
 O 11 (.box true (.t 5)),
 O 12 (.mv (.c (.bool false)))])
 (.seq (.seq (.region true [O 27 (.load true 9 (.t 6)),
 O 28 (.load true 6 (.t 7)),
 O 29 (.load true 3 (.t 9)),
 O 30 (.callp 5 [.t 27, .t 28, .t 29]),
 O 31 (.un .not (.t 30)),
 O 32 (.mv (.t 31)),
 G 33 (.load true 9 (.t 6)) 32 false,
 G 34 (.load true 6 (.t 8)) 32 false,
 G 35 (.callp 6 [.t 33, .t 34]) 32 false,
 G 36 (.un .not (.t 35)) 32 false,
 O 37 (.pick (.t 32) (.c (.bool true)) (.t 36)),
 O 38 (.mv (.t 37)),
 G 39 (.faddr 0 (.t 6)) 38 false,
 G 40 (.load false 1 (.t 39)) 38 false,
 G 41 (.faddr 1 (.t 9)) 38 false,
 G 42 (.load false 1 (.t 41)) 38 false,
 G 43 (.ixsl 2 (.t 40) (.t 42)) 38 false,
 G 44 (.load true 2 (.t 43)) 38 false,
 G 45 (.load true 2 (.t 11)) 38 false,
 G 46 (.callp 8 [.t 44, .t 45]) 38 false,
 G 47 (.un .not (.t 46)) 38 false,
 O 48 (.pick (.t 38) (.c (.bool true)) (.t 47)),
 O 49 (.mv (.t 48)),
 G 50 (.load true 9 (.t 6)) 49 false,
 G 51 (.load true 6 (.t 7)) 49 false,
 G 52 (.load true 6 (.t 8)) 49 false,
 G 53 (.load true 2 (.t 11)) 49 false,
 G 54 (.callp 10 [.t 50, .t 51, .t 52, .t 53]) 49 false,
 G 55 (.un .not (.t 54)) 49 false,
 O 56 (.pick (.t 49) (.c (.bool true)) (.t 55))])
 (.cond (.t 56) (.seq (.region false [O 57 (.call 4 []),
 O 12 (.mv (.t 57))])
 (.ret)) (.skip)))
 (.seq (.region false [O 59 (.load true 9 (.t 6)),
 O 60 (.load true 6 (.t 7)),
 O 61 (.load true 3 (.t 9)),
 O 62 (.load true 4 (.t 10)),
 O 63 (.call 3 [.t 59, .t 60, .t 61, .t 62]),
 O 58 (.mv (.t 63)),
 O 64 (.ext (.t 58) 0),
 O 65 (.ext (.t 58) 1),
 O 66 (.ext (.t 58) 2),
 O 13 (.pend 6),
 O 13 (.init true 6 13 (.t 64)),
 O 14 (.mv (.t 65)),
 O 15 (.mv (.t 66))])
 (.seq (.region false [O 68 (.load true 9 (.t 6)),
 O 69 (.load true 6 (.t 8)),
 O 70 (.load true 3 (.t 9)),
 O 71 (.load true 4 (.t 10)),
 O 72 (.call 3 [.t 68, .t 69, .t 70, .t 71]),
 O 67 (.mv (.t 72)),
 O 73 (.ext (.t 67) 0),
 O 74 (.ext (.t 67) 1),
 O 75 (.ext (.t 67) 2),
 O 16 (.pend 6),
 O 16 (.init true 6 16 (.t 73)),
 O 17 (.mv (.t 74)),
 O 18 (.mv (.t 75))])
 (.seq (.region false [O 77 (.load true 9 (.t 6)),
 O 78 (.load true 6 (.t 7)),
 O 79 (.load true 3 (.t 9)),
 O 80 (.call 11 [.t 77, .t 78, .t 79]),
 O 76 (.mv (.t 80)),
 O 81 (.ext (.t 76) 0),
 O 82 (.ext (.t 76) 1),
 O 19 (.mv (.t 81)),
 O 20 (.mv (.t 82))])
 (.seq (.region false [O 84 (.load true 9 (.t 6)),
 O 85 (.load true 6 (.t 8)),
 O 86 (.load true 3 (.t 9)),
 O 87 (.call 11 [.t 84, .t 85, .t 86]),
 O 83 (.mv (.t 87)),
 O 88 (.ext (.t 83) 0),
 O 89 (.ext (.t 83) 1),
 O 21 (.mv (.t 88)),
 O 22 (.mv (.t 89))])
 (.seq (.region false [O 91 (.load true 9 (.t 6)),
 O 92 (.load true 6 (.t 7)),
 O 93 (.load true 3 (.t 9)),
 O 94 (.call 12 [.t 91, .t 92, .t 93]),
 O 90 (.mv (.t 94)),
 O 95 (.ext (.t 90) 0),
 O 96 (.ext (.t 90) 1),
 O 23 (.mv (.t 95)),
 O 24 (.mv (.t 96))])
 (.seq (.region false [O 98 (.load true 9 (.t 6)),
 O 99 (.load true 6 (.t 8)),
 O 100 (.load true 3 (.t 9)),
 O 101 (.call 12 [.t 98, .t 99, .t 100]),
 O 97 (.mv (.t 101)),
 O 102 (.ext (.t 97) 0),
 O 103 (.ext (.t 97) 1),
 O 25 (.mv (.t 102)),
 O 26 (.mv (.t 103))])
 (.seq (.region false [O 104 (.call 4 []),
 O 105 (.mv (.t 104)),
 G 106 (.mv (.t 14)) 105 true,
 G 107 (.mv (.t 17)) 105 true,
 G 108 (.bin .eql (.t 106) (.t 107)) 105 true,
 O 109 (.pick (.t 105) (.t 108) (.c (.bool false))),
 O 110 (.mv (.t 109)),
 G 111 (.mv (.t 15)) 110 true,
 G 112 (.mv (.t 18)) 110 true,
 G 113 (.bin .eql (.t 111) (.t 112)) 110 true,
 O 114 (.pick (.t 110) (.t 113) (.c (.bool false))),
 O 115 (.mv (.t 114)),
 G 116 (.mv (.t 15)) 115 true,
 G 117 (.bin .neq (.t 116) (.c (.int .i64 0))) 115 true,
 G 118 (.mv (.t 117)) 115 true,
 G 119 (.load true 9 (.t 6)) 118 false,
 G 120 (.load true 6 (.t 13)) 118 false,
 G 121 (.load true 6 (.t 16)) 118 false,
 G 122 (.load true 2 (.t 11)) 118 false,
 G 123 (.call 10 [.t 119, .t 120, .t 121, .t 122]) 118 false,
 G 124 (.pick (.t 118) (.c (.bool true)) (.t 123)) 115 true,
 O 125 (.pick (.t 115) (.t 124) (.c (.bool false))),
 O 126 (.mv (.t 125)),
 G 127 (.mv (.t 20)) 126 true,
 G 128 (.mv (.t 22)) 126 true,
 G 129 (.bin .eql (.t 127) (.t 128)) 126 true,
 O 130 (.pick (.t 126) (.t 129) (.c (.bool false))),
 O 131 (.mv (.t 130)),
 G 132 (.mv (.t 19)) 131 true,
 G 133 (.mv (.t 21)) 131 true,
 G 134 (.call 13 [.t 132, .t 133]) 131 true,
 O 135 (.pick (.t 131) (.t 134) (.c (.bool false))),
 O 136 (.mv (.t 135)),
 G 137 (.mv (.t 24)) 136 true,
 G 138 (.mv (.t 26)) 136 true,
 G 139 (.bin .eql (.t 137) (.t 138)) 136 true,
 O 140 (.pick (.t 136) (.t 139) (.c (.bool false))),
 O 141 (.mv (.t 140)),
 G 142 (.mv (.t 23)) 141 true,
 G 143 (.mv (.t 25)) 141 true,
 G 144 (.call 14 [.t 142, .t 143]) 141 true,
 O 145 (.pick (.t 141) (.t 144) (.c (.bool false))),
 O 12 (.mv (.t 145))])
 (.ret)))))))))) }
def rialtolaw05_Small : PF := { ntmps := 18, raw := false, split := false, res := [.cell 0 true 9], body := (
  .seq (.region false [O 0 (.alloc false [.sl .nil [], .sl .nil [], .sl .nil [], .sl .nil [], .sl .nil [], .int .i64 0, .int .i64 0, .int .i64 0, .int .i64 0])])
 (.seq (.region false [O 2 (.build [.int .i64 0, .int .i64 0, .int .i64 0, .int .i64 0, .int .i64 0, .int .u64 0] [(0, 1, (.c (.int .i64 2))), (1, 1, (.c (.int .i64 2))), (2, 1, (.c (.int .i64 2))), (3, 1, (.c (.int .i64 2))), (4, 1, (.c (.int .i64 2))), (5, 1, (.c (.int .u64 1000)))]),
 O 1 (.pend 6),
 O 1 (.init true 6 1 (.t 2))])
 (.seq (.region false [O 3 (.build [.int .i64 0, .int .u64 0] []),
 O 4 (.build [.int .i64 0, .int .u64 0] [(1, 1, (.c (.int .u64 1)))]),
 O 5 (.build [.int .i64 0, .int .u64 0] [(0, 1, (.c (.int .i64 1))), (1, 1, (.c (.int .u64 1)))]),
 O 6 (.bslice true 2 3 [.int .i64 0, .int .u64 0] [(0, (.t 3)), (1, (.t 4)), (2, (.t 5))]),
 O 7 (.bslice true 1 3 [.int .i64 0] [(0, (.c (.int .i64 0))), (1, (.c (.int .i64 1))), (2, (.c (.int .i64 2)))]),
 O 8 (.build [.str ⟨#[]⟩, .str ⟨#[]⟩, .int .i64 0, .bool false] [(0, 1, (.c (.str ⟨#[97, 110, 110]⟩))), (1, 1, (.c (.str ⟨#[97]⟩))), (2, 1, (.c (.int .i64 1))), (3, 1, (.c (.bool true)))]),
 O 9 (.build [.str ⟨#[]⟩, .str ⟨#[]⟩, .int .i64 0, .bool false] [(0, 1, (.c (.str ⟨#[98, 111, 98]⟩))), (1, 1, (.c (.str ⟨#[98]⟩)))]),
 O 10 (.bslice true 4 2 [.str ⟨#[]⟩, .str ⟨#[]⟩, .int .i64 0, .bool false] [(0, (.t 8)), (1, (.t 9))]),
 O 11 (.build [.int .i64 0, .int .i64 0] [(0, 1, (.c (.int .i64 0))), (1, 1, (.c (.int .i64 0)))]),
 O 12 (.bslice true 2 1 [.int .i64 0, .int .i64 0] [(0, (.t 11))]),
 O 13 (.load true 6 (.t 1)),
 O 14 (.load true 6 (.t 1)),
 O 15 (.load true 6 (.t 1)),
 O 16 (.bslice true 6 3 [.int .i64 0, .int .i64 0, .int .i64 0, .int .i64 0, .int .i64 0, .int .u64 0] [(0, (.t 13)), (1, (.t 14)), (2, (.t 15))]),
 O 17 (.build [.sl .nil [], .sl .nil [], .sl .nil [], .sl .nil [], .sl .nil [], .int .i64 0, .int .i64 0, .int .i64 0, .int .i64 0] [(0, 1, (.t 6)), (1, 1, (.t 7)), (2, 1, (.t 10)), (3, 1, (.t 12)), (4, 1, (.t 16)), (5, 1, (.c (.int .i64 4))), (6, 1, (.c (.int .i64 6))), (7, 1, (.c (.int .i64 2))), (8, 1, (.c (.int .i64 3)))]),
 ⟨none, .store 9 (.t 0) (.t 17), none, 0, 0⟩])
 (.ret)))) }
def state_New : PF := { ntmps := 52, raw := false, split := false, res := [.cell 2 true 6, .tmp 3], body := (
  .seq (.region false [O 1 (.box true (.t 0)),
 O 2 (.alloc false [.int .u64 0, .sl .nil [], .sl .nil [], .sl .nil [], .sl .nil [], .sl .nil []]),
 O 3 (.mv (.c (.int .i64 0)))])
 (.seq (.seq (.region false [O 7 (.load true 9 (.t 1)),
 O 8 (.call 42 [.t 7]),
 O 9 (.un .not (.t 8))])
 (.cond (.t 9) (.seq (.region false [O 10 (.build [.int .u64 0, .sl .nil [], .sl .nil [], .sl .nil [], .sl .nil [], .sl .nil []] []),
 ⟨none, .store 6 (.t 2) (.t 10), none, 0, 0⟩,
 O 3 (.mv (.c (.int .i64 1)))])
 (.ret)) (.skip)))
 (.seq (.region true [O 11 (.load true 9 (.t 1)),
 O 12 (.callp 43 [.t 11]),
 O 13 (.faddr 5 (.t 1)),
 O 14 (.load false 1 (.t 13)),
 O 15 (.mksl true 10 80 [.bool false, .int .i64 0, .int .i64 0, .int .i64 0, .int .i64 0, .int .i64 0, .int .u64 0, .int .u64 0, .int .u64 0, .int .i64 0] (.t 14) (.t 14)),
 O 16 (.build [.int .u64 0, .sl .nil [], .sl .nil [], .sl .nil [], .sl .nil [], .sl .nil []] [(2, 1, (.t 12)), (3, 1, (.t 15))]),
 O 4 (.pend 6),
 O 4 (.init false 6 4 (.t 16))])
 (.seq (.seq (.region false [O 17 (.faddr 4 (.t 1)),
 O 18 (.load false 1 (.t 17)),
 O 19 (.len (.t 18)),
 O 20 (.mv (.c (.int .i64 0)))])
 (.block 0 (.loop (.seq (.region false [O 21 (.bin .lss (.t 20) (.t 19))])
 (.seq (.cond (.t 21) (.skip) (.exit 0))
 (.seq (.block 1 (.seq (.region false [O 22 (.ixsl 6 (.t 18) (.t 20)),
 O 23 (.load true 6 (.t 22)),
 O 6 (.pend 6),
 O 6 (.init true 6 6 (.t 23))])
 (.region true [O 24 (.faddr 1 (.t 4)),
 ⟨some 25, .load false 1 (.t 24), none, 0, 1⟩,
 O 26 (.load true 9 (.t 1)),
 O 27 (.load true 6 (.t 6)),
 O 28 (.call 44 [.t 26, .t 27]),
 O 29 (.bslice true 15 1 [.sl .nil [], .sl .nil [], .sl .nil [], .sl .nil [], .sl .nil [], .sl .nil [], .sl .nil [], .int .u64 0, .int .u64 0, .int .u64 0, .int .u64 0, .int .u64 0, .int .u64 0, .int .u64 0, .int .u64 0] [(0, (.t 28))]),
 O 30 (.append false 15 232 (.t 25) (.t 29)),
 O 31 (.faddr 1 (.t 4)),
 ⟨none, .store 1 (.t 31) (.t 30), none, 0, 0⟩])))
 (.region false [O 32 (.bin .add (.t 20) (.c (.int .i64 1))),
 O 20 (.mv (.t 32))])))))))
 (.seq (.region false [O 33 (.faddr 1 (.t 4)),
 O 34 (.load false 1 (.t 33)),
 O 35 (.ixsl 15 (.t 34) (.c (.int .i64 0))),
 O 36 (.faddr 0 (.t 35)),
 O 37 (.load false 1 (.t 36)),
 O 38 (.build [.bool false, .str ⟨#[]⟩] [(0, 1, (.c (.bool true))), (1, 1, (.c (.str ⟨#[112, 108, 97, 122, 97]⟩)))]),
 O 39 (.ixsl 2 (.t 37) (.c (.int .i64 0))),
 ⟨none, .store 2 (.t 39) (.t 38), none, 0, 0⟩])
 (.seq (.seq (.region false [O 40 (.faddr 1 (.t 1)),
 O 41 (.load false 1 (.t 40)),
 O 42 (.len (.t 41)),
 O 43 (.mv (.c (.int .i64 0)))])
 (.block 2 (.loop (.seq (.region false [O 44 (.bin .lss (.t 43) (.t 42))])
 (.seq (.cond (.t 44) (.skip) (.exit 2))
 (.seq (.block 3 (.region false [O 45 (.faddr 5 (.t 4)),
 O 46 (.load false 1 (.t 45)),
 O 47 (.bslice true 1 1 [.int .i64 0] [(0, (.c (.int .i64 (-1))))]),
 O 48 (.append false 1 8 (.t 46) (.t 47)),
 O 49 (.faddr 5 (.t 4)),
 ⟨none, .store 1 (.t 49) (.t 48), none, 0, 0⟩]))
 (.region false [O 50 (.bin .add (.t 43) (.c (.int .i64 1))),
 O 43 (.mv (.t 50))])))))))
 (.seq (.region false [O 51 (.load true 6 (.t 4)),
 ⟨none, .store 6 (.t 2) (.t 51), none, 0, 0⟩,
 O 3 (.mv (.c (.int .i64 0)))])
 (.ret)))))))) }
def goods_Make : PF := { ntmps := 25, raw := false, split := false, res := [.cell 8 true 6, .tmp 9, .tmp 10], body := (
  .seq (.region false [O 4 (.box true (.t 0)),
 O 5 (.box true (.t 1)),
 O 6 (.box true (.t 2)),
 O 7 (.box true (.t 3)),
 O 8 (.alloc false [.int .u64 0, .sl .nil [], .sl .nil [], .sl .nil [], .sl .nil [], .sl .nil []]),
 O 9 (.mv (.c (.int .i64 0))),
 O 10 (.mv (.c (.int .i64 0)))])
 (.seq (.region false [O 11 (.pend 1),
 O 11 (.init false 1 11 (.c (.int .i64 0)))])
 (.seq (.region false [O 15 (.load true 9 (.t 4)),
 O 16 (.load true 6 (.t 5)),
 O 17 (.load true 3 (.t 6)),
 O 18 (.mkfn 36 [] [.t 7, .t 6, .t 11]),
 O 19 (.call 37 [.t 15, .t 16, .t 17, .t 18]),
 O 14 (.mv (.t 19)),
 O 20 (.ext (.t 14) 0),
 O 21 (.ext (.t 14) 1),
 O 12 (.pend 6),
 O 12 (.init true 6 12 (.t 20)),
 O 13 (.mv (.t 21))])
 (.seq (.region true [O 22 (.load true 6 (.t 12)),
 ⟨some 23, .load false 1 (.t 11), none, 0, 1⟩,
 O 24 (.mv (.t 13)),
 ⟨none, .store 6 (.t 8) (.t 22), none, 0, 0⟩,
 O 9 (.mv (.t 23)),
 O 10 (.mv (.t 24))])
 (.ret))))) }
def goods_Bag : PF := { ntmps := 19, raw := false, split := false, res := [.tmp 6, .tmp 7], body := (
  .seq (.region false [O 3 (.box true (.t 0)),
 O 4 (.box true (.t 1)),
 O 5 (.box true (.t 2)),
 O 6 (.mv (.c (.sl .nil []))),
 O 7 (.mv (.c (.int .i64 0)))])
 (.seq (.seq (.region false [O 8 (.load true 9 (.t 3)),
 O 9 (.load true 6 (.t 4)),
 O 10 (.load true 3 (.t 5)),
 O 11 (.call 5 [.t 8, .t 9, .t 10]),
 O 12 (.un .not (.t 11))])
 (.cond (.t 12) (.seq (.region false [O 6 (.mv (.c (.sl .nil []))),
 O 7 (.mv (.c (.int .i64 1)))])
 (.ret)) (.skip)))
 (.seq (.region true [O 13 (.load true 6 (.t 4)),
 O 14 (.load true 3 (.t 5)),
 O 15 (.callp 31 [.t 13, .t 14]),
 O 16 (.faddr 2 (.t 5)),
 O 17 (.load false 1 (.t 16)),
 O 18 (.callp 32 [.t 15, .t 17]),
 O 6 (.mv (.t 18)),
 O 7 (.mv (.c (.int .i64 0)))])
 (.ret)))) }
def goods_Drop : PF := { ntmps := 17, raw := false, split := false, res := [.cell 8 true 6, .tmp 9], body := (
  .seq (.region false [O 4 (.box true (.t 0)),
 O 5 (.box true (.t 1)),
 O 6 (.box true (.t 2)),
 O 7 (.box true (.t 3)),
 O 8 (.alloc false [.int .u64 0, .sl .nil [], .sl .nil [], .sl .nil [], .sl .nil [], .sl .nil []]),
 O 9 (.mv (.c (.int .i64 0)))])
 (.seq (.region false [O 10 (.load true 9 (.t 4)),
 O 11 (.load true 6 (.t 5)),
 O 12 (.load true 3 (.t 6)),
 O 13 (.mkfn 39 [] [.t 7, .t 6, .t 5]),
 O 14 (.call 37 [.t 10, .t 11, .t 12, .t 13]),
 O 15 (.ext (.t 14) 0),
 O 16 (.ext (.t 14) 1),
 ⟨none, .store 6 (.t 8) (.t 15), none, 0, 0⟩,
 O 9 (.mv (.t 16))])
 (.ret))) }
def goods_Things : PF := { ntmps := 52, raw := false, split := false, res := [.tmp 6, .tmp 7], body := (
  .seq (.region false [O 3 (.box true (.t 0)),
 O 4 (.box true (.t 1)),
 O 5 (.box true (.t 2)),
 O 6 (.mv (.c (.sl .nil []))),
 O 7 (.mv (.c (.int .i64 0)))])
 (.seq (.seq (.region false [O 13 (.load true 9 (.t 3)),
 O 14 (.load true 6 (.t 4)),
 O 15 (.load true 3 (.t 5)),
 O 16 (.call 5 [.t 13, .t 14, .t 15]),
 O 17 (.un .not (.t 16))])
 (.cond (.t 17) (.seq (.region false [O 6 (.mv (.c (.sl .nil []))),
 O 7 (.mv (.c (.int .i64 1)))])
 (.ret)) (.skip)))
 (.seq (.region false [O 8 (.mv (.c (.sl .nil [])))])
 (.seq (.seq (.region false [O 18 (.faddr 1 (.t 4)),
 O 19 (.load false 1 (.t 18)),
 O 20 (.len (.t 19)),
 O 21 (.mv (.c (.int .i64 0)))])
 (.block 0 (.loop (.seq (.region false [O 22 (.bin .lss (.t 21) (.t 20))])
 (.seq (.cond (.t 22) (.skip) (.exit 0))
 (.seq (.block 1 (.seq (.region false [O 23 (.mv (.t 21)),
 O 24 (.ixsl 15 (.t 19) (.t 21)),
 O 25 (.load true 15 (.t 24)),
 O 10 (.pend 15),
 O 9 (.mv (.t 23)),
 O 10 (.init true 15 10 (.t 25))])
 (.seq (.seq (.region false [O 26 (.load true 9 (.t 3)),
 O 27 (.mv (.t 9)),
 O 28 (.faddr 1 (.t 5)),
 O 29 (.load false 1 (.t 28)),
 O 30 (.call 33 [.t 26, .t 27, .t 29]),
 O 31 (.un .not (.t 30))])
 (.cond (.t 31) (.exit 1) (.skip)))
 (.seq (.region true [O 32 (.faddr 2 (.t 10)),
 O 33 (.load false 1 (.t 32)),
 O 34 (.load true 6 (.t 4)),
 O 35 (.load true 3 (.t 5)),
 O 36 (.callp 34 [.t 34, .t 35]),
 O 37 (.callp 35 [.t 33, .t 36]),
 O 38 (.len (.t 37)),
 O 39 (.mv (.c (.int .i64 0)))])
 (.block 2 (.loop (.seq (.region false [O 40 (.bin .lss (.t 39) (.t 38))])
 (.seq (.cond (.t 40) (.skip) (.exit 2))
 (.seq (.block 3 (.seq (.region false [O 41 (.ixsl 1 (.t 37) (.t 39)),
 O 42 (.load false 1 (.t 41)),
 O 12 (.mv (.t 42))])
 (.region false [O 43 (.mv (.t 8)),
 O 44 (.mv (.t 9)),
 O 45 (.mv (.t 12)),
 O 46 (.build [.int .i64 0, .int .i64 0] [(0, 1, (.t 44)), (1, 1, (.t 45))]),
 O 47 (.bslice true 2 1 [.int .i64 0, .int .i64 0] [(0, (.t 46))]),
 O 48 (.append false 2 16 (.t 43) (.t 47)),
 O 8 (.mv (.t 48))])))
 (.region false [O 49 (.bin .add (.t 39) (.c (.int .i64 1))),
 O 39 (.mv (.t 49))]))))))))))
 (.region false [O 50 (.bin .add (.t 21) (.c (.int .i64 1))),
 O 21 (.mv (.t 50))])))))))
 (.seq (.region false [O 51 (.mv (.t 8)),
 O 6 (.mv (.t 51)),
 O 7 (.mv (.c (.int .i64 0)))])
 (.ret)))))) }
def goods_Take : PF := { ntmps := 17, raw := false, split := false, res := [.cell 8 true 6, .tmp 9], body := (
  .seq (.region false [O 4 (.box true (.t 0)),
 O 5 (.box true (.t 1)),
 O 6 (.box true (.t 2)),
 O 7 (.box true (.t 3)),
 O 8 (.alloc false [.int .u64 0, .sl .nil [], .sl .nil [], .sl .nil [], .sl .nil [], .sl .nil []]),
 O 9 (.mv (.c (.int .i64 0)))])
 (.seq (.region false [O 10 (.load true 9 (.t 4)),
 O 11 (.load true 6 (.t 5)),
 O 12 (.load true 3 (.t 6)),
 O 13 (.mkfn 40 [] [.t 7, .t 6, .t 5]),
 O 14 (.call 37 [.t 10, .t 11, .t 12, .t 13]),
 O 15 (.ext (.t 14) 0),
 O 16 (.ext (.t 14) 1),
 ⟨none, .store 6 (.t 8) (.t 15), none, 0, 0⟩,
 O 9 (.mv (.t 16))])
 (.ret))) }
def goods_Pass : PF := { ntmps := 19, raw := false, split := false, res := [.cell 10 true 6, .tmp 11], body := (
  .seq (.region false [O 5 (.box true (.t 0)),
 O 6 (.box true (.t 1)),
 O 7 (.box true (.t 2)),
 O 8 (.box true (.t 3)),
 O 9 (.box true (.t 4)),
 O 10 (.alloc false [.int .u64 0, .sl .nil [], .sl .nil [], .sl .nil [], .sl .nil [], .sl .nil []]),
 O 11 (.mv (.c (.int .i64 0)))])
 (.seq (.region false [O 12 (.load true 9 (.t 5)),
 O 13 (.load true 6 (.t 6)),
 O 14 (.load true 3 (.t 7)),
 O 15 (.mkfn 41 [] [.t 7, .t 9, .t 5, .t 6, .t 8]),
 O 16 (.call 37 [.t 12, .t 13, .t 14, .t 15]),
 O 17 (.ext (.t 16) 0),
 O 18 (.ext (.t 16) 1),
 ⟨none, .store 6 (.t 10) (.t 17), none, 0, 0⟩,
 O 11 (.mv (.t 18))])
 (.ret))) }
def goods_Scrap : PF := { ntmps := 17, raw := false, split := false, res := [.cell 8 true 6, .tmp 9], body := (
  .seq (.region false [O 4 (.box true (.t 0)),
 O 5 (.box true (.t 1)),
 O 6 (.box true (.t 2)),
 O 7 (.box true (.t 3)),
 O 8 (.alloc false [.int .u64 0, .sl .nil [], .sl .nil [], .sl .nil [], .sl .nil [], .sl .nil []]),
 O 9 (.mv (.c (.int .i64 0)))])
 (.seq (.region false [O 10 (.load true 9 (.t 4)),
 O 11 (.load true 6 (.t 5)),
 O 12 (.load true 3 (.t 6)),
 O 13 (.mkfn 38 [] [.t 7, .t 6]),
 O 14 (.call 37 [.t 10, .t 11, .t 12, .t 13]),
 O 15 (.ext (.t 14) 0),
 O 16 (.ext (.t 14) 1),
 ⟨none, .store 6 (.t 8) (.t 15), none, 0, 0⟩,
 O 9 (.mv (.t 16))])
 (.ret))) }
def rialtolaw29_do : PF := { ntmps := 72, raw := false, split := false, res := [.cell 8 true 6, .tmp 9, .tmp 10], body := (
  .seq (.region false [O 4 (.box true (.t 0)),
 O 5 (.box true (.t 1)),
 O 6 (.box true (.t 2)),
 O 7 (.box true (.t 3)),
 O 8 (.alloc false [.int .u64 0, .sl .nil [], .sl .nil [], .sl .nil [], .sl .nil [], .sl .nil []]),
 O 9 (.mv (.c (.int .i64 0))),
 O 10 (.mv (.c (.int .i64 0)))])
 (.seq (.region false [O 11 (.alloc false [.int .u64 0, .sl .nil [], .sl .nil [], .sl .nil [], .sl .nil [], .sl .nil []])])
 (.seq (.region false [O 12 (.mv (.c (.int .i64 0)))])
 (.seq (.seq (.region false [O 13 (.faddr 0 (.t 7)),
 O 14 (.load false 1 (.t 13))])
 (.block 0 (.seq (.region false [O 27 (.bin .eql (.t 14) (.c (.int .i64 1))),
 O 26 (.mv (.t 27))])
 (.cond (.t 26) (.seq (.region false [O 28 (.load true 9 (.t 4)),
 O 29 (.load true 6 (.t 5)),
 O 30 (.load true 3 (.t 6)),
 O 31 (.faddr 3 (.t 7)),
 O 32 (.load false 1 (.t 31)),
 O 33 (.call 15 [.t 28, .t 29, .t 30, .t 32]),
 O 34 (.ext (.t 33) 0),
 O 35 (.ext (.t 33) 1),
 O 36 (.ext (.t 33) 2),
 ⟨none, .store 6 (.t 8) (.t 34), none, 0, 0⟩,
 O 9 (.mv (.t 35)),
 O 10 (.mv (.t 36))])
 (.ret)) (.seq (.region false [O 38 (.bin .eql (.t 14) (.c (.int .i64 2))),
 O 37 (.mv (.t 38))])
 (.cond (.t 37) (.region false [O 40 (.load true 9 (.t 4)),
 O 41 (.load true 6 (.t 5)),
 O 42 (.load true 3 (.t 6)),
 O 43 (.faddr 1 (.t 7)),
 O 44 (.load false 1 (.t 43)),
 O 45 (.call 16 [.t 40, .t 41, .t 42, .t 44]),
 O 39 (.mv (.t 45)),
 O 46 (.ext (.t 39) 0),
 O 47 (.ext (.t 39) 1),
 ⟨none, .store 6 (.t 11) (.t 46), none, 0, 0⟩,
 O 12 (.mv (.t 47))]) (.seq (.region false [O 49 (.bin .eql (.t 14) (.c (.int .i64 3))),
 O 48 (.mv (.t 49))])
 (.cond (.t 48) (.region false [O 51 (.load true 9 (.t 4)),
 O 52 (.load true 6 (.t 5)),
 O 53 (.load true 3 (.t 6)),
 O 54 (.faddr 1 (.t 7)),
 O 55 (.load false 1 (.t 54)),
 O 56 (.call 17 [.t 51, .t 52, .t 53, .t 55]),
 O 50 (.mv (.t 56)),
 O 57 (.ext (.t 50) 0),
 O 58 (.ext (.t 50) 1),
 ⟨none, .store 6 (.t 11) (.t 57), none, 0, 0⟩,
 O 12 (.mv (.t 58))]) (.seq (.region false [O 60 (.bin .eql (.t 14) (.c (.int .i64 4))),
 O 59 (.mv (.t 60))])
 (.cond (.t 59) (.region false [O 62 (.load true 9 (.t 4)),
 O 63 (.load true 6 (.t 5)),
 O 64 (.load true 3 (.t 6)),
 O 65 (.faddr 1 (.t 7)),
 O 66 (.load false 1 (.t 65)),
 O 67 (.call 18 [.t 62, .t 63, .t 64, .t 66]),
 O 61 (.mv (.t 67)),
 O 68 (.ext (.t 61) 0),
 O 69 (.ext (.t 61) 1),
 ⟨none, .store 6 (.t 11) (.t 68), none, 0, 0⟩,
 O 12 (.mv (.t 69))]) (.region false [O 16 (.load true 9 (.t 4)),
 O 17 (.load true 6 (.t 5)),
 O 18 (.load true 3 (.t 6)),
 O 19 (.faddr 1 (.t 7)),
 O 20 (.load false 1 (.t 19)),
 O 21 (.faddr 2 (.t 7)),
 O 22 (.load false 1 (.t 21)),
 O 23 (.call 19 [.t 16, .t 17, .t 18, .t 20, .t 22]),
 O 15 (.mv (.t 23)),
 O 24 (.ext (.t 15) 0),
 O 25 (.ext (.t 15) 1),
 ⟨none, .store 6 (.t 11) (.t 24), none, 0, 0⟩,
 O 12 (.mv (.t 25))])))))))))))
 (.seq (.region false [O 70 (.load true 6 (.t 11)),
 O 71 (.mv (.t 12)),
 ⟨none, .store 6 (.t 8) (.t 70), none, 0, 0⟩,
 O 9 (.mv (.c (.int .i64 0))),
 O 10 (.mv (.t 71))])
 (.ret)))))) }
def state_IsMe : PF := { ntmps := 47, raw := false, split := false, res := [.tmp 6], body := (
  .seq (.region false [O 3 (.box true (.t 0)),
 O 4 (.box true (.t 1)),
 O 5 (.box true (.t 2)),
 O 6 (.mv (.c (.bool false)))])
 (.seq (.region true [O 7 (.load true 9 (.t 3)),
 O 8 (.load true 6 (.t 4)),
 O 9 (.callp 6 [.t 7, .t 8]),
 O 10 (.mv (.t 9)),
 G 11 (.faddr 0 (.t 5)) 10 true,
 G 12 (.load false 1 (.t 11)) 10 true,
 G 13 (.bin .geq (.t 12) (.c (.int .i64 0))) 10 true,
 O 14 (.pick (.t 10) (.t 13) (.c (.bool false))),
 O 15 (.mv (.t 14)),
 G 16 (.faddr 0 (.t 5)) 15 true,
 G 17 (.load false 1 (.t 16)) 15 true,
 G 18 (.faddr 1 (.t 3)) 15 true,
 G 19 (.load false 1 (.t 18)) 15 true,
 G 20 (.len (.t 19)) 15 true,
 G 21 (.bin .lss (.t 17) (.t 20)) 15 true,
 O 22 (.pick (.t 15) (.t 21) (.c (.bool false))),
 O 23 (.mv (.t 22)),
 G 24 (.faddr 1 (.t 5)) 23 true,
 G 25 (.load false 1 (.t 24)) 23 true,
 G 26 (.faddr 1 (.t 3)) 23 true,
 G 27 (.load false 1 (.t 26)) 23 true,
 G 28 (.faddr 0 (.t 5)) 23 true,
 G 29 (.load false 1 (.t 28)) 23 true,
 G 30 (.ixsl 1 (.t 27) (.t 29)) 23 true,
 G 31 (.load false 1 (.t 30)) 23 true,
 G 32 (.bin .eql (.t 25) (.t 31)) 23 true,
 O 33 (.pick (.t 23) (.t 32) (.c (.bool false))),
 O 34 (.mv (.t 33)),
 G 35 (.faddr 2 (.t 5)) 34 true,
 G 36 (.load false 1 (.t 35)) 34 true,
 G 37 (.bin .geq (.t 36) (.c (.int .i64 0))) 34 true,
 O 38 (.pick (.t 34) (.t 37) (.c (.bool false))),
 O 39 (.mv (.t 38)),
 G 40 (.faddr 2 (.t 5)) 39 true,
 G 41 (.load false 1 (.t 40)) 39 true,
 G 42 (.faddr 2 (.t 3)) 39 true,
 G 43 (.load false 1 (.t 42)) 39 true,
 G 44 (.len (.t 43)) 39 true,
 G 45 (.bin .lss (.t 41) (.t 44)) 39 true,
 O 46 (.pick (.t 39) (.t 45) (.c (.bool false))),
 O 6 (.mv (.t 46))])
 (.ret))) }
def state_Right : PF := { ntmps := 38, raw := false, split := false, res := [.tmp 4], body := (
  .seq (.region false [O 2 (.box true (.t 0)),
 O 3 (.box true (.t 1)),
 O 4 (.mv (.c (.bool false)))])
 (.scope (.seq (.region false [O 9 (.load true 9 (.t 2)),
 O 10 (.load true 6 (.t 3)),
 O 11 (.build [.sl .nil [], .sl .nil [], .sl .nil [], .sl .nil [], .sl .nil [], .int .i64 0, .int .i64 0, .int .i64 0, .int .i64 0, .int .u64 0, .sl .nil [], .sl .nil [], .sl .nil [], .sl .nil [], .sl .nil []] [(0, 9, (.t 9)), (9, 6, (.t 10))]),
 O 5 (.pend 15),
 O 5 (.init true 15 5 (.t 11))])
 (.seq (.region false [O 6 (.mv (.c (.bool true)))])
 (.seq (.label)
 (.seq (.seq (.region false [O 12 (.load true 15 (.t 5)),
 O 13 (.mkfn 22 [.t 12] []),
 O 14 (.load true 15 (.t 5)),
 O 15 (.mkfn 23 [.t 14] []),
 O 16 (.load true 15 (.t 5)),
 O 17 (.mkfn 24 [.t 16] []),
 O 18 (.load true 15 (.t 5)),
 O 19 (.mkfn 25 [.t 18] []),
 O 20 (.load true 15 (.t 5)),
 O 21 (.mkfn 26 [.t 20] []),
 O 22 (.load true 15 (.t 5)),
 O 23 (.mkfn 27 [.t 22] []),
 O 24 (.load true 15 (.t 5)),
 O 25 (.mkfn 28 [.t 24] []),
 O 26 (.bslice true 1 7 [.nilf] [(0, (.t 13)), (1, (.t 15)), (2, (.t 17)), (3, (.t 19)), (4, (.t 21)), (5, (.t 23)), (6, (.t 25))]),
 O 27 (.len (.t 26)),
 O 28 (.mv (.c (.int .i64 0)))])
 (.block 0 (.loop (.seq (.region false [O 29 (.bin .lss (.t 28) (.t 27))])
 (.seq (.cond (.t 29) (.skip) (.exit 0))
 (.seq (.block 1 (.seq (.region false [O 30 (.ixsl 1 (.t 26) (.t 28)),
 O 31 (.load false 1 (.t 30)),
 O 8 (.mv (.t 31))])
 (.seq (.region false [O 32 (.mv (.t 8)),
 O 33 (.callv (.t 32) []),
 O 6 (.mv (.t 33))])
 (.seq (.region false [O 34 (.mv (.t 6)),
 O 35 (.un .not (.t 34))])
 (.cond (.t 35) (.exit 0) (.skip))))))
 (.region false [O 36 (.bin .add (.t 28) (.c (.int .i64 1))),
 O 28 (.mv (.t 36))])))))))
 (.seq (.region false [O 37 (.mv (.t 6)),
 O 4 (.mv (.t 37))])
 (.ret)))))))) }
def rialtolaw29_used : PF := { ntmps := 37, raw := false, split := false, res := [.tmp 2], body := (
  .seq (.region false [O 1 (.box true (.t 0)),
 O 2 (.mv (.c (.int .i64 0)))])
 (.seq (.region false [O 3 (.mv (.c (.int .i64 0)))])
 (.seq (.seq (.region false [O 4 (.mv (.c (.int .i64 0)))])
 (.block 0 (.loop (.seq (.seq (.region false [O 6 (.mv (.t 4)),
 O 7 (.faddr 1 (.t 1)),
 O 8 (.load false 1 (.t 7)),
 O 9 (.len (.t 8)),
 O 10 (.bin .lss (.t 6) (.t 9))])
 (.cond (.t 10) (.skip) (.exit 0)))
 (.seq (.block 1 (.seq (.region false [O 5 (.mv (.c (.int .i64 0)))])
 (.block 2 (.loop (.seq (.seq (.region false [O 13 (.mv (.t 5)),
 O 14 (.faddr 1 (.t 1)),
 O 15 (.load false 1 (.t 14)),
 O 16 (.mv (.t 4)),
 O 17 (.ixsl 15 (.t 15) (.t 16)),
 O 18 (.faddr 2 (.t 17)),
 O 19 (.load false 1 (.t 18)),
 O 20 (.len (.t 19)),
 O 21 (.bin .lss (.t 13) (.t 20))])
 (.cond (.t 21) (.skip) (.exit 2)))
 (.seq (.block 3 (.seq (.region false [O 24 (.faddr 1 (.t 1)),
 O 25 (.load false 1 (.t 24)),
 O 26 (.mv (.t 4)),
 O 27 (.ixsl 15 (.t 25) (.t 26)),
 O 28 (.faddr 2 (.t 27)),
 O 29 (.load false 1 (.t 28)),
 O 30 (.mv (.t 5)),
 O 31 (.ixsl 6 (.t 29) (.t 30)),
 O 32 (.faddr 0 (.t 31)),
 O 33 (.load false 1 (.t 32))])
 (.cond (.t 33) (.region false [O 34 (.mv (.t 3)),
 O 35 (.bin .add (.t 34) (.c (.int .i64 1))),
 O 3 (.mv (.t 35))]) (.skip))))
 (.region false [O 22 (.mv (.t 5)),
 O 23 (.bin .add (.t 22) (.c (.int .i64 1))),
 O 5 (.mv (.t 23))])))))))
 (.region false [O 11 (.mv (.t 4)),
 O 12 (.bin .add (.t 11) (.c (.int .i64 1))),
 O 4 (.mv (.t 12))]))))))
 (.seq (.region false [O 36 (.mv (.t 3)),
 O 2 (.mv (.t 36))])
 (.ret))))) }
def label_Leq : PF := { ntmps := 18, raw := false, split := false, res := [.tmp 4], body := (
  .seq (.region false [O 2 (.box true (.t 0)),
 O 3 (.box true (.t 1)),
 O 4 (.mv (.c (.bool false)))])
 (.seq (.region false [O 5 (.faddr 0 (.t 2)),
 O 6 (.load false 1 (.t 5)),
 O 7 (.faddr 0 (.t 3)),
 O 8 (.load false 1 (.t 7)),
 O 9 (.bin .leq (.t 6) (.t 8)),
 O 10 (.mv (.t 9)),
 G 11 (.faddr 1 (.t 2)) 10 true,
 G 12 (.load false 1 (.t 11)) 10 true,
 G 13 (.faddr 1 (.t 3)) 10 true,
 G 14 (.load false 1 (.t 13)) 10 true,
 G 15 (.bin .andNot (.t 12) (.t 14)) 10 true,
 G 16 (.bin .eql (.t 15) (.c (.int .u64 0))) 10 true,
 O 17 (.pick (.t 10) (.t 16) (.c (.bool false))),
 O 4 (.mv (.t 17))])
 (.ret))) }
def label_Right : PF := { ntmps := 11, raw := false, split := false, res := [.tmp 2], body := (
  .seq (.region false [O 1 (.box true (.t 0)),
 O 2 (.mv (.c (.bool false)))])
 (.seq (.region false [O 3 (.faddr 0 (.t 1)),
 O 4 (.load false 1 (.t 3)),
 O 5 (.bin .geq (.t 4) (.c (.int .i64 0))),
 O 6 (.mv (.t 5)),
 G 7 (.faddr 0 (.t 1)) 6 true,
 G 8 (.load false 1 (.t 7)) 6 true,
 G 9 (.bin .lss (.t 8) (.c (.int .i64 4))) 6 true,
 O 10 (.pick (.t 6) (.t 9) (.c (.bool false))),
 O 2 (.mv (.t 10))])
 (.ret))) }
def view_Same : PF := { ntmps := 38, raw := false, split := false, res := [.tmp 8], body := (
  .seq (.region false [O 4 (.box true (.t 0)),
 O 5 (.box true (.t 1)),
 O 6 (.box true (.t 2)),
 O 7 (.box true (.t 3)),
 O 8 (.mv (.c (.bool false)))])
 (.seq (.region false [O 14 (.load true 9 (.t 4)),
 O 15 (.load true 6 (.t 5)),
 O 16 (.load true 2 (.t 7)),
 O 17 (.call 29 [.t 14, .t 15, .t 16]),
 O 13 (.mv (.t 17)),
 O 18 (.ext (.t 13) 0),
 O 19 (.ext (.t 13) 1),
 O 9 (.pend 6),
 O 9 (.init true 6 9 (.t 18)),
 O 10 (.mv (.t 19))])
 (.seq (.region false [O 21 (.load true 9 (.t 4)),
 O 22 (.load true 6 (.t 6)),
 O 23 (.load true 2 (.t 7)),
 O 24 (.call 29 [.t 21, .t 22, .t 23]),
 O 20 (.mv (.t 24)),
 O 25 (.ext (.t 20) 0),
 O 26 (.ext (.t 20) 1),
 O 11 (.pend 6),
 O 11 (.init true 6 11 (.t 25)),
 O 12 (.mv (.t 26))])
 (.seq (.region false [O 27 (.mv (.t 10)),
 O 28 (.bin .eql (.t 27) (.c (.int .i64 0))),
 O 29 (.mv (.t 28)),
 G 30 (.mv (.t 12)) 29 true,
 G 31 (.bin .eql (.t 30) (.c (.int .i64 0))) 29 true,
 O 32 (.pick (.t 29) (.t 31) (.c (.bool false))),
 O 33 (.mv (.t 32)),
 G 34 (.load true 6 (.t 9)) 33 true,
 G 35 (.load true 6 (.t 11)) 33 true,
 G 36 (.call 30 [.t 34, .t 35]) 33 true,
 O 37 (.pick (.t 33) (.t 36) (.c (.bool false))),
 O 8 (.mv (.t 37))])
 (.ret))))) }
def rialtolaw06_Ints : PF := { ntmps := 26, raw := false, split := false, res := [.tmp 4], body := (
  .seq (.region false [O 4 (.mv (.c (.bool false)))])
 (.seq (.seq (.region false [O 6 (.mv (.t 0)),
 O 7 (.len (.t 6)),
 O 8 (.mv (.t 1)),
 O 9 (.len (.t 8)),
 O 10 (.bin .neq (.t 7) (.t 9))])
 (.cond (.t 10) (.seq (.region false [O 4 (.mv (.c (.bool false)))])
 (.ret)) (.skip)))
 (.seq (.seq (.region false [O 5 (.mv (.c (.int .i64 0)))])
 (.block 0 (.loop (.seq (.seq (.region false [O 11 (.mv (.t 5)),
 O 12 (.mv (.t 0)),
 O 13 (.len (.t 12)),
 O 14 (.bin .lss (.t 11) (.t 13))])
 (.cond (.t 14) (.skip) (.exit 0)))
 (.seq (.block 1 (.seq (.region true [O 17 (.mv (.t 0)),
 O 18 (.mv (.t 5)),
 O 19 (.ixsl 1 (.t 17) (.t 18)),
 O 20 (.load false 1 (.t 19)),
 O 21 (.mv (.t 1)),
 O 22 (.mv (.t 5)),
 O 23 (.ixsl 1 (.t 21) (.t 22)),
 O 24 (.load false 1 (.t 23)),
 O 25 (.bin .neq (.t 20) (.t 24))])
 (.cond (.t 25) (.seq (.region false [O 4 (.mv (.c (.bool false)))])
 (.ret)) (.skip))))
 (.region false [O 15 (.mv (.t 5)),
 O 16 (.bin .add (.t 15) (.c (.int .i64 1))),
 O 5 (.mv (.t 16))]))))))
 (.seq (.region false [O 4 (.mv (.c (.bool true)))])
 (.ret))))) }
def rialtoref28_SameRefs : PF := { ntmps := 26, raw := false, split := false, res := [.tmp 4], body := (
  .seq (.region false [O 4 (.mv (.c (.bool false)))])
 (.seq (.seq (.region false [O 6 (.mv (.t 0)),
 O 7 (.len (.t 6)),
 O 8 (.mv (.t 1)),
 O 9 (.len (.t 8)),
 O 10 (.bin .neq (.t 7) (.t 9))])
 (.cond (.t 10) (.seq (.region false [O 4 (.mv (.c (.bool false)))])
 (.ret)) (.skip)))
 (.seq (.seq (.region false [O 5 (.mv (.c (.int .i64 0)))])
 (.block 0 (.loop (.seq (.seq (.region false [O 11 (.mv (.t 5)),
 O 12 (.mv (.t 0)),
 O 13 (.len (.t 12)),
 O 14 (.bin .lss (.t 11) (.t 13))])
 (.cond (.t 14) (.skip) (.exit 0)))
 (.seq (.block 1 (.seq (.region true [O 17 (.mv (.t 0)),
 O 18 (.mv (.t 5)),
 O 19 (.ixsl 2 (.t 17) (.t 18)),
 O 20 (.load true 2 (.t 19)),
 O 21 (.mv (.t 1)),
 O 22 (.mv (.t 5)),
 O 23 (.ixsl 2 (.t 21) (.t 22)),
 O 24 (.load true 2 (.t 23)),
 O 25 (.eqs [.i, .i] true (.t 20) (.t 24))])
 (.cond (.t 25) (.seq (.region false [O 4 (.mv (.c (.bool false)))])
 (.ret)) (.skip))))
 (.region false [O 15 (.mv (.t 5)),
 O 16 (.bin .add (.t 15) (.c (.int .i64 1))),
 O 5 (.mv (.t 16))]))))))
 (.seq (.region false [O 4 (.mv (.c (.bool true)))])
 (.ret))))) }
def realm_Right : PF := { ntmps := 16, raw := false, split := false, res := [.tmp 2], body := (
  .seq (.region false [O 1 (.box true (.t 0)),
 O 2 (.mv (.c (.bool false)))])
 (.seq (.seq (.region false [O 5 (.bslice true 1 6 [.nilf] [(0, (.c (.fn 97 [] []))), (1, (.c (.fn 98 [] []))), (2, (.c (.fn 99 [] []))), (3, (.c (.fn 100 [] []))), (4, (.c (.fn 101 [] []))), (5, (.c (.fn 102 [] [])))]),
 O 6 (.len (.t 5)),
 O 7 (.mv (.c (.int .i64 0)))])
 (.block 0 (.loop (.seq (.region false [O 8 (.bin .lss (.t 7) (.t 6))])
 (.seq (.cond (.t 8) (.skip) (.exit 0))
 (.seq (.block 1 (.seq (.region false [O 9 (.ixsl 1 (.t 5) (.t 7)),
 O 10 (.load false 1 (.t 9)),
 O 4 (.mv (.t 10))])
 (.seq (.region false [O 11 (.mv (.t 4)),
 O 12 (.load true 9 (.t 1)),
 O 13 (.callv (.t 11) [.t 12]),
 O 14 (.un .not (.t 13))])
 (.cond (.t 14) (.seq (.region false [O 2 (.mv (.c (.bool false)))])
 (.ret)) (.skip)))))
 (.region false [O 15 (.bin .add (.t 7) (.c (.int .i64 1))),
 O 7 (.mv (.t 15))])))))))
 (.seq (.region false [O 2 (.mv (.c (.bool true)))])
 (.ret)))) }
def hall_New : PF := { ntmps := 31, raw := false, split := false, res := [.tmp 2], body := (
  .seq (.region false [O 1 (.box true (.t 0)),
 O 2 (.mv (.c (.sl .nil [])))])
 (.seq (.seq (.region false [O 7 (.load true 9 (.t 1)),
 O 8 (.call 42 [.t 7]),
 O 9 (.un .not (.t 8))])
 (.cond (.t 9) (.seq (.region false [O 2 (.mv (.c (.sl .nil [])))])
 (.ret)) (.skip)))
 (.seq (.region false [O 3 (.mv (.c (.sl .nil [])))])
 (.seq (.seq (.region false [O 10 (.faddr 3 (.t 1)),
 O 11 (.load false 1 (.t 10)),
 O 12 (.len (.t 11)),
 O 13 (.mv (.c (.int .i64 0)))])
 (.block 0 (.loop (.seq (.region false [O 14 (.bin .lss (.t 13) (.t 12))])
 (.seq (.cond (.t 14) (.skip) (.exit 0))
 (.seq (.block 1 (.seq (.region false [O 15 (.ixsl 2 (.t 11) (.t 13)),
 O 16 (.load true 2 (.t 15)),
 O 5 (.pend 2),
 O 5 (.init true 2 5 (.t 16))])
 (.seq (.region false [O 17 (.faddr 2 (.t 1)),
 O 18 (.load false 1 (.t 17)),
 O 19 (.len (.t 18)),
 O 20 (.mksl false 1 8 [.int .i64 0] (.t 19) (.t 19)),
 O 6 (.mv (.t 20))])
 (.seq (.region false [O 21 (.mv (.t 6)),
 O 22 (.faddr 1 (.t 5)),
 O 23 (.load false 1 (.t 22)),
 O 24 (.ixsl 1 (.t 21) (.t 23)),
 ⟨none, .store 1 (.t 24) (.c (.int .i64 2)), none, 0, 0⟩])
 (.region false [O 25 (.mv (.t 3)),
 O 26 (.mv (.t 6)),
 O 27 (.bslice true 1 1 [.sl .nil []] [(0, (.t 26))]),
 O 28 (.append false 1 24 (.t 25) (.t 27)),
 O 3 (.mv (.t 28))])))))
 (.region false [O 29 (.bin .add (.t 13) (.c (.int .i64 1))),
 O 13 (.mv (.t 29))])))))))
 (.seq (.region false [O 30 (.mv (.t 3)),
 O 2 (.mv (.t 30))])
 (.ret)))))) }
def state_shelf : PF := { ntmps := 29, raw := true, split := false, res := [.cell 4 true 15], body := (
  .seq (.region false [O 2 (.box true (.t 0)),
 O 3 (.box true (.t 1)),
 O 4 (.alloc false [.sl .nil [], .sl .nil [], .sl .nil [], .sl .nil [], .sl .nil [], .sl .nil [], .sl .nil [], .int .u64 0, .int .u64 0, .int .u64 0, .int .u64 0, .int .u64 0, .int .u64 0, .int .u64 0, .int .u64 0])])
 (.seq (.region false [O 6 (.faddr 2 (.t 2)),
 O 7 (.load false 1 (.t 6)),
 O 8 (.len (.t 7)),
 O 5 (.mv (.t 8))])
 (.seq (.region true [O 9 (.faddr 0 (.t 3)),
 O 10 (.load false 1 (.t 9)),
 O 11 (.mksl false 2 24 [.bool false, .str ⟨#[]⟩] (.t 10) (.t 10)),
 O 12 (.faddr 1 (.t 3)),
 ⟨some 13, .load false 1 (.t 12), none, 0, 1⟩,
 O 14 (.mksl true 6 48 [.bool false, .int .i64 0, .int .i64 0, .int .i64 0, .int .i64 0, .int .i64 0] (.t 13) (.t 13)),
 O 15 (.faddr 2 (.t 3)),
 ⟨some 16, .load false 1 (.t 15), none, 0, 1⟩,
 O 17 (.mksl true 6 56 [.bool false, .str ⟨#[]⟩, .int .i64 0, .int .i64 0, .int .i64 0, .int .i64 0] (.t 16) (.t 16)),
 O 18 (.faddr 3 (.t 3)),
 ⟨some 19, .load false 1 (.t 18), none, 0, 1⟩,
 O 20 (.mksl true 5 48 [.bool false, .int .i64 0, .int .i64 0, .int .i64 0, .str ⟨#[]⟩] (.t 19) (.t 19)),
 O 21 (.faddr 4 (.t 3)),
 ⟨some 22, .load false 1 (.t 21), none, 0, 1⟩,
 O 23 (.mksl true 9 72 [.bool false, .int .i64 0, .int .i64 0, .int .i64 0, .int .u64 0, .int .i64 0, .int .i64 0, .int .u64 0, .int .i64 0] (.t 22) (.t 22)),
 O 24 (.mv (.t 5)),
 O 25 (.mksl true 4 32 [.int .u64 0, .int .u64 0, .int .u64 0, .int .u64 0] (.t 24) (.t 24)),
 O 26 (.mv (.t 5)),
 O 27 (.mksl true 2 16 [.int .i64 0, .int .i64 0] (.t 26) (.t 26)),
 O 28 (.build [.sl .nil [], .sl .nil [], .sl .nil [], .sl .nil [], .sl .nil [], .sl .nil [], .sl .nil [], .int .u64 0, .int .u64 0, .int .u64 0, .int .u64 0, .int .u64 0, .int .u64 0, .int .u64 0, .int .u64 0] [(0, 1, (.t 11)), (1, 1, (.t 14)), (2, 1, (.t 17)), (3, 1, (.t 20)), (4, 1, (.t 23)), (5, 1, (.t 25)), (6, 1, (.t 27))]),
 ⟨none, .store 15 (.t 4) (.t 28), none, 0, 0⟩])
 (.ret)))) }
def goods_Make_1 : PF := { ntmps := 22, raw := false, split := false, res := [.tmp 5, .tmp 6], body := (
  .seq (.region false [O 5 (.mv (.c (.sl .nil []))),
 O 6 (.mv (.c (.int .i64 0)))])
 (.seq (.region false [O 11 (.mv (.t 0)),
 O 12 (.load false 1 (.t 1)),
 O 13 (.faddr 2 (.t 2)),
 O 14 (.load false 1 (.t 13)),
 O 15 (.call 92 [.t 11, .t 12, .t 14]),
 O 10 (.mv (.t 15)),
 O 16 (.ext (.t 10) 0),
 O 17 (.ext (.t 10) 1),
 O 18 (.ext (.t 10) 2),
 O 7 (.mv (.t 16)),
 O 8 (.mv (.t 17)),
 O 9 (.mv (.t 18))])
 (.seq (.region false [O 19 (.mv (.t 8)),
 ⟨none, .store 1 (.t 3) (.t 19), none, 0, 0⟩])
 (.seq (.region false [O 20 (.mv (.t 7)),
 O 21 (.mv (.t 9)),
 O 5 (.mv (.t 20)),
 O 6 (.mv (.t 21))])
 (.ret))))) }
def goods_with : PF := { ntmps := 41, raw := false, split := false, res := [.cell 8 true 6, .tmp 9], body := (
  .seq (.region false [O 4 (.box true (.t 0)),
 O 5 (.box true (.t 1)),
 O 6 (.box true (.t 2)),
 O 8 (.alloc false [.int .u64 0, .sl .nil [], .sl .nil [], .sl .nil [], .sl .nil [], .sl .nil []]),
 O 9 (.mv (.c (.int .i64 0)))])
 (.seq (.seq (.region false [O 13 (.load true 9 (.t 4)),
 O 14 (.load true 6 (.t 5)),
 O 15 (.load true 3 (.t 6)),
 O 16 (.call 5 [.t 13, .t 14, .t 15]),
 O 17 (.un .not (.t 16))])
 (.cond (.t 17) (.seq (.region false [O 18 (.build [.int .u64 0, .sl .nil [], .sl .nil [], .sl .nil [], .sl .nil [], .sl .nil []] []),
 ⟨none, .store 6 (.t 8) (.t 18), none, 0, 0⟩,
 O 9 (.mv (.c (.int .i64 1)))])
 (.ret)) (.skip)))
 (.seq (.region false [O 20 (.mv (.t 3)),
 O 21 (.load true 6 (.t 5)),
 O 22 (.load true 3 (.t 6)),
 O 23 (.call 31 [.t 21, .t 22]),
 O 24 (.callv (.t 20) [.t 23]),
 O 19 (.mv (.t 24)),
 O 25 (.ext (.t 19) 0),
 O 26 (.ext (.t 19) 1),
 O 10 (.mv (.t 25)),
 O 11 (.mv (.t 26))])
 (.seq (.seq (.region false [O 27 (.mv (.t 11)),
 O 28 (.bin .neq (.t 27) (.c (.int .i64 0)))])
 (.cond (.t 28) (.seq (.region false [O 29 (.build [.int .u64 0, .sl .nil [], .sl .nil [], .sl .nil [], .sl .nil [], .sl .nil []] []),
 O 30 (.mv (.t 11)),
 ⟨none, .store 6 (.t 8) (.t 29), none, 0, 0⟩,
 O 9 (.mv (.t 30))])
 (.ret)) (.skip)))
 (.seq (.region false [O 31 (.load true 6 (.t 5)),
 O 32 (.call 268 [.t 31]),
 O 12 (.pend 6),
 O 12 (.init true 6 12 (.t 32))])
 (.seq (.region false [O 33 (.faddr 1 (.t 12)),
 O 34 (.load false 1 (.t 33)),
 O 35 (.faddr 1 (.t 6)),
 O 36 (.load false 1 (.t 35)),
 O 37 (.mv (.t 10)),
 O 38 (.ixsl 15 (.t 34) (.t 36)),
 O 39 (.faddr 2 (.t 38)),
 ⟨none, .store 1 (.t 39) (.t 37), none, 0, 0⟩])
 (.seq (.region false [O 40 (.load true 6 (.t 12)),
 ⟨none, .store 6 (.t 8) (.t 40), none, 0, 0⟩,
 O 9 (.mv (.c (.int .i64 0)))])
 (.ret)))))))) }
def goods_items : PF := { ntmps := 12, raw := false, split := false, res := [.tmp 4], body := (
  .seq (.region false [O 2 (.box true (.t 0)),
 O 3 (.box true (.t 1)),
 O 4 (.mv (.c (.sl .nil [])))])
 (.seq (.region false [O 5 (.faddr 1 (.t 2)),
 O 6 (.load false 1 (.t 5)),
 O 7 (.faddr 1 (.t 3)),
 O 8 (.load false 1 (.t 7)),
 O 9 (.ixsl 15 (.t 6) (.t 8)),
 O 10 (.faddr 2 (.t 9)),
 O 11 (.load false 1 (.t 10)),
 O 4 (.mv (.t 11))])
 (.ret))) }
def thing_Held : PF := { ntmps := 9, raw := false, split := false, res := [.tmp 4], body := (
  .seq (.region false [O 4 (.mv (.c (.sl .nil [])))])
 (.seq (.region false [O 5 (.mv (.t 0)),
 O 6 (.mv (.t 1)),
 O 7 (.call 88 [.t 6]),
 O 8 (.call 89 [.t 5, .t 7]),
 O 4 (.mv (.t 8))])
 (.ret))) }
def goods_Drop_1 : PF := { ntmps := 17, raw := false, split := false, res := [.tmp 5, .tmp 6], body := (
  .seq (.region false [O 5 (.mv (.c (.sl .nil []))),
 O 6 (.mv (.c (.int .i64 0)))])
 (.seq (.region true [O 7 (.mv (.t 0)),
 O 8 (.load false 1 (.t 1)),
 O 9 (.faddr 2 (.t 2)),
 O 10 (.load false 1 (.t 9)),
 O 11 (.load true 6 (.t 3)),
 O 12 (.load true 3 (.t 2)),
 O 13 (.callp 34 [.t 11, .t 12]),
 O 14 (.callp 94 [.t 7, .t 8, .t 10, .t 13]),
 O 15 (.ext (.t 14) 0),
 O 16 (.ext (.t 14) 1),
 O 5 (.mv (.t 15)),
 O 6 (.mv (.t 16))])
 (.ret))) }
def realm_Leq : PF := { ntmps := 28, raw := false, split := false, res := [.tmp 6], body := (
  .seq (.region false [O 3 (.box true (.t 0)),
 O 6 (.mv (.c (.bool false)))])
 (.seq (.region true [O 7 (.load true 9 (.t 3)),
 O 8 (.mv (.t 1)),
 O 9 (.callp 90 [.t 7, .t 8]),
 O 10 (.mv (.t 9)),
 G 11 (.load true 9 (.t 3)) 10 true,
 G 12 (.mv (.t 2)) 10 true,
 G 13 (.callp 90 [.t 11, .t 12]) 10 true,
 O 14 (.pick (.t 10) (.t 13) (.c (.bool false))),
 O 15 (.mv (.t 14)),
 G 16 (.faddr 0 (.t 3)) 15 true,
 G 17 (.load false 1 (.t 16)) 15 true,
 G 18 (.mv (.t 1)) 15 true,
 G 19 (.ixsl 2 (.t 17) (.t 18)) 15 true,
 G 20 (.load true 2 (.t 19)) 15 true,
 G 21 (.faddr 0 (.t 3)) 15 true,
 G 22 (.load false 1 (.t 21)) 15 true,
 G 23 (.mv (.t 2)) 15 true,
 G 24 (.ixsl 2 (.t 22) (.t 23)) 15 true,
 G 25 (.load true 2 (.t 24)) 15 true,
 G 26 (.callp 8 [.t 20, .t 25]) 15 true,
 O 27 (.pick (.t 15) (.t 26) (.c (.bool false))),
 O 6 (.mv (.t 27))])
 (.ret))) }
def goods_place : PF := { ntmps := 16, raw := false, split := false, res := [.cell 4 true 2], body := (
  .seq (.region false [O 2 (.box true (.t 0)),
 O 3 (.box true (.t 1)),
 O 4 (.alloc false [.int .i64 0, .int .i64 0])])
 (.seq (.region true [O 5 (.faddr 1 (.t 2)),
 O 6 (.load false 1 (.t 5)),
 O 7 (.faddr 1 (.t 3)),
 O 8 (.load false 1 (.t 7)),
 O 9 (.ixsl 15 (.t 6) (.t 8)),
 O 10 (.faddr 6 (.t 9)),
 O 11 (.load false 1 (.t 10)),
 O 12 (.faddr 2 (.t 3)),
 O 13 (.load false 1 (.t 12)),
 O 14 (.ixsl 2 (.t 11) (.t 13)),
 O 15 (.load true 2 (.t 14)),
 ⟨none, .store 2 (.t 4) (.t 15), none, 0, 0⟩])
 (.ret))) }
def thing_Lying : PF := { ntmps := 9, raw := false, split := false, res := [.tmp 4], body := (
  .seq (.region false [O 3 (.box true (.t 1)),
 O 4 (.mv (.c (.sl .nil [])))])
 (.seq (.region false [O 5 (.mv (.t 0)),
 O 6 (.load true 2 (.t 3)),
 O 7 (.call 91 [.t 6]),
 O 8 (.call 89 [.t 5, .t 7]),
 O 4 (.mv (.t 8))])
 (.ret))) }
def goods_Take_1 : PF := { ntmps := 17, raw := false, split := false, res := [.tmp 5, .tmp 6], body := (
  .seq (.region false [O 5 (.mv (.c (.sl .nil []))),
 O 6 (.mv (.c (.int .i64 0)))])
 (.seq (.region true [O 7 (.mv (.t 0)),
 O 8 (.load false 1 (.t 1)),
 O 9 (.faddr 2 (.t 2)),
 O 10 (.load false 1 (.t 9)),
 O 11 (.load true 6 (.t 3)),
 O 12 (.load true 3 (.t 2)),
 O 13 (.callp 34 [.t 11, .t 12]),
 O 14 (.callp 95 [.t 7, .t 8, .t 10, .t 13]),
 O 15 (.ext (.t 14) 0),
 O 16 (.ext (.t 14) 1),
 O 5 (.mv (.t 15)),
 O 6 (.mv (.t 16))])
 (.ret))) }
def goods_Pass_1 : PF := { ntmps := 51, raw := false, split := false, res := [.tmp 7, .tmp 8], body := (
  .seq (.region false [O 7 (.mv (.c (.sl .nil []))),
 O 8 (.mv (.c (.int .i64 0)))])
 (.seq (.region false [O 12 (.faddr 0 (.t 1)),
 O 13 (.load false 1 (.t 12)),
 O 14 (.faddr 1 (.t 1)),
 O 15 (.load false 1 (.t 14)),
 O 16 (.load false 1 (.t 2)),
 O 17 (.build [.int .i64 0, .int .i64 0, .int .i64 0] [(0, 1, (.t 13)), (1, 1, (.t 15)), (2, 1, (.t 16))]),
 O 9 (.pend 3),
 O 9 (.init true 3 9 (.t 17))])
 (.seq (.seq (.region false [O 18 (.load false 1 (.t 2)),
 O 19 (.faddr 2 (.t 1)),
 O 20 (.load false 1 (.t 19)),
 O 21 (.bin .eql (.t 18) (.t 20)),
 O 22 (.mv (.t 21)),
 G 23 (.load true 9 (.t 3)) 22 false,
 G 24 (.load true 6 (.t 4)) 22 false,
 G 25 (.load true 3 (.t 9)) 22 false,
 G 26 (.call 5 [.t 23, .t 24, .t 25]) 22 false,
 G 27 (.un .not (.t 26)) 22 false,
 O 28 (.pick (.t 22) (.c (.bool true)) (.t 27))])
 (.cond (.t 28) (.seq (.region false [O 7 (.mv (.c (.sl .nil []))),
 O 8 (.mv (.c (.int .i64 1)))])
 (.ret)) (.skip)))
 (.seq (.region false [O 30 (.mv (.t 0)),
 O 31 (.load false 1 (.t 5)),
 O 32 (.faddr 2 (.t 1)),
 O 33 (.load false 1 (.t 32)),
 O 34 (.load false 1 (.t 2)),
 O 35 (.call 96 [.t 30, .t 31, .t 33, .t 34]),
 O 29 (.mv (.t 35)),
 O 36 (.ext (.t 29) 0),
 O 37 (.ext (.t 29) 1),
 O 10 (.mv (.t 36)),
 O 11 (.mv (.t 37))])
 (.seq (.seq (.region true [O 38 (.mv (.t 11)),
 O 39 (.bin .eql (.t 38) (.c (.int .i64 0))),
 O 40 (.mv (.t 39)),
 G 41 (.load true 6 (.t 4)) 40 true,
 G 42 (.load true 3 (.t 9)) 40 true,
 G 43 (.callp 34 [.t 41, .t 42]) 40 true,
 G 44 (.load true 6 (.t 4)) 40 true,
 G 45 (.load true 3 (.t 1)) 40 true,
 G 46 (.callp 34 [.t 44, .t 45]) 40 true,
 G 47 (.eqs [.i, .i] true (.t 43) (.t 46)) 40 true,
 O 48 (.pick (.t 40) (.t 47) (.c (.bool false)))])
 (.cond (.t 48) (.region false [O 11 (.mv (.c (.int .i64 5)))]) (.skip)))
 (.seq (.region false [O 49 (.mv (.t 10)),
 O 50 (.mv (.t 11)),
 O 7 (.mv (.t 49)),
 O 8 (.mv (.t 50))])
 (.ret))))))) }
def goods_Scrap_1 : PF := { ntmps := 13, raw := false, split := false, res := [.tmp 4, .tmp 5], body := (
  .seq (.region false [O 4 (.mv (.c (.sl .nil []))),
 O 5 (.mv (.c (.int .i64 0)))])
 (.seq (.region false [O 6 (.mv (.t 0)),
 O 7 (.load false 1 (.t 1)),
 O 8 (.faddr 2 (.t 2)),
 O 9 (.load false 1 (.t 8)),
 O 10 (.call 93 [.t 6, .t 7, .t 9]),
 O 11 (.ext (.t 10) 0),
 O 12 (.ext (.t 10) 1),
 O 4 (.mv (.t 11)),
 O 5 (.mv (.t 12))])
 (.ret))) }
def state_judge_sizes : PF := { ntmps := 131, raw := false, split := false, res := [.tmp 2], body := (
  .seq (.region false [O 1 (.box true (.t 0)),
 O 2 (.mv (.c (.bool false)))])
 (.seq (.seq (.region false [O 7 (.faddr 0 (.t 1)),
 O 8 (.load true 9 (.t 7)),
 O 9 (.call 42 [.t 8]),
 O 10 (.un .not (.t 9)),
 O 11 (.mv (.t 10)),
 G 12 (.faddr 9 (.t 1)) 11 false,
 G 13 (.faddr 1 (.t 12)) 11 false,
 G 14 (.load false 1 (.t 13)) 11 false,
 G 15 (.len (.t 14)) 11 false,
 G 16 (.faddr 0 (.t 1)) 11 false,
 G 17 (.faddr 0 (.t 16)) 11 false,
 G 18 (.load false 1 (.t 17)) 11 false,
 G 19 (.len (.t 18)) 11 false,
 G 20 (.bin .neq (.t 15) (.t 19)) 11 false,
 O 21 (.pick (.t 11) (.c (.bool true)) (.t 20)),
 O 22 (.mv (.t 21)),
 G 23 (.faddr 9 (.t 1)) 22 false,
 G 24 (.faddr 3 (.t 23)) 22 false,
 G 25 (.load false 1 (.t 24)) 22 false,
 G 26 (.len (.t 25)) 22 false,
 G 27 (.faddr 0 (.t 1)) 22 false,
 G 28 (.faddr 5 (.t 27)) 22 false,
 G 29 (.load false 1 (.t 28)) 22 false,
 G 30 (.bin .neq (.t 26) (.t 29)) 22 false,
 O 31 (.pick (.t 22) (.c (.bool true)) (.t 30)),
 O 32 (.mv (.t 31)),
 G 33 (.faddr 9 (.t 1)) 32 false,
 G 34 (.faddr 4 (.t 33)) 32 false,
 G 35 (.load false 1 (.t 34)) 32 false,
 G 36 (.len (.t 35)) 32 false,
 G 37 (.faddr 0 (.t 1)) 32 false,
 G 38 (.faddr 6 (.t 37)) 32 false,
 G 39 (.load false 1 (.t 38)) 32 false,
 G 40 (.bin .gtr (.t 36) (.t 39)) 32 false,
 O 41 (.pick (.t 32) (.c (.bool true)) (.t 40)),
 O 42 (.mv (.t 41)),
 G 43 (.faddr 9 (.t 1)) 42 false,
 G 44 (.faddr 5 (.t 43)) 42 false,
 G 45 (.load false 1 (.t 44)) 42 false,
 G 46 (.len (.t 45)) 42 false,
 G 47 (.faddr 0 (.t 1)) 42 false,
 G 48 (.faddr 1 (.t 47)) 42 false,
 G 49 (.load false 1 (.t 48)) 42 false,
 G 50 (.len (.t 49)) 42 false,
 G 51 (.bin .neq (.t 46) (.t 50)) 42 false,
 O 52 (.pick (.t 42) (.c (.bool true)) (.t 51)),
 O 53 (.mv (.t 52)),
 G 54 (.faddr 9 (.t 1)) 53 false,
 G 55 (.faddr 0 (.t 54)) 53 false,
 G 56 (.load false 1 (.t 55)) 53 false,
 G 57 (.bin .gtr (.t 56) (.c (.int .u64 4611686018427387904))) 53 false,
 O 58 (.pick (.t 53) (.c (.bool true)) (.t 57))])
 (.cond (.t 58) (.seq (.region false [O 2 (.mv (.c (.bool false)))])
 (.ret)) (.skip)))
 (.seq (.region false [O 59 (.faddr 0 (.t 1)),
 O 60 (.faddr 2 (.t 59)),
 O 61 (.load false 1 (.t 60)),
 O 62 (.len (.t 61)),
 O 3 (.mv (.t 62))])
 (.seq (.seq (.region false [O 63 (.faddr 9 (.t 1)),
 O 64 (.faddr 1 (.t 63)),
 O 65 (.load false 1 (.t 64)),
 O 66 (.len (.t 65)),
 O 67 (.mv (.c (.int .i64 0)))])
 (.block 0 (.loop (.seq (.region false [O 68 (.bin .lss (.t 67) (.t 66))])
 (.seq (.cond (.t 68) (.skip) (.exit 0))
 (.seq (.block 1 (.seq (.region false [O 69 (.mv (.t 67)),
 O 70 (.ixsl 15 (.t 65) (.t 67)),
 O 71 (.load true 15 (.t 70)),
 O 5 (.pend 15),
 O 4 (.mv (.t 69)),
 O 5 (.init true 15 5 (.t 71))])
 (.seq (.region false [O 72 (.faddr 0 (.t 1)),
 O 73 (.faddr 4 (.t 72)),
 O 74 (.load false 1 (.t 73)),
 O 75 (.mv (.t 4)),
 O 76 (.ixsl 6 (.t 74) (.t 75)),
 O 77 (.load true 6 (.t 76)),
 O 6 (.pend 6),
 O 6 (.init true 6 6 (.t 77))])
 (.seq (.region false [O 78 (.faddr 0 (.t 5)),
 O 79 (.load false 1 (.t 78)),
 O 80 (.len (.t 79)),
 O 81 (.faddr 0 (.t 6)),
 O 82 (.load false 1 (.t 81)),
 O 83 (.bin .neq (.t 80) (.t 82)),
 O 84 (.mv (.t 83)),
 G 85 (.faddr 1 (.t 5)) 84 false,
 G 86 (.load false 1 (.t 85)) 84 false,
 G 87 (.len (.t 86)) 84 false,
 G 88 (.faddr 1 (.t 6)) 84 false,
 G 89 (.load false 1 (.t 88)) 84 false,
 G 90 (.bin .neq (.t 87) (.t 89)) 84 false,
 O 91 (.pick (.t 84) (.c (.bool true)) (.t 90)),
 O 92 (.mv (.t 91)),
 G 93 (.faddr 2 (.t 5)) 92 false,
 G 94 (.load false 1 (.t 93)) 92 false,
 G 95 (.len (.t 94)) 92 false,
 G 96 (.faddr 2 (.t 6)) 92 false,
 G 97 (.load false 1 (.t 96)) 92 false,
 G 98 (.bin .neq (.t 95) (.t 97)) 92 false,
 O 99 (.pick (.t 92) (.c (.bool true)) (.t 98)),
 O 100 (.mv (.t 99)),
 G 101 (.faddr 3 (.t 5)) 100 false,
 G 102 (.load false 1 (.t 101)) 100 false,
 G 103 (.len (.t 102)) 100 false,
 G 104 (.faddr 3 (.t 6)) 100 false,
 G 105 (.load false 1 (.t 104)) 100 false,
 G 106 (.bin .neq (.t 103) (.t 105)) 100 false,
 O 107 (.pick (.t 100) (.c (.bool true)) (.t 106)),
 O 108 (.mv (.t 107)),
 G 109 (.faddr 4 (.t 5)) 108 false,
 G 110 (.load false 1 (.t 109)) 108 false,
 G 111 (.len (.t 110)) 108 false,
 G 112 (.faddr 4 (.t 6)) 108 false,
 G 113 (.load false 1 (.t 112)) 108 false,
 G 114 (.bin .neq (.t 111) (.t 113)) 108 false,
 O 115 (.pick (.t 108) (.c (.bool true)) (.t 114)),
 O 116 (.mv (.t 115)),
 G 117 (.faddr 5 (.t 5)) 116 false,
 G 118 (.load false 1 (.t 117)) 116 false,
 G 119 (.len (.t 118)) 116 false,
 G 120 (.mv (.t 3)) 116 false,
 G 121 (.bin .neq (.t 119) (.t 120)) 116 false,
 O 122 (.pick (.t 116) (.c (.bool true)) (.t 121)),
 O 123 (.mv (.t 122)),
 G 124 (.faddr 6 (.t 5)) 123 false,
 G 125 (.load false 1 (.t 124)) 123 false,
 G 126 (.len (.t 125)) 123 false,
 G 127 (.mv (.t 3)) 123 false,
 G 128 (.bin .neq (.t 126) (.t 127)) 123 false,
 O 129 (.pick (.t 123) (.c (.bool true)) (.t 128))])
 (.cond (.t 129) (.seq (.region false [O 2 (.mv (.c (.bool false)))])
 (.ret)) (.skip))))))
 (.region false [O 130 (.bin .add (.t 67) (.c (.int .i64 1))),
 O 67 (.mv (.t 130))])))))))
 (.seq (.region false [O 2 (.mv (.c (.bool true)))])
 (.ret)))))) }
def state_judge_slots : PF := { ntmps := 7, raw := false, split := false, res := [.tmp 2], body := (
  .seq (.region false [O 1 (.box true (.t 0)),
 O 2 (.mv (.c (.bool false)))])
 (.seq (.region false [O 3 (.faddr 9 (.t 1)),
 O 4 (.faddr 1 (.t 3)),
 O 5 (.load false 1 (.t 4)),
 O 6 (.call 45 [.t 5, (.c (.fn 46 [] []))]),
 O 2 (.mv (.t 6))])
 (.ret))) }
def state_judge_public : PF := { ntmps := 56, raw := false, split := false, res := [.tmp 2], body := (
  .seq (.region false [O 1 (.box true (.t 0)),
 O 2 (.mv (.c (.bool false)))])
 (.seq (.seq (.region false [O 6 (.faddr 0 (.t 1)),
 O 7 (.load true 9 (.t 6)),
 O 8 (.faddr 9 (.t 1)),
 O 9 (.faddr 2 (.t 8)),
 O 10 (.load false 1 (.t 9)),
 O 11 (.call 47 [.t 7, .t 10]),
 O 12 (.un .not (.t 11)),
 O 13 (.mv (.t 12)),
 G 14 (.faddr 9 (.t 1)) 13 false,
 G 15 (.faddr 3 (.t 14)) 13 false,
 G 16 (.load false 1 (.t 15)) 13 false,
 G 17 (.call 48 [.t 16]) 13 false,
 G 18 (.un .not (.t 17)) 13 false,
 O 19 (.pick (.t 13) (.c (.bool true)) (.t 18)),
 O 20 (.mv (.t 19)),
 G 21 (.faddr 9 (.t 1)) 20 false,
 G 22 (.faddr 4 (.t 21)) 20 false,
 G 23 (.load false 1 (.t 22)) 20 false,
 G 24 (.call 49 [.t 23]) 20 false,
 G 25 (.un .not (.t 24)) 20 false,
 O 26 (.pick (.t 20) (.c (.bool true)) (.t 25)),
 O 27 (.mv (.t 26)),
 G 28 (.faddr 9 (.t 1)) 27 false,
 G 29 (.load true 6 (.t 28)) 27 false,
 G 30 (.build [.int .i64 0, .int .i64 0] []) 27 false,
 G 31 (.call 50 [.t 29, .t 30]) 27 false,
 G 32 (.un .not (.t 31)) 27 false,
 O 33 (.pick (.t 27) (.c (.bool true)) (.t 32))])
 (.cond (.t 33) (.seq (.region false [O 2 (.mv (.c (.bool false)))])
 (.ret)) (.skip)))
 (.seq (.region false [O 34 (.faddr 9 (.t 1)),
 O 35 (.faddr 3 (.t 34)),
 O 36 (.load false 1 (.t 35)),
 O 37 (.mkfn 51 [] [.t 1]),
 O 38 (.call 52 [.t 36, .t 37]),
 O 3 (.mv (.t 38))])
 (.seq (.region false [O 39 (.faddr 9 (.t 1)),
 O 40 (.faddr 4 (.t 39)),
 O 41 (.load false 1 (.t 40)),
 O 42 (.mkfn 53 [] [.t 1]),
 O 43 (.call 54 [.t 41, .t 42]),
 O 4 (.mv (.t 43))])
 (.seq (.region false [O 44 (.faddr 9 (.t 1)),
 O 45 (.faddr 5 (.t 44)),
 O 46 (.load false 1 (.t 45)),
 O 47 (.mkfn 55 [] [.t 1]),
 O 48 (.call 56 [.t 46, .t 47]),
 O 5 (.mv (.t 48))])
 (.seq (.region false [O 49 (.mv (.t 3)),
 O 50 (.mv (.t 49)),
 G 51 (.mv (.t 4)) 50 true,
 O 52 (.pick (.t 50) (.t 51) (.c (.bool false))),
 O 53 (.mv (.t 52)),
 G 54 (.mv (.t 5)) 53 true,
 O 55 (.pick (.t 53) (.t 54) (.c (.bool false))),
 O 2 (.mv (.t 55))])
 (.ret))))))) }
def state_judge_rooms : PF := { ntmps := 42, raw := false, split := false, res := [.tmp 2], body := (
  .seq (.region false [O 1 (.box true (.t 0)),
 O 2 (.mv (.c (.bool false)))])
 (.seq (.seq (.region false [O 8 (.faddr 9 (.t 1)),
 O 9 (.faddr 1 (.t 8)),
 O 10 (.load false 1 (.t 9)),
 O 11 (.len (.t 10)),
 O 12 (.mv (.c (.int .i64 0)))])
 (.block 0 (.loop (.seq (.region false [O 13 (.bin .lss (.t 12) (.t 11))])
 (.seq (.cond (.t 13) (.skip) (.exit 0))
 (.seq (.block 1 (.seq (.region false [O 14 (.mv (.t 12)),
 O 15 (.ixsl 15 (.t 10) (.t 12)),
 O 16 (.load true 15 (.t 15)),
 O 4 (.pend 15),
 O 3 (.mv (.t 14)),
 O 4 (.init true 15 4 (.t 16))])
 (.seq (.region false [O 17 (.load true 15 (.t 1)),
 O 18 (.mv (.t 3)),
 O 19 (.call 57 [.t 17, .t 18]),
 O 5 (.pend 1),
 O 5 (.init true 1 5 (.t 19))])
 (.seq (.region false [O 20 (.faddr 1 (.t 4)),
 O 21 (.load false 1 (.t 20)),
 O 22 (.mkfn 58 [] [.t 5]),
 O 23 (.call 59 [.t 21, .t 22]),
 O 6 (.mv (.t 23))])
 (.seq (.region false [O 24 (.faddr 2 (.t 4)),
 O 25 (.load false 1 (.t 24)),
 O 26 (.mkfn 60 [] [.t 5]),
 O 27 (.call 61 [.t 25, .t 26]),
 O 7 (.mv (.t 27))])
 (.seq (.region false [O 28 (.mv (.t 6)),
 O 29 (.un .not (.t 28)),
 O 30 (.mv (.t 29)),
 G 31 (.mv (.t 7)) 30 false,
 G 32 (.un .not (.t 31)) 30 false,
 O 33 (.pick (.t 30) (.c (.bool true)) (.t 32)),
 O 34 (.mv (.t 33)),
 G 35 (.faddr 6 (.t 4)) 34 false,
 G 36 (.load false 1 (.t 35)) 34 false,
 G 37 (.load false 1 (.t 5)) 34 false,
 G 38 (.call 62 [.t 36, .t 37]) 34 false,
 G 39 (.un .not (.t 38)) 34 false,
 O 40 (.pick (.t 34) (.c (.bool true)) (.t 39))])
 (.cond (.t 40) (.seq (.region false [O 2 (.mv (.c (.bool false)))])
 (.ret)) (.skip))))))))
 (.region false [O 41 (.bin .add (.t 12) (.c (.int .i64 1))),
 O 12 (.mv (.t 41))])))))))
 (.seq (.region false [O 2 (.mv (.c (.bool true)))])
 (.ret)))) }
def state_judge_people : PF := { ntmps := 40, raw := false, split := false, res := [.tmp 2], body := (
  .seq (.region false [O 1 (.box true (.t 0)),
 O 2 (.mv (.c (.bool false)))])
 (.seq (.seq (.region false [O 8 (.faddr 9 (.t 1)),
 O 9 (.faddr 1 (.t 8)),
 O 10 (.load false 1 (.t 9)),
 O 11 (.len (.t 10)),
 O 12 (.mv (.c (.int .i64 0)))])
 (.block 0 (.loop (.seq (.region false [O 13 (.bin .lss (.t 12) (.t 11))])
 (.seq (.cond (.t 13) (.skip) (.exit 0))
 (.seq (.block 1 (.seq (.region false [O 14 (.mv (.t 12)),
 O 15 (.ixsl 15 (.t 10) (.t 12)),
 O 16 (.load true 15 (.t 15)),
 O 3 (.pend 1),
 O 4 (.pend 15),
 O 3 (.init true 1 3 (.t 14)),
 O 4 (.init true 15 4 (.t 16))])
 (.seq (.region false [O 17 (.faddr 2 (.t 4)),
 O 18 (.load false 1 (.t 17)),
 O 19 (.mkfn 63 [] [.t 1]),
 O 20 (.call 61 [.t 18, .t 19]),
 O 5 (.mv (.t 20))])
 (.seq (.region false [O 21 (.faddr 3 (.t 4)),
 O 22 (.load false 1 (.t 21)),
 O 23 (.mkfn 64 [] [.t 1, .t 3]),
 O 24 (.call 65 [.t 22, .t 23]),
 O 6 (.mv (.t 24))])
 (.seq (.region false [O 25 (.faddr 4 (.t 4)),
 O 26 (.load false 1 (.t 25)),
 O 27 (.mkfn 66 [] [.t 1]),
 O 28 (.call 67 [.t 26, .t 27]),
 O 7 (.mv (.t 28))])
 (.seq (.region false [O 29 (.mv (.t 5)),
 O 30 (.un .not (.t 29)),
 O 31 (.mv (.t 30)),
 G 32 (.mv (.t 6)) 31 false,
 G 33 (.un .not (.t 32)) 31 false,
 O 34 (.pick (.t 31) (.c (.bool true)) (.t 33)),
 O 35 (.mv (.t 34)),
 G 36 (.mv (.t 7)) 35 false,
 G 37 (.un .not (.t 36)) 35 false,
 O 38 (.pick (.t 35) (.c (.bool true)) (.t 37))])
 (.cond (.t 38) (.seq (.region false [O 2 (.mv (.c (.bool false)))])
 (.ret)) (.skip))))))))
 (.region false [O 39 (.bin .add (.t 12) (.c (.int .i64 1))),
 O 12 (.mv (.t 39))])))))))
 (.seq (.region false [O 2 (.mv (.c (.bool true)))])
 (.ret)))) }
def state_judge_deals : PF := { ntmps := 110, raw := false, split := false, res := [.tmp 2], body := (
  .seq (.region false [O 1 (.box true (.t 0)),
 O 2 (.mv (.c (.bool false)))])
 (.seq (.seq (.region false [O 12 (.faddr 9 (.t 1)),
 O 13 (.faddr 1 (.t 12)),
 O 14 (.load false 1 (.t 13)),
 O 15 (.len (.t 14)),
 O 16 (.mv (.c (.int .i64 0)))])
 (.block 0 (.loop (.seq (.region false [O 17 (.bin .lss (.t 16) (.t 15))])
 (.seq (.cond (.t 17) (.skip) (.exit 0))
 (.seq (.block 1 (.seq (.region false [O 18 (.ixsl 15 (.t 14) (.t 16)),
 O 19 (.load true 15 (.t 18)),
 O 4 (.pend 15),
 O 4 (.init true 15 4 (.t 19))])
 (.seq (.region false [O 20 (.faddr 4 (.t 4)),
 O 21 (.load false 1 (.t 20)),
 O 22 (.call 68 [.t 21, (.c (.fn 69 [] []))]),
 O 5 (.mv (.t 22))])
 (.seq (.seq (.region false [O 23 (.faddr 2 (.t 4)),
 O 24 (.load false 1 (.t 23)),
 O 25 (.len (.t 24)),
 O 26 (.mv (.c (.int .i64 0)))])
 (.block 2 (.loop (.seq (.region false [O 27 (.bin .lss (.t 26) (.t 25))])
 (.seq (.cond (.t 27) (.skip) (.exit 2))
 (.seq (.block 3 (.seq (.region false [O 28 (.mv (.t 26)),
 O 29 (.ixsl 6 (.t 24) (.t 26)),
 O 30 (.load true 6 (.t 29)),
 O 7 (.pend 6),
 O 6 (.mv (.t 28)),
 O 7 (.init true 6 7 (.t 30))])
 (.seq (.region false [O 31 (.faddr 2 (.t 7)),
 O 32 (.load false 1 (.t 31)),
 O 33 (.bin .eql (.t 32) (.c (.int .i64 3))),
 O 34 (.mv (.t 33)),
 G 35 (.mv (.t 5)) 34 true,
 G 36 (.faddr 3 (.t 7)) 34 true,
 G 37 (.load false 1 (.t 36)) 34 true,
 G 38 (.call 70 [.t 35, .t 37]) 34 true,
 G 39 (.un .not (.t 38)) 34 true,
 G 40 (.mv (.t 39)) 34 true,
 G 41 (.faddr 4 (.t 4)) 40 false,
 G 42 (.load false 1 (.t 41)) 40 false,
 G 43 (.faddr 3 (.t 7)) 40 false,
 G 44 (.load false 1 (.t 43)) 40 false,
 G 45 (.ixsl 9 (.t 42) (.t 44)) 40 false,
 G 46 (.faddr 3 (.t 45)) 40 false,
 G 47 (.faddr 2 (.t 46)) 40 false,
 G 48 (.load false 1 (.t 47)) 40 false,
 G 49 (.mv (.t 6)) 40 false,
 G 50 (.bin .neq (.t 48) (.t 49)) 40 false,
 G 51 (.pick (.t 40) (.c (.bool true)) (.t 50)) 34 true,
 O 52 (.pick (.t 34) (.t 51) (.c (.bool false)))])
 (.cond (.t 52) (.seq (.region false [O 2 (.mv (.c (.bool false)))])
 (.ret)) (.skip)))))
 (.region false [O 53 (.bin .add (.t 26) (.c (.int .i64 1))),
 O 26 (.mv (.t 53))])))))))
 (.seq (.region false [O 54 (.mv (.t 5)),
 O 55 (.call 71 [.t 54]),
 O 56 (.len (.t 55)),
 O 57 (.mv (.c (.int .i64 0)))])
 (.block 4 (.loop (.seq (.region false [O 58 (.bin .lss (.t 57) (.t 56))])
 (.seq (.cond (.t 58) (.skip) (.exit 4))
 (.seq (.block 5 (.seq (.region false [O 59 (.ixsl 1 (.t 55) (.t 57)),
 O 60 (.load false 1 (.t 59)),
 O 9 (.mv (.t 60))])
 (.seq (.region true [O 61 (.faddr 4 (.t 4)),
 O 62 (.load false 1 (.t 61)),
 O 63 (.mv (.t 9)),
 O 64 (.ixsl 9 (.t 62) (.t 63)),
 O 65 (.faddr 3 (.t 64)),
 O 66 (.faddr 2 (.t 65)),
 O 67 (.load false 1 (.t 66)),
 O 68 (.faddr 4 (.t 4)),
 O 69 (.load false 1 (.t 68)),
 O 70 (.mv (.t 9)),
 O 71 (.ixsl 9 (.t 69) (.t 70)),
 O 72 (.faddr 6 (.t 71)),
 O 73 (.faddr 2 (.t 72)),
 O 74 (.load false 1 (.t 73)),
 O 10 (.mv (.t 67)),
 O 11 (.mv (.t 74))])
 (.seq (.seq (.region false [O 75 (.mv (.t 10)),
 O 76 (.faddr 2 (.t 4)),
 O 77 (.load false 1 (.t 76)),
 O 78 (.len (.t 77)),
 O 79 (.bin .geq (.t 75) (.t 78)),
 O 80 (.mv (.t 79)),
 G 81 (.mv (.t 11)) 80 false,
 G 82 (.faddr 2 (.t 4)) 80 false,
 G 83 (.load false 1 (.t 82)) 80 false,
 G 84 (.len (.t 83)) 80 false,
 G 85 (.bin .geq (.t 81) (.t 84)) 80 false,
 O 86 (.pick (.t 80) (.c (.bool true)) (.t 85))])
 (.cond (.t 86) (.seq (.region false [O 2 (.mv (.c (.bool false)))])
 (.ret)) (.skip)))
 (.seq (.region false [O 87 (.mv (.t 10)),
 O 88 (.bin .geq (.t 87) (.c (.int .i64 0))),
 O 89 (.mv (.t 88)),
 G 90 (.faddr 2 (.t 4)) 89 true,
 G 91 (.load false 1 (.t 90)) 89 true,
 G 92 (.mv (.t 10)) 89 true,
 G 93 (.ixsl 6 (.t 91) (.t 92)) 89 true,
 G 94 (.faddr 2 (.t 93)) 89 true,
 G 95 (.load false 1 (.t 94)) 89 true,
 G 96 (.bin .neq (.t 95) (.c (.int .i64 3))) 89 true,
 G 97 (.mv (.t 96)) 89 true,
 G 98 (.faddr 2 (.t 4)) 97 false,
 G 99 (.load false 1 (.t 98)) 97 false,
 G 100 (.mv (.t 10)) 97 false,
 G 101 (.ixsl 6 (.t 99) (.t 100)) 97 false,
 G 102 (.faddr 3 (.t 101)) 97 false,
 G 103 (.load false 1 (.t 102)) 97 false,
 G 104 (.mv (.t 9)) 97 false,
 G 105 (.bin .neq (.t 103) (.t 104)) 97 false,
 G 106 (.pick (.t 97) (.c (.bool true)) (.t 105)) 89 true,
 O 107 (.pick (.t 89) (.t 106) (.c (.bool false)))])
 (.cond (.t 107) (.seq (.region false [O 2 (.mv (.c (.bool false)))])
 (.ret)) (.skip)))))))
 (.region false [O 108 (.bin .add (.t 57) (.c (.int .i64 1))),
 O 57 (.mv (.t 108))])))))))))))
 (.region false [O 109 (.bin .add (.t 16) (.c (.int .i64 1))),
 O 16 (.mv (.t 109))])))))))
 (.seq (.region false [O 2 (.mv (.c (.bool true)))])
 (.ret)))) }
def state_judge_coins : PF := { ntmps := 61, raw := false, split := false, res := [.tmp 2], body := (
  .seq (.region false [O 1 (.box true (.t 0)),
 O 2 (.mv (.c (.bool false)))])
 (.seq (.seq (.region false [O 10 (.mv (.c (.int .i64 0)))])
 (.block 0 (.loop (.seq (.region false [O 11 (.bin .lss (.t 10) (.c (.int .i64 4)))])
 (.seq (.cond (.t 11) (.skip) (.exit 0))
 (.seq (.block 1 (.seq (.region false [O 12 (.mv (.t 10)),
 O 3 (.mv (.t 12))])
 (.seq (.seq (.region false [O 13 (.faddr 9 (.t 1)),
 O 14 (.faddr 1 (.t 13)),
 O 15 (.load false 1 (.t 14)),
 O 16 (.len (.t 15)),
 O 17 (.mv (.c (.int .i64 0)))])
 (.block 2 (.loop (.seq (.region false [O 18 (.bin .lss (.t 17) (.t 16))])
 (.seq (.cond (.t 18) (.skip) (.exit 2))
 (.seq (.block 3 (.seq (.region false [O 19 (.mv (.t 17)),
 O 20 (.ixsl 15 (.t 15) (.t 17)),
 O 21 (.load true 15 (.t 20)),
 O 5 (.pend 15),
 O 4 (.mv (.t 19)),
 O 5 (.init true 15 5 (.t 21))])
 (.seq (.region true [O 22 (.mv (.t 3)),
 O 23 (.faddr 7 (.t 5)),
 O 24 (.ixarr 4 1 (.t 23) (.t 22)),
 O 25 (.load false 1 (.t 24)),
 O 26 (.faddr 0 (.t 1)),
 O 27 (.faddr 4 (.t 26)),
 O 28 (.load false 1 (.t 27)),
 O 29 (.mv (.t 4)),
 O 30 (.ixsl 6 (.t 28) (.t 29)),
 O 31 (.faddr 5 (.t 30)),
 O 32 (.load false 1 (.t 31)),
 O 33 (.bin .gtr (.t 25) (.t 32))])
 (.cond (.t 33) (.seq (.region false [O 2 (.mv (.c (.bool false)))])
 (.ret)) (.skip)))))
 (.region false [O 34 (.bin .add (.t 17) (.c (.int .i64 1))),
 O 17 (.mv (.t 34))])))))))
 (.seq (.region false [O 36 (.faddr 9 (.t 1)),
 O 37 (.load true 6 (.t 36)),
 O 38 (.mv (.t 3)),
 O 39 (.call 72 [.t 37, .t 38]),
 O 35 (.mv (.t 39)),
 O 40 (.ext (.t 35) 0),
 O 41 (.ext (.t 35) 1),
 O 6 (.mv (.t 40)),
 O 7 (.mv (.t 41))])
 (.seq (.region false [O 43 (.faddr 9 (.t 1)),
 O 44 (.load true 6 (.t 43)),
 O 45 (.mv (.t 3)),
 O 46 (.call 73 [.t 44, .t 45]),
 O 42 (.mv (.t 46)),
 O 47 (.ext (.t 42) 0),
 O 48 (.ext (.t 42) 1),
 O 8 (.mv (.t 47)),
 O 9 (.mv (.t 48))])
 (.seq (.region false [O 49 (.mv (.t 7)),
 O 50 (.bin .neq (.t 49) (.c (.int .i64 0))),
 O 51 (.mv (.t 50)),
 G 52 (.mv (.t 9)) 51 false,
 G 53 (.bin .neq (.t 52) (.c (.int .i64 0))) 51 false,
 O 54 (.pick (.t 51) (.c (.bool true)) (.t 53)),
 O 55 (.mv (.t 54)),
 G 56 (.mv (.t 6)) 55 false,
 G 57 (.mv (.t 8)) 55 false,
 G 58 (.bin .neq (.t 56) (.t 57)) 55 false,
 O 59 (.pick (.t 55) (.c (.bool true)) (.t 58))])
 (.cond (.t 59) (.seq (.region false [O 2 (.mv (.c (.bool false)))])
 (.ret)) (.skip))))))))
 (.region false [O 60 (.bin .add (.t 10) (.c (.int .i64 1))),
 O 10 (.mv (.t 60))])))))))
 (.seq (.region false [O 2 (.mv (.c (.bool true)))])
 (.ret)))) }
def view_From : PF := { ntmps := 58, raw := false, split := false, res := [.cell 6 true 6, .tmp 7], body := (
  .seq (.region false [O 3 (.box true (.t 0)),
 O 4 (.box false (.t 1)),
 O 5 (.box true (.t 2)),
 O 6 (.alloc false [.int .u64 0, .sl .nil [], .sl .nil [], .sl .nil [], .sl .nil [], .sl .nil []]),
 O 7 (.mv (.c (.int .i64 0)))])
 (.seq (.region false [O 14 (.load true 9 (.t 3)),
 O 15 (.call 21 [.t 14]),
 O 13 (.mv (.t 15)),
 O 16 (.ext (.t 13) 0),
 O 17 (.ext (.t 13) 1),
 O 8 (.pend 6),
 O 8 (.init true 6 8 (.t 16)),
 O 9 (.mv (.t 17))])
 (.seq (.seq (.region false [O 18 (.mv (.t 9)),
 O 19 (.bin .neq (.t 18) (.c (.int .i64 0))),
 O 20 (.mv (.t 19)),
 G 21 (.load true 2 (.t 5)) 20 false,
 G 22 (.call 9 [.t 21]) 20 false,
 G 23 (.un .not (.t 22)) 20 false,
 O 24 (.pick (.t 20) (.c (.bool true)) (.t 23)),
 O 25 (.mv (.t 24)),
 G 26 (.load true 9 (.t 3)) 25 false,
 G 27 (.load true 6 (.t 4)) 25 false,
 G 28 (.call 74 [.t 26, .t 27]) 25 false,
 G 29 (.un .not (.t 28)) 25 false,
 O 30 (.pick (.t 25) (.c (.bool true)) (.t 29))])
 (.cond (.t 30) (.seq (.region false [O 31 (.build [.int .u64 0, .sl .nil [], .sl .nil [], .sl .nil [], .sl .nil [], .sl .nil []] []),
 ⟨none, .store 6 (.t 6) (.t 31), none, 0, 0⟩,
 O 7 (.mv (.c (.int .i64 1)))])
 (.ret)) (.skip)))
 (.seq (.region false [O 32 (.mkfn 75 [] [.t 3, .t 5]),
 O 10 (.pend 1),
 O 10 (.init true 1 10 (.t 32))])
 (.seq (.region false [O 33 (.mkfn 76 [] [.t 3, .t 5]),
 O 11 (.mv (.t 33))])
 (.seq (.region false [O 34 (.mkfn 77 [] [.t 10, .t 3]),
 O 12 (.mv (.t 34))])
 (.seq (.region false [O 35 (.faddr 1 (.t 4)),
 O 36 (.load false 1 (.t 35)),
 O 37 (.faddr 1 (.t 8)),
 O 38 (.load false 1 (.t 37)),
 O 39 (.load false 1 (.t 10)),
 O 40 (.call 78 [.t 36, .t 38, .t 39]),
 O 41 (.faddr 1 (.t 4)),
 ⟨none, .store 1 (.t 41) (.t 40), none, 0, 0⟩])
 (.seq (.region false [O 42 (.faddr 2 (.t 4)),
 O 43 (.load false 1 (.t 42)),
 O 44 (.faddr 2 (.t 8)),
 O 45 (.load false 1 (.t 44)),
 O 46 (.mv (.t 11)),
 O 47 (.call 79 [.t 43, .t 45, .t 46]),
 O 48 (.faddr 2 (.t 4)),
 ⟨none, .store 1 (.t 48) (.t 47), none, 0, 0⟩])
 (.seq (.region false [O 49 (.faddr 5 (.t 4)),
 O 50 (.load false 1 (.t 49)),
 O 51 (.faddr 5 (.t 8)),
 O 52 (.load false 1 (.t 51)),
 O 53 (.mv (.t 12)),
 O 54 (.call 80 [.t 50, .t 52, .t 53]),
 O 55 (.faddr 5 (.t 4)),
 ⟨none, .store 1 (.t 55) (.t 54), none, 0, 0⟩])
 (.seq (.region false [O 56 (.load true 6 (.t 4)),
 O 57 (.call 81 [.t 56]),
 ⟨none, .store 6 (.t 6) (.t 57), none, 0, 0⟩,
 O 7 (.mv (.c (.int .i64 0)))])
 (.ret))))))))))) }
def state_Same : PF := { ntmps := 45, raw := false, split := false, res := [.tmp 4], body := (
  .seq (.region false [O 2 (.box true (.t 0)),
 O 3 (.box true (.t 1)),
 O 4 (.mv (.c (.bool false)))])
 (.seq (.region false [O 5 (.faddr 0 (.t 2)),
 O 6 (.load false 1 (.t 5)),
 O 7 (.faddr 0 (.t 3)),
 O 8 (.load false 1 (.t 7)),
 O 9 (.bin .eql (.t 6) (.t 8)),
 O 10 (.mv (.t 9)),
 G 11 (.faddr 1 (.t 2)) 10 true,
 G 12 (.load false 1 (.t 11)) 10 true,
 G 13 (.faddr 1 (.t 3)) 10 true,
 G 14 (.load false 1 (.t 13)) 10 true,
 G 15 (.call 82 [.t 12, .t 14, (.c (.fn 83 [] []))]) 10 true,
 O 16 (.pick (.t 10) (.t 15) (.c (.bool false))),
 O 17 (.mv (.t 16)),
 G 18 (.faddr 2 (.t 2)) 17 true,
 G 19 (.load false 1 (.t 18)) 17 true,
 G 20 (.faddr 2 (.t 3)) 17 true,
 G 21 (.load false 1 (.t 20)) 17 true,
 G 22 (.call 84 [.t 19, .t 21, (.c (.fn 85 [] []))]) 17 true,
 O 23 (.pick (.t 17) (.t 22) (.c (.bool false))),
 O 24 (.mv (.t 23)),
 G 25 (.faddr 3 (.t 2)) 24 true,
 G 26 (.load false 1 (.t 25)) 24 true,
 G 27 (.faddr 3 (.t 3)) 24 true,
 G 28 (.load false 1 (.t 27)) 24 true,
 G 29 (.call 86 [.t 26, .t 28]) 24 true,
 O 30 (.pick (.t 24) (.t 29) (.c (.bool false))),
 O 31 (.mv (.t 30)),
 G 32 (.faddr 4 (.t 2)) 31 true,
 G 33 (.load false 1 (.t 32)) 31 true,
 G 34 (.faddr 4 (.t 3)) 31 true,
 G 35 (.load false 1 (.t 34)) 31 true,
 G 36 (.call 87 [.t 33, .t 35]) 31 true,
 O 37 (.pick (.t 31) (.t 36) (.c (.bool false))),
 O 38 (.mv (.t 37)),
 G 39 (.faddr 5 (.t 2)) 38 true,
 G 40 (.load false 1 (.t 39)) 38 true,
 G 41 (.faddr 5 (.t 3)) 38 true,
 G 42 (.load false 1 (.t 41)) 38 true,
 G 43 (.call 85 [.t 40, .t 42]) 38 true,
 O 44 (.pick (.t 38) (.t 43) (.c (.bool false))),
 O 4 (.mv (.t 44))])
 (.ret))) }
def realm_labels : PF := { ntmps := 44, raw := false, split := false, res := [.tmp 2], body := (
  .seq (.region false [O 1 (.box true (.t 0)),
 O 2 (.mv (.c (.bool false)))])
 (.seq (.region false [O 3 (.mv (.c (.fn 172 [] [])))])
 (.seq (.seq (.region false [O 5 (.faddr 0 (.t 1)),
 O 6 (.load false 1 (.t 5)),
 O 7 (.len (.t 6)),
 O 8 (.call 164 [.t 7, (.c (.int .i64 1)), (.c (.int .i64 8))]),
 O 9 (.un .not (.t 8)),
 O 10 (.mv (.t 9)),
 G 11 (.faddr 0 (.t 1)) 10 false,
 G 12 (.load false 1 (.t 11)) 10 false,
 G 13 (.ixsl 2 (.t 12) (.c (.int .i64 0))) 10 false,
 G 14 (.load true 2 (.t 13)) 10 false,
 G 15 (.build [.int .i64 0, .int .u64 0] []) 10 false,
 G 16 (.eqs [.i, .i] true (.t 14) (.t 15)) 10 false,
 O 17 (.pick (.t 10) (.c (.bool true)) (.t 16)),
 O 18 (.mv (.t 17)),
 G 19 (.faddr 0 (.t 1)) 18 false,
 G 20 (.load false 1 (.t 19)) 18 false,
 G 21 (.mv (.t 3)) 18 false,
 G 22 (.call 173 [.t 20, .t 21]) 18 false,
 O 23 (.pick (.t 18) (.c (.bool true)) (.t 22))])
 (.cond (.t 23) (.seq (.region false [O 2 (.mv (.c (.bool false)))])
 (.ret)) (.skip)))
 (.seq (.seq (.region false [O 4 (.mv (.c (.int .i64 1)))])
 (.block 0 (.loop (.seq (.seq (.region false [O 24 (.mv (.t 4)),
 O 25 (.faddr 0 (.t 1)),
 O 26 (.load false 1 (.t 25)),
 O 27 (.len (.t 26)),
 O 28 (.bin .lss (.t 24) (.t 27))])
 (.cond (.t 28) (.skip) (.exit 0)))
 (.seq (.block 1 (.seq (.region true [O 31 (.faddr 0 (.t 1)),
 O 32 (.load false 1 (.t 31)),
 O 33 (.mv (.t 4)),
 O 34 (.bin .sub (.t 33) (.c (.int .i64 1))),
 O 35 (.ixsl 2 (.t 32) (.t 34)),
 O 36 (.load true 2 (.t 35)),
 O 37 (.faddr 0 (.t 1)),
 O 38 (.load false 1 (.t 37)),
 O 39 (.mv (.t 4)),
 O 40 (.ixsl 2 (.t 38) (.t 39)),
 O 41 (.load true 2 (.t 40)),
 O 42 (.callp 174 [.t 36, .t 41]),
 O 43 (.bin .geq (.t 42) (.c (.int .i64 0)))])
 (.cond (.t 43) (.seq (.region false [O 2 (.mv (.c (.bool false)))])
 (.ret)) (.skip))))
 (.region false [O 29 (.mv (.t 4)),
 O 30 (.bin .add (.t 29) (.c (.int .i64 1))),
 O 4 (.mv (.t 30))]))))))
 (.seq (.region false [O 2 (.mv (.c (.bool true)))])
 (.ret)))))) }
def realm_lines : PF := { ntmps := 16, raw := false, split := false, res := [.tmp 2], body := (
  .seq (.region false [O 1 (.box true (.t 0)),
 O 2 (.mv (.c (.bool false)))])
 (.seq (.region false [O 4 (.mkfn 175 [] [.t 1]),
 O 3 (.mv (.t 4))])
 (.seq (.region false [O 5 (.faddr 1 (.t 1)),
 O 6 (.load false 1 (.t 5)),
 O 7 (.len (.t 6)),
 O 8 (.call 164 [.t 7, (.c (.int .i64 1)), (.c (.int .i64 8))]),
 O 9 (.mv (.t 8)),
 G 10 (.faddr 1 (.t 1)) 9 true,
 G 11 (.load false 1 (.t 10)) 9 true,
 G 12 (.mv (.t 3)) 9 true,
 G 13 (.call 111 [.t 11, .t 12]) 9 true,
 G 14 (.un .not (.t 13)) 9 true,
 O 15 (.pick (.t 9) (.t 14) (.c (.bool false))),
 O 2 (.mv (.t 15))])
 (.ret)))) }
def realm_accounts : PF := { ntmps := 20, raw := false, split := false, res := [.tmp 2], body := (
  .seq (.region false [O 1 (.box true (.t 0)),
 O 2 (.mv (.c (.bool false)))])
 (.seq (.region false [O 3 (.mv (.c (.fn 176 [] [])))])
 (.seq (.region false [O 4 (.faddr 2 (.t 1)),
 O 5 (.load false 1 (.t 4)),
 O 6 (.len (.t 5)),
 O 7 (.call 164 [.t 6, (.c (.int .i64 1)), (.c (.int .i64 8))]),
 O 8 (.mv (.t 7)),
 G 9 (.faddr 2 (.t 1)) 8 true,
 G 10 (.load false 1 (.t 9)) 8 true,
 G 11 (.mv (.t 3)) 8 true,
 G 12 (.call 177 [.t 10, .t 11]) 8 true,
 G 13 (.un .not (.t 12)) 8 true,
 O 14 (.pick (.t 8) (.t 13) (.c (.bool false))),
 O 15 (.mv (.t 14)),
 G 16 (.load true 9 (.t 1)) 15 true,
 G 17 (.call 178 [.t 16]) 15 true,
 G 18 (.call 179 [.t 17]) 15 true,
 O 19 (.pick (.t 15) (.t 18) (.c (.bool false))),
 O 2 (.mv (.t 19))])
 (.ret)))) }
def realm_guilds : PF := { ntmps := 67, raw := false, split := false, res := [.tmp 2], body := (
  .seq (.region false [O 1 (.box true (.t 0)),
 O 2 (.mv (.c (.bool false)))])
 (.seq (.region false [O 3 (.pend 1),
 O 3 (.init false 1 3 (.c (.int .u64 0)))])
 (.seq (.region false [O 4 (.mv (.c (.int .i64 (-1))))])
 (.seq (.seq (.region false [O 10 (.faddr 3 (.t 1)),
 O 11 (.load false 1 (.t 10)),
 O 12 (.len (.t 11)),
 O 13 (.mv (.c (.int .i64 0)))])
 (.block 0 (.loop (.seq (.region false [O 14 (.bin .lss (.t 13) (.t 12))])
 (.seq (.cond (.t 14) (.skip) (.exit 0))
 (.seq (.block 1 (.seq (.region false [O 15 (.ixsl 2 (.t 11) (.t 13)),
 O 16 (.load true 2 (.t 15)),
 O 6 (.pend 2),
 O 6 (.init true 2 6 (.t 16))])
 (.seq (.region false [O 18 (.faddr 0 (.t 6)),
 O 19 (.load false 1 (.t 18)),
 O 20 (.call 144 [.t 19]),
 O 17 (.mv (.t 20)),
 O 21 (.ext (.t 17) 0),
 O 22 (.ext (.t 17) 1),
 O 7 (.pend 2),
 O 7 (.init true 2 7 (.t 21)),
 O 8 (.mv (.t 22))])
 (.seq (.seq (.region false [O 23 (.mv (.t 8)),
 O 24 (.bin .neq (.t 23) (.c (.int .i64 0))),
 O 25 (.mv (.t 24)),
 G 26 (.faddr 0 (.t 6)) 25 false,
 G 27 (.load false 1 (.t 26)) 25 false,
 G 28 (.mv (.t 4)) 25 false,
 G 29 (.bin .leq (.t 27) (.t 28)) 25 false,
 O 30 (.pick (.t 25) (.c (.bool true)) (.t 29)),
 O 31 (.mv (.t 30)),
 G 32 (.faddr 1 (.t 6)) 31 false,
 G 33 (.load false 1 (.t 32)) 31 false,
 G 34 (.faddr 2 (.t 1)) 31 false,
 G 35 (.load false 1 (.t 34)) 31 false,
 G 36 (.len (.t 35)) 31 false,
 G 37 (.bin .sub (.t 36) (.c (.int .i64 1))) 31 false,
 G 38 (.call 164 [.t 33, (.c (.int .i64 0)), .t 37]) 31 false,
 G 39 (.un .not (.t 38)) 31 false,
 O 40 (.pick (.t 31) (.c (.bool true)) (.t 39)),
 O 41 (.mv (.t 40)),
 G 42 (.faddr 0 (.t 1)) 41 false,
 G 43 (.load false 1 (.t 42)) 41 false,
 G 44 (.load true 2 (.t 7)) 41 false,
 G 45 (.call 180 [.t 43, .t 44]) 41 false,
 G 46 (.un .not (.t 45)) 41 false,
 O 47 (.pick (.t 41) (.c (.bool true)) (.t 46))])
 (.cond (.t 47) (.seq (.region false [O 2 (.mv (.c (.bool false)))])
 (.ret)) (.skip)))
 (.seq (.region false [O 48 (.faddr 0 (.t 6)),
 O 49 (.load false 1 (.t 48)),
 O 4 (.mv (.t 49))])
 (.region false [O 50 (.load false 1 (.t 3)),
 O 51 (.faddr 1 (.t 7)),
 O 52 (.load false 1 (.t 51)),
 O 53 (.bin .or (.t 50) (.t 52)),
 ⟨none, .store 1 (.t 3) (.t 53), none, 0, 0⟩]))))))
 (.region false [O 54 (.bin .add (.t 13) (.c (.int .i64 1))),
 O 13 (.mv (.t 54))])))))))
 (.seq (.region false [O 55 (.mkfn 181 [] [.t 3]),
 O 9 (.mv (.t 55))])
 (.seq (.region false [O 56 (.faddr 3 (.t 1)),
 O 57 (.load false 1 (.t 56)),
 O 58 (.len (.t 57)),
 O 59 (.bin .leq (.t 58) (.c (.int .i64 8))),
 O 60 (.mv (.t 59)),
 G 61 (.faddr 0 (.t 1)) 60 true,
 G 62 (.load false 1 (.t 61)) 60 true,
 G 63 (.mv (.t 9)) 60 true,
 G 64 (.call 173 [.t 62, .t 63]) 60 true,
 G 65 (.un .not (.t 64)) 60 true,
 O 66 (.pick (.t 60) (.t 65) (.c (.bool false))),
 O 2 (.mv (.t 66))])
 (.ret))))))) }
def realm_quotas : PF := { ntmps := 44, raw := false, split := false, res := [.tmp 2], body := (
  .seq (.region false [O 1 (.box true (.t 0)),
 O 2 (.mv (.c (.bool false)))])
 (.seq (.seq (.region false [O 7 (.faddr 4 (.t 1)),
 O 8 (.load false 1 (.t 7)),
 O 9 (.len (.t 8)),
 O 10 (.faddr 0 (.t 1)),
 O 11 (.load false 1 (.t 10)),
 O 12 (.len (.t 11)),
 O 13 (.bin .neq (.t 9) (.t 12)),
 O 14 (.mv (.t 13)),
 G 15 (.faddr 4 (.t 1)) 14 false,
 G 16 (.load false 1 (.t 15)) 14 false,
 G 17 (.ixsl 6 (.t 16) (.c (.int .i64 0))) 14 false,
 G 18 (.faddr 0 (.t 17)) 14 false,
 G 19 (.load false 1 (.t 18)) 14 false,
 G 20 (.bin .lss (.t 19) (.c (.int .i64 1))) 14 false,
 O 21 (.pick (.t 14) (.c (.bool true)) (.t 20))])
 (.cond (.t 21) (.seq (.region false [O 2 (.mv (.c (.bool false)))])
 (.ret)) (.skip)))
 (.seq (.region false [O 3 (.mv (.c (.int .u64 4611686018427387904)))])
 (.seq (.seq (.region false [O 22 (.faddr 4 (.t 1)),
 O 23 (.load false 1 (.t 22)),
 O 24 (.len (.t 23)),
 O 25 (.mv (.c (.int .i64 0)))])
 (.block 0 (.loop (.seq (.region false [O 26 (.bin .lss (.t 25) (.t 24))])
 (.seq (.cond (.t 26) (.skip) (.exit 0))
 (.seq (.block 1 (.seq (.region false [O 27 (.ixsl 6 (.t 23) (.t 25)),
 O 28 (.load true 6 (.t 27)),
 O 5 (.pend 6),
 O 5 (.init true 6 5 (.t 28))])
 (.seq (.region false [O 6 (.mv (.c (.fn 182 [] [])))])
 (.seq (.seq (.region false [O 29 (.faddr 5 (.t 5)),
 O 30 (.load false 1 (.t 29)),
 O 31 (.mv (.t 3)),
 O 32 (.bin .gtr (.t 30) (.t 31)),
 O 33 (.mv (.t 32)),
 G 34 (.load true 6 (.t 5)) 33 false,
 G 35 (.call 183 [.t 34]) 33 false,
 G 36 (.mv (.t 6)) 33 false,
 G 37 (.call 111 [.t 35, .t 36]) 33 false,
 O 38 (.pick (.t 33) (.c (.bool true)) (.t 37))])
 (.cond (.t 38) (.seq (.region false [O 2 (.mv (.c (.bool false)))])
 (.ret)) (.skip)))
 (.region false [O 39 (.mv (.t 3)),
 O 40 (.faddr 5 (.t 5)),
 O 41 (.load false 1 (.t 40)),
 O 42 (.bin .sub (.t 39) (.t 41)),
 O 3 (.mv (.t 42))])))))
 (.region false [O 43 (.bin .add (.t 25) (.c (.int .i64 1))),
 O 25 (.mv (.t 43))])))))))
 (.seq (.region false [O 2 (.mv (.c (.bool true)))])
 (.ret)))))) }
def realm_rest : PF := { ntmps := 21, raw := false, split := false, res := [.tmp 2], body := (
  .seq (.region false [O 1 (.box true (.t 0)),
 O 2 (.mv (.c (.bool false)))])
 (.seq (.region false [O 3 (.faddr 5 (.t 1)),
 O 4 (.load false 1 (.t 3)),
 O 5 (.call 164 [.t 4, (.c (.int .i64 0)), (.c (.int .i64 24))]),
 O 6 (.mv (.t 5)),
 G 7 (.faddr 6 (.t 1)) 6 true,
 G 8 (.load false 1 (.t 7)) 6 true,
 G 9 (.call 164 [.t 8, (.c (.int .i64 0)), (.c (.int .i64 48))]) 6 true,
 O 10 (.pick (.t 6) (.t 9) (.c (.bool false))),
 O 11 (.mv (.t 10)),
 G 12 (.faddr 7 (.t 1)) 11 true,
 G 13 (.load false 1 (.t 12)) 11 true,
 G 14 (.call 164 [.t 13, (.c (.int .i64 1)), (.c (.int .i64 4))]) 11 true,
 O 15 (.pick (.t 11) (.t 14) (.c (.bool false))),
 O 16 (.mv (.t 15)),
 G 17 (.faddr 8 (.t 1)) 16 true,
 G 18 (.load false 1 (.t 17)) 16 true,
 G 19 (.call 164 [.t 18, (.c (.int .i64 1)), (.c (.int .i64 16))]) 16 true,
 O 20 (.pick (.t 16) (.t 19) (.c (.bool false))),
 O 2 (.mv (.t 20))])
 (.ret))) }
def thing_Make : PF := { ntmps := 35, raw := false, split := false, res := [.tmp 6, .tmp 7, .tmp 8], body := (
  .seq (.region false [O 6 (.mv (.c (.sl .nil []))),
 O 7 (.mv (.c (.int .i64 0))),
 O 8 (.mv (.c (.int .i64 0)))])
 (.seq (.region false [O 10 (.mv (.t 2)),
 O 11 (.build [.int .i64 0, .int .i64 0, .int .i64 0, .int .i64 0] [(0, 1, (.c (.int .i64 1))), (1, 1, (.t 10))]),
 O 9 (.pend 4),
 O 9 (.init true 4 9 (.t 11))])
 (.seq (.block 0 (.seq (.region false [O 13 (.mv (.t 0)),
 O 14 (.call 107 [.t 13]),
 O 15 (.un .not (.t 14)),
 O 16 (.mv (.t 15)),
 G 17 (.load true 4 (.t 9)) 16 false,
 G 18 (.call 165 [.t 17]) 16 false,
 G 19 (.un .not (.t 18)) 16 false,
 O 20 (.pick (.t 16) (.c (.bool true)) (.t 19)),
 O 12 (.mv (.t 20))])
 (.cond (.t 12) (.seq (.region false [O 6 (.mv (.c (.sl .nil []))),
 O 7 (.mv (.c (.int .i64 0))),
 O 8 (.mv (.c (.int .i64 1)))])
 (.ret)) (.seq (.region false [O 22 (.mv (.t 1)),
 O 23 (.call 166 [.t 22]),
 O 24 (.un .not (.t 23)),
 O 21 (.mv (.t 24))])
 (.cond (.t 21) (.seq (.region false [O 6 (.mv (.c (.sl .nil []))),
 O 7 (.mv (.c (.int .i64 0))),
 O 8 (.mv (.c (.int .i64 2)))])
 (.ret)) (.skip))))))
 (.seq (.region true [O 25 (.mv (.t 0)),
 O 26 (.callp 167 [.t 25]),
 O 27 (.mv (.t 1)),
 O 28 (.build [.bool false, .str ⟨#[]⟩, .int .i64 0, .int .i64 0, .int .i64 0, .int .i64 0] [(0, 1, (.c (.bool true))), (1, 1, (.t 27))]),
 O 29 (.load true 4 (.t 9)),
 O 30 (.callp 168 [.t 28, .t 29]),
 O 31 (.callp 169 [.t 26, .t 30]),
 O 32 (.ext (.t 31) 0),
 O 33 (.ext (.t 31) 1),
 O 34 (.ext (.t 31) 2),
 O 6 (.mv (.t 32)),
 O 7 (.mv (.t 33)),
 O 8 (.mv (.t 34))])
 (.ret))))) }
def state_Clone_raw : PF := { ntmps := 85, raw := true, split := false, res := [.cell 2 true 6], body := (
  .seq (.region false [O 1 (.box false (.t 0)),
 O 2 (.alloc false [.int .u64 0, .sl .nil [], .sl .nil [], .sl .nil [], .sl .nil [], .sl .nil []])])
 (.seq (.region true [O 7 (.faddr 3 (.t 1)),
 O 8 (.load false 1 (.t 7)),
 O 9 (.callp 145 [.t 8]),
 O 10 (.faddr 4 (.t 1)),
 O 11 (.load false 1 (.t 10)),
 O 12 (.callp 146 [.t 11]),
 O 13 (.faddr 5 (.t 1)),
 O 14 (.load false 1 (.t 13)),
 O 15 (.callp 147 [.t 14]),
 O 16 (.faddr 3 (.t 1)),
 ⟨none, .store 1 (.t 16) (.t 9), none, 0, 0⟩,
 O 17 (.faddr 4 (.t 1)),
 ⟨none, .store 1 (.t 17) (.t 12), none, 0, 0⟩,
 O 18 (.faddr 5 (.t 1)),
 ⟨none, .store 1 (.t 18) (.t 15), none, 0, 0⟩])
 (.seq (.region false [O 19 (.faddr 2 (.t 1)),
 O 20 (.load false 1 (.t 19)),
 O 21 (.call 269 [.t 20]),
 O 22 (.faddr 2 (.t 1)),
 ⟨none, .store 1 (.t 22) (.t 21), none, 0, 0⟩])
 (.seq (.seq (.region false [O 23 (.faddr 2 (.t 1)),
 O 24 (.load false 1 (.t 23)),
 O 25 (.len (.t 24)),
 O 26 (.mv (.c (.int .i64 0)))])
 (.block 0 (.loop (.seq (.region false [O 27 (.bin .lss (.t 26) (.t 25))])
 (.seq (.cond (.t 27) (.skip) (.exit 0))
 (.seq (.block 1 (.seq (.region false [O 28 (.mv (.t 26)),
 O 29 (.ixsl 1 (.t 24) (.t 26)),
 O 30 (.load false 1 (.t 29)),
 O 3 (.mv (.t 28)),
 O 4 (.mv (.t 30))])
 (.region true [O 31 (.faddr 2 (.t 1)),
 O 32 (.load false 1 (.t 31)),
 O 33 (.mv (.t 3)),
 O 34 (.mv (.t 4)),
 O 35 (.callp 147 [.t 34]),
 O 36 (.ixsl 1 (.t 32) (.t 33)),
 ⟨none, .store 1 (.t 36) (.t 35), none, 0, 0⟩])))
 (.region false [O 37 (.bin .add (.t 26) (.c (.int .i64 1))),
 O 26 (.mv (.t 37))])))))))
 (.seq (.region false [O 38 (.faddr 1 (.t 1)),
 O 39 (.load false 1 (.t 38)),
 O 40 (.call 270 [.t 39]),
 O 41 (.faddr 1 (.t 1)),
 ⟨none, .store 1 (.t 41) (.t 40), none, 0, 0⟩])
 (.seq (.seq (.region false [O 42 (.faddr 1 (.t 1)),
 O 43 (.load false 1 (.t 42)),
 O 44 (.len (.t 43)),
 O 45 (.mv (.c (.int .i64 0)))])
 (.block 2 (.loop (.seq (.region false [O 46 (.bin .lss (.t 45) (.t 44))])
 (.seq (.cond (.t 46) (.skip) (.exit 2))
 (.seq (.block 3 (.seq (.region false [O 47 (.mv (.t 45)),
 O 48 (.ixsl 15 (.t 43) (.t 45)),
 O 49 (.load true 15 (.t 48)),
 O 6 (.pend 15),
 O 5 (.mv (.t 47)),
 O 6 (.init false 15 6 (.t 49))])
 (.seq (.region true [O 50 (.faddr 0 (.t 6)),
 O 51 (.load false 1 (.t 50)),
 O 52 (.callp 150 [.t 51]),
 O 53 (.faddr 1 (.t 6)),
 O 54 (.load false 1 (.t 53)),
 O 55 (.callp 151 [.t 54]),
 O 56 (.faddr 2 (.t 6)),
 O 57 (.load false 1 (.t 56)),
 O 58 (.callp 152 [.t 57]),
 O 59 (.faddr 0 (.t 6)),
 ⟨none, .store 1 (.t 59) (.t 52), none, 0, 0⟩,
 O 60 (.faddr 1 (.t 6)),
 ⟨none, .store 1 (.t 60) (.t 55), none, 0, 0⟩,
 O 61 (.faddr 2 (.t 6)),
 ⟨none, .store 1 (.t 61) (.t 58), none, 0, 0⟩])
 (.seq (.region true [O 62 (.faddr 3 (.t 6)),
 O 63 (.load false 1 (.t 62)),
 O 64 (.callp 153 [.t 63]),
 O 65 (.faddr 4 (.t 6)),
 O 66 (.load false 1 (.t 65)),
 O 67 (.callp 134 [.t 66]),
 O 68 (.faddr 3 (.t 6)),
 ⟨none, .store 1 (.t 68) (.t 64), none, 0, 0⟩,
 O 69 (.faddr 4 (.t 6)),
 ⟨none, .store 1 (.t 69) (.t 67), none, 0, 0⟩])
 (.seq (.region true [O 70 (.faddr 5 (.t 6)),
 O 71 (.load false 1 (.t 70)),
 O 72 (.callp 154 [.t 71]),
 O 73 (.faddr 6 (.t 6)),
 O 74 (.load false 1 (.t 73)),
 O 75 (.callp 155 [.t 74]),
 O 76 (.faddr 5 (.t 6)),
 ⟨none, .store 1 (.t 76) (.t 72), none, 0, 0⟩,
 O 77 (.faddr 6 (.t 6)),
 ⟨none, .store 1 (.t 77) (.t 75), none, 0, 0⟩])
 (.region false [O 78 (.faddr 1 (.t 1)),
 O 79 (.load false 1 (.t 78)),
 O 80 (.mv (.t 5)),
 O 81 (.load true 15 (.t 6)),
 O 82 (.ixsl 15 (.t 79) (.t 80)),
 ⟨none, .store 15 (.t 82) (.t 81), none, 0, 0⟩]))))))
 (.region false [O 83 (.bin .add (.t 45) (.c (.int .i64 1))),
 O 45 (.mv (.t 83))])))))))
 (.seq (.region false [O 84 (.load true 6 (.t 1)),
 ⟨none, .store 6 (.t 2) (.t 84), none, 0, 0⟩])
 (.ret)))))))) }
def thing_inHand : PF := { ntmps := 5, raw := false, split := false, res := [.cell 2 true 4], body := (
  .seq (.region false [O 2 (.alloc false [.int .i64 0, .int .i64 0, .int .i64 0, .int .i64 0])])
 (.seq (.region false [O 3 (.mv (.t 0)),
 O 4 (.build [.int .i64 0, .int .i64 0, .int .i64 0, .int .i64 0] [(0, 1, (.c (.int .i64 1))), (1, 1, (.t 3))]),
 ⟨none, .store 4 (.t 2) (.t 4), none, 0, 0⟩])
 (.ret))) }
def thing_slots : PF := { ntmps := 29, raw := false, split := false, res := [.tmp 4], body := (
  .seq (.region false [O 3 (.box true (.t 1)),
 O 4 (.mv (.c (.sl .nil [])))])
 (.seq (.region false [O 5 (.mv (.c (.sl .nil [])))])
 (.seq (.seq (.region false [O 8 (.mv (.t 0)),
 O 9 (.len (.t 8)),
 O 10 (.mv (.c (.int .i64 0)))])
 (.block 0 (.loop (.seq (.region false [O 11 (.bin .lss (.t 10) (.t 9))])
 (.seq (.cond (.t 11) (.skip) (.exit 0))
 (.seq (.block 1 (.seq (.region false [O 12 (.mv (.t 10)),
 O 13 (.ixsl 6 (.t 8) (.t 10)),
 O 14 (.load true 6 (.t 13)),
 O 7 (.pend 6),
 O 6 (.mv (.t 12)),
 O 7 (.init true 6 7 (.t 14))])
 (.seq (.region true [O 15 (.faddr 0 (.t 7)),
 O 16 (.load false 1 (.t 15)),
 O 17 (.mv (.t 16)),
 G 18 (.load true 6 (.t 7)) 17 true,
 G 19 (.callp 163 [.t 18]) 17 true,
 G 20 (.load true 4 (.t 3)) 17 true,
 G 21 (.eqs [.i, .i, .i, .i] false (.t 19) (.t 20)) 17 true,
 O 22 (.pick (.t 17) (.t 21) (.c (.bool false)))])
 (.cond (.t 22) (.region false [O 23 (.mv (.t 5)),
 O 24 (.mv (.t 6)),
 O 25 (.bslice true 1 1 [.int .i64 0] [(0, (.t 24))]),
 O 26 (.append false 1 8 (.t 23) (.t 25)),
 O 5 (.mv (.t 26))]) (.skip)))))
 (.region false [O 27 (.bin .add (.t 10) (.c (.int .i64 1))),
 O 10 (.mv (.t 27))])))))))
 (.seq (.region false [O 28 (.mv (.t 5)),
 O 4 (.mv (.t 28))])
 (.ret))))) }
def thing_Drop : PF := { ntmps := 19, raw := false, split := false, res := [.tmp 8, .tmp 9], body := (
  .seq (.region false [O 7 (.box true (.t 3)),
 O 8 (.mv (.c (.sl .nil []))),
 O 9 (.mv (.c (.int .i64 0)))])
 (.seq (.region true [O 10 (.mv (.t 0)),
 O 11 (.mv (.t 1)),
 O 12 (.mv (.t 2)),
 O 13 (.callp 88 [.t 12]),
 O 14 (.load true 2 (.t 7)),
 O 15 (.callp 91 [.t 14]),
 O 16 (.callp 170 [.t 10, .t 11, .t 13, .t 15]),
 O 17 (.ext (.t 16) 0),
 O 18 (.ext (.t 16) 1),
 O 8 (.mv (.t 17)),
 O 9 (.mv (.t 18))])
 (.ret))) }
def realm_isPlace : PF := { ntmps := 15, raw := false, split := false, res := [.tmp 4], body := (
  .seq (.region false [O 2 (.box true (.t 0)),
 O 4 (.mv (.c (.bool false)))])
 (.seq (.region false [O 5 (.load true 9 (.t 2)),
 O 6 (.call 42 [.t 5]),
 O 7 (.mv (.t 6)),
 G 8 (.mv (.t 1)) 7 true,
 G 9 (.faddr 0 (.t 2)) 7 true,
 G 10 (.load false 1 (.t 9)) 7 true,
 G 11 (.len (.t 10)) 7 true,
 G 12 (.bin .sub (.t 11) (.c (.int .i64 1))) 7 true,
 G 13 (.call 164 [.t 8, (.c (.int .i64 0)), .t 12]) 7 true,
 O 14 (.pick (.t 7) (.t 13) (.c (.bool false))),
 O 4 (.mv (.t 14))])
 (.ret))) }
def thing_inRoom : PF := { ntmps := 5, raw := false, split := false, res := [.cell 2 true 4], body := (
  .seq (.region false [O 1 (.box true (.t 0)),
 O 2 (.alloc false [.int .i64 0, .int .i64 0, .int .i64 0, .int .i64 0])])
 (.seq (.region false [O 3 (.load true 2 (.t 1)),
 O 4 (.build [.int .i64 0, .int .i64 0, .int .i64 0, .int .i64 0] [(0, 1, (.c (.int .i64 2))), (2, 2, (.t 3))]),
 ⟨none, .store 4 (.t 2) (.t 4), none, 0, 0⟩])
 (.ret))) }
def thing_Take : PF := { ntmps := 19, raw := false, split := false, res := [.tmp 8, .tmp 9], body := (
  .seq (.region false [O 7 (.box true (.t 3)),
 O 8 (.mv (.c (.sl .nil []))),
 O 9 (.mv (.c (.int .i64 0)))])
 (.seq (.region false [O 10 (.mv (.t 0)),
 O 11 (.mv (.t 1)),
 O 12 (.load true 2 (.t 7)),
 O 13 (.call 91 [.t 12]),
 O 14 (.mv (.t 2)),
 O 15 (.call 88 [.t 14]),
 O 16 (.call 170 [.t 10, .t 11, .t 13, .t 15]),
 O 17 (.ext (.t 16) 0),
 O 18 (.ext (.t 16) 1),
 O 8 (.mv (.t 17)),
 O 9 (.mv (.t 18))])
 (.ret))) }
def thing_Pass : PF := { ntmps := 19, raw := false, split := false, res := [.tmp 8, .tmp 9], body := (
  .seq (.region false [O 8 (.mv (.c (.sl .nil []))),
 O 9 (.mv (.c (.int .i64 0)))])
 (.seq (.region false [O 10 (.mv (.t 0)),
 O 11 (.mv (.t 1)),
 O 12 (.mv (.t 2)),
 O 13 (.call 88 [.t 12]),
 O 14 (.mv (.t 3)),
 O 15 (.call 88 [.t 14]),
 O 16 (.call 170 [.t 10, .t 11, .t 13, .t 15]),
 O 17 (.ext (.t 16) 0),
 O 18 (.ext (.t 16) 1),
 O 8 (.mv (.t 17)),
 O 9 (.mv (.t 18))])
 (.ret))) }
def thing_Scrap : PF := { ntmps := 30, raw := false, split := false, res := [.tmp 6, .tmp 7], body := (
  .seq (.region false [O 6 (.mv (.c (.sl .nil []))),
 O 7 (.mv (.c (.int .i64 0)))])
 (.seq (.seq (.region false [O 11 (.mv (.t 0)),
 O 12 (.mv (.t 1)),
 O 13 (.mv (.t 2)),
 O 14 (.call 88 [.t 13]),
 O 15 (.mv (.t 2)),
 O 16 (.call 88 [.t 15]),
 O 17 (.call 170 [.t 11, .t 12, .t 14, .t 16]),
 O 10 (.mv (.t 17)),
 O 18 (.ext (.t 10) 0),
 O 19 (.ext (.t 10) 1),
 O 8 (.mv (.t 18)),
 O 9 (.mv (.t 19))])
 (.seq (.region false [O 20 (.mv (.t 9)),
 O 21 (.bin .neq (.t 20) (.c (.int .i64 0)))])
 (.cond (.t 21) (.seq (.region false [O 22 (.mv (.t 9)),
 O 6 (.mv (.c (.sl .nil []))),
 O 7 (.mv (.t 22))])
 (.ret)) (.skip))))
 (.seq (.region false [O 23 (.mv (.t 0)),
 O 24 (.call 167 [.t 23]),
 O 25 (.mv (.t 1)),
 O 26 (.build [.bool false, .str ⟨#[]⟩, .int .i64 0, .int .i64 0, .int .i64 0, .int .i64 0] []),
 O 27 (.call 171 [.t 24, .t 25, .t 26]),
 O 28 (.ext (.t 27) 0),
 O 29 (.ext (.t 27) 1),
 O 6 (.mv (.t 28)),
 O 7 (.mv (.t 29))])
 (.ret)))) }
def state_all_Shelf : PF := { ntmps := 9, raw := false, split := false, res := [.tmp 4], body := (
  .seq (.region false [O 3 (.box true (.t 1)),
 O 4 (.mv (.c (.bool false)))])
 (.seq (.region false [O 5 (.mv (.t 0)),
 O 6 (.mkfn 103 [] [.t 3]),
 O 7 (.call 104 [.t 5, .t 6]),
 O 8 (.un .not (.t 7)),
 O 4 (.mv (.t 8))])
 (.ret))) }
def state_judge_slots_1 : PF := { ntmps := 26, raw := false, split := false, res := [.tmp 2], body := (
  .seq (.region false [O 1 (.box true (.t 0)),
 O 2 (.mv (.c (.bool false)))])
 (.seq (.region false [O 3 (.faddr 0 (.t 1)),
 O 4 (.load false 1 (.t 3)),
 O 5 (.call 105 [.t 4]),
 O 6 (.mv (.t 5)),
 G 7 (.faddr 1 (.t 1)) 6 true,
 G 8 (.load false 1 (.t 7)) 6 true,
 G 9 (.call 106 [.t 8]) 6 true,
 O 10 (.pick (.t 6) (.t 9) (.c (.bool false))),
 O 11 (.mv (.t 10)),
 G 12 (.faddr 2 (.t 1)) 11 true,
 G 13 (.load false 1 (.t 12)) 11 true,
 G 14 (.call 107 [.t 13]) 11 true,
 O 15 (.pick (.t 11) (.t 14) (.c (.bool false))),
 O 16 (.mv (.t 15)),
 G 17 (.faddr 3 (.t 1)) 16 true,
 G 18 (.load false 1 (.t 17)) 16 true,
 G 19 (.call 108 [.t 18]) 16 true,
 O 20 (.pick (.t 16) (.t 19) (.c (.bool false))),
 O 21 (.mv (.t 20)),
 G 22 (.faddr 4 (.t 1)) 21 true,
 G 23 (.load false 1 (.t 22)) 21 true,
 G 24 (.call 109 [.t 23]) 21 true,
 O 25 (.pick (.t 21) (.t 24) (.c (.bool false))),
 O 2 (.mv (.t 25))])
 (.ret))) }
def hall_Right : PF := { ntmps := 50, raw := false, split := false, res := [.tmp 4], body := (
  .seq (.region false [O 2 (.box true (.t 0)),
 O 4 (.mv (.c (.bool false)))])
 (.seq (.seq (.region false [O 8 (.load true 9 (.t 2)),
 O 9 (.call 42 [.t 8]),
 O 10 (.un .not (.t 9)),
 O 11 (.mv (.t 10)),
 G 12 (.mv (.t 1)) 11 false,
 G 13 (.len (.t 12)) 11 false,
 G 14 (.faddr 3 (.t 2)) 11 false,
 G 15 (.load false 1 (.t 14)) 11 false,
 G 16 (.len (.t 15)) 11 false,
 G 17 (.bin .neq (.t 13) (.t 16)) 11 false,
 O 18 (.pick (.t 11) (.c (.bool true)) (.t 17))])
 (.cond (.t 18) (.seq (.region false [O 4 (.mv (.c (.bool false)))])
 (.ret)) (.skip)))
 (.seq (.region false [O 5 (.mv (.c (.fn 110 [] [])))])
 (.seq (.seq (.region false [O 19 (.mv (.t 1)),
 O 20 (.len (.t 19)),
 O 21 (.mv (.c (.int .i64 0)))])
 (.block 0 (.loop (.seq (.region false [O 22 (.bin .lss (.t 21) (.t 20))])
 (.seq (.cond (.t 22) (.skip) (.exit 0))
 (.seq (.block 1 (.seq (.region false [O 23 (.mv (.t 21)),
 O 24 (.ixsl 1 (.t 19) (.t 21)),
 O 25 (.load false 1 (.t 24)),
 O 6 (.mv (.t 23)),
 O 7 (.mv (.t 25))])
 (.seq (.region false [O 26 (.mv (.t 7)),
 O 27 (.len (.t 26)),
 O 28 (.faddr 2 (.t 2)),
 O 29 (.load false 1 (.t 28)),
 O 30 (.len (.t 29)),
 O 31 (.bin .neq (.t 27) (.t 30)),
 O 32 (.mv (.t 31)),
 G 33 (.mv (.t 7)) 32 false,
 G 34 (.mv (.t 5)) 32 false,
 G 35 (.call 111 [.t 33, .t 34]) 32 false,
 O 36 (.pick (.t 32) (.c (.bool true)) (.t 35)),
 O 37 (.mv (.t 36)),
 G 38 (.mv (.t 7)) 37 false,
 G 39 (.faddr 3 (.t 2)) 37 false,
 G 40 (.load false 1 (.t 39)) 37 false,
 G 41 (.mv (.t 6)) 37 false,
 G 42 (.ixsl 2 (.t 40) (.t 41)) 37 false,
 G 43 (.faddr 1 (.t 42)) 37 false,
 G 44 (.load false 1 (.t 43)) 37 false,
 G 45 (.ixsl 1 (.t 38) (.t 44)) 37 false,
 G 46 (.load false 1 (.t 45)) 37 false,
 G 47 (.bin .neq (.t 46) (.c (.int .i64 2))) 37 false,
 O 48 (.pick (.t 37) (.c (.bool true)) (.t 47))])
 (.cond (.t 48) (.seq (.region false [O 4 (.mv (.c (.bool false)))])
 (.ret)) (.skip)))))
 (.region false [O 49 (.bin .add (.t 21) (.c (.int .i64 1))),
 O 21 (.mv (.t 49))])))))))
 (.seq (.region false [O 4 (.mv (.c (.bool true)))])
 (.ret)))))) }
def book_Right : PF := { ntmps := 47, raw := false, split := false, res := [.tmp 2], body := (
  .seq (.region false [O 2 (.mv (.c (.bool false)))])
 (.seq (.region false [O 7 (.mkmap),
 O 3 (.mv (.t 7))])
 (.seq (.region false [O 4 (.mv (.c (.int .i64 0)))])
 (.seq (.seq (.region false [O 8 (.mv (.t 0)),
 O 9 (.len (.t 8)),
 O 10 (.mv (.c (.int .i64 0)))])
 (.block 0 (.loop (.seq (.region false [O 11 (.bin .lss (.t 10) (.t 9))])
 (.seq (.cond (.t 11) (.skip) (.exit 0))
 (.seq (.block 1 (.seq (.region false [O 12 (.ixsl 10 (.t 8) (.t 10)),
 O 13 (.load true 10 (.t 12)),
 O 6 (.pend 10),
 O 6 (.init true 10 6 (.t 13))])
 (.block 2 (.seq (.region false [O 15 (.faddr 0 (.t 6)),
 O 16 (.load false 1 (.t 15)),
 O 17 (.mv (.t 16)),
 G 18 (.load true 10 (.t 6)) 17 true,
 G 19 (.call 112 [.t 18]) 17 true,
 G 20 (.un .not (.t 19)) 17 true,
 O 21 (.pick (.t 17) (.t 20) (.c (.bool false))),
 O 22 (.mv (.t 21)),
 G 23 (.faddr 0 (.t 6)) 22 false,
 G 24 (.load false 1 (.t 23)) 22 false,
 G 25 (.un .not (.t 24)) 22 false,
 G 26 (.mv (.t 25)) 22 false,
 G 27 (.load true 10 (.t 6)) 26 true,
 G 28 (.build [.bool false, .int .i64 0, .int .i64 0, .int .i64 0, .int .i64 0, .int .i64 0, .int .u64 0, .int .u64 0, .int .u64 0, .int .i64 0] []) 26 true,
 G 29 (.eqs [.b, .i, .i, .i, .i, .i, .i, .i, .i, .i] true (.t 27) (.t 28)) 26 true,
 G 30 (.pick (.t 26) (.t 29) (.c (.bool false))) 22 false,
 O 31 (.pick (.t 22) (.c (.bool true)) (.t 30)),
 O 14 (.mv (.t 31))])
 (.cond (.t 14) (.seq (.region false [O 2 (.mv (.c (.bool false)))])
 (.ret)) (.seq (.region false [O 33 (.faddr 0 (.t 6)),
 O 34 (.load false 1 (.t 33)),
 O 32 (.mv (.t 34))])
 (.cond (.t 32) (.seq (.region false [O 35 (.mv (.t 3)),
 O 36 (.faddr 9 (.t 6)),
 O 37 (.load false 1 (.t 36)),
 O 38 (.lookup [.int .i64 0] false false false (.t 35) (.t 37)),
 O 39 (.bin .add (.t 38) (.c (.int .i64 1))),
 ⟨none, .mapupd false (.t 35) (.t 37) (.t 39), none, 0, 0⟩])
 (.region false [O 40 (.mv (.t 4)),
 O 41 (.bin .add (.t 40) (.c (.int .i64 1))),
 O 4 (.mv (.t 41))])) (.skip))))))))
 (.region false [O 42 (.bin .add (.t 10) (.c (.int .i64 1))),
 O 10 (.mv (.t 42))])))))))
 (.seq (.region false [O 43 (.mv (.t 3)),
 O 44 (.maplen (.t 43)),
 O 45 (.mv (.t 4)),
 O 46 (.bin .eql (.t 44) (.t 45)),
 O 2 (.mv (.t 46))])
 (.ret)))))) }
def audit_Right : PF := { ntmps := 30, raw := false, split := false, res := [.tmp 2], body := (
  .seq (.region false [O 2 (.mv (.c (.bool false)))])
 (.seq (.seq (.region false [O 5 (.mv (.t 0)),
 O 6 (.len (.t 5)),
 O 7 (.mv (.c (.int .i64 0)))])
 (.block 0 (.loop (.seq (.region false [O 8 (.bin .lss (.t 7) (.t 6))])
 (.seq (.cond (.t 8) (.skip) (.exit 0))
 (.seq (.block 1 (.seq (.region false [O 9 (.mv (.t 7)),
 O 10 (.ixsl 10 (.t 5) (.t 7)),
 O 11 (.load true 10 (.t 10)),
 O 4 (.pend 10),
 O 3 (.mv (.t 9)),
 O 4 (.init true 10 4 (.t 11))])
 (.seq (.region true [O 12 (.load true 10 (.t 4)),
 O 13 (.callp 113 [.t 12]),
 O 14 (.un .not (.t 13)),
 O 15 (.mv (.t 14)),
 G 16 (.mv (.t 3)) 15 false,
 G 17 (.bin .gtr (.t 16) (.c (.int .i64 0))) 15 false,
 G 18 (.mv (.t 17)) 15 false,
 G 19 (.mv (.t 0)) 18 true,
 G 20 (.mv (.t 3)) 18 true,
 G 21 (.bin .sub (.t 20) (.c (.int .i64 1))) 18 true,
 G 22 (.ixsl 10 (.t 19) (.t 21)) 18 true,
 G 23 (.load true 10 (.t 22)) 18 true,
 G 24 (.load true 10 (.t 4)) 18 true,
 G 25 (.callp 114 [.t 23, .t 24]) 18 true,
 G 26 (.bin .geq (.t 25) (.c (.int .i64 0))) 18 true,
 G 27 (.pick (.t 18) (.t 26) (.c (.bool false))) 15 false,
 O 28 (.pick (.t 15) (.c (.bool true)) (.t 27))])
 (.cond (.t 28) (.seq (.region false [O 2 (.mv (.c (.bool false)))])
 (.ret)) (.skip)))))
 (.region false [O 29 (.bin .add (.t 7) (.c (.int .i64 1))),
 O 7 (.mv (.t 29))])))))))
 (.seq (.region false [O 2 (.mv (.c (.bool true)))])
 (.ret)))) }
def state_there : PF := { ntmps := 48, raw := false, split := false, res := [.tmp 4], body := (
  .seq (.region false [O 2 (.box true (.t 0)),
 O 3 (.box true (.t 1)),
 O 4 (.mv (.c (.bool false)))])
 (.seq (.region true [O 5 (.faddr 0 (.t 3)),
 O 6 (.load false 1 (.t 5)),
 O 7 (.bin .geq (.t 6) (.c (.int .i64 0))),
 O 8 (.mv (.t 7)),
 G 9 (.faddr 0 (.t 3)) 8 true,
 G 10 (.load false 1 (.t 9)) 8 true,
 G 11 (.faddr 1 (.t 2)) 8 true,
 G 12 (.load false 1 (.t 11)) 8 true,
 G 13 (.len (.t 12)) 8 true,
 G 14 (.bin .lss (.t 10) (.t 13)) 8 true,
 O 15 (.pick (.t 8) (.t 14) (.c (.bool false))),
 O 16 (.mv (.t 15)),
 G 17 (.faddr 1 (.t 3)) 16 true,
 G 18 (.load false 1 (.t 17)) 16 true,
 G 19 (.bin .geq (.t 18) (.c (.int .i64 0))) 16 true,
 O 20 (.pick (.t 16) (.t 19) (.c (.bool false))),
 O 21 (.mv (.t 20)),
 G 22 (.faddr 1 (.t 3)) 21 true,
 G 23 (.load false 1 (.t 22)) 21 true,
 G 24 (.faddr 1 (.t 2)) 21 true,
 G 25 (.load false 1 (.t 24)) 21 true,
 G 26 (.faddr 0 (.t 3)) 21 true,
 G 27 (.load false 1 (.t 26)) 21 true,
 G 28 (.ixsl 15 (.t 25) (.t 27)) 21 true,
 G 29 (.faddr 0 (.t 28)) 21 true,
 G 30 (.load false 1 (.t 29)) 21 true,
 G 31 (.len (.t 30)) 21 true,
 G 32 (.bin .lss (.t 23) (.t 31)) 21 true,
 O 33 (.pick (.t 21) (.t 32) (.c (.bool false))),
 O 34 (.mv (.t 33)),
 G 35 (.faddr 1 (.t 2)) 34 true,
 G 36 (.load false 1 (.t 35)) 34 true,
 G 37 (.faddr 0 (.t 3)) 34 true,
 G 38 (.load false 1 (.t 37)) 34 true,
 G 39 (.ixsl 15 (.t 36) (.t 38)) 34 true,
 G 40 (.faddr 0 (.t 39)) 34 true,
 G 41 (.load false 1 (.t 40)) 34 true,
 G 42 (.faddr 1 (.t 3)) 34 true,
 G 43 (.load false 1 (.t 42)) 34 true,
 G 44 (.ixsl 2 (.t 41) (.t 43)) 34 true,
 G 45 (.faddr 0 (.t 44)) 34 true,
 G 46 (.load false 1 (.t 45)) 34 true,
 O 47 (.pick (.t 34) (.t 46) (.c (.bool false))),
 O 4 (.mv (.t 47))])
 (.ret))) }
def state_judge_public_1 : PF := { ntmps := 28, raw := false, split := false, res := [.tmp 3], body := (
  .seq (.region false [O 2 (.box true (.t 0)),
 O 3 (.mv (.c (.bool false)))])
 (.seq (.region false [O 4 (.faddr 0 (.t 2)),
 O 5 (.load false 1 (.t 4)),
 O 6 (.un .not (.t 5)),
 O 7 (.mv (.t 6)),
 G 8 (.load true 15 (.t 1)) 7 false,
 G 9 (.faddr 1 (.t 2)) 7 false,
 G 10 (.load false 1 (.t 9)) 7 false,
 G 11 (.call 115 [.t 8, .t 10]) 7 false,
 G 12 (.mv (.t 11)) 7 false,
 G 13 (.load true 15 (.t 1)) 12 true,
 G 14 (.faddr 2 (.t 2)) 12 true,
 G 15 (.load false 1 (.t 14)) 12 true,
 G 16 (.call 116 [.t 13, .t 15]) 12 true,
 G 17 (.pick (.t 12) (.t 16) (.c (.bool false))) 7 false,
 G 18 (.mv (.t 17)) 7 false,
 G 19 (.faddr 9 (.t 2)) 18 true,
 G 20 (.load false 1 (.t 19)) 18 true,
 G 21 (.faddr 9 (.t 1)) 18 true,
 G 22 (.faddr 4 (.t 21)) 18 true,
 G 23 (.load false 1 (.t 22)) 18 true,
 G 24 (.len (.t 23)) 18 true,
 G 25 (.bin .lss (.t 20) (.t 24)) 18 true,
 G 26 (.pick (.t 18) (.t 25) (.c (.bool false))) 7 false,
 O 27 (.pick (.t 7) (.c (.bool true)) (.t 26)),
 O 3 (.mv (.t 27))])
 (.ret))) }
def state_all_Order : PF := { ntmps := 9, raw := false, split := false, res := [.tmp 4], body := (
  .seq (.region false [O 3 (.box true (.t 1)),
 O 4 (.mv (.c (.bool false)))])
 (.seq (.region false [O 5 (.mv (.t 0)),
 O 6 (.mkfn 117 [] [.t 3]),
 O 7 (.call 118 [.t 5, .t 6]),
 O 8 (.un .not (.t 7)),
 O 4 (.mv (.t 8))])
 (.ret))) }
def state_judge_public_2 : PF := { ntmps := 37, raw := false, split := false, res := [.tmp 3], body := (
  .seq (.region false [O 2 (.box true (.t 0)),
 O 3 (.mv (.c (.bool false)))])
 (.seq (.region true [O 4 (.faddr 1 (.t 2)),
 O 5 (.load false 1 (.t 4)),
 O 6 (.faddr 0 (.t 1)),
 O 7 (.faddr 1 (.t 6)),
 O 8 (.load false 1 (.t 7)),
 O 9 (.len (.t 8)),
 O 10 (.bin .lss (.t 5) (.t 9)),
 O 11 (.mv (.t 10)),
 G 12 (.faddr 2 (.t 2)) 11 true,
 G 13 (.load false 1 (.t 12)) 11 true,
 G 14 (.faddr 0 (.t 1)) 11 true,
 G 15 (.faddr 1 (.t 14)) 11 true,
 G 16 (.load false 1 (.t 15)) 11 true,
 G 17 (.faddr 1 (.t 2)) 11 true,
 G 18 (.load false 1 (.t 17)) 11 true,
 G 19 (.ixsl 1 (.t 16) (.t 18)) 11 true,
 G 20 (.load false 1 (.t 19)) 11 true,
 G 21 (.bin .eql (.t 13) (.t 20)) 11 true,
 O 22 (.pick (.t 11) (.t 21) (.c (.bool false))),
 O 23 (.mv (.t 22)),
 G 24 (.load true 15 (.t 1)) 23 true,
 G 25 (.faddr 3 (.t 2)) 23 true,
 G 26 (.load false 1 (.t 25)) 23 true,
 G 27 (.callp 116 [.t 24, .t 26]) 23 true,
 O 28 (.pick (.t 23) (.t 27) (.c (.bool false))),
 O 29 (.mv (.t 28)),
 G 30 (.faddr 0 (.t 2)) 29 true,
 G 31 (.load false 1 (.t 30)) 29 true,
 G 32 (.faddr 9 (.t 1)) 29 true,
 G 33 (.faddr 0 (.t 32)) 29 true,
 G 34 (.load false 1 (.t 33)) 29 true,
 G 35 (.bin .leq (.t 31) (.t 34)) 29 true,
 O 36 (.pick (.t 29) (.t 35) (.c (.bool false))),
 O 3 (.mv (.t 36))])
 (.ret))) }
def state_all_Entry : PF := { ntmps := 9, raw := false, split := false, res := [.tmp 4], body := (
  .seq (.region false [O 3 (.box true (.t 1)),
 O 4 (.mv (.c (.bool false)))])
 (.seq (.region false [O 5 (.mv (.t 0)),
 O 6 (.mkfn 119 [] [.t 3]),
 O 7 (.call 120 [.t 5, .t 6]),
 O 8 (.un .not (.t 7)),
 O 4 (.mv (.t 8))])
 (.ret))) }
def state_judge_public_3 : PF := { ntmps := 11, raw := false, split := false, res := [.tmp 3], body := (
  .seq (.region false [O 3 (.mv (.c (.bool false)))])
 (.seq (.region false [O 4 (.mv (.t 0)),
 O 5 (.bin .eql (.t 4) (.c (.int .i64 (-1)))),
 O 6 (.mv (.t 5)),
 G 7 (.load true 15 (.t 1)) 6 false,
 G 8 (.mv (.t 0)) 6 false,
 G 9 (.call 116 [.t 7, .t 8]) 6 false,
 O 10 (.pick (.t 6) (.c (.bool true)) (.t 9)),
 O 3 (.mv (.t 10))])
 (.ret))) }
def state_all_int : PF := { ntmps := 9, raw := false, split := false, res := [.tmp 4], body := (
  .seq (.region false [O 3 (.box true (.t 1)),
 O 4 (.mv (.c (.bool false)))])
 (.seq (.region false [O 5 (.mv (.t 0)),
 O 6 (.mkfn 121 [] [.t 3]),
 O 7 (.call 111 [.t 5, .t 6]),
 O 8 (.un .not (.t 7)),
 O 4 (.mv (.t 8))])
 (.ret))) }
def state_judge_below : PF := { ntmps := 6, raw := false, split := false, res := [.tmp 4], body := (
  .seq (.region false [O 2 (.box true (.t 0)),
 O 3 (.box true (.t 1)),
 O 4 (.mv (.c (.nilf)))])
 (.seq (.region false [O 5 (.mkfn 122 [] [.t 2, .t 3]),
 O 4 (.mv (.t 5))])
 (.ret))) }
def state_judge_rooms_1 : PF := { ntmps := 19, raw := false, split := false, res := [.tmp 3], body := (
  .seq (.region false [O 2 (.box true (.t 0)),
 O 3 (.mv (.c (.bool false)))])
 (.seq (.region false [O 4 (.faddr 0 (.t 2)),
 O 5 (.load false 1 (.t 4)),
 O 6 (.un .not (.t 5)),
 O 7 (.mv (.t 6)),
 G 8 (.load false 1 (.t 1)) 7 false,
 G 9 (.faddr 1 (.t 2)) 7 false,
 G 10 (.load true 2 (.t 9)) 7 false,
 G 11 (.callv (.t 8) [.t 10]) 7 false,
 G 12 (.mv (.t 11)) 7 false,
 G 13 (.load false 1 (.t 1)) 12 true,
 G 14 (.faddr 3 (.t 2)) 12 true,
 G 15 (.load true 2 (.t 14)) 12 true,
 G 16 (.callv (.t 13) [.t 15]) 12 true,
 G 17 (.pick (.t 12) (.t 16) (.c (.bool false))) 7 false,
 O 18 (.pick (.t 7) (.c (.bool true)) (.t 17)),
 O 3 (.mv (.t 18))])
 (.ret))) }
def state_all_Exit : PF := { ntmps := 9, raw := false, split := false, res := [.tmp 4], body := (
  .seq (.region false [O 3 (.box true (.t 1)),
 O 4 (.mv (.c (.bool false)))])
 (.seq (.region false [O 5 (.mv (.t 0)),
 O 6 (.mkfn 123 [] [.t 3]),
 O 7 (.call 124 [.t 5, .t 6]),
 O 8 (.un .not (.t 7)),
 O 4 (.mv (.t 8))])
 (.ret))) }
def state_judge_rooms_2 : PF := { ntmps := 13, raw := false, split := false, res := [.tmp 3], body := (
  .seq (.region false [O 2 (.box true (.t 0)),
 O 3 (.mv (.c (.bool false)))])
 (.seq (.region false [O 4 (.faddr 2 (.t 2)),
 O 5 (.load false 1 (.t 4)),
 O 6 (.bin .neq (.t 5) (.c (.int .i64 2))),
 O 7 (.mv (.t 6)),
 G 8 (.load false 1 (.t 1)) 7 false,
 G 9 (.faddr 4 (.t 2)) 7 false,
 G 10 (.load true 2 (.t 9)) 7 false,
 G 11 (.callv (.t 8) [.t 10]) 7 false,
 O 12 (.pick (.t 7) (.c (.bool true)) (.t 11)),
 O 3 (.mv (.t 12))])
 (.ret))) }
def state_all_Item : PF := { ntmps := 9, raw := false, split := false, res := [.tmp 4], body := (
  .seq (.region false [O 3 (.box true (.t 1)),
 O 4 (.mv (.c (.bool false)))])
 (.seq (.region false [O 5 (.mv (.t 0)),
 O 6 (.mkfn 125 [] [.t 3]),
 O 7 (.call 126 [.t 5, .t 6]),
 O 8 (.un .not (.t 7)),
 O 4 (.mv (.t 8))])
 (.ret))) }
def state_all_Ref : PF := { ntmps := 9, raw := false, split := false, res := [.tmp 4], body := (
  .seq (.region false [O 3 (.box true (.t 1)),
 O 4 (.mv (.c (.bool false)))])
 (.seq (.region false [O 5 (.mv (.t 0)),
 O 6 (.mkfn 127 [] [.t 3]),
 O 7 (.call 128 [.t 5, .t 6]),
 O 8 (.un .not (.t 7)),
 O 4 (.mv (.t 8))])
 (.ret))) }
def state_judge_people_1 : PF := { ntmps := 13, raw := false, split := false, res := [.tmp 3], body := (
  .seq (.region false [O 2 (.box true (.t 0)),
 O 3 (.mv (.c (.bool false)))])
 (.seq (.region false [O 4 (.faddr 2 (.t 2)),
 O 5 (.load false 1 (.t 4)),
 O 6 (.bin .neq (.t 5) (.c (.int .i64 1))),
 O 7 (.mv (.t 6)),
 G 8 (.load true 15 (.t 1)) 7 false,
 G 9 (.faddr 3 (.t 2)) 7 false,
 G 10 (.load false 1 (.t 9)) 7 false,
 G 11 (.call 116 [.t 8, .t 10]) 7 false,
 O 12 (.pick (.t 7) (.c (.bool true)) (.t 11)),
 O 3 (.mv (.t 12))])
 (.ret))) }
def state_judge_people_2 : PF := { ntmps := 27, raw := false, split := false, res := [.tmp 4], body := (
  .seq (.region false [O 3 (.box true (.t 0)),
 O 4 (.mv (.c (.bool false)))])
 (.seq (.region false [O 5 (.faddr 0 (.t 3)),
 O 6 (.load false 1 (.t 5)),
 O 7 (.un .not (.t 6)),
 O 8 (.mv (.t 7)),
 G 9 (.load true 15 (.t 1)) 8 false,
 G 10 (.faddr 1 (.t 3)) 8 false,
 G 11 (.load false 1 (.t 10)) 8 false,
 G 12 (.load false 1 (.t 2)) 8 false,
 G 13 (.call 129 [.t 9, .t 11, .t 12]) 8 false,
 G 14 (.mv (.t 13)) 8 false,
 G 15 (.load true 15 (.t 1)) 14 true,
 G 16 (.faddr 2 (.t 3)) 14 true,
 G 17 (.load false 1 (.t 16)) 14 true,
 G 18 (.call 116 [.t 15, .t 17]) 14 true,
 G 19 (.pick (.t 14) (.t 18) (.c (.bool false))) 8 false,
 G 20 (.mv (.t 19)) 8 false,
 G 21 (.load true 15 (.t 1)) 20 true,
 G 22 (.faddr 3 (.t 3)) 20 true,
 G 23 (.load false 1 (.t 22)) 20 true,
 G 24 (.call 116 [.t 21, .t 23]) 20 true,
 G 25 (.pick (.t 20) (.t 24) (.c (.bool false))) 8 false,
 O 26 (.pick (.t 8) (.c (.bool true)) (.t 25)),
 O 4 (.mv (.t 26))])
 (.ret))) }
def state_all_Mail : PF := { ntmps := 9, raw := false, split := false, res := [.tmp 4], body := (
  .seq (.region false [O 3 (.box true (.t 1)),
 O 4 (.mv (.c (.bool false)))])
 (.seq (.region false [O 5 (.mv (.t 0)),
 O 6 (.mkfn 130 [] [.t 3]),
 O 7 (.call 131 [.t 5, .t 6]),
 O 8 (.un .not (.t 7)),
 O 4 (.mv (.t 8))])
 (.ret))) }
def state_judge_people_3 : PF := { ntmps := 19, raw := false, split := false, res := [.tmp 3], body := (
  .seq (.region false [O 2 (.box true (.t 0)),
 O 3 (.mv (.c (.bool false)))])
 (.seq (.region false [O 4 (.faddr 0 (.t 2)),
 O 5 (.load false 1 (.t 4)),
 O 6 (.un .not (.t 5)),
 O 7 (.mv (.t 6)),
 G 8 (.load true 15 (.t 1)) 7 false,
 G 9 (.faddr 1 (.t 2)) 7 false,
 G 10 (.load false 1 (.t 9)) 7 false,
 G 11 (.call 116 [.t 8, .t 10]) 7 false,
 G 12 (.mv (.t 11)) 7 false,
 G 13 (.load true 15 (.t 1)) 12 true,
 G 14 (.faddr 2 (.t 2)) 12 true,
 G 15 (.load false 1 (.t 14)) 12 true,
 G 16 (.call 116 [.t 13, .t 15]) 12 true,
 G 17 (.pick (.t 12) (.t 16) (.c (.bool false))) 7 false,
 O 18 (.pick (.t 7) (.c (.bool true)) (.t 17)),
 O 3 (.mv (.t 18))])
 (.ret))) }
def state_all_Trade : PF := { ntmps := 9, raw := false, split := false, res := [.tmp 4], body := (
  .seq (.region false [O 3 (.box true (.t 1)),
 O 4 (.mv (.c (.bool false)))])
 (.seq (.region false [O 5 (.mv (.t 0)),
 O 6 (.mkfn 132 [] [.t 3]),
 O 7 (.call 133 [.t 5, .t 6]),
 O 8 (.un .not (.t 7)),
 O 4 (.mv (.t 8))])
 (.ret))) }
def quota_Of_Trade : PF := { ntmps := 12, raw := false, split := false, res := [.tmp 4], body := (
  .seq (.region false [O 4 (.mv (.c (.nilp)))])
 (.seq (.seq (.region false [O 5 (.mv (.t 1)),
 O 6 (.eqk .fn false (.t 5) (.c (.nilf)))])
 (.cond (.t 6) (.seq (.region false [O 4 (.mv (.c (.nilp)))])
 (.ret)) (.skip)))
 (.seq (.region false [O 7 (.mv (.t 0)),
 O 8 (.call 134 [.t 7]),
 O 9 (.mv (.t 1)),
 O 10 (.build [.sl .nil [], .nilf] [(0, 1, (.t 8)), (1, 1, (.t 9))]),
 O 11 (.box true (.t 10)),
 O 4 (.mv (.t 11))])
 (.ret)))) }
def state_judge_deals_1 : PF := { ntmps := 5, raw := false, split := false, res := [.tmp 2], body := (
  .seq (.region false [O 1 (.box true (.t 0)),
 O 2 (.mv (.c (.bool false)))])
 (.seq (.region false [O 3 (.faddr 0 (.t 1)),
 O 4 (.load false 1 (.t 3)),
 O 2 (.mv (.t 4))])
 (.ret))) }
def quota_Row_Trade_Has : PF := { ntmps := 34, raw := false, split := false, res := [.tmp 4], body := (
  .seq (.region false [O 4 (.mv (.c (.bool false)))])
 (.seq (.region true [O 5 (.mv (.t 0)),
 O 6 (.callp 135 [.t 5]),
 O 7 (.mv (.t 6)),
 G 8 (.mv (.t 1)) 7 true,
 G 9 (.bin .geq (.t 8) (.c (.int .i64 0))) 7 true,
 O 10 (.pick (.t 7) (.t 9) (.c (.bool false))),
 O 11 (.mv (.t 10)),
 G 12 (.mv (.t 1)) 11 true,
 G 13 (.mv (.t 0)) 11 true,
 G 14 (.nilc (.t 13)) 11 true,
 G 15 (.faddr 0 (.t 14)) 11 true,
 G 16 (.load false 1 (.t 15)) 11 true,
 G 17 (.len (.t 16)) 11 true,
 G 18 (.bin .lss (.t 12) (.t 17)) 11 true,
 O 19 (.pick (.t 11) (.t 18) (.c (.bool false))),
 O 20 (.mv (.t 19)),
 G 21 (.mv (.t 0)) 20 true,
 G 22 (.nilc (.t 21)) 20 true,
 G 23 (.faddr 1 (.t 22)) 20 true,
 G 24 (.load false 1 (.t 23)) 20 true,
 G 25 (.mv (.t 0)) 20 true,
 G 26 (.nilc (.t 25)) 20 true,
 G 27 (.faddr 0 (.t 26)) 20 true,
 G 28 (.load false 1 (.t 27)) 20 true,
 G 29 (.mv (.t 1)) 20 true,
 G 30 (.ixsl 9 (.t 28) (.t 29)) 20 true,
 G 31 (.load true 9 (.t 30)) 20 true,
 G 32 (.callv (.t 24) [.t 31]) 20 true,
 O 33 (.pick (.t 20) (.t 32) (.c (.bool false))),
 O 4 (.mv (.t 33))])
 (.ret))) }
def quota_Row_Trade_Slots : PF := { ntmps := 25, raw := false, split := false, res := [.tmp 2], body := (
  .seq (.region false [O 2 (.mv (.c (.sl .nil [])))])
 (.seq (.seq (.region false [O 5 (.mv (.t 0)),
 O 6 (.call 135 [.t 5]),
 O 7 (.un .not (.t 6))])
 (.cond (.t 7) (.seq (.region false [O 2 (.mv (.c (.sl .nil [])))])
 (.ret)) (.skip)))
 (.seq (.region false [O 3 (.mv (.c (.sl .nil [])))])
 (.seq (.seq (.region false [O 8 (.mv (.t 0)),
 O 9 (.nilc (.t 8)),
 O 10 (.faddr 0 (.t 9)),
 O 11 (.load false 1 (.t 10)),
 O 12 (.len (.t 11)),
 O 13 (.mv (.c (.int .i64 0)))])
 (.block 0 (.loop (.seq (.region false [O 14 (.bin .lss (.t 13) (.t 12))])
 (.seq (.cond (.t 14) (.skip) (.exit 0))
 (.seq (.block 1 (.seq (.region false [O 15 (.mv (.t 13)),
 O 4 (.mv (.t 15))])
 (.seq (.region false [O 16 (.mv (.t 0)),
 O 17 (.mv (.t 4)),
 O 18 (.call 70 [.t 16, .t 17])])
 (.cond (.t 18) (.region false [O 19 (.mv (.t 3)),
 O 20 (.mv (.t 4)),
 O 21 (.bslice true 1 1 [.int .i64 0] [(0, (.t 20))]),
 O 22 (.append false 1 8 (.t 19) (.t 21)),
 O 3 (.mv (.t 22))]) (.skip)))))
 (.region false [O 23 (.bin .add (.t 13) (.c (.int .i64 1))),
 O 13 (.mv (.t 23))])))))))
 (.seq (.region false [O 24 (.mv (.t 3)),
 O 2 (.mv (.t 24))])
 (.ret)))))) }
def state_Held : PF := { ntmps := 70, raw := false, split := false, res := [.tmp 4, .tmp 5], body := (
  .seq (.region false [O 2 (.box true (.t 0)),
 O 4 (.mv (.c (.int .u64 0))),
 O 5 (.mv (.c (.int .i64 0)))])
 (.seq (.seq (.region false [O 15 (.mv (.t 1)),
 O 16 (.call 136 [.t 15]),
 O 17 (.un .not (.t 16))])
 (.cond (.t 17) (.seq (.region false [O 4 (.mv (.c (.int .u64 0))),
 O 5 (.mv (.c (.int .i64 1)))])
 (.ret)) (.skip)))
 (.seq (.region false [O 19 (.faddr 3 (.t 2)),
 O 20 (.load false 1 (.t 19)),
 O 21 (.mv (.t 1)),
 O 22 (.call 137 [.t 20, .t 21]),
 O 18 (.mv (.t 22)),
 O 23 (.ext (.t 18) 0),
 O 24 (.ext (.t 18) 1),
 O 6 (.mv (.t 23)),
 O 7 (.mv (.t 24))])
 (.seq (.seq (.region false [O 25 (.mv (.t 7)),
 O 26 (.bin .neq (.t 25) (.c (.int .i64 0)))])
 (.cond (.t 26) (.seq (.region false [O 27 (.mv (.t 7)),
 O 4 (.mv (.c (.int .u64 0))),
 O 5 (.mv (.t 27))])
 (.ret)) (.skip)))
 (.seq (.region false [O 28 (.mv (.t 6)),
 O 29 (.bslice true 1 1 [.int .u64 0] [(0, (.t 28))]),
 O 8 (.mv (.t 29))])
 (.seq (.seq (.region false [O 30 (.faddr 1 (.t 2)),
 O 31 (.load false 1 (.t 30)),
 O 32 (.len (.t 31)),
 O 33 (.mv (.c (.int .i64 0)))])
 (.block 0 (.loop (.seq (.region false [O 34 (.bin .lss (.t 33) (.t 32))])
 (.seq (.cond (.t 34) (.skip) (.exit 0))
 (.seq (.block 1 (.seq (.region false [O 35 (.ixsl 15 (.t 31) (.t 33)),
 O 36 (.load true 15 (.t 35)),
 O 10 (.pend 15),
 O 10 (.init true 15 10 (.t 36))])
 (.seq (.region false [O 38 (.faddr 4 (.t 10)),
 O 39 (.load false 1 (.t 38)),
 O 40 (.mv (.t 1)),
 O 41 (.call 138 [.t 39, .t 40]),
 O 37 (.mv (.t 41)),
 O 42 (.ext (.t 37) 0),
 O 43 (.ext (.t 37) 1),
 O 11 (.mv (.t 42)),
 O 12 (.mv (.t 43))])
 (.seq (.seq (.region false [O 44 (.mv (.t 12)),
 O 45 (.bin .neq (.t 44) (.c (.int .i64 0)))])
 (.cond (.t 45) (.seq (.region false [O 46 (.mv (.t 12)),
 O 4 (.mv (.c (.int .u64 0))),
 O 5 (.mv (.t 46))])
 (.ret)) (.skip)))
 (.seq (.region false [O 47 (.mv (.t 8)),
 O 48 (.mv (.t 11)),
 O 49 (.bslice true 1 1 [.int .u64 0] [(0, (.t 48))]),
 O 50 (.append false 1 8 (.t 47) (.t 49)),
 O 8 (.mv (.t 50))])
 (.seq (.region false [O 51 (.faddr 5 (.t 10)),
 O 52 (.load false 1 (.t 51)),
 O 53 (.len (.t 52)),
 O 54 (.mv (.c (.int .i64 0)))])
 (.block 2 (.loop (.seq (.region false [O 55 (.bin .lss (.t 54) (.t 53))])
 (.seq (.cond (.t 55) (.skip) (.exit 2))
 (.seq (.block 3 (.seq (.region false [O 56 (.ixsl 4 (.t 52) (.t 54)),
 O 57 (.load true 4 (.t 56)),
 O 14 (.pend 4),
 O 14 (.init true 4 14 (.t 57))])
 (.region false [O 58 (.mv (.t 8)),
 O 59 (.mv (.t 1)),
 O 60 (.ixarr 4 1 (.t 14) (.t 59)),
 O 61 (.load false 1 (.t 60)),
 O 62 (.bslice true 1 1 [.int .u64 0] [(0, (.t 61))]),
 O 63 (.append false 1 8 (.t 58) (.t 62)),
 O 8 (.mv (.t 63))])))
 (.region false [O 64 (.bin .add (.t 54) (.c (.int .i64 1))),
 O 54 (.mv (.t 64))]))))))))))))
 (.region false [O 65 (.bin .add (.t 33) (.c (.int .i64 1))),
 O 33 (.mv (.t 65))])))))))
 (.seq (.region false [O 66 (.mv (.t 8)),
 O 67 (.call 139 [.t 66]),
 O 68 (.ext (.t 67) 0),
 O 69 (.ext (.t 67) 1),
 O 4 (.mv (.t 68)),
 O 5 (.mv (.t 69))])
 (.ret)))))))) }
def state_Made : PF := { ntmps := 35, raw := false, split := false, res := [.tmp 4, .tmp 5], body := (
  .seq (.region false [O 2 (.box true (.t 0)),
 O 4 (.mv (.c (.int .u64 0))),
 O 5 (.mv (.c (.int .i64 0)))])
 (.seq (.seq (.region false [O 9 (.mv (.t 1)),
 O 10 (.call 136 [.t 9]),
 O 11 (.un .not (.t 10))])
 (.cond (.t 11) (.seq (.region false [O 4 (.mv (.c (.int .u64 0))),
 O 5 (.mv (.c (.int .i64 1)))])
 (.ret)) (.skip)))
 (.seq (.region false [O 13 (.load true 6 (.t 2)),
 O 14 (.mv (.t 1)),
 O 15 (.call 140 [.t 13, .t 14, (.c (.fn 141 [] []))]),
 O 12 (.mv (.t 15)),
 O 16 (.ext (.t 12) 0),
 O 17 (.ext (.t 12) 1),
 O 6 (.mv (.t 16)),
 O 7 (.mv (.t 17))])
 (.seq (.seq (.region false [O 18 (.mv (.t 7)),
 O 19 (.bin .neq (.t 18) (.c (.int .i64 0)))])
 (.cond (.t 19) (.seq (.region false [O 20 (.mv (.t 7)),
 O 4 (.mv (.c (.int .u64 0))),
 O 5 (.mv (.t 20))])
 (.ret)) (.skip)))
 (.seq (.region false [O 22 (.load true 6 (.t 2)),
 O 23 (.mv (.t 1)),
 O 24 (.call 140 [.t 22, .t 23, (.c (.fn 142 [] []))]),
 O 21 (.mv (.t 24)),
 O 25 (.ext (.t 21) 0),
 O 26 (.ext (.t 21) 1),
 O 8 (.mv (.t 25)),
 O 7 (.mv (.t 26))])
 (.seq (.seq (.region false [O 27 (.mv (.t 7)),
 O 28 (.bin .neq (.t 27) (.c (.int .i64 0)))])
 (.cond (.t 28) (.seq (.region false [O 29 (.mv (.t 7)),
 O 4 (.mv (.c (.int .u64 0))),
 O 5 (.mv (.t 29))])
 (.ret)) (.skip)))
 (.seq (.region false [O 30 (.mv (.t 6)),
 O 31 (.mv (.t 8)),
 O 32 (.call 143 [.t 30, .t 31]),
 O 33 (.ext (.t 32) 0),
 O 34 (.ext (.t 32) 1),
 O 4 (.mv (.t 33)),
 O 5 (.mv (.t 34))])
 (.ret)))))))) }
def view_fits : PF := { ntmps := 30, raw := false, split := false, res := [.tmp 4], body := (
  .seq (.region false [O 2 (.box true (.t 0)),
 O 3 (.box true (.t 1)),
 O 4 (.mv (.c (.bool false)))])
 (.seq (.region false [O 5 (.faddr 1 (.t 3)),
 O 6 (.load false 1 (.t 5)),
 O 7 (.len (.t 6)),
 O 8 (.faddr 0 (.t 2)),
 O 9 (.load false 1 (.t 8)),
 O 10 (.len (.t 9)),
 O 11 (.bin .eql (.t 7) (.t 10)),
 O 12 (.mv (.t 11)),
 G 13 (.faddr 2 (.t 3)) 12 true,
 G 14 (.load false 1 (.t 13)) 12 true,
 G 15 (.len (.t 14)) 12 true,
 G 16 (.faddr 3 (.t 2)) 12 true,
 G 17 (.load false 1 (.t 16)) 12 true,
 G 18 (.len (.t 17)) 12 true,
 G 19 (.bin .eql (.t 15) (.t 18)) 12 true,
 O 20 (.pick (.t 12) (.t 19) (.c (.bool false))),
 O 21 (.mv (.t 20)),
 G 22 (.faddr 5 (.t 3)) 21 true,
 G 23 (.load false 1 (.t 22)) 21 true,
 G 24 (.len (.t 23)) 21 true,
 G 25 (.faddr 1 (.t 2)) 21 true,
 G 26 (.load false 1 (.t 25)) 21 true,
 G 27 (.len (.t 26)) 21 true,
 G 28 (.bin .eql (.t 24) (.t 27)) 21 true,
 O 29 (.pick (.t 21) (.t 28) (.c (.bool false))),
 O 4 (.mv (.t 29))])
 (.ret))) }
def view_From_1 : PF := { ntmps := 12, raw := false, split := false, res := [.tmp 4], body := (
  .seq (.region false [O 4 (.mv (.c (.bool false)))])
 (.seq (.region true [O 5 (.faddr 0 (.t 1)),
 O 6 (.load false 1 (.t 5)),
 O 7 (.mv (.t 0)),
 O 8 (.ixsl 2 (.t 6) (.t 7)),
 O 9 (.load true 2 (.t 8)),
 O 10 (.load true 2 (.t 2)),
 O 11 (.callp 8 [.t 9, .t 10]),
 O 4 (.mv (.t 11))])
 (.ret))) }
def view_From_2 : PF := { ntmps := 20, raw := false, split := false, res := [.tmp 4], body := (
  .seq (.region false [O 4 (.mv (.c (.bool false)))])
 (.seq (.region false [O 8 (.faddr 3 (.t 1)),
 O 9 (.load false 1 (.t 8)),
 O 10 (.mv (.t 0)),
 O 11 (.ixsl 2 (.t 9) (.t 10)),
 O 12 (.faddr 0 (.t 11)),
 O 13 (.load false 1 (.t 12)),
 O 14 (.call 144 [.t 13]),
 O 7 (.mv (.t 14)),
 O 15 (.ext (.t 7) 0),
 O 16 (.ext (.t 7) 1),
 O 5 (.pend 2),
 O 5 (.init true 2 5 (.t 15)),
 O 6 (.mv (.t 16))])
 (.seq (.region false [O 17 (.load true 2 (.t 5)),
 O 18 (.load true 2 (.t 2)),
 O 19 (.call 8 [.t 17, .t 18]),
 O 4 (.mv (.t 19))])
 (.ret)))) }
def view_From_3 : PF := { ntmps := 12, raw := false, split := false, res := [.tmp 4], body := (
  .seq (.region false [O 4 (.mv (.c (.bool false)))])
 (.seq (.region true [O 5 (.load false 1 (.t 1)),
 O 6 (.faddr 1 (.t 2)),
 O 7 (.load false 1 (.t 6)),
 O 8 (.mv (.t 0)),
 O 9 (.ixsl 1 (.t 7) (.t 8)),
 O 10 (.load false 1 (.t 9)),
 O 11 (.callv (.t 5) [.t 10]),
 O 4 (.mv (.t 11))])
 (.ret))) }
def view_choose_Shelf : PF := { ntmps := 33, raw := false, split := false, res := [.tmp 6], body := (
  .seq (.region false [O 6 (.mv (.c (.sl .nil [])))])
 (.seq (.region false [O 7 (.mv (.c (.sl .nil [])))])
 (.seq (.seq (.region false [O 9 (.mv (.t 0)),
 O 10 (.len (.t 9)),
 O 11 (.mv (.c (.int .i64 0)))])
 (.block 0 (.loop (.seq (.region false [O 12 (.bin .lss (.t 11) (.t 10))])
 (.seq (.cond (.t 12) (.skip) (.exit 0))
 (.seq (.block 1 (.seq (.region false [O 13 (.mv (.t 11)),
 O 8 (.mv (.t 13))])
 (.seq (.region false [O 14 (.mv (.t 2)),
 O 15 (.mv (.t 8)),
 O 16 (.callv (.t 14) [.t 15])])
 (.cond (.t 16) (.region false [O 17 (.mv (.t 7)),
 O 18 (.mv (.t 0)),
 O 19 (.mv (.t 8)),
 O 20 (.ixsl 15 (.t 18) (.t 19)),
 O 21 (.load true 15 (.t 20)),
 O 22 (.bslice true 15 1 [.sl .nil [], .sl .nil [], .sl .nil [], .sl .nil [], .sl .nil [], .sl .nil [], .sl .nil [], .int .u64 0, .int .u64 0, .int .u64 0, .int .u64 0, .int .u64 0, .int .u64 0, .int .u64 0, .int .u64 0] [(0, (.t 21))]),
 O 23 (.append false 15 232 (.t 17) (.t 22)),
 O 7 (.mv (.t 23))]) (.region false [O 24 (.mv (.t 7)),
 O 25 (.mv (.t 1)),
 O 26 (.mv (.t 8)),
 O 27 (.ixsl 15 (.t 25) (.t 26)),
 O 28 (.load true 15 (.t 27)),
 O 29 (.bslice true 15 1 [.sl .nil [], .sl .nil [], .sl .nil [], .sl .nil [], .sl .nil [], .sl .nil [], .sl .nil [], .int .u64 0, .int .u64 0, .int .u64 0, .int .u64 0, .int .u64 0, .int .u64 0, .int .u64 0, .int .u64 0] [(0, (.t 28))]),
 O 30 (.append false 15 232 (.t 24) (.t 29)),
 O 7 (.mv (.t 30))])))))
 (.region false [O 31 (.bin .add (.t 11) (.c (.int .i64 1))),
 O 11 (.mv (.t 31))])))))))
 (.seq (.region false [O 32 (.mv (.t 7)),
 O 6 (.mv (.t 32))])
 (.ret))))) }
def view_choose_int : PF := { ntmps := 33, raw := false, split := false, res := [.tmp 6], body := (
  .seq (.region false [O 6 (.mv (.c (.sl .nil [])))])
 (.seq (.region false [O 7 (.mv (.c (.sl .nil [])))])
 (.seq (.seq (.region false [O 9 (.mv (.t 0)),
 O 10 (.len (.t 9)),
 O 11 (.mv (.c (.int .i64 0)))])
 (.block 0 (.loop (.seq (.region false [O 12 (.bin .lss (.t 11) (.t 10))])
 (.seq (.cond (.t 12) (.skip) (.exit 0))
 (.seq (.block 1 (.seq (.region false [O 13 (.mv (.t 11)),
 O 8 (.mv (.t 13))])
 (.seq (.region false [O 14 (.mv (.t 2)),
 O 15 (.mv (.t 8)),
 O 16 (.callv (.t 14) [.t 15])])
 (.cond (.t 16) (.region false [O 17 (.mv (.t 7)),
 O 18 (.mv (.t 0)),
 O 19 (.mv (.t 8)),
 O 20 (.ixsl 1 (.t 18) (.t 19)),
 O 21 (.load false 1 (.t 20)),
 O 22 (.bslice true 1 1 [.sl .nil []] [(0, (.t 21))]),
 O 23 (.append false 1 24 (.t 17) (.t 22)),
 O 7 (.mv (.t 23))]) (.region false [O 24 (.mv (.t 7)),
 O 25 (.mv (.t 1)),
 O 26 (.mv (.t 8)),
 O 27 (.ixsl 1 (.t 25) (.t 26)),
 O 28 (.load false 1 (.t 27)),
 O 29 (.bslice true 1 1 [.sl .nil []] [(0, (.t 28))]),
 O 30 (.append false 1 24 (.t 24) (.t 29)),
 O 7 (.mv (.t 30))])))))
 (.region false [O 31 (.bin .add (.t 11) (.c (.int .i64 1))),
 O 11 (.mv (.t 31))])))))))
 (.seq (.region false [O 32 (.mv (.t 7)),
 O 6 (.mv (.t 32))])
 (.ret))))) }
def view_choose_int_ : PF := { ntmps := 33, raw := false, split := false, res := [.tmp 6], body := (
  .seq (.region false [O 6 (.mv (.c (.sl .nil [])))])
 (.seq (.region false [O 7 (.mv (.c (.sl .nil [])))])
 (.seq (.seq (.region false [O 9 (.mv (.t 0)),
 O 10 (.len (.t 9)),
 O 11 (.mv (.c (.int .i64 0)))])
 (.block 0 (.loop (.seq (.region false [O 12 (.bin .lss (.t 11) (.t 10))])
 (.seq (.cond (.t 12) (.skip) (.exit 0))
 (.seq (.block 1 (.seq (.region false [O 13 (.mv (.t 11)),
 O 8 (.mv (.t 13))])
 (.seq (.region false [O 14 (.mv (.t 2)),
 O 15 (.mv (.t 8)),
 O 16 (.callv (.t 14) [.t 15])])
 (.cond (.t 16) (.region false [O 17 (.mv (.t 7)),
 O 18 (.mv (.t 0)),
 O 19 (.mv (.t 8)),
 O 20 (.ixsl 1 (.t 18) (.t 19)),
 O 21 (.load false 1 (.t 20)),
 O 22 (.bslice true 1 1 [.int .i64 0] [(0, (.t 21))]),
 O 23 (.append false 1 8 (.t 17) (.t 22)),
 O 7 (.mv (.t 23))]) (.region false [O 24 (.mv (.t 7)),
 O 25 (.mv (.t 1)),
 O 26 (.mv (.t 8)),
 O 27 (.ixsl 1 (.t 25) (.t 26)),
 O 28 (.load false 1 (.t 27)),
 O 29 (.bslice true 1 1 [.int .i64 0] [(0, (.t 28))]),
 O 30 (.append false 1 8 (.t 24) (.t 29)),
 O 7 (.mv (.t 30))])))))
 (.region false [O 31 (.bin .add (.t 11) (.c (.int .i64 1))),
 O 11 (.mv (.t 31))])))))))
 (.seq (.region false [O 32 (.mv (.t 7)),
 O 6 (.mv (.t 32))])
 (.ret))))) }
def state_Clone : PF := { ntmps := 85, raw := false, split := false, res := [.cell 2 true 6], body := (
  .seq (.region false [O 1 (.box false (.t 0)),
 O 2 (.alloc false [.int .u64 0, .sl .nil [], .sl .nil [], .sl .nil [], .sl .nil [], .sl .nil []])])
 (.seq (.region true [O 7 (.faddr 3 (.t 1)),
 O 8 (.load false 1 (.t 7)),
 O 9 (.callp 145 [.t 8]),
 O 10 (.faddr 4 (.t 1)),
 O 11 (.load false 1 (.t 10)),
 O 12 (.callp 146 [.t 11]),
 O 13 (.faddr 5 (.t 1)),
 O 14 (.load false 1 (.t 13)),
 O 15 (.callp 147 [.t 14]),
 O 16 (.faddr 3 (.t 1)),
 ⟨none, .store 1 (.t 16) (.t 9), none, 0, 0⟩,
 O 17 (.faddr 4 (.t 1)),
 ⟨none, .store 1 (.t 17) (.t 12), none, 0, 0⟩,
 O 18 (.faddr 5 (.t 1)),
 ⟨none, .store 1 (.t 18) (.t 15), none, 0, 0⟩])
 (.seq (.region false [O 19 (.faddr 2 (.t 1)),
 O 20 (.load false 1 (.t 19)),
 O 21 (.call 269 [.t 20]),
 O 22 (.faddr 2 (.t 1)),
 ⟨none, .store 1 (.t 22) (.t 21), none, 0, 0⟩])
 (.seq (.seq (.region false [O 23 (.faddr 2 (.t 1)),
 O 24 (.load false 1 (.t 23)),
 O 25 (.len (.t 24)),
 O 26 (.mv (.c (.int .i64 0)))])
 (.block 0 (.loop (.seq (.region false [O 27 (.bin .lss (.t 26) (.t 25))])
 (.seq (.cond (.t 27) (.skip) (.exit 0))
 (.seq (.block 1 (.seq (.region false [O 28 (.mv (.t 26)),
 O 29 (.ixsl 1 (.t 24) (.t 26)),
 O 30 (.load false 1 (.t 29)),
 O 3 (.mv (.t 28)),
 O 4 (.mv (.t 30))])
 (.region true [O 31 (.faddr 2 (.t 1)),
 O 32 (.load false 1 (.t 31)),
 O 33 (.mv (.t 3)),
 O 34 (.mv (.t 4)),
 O 35 (.callp 147 [.t 34]),
 O 36 (.ixsl 1 (.t 32) (.t 33)),
 ⟨none, .store 1 (.t 36) (.t 35), none, 0, 0⟩])))
 (.region false [O 37 (.bin .add (.t 26) (.c (.int .i64 1))),
 O 26 (.mv (.t 37))])))))))
 (.seq (.region false [O 38 (.faddr 1 (.t 1)),
 O 39 (.load false 1 (.t 38)),
 O 40 (.call 270 [.t 39]),
 O 41 (.faddr 1 (.t 1)),
 ⟨none, .store 1 (.t 41) (.t 40), none, 0, 0⟩])
 (.seq (.seq (.region false [O 42 (.faddr 1 (.t 1)),
 O 43 (.load false 1 (.t 42)),
 O 44 (.len (.t 43)),
 O 45 (.mv (.c (.int .i64 0)))])
 (.block 2 (.loop (.seq (.region false [O 46 (.bin .lss (.t 45) (.t 44))])
 (.seq (.cond (.t 46) (.skip) (.exit 2))
 (.seq (.block 3 (.seq (.region false [O 47 (.mv (.t 45)),
 O 48 (.ixsl 15 (.t 43) (.t 45)),
 O 49 (.load true 15 (.t 48)),
 O 6 (.pend 15),
 O 5 (.mv (.t 47)),
 O 6 (.init false 15 6 (.t 49))])
 (.seq (.region true [O 50 (.faddr 0 (.t 6)),
 O 51 (.load false 1 (.t 50)),
 O 52 (.callp 150 [.t 51]),
 O 53 (.faddr 1 (.t 6)),
 O 54 (.load false 1 (.t 53)),
 O 55 (.callp 151 [.t 54]),
 O 56 (.faddr 2 (.t 6)),
 O 57 (.load false 1 (.t 56)),
 O 58 (.callp 152 [.t 57]),
 O 59 (.faddr 0 (.t 6)),
 ⟨none, .store 1 (.t 59) (.t 52), none, 0, 0⟩,
 O 60 (.faddr 1 (.t 6)),
 ⟨none, .store 1 (.t 60) (.t 55), none, 0, 0⟩,
 O 61 (.faddr 2 (.t 6)),
 ⟨none, .store 1 (.t 61) (.t 58), none, 0, 0⟩])
 (.seq (.region true [O 62 (.faddr 3 (.t 6)),
 O 63 (.load false 1 (.t 62)),
 O 64 (.callp 153 [.t 63]),
 O 65 (.faddr 4 (.t 6)),
 O 66 (.load false 1 (.t 65)),
 O 67 (.callp 134 [.t 66]),
 O 68 (.faddr 3 (.t 6)),
 ⟨none, .store 1 (.t 68) (.t 64), none, 0, 0⟩,
 O 69 (.faddr 4 (.t 6)),
 ⟨none, .store 1 (.t 69) (.t 67), none, 0, 0⟩])
 (.seq (.region true [O 70 (.faddr 5 (.t 6)),
 O 71 (.load false 1 (.t 70)),
 O 72 (.callp 154 [.t 71]),
 O 73 (.faddr 6 (.t 6)),
 O 74 (.load false 1 (.t 73)),
 O 75 (.callp 155 [.t 74]),
 O 76 (.faddr 5 (.t 6)),
 ⟨none, .store 1 (.t 76) (.t 72), none, 0, 0⟩,
 O 77 (.faddr 6 (.t 6)),
 ⟨none, .store 1 (.t 77) (.t 75), none, 0, 0⟩])
 (.region false [O 78 (.faddr 1 (.t 1)),
 O 79 (.load false 1 (.t 78)),
 O 80 (.mv (.t 5)),
 O 81 (.load true 15 (.t 6)),
 O 82 (.ixsl 15 (.t 79) (.t 80)),
 ⟨none, .store 15 (.t 82) (.t 81), none, 0, 0⟩]))))))
 (.region false [O 83 (.bin .add (.t 45) (.c (.int .i64 1))),
 O 45 (.mv (.t 83))])))))))
 (.seq (.region false [O 84 (.load true 6 (.t 1)),
 ⟨none, .store 6 (.t 2) (.t 84), none, 0, 0⟩])
 (.ret)))))))) }
def slices_EqualFunc_Shelf_Shelf_Shelf_Shelf : PF := { ntmps := 32, raw := false, split := false, res := [.tmp 6], body := (
  .seq (.region false [O 6 (.mv (.c (.bool false)))])
 (.seq (.seq (.region false [O 10 (.mv (.t 0)),
 O 11 (.len (.t 10)),
 O 12 (.mv (.t 1)),
 O 13 (.len (.t 12)),
 O 14 (.bin .neq (.t 11) (.t 13))])
 (.cond (.t 14) (.seq (.region false [O 6 (.mv (.c (.bool false)))])
 (.ret)) (.skip)))
 (.seq (.seq (.region false [O 15 (.mv (.t 0)),
 O 16 (.len (.t 15)),
 O 17 (.mv (.c (.int .i64 0)))])
 (.block 0 (.loop (.seq (.region false [O 18 (.bin .lss (.t 17) (.t 16))])
 (.seq (.cond (.t 18) (.skip) (.exit 0))
 (.seq (.block 1 (.seq (.region false [O 19 (.mv (.t 17)),
 O 20 (.ixsl 15 (.t 15) (.t 17)),
 O 21 (.load true 15 (.t 20)),
 O 8 (.pend 15),
 O 7 (.mv (.t 19)),
 O 8 (.init true 15 8 (.t 21))])
 (.seq (.region false [O 22 (.mv (.t 1)),
 O 23 (.mv (.t 7)),
 O 24 (.ixsl 15 (.t 22) (.t 23)),
 O 25 (.load true 15 (.t 24)),
 O 9 (.pend 15),
 O 9 (.init true 15 9 (.t 25))])
 (.seq (.region false [O 26 (.mv (.t 2)),
 O 27 (.load true 15 (.t 8)),
 O 28 (.load true 15 (.t 9)),
 O 29 (.callv (.t 26) [.t 27, .t 28]),
 O 30 (.un .not (.t 29))])
 (.cond (.t 30) (.seq (.region false [O 6 (.mv (.c (.bool false)))])
 (.ret)) (.skip))))))
 (.region false [O 31 (.bin .add (.t 17) (.c (.int .i64 1))),
 O 17 (.mv (.t 31))])))))))
 (.seq (.region false [O 6 (.mv (.c (.bool true)))])
 (.ret))))) }
def state_sameShelf : PF := { ntmps := 66, raw := false, split := false, res := [.tmp 4], body := (
  .seq (.region false [O 2 (.box true (.t 0)),
 O 3 (.box true (.t 1)),
 O 4 (.mv (.c (.bool false)))])
 (.seq (.region false [O 5 (.faddr 0 (.t 2)),
 O 6 (.load false 1 (.t 5)),
 O 7 (.faddr 0 (.t 3)),
 O 8 (.load false 1 (.t 7)),
 O 9 (.call 156 [.t 6, .t 8]),
 O 10 (.mv (.t 9)),
 G 11 (.faddr 1 (.t 2)) 10 true,
 G 12 (.load false 1 (.t 11)) 10 true,
 G 13 (.faddr 1 (.t 3)) 10 true,
 G 14 (.load false 1 (.t 13)) 10 true,
 G 15 (.call 157 [.t 12, .t 14]) 10 true,
 O 16 (.pick (.t 10) (.t 15) (.c (.bool false))),
 O 17 (.mv (.t 16)),
 G 18 (.faddr 2 (.t 2)) 17 true,
 G 19 (.load false 1 (.t 18)) 17 true,
 G 20 (.faddr 2 (.t 3)) 17 true,
 G 21 (.load false 1 (.t 20)) 17 true,
 G 22 (.call 158 [.t 19, .t 21]) 17 true,
 O 23 (.pick (.t 17) (.t 22) (.c (.bool false))),
 O 24 (.mv (.t 23)),
 G 25 (.faddr 3 (.t 2)) 24 true,
 G 26 (.load false 1 (.t 25)) 24 true,
 G 27 (.faddr 3 (.t 3)) 24 true,
 G 28 (.load false 1 (.t 27)) 24 true,
 G 29 (.call 159 [.t 26, .t 28]) 24 true,
 O 30 (.pick (.t 24) (.t 29) (.c (.bool false))),
 O 31 (.mv (.t 30)),
 G 32 (.faddr 4 (.t 2)) 31 true,
 G 33 (.load false 1 (.t 32)) 31 true,
 G 34 (.faddr 4 (.t 3)) 31 true,
 G 35 (.load false 1 (.t 34)) 31 true,
 G 36 (.call 160 [.t 33, .t 35]) 31 true,
 O 37 (.pick (.t 31) (.t 36) (.c (.bool false))),
 O 38 (.mv (.t 37)),
 G 39 (.faddr 5 (.t 2)) 38 true,
 G 40 (.load false 1 (.t 39)) 38 true,
 G 41 (.faddr 5 (.t 3)) 38 true,
 G 42 (.load false 1 (.t 41)) 38 true,
 G 43 (.call 161 [.t 40, .t 42]) 38 true,
 O 44 (.pick (.t 38) (.t 43) (.c (.bool false))),
 O 45 (.mv (.t 44)),
 G 46 (.faddr 6 (.t 2)) 45 true,
 G 47 (.load false 1 (.t 46)) 45 true,
 G 48 (.faddr 6 (.t 3)) 45 true,
 G 49 (.load false 1 (.t 48)) 45 true,
 G 50 (.call 162 [.t 47, .t 49]) 45 true,
 O 51 (.pick (.t 45) (.t 50) (.c (.bool false))),
 O 52 (.mv (.t 51)),
 G 53 (.faddr 7 (.t 2)) 52 true,
 G 54 (.load true 4 (.t 53)) 52 true,
 G 55 (.faddr 7 (.t 3)) 52 true,
 G 56 (.load true 4 (.t 55)) 52 true,
 G 57 (.eqs [.i, .i, .i, .i] false (.t 54) (.t 56)) 52 true,
 O 58 (.pick (.t 52) (.t 57) (.c (.bool false))),
 O 59 (.mv (.t 58)),
 G 60 (.faddr 11 (.t 2)) 59 true,
 G 61 (.load true 4 (.t 60)) 59 true,
 G 62 (.faddr 11 (.t 3)) 59 true,
 G 63 (.load true 4 (.t 62)) 59 true,
 G 64 (.eqs [.i, .i, .i, .i] false (.t 61) (.t 63)) 59 true,
 O 65 (.pick (.t 59) (.t 64) (.c (.bool false))),
 O 4 (.mv (.t 65))])
 (.ret))) }
def slices_EqualFunc_int_int_int_int : PF := { ntmps := 32, raw := false, split := false, res := [.tmp 6], body := (
  .seq (.region false [O 6 (.mv (.c (.bool false)))])
 (.seq (.seq (.region false [O 10 (.mv (.t 0)),
 O 11 (.len (.t 10)),
 O 12 (.mv (.t 1)),
 O 13 (.len (.t 12)),
 O 14 (.bin .neq (.t 11) (.t 13))])
 (.cond (.t 14) (.seq (.region false [O 6 (.mv (.c (.bool false)))])
 (.ret)) (.skip)))
 (.seq (.seq (.region false [O 15 (.mv (.t 0)),
 O 16 (.len (.t 15)),
 O 17 (.mv (.c (.int .i64 0)))])
 (.block 0 (.loop (.seq (.region false [O 18 (.bin .lss (.t 17) (.t 16))])
 (.seq (.cond (.t 18) (.skip) (.exit 0))
 (.seq (.block 1 (.seq (.region false [O 19 (.mv (.t 17)),
 O 20 (.ixsl 1 (.t 15) (.t 17)),
 O 21 (.load false 1 (.t 20)),
 O 7 (.mv (.t 19)),
 O 8 (.mv (.t 21))])
 (.seq (.region false [O 22 (.mv (.t 1)),
 O 23 (.mv (.t 7)),
 O 24 (.ixsl 1 (.t 22) (.t 23)),
 O 25 (.load false 1 (.t 24)),
 O 9 (.mv (.t 25))])
 (.seq (.region false [O 26 (.mv (.t 2)),
 O 27 (.mv (.t 8)),
 O 28 (.mv (.t 9)),
 O 29 (.callv (.t 26) [.t 27, .t 28]),
 O 30 (.un .not (.t 29))])
 (.cond (.t 30) (.seq (.region false [O 6 (.mv (.c (.bool false)))])
 (.ret)) (.skip))))))
 (.region false [O 31 (.bin .add (.t 17) (.c (.int .i64 1))),
 O 17 (.mv (.t 31))])))))))
 (.seq (.region false [O 6 (.mv (.c (.bool true)))])
 (.ret))))) }
def slices_Equal_int_int : PF := { ntmps := 26, raw := false, split := false, res := [.tmp 4], body := (
  .seq (.region false [O 4 (.mv (.c (.bool false)))])
 (.seq (.seq (.region false [O 6 (.mv (.t 0)),
 O 7 (.len (.t 6)),
 O 8 (.mv (.t 1)),
 O 9 (.len (.t 8)),
 O 10 (.bin .neq (.t 7) (.t 9))])
 (.cond (.t 10) (.seq (.region false [O 4 (.mv (.c (.bool false)))])
 (.ret)) (.skip)))
 (.seq (.seq (.region false [O 11 (.mv (.t 0)),
 O 12 (.len (.t 11)),
 O 13 (.mv (.c (.int .i64 0)))])
 (.block 0 (.loop (.seq (.region false [O 14 (.bin .lss (.t 13) (.t 12))])
 (.seq (.cond (.t 14) (.skip) (.exit 0))
 (.seq (.block 1 (.seq (.region false [O 15 (.mv (.t 13)),
 O 5 (.mv (.t 15))])
 (.seq (.region true [O 16 (.mv (.t 0)),
 O 17 (.mv (.t 5)),
 O 18 (.ixsl 1 (.t 16) (.t 17)),
 O 19 (.load false 1 (.t 18)),
 O 20 (.mv (.t 1)),
 O 21 (.mv (.t 5)),
 O 22 (.ixsl 1 (.t 20) (.t 21)),
 O 23 (.load false 1 (.t 22)),
 O 24 (.bin .neq (.t 19) (.t 23))])
 (.cond (.t 24) (.seq (.region false [O 4 (.mv (.c (.bool false)))])
 (.ret)) (.skip)))))
 (.region false [O 25 (.bin .add (.t 13) (.c (.int .i64 1))),
 O 13 (.mv (.t 25))])))))))
 (.seq (.region false [O 4 (.mv (.c (.bool true)))])
 (.ret))))) }
def slices_Equal_Order_Order : PF := { ntmps := 26, raw := false, split := false, res := [.tmp 4], body := (
  .seq (.region false [O 4 (.mv (.c (.bool false)))])
 (.seq (.seq (.region false [O 6 (.mv (.t 0)),
 O 7 (.len (.t 6)),
 O 8 (.mv (.t 1)),
 O 9 (.len (.t 8)),
 O 10 (.bin .neq (.t 7) (.t 9))])
 (.cond (.t 10) (.seq (.region false [O 4 (.mv (.c (.bool false)))])
 (.ret)) (.skip)))
 (.seq (.seq (.region false [O 11 (.mv (.t 0)),
 O 12 (.len (.t 11)),
 O 13 (.mv (.c (.int .i64 0)))])
 (.block 0 (.loop (.seq (.region false [O 14 (.bin .lss (.t 13) (.t 12))])
 (.seq (.cond (.t 14) (.skip) (.exit 0))
 (.seq (.block 1 (.seq (.region false [O 15 (.mv (.t 13)),
 O 5 (.mv (.t 15))])
 (.seq (.region true [O 16 (.mv (.t 0)),
 O 17 (.mv (.t 5)),
 O 18 (.ixsl 10 (.t 16) (.t 17)),
 O 19 (.load true 10 (.t 18)),
 O 20 (.mv (.t 1)),
 O 21 (.mv (.t 5)),
 O 22 (.ixsl 10 (.t 20) (.t 21)),
 O 23 (.load true 10 (.t 22)),
 O 24 (.eqs [.b, .i, .i, .i, .i, .i, .i, .i, .i, .i] true (.t 19) (.t 23))])
 (.cond (.t 24) (.seq (.region false [O 4 (.mv (.c (.bool false)))])
 (.ret)) (.skip)))))
 (.region false [O 25 (.bin .add (.t 13) (.c (.int .i64 1))),
 O 13 (.mv (.t 25))])))))))
 (.seq (.region false [O 4 (.mv (.c (.bool true)))])
 (.ret))))) }
def slices_Equal_Entry_Entry : PF := { ntmps := 26, raw := false, split := false, res := [.tmp 4], body := (
  .seq (.region false [O 4 (.mv (.c (.bool false)))])
 (.seq (.seq (.region false [O 6 (.mv (.t 0)),
 O 7 (.len (.t 6)),
 O 8 (.mv (.t 1)),
 O 9 (.len (.t 8)),
 O 10 (.bin .neq (.t 7) (.t 9))])
 (.cond (.t 10) (.seq (.region false [O 4 (.mv (.c (.bool false)))])
 (.ret)) (.skip)))
 (.seq (.seq (.region false [O 11 (.mv (.t 0)),
 O 12 (.len (.t 11)),
 O 13 (.mv (.c (.int .i64 0)))])
 (.block 0 (.loop (.seq (.region false [O 14 (.bin .lss (.t 13) (.t 12))])
 (.seq (.cond (.t 14) (.skip) (.exit 0))
 (.seq (.block 1 (.seq (.region false [O 15 (.mv (.t 13)),
 O 5 (.mv (.t 15))])
 (.seq (.region true [O 16 (.mv (.t 0)),
 O 17 (.mv (.t 5)),
 O 18 (.ixsl 10 (.t 16) (.t 17)),
 O 19 (.load true 10 (.t 18)),
 O 20 (.mv (.t 1)),
 O 21 (.mv (.t 5)),
 O 22 (.ixsl 10 (.t 20) (.t 21)),
 O 23 (.load true 10 (.t 22)),
 O 24 (.eqs [.i, .i, .i, .i, .i, .i, .i, .i, .i, .i] true (.t 19) (.t 23))])
 (.cond (.t 24) (.seq (.region false [O 4 (.mv (.c (.bool false)))])
 (.ret)) (.skip)))))
 (.region false [O 25 (.bin .add (.t 13) (.c (.int .i64 1))),
 O 13 (.mv (.t 25))])))))))
 (.seq (.region false [O 4 (.mv (.c (.bool true)))])
 (.ret))))) }
def realm_labels_1 : PF := { ntmps := 6, raw := false, split := false, res := [.tmp 2], body := (
  .seq (.region false [O 1 (.box true (.t 0)),
 O 2 (.mv (.c (.bool false)))])
 (.seq (.region false [O 3 (.load true 2 (.t 1)),
 O 4 (.call 9 [.t 3]),
 O 5 (.un .not (.t 4)),
 O 2 (.mv (.t 5))])
 (.ret))) }
def realm_within : PF := { ntmps := 15, raw := false, split := false, res := [.tmp 6], body := (
  .seq (.region false [O 6 (.mv (.c (.bool false)))])
 (.seq (.region false [O 7 (.mv (.t 0)),
 O 8 (.mv (.t 1)),
 O 9 (.bin .geq (.t 7) (.t 8)),
 O 10 (.mv (.t 9)),
 G 11 (.mv (.t 0)) 10 true,
 G 12 (.mv (.t 2)) 10 true,
 G 13 (.bin .leq (.t 11) (.t 12)) 10 true,
 O 14 (.pick (.t 10) (.t 13) (.c (.bool false))),
 O 6 (.mv (.t 14))])
 (.ret))) }
def slices_ContainsFunc_Label_Label : PF := { ntmps := 9, raw := false, split := false, res := [.tmp 4], body := (
  .seq (.region false [O 4 (.mv (.c (.bool false)))])
 (.seq (.region false [O 5 (.mv (.t 0)),
 O 6 (.mv (.t 1)),
 O 7 (.call 219 [.t 5, .t 6]),
 O 8 (.bin .geq (.t 7) (.c (.int .i64 0))),
 O 4 (.mv (.t 8))])
 (.ret))) }
def label_Cmp : PF := { ntmps := 17, raw := false, split := false, res := [.tmp 4], body := (
  .seq (.region false [O 2 (.box true (.t 0)),
 O 3 (.box true (.t 1)),
 O 4 (.mv (.c (.int .i64 0)))])
 (.seq (.region true [O 5 (.faddr 0 (.t 2)),
 O 6 (.load false 1 (.t 5)),
 O 7 (.faddr 0 (.t 3)),
 O 8 (.load false 1 (.t 7)),
 O 9 (.callp 197 [.t 6, .t 8]),
 O 10 (.faddr 1 (.t 2)),
 O 11 (.load false 1 (.t 10)),
 O 12 (.faddr 1 (.t 3)),
 O 13 (.load false 1 (.t 12)),
 O 14 (.callp 196 [.t 11, .t 13]),
 O 15 (.bslice true 1 2 [.int .i64 0] [(0, (.t 9)), (1, (.t 14))]),
 O 16 (.callp 198 [.t 15]),
 O 4 (.mv (.t 16))])
 (.ret))) }
def realm_lines_1 : PF := { ntmps := 11, raw := false, split := false, res := [.tmp 3], body := (
  .seq (.region false [O 3 (.mv (.c (.bool false)))])
 (.seq (.region false [O 4 (.mv (.t 0)),
 O 5 (.faddr 0 (.t 1)),
 O 6 (.load false 1 (.t 5)),
 O 7 (.len (.t 6)),
 O 8 (.bin .sub (.t 7) (.c (.int .i64 1))),
 O 9 (.call 164 [.t 4, (.c (.int .i64 0)), .t 8]),
 O 10 (.un .not (.t 9)),
 O 3 (.mv (.t 10))])
 (.ret))) }
def slices_ContainsFunc_int_int : PF := { ntmps := 9, raw := false, split := false, res := [.tmp 4], body := (
  .seq (.region false [O 4 (.mv (.c (.bool false)))])
 (.seq (.region false [O 5 (.mv (.t 0)),
 O 6 (.mv (.t 1)),
 O 7 (.call 192 [.t 5, .t 6]),
 O 8 (.bin .geq (.t 7) (.c (.int .i64 0))),
 O 4 (.mv (.t 8))])
 (.ret))) }
def realm_accounts_1 : PF := { ntmps := 19, raw := false, split := false, res := [.tmp 2], body := (
  .seq (.region false [O 1 (.box true (.t 0)),
 O 2 (.mv (.c (.bool false)))])
 (.seq (.region false [O 3 (.faddr 0 (.t 1)),
 O 4 (.load false 1 (.t 3)),
 O 5 (.call 166 [.t 4]),
 O 6 (.un .not (.t 5)),
 O 7 (.mv (.t 6)),
 G 8 (.faddr 1 (.t 1)) 7 false,
 G 9 (.load false 1 (.t 8)) 7 false,
 G 10 (.call 166 [.t 9]) 7 false,
 G 11 (.un .not (.t 10)) 7 false,
 O 12 (.pick (.t 7) (.c (.bool true)) (.t 11)),
 O 13 (.mv (.t 12)),
 G 14 (.faddr 2 (.t 1)) 13 false,
 G 15 (.load false 1 (.t 14)) 13 false,
 G 16 (.call 164 [.t 15, (.c (.int .i64 0)), (.c (.int .i64 3))]) 13 false,
 G 17 (.un .not (.t 16)) 13 false,
 O 18 (.pick (.t 13) (.c (.bool true)) (.t 17)),
 O 2 (.mv (.t 18))])
 (.ret))) }
def slices_ContainsFunc_Account_Account : PF := { ntmps := 9, raw := false, split := false, res := [.tmp 4], body := (
  .seq (.region false [O 4 (.mv (.c (.bool false)))])
 (.seq (.region false [O 5 (.mv (.t 0)),
 O 6 (.mv (.t 1)),
 O 7 (.call 220 [.t 5, .t 6]),
 O 8 (.bin .geq (.t 7) (.c (.int .i64 0))),
 O 4 (.mv (.t 8))])
 (.ret))) }
def realm_callNames : PF := { ntmps := 20, raw := false, split := false, res := [.tmp 2], body := (
  .seq (.region false [O 1 (.box true (.t 0)),
 O 2 (.mv (.c (.sl .nil [])))])
 (.seq (.region false [O 3 (.mv (.c (.sl .nil [])))])
 (.seq (.seq (.region false [O 6 (.faddr 2 (.t 1)),
 O 7 (.load false 1 (.t 6)),
 O 8 (.len (.t 7)),
 O 9 (.mv (.c (.int .i64 0)))])
 (.block 0 (.loop (.seq (.region false [O 10 (.bin .lss (.t 9) (.t 8))])
 (.seq (.cond (.t 10) (.skip) (.exit 0))
 (.seq (.block 1 (.seq (.region false [O 11 (.ixsl 4 (.t 7) (.t 9)),
 O 12 (.load true 4 (.t 11)),
 O 5 (.pend 4),
 O 5 (.init true 4 5 (.t 12))])
 (.region false [O 13 (.mv (.t 3)),
 O 14 (.faddr 0 (.t 5)),
 O 15 (.load false 1 (.t 14)),
 O 16 (.bslice true 1 1 [.str ⟨#[]⟩] [(0, (.t 15))]),
 O 17 (.append false 1 16 (.t 13) (.t 16)),
 O 3 (.mv (.t 17))])))
 (.region false [O 18 (.bin .add (.t 9) (.c (.int .i64 1))),
 O 9 (.mv (.t 18))])))))))
 (.seq (.region false [O 19 (.mv (.t 3)),
 O 2 (.mv (.t 19))])
 (.ret))))) }
def name_Apart : PF := { ntmps := 23, raw := false, split := false, res := [.tmp 2], body := (
  .seq (.region false [O 2 (.mv (.c (.bool false)))])
 (.seq (.region false [O 6 (.mkmap),
 O 3 (.mv (.t 6))])
 (.seq (.seq (.region false [O 7 (.mv (.t 0)),
 O 8 (.len (.t 7)),
 O 9 (.mv (.c (.int .i64 0)))])
 (.block 0 (.loop (.seq (.region false [O 10 (.bin .lss (.t 9) (.t 8))])
 (.seq (.cond (.t 10) (.skip) (.exit 0))
 (.seq (.block 1 (.seq (.region false [O 11 (.ixsl 1 (.t 7) (.t 9)),
 O 12 (.load false 1 (.t 11)),
 O 5 (.mv (.t 12))])
 (.region false [O 13 (.mv (.t 3)),
 O 14 (.mv (.t 5)),
 O 15 (.lookup [.int .i64 0] false false true (.t 13) (.t 14)),
 O 16 (.bin .add (.t 15) (.c (.int .i64 1))),
 ⟨none, .mapupd true (.t 13) (.t 14) (.t 16), none, 0, 0⟩])))
 (.region false [O 17 (.bin .add (.t 9) (.c (.int .i64 1))),
 O 9 (.mv (.t 17))])))))))
 (.seq (.region false [O 18 (.mv (.t 3)),
 O 19 (.maplen (.t 18)),
 O 20 (.mv (.t 0)),
 O 21 (.len (.t 20)),
 O 22 (.bin .eql (.t 19) (.t 21)),
 O 2 (.mv (.t 22))])
 (.ret))))) }
def label_Hall : PF := { ntmps := 14, raw := false, split := false, res := [.cell 2 true 2, .tmp 3], body := (
  .seq (.region false [O 2 (.alloc false [.int .i64 0, .int .u64 0]),
 O 3 (.mv (.c (.int .i64 0)))])
 (.seq (.seq (.region false [O 4 (.mv (.t 0)),
 O 5 (.bin .lss (.t 4) (.c (.int .i64 0))),
 O 6 (.mv (.t 5)),
 G 7 (.mv (.t 0)) 6 false,
 G 8 (.bin .geq (.t 7) (.c (.int .i64 64))) 6 false,
 O 9 (.pick (.t 6) (.c (.bool true)) (.t 8))])
 (.cond (.t 9) (.seq (.region false [O 10 (.build [.int .i64 0, .int .u64 0] []),
 ⟨none, .store 2 (.t 2) (.t 10), none, 0, 0⟩,
 O 3 (.mv (.c (.int .i64 1)))])
 (.ret)) (.skip)))
 (.seq (.region false [O 11 (.mv (.t 0)),
 O 12 (.bin .shl (.c (.int .u64 1)) (.t 11)),
 O 13 (.build [.int .i64 0, .int .u64 0] [(1, 1, (.t 12))]),
 ⟨none, .store 2 (.t 2) (.t 13), none, 0, 0⟩,
 O 3 (.mv (.c (.int .i64 0)))])
 (.ret)))) }
def slices_Contains_Label_Label : PF := { ntmps := 9, raw := false, split := false, res := [.tmp 4], body := (
  .seq (.region false [O 3 (.box true (.t 1)),
 O 4 (.mv (.c (.bool false)))])
 (.seq (.region false [O 5 (.mv (.t 0)),
 O 6 (.load true 2 (.t 3)),
 O 7 (.call 221 [.t 5, .t 6]),
 O 8 (.bin .geq (.t 7) (.c (.int .i64 0))),
 O 4 (.mv (.t 8))])
 (.ret))) }
def realm_guilds_1 : PF := { ntmps := 9, raw := false, split := false, res := [.tmp 3], body := (
  .seq (.region false [O 2 (.box true (.t 0)),
 O 3 (.mv (.c (.bool false)))])
 (.seq (.region false [O 4 (.faddr 1 (.t 2)),
 O 5 (.load false 1 (.t 4)),
 O 6 (.load false 1 (.t 1)),
 O 7 (.bin .andNot (.t 5) (.t 6)),
 O 8 (.bin .neq (.t 7) (.c (.int .u64 0))),
 O 3 (.mv (.t 8))])
 (.ret))) }
def realm_quotas_1 : PF := { ntmps := 6, raw := false, split := false, res := [.tmp 2], body := (
  .seq (.region false [O 2 (.mv (.c (.bool false)))])
 (.seq (.region false [O 3 (.mv (.t 0)),
 O 4 (.call 164 [.t 3, (.c (.int .i64 0)), (.c (.int .i64 12))]),
 O 5 (.un .not (.t 4)),
 O 2 (.mv (.t 5))])
 (.ret))) }
def realm_numbers : PF := { ntmps := 14, raw := false, split := false, res := [.tmp 2], body := (
  .seq (.region false [O 1 (.box true (.t 0)),
 O 2 (.mv (.c (.sl .nil [])))])
 (.seq (.region false [O 3 (.faddr 0 (.t 1)),
 O 4 (.load false 1 (.t 3)),
 O 5 (.faddr 1 (.t 1)),
 O 6 (.load false 1 (.t 5)),
 O 7 (.faddr 2 (.t 1)),
 O 8 (.load false 1 (.t 7)),
 O 9 (.faddr 3 (.t 1)),
 O 10 (.load false 1 (.t 9)),
 O 11 (.faddr 4 (.t 1)),
 O 12 (.load false 1 (.t 11)),
 O 13 (.bslice true 1 5 [.int .i64 0] [(0, (.t 4)), (1, (.t 6)), (2, (.t 8)), (3, (.t 10)), (4, (.t 12))]),
 O 2 (.mv (.t 13))])
 (.ret))) }
def thing_Right : PF := { ntmps := 6, raw := false, split := false, res := [.tmp 2], body := (
  .seq (.region false [O 2 (.mv (.c (.bool false)))])
 (.seq (.region false [O 3 (.mv (.t 0)),
 O 4 (.call 126 [.t 3, (.c (.fn 189 [] []))]),
 O 5 (.un .not (.t 4)),
 O 2 (.mv (.t 5))])
 (.ret))) }
def thing_holder_may : PF := { ntmps := 34, raw := false, split := false, res := [.tmp 2], body := (
  .seq (.region false [O 1 (.box true (.t 0)),
 O 2 (.mv (.c (.bool false)))])
 (.seq (.seq (.region false [O 3 (.faddr 0 (.t 1)),
 O 4 (.load false 1 (.t 3))])
 (.block 0 (.seq (.seq (.region false [O 6 (.bin .eql (.t 4) (.c (.int .i64 1))),
 O 5 (.mv (.t 6))])
 (.cond (.t 5) (.skip) (.region false [O 7 (.bin .eql (.t 4) (.c (.int .i64 3))),
 O 5 (.mv (.t 7))])))
 (.cond (.t 5) (.seq (.region false [O 8 (.faddr 1 (.t 1)),
 O 9 (.load false 1 (.t 8)),
 O 10 (.call 210 [.t 9]),
 O 11 (.mv (.t 10)),
 G 12 (.faddr 2 (.t 1)) 11 true,
 G 13 (.load true 2 (.t 12)) 11 true,
 G 14 (.build [.int .i64 0, .int .i64 0] []) 11 true,
 G 15 (.eqs [.i, .i] false (.t 13) (.t 14)) 11 true,
 O 16 (.pick (.t 11) (.t 15) (.c (.bool false))),
 O 2 (.mv (.t 16))])
 (.ret)) (.seq (.region false [O 18 (.bin .eql (.t 4) (.c (.int .i64 2))),
 O 17 (.mv (.t 18))])
 (.cond (.t 17) (.seq (.region false [O 19 (.faddr 1 (.t 1)),
 O 20 (.load false 1 (.t 19)),
 O 21 (.bin .eql (.t 20) (.c (.int .i64 0))),
 O 22 (.mv (.t 21)),
 G 23 (.faddr 2 (.t 1)) 22 true,
 G 24 (.faddr 0 (.t 23)) 22 true,
 G 25 (.load false 1 (.t 24)) 22 true,
 G 26 (.call 210 [.t 25]) 22 true,
 O 27 (.pick (.t 22) (.t 26) (.c (.bool false))),
 O 28 (.mv (.t 27)),
 G 29 (.faddr 2 (.t 1)) 28 true,
 G 30 (.faddr 1 (.t 29)) 28 true,
 G 31 (.load false 1 (.t 30)) 28 true,
 G 32 (.call 210 [.t 31]) 28 true,
 O 33 (.pick (.t 28) (.t 32) (.c (.bool false))),
 O 2 (.mv (.t 33))])
 (.ret)) (.skip)))))))
 (.seq (.region false [O 2 (.mv (.c (.bool false)))])
 (.ret)))) }
def name_Right : PF := { ntmps := 19, raw := false, split := false, res := [.tmp 2], body := (
  .seq (.region false [O 2 (.mv (.c (.bool false)))])
 (.seq (.seq (.region false [O 3 (.mv (.t 0)),
 O 4 (.lens (.t 3)),
 O 5 (.bin .lss (.t 4) (.c (.int .i64 1))),
 O 6 (.mv (.t 5)),
 G 7 (.mv (.t 0)) 6 false,
 G 8 (.lens (.t 7)) 6 false,
 G 9 (.bin .gtr (.t 8) (.c (.int .i64 12))) 6 false,
 O 10 (.pick (.t 6) (.c (.bool true)) (.t 9)),
 O 11 (.mv (.t 10)),
 G 12 (.mv (.t 0)) 11 false,
 G 13 (.ixstr (.t 12) (.c (.int .i64 0))) 11 false,
 G 14 (.call 211 [.t 13]) 11 false,
 G 15 (.un .not (.t 14)) 11 false,
 O 16 (.pick (.t 11) (.c (.bool true)) (.t 15))])
 (.cond (.t 16) (.seq (.region false [O 2 (.mv (.c (.bool false)))])
 (.ret)) (.skip)))
 (.seq (.region false [O 17 (.mv (.t 0)),
 O 18 (.call 212 [.t 17, (.c (.fn 213 [] []))]),
 O 2 (.mv (.t 18))])
 (.ret)))) }
def thing_row : PF := { ntmps := 5, raw := false, split := false, res := [.tmp 2], body := (
  .seq (.region false [O 2 (.mv (.c (.nilp)))])
 (.seq (.region false [O 3 (.mv (.t 0)),
 O 4 (.call 214 [.t 3, (.c (.fn 215 [] []))]),
 O 2 (.mv (.t 4))])
 (.ret))) }
def thing_to : PF := { ntmps := 15, raw := false, split := false, res := [.cell 4 true 6], body := (
  .seq (.region false [O 2 (.box false (.t 0)),
 O 3 (.box true (.t 1)),
 O 4 (.alloc false [.bool false, .str ⟨#[]⟩, .int .i64 0, .int .i64 0, .int .i64 0, .int .i64 0])])
 (.seq (.region true [O 5 (.faddr 0 (.t 3)),
 O 6 (.load false 1 (.t 5)),
 O 7 (.faddr 1 (.t 3)),
 ⟨some 8, .load false 1 (.t 7), none, 0, 1⟩,
 O 9 (.faddr 2 (.t 3)),
 ⟨some 10, .load true 2 (.t 9), none, 0, 2⟩,
 O 11 (.faddr 2 (.t 2)),
 ⟨none, .store 1 (.t 11) (.t 6), none, 0, 0⟩,
 O 12 (.faddr 3 (.t 2)),
 ⟨none, .store 1 (.t 12) (.t 8), none, 0, 0⟩,
 O 13 (.faddr 4 (.t 2)),
 ⟨none, .store 2 (.t 13) (.t 10), none, 0, 0⟩])
 (.seq (.region false [O 14 (.load true 6 (.t 2)),
 ⟨none, .store 6 (.t 4) (.t 14), none, 0, 0⟩])
 (.ret)))) }
def quota_Row_Item_Add : PF := { ntmps := 28, raw := false, split := false, res := [.tmp 4, .tmp 5, .tmp 6], body := (
  .seq (.region false [O 3 (.box true (.t 1)),
 O 4 (.mv (.c (.sl .nil []))),
 O 5 (.mv (.c (.int .i64 0))),
 O 6 (.mv (.c (.int .i64 0)))])
 (.seq (.region false [O 11 (.mv (.t 0)),
 O 12 (.call 216 [.t 11]),
 O 10 (.mv (.t 12)),
 O 13 (.ext (.t 10) 0),
 O 14 (.ext (.t 10) 1),
 O 7 (.mv (.t 13)),
 O 8 (.mv (.t 14))])
 (.seq (.seq (.region false [O 15 (.mv (.t 8)),
 O 16 (.bin .neq (.t 15) (.c (.int .i64 0)))])
 (.cond (.t 16) (.seq (.region false [O 17 (.mv (.t 8)),
 O 4 (.mv (.c (.sl .nil []))),
 O 5 (.mv (.c (.int .i64 0))),
 O 6 (.mv (.t 17))])
 (.ret)) (.skip)))
 (.seq (.region false [O 19 (.mv (.t 0)),
 O 20 (.mv (.t 7)),
 O 21 (.load true 6 (.t 3)),
 O 22 (.call 171 [.t 19, .t 20, .t 21]),
 O 18 (.mv (.t 22)),
 O 23 (.ext (.t 18) 0),
 O 24 (.ext (.t 18) 1),
 O 9 (.mv (.t 23)),
 O 8 (.mv (.t 24))])
 (.seq (.region false [O 25 (.mv (.t 9)),
 O 26 (.mv (.t 7)),
 O 27 (.mv (.t 8)),
 O 4 (.mv (.t 25)),
 O 5 (.mv (.t 26)),
 O 6 (.mv (.t 27))])
 (.ret)))))) }
def slices_Clone_Order_Order : PF := { ntmps := 8, raw := false, split := true, res := [.tmp 2], body := (
  .seq (.region false [O 2 (.mv (.c (.sl .nil [])))])
 (.seq (.seq (.region false [O 3 (.mv (.t 0)),
 O 4 (.eqk .slice false (.t 3) (.c (.sl .nil [])))])
 (.cond (.t 4) (.seq (.region false [O 2 (.mv (.c (.sl .nil [])))])
 (.ret)) (.skip)))
 (.seq (.region false [O 5 (.bslice true 10 0 [.bool false, .int .i64 0, .int .i64 0, .int .i64 0, .int .i64 0, .int .i64 0, .int .u64 0, .int .u64 0, .int .u64 0, .int .i64 0] []),
 O 6 (.mv (.t 0)),
 O 7 (.append false 10 80 (.t 5) (.t 6)),
 O 2 (.mv (.t 7))])
 (.ret)))) }
def slices_Clone_Entry_Entry : PF := { ntmps := 8, raw := false, split := true, res := [.tmp 2], body := (
  .seq (.region false [O 2 (.mv (.c (.sl .nil [])))])
 (.seq (.seq (.region false [O 3 (.mv (.t 0)),
 O 4 (.eqk .slice false (.t 3) (.c (.sl .nil [])))])
 (.cond (.t 4) (.seq (.region false [O 2 (.mv (.c (.sl .nil [])))])
 (.ret)) (.skip)))
 (.seq (.region false [O 5 (.bslice true 10 0 [.int .u64 0, .int .i64 0, .int .i64 0, .int .i64 0, .int .i64 0, .int .i64 0, .int .i64 0, .int .u64 0, .int .u64 0, .int .i64 0] []),
 O 6 (.mv (.t 0)),
 O 7 (.append false 10 80 (.t 5) (.t 6)),
 O 2 (.mv (.t 7))])
 (.ret)))) }
def slices_Clone_int_int : PF := { ntmps := 8, raw := false, split := true, res := [.tmp 2], body := (
  .seq (.region false [O 2 (.mv (.c (.sl .nil [])))])
 (.seq (.seq (.region false [O 3 (.mv (.t 0)),
 O 4 (.eqk .slice false (.t 3) (.c (.sl .nil [])))])
 (.cond (.t 4) (.seq (.region false [O 2 (.mv (.c (.sl .nil [])))])
 (.ret)) (.skip)))
 (.seq (.region false [O 5 (.bslice true 1 0 [.int .i64 0] []),
 O 6 (.mv (.t 0)),
 O 7 (.append false 1 8 (.t 5) (.t 6)),
 O 2 (.mv (.t 7))])
 (.ret)))) }
def slices_Clone_int_int_raw : PF := { ntmps := 8, raw := true, split := true, res := [.tmp 2], body := (
  .seq (.region false [O 2 (.mv (.c (.sl .nil [])))])
 (.seq (.seq (.region false [O 3 (.mv (.t 0)),
 O 4 (.eqk .slice false (.t 3) (.c (.sl .nil [])))])
 (.cond (.t 4) (.seq (.region false [O 2 (.mv (.c (.sl .nil [])))])
 (.ret)) (.skip)))
 (.seq (.region false [O 5 (.bslice true 1 0 [.sl .nil []] []),
 O 6 (.mv (.t 0)),
 O 7 (.append false 1 24 (.t 5) (.t 6)),
 O 2 (.mv (.t 7))])
 (.ret)))) }
def slices_Clone_Shelf_Shelf_raw : PF := { ntmps := 8, raw := true, split := true, res := [.tmp 2], body := (
  .seq (.region false [O 2 (.mv (.c (.sl .nil [])))])
 (.seq (.seq (.region false [O 3 (.mv (.t 0)),
 O 4 (.eqk .slice false (.t 3) (.c (.sl .nil [])))])
 (.cond (.t 4) (.seq (.region false [O 2 (.mv (.c (.sl .nil [])))])
 (.ret)) (.skip)))
 (.seq (.region false [O 5 (.bslice true 15 0 [.sl .nil [], .sl .nil [], .sl .nil [], .sl .nil [], .sl .nil [], .sl .nil [], .sl .nil [], .int .u64 0, .int .u64 0, .int .u64 0, .int .u64 0, .int .u64 0, .int .u64 0, .int .u64 0, .int .u64 0] []),
 O 6 (.mv (.t 0)),
 O 7 (.append false 15 232 (.t 5) (.t 6)),
 O 2 (.mv (.t 7))])
 (.ret)))) }
def slices_Clone_Room_Room : PF := { ntmps := 8, raw := false, split := true, res := [.tmp 2], body := (
  .seq (.region false [O 2 (.mv (.c (.sl .nil [])))])
 (.seq (.seq (.region false [O 3 (.mv (.t 0)),
 O 4 (.eqk .slice false (.t 3) (.c (.sl .nil [])))])
 (.cond (.t 4) (.seq (.region false [O 2 (.mv (.c (.sl .nil [])))])
 (.ret)) (.skip)))
 (.seq (.region false [O 5 (.bslice true 2 0 [.bool false, .str ⟨#[]⟩] []),
 O 6 (.mv (.t 0)),
 O 7 (.append false 2 24 (.t 5) (.t 6)),
 O 2 (.mv (.t 7))])
 (.ret)))) }
def slices_Clone_Exit_Exit : PF := { ntmps := 8, raw := false, split := true, res := [.tmp 2], body := (
  .seq (.region false [O 2 (.mv (.c (.sl .nil [])))])
 (.seq (.seq (.region false [O 3 (.mv (.t 0)),
 O 4 (.eqk .slice false (.t 3) (.c (.sl .nil [])))])
 (.cond (.t 4) (.seq (.region false [O 2 (.mv (.c (.sl .nil [])))])
 (.ret)) (.skip)))
 (.seq (.region false [O 5 (.bslice true 6 0 [.bool false, .int .i64 0, .int .i64 0, .int .i64 0, .int .i64 0, .int .i64 0] []),
 O 6 (.mv (.t 0)),
 O 7 (.append false 6 48 (.t 5) (.t 6)),
 O 2 (.mv (.t 7))])
 (.ret)))) }
def slices_Clone_Item_Item : PF := { ntmps := 8, raw := false, split := true, res := [.tmp 2], body := (
  .seq (.region false [O 2 (.mv (.c (.sl .nil [])))])
 (.seq (.seq (.region false [O 3 (.mv (.t 0)),
 O 4 (.eqk .slice false (.t 3) (.c (.sl .nil [])))])
 (.cond (.t 4) (.seq (.region false [O 2 (.mv (.c (.sl .nil [])))])
 (.ret)) (.skip)))
 (.seq (.region false [O 5 (.bslice true 6 0 [.bool false, .str ⟨#[]⟩, .int .i64 0, .int .i64 0, .int .i64 0, .int .i64 0] []),
 O 6 (.mv (.t 0)),
 O 7 (.append false 6 56 (.t 5) (.t 6)),
 O 2 (.mv (.t 7))])
 (.ret)))) }
def slices_Clone_Mail_Mail : PF := { ntmps := 8, raw := false, split := true, res := [.tmp 2], body := (
  .seq (.region false [O 2 (.mv (.c (.sl .nil [])))])
 (.seq (.seq (.region false [O 3 (.mv (.t 0)),
 O 4 (.eqk .slice false (.t 3) (.c (.sl .nil [])))])
 (.cond (.t 4) (.seq (.region false [O 2 (.mv (.c (.sl .nil [])))])
 (.ret)) (.skip)))
 (.seq (.region false [O 5 (.bslice true 5 0 [.bool false, .int .i64 0, .int .i64 0, .int .i64 0, .str ⟨#[]⟩] []),
 O 6 (.mv (.t 0)),
 O 7 (.append false 5 48 (.t 5) (.t 6)),
 O 2 (.mv (.t 7))])
 (.ret)))) }
def slices_Clone_Trade_Trade : PF := { ntmps := 8, raw := false, split := true, res := [.tmp 2], body := (
  .seq (.region false [O 2 (.mv (.c (.sl .nil [])))])
 (.seq (.seq (.region false [O 3 (.mv (.t 0)),
 O 4 (.eqk .slice false (.t 3) (.c (.sl .nil [])))])
 (.cond (.t 4) (.seq (.region false [O 2 (.mv (.c (.sl .nil [])))])
 (.ret)) (.skip)))
 (.seq (.region false [O 5 (.bslice true 9 0 [.bool false, .int .i64 0, .int .i64 0, .int .i64 0, .int .u64 0, .int .i64 0, .int .i64 0, .int .u64 0, .int .i64 0] []),
 O 6 (.mv (.t 0)),
 O 7 (.append false 9 72 (.t 5) (.t 6)),
 O 2 (.mv (.t 7))])
 (.ret)))) }
def slices_Clone_4_uint64_4_uint64 : PF := { ntmps := 8, raw := false, split := true, res := [.tmp 2], body := (
  .seq (.region false [O 2 (.mv (.c (.sl .nil [])))])
 (.seq (.seq (.region false [O 3 (.mv (.t 0)),
 O 4 (.eqk .slice false (.t 3) (.c (.sl .nil [])))])
 (.cond (.t 4) (.seq (.region false [O 2 (.mv (.c (.sl .nil [])))])
 (.ret)) (.skip)))
 (.seq (.region false [O 5 (.bslice true 4 0 [.int .u64 0, .int .u64 0, .int .u64 0, .int .u64 0] []),
 O 6 (.mv (.t 0)),
 O 7 (.append false 4 32 (.t 5) (.t 6)),
 O 2 (.mv (.t 7))])
 (.ret)))) }
def slices_Clone_Ref_Ref : PF := { ntmps := 8, raw := false, split := true, res := [.tmp 2], body := (
  .seq (.region false [O 2 (.mv (.c (.sl .nil [])))])
 (.seq (.seq (.region false [O 3 (.mv (.t 0)),
 O 4 (.eqk .slice false (.t 3) (.c (.sl .nil [])))])
 (.cond (.t 4) (.seq (.region false [O 2 (.mv (.c (.sl .nil [])))])
 (.ret)) (.skip)))
 (.seq (.region false [O 5 (.bslice true 2 0 [.int .i64 0, .int .i64 0] []),
 O 6 (.mv (.t 0)),
 O 7 (.append false 2 16 (.t 5) (.t 6)),
 O 2 (.mv (.t 7))])
 (.ret)))) }
def thing_of : PF := { ntmps := 10, raw := false, split := false, res := [.cell 2 true 4], body := (
  .seq (.region false [O 1 (.box true (.t 0)),
 O 2 (.alloc false [.int .i64 0, .int .i64 0, .int .i64 0, .int .i64 0])])
 (.seq (.region false [O 3 (.faddr 2 (.t 1)),
 O 4 (.load false 1 (.t 3)),
 O 5 (.faddr 3 (.t 1)),
 O 6 (.load false 1 (.t 5)),
 O 7 (.faddr 4 (.t 1)),
 O 8 (.load true 2 (.t 7)),
 O 9 (.build [.int .i64 0, .int .i64 0, .int .i64 0, .int .i64 0] [(0, 1, (.t 4)), (1, 1, (.t 6)), (2, 2, (.t 8))]),
 ⟨none, .store 4 (.t 2) (.t 9), none, 0, 0⟩])
 (.ret))) }
def thing_move : PF := { ntmps := 51, raw := false, split := false, res := [.tmp 8, .tmp 9], body := (
  .seq (.region false [O 6 (.box true (.t 2)),
 O 7 (.box true (.t 3)),
 O 8 (.mv (.c (.sl .nil []))),
 O 9 (.mv (.c (.int .i64 0)))])
 (.seq (.block 0 (.seq (.region false [O 11 (.mv (.t 0)),
 O 12 (.call 107 [.t 11]),
 O 13 (.un .not (.t 12)),
 O 14 (.mv (.t 13)),
 G 15 (.load true 4 (.t 6)) 14 false,
 G 16 (.call 165 [.t 15]) 14 false,
 G 17 (.un .not (.t 16)) 14 false,
 O 18 (.pick (.t 14) (.c (.bool true)) (.t 17)),
 O 19 (.mv (.t 18)),
 G 20 (.load true 4 (.t 7)) 19 false,
 G 21 (.call 165 [.t 20]) 19 false,
 G 22 (.un .not (.t 21)) 19 false,
 O 23 (.pick (.t 19) (.c (.bool true)) (.t 22)),
 O 10 (.mv (.t 23))])
 (.cond (.t 10) (.seq (.region false [O 8 (.mv (.c (.sl .nil []))),
 O 9 (.mv (.c (.int .i64 1)))])
 (.ret)) (.seq (.region true [O 25 (.mv (.t 0)),
 O 26 (.callp 167 [.t 25]),
 O 27 (.mv (.t 1)),
 O 28 (.callp 217 [.t 26, .t 27]),
 O 29 (.un .not (.t 28)),
 O 30 (.mv (.t 29)),
 G 31 (.mv (.t 0)) 30 false,
 G 32 (.mv (.t 1)) 30 false,
 G 33 (.ixsl 6 (.t 31) (.t 32)) 30 false,
 G 34 (.load true 6 (.t 33)) 30 false,
 G 35 (.callp 163 [.t 34]) 30 false,
 G 36 (.load true 4 (.t 6)) 30 false,
 G 37 (.eqs [.i, .i, .i, .i] true (.t 35) (.t 36)) 30 false,
 O 38 (.pick (.t 30) (.c (.bool true)) (.t 37)),
 O 24 (.mv (.t 38))])
 (.cond (.t 24) (.seq (.region false [O 8 (.mv (.c (.sl .nil []))),
 O 9 (.mv (.c (.int .i64 3)))])
 (.ret)) (.skip))))))
 (.seq (.region true [O 39 (.mv (.t 0)),
 O 40 (.callp 167 [.t 39]),
 O 41 (.mv (.t 1)),
 O 42 (.mv (.t 0)),
 O 43 (.mv (.t 1)),
 O 44 (.ixsl 6 (.t 42) (.t 43)),
 O 45 (.load true 6 (.t 44)),
 O 46 (.load true 4 (.t 7)),
 O 47 (.callp 168 [.t 45, .t 46]),
 O 48 (.callp 171 [.t 40, .t 41, .t 47]),
 O 49 (.ext (.t 48) 0),
 O 50 (.ext (.t 48) 1),
 O 8 (.mv (.t 49)),
 O 9 (.mv (.t 50))])
 (.ret)))) }
def quota_Row_Item_Put : PF := { ntmps := 35, raw := false, split := false, res := [.tmp 6, .tmp 7], body := (
  .seq (.region false [O 5 (.box true (.t 2)),
 O 6 (.mv (.c (.sl .nil []))),
 O 7 (.mv (.c (.int .i64 0)))])
 (.seq (.block 0 (.seq (.region false [O 10 (.mv (.t 0)),
 O 11 (.call 218 [.t 10]),
 O 12 (.un .not (.t 11)),
 O 9 (.mv (.t 12))])
 (.cond (.t 9) (.seq (.region false [O 6 (.mv (.c (.sl .nil []))),
 O 7 (.mv (.c (.int .i64 11)))])
 (.ret)) (.seq (.region false [O 14 (.mv (.t 1)),
 O 15 (.bin .lss (.t 14) (.c (.int .i64 0))),
 O 16 (.mv (.t 15)),
 G 17 (.mv (.t 1)) 16 false,
 G 18 (.mv (.t 0)) 16 false,
 G 19 (.nilc (.t 18)) 16 false,
 G 20 (.faddr 0 (.t 19)) 16 false,
 G 21 (.load false 1 (.t 20)) 16 false,
 G 22 (.len (.t 21)) 16 false,
 G 23 (.bin .geq (.t 17) (.t 22)) 16 false,
 O 24 (.pick (.t 16) (.c (.bool true)) (.t 23)),
 O 13 (.mv (.t 24))])
 (.cond (.t 13) (.seq (.region false [O 6 (.mv (.c (.sl .nil []))),
 O 7 (.mv (.c (.int .i64 1)))])
 (.ret)) (.skip))))))
 (.seq (.region false [O 25 (.mv (.t 0)),
 O 26 (.nilc (.t 25)),
 O 27 (.faddr 0 (.t 26)),
 O 28 (.load false 1 (.t 27)),
 O 29 (.call 267 [.t 28]),
 O 8 (.mv (.t 29))])
 (.seq (.region false [O 30 (.mv (.t 8)),
 O 31 (.mv (.t 1)),
 O 32 (.load true 6 (.t 5)),
 O 33 (.ixsl 6 (.t 30) (.t 31)),
 ⟨none, .store 6 (.t 33) (.t 32), none, 0, 0⟩])
 (.seq (.region false [O 34 (.mv (.t 8)),
 O 6 (.mv (.t 34)),
 O 7 (.mv (.c (.int .i64 0)))])
 (.ret)))))) }
def state_all_Shelf_1 : PF := { ntmps := 8, raw := false, split := false, res := [.tmp 3], body := (
  .seq (.region false [O 2 (.box true (.t 0)),
 O 3 (.mv (.c (.bool false)))])
 (.seq (.region false [O 4 (.load false 1 (.t 1)),
 O 5 (.load true 15 (.t 2)),
 O 6 (.callv (.t 4) [.t 5]),
 O 7 (.un .not (.t 6)),
 O 3 (.mv (.t 7))])
 (.ret))) }
def slices_ContainsFunc_Shelf_Shelf : PF := { ntmps := 9, raw := false, split := false, res := [.tmp 4], body := (
  .seq (.region false [O 4 (.mv (.c (.bool false)))])
 (.seq (.region false [O 5 (.mv (.t 0)),
 O 6 (.mv (.t 1)),
 O 7 (.call 184 [.t 5, .t 6]),
 O 8 (.bin .geq (.t 7) (.c (.int .i64 0))),
 O 4 (.mv (.t 8))])
 (.ret))) }
def room_Rooms : PF := { ntmps := 6, raw := false, split := false, res := [.tmp 2], body := (
  .seq (.region false [O 2 (.mv (.c (.bool false)))])
 (.seq (.region false [O 3 (.mv (.t 0)),
 O 4 (.call 185 [.t 3, (.c (.fn 186 [] []))]),
 O 5 (.un .not (.t 4)),
 O 2 (.mv (.t 5))])
 (.ret))) }
def room_Exits : PF := { ntmps := 29, raw := false, split := false, res := [.tmp 2], body := (
  .seq (.region false [O 2 (.mv (.c (.bool false)))])
 (.seq (.seq (.region false [O 5 (.mv (.t 0)),
 O 6 (.len (.t 5)),
 O 7 (.mv (.c (.int .i64 0)))])
 (.block 0 (.loop (.seq (.region false [O 8 (.bin .lss (.t 7) (.t 6))])
 (.seq (.cond (.t 8) (.skip) (.exit 0))
 (.seq (.block 1 (.seq (.region false [O 9 (.mv (.t 7)),
 O 10 (.ixsl 6 (.t 5) (.t 7)),
 O 11 (.load true 6 (.t 10)),
 O 4 (.pend 6),
 O 3 (.mv (.t 9)),
 O 4 (.init true 6 4 (.t 11))])
 (.seq (.region false [O 12 (.load true 6 (.t 4)),
 O 13 (.call 187 [.t 12]),
 O 14 (.mv (.t 13)),
 G 15 (.faddr 0 (.t 4)) 14 false,
 G 16 (.load false 1 (.t 15)) 14 false,
 G 17 (.mv (.t 16)) 14 false,
 G 18 (.mv (.t 0)) 17 true,
 G 19 (.faddr 1 (.t 4)) 17 true,
 G 20 (.load true 2 (.t 19)) 17 true,
 G 21 (.faddr 5 (.t 4)) 17 true,
 G 22 (.load false 1 (.t 21)) 17 true,
 G 23 (.call 188 [.t 18, .t 20, .t 22]) 17 true,
 G 24 (.mv (.t 3)) 17 true,
 G 25 (.bin .neq (.t 23) (.t 24)) 17 true,
 G 26 (.pick (.t 17) (.t 25) (.c (.bool false))) 14 false,
 O 27 (.pick (.t 14) (.c (.bool true)) (.t 26))])
 (.cond (.t 27) (.seq (.region false [O 2 (.mv (.c (.bool false)))])
 (.ret)) (.skip)))))
 (.region false [O 28 (.bin .add (.t 7) (.c (.int .i64 1))),
 O 7 (.mv (.t 28))])))))))
 (.seq (.region false [O 2 (.mv (.c (.bool true)))])
 (.ret)))) }
def post_Right : PF := { ntmps := 6, raw := false, split := false, res := [.tmp 2], body := (
  .seq (.region false [O 2 (.mv (.c (.bool false)))])
 (.seq (.region false [O 3 (.mv (.t 0)),
 O 4 (.call 131 [.t 3, (.c (.fn 190 [] []))]),
 O 5 (.un .not (.t 4)),
 O 2 (.mv (.t 5))])
 (.ret))) }
def trade_Right : PF := { ntmps := 6, raw := false, split := false, res := [.tmp 2], body := (
  .seq (.region false [O 2 (.mv (.c (.bool false)))])
 (.seq (.region false [O 3 (.mv (.t 0)),
 O 4 (.call 133 [.t 3, (.c (.fn 191 [] []))]),
 O 5 (.un .not (.t 4)),
 O 2 (.mv (.t 5))])
 (.ret))) }
def hall_Right_1 : PF := { ntmps := 9, raw := false, split := false, res := [.tmp 2], body := (
  .seq (.region false [O 2 (.mv (.c (.bool false)))])
 (.seq (.region false [O 3 (.mv (.t 0)),
 O 4 (.bin .lss (.t 3) (.c (.int .i64 0))),
 O 5 (.mv (.t 4)),
 G 6 (.mv (.t 0)) 5 false,
 G 7 (.bin .gtr (.t 6) (.c (.int .i64 2))) 5 false,
 O 8 (.pick (.t 5) (.c (.bool true)) (.t 7)),
 O 2 (.mv (.t 8))])
 (.ret))) }
def book_May : PF := { ntmps := 55, raw := false, split := false, res := [.tmp 2], body := (
  .seq (.region false [O 1 (.box true (.t 0)),
 O 2 (.mv (.c (.bool false)))])
 (.seq (.region false [O 6 (.faddr 3 (.t 1)),
 O 7 (.load false 1 (.t 6)),
 O 8 (.faddr 7 (.t 1)),
 O 9 (.load false 1 (.t 8)),
 O 10 (.faddr 6 (.t 1)),
 O 11 (.load false 1 (.t 10)),
 O 12 (.call 193 [.t 7, .t 9, .t 11]),
 O 5 (.mv (.t 12)),
 O 13 (.ext (.t 5) 0),
 O 14 (.ext (.t 5) 1),
 O 3 (.mv (.t 13)),
 O 4 (.mv (.t 14))])
 (.seq (.region false [O 15 (.mv (.t 4)),
 O 16 (.bin .eql (.t 15) (.c (.int .i64 0))),
 O 17 (.mv (.t 16)),
 G 18 (.mv (.t 3)) 17 true,
 G 19 (.faddr 8 (.t 1)) 17 true,
 G 20 (.load false 1 (.t 19)) 17 true,
 G 21 (.bin .eql (.t 18) (.t 20)) 17 true,
 O 22 (.pick (.t 17) (.t 21) (.c (.bool false))),
 O 23 (.mv (.t 22)),
 G 24 (.faddr 1 (.t 1)) 23 true,
 G 25 (.load false 1 (.t 24)) 23 true,
 G 26 (.call 194 [.t 25]) 23 true,
 O 27 (.pick (.t 23) (.t 26) (.c (.bool false))),
 O 28 (.mv (.t 27)),
 G 29 (.faddr 2 (.t 1)) 28 true,
 G 30 (.load false 1 (.t 29)) 28 true,
 G 31 (.call 194 [.t 30]) 28 true,
 O 32 (.pick (.t 28) (.t 31) (.c (.bool false))),
 O 33 (.mv (.t 32)),
 G 34 (.faddr 4 (.t 1)) 33 true,
 G 35 (.load false 1 (.t 34)) 33 true,
 G 36 (.call 136 [.t 35]) 33 true,
 O 37 (.pick (.t 33) (.t 36) (.c (.bool false))),
 O 38 (.mv (.t 37)),
 G 39 (.faddr 5 (.t 1)) 38 true,
 G 40 (.load false 1 (.t 39)) 38 true,
 G 41 (.call 136 [.t 40]) 38 true,
 O 42 (.pick (.t 38) (.t 41) (.c (.bool false))),
 O 43 (.mv (.t 42)),
 G 44 (.faddr 4 (.t 1)) 43 true,
 G 45 (.load false 1 (.t 44)) 43 true,
 G 46 (.faddr 5 (.t 1)) 43 true,
 G 47 (.load false 1 (.t 46)) 43 true,
 G 48 (.bin .neq (.t 45) (.t 47)) 43 true,
 O 49 (.pick (.t 43) (.t 48) (.c (.bool false))),
 O 50 (.mv (.t 49)),
 G 51 (.faddr 9 (.t 1)) 50 true,
 G 52 (.load false 1 (.t 51)) 50 true,
 G 53 (.bin .geq (.t 52) (.c (.int .i64 0))) 50 true,
 O 54 (.pick (.t 50) (.t 53) (.c (.bool false))),
 O 2 (.mv (.t 54))])
 (.ret)))) }
def audit_May : PF := { ntmps := 86, raw := false, split := false, res := [.tmp 2], body := (
  .seq (.region false [O 1 (.box true (.t 0)),
 O 2 (.mv (.c (.bool false)))])
 (.seq (.seq (.region false [O 6 (.faddr 0 (.t 1)),
 O 7 (.load false 1 (.t 6)),
 O 8 (.bin .gtr (.t 7) (.c (.int .u64 4611686018427387904))),
 O 9 (.mv (.t 8)),
 G 10 (.faddr 1 (.t 1)) 9 false,
 G 11 (.load false 1 (.t 10)) 9 false,
 G 12 (.call 195 [.t 11]) 9 false,
 G 13 (.un .not (.t 12)) 9 false,
 O 14 (.pick (.t 9) (.c (.bool true)) (.t 13)),
 O 15 (.mv (.t 14)),
 G 16 (.faddr 2 (.t 1)) 15 false,
 G 17 (.load false 1 (.t 16)) 15 false,
 G 18 (.call 195 [.t 17]) 15 false,
 G 19 (.un .not (.t 18)) 15 false,
 O 20 (.pick (.t 15) (.c (.bool true)) (.t 19)),
 O 21 (.mv (.t 20)),
 G 22 (.faddr 3 (.t 1)) 21 false,
 G 23 (.load false 1 (.t 22)) 21 false,
 G 24 (.call 195 [.t 23]) 21 false,
 G 25 (.un .not (.t 24)) 21 false,
 O 26 (.pick (.t 21) (.c (.bool true)) (.t 25)),
 O 27 (.mv (.t 26)),
 G 28 (.faddr 9 (.t 1)) 27 false,
 G 29 (.load false 1 (.t 28)) 27 false,
 G 30 (.call 195 [.t 29]) 27 false,
 G 31 (.un .not (.t 30)) 27 false,
 O 32 (.pick (.t 27) (.c (.bool true)) (.t 31))])
 (.cond (.t 32) (.seq (.region false [O 2 (.mv (.c (.bool false)))])
 (.ret)) (.skip)))
 (.seq (.seq (.region false [O 33 (.faddr 4 (.t 1)),
 O 34 (.load false 1 (.t 33)),
 O 35 (.bin .eql (.t 34) (.c (.int .i64 3)))])
 (.cond (.t 35) (.seq (.region false [O 36 (.faddr 0 (.t 1)),
 O 37 (.load false 1 (.t 36)),
 O 38 (.faddr 1 (.t 1)),
 O 39 (.load false 1 (.t 38)),
 O 40 (.faddr 2 (.t 1)),
 O 41 (.load false 1 (.t 40)),
 O 42 (.faddr 3 (.t 1)),
 O 43 (.load false 1 (.t 42)),
 O 44 (.faddr 4 (.t 1)),
 O 45 (.load false 1 (.t 44)),
 O 46 (.faddr 9 (.t 1)),
 O 47 (.load false 1 (.t 46)),
 O 48 (.build [.int .u64 0, .int .i64 0, .int .i64 0, .int .i64 0, .int .i64 0, .int .i64 0, .int .i64 0, .int .u64 0, .int .u64 0, .int .i64 0] [(0, 1, (.t 37)), (1, 1, (.t 39)), (2, 1, (.t 41)), (3, 1, (.t 43)), (4, 1, (.t 45)), (9, 1, (.t 47))]),
 O 3 (.pend 10),
 O 3 (.init true 10 3 (.t 48))])
 (.seq (.region false [O 49 (.load true 10 (.t 1)),
 O 50 (.load true 10 (.t 3)),
 O 51 (.eqs [.i, .i, .i, .i, .i, .i, .i, .i, .i, .i] false (.t 49) (.t 50)),
 O 2 (.mv (.t 51))])
 (.ret))) (.skip)))
 (.seq (.region false [O 53 (.faddr 4 (.t 1)),
 O 54 (.load false 1 (.t 53)),
 O 55 (.faddr 7 (.t 1)),
 O 56 (.load false 1 (.t 55)),
 O 57 (.faddr 8 (.t 1)),
 O 58 (.load false 1 (.t 57)),
 O 59 (.call 193 [.t 54, .t 56, .t 58]),
 O 52 (.mv (.t 59)),
 O 60 (.ext (.t 52) 0),
 O 61 (.ext (.t 52) 1),
 O 4 (.mv (.t 60)),
 O 5 (.mv (.t 61))])
 (.seq (.region false [O 62 (.mv (.t 5)),
 O 63 (.bin .eql (.t 62) (.c (.int .i64 0))),
 O 64 (.mv (.t 63)),
 G 65 (.faddr 9 (.t 1)) 64 true,
 G 66 (.load false 1 (.t 65)) 64 true,
 G 67 (.bin .eql (.t 66) (.c (.int .i64 0))) 64 true,
 O 68 (.pick (.t 64) (.t 67) (.c (.bool false))),
 O 69 (.mv (.t 68)),
 G 70 (.faddr 5 (.t 1)) 69 true,
 G 71 (.load false 1 (.t 70)) 69 true,
 G 72 (.faddr 6 (.t 1)) 69 true,
 G 73 (.load false 1 (.t 72)) 69 true,
 G 74 (.bin .neq (.t 71) (.t 73)) 69 true,
 O 75 (.pick (.t 69) (.t 74) (.c (.bool false))),
 O 76 (.mv (.t 75)),
 G 77 (.faddr 5 (.t 1)) 76 true,
 G 78 (.load false 1 (.t 77)) 76 true,
 G 79 (.call 136 [.t 78]) 76 true,
 O 80 (.pick (.t 76) (.t 79) (.c (.bool false))),
 O 81 (.mv (.t 80)),
 G 82 (.faddr 6 (.t 1)) 81 true,
 G 83 (.load false 1 (.t 82)) 81 true,
 G 84 (.call 136 [.t 83]) 81 true,
 O 85 (.pick (.t 81) (.t 84) (.c (.bool false))),
 O 2 (.mv (.t 85))])
 (.ret)))))) }
def audit_order : PF := { ntmps := 17, raw := false, split := false, res := [.tmp 4], body := (
  .seq (.region false [O 2 (.box true (.t 0)),
 O 3 (.box true (.t 1)),
 O 4 (.mv (.c (.int .i64 0)))])
 (.seq (.region true [O 5 (.faddr 0 (.t 2)),
 O 6 (.load false 1 (.t 5)),
 O 7 (.faddr 0 (.t 3)),
 O 8 (.load false 1 (.t 7)),
 O 9 (.callp 196 [.t 6, .t 8]),
 O 10 (.faddr 1 (.t 2)),
 O 11 (.load false 1 (.t 10)),
 O 12 (.faddr 1 (.t 3)),
 O 13 (.load false 1 (.t 12)),
 O 14 (.callp 197 [.t 11, .t 13]),
 O 15 (.bslice true 1 2 [.int .i64 0] [(0, (.t 9)), (1, (.t 14))]),
 O 16 (.callp 198 [.t 15]),
 O 4 (.mv (.t 16))])
 (.ret))) }
def state_judge_label : PF := { ntmps := 15, raw := false, split := false, res := [.tmp 4], body := (
  .seq (.region false [O 2 (.box true (.t 0)),
 O 4 (.mv (.c (.bool false)))])
 (.seq (.region false [O 5 (.mv (.t 1)),
 O 6 (.bin .geq (.t 5) (.c (.int .i64 0))),
 O 7 (.mv (.t 6)),
 G 8 (.mv (.t 1)) 7 true,
 G 9 (.faddr 0 (.t 2)) 7 true,
 G 10 (.faddr 0 (.t 9)) 7 true,
 G 11 (.load false 1 (.t 10)) 7 true,
 G 12 (.len (.t 11)) 7 true,
 G 13 (.bin .lss (.t 8) (.t 12)) 7 true,
 O 14 (.pick (.t 7) (.t 13) (.c (.bool false))),
 O 4 (.mv (.t 14))])
 (.ret))) }
def state_judge_account : PF := { ntmps := 15, raw := false, split := false, res := [.tmp 4], body := (
  .seq (.region false [O 2 (.box true (.t 0)),
 O 4 (.mv (.c (.bool false)))])
 (.seq (.region false [O 5 (.mv (.t 1)),
 O 6 (.bin .geq (.t 5) (.c (.int .i64 0))),
 O 7 (.mv (.t 6)),
 G 8 (.mv (.t 1)) 7 true,
 G 9 (.faddr 0 (.t 2)) 7 true,
 G 10 (.faddr 2 (.t 9)) 7 true,
 G 11 (.load false 1 (.t 10)) 7 true,
 G 12 (.len (.t 11)) 7 true,
 G 13 (.bin .lss (.t 8) (.t 12)) 7 true,
 O 14 (.pick (.t 7) (.t 13) (.c (.bool false))),
 O 4 (.mv (.t 14))])
 (.ret))) }
def state_all_Order_1 : PF := { ntmps := 8, raw := false, split := false, res := [.tmp 3], body := (
  .seq (.region false [O 2 (.box true (.t 0)),
 O 3 (.mv (.c (.bool false)))])
 (.seq (.region false [O 4 (.load false 1 (.t 1)),
 O 5 (.load true 10 (.t 2)),
 O 6 (.callv (.t 4) [.t 5]),
 O 7 (.un .not (.t 6)),
 O 3 (.mv (.t 7))])
 (.ret))) }
def slices_ContainsFunc_Order_Order : PF := { ntmps := 9, raw := false, split := false, res := [.tmp 4], body := (
  .seq (.region false [O 4 (.mv (.c (.bool false)))])
 (.seq (.region false [O 5 (.mv (.t 0)),
 O 6 (.mv (.t 1)),
 O 7 (.call 199 [.t 5, .t 6]),
 O 8 (.bin .geq (.t 7) (.c (.int .i64 0))),
 O 4 (.mv (.t 8))])
 (.ret))) }
def state_all_Entry_1 : PF := { ntmps := 8, raw := false, split := false, res := [.tmp 3], body := (
  .seq (.region false [O 2 (.box true (.t 0)),
 O 3 (.mv (.c (.bool false)))])
 (.seq (.region false [O 4 (.load false 1 (.t 1)),
 O 5 (.load true 10 (.t 2)),
 O 6 (.callv (.t 4) [.t 5]),
 O 7 (.un .not (.t 6)),
 O 3 (.mv (.t 7))])
 (.ret))) }
def slices_ContainsFunc_Entry_Entry : PF := { ntmps := 9, raw := false, split := false, res := [.tmp 4], body := (
  .seq (.region false [O 4 (.mv (.c (.bool false)))])
 (.seq (.region false [O 5 (.mv (.t 0)),
 O 6 (.mv (.t 1)),
 O 7 (.call 200 [.t 5, .t 6]),
 O 8 (.bin .geq (.t 7) (.c (.int .i64 0))),
 O 4 (.mv (.t 8))])
 (.ret))) }
def state_all_int_1 : PF := { ntmps := 8, raw := false, split := false, res := [.tmp 3], body := (
  .seq (.region false [O 3 (.mv (.c (.bool false)))])
 (.seq (.region false [O 4 (.load false 1 (.t 1)),
 O 5 (.mv (.t 0)),
 O 6 (.callv (.t 4) [.t 5]),
 O 7 (.un .not (.t 6)),
 O 3 (.mv (.t 7))])
 (.ret))) }
def state_judge_below_1 : PF := { ntmps := 16, raw := false, split := false, res := [.tmp 4], body := (
  .seq (.region false [O 3 (.box true (.t 0)),
 O 4 (.mv (.c (.bool false)))])
 (.seq (.region false [O 5 (.faddr 9 (.t 1)),
 O 6 (.load true 6 (.t 5)),
 O 7 (.load true 2 (.t 3)),
 O 8 (.call 50 [.t 6, .t 7]),
 O 9 (.mv (.t 8)),
 G 10 (.load true 15 (.t 1)) 9 true,
 G 11 (.faddr 0 (.t 3)) 9 true,
 G 12 (.load false 1 (.t 11)) 9 true,
 G 13 (.load false 1 (.t 2)) 9 true,
 G 14 (.call 129 [.t 10, .t 12, .t 13]) 9 true,
 O 15 (.pick (.t 9) (.t 14) (.c (.bool false))),
 O 4 (.mv (.t 15))])
 (.ret))) }
def state_all_Exit_1 : PF := { ntmps := 8, raw := false, split := false, res := [.tmp 3], body := (
  .seq (.region false [O 2 (.box true (.t 0)),
 O 3 (.mv (.c (.bool false)))])
 (.seq (.region false [O 4 (.load false 1 (.t 1)),
 O 5 (.load true 6 (.t 2)),
 O 6 (.callv (.t 4) [.t 5]),
 O 7 (.un .not (.t 6)),
 O 3 (.mv (.t 7))])
 (.ret))) }
def slices_ContainsFunc_Exit_Exit : PF := { ntmps := 9, raw := false, split := false, res := [.tmp 4], body := (
  .seq (.region false [O 4 (.mv (.c (.bool false)))])
 (.seq (.region false [O 5 (.mv (.t 0)),
 O 6 (.mv (.t 1)),
 O 7 (.call 201 [.t 5, .t 6]),
 O 8 (.bin .geq (.t 7) (.c (.int .i64 0))),
 O 4 (.mv (.t 8))])
 (.ret))) }
def state_all_Item_1 : PF := { ntmps := 8, raw := false, split := false, res := [.tmp 3], body := (
  .seq (.region false [O 2 (.box true (.t 0)),
 O 3 (.mv (.c (.bool false)))])
 (.seq (.region false [O 4 (.load false 1 (.t 1)),
 O 5 (.load true 6 (.t 2)),
 O 6 (.callv (.t 4) [.t 5]),
 O 7 (.un .not (.t 6)),
 O 3 (.mv (.t 7))])
 (.ret))) }
def slices_ContainsFunc_Item_Item : PF := { ntmps := 9, raw := false, split := false, res := [.tmp 4], body := (
  .seq (.region false [O 4 (.mv (.c (.bool false)))])
 (.seq (.region false [O 5 (.mv (.t 0)),
 O 6 (.mv (.t 1)),
 O 7 (.call 202 [.t 5, .t 6]),
 O 8 (.bin .geq (.t 7) (.c (.int .i64 0))),
 O 4 (.mv (.t 8))])
 (.ret))) }
def state_all_Ref_1 : PF := { ntmps := 8, raw := false, split := false, res := [.tmp 3], body := (
  .seq (.region false [O 2 (.box true (.t 0)),
 O 3 (.mv (.c (.bool false)))])
 (.seq (.region false [O 4 (.load false 1 (.t 1)),
 O 5 (.load true 2 (.t 2)),
 O 6 (.callv (.t 4) [.t 5]),
 O 7 (.un .not (.t 6)),
 O 3 (.mv (.t 7))])
 (.ret))) }
def slices_ContainsFunc_Ref_Ref : PF := { ntmps := 9, raw := false, split := false, res := [.tmp 4], body := (
  .seq (.region false [O 4 (.mv (.c (.bool false)))])
 (.seq (.region false [O 5 (.mv (.t 0)),
 O 6 (.mv (.t 1)),
 O 7 (.call 203 [.t 5, .t 6]),
 O 8 (.bin .geq (.t 7) (.c (.int .i64 0))),
 O 4 (.mv (.t 8))])
 (.ret))) }
def state_judge_leq : PF := { ntmps := 30, raw := false, split := false, res := [.tmp 6], body := (
  .seq (.region false [O 3 (.box true (.t 0)),
 O 6 (.mv (.c (.bool false)))])
 (.seq (.region true [O 7 (.load true 15 (.t 3)),
 O 8 (.mv (.t 1)),
 O 9 (.callp 115 [.t 7, .t 8]),
 O 10 (.mv (.t 9)),
 G 11 (.load true 15 (.t 3)) 10 true,
 G 12 (.mv (.t 2)) 10 true,
 G 13 (.callp 115 [.t 11, .t 12]) 10 true,
 O 14 (.pick (.t 10) (.t 13) (.c (.bool false))),
 O 15 (.mv (.t 14)),
 G 16 (.faddr 0 (.t 3)) 15 true,
 G 17 (.faddr 0 (.t 16)) 15 true,
 G 18 (.load false 1 (.t 17)) 15 true,
 G 19 (.mv (.t 1)) 15 true,
 G 20 (.ixsl 2 (.t 18) (.t 19)) 15 true,
 G 21 (.load true 2 (.t 20)) 15 true,
 G 22 (.faddr 0 (.t 3)) 15 true,
 G 23 (.faddr 0 (.t 22)) 15 true,
 G 24 (.load false 1 (.t 23)) 15 true,
 G 25 (.mv (.t 2)) 15 true,
 G 26 (.ixsl 2 (.t 24) (.t 25)) 15 true,
 G 27 (.load true 2 (.t 26)) 15 true,
 G 28 (.callp 8 [.t 21, .t 27]) 15 true,
 O 29 (.pick (.t 15) (.t 28) (.c (.bool false))),
 O 6 (.mv (.t 29))])
 (.ret))) }
def state_all_Mail_1 : PF := { ntmps := 8, raw := false, split := false, res := [.tmp 3], body := (
  .seq (.region false [O 2 (.box true (.t 0)),
 O 3 (.mv (.c (.bool false)))])
 (.seq (.region false [O 4 (.load false 1 (.t 1)),
 O 5 (.load true 5 (.t 2)),
 O 6 (.callv (.t 4) [.t 5]),
 O 7 (.un .not (.t 6)),
 O 3 (.mv (.t 7))])
 (.ret))) }
def slices_ContainsFunc_Mail_Mail : PF := { ntmps := 9, raw := false, split := false, res := [.tmp 4], body := (
  .seq (.region false [O 4 (.mv (.c (.bool false)))])
 (.seq (.region false [O 5 (.mv (.t 0)),
 O 6 (.mv (.t 1)),
 O 7 (.call 204 [.t 5, .t 6]),
 O 8 (.bin .geq (.t 7) (.c (.int .i64 0))),
 O 4 (.mv (.t 8))])
 (.ret))) }
def state_all_Trade_1 : PF := { ntmps := 8, raw := false, split := false, res := [.tmp 3], body := (
  .seq (.region false [O 2 (.box true (.t 0)),
 O 3 (.mv (.c (.bool false)))])
 (.seq (.region false [O 4 (.load false 1 (.t 1)),
 O 5 (.load true 9 (.t 2)),
 O 6 (.callv (.t 4) [.t 5]),
 O 7 (.un .not (.t 6)),
 O 3 (.mv (.t 7))])
 (.ret))) }
def slices_ContainsFunc_Trade_Trade : PF := { ntmps := 9, raw := false, split := false, res := [.tmp 4], body := (
  .seq (.region false [O 4 (.mv (.c (.bool false)))])
 (.seq (.region false [O 5 (.mv (.t 0)),
 O 6 (.mv (.t 1)),
 O 7 (.call 205 [.t 5, .t 6]),
 O 8 (.bin .geq (.t 7) (.c (.int .i64 0))),
 O 4 (.mv (.t 8))])
 (.ret))) }
def quota_Row_Trade_made : PF := { ntmps := 12, raw := false, split := false, res := [.tmp 2], body := (
  .seq (.region false [O 2 (.mv (.c (.bool false)))])
 (.seq (.region false [O 3 (.mv (.t 0)),
 O 4 (.eqk .ptr true (.t 3) (.c (.nilp))),
 O 5 (.mv (.t 4)),
 G 6 (.mv (.t 0)) 5 true,
 G 7 (.nilc (.t 6)) 5 true,
 G 8 (.faddr 1 (.t 7)) 5 true,
 G 9 (.load false 1 (.t 8)) 5 true,
 G 10 (.eqk .fn true (.t 9) (.c (.nilf))) 5 true,
 O 11 (.pick (.t 5) (.t 10) (.c (.bool false))),
 O 2 (.mv (.t 11))])
 (.ret))) }
def coin_Right : PF := { ntmps := 9, raw := false, split := false, res := [.tmp 2], body := (
  .seq (.region false [O 2 (.mv (.c (.bool false)))])
 (.seq (.region false [O 3 (.mv (.t 0)),
 O 4 (.bin .geq (.t 3) (.c (.int .i64 0))),
 O 5 (.mv (.t 4)),
 G 6 (.mv (.t 0)) 5 true,
 G 7 (.bin .lss (.t 6) (.c (.int .i64 4))) 5 true,
 O 8 (.pick (.t 5) (.t 7) (.c (.bool false))),
 O 2 (.mv (.t 8))])
 (.ret))) }
def book_Held : PF := { ntmps := 39, raw := false, split := false, res := [.tmp 4, .tmp 5], body := (
  .seq (.region false [O 4 (.mv (.c (.int .u64 0))),
 O 5 (.mv (.c (.int .i64 0)))])
 (.seq (.seq (.region false [O 9 (.mv (.t 1)),
 O 10 (.call 136 [.t 9]),
 O 11 (.un .not (.t 10))])
 (.cond (.t 11) (.seq (.region false [O 4 (.mv (.c (.int .u64 0))),
 O 5 (.mv (.c (.int .i64 1)))])
 (.ret)) (.skip)))
 (.seq (.region false [O 6 (.mv (.c (.sl .nil [])))])
 (.seq (.seq (.region false [O 12 (.mv (.t 0)),
 O 13 (.call 206 [.t 12]),
 O 14 (.len (.t 13)),
 O 15 (.mv (.c (.int .i64 0)))])
 (.block 0 (.loop (.seq (.region false [O 16 (.bin .lss (.t 15) (.t 14))])
 (.seq (.cond (.t 16) (.skip) (.exit 0))
 (.seq (.block 1 (.seq (.region false [O 17 (.ixsl 1 (.t 13) (.t 15)),
 O 18 (.load false 1 (.t 17)),
 O 8 (.mv (.t 18))])
 (.seq (.region false [O 19 (.mv (.t 0)),
 O 20 (.mv (.t 8)),
 O 21 (.ixsl 10 (.t 19) (.t 20)),
 O 22 (.load true 10 (.t 21)),
 O 23 (.call 207 [.t 22]),
 O 24 (.mv (.t 1)),
 O 25 (.bin .eql (.t 23) (.t 24))])
 (.cond (.t 25) (.region false [O 26 (.mv (.t 6)),
 O 27 (.mv (.t 0)),
 O 28 (.mv (.t 8)),
 O 29 (.ixsl 10 (.t 27) (.t 28)),
 O 30 (.faddr 8 (.t 29)),
 O 31 (.load false 1 (.t 30)),
 O 32 (.bslice true 1 1 [.int .u64 0] [(0, (.t 31))]),
 O 33 (.append false 1 8 (.t 26) (.t 32)),
 O 6 (.mv (.t 33))]) (.skip)))))
 (.region false [O 34 (.bin .add (.t 15) (.c (.int .i64 1))),
 O 15 (.mv (.t 34))])))))))
 (.seq (.region false [O 35 (.mv (.t 6)),
 O 36 (.call 139 [.t 35]),
 O 37 (.ext (.t 36) 0),
 O 38 (.ext (.t 36) 1),
 O 4 (.mv (.t 37)),
 O 5 (.mv (.t 38))])
 (.ret)))))) }
def trade_Held : PF := { ntmps := 42, raw := false, split := false, res := [.tmp 4, .tmp 5], body := (
  .seq (.region false [O 4 (.mv (.c (.int .u64 0))),
 O 5 (.mv (.c (.int .i64 0)))])
 (.seq (.seq (.region false [O 9 (.mv (.t 1)),
 O 10 (.call 136 [.t 9]),
 O 11 (.un .not (.t 10))])
 (.cond (.t 11) (.seq (.region false [O 4 (.mv (.c (.int .u64 0))),
 O 5 (.mv (.c (.int .i64 1)))])
 (.ret)) (.skip)))
 (.seq (.region false [O 6 (.mv (.c (.sl .nil [])))])
 (.seq (.seq (.region false [O 12 (.mv (.t 0)),
 O 13 (.call 208 [.t 12]),
 O 14 (.call 71 [.t 13]),
 O 15 (.len (.t 14)),
 O 16 (.mv (.c (.int .i64 0)))])
 (.block 0 (.loop (.seq (.region false [O 17 (.bin .lss (.t 16) (.t 15))])
 (.seq (.cond (.t 17) (.skip) (.exit 0))
 (.seq (.block 1 (.seq (.region false [O 18 (.ixsl 1 (.t 14) (.t 16)),
 O 19 (.load false 1 (.t 18)),
 O 8 (.mv (.t 19))])
 (.seq (.region false [O 20 (.mv (.t 0)),
 O 21 (.mv (.t 8)),
 O 22 (.ixsl 9 (.t 20) (.t 21)),
 O 23 (.faddr 3 (.t 22)),
 O 24 (.faddr 0 (.t 23)),
 O 25 (.load false 1 (.t 24)),
 O 26 (.mv (.t 1)),
 O 27 (.bin .eql (.t 25) (.t 26))])
 (.cond (.t 27) (.region false [O 28 (.mv (.t 6)),
 O 29 (.mv (.t 0)),
 O 30 (.mv (.t 8)),
 O 31 (.ixsl 9 (.t 29) (.t 30)),
 O 32 (.faddr 3 (.t 31)),
 O 33 (.faddr 1 (.t 32)),
 O 34 (.load false 1 (.t 33)),
 O 35 (.bslice true 1 1 [.int .u64 0] [(0, (.t 34))]),
 O 36 (.append false 1 8 (.t 28) (.t 35)),
 O 6 (.mv (.t 36))]) (.skip)))))
 (.region false [O 37 (.bin .add (.t 16) (.c (.int .i64 1))),
 O 16 (.mv (.t 37))])))))))
 (.seq (.region false [O 38 (.mv (.t 6)),
 O 39 (.call 139 [.t 38]),
 O 40 (.ext (.t 39) 0),
 O 41 (.ext (.t 39) 1),
 O 4 (.mv (.t 40)),
 O 5 (.mv (.t 41))])
 (.ret)))))) }
def coin_Sum : PF := { ntmps := 27, raw := false, split := false, res := [.tmp 2, .tmp 3], body := (
  .seq (.region false [O 2 (.mv (.c (.int .u64 0))),
 O 3 (.mv (.c (.int .i64 0)))])
 (.seq (.region false [O 4 (.mv (.c (.int .u64 0)))])
 (.seq (.seq (.region false [O 9 (.mv (.t 0)),
 O 10 (.len (.t 9)),
 O 11 (.mv (.c (.int .i64 0)))])
 (.block 0 (.loop (.seq (.region false [O 12 (.bin .lss (.t 11) (.t 10))])
 (.seq (.cond (.t 12) (.skip) (.exit 0))
 (.seq (.block 1 (.seq (.region false [O 13 (.ixsl 1 (.t 9) (.t 11)),
 O 14 (.load false 1 (.t 13)),
 O 6 (.mv (.t 14))])
 (.seq (.region false [O 16 (.mv (.t 4)),
 O 17 (.mv (.t 6)),
 O 18 (.call 209 [.t 16, .t 17]),
 O 15 (.mv (.t 18)),
 O 19 (.ext (.t 15) 0),
 O 20 (.ext (.t 15) 1),
 O 7 (.mv (.t 19)),
 O 8 (.mv (.t 20))])
 (.seq (.seq (.region false [O 21 (.mv (.t 8)),
 O 22 (.bin .neq (.t 21) (.c (.int .i64 0)))])
 (.cond (.t 22) (.seq (.region false [O 23 (.mv (.t 8)),
 O 2 (.mv (.c (.int .u64 0))),
 O 3 (.mv (.t 23))])
 (.ret)) (.skip)))
 (.region false [O 24 (.mv (.t 7)),
 O 4 (.mv (.t 24))])))))
 (.region false [O 25 (.bin .add (.t 11) (.c (.int .i64 1))),
 O 11 (.mv (.t 25))])))))))
 (.seq (.region false [O 26 (.mv (.t 4)),
 O 2 (.mv (.t 26)),
 O 3 (.mv (.c (.int .i64 0)))])
 (.ret))))) }
def state_column : PF := { ntmps := 31, raw := false, split := false, res := [.tmp 6, .tmp 7], body := (
  .seq (.region false [O 3 (.box true (.t 0)),
 O 6 (.mv (.c (.int .u64 0))),
 O 7 (.mv (.c (.int .i64 0)))])
 (.seq (.region false [O 8 (.mv (.c (.sl .nil [])))])
 (.seq (.seq (.region false [O 11 (.faddr 1 (.t 3)),
 O 12 (.load false 1 (.t 11)),
 O 13 (.len (.t 12)),
 O 14 (.mv (.c (.int .i64 0)))])
 (.block 0 (.loop (.seq (.region false [O 15 (.bin .lss (.t 14) (.t 13))])
 (.seq (.cond (.t 15) (.skip) (.exit 0))
 (.seq (.block 1 (.seq (.region false [O 16 (.ixsl 15 (.t 12) (.t 14)),
 O 17 (.load true 15 (.t 16)),
 O 10 (.pend 15),
 O 10 (.init true 15 10 (.t 17))])
 (.region false [O 18 (.mv (.t 8)),
 O 19 (.mv (.t 2)),
 O 20 (.load true 15 (.t 10)),
 O 21 (.callv (.t 19) [.t 20]),
 O 22 (.mv (.t 1)),
 O 23 (.ixagg false 4 1 (.t 21) (.t 22)),
 O 24 (.bslice true 1 1 [.int .u64 0] [(0, (.t 23))]),
 O 25 (.append false 1 8 (.t 18) (.t 24)),
 O 8 (.mv (.t 25))])))
 (.region false [O 26 (.bin .add (.t 14) (.c (.int .i64 1))),
 O 14 (.mv (.t 26))])))))))
 (.seq (.region false [O 27 (.mv (.t 8)),
 O 28 (.call 139 [.t 27]),
 O 29 (.ext (.t 28) 0),
 O 30 (.ext (.t 28) 1),
 O 6 (.mv (.t 29)),
 O 7 (.mv (.t 30))])
 (.ret))))) }
def state_Made_1 : PF := { ntmps := 5, raw := false, split := false, res := [.cell 2 true 4], body := (
  .seq (.region false [O 1 (.box true (.t 0)),
 O 2 (.alloc false [.int .u64 0, .int .u64 0, .int .u64 0, .int .u64 0])])
 (.seq (.region false [O 3 (.faddr 7 (.t 1)),
 O 4 (.load true 4 (.t 3)),
 ⟨none, .store 4 (.t 2) (.t 4), none, 0, 0⟩])
 (.ret))) }
def state_Made_2 : PF := { ntmps := 5, raw := false, split := false, res := [.cell 2 true 4], body := (
  .seq (.region false [O 1 (.box true (.t 0)),
 O 2 (.alloc false [.int .u64 0, .int .u64 0, .int .u64 0, .int .u64 0])])
 (.seq (.region false [O 3 (.faddr 11 (.t 1)),
 O 4 (.load true 4 (.t 3)),
 ⟨none, .store 4 (.t 2) (.t 4), none, 0, 0⟩])
 (.ret))) }
def coin_Minus : PF := { ntmps := 17, raw := false, split := false, res := [.tmp 4, .tmp 5], body := (
  .seq (.region false [O 4 (.mv (.c (.int .u64 0))),
 O 5 (.mv (.c (.int .i64 0)))])
 (.seq (.region false [O 9 (.mv (.t 0)),
 O 10 (.mv (.t 1)),
 O 11 (.carry true (.t 9) (.t 10) (.c (.int .u64 0))),
 O 8 (.mv (.t 11)),
 O 12 (.ext (.t 8) 0),
 O 13 (.ext (.t 8) 1),
 O 6 (.mv (.t 12)),
 O 7 (.mv (.t 13))])
 (.seq (.seq (.region false [O 14 (.mv (.t 7)),
 O 15 (.bin .neq (.t 14) (.c (.int .u64 0)))])
 (.cond (.t 15) (.seq (.region false [O 4 (.mv (.c (.int .u64 0))),
 O 5 (.mv (.c (.int .i64 6)))])
 (.ret)) (.skip)))
 (.seq (.region false [O 16 (.mv (.t 6)),
 O 4 (.mv (.t 16)),
 O 5 (.mv (.c (.int .i64 0)))])
 (.ret))))) }
def slices_Equal_Room_Room : PF := { ntmps := 26, raw := false, split := false, res := [.tmp 4], body := (
  .seq (.region false [O 4 (.mv (.c (.bool false)))])
 (.seq (.seq (.region false [O 6 (.mv (.t 0)),
 O 7 (.len (.t 6)),
 O 8 (.mv (.t 1)),
 O 9 (.len (.t 8)),
 O 10 (.bin .neq (.t 7) (.t 9))])
 (.cond (.t 10) (.seq (.region false [O 4 (.mv (.c (.bool false)))])
 (.ret)) (.skip)))
 (.seq (.seq (.region false [O 11 (.mv (.t 0)),
 O 12 (.len (.t 11)),
 O 13 (.mv (.c (.int .i64 0)))])
 (.block 0 (.loop (.seq (.region false [O 14 (.bin .lss (.t 13) (.t 12))])
 (.seq (.cond (.t 14) (.skip) (.exit 0))
 (.seq (.block 1 (.seq (.region false [O 15 (.mv (.t 13)),
 O 5 (.mv (.t 15))])
 (.seq (.region true [O 16 (.mv (.t 0)),
 O 17 (.mv (.t 5)),
 O 18 (.ixsl 2 (.t 16) (.t 17)),
 O 19 (.load true 2 (.t 18)),
 O 20 (.mv (.t 1)),
 O 21 (.mv (.t 5)),
 O 22 (.ixsl 2 (.t 20) (.t 21)),
 O 23 (.load true 2 (.t 22)),
 O 24 (.eqs [.b, .s] true (.t 19) (.t 23))])
 (.cond (.t 24) (.seq (.region false [O 4 (.mv (.c (.bool false)))])
 (.ret)) (.skip)))))
 (.region false [O 25 (.bin .add (.t 13) (.c (.int .i64 1))),
 O 13 (.mv (.t 25))])))))))
 (.seq (.region false [O 4 (.mv (.c (.bool true)))])
 (.ret))))) }
def slices_Equal_Exit_Exit : PF := { ntmps := 26, raw := false, split := false, res := [.tmp 4], body := (
  .seq (.region false [O 4 (.mv (.c (.bool false)))])
 (.seq (.seq (.region false [O 6 (.mv (.t 0)),
 O 7 (.len (.t 6)),
 O 8 (.mv (.t 1)),
 O 9 (.len (.t 8)),
 O 10 (.bin .neq (.t 7) (.t 9))])
 (.cond (.t 10) (.seq (.region false [O 4 (.mv (.c (.bool false)))])
 (.ret)) (.skip)))
 (.seq (.seq (.region false [O 11 (.mv (.t 0)),
 O 12 (.len (.t 11)),
 O 13 (.mv (.c (.int .i64 0)))])
 (.block 0 (.loop (.seq (.region false [O 14 (.bin .lss (.t 13) (.t 12))])
 (.seq (.cond (.t 14) (.skip) (.exit 0))
 (.seq (.block 1 (.seq (.region false [O 15 (.mv (.t 13)),
 O 5 (.mv (.t 15))])
 (.seq (.region true [O 16 (.mv (.t 0)),
 O 17 (.mv (.t 5)),
 O 18 (.ixsl 6 (.t 16) (.t 17)),
 O 19 (.load true 6 (.t 18)),
 O 20 (.mv (.t 1)),
 O 21 (.mv (.t 5)),
 O 22 (.ixsl 6 (.t 20) (.t 21)),
 O 23 (.load true 6 (.t 22)),
 O 24 (.eqs [.b, .i, .i, .i, .i, .i] true (.t 19) (.t 23))])
 (.cond (.t 24) (.seq (.region false [O 4 (.mv (.c (.bool false)))])
 (.ret)) (.skip)))))
 (.region false [O 25 (.bin .add (.t 13) (.c (.int .i64 1))),
 O 13 (.mv (.t 25))])))))))
 (.seq (.region false [O 4 (.mv (.c (.bool true)))])
 (.ret))))) }
def slices_Equal_Item_Item : PF := { ntmps := 26, raw := false, split := false, res := [.tmp 4], body := (
  .seq (.region false [O 4 (.mv (.c (.bool false)))])
 (.seq (.seq (.region false [O 6 (.mv (.t 0)),
 O 7 (.len (.t 6)),
 O 8 (.mv (.t 1)),
 O 9 (.len (.t 8)),
 O 10 (.bin .neq (.t 7) (.t 9))])
 (.cond (.t 10) (.seq (.region false [O 4 (.mv (.c (.bool false)))])
 (.ret)) (.skip)))
 (.seq (.seq (.region false [O 11 (.mv (.t 0)),
 O 12 (.len (.t 11)),
 O 13 (.mv (.c (.int .i64 0)))])
 (.block 0 (.loop (.seq (.region false [O 14 (.bin .lss (.t 13) (.t 12))])
 (.seq (.cond (.t 14) (.skip) (.exit 0))
 (.seq (.block 1 (.seq (.region false [O 15 (.mv (.t 13)),
 O 5 (.mv (.t 15))])
 (.seq (.region true [O 16 (.mv (.t 0)),
 O 17 (.mv (.t 5)),
 O 18 (.ixsl 6 (.t 16) (.t 17)),
 O 19 (.load true 6 (.t 18)),
 O 20 (.mv (.t 1)),
 O 21 (.mv (.t 5)),
 O 22 (.ixsl 6 (.t 20) (.t 21)),
 O 23 (.load true 6 (.t 22)),
 O 24 (.eqs [.b, .s, .i, .i, .i, .i] true (.t 19) (.t 23))])
 (.cond (.t 24) (.seq (.region false [O 4 (.mv (.c (.bool false)))])
 (.ret)) (.skip)))))
 (.region false [O 25 (.bin .add (.t 13) (.c (.int .i64 1))),
 O 13 (.mv (.t 25))])))))))
 (.seq (.region false [O 4 (.mv (.c (.bool true)))])
 (.ret))))) }
def slices_Equal_Mail_Mail : PF := { ntmps := 26, raw := false, split := false, res := [.tmp 4], body := (
  .seq (.region false [O 4 (.mv (.c (.bool false)))])
 (.seq (.seq (.region false [O 6 (.mv (.t 0)),
 O 7 (.len (.t 6)),
 O 8 (.mv (.t 1)),
 O 9 (.len (.t 8)),
 O 10 (.bin .neq (.t 7) (.t 9))])
 (.cond (.t 10) (.seq (.region false [O 4 (.mv (.c (.bool false)))])
 (.ret)) (.skip)))
 (.seq (.seq (.region false [O 11 (.mv (.t 0)),
 O 12 (.len (.t 11)),
 O 13 (.mv (.c (.int .i64 0)))])
 (.block 0 (.loop (.seq (.region false [O 14 (.bin .lss (.t 13) (.t 12))])
 (.seq (.cond (.t 14) (.skip) (.exit 0))
 (.seq (.block 1 (.seq (.region false [O 15 (.mv (.t 13)),
 O 5 (.mv (.t 15))])
 (.seq (.region true [O 16 (.mv (.t 0)),
 O 17 (.mv (.t 5)),
 O 18 (.ixsl 5 (.t 16) (.t 17)),
 O 19 (.load true 5 (.t 18)),
 O 20 (.mv (.t 1)),
 O 21 (.mv (.t 5)),
 O 22 (.ixsl 5 (.t 20) (.t 21)),
 O 23 (.load true 5 (.t 22)),
 O 24 (.eqs [.b, .i, .i, .i, .s] true (.t 19) (.t 23))])
 (.cond (.t 24) (.seq (.region false [O 4 (.mv (.c (.bool false)))])
 (.ret)) (.skip)))))
 (.region false [O 25 (.bin .add (.t 13) (.c (.int .i64 1))),
 O 13 (.mv (.t 25))])))))))
 (.seq (.region false [O 4 (.mv (.c (.bool true)))])
 (.ret))))) }
def slices_Equal_Trade_Trade : PF := { ntmps := 26, raw := false, split := false, res := [.tmp 4], body := (
  .seq (.region false [O 4 (.mv (.c (.bool false)))])
 (.seq (.seq (.region false [O 6 (.mv (.t 0)),
 O 7 (.len (.t 6)),
 O 8 (.mv (.t 1)),
 O 9 (.len (.t 8)),
 O 10 (.bin .neq (.t 7) (.t 9))])
 (.cond (.t 10) (.seq (.region false [O 4 (.mv (.c (.bool false)))])
 (.ret)) (.skip)))
 (.seq (.seq (.region false [O 11 (.mv (.t 0)),
 O 12 (.len (.t 11)),
 O 13 (.mv (.c (.int .i64 0)))])
 (.block 0 (.loop (.seq (.region false [O 14 (.bin .lss (.t 13) (.t 12))])
 (.seq (.cond (.t 14) (.skip) (.exit 0))
 (.seq (.block 1 (.seq (.region false [O 15 (.mv (.t 13)),
 O 5 (.mv (.t 15))])
 (.seq (.region true [O 16 (.mv (.t 0)),
 O 17 (.mv (.t 5)),
 O 18 (.ixsl 9 (.t 16) (.t 17)),
 O 19 (.load true 9 (.t 18)),
 O 20 (.mv (.t 1)),
 O 21 (.mv (.t 5)),
 O 22 (.ixsl 9 (.t 20) (.t 21)),
 O 23 (.load true 9 (.t 22)),
 O 24 (.eqs [.b, .i, .i, .i, .i, .i, .i, .i, .i] true (.t 19) (.t 23))])
 (.cond (.t 24) (.seq (.region false [O 4 (.mv (.c (.bool false)))])
 (.ret)) (.skip)))))
 (.region false [O 25 (.bin .add (.t 13) (.c (.int .i64 1))),
 O 13 (.mv (.t 25))])))))))
 (.seq (.region false [O 4 (.mv (.c (.bool true)))])
 (.ret))))) }
def slices_Equal_4_uint64_4_uint64 : PF := { ntmps := 26, raw := false, split := false, res := [.tmp 4], body := (
  .seq (.region false [O 4 (.mv (.c (.bool false)))])
 (.seq (.seq (.region false [O 6 (.mv (.t 0)),
 O 7 (.len (.t 6)),
 O 8 (.mv (.t 1)),
 O 9 (.len (.t 8)),
 O 10 (.bin .neq (.t 7) (.t 9))])
 (.cond (.t 10) (.seq (.region false [O 4 (.mv (.c (.bool false)))])
 (.ret)) (.skip)))
 (.seq (.seq (.region false [O 11 (.mv (.t 0)),
 O 12 (.len (.t 11)),
 O 13 (.mv (.c (.int .i64 0)))])
 (.block 0 (.loop (.seq (.region false [O 14 (.bin .lss (.t 13) (.t 12))])
 (.seq (.cond (.t 14) (.skip) (.exit 0))
 (.seq (.block 1 (.seq (.region false [O 15 (.mv (.t 13)),
 O 5 (.mv (.t 15))])
 (.seq (.region true [O 16 (.mv (.t 0)),
 O 17 (.mv (.t 5)),
 O 18 (.ixsl 4 (.t 16) (.t 17)),
 O 19 (.load true 4 (.t 18)),
 O 20 (.mv (.t 1)),
 O 21 (.mv (.t 5)),
 O 22 (.ixsl 4 (.t 20) (.t 21)),
 O 23 (.load true 4 (.t 22)),
 O 24 (.eqs [.i, .i, .i, .i] true (.t 19) (.t 23))])
 (.cond (.t 24) (.seq (.region false [O 4 (.mv (.c (.bool false)))])
 (.ret)) (.skip)))))
 (.region false [O 25 (.bin .add (.t 13) (.c (.int .i64 1))),
 O 13 (.mv (.t 25))])))))))
 (.seq (.region false [O 4 (.mv (.c (.bool true)))])
 (.ret))))) }
def slices_Equal_Ref_Ref : PF := { ntmps := 26, raw := false, split := false, res := [.tmp 4], body := (
  .seq (.region false [O 4 (.mv (.c (.bool false)))])
 (.seq (.seq (.region false [O 6 (.mv (.t 0)),
 O 7 (.len (.t 6)),
 O 8 (.mv (.t 1)),
 O 9 (.len (.t 8)),
 O 10 (.bin .neq (.t 7) (.t 9))])
 (.cond (.t 10) (.seq (.region false [O 4 (.mv (.c (.bool false)))])
 (.ret)) (.skip)))
 (.seq (.seq (.region false [O 11 (.mv (.t 0)),
 O 12 (.len (.t 11)),
 O 13 (.mv (.c (.int .i64 0)))])
 (.block 0 (.loop (.seq (.region false [O 14 (.bin .lss (.t 13) (.t 12))])
 (.seq (.cond (.t 14) (.skip) (.exit 0))
 (.seq (.block 1 (.seq (.region false [O 15 (.mv (.t 13)),
 O 5 (.mv (.t 15))])
 (.seq (.region true [O 16 (.mv (.t 0)),
 O 17 (.mv (.t 5)),
 O 18 (.ixsl 2 (.t 16) (.t 17)),
 O 19 (.load true 2 (.t 18)),
 O 20 (.mv (.t 1)),
 O 21 (.mv (.t 5)),
 O 22 (.ixsl 2 (.t 20) (.t 21)),
 O 23 (.load true 2 (.t 22)),
 O 24 (.eqs [.i, .i] true (.t 19) (.t 23))])
 (.cond (.t 24) (.seq (.region false [O 4 (.mv (.c (.bool false)))])
 (.ret)) (.skip)))))
 (.region false [O 25 (.bin .add (.t 13) (.c (.int .i64 1))),
 O 13 (.mv (.t 25))])))))))
 (.seq (.region false [O 4 (.mv (.c (.bool true)))])
 (.ret))))) }
def slices_IndexFunc_Label_Label : PF := { ntmps := 19, raw := false, split := false, res := [.tmp 4], body := (
  .seq (.region false [O 4 (.mv (.c (.int .i64 0)))])
 (.seq (.seq (.region false [O 6 (.mv (.t 0)),
 O 7 (.len (.t 6)),
 O 8 (.mv (.c (.int .i64 0)))])
 (.block 0 (.loop (.seq (.region false [O 9 (.bin .lss (.t 8) (.t 7))])
 (.seq (.cond (.t 9) (.skip) (.exit 0))
 (.seq (.block 1 (.seq (.region false [O 10 (.mv (.t 8)),
 O 5 (.mv (.t 10))])
 (.seq (.region false [O 11 (.mv (.t 1)),
 O 12 (.mv (.t 0)),
 O 13 (.mv (.t 5)),
 O 14 (.ixsl 2 (.t 12) (.t 13)),
 O 15 (.load true 2 (.t 14)),
 O 16 (.callv (.t 11) [.t 15])])
 (.cond (.t 16) (.seq (.region false [O 17 (.mv (.t 5)),
 O 4 (.mv (.t 17))])
 (.ret)) (.skip)))))
 (.region false [O 18 (.bin .add (.t 8) (.c (.int .i64 1))),
 O 8 (.mv (.t 18))])))))))
 (.seq (.region false [O 4 (.mv (.c (.int .i64 (-1))))])
 (.ret)))) }
def cmp_Compare_int : PF := { ntmps := 20, raw := false, split := false, res := [.tmp 4], body := (
  .seq (.region false [O 4 (.mv (.c (.int .i64 0)))])
 (.seq (.region false [O 7 (.mv (.t 0)),
 O 8 (.call 231 [.t 7]),
 O 5 (.mv (.t 8))])
 (.seq (.region false [O 9 (.mv (.t 1)),
 O 10 (.call 231 [.t 9]),
 O 6 (.mv (.t 10))])
 (.seq (.seq (.region false [O 11 (.mv (.t 5))])
 (.cond (.t 11) (.seq (.seq (.region false [O 12 (.mv (.t 6))])
 (.cond (.t 12) (.seq (.region false [O 4 (.mv (.c (.int .i64 0)))])
 (.ret)) (.skip)))
 (.seq (.region false [O 4 (.mv (.c (.int .i64 (-1))))])
 (.ret))) (.skip)))
 (.seq (.seq (.region false [O 13 (.mv (.t 6))])
 (.cond (.t 13) (.seq (.region false [O 4 (.mv (.c (.int .i64 1)))])
 (.ret)) (.skip)))
 (.seq (.seq (.region false [O 14 (.mv (.t 0)),
 O 15 (.mv (.t 1)),
 O 16 (.bin .lss (.t 14) (.t 15))])
 (.cond (.t 16) (.seq (.region false [O 4 (.mv (.c (.int .i64 (-1))))])
 (.ret)) (.skip)))
 (.seq (.seq (.region false [O 17 (.mv (.t 0)),
 O 18 (.mv (.t 1)),
 O 19 (.bin .gtr (.t 17) (.t 18))])
 (.cond (.t 19) (.seq (.region false [O 4 (.mv (.c (.int .i64 1)))])
 (.ret)) (.skip)))
 (.seq (.region false [O 4 (.mv (.c (.int .i64 0)))])
 (.ret))))))))) }
def cmp_Compare_uint64 : PF := { ntmps := 20, raw := false, split := false, res := [.tmp 4], body := (
  .seq (.region false [O 4 (.mv (.c (.int .i64 0)))])
 (.seq (.region false [O 7 (.mv (.t 0)),
 O 8 (.call 230 [.t 7]),
 O 5 (.mv (.t 8))])
 (.seq (.region false [O 9 (.mv (.t 1)),
 O 10 (.call 230 [.t 9]),
 O 6 (.mv (.t 10))])
 (.seq (.seq (.region false [O 11 (.mv (.t 5))])
 (.cond (.t 11) (.seq (.seq (.region false [O 12 (.mv (.t 6))])
 (.cond (.t 12) (.seq (.region false [O 4 (.mv (.c (.int .i64 0)))])
 (.ret)) (.skip)))
 (.seq (.region false [O 4 (.mv (.c (.int .i64 (-1))))])
 (.ret))) (.skip)))
 (.seq (.seq (.region false [O 13 (.mv (.t 6))])
 (.cond (.t 13) (.seq (.region false [O 4 (.mv (.c (.int .i64 1)))])
 (.ret)) (.skip)))
 (.seq (.seq (.region false [O 14 (.mv (.t 0)),
 O 15 (.mv (.t 1)),
 O 16 (.bin .lss (.t 14) (.t 15))])
 (.cond (.t 16) (.seq (.region false [O 4 (.mv (.c (.int .i64 (-1))))])
 (.ret)) (.skip)))
 (.seq (.seq (.region false [O 17 (.mv (.t 0)),
 O 18 (.mv (.t 1)),
 O 19 (.bin .gtr (.t 17) (.t 18))])
 (.cond (.t 19) (.seq (.region false [O 4 (.mv (.c (.int .i64 1)))])
 (.ret)) (.skip)))
 (.seq (.region false [O 4 (.mv (.c (.int .i64 0)))])
 (.ret))))))))) }
def cmp_Or_int : PF := { ntmps := 18, raw := false, split := false, res := [.tmp 2], body := (
  .seq (.region false [O 2 (.mv (.c (.int .i64 0)))])
 (.seq (.region false [O 3 (.mv (.c (.int .i64 0)))])
 (.seq (.seq (.region false [O 6 (.mv (.t 0)),
 O 7 (.len (.t 6)),
 O 8 (.mv (.c (.int .i64 0)))])
 (.block 0 (.loop (.seq (.region false [O 9 (.bin .lss (.t 8) (.t 7))])
 (.seq (.cond (.t 9) (.skip) (.exit 0))
 (.seq (.block 1 (.seq (.region false [O 10 (.ixsl 1 (.t 6) (.t 8)),
 O 11 (.load false 1 (.t 10)),
 O 5 (.mv (.t 11))])
 (.seq (.region false [O 12 (.mv (.t 5)),
 O 13 (.mv (.t 3)),
 O 14 (.bin .neq (.t 12) (.t 13))])
 (.cond (.t 14) (.seq (.region false [O 15 (.mv (.t 5)),
 O 2 (.mv (.t 15))])
 (.ret)) (.skip)))))
 (.region false [O 16 (.bin .add (.t 8) (.c (.int .i64 1))),
 O 8 (.mv (.t 16))])))))))
 (.seq (.region false [O 17 (.mv (.t 3)),
 O 2 (.mv (.t 17))])
 (.ret))))) }
def slices_IndexFunc_int_int : PF := { ntmps := 19, raw := false, split := false, res := [.tmp 4], body := (
  .seq (.region false [O 4 (.mv (.c (.int .i64 0)))])
 (.seq (.seq (.region false [O 6 (.mv (.t 0)),
 O 7 (.len (.t 6)),
 O 8 (.mv (.c (.int .i64 0)))])
 (.block 0 (.loop (.seq (.region false [O 9 (.bin .lss (.t 8) (.t 7))])
 (.seq (.cond (.t 9) (.skip) (.exit 0))
 (.seq (.block 1 (.seq (.region false [O 10 (.mv (.t 8)),
 O 5 (.mv (.t 10))])
 (.seq (.region false [O 11 (.mv (.t 1)),
 O 12 (.mv (.t 0)),
 O 13 (.mv (.t 5)),
 O 14 (.ixsl 1 (.t 12) (.t 13)),
 O 15 (.load false 1 (.t 14)),
 O 16 (.callv (.t 11) [.t 15])])
 (.cond (.t 16) (.seq (.region false [O 17 (.mv (.t 5)),
 O 4 (.mv (.t 17))])
 (.ret)) (.skip)))))
 (.region false [O 18 (.bin .add (.t 8) (.c (.int .i64 1))),
 O 8 (.mv (.t 18))])))))))
 (.seq (.region false [O 4 (.mv (.c (.int .i64 (-1))))])
 (.ret)))) }
def slices_IndexFunc_Account_Account : PF := { ntmps := 19, raw := false, split := false, res := [.tmp 4], body := (
  .seq (.region false [O 4 (.mv (.c (.int .i64 0)))])
 (.seq (.seq (.region false [O 6 (.mv (.t 0)),
 O 7 (.len (.t 6)),
 O 8 (.mv (.c (.int .i64 0)))])
 (.block 0 (.loop (.seq (.region false [O 9 (.bin .lss (.t 8) (.t 7))])
 (.seq (.cond (.t 9) (.skip) (.exit 0))
 (.seq (.block 1 (.seq (.region false [O 10 (.mv (.t 8)),
 O 5 (.mv (.t 10))])
 (.seq (.region false [O 11 (.mv (.t 1)),
 O 12 (.mv (.t 0)),
 O 13 (.mv (.t 5)),
 O 14 (.ixsl 4 (.t 12) (.t 13)),
 O 15 (.load true 4 (.t 14)),
 O 16 (.callv (.t 11) [.t 15])])
 (.cond (.t 16) (.seq (.region false [O 17 (.mv (.t 5)),
 O 4 (.mv (.t 17))])
 (.ret)) (.skip)))))
 (.region false [O 18 (.bin .add (.t 8) (.c (.int .i64 1))),
 O 8 (.mv (.t 18))])))))))
 (.seq (.region false [O 4 (.mv (.c (.int .i64 (-1))))])
 (.ret)))) }
def slices_Index_Label_Label : PF := { ntmps := 19, raw := false, split := false, res := [.tmp 4], body := (
  .seq (.region false [O 3 (.box true (.t 1)),
 O 4 (.mv (.c (.int .i64 0)))])
 (.seq (.seq (.region false [O 6 (.mv (.t 0)),
 O 7 (.len (.t 6)),
 O 8 (.mv (.c (.int .i64 0)))])
 (.block 0 (.loop (.seq (.region false [O 9 (.bin .lss (.t 8) (.t 7))])
 (.seq (.cond (.t 9) (.skip) (.exit 0))
 (.seq (.block 1 (.seq (.region false [O 10 (.mv (.t 8)),
 O 5 (.mv (.t 10))])
 (.seq (.region true [O 11 (.load true 2 (.t 3)),
 O 12 (.mv (.t 0)),
 O 13 (.mv (.t 5)),
 O 14 (.ixsl 2 (.t 12) (.t 13)),
 O 15 (.load true 2 (.t 14)),
 O 16 (.eqs [.i, .i] false (.t 11) (.t 15))])
 (.cond (.t 16) (.seq (.region false [O 17 (.mv (.t 5)),
 O 4 (.mv (.t 17))])
 (.ret)) (.skip)))))
 (.region false [O 18 (.bin .add (.t 8) (.c (.int .i64 1))),
 O 8 (.mv (.t 18))])))))))
 (.seq (.region false [O 4 (.mv (.c (.int .i64 (-1))))])
 (.ret)))) }
def thing_wrong : PF := { ntmps := 19, raw := false, split := false, res := [.tmp 2], body := (
  .seq (.region false [O 1 (.box true (.t 0)),
 O 2 (.mv (.c (.bool false)))])
 (.seq (.seq (.region false [O 3 (.faddr 0 (.t 1)),
 O 4 (.load false 1 (.t 3)),
 O 5 (.un .not (.t 4))])
 (.cond (.t 5) (.seq (.region false [O 6 (.load true 6 (.t 1)),
 O 7 (.build [.bool false, .str ⟨#[]⟩, .int .i64 0, .int .i64 0, .int .i64 0, .int .i64 0] []),
 O 8 (.eqs [.b, .s, .i, .i, .i, .i] true (.t 6) (.t 7)),
 O 2 (.mv (.t 8))])
 (.ret)) (.skip)))
 (.seq (.region false [O 9 (.faddr 1 (.t 1)),
 O 10 (.load false 1 (.t 9)),
 O 11 (.call 166 [.t 10]),
 O 12 (.un .not (.t 11)),
 O 13 (.mv (.t 12)),
 G 14 (.load true 6 (.t 1)) 13 false,
 G 15 (.call 163 [.t 14]) 13 false,
 G 16 (.call 165 [.t 15]) 13 false,
 G 17 (.un .not (.t 16)) 13 false,
 O 18 (.pick (.t 13) (.c (.bool true)) (.t 17)),
 O 2 (.mv (.t 18))])
 (.ret)))) }
def thing_is : PF := { ntmps := 9, raw := false, split := false, res := [.tmp 2], body := (
  .seq (.region false [O 2 (.mv (.c (.bool false)))])
 (.seq (.region false [O 3 (.mv (.t 0)),
 O 4 (.bin .geq (.t 3) (.c (.int .i64 0))),
 O 5 (.mv (.t 4)),
 G 6 (.mv (.t 0)) 5 true,
 G 7 (.bin .leq (.t 6) (.c (.int .i64 127))) 5 true,
 O 8 (.pick (.t 5) (.t 7) (.c (.bool false))),
 O 2 (.mv (.t 8))])
 (.ret))) }
def name_small : PF := { ntmps := 9, raw := false, split := false, res := [.tmp 2], body := (
  .seq (.region false [O 2 (.mv (.c (.bool false)))])
 (.seq (.region false [O 3 (.mv (.t 0)),
 O 4 (.bin .geq (.t 3) (.c (.int .u8 97))),
 O 5 (.mv (.t 4)),
 G 6 (.mv (.t 0)) 5 true,
 G 7 (.bin .leq (.t 6) (.c (.int .u8 122))) 5 true,
 O 8 (.pick (.t 5) (.t 7) (.c (.bool false))),
 O 2 (.mv (.t 8))])
 (.ret))) }
def name_all : PF := { ntmps := 12, raw := false, split := false, res := [.tmp 4], body := (
  .seq (.region false [O 3 (.box true (.t 1)),
 O 4 (.mv (.c (.bool false)))])
 (.seq (.region false [O 6 (.mkfn 235 [] [.t 3]),
 O 5 (.mv (.t 6))])
 (.seq (.region false [O 7 (.mv (.t 0)),
 O 8 (.s2b (.t 7)),
 O 9 (.mv (.t 5)),
 O 10 (.call 236 [.t 8, .t 9]),
 O 11 (.un .not (.t 10)),
 O 4 (.mv (.t 11))])
 (.ret)))) }
def name_Right_1 : PF := { ntmps := 9, raw := false, split := false, res := [.tmp 2], body := (
  .seq (.region false [O 2 (.mv (.c (.bool false)))])
 (.seq (.region false [O 3 (.mv (.t 0)),
 O 4 (.call 211 [.t 3]),
 O 5 (.mv (.t 4)),
 G 6 (.mv (.t 0)) 5 false,
 G 7 (.call 237 [.t 6]) 5 false,
 O 8 (.pick (.t 5) (.c (.bool true)) (.t 7)),
 O 2 (.mv (.t 8))])
 (.ret))) }
def quota_Of_Item : PF := { ntmps := 12, raw := false, split := false, res := [.tmp 4], body := (
  .seq (.region false [O 4 (.mv (.c (.nilp)))])
 (.seq (.seq (.region false [O 5 (.mv (.t 1)),
 O 6 (.eqk .fn false (.t 5) (.c (.nilf)))])
 (.cond (.t 6) (.seq (.region false [O 4 (.mv (.c (.nilp)))])
 (.ret)) (.skip)))
 (.seq (.region false [O 7 (.mv (.t 0)),
 O 8 (.call 152 [.t 7]),
 O 9 (.mv (.t 1)),
 O 10 (.build [.sl .nil [], .nilf] [(0, 1, (.t 8)), (1, 1, (.t 9))]),
 O 11 (.box true (.t 10)),
 O 4 (.mv (.t 11))])
 (.ret)))) }
def thing_row_1 : PF := { ntmps := 5, raw := false, split := false, res := [.tmp 2], body := (
  .seq (.region false [O 1 (.box true (.t 0)),
 O 2 (.mv (.c (.bool false)))])
 (.seq (.region false [O 3 (.faddr 0 (.t 1)),
 O 4 (.load false 1 (.t 3)),
 O 2 (.mv (.t 4))])
 (.ret))) }
def quota_Row_Item_First : PF := { ntmps := 19, raw := false, split := false, res := [.tmp 2, .tmp 3], body := (
  .seq (.region false [O 1 (.box true (.t 0)),
 O 2 (.mv (.c (.int .i64 0))),
 O 3 (.mv (.c (.int .i64 0)))])
 (.seq (.seq (.region false [O 6 (.load false 1 (.t 1)),
 O 7 (.call 218 [.t 6]),
 O 8 (.un .not (.t 7))])
 (.cond (.t 8) (.seq (.region false [O 2 (.mv (.c (.int .i64 0))),
 O 3 (.mv (.c (.int .i64 11)))])
 (.ret)) (.skip)))
 (.seq (.region false [O 9 (.mkfn 238 [] [.t 1]),
 O 4 (.mv (.t 9))])
 (.seq (.region false [O 10 (.load false 1 (.t 1)),
 O 11 (.nilc (.t 10)),
 O 12 (.faddr 0 (.t 11)),
 O 13 (.load false 1 (.t 12)),
 O 14 (.mv (.t 4)),
 O 15 (.call 202 [.t 13, .t 14]),
 O 5 (.mv (.t 15))])
 (.seq (.seq (.region false [O 16 (.mv (.t 5)),
 O 17 (.bin .lss (.t 16) (.c (.int .i64 0)))])
 (.cond (.t 17) (.seq (.region false [O 2 (.mv (.c (.int .i64 0))),
 O 3 (.mv (.c (.int .i64 8)))])
 (.ret)) (.skip)))
 (.seq (.region false [O 18 (.mv (.t 5)),
 O 2 (.mv (.t 18)),
 O 3 (.mv (.c (.int .i64 0)))])
 (.ret))))))) }
def quota_Row_Item_Has : PF := { ntmps := 34, raw := false, split := false, res := [.tmp 4], body := (
  .seq (.region false [O 4 (.mv (.c (.bool false)))])
 (.seq (.region true [O 5 (.mv (.t 0)),
 O 6 (.callp 218 [.t 5]),
 O 7 (.mv (.t 6)),
 G 8 (.mv (.t 1)) 7 true,
 G 9 (.bin .geq (.t 8) (.c (.int .i64 0))) 7 true,
 O 10 (.pick (.t 7) (.t 9) (.c (.bool false))),
 O 11 (.mv (.t 10)),
 G 12 (.mv (.t 1)) 11 true,
 G 13 (.mv (.t 0)) 11 true,
 G 14 (.nilc (.t 13)) 11 true,
 G 15 (.faddr 0 (.t 14)) 11 true,
 G 16 (.load false 1 (.t 15)) 11 true,
 G 17 (.len (.t 16)) 11 true,
 G 18 (.bin .lss (.t 12) (.t 17)) 11 true,
 O 19 (.pick (.t 11) (.t 18) (.c (.bool false))),
 O 20 (.mv (.t 19)),
 G 21 (.mv (.t 0)) 20 true,
 G 22 (.nilc (.t 21)) 20 true,
 G 23 (.faddr 1 (.t 22)) 20 true,
 G 24 (.load false 1 (.t 23)) 20 true,
 G 25 (.mv (.t 0)) 20 true,
 G 26 (.nilc (.t 25)) 20 true,
 G 27 (.faddr 0 (.t 26)) 20 true,
 G 28 (.load false 1 (.t 27)) 20 true,
 G 29 (.mv (.t 1)) 20 true,
 G 30 (.ixsl 6 (.t 28) (.t 29)) 20 true,
 G 31 (.load true 6 (.t 30)) 20 true,
 G 32 (.callv (.t 24) [.t 31]) 20 true,
 O 33 (.pick (.t 20) (.t 32) (.c (.bool false))),
 O 4 (.mv (.t 33))])
 (.ret))) }
def quota_Row_Item_made : PF := { ntmps := 12, raw := false, split := false, res := [.tmp 2], body := (
  .seq (.region false [O 2 (.mv (.c (.bool false)))])
 (.seq (.region false [O 3 (.mv (.t 0)),
 O 4 (.eqk .ptr true (.t 3) (.c (.nilp))),
 O 5 (.mv (.t 4)),
 G 6 (.mv (.t 0)) 5 true,
 G 7 (.nilc (.t 6)) 5 true,
 G 8 (.faddr 1 (.t 7)) 5 true,
 G 9 (.load false 1 (.t 8)) 5 true,
 G 10 (.eqk .fn true (.t 9) (.c (.nilf))) 5 true,
 O 11 (.pick (.t 5) (.t 10) (.c (.bool false))),
 O 2 (.mv (.t 11))])
 (.ret))) }
def slices_Clone_Item_Item_raw : PF := { ntmps := 8, raw := true, split := true, res := [.tmp 2], body := (
  .seq (.region false [O 2 (.mv (.c (.sl .nil [])))])
 (.seq (.seq (.region false [O 3 (.mv (.t 0)),
 O 4 (.eqk .slice false (.t 3) (.c (.sl .nil [])))])
 (.cond (.t 4) (.seq (.region false [O 2 (.mv (.c (.sl .nil [])))])
 (.ret)) (.skip)))
 (.seq (.region false [O 5 (.bslice true 6 0 [.bool false, .str ⟨#[]⟩, .int .i64 0, .int .i64 0, .int .i64 0, .int .i64 0] []),
 O 6 (.mv (.t 0)),
 O 7 (.append false 6 56 (.t 5) (.t 6)),
 O 2 (.mv (.t 7))])
 (.ret)))) }
def slices_IndexFunc_Shelf_Shelf : PF := { ntmps := 19, raw := false, split := false, res := [.tmp 4], body := (
  .seq (.region false [O 4 (.mv (.c (.int .i64 0)))])
 (.seq (.seq (.region false [O 6 (.mv (.t 0)),
 O 7 (.len (.t 6)),
 O 8 (.mv (.c (.int .i64 0)))])
 (.block 0 (.loop (.seq (.region false [O 9 (.bin .lss (.t 8) (.t 7))])
 (.seq (.cond (.t 9) (.skip) (.exit 0))
 (.seq (.block 1 (.seq (.region false [O 10 (.mv (.t 8)),
 O 5 (.mv (.t 10))])
 (.seq (.region false [O 11 (.mv (.t 1)),
 O 12 (.mv (.t 0)),
 O 13 (.mv (.t 5)),
 O 14 (.ixsl 15 (.t 12) (.t 13)),
 O 15 (.load true 15 (.t 14)),
 O 16 (.callv (.t 11) [.t 15])])
 (.cond (.t 16) (.seq (.region false [O 17 (.mv (.t 5)),
 O 4 (.mv (.t 17))])
 (.ret)) (.skip)))))
 (.region false [O 18 (.bin .add (.t 8) (.c (.int .i64 1))),
 O 8 (.mv (.t 18))])))))))
 (.seq (.region false [O 4 (.mv (.c (.int .i64 (-1))))])
 (.ret)))) }
def slices_ContainsFunc_Room_Room : PF := { ntmps := 9, raw := false, split := false, res := [.tmp 4], body := (
  .seq (.region false [O 4 (.mv (.c (.bool false)))])
 (.seq (.region false [O 5 (.mv (.t 0)),
 O 6 (.mv (.t 1)),
 O 7 (.call 222 [.t 5, .t 6]),
 O 8 (.bin .geq (.t 7) (.c (.int .i64 0))),
 O 4 (.mv (.t 8))])
 (.ret))) }
def room_Rooms_1 : PF := { ntmps := 21, raw := false, split := false, res := [.tmp 2], body := (
  .seq (.region false [O 1 (.box true (.t 0)),
 O 2 (.mv (.c (.bool false)))])
 (.seq (.region false [O 3 (.faddr 0 (.t 1)),
 O 4 (.load false 1 (.t 3)),
 O 5 (.mv (.t 4)),
 G 6 (.faddr 1 (.t 1)) 5 true,
 G 7 (.load false 1 (.t 6)) 5 true,
 G 8 (.call 166 [.t 7]) 5 true,
 G 9 (.un .not (.t 8)) 5 true,
 O 10 (.pick (.t 5) (.t 9) (.c (.bool false))),
 O 11 (.mv (.t 10)),
 G 12 (.faddr 0 (.t 1)) 11 false,
 G 13 (.load false 1 (.t 12)) 11 false,
 G 14 (.un .not (.t 13)) 11 false,
 G 15 (.mv (.t 14)) 11 false,
 G 16 (.faddr 1 (.t 1)) 15 true,
 G 17 (.load false 1 (.t 16)) 15 true,
 G 18 (.bin .neq (.t 17) (.c (.str ⟨#[]⟩))) 15 true,
 G 19 (.pick (.t 15) (.t 18) (.c (.bool false))) 11 false,
 O 20 (.pick (.t 11) (.c (.bool true)) (.t 19)),
 O 2 (.mv (.t 20))])
 (.ret))) }
def room_wrong : PF := { ntmps := 25, raw := false, split := false, res := [.tmp 2], body := (
  .seq (.region false [O 1 (.box true (.t 0)),
 O 2 (.mv (.c (.bool false)))])
 (.seq (.seq (.region false [O 3 (.faddr 0 (.t 1)),
 O 4 (.load false 1 (.t 3)),
 O 5 (.un .not (.t 4))])
 (.cond (.t 5) (.seq (.region false [O 6 (.load true 6 (.t 1)),
 O 7 (.build [.bool false, .int .i64 0, .int .i64 0, .int .i64 0, .int .i64 0, .int .i64 0] []),
 O 8 (.eqs [.b, .i, .i, .i, .i, .i] true (.t 6) (.t 7)),
 O 2 (.mv (.t 8))])
 (.ret)) (.skip)))
 (.seq (.region false [O 9 (.faddr 1 (.t 1)),
 O 10 (.load true 2 (.t 9)),
 O 11 (.call 223 [.t 10]),
 O 12 (.un .not (.t 11)),
 O 13 (.mv (.t 12)),
 G 14 (.faddr 3 (.t 1)) 13 false,
 G 15 (.load true 2 (.t 14)) 13 false,
 G 16 (.call 223 [.t 15]) 13 false,
 G 17 (.un .not (.t 16)) 13 false,
 O 18 (.pick (.t 13) (.c (.bool true)) (.t 17)),
 O 19 (.mv (.t 18)),
 G 20 (.faddr 5 (.t 1)) 19 false,
 G 21 (.load false 1 (.t 20)) 19 false,
 G 22 (.call 224 [.t 21]) 19 false,
 G 23 (.un .not (.t 22)) 19 false,
 O 24 (.pick (.t 19) (.c (.bool true)) (.t 23)),
 O 2 (.mv (.t 24))])
 (.ret)))) }
def room_index : PF := { ntmps := 10, raw := false, split := false, res := [.tmp 6], body := (
  .seq (.region false [O 4 (.box true (.t 1)),
 O 5 (.box true (.t 2)),
 O 6 (.mv (.c (.int .i64 0)))])
 (.seq (.region false [O 7 (.mv (.t 0)),
 O 8 (.mkfn 225 [] [.t 4, .t 5]),
 O 9 (.call 201 [.t 7, .t 8]),
 O 6 (.mv (.t 9))])
 (.ret))) }
def post_wrong : PF := { ntmps := 18, raw := false, split := false, res := [.tmp 2], body := (
  .seq (.region false [O 1 (.box true (.t 0)),
 O 2 (.mv (.c (.bool false)))])
 (.seq (.seq (.region false [O 3 (.faddr 0 (.t 1)),
 O 4 (.load false 1 (.t 3)),
 O 5 (.un .not (.t 4))])
 (.cond (.t 5) (.seq (.region false [O 6 (.load true 5 (.t 1)),
 O 7 (.build [.bool false, .int .i64 0, .int .i64 0, .int .i64 0, .str ⟨#[]⟩] []),
 O 8 (.eqs [.b, .i, .i, .i, .s] true (.t 6) (.t 7)),
 O 2 (.mv (.t 8))])
 (.ret)) (.skip)))
 (.seq (.region false [O 9 (.load true 5 (.t 1)),
 O 10 (.call 226 [.t 9]),
 O 11 (.un .not (.t 10)),
 O 12 (.mv (.t 11)),
 G 13 (.faddr 4 (.t 1)) 12 false,
 G 14 (.load false 1 (.t 13)) 12 false,
 G 15 (.call 227 [.t 14]) 12 false,
 G 16 (.un .not (.t 15)) 12 false,
 O 17 (.pick (.t 12) (.c (.bool true)) (.t 16)),
 O 2 (.mv (.t 17))])
 (.ret)))) }
def trade_Right_1 : PF := { ntmps := 12, raw := false, split := false, res := [.tmp 2], body := (
  .seq (.region false [O 1 (.box true (.t 0)),
 O 2 (.mv (.c (.bool false)))])
 (.seq (.seq (.region false [O 3 (.faddr 0 (.t 1)),
 O 4 (.load false 1 (.t 3)),
 O 5 (.un .not (.t 4))])
 (.cond (.t 5) (.seq (.region false [O 6 (.load true 9 (.t 1)),
 O 7 (.build [.bool false, .int .i64 0, .int .i64 0, .int .i64 0, .int .u64 0, .int .i64 0, .int .i64 0, .int .u64 0, .int .i64 0] []),
 O 8 (.eqs [.b, .i, .i, .i, .i, .i, .i, .i, .i] true (.t 6) (.t 7)),
 O 2 (.mv (.t 8))])
 (.ret)) (.skip)))
 (.seq (.region false [O 9 (.load true 9 (.t 1)),
 O 10 (.call 228 [.t 9]),
 O 11 (.un .not (.t 10)),
 O 2 (.mv (.t 11))])
 (.ret)))) }
def book_Need : PF := { ntmps := 37, raw := false, split := false, res := [.tmp 6, .tmp 7], body := (
  .seq (.region false [O 6 (.mv (.c (.int .u64 0))),
 O 7 (.mv (.c (.int .i64 0)))])
 (.seq (.seq (.region false [O 10 (.mv (.t 0)),
 O 11 (.bin .neq (.t 10) (.c (.int .i64 1))),
 O 12 (.mv (.t 11)),
 G 13 (.mv (.t 0)) 12 true,
 G 14 (.bin .neq (.t 13) (.c (.int .i64 2))) 12 true,
 O 15 (.pick (.t 12) (.t 14) (.c (.bool false))),
 O 16 (.mv (.t 15)),
 G 17 (.mv (.t 1)) 16 false,
 G 18 (.bin .eql (.t 17) (.c (.int .u64 0))) 16 false,
 O 19 (.pick (.t 16) (.c (.bool true)) (.t 18)),
 O 20 (.mv (.t 19)),
 G 21 (.mv (.t 2)) 20 false,
 G 22 (.bin .eql (.t 21) (.c (.int .u64 0))) 20 false,
 O 23 (.pick (.t 20) (.c (.bool true)) (.t 22))])
 (.cond (.t 23) (.seq (.region false [O 6 (.mv (.c (.int .u64 0))),
 O 7 (.mv (.c (.int .i64 1)))])
 (.ret)) (.skip)))
 (.seq (.region false [O 25 (.mv (.t 1)),
 O 26 (.mv (.t 2)),
 O 27 (.call 229 [.t 25, .t 26]),
 O 24 (.mv (.t 27)),
 O 28 (.ext (.t 24) 0),
 O 29 (.ext (.t 24) 1),
 O 8 (.mv (.t 28)),
 O 9 (.mv (.t 29))])
 (.seq (.seq (.region false [O 30 (.mv (.t 9)),
 O 31 (.bin .neq (.t 30) (.c (.int .i64 0)))])
 (.cond (.t 31) (.seq (.region false [O 32 (.mv (.t 9)),
 O 6 (.mv (.c (.int .u64 0))),
 O 7 (.mv (.t 32))])
 (.ret)) (.skip)))
 (.seq (.seq (.region false [O 33 (.mv (.t 0)),
 O 34 (.bin .eql (.t 33) (.c (.int .i64 2)))])
 (.cond (.t 34) (.seq (.region false [O 35 (.mv (.t 1)),
 O 6 (.mv (.t 35)),
 O 7 (.mv (.c (.int .i64 0)))])
 (.ret)) (.skip)))
 (.seq (.region false [O 36 (.mv (.t 8)),
 O 6 (.mv (.t 36)),
 O 7 (.mv (.c (.int .i64 0)))])
 (.ret))))))) }
def book_is : PF := { ntmps := 9, raw := false, split := false, res := [.tmp 2], body := (
  .seq (.region false [O 2 (.mv (.c (.bool false)))])
 (.seq (.region false [O 3 (.mv (.t 0)),
 O 4 (.bin .geq (.t 3) (.c (.int .i64 0))),
 O 5 (.mv (.t 4)),
 G 6 (.mv (.t 0)) 5 true,
 G 7 (.bin .leq (.t 6) (.c (.int .i64 127))) 5 true,
 O 8 (.pick (.t 5) (.t 7) (.c (.bool false))),
 O 2 (.mv (.t 8))])
 (.ret))) }
def audit_is : PF := { ntmps := 9, raw := false, split := false, res := [.tmp 2], body := (
  .seq (.region false [O 2 (.mv (.c (.bool false)))])
 (.seq (.region false [O 3 (.mv (.t 0)),
 O 4 (.bin .geq (.t 3) (.c (.int .i64 0))),
 O 5 (.mv (.t 4)),
 G 6 (.mv (.t 0)) 5 true,
 G 7 (.bin .leq (.t 6) (.c (.int .i64 127))) 5 true,
 O 8 (.pick (.t 5) (.t 7) (.c (.bool false))),
 O 2 (.mv (.t 8))])
 (.ret))) }
def slices_IndexFunc_Order_Order : PF := { ntmps := 19, raw := false, split := false, res := [.tmp 4], body := (
  .seq (.region false [O 4 (.mv (.c (.int .i64 0)))])
 (.seq (.seq (.region false [O 6 (.mv (.t 0)),
 O 7 (.len (.t 6)),
 O 8 (.mv (.c (.int .i64 0)))])
 (.block 0 (.loop (.seq (.region false [O 9 (.bin .lss (.t 8) (.t 7))])
 (.seq (.cond (.t 9) (.skip) (.exit 0))
 (.seq (.block 1 (.seq (.region false [O 10 (.mv (.t 8)),
 O 5 (.mv (.t 10))])
 (.seq (.region false [O 11 (.mv (.t 1)),
 O 12 (.mv (.t 0)),
 O 13 (.mv (.t 5)),
 O 14 (.ixsl 10 (.t 12) (.t 13)),
 O 15 (.load true 10 (.t 14)),
 O 16 (.callv (.t 11) [.t 15])])
 (.cond (.t 16) (.seq (.region false [O 17 (.mv (.t 5)),
 O 4 (.mv (.t 17))])
 (.ret)) (.skip)))))
 (.region false [O 18 (.bin .add (.t 8) (.c (.int .i64 1))),
 O 8 (.mv (.t 18))])))))))
 (.seq (.region false [O 4 (.mv (.c (.int .i64 (-1))))])
 (.ret)))) }
def slices_IndexFunc_Entry_Entry : PF := { ntmps := 19, raw := false, split := false, res := [.tmp 4], body := (
  .seq (.region false [O 4 (.mv (.c (.int .i64 0)))])
 (.seq (.seq (.region false [O 6 (.mv (.t 0)),
 O 7 (.len (.t 6)),
 O 8 (.mv (.c (.int .i64 0)))])
 (.block 0 (.loop (.seq (.region false [O 9 (.bin .lss (.t 8) (.t 7))])
 (.seq (.cond (.t 9) (.skip) (.exit 0))
 (.seq (.block 1 (.seq (.region false [O 10 (.mv (.t 8)),
 O 5 (.mv (.t 10))])
 (.seq (.region false [O 11 (.mv (.t 1)),
 O 12 (.mv (.t 0)),
 O 13 (.mv (.t 5)),
 O 14 (.ixsl 10 (.t 12) (.t 13)),
 O 15 (.load true 10 (.t 14)),
 O 16 (.callv (.t 11) [.t 15])])
 (.cond (.t 16) (.seq (.region false [O 17 (.mv (.t 5)),
 O 4 (.mv (.t 17))])
 (.ret)) (.skip)))))
 (.region false [O 18 (.bin .add (.t 8) (.c (.int .i64 1))),
 O 8 (.mv (.t 18))])))))))
 (.seq (.region false [O 4 (.mv (.c (.int .i64 (-1))))])
 (.ret)))) }
def slices_IndexFunc_Exit_Exit : PF := { ntmps := 19, raw := false, split := false, res := [.tmp 4], body := (
  .seq (.region false [O 4 (.mv (.c (.int .i64 0)))])
 (.seq (.seq (.region false [O 6 (.mv (.t 0)),
 O 7 (.len (.t 6)),
 O 8 (.mv (.c (.int .i64 0)))])
 (.block 0 (.loop (.seq (.region false [O 9 (.bin .lss (.t 8) (.t 7))])
 (.seq (.cond (.t 9) (.skip) (.exit 0))
 (.seq (.block 1 (.seq (.region false [O 10 (.mv (.t 8)),
 O 5 (.mv (.t 10))])
 (.seq (.region false [O 11 (.mv (.t 1)),
 O 12 (.mv (.t 0)),
 O 13 (.mv (.t 5)),
 O 14 (.ixsl 6 (.t 12) (.t 13)),
 O 15 (.load true 6 (.t 14)),
 O 16 (.callv (.t 11) [.t 15])])
 (.cond (.t 16) (.seq (.region false [O 17 (.mv (.t 5)),
 O 4 (.mv (.t 17))])
 (.ret)) (.skip)))))
 (.region false [O 18 (.bin .add (.t 8) (.c (.int .i64 1))),
 O 8 (.mv (.t 18))])))))))
 (.seq (.region false [O 4 (.mv (.c (.int .i64 (-1))))])
 (.ret)))) }
def slices_IndexFunc_Item_Item : PF := { ntmps := 19, raw := false, split := false, res := [.tmp 4], body := (
  .seq (.region false [O 4 (.mv (.c (.int .i64 0)))])
 (.seq (.seq (.region false [O 6 (.mv (.t 0)),
 O 7 (.len (.t 6)),
 O 8 (.mv (.c (.int .i64 0)))])
 (.block 0 (.loop (.seq (.region false [O 9 (.bin .lss (.t 8) (.t 7))])
 (.seq (.cond (.t 9) (.skip) (.exit 0))
 (.seq (.block 1 (.seq (.region false [O 10 (.mv (.t 8)),
 O 5 (.mv (.t 10))])
 (.seq (.region false [O 11 (.mv (.t 1)),
 O 12 (.mv (.t 0)),
 O 13 (.mv (.t 5)),
 O 14 (.ixsl 6 (.t 12) (.t 13)),
 O 15 (.load true 6 (.t 14)),
 O 16 (.callv (.t 11) [.t 15])])
 (.cond (.t 16) (.seq (.region false [O 17 (.mv (.t 5)),
 O 4 (.mv (.t 17))])
 (.ret)) (.skip)))))
 (.region false [O 18 (.bin .add (.t 8) (.c (.int .i64 1))),
 O 8 (.mv (.t 18))])))))))
 (.seq (.region false [O 4 (.mv (.c (.int .i64 (-1))))])
 (.ret)))) }
def slices_IndexFunc_Ref_Ref : PF := { ntmps := 19, raw := false, split := false, res := [.tmp 4], body := (
  .seq (.region false [O 4 (.mv (.c (.int .i64 0)))])
 (.seq (.seq (.region false [O 6 (.mv (.t 0)),
 O 7 (.len (.t 6)),
 O 8 (.mv (.c (.int .i64 0)))])
 (.block 0 (.loop (.seq (.region false [O 9 (.bin .lss (.t 8) (.t 7))])
 (.seq (.cond (.t 9) (.skip) (.exit 0))
 (.seq (.block 1 (.seq (.region false [O 10 (.mv (.t 8)),
 O 5 (.mv (.t 10))])
 (.seq (.region false [O 11 (.mv (.t 1)),
 O 12 (.mv (.t 0)),
 O 13 (.mv (.t 5)),
 O 14 (.ixsl 2 (.t 12) (.t 13)),
 O 15 (.load true 2 (.t 14)),
 O 16 (.callv (.t 11) [.t 15])])
 (.cond (.t 16) (.seq (.region false [O 17 (.mv (.t 5)),
 O 4 (.mv (.t 17))])
 (.ret)) (.skip)))))
 (.region false [O 18 (.bin .add (.t 8) (.c (.int .i64 1))),
 O 8 (.mv (.t 18))])))))))
 (.seq (.region false [O 4 (.mv (.c (.int .i64 (-1))))])
 (.ret)))) }
def slices_IndexFunc_Mail_Mail : PF := { ntmps := 19, raw := false, split := false, res := [.tmp 4], body := (
  .seq (.region false [O 4 (.mv (.c (.int .i64 0)))])
 (.seq (.seq (.region false [O 6 (.mv (.t 0)),
 O 7 (.len (.t 6)),
 O 8 (.mv (.c (.int .i64 0)))])
 (.block 0 (.loop (.seq (.region false [O 9 (.bin .lss (.t 8) (.t 7))])
 (.seq (.cond (.t 9) (.skip) (.exit 0))
 (.seq (.block 1 (.seq (.region false [O 10 (.mv (.t 8)),
 O 5 (.mv (.t 10))])
 (.seq (.region false [O 11 (.mv (.t 1)),
 O 12 (.mv (.t 0)),
 O 13 (.mv (.t 5)),
 O 14 (.ixsl 5 (.t 12) (.t 13)),
 O 15 (.load true 5 (.t 14)),
 O 16 (.callv (.t 11) [.t 15])])
 (.cond (.t 16) (.seq (.region false [O 17 (.mv (.t 5)),
 O 4 (.mv (.t 17))])
 (.ret)) (.skip)))))
 (.region false [O 18 (.bin .add (.t 8) (.c (.int .i64 1))),
 O 8 (.mv (.t 18))])))))))
 (.seq (.region false [O 4 (.mv (.c (.int .i64 (-1))))])
 (.ret)))) }
def slices_IndexFunc_Trade_Trade : PF := { ntmps := 19, raw := false, split := false, res := [.tmp 4], body := (
  .seq (.region false [O 4 (.mv (.c (.int .i64 0)))])
 (.seq (.seq (.region false [O 6 (.mv (.t 0)),
 O 7 (.len (.t 6)),
 O 8 (.mv (.c (.int .i64 0)))])
 (.block 0 (.loop (.seq (.region false [O 9 (.bin .lss (.t 8) (.t 7))])
 (.seq (.cond (.t 9) (.skip) (.exit 0))
 (.seq (.block 1 (.seq (.region false [O 10 (.mv (.t 8)),
 O 5 (.mv (.t 10))])
 (.seq (.region false [O 11 (.mv (.t 1)),
 O 12 (.mv (.t 0)),
 O 13 (.mv (.t 5)),
 O 14 (.ixsl 9 (.t 12) (.t 13)),
 O 15 (.load true 9 (.t 14)),
 O 16 (.callv (.t 11) [.t 15])])
 (.cond (.t 16) (.seq (.region false [O 17 (.mv (.t 5)),
 O 4 (.mv (.t 17))])
 (.ret)) (.skip)))))
 (.region false [O 18 (.bin .add (.t 8) (.c (.int .i64 1))),
 O 8 (.mv (.t 18))])))))))
 (.seq (.region false [O 4 (.mv (.c (.int .i64 (-1))))])
 (.ret)))) }
def book_Slots : PF := { ntmps := 6, raw := false, split := false, res := [.tmp 2], body := (
  .seq (.region false [O 2 (.mv (.c (.sl .nil [])))])
 (.seq (.region false [O 3 (.mv (.t 0)),
 O 4 (.call 232 [.t 3]),
 O 5 (.call 233 [.t 4]),
 O 2 (.mv (.t 5))])
 (.ret))) }
def book_coinOf : PF := { ntmps := 10, raw := false, split := false, res := [.tmp 2], body := (
  .seq (.region false [O 1 (.box true (.t 0)),
 O 2 (.mv (.c (.int .i64 0)))])
 (.seq (.seq (.region false [O 3 (.faddr 3 (.t 1)),
 O 4 (.load false 1 (.t 3)),
 O 5 (.bin .eql (.t 4) (.c (.int .i64 2)))])
 (.cond (.t 5) (.seq (.region false [O 6 (.faddr 4 (.t 1)),
 O 7 (.load false 1 (.t 6)),
 O 2 (.mv (.t 7))])
 (.ret)) (.skip)))
 (.seq (.region false [O 8 (.faddr 5 (.t 1)),
 O 9 (.load false 1 (.t 8)),
 O 2 (.mv (.t 9))])
 (.ret)))) }
def trade_row : PF := { ntmps := 5, raw := false, split := false, res := [.tmp 2], body := (
  .seq (.region false [O 2 (.mv (.c (.nilp)))])
 (.seq (.region false [O 3 (.mv (.t 0)),
 O 4 (.call 68 [.t 3, (.c (.fn 234 [] []))]),
 O 2 (.mv (.t 4))])
 (.ret))) }
def coin_Plus : PF := { ntmps := 21, raw := false, split := false, res := [.tmp 4, .tmp 5], body := (
  .seq (.region false [O 4 (.mv (.c (.int .u64 0))),
 O 5 (.mv (.c (.int .i64 0)))])
 (.seq (.region false [O 9 (.mv (.t 0)),
 O 10 (.mv (.t 1)),
 O 11 (.carry false (.t 9) (.t 10) (.c (.int .u64 0))),
 O 8 (.mv (.t 11)),
 O 12 (.ext (.t 8) 0),
 O 13 (.ext (.t 8) 1),
 O 6 (.mv (.t 12)),
 O 7 (.mv (.t 13))])
 (.seq (.seq (.region false [O 14 (.mv (.t 7)),
 O 15 (.bin .neq (.t 14) (.c (.int .u64 0))),
 O 16 (.mv (.t 15)),
 G 17 (.mv (.t 6)) 16 false,
 G 18 (.bin .gtr (.t 17) (.c (.int .u64 4611686018427387904))) 16 false,
 O 19 (.pick (.t 16) (.c (.bool true)) (.t 18))])
 (.cond (.t 19) (.seq (.region false [O 4 (.mv (.c (.int .u64 0))),
 O 5 (.mv (.c (.int .i64 7)))])
 (.ret)) (.skip)))
 (.seq (.region false [O 20 (.mv (.t 6)),
 O 4 (.mv (.t 20)),
 O 5 (.mv (.c (.int .i64 0)))])
 (.ret))))) }
def cmp_isNaN_int : PF := { ntmps := 6, raw := false, split := false, res := [.tmp 2], body := (
  .seq (.region false [O 2 (.mv (.c (.bool false)))])
 (.seq (.region false [O 3 (.mv (.t 0)),
 O 4 (.mv (.t 0)),
 O 5 (.bin .neq (.t 3) (.t 4)),
 O 2 (.mv (.t 5))])
 (.ret))) }
def cmp_isNaN_uint64 : PF := { ntmps := 6, raw := false, split := false, res := [.tmp 2], body := (
  .seq (.region false [O 2 (.mv (.c (.bool false)))])
 (.seq (.region false [O 3 (.mv (.t 0)),
 O 4 (.mv (.t 0)),
 O 5 (.bin .neq (.t 3) (.t 4)),
 O 2 (.mv (.t 5))])
 (.ret))) }
def name_all_1 : PF := { ntmps := 8, raw := false, split := false, res := [.tmp 3], body := (
  .seq (.region false [O 3 (.mv (.c (.bool false)))])
 (.seq (.region false [O 4 (.load false 1 (.t 1)),
 O 5 (.mv (.t 0)),
 O 6 (.callv (.t 4) [.t 5]),
 O 7 (.un .not (.t 6)),
 O 3 (.mv (.t 7))])
 (.ret))) }
def slices_ContainsFunc_byte_byte : PF := { ntmps := 9, raw := false, split := false, res := [.tmp 4], body := (
  .seq (.region false [O 4 (.mv (.c (.bool false)))])
 (.seq (.region false [O 5 (.mv (.t 0)),
 O 6 (.mv (.t 1)),
 O 7 (.call 250 [.t 5, .t 6]),
 O 8 (.bin .geq (.t 7) (.c (.int .i64 0))),
 O 4 (.mv (.t 8))])
 (.ret))) }
def name_digit : PF := { ntmps := 9, raw := false, split := false, res := [.tmp 2], body := (
  .seq (.region false [O 2 (.mv (.c (.bool false)))])
 (.seq (.region false [O 3 (.mv (.t 0)),
 O 4 (.bin .geq (.t 3) (.c (.int .u8 48))),
 O 5 (.mv (.t 4)),
 G 6 (.mv (.t 0)) 5 true,
 G 7 (.bin .leq (.t 6) (.c (.int .u8 57))) 5 true,
 O 8 (.pick (.t 5) (.t 7) (.c (.bool false))),
 O 2 (.mv (.t 8))])
 (.ret))) }
def quota_Row_Item_First_1 : PF := { ntmps := 11, raw := false, split := false, res := [.tmp 3], body := (
  .seq (.region false [O 2 (.box true (.t 0)),
 O 3 (.mv (.c (.bool false)))])
 (.seq (.region true [O 4 (.load false 1 (.t 1)),
 O 5 (.nilc (.t 4)),
 O 6 (.faddr 1 (.t 5)),
 O 7 (.load false 1 (.t 6)),
 O 8 (.load true 6 (.t 2)),
 O 9 (.callv (.t 7) [.t 8]),
 O 10 (.un .not (.t 9)),
 O 3 (.mv (.t 10))])
 (.ret))) }
def slices_IndexFunc_Room_Room : PF := { ntmps := 19, raw := false, split := false, res := [.tmp 4], body := (
  .seq (.region false [O 4 (.mv (.c (.int .i64 0)))])
 (.seq (.seq (.region false [O 6 (.mv (.t 0)),
 O 7 (.len (.t 6)),
 O 8 (.mv (.c (.int .i64 0)))])
 (.block 0 (.loop (.seq (.region false [O 9 (.bin .lss (.t 8) (.t 7))])
 (.seq (.cond (.t 9) (.skip) (.exit 0))
 (.seq (.block 1 (.seq (.region false [O 10 (.mv (.t 8)),
 O 5 (.mv (.t 10))])
 (.seq (.region false [O 11 (.mv (.t 1)),
 O 12 (.mv (.t 0)),
 O 13 (.mv (.t 5)),
 O 14 (.ixsl 2 (.t 12) (.t 13)),
 O 15 (.load true 2 (.t 14)),
 O 16 (.callv (.t 11) [.t 15])])
 (.cond (.t 16) (.seq (.region false [O 17 (.mv (.t 5)),
 O 4 (.mv (.t 17))])
 (.ret)) (.skip)))))
 (.region false [O 18 (.bin .add (.t 8) (.c (.int .i64 1))),
 O 8 (.mv (.t 18))])))))))
 (.seq (.region false [O 4 (.mv (.c (.int .i64 (-1))))])
 (.ret)))) }
def room_isRef : PF := { ntmps := 21, raw := false, split := false, res := [.tmp 2], body := (
  .seq (.region false [O 1 (.box true (.t 0)),
 O 2 (.mv (.c (.bool false)))])
 (.seq (.region false [O 3 (.faddr 0 (.t 1)),
 O 4 (.load false 1 (.t 3)),
 O 5 (.bin .geq (.t 4) (.c (.int .i64 0))),
 O 6 (.mv (.t 5)),
 G 7 (.faddr 0 (.t 1)) 6 true,
 G 8 (.load false 1 (.t 7)) 6 true,
 G 9 (.bin .leq (.t 8) (.c (.int .i64 127))) 6 true,
 O 10 (.pick (.t 6) (.t 9) (.c (.bool false))),
 O 11 (.mv (.t 10)),
 G 12 (.faddr 1 (.t 1)) 11 true,
 G 13 (.load false 1 (.t 12)) 11 true,
 G 14 (.bin .geq (.t 13) (.c (.int .i64 0))) 11 true,
 O 15 (.pick (.t 11) (.t 14) (.c (.bool false))),
 O 16 (.mv (.t 15)),
 G 17 (.faddr 1 (.t 1)) 16 true,
 G 18 (.load false 1 (.t 17)) 16 true,
 G 19 (.bin .leq (.t 18) (.c (.int .i64 127))) 16 true,
 O 20 (.pick (.t 16) (.t 19) (.c (.bool false))),
 O 2 (.mv (.t 20))])
 (.ret))) }
def room_isDir : PF := { ntmps := 9, raw := false, split := false, res := [.tmp 2], body := (
  .seq (.region false [O 2 (.mv (.c (.bool false)))])
 (.seq (.region false [O 3 (.mv (.t 0)),
 O 4 (.bin .geq (.t 3) (.c (.int .i64 0))),
 O 5 (.mv (.t 4)),
 G 6 (.mv (.t 0)) 5 true,
 G 7 (.bin .lss (.t 6) (.c (.int .i64 6))) 5 true,
 O 8 (.pick (.t 5) (.t 7) (.c (.bool false))),
 O 2 (.mv (.t 8))])
 (.ret))) }
def room_index_1 : PF := { ntmps := 19, raw := false, split := false, res := [.tmp 4], body := (
  .seq (.region false [O 3 (.box true (.t 0)),
 O 4 (.mv (.c (.bool false)))])
 (.seq (.region false [O 5 (.faddr 0 (.t 3)),
 O 6 (.load false 1 (.t 5)),
 O 7 (.mv (.t 6)),
 G 8 (.faddr 1 (.t 3)) 7 true,
 G 9 (.load true 2 (.t 8)) 7 true,
 G 10 (.load true 2 (.t 1)) 7 true,
 G 11 (.eqs [.i, .i] false (.t 9) (.t 10)) 7 true,
 O 12 (.pick (.t 7) (.t 11) (.c (.bool false))),
 O 13 (.mv (.t 12)),
 G 14 (.faddr 5 (.t 3)) 13 true,
 G 15 (.load false 1 (.t 14)) 13 true,
 G 16 (.load false 1 (.t 2)) 13 true,
 G 17 (.bin .eql (.t 15) (.t 16)) 13 true,
 O 18 (.pick (.t 13) (.t 17) (.c (.bool false))),
 O 4 (.mv (.t 18))])
 (.ret))) }
def post_numbers : PF := { ntmps := 16, raw := false, split := false, res := [.tmp 2], body := (
  .seq (.region false [O 1 (.box true (.t 0)),
 O 2 (.mv (.c (.bool false)))])
 (.seq (.region false [O 3 (.faddr 1 (.t 1)),
 O 4 (.load false 1 (.t 3)),
 O 5 (.call 239 [.t 4]),
 O 6 (.mv (.t 5)),
 G 7 (.faddr 2 (.t 1)) 6 true,
 G 8 (.load false 1 (.t 7)) 6 true,
 G 9 (.call 239 [.t 8]) 6 true,
 O 10 (.pick (.t 6) (.t 9) (.c (.bool false))),
 O 11 (.mv (.t 10)),
 G 12 (.faddr 3 (.t 1)) 11 true,
 G 13 (.load false 1 (.t 12)) 11 true,
 G 14 (.call 239 [.t 13]) 11 true,
 O 15 (.pick (.t 11) (.t 14) (.c (.bool false))),
 O 2 (.mv (.t 15))])
 (.ret))) }
def name_Text : PF := { ntmps := 21, raw := false, split := false, res := [.tmp 2], body := (
  .seq (.region false [O 2 (.mv (.c (.bool false)))])
 (.seq (.region false [O 3 (.mv (.t 0)),
 O 4 (.lens (.t 3)),
 O 5 (.bin .geq (.t 4) (.c (.int .i64 1))),
 O 6 (.mv (.t 5)),
 G 7 (.mv (.t 0)) 6 true,
 G 8 (.lens (.t 7)) 6 true,
 G 9 (.bin .leq (.t 8) (.c (.int .i64 40))) 6 true,
 O 10 (.pick (.t 6) (.t 9) (.c (.bool false))),
 O 11 (.mv (.t 10)),
 G 12 (.mv (.t 0)) 11 true,
 G 13 (.call 212 [.t 12, (.c (.fn 240 [] []))]) 11 true,
 O 14 (.pick (.t 11) (.t 13) (.c (.bool false))),
 O 15 (.mv (.t 14)),
 G 16 (.mv (.t 0)) 15 true,
 G 17 (.call 241 [.t 16, (.c (.str ⟨#[32]⟩))]) 15 true,
 G 18 (.mv (.t 0)) 15 true,
 G 19 (.bin .eql (.t 17) (.t 18)) 15 true,
 O 20 (.pick (.t 15) (.t 19) (.c (.bool false))),
 O 2 (.mv (.t 20))])
 (.ret))) }
def trade_may : PF := { ntmps := 39, raw := false, split := false, res := [.tmp 2], body := (
  .seq (.region false [O 1 (.box true (.t 0)),
 O 2 (.mv (.c (.bool false)))])
 (.seq (.region false [O 3 (.faddr 1 (.t 1)),
 O 4 (.load false 1 (.t 3)),
 O 5 (.call 242 [.t 4]),
 O 6 (.mv (.t 5)),
 G 7 (.faddr 2 (.t 1)) 6 true,
 G 8 (.load false 1 (.t 7)) 6 true,
 G 9 (.call 242 [.t 8]) 6 true,
 O 10 (.pick (.t 6) (.t 9) (.c (.bool false))),
 O 11 (.mv (.t 10)),
 G 12 (.faddr 1 (.t 1)) 11 true,
 G 13 (.load false 1 (.t 12)) 11 true,
 G 14 (.faddr 2 (.t 1)) 11 true,
 G 15 (.load false 1 (.t 14)) 11 true,
 G 16 (.bin .neq (.t 13) (.t 15)) 11 true,
 O 17 (.pick (.t 11) (.t 16) (.c (.bool false))),
 O 18 (.mv (.t 17)),
 G 19 (.faddr 3 (.t 1)) 18 true,
 G 20 (.load true 3 (.t 19)) 18 true,
 G 21 (.call 243 [.t 20]) 18 true,
 O 22 (.pick (.t 18) (.t 21) (.c (.bool false))),
 O 23 (.mv (.t 22)),
 G 24 (.faddr 6 (.t 1)) 23 true,
 G 25 (.load true 3 (.t 24)) 23 true,
 G 26 (.call 243 [.t 25]) 23 true,
 O 27 (.pick (.t 23) (.t 26) (.c (.bool false))),
 O 28 (.mv (.t 27)),
 G 29 (.faddr 3 (.t 1)) 28 true,
 G 30 (.load true 3 (.t 29)) 28 true,
 G 31 (.call 244 [.t 30]) 28 true,
 G 32 (.mv (.t 31)) 28 true,
 G 33 (.faddr 6 (.t 1)) 32 true,
 G 34 (.load true 3 (.t 33)) 32 true,
 G 35 (.call 244 [.t 34]) 32 true,
 G 36 (.pick (.t 32) (.t 35) (.c (.bool false))) 28 true,
 G 37 (.un .not (.t 36)) 28 true,
 O 38 (.pick (.t 28) (.t 37) (.c (.bool false))),
 O 2 (.mv (.t 38))])
 (.ret))) }
def coin_Times : PF := { ntmps := 21, raw := false, split := false, res := [.tmp 4, .tmp 5], body := (
  .seq (.region false [O 4 (.mv (.c (.int .u64 0))),
 O 5 (.mv (.c (.int .i64 0)))])
 (.seq (.region false [O 9 (.mv (.t 0)),
 O 10 (.mv (.t 1)),
 O 11 (.call 245 [.t 9, .t 10]),
 O 8 (.mv (.t 11)),
 O 12 (.ext (.t 8) 0),
 O 13 (.ext (.t 8) 1),
 O 6 (.mv (.t 12)),
 O 7 (.mv (.t 13))])
 (.seq (.seq (.region false [O 14 (.mv (.t 6)),
 O 15 (.bin .neq (.t 14) (.c (.int .u64 0))),
 O 16 (.mv (.t 15)),
 G 17 (.mv (.t 7)) 16 false,
 G 18 (.bin .gtr (.t 17) (.c (.int .u64 4611686018427387904))) 16 false,
 O 19 (.pick (.t 16) (.c (.bool true)) (.t 18))])
 (.cond (.t 19) (.seq (.region false [O 4 (.mv (.c (.int .u64 0))),
 O 5 (.mv (.c (.int .i64 7)))])
 (.ret)) (.skip)))
 (.seq (.region false [O 20 (.mv (.t 7)),
 O 4 (.mv (.t 20)),
 O 5 (.mv (.c (.int .i64 0)))])
 (.ret))))) }
def book_row : PF := { ntmps := 5, raw := false, split := false, res := [.tmp 2], body := (
  .seq (.region false [O 2 (.mv (.c (.nilp)))])
 (.seq (.region false [O 3 (.mv (.t 0)),
 O 4 (.call 246 [.t 3, (.c (.fn 247 [] []))]),
 O 2 (.mv (.t 4))])
 (.ret))) }
def quota_Row_Order_Slots : PF := { ntmps := 25, raw := false, split := false, res := [.tmp 2], body := (
  .seq (.region false [O 2 (.mv (.c (.sl .nil [])))])
 (.seq (.seq (.region false [O 5 (.mv (.t 0)),
 O 6 (.call 248 [.t 5]),
 O 7 (.un .not (.t 6))])
 (.cond (.t 7) (.seq (.region false [O 2 (.mv (.c (.sl .nil [])))])
 (.ret)) (.skip)))
 (.seq (.region false [O 3 (.mv (.c (.sl .nil [])))])
 (.seq (.seq (.region false [O 8 (.mv (.t 0)),
 O 9 (.nilc (.t 8)),
 O 10 (.faddr 0 (.t 9)),
 O 11 (.load false 1 (.t 10)),
 O 12 (.len (.t 11)),
 O 13 (.mv (.c (.int .i64 0)))])
 (.block 0 (.loop (.seq (.region false [O 14 (.bin .lss (.t 13) (.t 12))])
 (.seq (.cond (.t 14) (.skip) (.exit 0))
 (.seq (.block 1 (.seq (.region false [O 15 (.mv (.t 13)),
 O 4 (.mv (.t 15))])
 (.seq (.region false [O 16 (.mv (.t 0)),
 O 17 (.mv (.t 4)),
 O 18 (.call 249 [.t 16, .t 17])])
 (.cond (.t 18) (.region false [O 19 (.mv (.t 3)),
 O 20 (.mv (.t 4)),
 O 21 (.bslice true 1 1 [.int .i64 0] [(0, (.t 20))]),
 O 22 (.append false 1 8 (.t 19) (.t 21)),
 O 3 (.mv (.t 22))]) (.skip)))))
 (.region false [O 23 (.bin .add (.t 13) (.c (.int .i64 1))),
 O 13 (.mv (.t 23))])))))))
 (.seq (.region false [O 24 (.mv (.t 3)),
 O 2 (.mv (.t 24))])
 (.ret)))))) }
def trade_row_1 : PF := { ntmps := 5, raw := false, split := false, res := [.tmp 2], body := (
  .seq (.region false [O 1 (.box true (.t 0)),
 O 2 (.mv (.c (.bool false)))])
 (.seq (.region false [O 3 (.faddr 0 (.t 1)),
 O 4 (.load false 1 (.t 3)),
 O 2 (.mv (.t 4))])
 (.ret))) }
def slices_IndexFunc_byte_byte : PF := { ntmps := 19, raw := false, split := false, res := [.tmp 4], body := (
  .seq (.region false [O 4 (.mv (.c (.int .i64 0)))])
 (.seq (.seq (.region false [O 6 (.mv (.t 0)),
 O 7 (.len (.t 6)),
 O 8 (.mv (.c (.int .i64 0)))])
 (.block 0 (.loop (.seq (.region false [O 9 (.bin .lss (.t 8) (.t 7))])
 (.seq (.cond (.t 9) (.skip) (.exit 0))
 (.seq (.block 1 (.seq (.region false [O 10 (.mv (.t 8)),
 O 5 (.mv (.t 10))])
 (.seq (.region false [O 11 (.mv (.t 1)),
 O 12 (.mv (.t 0)),
 O 13 (.mv (.t 5)),
 O 14 (.ixsl 1 (.t 12) (.t 13)),
 O 15 (.load false 1 (.t 14)),
 O 16 (.callv (.t 11) [.t 15])])
 (.cond (.t 16) (.seq (.region false [O 17 (.mv (.t 5)),
 O 4 (.mv (.t 17))])
 (.ret)) (.skip)))))
 (.region false [O 18 (.bin .add (.t 8) (.c (.int .i64 1))),
 O 8 (.mv (.t 18))])))))))
 (.seq (.region false [O 4 (.mv (.c (.int .i64 (-1))))])
 (.ret)))) }
def post_is : PF := { ntmps := 9, raw := false, split := false, res := [.tmp 2], body := (
  .seq (.region false [O 2 (.mv (.c (.bool false)))])
 (.seq (.region false [O 3 (.mv (.t 0)),
 O 4 (.bin .geq (.t 3) (.c (.int .i64 0))),
 O 5 (.mv (.t 4)),
 G 6 (.mv (.t 0)) 5 true,
 G 7 (.bin .leq (.t 6) (.c (.int .i64 127))) 5 true,
 O 8 (.pick (.t 5) (.t 7) (.c (.bool false))),
 O 2 (.mv (.t 8))])
 (.ret))) }
def name_plain : PF := { ntmps := 9, raw := false, split := false, res := [.tmp 2], body := (
  .seq (.region false [O 2 (.mv (.c (.bool false)))])
 (.seq (.region false [O 3 (.mv (.t 0)),
 O 4 (.bin .geq (.t 3) (.c (.int .u8 32))),
 O 5 (.mv (.t 4)),
 G 6 (.mv (.t 0)) 5 true,
 G 7 (.bin .leq (.t 6) (.c (.int .u8 126))) 5 true,
 O 8 (.pick (.t 5) (.t 7) (.c (.bool false))),
 O 2 (.mv (.t 8))])
 (.ret))) }
def strings_Trim : PF := { ntmps := 43, raw := false, split := false, res := [.tmp 4], body := (
  .seq (.region false [O 4 (.mv (.c (.str ⟨#[]⟩)))])
 (.seq (.seq (.region false [O 7 (.mv (.t 0)),
 O 8 (.bin .eql (.t 7) (.c (.str ⟨#[]⟩))),
 O 9 (.mv (.t 8)),
 G 10 (.mv (.t 1)) 9 false,
 G 11 (.bin .eql (.t 10) (.c (.str ⟨#[]⟩))) 9 false,
 O 12 (.pick (.t 9) (.c (.bool true)) (.t 11))])
 (.cond (.t 12) (.seq (.region false [O 13 (.mv (.t 0)),
 O 4 (.mv (.t 13))])
 (.ret)) (.skip)))
 (.seq (.seq (.region false [O 14 (.mv (.t 1)),
 O 15 (.lens (.t 14)),
 O 16 (.bin .eql (.t 15) (.c (.int .i64 1))),
 O 17 (.mv (.t 16)),
 G 18 (.mv (.t 1)) 17 true,
 G 19 (.ixstr (.t 18) (.c (.int .i64 0))) 17 true,
 G 20 (.bin .lss (.t 19) (.c (.int .u8 128))) 17 true,
 O 21 (.pick (.t 17) (.t 20) (.c (.bool false)))])
 (.cond (.t 21) (.seq (.region true [O 22 (.mv (.t 0)),
 O 23 (.mv (.t 1)),
 O 24 (.ixstr (.t 23) (.c (.int .i64 0))),
 O 25 (.callp 251 [.t 22, .t 24]),
 O 26 (.mv (.t 1)),
 O 27 (.ixstr (.t 26) (.c (.int .i64 0))),
 O 28 (.callp 252 [.t 25, .t 27]),
 O 4 (.mv (.t 28))])
 (.ret)) (.skip)))
 (.seq (.seq (.region false [O 30 (.mv (.t 1)),
 O 31 (.call 253 [.t 30]),
 O 29 (.mv (.t 31)),
 O 32 (.ext (.t 29) 0),
 O 33 (.ext (.t 29) 1),
 O 5 (.pend 256),
 O 5 (.init true 256 5 (.t 32)),
 O 6 (.mv (.t 33))])
 (.seq (.region false [O 34 (.mv (.t 6))])
 (.cond (.t 34) (.seq (.region false [O 35 (.mv (.t 0)),
 O 36 (.call 254 [.t 35, .t 5]),
 O 37 (.call 255 [.t 36, .t 5]),
 O 4 (.mv (.t 37))])
 (.ret)) (.skip))))
 (.seq (.region false [O 38 (.mv (.t 0)),
 O 39 (.mv (.t 1)),
 O 40 (.call 256 [.t 38, .t 39]),
 O 41 (.mv (.t 1)),
 O 42 (.call 257 [.t 40, .t 41]),
 O 4 (.mv (.t 42))])
 (.ret)))))) }
def trade_is : PF := { ntmps := 9, raw := false, split := false, res := [.tmp 2], body := (
  .seq (.region false [O 2 (.mv (.c (.bool false)))])
 (.seq (.region false [O 3 (.mv (.t 0)),
 O 4 (.bin .geq (.t 3) (.c (.int .i64 0))),
 O 5 (.mv (.t 4)),
 G 6 (.mv (.t 0)) 5 true,
 G 7 (.bin .leq (.t 6) (.c (.int .i64 127))) 5 true,
 O 8 (.pick (.t 5) (.t 7) (.c (.bool false))),
 O 2 (.mv (.t 8))])
 (.ret))) }
def trade_May : PF := { ntmps := 21, raw := false, split := false, res := [.tmp 2], body := (
  .seq (.region false [O 1 (.box true (.t 0)),
 O 2 (.mv (.c (.bool false)))])
 (.seq (.region false [O 3 (.faddr 0 (.t 1)),
 O 4 (.load false 1 (.t 3)),
 O 5 (.call 136 [.t 4]),
 O 6 (.mv (.t 5)),
 G 7 (.faddr 1 (.t 1)) 6 true,
 G 8 (.load false 1 (.t 7)) 6 true,
 G 9 (.bin .leq (.t 8) (.c (.int .u64 4611686018427387904))) 6 true,
 O 10 (.pick (.t 6) (.t 9) (.c (.bool false))),
 O 11 (.mv (.t 10)),
 G 12 (.faddr 2 (.t 1)) 11 true,
 G 13 (.load false 1 (.t 12)) 11 true,
 G 14 (.bin .eql (.t 13) (.c (.int .i64 (-1)))) 11 true,
 G 15 (.mv (.t 14)) 11 true,
 G 16 (.faddr 2 (.t 1)) 15 false,
 G 17 (.load false 1 (.t 16)) 15 false,
 G 18 (.call 242 [.t 17]) 15 false,
 G 19 (.pick (.t 15) (.c (.bool true)) (.t 18)) 11 true,
 O 20 (.pick (.t 11) (.t 19) (.c (.bool false))),
 O 2 (.mv (.t 20))])
 (.ret))) }
def trade_bare : PF := { ntmps := 8, raw := false, split := false, res := [.tmp 2], body := (
  .seq (.region false [O 1 (.box true (.t 0)),
 O 2 (.mv (.c (.bool false)))])
 (.seq (.region false [O 3 (.load true 3 (.t 1)),
 O 4 (.faddr 0 (.t 1)),
 O 5 (.load false 1 (.t 4)),
 O 6 (.build [.int .i64 0, .int .u64 0, .int .i64 0] [(0, 1, (.t 5)), (2, 1, (.c (.int .i64 (-1))))]),
 O 7 (.eqs [.i, .i, .i] false (.t 3) (.t 6)),
 O 2 (.mv (.t 7))])
 (.ret))) }
def math_bits_Mul64 : PF := { ntmps := 51, raw := false, split := false, res := [.tmp 4, .tmp 5], body := (
  .seq (.region false [O 4 (.mv (.c (.int .u64 0))),
 O 5 (.mv (.c (.int .u64 0)))])
 (.seq (.region false [O 14 (.mv (.t 0)),
 O 15 (.bin .and (.t 14) (.c (.int .u64 4294967295))),
 O 6 (.mv (.t 15))])
 (.seq (.region false [O 16 (.mv (.t 0)),
 O 17 (.bin .shr (.t 16) (.c (.int .u64 32))),
 O 7 (.mv (.t 17))])
 (.seq (.region false [O 18 (.mv (.t 1)),
 O 19 (.bin .and (.t 18) (.c (.int .u64 4294967295))),
 O 8 (.mv (.t 19))])
 (.seq (.region false [O 20 (.mv (.t 1)),
 O 21 (.bin .shr (.t 20) (.c (.int .u64 32))),
 O 9 (.mv (.t 21))])
 (.seq (.region false [O 22 (.mv (.t 6)),
 O 23 (.mv (.t 8)),
 O 24 (.bin .mul (.t 22) (.t 23)),
 O 10 (.mv (.t 24))])
 (.seq (.region false [O 25 (.mv (.t 7)),
 O 26 (.mv (.t 8)),
 O 27 (.bin .mul (.t 25) (.t 26)),
 O 28 (.mv (.t 10)),
 O 29 (.bin .shr (.t 28) (.c (.int .u64 32))),
 O 30 (.bin .add (.t 27) (.t 29)),
 O 11 (.mv (.t 30))])
 (.seq (.region false [O 31 (.mv (.t 11)),
 O 32 (.bin .and (.t 31) (.c (.int .u64 4294967295))),
 O 12 (.mv (.t 32))])
 (.seq (.region false [O 33 (.mv (.t 11)),
 O 34 (.bin .shr (.t 33) (.c (.int .u64 32))),
 O 13 (.mv (.t 34))])
 (.seq (.region false [O 35 (.mv (.t 12)),
 O 36 (.mv (.t 6)),
 O 37 (.mv (.t 9)),
 O 38 (.bin .mul (.t 36) (.t 37)),
 O 39 (.bin .add (.t 35) (.t 38)),
 O 12 (.mv (.t 39))])
 (.seq (.region false [O 40 (.mv (.t 7)),
 O 41 (.mv (.t 9)),
 O 42 (.bin .mul (.t 40) (.t 41)),
 O 43 (.mv (.t 13)),
 O 44 (.bin .add (.t 42) (.t 43)),
 O 45 (.mv (.t 12)),
 O 46 (.bin .shr (.t 45) (.c (.int .u64 32))),
 O 47 (.bin .add (.t 44) (.t 46)),
 O 4 (.mv (.t 47))])
 (.seq (.region false [O 48 (.mv (.t 0)),
 O 49 (.mv (.t 1)),
 O 50 (.bin .mul (.t 48) (.t 49)),
 O 5 (.mv (.t 50))])
 (.ret))))))))))))) }
def quota_Of_Order : PF := { ntmps := 12, raw := false, split := false, res := [.tmp 4], body := (
  .seq (.region false [O 4 (.mv (.c (.nilp)))])
 (.seq (.seq (.region false [O 5 (.mv (.t 1)),
 O 6 (.eqk .fn false (.t 5) (.c (.nilf)))])
 (.cond (.t 6) (.seq (.region false [O 4 (.mv (.c (.nilp)))])
 (.ret)) (.skip)))
 (.seq (.region false [O 7 (.mv (.t 0)),
 O 8 (.call 145 [.t 7]),
 O 9 (.mv (.t 1)),
 O 10 (.build [.sl .nil [], .nilf] [(0, 1, (.t 8)), (1, 1, (.t 9))]),
 O 11 (.box true (.t 10)),
 O 4 (.mv (.t 11))])
 (.ret)))) }
def book_row_1 : PF := { ntmps := 5, raw := false, split := false, res := [.tmp 2], body := (
  .seq (.region false [O 1 (.box true (.t 0)),
 O 2 (.mv (.c (.bool false)))])
 (.seq (.region false [O 3 (.faddr 0 (.t 1)),
 O 4 (.load false 1 (.t 3)),
 O 2 (.mv (.t 4))])
 (.ret))) }
def quota_Row_Order_made : PF := { ntmps := 12, raw := false, split := false, res := [.tmp 2], body := (
  .seq (.region false [O 2 (.mv (.c (.bool false)))])
 (.seq (.region false [O 3 (.mv (.t 0)),
 O 4 (.eqk .ptr true (.t 3) (.c (.nilp))),
 O 5 (.mv (.t 4)),
 G 6 (.mv (.t 0)) 5 true,
 G 7 (.nilc (.t 6)) 5 true,
 G 8 (.faddr 1 (.t 7)) 5 true,
 G 9 (.load false 1 (.t 8)) 5 true,
 G 10 (.eqk .fn true (.t 9) (.c (.nilf))) 5 true,
 O 11 (.pick (.t 5) (.t 10) (.c (.bool false))),
 O 2 (.mv (.t 11))])
 (.ret))) }
def quota_Row_Order_Has : PF := { ntmps := 34, raw := false, split := false, res := [.tmp 4], body := (
  .seq (.region false [O 4 (.mv (.c (.bool false)))])
 (.seq (.region true [O 5 (.mv (.t 0)),
 O 6 (.callp 248 [.t 5]),
 O 7 (.mv (.t 6)),
 G 8 (.mv (.t 1)) 7 true,
 G 9 (.bin .geq (.t 8) (.c (.int .i64 0))) 7 true,
 O 10 (.pick (.t 7) (.t 9) (.c (.bool false))),
 O 11 (.mv (.t 10)),
 G 12 (.mv (.t 1)) 11 true,
 G 13 (.mv (.t 0)) 11 true,
 G 14 (.nilc (.t 13)) 11 true,
 G 15 (.faddr 0 (.t 14)) 11 true,
 G 16 (.load false 1 (.t 15)) 11 true,
 G 17 (.len (.t 16)) 11 true,
 G 18 (.bin .lss (.t 12) (.t 17)) 11 true,
 O 19 (.pick (.t 11) (.t 18) (.c (.bool false))),
 O 20 (.mv (.t 19)),
 G 21 (.mv (.t 0)) 20 true,
 G 22 (.nilc (.t 21)) 20 true,
 G 23 (.faddr 1 (.t 22)) 20 true,
 G 24 (.load false 1 (.t 23)) 20 true,
 G 25 (.mv (.t 0)) 20 true,
 G 26 (.nilc (.t 25)) 20 true,
 G 27 (.faddr 0 (.t 26)) 20 true,
 G 28 (.load false 1 (.t 27)) 20 true,
 G 29 (.mv (.t 1)) 20 true,
 G 30 (.ixsl 10 (.t 28) (.t 29)) 20 true,
 G 31 (.load true 10 (.t 30)) 20 true,
 G 32 (.callv (.t 24) [.t 31]) 20 true,
 O 33 (.pick (.t 20) (.t 32) (.c (.bool false))),
 O 4 (.mv (.t 33))])
 (.ret))) }
def strings_trimRightByte : PF := { ntmps := 23, raw := false, split := false, res := [.tmp 4], body := (
  .seq (.region false [O 4 (.mv (.c (.str ⟨#[]⟩)))])
 (.seq (.block 0 (.loop (.seq (.seq (.region false [O 5 (.mv (.t 0)),
 O 6 (.lens (.t 5)),
 O 7 (.bin .gtr (.t 6) (.c (.int .i64 0))),
 O 8 (.mv (.t 7)),
 G 9 (.mv (.t 0)) 8 true,
 G 10 (.mv (.t 0)) 8 true,
 G 11 (.lens (.t 10)) 8 true,
 G 12 (.bin .sub (.t 11) (.c (.int .i64 1))) 8 true,
 G 13 (.ixstr (.t 9) (.t 12)) 8 true,
 G 14 (.mv (.t 1)) 8 true,
 G 15 (.bin .eql (.t 13) (.t 14)) 8 true,
 O 16 (.pick (.t 8) (.t 15) (.c (.bool false)))])
 (.cond (.t 16) (.skip) (.exit 0)))
 (.block 1 (.region false [O 17 (.mv (.t 0)),
 O 18 (.mv (.t 0)),
 O 19 (.lens (.t 18)),
 O 20 (.bin .sub (.t 19) (.c (.int .i64 1))),
 O 21 (.slstr (.t 17) none (some (.t 20))),
 O 0 (.mv (.t 21))])))))
 (.seq (.region false [O 22 (.mv (.t 0)),
 O 4 (.mv (.t 22))])
 (.ret)))) }
def strings_trimLeftByte : PF := { ntmps := 17, raw := false, split := false, res := [.tmp 4], body := (
  .seq (.region false [O 4 (.mv (.c (.str ⟨#[]⟩)))])
 (.seq (.block 0 (.loop (.seq (.seq (.region false [O 5 (.mv (.t 0)),
 O 6 (.lens (.t 5)),
 O 7 (.bin .gtr (.t 6) (.c (.int .i64 0))),
 O 8 (.mv (.t 7)),
 G 9 (.mv (.t 0)) 8 true,
 G 10 (.ixstr (.t 9) (.c (.int .i64 0))) 8 true,
 G 11 (.mv (.t 1)) 8 true,
 G 12 (.bin .eql (.t 10) (.t 11)) 8 true,
 O 13 (.pick (.t 8) (.t 12) (.c (.bool false)))])
 (.cond (.t 13) (.skip) (.exit 0)))
 (.block 1 (.region false [O 14 (.mv (.t 0)),
 O 15 (.slstr (.t 14) (some (.c (.int .i64 1))) none),
 O 0 (.mv (.t 15))])))))
 (.seq (.region false [O 16 (.mv (.t 0)),
 O 4 (.mv (.t 16))])
 (.ret)))) }
def strings_makeASCIISet : PF := { ntmps := 21, raw := false, split := false, res := [.cell 2 true 256, .tmp 3], body := (
  .seq (.region false [O 2 (.alloc false [.bool false, .bool false, .bool false, .bool false, .bool false, .bool false, .bool false, .bool false, .bool false, .bool false, .bool false, .bool false, .bool false, .bool false, .bool false, .bool false, .bool false, .bool false, .bool false, .bool false, .bool false, .bool false, .bool false, .bool false, .bool false, .bool false, .bool false, .bool false, .bool false, .bool false, .bool false, .bool false, .bool false, .bool false, .bool false, .bool false, .bool false, .bool false, .bool false, .bool false, .bool false, .bool false, .bool false, .bool false, .bool false, .bool false, .bool false, .bool false, .bool false, .bool false, .bool false, .bool false, .bool false, .bool false, .bool false, .bool false, .bool false, .bool false, .bool false, .bool false, .bool false, .bool false, .bool false, .bool false, .bool false, .bool false, .bool false, .bool false, .bool false, .bool false, .bool false, .bool false, .bool false, .bool false, .bool false, .bool false, .bool false, .bool false, .bool false, .bool false, .bool false, .bool false, .bool false, .bool false, .bool false, .bool false, .bool false, .bool false, .bool false, .bool false, .bool false, .bool false, .bool false, .bool false, .bool false, .bool false, .bool false, .bool false, .bool false, .bool false, .bool false, .bool false, .bool false, .bool false, .bool false, .bool false, .bool false, .bool false, .bool false, .bool false, .bool false, .bool false, .bool false, .bool false, .bool false, .bool false, .bool false, .bool false, .bool false, .bool false, .bool false, .bool false, .bool false, .bool false, .bool false, .bool false, .bool false, .bool false, .bool false, .bool false, .bool false, .bool false, .bool false, .bool false, .bool false, .bool false, .bool false, .bool false, .bool false, .bool false, .bool false, .bool false, .bool false, .bool false, .bool false, .bool false, .bool false, .bool false, .bool false, .bool false, .bool false, .bool false, .bool false, .bool false, .bool false, .bool false, .bool false, .bool false, .bool false, .bool false, .bool false, .bool false, .bool false, .bool false, .bool false, .bool false, .bool false, .bool false, .bool false, .bool false, .bool false, .bool false, .bool false, .bool false, .bool false, .bool false, .bool false, .bool false, .bool false, .bool false, .bool false, .bool false, .bool false, .bool false, .bool false, .bool false, .bool false, .bool false, .bool false, .bool false, .bool false, .bool false, .bool false, .bool false, .bool false, .bool false, .bool false, .bool false, .bool false, .bool false, .bool false, .bool false, .bool false, .bool false, .bool false, .bool false, .bool false, .bool false, .bool false, .bool false, .bool false, .bool false, .bool false, .bool false, .bool false, .bool false, .bool false, .bool false, .bool false, .bool false, .bool false, .bool false, .bool false, .bool false, .bool false, .bool false, .bool false, .bool false, .bool false, .bool false, .bool false, .bool false, .bool false, .bool false, .bool false, .bool false, .bool false, .bool false, .bool false, .bool false, .bool false, .bool false, .bool false, .bool false, .bool false, .bool false, .bool false, .bool false, .bool false, .bool false, .bool false, .bool false, .bool false, .bool false, .bool false, .bool false]),
 O 3 (.mv (.c (.bool false)))])
 (.seq (.seq (.region false [O 4 (.mv (.c (.int .i64 0)))])
 (.block 0 (.loop (.seq (.seq (.region false [O 6 (.mv (.t 4)),
 O 7 (.mv (.t 0)),
 O 8 (.lens (.t 7)),
 O 9 (.bin .lss (.t 6) (.t 8))])
 (.cond (.t 9) (.skip) (.exit 0)))
 (.seq (.block 1 (.seq (.region false [O 12 (.mv (.t 0)),
 O 13 (.mv (.t 4)),
 O 14 (.ixstr (.t 12) (.t 13)),
 O 5 (.mv (.t 14))])
 (.seq (.seq (.region false [O 15 (.mv (.t 5)),
 O 16 (.bin .geq (.t 15) (.c (.int .u8 128)))])
 (.cond (.t 16) (.seq (.region false [O 17 (.load true 256 (.t 2)),
 ⟨none, .store 256 (.t 2) (.t 17), none, 0, 0⟩,
 O 3 (.mv (.c (.bool false)))])
 (.ret)) (.skip)))
 (.region false [O 18 (.mv (.t 5)),
 O 19 (.ixarr 256 1 (.t 2) (.t 18)),
 ⟨none, .store 1 (.t 19) (.c (.bool true)), none, 0, 0⟩]))))
 (.region false [O 10 (.mv (.t 4)),
 O 11 (.bin .add (.t 10) (.c (.int .i64 1))),
 O 4 (.mv (.t 11))]))))))
 (.seq (.region false [O 20 (.load true 256 (.t 2)),
 ⟨none, .store 256 (.t 2) (.t 20), none, 0, 0⟩,
 O 3 (.mv (.c (.bool true)))])
 (.ret)))) }
def strings_trimRightASCII : PF := { ntmps := 22, raw := false, split := false, res := [.tmp 4], body := (
  .seq (.region false [O 4 (.mv (.c (.str ⟨#[]⟩)))])
 (.seq (.block 0 (.loop (.seq (.seq (.region false [O 5 (.mv (.t 0)),
 O 6 (.lens (.t 5)),
 O 7 (.bin .gtr (.t 6) (.c (.int .i64 0)))])
 (.cond (.t 7) (.skip) (.exit 0)))
 (.block 1 (.seq (.seq (.region false [O 8 (.mv (.t 1)),
 O 9 (.mv (.t 0)),
 O 10 (.mv (.t 0)),
 O 11 (.lens (.t 10)),
 O 12 (.bin .sub (.t 11) (.c (.int .i64 1))),
 O 13 (.ixstr (.t 9) (.t 12)),
 O 14 (.call 258 [.t 8, .t 13]),
 O 15 (.un .not (.t 14))])
 (.cond (.t 15) (.exit 0) (.skip)))
 (.region false [O 16 (.mv (.t 0)),
 O 17 (.mv (.t 0)),
 O 18 (.lens (.t 17)),
 O 19 (.bin .sub (.t 18) (.c (.int .i64 1))),
 O 20 (.slstr (.t 16) none (some (.t 19))),
 O 0 (.mv (.t 20))]))))))
 (.seq (.region false [O 21 (.mv (.t 0)),
 O 4 (.mv (.t 21))])
 (.ret)))) }
def strings_trimLeftASCII : PF := { ntmps := 16, raw := false, split := false, res := [.tmp 4], body := (
  .seq (.region false [O 4 (.mv (.c (.str ⟨#[]⟩)))])
 (.seq (.block 0 (.loop (.seq (.seq (.region false [O 5 (.mv (.t 0)),
 O 6 (.lens (.t 5)),
 O 7 (.bin .gtr (.t 6) (.c (.int .i64 0)))])
 (.cond (.t 7) (.skip) (.exit 0)))
 (.block 1 (.seq (.seq (.region false [O 8 (.mv (.t 1)),
 O 9 (.mv (.t 0)),
 O 10 (.ixstr (.t 9) (.c (.int .i64 0))),
 O 11 (.call 258 [.t 8, .t 10]),
 O 12 (.un .not (.t 11))])
 (.cond (.t 12) (.exit 0) (.skip)))
 (.region false [O 13 (.mv (.t 0)),
 O 14 (.slstr (.t 13) (some (.c (.int .i64 1))) none),
 O 0 (.mv (.t 14))]))))))
 (.seq (.region false [O 15 (.mv (.t 0)),
 O 4 (.mv (.t 15))])
 (.ret)))) }
def strings_trimRightUnicode : PF := { ntmps := 34, raw := false, split := false, res := [.tmp 4], body := (
  .seq (.region false [O 4 (.mv (.c (.str ⟨#[]⟩)))])
 (.seq (.block 0 (.loop (.seq (.seq (.region false [O 7 (.mv (.t 0)),
 O 8 (.lens (.t 7)),
 O 9 (.bin .gtr (.t 8) (.c (.int .i64 0)))])
 (.cond (.t 9) (.skip) (.exit 0)))
 (.block 1 (.seq (.region false [O 10 (.mv (.t 0)),
 O 11 (.mv (.t 0)),
 O 12 (.lens (.t 11)),
 O 13 (.bin .sub (.t 12) (.c (.int .i64 1))),
 O 14 (.ixstr (.t 10) (.t 13)),
 O 15 (.cvi .i32 (.t 14)),
 O 5 (.mv (.t 15)),
 O 6 (.mv (.c (.int .i64 1)))])
 (.seq (.seq (.region false [O 16 (.mv (.t 5)),
 O 17 (.bin .geq (.t 16) (.c (.int .i32 128)))])
 (.cond (.t 17) (.region false [O 19 (.mv (.t 0)),
 O 20 (.call 259 [.t 19]),
 O 18 (.mv (.t 20)),
 O 21 (.ext (.t 18) 0),
 O 22 (.ext (.t 18) 1),
 O 5 (.mv (.t 21)),
 O 6 (.mv (.t 22))]) (.skip)))
 (.seq (.seq (.region false [O 23 (.mv (.t 1)),
 O 24 (.mv (.t 5)),
 O 25 (.call 260 [.t 23, .t 24]),
 O 26 (.un .not (.t 25))])
 (.cond (.t 26) (.exit 0) (.skip)))
 (.region false [O 27 (.mv (.t 0)),
 O 28 (.mv (.t 0)),
 O 29 (.lens (.t 28)),
 O 30 (.mv (.t 6)),
 O 31 (.bin .sub (.t 29) (.t 30)),
 O 32 (.slstr (.t 27) none (some (.t 31))),
 O 0 (.mv (.t 32))]))))))))
 (.seq (.region false [O 33 (.mv (.t 0)),
 O 4 (.mv (.t 33))])
 (.ret)))) }
def strings_trimLeftUnicode : PF := { ntmps := 23, raw := false, split := false, res := [.tmp 4], body := (
  .seq (.region false [O 4 (.mv (.c (.str ⟨#[]⟩)))])
 (.seq (.block 0 (.loop (.seq (.seq (.region false [O 7 (.mv (.t 0)),
 O 8 (.lens (.t 7)),
 O 9 (.bin .gtr (.t 8) (.c (.int .i64 0)))])
 (.cond (.t 9) (.skip) (.exit 0)))
 (.block 1 (.seq (.region false [O 11 (.mv (.t 0)),
 O 12 (.call 261 [.t 11]),
 O 10 (.mv (.t 12)),
 O 13 (.ext (.t 10) 0),
 O 14 (.ext (.t 10) 1),
 O 5 (.mv (.t 13)),
 O 6 (.mv (.t 14))])
 (.seq (.seq (.region false [O 15 (.mv (.t 1)),
 O 16 (.mv (.t 5)),
 O 17 (.call 260 [.t 15, .t 16]),
 O 18 (.un .not (.t 17))])
 (.cond (.t 18) (.exit 0) (.skip)))
 (.region false [O 19 (.mv (.t 0)),
 O 20 (.mv (.t 6)),
 O 21 (.slstr (.t 19) (some (.t 20)) none),
 O 0 (.mv (.t 21))])))))))
 (.seq (.region false [O 22 (.mv (.t 0)),
 O 4 (.mv (.t 22))])
 (.ret)))) }
def strings_asciiSet_contains : PF := { ntmps := 10, raw := false, split := false, res := [.tmp 4], body := (
  .seq (.region false [O 4 (.mv (.c (.bool false)))])
 (.seq (.region false [O 5 (.mv (.t 0)),
 O 6 (.mv (.t 1)),
 O 7 (.nilc (.t 5)),
 O 8 (.ixarr 256 1 (.t 7) (.t 6)),
 O 9 (.load false 1 (.t 8)),
 O 4 (.mv (.t 9))])
 (.ret))) }
def unicode_utf8_DecodeLastRuneInString : PF := { ntmps := 51, raw := false, split := false, res := [.tmp 2, .tmp 3], body := (
  .seq (.region false [O 2 (.mv (.c (.int .i32 0))),
 O 3 (.mv (.c (.int .i64 0)))])
 (.seq (.region false [O 7 (.mv (.t 0)),
 O 8 (.lens (.t 7)),
 O 4 (.mv (.t 8))])
 (.seq (.seq (.region false [O 9 (.mv (.t 4)),
 O 10 (.bin .eql (.t 9) (.c (.int .i64 0)))])
 (.cond (.t 10) (.seq (.region false [O 2 (.mv (.c (.int .i32 65533))),
 O 3 (.mv (.c (.int .i64 0)))])
 (.ret)) (.skip)))
 (.seq (.region false [O 11 (.mv (.t 4)),
 O 12 (.bin .sub (.t 11) (.c (.int .i64 1))),
 O 5 (.mv (.t 12))])
 (.seq (.region false [O 13 (.mv (.t 0)),
 O 14 (.mv (.t 5)),
 O 15 (.ixstr (.t 13) (.t 14)),
 O 16 (.cvi .i32 (.t 15)),
 O 2 (.mv (.t 16))])
 (.seq (.seq (.region false [O 17 (.mv (.t 2)),
 O 18 (.bin .lss (.t 17) (.c (.int .i32 128)))])
 (.cond (.t 18) (.seq (.region false [O 19 (.mv (.t 2)),
 O 2 (.mv (.t 19)),
 O 3 (.mv (.c (.int .i64 1)))])
 (.ret)) (.skip)))
 (.seq (.region false [O 20 (.mv (.t 4)),
 O 21 (.bin .sub (.t 20) (.c (.int .i64 4))),
 O 22 (.minmax true [.t 21, (.c (.int .i64 0))]),
 O 6 (.mv (.t 22))])
 (.seq (.seq (.region false [O 23 (.mv (.t 5)),
 O 24 (.bin .sub (.t 23) (.c (.int .i64 1))),
 O 5 (.mv (.t 24))])
 (.block 0 (.loop (.seq (.seq (.region false [O 25 (.mv (.t 5)),
 O 26 (.mv (.t 6)),
 O 27 (.bin .geq (.t 25) (.t 26))])
 (.cond (.t 27) (.skip) (.exit 0)))
 (.seq (.block 1 (.seq (.region false [O 30 (.mv (.t 0)),
 O 31 (.mv (.t 5)),
 O 32 (.ixstr (.t 30) (.t 31)),
 O 33 (.call 262 [.t 32])])
 (.cond (.t 33) (.exit 0) (.skip))))
 (.region false [O 28 (.mv (.t 5)),
 O 29 (.bin .sub (.t 28) (.c (.int .i64 1))),
 O 5 (.mv (.t 29))]))))))
 (.seq (.seq (.region false [O 34 (.mv (.t 5)),
 O 35 (.bin .lss (.t 34) (.c (.int .i64 0)))])
 (.cond (.t 35) (.region false [O 5 (.mv (.c (.int .i64 0)))]) (.skip)))
 (.seq (.region false [O 37 (.mv (.t 0)),
 O 38 (.mv (.t 5)),
 O 39 (.mv (.t 4)),
 O 40 (.slstr (.t 37) (some (.t 38)) (some (.t 39))),
 O 41 (.call 261 [.t 40]),
 O 36 (.mv (.t 41)),
 O 42 (.ext (.t 36) 0),
 O 43 (.ext (.t 36) 1),
 O 2 (.mv (.t 42)),
 O 3 (.mv (.t 43))])
 (.seq (.seq (.region false [O 44 (.mv (.t 5)),
 O 45 (.mv (.t 3)),
 O 46 (.bin .add (.t 44) (.t 45)),
 O 47 (.mv (.t 4)),
 O 48 (.bin .neq (.t 46) (.t 47))])
 (.cond (.t 48) (.seq (.region false [O 2 (.mv (.c (.int .i32 65533))),
 O 3 (.mv (.c (.int .i64 1)))])
 (.ret)) (.skip)))
 (.seq (.region false [O 49 (.mv (.t 2)),
 O 50 (.mv (.t 3)),
 O 2 (.mv (.t 49)),
 O 3 (.mv (.t 50))])
 (.ret))))))))))))) }
def strings_ContainsRune : PF := { ntmps := 9, raw := false, split := false, res := [.tmp 4], body := (
  .seq (.region false [O 4 (.mv (.c (.bool false)))])
 (.seq (.region false [O 5 (.mv (.t 0)),
 O 6 (.mv (.t 1)),
 O 7 (.call 263 [.t 5, .t 6]),
 O 8 (.bin .geq (.t 7) (.c (.int .i64 0))),
 O 4 (.mv (.t 8))])
 (.ret))) }
def unicode_utf8_DecodeRuneInString : PF := { ntmps := 19, raw := false, split := false, res := [.tmp 2, .tmp 3], body := (
  .seq (.region false [O 2 (.mv (.c (.int .i32 0))),
 O 3 (.mv (.c (.int .i64 0)))])
 (.seq (.seq (.region false [O 4 (.mv (.t 0)),
 O 5 (.bin .neq (.t 4) (.c (.str ⟨#[]⟩))),
 O 6 (.mv (.t 5)),
 G 7 (.mv (.t 0)) 6 true,
 G 8 (.ixstr (.t 7) (.c (.int .i64 0))) 6 true,
 G 9 (.bin .lss (.t 8) (.c (.int .u8 128))) 6 true,
 O 10 (.pick (.t 6) (.t 9) (.c (.bool false)))])
 (.cond (.t 10) (.seq (.region false [O 11 (.mv (.t 0)),
 O 12 (.ixstr (.t 11) (.c (.int .i64 0))),
 O 13 (.cvi .i32 (.t 12)),
 O 2 (.mv (.t 13)),
 O 3 (.mv (.c (.int .i64 1)))])
 (.ret)) (.region false [O 15 (.mv (.t 0)),
 O 16 (.call 264 [.t 15]),
 O 14 (.mv (.t 16)),
 O 17 (.ext (.t 14) 0),
 O 18 (.ext (.t 14) 1),
 O 2 (.mv (.t 17)),
 O 3 (.mv (.t 18))])))
 (.ret))) }
def unicode_utf8_RuneStart : PF := { ntmps := 6, raw := false, split := false, res := [.tmp 2], body := (
  .seq (.region false [O 2 (.mv (.c (.bool false)))])
 (.seq (.region false [O 3 (.mv (.t 0)),
 O 4 (.bin .and (.t 3) (.c (.int .u8 192))),
 O 5 (.bin .neq (.t 4) (.c (.int .u8 128))),
 O 2 (.mv (.t 5))])
 (.ret))) }
def strings_IndexByte : PF := { ntmps := 8, raw := false, split := false, res := [.tmp 4], body := (
  .seq (.region false [O 4 (.mv (.c (.int .i64 0)))])
 (.seq (.region false [O 5 (.mv (.t 0)),
 O 6 (.mv (.t 1)),
 O 7 (.call 266 [.t 5, .t 6]),
 O 4 (.mv (.t 7))])
 (.ret))) }
def progL : List (Nat × PF) := [
  (1, rialtolaw29_GoodsRests),
  (2, rialtolaw29_GoodsAlike),
  (3, rialtolaw29_do),
  (4, rialtolaw29_alive),
  (5, state_IsMe),
  (6, state_Right),
  (7, rialtolaw29_used),
  (8, label_Leq),
  (9, label_Right),
  (10, view_Same),
  (11, goods_Bag),
  (12, goods_Things),
  (13, rialtolaw06_Ints),
  (14, rialtoref28_SameRefs),
  (15, goods_Make),
  (16, goods_Scrap),
  (17, goods_Drop),
  (18, goods_Take),
  (19, goods_Pass),
  (20, rialtolaw05_Small),
  (21, state_New),
  (22, state_judge_sizes),
  (23, state_judge_slots),
  (24, state_judge_public),
  (25, state_judge_rooms),
  (26, state_judge_people),
  (27, state_judge_deals),
  (28, state_judge_coins),
  (29, view_From),
  (30, state_Same),
  (31, goods_items),
  (32, thing_Held),
  (33, realm_Leq),
  (34, goods_place),
  (35, thing_Lying),
  (36, goods_Make_1),
  (37, goods_with),
  (38, goods_Scrap_1),
  (39, goods_Drop_1),
  (40, goods_Take_1),
  (41, goods_Pass_1),
  (42, realm_Right),
  (43, hall_New),
  (44, state_shelf),
  (45, state_all_Shelf),
  (46, state_judge_slots_1),
  (47, hall_Right),
  (48, book_Right),
  (49, audit_Right),
  (50, state_there),
  (51, state_judge_public_1),
  (52, state_all_Order),
  (53, state_judge_public_2),
  (54, state_all_Entry),
  (55, state_judge_public_3),
  (56, state_all_int),
  (57, state_judge_below),
  (58, state_judge_rooms_1),
  (59, state_all_Exit),
  (60, state_judge_rooms_2),
  (61, state_all_Item),
  (62, state_all_Ref),
  (63, state_judge_people_1),
  (64, state_judge_people_2),
  (65, state_all_Mail),
  (66, state_judge_people_3),
  (67, state_all_Trade),
  (68, quota_Of_Trade),
  (69, state_judge_deals_1),
  (70, quota_Row_Trade_Has),
  (71, quota_Row_Trade_Slots),
  (72, state_Held),
  (73, state_Made),
  (74, view_fits),
  (75, view_From_1),
  (76, view_From_2),
  (77, view_From_3),
  (78, view_choose_Shelf),
  (79, view_choose_int),
  (80, view_choose_int_),
  (81, state_Clone),
  (82, slices_EqualFunc_Shelf_Shelf_Shelf_Shelf),
  (83, state_sameShelf),
  (84, slices_EqualFunc_int_int_int_int),
  (85, slices_Equal_int_int),
  (86, slices_Equal_Order_Order),
  (87, slices_Equal_Entry_Entry),
  (88, thing_inHand),
  (89, thing_slots),
  (90, realm_isPlace),
  (91, thing_inRoom),
  (92, thing_Make),
  (93, thing_Scrap),
  (94, thing_Drop),
  (95, thing_Take),
  (96, thing_Pass),
  (97, realm_labels),
  (98, realm_lines),
  (99, realm_accounts),
  (100, realm_guilds),
  (101, realm_quotas),
  (102, realm_rest),
  (103, state_all_Shelf_1),
  (104, slices_ContainsFunc_Shelf_Shelf),
  (105, room_Rooms),
  (106, room_Exits),
  (107, thing_Right),
  (108, post_Right),
  (109, trade_Right),
  (110, hall_Right_1),
  (111, slices_ContainsFunc_int_int),
  (112, book_May),
  (113, audit_May),
  (114, audit_order),
  (115, state_judge_label),
  (116, state_judge_account),
  (117, state_all_Order_1),
  (118, slices_ContainsFunc_Order_Order),
  (119, state_all_Entry_1),
  (120, slices_ContainsFunc_Entry_Entry),
  (121, state_all_int_1),
  (122, state_judge_below_1),
  (123, state_all_Exit_1),
  (124, slices_ContainsFunc_Exit_Exit),
  (125, state_all_Item_1),
  (126, slices_ContainsFunc_Item_Item),
  (127, state_all_Ref_1),
  (128, slices_ContainsFunc_Ref_Ref),
  (129, state_judge_leq),
  (130, state_all_Mail_1),
  (131, slices_ContainsFunc_Mail_Mail),
  (132, state_all_Trade_1),
  (133, slices_ContainsFunc_Trade_Trade),
  (134, slices_Clone_Trade_Trade),
  (135, quota_Row_Trade_made),
  (136, coin_Right),
  (137, book_Held),
  (138, trade_Held),
  (139, coin_Sum),
  (140, state_column),
  (141, state_Made_1),
  (142, state_Made_2),
  (143, coin_Minus),
  (144, label_Hall),
  (145, slices_Clone_Order_Order),
  (146, slices_Clone_Entry_Entry),
  (147, slices_Clone_int_int),
  (150, slices_Clone_Room_Room),
  (151, slices_Clone_Exit_Exit),
  (152, slices_Clone_Item_Item),
  (153, slices_Clone_Mail_Mail),
  (154, slices_Clone_4_uint64_4_uint64),
  (155, slices_Clone_Ref_Ref),
  (156, slices_Equal_Room_Room),
  (157, slices_Equal_Exit_Exit),
  (158, slices_Equal_Item_Item),
  (159, slices_Equal_Mail_Mail),
  (160, slices_Equal_Trade_Trade),
  (161, slices_Equal_4_uint64_4_uint64),
  (162, slices_Equal_Ref_Ref),
  (163, thing_of),
  (164, realm_within),
  (165, thing_holder_may),
  (166, name_Right),
  (167, thing_row),
  (168, thing_to),
  (169, quota_Row_Item_Add),
  (170, thing_move),
  (171, quota_Row_Item_Put),
  (172, realm_labels_1),
  (173, slices_ContainsFunc_Label_Label),
  (174, label_Cmp),
  (175, realm_lines_1),
  (176, realm_accounts_1),
  (177, slices_ContainsFunc_Account_Account),
  (178, realm_callNames),
  (179, name_Apart),
  (180, slices_Contains_Label_Label),
  (181, realm_guilds_1),
  (182, realm_quotas_1),
  (183, realm_numbers),
  (184, slices_IndexFunc_Shelf_Shelf),
  (185, slices_ContainsFunc_Room_Room),
  (186, room_Rooms_1),
  (187, room_wrong),
  (188, room_index),
  (189, thing_wrong),
  (190, post_wrong),
  (191, trade_Right_1),
  (192, slices_IndexFunc_int_int),
  (193, book_Need),
  (194, book_is),
  (195, audit_is),
  (196, cmp_Compare_uint64),
  (197, cmp_Compare_int),
  (198, cmp_Or_int),
  (199, slices_IndexFunc_Order_Order),
  (200, slices_IndexFunc_Entry_Entry),
  (201, slices_IndexFunc_Exit_Exit),
  (202, slices_IndexFunc_Item_Item),
  (203, slices_IndexFunc_Ref_Ref),
  (204, slices_IndexFunc_Mail_Mail),
  (205, slices_IndexFunc_Trade_Trade),
  (206, book_Slots),
  (207, book_coinOf),
  (208, trade_row),
  (209, coin_Plus),
  (210, thing_is),
  (211, name_small),
  (212, name_all),
  (213, name_Right_1),
  (214, quota_Of_Item),
  (215, thing_row_1),
  (216, quota_Row_Item_First),
  (217, quota_Row_Item_Has),
  (218, quota_Row_Item_made),
  (219, slices_IndexFunc_Label_Label),
  (220, slices_IndexFunc_Account_Account),
  (221, slices_Index_Label_Label),
  (222, slices_IndexFunc_Room_Room),
  (223, room_isRef),
  (224, room_isDir),
  (225, room_index_1),
  (226, post_numbers),
  (227, name_Text),
  (228, trade_may),
  (229, coin_Times),
  (230, cmp_isNaN_uint64),
  (231, cmp_isNaN_int),
  (232, book_row),
  (233, quota_Row_Order_Slots),
  (234, trade_row_1),
  (235, name_all_1),
  (236, slices_ContainsFunc_byte_byte),
  (237, name_digit),
  (238, quota_Row_Item_First_1),
  (239, post_is),
  (240, name_plain),
  (241, strings_Trim),
  (242, trade_is),
  (243, trade_May),
  (244, trade_bare),
  (245, math_bits_Mul64),
  (246, quota_Of_Order),
  (247, book_row_1),
  (248, quota_Row_Order_made),
  (249, quota_Row_Order_Has),
  (250, slices_IndexFunc_byte_byte),
  (251, strings_trimRightByte),
  (252, strings_trimLeftByte),
  (253, strings_makeASCIISet),
  (254, strings_trimRightASCII),
  (255, strings_trimLeftASCII),
  (256, strings_trimRightUnicode),
  (257, strings_trimLeftUnicode),
  (258, strings_asciiSet_contains),
  (259, unicode_utf8_DecodeLastRuneInString),
  (260, strings_ContainsRune),
  (261, unicode_utf8_DecodeRuneInString),
  (262, unicode_utf8_RuneStart),
  (265, strings_IndexByte),
  (267, slices_Clone_Item_Item_raw),
  (268, state_Clone_raw),
  (269, slices_Clone_int_int_raw),
  (270, slices_Clone_Shelf_Shelf_raw)]
def prog : Nat → Option PF := look progL
def raws : List Nat := [44, 267, 268, 269, 270]
end Go.Rx
