/- Facts about the library's functions over texts at this seat, written by the kit's own tool (lay-plain); behind them those functions as callees. -/
import Derived.Test.YtfgncboicamdjaaGreatDoorProg
import Derived.Test.YtfgncboicamdjaaGreatDoorGwS
import Derived.KernelRfl
import Derived.Shelf.Strconv.AtoiAll
import Derived.WalkKit
import Derived.ProofKit
namespace Go.Proofs
open Go.Shelf
def Tryz.t_itoa_ren : Go.Shelf.Ren := ⟨fun | 171 => 64 | 243 => 85 | 246 => 91 | 283 => 100 | 284 => 101 | 285 => 102 | 286 => 103 | 129 => 116 | 317 => 115 | 318 => 117 | 319 => 118 | 320 => 119 | 337 => 130 | 338 => 131 | n => n, fun | 3 => 3 | 9 => 9 | 2 => 2 | 4 => 4 | 171 => 110 | 0 => 0 | 53 => 54 | 37 => 22 | 5 => 5 | 173 => 113 | 212 => 127 | 51 => 128 | 20 => 20 | 213 => 129 | 46 => 100 | 232 => 152 | 233 => 153 | n => n, fun | 17 => 0 | 18 => 6 | 19 => 7 | n => n⟩
theorem Tryz.t_itoa : Go.Proofs.LaysM.n171 Tryz.prog Tryz.t_itoa_ren := {
  mixed := by kernel_rfl
  f129 := Tryz.func116.trans (congrArg some (by kernel_rfl))
  f171 := Tryz.func64.trans (congrArg some (by kernel_rfl))
  f243 := Tryz.func85.trans (congrArg some (by kernel_rfl))
  f246 := Tryz.func91.trans (congrArg some (by kernel_rfl))
  f283 := Tryz.func100.trans (congrArg some (by kernel_rfl))
  f284 := Tryz.func101.trans (congrArg some (by kernel_rfl))
  f285 := Tryz.func102.trans (congrArg some (by kernel_rfl))
  f286 := Tryz.func103.trans (congrArg some (by kernel_rfl))
  f317 := Tryz.func115.trans (congrArg some (by kernel_rfl))
  f318 := Tryz.func117.trans (congrArg some (by kernel_rfl))
  f319 := Tryz.func118.trans (congrArg some (by kernel_rfl))
  f320 := Tryz.func119.trans (congrArg some (by kernel_rfl))
  f337 := Tryz.func130.trans (congrArg some (by kernel_rfl))
  f338 := Tryz.func131.trans (congrArg some (by kernel_rfl))
  t0 := Tryz.underlying0
  a0 := Tryz.isAgg0
  z0 := Tryz.sizeOf0
  v0 := Tryz.zeroValue0
  t2 := Tryz.underlying2
  a2 := Tryz.isAgg2
  z2 := Tryz.sizeOf2
  v2 := Tryz.zeroValue2
  t3 := Tryz.underlying3
  a3 := Tryz.isAgg3
  z3 := Tryz.sizeOf3
  v3 := Tryz.zeroValue3
  t4 := Tryz.underlying4
  a4 := Tryz.isAgg4
  z4 := Tryz.sizeOf4
  v4 := Tryz.zeroValue4
  t5 := Tryz.underlying5
  a5 := Tryz.isAgg5
  z5 := Tryz.sizeOf5
  v5 := Tryz.zeroValue5
  t9 := Tryz.underlying9
  a9 := Tryz.isAgg9
  z9 := Tryz.sizeOf9
  v9 := Tryz.zeroValue9
  t20 := Tryz.underlying20
  a20 := Tryz.isAgg20
  z20 := Tryz.sizeOf20
  v20 := Tryz.zeroValue20
  t37 := Tryz.underlying22
  a37 := Tryz.isAgg22
  z37 := Tryz.sizeOf22
  v37 := Tryz.zeroValue22
  t46 := Tryz.underlying100
  a46 := Tryz.isAgg100
  z46 := Tryz.sizeOf100
  v46 := Tryz.zeroValue100
  t51 := Tryz.underlying128
  a51 := Tryz.isAgg128
  z51 := Tryz.sizeOf128
  v51 := Tryz.zeroValue128
  t53 := Tryz.underlying54
  a53 := Tryz.isAgg54
  z53 := Tryz.sizeOf54
  v53 := Tryz.zeroValue54
  t171 := Tryz.underlying110
  a171 := Tryz.isAgg110
  z171 := Tryz.sizeOf110
  v171 := Tryz.zeroValue110
  t173 := Tryz.underlying113
  a173 := Tryz.isAgg113
  z173 := Tryz.sizeOf113
  v173 := Tryz.zeroValue113
  t212 := Tryz.underlying127
  a212 := Tryz.isAgg127
  z212 := Tryz.sizeOf127
  v212 := Tryz.zeroValue127
  t213 := Tryz.underlying129
  a213 := Tryz.isAgg129
  z213 := Tryz.sizeOf129
  t232 := Tryz.underlying152
  a232 := Tryz.isAgg152
  z232 := Tryz.sizeOf152
  v232 := Tryz.zeroValue152
  t233 := Tryz.underlying153
  a233 := Tryz.isAgg153
  z233 := Tryz.sizeOf153
  v233 := Tryz.zeroValue153
  g17 := by kernel_rfl
  g18 := by kernel_rfl
  g19 := by kernel_rfl
  i0 := by kernel_rfl
  i2 := by kernel_rfl
  i3 := by kernel_rfl
  i4 := by kernel_rfl
  i5 := by kernel_rfl
  i9 := by kernel_rfl
  i20 := by kernel_rfl
  i37 := by kernel_rfl
  i46 := by kernel_rfl
  i51 := by kernel_rfl
  i53 := by kernel_rfl
  i171 := by kernel_rfl
  i173 := by kernel_rfl
  i212 := by kernel_rfl
  i232 := by kernel_rfl
  i233 := by kernel_rfl
  m17 := by kernel_rfl
  m18 := by kernel_rfl
  m19 := by kernel_rfl }
def Tryz.t_join_ren : Go.Shelf.Ren := ⟨fun | 156 => 86 | 165 => 92 | 166 => 93 | 169 => 94 | 240 => 104 | 241 => 105 | 276 => 120 | 277 => 121 | n => n, fun | 31 => 81 | 9 => 9 | 3 => 3 | 4 => 4 | 0 => 0 | 20 => 20 | 72 => 104 | 76 => 98 | 70 => 102 | 37 => 22 | 75 => 97 | 127 => 115 | 164 => 131 | 5 => 5 | 80 => 106 | n => n, fun | n => n⟩
theorem Tryz.t_join : Go.Proofs.Lays.n156 Tryz.prog Tryz.t_join_ren := {
  mixed := by kernel_rfl
  f156 := Tryz.func86.trans (congrArg some (by kernel_rfl))
  f165 := Tryz.func92.trans (congrArg some (by kernel_rfl))
  f166 := Tryz.func93.trans (congrArg some (by kernel_rfl))
  f169 := Tryz.func94.trans (congrArg some (by kernel_rfl))
  f240 := Tryz.func104.trans (congrArg some (by kernel_rfl))
  f241 := Tryz.func105.trans (congrArg some (by kernel_rfl))
  f276 := Tryz.func120.trans (congrArg some (by kernel_rfl))
  f277 := Tryz.func121.trans (congrArg some (by kernel_rfl))
  t0 := Tryz.underlying0
  a0 := Tryz.isAgg0
  z0 := Tryz.sizeOf0
  v0 := Tryz.zeroValue0
  t3 := Tryz.underlying3
  a3 := Tryz.isAgg3
  z3 := Tryz.sizeOf3
  v3 := Tryz.zeroValue3
  t4 := Tryz.underlying4
  a4 := Tryz.isAgg4
  z4 := Tryz.sizeOf4
  v4 := Tryz.zeroValue4
  t9 := Tryz.underlying9
  a9 := Tryz.isAgg9
  z9 := Tryz.sizeOf9
  v9 := Tryz.zeroValue9
  t20 := Tryz.underlying20
  a20 := Tryz.isAgg20
  z20 := Tryz.sizeOf20
  v20 := Tryz.zeroValue20
  t31 := Tryz.underlying81
  a31 := Tryz.isAgg81
  z31 := Tryz.sizeOf81
  v31 := Tryz.zeroValue81
  t37 := Tryz.underlying22
  a37 := Tryz.isAgg22
  z37 := Tryz.sizeOf22
  v37 := Tryz.zeroValue22
  t70 := Tryz.underlying102
  a70 := Tryz.isAgg102
  z70 := Tryz.sizeOf102
  v70 := Tryz.zeroValue102
  t72 := Tryz.underlying104
  a72 := Tryz.isAgg104
  z72 := Tryz.sizeOf104
  v72 := Tryz.zeroValue104
  t75 := Tryz.underlying97
  a75 := Tryz.isAgg97
  z75 := Tryz.sizeOf97
  v75 := Tryz.zeroValue97
  t76 := Tryz.underlying98
  a76 := Tryz.isAgg98
  z76 := Tryz.sizeOf98
  v76 := Tryz.zeroValue98
  t127 := Tryz.underlying115
  a127 := Tryz.isAgg115
  z127 := Tryz.sizeOf115
  v127 := Tryz.zeroValue115
  t164 := Tryz.underlying131
  a164 := Tryz.isAgg131
  z164 := Tryz.sizeOf131
  v164 := Tryz.zeroValue131 }
def Tryz.t_split_ren : Go.Shelf.Ren := ⟨fun | 146 => 67 | 221 => 88 | 268 => 95 | 138 => 96 | 143 => 97 | 195 => 106 | 197 => 107 | 218 => 108 | 219 => 109 | 260 => 122 | 217 => 123 | 225 => 124 | 224 => 125 | 267 => 126 | 266 => 132 | 314 => 133 | n => n, fun | 9 => 9 | 31 => 81 | 3 => 3 | 4 => 4 | 0 => 0 | 105 => 117 | 21 => 21 | 5 => 5 | 46 => 100 | 119 => 141 | 139 => 144 | 138 => 143 | 146 => 145 | 51 => 128 | n => n, fun | 1 => 1 | 3 => 4 | 4 => 5 | n => n⟩
theorem Tryz.t_split : Go.Proofs.LaysM.n146 Tryz.prog Tryz.t_split_ren := {
  mixed := by kernel_rfl
  f138 := Tryz.func96.trans (congrArg some (by kernel_rfl))
  f143 := Tryz.func97.trans (congrArg some (by kernel_rfl))
  f146 := Tryz.func67.trans (congrArg some (by kernel_rfl))
  f195 := Tryz.func106.trans (congrArg some (by kernel_rfl))
  f197 := Tryz.func107.trans (congrArg some (by kernel_rfl))
  f217 := Tryz.func123.trans (congrArg some (by kernel_rfl))
  f218 := Tryz.func108.trans (congrArg some (by kernel_rfl))
  f219 := Tryz.func109.trans (congrArg some (by kernel_rfl))
  f221 := Tryz.func88.trans (congrArg some (by kernel_rfl))
  f224 := Tryz.func125.trans (congrArg some (by kernel_rfl))
  f225 := Tryz.func124.trans (congrArg some (by kernel_rfl))
  f260 := Tryz.func122.trans (congrArg some (by kernel_rfl))
  f266 := Tryz.func132.trans (congrArg some (by kernel_rfl))
  f267 := Tryz.func126.trans (congrArg some (by kernel_rfl))
  f268 := Tryz.func95.trans (congrArg some (by kernel_rfl))
  f314 := Tryz.func133.trans (congrArg some (by kernel_rfl))
  t0 := Tryz.underlying0
  a0 := Tryz.isAgg0
  z0 := Tryz.sizeOf0
  v0 := Tryz.zeroValue0
  t3 := Tryz.underlying3
  a3 := Tryz.isAgg3
  z3 := Tryz.sizeOf3
  v3 := Tryz.zeroValue3
  t4 := Tryz.underlying4
  a4 := Tryz.isAgg4
  z4 := Tryz.sizeOf4
  v4 := Tryz.zeroValue4
  t5 := Tryz.underlying5
  a5 := Tryz.isAgg5
  z5 := Tryz.sizeOf5
  v5 := Tryz.zeroValue5
  t9 := Tryz.underlying9
  a9 := Tryz.isAgg9
  z9 := Tryz.sizeOf9
  v9 := Tryz.zeroValue9
  t21 := Tryz.underlying21
  a21 := Tryz.isAgg21
  z21 := Tryz.sizeOf21
  v21 := Tryz.zeroValue21
  t31 := Tryz.underlying81
  a31 := Tryz.isAgg81
  z31 := Tryz.sizeOf81
  v31 := Tryz.zeroValue81
  t46 := Tryz.underlying100
  a46 := Tryz.isAgg100
  z46 := Tryz.sizeOf100
  v46 := Tryz.zeroValue100
  t51 := Tryz.underlying128
  a51 := Tryz.isAgg128
  z51 := Tryz.sizeOf128
  v51 := Tryz.zeroValue128
  t105 := Tryz.underlying117
  a105 := Tryz.isAgg117
  z105 := Tryz.sizeOf117
  v105 := Tryz.zeroValue117
  t119 := Tryz.underlying141
  a119 := Tryz.isAgg141
  z119 := Tryz.sizeOf141
  t138 := Tryz.underlying143
  a138 := Tryz.isAgg143
  z138 := Tryz.sizeOf143
  v138 := Tryz.zeroValue143
  t139 := Tryz.underlying144
  a139 := Tryz.isAgg144
  z139 := Tryz.sizeOf144
  v139 := Tryz.zeroValue144
  t146 := Tryz.underlying145
  a146 := Tryz.isAgg145
  z146 := Tryz.sizeOf145
  v146 := Tryz.zeroValue145
  g1 := by kernel_rfl
  g3 := by kernel_rfl
  g4 := by kernel_rfl
  i0 := by kernel_rfl
  i3 := by kernel_rfl
  i4 := by kernel_rfl
  i5 := by kernel_rfl
  i9 := by kernel_rfl
  i21 := by kernel_rfl
  i31 := by kernel_rfl
  i46 := by kernel_rfl
  i51 := by kernel_rfl
  i105 := by kernel_rfl
  i138 := by kernel_rfl
  i139 := by kernel_rfl
  i146 := by kernel_rfl
  m1 := by kernel_rfl
  s1_3 := fun w h => Go.Proofs.cell_of_shapedOpen_int (zero := #[.int .i64 0]) (t := 3) h (of_decide_eq_true (by kernel_rfl)) (by kernel_rfl) rfl (by kernel_rfl) (by kernel_rfl) Tryz.underlying3
  m3 := by kernel_rfl
  m4 := by kernel_rfl }
def Tryz.t_parse_ren : Go.Shelf.Ren := ⟨fun | 172 => 89 | 244 => 98 | 245 => 99 | 247 => 110 | 279 => 111 | 280 => 112 | 281 => 113 | 282 => 114 | 287 => 127 | 316 => 128 | 171 => 64 | 205 => 129 | 321 => 134 | 322 => 135 | 243 => 85 | 246 => 91 | 283 => 100 | 284 => 101 | 285 => 102 | 286 => 103 | 129 => 116 | 317 => 115 | 318 => 117 | 319 => 118 | 320 => 119 | 337 => 130 | 338 => 131 | n => n, fun | 9 => 9 | 3 => 3 | 75 => 97 | 76 => 98 | 4 => 4 | 5 => 5 | 167 => 120 | 37 => 22 | 0 => 0 | 85 => 121 | 2 => 2 | 168 => 123 | 53 => 54 | 175 => 134 | 46 => 100 | 210 => 138 | 127 => 115 | 145 => 151 | 143 => 149 | 21 => 21 | 171 => 110 | 173 => 113 | 212 => 127 | 51 => 128 | 20 => 20 | 213 => 129 | 232 => 152 | 233 => 153 | 80 => 106 | n => n, fun | 15 => 2 | 16 => 3 | 17 => 0 | 18 => 6 | 19 => 7 | n => n⟩
theorem Tryz.t_parse : Go.Proofs.LaysC.n172 Tryz.prog Tryz.t_parse_ren := {
  mixed := by kernel_rfl
  f129 := Tryz.func116.trans (congrArg some (by kernel_rfl))
  f171 := Tryz.func64.trans (congrArg some (by kernel_rfl))
  f172 := Tryz.func89.trans (congrArg some (by kernel_rfl))
  f205 := Tryz.func129.trans (congrArg some (by kernel_rfl))
  f243 := Tryz.func85.trans (congrArg some (by kernel_rfl))
  f244 := Tryz.func98.trans (congrArg some (by kernel_rfl))
  f245 := Tryz.func99.trans (congrArg some (by kernel_rfl))
  f246 := Tryz.func91.trans (congrArg some (by kernel_rfl))
  f247 := Tryz.func110.trans (congrArg some (by kernel_rfl))
  f279 := Tryz.func111.trans (congrArg some (by kernel_rfl))
  f280 := Tryz.func112.trans (congrArg some (by kernel_rfl))
  f281 := Tryz.func113.trans (congrArg some (by kernel_rfl))
  f282 := Tryz.func114.trans (congrArg some (by kernel_rfl))
  f283 := Tryz.func100.trans (congrArg some (by kernel_rfl))
  f284 := Tryz.func101.trans (congrArg some (by kernel_rfl))
  f285 := Tryz.func102.trans (congrArg some (by kernel_rfl))
  f286 := Tryz.func103.trans (congrArg some (by kernel_rfl))
  f287 := Tryz.func127.trans (congrArg some (by kernel_rfl))
  f316 := Tryz.func128.trans (congrArg some (by kernel_rfl))
  f317 := Tryz.func115.trans (congrArg some (by kernel_rfl))
  f318 := Tryz.func117.trans (congrArg some (by kernel_rfl))
  f319 := Tryz.func118.trans (congrArg some (by kernel_rfl))
  f320 := Tryz.func119.trans (congrArg some (by kernel_rfl))
  f321 := Tryz.func134.trans (congrArg some (by kernel_rfl))
  f322 := Tryz.func135.trans (congrArg some (by kernel_rfl))
  f337 := Tryz.func130.trans (congrArg some (by kernel_rfl))
  f338 := Tryz.func131.trans (congrArg some (by kernel_rfl))
  t0 := Tryz.underlying0
  a0 := Tryz.isAgg0
  z0 := Tryz.sizeOf0
  v0 := Tryz.zeroValue0
  t2 := Tryz.underlying2
  a2 := Tryz.isAgg2
  z2 := Tryz.sizeOf2
  v2 := Tryz.zeroValue2
  t3 := Tryz.underlying3
  a3 := Tryz.isAgg3
  z3 := Tryz.sizeOf3
  v3 := Tryz.zeroValue3
  t4 := Tryz.underlying4
  a4 := Tryz.isAgg4
  z4 := Tryz.sizeOf4
  v4 := Tryz.zeroValue4
  t5 := Tryz.underlying5
  a5 := Tryz.isAgg5
  z5 := Tryz.sizeOf5
  v5 := Tryz.zeroValue5
  t9 := Tryz.underlying9
  a9 := Tryz.isAgg9
  z9 := Tryz.sizeOf9
  v9 := Tryz.zeroValue9
  t20 := Tryz.underlying20
  a20 := Tryz.isAgg20
  z20 := Tryz.sizeOf20
  v20 := Tryz.zeroValue20
  t21 := Tryz.underlying21
  a21 := Tryz.isAgg21
  z21 := Tryz.sizeOf21
  v21 := Tryz.zeroValue21
  t37 := Tryz.underlying22
  a37 := Tryz.isAgg22
  z37 := Tryz.sizeOf22
  v37 := Tryz.zeroValue22
  t46 := Tryz.underlying100
  a46 := Tryz.isAgg100
  z46 := Tryz.sizeOf100
  v46 := Tryz.zeroValue100
  t51 := Tryz.underlying128
  a51 := Tryz.isAgg128
  z51 := Tryz.sizeOf128
  v51 := Tryz.zeroValue128
  t53 := Tryz.underlying54
  a53 := Tryz.isAgg54
  z53 := Tryz.sizeOf54
  v53 := Tryz.zeroValue54
  t75 := Tryz.underlying97
  a75 := Tryz.isAgg97
  z75 := Tryz.sizeOf97
  v75 := Tryz.zeroValue97
  t76 := Tryz.underlying98
  a76 := Tryz.isAgg98
  z76 := Tryz.sizeOf98
  v76 := Tryz.zeroValue98
  t85 := Tryz.underlying121
  a85 := Tryz.isAgg121
  z85 := Tryz.sizeOf121
  v85 := Tryz.zeroValue121
  t127 := Tryz.underlying115
  a127 := Tryz.isAgg115
  z127 := Tryz.sizeOf115
  v127 := Tryz.zeroValue115
  t143 := Tryz.underlying149
  a143 := Tryz.isAgg149
  z143 := Tryz.sizeOf149
  v143 := Tryz.zeroValue149
  t145 := Tryz.underlying151
  a145 := Tryz.isAgg151
  z145 := Tryz.sizeOf151
  v145 := Tryz.zeroValue151
  t167 := Tryz.underlying120
  a167 := Tryz.isAgg120
  z167 := Tryz.sizeOf120
  v167 := Tryz.zeroValue120
  t168 := Tryz.underlying123
  a168 := Tryz.isAgg123
  z168 := Tryz.sizeOf123
  v168 := Tryz.zeroValue123
  t171 := Tryz.underlying110
  a171 := Tryz.isAgg110
  z171 := Tryz.sizeOf110
  v171 := Tryz.zeroValue110
  t173 := Tryz.underlying113
  a173 := Tryz.isAgg113
  z173 := Tryz.sizeOf113
  v173 := Tryz.zeroValue113
  t175 := Tryz.underlying134
  a175 := Tryz.isAgg134
  z175 := Tryz.sizeOf134
  v175 := Tryz.zeroValue134
  t210 := Tryz.underlying138
  a210 := Tryz.isAgg138
  z210 := Tryz.sizeOf138
  v210 := Tryz.zeroValue138
  t212 := Tryz.underlying127
  a212 := Tryz.isAgg127
  z212 := Tryz.sizeOf127
  v212 := Tryz.zeroValue127
  t213 := Tryz.underlying129
  a213 := Tryz.isAgg129
  z213 := Tryz.sizeOf129
  t232 := Tryz.underlying152
  a232 := Tryz.isAgg152
  z232 := Tryz.sizeOf152
  v232 := Tryz.zeroValue152
  t233 := Tryz.underlying153
  a233 := Tryz.isAgg153
  z233 := Tryz.sizeOf153
  v233 := Tryz.zeroValue153
  g15 := by kernel_rfl
  g16 := by kernel_rfl
  g17 := by kernel_rfl
  g18 := by kernel_rfl
  g19 := by kernel_rfl
  t80 := Tryz.underlying106
  a80 := Tryz.isAgg106
  z80 := Tryz.sizeOf106
  v80 := Tryz.zeroValue106
  i0 := by kernel_rfl
  i2 := by kernel_rfl
  i3 := by kernel_rfl
  i4 := by kernel_rfl
  i5 := by kernel_rfl
  i9 := by kernel_rfl
  i20 := by kernel_rfl
  i21 := by kernel_rfl
  i37 := by kernel_rfl
  i46 := by kernel_rfl
  i51 := by kernel_rfl
  i53 := by kernel_rfl
  i75 := by kernel_rfl
  i76 := by kernel_rfl
  i80 := by kernel_rfl
  i85 := by kernel_rfl
  i127 := by kernel_rfl
  i143 := by kernel_rfl
  i145 := by kernel_rfl
  i167 := by kernel_rfl
  i168 := by kernel_rfl
  i171 := by kernel_rfl
  i173 := by kernel_rfl
  i175 := by kernel_rfl
  i210 := by kernel_rfl
  i212 := by kernel_rfl
  i232 := by kernel_rfl
  i233 := by kernel_rfl
  m15 := by kernel_rfl
  m16 := by kernel_rfl
  m17 := by kernel_rfl
  m18 := by kernel_rfl
  m19 := by kernel_rfl
  c0 := by kernel_rfl
  c2 := by kernel_rfl
  c3 := by kernel_rfl
  c4 := by kernel_rfl
  c5 := by kernel_rfl
  c9 := by kernel_rfl
  c20 := by kernel_rfl
  c21 := by kernel_rfl
  c37 := by kernel_rfl
  c46 := by kernel_rfl
  c51 := by kernel_rfl
  c53 := by kernel_rfl
  c75 := by kernel_rfl
  c76 := by kernel_rfl
  c80 := by kernel_rfl
  c85 := by kernel_rfl
  c127 := by kernel_rfl
  c143 := by kernel_rfl
  c145 := by kernel_rfl
  c167 := by kernel_rfl
  c168 := by kernel_rfl
  c171 := by kernel_rfl
  c173 := by kernel_rfl
  c175 := by kernel_rfl
  c210 := by kernel_rfl
  c212 := by kernel_rfl
  c213 := by kernel_rfl
  c232 := by kernel_rfl
  c233 := by kernel_rfl }
def Tryz.t_itoa2_ren : Go.Shelf.Ren := ⟨fun | 171 => 64 | 243 => 85 | 246 => 91 | 283 => 100 | 284 => 101 | 285 => 102 | 286 => 103 | 129 => 116 | 317 => 115 | 318 => 117 | 319 => 118 | 320 => 119 | 337 => 130 | 338 => 131 | n => n, fun | 3 => 3 | 9 => 9 | 2 => 2 | 4 => 4 | 171 => 110 | 0 => 0 | 53 => 54 | 37 => 22 | 5 => 5 | 173 => 113 | 212 => 127 | 51 => 128 | 20 => 20 | 213 => 129 | 46 => 100 | 232 => 152 | 233 => 153 | n => n, fun | 17 => 0 | 18 => 6 | 19 => 7 | n => n⟩
theorem Tryz.t_itoa2 : Go.Proofs.LaysM.n171 Tryz.prog Tryz.t_itoa2_ren := {
  mixed := by kernel_rfl
  f129 := Tryz.func116.trans (congrArg some (by kernel_rfl))
  f171 := Tryz.func64.trans (congrArg some (by kernel_rfl))
  f243 := Tryz.func85.trans (congrArg some (by kernel_rfl))
  f246 := Tryz.func91.trans (congrArg some (by kernel_rfl))
  f283 := Tryz.func100.trans (congrArg some (by kernel_rfl))
  f284 := Tryz.func101.trans (congrArg some (by kernel_rfl))
  f285 := Tryz.func102.trans (congrArg some (by kernel_rfl))
  f286 := Tryz.func103.trans (congrArg some (by kernel_rfl))
  f317 := Tryz.func115.trans (congrArg some (by kernel_rfl))
  f318 := Tryz.func117.trans (congrArg some (by kernel_rfl))
  f319 := Tryz.func118.trans (congrArg some (by kernel_rfl))
  f320 := Tryz.func119.trans (congrArg some (by kernel_rfl))
  f337 := Tryz.func130.trans (congrArg some (by kernel_rfl))
  f338 := Tryz.func131.trans (congrArg some (by kernel_rfl))
  t0 := Tryz.underlying0
  a0 := Tryz.isAgg0
  z0 := Tryz.sizeOf0
  v0 := Tryz.zeroValue0
  t2 := Tryz.underlying2
  a2 := Tryz.isAgg2
  z2 := Tryz.sizeOf2
  v2 := Tryz.zeroValue2
  t3 := Tryz.underlying3
  a3 := Tryz.isAgg3
  z3 := Tryz.sizeOf3
  v3 := Tryz.zeroValue3
  t4 := Tryz.underlying4
  a4 := Tryz.isAgg4
  z4 := Tryz.sizeOf4
  v4 := Tryz.zeroValue4
  t5 := Tryz.underlying5
  a5 := Tryz.isAgg5
  z5 := Tryz.sizeOf5
  v5 := Tryz.zeroValue5
  t9 := Tryz.underlying9
  a9 := Tryz.isAgg9
  z9 := Tryz.sizeOf9
  v9 := Tryz.zeroValue9
  t20 := Tryz.underlying20
  a20 := Tryz.isAgg20
  z20 := Tryz.sizeOf20
  v20 := Tryz.zeroValue20
  t37 := Tryz.underlying22
  a37 := Tryz.isAgg22
  z37 := Tryz.sizeOf22
  v37 := Tryz.zeroValue22
  t46 := Tryz.underlying100
  a46 := Tryz.isAgg100
  z46 := Tryz.sizeOf100
  v46 := Tryz.zeroValue100
  t51 := Tryz.underlying128
  a51 := Tryz.isAgg128
  z51 := Tryz.sizeOf128
  v51 := Tryz.zeroValue128
  t53 := Tryz.underlying54
  a53 := Tryz.isAgg54
  z53 := Tryz.sizeOf54
  v53 := Tryz.zeroValue54
  t171 := Tryz.underlying110
  a171 := Tryz.isAgg110
  z171 := Tryz.sizeOf110
  v171 := Tryz.zeroValue110
  t173 := Tryz.underlying113
  a173 := Tryz.isAgg113
  z173 := Tryz.sizeOf113
  v173 := Tryz.zeroValue113
  t212 := Tryz.underlying127
  a212 := Tryz.isAgg127
  z212 := Tryz.sizeOf127
  v212 := Tryz.zeroValue127
  t213 := Tryz.underlying129
  a213 := Tryz.isAgg129
  z213 := Tryz.sizeOf129
  t232 := Tryz.underlying152
  a232 := Tryz.isAgg152
  z232 := Tryz.sizeOf152
  v232 := Tryz.zeroValue152
  t233 := Tryz.underlying153
  a233 := Tryz.isAgg153
  z233 := Tryz.sizeOf153
  v233 := Tryz.zeroValue153
  g17 := by kernel_rfl
  g18 := by kernel_rfl
  g19 := by kernel_rfl
  i0 := by kernel_rfl
  i2 := by kernel_rfl
  i3 := by kernel_rfl
  i4 := by kernel_rfl
  i5 := by kernel_rfl
  i9 := by kernel_rfl
  i20 := by kernel_rfl
  i37 := by kernel_rfl
  i46 := by kernel_rfl
  i51 := by kernel_rfl
  i53 := by kernel_rfl
  i171 := by kernel_rfl
  i173 := by kernel_rfl
  i212 := by kernel_rfl
  i232 := by kernel_rfl
  i233 := by kernel_rfl
  m17 := by kernel_rfl
  m18 := by kernel_rfl
  m19 := by kernel_rfl }
end Go.Proofs

namespace Go.Proofs
theorem Tryz.x_join : Builder.Extra Tryz.prog Tryz.t_join_ren where
  sizeBuilder := by kernel_rfl
  liesBuilder := by kernel_rfl
  t5 := Tryz.underlying5
  a5 := Tryz.isAgg5
  z5 := Tryz.sizeOf5
  v5 := Tryz.zeroValue5
  infoByte := by kernel_rfl
  cellsByte := by kernel_rfl
  sizeByte := by kernel_rfl
  neB5 := by decide
end Go.Proofs

set_option linter.unusedVariables false
namespace Go.Pf.LayT
open Go Go.Fx
theorem itoa : itoaFn.Ok Go.Proofs.Tryz.prog 64 := itoa_ok (fn := Go.Proofs.Tryz.f64) (code := (Go.Proofs.Tryz.f64.body).getD .skip) Go.Proofs.Tryz.t_itoa (fun _ h => h.table) Go.Proofs.Tryz.func64 (by kernel_rfl) (by decide)
theorem join : joinFn.Ok Go.Proofs.Tryz.prog 86 := join_ok (fn := Go.Proofs.Tryz.f86) (code := (Go.Proofs.Tryz.f86.body).getD .skip) (fun _ _ h => absurd h (by decide)) Go.Proofs.Tryz.t_join Go.Proofs.Tryz.x_join Go.Proofs.Tryz.func86 (by kernel_rfl) (by decide)
theorem split : splitFn.Ok Go.Proofs.Tryz.prog 67 := split_ok (fn := Go.Proofs.Tryz.f67) (code := (Go.Proofs.Tryz.f67.body).getD .skip) Go.Proofs.Tryz.t_split (fun _ h => h.shaped) Go.Proofs.Tryz.func67 (by kernel_rfl) (by decide)
open Go.RowKit in
set_option maxRecDepth 100000 in
theorem walk_bad (s : ByteArray) (v : Int) (t : TypeId) (w : World) (A : Calls Go.Proofs.Tryz.prog 89 #[.string s] w fun e w' => (∃ p, e = .returned (.tuple #[.int .i64 v, .iface t p])) ∧ Grew w w') :
    Calls Go.Proofs.Tryz.prog 68 #[.string s] w fun e w' => e = .returned (.tuple #[.int .i64 0, .bool false]) ∧ Grew w w' := by
  go_enter Go.Proofs.Tryz.func68, Go.Proofs.Tryz.ntmps68
  go_wp2_with fail
  refine A.mono fun e w1 ⟨⟨p, he⟩, hb⟩ => ?_
  subst he
  go_wp2
  go_ret2
  exact ⟨rfl, hb⟩
open Go.RowKit in
set_option maxRecDepth 100000 in
theorem walk_low (s : ByteArray) (v : Int) (w : World) (A : Calls Go.Proofs.Tryz.prog 89 #[.string s] w fun e w' => e = .returned (.tuple #[.int .i64 v, .nilIface]) ∧ Grew w w') (hv : v < -999999) :
    Calls Go.Proofs.Tryz.prog 68 #[.string s] w fun e w' => e = .returned (.tuple #[.int .i64 0, .bool false]) ∧ Grew w w' := by
  have h1 : decide (v < -999999) = true := decide_eq_true hv
  go_enter Go.Proofs.Tryz.func68, Go.Proofs.Tryz.ntmps68
  go_wp2_with fail
  refine A.mono fun e w1 ⟨he, hb⟩ => ?_
  subst he
  go_wp2
  go_ret2
  exact ⟨rfl, hb⟩
open Go.RowKit in
set_option maxRecDepth 100000 in
theorem walk_high (s : ByteArray) (v : Int) (w : World) (A : Calls Go.Proofs.Tryz.prog 89 #[.string s] w fun e w' => e = .returned (.tuple #[.int .i64 v, .nilIface]) ∧ Grew w w') (hv : v > 999999) :
    Calls Go.Proofs.Tryz.prog 68 #[.string s] w fun e w' => e = .returned (.tuple #[.int .i64 0, .bool false]) ∧ Grew w w' := by
  have h1 : decide (v < -999999) = false := decide_eq_false (by omega)
  have h2 : decide (v > 999999) = true := decide_eq_true hv
  go_enter Go.Proofs.Tryz.func68, Go.Proofs.Tryz.ntmps68
  go_wp2_with fail
  refine A.mono fun e w1 ⟨he, hb⟩ => ?_
  subst he
  go_wp2
  go_ret2
  exact ⟨rfl, hb⟩
open Go.RowKit in
set_option maxRecDepth 100000 in
theorem walk_same (s : ByteArray) (v : Int) (r : ByteArray) (w : World) (A : Calls Go.Proofs.Tryz.prog 89 #[.string s] w fun e w' => e = .returned (.tuple #[.int .i64 v, .nilIface]) ∧ Grew w w') (hv : -999999 ≤ v ∧ v ≤ 999999)
    (I : ∀ w1, Grew w w1 → Calls Go.Proofs.Tryz.prog 64 #[.int .i64 v] w1 fun e w' => e = .returned (.string r) ∧ Grew w w') (hq : (r.toList == s.toList) = true) :
    Calls Go.Proofs.Tryz.prog 68 #[.string s] w fun e w' => e = .returned (.tuple #[.int .i64 v, .bool true]) ∧ Grew w w' := by
  have h1 : decide (v < -999999) = false := decide_eq_false (by omega)
  have h2 : decide (v > 999999) = false := decide_eq_false (by omega)
  go_enter Go.Proofs.Tryz.func68, Go.Proofs.Tryz.ntmps68
  go_wp2_with fail
  refine A.mono fun e w1 ⟨he, hb⟩ => ?_
  subst he
  go_wp2_with fail
  refine (I w1 hb).mono fun e w2 ⟨he, hb2⟩ => ?_
  subst he
  go_wp2
  go_ret2
  exact ⟨rfl, hb2⟩
open Go.RowKit in
set_option maxRecDepth 100000 in
theorem walk_other (s : ByteArray) (v : Int) (r : ByteArray) (w : World) (A : Calls Go.Proofs.Tryz.prog 89 #[.string s] w fun e w' => e = .returned (.tuple #[.int .i64 v, .nilIface]) ∧ Grew w w') (hv : -999999 ≤ v ∧ v ≤ 999999)
    (I : ∀ w1, Grew w w1 → Calls Go.Proofs.Tryz.prog 64 #[.int .i64 v] w1 fun e w' => e = .returned (.string r) ∧ Grew w w') (hq : (r.toList == s.toList) = false) :
    Calls Go.Proofs.Tryz.prog 68 #[.string s] w fun e w' => e = .returned (.tuple #[.int .i64 0, .bool false]) ∧ Grew w w' := by
  have h1 : decide (v < -999999) = false := decide_eq_false (by omega)
  have h2 : decide (v > 999999) = false := decide_eq_false (by omega)
  go_enter Go.Proofs.Tryz.func68, Go.Proofs.Tryz.ntmps68
  go_wp2_with fail
  refine A.mono fun e w1 ⟨he, hb⟩ => ?_
  subst he
  go_wp2_with fail
  refine (I w1 hb).mono fun e w2 ⟨he, hb2⟩ => ?_
  subst he
  go_wp2
  go_ret2
  exact ⟨rfl, hb2⟩
theorem parse : parseFn.Ok Go.Proofs.Tryz.prog 68 := by
  refine mkFn_ok_told (fn := Go.Proofs.Tryz.f68) (code := (Go.Proofs.Tryz.f68.body).getD .skip) Go.Proofs.Tryz.func68 (by kernel_rfl) (by decide) rfl rfl ?_
  rintro ⟨s, u⟩ r h w hG
  have h' : strParse.F 0 s = some r := h
  unfold strParse.F at h'
  split at h'
  · rename_i hs
    simp only [Option.some.injEq] at h'
    subst h'
    rcases hA : Lib.atoiAll s.data.toList with v | _ | _
    · skip
      have A : Calls Go.Proofs.Tryz.prog 89 #[.string s] w fun e w' => e = .returned (.tuple #[.int .i64 v, .nilIface]) ∧ Grew w w' := by
        refine Calls.mono (Go.Proofs.Any.strconv_Atoi_ok Go.Proofs.Tryz.t_parse s (by omega) v hA w) ?_
        rintro e w' ⟨rfl, rfl | ⟨t, rfl⟩⟩
        · exact ⟨rfl, Grew.refl _⟩
        · exact ⟨rfl, grew_bytes _ _ _⟩
      simp only
      by_cases h1 : v < -999999
      · rw [if_neg (by omega)]
        exact walk_low s v w A h1
      · by_cases h2 : v > 999999
        · rw [if_neg (by omega)]
          exact walk_high s v w A h2
        · have I : ∀ w1, Grew w w1 → Calls Go.Proofs.Tryz.prog 64 #[.int .i64 v] w1 fun e w' => e = .returned (.string ⟨(Lib.itoa v).toArray⟩) ∧ Grew w w' := fun w1 g1 => by
            refine Calls.mono (Go.Proofs.Any.strconv_Itoa Go.Proofs.Tryz.t_itoa2 v (by omega) (by omega) w1 (hG.kept g1.size g1.keep).table) ?_
            rintro e w' ⟨rfl, n, os, rfl⟩
            exact ⟨rfl, ⟨g1.os, ⟨g1.tape.1, fun h => absurd h (by decide)⟩, g1.output, Nat.le_trans g1.size (Grew.grow w1 n os).size, fun b hb => ((Grew.grow w1 n os).keep b (Nat.lt_of_lt_of_le hb g1.size)).trans (g1.keep b hb)⟩⟩
          by_cases h3 : Lib.itoa v = s.data.toList
          · rw [if_pos ⟨⟨by omega, by omega⟩, h3⟩]
            exact walk_same s v _ w A ⟨by omega, by omega⟩ I (by
              rw [Lib.toList_data, Lib.toList_data]
              simpa using h3)
          · rw [if_neg fun h => h3 h.2]
            exact walk_other s v _ w A ⟨by omega, by omega⟩ I (by
              rw [Lib.toList_data, Lib.toList_data]
              simpa using h3)
    · skip
      obtain ⟨_, _, ⟨tp, p, hv⟩, _⟩ := hG
      have A := Go.Proofs.Any.strconv_Atoi_syntax Go.Proofs.Tryz.t_parse s (by omega) hA (.iface tp p) w (by have h0 := World.var?_cell Go.Proofs.Tryz.t_parse.m15 hv 0; simpa using h0) (Or.inr ⟨tp, p, rfl⟩)
      exact walk_bad s 0 _ w (Calls.mono A (by rintro e w' ⟨N, rfl, _, _, hb⟩; exact ⟨⟨_, rfl⟩, below_grew hb fun h => absurd h (by decide)⟩))
    · skip
      obtain ⟨_, _, _, tp, p, hv⟩ := hG
      have A := Go.Proofs.Any.strconv_Atoi_range Go.Proofs.Tryz.t_parse s (by omega) hA (.iface tp p) w (by have h0 := World.var?_cell Go.Proofs.Tryz.t_parse.m16 hv 0; simpa using h0) (Or.inr ⟨tp, p, rfl⟩)
      exact walk_bad s _ _ w (Calls.mono A (by rintro e w' ⟨N, rfl, _, _, hb⟩; exact ⟨⟨_, rfl⟩, below_grew hb fun h => absurd h (by decide)⟩))
  · cases h'

end Go.Pf.LayT
