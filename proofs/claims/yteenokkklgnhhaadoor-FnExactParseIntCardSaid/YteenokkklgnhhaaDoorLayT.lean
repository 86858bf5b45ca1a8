/- Facts about the library's functions over texts at this seat, written by the kit's own tool (lay-plain); behind them those functions as callees. -/
import Derived.Test.YteenokkklgnhhaaDoorProg
import Derived.Test.YteenokkklgnhhaaDoorGwS
import Derived.KernelRfl
import Derived.Shelf.Strconv.AtoiAll
import Derived.WalkKit
import Derived.ProofKit
namespace Go.Proofs
open Go.Shelf
def Tryd.t_parse_ren : Go.Shelf.Ren := ⟨fun | 172 => 58 | 244 => 86 | 245 => 87 | 247 => 105 | 279 => 106 | 280 => 107 | 281 => 108 | 282 => 109 | 287 => 126 | 316 => 127 | 171 => 48 | 205 => 128 | 321 => 140 | 322 => 141 | 243 => 81 | 246 => 101 | 283 => 115 | 284 => 116 | 285 => 117 | 286 => 118 | 129 => 133 | 317 => 132 | 318 => 134 | 319 => 135 | 320 => 136 | 337 => 142 | 338 => 143 | n => n, fun | 9 => 9 | 3 => 3 | 75 => 68 | 76 => 69 | 4 => 4 | 5 => 5 | 167 => 107 | 37 => 35 | 0 => 0 | 85 => 108 | 2 => 2 | 168 => 110 | 53 => 72 | 175 => 126 | 46 => 113 | 210 => 129 | 127 => 114 | 145 => 144 | 143 => 142 | 21 => 21 | 171 => 118 | 173 => 121 | 212 => 135 | 51 => 136 | 20 => 20 | 213 => 137 | 232 => 150 | 233 => 151 | 80 => 75 | n => n, fun | 15 => 1 | 16 => 2 | 17 => 3 | 18 => 6 | 19 => 7 | n => n⟩
theorem Tryd.t_parse : Go.Proofs.LaysC.n172 Tryd.prog Tryd.t_parse_ren := {
  mixed := by kernel_rfl
  f129 := Tryd.func133.trans (congrArg some (by kernel_rfl))
  f171 := Tryd.func48.trans (congrArg some (by kernel_rfl))
  f172 := Tryd.func58.trans (congrArg some (by kernel_rfl))
  f205 := Tryd.func128.trans (congrArg some (by kernel_rfl))
  f243 := Tryd.func81.trans (congrArg some (by kernel_rfl))
  f244 := Tryd.func86.trans (congrArg some (by kernel_rfl))
  f245 := Tryd.func87.trans (congrArg some (by kernel_rfl))
  f246 := Tryd.func101.trans (congrArg some (by kernel_rfl))
  f247 := Tryd.func105.trans (congrArg some (by kernel_rfl))
  f279 := Tryd.func106.trans (congrArg some (by kernel_rfl))
  f280 := Tryd.func107.trans (congrArg some (by kernel_rfl))
  f281 := Tryd.func108.trans (congrArg some (by kernel_rfl))
  f282 := Tryd.func109.trans (congrArg some (by kernel_rfl))
  f283 := Tryd.func115.trans (congrArg some (by kernel_rfl))
  f284 := Tryd.func116.trans (congrArg some (by kernel_rfl))
  f285 := Tryd.func117.trans (congrArg some (by kernel_rfl))
  f286 := Tryd.func118.trans (congrArg some (by kernel_rfl))
  f287 := Tryd.func126.trans (congrArg some (by kernel_rfl))
  f316 := Tryd.func127.trans (congrArg some (by kernel_rfl))
  f317 := Tryd.func132.trans (congrArg some (by kernel_rfl))
  f318 := Tryd.func134.trans (congrArg some (by kernel_rfl))
  f319 := Tryd.func135.trans (congrArg some (by kernel_rfl))
  f320 := Tryd.func136.trans (congrArg some (by kernel_rfl))
  f321 := Tryd.func140.trans (congrArg some (by kernel_rfl))
  f322 := Tryd.func141.trans (congrArg some (by kernel_rfl))
  f337 := Tryd.func142.trans (congrArg some (by kernel_rfl))
  f338 := Tryd.func143.trans (congrArg some (by kernel_rfl))
  t0 := Tryd.underlying0
  a0 := Tryd.isAgg0
  z0 := Tryd.sizeOf0
  v0 := Tryd.zeroValue0
  t2 := Tryd.underlying2
  a2 := Tryd.isAgg2
  z2 := Tryd.sizeOf2
  v2 := Tryd.zeroValue2
  t3 := Tryd.underlying3
  a3 := Tryd.isAgg3
  z3 := Tryd.sizeOf3
  v3 := Tryd.zeroValue3
  t4 := Tryd.underlying4
  a4 := Tryd.isAgg4
  z4 := Tryd.sizeOf4
  v4 := Tryd.zeroValue4
  t5 := Tryd.underlying5
  a5 := Tryd.isAgg5
  z5 := Tryd.sizeOf5
  v5 := Tryd.zeroValue5
  t9 := Tryd.underlying9
  a9 := Tryd.isAgg9
  z9 := Tryd.sizeOf9
  v9 := Tryd.zeroValue9
  t20 := Tryd.underlying20
  a20 := Tryd.isAgg20
  z20 := Tryd.sizeOf20
  v20 := Tryd.zeroValue20
  t21 := Tryd.underlying21
  a21 := Tryd.isAgg21
  z21 := Tryd.sizeOf21
  v21 := Tryd.zeroValue21
  t37 := Tryd.underlying35
  a37 := Tryd.isAgg35
  z37 := Tryd.sizeOf35
  v37 := Tryd.zeroValue35
  t46 := Tryd.underlying113
  a46 := Tryd.isAgg113
  z46 := Tryd.sizeOf113
  v46 := Tryd.zeroValue113
  t51 := Tryd.underlying136
  a51 := Tryd.isAgg136
  z51 := Tryd.sizeOf136
  v51 := Tryd.zeroValue136
  t53 := Tryd.underlying72
  a53 := Tryd.isAgg72
  z53 := Tryd.sizeOf72
  v53 := Tryd.zeroValue72
  t75 := Tryd.underlying68
  a75 := Tryd.isAgg68
  z75 := Tryd.sizeOf68
  v75 := Tryd.zeroValue68
  t76 := Tryd.underlying69
  a76 := Tryd.isAgg69
  z76 := Tryd.sizeOf69
  v76 := Tryd.zeroValue69
  t85 := Tryd.underlying108
  a85 := Tryd.isAgg108
  z85 := Tryd.sizeOf108
  v85 := Tryd.zeroValue108
  t127 := Tryd.underlying114
  a127 := Tryd.isAgg114
  z127 := Tryd.sizeOf114
  v127 := Tryd.zeroValue114
  t143 := Tryd.underlying142
  a143 := Tryd.isAgg142
  z143 := Tryd.sizeOf142
  v143 := Tryd.zeroValue142
  t145 := Tryd.underlying144
  a145 := Tryd.isAgg144
  z145 := Tryd.sizeOf144
  v145 := Tryd.zeroValue144
  t167 := Tryd.underlying107
  a167 := Tryd.isAgg107
  z167 := Tryd.sizeOf107
  v167 := Tryd.zeroValue107
  t168 := Tryd.underlying110
  a168 := Tryd.isAgg110
  z168 := Tryd.sizeOf110
  v168 := Tryd.zeroValue110
  t171 := Tryd.underlying118
  a171 := Tryd.isAgg118
  z171 := Tryd.sizeOf118
  v171 := Tryd.zeroValue118
  t173 := Tryd.underlying121
  a173 := Tryd.isAgg121
  z173 := Tryd.sizeOf121
  v173 := Tryd.zeroValue121
  t175 := Tryd.underlying126
  a175 := Tryd.isAgg126
  z175 := Tryd.sizeOf126
  v175 := Tryd.zeroValue126
  t210 := Tryd.underlying129
  a210 := Tryd.isAgg129
  z210 := Tryd.sizeOf129
  v210 := Tryd.zeroValue129
  t212 := Tryd.underlying135
  a212 := Tryd.isAgg135
  z212 := Tryd.sizeOf135
  v212 := Tryd.zeroValue135
  t213 := Tryd.underlying137
  a213 := Tryd.isAgg137
  z213 := Tryd.sizeOf137
  t232 := Tryd.underlying150
  a232 := Tryd.isAgg150
  z232 := Tryd.sizeOf150
  v232 := Tryd.zeroValue150
  t233 := Tryd.underlying151
  a233 := Tryd.isAgg151
  z233 := Tryd.sizeOf151
  v233 := Tryd.zeroValue151
  g15 := by kernel_rfl
  g16 := by kernel_rfl
  g17 := by kernel_rfl
  g18 := by kernel_rfl
  g19 := by kernel_rfl
  t80 := Tryd.underlying75
  a80 := Tryd.isAgg75
  z80 := Tryd.sizeOf75
  v80 := Tryd.zeroValue75
  i0 := by kernel_rfl
  i2 := by kernel_rfl
  i3 := by kernel_rfl
  i4 := by kernel_rfl
  i5 := by kernel_rfl
  i9 := by kernel_rfl
  i20 := by kernel_rfl
  i21 := by kernel_rfl
  i37 := by kernel_rfl
  i46 := by kernel_rfl
  i51 := by kernel_rfl
  i53 := by kernel_rfl
  i75 := by kernel_rfl
  i76 := by kernel_rfl
  i80 := by kernel_rfl
  i85 := by kernel_rfl
  i127 := by kernel_rfl
  i143 := by kernel_rfl
  i145 := by kernel_rfl
  i167 := by kernel_rfl
  i168 := by kernel_rfl
  i171 := by kernel_rfl
  i173 := by kernel_rfl
  i175 := by kernel_rfl
  i210 := by kernel_rfl
  i212 := by kernel_rfl
  i232 := by kernel_rfl
  i233 := by kernel_rfl
  m15 := by kernel_rfl
  m16 := by kernel_rfl
  m17 := by kernel_rfl
  m18 := by kernel_rfl
  m19 := by kernel_rfl
  c0 := by kernel_rfl
  c2 := by kernel_rfl
  c3 := by kernel_rfl
  c4 := by kernel_rfl
  c5 := by kernel_rfl
  c9 := by kernel_rfl
  c20 := by kernel_rfl
  c21 := by kernel_rfl
  c37 := by kernel_rfl
  c46 := by kernel_rfl
  c51 := by kernel_rfl
  c53 := by kernel_rfl
  c75 := by kernel_rfl
  c76 := by kernel_rfl
  c80 := by kernel_rfl
  c85 := by kernel_rfl
  c127 := by kernel_rfl
  c143 := by kernel_rfl
  c145 := by kernel_rfl
  c167 := by kernel_rfl
  c168 := by kernel_rfl
  c171 := by kernel_rfl
  c173 := by kernel_rfl
  c175 := by kernel_rfl
  c210 := by kernel_rfl
  c212 := by kernel_rfl
  c213 := by kernel_rfl
  c232 := by kernel_rfl
  c233 := by kernel_rfl }
def Tryd.t_itoa2_ren : Go.Shelf.Ren := ⟨fun | 171 => 48 | 243 => 81 | 246 => 101 | 283 => 115 | 284 => 116 | 285 => 117 | 286 => 118 | 129 => 133 | 317 => 132 | 318 => 134 | 319 => 135 | 320 => 136 | 337 => 142 | 338 => 143 | n => n, fun | 3 => 3 | 9 => 9 | 2 => 2 | 4 => 4 | 171 => 118 | 0 => 0 | 53 => 72 | 37 => 35 | 5 => 5 | 173 => 121 | 212 => 135 | 51 => 136 | 20 => 20 | 213 => 137 | 46 => 113 | 232 => 150 | 233 => 151 | n => n, fun | 17 => 3 | 18 => 6 | 19 => 7 | n => n⟩
theorem Tryd.t_itoa2 : Go.Proofs.LaysM.n171 Tryd.prog Tryd.t_itoa2_ren := {
  mixed := by kernel_rfl
  f129 := Tryd.func133.trans (congrArg some (by kernel_rfl))
  f171 := Tryd.func48.trans (congrArg some (by kernel_rfl))
  f243 := Tryd.func81.trans (congrArg some (by kernel_rfl))
  f246 := Tryd.func101.trans (congrArg some (by kernel_rfl))
  f283 := Tryd.func115.trans (congrArg some (by kernel_rfl))
  f284 := Tryd.func116.trans (congrArg some (by kernel_rfl))
  f285 := Tryd.func117.trans (congrArg some (by kernel_rfl))
  f286 := Tryd.func118.trans (congrArg some (by kernel_rfl))
  f317 := Tryd.func132.trans (congrArg some (by kernel_rfl))
  f318 := Tryd.func134.trans (congrArg some (by kernel_rfl))
  f319 := Tryd.func135.trans (congrArg some (by kernel_rfl))
  f320 := Tryd.func136.trans (congrArg some (by kernel_rfl))
  f337 := Tryd.func142.trans (congrArg some (by kernel_rfl))
  f338 := Tryd.func143.trans (congrArg some (by kernel_rfl))
  t0 := Tryd.underlying0
  a0 := Tryd.isAgg0
  z0 := Tryd.sizeOf0
  v0 := Tryd.zeroValue0
  t2 := Tryd.underlying2
  a2 := Tryd.isAgg2
  z2 := Tryd.sizeOf2
  v2 := Tryd.zeroValue2
  t3 := Tryd.underlying3
  a3 := Tryd.isAgg3
  z3 := Tryd.sizeOf3
  v3 := Tryd.zeroValue3
  t4 := Tryd.underlying4
  a4 := Tryd.isAgg4
  z4 := Tryd.sizeOf4
  v4 := Tryd.zeroValue4
  t5 := Tryd.underlying5
  a5 := Tryd.isAgg5
  z5 := Tryd.sizeOf5
  v5 := Tryd.zeroValue5
  t9 := Tryd.underlying9
  a9 := Tryd.isAgg9
  z9 := Tryd.sizeOf9
  v9 := Tryd.zeroValue9
  t20 := Tryd.underlying20
  a20 := Tryd.isAgg20
  z20 := Tryd.sizeOf20
  v20 := Tryd.zeroValue20
  t37 := Tryd.underlying35
  a37 := Tryd.isAgg35
  z37 := Tryd.sizeOf35
  v37 := Tryd.zeroValue35
  t46 := Tryd.underlying113
  a46 := Tryd.isAgg113
  z46 := Tryd.sizeOf113
  v46 := Tryd.zeroValue113
  t51 := Tryd.underlying136
  a51 := Tryd.isAgg136
  z51 := Tryd.sizeOf136
  v51 := Tryd.zeroValue136
  t53 := Tryd.underlying72
  a53 := Tryd.isAgg72
  z53 := Tryd.sizeOf72
  v53 := Tryd.zeroValue72
  t171 := Tryd.underlying118
  a171 := Tryd.isAgg118
  z171 := Tryd.sizeOf118
  v171 := Tryd.zeroValue118
  t173 := Tryd.underlying121
  a173 := Tryd.isAgg121
  z173 := Tryd.sizeOf121
  v173 := Tryd.zeroValue121
  t212 := Tryd.underlying135
  a212 := Tryd.isAgg135
  z212 := Tryd.sizeOf135
  v212 := Tryd.zeroValue135
  t213 := Tryd.underlying137
  a213 := Tryd.isAgg137
  z213 := Tryd.sizeOf137
  t232 := Tryd.underlying150
  a232 := Tryd.isAgg150
  z232 := Tryd.sizeOf150
  v232 := Tryd.zeroValue150
  t233 := Tryd.underlying151
  a233 := Tryd.isAgg151
  z233 := Tryd.sizeOf151
  v233 := Tryd.zeroValue151
  g17 := by kernel_rfl
  g18 := by kernel_rfl
  g19 := by kernel_rfl
  i0 := by kernel_rfl
  i2 := by kernel_rfl
  i3 := by kernel_rfl
  i4 := by kernel_rfl
  i5 := by kernel_rfl
  i9 := by kernel_rfl
  i20 := by kernel_rfl
  i37 := by kernel_rfl
  i46 := by kernel_rfl
  i51 := by kernel_rfl
  i53 := by kernel_rfl
  i171 := by kernel_rfl
  i173 := by kernel_rfl
  i212 := by kernel_rfl
  i232 := by kernel_rfl
  i233 := by kernel_rfl
  m17 := by kernel_rfl
  m18 := by kernel_rfl
  m19 := by kernel_rfl }
end Go.Proofs

set_option linter.unusedVariables false
namespace Go.Pf.LayT
open Go Go.Fx
open Go.RowKit in
set_option maxRecDepth 100000 in
theorem walk_bad (s : ByteArray) (v : Int) (t : TypeId) (w : World) (A : Calls Go.Proofs.Tryd.prog 58 #[.string s] w fun e w' => (∃ p, e = .returned (.tuple #[.int .i64 v, .iface t p])) ∧ Grew w w') :
    Calls Go.Proofs.Tryd.prog 24 #[.string s] w fun e w' => e = .returned (.tuple #[.int .i64 0, .bool false]) ∧ Grew w w' := by
  go_enter Go.Proofs.Tryd.func24, Go.Proofs.Tryd.ntmps24
  go_wp2_with fail
  refine A.mono fun e w1 ⟨⟨p, he⟩, hb⟩ => ?_
  subst he
  go_wp2
  go_ret2
  exact ⟨rfl, hb⟩
open Go.RowKit in
set_option maxRecDepth 100000 in
theorem walk_low (s : ByteArray) (v : Int) (w : World) (A : Calls Go.Proofs.Tryd.prog 58 #[.string s] w fun e w' => e = .returned (.tuple #[.int .i64 v, .nilIface]) ∧ Grew w w') (hv : v < -999999) :
    Calls Go.Proofs.Tryd.prog 24 #[.string s] w fun e w' => e = .returned (.tuple #[.int .i64 0, .bool false]) ∧ Grew w w' := by
  have h1 : decide (v < -999999) = true := decide_eq_true hv
  go_enter Go.Proofs.Tryd.func24, Go.Proofs.Tryd.ntmps24
  go_wp2_with fail
  refine A.mono fun e w1 ⟨he, hb⟩ => ?_
  subst he
  go_wp2
  go_ret2
  exact ⟨rfl, hb⟩
open Go.RowKit in
set_option maxRecDepth 100000 in
theorem walk_high (s : ByteArray) (v : Int) (w : World) (A : Calls Go.Proofs.Tryd.prog 58 #[.string s] w fun e w' => e = .returned (.tuple #[.int .i64 v, .nilIface]) ∧ Grew w w') (hv : v > 999999) :
    Calls Go.Proofs.Tryd.prog 24 #[.string s] w fun e w' => e = .returned (.tuple #[.int .i64 0, .bool false]) ∧ Grew w w' := by
  have h1 : decide (v < -999999) = false := decide_eq_false (by omega)
  have h2 : decide (v > 999999) = true := decide_eq_true hv
  go_enter Go.Proofs.Tryd.func24, Go.Proofs.Tryd.ntmps24
  go_wp2_with fail
  refine A.mono fun e w1 ⟨he, hb⟩ => ?_
  subst he
  go_wp2
  go_ret2
  exact ⟨rfl, hb⟩
open Go.RowKit in
set_option maxRecDepth 100000 in
theorem walk_same (s : ByteArray) (v : Int) (r : ByteArray) (w : World) (A : Calls Go.Proofs.Tryd.prog 58 #[.string s] w fun e w' => e = .returned (.tuple #[.int .i64 v, .nilIface]) ∧ Grew w w') (hv : -999999 ≤ v ∧ v ≤ 999999)
    (I : ∀ w1, Grew w w1 → Calls Go.Proofs.Tryd.prog 48 #[.int .i64 v] w1 fun e w' => e = .returned (.string r) ∧ Grew w w') (hq : (r.toList == s.toList) = true) :
    Calls Go.Proofs.Tryd.prog 24 #[.string s] w fun e w' => e = .returned (.tuple #[.int .i64 v, .bool true]) ∧ Grew w w' := by
  have h1 : decide (v < -999999) = false := decide_eq_false (by omega)
  have h2 : decide (v > 999999) = false := decide_eq_false (by omega)
  go_enter Go.Proofs.Tryd.func24, Go.Proofs.Tryd.ntmps24
  go_wp2_with fail
  refine A.mono fun e w1 ⟨he, hb⟩ => ?_
  subst he
  go_wp2_with fail
  refine (I w1 hb).mono fun e w2 ⟨he, hb2⟩ => ?_
  subst he
  go_wp2
  go_ret2
  exact ⟨rfl, hb2⟩
open Go.RowKit in
set_option maxRecDepth 100000 in
theorem walk_other (s : ByteArray) (v : Int) (r : ByteArray) (w : World) (A : Calls Go.Proofs.Tryd.prog 58 #[.string s] w fun e w' => e = .returned (.tuple #[.int .i64 v, .nilIface]) ∧ Grew w w') (hv : -999999 ≤ v ∧ v ≤ 999999)
    (I : ∀ w1, Grew w w1 → Calls Go.Proofs.Tryd.prog 48 #[.int .i64 v] w1 fun e w' => e = .returned (.string r) ∧ Grew w w') (hq : (r.toList == s.toList) = false) :
    Calls Go.Proofs.Tryd.prog 24 #[.string s] w fun e w' => e = .returned (.tuple #[.int .i64 0, .bool false]) ∧ Grew w w' := by
  have h1 : decide (v < -999999) = false := decide_eq_false (by omega)
  have h2 : decide (v > 999999) = false := decide_eq_false (by omega)
  go_enter Go.Proofs.Tryd.func24, Go.Proofs.Tryd.ntmps24
  go_wp2_with fail
  refine A.mono fun e w1 ⟨he, hb⟩ => ?_
  subst he
  go_wp2_with fail
  refine (I w1 hb).mono fun e w2 ⟨he, hb2⟩ => ?_
  subst he
  go_wp2
  go_ret2
  exact ⟨rfl, hb2⟩
theorem parse : parseFn.Ok Go.Proofs.Tryd.prog 24 := by
  refine mkFn_ok_told (fn := Go.Proofs.Tryd.f24) (code := (Go.Proofs.Tryd.f24.body).getD .skip) Go.Proofs.Tryd.func24 (by kernel_rfl) (by decide) rfl rfl ?_
  rintro ⟨s, u⟩ r h w hG
  have h' : strParse.F 0 s = some r := h
  unfold strParse.F at h'
  split at h'
  · rename_i hs
    simp only [Option.some.injEq] at h'
    subst h'
    rcases hA : Lib.atoiAll s.data.toList with v | _ | _
    · skip
      have A : Calls Go.Proofs.Tryd.prog 58 #[.string s] w fun e w' => e = .returned (.tuple #[.int .i64 v, .nilIface]) ∧ Grew w w' := by
        refine Calls.mono (Go.Proofs.Any.strconv_Atoi_ok Go.Proofs.Tryd.t_parse s (by omega) v hA w) ?_
        rintro e w' ⟨rfl, rfl | ⟨t, rfl⟩⟩
        · exact ⟨rfl, Grew.refl _⟩
        · exact ⟨rfl, grew_bytes _ _ _⟩
      simp only
      by_cases h1 : v < -999999
      · rw [if_neg (by omega)]
        exact walk_low s v w A h1
      · by_cases h2 : v > 999999
        · rw [if_neg (by omega)]
          exact walk_high s v w A h2
        · have I : ∀ w1, Grew w w1 → Calls Go.Proofs.Tryd.prog 48 #[.int .i64 v] w1 fun e w' => e = .returned (.string ⟨(Lib.itoa v).toArray⟩) ∧ Grew w w' := fun w1 g1 => by
            refine Calls.mono (Go.Proofs.Any.strconv_Itoa Go.Proofs.Tryd.t_itoa2 v (by omega) (by omega) w1 (hG.kept g1.size g1.keep).table) ?_
            rintro e w' ⟨rfl, n, os, rfl⟩
            exact ⟨rfl, ⟨g1.os, ⟨g1.tape.1, fun h => absurd h (by decide)⟩, g1.output, Nat.le_trans g1.size (Grew.grow w1 n os).size, fun b hb => ((Grew.grow w1 n os).keep b (Nat.lt_of_lt_of_le hb g1.size)).trans (g1.keep b hb)⟩⟩
          by_cases h3 : Lib.itoa v = s.data.toList
          · rw [if_pos ⟨⟨by omega, by omega⟩, h3⟩]
            exact walk_same s v _ w A ⟨by omega, by omega⟩ I (by
              rw [Lib.toList_data, Lib.toList_data]
              simpa using h3)
          · rw [if_neg fun h => h3 h.2]
            exact walk_other s v _ w A ⟨by omega, by omega⟩ I (by
              rw [Lib.toList_data, Lib.toList_data]
              simpa using h3)
    · skip
      obtain ⟨_, _, ⟨tp, p, hv⟩, _⟩ := hG
      have A := Go.Proofs.Any.strconv_Atoi_syntax Go.Proofs.Tryd.t_parse s (by omega) hA (.iface tp p) w (by have h0 := World.var?_cell Go.Proofs.Tryd.t_parse.m15 hv 0; simpa using h0) (Or.inr ⟨tp, p, rfl⟩)
      exact walk_bad s 0 _ w (Calls.mono A (by rintro e w' ⟨N, rfl, _, _, hb⟩; exact ⟨⟨_, rfl⟩, below_grew hb fun h => absurd h (by decide)⟩))
    · skip
      obtain ⟨_, _, _, tp, p, hv⟩ := hG
      have A := Go.Proofs.Any.strconv_Atoi_range Go.Proofs.Tryd.t_parse s (by omega) hA (.iface tp p) w (by have h0 := World.var?_cell Go.Proofs.Tryd.t_parse.m16 hv 0; simpa using h0) (Or.inr ⟨tp, p, rfl⟩)
      exact walk_bad s _ _ w (Calls.mono A (by rintro e w' ⟨N, rfl, _, _, hb⟩; exact ⟨⟨_, rfl⟩, below_grew hb fun h => absurd h (by decide)⟩))
  · cases h'

end Go.Pf.LayT
