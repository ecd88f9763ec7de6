/- Each function comes to what its model says; printed by a program of this repository. -/
import Derived.Test.YtmkeolaifmjgdaaGreatDoorProg
import Derived.Test.YtmkeolaifmjgdaaGreatDoorWDeskCountsModels
import Derived.Test.YtmkeolaifmjgdaaGreatDoorFwP
import Derived.WalkKit
import Derived.Test.YtmkeolaifmjgdaaGreatDoorFwQ
import Derived.Tactics
import Derived.Tactics2
import Derived.Laws.Pointers
import Derived.Test.YtmkeolaifmjgdaaGreatDoorFwZ
namespace Go.Proofs
open Go.Shelf
def Tryz.lays146_ren : Go.Shelf.Ren := ⟨fun | 146 => 7 | 221 => 13 | 268 => 22 | 138 => 23 | 143 => 15 | 195 => 34 | 197 => 35 | 218 => 36 | 219 => 24 | 260 => 57 | 217 => 37 | 225 => 38 | 224 => 39 | 267 => 40 | 266 => 58 | 314 => 59 | n => n, fun | 9 => 9 | 31 => 22 | 3 => 3 | 4 => 4 | 0 => 0 | 105 => 74 | 21 => 21 | 5 => 5 | 46 => 78 | 119 => 127 | 139 => 130 | 138 => 129 | 146 => 95 | 51 => 94 | n => n, fun | 1 => 0 | 3 => 1 | 4 => 2 | n => n⟩
theorem Tryz.lays146 : Go.Proofs.Lays.n146 Tryz.prog Tryz.lays146_ren := {
  mixed := by kernel_rfl
  f138 := Tryz.func23.trans (congrArg some (by kernel_rfl))
  f143 := Tryz.func15.trans (congrArg some (by kernel_rfl))
  f146 := Tryz.func7.trans (congrArg some (by kernel_rfl))
  f195 := Tryz.func34.trans (congrArg some (by kernel_rfl))
  f197 := Tryz.func35.trans (congrArg some (by kernel_rfl))
  f217 := Tryz.func37.trans (congrArg some (by kernel_rfl))
  f218 := Tryz.func36.trans (congrArg some (by kernel_rfl))
  f219 := Tryz.func24.trans (congrArg some (by kernel_rfl))
  f221 := Tryz.func13.trans (congrArg some (by kernel_rfl))
  f224 := Tryz.func39.trans (congrArg some (by kernel_rfl))
  f225 := Tryz.func38.trans (congrArg some (by kernel_rfl))
  f260 := Tryz.func57.trans (congrArg some (by kernel_rfl))
  f266 := Tryz.func58.trans (congrArg some (by kernel_rfl))
  f267 := Tryz.func40.trans (congrArg some (by kernel_rfl))
  f268 := Tryz.func22.trans (congrArg some (by kernel_rfl))
  f314 := Tryz.func59.trans (congrArg some (by kernel_rfl))
  t0 := Tryz.underlying0
  a0 := Tryz.isAgg0
  z0 := Tryz.sizeOf0
  v0 := Tryz.zeroValue0
  t3 := Tryz.underlying3
  a3 := Tryz.isAgg3
  z3 := Tryz.sizeOf3
  v3 := Tryz.zeroValue3
  t4 := Tryz.underlying4
  a4 := Tryz.isAgg4
  z4 := Tryz.sizeOf4
  v4 := Tryz.zeroValue4
  t5 := Tryz.underlying5
  a5 := Tryz.isAgg5
  z5 := Tryz.sizeOf5
  v5 := Tryz.zeroValue5
  t9 := Tryz.underlying9
  a9 := Tryz.isAgg9
  z9 := Tryz.sizeOf9
  v9 := Tryz.zeroValue9
  t21 := Tryz.underlying21
  a21 := Tryz.isAgg21
  z21 := Tryz.sizeOf21
  v21 := Tryz.zeroValue21
  t31 := Tryz.underlying22
  a31 := Tryz.isAgg22
  z31 := Tryz.sizeOf22
  v31 := Tryz.zeroValue22
  t46 := Tryz.underlying78
  a46 := Tryz.isAgg78
  z46 := Tryz.sizeOf78
  v46 := Tryz.zeroValue78
  t51 := Tryz.underlying94
  a51 := Tryz.isAgg94
  z51 := Tryz.sizeOf94
  v51 := Tryz.zeroValue94
  t105 := Tryz.underlying74
  a105 := Tryz.isAgg74
  z105 := Tryz.sizeOf74
  v105 := Tryz.zeroValue74
  t119 := Tryz.underlying127
  a119 := Tryz.isAgg127
  z119 := Tryz.sizeOf127
  t138 := Tryz.underlying129
  a138 := Tryz.isAgg129
  z138 := Tryz.sizeOf129
  v138 := Tryz.zeroValue129
  t139 := Tryz.underlying130
  a139 := Tryz.isAgg130
  z139 := Tryz.sizeOf130
  v139 := Tryz.zeroValue130
  t146 := Tryz.underlying95
  a146 := Tryz.isAgg95
  z146 := Tryz.sizeOf95
  v146 := Tryz.zeroValue95
  g1 := by kernel_rfl
  g3 := by kernel_rfl
  g4 := by kernel_rfl }
def Tryz.lays171_ren : Go.Shelf.Ren := ⟨fun | 171 => 18 | 243 => 25 | 246 => 41 | 283 => 60 | 284 => 61 | 285 => 62 | 286 => 63 | 129 => 82 | 317 => 81 | 318 => 83 | 319 => 84 | 320 => 85 | 337 => 103 | 338 => 104 | n => n, fun | 3 => 3 | 9 => 9 | 2 => 2 | 4 => 4 | 171 => 97 | 0 => 0 | 53 => 98 | 37 => 80 | 5 => 5 | 173 => 101 | 212 => 132 | 51 => 94 | 20 => 20 | 213 => 133 | 46 => 78 | 232 => 160 | 233 => 161 | n => n, fun | 17 => 3 | 18 => 4 | 19 => 5 | n => n⟩
theorem Tryz.lays171 : Go.Proofs.LaysM.n171 Tryz.prog Tryz.lays171_ren := {
  mixed := by kernel_rfl
  f129 := Tryz.func82.trans (congrArg some (by kernel_rfl))
  f171 := Tryz.func18.trans (congrArg some (by kernel_rfl))
  f243 := Tryz.func25.trans (congrArg some (by kernel_rfl))
  f246 := Tryz.func41.trans (congrArg some (by kernel_rfl))
  f283 := Tryz.func60.trans (congrArg some (by kernel_rfl))
  f284 := Tryz.func61.trans (congrArg some (by kernel_rfl))
  f285 := Tryz.func62.trans (congrArg some (by kernel_rfl))
  f286 := Tryz.func63.trans (congrArg some (by kernel_rfl))
  f317 := Tryz.func81.trans (congrArg some (by kernel_rfl))
  f318 := Tryz.func83.trans (congrArg some (by kernel_rfl))
  f319 := Tryz.func84.trans (congrArg some (by kernel_rfl))
  f320 := Tryz.func85.trans (congrArg some (by kernel_rfl))
  f337 := Tryz.func103.trans (congrArg some (by kernel_rfl))
  f338 := Tryz.func104.trans (congrArg some (by kernel_rfl))
  t0 := Tryz.underlying0
  a0 := Tryz.isAgg0
  z0 := Tryz.sizeOf0
  v0 := Tryz.zeroValue0
  t2 := Tryz.underlying2
  a2 := Tryz.isAgg2
  z2 := Tryz.sizeOf2
  v2 := Tryz.zeroValue2
  t3 := Tryz.underlying3
  a3 := Tryz.isAgg3
  z3 := Tryz.sizeOf3
  v3 := Tryz.zeroValue3
  t4 := Tryz.underlying4
  a4 := Tryz.isAgg4
  z4 := Tryz.sizeOf4
  v4 := Tryz.zeroValue4
  t5 := Tryz.underlying5
  a5 := Tryz.isAgg5
  z5 := Tryz.sizeOf5
  v5 := Tryz.zeroValue5
  t9 := Tryz.underlying9
  a9 := Tryz.isAgg9
  z9 := Tryz.sizeOf9
  v9 := Tryz.zeroValue9
  t20 := Tryz.underlying20
  a20 := Tryz.isAgg20
  z20 := Tryz.sizeOf20
  v20 := Tryz.zeroValue20
  t37 := Tryz.underlying80
  a37 := Tryz.isAgg80
  z37 := Tryz.sizeOf80
  v37 := Tryz.zeroValue80
  t46 := Tryz.underlying78
  a46 := Tryz.isAgg78
  z46 := Tryz.sizeOf78
  v46 := Tryz.zeroValue78
  t51 := Tryz.underlying94
  a51 := Tryz.isAgg94
  z51 := Tryz.sizeOf94
  v51 := Tryz.zeroValue94
  t53 := Tryz.underlying98
  a53 := Tryz.isAgg98
  z53 := Tryz.sizeOf98
  v53 := Tryz.zeroValue98
  t171 := Tryz.underlying97
  a171 := Tryz.isAgg97
  z171 := Tryz.sizeOf97
  v171 := Tryz.zeroValue97
  t173 := Tryz.underlying101
  a173 := Tryz.isAgg101
  z173 := Tryz.sizeOf101
  v173 := Tryz.zeroValue101
  t212 := Tryz.underlying132
  a212 := Tryz.isAgg132
  z212 := Tryz.sizeOf132
  v212 := Tryz.zeroValue132
  t213 := Tryz.underlying133
  a213 := Tryz.isAgg133
  z213 := Tryz.sizeOf133
  t232 := Tryz.underlying160
  a232 := Tryz.isAgg160
  z232 := Tryz.sizeOf160
  v232 := Tryz.zeroValue160
  t233 := Tryz.underlying161
  a233 := Tryz.isAgg161
  z233 := Tryz.sizeOf161
  v233 := Tryz.zeroValue161
  g17 := by kernel_rfl
  g18 := by kernel_rfl
  g19 := by kernel_rfl
  i0 := by kernel_rfl
  i2 := by kernel_rfl
  i3 := by kernel_rfl
  i4 := by kernel_rfl
  i5 := by kernel_rfl
  i9 := by kernel_rfl
  i20 := by kernel_rfl
  i37 := by kernel_rfl
  i46 := by kernel_rfl
  i51 := by kernel_rfl
  i53 := by kernel_rfl
  i171 := by kernel_rfl
  i173 := by kernel_rfl
  i212 := by kernel_rfl
  i232 := by kernel_rfl
  i233 := by kernel_rfl
  m17 := by kernel_rfl
  m18 := by kernel_rfl
  m19 := by kernel_rfl }
def Tryz.lays172_ren : Go.Shelf.Ren := ⟨fun | 172 => 76 | 244 => 101 | 245 => 102 | 247 => 108 | 279 => 109 | 280 => 110 | 281 => 111 | 282 => 112 | 287 => 122 | 316 => 123 | 171 => 18 | 205 => 124 | 321 => 130 | 322 => 131 | 243 => 25 | 246 => 41 | 283 => 60 | 284 => 61 | 285 => 62 | 286 => 63 | 129 => 82 | 317 => 81 | 318 => 83 | 319 => 84 | 320 => 85 | 337 => 103 | 338 => 104 | n => n, fun | 9 => 9 | 3 => 3 | 75 => 119 | 76 => 120 | 4 => 4 | 5 => 5 | 167 => 154 | 37 => 80 | 0 => 0 | 85 => 155 | 2 => 2 | 168 => 157 | 53 => 98 | 175 => 170 | 46 => 78 | 210 => 173 | 127 => 182 | 145 => 185 | 143 => 183 | 21 => 21 | 171 => 97 | 173 => 101 | 212 => 132 | 51 => 94 | 20 => 20 | 213 => 133 | 232 => 160 | 233 => 161 | 80 => 188 | n => n, fun | 15 => 6 | 16 => 7 | 17 => 3 | 18 => 4 | 19 => 5 | n => n⟩
theorem Tryz.lays172 : Go.Proofs.Lays.n172 Tryz.prog Tryz.lays172_ren := {
  mixed := by kernel_rfl
  f129 := Tryz.func82.trans (congrArg some (by kernel_rfl))
  f171 := Tryz.func18.trans (congrArg some (by kernel_rfl))
  f172 := Tryz.func76.trans (congrArg some (by kernel_rfl))
  f205 := Tryz.func124.trans (congrArg some (by kernel_rfl))
  f243 := Tryz.func25.trans (congrArg some (by kernel_rfl))
  f244 := Tryz.func101.trans (congrArg some (by kernel_rfl))
  f245 := Tryz.func102.trans (congrArg some (by kernel_rfl))
  f246 := Tryz.func41.trans (congrArg some (by kernel_rfl))
  f247 := Tryz.func108.trans (congrArg some (by kernel_rfl))
  f279 := Tryz.func109.trans (congrArg some (by kernel_rfl))
  f280 := Tryz.func110.trans (congrArg some (by kernel_rfl))
  f281 := Tryz.func111.trans (congrArg some (by kernel_rfl))
  f282 := Tryz.func112.trans (congrArg some (by kernel_rfl))
  f283 := Tryz.func60.trans (congrArg some (by kernel_rfl))
  f284 := Tryz.func61.trans (congrArg some (by kernel_rfl))
  f285 := Tryz.func62.trans (congrArg some (by kernel_rfl))
  f286 := Tryz.func63.trans (congrArg some (by kernel_rfl))
  f287 := Tryz.func122.trans (congrArg some (by kernel_rfl))
  f316 := Tryz.func123.trans (congrArg some (by kernel_rfl))
  f317 := Tryz.func81.trans (congrArg some (by kernel_rfl))
  f318 := Tryz.func83.trans (congrArg some (by kernel_rfl))
  f319 := Tryz.func84.trans (congrArg some (by kernel_rfl))
  f320 := Tryz.func85.trans (congrArg some (by kernel_rfl))
  f321 := Tryz.func130.trans (congrArg some (by kernel_rfl))
  f322 := Tryz.func131.trans (congrArg some (by kernel_rfl))
  f337 := Tryz.func103.trans (congrArg some (by kernel_rfl))
  f338 := Tryz.func104.trans (congrArg some (by kernel_rfl))
  t0 := Tryz.underlying0
  a0 := Tryz.isAgg0
  z0 := Tryz.sizeOf0
  v0 := Tryz.zeroValue0
  t2 := Tryz.underlying2
  a2 := Tryz.isAgg2
  z2 := Tryz.sizeOf2
  v2 := Tryz.zeroValue2
  t3 := Tryz.underlying3
  a3 := Tryz.isAgg3
  z3 := Tryz.sizeOf3
  v3 := Tryz.zeroValue3
  t4 := Tryz.underlying4
  a4 := Tryz.isAgg4
  z4 := Tryz.sizeOf4
  v4 := Tryz.zeroValue4
  t5 := Tryz.underlying5
  a5 := Tryz.isAgg5
  z5 := Tryz.sizeOf5
  v5 := Tryz.zeroValue5
  t9 := Tryz.underlying9
  a9 := Tryz.isAgg9
  z9 := Tryz.sizeOf9
  v9 := Tryz.zeroValue9
  t20 := Tryz.underlying20
  a20 := Tryz.isAgg20
  z20 := Tryz.sizeOf20
  v20 := Tryz.zeroValue20
  t21 := Tryz.underlying21
  a21 := Tryz.isAgg21
  z21 := Tryz.sizeOf21
  v21 := Tryz.zeroValue21
  t37 := Tryz.underlying80
  a37 := Tryz.isAgg80
  z37 := Tryz.sizeOf80
  v37 := Tryz.zeroValue80
  t46 := Tryz.underlying78
  a46 := Tryz.isAgg78
  z46 := Tryz.sizeOf78
  v46 := Tryz.zeroValue78
  t51 := Tryz.underlying94
  a51 := Tryz.isAgg94
  z51 := Tryz.sizeOf94
  v51 := Tryz.zeroValue94
  t53 := Tryz.underlying98
  a53 := Tryz.isAgg98
  z53 := Tryz.sizeOf98
  v53 := Tryz.zeroValue98
  t75 := Tryz.underlying119
  a75 := Tryz.isAgg119
  z75 := Tryz.sizeOf119
  v75 := Tryz.zeroValue119
  t76 := Tryz.underlying120
  a76 := Tryz.isAgg120
  z76 := Tryz.sizeOf120
  v76 := Tryz.zeroValue120
  t85 := Tryz.underlying155
  a85 := Tryz.isAgg155
  z85 := Tryz.sizeOf155
  v85 := Tryz.zeroValue155
  t127 := Tryz.underlying182
  a127 := Tryz.isAgg182
  z127 := Tryz.sizeOf182
  v127 := Tryz.zeroValue182
  t143 := Tryz.underlying183
  a143 := Tryz.isAgg183
  z143 := Tryz.sizeOf183
  v143 := Tryz.zeroValue183
  t145 := Tryz.underlying185
  a145 := Tryz.isAgg185
  z145 := Tryz.sizeOf185
  v145 := Tryz.zeroValue185
  t167 := Tryz.underlying154
  a167 := Tryz.isAgg154
  z167 := Tryz.sizeOf154
  v167 := Tryz.zeroValue154
  t168 := Tryz.underlying157
  a168 := Tryz.isAgg157
  z168 := Tryz.sizeOf157
  v168 := Tryz.zeroValue157
  t171 := Tryz.underlying97
  a171 := Tryz.isAgg97
  z171 := Tryz.sizeOf97
  v171 := Tryz.zeroValue97
  t173 := Tryz.underlying101
  a173 := Tryz.isAgg101
  z173 := Tryz.sizeOf101
  v173 := Tryz.zeroValue101
  t175 := Tryz.underlying170
  a175 := Tryz.isAgg170
  z175 := Tryz.sizeOf170
  v175 := Tryz.zeroValue170
  t210 := Tryz.underlying173
  a210 := Tryz.isAgg173
  z210 := Tryz.sizeOf173
  v210 := Tryz.zeroValue173
  t212 := Tryz.underlying132
  a212 := Tryz.isAgg132
  z212 := Tryz.sizeOf132
  v212 := Tryz.zeroValue132
  t213 := Tryz.underlying133
  a213 := Tryz.isAgg133
  z213 := Tryz.sizeOf133
  t232 := Tryz.underlying160
  a232 := Tryz.isAgg160
  z232 := Tryz.sizeOf160
  v232 := Tryz.zeroValue160
  t233 := Tryz.underlying161
  a233 := Tryz.isAgg161
  z233 := Tryz.sizeOf161
  v233 := Tryz.zeroValue161
  g15 := by kernel_rfl
  g16 := by kernel_rfl
  g17 := by kernel_rfl
  g18 := by kernel_rfl
  g19 := by kernel_rfl }
def Tryz.lays144_ren : Go.Shelf.Ren := ⟨fun | 144 => 10 | 143 => 15 | 219 => 24 | 217 => 37 | 225 => 38 | 224 => 39 | 267 => 40 | 266 => 58 | 314 => 59 | n => n, fun | 9 => 9 | 4 => 4 | 3 => 3 | 5 => 5 | 46 => 78 | 146 => 95 | 51 => 94 | n => n, fun | 1 => 0 | n => n⟩
theorem Tryz.lays144 : Go.Proofs.Lays.n144 Tryz.prog Tryz.lays144_ren := {
  mixed := by kernel_rfl
  f143 := Tryz.func15.trans (congrArg some (by kernel_rfl))
  f144 := Tryz.func10.trans (congrArg some (by kernel_rfl))
  f217 := Tryz.func37.trans (congrArg some (by kernel_rfl))
  f219 := Tryz.func24.trans (congrArg some (by kernel_rfl))
  f224 := Tryz.func39.trans (congrArg some (by kernel_rfl))
  f225 := Tryz.func38.trans (congrArg some (by kernel_rfl))
  f266 := Tryz.func58.trans (congrArg some (by kernel_rfl))
  f267 := Tryz.func40.trans (congrArg some (by kernel_rfl))
  f314 := Tryz.func59.trans (congrArg some (by kernel_rfl))
  t3 := Tryz.underlying3
  a3 := Tryz.isAgg3
  z3 := Tryz.sizeOf3
  v3 := Tryz.zeroValue3
  t4 := Tryz.underlying4
  a4 := Tryz.isAgg4
  z4 := Tryz.sizeOf4
  v4 := Tryz.zeroValue4
  t5 := Tryz.underlying5
  a5 := Tryz.isAgg5
  z5 := Tryz.sizeOf5
  v5 := Tryz.zeroValue5
  t9 := Tryz.underlying9
  a9 := Tryz.isAgg9
  z9 := Tryz.sizeOf9
  v9 := Tryz.zeroValue9
  t46 := Tryz.underlying78
  a46 := Tryz.isAgg78
  z46 := Tryz.sizeOf78
  v46 := Tryz.zeroValue78
  t51 := Tryz.underlying94
  a51 := Tryz.isAgg94
  z51 := Tryz.sizeOf94
  v51 := Tryz.zeroValue94
  t146 := Tryz.underlying95
  a146 := Tryz.isAgg95
  z146 := Tryz.sizeOf95
  v146 := Tryz.zeroValue95
  g1 := by kernel_rfl }
end Go.Proofs
namespace Go.Wk
open Go.Fw Go.Mo Go.Proofs Go.RowKit
set_option linter.all false
set_option maxRecDepth 100000
set_option maxHeartbeats 4000000
abbrev TrD := TR.pair TR.str (TR.pair TR.str (TR.pair TR.int (TR.pair TR.int (TR.pair TR.int TR.int))))
abbrev TrA := TR.pair TR.str (TR.pair TR.int TR.int)
abbrev TrE := TR.pair TR.int (TR.pair TR.int (TR.pair TR.str TrD))
abbrev TrH := TR.pair (TR.sl TrA) (TR.pair (TR.sl TrD) TR.raw)
def ss {α β : Type} {p : α → β → Prop} : ∀ a b, p a b → p a b := fun _ _ h => h
abbrev B8 := List UInt8
abbrev TrL := TR.pair TR.str TR.int
abbrev sv (x : B8) : Value := .string ⟨x.toArray⟩
abbrev q_0 : Array Bool := #[true, true, true, true, true, true, true, true, true, true, true, true, true, true, true, false, false, false]
abbrev q_1 : Array Bool := #[true, true, true, true, true, true, true, true, false, false, false, false, false, false]
abbrev q_2 : Array Bool := #[true, true, true, true, true, true, true, true, true, true, true, true, false, false]
abbrev q_3 : Array Bool := #[true, true, true, true, true, true, true, true, true, true, true, false, false, false]
abbrev q_4 : Array Bool := #[true, true, true, false, true, true, true, true, true, true, true, true, false, false]
abbrev q_5 : Array Bool := #[true, true, true, true, true, true, true, true, true, true, false, false, false, false]
abbrev q_6 : Array Bool := #[true, true, true, true, true, true, true, false, true, true, true, false, false, false]
abbrev q_7 : Array Bool := #[true, true, true, false, true, true, true, true, true, true, true, false, false, false]
abbrev q_8 : Array Bool := #[true, true, false, false, true, true, true, true, true, true, true, true, false, false]
abbrev q_9 : Array Bool := #[true, true, true, true, true, true, true, true, true, false, false, false, false, false]
abbrev q_10 : Array Bool := #[true, false, false, false, true, true, true, true, true, true, true, true, false, false]
abbrev q_11 : Array Bool := #[true, true, true, true, true, true, true, false, true, true, false, false, false, false]
abbrev q_12 : Array Bool := #[true, true, true, false, true, true, true, false, true, true, true, false, false, false]
abbrev q_13 : Array Bool := #[true, true, true, false, true, true, true, true, true, true, false, false, false, false]
abbrev q_14 : Array Bool := #[true, true, false, false, true, true, true, true, true, true, true, false, false, false]
abbrev q_15 : Array Bool := #[true, true, true, true, true, true, false, false, true, true, true, false, false, false]
abbrev q_16 : Array Bool := #[true, true, false, false, true, true, true, true, true, true, false, false, false, false]
abbrev q_17 : Array Bool := #[true, true, true, false, true, true, true, true, true, false, false, false, false, false]
abbrev q_18 : Array Bool := #[true, false, false, false, true, true, true, true, true, true, true, false, false, false]
abbrev q_19 : Array Bool := #[true, true, true, false, true, true, true, false, true, true, false, false, false, false]
abbrev q_20 : Array Bool := #[true, true, false, false, true, true, true, false, true, true, true, false, false, false]
abbrev q_21 : Array Bool := #[true, true, true, true, true, true, true, false, true, false, false, false, false, false]
abbrev q_22 : Array Bool := #[true, true, true, false, true, true, false, false, true, true, true, false, false, false]
abbrev q_23 : Array Bool := #[true, true, true, true, true, true, false, false, true, true, false, false, false, false]
abbrev q_24 : Array Bool := #[true, true, true, true, true, false, false, false, true, true, true, false, false, false]
abbrev q_25 : Array Bool := #[true, true, true, false, true, true, false, false, true, true, false, false, false, false]
abbrev q_26 : Array Bool := #[true, true, true, true, true, true, false, false, true, false, false, false, false, false]
abbrev q_27 : Array Bool := #[true, true, true, true, false, false, false, false, true, true, true, false, false, false]
abbrev q_28 : Array Bool := #[true, true, true, true, true, true, true, false, false, false, false, false, false, false]
abbrev q_29 : Array Bool := #[true, true, true, true, true, false, false, false, true, true, false, false, false, false]
abbrev q_30 : Array Bool := #[true, true, true, false, true, false, false, false, true, true, true, false, false, false]
abbrev q_31 : Array Bool := #[true, false, false, false, true, true, true, false, true, true, true, false, false, false]
abbrev q_32 : Array Bool := #[true, true, true, false, true, true, true, true, false, false, false, false, false, false]
abbrev q_33 : Array Bool := #[true, true, false, false, true, true, true, false, true, true, false, false, false, false]
abbrev q_34 : Array Bool := #[true, true, true, false, true, true, true, false, true, false, false, false, false, false]
abbrev q_35 : Array Bool := #[true, false, false, false, true, true, true, true, true, true, false, false, false, false]
abbrev q_36 : Array Bool := #[true, true, false, false, true, true, false, false, true, true, true, false, false, false]
abbrev q_37 : Array Bool := #[true, true, false, false, true, true, true, true, true, false, false, false, false, false]
abbrev q_38 : Array Bool := #[true, true, false, false, true, true, true, false, true, false, false, false, false, false]
abbrev q_39 : Array Bool := #[true, true, true, false, false, false, false, false, true, true, true, false, false, false]
abbrev q_40 : Array Bool := #[true, false, false, false, true, true, true, false, true, true, false, false, false, false]
abbrev q_41 : Array Bool := #[true, true, true, false, true, true, true, false, false, false, false, false, false, false]
abbrev q_42 : Array Bool := #[true, false, false, false, true, true, true, true, true, false, false, false, false, false]
abbrev q_43 : Array Bool := #[true, true, true, true, false, false, false, false, true, true, false, false, false, false]
abbrev q_44 : Array Bool := #[true, true, false, false, true, true, false, false, true, true, false, false, false, false]
abbrev q_45 : Array Bool := #[true, true, false, false, true, false, false, false, true, true, true, false, false, false]
abbrev q_46 : Array Bool := #[true, true, false, false, true, true, true, true, false, false, false, false, false, false]
abbrev q_47 : Array Bool := #[true, true, true, true, true, false, false, false, true, false, false, false, false, false]
abbrev q_48 : Array Bool := #[true, true, true, false, true, true, false, false, true, false, false, false, false, false]
abbrev q_49 : Array Bool := #[true, true, true, false, true, false, false, false, true, true, false, false, false, false]
abbrev q_50 : Array Bool := #[true, false, false, false, true, true, false, false, true, true, true, false, false, false]
abbrev q_51 : Array Bool := #[true, true, true, true, true, true, false, false, false, false, false, false, false, false]
abbrev q_52 : Array Bool := #[true, true, false, false, true, true, true, false, false, false, false, false, false, false]
abbrev q_53 : Array Bool := #[true, false, false, false, true, true, true, true, false, false, false, false, false, false]
abbrev q_54 : Array Bool := #[true, true, true, true, true, false, false, false, false, false, false, false, false, false]
abbrev q_55 : Array Bool := #[true, true, true, false, true, false, false, false, true, false, false, false, false, false]
abbrev q_56 : Array Bool := #[true, true, false, false, false, false, false, false, true, true, true, false, false, false]
abbrev q_57 : Array Bool := #[true, true, false, false, true, true, false, false, true, false, false, false, false, false]
abbrev q_58 : Array Bool := #[true, false, false, false, true, true, true, false, true, false, false, false, false, false]
abbrev q_59 : Array Bool := #[true, true, true, false, true, true, false, false, false, false, false, false, false, false]
abbrev q_60 : Array Bool := #[true, false, false, false, true, true, false, false, true, true, false, false, false, false]
abbrev q_61 : Array Bool := #[true, false, false, false, true, false, false, false, true, true, true, false, false, false]
abbrev q_62 : Array Bool := #[true, true, true, false, false, false, false, false, true, true, false, false, false, false]
abbrev q_63 : Array Bool := #[true, true, true, true, false, false, false, false, true, false, false, false, false, false]
abbrev q_64 : Array Bool := #[true, true, false, false, true, false, false, false, true, true, false, false, false, false]
abbrev q_65 : Array Bool := #[true, true, true, false, false, false, false, false, true, false, false, false, false, false]
abbrev q_66 : Array Bool := #[true, true, true, false, true, false, false, false, false, false, false, false, false, false]
abbrev q_67 : Array Bool := #[true, true, false, false, false, false, false, false, true, true, false, false, false, false]
abbrev q_68 : Array Bool := #[true, false, false, false, false, false, false, false, true, true, true, false, false, false]
abbrev q_69 : Array Bool := #[true, false, false, false, true, false, false, false, true, true, false, false, false, false]
abbrev q_70 : Array Bool := #[true, true, true, true, false, false, false, false, false, false, false, false, false, false]
abbrev q_71 : Array Bool := #[true, true, false, false, true, true, false, false, false, false, false, false, false, false]
abbrev q_72 : Array Bool := #[true, false, false, false, true, true, false, false, true, false, false, false, false, false]
abbrev q_73 : Array Bool := #[true, true, false, false, true, false, false, false, true, false, false, false, false, false]
abbrev q_74 : Array Bool := #[true, false, false, false, true, true, true, false, false, false, false, false, false, false]
abbrev q_75 : Array Bool := #[true, false, false, false, true, false, false, false, true, false, false, false, false, false]
abbrev q_76 : Array Bool := #[true, false, false, false, true, true, false, false, false, false, false, false, false, false]
abbrev q_77 : Array Bool := #[true, true, true, false, false, false, false, false, false, false, false, false, false, false]
abbrev q_78 : Array Bool := #[true, false, false, false, false, false, false, false, true, true, false, false, false, false]
abbrev q_79 : Array Bool := #[true, true, false, false, true, false, false, false, false, false, false, false, false, false]
abbrev q_80 : Array Bool := #[true, true, false, false, false, false, false, false, true, false, false, false, false, false]
abbrev q_81 : Array Bool := #[true, true, false, false, false, false, false, false, false, false, false, false, false, false]
abbrev q_82 : Array Bool := #[true, false, false, false, true, false, false, false, false, false, false, false, false, false]
abbrev q_83 : Array Bool := #[true, false, false, false, false, false, false, false, true, false, false, false, false, false]
abbrev q_84 : Array Bool := #[true, true, true, true, false, false, false]
abbrev q_85 : Array Bool := #[true, false, true, true, false, false, false]
abbrev q_86 : Array Bool := #[true, true, true, false, false, false, false]
abbrev q_87 : Array Bool := #[true, true, false, false, false, false, false]
abbrev q_88 : Array Bool := #[true, false, true, false, false, false, false]
abbrev q_89 : Array Bool := #[true, true, true, true, true, true, true, true, true, true, true, true, false, false, false, false, false, false, false, false]
abbrev q_90 : Array Bool := #[true, true, true, true, true, true, true, true, true, true, true, true, true, true, true, true, true, true, true, false, false, false, false, false]
abbrev q_91 : Array Bool := #[true, true, true, true, false, false]
abbrev q_92 : Array Bool := #[true, true, true, false, false, false]
abbrev q_93 : Array Bool := #[false, true, true, true, false, false]
abbrev q_94 : Array Bool := #[false, true, true, false, false, false]
abbrev q_95 : Array Bool := #[true, true, false, false, false, false]
abbrev q_96 : Array Bool := #[true, true, true, true, true, true, false, false, false, false, false, false]
abbrev q_97 : Array Bool := #[true, true, true, true, true, true, false, false]
abbrev q_98 : Array Bool := #[true, true, true, true, true, true, true, false, false]
abbrev q_99 : Array Bool := #[true, true, true, true, true, true, false, false, false]
abbrev q_100 : Array Bool := #[true, true, false, true, true, true, true, false, false]
abbrev q_101 : Array Bool := #[true, true, true, true, true, false, false, false, false]
abbrev q_102 : Array Bool := #[true, true, false, true, true, true, false, false, false]
abbrev q_103 : Array Bool := #[true, true, true, true, true, true, true, true, true, true, false, false]
abbrev q_104 : Array Bool := #[true, true, true, true, true, true, true, true, true, false, false, false]
abbrev q_105 : Array Bool := #[true, true, true, true, true, false, false, false, false, true, false, false]
abbrev q_106 : Array Bool := #[true, true, true, true, true, false, false, false, false, false, false, false]
abbrev q_107 : Array Bool := #[true, true, true, true, false, false, false, false, false, true, false, false]
abbrev q_108 : Array Bool := #[true, true, true, false, true, false, false, false, false, true, false, false]
abbrev q_109 : Array Bool := #[true, true, true, false, false, false, false, false, false, true, false, false]
abbrev q_110 : Array Bool := #[true, true, false, false, true, false, false, false, false, true, false, false]
abbrev q_111 : Array Bool := #[true, true, true, true, false, false, false, false, false, false, false, false]
abbrev q_112 : Array Bool := #[true, true, true, false, true, false, false, false, false, false, false, false]
abbrev q_113 : Array Bool := #[true, true, false, false, true, false, false, false, false, false, false, false]
abbrev q_114 : Array Bool := #[true, true, false, false, false, false, false, false, false, true, false, false]
abbrev q_115 : Array Bool := #[true, true, true, false, false, false, false, false, false, false, false, false]
abbrev q_116 : Array Bool := #[true, false, false, false, true, false, false, false, false, true, false, false]
abbrev q_117 : Array Bool := #[true, true, false, false, false, false, false, false, false, false, false, false]
abbrev q_118 : Array Bool := #[true, false, false, false, true, false, false, false, false, false, false, false]
abbrev q_119 : Array Bool := #[true, false, false, false, false, false, false, false, false, true, false, false]
abbrev q_120 : Array Bool := #[true, true, true, true, true, false, false, false, false, false, false]
abbrev q_121 : Array Bool := #[true, true, true, true, true, false, false]
theorem loopNx {ρ σ β γ : Type} {body : σ → Option (Fl ρ β σ)} {n : Nat} {s : σ} {y : Fl ρ γ β} (h : stepM body n (.nx s) = some y) : loopM body n s = some y := h
theorem Tryz_info3 : (Tryz.prog.info? 3).map (fun i => (i.zero, i.size, i.bytes)) = some (some (.int .i64 0), 1, 8) := by kernel_rfl
theorem Tryz_ln3 : Ln Tryz.prog 3 1 false := Ln.of Tryz_info3 Tryz.underlying3 rfl
theorem Tryz_lo3 : LnO Tryz.prog 3 1 [.int .i64 0] := LnO.of Tryz_info3 rfl rfl (by decide) (by decide)
theorem Tryz_info5 : (Tryz.prog.info? 5).map (fun i => (i.zero, i.size, i.bytes)) = some (some (.int .u8 0), 1, 1) := by kernel_rfl
theorem Tryz_ln5 : Ln Tryz.prog 5 1 false := Ln.of Tryz_info5 Tryz.underlying5 rfl
theorem Tryz_lo5 : LnO Tryz.prog 5 1 [.int .u8 0] := LnO.of Tryz_info5 rfl rfl (by decide) (by decide)
theorem Tryz_info9 : (Tryz.prog.info? 9).map (fun i => (i.zero, i.size, i.bytes)) = some (some (.string ⟨#[]⟩), 1, 16) := by kernel_rfl
theorem Tryz_ln9 : Ln Tryz.prog 9 1 false := Ln.of Tryz_info9 Tryz.underlying9 rfl
theorem Tryz_lo9 : LnO Tryz.prog 9 1 [.string ⟨#[]⟩] := LnO.of Tryz_info9 rfl rfl (by decide) (by decide)
theorem Tryz_info32 : (Tryz.prog.info? 32).map (fun i => (i.zero, i.size, i.bytes)) = some (some (.pointer none), 1, 8) := by kernel_rfl
theorem Tryz_ln32 : Ln Tryz.prog 32 1 false := Ln.of Tryz_info32 Tryz.underlying32 rfl
theorem Tryz_lo32 : LnO Tryz.prog 32 1 [.pointer none] := LnO.of Tryz_info32 rfl rfl (by decide) (by decide)
theorem Tryz_info40 : (Tryz.prog.info? 40).map (fun i => (i.zero, i.size, i.bytes)) = some (some (.pointer none), 1, 8) := by kernel_rfl
theorem Tryz_ln40 : Ln Tryz.prog 40 1 false := Ln.of Tryz_info40 Tryz.underlying40 rfl
theorem Tryz_lo40 : LnO Tryz.prog 40 1 [.pointer none] := LnO.of Tryz_info40 rfl rfl (by decide) (by decide)
theorem Tryz_info42 : (Tryz.prog.info? 42).map (fun i => (i.zero, i.size, i.bytes)) = some (some (.slice none 0 0), 1, 24) := by kernel_rfl
theorem Tryz_ln42 : Ln Tryz.prog 42 1 false := Ln.of Tryz_info42 Tryz.underlying42 rfl
theorem Tryz_lo42 : LnO Tryz.prog 42 1 [.slice none 0 0] := LnO.of Tryz_info42 rfl rfl (by decide) (by decide)
theorem Tryz_info43 : (Tryz.prog.info? 43).map (fun i => (i.zero, i.size, i.bytes)) = some (some (.slice none 0 0), 1, 24) := by kernel_rfl
theorem Tryz_ln43 : Ln Tryz.prog 43 1 false := Ln.of Tryz_info43 Tryz.underlying43 rfl
theorem Tryz_lo43 : LnO Tryz.prog 43 1 [.slice none 0 0] := LnO.of Tryz_info43 rfl rfl (by decide) (by decide)
theorem Tryz_info57 : (Tryz.prog.info? 57).map (fun i => (i.zero, i.size, i.bytes)) = some (some (.agg #[.string ⟨#[]⟩, .string ⟨#[]⟩, .int .i64 0, .int .i64 0, .int .i64 0, .int .i64 0]), 6, 64) := by kernel_rfl
theorem Tryz_ln57 : Ln Tryz.prog 57 6 true := Ln.of Tryz_info57 Tryz.underlying57 rfl
theorem Tryz_lo57 : LnO Tryz.prog 57 6 [.string ⟨#[]⟩, .string ⟨#[]⟩, .int .i64 0, .int .i64 0, .int .i64 0, .int .i64 0] := LnO.of Tryz_info57 rfl rfl (by decide) (by decide)
theorem Tryz_info59 : (Tryz.prog.info? 59).map (fun i => (i.zero, i.size, i.bytes)) = some (some (.agg #[.int .i64 0, .int .i64 0, .string ⟨#[]⟩, .string ⟨#[]⟩, .string ⟨#[]⟩, .int .i64 0, .int .i64 0, .int .i64 0, .int .i64 0]), 9, 96) := by kernel_rfl
theorem Tryz_ln59 : Ln Tryz.prog 59 9 true := Ln.of Tryz_info59 Tryz.underlying59 rfl
theorem Tryz_lo59 : LnO Tryz.prog 59 9 [.int .i64 0, .int .i64 0, .string ⟨#[]⟩, .string ⟨#[]⟩, .string ⟨#[]⟩, .int .i64 0, .int .i64 0, .int .i64 0, .int .i64 0] := LnO.of Tryz_info59 rfl rfl (by decide) (by decide)
theorem Tryz_info64 : (Tryz.prog.info? 64).map (fun i => (i.zero, i.size, i.bytes)) = some (some (.agg #[.int .i64 0, .int .i64 0]), 2, 16) := by kernel_rfl
theorem Tryz_ln64 : Ln Tryz.prog 64 2 true := Ln.of Tryz_info64 Tryz.underlying64 rfl
theorem Tryz_lo64 : LnO Tryz.prog 64 2 [.int .i64 0, .int .i64 0] := LnO.of Tryz_info64 rfl rfl (by decide) (by decide)
theorem Tryz_info86 : (Tryz.prog.info? 86).map (fun i => (i.zero, i.size, i.bytes)) = some (some (.agg #[.string ⟨#[]⟩, .int .i64 0, .int .i64 0]), 3, 32) := by kernel_rfl
theorem Tryz_ln86 : Ln Tryz.prog 86 3 true := Ln.of Tryz_info86 Tryz.underlying86 rfl
theorem Tryz_lo86 : LnO Tryz.prog 86 3 [.string ⟨#[]⟩, .int .i64 0, .int .i64 0] := LnO.of Tryz_info86 rfl rfl (by decide) (by decide)
theorem Tryz_info122 : (Tryz.prog.info? 122).map (fun i => (i.zero, i.size, i.bytes)) = some (some (.agg #[.int .i64 0, .int .i64 0, .int .i64 0, .int .i64 0]), 4, 32) := by kernel_rfl
theorem Tryz_ln122 : Ln Tryz.prog 122 4 true := Ln.of Tryz_info122 Tryz.underlying122 rfl
theorem Tryz_lo122 : LnO Tryz.prog 122 4 [.int .i64 0, .int .i64 0, .int .i64 0, .int .i64 0] := LnO.of Tryz_info122 rfl rfl (by decide) (by decide)
theorem Tryz_bld35 (pv : List (Nat × Value)) : Tryz.prog.built 35 pv = Instr.fill ((mkPlaces 0 [[.pointer none]]).toArray[·]?) (List.flatten [[.pointer none]]).toArray pv := by kernel_rfl
theorem Tryz_bld45 (pv : List (Nat × Value)) : Tryz.prog.built 45 pv = Instr.fill ((mkPlaces 0 [[.slice none 0 0], [.slice none 0 0], [.pointer none]]).toArray[·]?) (List.flatten [[.slice none 0 0], [.slice none 0 0], [.pointer none]]).toArray pv := by kernel_rfl
theorem Tryz_bld55 (pv : List (Nat × Value)) : Tryz.prog.built 55 pv = Instr.fill ((mkPlaces 0 [[.string ⟨#[]⟩], [.int .i64 0]]).toArray[·]?) (List.flatten [[.string ⟨#[]⟩], [.int .i64 0]]).toArray pv := by kernel_rfl
theorem Tryz_bld57 (pv : List (Nat × Value)) : Tryz.prog.built 57 pv = Instr.fill ((mkPlaces 0 [[.string ⟨#[]⟩], [.string ⟨#[]⟩], [.int .i64 0], [.int .i64 0], [.int .i64 0], [.int .i64 0]]).toArray[·]?) (List.flatten [[.string ⟨#[]⟩], [.string ⟨#[]⟩], [.int .i64 0], [.int .i64 0], [.int .i64 0], [.int .i64 0]]).toArray pv := by kernel_rfl
theorem Tryz_bld59 (pv : List (Nat × Value)) : Tryz.prog.built 59 pv = Instr.fill ((mkPlaces 0 [[.int .i64 0], [.int .i64 0], [.string ⟨#[]⟩], [.string ⟨#[]⟩, .string ⟨#[]⟩, .int .i64 0, .int .i64 0, .int .i64 0, .int .i64 0]]).toArray[·]?) (List.flatten [[.int .i64 0], [.int .i64 0], [.string ⟨#[]⟩], [.string ⟨#[]⟩, .string ⟨#[]⟩, .int .i64 0, .int .i64 0, .int .i64 0, .int .i64 0]]).toArray pv := by kernel_rfl
theorem Tryz_bld64 (pv : List (Nat × Value)) : Tryz.prog.built 64 pv = Instr.fill ((mkPlaces 0 [[.int .i64 0], [.int .i64 0]]).toArray[·]?) (List.flatten [[.int .i64 0], [.int .i64 0]]).toArray pv := by kernel_rfl
theorem Tryz_bld86 (pv : List (Nat × Value)) : Tryz.prog.built 86 pv = Instr.fill ((mkPlaces 0 [[.string ⟨#[]⟩], [.int .i64 0], [.int .i64 0]]).toArray[·]?) (List.flatten [[.string ⟨#[]⟩], [.int .i64 0], [.int .i64 0]]).toArray pv := by kernel_rfl
theorem Tryz_fit10 : Fit Tryz.prog 10 := Fit.of Tryz.func10 (by kernel_rfl) rfl
theorem Tryz_fit100 : Fit Tryz.prog 100 := Fit.of Tryz.func100 (by kernel_rfl) rfl
theorem Tryz_fit105 : Fit Tryz.prog 105 := Fit.of Tryz.func105 (by kernel_rfl) rfl
theorem Tryz_fit106 : Fit Tryz.prog 106 := Fit.of Tryz.func106 (by kernel_rfl) rfl
theorem Tryz_fit107 : Fit Tryz.prog 107 := Fit.of Tryz.func107 (by kernel_rfl) rfl
theorem Tryz_fit11 : Fit Tryz.prog 11 := Fit.of Tryz.func11 (by kernel_rfl) rfl
theorem Tryz_fit113 : Fit Tryz.prog 113 := Fit.of Tryz.func113 (by kernel_rfl) rfl
theorem Tryz_fit12 : Fit Tryz.prog 12 := Fit.of Tryz.func12 (by kernel_rfl) rfl
theorem Tryz_fit14 : Fit Tryz.prog 14 := Fit.of Tryz.func14 (by kernel_rfl) rfl
theorem Tryz_fit16 : Fit Tryz.prog 16 := Fit.of Tryz.func16 (by kernel_rfl) rfl
theorem Tryz_fit17 : Fit Tryz.prog 17 := Fit.of Tryz.func17 (by kernel_rfl) rfl
theorem Tryz_fit18 : Fit Tryz.prog 18 := Fit.of Tryz.func18 (by kernel_rfl) rfl
theorem Tryz_fit19 : Fit Tryz.prog 19 := Fit.of Tryz.func19 (by kernel_rfl) rfl
theorem Tryz_fit20 : Fit Tryz.prog 20 := Fit.of Tryz.func20 (by kernel_rfl) rfl
theorem Tryz_fit21 : Fit Tryz.prog 21 := Fit.of Tryz.func21 (by kernel_rfl) rfl
theorem Tryz_fit26 : Fit Tryz.prog 26 := Fit.of Tryz.func26 (by kernel_rfl) rfl
theorem Tryz_fit27 : Fit Tryz.prog 27 := Fit.of Tryz.func27 (by kernel_rfl) rfl
theorem Tryz_fit28 : Fit Tryz.prog 28 := Fit.of Tryz.func28 (by kernel_rfl) rfl
theorem Tryz_fit29 : Fit Tryz.prog 29 := Fit.of Tryz.func29 (by kernel_rfl) rfl
theorem Tryz_fit30 : Fit Tryz.prog 30 := Fit.of Tryz.func30 (by kernel_rfl) rfl
theorem Tryz_fit31 : Fit Tryz.prog 31 := Fit.of Tryz.func31 (by kernel_rfl) rfl
theorem Tryz_fit32 : Fit Tryz.prog 32 := Fit.of Tryz.func32 (by kernel_rfl) rfl
theorem Tryz_fit33 : Fit Tryz.prog 33 := Fit.of Tryz.func33 (by kernel_rfl) rfl
theorem Tryz_fit42 : Fit Tryz.prog 42 := Fit.of Tryz.func42 (by kernel_rfl) rfl
theorem Tryz_fit43 : Fit Tryz.prog 43 := Fit.of Tryz.func43 (by kernel_rfl) rfl
theorem Tryz_fit44 : Fit Tryz.prog 44 := Fit.of Tryz.func44 (by kernel_rfl) rfl
theorem Tryz_fit45 : Fit Tryz.prog 45 := Fit.of Tryz.func45 (by kernel_rfl) rfl
theorem Tryz_fit46 : Fit Tryz.prog 46 := Fit.of Tryz.func46 (by kernel_rfl) rfl
theorem Tryz_fit47 : Fit Tryz.prog 47 := Fit.of Tryz.func47 (by kernel_rfl) rfl
theorem Tryz_fit48 : Fit Tryz.prog 48 := Fit.of Tryz.func48 (by kernel_rfl) rfl
theorem Tryz_fit49 : Fit Tryz.prog 49 := Fit.of Tryz.func49 (by kernel_rfl) rfl
theorem Tryz_fit5 : Fit Tryz.prog 5 := Fit.of Tryz.func5 (by kernel_rfl) rfl
theorem Tryz_fit50 : Fit Tryz.prog 50 := Fit.of Tryz.func50 (by kernel_rfl) rfl
theorem Tryz_fit51 : Fit Tryz.prog 51 := Fit.of Tryz.func51 (by kernel_rfl) rfl
theorem Tryz_fit52 : Fit Tryz.prog 52 := Fit.of Tryz.func52 (by kernel_rfl) rfl
theorem Tryz_fit53 : Fit Tryz.prog 53 := Fit.of Tryz.func53 (by kernel_rfl) rfl
theorem Tryz_fit54 : Fit Tryz.prog 54 := Fit.of Tryz.func54 (by kernel_rfl) rfl
theorem Tryz_fit55 : Fit Tryz.prog 55 := Fit.of Tryz.func55 (by kernel_rfl) rfl
theorem Tryz_fit56 : Fit Tryz.prog 56 := Fit.of Tryz.func56 (by kernel_rfl) rfl
theorem Tryz_fit6 : Fit Tryz.prog 6 := Fit.of Tryz.func6 (by kernel_rfl) rfl
theorem Tryz_fit64 : Fit Tryz.prog 64 := Fit.of Tryz.func64 (by kernel_rfl) rfl
theorem Tryz_fit65 : Fit Tryz.prog 65 := Fit.of Tryz.func65 (by kernel_rfl) rfl
theorem Tryz_fit66 : Fit Tryz.prog 66 := Fit.of Tryz.func66 (by kernel_rfl) rfl
theorem Tryz_fit67 : Fit Tryz.prog 67 := Fit.of Tryz.func67 (by kernel_rfl) rfl
theorem Tryz_fit68 : Fit Tryz.prog 68 := Fit.of Tryz.func68 (by kernel_rfl) rfl
theorem Tryz_fit69 : Fit Tryz.prog 69 := Fit.of Tryz.func69 (by kernel_rfl) rfl
theorem Tryz_fit7 : Fit Tryz.prog 7 := Fit.of Tryz.func7 (by kernel_rfl) rfl
theorem Tryz_fit70 : Fit Tryz.prog 70 := Fit.of Tryz.func70 (by kernel_rfl) rfl
theorem Tryz_fit71 : Fit Tryz.prog 71 := Fit.of Tryz.func71 (by kernel_rfl) rfl
theorem Tryz_fit72 : Fit Tryz.prog 72 := Fit.of Tryz.func72 (by kernel_rfl) rfl
theorem Tryz_fit73 : Fit Tryz.prog 73 := Fit.of Tryz.func73 (by kernel_rfl) rfl
theorem Tryz_fit74 : Fit Tryz.prog 74 := Fit.of Tryz.func74 (by kernel_rfl) rfl
theorem Tryz_fit75 : Fit Tryz.prog 75 := Fit.of Tryz.func75 (by kernel_rfl) rfl
theorem Tryz_fit76 : Fit Tryz.prog 76 := Fit.of Tryz.func76 (by kernel_rfl) rfl
theorem Tryz_fit77 : Fit Tryz.prog 77 := Fit.of Tryz.func77 (by kernel_rfl) rfl
theorem Tryz_fit78 : Fit Tryz.prog 78 := Fit.of Tryz.func78 (by kernel_rfl) rfl
theorem Tryz_fit79 : Fit Tryz.prog 79 := Fit.of Tryz.func79 (by kernel_rfl) rfl
theorem Tryz_fit8 : Fit Tryz.prog 8 := Fit.of Tryz.func8 (by kernel_rfl) rfl
theorem Tryz_fit80 : Fit Tryz.prog 80 := Fit.of Tryz.func80 (by kernel_rfl) rfl
theorem Tryz_fit82 : Fit Tryz.prog 82 := Fit.of Tryz.func82 (by kernel_rfl) rfl
theorem Tryz_fit86 : Fit Tryz.prog 86 := Fit.of Tryz.func86 (by kernel_rfl) rfl
theorem Tryz_fit87 : Fit Tryz.prog 87 := Fit.of Tryz.func87 (by kernel_rfl) rfl
theorem Tryz_fit88 : Fit Tryz.prog 88 := Fit.of Tryz.func88 (by kernel_rfl) rfl
theorem Tryz_fit89 : Fit Tryz.prog 89 := Fit.of Tryz.func89 (by kernel_rfl) rfl
theorem Tryz_fit9 : Fit Tryz.prog 9 := Fit.of Tryz.func9 (by kernel_rfl) rfl
theorem Tryz_fit90 : Fit Tryz.prog 90 := Fit.of Tryz.func90 (by kernel_rfl) rfl
theorem Tryz_fit91 : Fit Tryz.prog 91 := Fit.of Tryz.func91 (by kernel_rfl) rfl
theorem Tryz_fit92 : Fit Tryz.prog 92 := Fit.of Tryz.func92 (by kernel_rfl) rfl
theorem Tryz_fit93 : Fit Tryz.prog 93 := Fit.of Tryz.func93 (by kernel_rfl) rfl
theorem Tryz_fit94 : Fit Tryz.prog 94 := Fit.of Tryz.func94 (by kernel_rfl) rfl
theorem Tryz_fit95 : Fit Tryz.prog 95 := Fit.of Tryz.func95 (by kernel_rfl) rfl
theorem Tryz_fit96 : Fit Tryz.prog 96 := Fit.of Tryz.func96 (by kernel_rfl) rfl
theorem Tryz_fit97 : Fit Tryz.prog 97 := Fit.of Tryz.func97 (by kernel_rfl) rfl
theorem Tryz_fit98 : Fit Tryz.prog 98 := Fit.of Tryz.func98 (by kernel_rfl) rfl
theorem Tryz_fit99 : Fit Tryz.prog 99 := Fit.of Tryz.func99 (by kernel_rfl) rfl
theorem Tryz_fld35_0 (ad : Addr) (w : World) : (Instr.fieldAt 35 (.pointer (some ad)) 0).run Tryz.prog w = .ok (.pointer (some (ad.add 0))) w := by
  simp [Instr.fieldAt, run_underlying Tryz.underlying35, Instr.sureAddr, fieldPlace, Fw.run_sizeOf Tryz_ln32]
theorem Tryz_fld45_0 (ad : Addr) (w : World) : (Instr.fieldAt 45 (.pointer (some ad)) 0).run Tryz.prog w = .ok (.pointer (some (ad.add 0))) w := by
  simp [Instr.fieldAt, run_underlying Tryz.underlying45, Instr.sureAddr, fieldPlace, Fw.run_sizeOf Tryz_ln42]
theorem Tryz_fld45_1 (ad : Addr) (w : World) : (Instr.fieldAt 45 (.pointer (some ad)) 1).run Tryz.prog w = .ok (.pointer (some (ad.add 1))) w := by
  simp [Instr.fieldAt, run_underlying Tryz.underlying45, Instr.sureAddr, fieldPlace, Fw.run_sizeOf Tryz_ln43]
theorem Tryz_fld45_2 (ad : Addr) (w : World) : (Instr.fieldAt 45 (.pointer (some ad)) 2).run Tryz.prog w = .ok (.pointer (some (ad.add 2))) w := by
  simp [Instr.fieldAt, run_underlying Tryz.underlying45, Instr.sureAddr, fieldPlace, Fw.run_sizeOf Tryz_ln40]
theorem Tryz_fld55_0 (ad : Addr) (w : World) : (Instr.fieldAt 55 (.pointer (some ad)) 0).run Tryz.prog w = .ok (.pointer (some (ad.add 0))) w := by
  simp [Instr.fieldAt, run_underlying Tryz.underlying55, Instr.sureAddr, fieldPlace, Fw.run_sizeOf Tryz_ln9]
theorem Tryz_fld55_1 (ad : Addr) (w : World) : (Instr.fieldAt 55 (.pointer (some ad)) 1).run Tryz.prog w = .ok (.pointer (some (ad.add 1))) w := by
  simp [Instr.fieldAt, run_underlying Tryz.underlying55, Instr.sureAddr, fieldPlace, Fw.run_sizeOf Tryz_ln3]
theorem Tryz_fld57_0 (ad : Addr) (w : World) : (Instr.fieldAt 57 (.pointer (some ad)) 0).run Tryz.prog w = .ok (.pointer (some (ad.add 0))) w := by
  simp [Instr.fieldAt, run_underlying Tryz.underlying57, Instr.sureAddr, fieldPlace, Fw.run_sizeOf Tryz_ln9]
theorem Tryz_fld57_1 (ad : Addr) (w : World) : (Instr.fieldAt 57 (.pointer (some ad)) 1).run Tryz.prog w = .ok (.pointer (some (ad.add 1))) w := by
  simp [Instr.fieldAt, run_underlying Tryz.underlying57, Instr.sureAddr, fieldPlace, Fw.run_sizeOf Tryz_ln9]
theorem Tryz_fld57_2 (ad : Addr) (w : World) : (Instr.fieldAt 57 (.pointer (some ad)) 2).run Tryz.prog w = .ok (.pointer (some (ad.add 2))) w := by
  simp [Instr.fieldAt, run_underlying Tryz.underlying57, Instr.sureAddr, fieldPlace, Fw.run_sizeOf Tryz_ln3]
theorem Tryz_fld57_3 (ad : Addr) (w : World) : (Instr.fieldAt 57 (.pointer (some ad)) 3).run Tryz.prog w = .ok (.pointer (some (ad.add 3))) w := by
  simp [Instr.fieldAt, run_underlying Tryz.underlying57, Instr.sureAddr, fieldPlace, Fw.run_sizeOf Tryz_ln3]
theorem Tryz_fld57_4 (ad : Addr) (w : World) : (Instr.fieldAt 57 (.pointer (some ad)) 4).run Tryz.prog w = .ok (.pointer (some (ad.add 4))) w := by
  simp [Instr.fieldAt, run_underlying Tryz.underlying57, Instr.sureAddr, fieldPlace, Fw.run_sizeOf Tryz_ln3]
theorem Tryz_fld57_5 (ad : Addr) (w : World) : (Instr.fieldAt 57 (.pointer (some ad)) 5).run Tryz.prog w = .ok (.pointer (some (ad.add 5))) w := by
  simp [Instr.fieldAt, run_underlying Tryz.underlying57, Instr.sureAddr, fieldPlace, Fw.run_sizeOf Tryz_ln3]
theorem Tryz_fld59_0 (ad : Addr) (w : World) : (Instr.fieldAt 59 (.pointer (some ad)) 0).run Tryz.prog w = .ok (.pointer (some (ad.add 0))) w := by
  simp [Instr.fieldAt, run_underlying Tryz.underlying59, Instr.sureAddr, fieldPlace, Fw.run_sizeOf Tryz_ln3]
theorem Tryz_fld59_1 (ad : Addr) (w : World) : (Instr.fieldAt 59 (.pointer (some ad)) 1).run Tryz.prog w = .ok (.pointer (some (ad.add 1))) w := by
  simp [Instr.fieldAt, run_underlying Tryz.underlying59, Instr.sureAddr, fieldPlace, Fw.run_sizeOf Tryz_ln3]
theorem Tryz_fld59_2 (ad : Addr) (w : World) : (Instr.fieldAt 59 (.pointer (some ad)) 2).run Tryz.prog w = .ok (.pointer (some (ad.add 2))) w := by
  simp [Instr.fieldAt, run_underlying Tryz.underlying59, Instr.sureAddr, fieldPlace, Fw.run_sizeOf Tryz_ln9]
theorem Tryz_fld59_3 (ad : Addr) (w : World) : (Instr.fieldAt 59 (.pointer (some ad)) 3).run Tryz.prog w = .ok (.pointer (some (ad.add 3))) w := by
  simp [Instr.fieldAt, run_underlying Tryz.underlying59, Instr.sureAddr, fieldPlace, Fw.run_sizeOf Tryz_ln57]
theorem Tryz_fld64_0 (ad : Addr) (w : World) : (Instr.fieldAt 64 (.pointer (some ad)) 0).run Tryz.prog w = .ok (.pointer (some (ad.add 0))) w := by
  simp [Instr.fieldAt, run_underlying Tryz.underlying64, Instr.sureAddr, fieldPlace, Fw.run_sizeOf Tryz_ln3]
theorem Tryz_fld64_1 (ad : Addr) (w : World) : (Instr.fieldAt 64 (.pointer (some ad)) 1).run Tryz.prog w = .ok (.pointer (some (ad.add 1))) w := by
  simp [Instr.fieldAt, run_underlying Tryz.underlying64, Instr.sureAddr, fieldPlace, Fw.run_sizeOf Tryz_ln3]
theorem Tryz_fld86_0 (ad : Addr) (w : World) : (Instr.fieldAt 86 (.pointer (some ad)) 0).run Tryz.prog w = .ok (.pointer (some (ad.add 0))) w := by
  simp [Instr.fieldAt, run_underlying Tryz.underlying86, Instr.sureAddr, fieldPlace, Fw.run_sizeOf Tryz_ln9]
theorem Tryz_fld86_1 (ad : Addr) (w : World) : (Instr.fieldAt 86 (.pointer (some ad)) 1).run Tryz.prog w = .ok (.pointer (some (ad.add 1))) w := by
  simp [Instr.fieldAt, run_underlying Tryz.underlying86, Instr.sureAddr, fieldPlace, Fw.run_sizeOf Tryz_ln3]
theorem Tryz_fld86_2 (ad : Addr) (w : World) : (Instr.fieldAt 86 (.pointer (some ad)) 2).run Tryz.prog w = .ok (.pointer (some (ad.add 2))) w := by
  simp [Instr.fieldAt, run_underlying Tryz.underlying86, Instr.sureAddr, fieldPlace, Fw.run_sizeOf Tryz_ln3]

theorem strings_Split_c (S : Hp) (w : World) (hS : S.sub w) (hT : Tab Tryz.prog (Tryz.lays146_ren.g 1) S) (x0 : B8) (x1 : B8) (res : List B8) (hm : strings_Split_m x0 x1 = some res) : Calls Tryz.prog 7 #[(sv x0), (sv x1)] w (Post w S (fun (o : Value) => o) (fun (o : Value) => [own 9 TR.str o res])) := by
  unfold strings_Split_m at hm
  obtain ⟨_, hc, hm⟩ := bind_some hm
  obtain ⟨h0, h1⟩ := chk_some hc
  cases hm
  obtain ⟨m, hmx⟩ := hT.max
  have hs0 : (⟨x0.toArray⟩ : ByteArray).size = x0.length := by simp [ByteArray.size]
  have hs1 : (⟨x1.toArray⟩ : ByteArray).size = x1.length := by simp [ByteArray.size]
  have hall := Go.Lib.splitB_all ⟨x1.toArray⟩ (by rw [hs1]; exact h1) 0 _ ⟨x0.toArray⟩ rfl
  have hle := Go.Lib.countB_le ⟨x1.toArray⟩ (by rw [hs1]; exact h1) _ ⟨x0.toArray⟩ (Nat.le_refl _)
  have hl : (splitL x0 x1).length = Go.Lib.countB ⟨x0.toArray⟩ ⟨x1.toArray⟩ + 1 := by unfold splitL; rw [List.length_map]; exact hall
  refine (Any.strings_Split Tryz.lays146 Tryz_info9 ⟨x0.toArray⟩ ⟨x1.toArray⟩ m w (by rw [hs0]; exact h0) (hmx w hS) (by rw [hs1]; exact h1)).mono ?_
  rintro e w' ⟨rfl, rfl⟩
  have e1 : (Go.Lib.splitB ⟨x1.toArray⟩ 0 (Go.Lib.countB ⟨x0.toArray⟩ ⟨x1.toArray⟩) ⟨x0.toArray⟩).map Value.string = (splitL x0 x1).map fun x => Value.string ⟨x.toArray⟩ := by
    unfold splitL; rw [List.map_map]; apply List.map_congr_left; intro b _; simp
  rw [← hl, e1]
  exact post_alloc hS (by simp [TR.str]) (reps_str _) (by rw [hl]; rw [hs0] at hle; unfold maxLen; omega)

theorem log_New_c (S : Hp) (w : World) (hS : S.sub w)  (res : (B8 × Int)) (hm : log_New_m = some res) : Calls Tryz.prog 16 #[] w (Post w S (fun (o : Value) => o) (fun (o : Value) => [obox 55 TrL o res])) := by
 refine calls_enter 3 Tryz.func16 Tryz.ntmps16 rfl S false [] [] rfl trivial hS trivial ?_
 unfold log_New_m at hm
 refine GL.seq ?_
 refine GL.region ?_
 refine RL.asg rfl rfl rfl ?_
 refine RL.finG ?_
 refine GL.seq ?_
 refine GL.region ?_
 refine RL.bld (t := TrL) (d0 := ((([] : B8), (0 : Int)) : (B8 × Int))) (pv := []) rfl Tryz_bld55 rfl rfl rfl trivial (fun S f hi => by
   show TR.rep TrL S (List.flatten [[.string ⟨#[]⟩], [.int .i64 0]]) _
   simp only [ List.flatten_cons, List.flatten_nil, List.append_nil]
   exact ⟨_, _, rfl, rfl, rfl⟩) ?_
 intro v3
 refine RL.box (t := TrL) (e := ((([] : B8), (0 : Int)) : (B8 × Int))) rfl rfl rfl rfl (VR.item 0 rfl) ?_
 intro v4
 refine RL.reL (L' := [imm TrL v3 ((([] : B8), (0 : Int)) : (B8 × Int)), obox 55 TrL v4 ((([] : B8), (0 : Int)) : (B8 × Int))]) rfl ?_
 refine RL.asg rfl rfl rfl ?_
 refine RL.finG ?_
 have hm := Option.some.inj hm
 subst hm
 exact GL.ret (Gx.ret (v := v4) (res1 rfl rfl) (fun a w st => (st.pick [1] (by decide) rfl).toPost v4))

theorem house_New_c (S : Hp) (w : World) (hS : S.sub w)  (res : TyH) (hm : house_New_m = some res) : Calls Tryz.prog 11 #[] w (Post w S (fun (o : Value × Value) => o.1) (fun (o : Value × Value) => [obox 45 TrH o.1 (res.1, (res.2.1, o.2)), obox 55 TrL o.2 res.2.2])) := by
 refine calls_enter 4 Tryz.func11 Tryz.ntmps11 rfl S false [] [] rfl trivial hS trivial ?_
 unfold house_New_m at hm
 refine GL.seq ?_
 refine GL.region ?_
 refine RL.asg rfl rfl rfl ?_
 refine RL.finG ?_
 refine GL.seq ?_
 refine GL.region ?_
 obtain ⟨y6, e7, hm⟩ := bind_some hm
 refine RL.call (vs := []) Tryz_fit16 rfl rfl rfl rfl rfl (fun S f w hS hW hi => log_New_c S w hS  _ e7) ?_
 intro v8
 refine RL.bld (t := TrH) (d0 := ((([] : (List TyA)), ([] : (List TyD)), v8) : (List TyA) × (List TyD) × Value)) (pv := [(2, v8)]) rfl Tryz_bld45 rfl rfl rfl ⟨⟨_, _, TR.raw, v8, rfl, rfl, (VR.rawPt 0 rfl PtOf.obox)⟩, trivial⟩ (fun S f hi => by
   obtain ⟨c2, e2, r2⟩ := cells_vrep (t := TR.raw) (u := v8) (e := v8) ((VR.rawPt 0 rfl PtOf.obox) S f hi)
   show TR.rep TrH S (List.flatten [[.slice none 0 0], [.slice none 0 0], (v8 : Value).cells.toList]) _
   simp only [e2,  List.flatten_cons, List.flatten_nil, List.append_nil]
   exact ⟨_, _, rfl, ⟨_, [], rfl, ⟨none, 0, rfl, Nat.le_refl _, Nat.zero_le _, Or.inl ⟨rfl, rfl⟩⟩, rfl⟩, ⟨_, _, rfl, ⟨_, [], rfl, ⟨none, 0, rfl, Nat.le_refl _, Nat.zero_le _, Or.inl ⟨rfl, rfl⟩⟩, rfl⟩, r2⟩⟩) ?_
 intro v9
 refine RL.reL (L' := [obox 55 TrL v8 y6, imm TrH v9 (((([] : (List TyA)), ([] : (List TyD)), y6) : TyH).1, (((([] : (List TyA)), ([] : (List TyD)), y6) : TyH).2.1, v8))]) rfl ?_
 refine RL.box (t := TrH) (e := (((([] : (List TyA)), ([] : (List TyD)), y6) : TyH).1, (((([] : (List TyA)), ([] : (List TyD)), y6) : TyH).2.1, v8))) rfl rfl rfl rfl (VR.item 1 rfl) ?_
 intro v10
 refine RL.reL (L' := [obox 55 TrL v8 y6, imm TrH v9 (((([] : (List TyA)), ([] : (List TyD)), y6) : TyH).1, (((([] : (List TyA)), ([] : (List TyD)), y6) : TyH).2.1, v8)), obox 45 TrH v10 (((([] : (List TyA)), ([] : (List TyD)), y6) : TyH).1, (((([] : (List TyA)), ([] : (List TyD)), y6) : TyH).2.1, v8))]) rfl ?_
 refine RL.asg rfl rfl rfl ?_
 refine RL.finG ?_
 have hm := Option.some.inj hm
 subst hm
 exact GL.ret (Gx.ret (v := v10) (res1 rfl rfl) (fun a w st => (st.pick [2, 0] (by decide) rfl).toPost (v10, v8)))

theorem desk_must_c (S : Hp) (w : World) (hS : S.sub w) (x0 : Int) (res : Except Int Unit) (hm : desk_must_m x0 = some res) : Calls Tryz.prog 19 #[.int .i64 x0] w (thrP (PostE 48 w) (fun _ => PostC w (.tuple #[])) res) := by
  unfold desk_must_m at hm
  cases hm
  by_cases h : x0 = 0
  · subst h
    go_enter Tryz.func19, Tryz.ntmps19
    go_wp2
    exact ⟨rfl, .tuple #[], by rw [results_none rfl], rfl, rfl⟩
  · rw [if_pos (by simpa using h)]
    go_enter Tryz.func19, Tryz.ntmps19
    go_wp2
    show Oper.upon _ _ _ _ _ (Result.andThen (Result.halt (.panic (Value.iface 48 (Value.agg #[Value.int IntKind.i64 x0]))) w) _)
    exact ⟨rfl, ⟨rfl, Below.refl _ _⟩⟩

theorem desk_number_c (S : Hp) (w : World) (hS : S.sub w) (x0 : B8) (res : Except Int Int) (hm : desk_number_m x0 = some res) : Calls Tryz.prog 26 #[(sv x0)] w (thrP (PostE 48 w) (fun (r : Int) => PostV w (.int .i64 r)) res) := by
 refine calls_enter 37 Tryz.func26 Tryz.ntmps26 rfl S false [(0, (sv x0))] [] rfl ⟨rfl, trivial⟩ hS trivial ?_
 unfold desk_number_m at hm
 refine GL.seq ?_
 refine GL.region ?_
 refine RL.asg rfl rfl rfl ?_
 refine RL.finG ?_
 refine GL.seq ?_
 refine GL.seq ?_
 obtain ⟨y5, K6, h7, h8, h9, h10, h11⟩ := bindR_K hm
 refine GL.join (ι := Bool) (fun (p : Bool) => [(0, (sv x0)), (13, .bool p)]) (fun (p : Bool) => []) (fun (p : Bool) => K6 (.nx p)) ?_ ?_
 ·skip
  refine GL.region ?_
  refine RL.mv rfl rfl rfl ?_
  refine RL.lenT Tryz.underlying9 rfl rfl rfl ?_
  refine RL.binI (v := .bool (decide (((x0).length : Int) < (1 : Int)))) rfl rfl rfl rfl rfl ?_
  refine RL.mv rfl rfl rfl ?_
  refine RL.split (t := 9) rfl (fun b12 => ?_) (fun b12 => ?_)
  ·replace h7 := ite_t b12 h7
   refine RL.skip rfl rfl ?_
   refine RL.skip rfl rfl ?_
   refine RL.skip rfl rfl ?_
   refine RL.pickT rfl rfl rfl rfl ?_
   refine RL.fin ?_
   cases h7
   exact fun a w st => mid_intro true h8 (St.cut [] ⟨rfl, rfl, trivial⟩ (by decide) rfl st)
  replace h7 := ite_f b12 h7
  refine RL.mv rfl rfl rfl ?_
  refine RL.lenT Tryz.underlying9 rfl rfl rfl ?_
  refine RL.binI (v := .bool (decide (((x0).length : Int) > (6 : Int)))) rfl rfl rfl rfl rfl ?_
  refine RL.pickF rfl rfl rfl rfl ?_
  refine RL.fin ?_
  cases h7
  exact fun a w st => mid_intro (decide (((x0).length : Int) > (6 : Int))) h8 (St.cut [] ⟨rfl, rfl, trivial⟩ (by decide) rfl st)
 rintro x4 h13
 have h14 := h9 _ h13
 try dsimp only at h14
 refine GL.weak (env' := [(0, (sv x0)), (13, .bool x4)]) (L' := []) ss ?_
 obtain ⟨y24, K25, h26, h27, h28, h29, h30⟩ := bindR_K h14
 refine GL.join (ι := Unit) (fun (p : Unit) => [(0, (sv x0))]) (fun (p : Unit) => []) (fun (p : Unit) => K25 (.nx ())) ?_ ?_
 ·skip
  refine GL.cond rfl (fun b31 => ?_) (fun b31 => ?_)
  ·replace h26 := ite_t b31 h26
   refine GL.region ?_
   obtain ⟨y36, e37, h26⟩ := bind_some h26
   rcases y36 with x38 | z39
   ·replace h26 := thr_e h26
    refine RL.callE (T := 48) (n := x38) (vs := [.int .i64 (12 : Int)]) Tryz_fit19 rfl rfl rfl rfl (fun U w hU hW hL => desk_must_c U w hU (12 : Int) _ e37) ?_
    cases h26
    have hh := h29 _ h27
    subst hh
    first | exact fun a w st => And.intro st.defers (thrP_err st.toPostE) | exact fun a w st _ _ => And.intro st.defers (thrP_err st.toPostE)
   replace h26 := thr_o h26
   refine RL.callC (v := .tuple #[]) (vs := [.int .i64 (12 : Int)]) Tryz_fit19 rfl rfl rfl rfl (fun U w hU hW hL => desk_must_c U w hU (12 : Int) _ e37) ?_
   refine RL.finG ?_
   cases h26
   exact fun a w st => mid_intro () h27 (St.cut [] ⟨rfl, trivial⟩ (by decide) rfl st)
  replace h26 := ite_f b31 h26
  refine GL.skip ?_
  cases h26
  exact fun a w st => mid_intro () h27 (St.cut [] ⟨rfl, trivial⟩ (by decide) rfl st)
 rintro ⟨⟩ h40
 have h41 := h28 _ h40
 try dsimp only at h41
 refine GL.weak (env' := [(0, (sv x0))]) (L' := []) ss ?_
 refine GL.seq ?_
 refine GL.region ?_
 refine RL.asg rfl rfl rfl ?_
 refine RL.finG ?_
 refine GL.seq ?_
 refine GL.seq ?_
 refine GL.region ?_
 refine RL.mv rfl rfl rfl ?_
 obtain ⟨y45, e46, h41⟩ := bind_some h41
 replace e46 := chk_some e46
 refine RL.cvSB Tryz.underlying9 Tryz.underlying80 Tryz.underlying5 rfl rfl rfl rfl e46 ?_
 intro v47
 refine RL.lenS 0 Tryz.underlying80 rfl rfl rfl rfl SlOf.imm ?_
 refine RL.mv rfl rfl rfl ?_
 refine RL.finG ?_
 refine GL.open_ 0 rfl (fun S h => len_imm S h) (fun n93 => ?_)
 obtain ⟨y94, K95, h96, h97, h98, h99, h100⟩ := bindR_K h41
 refine GL.join (ι := Int) (fun (p : Int) => [(3, .int .i64 p)]) (fun (p : Int) => []) (fun (p : Int) => K95 (.nx p)) ?_ ?_
 ·refine GL.block ?_
  refine GL.loop (ι := Nat × (List Int) × Int) (fun (p : Nat × (List Int) × Int) => [(3, .int .i64 p.2.2), (16, v47), (17, .int .i64 (((intsOf x0)).length : Int)), (18, .int .i64 (p.1 : Int))]) (fun (p : Nat × (List Int) × Int) => [imm (TR.sl (TR.ik .u8)) v47 (intsOf x0)]) (fun (p : Nat × (List Int) × Int) => p.1 + p.2.1.length = ((intsOf x0)).length ∧ List.drop p.1 (intsOf x0) = p.2.1 ∧ rangeL desk_number_b1 p.2.1 p.1 p.2.2 = some y94) (fun (p : Nat × (List Int) × Int) => p.2.1.length) (0, (intsOf x0), (0 : Int)) ⟨by simp, by simp, h96⟩ (fun a w st => St.cut [0] ⟨rfl, rfl, rfl, rfl, trivial⟩ (by decide) rfl st) ?_
  rintro ⟨i101, r102, x48⟩ ⟨h107, h108, h106⟩
  try dsimp only at h107 h108 h106
  refine GL.weak (env' := [(3, .int .i64 x48), (16, v47), (17, .int .i64 (((intsOf x0)).length : Int)), (18, .int .i64 (i101 : Int))]) (L' := [imm (TR.sl (TR.ik .u8)) v47 (intsOf x0)]) ss ?_
  refine GL.seq ?_
  refine GL.region ?_
  refine RL.binI (v := .bool (decide ((i101 : Int) < (((intsOf x0)).length : Int)))) rfl rfl rfl rfl rfl ?_
  refine RL.finG ?_
  refine GL.seq ?_
  refine GL.cond rfl (fun b109 => ?_) (fun b109 => ?_)
  ·have h110 : i101 < ((intsOf x0)).length := by have := of_decide_eq_true b109; omega
   obtain ⟨y111, r113, hr, e112, h114⟩ := drop_cons h108 rfl h110
   subst hr
   obtain ⟨z103, h104, h105⟩ := rangeL_some h106
   unfold desk_number_b1 at h104
   try dsimp only at h104
   refine GL.skip ?_
   refine GL.seq ?_
   refine GL.block ?_
   refine GL.seq ?_
   refine GL.region ?_
   refine RL.idxS (sz := 1) 0 Tryz.underlying80 Tryz_ln5 rfl rfl rfl rfl rfl SlOf.imm (by omega) (by omega) ?_
   refine RL.ldSx (i := i101) (e' := y111) 0 Ex.ik Tryz_ln5 rfl rfl rfl rfl SlOf.imm e112 Part.self ?_
   refine RL.asg rfl rfl rfl ?_
   refine RL.finG ?_
   refine GL.seq ?_
   refine GL.seq ?_
   obtain ⟨y118, K119, h120, h121, h122, h123, h124⟩ := bindF_K h104
   refine GL.join (ι := Bool) (fun (p : Bool) => [(3, .int .i64 x48), (5, .int .u8 y111), (16, v47), (17, .int .i64 (((intsOf x0)).length : Int)), (18, .int .i64 (i101 : Int)), (27, .bool p)]) (fun (p : Bool) => [imm (TR.sl (TR.ik .u8)) v47 (intsOf x0)]) (fun (p : Bool) => K119 (.nx p)) ?_ ?_
   ·skip
    refine GL.region ?_
    refine RL.mv rfl rfl rfl ?_
    refine RL.binI (v := .bool (decide (y111 < (48 : Int)))) rfl rfl rfl rfl rfl ?_
    refine RL.mv rfl rfl rfl ?_
    refine RL.split (t := 24) rfl (fun b125 => ?_) (fun b125 => ?_)
    ·replace h120 := ite_t b125 h120
     refine RL.skip rfl rfl ?_
     refine RL.skip rfl rfl ?_
     refine RL.pickT rfl rfl rfl rfl ?_
     refine RL.fin ?_
     cases h120
     exact fun a w st => mid_intro true h121 (St.cut [0] ⟨rfl, rfl, rfl, rfl, rfl, rfl, trivial⟩ (by decide) rfl st)
    replace h120 := ite_f b125 h120
    refine RL.mv rfl rfl rfl ?_
    refine RL.binI (v := .bool (decide (y111 > (57 : Int)))) rfl rfl rfl rfl rfl ?_
    refine RL.pickF rfl rfl rfl rfl ?_
    refine RL.fin ?_
    cases h120
    exact fun a w st => mid_intro (decide (y111 > (57 : Int))) h121 (St.cut [0] ⟨rfl, rfl, rfl, rfl, rfl, rfl, trivial⟩ (by decide) rfl st)
   rintro x117 h126
   have h127 := h122 _ h126
   try dsimp only at h127
   refine GL.weak (env' := [(3, .int .i64 x48), (5, .int .u8 y111), (16, v47), (17, .int .i64 (((intsOf x0)).length : Int)), (18, .int .i64 (i101 : Int)), (27, .bool x117)]) (L' := [imm (TR.sl (TR.ik .u8)) v47 (intsOf x0)]) ss ?_
   obtain ⟨y137, K138, h139, h140, h141, h142, h143⟩ := bindF_K h127
   refine GL.join (ι := Unit) (fun (p : Unit) => [(3, .int .i64 x48), (5, .int .u8 y111), (16, v47), (17, .int .i64 (((intsOf x0)).length : Int)), (18, .int .i64 (i101 : Int))]) (fun (p : Unit) => [imm (TR.sl (TR.ik .u8)) v47 (intsOf x0)]) (fun (p : Unit) => K138 (.nx ())) ?_ ?_
   ·skip
    refine GL.cond rfl (fun b144 => ?_) (fun b144 => ?_)
    ·replace h139 := ite_t b144 h139
     refine GL.region ?_
     obtain ⟨y149, e150, h139⟩ := bind_some h139
     rcases y149 with x151 | z152
     ·replace h139 := thr_e h139
      refine RL.callE (T := 48) (n := x151) (vs := [.int .i64 (12 : Int)]) Tryz_fit19 rfl rfl rfl rfl (fun U w hU hW hL => desk_must_c U w hU (12 : Int) _ e150) ?_
      cases h139
      have hh := h142 _ h140
      subst hh
      replace h105 : some (Fl.rt _) = some y94 := h105
      cases h105
      have hh := h99 _ h97
      subst hh
      first | exact fun a w st => And.intro st.defers (thrP_err st.toPostE) | exact fun a w st _ _ => And.intro st.defers (thrP_err st.toPostE)
     replace h139 := thr_o h139
     refine RL.callC (v := .tuple #[]) (vs := [.int .i64 (12 : Int)]) Tryz_fit19 rfl rfl rfl rfl (fun U w hU hW hL => desk_must_c U w hU (12 : Int) _ e150) ?_
     refine RL.finG ?_
     cases h139
     exact fun a w st => mid_intro () h140 (St.cut [0] ⟨rfl, rfl, rfl, rfl, rfl, trivial⟩ (by decide) rfl st)
    replace h139 := ite_f b144 h139
    refine GL.skip ?_
    cases h139
    exact fun a w st => mid_intro () h140 (St.cut [0] ⟨rfl, rfl, rfl, rfl, rfl, trivial⟩ (by decide) rfl st)
   rintro ⟨⟩ h153
   have h154 := h141 _ h153
   try dsimp only at h154
   refine GL.weak (env' := [(3, .int .i64 x48), (5, .int .u8 y111), (16, v47), (17, .int .i64 (((intsOf x0)).length : Int)), (18, .int .i64 (i101 : Int))]) (L' := [imm (TR.sl (TR.ik .u8)) v47 (intsOf x0)]) ss ?_
   refine GL.region ?_
   refine RL.mv rfl rfl rfl ?_
   refine RL.binI (v := .int .i64 (wmul (10 : Int) x48)) rfl rfl rfl rfl rfl ?_
   refine RL.mv rfl rfl rfl ?_
   refine RL.binI (v := .int .u8 (IntKind.wrap .u8 (y111 - (48 : Int)))) rfl rfl rfl rfl rfl ?_
   refine RL.cvI Tryz.underlying5 Tryz.underlying3 rfl rfl rfl ?_
   refine RL.binI (v := .int .i64 (wadd (wmul (10 : Int) x48) (IntKind.wrap .i64 (IntKind.wrap .u8 (y111 - (48 : Int)))))) rfl rfl rfl rfl rfl ?_
   refine RL.asg rfl rfl rfl ?_
   refine RL.finG ?_
   refine GL.nilB ?_
   refine GL.region ?_
   refine RL.binI (v := .int .i64 ((i101 + 1 : Nat) : Int)) rfl rfl rfl rfl (binI_succ i101 (by omega)) ?_
   refine RL.mv rfl rfl rfl ?_
   refine RL.fin ?_
   cases h154
   exact fun a w st => lop_intro (i101 + 1, r113, wadd (wmul (10 : Int) x48) (IntKind.wrap .i64 (IntKind.wrap .u8 (y111 - (48 : Int))))) ⟨by show i101 + 1 + r113.length = ((intsOf x0)).length; simp only [List.length_cons] at h107; omega, h114, h105⟩ (by simp) (St.cut [0] ⟨rfl, rfl, rfl, rfl, trivial⟩ (by decide) rfl st)
  have h110 : ¬ i101 < ((intsOf x0)).length := by have := of_decide_eq_false b109; omega
  obtain rfl : r102 = [] := by rw [← h108]; exact List.drop_of_length_le (by omega)
  replace h106 : some (Fl.nx _) = some y94 := h106
  cases h106
  exact GL.exit (fun a w st => mid_intro x48 h97 (St.cut [] ⟨rfl, trivial⟩ (by decide) rfl st))
 rintro x48 h155
 have h156 := h98 _ h155
 try dsimp only at h156
 refine GL.weak (env' := [(3, .int .i64 x48)]) (L' := []) ss ?_
 refine GL.seq ?_
 refine GL.region ?_
 refine RL.mv rfl rfl rfl ?_
 refine RL.asg rfl rfl rfl ?_
 refine RL.finG ?_
 have h156 := Option.some.inj h156
 subst h156
 exact GL.ret (Gx.ret (v := .int .i64 x48) (res1 rfl rfl) (fun a w st => thrP_ok (st.toPostV)))

theorem desk_numbers_c (S : Hp) (w : World) (hS : S.sub w) (v0 : Value) (x0 : (List B8)) (k0 : ((TR.sl TR.str)).vrep S v0 x0) (res : Except Int (List Int)) (hm : desk_numbers_m x0 = some res) : Calls Tryz.prog 27 #[v0] w (thrP (PostE 48 w) (fun (r : (List Int)) => Post w S (fun (o : Value) => o) (fun (o : Value) => [own 3 TR.int o r])) res) := by
 refine calls_enter 19 Tryz.func27 Tryz.ntmps27 rfl S false [(0, v0)] [imm (TR.sl TR.str) v0 x0] rfl ⟨rfl, trivial⟩ hS ⟨k0, trivial⟩ ?_
 unfold desk_numbers_m at hm
 refine GL.seq ?_
 refine GL.region ?_
 refine RL.asg rfl rfl rfl ?_
 refine RL.finG ?_
 refine GL.seq ?_
 refine GL.region ?_
 refine RL.asg rfl rfl rfl ?_
 refine RL.finG ?_
 refine GL.seq ?_
 refine GL.seq ?_
 refine GL.region ?_
 refine RL.mv rfl rfl rfl ?_
 refine RL.lenS 0 Tryz.underlying22 rfl rfl rfl rfl SlOf.imm ?_
 refine RL.mv rfl rfl rfl ?_
 refine RL.finG ?_
 refine GL.weak (fun a w st => st.nilOwn 3 TR.int) ?_
 refine GL.open_ 0 rfl (fun S h => len_imm S h) (fun n24 => ?_)
 obtain ⟨y25, K26, h27, h28, h29, h30, h31⟩ := bindR_K hm
 refine GL.join (ι := (List Int) × Value) (fun (p : (List Int) × Value) => [(3, p.2)]) (fun (p : (List Int) × Value) => [own 3 TR.int p.2 p.1]) (fun (p : (List Int) × Value) => K26 (.nx p.1)) ?_ ?_
 ·refine GL.block ?_
  refine GL.loop (ι := Nat × (List B8) × (List Int) × Value) (fun (p : Nat × (List B8) × (List Int) × Value) => [(3, p.2.2.2), (6, v0), (7, .int .i64 ((x0).length : Int)), (8, .int .i64 (p.1 : Int))]) (fun (p : Nat × (List B8) × (List Int) × Value) => [own 3 TR.int p.2.2.2 p.2.2.1, imm (TR.sl TR.str) v0 x0]) (fun (p : Nat × (List B8) × (List Int) × Value) => p.1 + p.2.1.length = (x0).length ∧ List.drop p.1 x0 = p.2.1 ∧ rangeL desk_numbers_b1 p.2.1 p.1 p.2.2.1 = some y25) (fun (p : Nat × (List B8) × (List Int) × Value) => p.2.1.length) (0, x0, [], Value.slice none 0 0) ⟨by simp, by simp, h27⟩ (fun a w st => St.cut [1, 0] ⟨rfl, rfl, rfl, rfl, trivial⟩ (by decide) rfl st) ?_
  rintro ⟨i33, r34, l2, v3⟩ ⟨h39, h40, h38⟩
  try dsimp only at h39 h40 h38
  refine GL.weak (env' := [(3, v3), (6, v0), (7, .int .i64 ((x0).length : Int)), (8, .int .i64 (i33 : Int))]) (L' := [own 3 TR.int v3 l2, imm (TR.sl TR.str) v0 x0]) ss ?_
  refine GL.seq ?_
  refine GL.region ?_
  refine RL.binI (v := .bool (decide ((i33 : Int) < ((x0).length : Int)))) rfl rfl rfl rfl rfl ?_
  refine RL.finG ?_
  refine GL.seq ?_
  refine GL.cond rfl (fun b41 => ?_) (fun b41 => ?_)
  ·have h42 : i33 < (x0).length := by have := of_decide_eq_true b41; omega
   obtain ⟨y43, r45, hr, e44, h46⟩ := drop_cons h40 rfl h42
   subst hr
   obtain ⟨z35, h36, h37⟩ := rangeL_some h38
   unfold desk_numbers_b1 at h36
   try dsimp only at h36
   refine GL.skip ?_
   refine GL.seq ?_
   refine GL.block ?_
   refine GL.seq ?_
   refine GL.region ?_
   refine RL.idxS (sz := 1) 1 Tryz.underlying22 Tryz_ln9 rfl rfl rfl rfl rfl SlOf.imm (by omega) (by omega) ?_
   refine RL.ldSx (i := i33) (e' := y43) 1 Ex.str Tryz_ln9 rfl rfl rfl rfl SlOf.imm e44 Part.self ?_
   refine RL.asg rfl rfl rfl ?_
   refine RL.finG ?_
   refine GL.region ?_
   refine RL.mv rfl rfl rfl ?_
   refine RL.mv rfl rfl rfl ?_
   obtain ⟨y55, e56, h36⟩ := bind_some h36
   rcases y55 with x57 | z58
   ·replace h36 := thr_e h36
    refine RL.callE (T := 48) (n := x57) (vs := [(sv y43)]) Tryz_fit26 rfl rfl rfl rfl (fun U w hU hW hL => desk_number_c U w hU y43 _ e56) ?_
    cases h36
    replace h37 : some (Fl.rt _) = some y25 := h37
    cases h37
    have hh := h30 _ h28
    subst hh
    first | exact fun a w st => And.intro st.defers (thrP_err st.toPostE) | exact fun a w st _ _ => And.intro st.defers (thrP_err st.toPostE)
   replace h36 := thr_o h36
   refine RL.callV (v := .int .i64 z58) (vs := [(sv y43)]) Tryz_fit26 rfl (Or.inl rfl) rfl rfl rfl rfl (fun U w hU hW hL => desk_number_c U w hU y43 _ e56) ?_
   refine RL.bS (t := TR.int) (vs := [.int .i64 z58]) ([z58] : (List Int)) Tryz.underlying61 Tryz_lo3 rfl rfl rfl rfl ⟨VR.int, trivial⟩ rfl (by decide) ?_
   intro v59
   obtain ⟨y60, e61, h36⟩ := bind_some h36
   replace e61 := chk_some e61
   refine RL.app 0 2 Tryz.underlying61 Tryz_lo3 rfl rfl rfl rfl rfl rfl rfl SlOf.own e61 ?_
   intro v62
   refine RL.reL (L' := [own 3 TR.int v62 (l2 ++ ([z58] : (List Int))), imm (TR.sl TR.str) v0 x0, own 3 TR.int v59 ([z58] : (List Int))]) rfl ?_
   refine RL.asg rfl rfl rfl ?_
   refine RL.finG ?_
   refine GL.nilB ?_
   refine GL.region ?_
   refine RL.binI (v := .int .i64 ((i33 + 1 : Nat) : Int)) rfl rfl rfl rfl (binI_succ i33 (by omega)) ?_
   refine RL.mv rfl rfl rfl ?_
   refine RL.fin ?_
   cases h36
   exact fun a w st => lop_intro (i33 + 1, r45, (l2 ++ ([z58] : (List Int))), v62) ⟨by show i33 + 1 + r45.length = (x0).length; simp only [List.length_cons] at h39; omega, h46, h37⟩ (by simp) (St.cut [0, 1] ⟨rfl, rfl, rfl, rfl, trivial⟩ (by decide) rfl st)
  have h42 : ¬ i33 < (x0).length := by have := of_decide_eq_false b41; omega
  obtain rfl : r34 = [] := by rw [← h40]; exact List.drop_of_length_le (by omega)
  replace h38 : some (Fl.nx _) = some y25 := h38
  cases h38
  exact GL.exit (fun a w st => mid_intro (l2, v3) h28 (St.cut [0] ⟨rfl, trivial⟩ (by decide) rfl st))
 rintro ⟨l2, v3⟩ h63
 have h64 := h29 _ h63
 try dsimp only at h64
 refine GL.weak (env' := [(3, v3)]) (L' := [own 3 TR.int v3 l2]) ss ?_
 refine GL.seq ?_
 refine GL.region ?_
 refine RL.mv rfl rfl rfl ?_
 refine RL.asg rfl rfl rfl ?_
 refine RL.finG ?_
 have h64 := Option.some.inj h64
 subst h64
 exact GL.ret (Gx.ret (v := v3) (res1 rfl rfl) (fun a w st => thrP_ok ((st.pick [0] (by decide) rfl).toPost v3)))

theorem ledger_named_c (S : Hp) (w : World) (hS : S.sub w) (x0 : B8) (res : Bool) (hm : ledger_named_m x0 = some res) : Calls Tryz.prog 87 #[(sv x0)] w (PostV w (.bool res)) := by
 refine calls_enter 27 Tryz.func87 Tryz.ntmps87 rfl S false [(0, (sv x0))] [] rfl ⟨rfl, trivial⟩ hS trivial ?_
 unfold ledger_named_m at hm
 refine GL.seq ?_
 refine GL.region ?_
 refine RL.asg rfl rfl rfl ?_
 refine RL.finG ?_
 refine GL.seq ?_
 refine GL.seq ?_
 refine GL.region ?_
 refine RL.mv rfl rfl rfl ?_
 obtain ⟨y5, e6, hm⟩ := bind_some hm
 replace e6 := chk_some e6
 refine RL.cvSB Tryz.underlying9 Tryz.underlying80 Tryz.underlying5 rfl rfl rfl rfl e6 ?_
 intro v7
 refine RL.lenS 0 Tryz.underlying80 rfl rfl rfl rfl SlOf.imm ?_
 refine RL.mv rfl rfl rfl ?_
 refine RL.finG ?_
 refine GL.open_ 0 rfl (fun S h => len_imm S h) (fun n26 => ?_)
 obtain ⟨y27, K28, h29, h30, h31, h32, h33⟩ := bindR_K hm
 refine GL.join (ι := Unit) (fun (p : Unit) => [(0, (sv x0))]) (fun (p : Unit) => []) (fun (p : Unit) => K28 (.nx ())) ?_ ?_
 ·refine GL.block ?_
  refine GL.loop (ι := Nat × (List Int)) (fun (p : Nat × (List Int)) => [(0, (sv x0)), (6, v7), (7, .int .i64 (((intsOf x0)).length : Int)), (8, .int .i64 (p.1 : Int))]) (fun (p : Nat × (List Int)) => [imm (TR.sl (TR.ik .u8)) v7 (intsOf x0)]) (fun (p : Nat × (List Int)) => p.1 + p.2.length = ((intsOf x0)).length ∧ List.drop p.1 (intsOf x0) = p.2 ∧ rangeL ledger_named_b1 p.2 p.1 () = some y27) (fun (p : Nat × (List Int)) => p.2.length) (0, (intsOf x0)) ⟨by simp, by simp, h29⟩ (fun a w st => St.cut [0] ⟨rfl, rfl, rfl, rfl, trivial⟩ (by decide) rfl st) ?_
  rintro ⟨i34, r35⟩ ⟨h40, h41, h39⟩
  try dsimp only at h40 h41 h39
  refine GL.weak (env' := [(0, (sv x0)), (6, v7), (7, .int .i64 (((intsOf x0)).length : Int)), (8, .int .i64 (i34 : Int))]) (L' := [imm (TR.sl (TR.ik .u8)) v7 (intsOf x0)]) ss ?_
  refine GL.seq ?_
  refine GL.region ?_
  refine RL.binI (v := .bool (decide ((i34 : Int) < (((intsOf x0)).length : Int)))) rfl rfl rfl rfl rfl ?_
  refine RL.finG ?_
  refine GL.seq ?_
  refine GL.cond rfl (fun b42 => ?_) (fun b42 => ?_)
  ·have h43 : i34 < ((intsOf x0)).length := by have := of_decide_eq_true b42; omega
   obtain ⟨y44, r46, hr, e45, h47⟩ := drop_cons h41 rfl h43
   subst hr
   obtain ⟨z36, h37, h38⟩ := rangeL_some h39
   unfold ledger_named_b1 at h37
   try dsimp only at h37
   refine GL.skip ?_
   refine GL.seq ?_
   refine GL.block ?_
   refine GL.seq ?_
   refine GL.region ?_
   refine RL.idxS (sz := 1) 0 Tryz.underlying80 Tryz_ln5 rfl rfl rfl rfl rfl SlOf.imm (by omega) (by omega) ?_
   refine RL.ldSx (i := i34) (e' := y44) 0 Ex.ik Tryz_ln5 rfl rfl rfl rfl SlOf.imm e45 Part.self ?_
   refine RL.asg rfl rfl rfl ?_
   refine RL.finG ?_
   refine GL.seq ?_
   obtain ⟨y51, K52, h53, h54, h55, h56, h57⟩ := bindF_K h37
   refine GL.join (ι := Bool) (fun (p : Bool) => [(0, (sv x0)), (6, v7), (7, .int .i64 (((intsOf x0)).length : Int)), (8, .int .i64 (i34 : Int)), (17, .bool p)]) (fun (p : Bool) => [imm (TR.sl (TR.ik .u8)) v7 (intsOf x0)]) (fun (p : Bool) => K52 (.nx p)) ?_ ?_
   ·skip
    refine GL.region ?_
    refine RL.mv rfl rfl rfl ?_
    refine RL.binI (v := .bool (decide (y44 < (97 : Int)))) rfl rfl rfl rfl rfl ?_
    refine RL.mv rfl rfl rfl ?_
    refine RL.split (t := 14) rfl (fun b58 => ?_) (fun b58 => ?_)
    ·replace h53 := ite_t b58 h53
     refine RL.skip rfl rfl ?_
     refine RL.skip rfl rfl ?_
     refine RL.pickT rfl rfl rfl rfl ?_
     refine RL.fin ?_
     cases h53
     exact fun a w st => mid_intro true h54 (St.cut [0] ⟨rfl, rfl, rfl, rfl, rfl, trivial⟩ (by decide) rfl st)
    replace h53 := ite_f b58 h53
    refine RL.mv rfl rfl rfl ?_
    refine RL.binI (v := .bool (decide (y44 > (122 : Int)))) rfl rfl rfl rfl rfl ?_
    refine RL.pickF rfl rfl rfl rfl ?_
    refine RL.fin ?_
    cases h53
    exact fun a w st => mid_intro (decide (y44 > (122 : Int))) h54 (St.cut [0] ⟨rfl, rfl, rfl, rfl, rfl, trivial⟩ (by decide) rfl st)
   rintro x50 h59
   have h60 := h55 _ h59
   try dsimp only at h60
   refine GL.weak (env' := [(0, (sv x0)), (6, v7), (7, .int .i64 (((intsOf x0)).length : Int)), (8, .int .i64 (i34 : Int)), (17, .bool x50)]) (L' := [imm (TR.sl (TR.ik .u8)) v7 (intsOf x0)]) ss ?_
   refine GL.cond rfl (fun b61 => ?_) (fun b61 => ?_)
   ·replace h60 := ite_t b61 h60
    refine GL.seq ?_
    refine GL.region ?_
    refine RL.asg rfl rfl rfl ?_
    refine RL.finG ?_
    cases h60
    replace h38 : some (Fl.rt _) = some y27 := h38
    cases h38
    have hh := h32 _ h30
    subst hh
    exact GL.ret (Gx.ret (v := .bool false) (res1 rfl rfl) (fun a w st => st.toPostV))
   replace h60 := ite_f b61 h60
   refine GL.skip ?_
   refine GL.nilB ?_
   refine GL.region ?_
   refine RL.binI (v := .int .i64 ((i34 + 1 : Nat) : Int)) rfl rfl rfl rfl (binI_succ i34 (by omega)) ?_
   refine RL.mv rfl rfl rfl ?_
   refine RL.fin ?_
   cases h60
   exact fun a w st => lop_intro (i34 + 1, r46) ⟨by show i34 + 1 + r46.length = ((intsOf x0)).length; simp only [List.length_cons] at h40; omega, h47, h38⟩ (by simp) (St.cut [0] ⟨rfl, rfl, rfl, rfl, trivial⟩ (by decide) rfl st)
  have h43 : ¬ i34 < ((intsOf x0)).length := by have := of_decide_eq_false b42; omega
  obtain rfl : r35 = [] := by rw [← h41]; exact List.drop_of_length_le (by omega)
  replace h39 : some (Fl.nx _) = some y27 := h39
  cases h39
  exact GL.exit (fun a w st => mid_intro () h30 (St.cut [] ⟨rfl, trivial⟩ (by decide) rfl st))
 rintro ⟨⟩ h62
 have h63 := h31 _ h62
 try dsimp only at h63
 refine GL.weak (env' := [(0, (sv x0))]) (L' := []) ss ?_
 refine GL.seq ?_
 obtain ⟨y67, K68, h69, h70, h71, h72, h73⟩ := bindR_K h63
 refine GL.join (ι := Bool) (fun (p : Bool) => [(2, .bool p)]) (fun (p : Bool) => []) (fun (p : Bool) => K68 (.nx p)) ?_ ?_
 ·skip
  refine GL.region ?_
  refine RL.mv rfl rfl rfl ?_
  refine RL.lenT Tryz.underlying9 rfl rfl rfl ?_
  refine RL.binI (v := .bool (decide (((x0).length : Int) > (0 : Int)))) rfl rfl rfl rfl rfl ?_
  refine RL.mv rfl rfl rfl ?_
  refine RL.split (t := 22) rfl (fun b74 => ?_) (fun b74 => ?_)
  ·replace h69 := ite_t b74 h69
   refine RL.mv rfl rfl rfl ?_
   refine RL.lenT Tryz.underlying9 rfl rfl rfl ?_
   refine RL.binI (v := .bool (decide (((x0).length : Int) ≤ (8 : Int)))) rfl rfl rfl rfl rfl ?_
   refine RL.pickT rfl rfl rfl rfl ?_
   refine RL.asg rfl rfl rfl ?_
   refine RL.fin ?_
   cases h69
   exact fun a w st => mid_intro (decide (((x0).length : Int) ≤ (8 : Int))) h70 (St.cut [] ⟨rfl, trivial⟩ (by decide) rfl st)
  replace h69 := ite_f b74 h69
  refine RL.skip rfl rfl ?_
  refine RL.skip rfl rfl ?_
  refine RL.skip rfl rfl ?_
  refine RL.pickF rfl rfl rfl rfl ?_
  refine RL.asg rfl rfl rfl ?_
  refine RL.fin ?_
  cases h69
  exact fun a w st => mid_intro false h70 (St.cut [] ⟨rfl, trivial⟩ (by decide) rfl st)
 rintro x66 h75
 have h76 := h71 _ h75
 try dsimp only at h76
 refine GL.weak (env' := [(2, .bool x66)]) (L' := []) ss ?_
 have h76 := Option.some.inj h76
 subst h76
 exact GL.ret (Gx.ret (v := .bool x66) (res1 rfl rfl) (fun a w st => st.toPostV))

theorem ledger_Check_c (S : Hp) (w : World) (hS : S.sub w) (v0 : Value) (x0 : (List TyA)) (k0 : ((TR.sl TrA)).vrep S v0 x0) (res : Int) (hm : ledger_Check_m x0 = some res) : Calls Tryz.prog 86 #[v0] w (PostV w (.int .i64 res)) := by
 refine calls_enter 53 Tryz.func86 Tryz.ntmps86 rfl S false [(0, v0)] [imm (TR.sl TrA) v0 x0] rfl ⟨rfl, trivial⟩ hS ⟨k0, trivial⟩ ?_
 unfold ledger_Check_m at hm
 refine GL.seq ?_
 refine GL.region ?_
 refine RL.asg rfl rfl rfl ?_
 refine RL.finG ?_
 refine GL.seq ?_
 refine GL.seq ?_
 refine GL.region ?_
 refine RL.mv rfl rfl rfl ?_
 refine RL.lenS 0 Tryz.underlying42 rfl rfl rfl rfl SlOf.imm ?_
 refine RL.binI (v := .bool (decide (((x0).length : Int) > (6 : Int)))) rfl rfl rfl rfl rfl ?_
 refine RL.finG ?_
 refine GL.cond rfl (fun b2 => ?_) (fun b2 => ?_)
 ·replace hm := ite_t b2 hm
  refine GL.seq ?_
  refine GL.region ?_
  refine RL.asg rfl rfl rfl ?_
  refine RL.finG ?_
  have hm := Option.some.inj hm
  subst hm
  exact GL.ret (Gx.ret (v := .int .i64 (2 : Int)) (res1 rfl rfl) (fun a w st => st.toPostV))
 replace hm := ite_f b2 hm
 refine GL.skip ?_
 refine GL.seq ?_
 refine GL.seq ?_
 refine GL.region ?_
 refine RL.mv rfl rfl rfl ?_
 refine RL.lenS 0 Tryz.underlying42 rfl rfl rfl rfl SlOf.imm ?_
 refine RL.mv rfl rfl rfl ?_
 refine RL.finG ?_
 refine GL.open_ 0 rfl (fun S h => len_imm S h) (fun n60 => ?_)
 obtain ⟨y61, K62, h63, h64, h65, h66, h67⟩ := bindR_K hm
 refine GL.join (ι := Unit) (fun (p : Unit) => []) (fun (p : Unit) => []) (fun (p : Unit) => K62 (.nx ())) ?_ ?_
 ·refine GL.block ?_
  refine GL.loop (ι := Nat × (List TyA)) (fun (p : Nat × (List TyA)) => [(0, v0), (8, v0), (9, .int .i64 ((x0).length : Int)), (10, .int .i64 (p.1 : Int))]) (fun (p : Nat × (List TyA)) => [imm (TR.sl TrA) v0 x0]) (fun (p : Nat × (List TyA)) => p.1 + p.2.length = (x0).length ∧ List.drop p.1 x0 = p.2 ∧ rangeL (ledger_Check_b1 x0) p.2 p.1 () = some y61) (fun (p : Nat × (List TyA)) => p.2.length) (0, x0) ⟨by simp, by simp, h63⟩ (fun a w st => St.cut [0] ⟨rfl, rfl, rfl, rfl, trivial⟩ (by decide) rfl st) ?_
  rintro ⟨i68, r69⟩ ⟨h74, h75, h73⟩
  try dsimp only at h74 h75 h73
  refine GL.weak (env' := [(0, v0), (8, v0), (9, .int .i64 ((x0).length : Int)), (10, .int .i64 (i68 : Int))]) (L' := [imm (TR.sl TrA) v0 x0]) ss ?_
  refine GL.seq ?_
  refine GL.region ?_
  refine RL.binI (v := .bool (decide ((i68 : Int) < ((x0).length : Int)))) rfl rfl rfl rfl rfl ?_
  refine RL.finG ?_
  refine GL.seq ?_
  refine GL.cond rfl (fun b76 => ?_) (fun b76 => ?_)
  ·have h77 : i68 < (x0).length := by have := of_decide_eq_true b76; omega
   obtain ⟨y78, r80, hr, e79, h81⟩ := drop_cons h75 rfl h77
   subst hr
   obtain ⟨z70, h71, h72⟩ := rangeL_some h73
   unfold ledger_Check_b1 at h71
   try dsimp only at h71
   refine GL.skip ?_
   refine GL.seq ?_
   refine GL.block ?_
   refine GL.seq ?_
   refine GL.region ?_
   refine RL.mv rfl rfl rfl ?_
   refine RL.idxS (sz := 3) 0 Tryz.underlying42 Tryz_ln86 rfl rfl rfl rfl rfl SlOf.imm (by omega) (by omega) ?_
   refine RL.ldS (i := i68) (r := TrA) (e' := y78) 0 Tryz_ln86 rfl rfl rfl rfl SlOf.imm e79 Part.self ?_
   intro v84
   refine RL.alloc (t := TrA) (z := (([] : B8), (0 : Int), (0 : Int))) Tryz_lo86 (fun S => ⟨[.string ⟨#[]⟩], _, rfl, rfl, ⟨[.int .i64 0], _, rfl, rfl, rfl⟩⟩) rfl rfl rfl ?_
   intro v85
   refine RL.reL (L' := [imm (TR.sl TrA) v0 x0, imm TrA v84 y78, obox 86 TrA v85 (([] : B8), (0 : Int), (0 : Int))]) rfl ?_
   refine RL.asg rfl rfl rfl ?_
   refine RL.stP (off := 0) (e' := y78) (d1 := y78) (r := TrA) 2 Tryz_ln86 rfl rfl (Or.inr ⟨rfl, rfl⟩) rfl (VR.item 1 rfl) rfl Upd.self ?_
   refine RL.finG ?_
   refine GL.seq ?_
   refine GL.seq ?_
   obtain ⟨y99, K100, h101, h102, h103, h104, h105⟩ := bindF_K h71
   refine GL.join (ι := Bool) (fun (p : Bool) => [(0, v0), (4, v85), (8, v0), (9, .int .i64 ((x0).length : Int)), (10, .int .i64 (i68 : Int)), (33, .bool p)]) (fun (p : Bool) => [imm (TR.sl TrA) v0 x0, obox 86 TrA v85 y78]) (fun (p : Bool) => K100 (.nx p)) ?_ ?_
   ·skip
    refine GL.regionQ rfl rfl (by kernel_rfl) ?_
    refine RL.fadr (off := 0) (fo := 0) 2 Tryz_fld86_0 rfl rfl rfl PtOf.obox (Or.inr ⟨rfl, rfl⟩) ?_
    refine RL.ldPx (off := (0 + 0)) (e' := y78.1) 2 Ex.str Tryz_ln9 rfl rfl (Or.inl rfl) rfl PtOf.obox (Part.fst Part.self) ?_
    obtain ⟨y106, e107, h101⟩ := bind_some h101
    refine RL.callV (v := .bool y106) (vs := [(sv y78.1)]) Tryz_fit87 rfl (Or.inr ⟨_, rfl⟩) rfl rfl rfl rfl (fun U w hU hW hL => ledger_named_c U w hU y78.1 _ e107) ?_
    refine RL.notB rfl rfl rfl ?_
    refine RL.mv rfl rfl rfl ?_
    refine RL.split (t := 19) rfl (fun b108 => ?_) (fun b108 => ?_)
    ·replace h101 := ite_t b108 h101
     refine RL.skip rfl rfl ?_
     refine RL.skip rfl rfl ?_
     refine RL.skip rfl rfl ?_
     refine RL.skip rfl rfl ?_
     refine RL.skip rfl rfl ?_
     refine RL.skip rfl rfl ?_
     refine RL.skip rfl rfl ?_
     refine RL.skip rfl rfl ?_
     refine RL.skip rfl rfl ?_
     refine RL.skip rfl rfl ?_
     refine RL.skip rfl rfl ?_
     refine RL.skip rfl rfl ?_
     refine RL.skip rfl rfl ?_
     refine RL.pickT rfl rfl rfl rfl ?_
     refine RL.finQ ?_
     cases h101
     exact fun a w st => mid_intro true h102 (St.cut [0, 2] ⟨rfl, rfl, rfl, rfl, rfl, rfl, trivial⟩ (by decide) rfl st)
    replace h101 := ite_f b108 h101
    refine RL.mv rfl rfl rfl ?_
    refine RL.binI (v := .bool (decide ((i68 : Int) > (0 : Int)))) rfl rfl rfl rfl rfl ?_
    refine RL.mv rfl rfl rfl ?_
    refine RL.split (t := 22) rfl (fun b109 => ?_) (fun b109 => ?_)
    ·replace h101 := ite_t b109 h101
     refine RL.fadr (off := 0) (fo := 0) 2 Tryz_fld86_0 rfl rfl rfl PtOf.obox (Or.inr ⟨rfl, rfl⟩) ?_
     refine RL.ldPx (off := (0 + 0)) (e' := y78.1) 2 Ex.str Tryz_ln9 rfl rfl (Or.inl rfl) rfl PtOf.obox (Part.fst Part.self) ?_
     refine RL.mv rfl rfl rfl ?_
     refine RL.mv rfl rfl rfl ?_
     refine RL.binI (v := .int .i64 (wsub (i68 : Int) (1 : Int))) rfl rfl rfl rfl rfl ?_
     obtain ⟨y110, e111, h101⟩ := bind_some h101
     refine RL.idxS (sz := 3) 0 Tryz.underlying42 Tryz_ln86 rfl rfl rfl rfl rfl SlOf.imm (idx_some e111).1 (idx_some e111).2.1 ?_
     refine RL.fadrS (off := ((wsub (i68 : Int) (1 : Int)).toNat * 3)) (fo := 0) 0 Tryz_fld86_0 rfl rfl rfl SlOf.imm (by have := (List.getElem?_eq_some_iff.1 (idx_some e111).2.2).1; (try dsimp only at this ⊢); omega) rfl ?_
     refine RL.ldSx (i := (wsub (i68 : Int) (1 : Int)).toNat) (e' := y110.1) 0 Ex.str Tryz_ln9 rfl rfl rfl rfl SlOf.imm (idx_some e111).2.2 (Part.fst Part.self) ?_
     refine RL.binS (v := .bool (bls y78.1 y110.1 || y78.1 == y110.1)) rfl rfl rfl rfl rfl ?_
     refine RL.pickT rfl rfl rfl rfl ?_
     refine RL.pickF rfl rfl rfl rfl ?_
     refine RL.finQ ?_
     cases h101
     exact fun a w st => mid_intro (bls y78.1 y110.1 || y78.1 == y110.1) h102 (St.cut [0, 2] ⟨rfl, rfl, rfl, rfl, rfl, rfl, trivial⟩ (by decide) rfl st)
    replace h101 := ite_f b109 h101
    refine RL.skip rfl rfl ?_
    refine RL.skip rfl rfl ?_
    refine RL.skip rfl rfl ?_
    refine RL.skip rfl rfl ?_
    refine RL.skip rfl rfl ?_
    refine RL.skip rfl rfl ?_
    refine RL.skip rfl rfl ?_
    refine RL.skip rfl rfl ?_
    refine RL.skip rfl rfl ?_
    refine RL.pickF rfl rfl rfl rfl ?_
    refine RL.pickF rfl rfl rfl rfl ?_
    refine RL.finQ ?_
    cases h101
    exact fun a w st => mid_intro false h102 (St.cut [0, 2] ⟨rfl, rfl, rfl, rfl, rfl, rfl, trivial⟩ (by decide) rfl st)
   rintro x98 h112
   have h113 := h103 _ h112
   try dsimp only at h113
   refine GL.weak (env' := [(0, v0), (4, v85), (8, v0), (9, .int .i64 ((x0).length : Int)), (10, .int .i64 (i68 : Int)), (33, .bool x98)]) (L' := [imm (TR.sl TrA) v0 x0, obox 86 TrA v85 y78]) ss ?_
   refine GL.cond rfl (fun b114 => ?_) (fun b114 => ?_)
   ·replace h113 := ite_t b114 h113
    refine GL.seq ?_
    refine GL.region ?_
    refine RL.asg rfl rfl rfl ?_
    refine RL.finG ?_
    cases h113
    replace h72 : some (Fl.rt _) = some y61 := h72
    cases h72
    have hh := h66 _ h64
    subst hh
    exact GL.ret (Gx.ret (v := .int .i64 (3 : Int)) (res1 rfl rfl) (fun a w st => st.toPostV))
   replace h113 := ite_f b114 h113
   refine GL.skip ?_
   refine GL.seq ?_
   obtain ⟨y122, K123, h124, h125, h126, h127, h128⟩ := bindF_K h113
   refine GL.join (ι := Bool) (fun (p : Bool) => [(0, v0), (8, v0), (9, .int .i64 ((x0).length : Int)), (10, .int .i64 (i68 : Int)), (51, .bool p)]) (fun (p : Bool) => [imm (TR.sl TrA) v0 x0]) (fun (p : Bool) => K123 (.nx p)) ?_ ?_
   ·skip
    refine GL.region ?_
    refine RL.fadr (off := 0) (fo := 1) 1 Tryz_fld86_1 rfl rfl rfl PtOf.obox (Or.inr ⟨rfl, rfl⟩) ?_
    refine RL.ldPx (off := (0 + 1)) (e' := y78.2.1) 1 Ex.ik Tryz_ln3 rfl rfl (Or.inl rfl) rfl PtOf.obox (Part.snd (Part.fst Part.self)) ?_
    refine RL.binI (v := .bool (decide (y78.2.1 < (0 : Int)))) rfl rfl rfl rfl rfl ?_
    refine RL.mv rfl rfl rfl ?_
    refine RL.split (t := 37) rfl (fun b129 => ?_) (fun b129 => ?_)
    ·replace h124 := ite_t b129 h124
     refine RL.skip rfl rfl ?_
     refine RL.skip rfl rfl ?_
     refine RL.skip rfl rfl ?_
     refine RL.pickT rfl rfl rfl rfl ?_
     refine RL.mv rfl rfl rfl ?_
     refine RL.skip rfl rfl ?_
     refine RL.skip rfl rfl ?_
     refine RL.skip rfl rfl ?_
     refine RL.pickT rfl rfl rfl rfl ?_
     refine RL.mv rfl rfl rfl ?_
     refine RL.skip rfl rfl ?_
     refine RL.skip rfl rfl ?_
     refine RL.skip rfl rfl ?_
     refine RL.pickT rfl rfl rfl rfl ?_
     refine RL.fin ?_
     cases h124
     exact fun a w st => mid_intro true h125 (St.cut [0] ⟨rfl, rfl, rfl, rfl, rfl, trivial⟩ (by decide) rfl st)
    replace h124 := ite_f b129 h124
    refine RL.fadr (off := 0) (fo := 1) 1 Tryz_fld86_1 rfl rfl rfl PtOf.obox (Or.inr ⟨rfl, rfl⟩) ?_
    refine RL.ldPx (off := (0 + 1)) (e' := y78.2.1) 1 Ex.ik Tryz_ln3 rfl rfl (Or.inl rfl) rfl PtOf.obox (Part.snd (Part.fst Part.self)) ?_
    refine RL.binI (v := .bool (decide (y78.2.1 > (1000000 : Int)))) rfl rfl rfl rfl rfl ?_
    refine RL.pickF rfl rfl rfl rfl ?_
    refine RL.mv rfl rfl rfl ?_
    refine RL.split (t := 42) rfl (fun b130 => ?_) (fun b130 => ?_)
    ·replace h124 := ite_t b130 h124
     refine RL.skip rfl rfl ?_
     refine RL.skip rfl rfl ?_
     refine RL.skip rfl rfl ?_
     refine RL.pickT rfl rfl rfl rfl ?_
     refine RL.mv rfl rfl rfl ?_
     refine RL.skip rfl rfl ?_
     refine RL.skip rfl rfl ?_
     refine RL.skip rfl rfl ?_
     refine RL.pickT rfl rfl rfl rfl ?_
     refine RL.fin ?_
     cases h124
     exact fun a w st => mid_intro true h125 (St.cut [0] ⟨rfl, rfl, rfl, rfl, rfl, trivial⟩ (by decide) rfl st)
    replace h124 := ite_f b130 h124
    refine RL.fadr (off := 0) (fo := 2) 1 Tryz_fld86_2 rfl rfl rfl PtOf.obox (Or.inr ⟨rfl, rfl⟩) ?_
    refine RL.ldPx (off := (0 + 2)) (e' := y78.2.2) 1 Ex.ik Tryz_ln3 rfl rfl (Or.inl rfl) rfl PtOf.obox (Part.snd (Part.snd Part.self)) ?_
    refine RL.binI (v := .bool (decide (y78.2.2 < (0 : Int)))) rfl rfl rfl rfl rfl ?_
    refine RL.pickF rfl rfl rfl rfl ?_
    refine RL.mv rfl rfl rfl ?_
    refine RL.split (t := 47) rfl (fun b131 => ?_) (fun b131 => ?_)
    ·replace h124 := ite_t b131 h124
     refine RL.skip rfl rfl ?_
     refine RL.skip rfl rfl ?_
     refine RL.skip rfl rfl ?_
     refine RL.pickT rfl rfl rfl rfl ?_
     refine RL.fin ?_
     cases h124
     exact fun a w st => mid_intro true h125 (St.cut [0] ⟨rfl, rfl, rfl, rfl, rfl, trivial⟩ (by decide) rfl st)
    replace h124 := ite_f b131 h124
    refine RL.fadr (off := 0) (fo := 2) 1 Tryz_fld86_2 rfl rfl rfl PtOf.obox (Or.inr ⟨rfl, rfl⟩) ?_
    refine RL.ldPx (off := (0 + 2)) (e' := y78.2.2) 1 Ex.ik Tryz_ln3 rfl rfl (Or.inl rfl) rfl PtOf.obox (Part.snd (Part.snd Part.self)) ?_
    refine RL.binI (v := .bool (decide (y78.2.2 > (1000000 : Int)))) rfl rfl rfl rfl rfl ?_
    refine RL.pickF rfl rfl rfl rfl ?_
    refine RL.fin ?_
    cases h124
    exact fun a w st => mid_intro (decide (y78.2.2 > (1000000 : Int))) h125 (St.cut [0] ⟨rfl, rfl, rfl, rfl, rfl, trivial⟩ (by decide) rfl st)
   rintro x121 h132
   have h133 := h126 _ h132
   try dsimp only at h133
   refine GL.weak (env' := [(0, v0), (8, v0), (9, .int .i64 ((x0).length : Int)), (10, .int .i64 (i68 : Int)), (51, .bool x121)]) (L' := [imm (TR.sl TrA) v0 x0]) ss ?_
   refine GL.cond rfl (fun b134 => ?_) (fun b134 => ?_)
   ·replace h133 := ite_t b134 h133
    refine GL.seq ?_
    refine GL.region ?_
    refine RL.asg rfl rfl rfl ?_
    refine RL.finG ?_
    cases h133
    replace h72 : some (Fl.rt _) = some y61 := h72
    cases h72
    have hh := h66 _ h64
    subst hh
    exact GL.ret (Gx.ret (v := .int .i64 (1 : Int)) (res1 rfl rfl) (fun a w st => st.toPostV))
   replace h133 := ite_f b134 h133
   refine GL.skip ?_
   refine GL.nilB ?_
   refine GL.region ?_
   refine RL.binI (v := .int .i64 ((i68 + 1 : Nat) : Int)) rfl rfl rfl rfl (binI_succ i68 (by omega)) ?_
   refine RL.mv rfl rfl rfl ?_
   refine RL.fin ?_
   cases h133
   exact fun a w st => lop_intro (i68 + 1, r80) ⟨by show i68 + 1 + r80.length = (x0).length; simp only [List.length_cons] at h74; omega, h81, h72⟩ (by simp) (St.cut [0] ⟨rfl, rfl, rfl, rfl, trivial⟩ (by decide) rfl st)
  have h77 : ¬ i68 < (x0).length := by have := of_decide_eq_false b76; omega
  obtain rfl : r69 = [] := by rw [← h75]; exact List.drop_of_length_le (by omega)
  replace h73 : some (Fl.nx _) = some y61 := h73
  cases h73
  exact GL.exit (fun a w st => mid_intro () h64 (St.cut [] trivial (by decide) rfl st))
 rintro ⟨⟩ h135
 have h136 := h65 _ h135
 try dsimp only at h136
 refine GL.weak (env' := []) (L' := []) ss ?_
 refine GL.seq ?_
 refine GL.region ?_
 refine RL.asg rfl rfl rfl ?_
 refine RL.finG ?_
 have h136 := Option.some.inj h136
 subst h136
 exact GL.ret (Gx.ret (v := .int .i64 (0 : Int)) (res1 rfl rfl) (fun a w st => st.toPostV))

theorem slices_IndexFunc_api_Account_api_Account_c (S : Hp) (w : World) (hS : S.sub w) (v0 : Value) (x0 : (List TyA)) (k0 : ((TR.sl TrA)).vrep S v0 x0) (f1 : FuncId) (c1 : Array Value) (t1 : Fit Tryz.prog f1) (g1 : TyA → Option Bool) (k1 : ∀ (U : Hp) (w' : World), Hp.le S U → U.sub w' → ∀ (u0 : Value) (a0 : TyA) (_ : (TrA).vrep U u0 a0) (rr : Bool), g1 a0 = some rr → Calls Tryz.prog f1 (#[u0] ++ c1) w' (PostV w' (.bool rr))) (res : Int) (hm : slices_IndexFunc_api_Account_api_Account_m x0 g1 = some res) : Calls Tryz.prog 78 #[v0, .func (.func f1) #[] c1] w (PostV w (.int .i64 res)) := by
 refine calls_enter 19 Tryz.func78 Tryz.ntmps78 rfl S false [(0, v0), (1, .func (.func f1) #[] c1)] [imm (TR.sl TrA) v0 x0] rfl ⟨rfl, ⟨rfl, trivial⟩⟩ hS ⟨k0, trivial⟩ ?_
 unfold slices_IndexFunc_api_Account_api_Account_m at hm
 refine GL.seq ?_
 refine GL.region ?_
 refine RL.asg rfl rfl rfl ?_
 refine RL.finG ?_
 refine GL.seq ?_
 refine GL.seq ?_
 refine GL.region ?_
 refine RL.mv rfl rfl rfl ?_
 refine RL.lenS 0 Tryz.underlying42 rfl rfl rfl rfl SlOf.imm ?_
 refine RL.mv rfl rfl rfl ?_
 refine RL.finG ?_
 refine GL.open_ 0 rfl (fun S h => len_imm S h) (fun n14 => ?_)
 obtain ⟨y15, K16, h17, h18, h19, h20, h21⟩ := bindR_K hm
 refine GL.join (ι := Unit) (fun (p : Unit) => []) (fun (p : Unit) => []) (fun (p : Unit) => K16 (.nx ())) ?_ ?_
 ·refine GL.block ?_
  refine GL.loop (ι := Nat × (List TyA)) (fun (p : Nat × (List TyA)) => [(0, v0), (1, .func (.func f1) #[] c1), (7, .int .i64 ((x0).length : Int)), (8, .int .i64 (p.1 : Int))]) (fun (p : Nat × (List TyA)) => [imm (TR.sl TrA) v0 x0]) (fun (p : Nat × (List TyA)) => p.1 + p.2.length = (x0).length ∧ List.drop p.1 x0 = p.2 ∧ rangeL (slices_IndexFunc_api_Account_api_Account_b1 g1) p.2 p.1 () = some y15) (fun (p : Nat × (List TyA)) => p.2.length) (0, x0) ⟨by simp, by simp, h17⟩ (fun a w st => St.cut [0] ⟨rfl, rfl, rfl, rfl, trivial⟩ (by decide) rfl st) ?_
  rintro ⟨i22, r23⟩ ⟨h28, h29, h27⟩
  try dsimp only at h28 h29 h27
  refine GL.weak (env' := [(0, v0), (1, .func (.func f1) #[] c1), (7, .int .i64 ((x0).length : Int)), (8, .int .i64 (i22 : Int))]) (L' := [imm (TR.sl TrA) v0 x0]) ss ?_
  refine GL.seq ?_
  refine GL.region ?_
  refine RL.binI (v := .bool (decide ((i22 : Int) < ((x0).length : Int)))) rfl rfl rfl rfl rfl ?_
  refine RL.finG ?_
  refine GL.seq ?_
  refine GL.cond rfl (fun b30 => ?_) (fun b30 => ?_)
  ·have h31 : i22 < (x0).length := by have := of_decide_eq_true b30; omega
   obtain ⟨y32, r34, hr, e33, h35⟩ := drop_cons h29 rfl h31
   subst hr
   obtain ⟨z24, h25, h26⟩ := rangeL_some h27
   unfold slices_IndexFunc_api_Account_api_Account_b1 at h25
   try dsimp only at h25
   refine GL.skip ?_
   refine GL.seq ?_
   refine GL.block ?_
   refine GL.seq ?_
   refine GL.region ?_
   refine RL.mv rfl rfl rfl ?_
   refine RL.asg rfl rfl rfl ?_
   refine RL.finG ?_
   refine GL.seq ?_
   refine GL.region ?_
   refine RL.mv rfl rfl rfl ?_
   refine RL.mv rfl rfl rfl ?_
   refine RL.mv rfl rfl rfl ?_
   refine RL.idxS (sz := 3) 0 Tryz.underlying42 Tryz_ln86 rfl rfl rfl rfl rfl SlOf.imm (by omega) (by omega) ?_
   refine RL.ldS (i := i22) (r := TrA) (e' := y32) 0 Tryz_ln86 rfl rfl rfl rfl SlOf.imm e33 Part.self ?_
   intro v39
   obtain ⟨y40, e41, h25⟩ := bind_some h25
   refine RL.callV (v := .bool y40) (vs := [v39]) t1 rfl (Or.inl rfl) rfl rfl rfl rfl (fun U w hU hW hL => k1 U w hW hU _ _ (hL 1 _ _ rfl Seen.imm) _ e41) ?_
   refine RL.finG ?_
   refine GL.cond rfl (fun b42 => ?_) (fun b42 => ?_)
   ·replace h25 := ite_t b42 h25
    refine GL.seq ?_
    refine GL.region ?_
    refine RL.mv rfl rfl rfl ?_
    refine RL.asg rfl rfl rfl ?_
    refine RL.finG ?_
    cases h25
    replace h26 : some (Fl.rt _) = some y15 := h26
    cases h26
    have hh := h20 _ h18
    subst hh
    exact GL.ret (Gx.ret (v := .int .i64 (i22 : Int)) (res1 rfl rfl) (fun a w st => st.toPostV))
   replace h25 := ite_f b42 h25
   refine GL.skip ?_
   refine GL.nilB ?_
   refine GL.region ?_
   refine RL.binI (v := .int .i64 ((i22 + 1 : Nat) : Int)) rfl rfl rfl rfl (binI_succ i22 (by omega)) ?_
   refine RL.mv rfl rfl rfl ?_
   refine RL.fin ?_
   cases h25
   exact fun a w st => lop_intro (i22 + 1, r34) ⟨by show i22 + 1 + r34.length = (x0).length; simp only [List.length_cons] at h28; omega, h35, h26⟩ (by simp) (St.cut [0] ⟨rfl, rfl, rfl, rfl, trivial⟩ (by decide) rfl st)
  have h31 : ¬ i22 < (x0).length := by have := of_decide_eq_false b30; omega
  obtain rfl : r23 = [] := by rw [← h29]; exact List.drop_of_length_le (by omega)
  replace h27 : some (Fl.nx _) = some y15 := h27
  cases h27
  exact GL.exit (fun a w st => mid_intro () h18 (St.cut [] trivial (by decide) rfl st))
 rintro ⟨⟩ h43
 have h44 := h19 _ h43
 try dsimp only at h44
 refine GL.weak (env' := []) (L' := []) ss ?_
 refine GL.seq ?_
 refine GL.region ?_
 refine RL.asg rfl rfl rfl ?_
 refine RL.finG ?_
 have h44 := Option.some.inj h44
 subst h44
 exact GL.ret (Gx.ret (v := .int .i64 (-1 : Int)) (res1 rfl rfl) (fun a w st => st.toPostV))

theorem ledger_find_1_c (S : Hp) (w : World) (hS : S.sub w) (v0 : Value) (x0 : TyA) (k0 : (TrA).vrep S v0 x0) (v1 : Value) (x1 : B8) (k1 : ((TR.ptr TR.str)).vrep S v1 x1) (res : Bool) (hm : ledger_find_1_m x0 x1 = some res) : Calls Tryz.prog 105 #[v0, v1] w (PostV w (.bool res)) := by
 refine calls_enter 8 Tryz.func105 Tryz.ntmps105 rfl S false [(0, v0), (1, v1)] [imm TrA v0 x0, imm (TR.ptr TR.str) v1 x1] rfl ⟨rfl, ⟨rfl, trivial⟩⟩ hS ⟨k0, ⟨k1, trivial⟩⟩ ?_
 unfold ledger_find_1_m at hm
 refine GL.seq ?_
 refine GL.region ?_
 refine RL.box (t := TrA) (e := x0) rfl rfl rfl rfl (VR.item 0 rfl) ?_
 intro v4
 refine RL.asg rfl rfl rfl ?_
 refine RL.finG ?_
 refine GL.seq ?_
 refine GL.region ?_
 refine RL.fadr (off := 0) (fo := 0) 2 Tryz_fld86_0 rfl rfl rfl PtOf.obox (Or.inr ⟨rfl, rfl⟩) ?_
 refine RL.ldPx (off := (0 + 0)) (e' := x0.1) 2 Ex.str Tryz_ln9 rfl rfl (Or.inl rfl) rfl PtOf.obox (Part.fst Part.self) ?_
 refine RL.ldPx (off := 0) (e' := x1) 1 Ex.str Tryz_ln9 rfl rfl (Or.inr ⟨rfl, rfl⟩) rfl PtOf.imm Part.self ?_
 refine RL.binS (v := .bool (x0.1 == x1)) rfl rfl rfl rfl rfl ?_
 refine RL.asg rfl rfl rfl ?_
 refine RL.finG ?_
 have hm := Option.some.inj hm
 subst hm
 exact GL.ret (Gx.ret (v := .bool (x0.1 == x1)) (res1 rfl rfl) (fun a w st => st.toPostV))

theorem ledger_find_c (S : Hp) (w : World) (hS : S.sub w) (v0 : Value) (x0 : (List TyA)) (k0 : ((TR.sl TrA)).vrep S v0 x0) (x1 : B8) (res : Int) (hm : ledger_find_m x0 x1 = some res) : Calls Tryz.prog 88 #[v0, (sv x1)] w (PostV w (.int .i64 res)) := by
 refine calls_enter 8 Tryz.func88 Tryz.ntmps88 rfl S false [(0, v0), (1, (sv x1))] [imm (TR.sl TrA) v0 x0] rfl ⟨rfl, ⟨rfl, trivial⟩⟩ hS ⟨k0, trivial⟩ ?_
 unfold ledger_find_m at hm
 refine GL.seq ?_
 refine GL.region ?_
 refine RL.box (t := TR.str) (e := x1) rfl rfl rfl rfl VR.str ?_
 intro v4
 refine RL.asg rfl rfl rfl ?_
 refine RL.finG ?_
 refine GL.seq ?_
 refine GL.region ?_
 refine RL.mv rfl rfl rfl ?_
 refine RL.mkF (vs := [v4]) rfl rfl rfl ?_
 obtain ⟨y7, e8, hm⟩ := bind_some hm
 refine RL.callV (v := .int .i64 y7) (vs := [v0, .func (.func 105) #[] #[v4]]) Tryz_fit78 rfl (Or.inl rfl) rfl rfl rfl rfl (fun U w hU hW hL => slices_IndexFunc_api_Account_api_Account_c U w hU _ _ (hL 0 _ _ rfl Seen.imm) 105 #[v4] Tryz_fit105 (fun a0 => ledger_find_1_m a0 x1) (fun U' w' hle hU' u0 a0 q0 rr hr => (ledger_find_1_c U' w' hU' u0 a0 q0 _ _ (TR.vrep_mono hle (hL 1 _ _ rfl Seen.obox)) rr hr).mono (fun _ _ z => z)) _ e8) ?_
 refine RL.asg rfl rfl rfl ?_
 refine RL.finG ?_
 have hm := Option.some.inj hm
 subst hm
 exact GL.ret (Gx.ret (v := .int .i64 y7) (res1 rfl rfl) (fun a w st => st.toPostV))

theorem slices_Clone_api_Account_api_Account_c (S : Hp) (w : World) (hS : S.sub w) (v0 : Value) (x0 : List TyA) (k0 : (TR.sl TrA).vrep S v0 x0) (res : List TyA) (hm : slices_Clone_api_Account_api_Account_m x0 = some res) : Calls Tryz.prog 89 #[v0] w (Post w S (fun (o : Value) => o) (fun (o : Value) => [own 86 TrA o res])) := by
  refine calls_enter 8 Tryz.func89 Tryz.ntmps89 rfl S false [(0, v0)] [imm (TR.sl TrA) v0 x0] rfl ⟨rfl, trivial⟩ hS ⟨k0, trivial⟩ ?_
  unfold slices_Clone_api_Account_api_Account_m at hm
  obtain ⟨_, hc, hm⟩ := bind_some hm
  replace hc := chk_some hc
  have hm := Option.some.inj hm
  subst hm
  refine GL.seq (GL.region (RL.asg rfl rfl rfl (RL.finG (GL.seq (GL.seq (GL.region ?_))))))
  refine RL.mv rfl rfl rfl ?_
  refine RL.eqNil 0 Tryz.underlying42 rfl rfl rfl rfl rfl SlOf.imm (fun b hb => ?_)
  refine RL.finG (GL.cond rfl (fun h => ?_) (fun h => ?_))
  · have := hb h
    subst this
    refine GL.seq (GL.region (RL.asg rfl rfl rfl (RL.finG ?_)))
    refine GL.weak (fun a w st => st.nilOwn 86 TrA) ?_
    exact GL.ret (Gx.ret (v := Value.slice none 0 0) (res1 rfl rfl) (fun a w st => (st.pick [1] (by decide) rfl).toPost (Value.slice none 0 0)))
  · refine GL.skip (GL.seq (GL.region ?_))
    refine RL.bS (t := TrA) (vs := []) ([] : List TyA) Tryz.underlying42 Tryz_lo86 rfl rfl rfl rfl trivial rfl (by decide) ?_
    intro v1
    refine RL.mv rfl rfl rfl ?_
    refine RL.app 1 0 Tryz.underlying42 Tryz_lo86 rfl rfl rfl rfl rfl rfl rfl SlOf.imm (by simpa using hc) ?_
    intro v2
    refine RL.asg rfl rfl rfl (RL.finG ?_)
    exact GL.ret (Gx.ret (v := v2) (res1 rfl rfl) (fun a w st => (st.pick [1] (by decide) rfl).toPost v2))

theorem math_bits_Len64_c (S : Hp) (w : World) (hS : S.sub w) (x0 : Int) (res : Int) (hm : math_bits_Len64_m x0 = some res) : Calls Tryz.prog 82 #[.int .u64 x0] w (PostC w (.int .i64 res)) := by
 refine calls_enter 25 Tryz.func82 Tryz.ntmps82 rfl S true [(0, .int .u64 x0)] [] rfl ⟨rfl, trivial⟩ hS trivial ?_
 unfold math_bits_Len64_m at hm
 refine GL.seq ?_
 refine GL.region ?_
 refine RL.asg rfl rfl rfl ?_
 refine RL.finG ?_
 refine GL.seq ?_
 refine GL.seq ?_
 refine GL.region ?_
 refine RL.mv rfl rfl rfl ?_
 refine RL.binI (v := .bool (decide (x0 ≥ (4294967296 : Int)))) rfl rfl rfl rfl rfl ?_
 refine RL.finG ?_
 obtain ⟨y9, K10, h11, h12, h13, h14, h15⟩ := bindR_K hm
 refine GL.join (ι := Int × Int) (fun (p : Int × Int) => [(0, .int .u64 p.1), (2, .int .i64 p.2)]) (fun (p : Int × Int) => []) (fun (p : Int × Int) => K10 (.nx (p.1, p.2))) ?_ ?_
 ·skip
  refine GL.cond rfl (fun b16 => ?_) (fun b16 => ?_)
  ·replace h11 := ite_t b16 h11
   refine GL.seq ?_
   refine GL.region ?_
   refine RL.mv rfl rfl rfl ?_
   obtain ⟨y19, e20, h11⟩ := bind_some h11
   replace e20 := chk_some e20
   refine RL.sh (by simp) rfl rfl rfl rfl e20 ?_
   refine RL.asg rfl rfl rfl ?_
   refine RL.finG ?_
   refine GL.region ?_
   refine RL.asg rfl rfl rfl ?_
   refine RL.finG ?_
   cases h11
   exact fun a w st => mid_intro (Int.fdiv x0 (2 ^ (min (32 : Int).toNat (IntKind.bits .u64))), (32 : Int)) h12 (St.cut [] ⟨rfl, rfl, trivial⟩ (by decide) rfl st)
  replace h11 := ite_f b16 h11
  refine GL.skip ?_
  cases h11
  exact fun a w st => mid_intro (x0, (0 : Int)) h12 (St.cut [] ⟨rfl, rfl, trivial⟩ (by decide) rfl st)
 rintro ⟨x7, x8⟩ h21
 have h22 := h13 _ h21
 try dsimp only at h22
 refine GL.weak (env' := [(0, .int .u64 x7), (2, .int .i64 x8)]) (L' := []) ss ?_
 refine GL.seq ?_
 refine GL.seq ?_
 refine GL.region ?_
 refine RL.mv rfl rfl rfl ?_
 refine RL.binI (v := .bool (decide (x7 ≥ (65536 : Int)))) rfl rfl rfl rfl rfl ?_
 refine RL.finG ?_
 obtain ⟨y30, K31, h32, h33, h34, h35, h36⟩ := bindR_K h22
 refine GL.join (ι := Int × Int) (fun (p : Int × Int) => [(0, .int .u64 p.1), (2, .int .i64 p.2)]) (fun (p : Int × Int) => []) (fun (p : Int × Int) => K31 (.nx (p.1, p.2))) ?_ ?_
 ·skip
  refine GL.cond rfl (fun b37 => ?_) (fun b37 => ?_)
  ·replace h32 := ite_t b37 h32
   refine GL.seq ?_
   refine GL.region ?_
   refine RL.mv rfl rfl rfl ?_
   obtain ⟨y40, e41, h32⟩ := bind_some h32
   replace e41 := chk_some e41
   refine RL.sh (by simp) rfl rfl rfl rfl e41 ?_
   refine RL.asg rfl rfl rfl ?_
   refine RL.finG ?_
   refine GL.region ?_
   refine RL.mv rfl rfl rfl ?_
   refine RL.binI (v := .int .i64 (wadd x8 (16 : Int))) rfl rfl rfl rfl rfl ?_
   refine RL.asg rfl rfl rfl ?_
   refine RL.finG ?_
   cases h32
   exact fun a w st => mid_intro (Int.fdiv x7 (2 ^ (min (16 : Int).toNat (IntKind.bits .u64))), wadd x8 (16 : Int)) h33 (St.cut [] ⟨rfl, rfl, trivial⟩ (by decide) rfl st)
  replace h32 := ite_f b37 h32
  refine GL.skip ?_
  cases h32
  exact fun a w st => mid_intro (x7, x8) h33 (St.cut [] ⟨rfl, rfl, trivial⟩ (by decide) rfl st)
 rintro ⟨x28, x29⟩ h42
 have h43 := h34 _ h42
 try dsimp only at h43
 refine GL.weak (env' := [(0, .int .u64 x28), (2, .int .i64 x29)]) (L' := []) ss ?_
 refine GL.seq ?_
 refine GL.seq ?_
 refine GL.region ?_
 refine RL.mv rfl rfl rfl ?_
 refine RL.binI (v := .bool (decide (x28 ≥ (256 : Int)))) rfl rfl rfl rfl rfl ?_
 refine RL.finG ?_
 obtain ⟨y51, K52, h53, h54, h55, h56, h57⟩ := bindR_K h43
 refine GL.join (ι := Int × Int) (fun (p : Int × Int) => [(0, .int .u64 p.1), (2, .int .i64 p.2)]) (fun (p : Int × Int) => []) (fun (p : Int × Int) => K52 (.nx (p.1, p.2))) ?_ ?_
 ·skip
  refine GL.cond rfl (fun b58 => ?_) (fun b58 => ?_)
  ·replace h53 := ite_t b58 h53
   refine GL.seq ?_
   refine GL.region ?_
   refine RL.mv rfl rfl rfl ?_
   obtain ⟨y61, e62, h53⟩ := bind_some h53
   replace e62 := chk_some e62
   refine RL.sh (by simp) rfl rfl rfl rfl e62 ?_
   refine RL.asg rfl rfl rfl ?_
   refine RL.finG ?_
   refine GL.region ?_
   refine RL.mv rfl rfl rfl ?_
   refine RL.binI (v := .int .i64 (wadd x29 (8 : Int))) rfl rfl rfl rfl rfl ?_
   refine RL.asg rfl rfl rfl ?_
   refine RL.finG ?_
   cases h53
   exact fun a w st => mid_intro (Int.fdiv x28 (2 ^ (min (8 : Int).toNat (IntKind.bits .u64))), wadd x29 (8 : Int)) h54 (St.cut [] ⟨rfl, rfl, trivial⟩ (by decide) rfl st)
  replace h53 := ite_f b58 h53
  refine GL.skip ?_
  cases h53
  exact fun a w st => mid_intro (x28, x29) h54 (St.cut [] ⟨rfl, rfl, trivial⟩ (by decide) rfl st)
 rintro ⟨x49, x50⟩ h63
 have h64 := h55 _ h63
 try dsimp only at h64
 refine GL.weak (env' := [(0, .int .u64 x49), (2, .int .i64 x50)]) (L' := []) ss ?_
 refine GL.seq ?_
 refine GL.region ?_
 refine RL.mv rfl rfl rfl ?_
 refine RL.mv rfl rfl rfl ?_
 refine RL.cvI Tryz.underlying98 Tryz.underlying5 rfl rfl rfl ?_
 obtain ⟨y67, e68, h64⟩ := bind_some h64
 refine RL.idxT Tryz.underlying9 rfl rfl rfl rfl (idx_some e68).1 (idx_some e68).2.2 ?_
 refine RL.cvI Tryz.underlying5 Tryz.underlying3 rfl rfl rfl ?_
 refine RL.binI (v := .int .i64 (wadd x50 (IntKind.wrap .i64 (y67.toNat : Int)))) rfl rfl rfl rfl rfl ?_
 refine RL.asg rfl rfl rfl ?_
 refine RL.finG ?_
 have h64 := Option.some.inj h64
 subst h64
 exact GL.ret (Gx.ret (v := .int .i64 (wadd x50 (IntKind.wrap .i64 (y67.toNat : Int)))) (res1 rfl rfl) (fun a w st => st.toPostC rfl))

theorem math_bits_Len_c (S : Hp) (w : World) (hS : S.sub w) (x0 : Int) (res : Int) (hm : math_bits_Len_m x0 = some res) : Calls Tryz.prog 107 #[.int .u64 x0] w (PostC w (.int .i64 res)) := by
 refine calls_enter 8 Tryz.func107 Tryz.ntmps107 rfl S true [(0, .int .u64 x0)] [] rfl ⟨rfl, trivial⟩ hS trivial ?_
 unfold math_bits_Len_m at hm
 refine GL.seq ?_
 refine GL.region ?_
 refine RL.asg rfl rfl rfl ?_
 refine RL.finG ?_
 refine GL.seq ?_
 refine GL.cond rfl (fun b2 => ?_) (fun b2 => ?_)
 ·exact absurd b2 (by decide)
 refine GL.skip ?_
 refine GL.seq ?_
 refine GL.region ?_
 refine RL.mv rfl rfl rfl ?_
 obtain ⟨y5, e6, hm⟩ := bind_some hm
 refine RL.callC (v := .int .i64 y5) (vs := [.int .u64 x0]) Tryz_fit82 rfl rfl rfl rfl (fun U w hU hW hL => math_bits_Len64_c U w hU x0 _ e6) ?_
 refine RL.asg rfl rfl rfl ?_
 refine RL.finG ?_
 have hm := Option.some.inj hm
 subst hm
 exact GL.ret (Gx.ret (v := .int .i64 y5) (res1 rfl rfl) (fun a w st => st.toPostC rfl))

theorem slices_insertionSortCmpFunc_api_Account_c (B : World) (S X : Hp) (f : Nat → Hp) (w : World) (v0 : Value) (x0 : (List TyA)) (hO : HeapOk B.heap.size S f [own 86 TrA v0 x0, keep X].length w) (hB : Below B.heap.size B w) (hI : Its [own 86 TrA v0 x0, keep X] S f) (x1 : Int) (x2 : Int) (f3 : FuncId) (c3 : Array Value) (t3 : Fit Tryz.prog f3) (g3 : TyA → TyA → Option Int) (k3 : ∀ (U : Hp) (w' : World), Hp.le S U → U.sub w' → ∀ (u0 : Value) (a0 : TyA) (_ : (TrA).vrep U u0 a0) (u1 : Value) (a1 : TyA) (_ : (TrA).vrep U u1 a1) (rr : Int), g3 a0 a1 = some rr → Calls Tryz.prog f3 (#[u0, u1] ++ c3) w' (PostV w' (.int .i64 rr))) (res : (List TyA)) (hm : slices_insertionSortCmpFunc_api_Account_m x0 x1 x2 g3 = some res) : Calls Tryz.prog 113 #[v0, .int .i64 x1, .int .i64 x2, .func (.func f3) #[] c3] w (PostM B S (fun (o : Unit) => .tuple #[]) (fun (o : Unit) => [own 86 TrA v0 res, keep X])) := by
 refine calls_enterM 53 Tryz.func113 Tryz.ntmps113 rfl B S f [(0, v0), (1, .int .i64 x1), (2, .int .i64 x2), (3, .func (.func f3) #[] c3)] [own 86 TrA v0 x0, keep X] [] rfl ⟨rfl, ⟨rfl, ⟨rfl, ⟨rfl, trivial⟩⟩⟩⟩ hB hO hI trivial ?_
 unfold slices_insertionSortCmpFunc_api_Account_m at hm
 refine GL.seq ?_
 refine GL.region ?_
 refine RL.mv rfl rfl rfl ?_
 refine RL.binI (v := .int .i64 (wadd x1 (1 : Int))) rfl rfl rfl rfl rfl ?_
 refine RL.asg rfl rfl rfl ?_
 refine RL.finG ?_
 obtain ⟨y400, K401, h402, h403, h404, h405, h406⟩ := bindR_K hm
 refine GL.join (ι := (List TyA) × Int) (fun (p : (List TyA) × Int) => []) (fun (p : (List TyA) × Int) => [own 86 TrA v0 p.1, keep X]) (fun (p : (List TyA) × Int) => K401 (.nx (p.1, p.2))) ?_ ?_
 ·refine GL.block ?_
  refine GL.loop (ι := Nat × (List TyA) × Int) (fun (p : Nat × (List TyA) × Int) => [(0, v0), (1, .int .i64 x1), (2, .int .i64 x2), (3, .func (.func f3) #[] c3), (8, .int .i64 p.2.2)]) (fun (p : Nat × (List TyA) × Int) => [own 86 TrA v0 p.2.1, keep X]) (fun (p : Nat × (List TyA) × Int) => loopM (slices_insertionSortCmpFunc_api_Account_b1 x2 x1 g3) p.1 (p.2.1, p.2.2) = some y400) (fun (p : Nat × (List TyA) × Int) => p.1) (1048576, x0, wadd x1 (1 : Int)) h402 (fun a w st => St.cut [0, 1] ⟨rfl, rfl, rfl, rfl, rfl, trivial⟩ (by decide) rfl st) ?_
  rintro ⟨r408, l202, x203⟩ h412
  try dsimp only at h412
  refine GL.weak (env' := [(0, v0), (1, .int .i64 x1), (2, .int .i64 x2), (3, .func (.func f3) #[] c3), (8, .int .i64 x203)]) (L' := [own 86 TrA v0 l202, keep X]) ss ?_
  obtain ⟨r415, z409, hr, h410, h411⟩ := loopM_some h412
  subst hr
  unfold slices_insertionSortCmpFunc_api_Account_b1 at h410
  try dsimp only at h410
  refine GL.seq ?_
  refine GL.seq ?_
  refine GL.region ?_
  refine RL.mv rfl rfl rfl ?_
  refine RL.mv rfl rfl rfl ?_
  refine RL.binI (v := .bool (decide (x203 < x2))) rfl rfl rfl rfl rfl ?_
  refine RL.finG ?_
  refine GL.cond rfl (fun b416 => ?_) (fun b416 => ?_)
  ·replace h410 := ite_t b416 h410
   refine GL.skip ?_
   refine GL.seq ?_
   refine GL.block ?_
   refine GL.seq ?_
   refine GL.region ?_
   refine RL.mv rfl rfl rfl ?_
   refine RL.asg rfl rfl rfl ?_
   refine RL.finG ?_
   obtain ⟨y536, K537, h538, h539, h540, h541, h542⟩ := bindF_K h410
   refine GL.join (ι := (List TyA) × Int) (fun (p : (List TyA) × Int) => [(0, v0), (1, .int .i64 x1), (2, .int .i64 x2), (3, .func (.func f3) #[] c3), (8, .int .i64 x203)]) (fun (p : (List TyA) × Int) => [own 86 TrA v0 p.1, keep X]) (fun (p : (List TyA) × Int) => K537 (.nx (p.1, p.2))) ?_ ?_
   ·refine GL.block ?_
    refine GL.loop (ι := Nat × (List TyA) × Int) (fun (p : Nat × (List TyA) × Int) => [(0, v0), (1, .int .i64 x1), (2, .int .i64 x2), (3, .func (.func f3) #[] c3), (8, .int .i64 x203), (9, .int .i64 p.2.2)]) (fun (p : Nat × (List TyA) × Int) => [own 86 TrA v0 p.2.1, keep X]) (fun (p : Nat × (List TyA) × Int) => loopM (slices_insertionSortCmpFunc_api_Account_b2 x1 g3) p.1 (p.2.1, p.2.2) = some y536) (fun (p : Nat × (List TyA) × Int) => p.1) (1048576, l202, x203) h538 (fun a w st => St.cut [0, 1] ⟨rfl, rfl, rfl, rfl, rfl, rfl, trivial⟩ (by decide) rfl st) ?_
    rintro ⟨r544, l476, x477⟩ h548
    try dsimp only at h548
    refine GL.weak (env' := [(0, v0), (1, .int .i64 x1), (2, .int .i64 x2), (3, .func (.func f3) #[] c3), (8, .int .i64 x203), (9, .int .i64 x477)]) (L' := [own 86 TrA v0 l476, keep X]) ss ?_
    obtain ⟨r551, z545, hr, h546, h547⟩ := loopM_some h548
    subst hr
    unfold slices_insertionSortCmpFunc_api_Account_b2 at h546
    try dsimp only at h546
    refine GL.seq ?_
    refine GL.seq ?_
    obtain ⟨y571, K572, h573, h574, h575, h576, h577⟩ := bindF_K h546
    refine GL.join (ι := Bool) (fun (p : Bool) => [(0, v0), (1, .int .i64 x1), (2, .int .i64 x2), (3, .func (.func f3) #[] c3), (8, .int .i64 x203), (9, .int .i64 x477), (34, .bool p)]) (fun (p : Bool) => [own 86 TrA v0 l476, keep X]) (fun (p : Bool) => K572 (.nx p)) ?_ ?_
    ·skip
     refine GL.regionQ rfl rfl (by kernel_rfl) ?_
     refine RL.mv rfl rfl rfl ?_
     refine RL.mv rfl rfl rfl ?_
     refine RL.binI (v := .bool (decide (x477 > x1))) rfl rfl rfl rfl rfl ?_
     refine RL.mv rfl rfl rfl ?_
     refine RL.split (t := 21) rfl (fun b578 => ?_) (fun b578 => ?_)
     ·replace h573 := ite_t b578 h573
      refine RL.mv rfl rfl rfl ?_
      refine RL.mv rfl rfl rfl ?_
      refine RL.mv rfl rfl rfl ?_
      obtain ⟨y579, e580, h573⟩ := bind_some h573
      refine RL.idxS (sz := 3) 0 Tryz.underlying42 Tryz_ln86 rfl rfl rfl rfl rfl SlOf.own (idx_some e580).1 (idx_some e580).2.1 ?_
      refine RL.ldS (i := (x477).toNat) (r := TrA) (e' := y579) 0 Tryz_ln86 rfl rfl rfl rfl SlOf.own (idx_some e580).2.2 Part.self ?_
      intro v581
      refine RL.mv rfl rfl rfl ?_
      refine RL.mv rfl rfl rfl ?_
      refine RL.binI (v := .int .i64 (wsub x477 (1 : Int))) rfl rfl rfl rfl rfl ?_
      obtain ⟨y582, e583, h573⟩ := bind_some h573
      refine RL.idxS (sz := 3) 0 Tryz.underlying42 Tryz_ln86 rfl rfl rfl rfl rfl SlOf.own (idx_some e583).1 (idx_some e583).2.1 ?_
      refine RL.ldS (i := (wsub x477 (1 : Int)).toNat) (r := TrA) (e' := y582) 0 Tryz_ln86 rfl rfl rfl rfl SlOf.own (idx_some e583).2.2 Part.self ?_
      intro v584
      refine RL.reL (L' := [own 86 TrA v0 l476, keep X, imm TrA v581 y579, imm TrA v584 y582]) rfl ?_
      obtain ⟨y585, e586, h573⟩ := bind_some h573
      refine RL.callV (v := .int .i64 y585) (vs := [v581, v584]) t3 rfl (Or.inr ⟨_, rfl⟩) rfl rfl rfl rfl (fun U w hU hW hL => k3 U w hW hU _ _ (hL 2 _ _ rfl Seen.imm) _ _ (hL 3 _ _ rfl Seen.imm) _ e586) ?_
      refine RL.binI (v := .bool (decide (y585 < (0 : Int)))) rfl rfl rfl rfl rfl ?_
      refine RL.pickT rfl rfl rfl rfl ?_
      refine RL.finQ ?_
      cases h573
      exact fun a w st => mid_intro (decide (y585 < (0 : Int))) h574 (St.cut [0, 1] ⟨rfl, rfl, rfl, rfl, rfl, rfl, rfl, trivial⟩ (by decide) rfl st)
     replace h573 := ite_f b578 h573
     refine RL.skip rfl rfl ?_
     refine RL.skip rfl rfl ?_
     refine RL.skip rfl rfl ?_
     refine RL.skip rfl rfl ?_
     refine RL.skip rfl rfl ?_
     refine RL.skip rfl rfl ?_
     refine RL.skip rfl rfl ?_
     refine RL.skip rfl rfl ?_
     refine RL.skip rfl rfl ?_
     refine RL.skip rfl rfl ?_
     refine RL.skip rfl rfl ?_
     refine RL.skip rfl rfl ?_
     refine RL.pickF rfl rfl rfl rfl ?_
     refine RL.finQ ?_
     cases h573
     exact fun a w st => mid_intro false h574 (St.cut [0, 1] ⟨rfl, rfl, rfl, rfl, rfl, rfl, rfl, trivial⟩ (by decide) rfl st)
    rintro x570 h587
    have h588 := h575 _ h587
    try dsimp only at h588
    refine GL.weak (env' := [(0, v0), (1, .int .i64 x1), (2, .int .i64 x2), (3, .func (.func f3) #[] c3), (8, .int .i64 x203), (9, .int .i64 x477), (34, .bool x570)]) (L' := [own 86 TrA v0 l476, keep X]) ss ?_
    refine GL.cond rfl (fun b589 => ?_) (fun b589 => ?_)
    ·replace h588 := ite_t b589 h588
     refine GL.skip ?_
     refine GL.seq ?_
     refine GL.block ?_
     refine GL.regionA rfl rfl ?_
     refine RA.mv 0 rfl (by kernel_rfl) rfl rfl rfl ?_
     refine RA.mv 1 rfl (by kernel_rfl) rfl rfl rfl ?_
     refine RA.mv 2 rfl (by kernel_rfl) rfl rfl rfl ?_
     refine RA.mv 3 rfl (by kernel_rfl) rfl rfl rfl ?_
     refine RA.binI (v := .int .i64 (wsub x477 (1 : Int))) 4 rfl (by kernel_rfl) rfl rfl rfl rfl rfl ?_
     refine RA.mv 5 rfl (by kernel_rfl) rfl rfl rfl ?_
     refine RA.mv 6 rfl (by kernel_rfl) rfl rfl rfl ?_
     refine RA.binI (v := .int .i64 (wsub x477 (1 : Int))) 7 rfl (by kernel_rfl) rfl rfl rfl rfl rfl ?_
     obtain ⟨y600, e601, h588⟩ := bind_some h588
     refine RA.idxS (sz := 3) 0 Tryz.underlying42 Tryz_ln86 8 rfl (by kernel_rfl) rfl rfl rfl rfl rfl SlOf.own (idx_some e601).1 (idx_some e601).2.1 ?_
     refine RA.mv 10 rfl (by kernel_rfl) rfl rfl rfl ?_
     refine RA.mv 11 rfl (by kernel_rfl) rfl rfl rfl ?_
     obtain ⟨y602, e603, h588⟩ := bind_some h588
     refine RA.idxS (sz := 3) 0 Tryz.underlying42 Tryz_ln86 12 rfl (by kernel_rfl) rfl rfl rfl rfl rfl SlOf.own (idx_some e603).1 (idx_some e603).2.1 ?_
     refine RA.still (le := q_0) (f := 3) [9, 13, 14] 15 rfl (by kernel_rfl) ?_
     simp only [pickOps, List.getElem?_toArray, List.getElem?_cons_succ, List.getElem?_cons_zero]
     refine RL.ldS (i := (wsub x477 (1 : Int)).toNat) (r := TrA) (e' := y600) 0 Tryz_ln86 rfl rfl rfl rfl SlOf.own (idx_some e601).2.2 Part.self ?_
     intro v604
     refine RL.ldS (i := (x477).toNat) (r := TrA) (e' := y602) 0 Tryz_ln86 rfl rfl rfl rfl SlOf.own (idx_some e603).2.2 Part.self ?_
     intro v605
     obtain ⟨y606, e607, h588⟩ := bind_some h588
     refine RL.idxS (sz := 3) 0 Tryz.underlying42 Tryz_ln86 rfl rfl rfl rfl rfl SlOf.own (idx_some e607).1 (idx_some e607).2.1 ?_
     refine RL.finH ?_
     refine RL.fin ?_
     refine RA.next ?_
     refine RA.seq 15 rfl (by kernel_rfl) ?_
     refine RL.stS (i := (x477).toNat) (e' := y600) (e1 := y600) (r := TrA) 0 Tryz_ln86 rfl rfl rfl rfl (VR.item 2 rfl) rfl (idx_some e607).2.2 Upd.self ?_
     refine RL.fin ?_
     refine RA.next ?_
     obtain ⟨y608, e609, h588⟩ := bind_some h588
     refine RA.idxS (sz := 3) 0 Tryz.underlying42 Tryz_ln86 16 rfl (by kernel_rfl) rfl rfl rfl rfl rfl SlOf.own (idx_some e609).1 (idx_some e609).2.1 ?_
     refine RA.seq 17 rfl (by kernel_rfl) ?_
     refine RL.stS (i := (wsub x477 (1 : Int)).toNat) (e' := y602) (e1 := y602) (r := TrA) 0 Tryz_ln86 rfl rfl rfl rfl (VR.item 3 rfl) rfl (idx_some e609).2.2 Upd.self ?_
     refine RL.fin ?_
     refine RA.next ?_
     refine RA.doneG (by kernel_rfl) ?_
     refine GL.weak (env' := [(0, v0), (1, .int .i64 x1), (2, .int .i64 x2), (3, .func (.func f3) #[] c3), (8, .int .i64 x203), (9, .int .i64 x477)]) (L' := [own 86 TrA v0 (List.set (List.set l476 ((x477).toNat) y600) ((wsub x477 (1 : Int)).toNat) y602), keep X]) (fun a w st => St.cut [0, 1] ⟨rfl, rfl, rfl, rfl, rfl, rfl, trivial⟩ (by decide) rfl st) ?_
     refine GL.nilB ?_
     refine GL.region ?_
     refine RL.mv rfl rfl rfl ?_
     refine RL.binI (v := .int .i64 (wsub x477 (1 : Int))) rfl rfl rfl rfl rfl ?_
     refine RL.asg rfl rfl rfl ?_
     refine RL.finG ?_
     cases h588
     exact fun a w st => lop_intro (r551, (List.set (List.set l476 ((x477).toNat) y600) ((wsub x477 (1 : Int)).toNat) y602), wsub x477 (1 : Int)) (by exact h547) (by simp) (St.cut [0, 1] ⟨rfl, rfl, rfl, rfl, rfl, rfl, trivial⟩ (by decide) rfl st)
    replace h588 := ite_f b589 h588
    cases h588
    replace h547 : some (Fl.nx _) = some y536 := h547
    cases h547
    exact GL.exit (fun a w st => mid_intro (l476, x477) h539 (St.cut [0, 1] ⟨rfl, rfl, rfl, rfl, rfl, trivial⟩ (by decide) rfl st))
   rintro ⟨l476, x477⟩ h610
   have h611 := h540 _ h610
   try dsimp only at h611
   refine GL.weak (env' := [(0, v0), (1, .int .i64 x1), (2, .int .i64 x2), (3, .func (.func f3) #[] c3), (8, .int .i64 x203)]) (L' := [own 86 TrA v0 l476, keep X]) ss ?_
   refine GL.nilB ?_
   refine GL.region ?_
   refine RL.mv rfl rfl rfl ?_
   refine RL.binI (v := .int .i64 (wadd x203 (1 : Int))) rfl rfl rfl rfl rfl ?_
   refine RL.asg rfl rfl rfl ?_
   refine RL.finG ?_
   cases h611
   exact fun a w st => lop_intro (r415, l476, wadd x203 (1 : Int)) (by exact h411) (by simp) (St.cut [0, 1] ⟨rfl, rfl, rfl, rfl, rfl, trivial⟩ (by decide) rfl st)
  replace h410 := ite_f b416 h410
  cases h410
  replace h411 : some (Fl.nx _) = some y400 := h411
  cases h411
  exact GL.exit (fun a w st => mid_intro (l202, x203) h403 (St.cut [0, 1] trivial (by decide) rfl st))
 rintro ⟨l202, x203⟩ h612
 have h613 := h404 _ h612
 try dsimp only at h613
 refine GL.weak (env' := []) (L' := [own 86 TrA v0 l202, keep X]) ss ?_
 have h613 := Option.some.inj h613
 subst h613
 exact GL.nil (Gx.retN (v := .tuple #[]) (res0 rfl) (fun a w st => (st.pick [0, 1] (by decide) rfl).toPostM (V := fun (o : Unit) => .tuple #[]) (LR := fun (o : Unit) => [own 86 TrA v0 l202, keep X]) ()))

theorem slices_pdqsortCmpFunc_api_Account_c (B : World) (S X : Hp) (f : Nat → Hp) (w : World) (v0 : Value) (x0 : (List TyA)) (hO : HeapOk B.heap.size S f [own 86 TrA v0 x0, keep X].length w) (hB : Below B.heap.size B w) (hI : Its [own 86 TrA v0 x0, keep X] S f) (x1 : Int) (x2 : Int) (x3 : Int) (f4 : FuncId) (c4 : Array Value) (t4 : Fit Tryz.prog f4) (g4 : TyA → TyA → Option Int) (k4 : ∀ (U : Hp) (w' : World), Hp.le S U → U.sub w' → ∀ (u0 : Value) (a0 : TyA) (_ : (TrA).vrep U u0 a0) (u1 : Value) (a1 : TyA) (_ : (TrA).vrep U u1 a1) (rr : Int), g4 a0 a1 = some rr → Calls Tryz.prog f4 (#[u0, u1] ++ c4) w' (PostV w' (.int .i64 rr))) (res : (List TyA)) (hm : slices_pdqsortCmpFunc_api_Account_m x0 x1 x2 x3 g4 = some res) : Calls Tryz.prog 106 #[v0, .int .i64 x1, .int .i64 x2, .int .i64 x3, .func (.func f4) #[] c4] w (PostM B S (fun (o : Unit) => .tuple #[]) (fun (o : Unit) => [own 86 TrA v0 res, keep X])) := by
 refine calls_enterM 148 Tryz.func106 Tryz.ntmps106 rfl B S f [(0, v0), (1, .int .i64 x1), (2, .int .i64 x2), (3, .int .i64 x3), (4, .func (.func f4) #[] c4)] [own 86 TrA v0 x0, keep X] [] rfl ⟨rfl, ⟨rfl, ⟨rfl, ⟨rfl, ⟨rfl, trivial⟩⟩⟩⟩⟩ hB hO hI trivial ?_
 unfold slices_pdqsortCmpFunc_api_Account_m at hm
 refine GL.seq ?_
 refine GL.region ?_
 refine RL.asg rfl rfl rfl ?_
 refine RL.finG ?_
 refine GL.seq ?_
 refine GL.region ?_
 refine RL.asg rfl rfl rfl ?_
 refine RL.finG ?_
 obtain ⟨y83, K84, h85, h86, h87, h88, h89⟩ := bindR_K hm
 refine GL.join (ι := (List TyA) × Int × Int × Int × Bool × Bool) (fun (p : (List TyA) × Int × Int × Int × Bool × Bool) => []) (fun (p : (List TyA) × Int × Int × Int × Bool × Bool) => [own 86 TrA v0 p.1, keep X]) (fun (p : (List TyA) × Int × Int × Int × Bool × Bool) => K84 (.nx (p.1, p.2.1, p.2.2.1, p.2.2.2.1, p.2.2.2.2.1, p.2.2.2.2.2))) ?_ ?_
 ·refine GL.block ?_
  refine GL.loop (ι := Nat × (List TyA) × Int × Int × Int × Bool × Bool) (fun (p : Nat × (List TyA) × Int × Int × Int × Bool × Bool) => [(0, v0), (1, .int .i64 p.2.2.1), (2, .int .i64 p.2.2.2.1), (3, .int .i64 p.2.2.2.2.1), (4, .func (.func f4) #[] c4), (10, .bool p.2.2.2.2.2.1), (11, .bool p.2.2.2.2.2.2)]) (fun (p : Nat × (List TyA) × Int × Int × Int × Bool × Bool) => [own 86 TrA v0 p.2.1, keep X]) (fun (p : Nat × (List TyA) × Int × Int × Int × Bool × Bool) => loopM (slices_pdqsortCmpFunc_api_Account_b1 g4) p.1 (p.2.1, p.2.2.1, p.2.2.2.1, p.2.2.2.2.1, p.2.2.2.2.2.1, p.2.2.2.2.2.2) = some y83) (fun (p : Nat × (List TyA) × Int × Int × Int × Bool × Bool) => p.1) (1048576, x0, x1, x2, x3, true, true) h85 (fun a w st => St.cut [0, 1] ⟨rfl, rfl, rfl, rfl, rfl, rfl, rfl, trivial⟩ (by decide) rfl st) ?_
  rintro ⟨r91, l44, x45, x46, x47, x48, x49⟩ h95
  try dsimp only at h95
  refine GL.weak (env' := [(0, v0), (1, .int .i64 x45), (2, .int .i64 x46), (3, .int .i64 x47), (4, .func (.func f4) #[] c4), (10, .bool x48), (11, .bool x49)]) (L' := [own 86 TrA v0 l44, keep X]) ss ?_
  obtain ⟨r98, z92, hr, h93, h94⟩ := loopM_some h95
  subst hr
  unfold slices_pdqsortCmpFunc_api_Account_b1 at h93
  try dsimp only at h93
  refine GL.block ?_
  refine GL.seq ?_
  refine GL.region ?_
  refine RL.mv rfl rfl rfl ?_
  refine RL.mv rfl rfl rfl ?_
  refine RL.binI (v := .int .i64 (wsub x46 x45)) rfl rfl rfl rfl rfl ?_
  refine RL.asg rfl rfl rfl ?_
  refine RL.finG ?_
  refine GL.seq ?_
  refine GL.seq ?_
  refine GL.region ?_
  refine RL.mv rfl rfl rfl ?_
  refine RL.binI (v := .bool (decide ((wsub x46 x45) ≤ (12 : Int)))) rfl rfl rfl rfl rfl ?_
  refine RL.finG ?_
  refine GL.cond rfl (fun b99 => ?_) (fun b99 => ?_)
  ·replace h93 := ite_t b99 h93
   refine GL.seq ?_
   refine GL.region ?_
   refine RL.mv rfl rfl rfl ?_
   refine RL.mv rfl rfl rfl ?_
   refine RL.mv rfl rfl rfl ?_
   refine RL.mv rfl rfl rfl ?_
   obtain ⟨y106, e107, h93⟩ := bind_some h93
   refine RL.callK (vs := [v0, .int .i64 x45, .int .i64 x46, .func (.func f4) #[] c4]) (V := fun (o : Unit) => .tuple #[]) (LR := fun (o : Unit) => [own 86 TrA v0 y106]) (Ls := [own 86 TrA v0 l44]) [0] (by decide) Tryz_fit113 rfl rfl rfl rfl rfl rfl (fun S f X w hO hB hW hI hL => slices_insertionSortCmpFunc_api_Account_c _ S X f w _ _  hO hB hI x45 x46 f4 c4 t4 g4 (fun U' w' hle => k4 U' w' (Hp.le_trans hW hle)) _ e107) ?_
   intro _
   refine RL.reL (L' := [gone, keep X, own 86 TrA v0 y106]) rfl ?_
   refine RL.finG ?_
   cases h93
   replace h94 : some (Fl.rt _) = some y83 := h94
   cases h94
   have hh := h88 _ h86
   subst hh
   exact GL.ret (Gx.ret (v := .tuple #[]) (res0 rfl) (fun a w st => (st.pick [2, 1] (by decide) rfl).toPostM (V := fun (o : Unit) => .tuple #[]) (LR := fun (o : Unit) => [own 86 TrA v0 y106, keep X]) ()))
  replace h93 := ite_f b99 h93
  refine GL.skip ?_
  refine GL.seq ?_
  refine GL.seq ?_
  refine GL.region ?_
  refine RL.mv rfl rfl rfl ?_
  refine RL.binI (v := .bool (x47 == (0 : Int))) rfl rfl rfl rfl rfl ?_
  refine RL.finG ?_
  refine GL.cond rfl (fun b120 => ?_) (fun b120 => ?_)
  ·replace h93 := ite_t b120 h93
   cases h93
  replace h93 := ite_f b120 h93
  cases h93
 rintro ⟨l44, x45, x46, x47, x48, x49⟩ h132
 have h133 := h87 _ h132
 try dsimp only at h133
 cases h133

theorem slices_SortFunc_api_Account_api_Account_c (B : World) (S X : Hp) (f : Nat → Hp) (w : World) (v0 : Value) (x0 : (List TyA)) (hO : HeapOk B.heap.size S f [own 86 TrA v0 x0, keep X].length w) (hB : Below B.heap.size B w) (hI : Its [own 86 TrA v0 x0, keep X] S f) (f1 : FuncId) (c1 : Array Value) (t1 : Fit Tryz.prog f1) (g1 : TyA → TyA → Option Int) (k1 : ∀ (U : Hp) (w' : World), Hp.le S U → U.sub w' → ∀ (u0 : Value) (a0 : TyA) (_ : (TrA).vrep U u0 a0) (u1 : Value) (a1 : TyA) (_ : (TrA).vrep U u1 a1) (rr : Int), g1 a0 a1 = some rr → Calls Tryz.prog f1 (#[u0, u1] ++ c1) w' (PostV w' (.int .i64 rr))) (res : (List TyA)) (hm : slices_SortFunc_api_Account_api_Account_m x0 g1 = some res) : Calls Tryz.prog 90 #[v0, .func (.func f1) #[] c1] w (PostM B S (fun (o : Unit) => .tuple #[]) (fun (o : Unit) => [own 86 TrA v0 res, keep X])) := by
 refine calls_enterM 14 Tryz.func90 Tryz.ntmps90 rfl B S f [(0, v0), (1, .func (.func f1) #[] c1)] [own 86 TrA v0 x0, keep X] [] rfl ⟨rfl, ⟨rfl, trivial⟩⟩ hB hO hI trivial ?_
 unfold slices_SortFunc_api_Account_api_Account_m at hm
 refine GL.seq ?_
 refine GL.region ?_
 refine RL.mv rfl rfl rfl ?_
 refine RL.lenS 0 Tryz.underlying42 rfl rfl rfl rfl SlOf.own ?_
 refine RL.asg rfl rfl rfl ?_
 refine RL.finG ?_
 refine GL.region ?_
 refine RL.mv rfl rfl rfl ?_
 refine RL.mv rfl rfl rfl ?_
 refine RL.mv rfl rfl rfl ?_
 refine RL.cvI Tryz.underlying3 Tryz.underlying78 rfl rfl rfl ?_
 obtain ⟨y7, e8, hm⟩ := bind_some hm
 refine RL.callC (v := .int .i64 y7) (vs := [.int .u64 (IntKind.wrap .u64 ((x0).length : Int))]) Tryz_fit107 rfl rfl rfl rfl (fun U w hU hW hL => math_bits_Len_c U w hU (IntKind.wrap .u64 ((x0).length : Int)) _ e8) ?_
 refine RL.mv rfl rfl rfl ?_
 obtain ⟨y9, e10, hm⟩ := bind_some hm
 refine RL.callK (vs := [v0, .int .i64 (0 : Int), .int .i64 ((x0).length : Int), .int .i64 y7, .func (.func f1) #[] c1]) (V := fun (o : Unit) => .tuple #[]) (LR := fun (o : Unit) => [own 86 TrA v0 y9]) (Ls := [own 86 TrA v0 x0]) [0] (by decide) Tryz_fit106 rfl rfl rfl rfl rfl rfl (fun S f X w hO hB hW hI hL => slices_pdqsortCmpFunc_api_Account_c _ S X f w _ _  hO hB hI (0 : Int) ((x0).length : Int) y7 f1 c1 t1 g1 (fun U' w' hle => k1 U' w' (Hp.le_trans hW hle)) _ e10) ?_
 intro _
 refine RL.reL (L' := [gone, keep X, own 86 TrA v0 y9]) rfl ?_
 refine RL.finG ?_
 have hm := Option.some.inj hm
 subst hm
 exact GL.nil (Gx.retN (v := .tuple #[]) (res0 rfl) (fun a w st => (st.pick [2, 1] (by decide) rfl).toPostM (V := fun (o : Unit) => .tuple #[]) (LR := fun (o : Unit) => [own 86 TrA v0 y9, keep X]) ()))

theorem ledger_Open_1_c (S : Hp) (w : World) (hS : S.sub w) (v0 : Value) (x0 : TyA) (k0 : (TrA).vrep S v0 x0) (v1 : Value) (x1 : TyA) (k1 : (TrA).vrep S v1 x1) (res : Int) (hm : ledger_Open_1_m x0 x1 = some res) : Calls Tryz.prog 91 #[v0, v1] w (PostV w (.int .i64 res)) := by
 refine calls_enter 10 Tryz.func91 Tryz.ntmps91 rfl S false [(0, v0), (1, v1)] [imm TrA v0 x0, imm TrA v1 x1] rfl ⟨rfl, ⟨rfl, trivial⟩⟩ hS ⟨k0, ⟨k1, trivial⟩⟩ ?_
 unfold ledger_Open_1_m at hm
 refine GL.seq ?_
 refine GL.region ?_
 refine RL.box (t := TrA) (e := x0) rfl rfl rfl rfl (VR.item 0 rfl) ?_
 intro v5
 refine RL.box (t := TrA) (e := x1) rfl rfl rfl rfl (VR.item 1 rfl) ?_
 intro v6
 refine RL.reL (L' := [imm TrA v0 x0, imm TrA v1 x1, obox 86 TrA v5 x0, obox 86 TrA v6 x1]) rfl ?_
 refine RL.asg rfl rfl rfl ?_
 refine RL.finG ?_
 refine GL.seq ?_
 refine GL.seq ?_
 refine GL.region ?_
 refine RL.fadr (off := 0) (fo := 0) 2 Tryz_fld86_0 rfl rfl rfl PtOf.obox (Or.inr ⟨rfl, rfl⟩) ?_
 refine RL.ldPx (off := (0 + 0)) (e' := x0.1) 2 Ex.str Tryz_ln9 rfl rfl (Or.inl rfl) rfl PtOf.obox (Part.fst Part.self) ?_
 refine RL.fadr (off := 0) (fo := 0) 3 Tryz_fld86_0 rfl rfl rfl PtOf.obox (Or.inr ⟨rfl, rfl⟩) ?_
 refine RL.ldPx (off := (0 + 0)) (e' := x1.1) 3 Ex.str Tryz_ln9 rfl rfl (Or.inl rfl) rfl PtOf.obox (Part.fst Part.self) ?_
 refine RL.binS (v := .bool (bls x0.1 x1.1)) rfl rfl rfl rfl rfl ?_
 refine RL.finG ?_
 refine GL.cond rfl (fun b7 => ?_) (fun b7 => ?_)
 ·replace hm := ite_t b7 hm
  refine GL.seq ?_
  refine GL.region ?_
  refine RL.asg rfl rfl rfl ?_
  refine RL.finG ?_
  have hm := Option.some.inj hm
  subst hm
  exact GL.ret (Gx.ret (v := .int .i64 (-1 : Int)) (res1 rfl rfl) (fun a w st => st.toPostV))
 replace hm := ite_f b7 hm
 refine GL.skip ?_
 refine GL.seq ?_
 refine GL.region ?_
 refine RL.asg rfl rfl rfl ?_
 refine RL.finG ?_
 have hm := Option.some.inj hm
 subst hm
 exact GL.ret (Gx.ret (v := .int .i64 (1 : Int)) (res1 rfl rfl) (fun a w st => st.toPostV))

theorem ledger_Open_c (S : Hp) (w : World) (hS : S.sub w) (v0 : Value) (x0 : (List TyA)) (k0 : ((TR.sl TrA)).vrep S v0 x0) (x1 : B8) (x2 : Int) (res : (List TyA) × Int) (hm : ledger_Open_m x0 x1 x2 = some res) : Calls Tryz.prog 64 #[v0, (sv x1), .int .i64 x2] w (Post w S (fun (o : Value) => .tuple #[o, .int .i64 res.2]) (fun (o : Value) => [own 86 TrA o res.1])) := by
 refine calls_enter 45 Tryz.func64 Tryz.ntmps64 rfl S false [(0, v0), (1, (sv x1)), (2, .int .i64 x2)] [imm (TR.sl TrA) v0 x0] rfl ⟨rfl, ⟨rfl, ⟨rfl, trivial⟩⟩⟩ hS ⟨k0, trivial⟩ ?_
 unfold ledger_Open_m at hm
 refine GL.seq ?_
 refine GL.region ?_
 refine RL.asg rfl rfl rfl ?_
 refine RL.asg rfl rfl rfl ?_
 refine RL.finG ?_
 refine GL.seq ?_
 refine GL.seq ?_
 refine GL.region ?_
 refine RL.mv rfl rfl rfl ?_
 obtain ⟨y6, e7, hm⟩ := bind_some hm
 refine RL.callV (v := .int .i64 y6) (vs := [v0]) Tryz_fit86 rfl (Or.inl rfl) rfl rfl rfl rfl (fun U w hU hW hL => ledger_Check_c U w hU _ _ (hL 0 _ _ rfl Seen.imm) _ e7) ?_
 refine RL.asg rfl rfl rfl ?_
 refine RL.finG ?_
 refine GL.seq ?_
 refine GL.region ?_
 refine RL.mv rfl rfl rfl ?_
 refine RL.binI (v := .bool (y6 != (0 : Int))) rfl rfl rfl rfl rfl ?_
 refine RL.finG ?_
 refine GL.cond rfl (fun b8 => ?_) (fun b8 => ?_)
 ·replace hm := ite_t b8 hm
  refine GL.seq ?_
  refine GL.region ?_
  refine RL.mv rfl rfl rfl ?_
  refine RL.asg rfl rfl rfl ?_
  refine RL.asg rfl rfl rfl ?_
  refine RL.finG ?_
  refine GL.weak (fun a w st => st.nilOwn 86 TrA) ?_
  have hm := Option.some.inj hm
  subst hm
  exact GL.ret (Gx.ret (v := .tuple #[Value.slice none 0 0, .int .i64 y6]) (res2 rfl rfl rfl) (fun a w st => (st.pick [1] (by decide) rfl).toPost (Value.slice none 0 0)))
 replace hm := ite_f b8 hm
 refine GL.skip ?_
 refine GL.seq ?_
 refine GL.block ?_
 refine GL.seq ?_
 refine GL.region ?_
 refine RL.mv rfl rfl rfl ?_
 obtain ⟨y11, e12, hm⟩ := bind_some hm
 refine RL.callV (v := .bool y11) (vs := [(sv x1)]) Tryz_fit87 rfl (Or.inl rfl) rfl rfl rfl rfl (fun U w hU hW hL => ledger_named_c U w hU x1 _ e12) ?_
 refine RL.notB rfl rfl rfl ?_
 refine RL.asg rfl rfl rfl ?_
 refine RL.finG ?_
 refine GL.cond rfl (fun b13 => ?_) (fun b13 => ?_)
 ·replace hm := ite_t b13 hm
  refine GL.seq ?_
  refine GL.region ?_
  refine RL.asg rfl rfl rfl ?_
  refine RL.asg rfl rfl rfl ?_
  refine RL.finG ?_
  refine GL.weak (fun a w st => st.nilOwn 86 TrA) ?_
  have hm := Option.some.inj hm
  subst hm
  exact GL.ret (Gx.ret (v := .tuple #[Value.slice none 0 0, .int .i64 (3 : Int)]) (res2 rfl rfl rfl) (fun a w st => (st.pick [1] (by decide) rfl).toPost (Value.slice none 0 0)))
 replace hm := ite_f b13 hm
 refine GL.seq ?_
 obtain ⟨y17, K18, h19, h20, h21, h22, h23⟩ := bindR_K hm
 refine GL.join (ι := Bool) (fun (p : Bool) => [(0, v0), (1, (sv x1)), (2, .int .i64 x2), (19, .bool p)]) (fun (p : Bool) => [imm (TR.sl TrA) v0 x0]) (fun (p : Bool) => K18 (.nx p)) ?_ ?_
 ·skip
  refine GL.region ?_
  refine RL.mv rfl rfl rfl ?_
  refine RL.binI (v := .bool (decide (x2 < (0 : Int)))) rfl rfl rfl rfl rfl ?_
  refine RL.mv rfl rfl rfl ?_
  refine RL.split (t := 22) rfl (fun b24 => ?_) (fun b24 => ?_)
  ·replace h19 := ite_t b24 h19
   refine RL.skip rfl rfl ?_
   refine RL.skip rfl rfl ?_
   refine RL.pickT rfl rfl rfl rfl ?_
   refine RL.asg rfl rfl rfl ?_
   refine RL.fin ?_
   cases h19
   exact fun a w st => mid_intro true h20 (St.cut [0] ⟨rfl, rfl, rfl, rfl, trivial⟩ (by decide) rfl st)
  replace h19 := ite_f b24 h19
  refine RL.mv rfl rfl rfl ?_
  refine RL.binI (v := .bool (decide (x2 > (1000000 : Int)))) rfl rfl rfl rfl rfl ?_
  refine RL.pickF rfl rfl rfl rfl ?_
  refine RL.asg rfl rfl rfl ?_
  refine RL.fin ?_
  cases h19
  exact fun a w st => mid_intro (decide (x2 > (1000000 : Int))) h20 (St.cut [0] ⟨rfl, rfl, rfl, rfl, trivial⟩ (by decide) rfl st)
 rintro x16 h25
 have h26 := h21 _ h25
 try dsimp only at h26
 refine GL.weak (env' := [(0, v0), (1, (sv x1)), (2, .int .i64 x2), (19, .bool x16)]) (L' := [imm (TR.sl TrA) v0 x0]) ss ?_
 refine GL.cond rfl (fun b27 => ?_) (fun b27 => ?_)
 ·replace h26 := ite_t b27 h26
  refine GL.seq ?_
  refine GL.region ?_
  refine RL.asg rfl rfl rfl ?_
  refine RL.asg rfl rfl rfl ?_
  refine RL.finG ?_
  refine GL.weak (fun a w st => st.nilOwn 86 TrA) ?_
  have h26 := Option.some.inj h26
  subst h26
  exact GL.ret (Gx.ret (v := .tuple #[Value.slice none 0 0, .int .i64 (1 : Int)]) (res2 rfl rfl rfl) (fun a w st => (st.pick [1] (by decide) rfl).toPost (Value.slice none 0 0)))
 replace h26 := ite_f b27 h26
 refine GL.seq ?_
 refine GL.region ?_
 refine RL.mv rfl rfl rfl ?_
 refine RL.mv rfl rfl rfl ?_
 obtain ⟨y30, e31, h26⟩ := bind_some h26
 refine RL.callV (v := .int .i64 y30) (vs := [v0, (sv x1)]) Tryz_fit88 rfl (Or.inl rfl) rfl rfl rfl rfl (fun U w hU hW hL => ledger_find_c U w hU _ _ (hL 0 _ _ rfl Seen.imm) x1 _ e31) ?_
 refine RL.binI (v := .bool (decide (y30 ≥ (0 : Int)))) rfl rfl rfl rfl rfl ?_
 refine RL.asg rfl rfl rfl ?_
 refine RL.finG ?_
 refine GL.cond rfl (fun b32 => ?_) (fun b32 => ?_)
 ·replace h26 := ite_t b32 h26
  refine GL.seq ?_
  refine GL.region ?_
  refine RL.asg rfl rfl rfl ?_
  refine RL.asg rfl rfl rfl ?_
  refine RL.finG ?_
  refine GL.weak (fun a w st => st.nilOwn 86 TrA) ?_
  have h26 := Option.some.inj h26
  subst h26
  exact GL.ret (Gx.ret (v := .tuple #[Value.slice none 0 0, .int .i64 (7 : Int)]) (res2 rfl rfl rfl) (fun a w st => (st.pick [1] (by decide) rfl).toPost (Value.slice none 0 0)))
 replace h26 := ite_f b32 h26
 refine GL.seq ?_
 refine GL.region ?_
 refine RL.mv rfl rfl rfl ?_
 refine RL.lenS 0 Tryz.underlying42 rfl rfl rfl rfl SlOf.imm ?_
 refine RL.binI (v := .bool (((x0).length : Int) == (6 : Int))) rfl rfl rfl rfl rfl ?_
 refine RL.asg rfl rfl rfl ?_
 refine RL.finG ?_
 refine GL.cond rfl (fun b33 => ?_) (fun b33 => ?_)
 ·replace h26 := ite_t b33 h26
  refine GL.seq ?_
  refine GL.region ?_
  refine RL.asg rfl rfl rfl ?_
  refine RL.asg rfl rfl rfl ?_
  refine RL.finG ?_
  refine GL.weak (fun a w st => st.nilOwn 86 TrA) ?_
  have h26 := Option.some.inj h26
  subst h26
  exact GL.ret (Gx.ret (v := .tuple #[Value.slice none 0 0, .int .i64 (8 : Int)]) (res2 rfl rfl rfl) (fun a w st => (st.pick [1] (by decide) rfl).toPost (Value.slice none 0 0)))
 replace h26 := ite_f b33 h26
 refine GL.skip ?_
 refine GL.nilB ?_
 refine GL.seq ?_
 refine GL.region ?_
 refine RL.mv rfl rfl rfl ?_
 obtain ⟨y42, e43, h26⟩ := bind_some h26
 refine RL.call (vs := [v0]) Tryz_fit89 rfl rfl rfl rfl rfl (fun S f w hS hW hi => slices_Clone_api_Account_api_Account_c S w hS _ _ (hi 0 _ rfl) _ e43) ?_
 intro v44
 refine RL.mv rfl rfl rfl ?_
 refine RL.mv rfl rfl rfl ?_
 refine RL.bld (t := TrA) (d0 := ((x1, x2, (0 : Int)) : TyA)) (pv := [(0, (sv x1)), (1, .int .i64 x2)]) rfl Tryz_bld86 rfl rfl rfl ⟨⟨_, _, TR.str, x1, rfl, rfl, VR.str⟩, ⟨⟨_, _, TR.int, x2, rfl, rfl, VR.int⟩, trivial⟩⟩ (fun S f hi => by
   obtain ⟨c0, e0, r0⟩ := cells_vrep (t := TR.str) (u := (sv x1)) (e := x1) (VR.str S f hi)
   obtain ⟨c1, e1, r1⟩ := cells_vrep (t := TR.int) (u := .int .i64 x2) (e := x2) (VR.int S f hi)
   show TR.rep TrA S (List.flatten [((sv x1) : Value).cells.toList, (.int .i64 x2 : Value).cells.toList, [.int .i64 0]]) _
   simp only [e0, e1,  List.flatten_cons, List.flatten_nil, List.append_nil]
   exact ⟨_, _, rfl, r0, ⟨_, _, rfl, r1, rfl⟩⟩) ?_
 intro v45
 refine RL.reL (L' := [imm (TR.sl TrA) v0 x0, own 86 TrA v44 y42, imm TrA v45 ((x1, x2, (0 : Int)) : TyA)]) rfl ?_
 refine RL.bS (t := TrA) (vs := [v45]) ([((x1, x2, (0 : Int)) : TyA)] : (List TyA)) Tryz.underlying42 Tryz_lo86 rfl rfl rfl rfl ⟨(VR.item 2 rfl), trivial⟩ rfl (by decide) ?_
 intro v46
 obtain ⟨y47, e48, h26⟩ := bind_some h26
 replace e48 := chk_some e48
 refine RL.app 1 3 Tryz.underlying42 Tryz_lo86 rfl rfl rfl rfl rfl rfl rfl SlOf.own e48 ?_
 intro v49
 refine RL.reL (L' := [imm (TR.sl TrA) v0 x0, own 86 TrA v49 (y42 ++ ([((x1, x2, (0 : Int)) : TyA)] : (List TyA))), imm TrA v45 ((x1, x2, (0 : Int)) : TyA), own 86 TrA v46 ([((x1, x2, (0 : Int)) : TyA)] : (List TyA))]) rfl ?_
 refine RL.asg rfl rfl rfl ?_
 refine RL.finG ?_
 refine GL.seq ?_
 refine GL.region ?_
 refine RL.mv rfl rfl rfl ?_
 obtain ⟨y52, e53, h26⟩ := bind_some h26
 refine RL.callK (vs := [v49, .func (.func 91) #[] #[]]) (V := fun (o : Unit) => .tuple #[]) (LR := fun (o : Unit) => [own 86 TrA v49 y52]) (Ls := [own 86 TrA v49 (y42 ++ ([((x1, x2, (0 : Int)) : TyA)] : (List TyA)))]) [1] (by decide) Tryz_fit90 rfl rfl rfl rfl rfl rfl (fun S f X w hO hB hW hI hL => slices_SortFunc_api_Account_api_Account_c _ S X f w _ _  hO hB hI 91 #[] Tryz_fit91 (fun a0 a1 => ledger_Open_1_m a0 a1) (fun U' w' hle hU' u0 a0 q0 u1 a1 q1 rr hr => (ledger_Open_1_c U' w' hU' u0 a0 q0 u1 a1 q1 rr hr).mono (fun _ _ z => z)) _ e53) ?_
 intro _
 refine RL.reL (L' := [imm (TR.sl TrA) v0 x0, gone, imm TrA v45 ((x1, x2, (0 : Int)) : TyA), own 86 TrA v46 ([((x1, x2, (0 : Int)) : TyA)] : (List TyA)), own 86 TrA v49 y52]) rfl ?_
 refine RL.finG ?_
 refine GL.seq ?_
 refine GL.region ?_
 refine RL.mv rfl rfl rfl ?_
 refine RL.asg rfl rfl rfl ?_
 refine RL.asg rfl rfl rfl ?_
 refine RL.finG ?_
 have h26 := Option.some.inj h26
 subst h26
 exact GL.ret (Gx.ret (v := .tuple #[v49, .int .i64 (0 : Int)]) (res2 rfl rfl rfl) (fun a w st => (st.pick [4] (by decide) rfl).toPost v49))

theorem strconv_Itoa_c (S : Hp) (w : World) (hS : S.sub w) (hT : Tab Tryz.prog (Tryz.lays146_ren.g 1) S) (x0 : Int) (res : B8) (hm : strconv_Itoa_m x0 = some res) : Calls Tryz.prog 18 #[.int .i64 x0] w (PostV w ((sv res))) := by
  unfold strconv_Itoa_m at hm
  obtain ⟨_, hc, hm⟩ := bind_some hm
  replace hc := chk_some hc
  cases hm
  refine (Any.strconv_Itoa Tryz.lays171 x0 hc.1 hc.2 w (hT.pow w hS)).mono ?_
  rintro e w' ⟨rfl, k, os, rfl⟩
  exact ⟨rfl, belowGrow0 _ _ _⟩

theorem log_Sum_c (S : Hp) (w : World) (hS : S.sub w) (x0 : B8) (res : Int) (hm : log_Sum_m x0 = some res) : Calls Tryz.prog 100 #[(sv x0)] w (PostV w (.int .u16 res)) := by
 refine calls_enter 31 Tryz.func100 Tryz.ntmps100 rfl S false [(0, (sv x0))] [] rfl ⟨rfl, trivial⟩ hS trivial ?_
 unfold log_Sum_m at hm
 refine GL.seq ?_
 refine GL.region ?_
 refine RL.asg rfl rfl rfl ?_
 refine RL.finG ?_
 refine GL.seq ?_
 refine GL.region ?_
 refine RL.asg rfl rfl rfl ?_
 refine RL.finG ?_
 refine GL.seq ?_
 refine GL.seq ?_
 refine GL.region ?_
 refine RL.mv rfl rfl rfl ?_
 obtain ⟨y5, e6, hm⟩ := bind_some hm
 replace e6 := chk_some e6
 refine RL.cvSB Tryz.underlying9 Tryz.underlying80 Tryz.underlying5 rfl rfl rfl rfl e6 ?_
 intro v7
 refine RL.lenS 0 Tryz.underlying80 rfl rfl rfl rfl SlOf.imm ?_
 refine RL.mv rfl rfl rfl ?_
 refine RL.finG ?_
 refine GL.open_ 0 rfl (fun S h => len_imm S h) (fun n65 => ?_)
 obtain ⟨y66, K67, h68, h69, h70, h71, h72⟩ := bindR_K hm
 refine GL.join (ι := Int) (fun (p : Int) => [(3, .int .u16 p)]) (fun (p : Int) => []) (fun (p : Int) => K67 (.nx p)) ?_ ?_
 ·refine GL.block ?_
  refine GL.loop (ι := Nat × (List Int) × Int) (fun (p : Nat × (List Int) × Int) => [(3, .int .u16 p.2.2), (7, v7), (8, .int .i64 (((intsOf x0)).length : Int)), (9, .int .i64 (p.1 : Int))]) (fun (p : Nat × (List Int) × Int) => [imm (TR.sl (TR.ik .u8)) v7 (intsOf x0)]) (fun (p : Nat × (List Int) × Int) => p.1 + p.2.1.length = ((intsOf x0)).length ∧ List.drop p.1 (intsOf x0) = p.2.1 ∧ rangeL log_Sum_b1 p.2.1 p.1 p.2.2 = some y66) (fun (p : Nat × (List Int) × Int) => p.2.1.length) (0, (intsOf x0), (65535 : Int)) ⟨by simp, by simp, h68⟩ (fun a w st => St.cut [0] ⟨rfl, rfl, rfl, rfl, trivial⟩ (by decide) rfl st) ?_
  rintro ⟨i73, r74, x8⟩ ⟨h79, h80, h78⟩
  try dsimp only at h79 h80 h78
  refine GL.weak (env' := [(3, .int .u16 x8), (7, v7), (8, .int .i64 (((intsOf x0)).length : Int)), (9, .int .i64 (i73 : Int))]) (L' := [imm (TR.sl (TR.ik .u8)) v7 (intsOf x0)]) ss ?_
  refine GL.seq ?_
  refine GL.region ?_
  refine RL.binI (v := .bool (decide ((i73 : Int) < (((intsOf x0)).length : Int)))) rfl rfl rfl rfl rfl ?_
  refine RL.finG ?_
  refine GL.seq ?_
  refine GL.cond rfl (fun b81 => ?_) (fun b81 => ?_)
  ·have h82 : i73 < ((intsOf x0)).length := by have := of_decide_eq_true b81; omega
   obtain ⟨y83, r85, hr, e84, h86⟩ := drop_cons h80 rfl h82
   subst hr
   obtain ⟨z75, h76, h77⟩ := rangeL_some h78
   unfold log_Sum_b1 at h76
   try dsimp only at h76
   refine GL.skip ?_
   refine GL.seq ?_
   refine GL.block ?_
   refine GL.seq ?_
   refine GL.region ?_
   refine RL.idxS (sz := 1) 0 Tryz.underlying80 Tryz_ln5 rfl rfl rfl rfl rfl SlOf.imm (by omega) (by omega) ?_
   refine RL.ldSx (i := i73) (e' := y83) 0 Ex.ik Tryz_ln5 rfl rfl rfl rfl SlOf.imm e84 Part.self ?_
   refine RL.asg rfl rfl rfl ?_
   refine RL.finG ?_
   refine GL.seq ?_
   refine GL.region ?_
   refine RL.mv rfl rfl rfl ?_
   refine RL.mv rfl rfl rfl ?_
   refine RL.cvI Tryz.underlying5 Tryz.underlying149 rfl rfl rfl ?_
   obtain ⟨y89, e90, h76⟩ := bind_some h76
   replace e90 := chk_some e90
   refine RL.sh (by simp) rfl rfl rfl rfl e90 ?_
   refine RL.binI (v := .int .u16 (bits .xor .u16 x8 (IntKind.wrap .u16 ((IntKind.wrap .u16 y83) * 2 ^ (min (8 : Int).toNat (IntKind.bits .u16)))))) rfl rfl rfl rfl rfl ?_
   refine RL.asg rfl rfl rfl ?_
   refine RL.finG ?_
   refine GL.seq ?_
   refine GL.region ?_
   refine RL.mv rfl rfl rfl ?_
   refine RL.finG ?_
   obtain ⟨y107, K108, h109, h110, h111, h112, h113⟩ := bindF_K h76
   refine GL.join (ι := Int × Int) (fun (p : Int × Int) => [(3, .int .u16 p.1), (7, v7), (8, .int .i64 (((intsOf x0)).length : Int)), (9, .int .i64 (i73 : Int))]) (fun (p : Int × Int) => [imm (TR.sl (TR.ik .u8)) v7 (intsOf x0)]) (fun (p : Int × Int) => K108 (.nx (p.1, p.2))) ?_ ?_
   ·refine GL.block ?_
    refine GL.loop (ι := Nat × Int × Int) (fun (p : Nat × Int × Int) => [(3, .int .u16 p.2.1), (7, v7), (8, .int .i64 (((intsOf x0)).length : Int)), (9, .int .i64 (i73 : Int)), (18, .int .i64 p.2.2)]) (fun (p : Nat × Int × Int) => [imm (TR.sl (TR.ik .u8)) v7 (intsOf x0)]) (fun (p : Nat × Int × Int) => loopM log_Sum_b2 p.1 (p.2.1, p.2.2) = some y107) (fun (p : Nat × Int × Int) => p.1) (1048576, bits .xor .u16 x8 (IntKind.wrap .u16 ((IntKind.wrap .u16 y83) * 2 ^ (min (8 : Int).toNat (IntKind.bits .u16)))), (0 : Int)) h109 (fun a w st => St.cut [0] ⟨rfl, rfl, rfl, rfl, rfl, trivial⟩ (by decide) rfl st) ?_
    rintro ⟨r115, x91, x92⟩ h119
    try dsimp only at h119
    refine GL.weak (env' := [(3, .int .u16 x91), (7, v7), (8, .int .i64 (((intsOf x0)).length : Int)), (9, .int .i64 (i73 : Int)), (18, .int .i64 x92)]) (L' := [imm (TR.sl (TR.ik .u8)) v7 (intsOf x0)]) ss ?_
    obtain ⟨r122, z116, hr, h117, h118⟩ := loopM_some h119
    subst hr
    unfold log_Sum_b2 at h117
    try dsimp only at h117
    refine GL.seq ?_
    refine GL.region ?_
    refine RL.binI (v := .bool (decide (x92 < (8 : Int)))) rfl rfl rfl rfl rfl ?_
    refine RL.finG ?_
    refine GL.seq ?_
    refine GL.cond rfl (fun b123 => ?_) (fun b123 => ?_)
    ·replace h117 := ite_t b123 h117
     refine GL.skip ?_
     refine GL.seq ?_
     refine GL.block ?_
     refine GL.seq ?_
     refine GL.region ?_
     refine RL.mv rfl rfl rfl ?_
     obtain ⟨y126, e127, h117⟩ := bind_some h117
     replace e127 := chk_some e127
     refine RL.sh (by simp) rfl rfl rfl rfl e127 ?_
     refine RL.binI (v := .bool ((Int.fdiv x91 (2 ^ (min (15 : Int).toNat (IntKind.bits .u16)))) == (1 : Int))) rfl rfl rfl rfl rfl ?_
     refine RL.finG ?_
     refine GL.cond rfl (fun b128 => ?_) (fun b128 => ?_)
     ·replace h117 := ite_t b128 h117
      refine GL.region ?_
      refine RL.mv rfl rfl rfl ?_
      obtain ⟨y131, e132, h117⟩ := bind_some h117
      replace e132 := chk_some e132
      refine RL.sh (by simp) rfl rfl rfl rfl e132 ?_
      refine RL.binI (v := .int .u16 (bits .xor .u16 (IntKind.wrap .u16 (x91 * 2 ^ (min (1 : Int).toNat (IntKind.bits .u16)))) (4129 : Int))) rfl rfl rfl rfl rfl ?_
      refine RL.asg rfl rfl rfl ?_
      refine RL.finG ?_
      refine GL.nilB ?_
      refine GL.region ?_
      refine RL.binI (v := .int .i64 (wadd x92 (1 : Int))) rfl rfl rfl rfl rfl ?_
      refine RL.mv rfl rfl rfl ?_
      refine RL.finG ?_
      cases h117
      exact fun a w st => lop_intro (r122, bits .xor .u16 (IntKind.wrap .u16 (x91 * 2 ^ (min (1 : Int).toNat (IntKind.bits .u16)))) (4129 : Int), wadd x92 (1 : Int)) (by exact h118) (by simp) (St.cut [0] ⟨rfl, rfl, rfl, rfl, rfl, trivial⟩ (by decide) rfl st)
     replace h117 := ite_f b128 h117
     refine GL.region ?_
     refine RL.mv rfl rfl rfl ?_
     obtain ⟨y135, e136, h117⟩ := bind_some h117
     replace e136 := chk_some e136
     refine RL.sh (by simp) rfl rfl rfl rfl e136 ?_
     refine RL.asg rfl rfl rfl ?_
     refine RL.finG ?_
     refine GL.nilB ?_
     refine GL.region ?_
     refine RL.binI (v := .int .i64 (wadd x92 (1 : Int))) rfl rfl rfl rfl rfl ?_
     refine RL.mv rfl rfl rfl ?_
     refine RL.finG ?_
     cases h117
     exact fun a w st => lop_intro (r122, IntKind.wrap .u16 (x91 * 2 ^ (min (1 : Int).toNat (IntKind.bits .u16))), wadd x92 (1 : Int)) (by exact h118) (by simp) (St.cut [0] ⟨rfl, rfl, rfl, rfl, rfl, trivial⟩ (by decide) rfl st)
    replace h117 := ite_f b123 h117
    cases h117
    replace h118 : some (Fl.nx _) = some y107 := h118
    cases h118
    exact GL.exit (fun a w st => mid_intro (x91, x92) h110 (St.cut [0] ⟨rfl, rfl, rfl, rfl, trivial⟩ (by decide) rfl st))
   rintro ⟨x91, x92⟩ h137
   have h138 := h111 _ h137
   try dsimp only at h138
   refine GL.weak (env' := [(3, .int .u16 x91), (7, v7), (8, .int .i64 (((intsOf x0)).length : Int)), (9, .int .i64 (i73 : Int))]) (L' := [imm (TR.sl (TR.ik .u8)) v7 (intsOf x0)]) ss ?_
   refine GL.nilB ?_
   refine GL.region ?_
   refine RL.binI (v := .int .i64 ((i73 + 1 : Nat) : Int)) rfl rfl rfl rfl (binI_succ i73 (by omega)) ?_
   refine RL.mv rfl rfl rfl ?_
   refine RL.fin ?_
   cases h138
   exact fun a w st => lop_intro (i73 + 1, r85, x91) ⟨by show i73 + 1 + r85.length = ((intsOf x0)).length; simp only [List.length_cons] at h79; omega, h86, h77⟩ (by simp) (St.cut [0] ⟨rfl, rfl, rfl, rfl, trivial⟩ (by decide) rfl st)
  have h82 : ¬ i73 < ((intsOf x0)).length := by have := of_decide_eq_false b81; omega
  obtain rfl : r74 = [] := by rw [← h80]; exact List.drop_of_length_le (by omega)
  replace h78 : some (Fl.nx _) = some y66 := h78
  cases h78
  exact GL.exit (fun a w st => mid_intro x8 h69 (St.cut [] ⟨rfl, trivial⟩ (by decide) rfl st))
 rintro x8 h139
 have h140 := h70 _ h139
 try dsimp only at h140
 refine GL.weak (env' := [(3, .int .u16 x8)]) (L' := []) ss ?_
 refine GL.seq ?_
 refine GL.region ?_
 refine RL.mv rfl rfl rfl ?_
 refine RL.asg rfl rfl rfl ?_
 refine RL.finG ?_
 have h140 := Option.some.inj h140
 subst h140
 exact GL.ret (Gx.ret (v := .int .u16 x8) (res1 rfl rfl) (fun a w st => st.toPostV))

theorem log_Frame_c (S : Hp) (w : World) (hS : S.sub w) (x0 : B8) (res : B8 × Int) (hm : log_Frame_m x0 = some res) : Calls Tryz.prog 92 #[(sv x0)] w (PostV w (.tuple #[(sv res.1), .int .i64 res.2])) := by
 refine calls_enter 27 Tryz.func92 Tryz.ntmps92 rfl S false [(0, (sv x0))] [] rfl ⟨rfl, trivial⟩ hS trivial ?_
 unfold log_Frame_m at hm
 refine GL.seq ?_
 refine GL.region ?_
 refine RL.asg rfl rfl rfl ?_
 refine RL.asg rfl rfl rfl ?_
 refine RL.finG ?_
 refine GL.seq ?_
 refine GL.seq ?_
 refine GL.region ?_
 refine RL.mv rfl rfl rfl ?_
 refine RL.lenT Tryz.underlying9 rfl rfl rfl ?_
 refine RL.binI (v := .bool (decide (((x0).length : Int) > (64 : Int)))) rfl rfl rfl rfl rfl ?_
 refine RL.finG ?_
 refine GL.cond rfl (fun b2 => ?_) (fun b2 => ?_)
 ·replace hm := ite_t b2 hm
  refine GL.seq ?_
  refine GL.region ?_
  refine RL.asg rfl rfl rfl ?_
  refine RL.asg rfl rfl rfl ?_
  refine RL.finG ?_
  have hm := Option.some.inj hm
  subst hm
  exact GL.ret (Gx.ret (v := .tuple #[(sv (([] : B8))), .int .i64 (2 : Int)]) (res2 rfl rfl rfl) (fun a w st => st.toPostV))
 replace hm := ite_f b2 hm
 refine GL.skip ?_
 refine GL.seq ?_
 refine GL.region ?_
 refine RL.mv rfl rfl rfl ?_
 refine RL.lenT Tryz.underlying9 rfl rfl rfl ?_
 refine RL.cvI Tryz.underlying3 Tryz.underlying5 rfl rfl rfl ?_
 refine RL.bS (t := (TR.ik .u8)) (vs := [.int .u8 (IntKind.wrap .u8 ((x0).length : Int))]) ([IntKind.wrap .u8 ((x0).length : Int)] : (List Int)) Tryz.underlying80 Tryz_lo5 rfl rfl rfl rfl ⟨VR.int, trivial⟩ rfl (by decide) ?_
 intro v6
 refine RL.cvBS 0 Tryz.underlying80 Tryz.underlying5 Tryz.underlying9 rfl rfl rfl rfl SlOf.own ?_
 refine RL.mv rfl rfl rfl ?_
 obtain ⟨y7, e8, hm⟩ := bind_some hm
 replace e8 := chk_some e8
 refine RL.cat rfl rfl rfl rfl e8 ?_
 refine RL.asg rfl rfl rfl ?_
 refine RL.finG ?_
 refine GL.seq ?_
 refine GL.region ?_
 refine RL.mv rfl rfl rfl ?_
 obtain ⟨y11, e12, hm⟩ := bind_some hm
 refine RL.callV (v := .int .u16 y11) (vs := [(sv ((bytesOf ([IntKind.wrap .u8 ((x0).length : Int)] : (List Int))) ++ x0))]) Tryz_fit100 rfl (Or.inl rfl) rfl rfl rfl rfl (fun U w hU hW hL => log_Sum_c U w hU ((bytesOf ([IntKind.wrap .u8 ((x0).length : Int)] : (List Int))) ++ x0) _ e12) ?_
 refine RL.asg rfl rfl rfl ?_
 refine RL.finG ?_
 refine GL.seq ?_
 refine GL.region ?_
 refine RL.mv rfl rfl rfl ?_
 refine RL.mv rfl rfl rfl ?_
 obtain ⟨y18, e19, hm⟩ := bind_some hm
 replace e19 := chk_some e19
 refine RL.sh (by simp) rfl rfl rfl rfl e19 ?_
 refine RL.cvI Tryz.underlying149 Tryz.underlying5 rfl rfl rfl ?_
 refine RL.mv rfl rfl rfl ?_
 refine RL.cvI Tryz.underlying149 Tryz.underlying5 rfl rfl rfl ?_
 refine RL.bS (t := (TR.ik .u8)) (vs := [.int .u8 (IntKind.wrap .u8 (Int.fdiv y11 (2 ^ (min (8 : Int).toNat (IntKind.bits .u16))))), .int .u8 (IntKind.wrap .u8 y11)]) ([IntKind.wrap .u8 (Int.fdiv y11 (2 ^ (min (8 : Int).toNat (IntKind.bits .u16)))), IntKind.wrap .u8 y11] : (List Int)) Tryz.underlying80 Tryz_lo5 rfl rfl rfl rfl ⟨VR.int, ⟨VR.int, trivial⟩⟩ rfl (by decide) ?_
 intro v20
 refine RL.reL (L' := [own 5 (TR.ik .u8) v6 ([IntKind.wrap .u8 ((x0).length : Int)] : (List Int)), own 5 (TR.ik .u8) v20 ([IntKind.wrap .u8 (Int.fdiv y11 (2 ^ (min (8 : Int).toNat (IntKind.bits .u16)))), IntKind.wrap .u8 y11] : (List Int))]) rfl ?_
 refine RL.cvBS 1 Tryz.underlying80 Tryz.underlying5 Tryz.underlying9 rfl rfl rfl rfl SlOf.own ?_
 obtain ⟨y21, e22, hm⟩ := bind_some hm
 replace e22 := chk_some e22
 refine RL.cat rfl rfl rfl rfl e22 ?_
 refine RL.asg rfl rfl rfl ?_
 refine RL.asg rfl rfl rfl ?_
 refine RL.finG ?_
 have hm := Option.some.inj hm
 subst hm
 exact GL.ret (Gx.ret (v := .tuple #[(sv (((bytesOf ([IntKind.wrap .u8 ((x0).length : Int)] : (List Int))) ++ x0) ++ (bytesOf ([IntKind.wrap .u8 (Int.fdiv y11 (2 ^ (min (8 : Int).toNat (IntKind.bits .u16)))), IntKind.wrap .u8 y11] : (List Int))))), .int .i64 (0 : Int)]) (res2 rfl rfl rfl) (fun a w st => st.toPostV))

theorem log_Log_Append_c (B : World) (S X : Hp) (f : Nat → Hp) (w : World) (v0 : Value) (x0 : (B8 × Int)) (hO : HeapOk B.heap.size S f [obox 55 TrL v0 x0, keep X].length w) (hB : Below B.heap.size B w) (hI : Its [obox 55 TrL v0 x0, keep X] S f) (x1 : B8) (res : Int × (B8 × Int)) (hm : log_Log_Append_m x0 x1 = some res) : Calls Tryz.prog 65 #[v0, (sv x1)] w (PostM B S (fun (o : Unit) => .int .i64 res.1) (fun (o : Unit) => [obox 55 TrL v0 res.2, keep X])) := by
 refine calls_enterM 32 Tryz.func65 Tryz.ntmps65 rfl B S f [(0, v0), (1, (sv x1))] [obox 55 TrL v0 x0, keep X] [] rfl ⟨rfl, ⟨rfl, trivial⟩⟩ hB hO hI trivial ?_
 unfold log_Log_Append_m at hm
 refine GL.seq ?_
 refine GL.region ?_
 refine RL.asg rfl rfl rfl ?_
 refine RL.finG ?_
 refine GL.seq ?_
 refine GL.region ?_
 refine RL.mv rfl rfl rfl ?_
 obtain ⟨y5, e6, hm⟩ := bind_some hm
 refine RL.callV (v := .tuple #[(sv y5.1), .int .i64 y5.2]) (vs := [(sv x1)]) Tryz_fit92 rfl (Or.inl rfl) rfl rfl rfl rfl (fun U w hU hW hL => log_Frame_c U w hU x1 _ e6) ?_
 refine RL.mv rfl rfl rfl ?_
 refine RL.ext rfl rfl rfl rfl ?_
 refine RL.ext rfl rfl rfl rfl ?_
 refine RL.asg rfl rfl rfl ?_
 refine RL.asg rfl rfl rfl ?_
 refine RL.finG ?_
 refine GL.seq ?_
 refine GL.seq ?_
 refine GL.region ?_
 refine RL.mv rfl rfl rfl ?_
 refine RL.binI (v := .bool (y5.2 != (0 : Int))) rfl rfl rfl rfl rfl ?_
 refine RL.finG ?_
 refine GL.cond rfl (fun b7 => ?_) (fun b7 => ?_)
 ·replace hm := ite_t b7 hm
  refine GL.seq ?_
  refine GL.region ?_
  refine RL.mv rfl rfl rfl ?_
  refine RL.asg rfl rfl rfl ?_
  refine RL.finG ?_
  have hm := Option.some.inj hm
  subst hm
  exact GL.ret (Gx.ret (v := .int .i64 y5.2) (res1 rfl rfl) (fun a w st => (st.pick [0, 1] (by decide) rfl).toPostM (V := fun (o : Unit) => .int .i64 ((y5.2, x0).1)) (LR := fun (o : Unit) => [obox 55 TrL v0 ((y5.2, x0).2), keep X]) ()))
 replace hm := ite_f b7 hm
 refine GL.skip ?_
 refine GL.seq ?_
 refine GL.seq ?_
 refine GL.region ?_
 refine RL.mv rfl rfl rfl ?_
 refine RL.nilk 0 rfl rfl rfl rfl PtOf.obox ?_
 refine RL.fadr (off := 0) (fo := 0) 0 Tryz_fld55_0 rfl rfl rfl PtOf.obox (Or.inr ⟨rfl, rfl⟩) ?_
 refine RL.ldPx (off := (0 + 0)) (e' := x0.1) 0 Ex.str Tryz_ln9 rfl rfl (Or.inl rfl) rfl PtOf.obox (Part.fst Part.self) ?_
 refine RL.lenT Tryz.underlying9 rfl rfl rfl ?_
 refine RL.mv rfl rfl rfl ?_
 refine RL.lenT Tryz.underlying9 rfl rfl rfl ?_
 refine RL.binI (v := .int .i64 (wadd ((x0.1).length : Int) ((y5.1).length : Int))) rfl rfl rfl rfl rfl ?_
 refine RL.binI (v := .bool (decide ((wadd ((x0.1).length : Int) ((y5.1).length : Int)) > (4000 : Int)))) rfl rfl rfl rfl rfl ?_
 refine RL.finG ?_
 refine GL.cond rfl (fun b8 => ?_) (fun b8 => ?_)
 ·replace hm := ite_t b8 hm
  refine GL.seq ?_
  refine GL.region ?_
  refine RL.asg rfl rfl rfl ?_
  refine RL.finG ?_
  have hm := Option.some.inj hm
  subst hm
  exact GL.ret (Gx.ret (v := .int .i64 (8 : Int)) (res1 rfl rfl) (fun a w st => (st.pick [0, 1] (by decide) rfl).toPostM (V := fun (o : Unit) => .int .i64 (((8 : Int), x0).1)) (LR := fun (o : Unit) => [obox 55 TrL v0 (((8 : Int), x0).2), keep X]) ()))
 replace hm := ite_f b8 hm
 refine GL.skip ?_
 refine GL.seq ?_
 refine GL.region ?_
 refine RL.mv rfl rfl rfl ?_
 refine RL.nilk 0 rfl rfl rfl rfl PtOf.obox ?_
 refine RL.fadr (off := 0) (fo := 0) 0 Tryz_fld55_0 rfl rfl rfl PtOf.obox (Or.inr ⟨rfl, rfl⟩) ?_
 refine RL.ldPx (off := (0 + 0)) (e' := x0.1) 0 Ex.str Tryz_ln9 rfl rfl (Or.inl rfl) rfl PtOf.obox (Part.fst Part.self) ?_
 refine RL.mv rfl rfl rfl ?_
 obtain ⟨y11, e12, hm⟩ := bind_some hm
 replace e12 := chk_some e12
 refine RL.cat rfl rfl rfl rfl e12 ?_
 refine RL.nilk 0 rfl rfl rfl rfl PtOf.obox ?_
 refine RL.fadr (off := 0) (fo := 0) 0 Tryz_fld55_0 rfl rfl rfl PtOf.obox (Or.inr ⟨rfl, rfl⟩) ?_
 refine RL.stP (off := (0 + 0)) (e' := x0.1 ++ y5.1) (d1 := (x0.1 ++ y5.1, x0.2)) (r := TR.str) 0 Tryz_ln9 rfl rfl (Or.inl rfl) rfl VR.str rfl (Upd.fst Upd.self) ?_
 refine RL.finG ?_
 refine GL.seq ?_
 refine GL.region ?_
 refine RL.asg rfl rfl rfl ?_
 refine RL.finG ?_
 have hm := Option.some.inj hm
 subst hm
 exact GL.ret (Gx.ret (v := .int .i64 (0 : Int)) (res1 rfl rfl) (fun a w st => (st.pick [0, 1] (by decide) rfl).toPostM (V := fun (o : Unit) => .int .i64 (((0 : Int), (x0.1 ++ y5.1, x0.2)).1)) (LR := fun (o : Unit) => [obox 55 TrL v0 (((0 : Int), (x0.1 ++ y5.1, x0.2)).2), keep X]) ()))

theorem house_House_open_c (B : World) (S X : Hp) (f : Nat → Hp) (w : World) (v0 : Value) (u0a : Value) (x0 : TyH) (hO : HeapOk B.heap.size S f [obox 45 TrH v0 (x0.1, (x0.2.1, u0a)), obox 55 TrL u0a x0.2.2, keep X].length w) (hB : Below B.heap.size B w) (hI : Its [obox 45 TrH v0 (x0.1, (x0.2.1, u0a)), obox 55 TrL u0a x0.2.2, keep X] S f) (hT : Tab Tryz.prog (Tryz.lays146_ren.g 1) S) (v1 : Value) (x1 : TyE) (k1 : (TrE).vrep S v1 x1) (res : Int × TyH) (hm : house_House_open_m x0 x1 = some res) : Calls Tryz.prog 42 #[v0, v1] w (PostM B S (fun (o : Unit) => .int .i64 res.1) (fun (o : Unit) => [obox 45 TrH v0 (res.2.1, (res.2.2.1, u0a)), obox 55 TrL u0a res.2.2.2, keep X])) := by
 refine calls_enterM 43 Tryz.func42 Tryz.ntmps42 rfl B S f [(0, v0), (1, v1)] [obox 45 TrH v0 (x0.1, (x0.2.1, u0a)), obox 55 TrL u0a x0.2.2, keep X] [imm TrE v1 x1] rfl ⟨rfl, ⟨rfl, trivial⟩⟩ hB hO hI ⟨k1, trivial⟩ ?_
 unfold house_House_open_m at hm
 refine GL.seq ?_
 refine GL.region ?_
 refine RL.box (t := TrE) (e := x1) rfl rfl rfl rfl (VR.item 3 rfl) ?_
 intro v4
 refine RL.asg rfl rfl rfl ?_
 refine RL.finG ?_
 refine GL.seq ?_
 refine GL.regionA rfl rfl ?_
 refine RA.mv 0 rfl (by kernel_rfl) rfl rfl rfl ?_
 refine RA.still (le := q_1) (f := 6) [1, 2, 3, 4, 5, 6, 7] 8 rfl (by kernel_rfl) ?_
 simp only [pickOps, List.getElem?_toArray, List.getElem?_cons_succ, List.getElem?_cons_zero]
 refine RL.nilk 0 rfl rfl rfl rfl PtOf.obox ?_
 refine RL.fadr (off := 0) (fo := 0) 0 Tryz_fld45_0 rfl rfl rfl PtOf.obox (Or.inr ⟨rfl, rfl⟩) ?_
 refine RL.ldP (off := (0 + 0)) (r := (TR.sl TrA)) (e' := x0.1) 0 Tryz_ln42 rfl rfl (Or.inl rfl) rfl PtOf.obox (Part.fst Part.self) ?_
 intro v9
 refine RL.fadr (off := 0) (fo := 2) 4 Tryz_fld59_2 rfl rfl rfl PtOf.obox (Or.inr ⟨rfl, rfl⟩) ?_
 refine RL.ldPx (off := (0 + 2)) (e' := x1.2.2.1) 4 Ex.str Tryz_ln9 rfl rfl (Or.inl rfl) rfl PtOf.obox (Part.snd (Part.snd (Part.fst Part.self))) ?_
 refine RL.fadr (off := 0) (fo := 1) 4 Tryz_fld59_1 rfl rfl rfl PtOf.obox (Or.inr ⟨rfl, rfl⟩) ?_
 refine RL.ldPx (off := (0 + 1)) (e' := x1.2.1) 4 Ex.ik Tryz_ln3 rfl rfl (Or.inl rfl) rfl PtOf.obox (Part.snd (Part.fst Part.self)) ?_
 refine RL.finH ?_
 refine RL.fin ?_
 refine RA.next ?_
 refine RA.seq 8 rfl (by kernel_rfl) ?_
 obtain ⟨y10, e11, hm⟩ := bind_some hm
 refine RL.call (vs := [v9, (sv x1.2.2.1), .int .i64 x1.2.1]) Tryz_fit64 rfl rfl rfl rfl rfl (fun S f w hS hW hi => ledger_Open_c S w hS _ _ (hi 5 _ rfl) x1.2.2.1 x1.2.1 _ e11) ?_
 intro v12
 refine RL.fin ?_
 refine RA.next ?_
 refine RA.quiet 9 rfl rfl (by kernel_rfl) ?_
 simp only [List.drop_succ_cons, List.drop_zero]
 refine RL.mv rfl rfl rfl ?_
 refine RL.ext rfl rfl rfl rfl ?_
 refine RL.ext rfl rfl rfl rfl ?_
 refine RL.asg rfl rfl rfl ?_
 refine RL.asg rfl rfl rfl ?_
 refine RL.finQ ?_
 refine RA.outQ ?_
 refine GL.weak (env' := [(0, v0), (3, v4), (5, v12), (6, .int .i64 y10.2)]) (L' := [obox 45 TrH v0 (x0.1, (x0.2.1, u0a)), obox 55 TrL u0a x0.2.2, keep X, obox 59 TrE v4 x1, own 86 TrA v12 y10.1]) (fun a w st => St.cut [0, 1, 2, 4, 6] ⟨rfl, rfl, rfl, rfl, trivial⟩ (by decide) rfl st) ?_
 refine GL.seq ?_
 refine GL.seq ?_
 refine GL.region ?_
 refine RL.mv rfl rfl rfl ?_
 refine RL.binI (v := .bool (y10.2 != (0 : Int))) rfl rfl rfl rfl rfl ?_
 refine RL.finG ?_
 refine GL.cond rfl (fun b13 => ?_) (fun b13 => ?_)
 ·replace hm := ite_t b13 hm
  refine GL.seq ?_
  refine GL.region ?_
  refine RL.mv rfl rfl rfl ?_
  refine RL.asg rfl rfl rfl ?_
  refine RL.finG ?_
  have hm := Option.some.inj hm
  subst hm
  exact GL.ret (Gx.ret (v := .int .i64 y10.2) (res1 rfl rfl) (fun a w st => (st.pick [0, 1, 2] (by decide) rfl).toPostM (V := fun (o : Unit) => .int .i64 ((y10.2, x0).1)) (LR := fun (o : Unit) => [obox 45 TrH v0 (((y10.2, x0).2).1, (((y10.2, x0).2).2.1, u0a)), obox 55 TrL u0a (((y10.2, x0).2).2.2), keep X]) ()))
 replace hm := ite_f b13 hm
 refine GL.skip ?_
 refine GL.seq ?_
 refine GL.seq ?_
 refine GL.regionA rfl rfl ?_
 refine RA.mv 0 rfl (by kernel_rfl) rfl rfl rfl ?_
 obtain ⟨y107, e108, hm⟩ := bind_some hm
 replace e108 := chk_some e108
 obtain ⟨y109, e110, hm⟩ := bind_some hm
 replace e110 := chk_some e110
 obtain ⟨y111, e112, hm⟩ := bind_some hm
 obtain ⟨y113, e114, hm⟩ := bind_some hm
 replace e114 := chk_some e114
 refine RA.meet (ι := Unit) (fun (p : Unit) => [(0, v0), (5, v12), (26, u0a), (34, (sv (((([111, 32] : B8) ++ x1.2.2.1) ++ ([32] : B8)) ++ y111)))]) (fun (p : Unit) => [obox 45 TrH v0 (x0.1, (x0.2.1, u0a)), obox 55 TrL u0a x0.2.2, keep X, own 86 TrA v12 y10.1]) 2 q_2 (fun h115 => ?_) ?_
 ·skip
  refine RA.meet (ι := Unit) (fun (p : Unit) => [(0, v0), (5, v12), (26, u0a), (30, (sv ((([111, 32] : B8) ++ x1.2.2.1) ++ ([32] : B8)))), (33, (sv y111))]) (fun (p : Unit) => [obox 45 TrH v0 (x0.1, (x0.2.1, u0a)), obox 55 TrL u0a x0.2.2, keep X, own 86 TrA v12 y10.1]) 3 q_3 (fun h116 => ?_) ?_
  rotate_left
  ·rintro ⟨⟩
   refine RA.weak (env' := [(0, v0), (5, v12), (26, u0a), (30, (sv ((([111, 32] : B8) ++ x1.2.2.1) ++ ([32] : B8)))), (33, (sv y111))]) (L' := [obox 45 TrH v0 (x0.1, (x0.2.1, u0a)), obox 55 TrL u0a x0.2.2, keep X, own 86 TrA v12 y10.1]) ss ?_
   refine RA.seq 11 rfl (by kernel_rfl) ?_
   refine RL.cat rfl rfl rfl rfl e114 ?_
   refine RL.fin ?_
   refine RA.next ?_
   refine RA.relist 2 q_2 rfl (by kernel_rfl) ?_
   exact fun a w st => h115 () a w (St.cut [0, 1, 2, 3] ⟨rfl, rfl, rfl, rfl, trivial⟩ (by decide) rfl st)
  refine RA.meet (ι := Unit) (fun (p : Unit) => [(0, v0), (5, v12), (25, adr v0 (0 + 2)), (34, (sv (((([111, 32] : B8) ++ x1.2.2.1) ++ ([32] : B8)) ++ y111)))]) (fun (p : Unit) => [obox 45 TrH v0 (x0.1, (x0.2.1, u0a)), obox 55 TrL u0a x0.2.2, keep X, own 86 TrA v12 y10.1]) 3 q_4 (fun h117 => ?_) ?_
  rotate_left
  ·rintro ⟨⟩
   refine RA.weak (env' := [(0, v0), (5, v12), (25, adr v0 (0 + 2)), (34, (sv (((([111, 32] : B8) ++ x1.2.2.1) ++ ([32] : B8)) ++ y111)))]) (L' := [obox 45 TrH v0 (x0.1, (x0.2.1, u0a)), obox 55 TrL u0a x0.2.2, keep X, own 86 TrA v12 y10.1]) ss ?_
   refine RA.seq 3 rfl (by kernel_rfl) ?_
   refine RL.ldPx (off := (0 + 2)) (e' := u0a) 0 Ex.raw Tryz_ln40 rfl rfl (Or.inl rfl) rfl PtOf.obox (Part.snd (Part.snd Part.self)) ?_
   refine RL.fin ?_
   refine RA.next ?_
   refine RA.relist 2 q_2 rfl (by kernel_rfl) ?_
   exact fun a w st => h115 () a w (St.cut [0, 1, 2, 3] ⟨rfl, rfl, rfl, rfl, trivial⟩ (by decide) rfl st)
  refine RA.meet (ι := Unit) (fun (p : Unit) => [(0, v0), (5, v12), (26, u0a), (30, (sv ((([111, 32] : B8) ++ x1.2.2.1) ++ ([32] : B8)))), (32, .int .i64 x1.2.1)]) (fun (p : Unit) => [obox 45 TrH v0 (x0.1, (x0.2.1, u0a)), obox 55 TrL u0a x0.2.2, keep X, own 86 TrA v12 y10.1]) 4 q_5 (fun h118 => ?_) ?_
  rotate_left
  ·rintro ⟨⟩
   refine RA.weak (env' := [(0, v0), (5, v12), (26, u0a), (30, (sv ((([111, 32] : B8) ++ x1.2.2.1) ++ ([32] : B8)))), (32, .int .i64 x1.2.1)]) (L' := [obox 45 TrH v0 (x0.1, (x0.2.1, u0a)), obox 55 TrL u0a x0.2.2, keep X, own 86 TrA v12 y10.1]) ss ?_
   refine RA.seq 10 rfl (by kernel_rfl) ?_
   refine RL.callV (v := (sv y111)) (vs := [.int .i64 x1.2.1]) Tryz_fit18 rfl (Or.inl rfl) rfl rfl rfl rfl (fun U w hU hW hL => strconv_Itoa_c U w hU (hT.mono hW) x1.2.1 _ e112) ?_
   refine RL.fin ?_
   refine RA.next ?_
   refine RA.relist 3 q_3 rfl (by kernel_rfl) ?_
   exact fun a w st => h116 () a w (St.cut [0, 1, 2, 3] ⟨rfl, rfl, rfl, rfl, rfl, trivial⟩ (by decide) rfl st)
  refine RA.meet (ι := Unit) (fun (p : Unit) => [(0, v0), (5, v12), (26, u0a), (29, (sv (([111, 32] : B8) ++ x1.2.2.1))), (33, (sv y111))]) (fun (p : Unit) => [obox 45 TrH v0 (x0.1, (x0.2.1, u0a)), obox 55 TrL u0a x0.2.2, keep X, own 86 TrA v12 y10.1]) 4 q_6 (fun h119 => ?_) ?_
  rotate_left
  ·rintro ⟨⟩
   refine RA.weak (env' := [(0, v0), (5, v12), (26, u0a), (29, (sv (([111, 32] : B8) ++ x1.2.2.1))), (33, (sv y111))]) (L' := [obox 45 TrH v0 (x0.1, (x0.2.1, u0a)), obox 55 TrL u0a x0.2.2, keep X, own 86 TrA v12 y10.1]) ss ?_
   refine RA.seq 7 rfl (by kernel_rfl) ?_
   refine RL.cat rfl rfl rfl rfl e110 ?_
   refine RL.fin ?_
   refine RA.next ?_
   refine RA.relist 3 q_3 rfl (by kernel_rfl) ?_
   exact fun a w st => h116 () a w (St.cut [0, 1, 2, 3] ⟨rfl, rfl, rfl, rfl, rfl, trivial⟩ (by decide) rfl st)
  refine RA.meet (ι := Unit) (fun (p : Unit) => [(0, v0), (5, v12), (25, adr v0 (0 + 2)), (30, (sv ((([111, 32] : B8) ++ x1.2.2.1) ++ ([32] : B8)))), (33, (sv y111))]) (fun (p : Unit) => [obox 45 TrH v0 (x0.1, (x0.2.1, u0a)), obox 55 TrL u0a x0.2.2, keep X, own 86 TrA v12 y10.1]) 4 q_7 (fun h120 => ?_) ?_
  rotate_left
  ·rintro ⟨⟩
   refine RA.weak (env' := [(0, v0), (5, v12), (25, adr v0 (0 + 2)), (30, (sv ((([111, 32] : B8) ++ x1.2.2.1) ++ ([32] : B8)))), (33, (sv y111))]) (L' := [obox 45 TrH v0 (x0.1, (x0.2.1, u0a)), obox 55 TrL u0a x0.2.2, keep X, own 86 TrA v12 y10.1]) ss ?_
   refine RA.many [3, 11] (by kernel_rfl) ⟨⟨_, rfl, ?_⟩, ⟨_, rfl, ?_⟩, trivial⟩
   ·skip
    refine RL.ldPx (off := (0 + 2)) (e' := u0a) 0 Ex.raw Tryz_ln40 rfl rfl (Or.inl rfl) rfl PtOf.obox (Part.snd (Part.snd Part.self)) ?_
    refine RL.fin ?_
    refine RA.next ?_
    refine RA.relist 3 q_3 rfl (by kernel_rfl) ?_
    exact fun a w st => h116 () a w (St.cut [0, 1, 2, 3] ⟨rfl, rfl, rfl, rfl, rfl, trivial⟩ (by decide) rfl st)
   refine RL.cat rfl rfl rfl rfl e114 ?_
   refine RL.fin ?_
   refine RA.next ?_
   refine RA.relist 3 q_4 rfl (by kernel_rfl) ?_
   exact fun a w st => h117 () a w (St.cut [0, 1, 2, 3] ⟨rfl, rfl, rfl, rfl, trivial⟩ (by decide) rfl st)
  refine RA.meet (ι := Unit) (fun (p : Unit) => [(0, v0), (5, v12), (24, v0), (34, (sv (((([111, 32] : B8) ++ x1.2.2.1) ++ ([32] : B8)) ++ y111)))]) (fun (p : Unit) => [obox 45 TrH v0 (x0.1, (x0.2.1, u0a)), obox 55 TrL u0a x0.2.2, keep X, own 86 TrA v12 y10.1]) 4 q_8 (fun h121 => ?_) ?_
  rotate_left
  ·rintro ⟨⟩
   refine RA.weak (env' := [(0, v0), (5, v12), (24, v0), (34, (sv (((([111, 32] : B8) ++ x1.2.2.1) ++ ([32] : B8)) ++ y111)))]) (L' := [obox 45 TrH v0 (x0.1, (x0.2.1, u0a)), obox 55 TrL u0a x0.2.2, keep X, own 86 TrA v12 y10.1]) ss ?_
   refine RA.seq 2 rfl (by kernel_rfl) ?_
   refine RL.fadr (off := 0) (fo := 2) 0 Tryz_fld45_2 rfl rfl rfl PtOf.obox (Or.inr ⟨rfl, rfl⟩) ?_
   refine RL.fin ?_
   refine RA.next ?_
   refine RA.relist 3 q_4 rfl (by kernel_rfl) ?_
   exact fun a w st => h117 () a w (St.cut [0, 1, 2, 3] ⟨rfl, rfl, rfl, rfl, trivial⟩ (by decide) rfl st)
  refine RA.meet (ι := Unit) (fun (p : Unit) => [(0, v0), (5, v12), (26, u0a), (30, (sv ((([111, 32] : B8) ++ x1.2.2.1) ++ ([32] : B8)))), (31, adr v4 (0 + 1))]) (fun (p : Unit) => [obox 45 TrH v0 (x0.1, (x0.2.1, u0a)), obox 55 TrL u0a x0.2.2, keep X, own 86 TrA v12 y10.1, obox 59 TrE v4 x1]) 5 q_9 (fun h122 => ?_) ?_
  rotate_left
  ·rintro ⟨⟩
   refine RA.weak (env' := [(0, v0), (5, v12), (26, u0a), (30, (sv ((([111, 32] : B8) ++ x1.2.2.1) ++ ([32] : B8)))), (31, adr v4 (0 + 1))]) (L' := [obox 45 TrH v0 (x0.1, (x0.2.1, u0a)), obox 55 TrL u0a x0.2.2, keep X, own 86 TrA v12 y10.1, obox 59 TrE v4 x1]) ss ?_
   refine RA.seq 9 rfl (by kernel_rfl) ?_
   refine RL.ldPx (off := (0 + 1)) (e' := x1.2.1) 4 Ex.ik Tryz_ln3 rfl rfl (Or.inl rfl) rfl PtOf.obox (Part.snd (Part.fst Part.self)) ?_
   refine RL.fin ?_
   refine RA.next ?_
   refine RA.relist 4 q_5 rfl (by kernel_rfl) ?_
   exact fun a w st => h118 () a w (St.cut [0, 1, 2, 3] ⟨rfl, rfl, rfl, rfl, rfl, trivial⟩ (by decide) rfl st)
  refine RA.meet (ι := Unit) (fun (p : Unit) => [(0, v0), (5, v12), (23, v0), (34, (sv (((([111, 32] : B8) ++ x1.2.2.1) ++ ([32] : B8)) ++ y111)))]) (fun (p : Unit) => [obox 45 TrH v0 (x0.1, (x0.2.1, u0a)), obox 55 TrL u0a x0.2.2, keep X, own 86 TrA v12 y10.1]) 5 q_10 (fun h123 => ?_) ?_
  rotate_left
  ·rintro ⟨⟩
   refine RA.weak (env' := [(0, v0), (5, v12), (23, v0), (34, (sv (((([111, 32] : B8) ++ x1.2.2.1) ++ ([32] : B8)) ++ y111)))]) (L' := [obox 45 TrH v0 (x0.1, (x0.2.1, u0a)), obox 55 TrL u0a x0.2.2, keep X, own 86 TrA v12 y10.1]) ss ?_
   refine RA.seq 1 rfl (by kernel_rfl) ?_
   refine RL.nilk 0 rfl rfl rfl rfl PtOf.obox ?_
   refine RL.fin ?_
   refine RA.next ?_
   refine RA.relist 4 q_8 rfl (by kernel_rfl) ?_
   exact fun a w st => h121 () a w (St.cut [0, 1, 2, 3] ⟨rfl, rfl, rfl, rfl, trivial⟩ (by decide) rfl st)
  refine RA.meet (ι := Unit) (fun (p : Unit) => [(0, v0), (5, v12), (26, u0a), (29, (sv (([111, 32] : B8) ++ x1.2.2.1))), (32, .int .i64 x1.2.1)]) (fun (p : Unit) => [obox 45 TrH v0 (x0.1, (x0.2.1, u0a)), obox 55 TrL u0a x0.2.2, keep X, own 86 TrA v12 y10.1]) 5 q_11 (fun h124 => ?_) ?_
  rotate_left
  ·rintro ⟨⟩
   refine RA.weak (env' := [(0, v0), (5, v12), (26, u0a), (29, (sv (([111, 32] : B8) ++ x1.2.2.1))), (32, .int .i64 x1.2.1)]) (L' := [obox 45 TrH v0 (x0.1, (x0.2.1, u0a)), obox 55 TrL u0a x0.2.2, keep X, own 86 TrA v12 y10.1]) ss ?_
   refine RA.many [7, 10] (by kernel_rfl) ⟨⟨_, rfl, ?_⟩, ⟨_, rfl, ?_⟩, trivial⟩
   ·skip
    refine RL.cat rfl rfl rfl rfl e110 ?_
    refine RL.fin ?_
    refine RA.next ?_
    refine RA.relist 4 q_5 rfl (by kernel_rfl) ?_
    exact fun a w st => h118 () a w (St.cut [0, 1, 2, 3] ⟨rfl, rfl, rfl, rfl, rfl, trivial⟩ (by decide) rfl st)
   refine RL.callV (v := (sv y111)) (vs := [.int .i64 x1.2.1]) Tryz_fit18 rfl (Or.inl rfl) rfl rfl rfl rfl (fun U w hU hW hL => strconv_Itoa_c U w hU (hT.mono hW) x1.2.1 _ e112) ?_
   refine RL.fin ?_
   refine RA.next ?_
   refine RA.relist 4 q_6 rfl (by kernel_rfl) ?_
   exact fun a w st => h119 () a w (St.cut [0, 1, 2, 3] ⟨rfl, rfl, rfl, rfl, rfl, trivial⟩ (by decide) rfl st)
  refine RA.meet (ι := Unit) (fun (p : Unit) => [(0, v0), (5, v12), (25, adr v0 (0 + 2)), (29, (sv (([111, 32] : B8) ++ x1.2.2.1))), (33, (sv y111))]) (fun (p : Unit) => [obox 45 TrH v0 (x0.1, (x0.2.1, u0a)), obox 55 TrL u0a x0.2.2, keep X, own 86 TrA v12 y10.1]) 5 q_12 (fun h125 => ?_) ?_
  rotate_left
  ·rintro ⟨⟩
   refine RA.weak (env' := [(0, v0), (5, v12), (25, adr v0 (0 + 2)), (29, (sv (([111, 32] : B8) ++ x1.2.2.1))), (33, (sv y111))]) (L' := [obox 45 TrH v0 (x0.1, (x0.2.1, u0a)), obox 55 TrL u0a x0.2.2, keep X, own 86 TrA v12 y10.1]) ss ?_
   refine RA.many [3, 7] (by kernel_rfl) ⟨⟨_, rfl, ?_⟩, ⟨_, rfl, ?_⟩, trivial⟩
   ·skip
    refine RL.ldPx (off := (0 + 2)) (e' := u0a) 0 Ex.raw Tryz_ln40 rfl rfl (Or.inl rfl) rfl PtOf.obox (Part.snd (Part.snd Part.self)) ?_
    refine RL.fin ?_
    refine RA.next ?_
    refine RA.relist 4 q_6 rfl (by kernel_rfl) ?_
    exact fun a w st => h119 () a w (St.cut [0, 1, 2, 3] ⟨rfl, rfl, rfl, rfl, rfl, trivial⟩ (by decide) rfl st)
   refine RL.cat rfl rfl rfl rfl e110 ?_
   refine RL.fin ?_
   refine RA.next ?_
   refine RA.relist 4 q_7 rfl (by kernel_rfl) ?_
   exact fun a w st => h120 () a w (St.cut [0, 1, 2, 3] ⟨rfl, rfl, rfl, rfl, rfl, trivial⟩ (by decide) rfl st)
  refine RA.meet (ι := Unit) (fun (p : Unit) => [(0, v0), (5, v12), (25, adr v0 (0 + 2)), (30, (sv ((([111, 32] : B8) ++ x1.2.2.1) ++ ([32] : B8)))), (32, .int .i64 x1.2.1)]) (fun (p : Unit) => [obox 45 TrH v0 (x0.1, (x0.2.1, u0a)), obox 55 TrL u0a x0.2.2, keep X, own 86 TrA v12 y10.1]) 5 q_13 (fun h126 => ?_) ?_
  rotate_left
  ·rintro ⟨⟩
   refine RA.weak (env' := [(0, v0), (5, v12), (25, adr v0 (0 + 2)), (30, (sv ((([111, 32] : B8) ++ x1.2.2.1) ++ ([32] : B8)))), (32, .int .i64 x1.2.1)]) (L' := [obox 45 TrH v0 (x0.1, (x0.2.1, u0a)), obox 55 TrL u0a x0.2.2, keep X, own 86 TrA v12 y10.1]) ss ?_
   refine RA.many [3, 10] (by kernel_rfl) ⟨⟨_, rfl, ?_⟩, ⟨_, rfl, ?_⟩, trivial⟩
   ·skip
    refine RL.ldPx (off := (0 + 2)) (e' := u0a) 0 Ex.raw Tryz_ln40 rfl rfl (Or.inl rfl) rfl PtOf.obox (Part.snd (Part.snd Part.self)) ?_
    refine RL.fin ?_
    refine RA.next ?_
    refine RA.relist 4 q_5 rfl (by kernel_rfl) ?_
    exact fun a w st => h118 () a w (St.cut [0, 1, 2, 3] ⟨rfl, rfl, rfl, rfl, rfl, trivial⟩ (by decide) rfl st)
   refine RL.callV (v := (sv y111)) (vs := [.int .i64 x1.2.1]) Tryz_fit18 rfl (Or.inl rfl) rfl rfl rfl rfl (fun U w hU hW hL => strconv_Itoa_c U w hU (hT.mono hW) x1.2.1 _ e112) ?_
   refine RL.fin ?_
   refine RA.next ?_
   refine RA.relist 4 q_7 rfl (by kernel_rfl) ?_
   exact fun a w st => h120 () a w (St.cut [0, 1, 2, 3] ⟨rfl, rfl, rfl, rfl, rfl, trivial⟩ (by decide) rfl st)
  refine RA.meet (ι := Unit) (fun (p : Unit) => [(0, v0), (5, v12), (24, v0), (30, (sv ((([111, 32] : B8) ++ x1.2.2.1) ++ ([32] : B8)))), (33, (sv y111))]) (fun (p : Unit) => [obox 45 TrH v0 (x0.1, (x0.2.1, u0a)), obox 55 TrL u0a x0.2.2, keep X, own 86 TrA v12 y10.1]) 5 q_14 (fun h127 => ?_) ?_
  rotate_left
  ·rintro ⟨⟩
   refine RA.weak (env' := [(0, v0), (5, v12), (24, v0), (30, (sv ((([111, 32] : B8) ++ x1.2.2.1) ++ ([32] : B8)))), (33, (sv y111))]) (L' := [obox 45 TrH v0 (x0.1, (x0.2.1, u0a)), obox 55 TrL u0a x0.2.2, keep X, own 86 TrA v12 y10.1]) ss ?_
   refine RA.many [2, 11] (by kernel_rfl) ⟨⟨_, rfl, ?_⟩, ⟨_, rfl, ?_⟩, trivial⟩
   ·skip
    refine RL.fadr (off := 0) (fo := 2) 0 Tryz_fld45_2 rfl rfl rfl PtOf.obox (Or.inr ⟨rfl, rfl⟩) ?_
    refine RL.fin ?_
    refine RA.next ?_
    refine RA.relist 4 q_7 rfl (by kernel_rfl) ?_
    exact fun a w st => h120 () a w (St.cut [0, 1, 2, 3] ⟨rfl, rfl, rfl, rfl, rfl, trivial⟩ (by decide) rfl st)
   refine RL.cat rfl rfl rfl rfl e114 ?_
   refine RL.fin ?_
   refine RA.next ?_
   refine RA.relist 4 q_8 rfl (by kernel_rfl) ?_
   exact fun a w st => h121 () a w (St.cut [0, 1, 2, 3] ⟨rfl, rfl, rfl, rfl, trivial⟩ (by decide) rfl st)
  refine RA.meet (ι := Unit) (fun (p : Unit) => [(0, v0), (5, v12), (26, u0a), (28, (sv x1.2.2.1)), (33, (sv y111))]) (fun (p : Unit) => [obox 45 TrH v0 (x0.1, (x0.2.1, u0a)), obox 55 TrL u0a x0.2.2, keep X, own 86 TrA v12 y10.1]) 5 q_15 (fun h128 => ?_) ?_
  rotate_left
  ·rintro ⟨⟩
   refine RA.weak (env' := [(0, v0), (5, v12), (26, u0a), (28, (sv x1.2.2.1)), (33, (sv y111))]) (L' := [obox 45 TrH v0 (x0.1, (x0.2.1, u0a)), obox 55 TrL u0a x0.2.2, keep X, own 86 TrA v12 y10.1]) ss ?_
   refine RA.seq 6 rfl (by kernel_rfl) ?_
   refine RL.cat rfl rfl rfl rfl e108 ?_
   refine RL.fin ?_
   refine RA.next ?_
   refine RA.relist 4 q_6 rfl (by kernel_rfl) ?_
   exact fun a w st => h119 () a w (St.cut [0, 1, 2, 3] ⟨rfl, rfl, rfl, rfl, rfl, trivial⟩ (by decide) rfl st)
  refine RA.meet (ι := Unit) (fun (p : Unit) => [(0, v0), (5, v12), (24, v0), (30, (sv ((([111, 32] : B8) ++ x1.2.2.1) ++ ([32] : B8)))), (32, .int .i64 x1.2.1)]) (fun (p : Unit) => [obox 45 TrH v0 (x0.1, (x0.2.1, u0a)), obox 55 TrL u0a x0.2.2, keep X, own 86 TrA v12 y10.1]) 6 q_16 (fun h129 => ?_) ?_
  rotate_left
  ·rintro ⟨⟩
   refine RA.weak (env' := [(0, v0), (5, v12), (24, v0), (30, (sv ((([111, 32] : B8) ++ x1.2.2.1) ++ ([32] : B8)))), (32, .int .i64 x1.2.1)]) (L' := [obox 45 TrH v0 (x0.1, (x0.2.1, u0a)), obox 55 TrL u0a x0.2.2, keep X, own 86 TrA v12 y10.1]) ss ?_
   refine RA.many [2, 10] (by kernel_rfl) ⟨⟨_, rfl, ?_⟩, ⟨_, rfl, ?_⟩, trivial⟩
   ·skip
    refine RL.fadr (off := 0) (fo := 2) 0 Tryz_fld45_2 rfl rfl rfl PtOf.obox (Or.inr ⟨rfl, rfl⟩) ?_
    refine RL.fin ?_
    refine RA.next ?_
    refine RA.relist 5 q_13 rfl (by kernel_rfl) ?_
    exact fun a w st => h126 () a w (St.cut [0, 1, 2, 3] ⟨rfl, rfl, rfl, rfl, rfl, trivial⟩ (by decide) rfl st)
   refine RL.callV (v := (sv y111)) (vs := [.int .i64 x1.2.1]) Tryz_fit18 rfl (Or.inl rfl) rfl rfl rfl rfl (fun U w hU hW hL => strconv_Itoa_c U w hU (hT.mono hW) x1.2.1 _ e112) ?_
   refine RL.fin ?_
   refine RA.next ?_
   refine RA.relist 5 q_14 rfl (by kernel_rfl) ?_
   exact fun a w st => h127 () a w (St.cut [0, 1, 2, 3] ⟨rfl, rfl, rfl, rfl, rfl, trivial⟩ (by decide) rfl st)
  refine RA.meet (ι := Unit) (fun (p : Unit) => [(0, v0), (5, v12), (25, adr v0 (0 + 2)), (30, (sv ((([111, 32] : B8) ++ x1.2.2.1) ++ ([32] : B8)))), (31, adr v4 (0 + 1))]) (fun (p : Unit) => [obox 45 TrH v0 (x0.1, (x0.2.1, u0a)), obox 55 TrL u0a x0.2.2, keep X, own 86 TrA v12 y10.1, obox 59 TrE v4 x1]) 6 q_17 (fun h130 => ?_) ?_
  rotate_left
  ·rintro ⟨⟩
   refine RA.weak (env' := [(0, v0), (5, v12), (25, adr v0 (0 + 2)), (30, (sv ((([111, 32] : B8) ++ x1.2.2.1) ++ ([32] : B8)))), (31, adr v4 (0 + 1))]) (L' := [obox 45 TrH v0 (x0.1, (x0.2.1, u0a)), obox 55 TrL u0a x0.2.2, keep X, own 86 TrA v12 y10.1, obox 59 TrE v4 x1]) ss ?_
   refine RA.many [3, 9] (by kernel_rfl) ⟨⟨_, rfl, ?_⟩, ⟨_, rfl, ?_⟩, trivial⟩
   ·skip
    refine RL.ldPx (off := (0 + 2)) (e' := u0a) 0 Ex.raw Tryz_ln40 rfl rfl (Or.inl rfl) rfl PtOf.obox (Part.snd (Part.snd Part.self)) ?_
    refine RL.fin ?_
    refine RA.next ?_
    refine RA.relist 5 q_9 rfl (by kernel_rfl) ?_
    exact fun a w st => h122 () a w (St.cut [0, 1, 2, 3, 4] ⟨rfl, rfl, rfl, rfl, rfl, trivial⟩ (by decide) rfl st)
   refine RL.ldPx (off := (0 + 1)) (e' := x1.2.1) 4 Ex.ik Tryz_ln3 rfl rfl (Or.inl rfl) rfl PtOf.obox (Part.snd (Part.fst Part.self)) ?_
   refine RL.fin ?_
   refine RA.next ?_
   refine RA.relist 5 q_13 rfl (by kernel_rfl) ?_
   exact fun a w st => h126 () a w (St.cut [0, 1, 2, 3] ⟨rfl, rfl, rfl, rfl, rfl, trivial⟩ (by decide) rfl st)
  refine RA.meet (ι := Unit) (fun (p : Unit) => [(0, v0), (5, v12), (23, v0), (30, (sv ((([111, 32] : B8) ++ x1.2.2.1) ++ ([32] : B8)))), (33, (sv y111))]) (fun (p : Unit) => [obox 45 TrH v0 (x0.1, (x0.2.1, u0a)), obox 55 TrL u0a x0.2.2, keep X, own 86 TrA v12 y10.1]) 6 q_18 (fun h131 => ?_) ?_
  rotate_left
  ·rintro ⟨⟩
   refine RA.weak (env' := [(0, v0), (5, v12), (23, v0), (30, (sv ((([111, 32] : B8) ++ x1.2.2.1) ++ ([32] : B8)))), (33, (sv y111))]) (L' := [obox 45 TrH v0 (x0.1, (x0.2.1, u0a)), obox 55 TrL u0a x0.2.2, keep X, own 86 TrA v12 y10.1]) ss ?_
   refine RA.many [1, 11] (by kernel_rfl) ⟨⟨_, rfl, ?_⟩, ⟨_, rfl, ?_⟩, trivial⟩
   ·skip
    refine RL.nilk 0 rfl rfl rfl rfl PtOf.obox ?_
    refine RL.fin ?_
    refine RA.next ?_
    refine RA.relist 5 q_14 rfl (by kernel_rfl) ?_
    exact fun a w st => h127 () a w (St.cut [0, 1, 2, 3] ⟨rfl, rfl, rfl, rfl, rfl, trivial⟩ (by decide) rfl st)
   refine RL.cat rfl rfl rfl rfl e114 ?_
   refine RL.fin ?_
   refine RA.next ?_
   refine RA.relist 5 q_10 rfl (by kernel_rfl) ?_
   exact fun a w st => h123 () a w (St.cut [0, 1, 2, 3] ⟨rfl, rfl, rfl, rfl, trivial⟩ (by decide) rfl st)
  refine RA.meet (ι := Unit) (fun (p : Unit) => [(0, v0), (3, v4), (5, v12), (26, u0a), (30, (sv ((([111, 32] : B8) ++ x1.2.2.1) ++ ([32] : B8))))]) (fun (p : Unit) => [obox 45 TrH v0 (x0.1, (x0.2.1, u0a)), obox 55 TrL u0a x0.2.2, keep X, obox 59 TrE v4 x1, own 86 TrA v12 y10.1]) 6 q_1 (fun h132 => ?_) ?_
  rotate_left
  ·rintro ⟨⟩
   refine RA.weak (env' := [(0, v0), (3, v4), (5, v12), (26, u0a), (30, (sv ((([111, 32] : B8) ++ x1.2.2.1) ++ ([32] : B8))))]) (L' := [obox 45 TrH v0 (x0.1, (x0.2.1, u0a)), obox 55 TrL u0a x0.2.2, keep X, obox 59 TrE v4 x1, own 86 TrA v12 y10.1]) ss ?_
   refine RA.seq 8 rfl (by kernel_rfl) ?_
   refine RL.fadr (off := 0) (fo := 1) 3 Tryz_fld59_1 rfl rfl rfl PtOf.obox (Or.inr ⟨rfl, rfl⟩) ?_
   refine RL.fin ?_
   refine RA.next ?_
   refine RA.relist 5 q_9 rfl (by kernel_rfl) ?_
   exact fun a w st => h122 () a w (St.cut [0, 1, 2, 4, 3] ⟨rfl, rfl, rfl, rfl, rfl, trivial⟩ (by decide) rfl st)
  refine RA.meet (ι := Unit) (fun (p : Unit) => [(0, v0), (5, v12), (25, adr v0 (0 + 2)), (29, (sv (([111, 32] : B8) ++ x1.2.2.1))), (32, .int .i64 x1.2.1)]) (fun (p : Unit) => [obox 45 TrH v0 (x0.1, (x0.2.1, u0a)), obox 55 TrL u0a x0.2.2, keep X, own 86 TrA v12 y10.1]) 6 q_19 (fun h133 => ?_) ?_
  rotate_left
  ·rintro ⟨⟩
   refine RA.weak (env' := [(0, v0), (5, v12), (25, adr v0 (0 + 2)), (29, (sv (([111, 32] : B8) ++ x1.2.2.1))), (32, .int .i64 x1.2.1)]) (L' := [obox 45 TrH v0 (x0.1, (x0.2.1, u0a)), obox 55 TrL u0a x0.2.2, keep X, own 86 TrA v12 y10.1]) ss ?_
   refine RA.many [3, 7, 10] (by kernel_rfl) ⟨⟨_, rfl, ?_⟩, ⟨_, rfl, ?_⟩, ⟨_, rfl, ?_⟩, trivial⟩
   ·skip
    refine RL.ldPx (off := (0 + 2)) (e' := u0a) 0 Ex.raw Tryz_ln40 rfl rfl (Or.inl rfl) rfl PtOf.obox (Part.snd (Part.snd Part.self)) ?_
    refine RL.fin ?_
    refine RA.next ?_
    refine RA.relist 5 q_11 rfl (by kernel_rfl) ?_
    exact fun a w st => h124 () a w (St.cut [0, 1, 2, 3] ⟨rfl, rfl, rfl, rfl, rfl, trivial⟩ (by decide) rfl st)
   ·skip
    refine RL.cat rfl rfl rfl rfl e110 ?_
    refine RL.fin ?_
    refine RA.next ?_
    refine RA.relist 5 q_13 rfl (by kernel_rfl) ?_
    exact fun a w st => h126 () a w (St.cut [0, 1, 2, 3] ⟨rfl, rfl, rfl, rfl, rfl, trivial⟩ (by decide) rfl st)
   refine RL.callV (v := (sv y111)) (vs := [.int .i64 x1.2.1]) Tryz_fit18 rfl (Or.inl rfl) rfl rfl rfl rfl (fun U w hU hW hL => strconv_Itoa_c U w hU (hT.mono hW) x1.2.1 _ e112) ?_
   refine RL.fin ?_
   refine RA.next ?_
   refine RA.relist 5 q_12 rfl (by kernel_rfl) ?_
   exact fun a w st => h125 () a w (St.cut [0, 1, 2, 3] ⟨rfl, rfl, rfl, rfl, rfl, trivial⟩ (by decide) rfl st)
  refine RA.meet (ι := Unit) (fun (p : Unit) => [(0, v0), (5, v12), (24, v0), (29, (sv (([111, 32] : B8) ++ x1.2.2.1))), (33, (sv y111))]) (fun (p : Unit) => [obox 45 TrH v0 (x0.1, (x0.2.1, u0a)), obox 55 TrL u0a x0.2.2, keep X, own 86 TrA v12 y10.1]) 6 q_20 (fun h134 => ?_) ?_
  rotate_left
  ·rintro ⟨⟩
   refine RA.weak (env' := [(0, v0), (5, v12), (24, v0), (29, (sv (([111, 32] : B8) ++ x1.2.2.1))), (33, (sv y111))]) (L' := [obox 45 TrH v0 (x0.1, (x0.2.1, u0a)), obox 55 TrL u0a x0.2.2, keep X, own 86 TrA v12 y10.1]) ss ?_
   refine RA.many [2, 7] (by kernel_rfl) ⟨⟨_, rfl, ?_⟩, ⟨_, rfl, ?_⟩, trivial⟩
   ·skip
    refine RL.fadr (off := 0) (fo := 2) 0 Tryz_fld45_2 rfl rfl rfl PtOf.obox (Or.inr ⟨rfl, rfl⟩) ?_
    refine RL.fin ?_
    refine RA.next ?_
    refine RA.relist 5 q_12 rfl (by kernel_rfl) ?_
    exact fun a w st => h125 () a w (St.cut [0, 1, 2, 3] ⟨rfl, rfl, rfl, rfl, rfl, trivial⟩ (by decide) rfl st)
   refine RL.cat rfl rfl rfl rfl e110 ?_
   refine RL.fin ?_
   refine RA.next ?_
   refine RA.relist 5 q_14 rfl (by kernel_rfl) ?_
   exact fun a w st => h127 () a w (St.cut [0, 1, 2, 3] ⟨rfl, rfl, rfl, rfl, rfl, trivial⟩ (by decide) rfl st)
  refine RA.meet (ι := Unit) (fun (p : Unit) => [(0, v0), (5, v12), (26, u0a), (29, (sv (([111, 32] : B8) ++ x1.2.2.1))), (31, adr v4 (0 + 1))]) (fun (p : Unit) => [obox 45 TrH v0 (x0.1, (x0.2.1, u0a)), obox 55 TrL u0a x0.2.2, keep X, own 86 TrA v12 y10.1, obox 59 TrE v4 x1]) 6 q_21 (fun h135 => ?_) ?_
  rotate_left
  ·rintro ⟨⟩
   refine RA.weak (env' := [(0, v0), (5, v12), (26, u0a), (29, (sv (([111, 32] : B8) ++ x1.2.2.1))), (31, adr v4 (0 + 1))]) (L' := [obox 45 TrH v0 (x0.1, (x0.2.1, u0a)), obox 55 TrL u0a x0.2.2, keep X, own 86 TrA v12 y10.1, obox 59 TrE v4 x1]) ss ?_
   refine RA.many [7, 9] (by kernel_rfl) ⟨⟨_, rfl, ?_⟩, ⟨_, rfl, ?_⟩, trivial⟩
   ·skip
    refine RL.cat rfl rfl rfl rfl e110 ?_
    refine RL.fin ?_
    refine RA.next ?_
    refine RA.relist 5 q_9 rfl (by kernel_rfl) ?_
    exact fun a w st => h122 () a w (St.cut [0, 1, 2, 3, 4] ⟨rfl, rfl, rfl, rfl, rfl, trivial⟩ (by decide) rfl st)
   refine RL.ldPx (off := (0 + 1)) (e' := x1.2.1) 4 Ex.ik Tryz_ln3 rfl rfl (Or.inl rfl) rfl PtOf.obox (Part.snd (Part.fst Part.self)) ?_
   refine RL.fin ?_
   refine RA.next ?_
   refine RA.relist 5 q_11 rfl (by kernel_rfl) ?_
   exact fun a w st => h124 () a w (St.cut [0, 1, 2, 3] ⟨rfl, rfl, rfl, rfl, rfl, trivial⟩ (by decide) rfl st)
  refine RA.meet (ι := Unit) (fun (p : Unit) => [(0, v0), (5, v12), (25, adr v0 (0 + 2)), (28, (sv x1.2.2.1)), (33, (sv y111))]) (fun (p : Unit) => [obox 45 TrH v0 (x0.1, (x0.2.1, u0a)), obox 55 TrL u0a x0.2.2, keep X, own 86 TrA v12 y10.1]) 6 q_22 (fun h136 => ?_) ?_
  rotate_left
  ·rintro ⟨⟩
   refine RA.weak (env' := [(0, v0), (5, v12), (25, adr v0 (0 + 2)), (28, (sv x1.2.2.1)), (33, (sv y111))]) (L' := [obox 45 TrH v0 (x0.1, (x0.2.1, u0a)), obox 55 TrL u0a x0.2.2, keep X, own 86 TrA v12 y10.1]) ss ?_
   refine RA.many [3, 6] (by kernel_rfl) ⟨⟨_, rfl, ?_⟩, ⟨_, rfl, ?_⟩, trivial⟩
   ·skip
    refine RL.ldPx (off := (0 + 2)) (e' := u0a) 0 Ex.raw Tryz_ln40 rfl rfl (Or.inl rfl) rfl PtOf.obox (Part.snd (Part.snd Part.self)) ?_
    refine RL.fin ?_
    refine RA.next ?_
    refine RA.relist 5 q_15 rfl (by kernel_rfl) ?_
    exact fun a w st => h128 () a w (St.cut [0, 1, 2, 3] ⟨rfl, rfl, rfl, rfl, rfl, trivial⟩ (by decide) rfl st)
   refine RL.cat rfl rfl rfl rfl e108 ?_
   refine RL.fin ?_
   refine RA.next ?_
   refine RA.relist 5 q_12 rfl (by kernel_rfl) ?_
   exact fun a w st => h125 () a w (St.cut [0, 1, 2, 3] ⟨rfl, rfl, rfl, rfl, rfl, trivial⟩ (by decide) rfl st)
  refine RA.meet (ι := Unit) (fun (p : Unit) => [(0, v0), (5, v12), (26, u0a), (28, (sv x1.2.2.1)), (32, .int .i64 x1.2.1)]) (fun (p : Unit) => [obox 45 TrH v0 (x0.1, (x0.2.1, u0a)), obox 55 TrL u0a x0.2.2, keep X, own 86 TrA v12 y10.1]) 6 q_23 (fun h137 => ?_) ?_
  rotate_left
  ·rintro ⟨⟩
   refine RA.weak (env' := [(0, v0), (5, v12), (26, u0a), (28, (sv x1.2.2.1)), (32, .int .i64 x1.2.1)]) (L' := [obox 45 TrH v0 (x0.1, (x0.2.1, u0a)), obox 55 TrL u0a x0.2.2, keep X, own 86 TrA v12 y10.1]) ss ?_
   refine RA.many [6, 10] (by kernel_rfl) ⟨⟨_, rfl, ?_⟩, ⟨_, rfl, ?_⟩, trivial⟩
   ·skip
    refine RL.cat rfl rfl rfl rfl e108 ?_
    refine RL.fin ?_
    refine RA.next ?_
    refine RA.relist 5 q_11 rfl (by kernel_rfl) ?_
    exact fun a w st => h124 () a w (St.cut [0, 1, 2, 3] ⟨rfl, rfl, rfl, rfl, rfl, trivial⟩ (by decide) rfl st)
   refine RL.callV (v := (sv y111)) (vs := [.int .i64 x1.2.1]) Tryz_fit18 rfl (Or.inl rfl) rfl rfl rfl rfl (fun U w hU hW hL => strconv_Itoa_c U w hU (hT.mono hW) x1.2.1 _ e112) ?_
   refine RL.fin ?_
   refine RA.next ?_
   refine RA.relist 5 q_15 rfl (by kernel_rfl) ?_
   exact fun a w st => h128 () a w (St.cut [0, 1, 2, 3] ⟨rfl, rfl, rfl, rfl, rfl, trivial⟩ (by decide) rfl st)
  refine RA.meet (ι := Unit) (fun (p : Unit) => [(0, v0), (5, v12), (26, u0a), (27, adr v4 (0 + 2)), (33, (sv y111))]) (fun (p : Unit) => [obox 45 TrH v0 (x0.1, (x0.2.1, u0a)), obox 55 TrL u0a x0.2.2, keep X, own 86 TrA v12 y10.1, obox 59 TrE v4 x1]) 6 q_24 (fun h138 => ?_) ?_
  rotate_left
  ·rintro ⟨⟩
   refine RA.weak (env' := [(0, v0), (5, v12), (26, u0a), (27, adr v4 (0 + 2)), (33, (sv y111))]) (L' := [obox 45 TrH v0 (x0.1, (x0.2.1, u0a)), obox 55 TrL u0a x0.2.2, keep X, own 86 TrA v12 y10.1, obox 59 TrE v4 x1]) ss ?_
   refine RA.seq 5 rfl (by kernel_rfl) ?_
   refine RL.ldPx (off := (0 + 2)) (e' := x1.2.2.1) 4 Ex.str Tryz_ln9 rfl rfl (Or.inl rfl) rfl PtOf.obox (Part.snd (Part.snd (Part.fst Part.self))) ?_
   refine RL.fin ?_
   refine RA.next ?_
   refine RA.relist 5 q_15 rfl (by kernel_rfl) ?_
   exact fun a w st => h128 () a w (St.cut [0, 1, 2, 3] ⟨rfl, rfl, rfl, rfl, rfl, trivial⟩ (by decide) rfl st)
  refine RA.meet (ι := Unit) (fun (p : Unit) => [(0, v0), (5, v12), (25, adr v0 (0 + 2)), (28, (sv x1.2.2.1)), (32, .int .i64 x1.2.1)]) (fun (p : Unit) => [obox 45 TrH v0 (x0.1, (x0.2.1, u0a)), obox 55 TrL u0a x0.2.2, keep X, own 86 TrA v12 y10.1]) 7 q_25 (fun h139 => ?_) ?_
  rotate_left
  ·rintro ⟨⟩
   refine RA.weak (env' := [(0, v0), (5, v12), (25, adr v0 (0 + 2)), (28, (sv x1.2.2.1)), (32, .int .i64 x1.2.1)]) (L' := [obox 45 TrH v0 (x0.1, (x0.2.1, u0a)), obox 55 TrL u0a x0.2.2, keep X, own 86 TrA v12 y10.1]) ss ?_
   refine RA.many [3, 6, 10] (by kernel_rfl) ⟨⟨_, rfl, ?_⟩, ⟨_, rfl, ?_⟩, ⟨_, rfl, ?_⟩, trivial⟩
   ·skip
    refine RL.ldPx (off := (0 + 2)) (e' := u0a) 0 Ex.raw Tryz_ln40 rfl rfl (Or.inl rfl) rfl PtOf.obox (Part.snd (Part.snd Part.self)) ?_
    refine RL.fin ?_
    refine RA.next ?_
    refine RA.relist 6 q_23 rfl (by kernel_rfl) ?_
    exact fun a w st => h137 () a w (St.cut [0, 1, 2, 3] ⟨rfl, rfl, rfl, rfl, rfl, trivial⟩ (by decide) rfl st)
   ·skip
    refine RL.cat rfl rfl rfl rfl e108 ?_
    refine RL.fin ?_
    refine RA.next ?_
    refine RA.relist 6 q_19 rfl (by kernel_rfl) ?_
    exact fun a w st => h133 () a w (St.cut [0, 1, 2, 3] ⟨rfl, rfl, rfl, rfl, rfl, trivial⟩ (by decide) rfl st)
   refine RL.callV (v := (sv y111)) (vs := [.int .i64 x1.2.1]) Tryz_fit18 rfl (Or.inl rfl) rfl rfl rfl rfl (fun U w hU hW hL => strconv_Itoa_c U w hU (hT.mono hW) x1.2.1 _ e112) ?_
   refine RL.fin ?_
   refine RA.next ?_
   refine RA.relist 6 q_22 rfl (by kernel_rfl) ?_
   exact fun a w st => h136 () a w (St.cut [0, 1, 2, 3] ⟨rfl, rfl, rfl, rfl, rfl, trivial⟩ (by decide) rfl st)
  refine RA.meet (ι := Unit) (fun (p : Unit) => [(0, v0), (5, v12), (26, u0a), (28, (sv x1.2.2.1)), (31, adr v4 (0 + 1))]) (fun (p : Unit) => [obox 45 TrH v0 (x0.1, (x0.2.1, u0a)), obox 55 TrL u0a x0.2.2, keep X, own 86 TrA v12 y10.1, obox 59 TrE v4 x1]) 7 q_26 (fun h140 => ?_) ?_
  rotate_left
  ·rintro ⟨⟩
   refine RA.weak (env' := [(0, v0), (5, v12), (26, u0a), (28, (sv x1.2.2.1)), (31, adr v4 (0 + 1))]) (L' := [obox 45 TrH v0 (x0.1, (x0.2.1, u0a)), obox 55 TrL u0a x0.2.2, keep X, own 86 TrA v12 y10.1, obox 59 TrE v4 x1]) ss ?_
   refine RA.many [6, 9] (by kernel_rfl) ⟨⟨_, rfl, ?_⟩, ⟨_, rfl, ?_⟩, trivial⟩
   ·skip
    refine RL.cat rfl rfl rfl rfl e108 ?_
    refine RL.fin ?_
    refine RA.next ?_
    refine RA.relist 6 q_21 rfl (by kernel_rfl) ?_
    exact fun a w st => h135 () a w (St.cut [0, 1, 2, 3, 4] ⟨rfl, rfl, rfl, rfl, rfl, trivial⟩ (by decide) rfl st)
   refine RL.ldPx (off := (0 + 1)) (e' := x1.2.1) 4 Ex.ik Tryz_ln3 rfl rfl (Or.inl rfl) rfl PtOf.obox (Part.snd (Part.fst Part.self)) ?_
   refine RL.fin ?_
   refine RA.next ?_
   refine RA.relist 6 q_23 rfl (by kernel_rfl) ?_
   exact fun a w st => h137 () a w (St.cut [0, 1, 2, 3] ⟨rfl, rfl, rfl, rfl, rfl, trivial⟩ (by decide) rfl st)
  refine RA.meet (ι := Unit) (fun (p : Unit) => [(0, v0), (3, v4), (5, v12), (26, u0a), (33, (sv y111))]) (fun (p : Unit) => [obox 45 TrH v0 (x0.1, (x0.2.1, u0a)), obox 55 TrL u0a x0.2.2, keep X, obox 59 TrE v4 x1, own 86 TrA v12 y10.1]) 7 q_27 (fun h141 => ?_) ?_
  rotate_left
  ·rintro ⟨⟩
   refine RA.weak (env' := [(0, v0), (3, v4), (5, v12), (26, u0a), (33, (sv y111))]) (L' := [obox 45 TrH v0 (x0.1, (x0.2.1, u0a)), obox 55 TrL u0a x0.2.2, keep X, obox 59 TrE v4 x1, own 86 TrA v12 y10.1]) ss ?_
   refine RA.seq 4 rfl (by kernel_rfl) ?_
   refine RL.fadr (off := 0) (fo := 2) 3 Tryz_fld59_2 rfl rfl rfl PtOf.obox (Or.inr ⟨rfl, rfl⟩) ?_
   refine RL.fin ?_
   refine RA.next ?_
   refine RA.relist 6 q_24 rfl (by kernel_rfl) ?_
   exact fun a w st => h138 () a w (St.cut [0, 1, 2, 4, 3] ⟨rfl, rfl, rfl, rfl, rfl, trivial⟩ (by decide) rfl st)
  refine RA.meet (ι := Unit) (fun (p : Unit) => [(0, v0), (3, v4), (5, v12), (26, u0a), (29, (sv (([111, 32] : B8) ++ x1.2.2.1)))]) (fun (p : Unit) => [obox 45 TrH v0 (x0.1, (x0.2.1, u0a)), obox 55 TrL u0a x0.2.2, keep X, obox 59 TrE v4 x1, own 86 TrA v12 y10.1]) 7 q_28 (fun h142 => ?_) ?_
  rotate_left
  ·rintro ⟨⟩
   refine RA.weak (env' := [(0, v0), (3, v4), (5, v12), (26, u0a), (29, (sv (([111, 32] : B8) ++ x1.2.2.1)))]) (L' := [obox 45 TrH v0 (x0.1, (x0.2.1, u0a)), obox 55 TrL u0a x0.2.2, keep X, obox 59 TrE v4 x1, own 86 TrA v12 y10.1]) ss ?_
   refine RA.many [7, 8] (by kernel_rfl) ⟨⟨_, rfl, ?_⟩, ⟨_, rfl, ?_⟩, trivial⟩
   ·skip
    refine RL.cat rfl rfl rfl rfl e110 ?_
    refine RL.fin ?_
    refine RA.next ?_
    refine RA.relist 6 q_1 rfl (by kernel_rfl) ?_
    exact fun a w st => h132 () a w (St.cut [0, 1, 2, 3, 4] ⟨rfl, rfl, rfl, rfl, rfl, trivial⟩ (by decide) rfl st)
   refine RL.fadr (off := 0) (fo := 1) 3 Tryz_fld59_1 rfl rfl rfl PtOf.obox (Or.inr ⟨rfl, rfl⟩) ?_
   refine RL.fin ?_
   refine RA.next ?_
   refine RA.relist 6 q_21 rfl (by kernel_rfl) ?_
   exact fun a w st => h135 () a w (St.cut [0, 1, 2, 4, 3] ⟨rfl, rfl, rfl, rfl, rfl, trivial⟩ (by decide) rfl st)
  refine RA.meet (ι := Unit) (fun (p : Unit) => [(0, v0), (5, v12), (26, u0a), (27, adr v4 (0 + 2)), (32, .int .i64 x1.2.1)]) (fun (p : Unit) => [obox 45 TrH v0 (x0.1, (x0.2.1, u0a)), obox 55 TrL u0a x0.2.2, keep X, own 86 TrA v12 y10.1, obox 59 TrE v4 x1]) 7 q_29 (fun h143 => ?_) ?_
  rotate_left
  ·rintro ⟨⟩
   refine RA.weak (env' := [(0, v0), (5, v12), (26, u0a), (27, adr v4 (0 + 2)), (32, .int .i64 x1.2.1)]) (L' := [obox 45 TrH v0 (x0.1, (x0.2.1, u0a)), obox 55 TrL u0a x0.2.2, keep X, own 86 TrA v12 y10.1, obox 59 TrE v4 x1]) ss ?_
   refine RA.many [5, 10] (by kernel_rfl) ⟨⟨_, rfl, ?_⟩, ⟨_, rfl, ?_⟩, trivial⟩
   ·skip
    refine RL.ldPx (off := (0 + 2)) (e' := x1.2.2.1) 4 Ex.str Tryz_ln9 rfl rfl (Or.inl rfl) rfl PtOf.obox (Part.snd (Part.snd (Part.fst Part.self))) ?_
    refine RL.fin ?_
    refine RA.next ?_
    refine RA.relist 6 q_23 rfl (by kernel_rfl) ?_
    exact fun a w st => h137 () a w (St.cut [0, 1, 2, 3] ⟨rfl, rfl, rfl, rfl, rfl, trivial⟩ (by decide) rfl st)
   refine RL.callV (v := (sv y111)) (vs := [.int .i64 x1.2.1]) Tryz_fit18 rfl (Or.inl rfl) rfl rfl rfl rfl (fun U w hU hW hL => strconv_Itoa_c U w hU (hT.mono hW) x1.2.1 _ e112) ?_
   refine RL.fin ?_
   refine RA.next ?_
   refine RA.relist 6 q_24 rfl (by kernel_rfl) ?_
   exact fun a w st => h138 () a w (St.cut [0, 1, 2, 3, 4] ⟨rfl, rfl, rfl, rfl, rfl, trivial⟩ (by decide) rfl st)
  refine RA.meet (ι := Unit) (fun (p : Unit) => [(0, v0), (5, v12), (25, adr v0 (0 + 2)), (27, adr v4 (0 + 2)), (33, (sv y111))]) (fun (p : Unit) => [obox 45 TrH v0 (x0.1, (x0.2.1, u0a)), obox 55 TrL u0a x0.2.2, keep X, own 86 TrA v12 y10.1, obox 59 TrE v4 x1]) 7 q_30 (fun h144 => ?_) ?_
  rotate_left
  ·rintro ⟨⟩
   refine RA.weak (env' := [(0, v0), (5, v12), (25, adr v0 (0 + 2)), (27, adr v4 (0 + 2)), (33, (sv y111))]) (L' := [obox 45 TrH v0 (x0.1, (x0.2.1, u0a)), obox 55 TrL u0a x0.2.2, keep X, own 86 TrA v12 y10.1, obox 59 TrE v4 x1]) ss ?_
   refine RA.many [3, 5] (by kernel_rfl) ⟨⟨_, rfl, ?_⟩, ⟨_, rfl, ?_⟩, trivial⟩
   ·skip
    refine RL.ldPx (off := (0 + 2)) (e' := u0a) 0 Ex.raw Tryz_ln40 rfl rfl (Or.inl rfl) rfl PtOf.obox (Part.snd (Part.snd Part.self)) ?_
    refine RL.fin ?_
    refine RA.next ?_
    refine RA.relist 6 q_24 rfl (by kernel_rfl) ?_
    exact fun a w st => h138 () a w (St.cut [0, 1, 2, 3, 4] ⟨rfl, rfl, rfl, rfl, rfl, trivial⟩ (by decide) rfl st)
   refine RL.ldPx (off := (0 + 2)) (e' := x1.2.2.1) 4 Ex.str Tryz_ln9 rfl rfl (Or.inl rfl) rfl PtOf.obox (Part.snd (Part.snd (Part.fst Part.self))) ?_
   refine RL.fin ?_
   refine RA.next ?_
   refine RA.relist 6 q_22 rfl (by kernel_rfl) ?_
   exact fun a w st => h136 () a w (St.cut [0, 1, 2, 3] ⟨rfl, rfl, rfl, rfl, rfl, trivial⟩ (by decide) rfl st)
  refine RA.meet (ι := Unit) (fun (p : Unit) => [(0, v0), (5, v12), (23, v0), (29, (sv (([111, 32] : B8) ++ x1.2.2.1))), (33, (sv y111))]) (fun (p : Unit) => [obox 45 TrH v0 (x0.1, (x0.2.1, u0a)), obox 55 TrL u0a x0.2.2, keep X, own 86 TrA v12 y10.1]) 7 q_31 (fun h145 => ?_) ?_
  rotate_left
  ·rintro ⟨⟩
   refine RA.weak (env' := [(0, v0), (5, v12), (23, v0), (29, (sv (([111, 32] : B8) ++ x1.2.2.1))), (33, (sv y111))]) (L' := [obox 45 TrH v0 (x0.1, (x0.2.1, u0a)), obox 55 TrL u0a x0.2.2, keep X, own 86 TrA v12 y10.1]) ss ?_
   refine RA.many [1, 7] (by kernel_rfl) ⟨⟨_, rfl, ?_⟩, ⟨_, rfl, ?_⟩, trivial⟩
   ·skip
    refine RL.nilk 0 rfl rfl rfl rfl PtOf.obox ?_
    refine RL.fin ?_
    refine RA.next ?_
    refine RA.relist 6 q_20 rfl (by kernel_rfl) ?_
    exact fun a w st => h134 () a w (St.cut [0, 1, 2, 3] ⟨rfl, rfl, rfl, rfl, rfl, trivial⟩ (by decide) rfl st)
   refine RL.cat rfl rfl rfl rfl e110 ?_
   refine RL.fin ?_
   refine RA.next ?_
   refine RA.relist 6 q_18 rfl (by kernel_rfl) ?_
   exact fun a w st => h131 () a w (St.cut [0, 1, 2, 3] ⟨rfl, rfl, rfl, rfl, rfl, trivial⟩ (by decide) rfl st)
  refine RA.meet (ι := Unit) (fun (p : Unit) => [(0, v0), (3, v4), (5, v12), (25, adr v0 (0 + 2)), (30, (sv ((([111, 32] : B8) ++ x1.2.2.1) ++ ([32] : B8))))]) (fun (p : Unit) => [obox 45 TrH v0 (x0.1, (x0.2.1, u0a)), obox 55 TrL u0a x0.2.2, keep X, obox 59 TrE v4 x1, own 86 TrA v12 y10.1]) 7 q_32 (fun h146 => ?_) ?_
  rotate_left
  ·rintro ⟨⟩
   refine RA.weak (env' := [(0, v0), (3, v4), (5, v12), (25, adr v0 (0 + 2)), (30, (sv ((([111, 32] : B8) ++ x1.2.2.1) ++ ([32] : B8))))]) (L' := [obox 45 TrH v0 (x0.1, (x0.2.1, u0a)), obox 55 TrL u0a x0.2.2, keep X, obox 59 TrE v4 x1, own 86 TrA v12 y10.1]) ss ?_
   refine RA.many [3, 8] (by kernel_rfl) ⟨⟨_, rfl, ?_⟩, ⟨_, rfl, ?_⟩, trivial⟩
   ·skip
    refine RL.ldPx (off := (0 + 2)) (e' := u0a) 0 Ex.raw Tryz_ln40 rfl rfl (Or.inl rfl) rfl PtOf.obox (Part.snd (Part.snd Part.self)) ?_
    refine RL.fin ?_
    refine RA.next ?_
    refine RA.relist 6 q_1 rfl (by kernel_rfl) ?_
    exact fun a w st => h132 () a w (St.cut [0, 1, 2, 3, 4] ⟨rfl, rfl, rfl, rfl, rfl, trivial⟩ (by decide) rfl st)
   refine RL.fadr (off := 0) (fo := 1) 3 Tryz_fld59_1 rfl rfl rfl PtOf.obox (Or.inr ⟨rfl, rfl⟩) ?_
   refine RL.fin ?_
   refine RA.next ?_
   refine RA.relist 6 q_17 rfl (by kernel_rfl) ?_
   exact fun a w st => h130 () a w (St.cut [0, 1, 2, 4, 3] ⟨rfl, rfl, rfl, rfl, rfl, trivial⟩ (by decide) rfl st)
  refine RA.meet (ι := Unit) (fun (p : Unit) => [(0, v0), (5, v12), (24, v0), (29, (sv (([111, 32] : B8) ++ x1.2.2.1))), (32, .int .i64 x1.2.1)]) (fun (p : Unit) => [obox 45 TrH v0 (x0.1, (x0.2.1, u0a)), obox 55 TrL u0a x0.2.2, keep X, own 86 TrA v12 y10.1]) 7 q_33 (fun h147 => ?_) ?_
  rotate_left
  ·rintro ⟨⟩
   refine RA.weak (env' := [(0, v0), (5, v12), (24, v0), (29, (sv (([111, 32] : B8) ++ x1.2.2.1))), (32, .int .i64 x1.2.1)]) (L' := [obox 45 TrH v0 (x0.1, (x0.2.1, u0a)), obox 55 TrL u0a x0.2.2, keep X, own 86 TrA v12 y10.1]) ss ?_
   refine RA.many [2, 7, 10] (by kernel_rfl) ⟨⟨_, rfl, ?_⟩, ⟨_, rfl, ?_⟩, ⟨_, rfl, ?_⟩, trivial⟩
   ·skip
    refine RL.fadr (off := 0) (fo := 2) 0 Tryz_fld45_2 rfl rfl rfl PtOf.obox (Or.inr ⟨rfl, rfl⟩) ?_
    refine RL.fin ?_
    refine RA.next ?_
    refine RA.relist 6 q_19 rfl (by kernel_rfl) ?_
    exact fun a w st => h133 () a w (St.cut [0, 1, 2, 3] ⟨rfl, rfl, rfl, rfl, rfl, trivial⟩ (by decide) rfl st)
   ·skip
    refine RL.cat rfl rfl rfl rfl e110 ?_
    refine RL.fin ?_
    refine RA.next ?_
    refine RA.relist 6 q_16 rfl (by kernel_rfl) ?_
    exact fun a w st => h129 () a w (St.cut [0, 1, 2, 3] ⟨rfl, rfl, rfl, rfl, rfl, trivial⟩ (by decide) rfl st)
   refine RL.callV (v := (sv y111)) (vs := [.int .i64 x1.2.1]) Tryz_fit18 rfl (Or.inl rfl) rfl rfl rfl rfl (fun U w hU hW hL => strconv_Itoa_c U w hU (hT.mono hW) x1.2.1 _ e112) ?_
   refine RL.fin ?_
   refine RA.next ?_
   refine RA.relist 6 q_20 rfl (by kernel_rfl) ?_
   exact fun a w st => h134 () a w (St.cut [0, 1, 2, 3] ⟨rfl, rfl, rfl, rfl, rfl, trivial⟩ (by decide) rfl st)
  refine RA.meet (ι := Unit) (fun (p : Unit) => [(0, v0), (5, v12), (25, adr v0 (0 + 2)), (29, (sv (([111, 32] : B8) ++ x1.2.2.1))), (31, adr v4 (0 + 1))]) (fun (p : Unit) => [obox 45 TrH v0 (x0.1, (x0.2.1, u0a)), obox 55 TrL u0a x0.2.2, keep X, own 86 TrA v12 y10.1, obox 59 TrE v4 x1]) 7 q_34 (fun h148 => ?_) ?_
  rotate_left
  ·rintro ⟨⟩
   refine RA.weak (env' := [(0, v0), (5, v12), (25, adr v0 (0 + 2)), (29, (sv (([111, 32] : B8) ++ x1.2.2.1))), (31, adr v4 (0 + 1))]) (L' := [obox 45 TrH v0 (x0.1, (x0.2.1, u0a)), obox 55 TrL u0a x0.2.2, keep X, own 86 TrA v12 y10.1, obox 59 TrE v4 x1]) ss ?_
   refine RA.many [3, 7, 9] (by kernel_rfl) ⟨⟨_, rfl, ?_⟩, ⟨_, rfl, ?_⟩, ⟨_, rfl, ?_⟩, trivial⟩
   ·skip
    refine RL.ldPx (off := (0 + 2)) (e' := u0a) 0 Ex.raw Tryz_ln40 rfl rfl (Or.inl rfl) rfl PtOf.obox (Part.snd (Part.snd Part.self)) ?_
    refine RL.fin ?_
    refine RA.next ?_
    refine RA.relist 6 q_21 rfl (by kernel_rfl) ?_
    exact fun a w st => h135 () a w (St.cut [0, 1, 2, 3, 4] ⟨rfl, rfl, rfl, rfl, rfl, trivial⟩ (by decide) rfl st)
   ·skip
    refine RL.cat rfl rfl rfl rfl e110 ?_
    refine RL.fin ?_
    refine RA.next ?_
    refine RA.relist 6 q_17 rfl (by kernel_rfl) ?_
    exact fun a w st => h130 () a w (St.cut [0, 1, 2, 3, 4] ⟨rfl, rfl, rfl, rfl, rfl, trivial⟩ (by decide) rfl st)
   refine RL.ldPx (off := (0 + 1)) (e' := x1.2.1) 4 Ex.ik Tryz_ln3 rfl rfl (Or.inl rfl) rfl PtOf.obox (Part.snd (Part.fst Part.self)) ?_
   refine RL.fin ?_
   refine RA.next ?_
   refine RA.relist 6 q_19 rfl (by kernel_rfl) ?_
   exact fun a w st => h133 () a w (St.cut [0, 1, 2, 3] ⟨rfl, rfl, rfl, rfl, rfl, trivial⟩ (by decide) rfl st)
  refine RA.meet (ι := Unit) (fun (p : Unit) => [(0, v0), (5, v12), (23, v0), (30, (sv ((([111, 32] : B8) ++ x1.2.2.1) ++ ([32] : B8)))), (32, .int .i64 x1.2.1)]) (fun (p : Unit) => [obox 45 TrH v0 (x0.1, (x0.2.1, u0a)), obox 55 TrL u0a x0.2.2, keep X, own 86 TrA v12 y10.1]) 7 q_35 (fun h149 => ?_) ?_
  rotate_left
  ·rintro ⟨⟩
   refine RA.weak (env' := [(0, v0), (5, v12), (23, v0), (30, (sv ((([111, 32] : B8) ++ x1.2.2.1) ++ ([32] : B8)))), (32, .int .i64 x1.2.1)]) (L' := [obox 45 TrH v0 (x0.1, (x0.2.1, u0a)), obox 55 TrL u0a x0.2.2, keep X, own 86 TrA v12 y10.1]) ss ?_
   refine RA.many [1, 10] (by kernel_rfl) ⟨⟨_, rfl, ?_⟩, ⟨_, rfl, ?_⟩, trivial⟩
   ·skip
    refine RL.nilk 0 rfl rfl rfl rfl PtOf.obox ?_
    refine RL.fin ?_
    refine RA.next ?_
    refine RA.relist 6 q_16 rfl (by kernel_rfl) ?_
    exact fun a w st => h129 () a w (St.cut [0, 1, 2, 3] ⟨rfl, rfl, rfl, rfl, rfl, trivial⟩ (by decide) rfl st)
   refine RL.callV (v := (sv y111)) (vs := [.int .i64 x1.2.1]) Tryz_fit18 rfl (Or.inl rfl) rfl rfl rfl rfl (fun U w hU hW hL => strconv_Itoa_c U w hU (hT.mono hW) x1.2.1 _ e112) ?_
   refine RL.fin ?_
   refine RA.next ?_
   refine RA.relist 6 q_18 rfl (by kernel_rfl) ?_
   exact fun a w st => h131 () a w (St.cut [0, 1, 2, 3] ⟨rfl, rfl, rfl, rfl, rfl, trivial⟩ (by decide) rfl st)
  refine RA.meet (ι := Unit) (fun (p : Unit) => [(0, v0), (5, v12), (24, v0), (28, (sv x1.2.2.1)), (33, (sv y111))]) (fun (p : Unit) => [obox 45 TrH v0 (x0.1, (x0.2.1, u0a)), obox 55 TrL u0a x0.2.2, keep X, own 86 TrA v12 y10.1]) 7 q_36 (fun h150 => ?_) ?_
  rotate_left
  ·rintro ⟨⟩
   refine RA.weak (env' := [(0, v0), (5, v12), (24, v0), (28, (sv x1.2.2.1)), (33, (sv y111))]) (L' := [obox 45 TrH v0 (x0.1, (x0.2.1, u0a)), obox 55 TrL u0a x0.2.2, keep X, own 86 TrA v12 y10.1]) ss ?_
   refine RA.many [2, 6] (by kernel_rfl) ⟨⟨_, rfl, ?_⟩, ⟨_, rfl, ?_⟩, trivial⟩
   ·skip
    refine RL.fadr (off := 0) (fo := 2) 0 Tryz_fld45_2 rfl rfl rfl PtOf.obox (Or.inr ⟨rfl, rfl⟩) ?_
    refine RL.fin ?_
    refine RA.next ?_
    refine RA.relist 6 q_22 rfl (by kernel_rfl) ?_
    exact fun a w st => h136 () a w (St.cut [0, 1, 2, 3] ⟨rfl, rfl, rfl, rfl, rfl, trivial⟩ (by decide) rfl st)
   refine RL.cat rfl rfl rfl rfl e108 ?_
   refine RL.fin ?_
   refine RA.next ?_
   refine RA.relist 6 q_20 rfl (by kernel_rfl) ?_
   exact fun a w st => h134 () a w (St.cut [0, 1, 2, 3] ⟨rfl, rfl, rfl, rfl, rfl, trivial⟩ (by decide) rfl st)
  refine RA.meet (ι := Unit) (fun (p : Unit) => [(0, v0), (5, v12), (24, v0), (30, (sv ((([111, 32] : B8) ++ x1.2.2.1) ++ ([32] : B8)))), (31, adr v4 (0 + 1))]) (fun (p : Unit) => [obox 45 TrH v0 (x0.1, (x0.2.1, u0a)), obox 55 TrL u0a x0.2.2, keep X, own 86 TrA v12 y10.1, obox 59 TrE v4 x1]) 7 q_37 (fun h151 => ?_) ?_
  rotate_left
  ·rintro ⟨⟩
   refine RA.weak (env' := [(0, v0), (5, v12), (24, v0), (30, (sv ((([111, 32] : B8) ++ x1.2.2.1) ++ ([32] : B8)))), (31, adr v4 (0 + 1))]) (L' := [obox 45 TrH v0 (x0.1, (x0.2.1, u0a)), obox 55 TrL u0a x0.2.2, keep X, own 86 TrA v12 y10.1, obox 59 TrE v4 x1]) ss ?_
   refine RA.many [2, 9] (by kernel_rfl) ⟨⟨_, rfl, ?_⟩, ⟨_, rfl, ?_⟩, trivial⟩
   ·skip
    refine RL.fadr (off := 0) (fo := 2) 0 Tryz_fld45_2 rfl rfl rfl PtOf.obox (Or.inr ⟨rfl, rfl⟩) ?_
    refine RL.fin ?_
    refine RA.next ?_
    refine RA.relist 6 q_17 rfl (by kernel_rfl) ?_
    exact fun a w st => h130 () a w (St.cut [0, 1, 2, 3, 4] ⟨rfl, rfl, rfl, rfl, rfl, trivial⟩ (by decide) rfl st)
   refine RL.ldPx (off := (0 + 1)) (e' := x1.2.1) 4 Ex.ik Tryz_ln3 rfl rfl (Or.inl rfl) rfl PtOf.obox (Part.snd (Part.fst Part.self)) ?_
   refine RL.fin ?_
   refine RA.next ?_
   refine RA.relist 6 q_16 rfl (by kernel_rfl) ?_
   exact fun a w st => h129 () a w (St.cut [0, 1, 2, 3] ⟨rfl, rfl, rfl, rfl, rfl, trivial⟩ (by decide) rfl st)
  refine RA.meet (ι := Unit) (fun (p : Unit) => [(0, v0), (5, v12), (24, v0), (29, (sv (([111, 32] : B8) ++ x1.2.2.1))), (31, adr v4 (0 + 1))]) (fun (p : Unit) => [obox 45 TrH v0 (x0.1, (x0.2.1, u0a)), obox 55 TrL u0a x0.2.2, keep X, own 86 TrA v12 y10.1, obox 59 TrE v4 x1]) 8 q_38 (fun h152 => ?_) ?_
  rotate_left
  ·rintro ⟨⟩
   refine RA.weak (env' := [(0, v0), (5, v12), (24, v0), (29, (sv (([111, 32] : B8) ++ x1.2.2.1))), (31, adr v4 (0 + 1))]) (L' := [obox 45 TrH v0 (x0.1, (x0.2.1, u0a)), obox 55 TrL u0a x0.2.2, keep X, own 86 TrA v12 y10.1, obox 59 TrE v4 x1]) ss ?_
   refine RA.many [2, 7, 9] (by kernel_rfl) ⟨⟨_, rfl, ?_⟩, ⟨_, rfl, ?_⟩, ⟨_, rfl, ?_⟩, trivial⟩
   ·skip
    refine RL.fadr (off := 0) (fo := 2) 0 Tryz_fld45_2 rfl rfl rfl PtOf.obox (Or.inr ⟨rfl, rfl⟩) ?_
    refine RL.fin ?_
    refine RA.next ?_
    refine RA.relist 7 q_34 rfl (by kernel_rfl) ?_
    exact fun a w st => h148 () a w (St.cut [0, 1, 2, 3, 4] ⟨rfl, rfl, rfl, rfl, rfl, trivial⟩ (by decide) rfl st)
   ·skip
    refine RL.cat rfl rfl rfl rfl e110 ?_
    refine RL.fin ?_
    refine RA.next ?_
    refine RA.relist 7 q_37 rfl (by kernel_rfl) ?_
    exact fun a w st => h151 () a w (St.cut [0, 1, 2, 3, 4] ⟨rfl, rfl, rfl, rfl, rfl, trivial⟩ (by decide) rfl st)
   refine RL.ldPx (off := (0 + 1)) (e' := x1.2.1) 4 Ex.ik Tryz_ln3 rfl rfl (Or.inl rfl) rfl PtOf.obox (Part.snd (Part.fst Part.self)) ?_
   refine RL.fin ?_
   refine RA.next ?_
   refine RA.relist 7 q_33 rfl (by kernel_rfl) ?_
   exact fun a w st => h147 () a w (St.cut [0, 1, 2, 3] ⟨rfl, rfl, rfl, rfl, rfl, trivial⟩ (by decide) rfl st)
  refine RA.meet (ι := Unit) (fun (p : Unit) => [(0, v0), (3, v4), (5, v12), (25, adr v0 (0 + 2)), (33, (sv y111))]) (fun (p : Unit) => [obox 45 TrH v0 (x0.1, (x0.2.1, u0a)), obox 55 TrL u0a x0.2.2, keep X, obox 59 TrE v4 x1, own 86 TrA v12 y10.1]) 8 q_39 (fun h153 => ?_) ?_
  rotate_left
  ·rintro ⟨⟩
   refine RA.weak (env' := [(0, v0), (3, v4), (5, v12), (25, adr v0 (0 + 2)), (33, (sv y111))]) (L' := [obox 45 TrH v0 (x0.1, (x0.2.1, u0a)), obox 55 TrL u0a x0.2.2, keep X, obox 59 TrE v4 x1, own 86 TrA v12 y10.1]) ss ?_
   refine RA.many [3, 4] (by kernel_rfl) ⟨⟨_, rfl, ?_⟩, ⟨_, rfl, ?_⟩, trivial⟩
   ·skip
    refine RL.ldPx (off := (0 + 2)) (e' := u0a) 0 Ex.raw Tryz_ln40 rfl rfl (Or.inl rfl) rfl PtOf.obox (Part.snd (Part.snd Part.self)) ?_
    refine RL.fin ?_
    refine RA.next ?_
    refine RA.relist 7 q_27 rfl (by kernel_rfl) ?_
    exact fun a w st => h141 () a w (St.cut [0, 1, 2, 3, 4] ⟨rfl, rfl, rfl, rfl, rfl, trivial⟩ (by decide) rfl st)
   refine RL.fadr (off := 0) (fo := 2) 3 Tryz_fld59_2 rfl rfl rfl PtOf.obox (Or.inr ⟨rfl, rfl⟩) ?_
   refine RL.fin ?_
   refine RA.next ?_
   refine RA.relist 7 q_30 rfl (by kernel_rfl) ?_
   exact fun a w st => h144 () a w (St.cut [0, 1, 2, 4, 3] ⟨rfl, rfl, rfl, rfl, rfl, trivial⟩ (by decide) rfl st)
  refine RA.meet (ι := Unit) (fun (p : Unit) => [(0, v0), (5, v12), (23, v0), (29, (sv (([111, 32] : B8) ++ x1.2.2.1))), (32, .int .i64 x1.2.1)]) (fun (p : Unit) => [obox 45 TrH v0 (x0.1, (x0.2.1, u0a)), obox 55 TrL u0a x0.2.2, keep X, own 86 TrA v12 y10.1]) 8 q_40 (fun h154 => ?_) ?_
  rotate_left
  ·rintro ⟨⟩
   refine RA.weak (env' := [(0, v0), (5, v12), (23, v0), (29, (sv (([111, 32] : B8) ++ x1.2.2.1))), (32, .int .i64 x1.2.1)]) (L' := [obox 45 TrH v0 (x0.1, (x0.2.1, u0a)), obox 55 TrL u0a x0.2.2, keep X, own 86 TrA v12 y10.1]) ss ?_
   refine RA.many [1, 7, 10] (by kernel_rfl) ⟨⟨_, rfl, ?_⟩, ⟨_, rfl, ?_⟩, ⟨_, rfl, ?_⟩, trivial⟩
   ·skip
    refine RL.nilk 0 rfl rfl rfl rfl PtOf.obox ?_
    refine RL.fin ?_
    refine RA.next ?_
    refine RA.relist 7 q_33 rfl (by kernel_rfl) ?_
    exact fun a w st => h147 () a w (St.cut [0, 1, 2, 3] ⟨rfl, rfl, rfl, rfl, rfl, trivial⟩ (by decide) rfl st)
   ·skip
    refine RL.cat rfl rfl rfl rfl e110 ?_
    refine RL.fin ?_
    refine RA.next ?_
    refine RA.relist 7 q_35 rfl (by kernel_rfl) ?_
    exact fun a w st => h149 () a w (St.cut [0, 1, 2, 3] ⟨rfl, rfl, rfl, rfl, rfl, trivial⟩ (by decide) rfl st)
   refine RL.callV (v := (sv y111)) (vs := [.int .i64 x1.2.1]) Tryz_fit18 rfl (Or.inl rfl) rfl rfl rfl rfl (fun U w hU hW hL => strconv_Itoa_c U w hU (hT.mono hW) x1.2.1 _ e112) ?_
   refine RL.fin ?_
   refine RA.next ?_
   refine RA.relist 7 q_31 rfl (by kernel_rfl) ?_
   exact fun a w st => h145 () a w (St.cut [0, 1, 2, 3] ⟨rfl, rfl, rfl, rfl, rfl, trivial⟩ (by decide) rfl st)
  refine RA.meet (ι := Unit) (fun (p : Unit) => [(0, v0), (3, v4), (5, v12), (25, adr v0 (0 + 2)), (29, (sv (([111, 32] : B8) ++ x1.2.2.1)))]) (fun (p : Unit) => [obox 45 TrH v0 (x0.1, (x0.2.1, u0a)), obox 55 TrL u0a x0.2.2, keep X, obox 59 TrE v4 x1, own 86 TrA v12 y10.1]) 8 q_41 (fun h155 => ?_) ?_
  rotate_left
  ·rintro ⟨⟩
   refine RA.weak (env' := [(0, v0), (3, v4), (5, v12), (25, adr v0 (0 + 2)), (29, (sv (([111, 32] : B8) ++ x1.2.2.1)))]) (L' := [obox 45 TrH v0 (x0.1, (x0.2.1, u0a)), obox 55 TrL u0a x0.2.2, keep X, obox 59 TrE v4 x1, own 86 TrA v12 y10.1]) ss ?_
   refine RA.many [3, 7, 8] (by kernel_rfl) ⟨⟨_, rfl, ?_⟩, ⟨_, rfl, ?_⟩, ⟨_, rfl, ?_⟩, trivial⟩
   ·skip
    refine RL.ldPx (off := (0 + 2)) (e' := u0a) 0 Ex.raw Tryz_ln40 rfl rfl (Or.inl rfl) rfl PtOf.obox (Part.snd (Part.snd Part.self)) ?_
    refine RL.fin ?_
    refine RA.next ?_
    refine RA.relist 7 q_28 rfl (by kernel_rfl) ?_
    exact fun a w st => h142 () a w (St.cut [0, 1, 2, 3, 4] ⟨rfl, rfl, rfl, rfl, rfl, trivial⟩ (by decide) rfl st)
   ·skip
    refine RL.cat rfl rfl rfl rfl e110 ?_
    refine RL.fin ?_
    refine RA.next ?_
    refine RA.relist 7 q_32 rfl (by kernel_rfl) ?_
    exact fun a w st => h146 () a w (St.cut [0, 1, 2, 3, 4] ⟨rfl, rfl, rfl, rfl, rfl, trivial⟩ (by decide) rfl st)
   refine RL.fadr (off := 0) (fo := 1) 3 Tryz_fld59_1 rfl rfl rfl PtOf.obox (Or.inr ⟨rfl, rfl⟩) ?_
   refine RL.fin ?_
   refine RA.next ?_
   refine RA.relist 7 q_34 rfl (by kernel_rfl) ?_
   exact fun a w st => h148 () a w (St.cut [0, 1, 2, 4, 3] ⟨rfl, rfl, rfl, rfl, rfl, trivial⟩ (by decide) rfl st)
  refine RA.meet (ι := Unit) (fun (p : Unit) => [(0, v0), (5, v12), (23, v0), (30, (sv ((([111, 32] : B8) ++ x1.2.2.1) ++ ([32] : B8)))), (31, adr v4 (0 + 1))]) (fun (p : Unit) => [obox 45 TrH v0 (x0.1, (x0.2.1, u0a)), obox 55 TrL u0a x0.2.2, keep X, own 86 TrA v12 y10.1, obox 59 TrE v4 x1]) 8 q_42 (fun h156 => ?_) ?_
  rotate_left
  ·rintro ⟨⟩
   refine RA.weak (env' := [(0, v0), (5, v12), (23, v0), (30, (sv ((([111, 32] : B8) ++ x1.2.2.1) ++ ([32] : B8)))), (31, adr v4 (0 + 1))]) (L' := [obox 45 TrH v0 (x0.1, (x0.2.1, u0a)), obox 55 TrL u0a x0.2.2, keep X, own 86 TrA v12 y10.1, obox 59 TrE v4 x1]) ss ?_
   refine RA.many [1, 9] (by kernel_rfl) ⟨⟨_, rfl, ?_⟩, ⟨_, rfl, ?_⟩, trivial⟩
   ·skip
    refine RL.nilk 0 rfl rfl rfl rfl PtOf.obox ?_
    refine RL.fin ?_
    refine RA.next ?_
    refine RA.relist 7 q_37 rfl (by kernel_rfl) ?_
    exact fun a w st => h151 () a w (St.cut [0, 1, 2, 3, 4] ⟨rfl, rfl, rfl, rfl, rfl, trivial⟩ (by decide) rfl st)
   refine RL.ldPx (off := (0 + 1)) (e' := x1.2.1) 4 Ex.ik Tryz_ln3 rfl rfl (Or.inl rfl) rfl PtOf.obox (Part.snd (Part.fst Part.self)) ?_
   refine RL.fin ?_
   refine RA.next ?_
   refine RA.relist 7 q_35 rfl (by kernel_rfl) ?_
   exact fun a w st => h149 () a w (St.cut [0, 1, 2, 3] ⟨rfl, rfl, rfl, rfl, rfl, trivial⟩ (by decide) rfl st)
  refine RA.meet (ι := Unit) (fun (p : Unit) => [(0, v0), (3, v4), (5, v12), (26, u0a), (32, .int .i64 x1.2.1)]) (fun (p : Unit) => [obox 45 TrH v0 (x0.1, (x0.2.1, u0a)), obox 55 TrL u0a x0.2.2, keep X, obox 59 TrE v4 x1, own 86 TrA v12 y10.1]) 8 q_43 (fun h157 => ?_) ?_
  rotate_left
  ·rintro ⟨⟩
   refine RA.weak (env' := [(0, v0), (3, v4), (5, v12), (26, u0a), (32, .int .i64 x1.2.1)]) (L' := [obox 45 TrH v0 (x0.1, (x0.2.1, u0a)), obox 55 TrL u0a x0.2.2, keep X, obox 59 TrE v4 x1, own 86 TrA v12 y10.1]) ss ?_
   refine RA.many [4, 10] (by kernel_rfl) ⟨⟨_, rfl, ?_⟩, ⟨_, rfl, ?_⟩, trivial⟩
   ·skip
    refine RL.fadr (off := 0) (fo := 2) 3 Tryz_fld59_2 rfl rfl rfl PtOf.obox (Or.inr ⟨rfl, rfl⟩) ?_
    refine RL.fin ?_
    refine RA.next ?_
    refine RA.relist 7 q_29 rfl (by kernel_rfl) ?_
    exact fun a w st => h143 () a w (St.cut [0, 1, 2, 4, 3] ⟨rfl, rfl, rfl, rfl, rfl, trivial⟩ (by decide) rfl st)
   refine RL.callV (v := (sv y111)) (vs := [.int .i64 x1.2.1]) Tryz_fit18 rfl (Or.inl rfl) rfl rfl rfl rfl (fun U w hU hW hL => strconv_Itoa_c U w hU (hT.mono hW) x1.2.1 _ e112) ?_
   refine RL.fin ?_
   refine RA.next ?_
   refine RA.relist 7 q_27 rfl (by kernel_rfl) ?_
   exact fun a w st => h141 () a w (St.cut [0, 1, 2, 3, 4] ⟨rfl, rfl, rfl, rfl, rfl, trivial⟩ (by decide) rfl st)
  refine RA.meet (ι := Unit) (fun (p : Unit) => [(0, v0), (5, v12), (24, v0), (28, (sv x1.2.2.1)), (32, .int .i64 x1.2.1)]) (fun (p : Unit) => [obox 45 TrH v0 (x0.1, (x0.2.1, u0a)), obox 55 TrL u0a x0.2.2, keep X, own 86 TrA v12 y10.1]) 8 q_44 (fun h158 => ?_) ?_
  rotate_left
  ·rintro ⟨⟩
   refine RA.weak (env' := [(0, v0), (5, v12), (24, v0), (28, (sv x1.2.2.1)), (32, .int .i64 x1.2.1)]) (L' := [obox 45 TrH v0 (x0.1, (x0.2.1, u0a)), obox 55 TrL u0a x0.2.2, keep X, own 86 TrA v12 y10.1]) ss ?_
   refine RA.many [2, 6, 10] (by kernel_rfl) ⟨⟨_, rfl, ?_⟩, ⟨_, rfl, ?_⟩, ⟨_, rfl, ?_⟩, trivial⟩
   ·skip
    refine RL.fadr (off := 0) (fo := 2) 0 Tryz_fld45_2 rfl rfl rfl PtOf.obox (Or.inr ⟨rfl, rfl⟩) ?_
    refine RL.fin ?_
    refine RA.next ?_
    refine RA.relist 7 q_25 rfl (by kernel_rfl) ?_
    exact fun a w st => h139 () a w (St.cut [0, 1, 2, 3] ⟨rfl, rfl, rfl, rfl, rfl, trivial⟩ (by decide) rfl st)
   ·skip
    refine RL.cat rfl rfl rfl rfl e108 ?_
    refine RL.fin ?_
    refine RA.next ?_
    refine RA.relist 7 q_33 rfl (by kernel_rfl) ?_
    exact fun a w st => h147 () a w (St.cut [0, 1, 2, 3] ⟨rfl, rfl, rfl, rfl, rfl, trivial⟩ (by decide) rfl st)
   refine RL.callV (v := (sv y111)) (vs := [.int .i64 x1.2.1]) Tryz_fit18 rfl (Or.inl rfl) rfl rfl rfl rfl (fun U w hU hW hL => strconv_Itoa_c U w hU (hT.mono hW) x1.2.1 _ e112) ?_
   refine RL.fin ?_
   refine RA.next ?_
   refine RA.relist 7 q_36 rfl (by kernel_rfl) ?_
   exact fun a w st => h150 () a w (St.cut [0, 1, 2, 3] ⟨rfl, rfl, rfl, rfl, rfl, trivial⟩ (by decide) rfl st)
  refine RA.meet (ι := Unit) (fun (p : Unit) => [(0, v0), (5, v12), (24, v0), (27, adr v4 (0 + 2)), (33, (sv y111))]) (fun (p : Unit) => [obox 45 TrH v0 (x0.1, (x0.2.1, u0a)), obox 55 TrL u0a x0.2.2, keep X, own 86 TrA v12 y10.1, obox 59 TrE v4 x1]) 8 q_45 (fun h159 => ?_) ?_
  rotate_left
  ·rintro ⟨⟩
   refine RA.weak (env' := [(0, v0), (5, v12), (24, v0), (27, adr v4 (0 + 2)), (33, (sv y111))]) (L' := [obox 45 TrH v0 (x0.1, (x0.2.1, u0a)), obox 55 TrL u0a x0.2.2, keep X, own 86 TrA v12 y10.1, obox 59 TrE v4 x1]) ss ?_
   refine RA.many [2, 5] (by kernel_rfl) ⟨⟨_, rfl, ?_⟩, ⟨_, rfl, ?_⟩, trivial⟩
   ·skip
    refine RL.fadr (off := 0) (fo := 2) 0 Tryz_fld45_2 rfl rfl rfl PtOf.obox (Or.inr ⟨rfl, rfl⟩) ?_
    refine RL.fin ?_
    refine RA.next ?_
    refine RA.relist 7 q_30 rfl (by kernel_rfl) ?_
    exact fun a w st => h144 () a w (St.cut [0, 1, 2, 3, 4] ⟨rfl, rfl, rfl, rfl, rfl, trivial⟩ (by decide) rfl st)
   refine RL.ldPx (off := (0 + 2)) (e' := x1.2.2.1) 4 Ex.str Tryz_ln9 rfl rfl (Or.inl rfl) rfl PtOf.obox (Part.snd (Part.snd (Part.fst Part.self))) ?_
   refine RL.fin ?_
   refine RA.next ?_
   refine RA.relist 7 q_36 rfl (by kernel_rfl) ?_
   exact fun a w st => h150 () a w (St.cut [0, 1, 2, 3] ⟨rfl, rfl, rfl, rfl, rfl, trivial⟩ (by decide) rfl st)
  refine RA.meet (ι := Unit) (fun (p : Unit) => [(0, v0), (3, v4), (5, v12), (24, v0), (30, (sv ((([111, 32] : B8) ++ x1.2.2.1) ++ ([32] : B8))))]) (fun (p : Unit) => [obox 45 TrH v0 (x0.1, (x0.2.1, u0a)), obox 55 TrL u0a x0.2.2, keep X, obox 59 TrE v4 x1, own 86 TrA v12 y10.1]) 8 q_46 (fun h160 => ?_) ?_
  rotate_left
  ·rintro ⟨⟩
   refine RA.weak (env' := [(0, v0), (3, v4), (5, v12), (24, v0), (30, (sv ((([111, 32] : B8) ++ x1.2.2.1) ++ ([32] : B8))))]) (L' := [obox 45 TrH v0 (x0.1, (x0.2.1, u0a)), obox 55 TrL u0a x0.2.2, keep X, obox 59 TrE v4 x1, own 86 TrA v12 y10.1]) ss ?_
   refine RA.many [2, 8] (by kernel_rfl) ⟨⟨_, rfl, ?_⟩, ⟨_, rfl, ?_⟩, trivial⟩
   ·skip
    refine RL.fadr (off := 0) (fo := 2) 0 Tryz_fld45_2 rfl rfl rfl PtOf.obox (Or.inr ⟨rfl, rfl⟩) ?_
    refine RL.fin ?_
    refine RA.next ?_
    refine RA.relist 7 q_32 rfl (by kernel_rfl) ?_
    exact fun a w st => h146 () a w (St.cut [0, 1, 2, 3, 4] ⟨rfl, rfl, rfl, rfl, rfl, trivial⟩ (by decide) rfl st)
   refine RL.fadr (off := 0) (fo := 1) 3 Tryz_fld59_1 rfl rfl rfl PtOf.obox (Or.inr ⟨rfl, rfl⟩) ?_
   refine RL.fin ?_
   refine RA.next ?_
   refine RA.relist 7 q_37 rfl (by kernel_rfl) ?_
   exact fun a w st => h151 () a w (St.cut [0, 1, 2, 4, 3] ⟨rfl, rfl, rfl, rfl, rfl, trivial⟩ (by decide) rfl st)
  refine RA.meet (ι := Unit) (fun (p : Unit) => [(0, v0), (5, v12), (26, u0a), (27, adr v4 (0 + 2)), (31, adr v4 (0 + 1))]) (fun (p : Unit) => [obox 45 TrH v0 (x0.1, (x0.2.1, u0a)), obox 55 TrL u0a x0.2.2, keep X, own 86 TrA v12 y10.1, obox 59 TrE v4 x1]) 8 q_47 (fun h161 => ?_) ?_
  rotate_left
  ·rintro ⟨⟩
   refine RA.weak (env' := [(0, v0), (5, v12), (26, u0a), (27, adr v4 (0 + 2)), (31, adr v4 (0 + 1))]) (L' := [obox 45 TrH v0 (x0.1, (x0.2.1, u0a)), obox 55 TrL u0a x0.2.2, keep X, own 86 TrA v12 y10.1, obox 59 TrE v4 x1]) ss ?_
   refine RA.many [5, 9] (by kernel_rfl) ⟨⟨_, rfl, ?_⟩, ⟨_, rfl, ?_⟩, trivial⟩
   ·skip
    refine RL.ldPx (off := (0 + 2)) (e' := x1.2.2.1) 4 Ex.str Tryz_ln9 rfl rfl (Or.inl rfl) rfl PtOf.obox (Part.snd (Part.snd (Part.fst Part.self))) ?_
    refine RL.fin ?_
    refine RA.next ?_
    refine RA.relist 7 q_26 rfl (by kernel_rfl) ?_
    exact fun a w st => h140 () a w (St.cut [0, 1, 2, 3, 4] ⟨rfl, rfl, rfl, rfl, rfl, trivial⟩ (by decide) rfl st)
   refine RL.ldPx (off := (0 + 1)) (e' := x1.2.1) 4 Ex.ik Tryz_ln3 rfl rfl (Or.inl rfl) rfl PtOf.obox (Part.snd (Part.fst Part.self)) ?_
   refine RL.fin ?_
   refine RA.next ?_
   refine RA.relist 7 q_29 rfl (by kernel_rfl) ?_
   exact fun a w st => h143 () a w (St.cut [0, 1, 2, 3, 4] ⟨rfl, rfl, rfl, rfl, rfl, trivial⟩ (by decide) rfl st)
  refine RA.meet (ι := Unit) (fun (p : Unit) => [(0, v0), (5, v12), (25, adr v0 (0 + 2)), (28, (sv x1.2.2.1)), (31, adr v4 (0 + 1))]) (fun (p : Unit) => [obox 45 TrH v0 (x0.1, (x0.2.1, u0a)), obox 55 TrL u0a x0.2.2, keep X, own 86 TrA v12 y10.1, obox 59 TrE v4 x1]) 8 q_48 (fun h162 => ?_) ?_
  rotate_left
  ·rintro ⟨⟩
   refine RA.weak (env' := [(0, v0), (5, v12), (25, adr v0 (0 + 2)), (28, (sv x1.2.2.1)), (31, adr v4 (0 + 1))]) (L' := [obox 45 TrH v0 (x0.1, (x0.2.1, u0a)), obox 55 TrL u0a x0.2.2, keep X, own 86 TrA v12 y10.1, obox 59 TrE v4 x1]) ss ?_
   refine RA.many [3, 6, 9] (by kernel_rfl) ⟨⟨_, rfl, ?_⟩, ⟨_, rfl, ?_⟩, ⟨_, rfl, ?_⟩, trivial⟩
   ·skip
    refine RL.ldPx (off := (0 + 2)) (e' := u0a) 0 Ex.raw Tryz_ln40 rfl rfl (Or.inl rfl) rfl PtOf.obox (Part.snd (Part.snd Part.self)) ?_
    refine RL.fin ?_
    refine RA.next ?_
    refine RA.relist 7 q_26 rfl (by kernel_rfl) ?_
    exact fun a w st => h140 () a w (St.cut [0, 1, 2, 3, 4] ⟨rfl, rfl, rfl, rfl, rfl, trivial⟩ (by decide) rfl st)
   ·skip
    refine RL.cat rfl rfl rfl rfl e108 ?_
    refine RL.fin ?_
    refine RA.next ?_
    refine RA.relist 7 q_34 rfl (by kernel_rfl) ?_
    exact fun a w st => h148 () a w (St.cut [0, 1, 2, 3, 4] ⟨rfl, rfl, rfl, rfl, rfl, trivial⟩ (by decide) rfl st)
   refine RL.ldPx (off := (0 + 1)) (e' := x1.2.1) 4 Ex.ik Tryz_ln3 rfl rfl (Or.inl rfl) rfl PtOf.obox (Part.snd (Part.fst Part.self)) ?_
   refine RL.fin ?_
   refine RA.next ?_
   refine RA.relist 7 q_25 rfl (by kernel_rfl) ?_
   exact fun a w st => h139 () a w (St.cut [0, 1, 2, 3] ⟨rfl, rfl, rfl, rfl, rfl, trivial⟩ (by decide) rfl st)
  refine RA.meet (ι := Unit) (fun (p : Unit) => [(0, v0), (5, v12), (25, adr v0 (0 + 2)), (27, adr v4 (0 + 2)), (32, .int .i64 x1.2.1)]) (fun (p : Unit) => [obox 45 TrH v0 (x0.1, (x0.2.1, u0a)), obox 55 TrL u0a x0.2.2, keep X, own 86 TrA v12 y10.1, obox 59 TrE v4 x1]) 8 q_49 (fun h163 => ?_) ?_
  rotate_left
  ·rintro ⟨⟩
   refine RA.weak (env' := [(0, v0), (5, v12), (25, adr v0 (0 + 2)), (27, adr v4 (0 + 2)), (32, .int .i64 x1.2.1)]) (L' := [obox 45 TrH v0 (x0.1, (x0.2.1, u0a)), obox 55 TrL u0a x0.2.2, keep X, own 86 TrA v12 y10.1, obox 59 TrE v4 x1]) ss ?_
   refine RA.many [3, 5, 10] (by kernel_rfl) ⟨⟨_, rfl, ?_⟩, ⟨_, rfl, ?_⟩, ⟨_, rfl, ?_⟩, trivial⟩
   ·skip
    refine RL.ldPx (off := (0 + 2)) (e' := u0a) 0 Ex.raw Tryz_ln40 rfl rfl (Or.inl rfl) rfl PtOf.obox (Part.snd (Part.snd Part.self)) ?_
    refine RL.fin ?_
    refine RA.next ?_
    refine RA.relist 7 q_29 rfl (by kernel_rfl) ?_
    exact fun a w st => h143 () a w (St.cut [0, 1, 2, 3, 4] ⟨rfl, rfl, rfl, rfl, rfl, trivial⟩ (by decide) rfl st)
   ·skip
    refine RL.ldPx (off := (0 + 2)) (e' := x1.2.2.1) 4 Ex.str Tryz_ln9 rfl rfl (Or.inl rfl) rfl PtOf.obox (Part.snd (Part.snd (Part.fst Part.self))) ?_
    refine RL.fin ?_
    refine RA.next ?_
    refine RA.relist 7 q_25 rfl (by kernel_rfl) ?_
    exact fun a w st => h139 () a w (St.cut [0, 1, 2, 3] ⟨rfl, rfl, rfl, rfl, rfl, trivial⟩ (by decide) rfl st)
   refine RL.callV (v := (sv y111)) (vs := [.int .i64 x1.2.1]) Tryz_fit18 rfl (Or.inl rfl) rfl rfl rfl rfl (fun U w hU hW hL => strconv_Itoa_c U w hU (hT.mono hW) x1.2.1 _ e112) ?_
   refine RL.fin ?_
   refine RA.next ?_
   refine RA.relist 7 q_30 rfl (by kernel_rfl) ?_
   exact fun a w st => h144 () a w (St.cut [0, 1, 2, 3, 4] ⟨rfl, rfl, rfl, rfl, rfl, trivial⟩ (by decide) rfl st)
  refine RA.meet (ι := Unit) (fun (p : Unit) => [(0, v0), (5, v12), (23, v0), (28, (sv x1.2.2.1)), (33, (sv y111))]) (fun (p : Unit) => [obox 45 TrH v0 (x0.1, (x0.2.1, u0a)), obox 55 TrL u0a x0.2.2, keep X, own 86 TrA v12 y10.1]) 8 q_50 (fun h164 => ?_) ?_
  rotate_left
  ·rintro ⟨⟩
   refine RA.weak (env' := [(0, v0), (5, v12), (23, v0), (28, (sv x1.2.2.1)), (33, (sv y111))]) (L' := [obox 45 TrH v0 (x0.1, (x0.2.1, u0a)), obox 55 TrL u0a x0.2.2, keep X, own 86 TrA v12 y10.1]) ss ?_
   refine RA.many [1, 6] (by kernel_rfl) ⟨⟨_, rfl, ?_⟩, ⟨_, rfl, ?_⟩, trivial⟩
   ·skip
    refine RL.nilk 0 rfl rfl rfl rfl PtOf.obox ?_
    refine RL.fin ?_
    refine RA.next ?_
    refine RA.relist 7 q_36 rfl (by kernel_rfl) ?_
    exact fun a w st => h150 () a w (St.cut [0, 1, 2, 3] ⟨rfl, rfl, rfl, rfl, rfl, trivial⟩ (by decide) rfl st)
   refine RL.cat rfl rfl rfl rfl e108 ?_
   refine RL.fin ?_
   refine RA.next ?_
   refine RA.relist 7 q_31 rfl (by kernel_rfl) ?_
   exact fun a w st => h145 () a w (St.cut [0, 1, 2, 3] ⟨rfl, rfl, rfl, rfl, rfl, trivial⟩ (by decide) rfl st)
  refine RA.meet (ι := Unit) (fun (p : Unit) => [(0, v0), (3, v4), (5, v12), (26, u0a), (28, (sv x1.2.2.1))]) (fun (p : Unit) => [obox 45 TrH v0 (x0.1, (x0.2.1, u0a)), obox 55 TrL u0a x0.2.2, keep X, obox 59 TrE v4 x1, own 86 TrA v12 y10.1]) 8 q_51 (fun h165 => ?_) ?_
  rotate_left
  ·rintro ⟨⟩
   refine RA.weak (env' := [(0, v0), (3, v4), (5, v12), (26, u0a), (28, (sv x1.2.2.1))]) (L' := [obox 45 TrH v0 (x0.1, (x0.2.1, u0a)), obox 55 TrL u0a x0.2.2, keep X, obox 59 TrE v4 x1, own 86 TrA v12 y10.1]) ss ?_
   refine RA.many [6, 8] (by kernel_rfl) ⟨⟨_, rfl, ?_⟩, ⟨_, rfl, ?_⟩, trivial⟩
   ·skip
    refine RL.cat rfl rfl rfl rfl e108 ?_
    refine RL.fin ?_
    refine RA.next ?_
    refine RA.relist 7 q_28 rfl (by kernel_rfl) ?_
    exact fun a w st => h142 () a w (St.cut [0, 1, 2, 3, 4] ⟨rfl, rfl, rfl, rfl, rfl, trivial⟩ (by decide) rfl st)
   refine RL.fadr (off := 0) (fo := 1) 3 Tryz_fld59_1 rfl rfl rfl PtOf.obox (Or.inr ⟨rfl, rfl⟩) ?_
   refine RL.fin ?_
   refine RA.next ?_
   refine RA.relist 7 q_26 rfl (by kernel_rfl) ?_
   exact fun a w st => h140 () a w (St.cut [0, 1, 2, 4, 3] ⟨rfl, rfl, rfl, rfl, rfl, trivial⟩ (by decide) rfl st)
  refine RA.meet (ι := Unit) (fun (p : Unit) => [(0, v0), (3, v4), (5, v12), (24, v0), (29, (sv (([111, 32] : B8) ++ x1.2.2.1)))]) (fun (p : Unit) => [obox 45 TrH v0 (x0.1, (x0.2.1, u0a)), obox 55 TrL u0a x0.2.2, keep X, obox 59 TrE v4 x1, own 86 TrA v12 y10.1]) 9 q_52 (fun h166 => ?_) ?_
  rotate_left
  ·rintro ⟨⟩
   refine RA.weak (env' := [(0, v0), (3, v4), (5, v12), (24, v0), (29, (sv (([111, 32] : B8) ++ x1.2.2.1)))]) (L' := [obox 45 TrH v0 (x0.1, (x0.2.1, u0a)), obox 55 TrL u0a x0.2.2, keep X, obox 59 TrE v4 x1, own 86 TrA v12 y10.1]) ss ?_
   refine RA.many [2, 7, 8] (by kernel_rfl) ⟨⟨_, rfl, ?_⟩, ⟨_, rfl, ?_⟩, ⟨_, rfl, ?_⟩, trivial⟩
   ·skip
    refine RL.fadr (off := 0) (fo := 2) 0 Tryz_fld45_2 rfl rfl rfl PtOf.obox (Or.inr ⟨rfl, rfl⟩) ?_
    refine RL.fin ?_
    refine RA.next ?_
    refine RA.relist 8 q_41 rfl (by kernel_rfl) ?_
    exact fun a w st => h155 () a w (St.cut [0, 1, 2, 3, 4] ⟨rfl, rfl, rfl, rfl, rfl, trivial⟩ (by decide) rfl st)
   ·skip
    refine RL.cat rfl rfl rfl rfl e110 ?_
    refine RL.fin ?_
    refine RA.next ?_
    refine RA.relist 8 q_46 rfl (by kernel_rfl) ?_
    exact fun a w st => h160 () a w (St.cut [0, 1, 2, 3, 4] ⟨rfl, rfl, rfl, rfl, rfl, trivial⟩ (by decide) rfl st)
   refine RL.fadr (off := 0) (fo := 1) 3 Tryz_fld59_1 rfl rfl rfl PtOf.obox (Or.inr ⟨rfl, rfl⟩) ?_
   refine RL.fin ?_
   refine RA.next ?_
   refine RA.relist 8 q_38 rfl (by kernel_rfl) ?_
   exact fun a w st => h152 () a w (St.cut [0, 1, 2, 4, 3] ⟨rfl, rfl, rfl, rfl, rfl, trivial⟩ (by decide) rfl st)
  refine RA.meet (ι := Unit) (fun (p : Unit) => [(0, v0), (3, v4), (5, v12), (23, v0), (30, (sv ((([111, 32] : B8) ++ x1.2.2.1) ++ ([32] : B8))))]) (fun (p : Unit) => [obox 45 TrH v0 (x0.1, (x0.2.1, u0a)), obox 55 TrL u0a x0.2.2, keep X, obox 59 TrE v4 x1, own 86 TrA v12 y10.1]) 9 q_53 (fun h167 => ?_) ?_
  rotate_left
  ·rintro ⟨⟩
   refine RA.weak (env' := [(0, v0), (3, v4), (5, v12), (23, v0), (30, (sv ((([111, 32] : B8) ++ x1.2.2.1) ++ ([32] : B8))))]) (L' := [obox 45 TrH v0 (x0.1, (x0.2.1, u0a)), obox 55 TrL u0a x0.2.2, keep X, obox 59 TrE v4 x1, own 86 TrA v12 y10.1]) ss ?_
   refine RA.many [1, 8] (by kernel_rfl) ⟨⟨_, rfl, ?_⟩, ⟨_, rfl, ?_⟩, trivial⟩
   ·skip
    refine RL.nilk 0 rfl rfl rfl rfl PtOf.obox ?_
    refine RL.fin ?_
    refine RA.next ?_
    refine RA.relist 8 q_46 rfl (by kernel_rfl) ?_
    exact fun a w st => h160 () a w (St.cut [0, 1, 2, 3, 4] ⟨rfl, rfl, rfl, rfl, rfl, trivial⟩ (by decide) rfl st)
   refine RL.fadr (off := 0) (fo := 1) 3 Tryz_fld59_1 rfl rfl rfl PtOf.obox (Or.inr ⟨rfl, rfl⟩) ?_
   refine RL.fin ?_
   refine RA.next ?_
   refine RA.relist 8 q_42 rfl (by kernel_rfl) ?_
   exact fun a w st => h156 () a w (St.cut [0, 1, 2, 4, 3] ⟨rfl, rfl, rfl, rfl, rfl, trivial⟩ (by decide) rfl st)
  refine RA.meet (ι := Unit) (fun (p : Unit) => [(0, v0), (3, v4), (5, v12), (26, u0a), (27, adr v4 (0 + 2))]) (fun (p : Unit) => [obox 45 TrH v0 (x0.1, (x0.2.1, u0a)), obox 55 TrL u0a x0.2.2, keep X, obox 59 TrE v4 x1, own 86 TrA v12 y10.1]) 9 q_54 (fun h168 => ?_) ?_
  rotate_left
  ·rintro ⟨⟩
   refine RA.weak (env' := [(0, v0), (3, v4), (5, v12), (26, u0a), (27, adr v4 (0 + 2))]) (L' := [obox 45 TrH v0 (x0.1, (x0.2.1, u0a)), obox 55 TrL u0a x0.2.2, keep X, obox 59 TrE v4 x1, own 86 TrA v12 y10.1]) ss ?_
   refine RA.many [5, 8] (by kernel_rfl) ⟨⟨_, rfl, ?_⟩, ⟨_, rfl, ?_⟩, trivial⟩
   ·skip
    refine RL.ldPx (off := (0 + 2)) (e' := x1.2.2.1) 3 Ex.str Tryz_ln9 rfl rfl (Or.inl rfl) rfl PtOf.obox (Part.snd (Part.snd (Part.fst Part.self))) ?_
    refine RL.fin ?_
    refine RA.next ?_
    refine RA.relist 8 q_51 rfl (by kernel_rfl) ?_
    exact fun a w st => h165 () a w (St.cut [0, 1, 2, 3, 4] ⟨rfl, rfl, rfl, rfl, rfl, trivial⟩ (by decide) rfl st)
   refine RL.fadr (off := 0) (fo := 1) 3 Tryz_fld59_1 rfl rfl rfl PtOf.obox (Or.inr ⟨rfl, rfl⟩) ?_
   refine RL.fin ?_
   refine RA.next ?_
   refine RA.relist 8 q_47 rfl (by kernel_rfl) ?_
   exact fun a w st => h161 () a w (St.cut [0, 1, 2, 4, 3] ⟨rfl, rfl, rfl, rfl, rfl, trivial⟩ (by decide) rfl st)
  refine RA.meet (ι := Unit) (fun (p : Unit) => [(0, v0), (5, v12), (25, adr v0 (0 + 2)), (27, adr v4 (0 + 2)), (31, adr v4 (0 + 1))]) (fun (p : Unit) => [obox 45 TrH v0 (x0.1, (x0.2.1, u0a)), obox 55 TrL u0a x0.2.2, keep X, own 86 TrA v12 y10.1, obox 59 TrE v4 x1]) 9 q_55 (fun h169 => ?_) ?_
  rotate_left
  ·rintro ⟨⟩
   refine RA.weak (env' := [(0, v0), (5, v12), (25, adr v0 (0 + 2)), (27, adr v4 (0 + 2)), (31, adr v4 (0 + 1))]) (L' := [obox 45 TrH v0 (x0.1, (x0.2.1, u0a)), obox 55 TrL u0a x0.2.2, keep X, own 86 TrA v12 y10.1, obox 59 TrE v4 x1]) ss ?_
   refine RA.many [3, 5, 9] (by kernel_rfl) ⟨⟨_, rfl, ?_⟩, ⟨_, rfl, ?_⟩, ⟨_, rfl, ?_⟩, trivial⟩
   ·skip
    refine RL.ldPx (off := (0 + 2)) (e' := u0a) 0 Ex.raw Tryz_ln40 rfl rfl (Or.inl rfl) rfl PtOf.obox (Part.snd (Part.snd Part.self)) ?_
    refine RL.fin ?_
    refine RA.next ?_
    refine RA.relist 8 q_47 rfl (by kernel_rfl) ?_
    exact fun a w st => h161 () a w (St.cut [0, 1, 2, 3, 4] ⟨rfl, rfl, rfl, rfl, rfl, trivial⟩ (by decide) rfl st)
   ·skip
    refine RL.ldPx (off := (0 + 2)) (e' := x1.2.2.1) 4 Ex.str Tryz_ln9 rfl rfl (Or.inl rfl) rfl PtOf.obox (Part.snd (Part.snd (Part.fst Part.self))) ?_
    refine RL.fin ?_
    refine RA.next ?_
    refine RA.relist 8 q_48 rfl (by kernel_rfl) ?_
    exact fun a w st => h162 () a w (St.cut [0, 1, 2, 3, 4] ⟨rfl, rfl, rfl, rfl, rfl, trivial⟩ (by decide) rfl st)
   refine RL.ldPx (off := (0 + 1)) (e' := x1.2.1) 4 Ex.ik Tryz_ln3 rfl rfl (Or.inl rfl) rfl PtOf.obox (Part.snd (Part.fst Part.self)) ?_
   refine RL.fin ?_
   refine RA.next ?_
   refine RA.relist 8 q_49 rfl (by kernel_rfl) ?_
   exact fun a w st => h163 () a w (St.cut [0, 1, 2, 3, 4] ⟨rfl, rfl, rfl, rfl, rfl, trivial⟩ (by decide) rfl st)
  refine RA.meet (ι := Unit) (fun (p : Unit) => [(0, v0), (3, v4), (5, v12), (24, v0), (33, (sv y111))]) (fun (p : Unit) => [obox 45 TrH v0 (x0.1, (x0.2.1, u0a)), obox 55 TrL u0a x0.2.2, keep X, obox 59 TrE v4 x1, own 86 TrA v12 y10.1]) 9 q_56 (fun h170 => ?_) ?_
  rotate_left
  ·rintro ⟨⟩
   refine RA.weak (env' := [(0, v0), (3, v4), (5, v12), (24, v0), (33, (sv y111))]) (L' := [obox 45 TrH v0 (x0.1, (x0.2.1, u0a)), obox 55 TrL u0a x0.2.2, keep X, obox 59 TrE v4 x1, own 86 TrA v12 y10.1]) ss ?_
   refine RA.many [2, 4] (by kernel_rfl) ⟨⟨_, rfl, ?_⟩, ⟨_, rfl, ?_⟩, trivial⟩
   ·skip
    refine RL.fadr (off := 0) (fo := 2) 0 Tryz_fld45_2 rfl rfl rfl PtOf.obox (Or.inr ⟨rfl, rfl⟩) ?_
    refine RL.fin ?_
    refine RA.next ?_
    refine RA.relist 8 q_39 rfl (by kernel_rfl) ?_
    exact fun a w st => h153 () a w (St.cut [0, 1, 2, 3, 4] ⟨rfl, rfl, rfl, rfl, rfl, trivial⟩ (by decide) rfl st)
   refine RL.fadr (off := 0) (fo := 2) 3 Tryz_fld59_2 rfl rfl rfl PtOf.obox (Or.inr ⟨rfl, rfl⟩) ?_
   refine RL.fin ?_
   refine RA.next ?_
   refine RA.relist 8 q_45 rfl (by kernel_rfl) ?_
   exact fun a w st => h159 () a w (St.cut [0, 1, 2, 4, 3] ⟨rfl, rfl, rfl, rfl, rfl, trivial⟩ (by decide) rfl st)
  refine RA.meet (ι := Unit) (fun (p : Unit) => [(0, v0), (5, v12), (24, v0), (28, (sv x1.2.2.1)), (31, adr v4 (0 + 1))]) (fun (p : Unit) => [obox 45 TrH v0 (x0.1, (x0.2.1, u0a)), obox 55 TrL u0a x0.2.2, keep X, own 86 TrA v12 y10.1, obox 59 TrE v4 x1]) 9 q_57 (fun h171 => ?_) ?_
  rotate_left
  ·rintro ⟨⟩
   refine RA.weak (env' := [(0, v0), (5, v12), (24, v0), (28, (sv x1.2.2.1)), (31, adr v4 (0 + 1))]) (L' := [obox 45 TrH v0 (x0.1, (x0.2.1, u0a)), obox 55 TrL u0a x0.2.2, keep X, own 86 TrA v12 y10.1, obox 59 TrE v4 x1]) ss ?_
   refine RA.many [2, 6, 9] (by kernel_rfl) ⟨⟨_, rfl, ?_⟩, ⟨_, rfl, ?_⟩, ⟨_, rfl, ?_⟩, trivial⟩
   ·skip
    refine RL.fadr (off := 0) (fo := 2) 0 Tryz_fld45_2 rfl rfl rfl PtOf.obox (Or.inr ⟨rfl, rfl⟩) ?_
    refine RL.fin ?_
    refine RA.next ?_
    refine RA.relist 8 q_48 rfl (by kernel_rfl) ?_
    exact fun a w st => h162 () a w (St.cut [0, 1, 2, 3, 4] ⟨rfl, rfl, rfl, rfl, rfl, trivial⟩ (by decide) rfl st)
   ·skip
    refine RL.cat rfl rfl rfl rfl e108 ?_
    refine RL.fin ?_
    refine RA.next ?_
    refine RA.relist 8 q_38 rfl (by kernel_rfl) ?_
    exact fun a w st => h152 () a w (St.cut [0, 1, 2, 3, 4] ⟨rfl, rfl, rfl, rfl, rfl, trivial⟩ (by decide) rfl st)
   refine RL.ldPx (off := (0 + 1)) (e' := x1.2.1) 4 Ex.ik Tryz_ln3 rfl rfl (Or.inl rfl) rfl PtOf.obox (Part.snd (Part.fst Part.self)) ?_
   refine RL.fin ?_
   refine RA.next ?_
   refine RA.relist 8 q_44 rfl (by kernel_rfl) ?_
   exact fun a w st => h158 () a w (St.cut [0, 1, 2, 3] ⟨rfl, rfl, rfl, rfl, rfl, trivial⟩ (by decide) rfl st)
  refine RA.meet (ι := Unit) (fun (p : Unit) => [(0, v0), (5, v12), (23, v0), (29, (sv (([111, 32] : B8) ++ x1.2.2.1))), (31, adr v4 (0 + 1))]) (fun (p : Unit) => [obox 45 TrH v0 (x0.1, (x0.2.1, u0a)), obox 55 TrL u0a x0.2.2, keep X, own 86 TrA v12 y10.1, obox 59 TrE v4 x1]) 9 q_58 (fun h172 => ?_) ?_
  rotate_left
  ·rintro ⟨⟩
   refine RA.weak (env' := [(0, v0), (5, v12), (23, v0), (29, (sv (([111, 32] : B8) ++ x1.2.2.1))), (31, adr v4 (0 + 1))]) (L' := [obox 45 TrH v0 (x0.1, (x0.2.1, u0a)), obox 55 TrL u0a x0.2.2, keep X, own 86 TrA v12 y10.1, obox 59 TrE v4 x1]) ss ?_
   refine RA.many [1, 7, 9] (by kernel_rfl) ⟨⟨_, rfl, ?_⟩, ⟨_, rfl, ?_⟩, ⟨_, rfl, ?_⟩, trivial⟩
   ·skip
    refine RL.nilk 0 rfl rfl rfl rfl PtOf.obox ?_
    refine RL.fin ?_
    refine RA.next ?_
    refine RA.relist 8 q_38 rfl (by kernel_rfl) ?_
    exact fun a w st => h152 () a w (St.cut [0, 1, 2, 3, 4] ⟨rfl, rfl, rfl, rfl, rfl, trivial⟩ (by decide) rfl st)
   ·skip
    refine RL.cat rfl rfl rfl rfl e110 ?_
    refine RL.fin ?_
    refine RA.next ?_
    refine RA.relist 8 q_42 rfl (by kernel_rfl) ?_
    exact fun a w st => h156 () a w (St.cut [0, 1, 2, 3, 4] ⟨rfl, rfl, rfl, rfl, rfl, trivial⟩ (by decide) rfl st)
   refine RL.ldPx (off := (0 + 1)) (e' := x1.2.1) 4 Ex.ik Tryz_ln3 rfl rfl (Or.inl rfl) rfl PtOf.obox (Part.snd (Part.fst Part.self)) ?_
   refine RL.fin ?_
   refine RA.next ?_
   refine RA.relist 8 q_40 rfl (by kernel_rfl) ?_
   exact fun a w st => h154 () a w (St.cut [0, 1, 2, 3] ⟨rfl, rfl, rfl, rfl, rfl, trivial⟩ (by decide) rfl st)
  refine RA.meet (ι := Unit) (fun (p : Unit) => [(0, v0), (3, v4), (5, v12), (25, adr v0 (0 + 2)), (28, (sv x1.2.2.1))]) (fun (p : Unit) => [obox 45 TrH v0 (x0.1, (x0.2.1, u0a)), obox 55 TrL u0a x0.2.2, keep X, obox 59 TrE v4 x1, own 86 TrA v12 y10.1]) 9 q_59 (fun h173 => ?_) ?_
  rotate_left
  ·rintro ⟨⟩
   refine RA.weak (env' := [(0, v0), (3, v4), (5, v12), (25, adr v0 (0 + 2)), (28, (sv x1.2.2.1))]) (L' := [obox 45 TrH v0 (x0.1, (x0.2.1, u0a)), obox 55 TrL u0a x0.2.2, keep X, obox 59 TrE v4 x1, own 86 TrA v12 y10.1]) ss ?_
   refine RA.many [3, 6, 8] (by kernel_rfl) ⟨⟨_, rfl, ?_⟩, ⟨_, rfl, ?_⟩, ⟨_, rfl, ?_⟩, trivial⟩
   ·skip
    refine RL.ldPx (off := (0 + 2)) (e' := u0a) 0 Ex.raw Tryz_ln40 rfl rfl (Or.inl rfl) rfl PtOf.obox (Part.snd (Part.snd Part.self)) ?_
    refine RL.fin ?_
    refine RA.next ?_
    refine RA.relist 8 q_51 rfl (by kernel_rfl) ?_
    exact fun a w st => h165 () a w (St.cut [0, 1, 2, 3, 4] ⟨rfl, rfl, rfl, rfl, rfl, trivial⟩ (by decide) rfl st)
   ·skip
    refine RL.cat rfl rfl rfl rfl e108 ?_
    refine RL.fin ?_
    refine RA.next ?_
    refine RA.relist 8 q_41 rfl (by kernel_rfl) ?_
    exact fun a w st => h155 () a w (St.cut [0, 1, 2, 3, 4] ⟨rfl, rfl, rfl, rfl, rfl, trivial⟩ (by decide) rfl st)
   refine RL.fadr (off := 0) (fo := 1) 3 Tryz_fld59_1 rfl rfl rfl PtOf.obox (Or.inr ⟨rfl, rfl⟩) ?_
   refine RL.fin ?_
   refine RA.next ?_
   refine RA.relist 8 q_48 rfl (by kernel_rfl) ?_
   exact fun a w st => h162 () a w (St.cut [0, 1, 2, 4, 3] ⟨rfl, rfl, rfl, rfl, rfl, trivial⟩ (by decide) rfl st)
  refine RA.meet (ι := Unit) (fun (p : Unit) => [(0, v0), (5, v12), (23, v0), (28, (sv x1.2.2.1)), (32, .int .i64 x1.2.1)]) (fun (p : Unit) => [obox 45 TrH v0 (x0.1, (x0.2.1, u0a)), obox 55 TrL u0a x0.2.2, keep X, own 86 TrA v12 y10.1]) 9 q_60 (fun h174 => ?_) ?_
  rotate_left
  ·rintro ⟨⟩
   refine RA.weak (env' := [(0, v0), (5, v12), (23, v0), (28, (sv x1.2.2.1)), (32, .int .i64 x1.2.1)]) (L' := [obox 45 TrH v0 (x0.1, (x0.2.1, u0a)), obox 55 TrL u0a x0.2.2, keep X, own 86 TrA v12 y10.1]) ss ?_
   refine RA.many [1, 6, 10] (by kernel_rfl) ⟨⟨_, rfl, ?_⟩, ⟨_, rfl, ?_⟩, ⟨_, rfl, ?_⟩, trivial⟩
   ·skip
    refine RL.nilk 0 rfl rfl rfl rfl PtOf.obox ?_
    refine RL.fin ?_
    refine RA.next ?_
    refine RA.relist 8 q_44 rfl (by kernel_rfl) ?_
    exact fun a w st => h158 () a w (St.cut [0, 1, 2, 3] ⟨rfl, rfl, rfl, rfl, rfl, trivial⟩ (by decide) rfl st)
   ·skip
    refine RL.cat rfl rfl rfl rfl e108 ?_
    refine RL.fin ?_
    refine RA.next ?_
    refine RA.relist 8 q_40 rfl (by kernel_rfl) ?_
    exact fun a w st => h154 () a w (St.cut [0, 1, 2, 3] ⟨rfl, rfl, rfl, rfl, rfl, trivial⟩ (by decide) rfl st)
   refine RL.callV (v := (sv y111)) (vs := [.int .i64 x1.2.1]) Tryz_fit18 rfl (Or.inl rfl) rfl rfl rfl rfl (fun U w hU hW hL => strconv_Itoa_c U w hU (hT.mono hW) x1.2.1 _ e112) ?_
   refine RL.fin ?_
   refine RA.next ?_
   refine RA.relist 8 q_50 rfl (by kernel_rfl) ?_
   exact fun a w st => h164 () a w (St.cut [0, 1, 2, 3] ⟨rfl, rfl, rfl, rfl, rfl, trivial⟩ (by decide) rfl st)
  refine RA.meet (ι := Unit) (fun (p : Unit) => [(0, v0), (5, v12), (23, v0), (27, adr v4 (0 + 2)), (33, (sv y111))]) (fun (p : Unit) => [obox 45 TrH v0 (x0.1, (x0.2.1, u0a)), obox 55 TrL u0a x0.2.2, keep X, own 86 TrA v12 y10.1, obox 59 TrE v4 x1]) 9 q_61 (fun h175 => ?_) ?_
  rotate_left
  ·rintro ⟨⟩
   refine RA.weak (env' := [(0, v0), (5, v12), (23, v0), (27, adr v4 (0 + 2)), (33, (sv y111))]) (L' := [obox 45 TrH v0 (x0.1, (x0.2.1, u0a)), obox 55 TrL u0a x0.2.2, keep X, own 86 TrA v12 y10.1, obox 59 TrE v4 x1]) ss ?_
   refine RA.many [1, 5] (by kernel_rfl) ⟨⟨_, rfl, ?_⟩, ⟨_, rfl, ?_⟩, trivial⟩
   ·skip
    refine RL.nilk 0 rfl rfl rfl rfl PtOf.obox ?_
    refine RL.fin ?_
    refine RA.next ?_
    refine RA.relist 8 q_45 rfl (by kernel_rfl) ?_
    exact fun a w st => h159 () a w (St.cut [0, 1, 2, 3, 4] ⟨rfl, rfl, rfl, rfl, rfl, trivial⟩ (by decide) rfl st)
   refine RL.ldPx (off := (0 + 2)) (e' := x1.2.2.1) 4 Ex.str Tryz_ln9 rfl rfl (Or.inl rfl) rfl PtOf.obox (Part.snd (Part.snd (Part.fst Part.self))) ?_
   refine RL.fin ?_
   refine RA.next ?_
   refine RA.relist 8 q_50 rfl (by kernel_rfl) ?_
   exact fun a w st => h164 () a w (St.cut [0, 1, 2, 3] ⟨rfl, rfl, rfl, rfl, rfl, trivial⟩ (by decide) rfl st)
  refine RA.meet (ι := Unit) (fun (p : Unit) => [(0, v0), (3, v4), (5, v12), (25, adr v0 (0 + 2)), (32, .int .i64 x1.2.1)]) (fun (p : Unit) => [obox 45 TrH v0 (x0.1, (x0.2.1, u0a)), obox 55 TrL u0a x0.2.2, keep X, obox 59 TrE v4 x1, own 86 TrA v12 y10.1]) 9 q_62 (fun h176 => ?_) ?_
  rotate_left
  ·rintro ⟨⟩
   refine RA.weak (env' := [(0, v0), (3, v4), (5, v12), (25, adr v0 (0 + 2)), (32, .int .i64 x1.2.1)]) (L' := [obox 45 TrH v0 (x0.1, (x0.2.1, u0a)), obox 55 TrL u0a x0.2.2, keep X, obox 59 TrE v4 x1, own 86 TrA v12 y10.1]) ss ?_
   refine RA.many [3, 4, 10] (by kernel_rfl) ⟨⟨_, rfl, ?_⟩, ⟨_, rfl, ?_⟩, ⟨_, rfl, ?_⟩, trivial⟩
   ·skip
    refine RL.ldPx (off := (0 + 2)) (e' := u0a) 0 Ex.raw Tryz_ln40 rfl rfl (Or.inl rfl) rfl PtOf.obox (Part.snd (Part.snd Part.self)) ?_
    refine RL.fin ?_
    refine RA.next ?_
    refine RA.relist 8 q_43 rfl (by kernel_rfl) ?_
    exact fun a w st => h157 () a w (St.cut [0, 1, 2, 3, 4] ⟨rfl, rfl, rfl, rfl, rfl, trivial⟩ (by decide) rfl st)
   ·skip
    refine RL.fadr (off := 0) (fo := 2) 3 Tryz_fld59_2 rfl rfl rfl PtOf.obox (Or.inr ⟨rfl, rfl⟩) ?_
    refine RL.fin ?_
    refine RA.next ?_
    refine RA.relist 8 q_49 rfl (by kernel_rfl) ?_
    exact fun a w st => h163 () a w (St.cut [0, 1, 2, 4, 3] ⟨rfl, rfl, rfl, rfl, rfl, trivial⟩ (by decide) rfl st)
   refine RL.callV (v := (sv y111)) (vs := [.int .i64 x1.2.1]) Tryz_fit18 rfl (Or.inl rfl) rfl rfl rfl rfl (fun U w hU hW hL => strconv_Itoa_c U w hU (hT.mono hW) x1.2.1 _ e112) ?_
   refine RL.fin ?_
   refine RA.next ?_
   refine RA.relist 8 q_39 rfl (by kernel_rfl) ?_
   exact fun a w st => h153 () a w (St.cut [0, 1, 2, 3, 4] ⟨rfl, rfl, rfl, rfl, rfl, trivial⟩ (by decide) rfl st)
  refine RA.meet (ι := Unit) (fun (p : Unit) => [(0, v0), (3, v4), (5, v12), (26, u0a), (31, adr v4 (0 + 1))]) (fun (p : Unit) => [obox 45 TrH v0 (x0.1, (x0.2.1, u0a)), obox 55 TrL u0a x0.2.2, keep X, obox 59 TrE v4 x1, own 86 TrA v12 y10.1]) 9 q_63 (fun h177 => ?_) ?_
  rotate_left
  ·rintro ⟨⟩
   refine RA.weak (env' := [(0, v0), (3, v4), (5, v12), (26, u0a), (31, adr v4 (0 + 1))]) (L' := [obox 45 TrH v0 (x0.1, (x0.2.1, u0a)), obox 55 TrL u0a x0.2.2, keep X, obox 59 TrE v4 x1, own 86 TrA v12 y10.1]) ss ?_
   refine RA.many [4, 9] (by kernel_rfl) ⟨⟨_, rfl, ?_⟩, ⟨_, rfl, ?_⟩, trivial⟩
   ·skip
    refine RL.fadr (off := 0) (fo := 2) 3 Tryz_fld59_2 rfl rfl rfl PtOf.obox (Or.inr ⟨rfl, rfl⟩) ?_
    refine RL.fin ?_
    refine RA.next ?_
    refine RA.relist 8 q_47 rfl (by kernel_rfl) ?_
    exact fun a w st => h161 () a w (St.cut [0, 1, 2, 4, 3] ⟨rfl, rfl, rfl, rfl, rfl, trivial⟩ (by decide) rfl st)
   refine RL.ldPx (off := (0 + 1)) (e' := x1.2.1) 3 Ex.ik Tryz_ln3 rfl rfl (Or.inl rfl) rfl PtOf.obox (Part.snd (Part.fst Part.self)) ?_
   refine RL.fin ?_
   refine RA.next ?_
   refine RA.relist 8 q_43 rfl (by kernel_rfl) ?_
   exact fun a w st => h157 () a w (St.cut [0, 1, 2, 3, 4] ⟨rfl, rfl, rfl, rfl, rfl, trivial⟩ (by decide) rfl st)
  refine RA.meet (ι := Unit) (fun (p : Unit) => [(0, v0), (5, v12), (24, v0), (27, adr v4 (0 + 2)), (32, .int .i64 x1.2.1)]) (fun (p : Unit) => [obox 45 TrH v0 (x0.1, (x0.2.1, u0a)), obox 55 TrL u0a x0.2.2, keep X, own 86 TrA v12 y10.1, obox 59 TrE v4 x1]) 9 q_64 (fun h178 => ?_) ?_
  rotate_left
  ·rintro ⟨⟩
   refine RA.weak (env' := [(0, v0), (5, v12), (24, v0), (27, adr v4 (0 + 2)), (32, .int .i64 x1.2.1)]) (L' := [obox 45 TrH v0 (x0.1, (x0.2.1, u0a)), obox 55 TrL u0a x0.2.2, keep X, own 86 TrA v12 y10.1, obox 59 TrE v4 x1]) ss ?_
   refine RA.many [2, 5, 10] (by kernel_rfl) ⟨⟨_, rfl, ?_⟩, ⟨_, rfl, ?_⟩, ⟨_, rfl, ?_⟩, trivial⟩
   ·skip
    refine RL.fadr (off := 0) (fo := 2) 0 Tryz_fld45_2 rfl rfl rfl PtOf.obox (Or.inr ⟨rfl, rfl⟩) ?_
    refine RL.fin ?_
    refine RA.next ?_
    refine RA.relist 8 q_49 rfl (by kernel_rfl) ?_
    exact fun a w st => h163 () a w (St.cut [0, 1, 2, 3, 4] ⟨rfl, rfl, rfl, rfl, rfl, trivial⟩ (by decide) rfl st)
   ·skip
    refine RL.ldPx (off := (0 + 2)) (e' := x1.2.2.1) 4 Ex.str Tryz_ln9 rfl rfl (Or.inl rfl) rfl PtOf.obox (Part.snd (Part.snd (Part.fst Part.self))) ?_
    refine RL.fin ?_
    refine RA.next ?_
    refine RA.relist 8 q_44 rfl (by kernel_rfl) ?_
    exact fun a w st => h158 () a w (St.cut [0, 1, 2, 3] ⟨rfl, rfl, rfl, rfl, rfl, trivial⟩ (by decide) rfl st)
   refine RL.callV (v := (sv y111)) (vs := [.int .i64 x1.2.1]) Tryz_fit18 rfl (Or.inl rfl) rfl rfl rfl rfl (fun U w hU hW hL => strconv_Itoa_c U w hU (hT.mono hW) x1.2.1 _ e112) ?_
   refine RL.fin ?_
   refine RA.next ?_
   refine RA.relist 8 q_45 rfl (by kernel_rfl) ?_
   exact fun a w st => h159 () a w (St.cut [0, 1, 2, 3, 4] ⟨rfl, rfl, rfl, rfl, rfl, trivial⟩ (by decide) rfl st)
  refine RA.meet (ι := Unit) (fun (p : Unit) => [(0, v0), (3, v4), (5, v12), (25, adr v0 (0 + 2)), (31, adr v4 (0 + 1))]) (fun (p : Unit) => [obox 45 TrH v0 (x0.1, (x0.2.1, u0a)), obox 55 TrL u0a x0.2.2, keep X, obox 59 TrE v4 x1, own 86 TrA v12 y10.1]) 10 q_65 (fun h179 => ?_) ?_
  rotate_left
  ·rintro ⟨⟩
   refine RA.weak (env' := [(0, v0), (3, v4), (5, v12), (25, adr v0 (0 + 2)), (31, adr v4 (0 + 1))]) (L' := [obox 45 TrH v0 (x0.1, (x0.2.1, u0a)), obox 55 TrL u0a x0.2.2, keep X, obox 59 TrE v4 x1, own 86 TrA v12 y10.1]) ss ?_
   refine RA.many [3, 4, 9] (by kernel_rfl) ⟨⟨_, rfl, ?_⟩, ⟨_, rfl, ?_⟩, ⟨_, rfl, ?_⟩, trivial⟩
   ·skip
    refine RL.ldPx (off := (0 + 2)) (e' := u0a) 0 Ex.raw Tryz_ln40 rfl rfl (Or.inl rfl) rfl PtOf.obox (Part.snd (Part.snd Part.self)) ?_
    refine RL.fin ?_
    refine RA.next ?_
    refine RA.relist 9 q_63 rfl (by kernel_rfl) ?_
    exact fun a w st => h177 () a w (St.cut [0, 1, 2, 3, 4] ⟨rfl, rfl, rfl, rfl, rfl, trivial⟩ (by decide) rfl st)
   ·skip
    refine RL.fadr (off := 0) (fo := 2) 3 Tryz_fld59_2 rfl rfl rfl PtOf.obox (Or.inr ⟨rfl, rfl⟩) ?_
    refine RL.fin ?_
    refine RA.next ?_
    refine RA.relist 9 q_55 rfl (by kernel_rfl) ?_
    exact fun a w st => h169 () a w (St.cut [0, 1, 2, 4, 3] ⟨rfl, rfl, rfl, rfl, rfl, trivial⟩ (by decide) rfl st)
   refine RL.ldPx (off := (0 + 1)) (e' := x1.2.1) 3 Ex.ik Tryz_ln3 rfl rfl (Or.inl rfl) rfl PtOf.obox (Part.snd (Part.fst Part.self)) ?_
   refine RL.fin ?_
   refine RA.next ?_
   refine RA.relist 9 q_62 rfl (by kernel_rfl) ?_
   exact fun a w st => h176 () a w (St.cut [0, 1, 2, 3, 4] ⟨rfl, rfl, rfl, rfl, rfl, trivial⟩ (by decide) rfl st)
  refine RA.meet (ι := Unit) (fun (p : Unit) => [(0, v0), (3, v4), (5, v12), (25, adr v0 (0 + 2)), (27, adr v4 (0 + 2))]) (fun (p : Unit) => [obox 45 TrH v0 (x0.1, (x0.2.1, u0a)), obox 55 TrL u0a x0.2.2, keep X, obox 59 TrE v4 x1, own 86 TrA v12 y10.1]) 10 q_66 (fun h180 => ?_) ?_
  rotate_left
  ·rintro ⟨⟩
   refine RA.weak (env' := [(0, v0), (3, v4), (5, v12), (25, adr v0 (0 + 2)), (27, adr v4 (0 + 2))]) (L' := [obox 45 TrH v0 (x0.1, (x0.2.1, u0a)), obox 55 TrL u0a x0.2.2, keep X, obox 59 TrE v4 x1, own 86 TrA v12 y10.1]) ss ?_
   refine RA.many [3, 5, 8] (by kernel_rfl) ⟨⟨_, rfl, ?_⟩, ⟨_, rfl, ?_⟩, ⟨_, rfl, ?_⟩, trivial⟩
   ·skip
    refine RL.ldPx (off := (0 + 2)) (e' := u0a) 0 Ex.raw Tryz_ln40 rfl rfl (Or.inl rfl) rfl PtOf.obox (Part.snd (Part.snd Part.self)) ?_
    refine RL.fin ?_
    refine RA.next ?_
    refine RA.relist 9 q_54 rfl (by kernel_rfl) ?_
    exact fun a w st => h168 () a w (St.cut [0, 1, 2, 3, 4] ⟨rfl, rfl, rfl, rfl, rfl, trivial⟩ (by decide) rfl st)
   ·skip
    refine RL.ldPx (off := (0 + 2)) (e' := x1.2.2.1) 3 Ex.str Tryz_ln9 rfl rfl (Or.inl rfl) rfl PtOf.obox (Part.snd (Part.snd (Part.fst Part.self))) ?_
    refine RL.fin ?_
    refine RA.next ?_
    refine RA.relist 9 q_59 rfl (by kernel_rfl) ?_
    exact fun a w st => h173 () a w (St.cut [0, 1, 2, 3, 4] ⟨rfl, rfl, rfl, rfl, rfl, trivial⟩ (by decide) rfl st)
   refine RL.fadr (off := 0) (fo := 1) 3 Tryz_fld59_1 rfl rfl rfl PtOf.obox (Or.inr ⟨rfl, rfl⟩) ?_
   refine RL.fin ?_
   refine RA.next ?_
   refine RA.relist 9 q_55 rfl (by kernel_rfl) ?_
   exact fun a w st => h169 () a w (St.cut [0, 1, 2, 4, 3] ⟨rfl, rfl, rfl, rfl, rfl, trivial⟩ (by decide) rfl st)
  refine RA.meet (ι := Unit) (fun (p : Unit) => [(0, v0), (3, v4), (5, v12), (24, v0), (32, .int .i64 x1.2.1)]) (fun (p : Unit) => [obox 45 TrH v0 (x0.1, (x0.2.1, u0a)), obox 55 TrL u0a x0.2.2, keep X, obox 59 TrE v4 x1, own 86 TrA v12 y10.1]) 10 q_67 (fun h181 => ?_) ?_
  rotate_left
  ·rintro ⟨⟩
   refine RA.weak (env' := [(0, v0), (3, v4), (5, v12), (24, v0), (32, .int .i64 x1.2.1)]) (L' := [obox 45 TrH v0 (x0.1, (x0.2.1, u0a)), obox 55 TrL u0a x0.2.2, keep X, obox 59 TrE v4 x1, own 86 TrA v12 y10.1]) ss ?_
   refine RA.many [2, 4, 10] (by kernel_rfl) ⟨⟨_, rfl, ?_⟩, ⟨_, rfl, ?_⟩, ⟨_, rfl, ?_⟩, trivial⟩
   ·skip
    refine RL.fadr (off := 0) (fo := 2) 0 Tryz_fld45_2 rfl rfl rfl PtOf.obox (Or.inr ⟨rfl, rfl⟩) ?_
    refine RL.fin ?_
    refine RA.next ?_
    refine RA.relist 9 q_62 rfl (by kernel_rfl) ?_
    exact fun a w st => h176 () a w (St.cut [0, 1, 2, 3, 4] ⟨rfl, rfl, rfl, rfl, rfl, trivial⟩ (by decide) rfl st)
   ·skip
    refine RL.fadr (off := 0) (fo := 2) 3 Tryz_fld59_2 rfl rfl rfl PtOf.obox (Or.inr ⟨rfl, rfl⟩) ?_
    refine RL.fin ?_
    refine RA.next ?_
    refine RA.relist 9 q_64 rfl (by kernel_rfl) ?_
    exact fun a w st => h178 () a w (St.cut [0, 1, 2, 4, 3] ⟨rfl, rfl, rfl, rfl, rfl, trivial⟩ (by decide) rfl st)
   refine RL.callV (v := (sv y111)) (vs := [.int .i64 x1.2.1]) Tryz_fit18 rfl (Or.inl rfl) rfl rfl rfl rfl (fun U w hU hW hL => strconv_Itoa_c U w hU (hT.mono hW) x1.2.1 _ e112) ?_
   refine RL.fin ?_
   refine RA.next ?_
   refine RA.relist 9 q_56 rfl (by kernel_rfl) ?_
   exact fun a w st => h170 () a w (St.cut [0, 1, 2, 3, 4] ⟨rfl, rfl, rfl, rfl, rfl, trivial⟩ (by decide) rfl st)
  refine RA.meet (ι := Unit) (fun (p : Unit) => [(0, v0), (3, v4), (5, v12), (23, v0), (33, (sv y111))]) (fun (p : Unit) => [obox 45 TrH v0 (x0.1, (x0.2.1, u0a)), obox 55 TrL u0a x0.2.2, keep X, obox 59 TrE v4 x1, own 86 TrA v12 y10.1]) 10 q_68 (fun h182 => ?_) ?_
  rotate_left
  ·rintro ⟨⟩
   refine RA.weak (env' := [(0, v0), (3, v4), (5, v12), (23, v0), (33, (sv y111))]) (L' := [obox 45 TrH v0 (x0.1, (x0.2.1, u0a)), obox 55 TrL u0a x0.2.2, keep X, obox 59 TrE v4 x1, own 86 TrA v12 y10.1]) ss ?_
   refine RA.many [1, 4] (by kernel_rfl) ⟨⟨_, rfl, ?_⟩, ⟨_, rfl, ?_⟩, trivial⟩
   ·skip
    refine RL.nilk 0 rfl rfl rfl rfl PtOf.obox ?_
    refine RL.fin ?_
    refine RA.next ?_
    refine RA.relist 9 q_56 rfl (by kernel_rfl) ?_
    exact fun a w st => h170 () a w (St.cut [0, 1, 2, 3, 4] ⟨rfl, rfl, rfl, rfl, rfl, trivial⟩ (by decide) rfl st)
   refine RL.fadr (off := 0) (fo := 2) 3 Tryz_fld59_2 rfl rfl rfl PtOf.obox (Or.inr ⟨rfl, rfl⟩) ?_
   refine RL.fin ?_
   refine RA.next ?_
   refine RA.relist 9 q_61 rfl (by kernel_rfl) ?_
   exact fun a w st => h175 () a w (St.cut [0, 1, 2, 4, 3] ⟨rfl, rfl, rfl, rfl, rfl, trivial⟩ (by decide) rfl st)
  refine RA.meet (ι := Unit) (fun (p : Unit) => [(0, v0), (5, v12), (23, v0), (27, adr v4 (0 + 2)), (32, .int .i64 x1.2.1)]) (fun (p : Unit) => [obox 45 TrH v0 (x0.1, (x0.2.1, u0a)), obox 55 TrL u0a x0.2.2, keep X, own 86 TrA v12 y10.1, obox 59 TrE v4 x1]) 10 q_69 (fun h183 => ?_) ?_
  rotate_left
  ·rintro ⟨⟩
   refine RA.weak (env' := [(0, v0), (5, v12), (23, v0), (27, adr v4 (0 + 2)), (32, .int .i64 x1.2.1)]) (L' := [obox 45 TrH v0 (x0.1, (x0.2.1, u0a)), obox 55 TrL u0a x0.2.2, keep X, own 86 TrA v12 y10.1, obox 59 TrE v4 x1]) ss ?_
   refine RA.many [1, 5, 10] (by kernel_rfl) ⟨⟨_, rfl, ?_⟩, ⟨_, rfl, ?_⟩, ⟨_, rfl, ?_⟩, trivial⟩
   ·skip
    refine RL.nilk 0 rfl rfl rfl rfl PtOf.obox ?_
    refine RL.fin ?_
    refine RA.next ?_
    refine RA.relist 9 q_64 rfl (by kernel_rfl) ?_
    exact fun a w st => h178 () a w (St.cut [0, 1, 2, 3, 4] ⟨rfl, rfl, rfl, rfl, rfl, trivial⟩ (by decide) rfl st)
   ·skip
    refine RL.ldPx (off := (0 + 2)) (e' := x1.2.2.1) 4 Ex.str Tryz_ln9 rfl rfl (Or.inl rfl) rfl PtOf.obox (Part.snd (Part.snd (Part.fst Part.self))) ?_
    refine RL.fin ?_
    refine RA.next ?_
    refine RA.relist 9 q_60 rfl (by kernel_rfl) ?_
    exact fun a w st => h174 () a w (St.cut [0, 1, 2, 3] ⟨rfl, rfl, rfl, rfl, rfl, trivial⟩ (by decide) rfl st)
   refine RL.callV (v := (sv y111)) (vs := [.int .i64 x1.2.1]) Tryz_fit18 rfl (Or.inl rfl) rfl rfl rfl rfl (fun U w hU hW hL => strconv_Itoa_c U w hU (hT.mono hW) x1.2.1 _ e112) ?_
   refine RL.fin ?_
   refine RA.next ?_
   refine RA.relist 9 q_61 rfl (by kernel_rfl) ?_
   exact fun a w st => h175 () a w (St.cut [0, 1, 2, 3, 4] ⟨rfl, rfl, rfl, rfl, rfl, trivial⟩ (by decide) rfl st)
  refine RA.meet (ι := Unit) (fun (p : Unit) => [(0, v0), (3, v4), (5, v12), (26, u0a)]) (fun (p : Unit) => [obox 45 TrH v0 (x0.1, (x0.2.1, u0a)), obox 55 TrL u0a x0.2.2, keep X, obox 59 TrE v4 x1, own 86 TrA v12 y10.1]) 10 q_70 (fun h184 => ?_) ?_
  rotate_left
  ·rintro ⟨⟩
   refine RA.weak (env' := [(0, v0), (3, v4), (5, v12), (26, u0a)]) (L' := [obox 45 TrH v0 (x0.1, (x0.2.1, u0a)), obox 55 TrL u0a x0.2.2, keep X, obox 59 TrE v4 x1, own 86 TrA v12 y10.1]) ss ?_
   refine RA.many [4, 8] (by kernel_rfl) ⟨⟨_, rfl, ?_⟩, ⟨_, rfl, ?_⟩, trivial⟩
   ·skip
    refine RL.fadr (off := 0) (fo := 2) 3 Tryz_fld59_2 rfl rfl rfl PtOf.obox (Or.inr ⟨rfl, rfl⟩) ?_
    refine RL.fin ?_
    refine RA.next ?_
    refine RA.relist 9 q_54 rfl (by kernel_rfl) ?_
    exact fun a w st => h168 () a w (St.cut [0, 1, 2, 3, 4] ⟨rfl, rfl, rfl, rfl, rfl, trivial⟩ (by decide) rfl st)
   refine RL.fadr (off := 0) (fo := 1) 3 Tryz_fld59_1 rfl rfl rfl PtOf.obox (Or.inr ⟨rfl, rfl⟩) ?_
   refine RL.fin ?_
   refine RA.next ?_
   refine RA.relist 9 q_63 rfl (by kernel_rfl) ?_
   exact fun a w st => h177 () a w (St.cut [0, 1, 2, 3, 4] ⟨rfl, rfl, rfl, rfl, rfl, trivial⟩ (by decide) rfl st)
  refine RA.meet (ι := Unit) (fun (p : Unit) => [(0, v0), (3, v4), (5, v12), (24, v0), (28, (sv x1.2.2.1))]) (fun (p : Unit) => [obox 45 TrH v0 (x0.1, (x0.2.1, u0a)), obox 55 TrL u0a x0.2.2, keep X, obox 59 TrE v4 x1, own 86 TrA v12 y10.1]) 10 q_71 (fun h185 => ?_) ?_
  rotate_left
  ·rintro ⟨⟩
   refine RA.weak (env' := [(0, v0), (3, v4), (5, v12), (24, v0), (28, (sv x1.2.2.1))]) (L' := [obox 45 TrH v0 (x0.1, (x0.2.1, u0a)), obox 55 TrL u0a x0.2.2, keep X, obox 59 TrE v4 x1, own 86 TrA v12 y10.1]) ss ?_
   refine RA.many [2, 6, 8] (by kernel_rfl) ⟨⟨_, rfl, ?_⟩, ⟨_, rfl, ?_⟩, ⟨_, rfl, ?_⟩, trivial⟩
   ·skip
    refine RL.fadr (off := 0) (fo := 2) 0 Tryz_fld45_2 rfl rfl rfl PtOf.obox (Or.inr ⟨rfl, rfl⟩) ?_
    refine RL.fin ?_
    refine RA.next ?_
    refine RA.relist 9 q_59 rfl (by kernel_rfl) ?_
    exact fun a w st => h173 () a w (St.cut [0, 1, 2, 3, 4] ⟨rfl, rfl, rfl, rfl, rfl, trivial⟩ (by decide) rfl st)
   ·skip
    refine RL.cat rfl rfl rfl rfl e108 ?_
    refine RL.fin ?_
    refine RA.next ?_
    refine RA.relist 9 q_52 rfl (by kernel_rfl) ?_
    exact fun a w st => h166 () a w (St.cut [0, 1, 2, 3, 4] ⟨rfl, rfl, rfl, rfl, rfl, trivial⟩ (by decide) rfl st)
   refine RL.fadr (off := 0) (fo := 1) 3 Tryz_fld59_1 rfl rfl rfl PtOf.obox (Or.inr ⟨rfl, rfl⟩) ?_
   refine RL.fin ?_
   refine RA.next ?_
   refine RA.relist 9 q_57 rfl (by kernel_rfl) ?_
   exact fun a w st => h171 () a w (St.cut [0, 1, 2, 4, 3] ⟨rfl, rfl, rfl, rfl, rfl, trivial⟩ (by decide) rfl st)
  refine RA.meet (ι := Unit) (fun (p : Unit) => [(0, v0), (5, v12), (23, v0), (28, (sv x1.2.2.1)), (31, adr v4 (0 + 1))]) (fun (p : Unit) => [obox 45 TrH v0 (x0.1, (x0.2.1, u0a)), obox 55 TrL u0a x0.2.2, keep X, own 86 TrA v12 y10.1, obox 59 TrE v4 x1]) 10 q_72 (fun h186 => ?_) ?_
  rotate_left
  ·rintro ⟨⟩
   refine RA.weak (env' := [(0, v0), (5, v12), (23, v0), (28, (sv x1.2.2.1)), (31, adr v4 (0 + 1))]) (L' := [obox 45 TrH v0 (x0.1, (x0.2.1, u0a)), obox 55 TrL u0a x0.2.2, keep X, own 86 TrA v12 y10.1, obox 59 TrE v4 x1]) ss ?_
   refine RA.many [1, 6, 9] (by kernel_rfl) ⟨⟨_, rfl, ?_⟩, ⟨_, rfl, ?_⟩, ⟨_, rfl, ?_⟩, trivial⟩
   ·skip
    refine RL.nilk 0 rfl rfl rfl rfl PtOf.obox ?_
    refine RL.fin ?_
    refine RA.next ?_
    refine RA.relist 9 q_57 rfl (by kernel_rfl) ?_
    exact fun a w st => h171 () a w (St.cut [0, 1, 2, 3, 4] ⟨rfl, rfl, rfl, rfl, rfl, trivial⟩ (by decide) rfl st)
   ·skip
    refine RL.cat rfl rfl rfl rfl e108 ?_
    refine RL.fin ?_
    refine RA.next ?_
    refine RA.relist 9 q_58 rfl (by kernel_rfl) ?_
    exact fun a w st => h172 () a w (St.cut [0, 1, 2, 3, 4] ⟨rfl, rfl, rfl, rfl, rfl, trivial⟩ (by decide) rfl st)
   refine RL.ldPx (off := (0 + 1)) (e' := x1.2.1) 4 Ex.ik Tryz_ln3 rfl rfl (Or.inl rfl) rfl PtOf.obox (Part.snd (Part.fst Part.self)) ?_
   refine RL.fin ?_
   refine RA.next ?_
   refine RA.relist 9 q_60 rfl (by kernel_rfl) ?_
   exact fun a w st => h174 () a w (St.cut [0, 1, 2, 3] ⟨rfl, rfl, rfl, rfl, rfl, trivial⟩ (by decide) rfl st)
  refine RA.meet (ι := Unit) (fun (p : Unit) => [(0, v0), (5, v12), (24, v0), (27, adr v4 (0 + 2)), (31, adr v4 (0 + 1))]) (fun (p : Unit) => [obox 45 TrH v0 (x0.1, (x0.2.1, u0a)), obox 55 TrL u0a x0.2.2, keep X, own 86 TrA v12 y10.1, obox 59 TrE v4 x1]) 10 q_73 (fun h187 => ?_) ?_
  rotate_left
  ·rintro ⟨⟩
   refine RA.weak (env' := [(0, v0), (5, v12), (24, v0), (27, adr v4 (0 + 2)), (31, adr v4 (0 + 1))]) (L' := [obox 45 TrH v0 (x0.1, (x0.2.1, u0a)), obox 55 TrL u0a x0.2.2, keep X, own 86 TrA v12 y10.1, obox 59 TrE v4 x1]) ss ?_
   refine RA.many [2, 5, 9] (by kernel_rfl) ⟨⟨_, rfl, ?_⟩, ⟨_, rfl, ?_⟩, ⟨_, rfl, ?_⟩, trivial⟩
   ·skip
    refine RL.fadr (off := 0) (fo := 2) 0 Tryz_fld45_2 rfl rfl rfl PtOf.obox (Or.inr ⟨rfl, rfl⟩) ?_
    refine RL.fin ?_
    refine RA.next ?_
    refine RA.relist 9 q_55 rfl (by kernel_rfl) ?_
    exact fun a w st => h169 () a w (St.cut [0, 1, 2, 3, 4] ⟨rfl, rfl, rfl, rfl, rfl, trivial⟩ (by decide) rfl st)
   ·skip
    refine RL.ldPx (off := (0 + 2)) (e' := x1.2.2.1) 4 Ex.str Tryz_ln9 rfl rfl (Or.inl rfl) rfl PtOf.obox (Part.snd (Part.snd (Part.fst Part.self))) ?_
    refine RL.fin ?_
    refine RA.next ?_
    refine RA.relist 9 q_57 rfl (by kernel_rfl) ?_
    exact fun a w st => h171 () a w (St.cut [0, 1, 2, 3, 4] ⟨rfl, rfl, rfl, rfl, rfl, trivial⟩ (by decide) rfl st)
   refine RL.ldPx (off := (0 + 1)) (e' := x1.2.1) 4 Ex.ik Tryz_ln3 rfl rfl (Or.inl rfl) rfl PtOf.obox (Part.snd (Part.fst Part.self)) ?_
   refine RL.fin ?_
   refine RA.next ?_
   refine RA.relist 9 q_64 rfl (by kernel_rfl) ?_
   exact fun a w st => h178 () a w (St.cut [0, 1, 2, 3, 4] ⟨rfl, rfl, rfl, rfl, rfl, trivial⟩ (by decide) rfl st)
  refine RA.meet (ι := Unit) (fun (p : Unit) => [(0, v0), (3, v4), (5, v12), (23, v0), (29, (sv (([111, 32] : B8) ++ x1.2.2.1)))]) (fun (p : Unit) => [obox 45 TrH v0 (x0.1, (x0.2.1, u0a)), obox 55 TrL u0a x0.2.2, keep X, obox 59 TrE v4 x1, own 86 TrA v12 y10.1]) 10 q_74 (fun h188 => ?_) ?_
  rotate_left
  ·rintro ⟨⟩
   refine RA.weak (env' := [(0, v0), (3, v4), (5, v12), (23, v0), (29, (sv (([111, 32] : B8) ++ x1.2.2.1)))]) (L' := [obox 45 TrH v0 (x0.1, (x0.2.1, u0a)), obox 55 TrL u0a x0.2.2, keep X, obox 59 TrE v4 x1, own 86 TrA v12 y10.1]) ss ?_
   refine RA.many [1, 7, 8] (by kernel_rfl) ⟨⟨_, rfl, ?_⟩, ⟨_, rfl, ?_⟩, ⟨_, rfl, ?_⟩, trivial⟩
   ·skip
    refine RL.nilk 0 rfl rfl rfl rfl PtOf.obox ?_
    refine RL.fin ?_
    refine RA.next ?_
    refine RA.relist 9 q_52 rfl (by kernel_rfl) ?_
    exact fun a w st => h166 () a w (St.cut [0, 1, 2, 3, 4] ⟨rfl, rfl, rfl, rfl, rfl, trivial⟩ (by decide) rfl st)
   ·skip
    refine RL.cat rfl rfl rfl rfl e110 ?_
    refine RL.fin ?_
    refine RA.next ?_
    refine RA.relist 9 q_53 rfl (by kernel_rfl) ?_
    exact fun a w st => h167 () a w (St.cut [0, 1, 2, 3, 4] ⟨rfl, rfl, rfl, rfl, rfl, trivial⟩ (by decide) rfl st)
   refine RL.fadr (off := 0) (fo := 1) 3 Tryz_fld59_1 rfl rfl rfl PtOf.obox (Or.inr ⟨rfl, rfl⟩) ?_
   refine RL.fin ?_
   refine RA.next ?_
   refine RA.relist 9 q_58 rfl (by kernel_rfl) ?_
   exact fun a w st => h172 () a w (St.cut [0, 1, 2, 4, 3] ⟨rfl, rfl, rfl, rfl, rfl, trivial⟩ (by decide) rfl st)
  refine RA.meet (ι := Unit) (fun (p : Unit) => [(0, v0), (5, v12), (23, v0), (27, adr v4 (0 + 2)), (31, adr v4 (0 + 1))]) (fun (p : Unit) => [obox 45 TrH v0 (x0.1, (x0.2.1, u0a)), obox 55 TrL u0a x0.2.2, keep X, own 86 TrA v12 y10.1, obox 59 TrE v4 x1]) 11 q_75 (fun h189 => ?_) ?_
  rotate_left
  ·rintro ⟨⟩
   refine RA.weak (env' := [(0, v0), (5, v12), (23, v0), (27, adr v4 (0 + 2)), (31, adr v4 (0 + 1))]) (L' := [obox 45 TrH v0 (x0.1, (x0.2.1, u0a)), obox 55 TrL u0a x0.2.2, keep X, own 86 TrA v12 y10.1, obox 59 TrE v4 x1]) ss ?_
   refine RA.many [1, 5, 9] (by kernel_rfl) ⟨⟨_, rfl, ?_⟩, ⟨_, rfl, ?_⟩, ⟨_, rfl, ?_⟩, trivial⟩
   ·skip
    refine RL.nilk 0 rfl rfl rfl rfl PtOf.obox ?_
    refine RL.fin ?_
    refine RA.next ?_
    refine RA.relist 10 q_73 rfl (by kernel_rfl) ?_
    exact fun a w st => h187 () a w (St.cut [0, 1, 2, 3, 4] ⟨rfl, rfl, rfl, rfl, rfl, trivial⟩ (by decide) rfl st)
   ·skip
    refine RL.ldPx (off := (0 + 2)) (e' := x1.2.2.1) 4 Ex.str Tryz_ln9 rfl rfl (Or.inl rfl) rfl PtOf.obox (Part.snd (Part.snd (Part.fst Part.self))) ?_
    refine RL.fin ?_
    refine RA.next ?_
    refine RA.relist 10 q_72 rfl (by kernel_rfl) ?_
    exact fun a w st => h186 () a w (St.cut [0, 1, 2, 3, 4] ⟨rfl, rfl, rfl, rfl, rfl, trivial⟩ (by decide) rfl st)
   refine RL.ldPx (off := (0 + 1)) (e' := x1.2.1) 4 Ex.ik Tryz_ln3 rfl rfl (Or.inl rfl) rfl PtOf.obox (Part.snd (Part.fst Part.self)) ?_
   refine RL.fin ?_
   refine RA.next ?_
   refine RA.relist 10 q_69 rfl (by kernel_rfl) ?_
   exact fun a w st => h183 () a w (St.cut [0, 1, 2, 3, 4] ⟨rfl, rfl, rfl, rfl, rfl, trivial⟩ (by decide) rfl st)
  refine RA.meet (ι := Unit) (fun (p : Unit) => [(0, v0), (3, v4), (5, v12), (23, v0), (28, (sv x1.2.2.1))]) (fun (p : Unit) => [obox 45 TrH v0 (x0.1, (x0.2.1, u0a)), obox 55 TrL u0a x0.2.2, keep X, obox 59 TrE v4 x1, own 86 TrA v12 y10.1]) 11 q_76 (fun h190 => ?_) ?_
  rotate_left
  ·rintro ⟨⟩
   refine RA.weak (env' := [(0, v0), (3, v4), (5, v12), (23, v0), (28, (sv x1.2.2.1))]) (L' := [obox 45 TrH v0 (x0.1, (x0.2.1, u0a)), obox 55 TrL u0a x0.2.2, keep X, obox 59 TrE v4 x1, own 86 TrA v12 y10.1]) ss ?_
   refine RA.many [1, 6, 8] (by kernel_rfl) ⟨⟨_, rfl, ?_⟩, ⟨_, rfl, ?_⟩, ⟨_, rfl, ?_⟩, trivial⟩
   ·skip
    refine RL.nilk 0 rfl rfl rfl rfl PtOf.obox ?_
    refine RL.fin ?_
    refine RA.next ?_
    refine RA.relist 10 q_71 rfl (by kernel_rfl) ?_
    exact fun a w st => h185 () a w (St.cut [0, 1, 2, 3, 4] ⟨rfl, rfl, rfl, rfl, rfl, trivial⟩ (by decide) rfl st)
   ·skip
    refine RL.cat rfl rfl rfl rfl e108 ?_
    refine RL.fin ?_
    refine RA.next ?_
    refine RA.relist 10 q_74 rfl (by kernel_rfl) ?_
    exact fun a w st => h188 () a w (St.cut [0, 1, 2, 3, 4] ⟨rfl, rfl, rfl, rfl, rfl, trivial⟩ (by decide) rfl st)
   refine RL.fadr (off := 0) (fo := 1) 3 Tryz_fld59_1 rfl rfl rfl PtOf.obox (Or.inr ⟨rfl, rfl⟩) ?_
   refine RL.fin ?_
   refine RA.next ?_
   refine RA.relist 10 q_72 rfl (by kernel_rfl) ?_
   exact fun a w st => h186 () a w (St.cut [0, 1, 2, 4, 3] ⟨rfl, rfl, rfl, rfl, rfl, trivial⟩ (by decide) rfl st)
  refine RA.meet (ι := Unit) (fun (p : Unit) => [(0, v0), (3, v4), (5, v12), (25, adr v0 (0 + 2))]) (fun (p : Unit) => [obox 45 TrH v0 (x0.1, (x0.2.1, u0a)), obox 55 TrL u0a x0.2.2, keep X, obox 59 TrE v4 x1, own 86 TrA v12 y10.1]) 11 q_77 (fun h191 => ?_) ?_
  rotate_left
  ·rintro ⟨⟩
   refine RA.weak (env' := [(0, v0), (3, v4), (5, v12), (25, adr v0 (0 + 2))]) (L' := [obox 45 TrH v0 (x0.1, (x0.2.1, u0a)), obox 55 TrL u0a x0.2.2, keep X, obox 59 TrE v4 x1, own 86 TrA v12 y10.1]) ss ?_
   refine RA.many [3, 4, 8] (by kernel_rfl) ⟨⟨_, rfl, ?_⟩, ⟨_, rfl, ?_⟩, ⟨_, rfl, ?_⟩, trivial⟩
   ·skip
    refine RL.ldPx (off := (0 + 2)) (e' := u0a) 0 Ex.raw Tryz_ln40 rfl rfl (Or.inl rfl) rfl PtOf.obox (Part.snd (Part.snd Part.self)) ?_
    refine RL.fin ?_
    refine RA.next ?_
    refine RA.relist 10 q_70 rfl (by kernel_rfl) ?_
    exact fun a w st => h184 () a w (St.cut [0, 1, 2, 3, 4] ⟨rfl, rfl, rfl, rfl, trivial⟩ (by decide) rfl st)
   ·skip
    refine RL.fadr (off := 0) (fo := 2) 3 Tryz_fld59_2 rfl rfl rfl PtOf.obox (Or.inr ⟨rfl, rfl⟩) ?_
    refine RL.fin ?_
    refine RA.next ?_
    refine RA.relist 10 q_66 rfl (by kernel_rfl) ?_
    exact fun a w st => h180 () a w (St.cut [0, 1, 2, 3, 4] ⟨rfl, rfl, rfl, rfl, rfl, trivial⟩ (by decide) rfl st)
   refine RL.fadr (off := 0) (fo := 1) 3 Tryz_fld59_1 rfl rfl rfl PtOf.obox (Or.inr ⟨rfl, rfl⟩) ?_
   refine RL.fin ?_
   refine RA.next ?_
   refine RA.relist 10 q_65 rfl (by kernel_rfl) ?_
   exact fun a w st => h179 () a w (St.cut [0, 1, 2, 3, 4] ⟨rfl, rfl, rfl, rfl, rfl, trivial⟩ (by decide) rfl st)
  refine RA.meet (ι := Unit) (fun (p : Unit) => [(0, v0), (3, v4), (5, v12), (23, v0), (32, .int .i64 x1.2.1)]) (fun (p : Unit) => [obox 45 TrH v0 (x0.1, (x0.2.1, u0a)), obox 55 TrL u0a x0.2.2, keep X, obox 59 TrE v4 x1, own 86 TrA v12 y10.1]) 11 q_78 (fun h192 => ?_) ?_
  rotate_left
  ·rintro ⟨⟩
   refine RA.weak (env' := [(0, v0), (3, v4), (5, v12), (23, v0), (32, .int .i64 x1.2.1)]) (L' := [obox 45 TrH v0 (x0.1, (x0.2.1, u0a)), obox 55 TrL u0a x0.2.2, keep X, obox 59 TrE v4 x1, own 86 TrA v12 y10.1]) ss ?_
   refine RA.many [1, 4, 10] (by kernel_rfl) ⟨⟨_, rfl, ?_⟩, ⟨_, rfl, ?_⟩, ⟨_, rfl, ?_⟩, trivial⟩
   ·skip
    refine RL.nilk 0 rfl rfl rfl rfl PtOf.obox ?_
    refine RL.fin ?_
    refine RA.next ?_
    refine RA.relist 10 q_67 rfl (by kernel_rfl) ?_
    exact fun a w st => h181 () a w (St.cut [0, 1, 2, 3, 4] ⟨rfl, rfl, rfl, rfl, rfl, trivial⟩ (by decide) rfl st)
   ·skip
    refine RL.fadr (off := 0) (fo := 2) 3 Tryz_fld59_2 rfl rfl rfl PtOf.obox (Or.inr ⟨rfl, rfl⟩) ?_
    refine RL.fin ?_
    refine RA.next ?_
    refine RA.relist 10 q_69 rfl (by kernel_rfl) ?_
    exact fun a w st => h183 () a w (St.cut [0, 1, 2, 4, 3] ⟨rfl, rfl, rfl, rfl, rfl, trivial⟩ (by decide) rfl st)
   refine RL.callV (v := (sv y111)) (vs := [.int .i64 x1.2.1]) Tryz_fit18 rfl (Or.inl rfl) rfl rfl rfl rfl (fun U w hU hW hL => strconv_Itoa_c U w hU (hT.mono hW) x1.2.1 _ e112) ?_
   refine RL.fin ?_
   refine RA.next ?_
   refine RA.relist 10 q_68 rfl (by kernel_rfl) ?_
   exact fun a w st => h182 () a w (St.cut [0, 1, 2, 3, 4] ⟨rfl, rfl, rfl, rfl, rfl, trivial⟩ (by decide) rfl st)
  refine RA.meet (ι := Unit) (fun (p : Unit) => [(0, v0), (3, v4), (5, v12), (24, v0), (27, adr v4 (0 + 2))]) (fun (p : Unit) => [obox 45 TrH v0 (x0.1, (x0.2.1, u0a)), obox 55 TrL u0a x0.2.2, keep X, obox 59 TrE v4 x1, own 86 TrA v12 y10.1]) 11 q_79 (fun h193 => ?_) ?_
  rotate_left
  ·rintro ⟨⟩
   refine RA.weak (env' := [(0, v0), (3, v4), (5, v12), (24, v0), (27, adr v4 (0 + 2))]) (L' := [obox 45 TrH v0 (x0.1, (x0.2.1, u0a)), obox 55 TrL u0a x0.2.2, keep X, obox 59 TrE v4 x1, own 86 TrA v12 y10.1]) ss ?_
   refine RA.many [2, 5, 8] (by kernel_rfl) ⟨⟨_, rfl, ?_⟩, ⟨_, rfl, ?_⟩, ⟨_, rfl, ?_⟩, trivial⟩
   ·skip
    refine RL.fadr (off := 0) (fo := 2) 0 Tryz_fld45_2 rfl rfl rfl PtOf.obox (Or.inr ⟨rfl, rfl⟩) ?_
    refine RL.fin ?_
    refine RA.next ?_
    refine RA.relist 10 q_66 rfl (by kernel_rfl) ?_
    exact fun a w st => h180 () a w (St.cut [0, 1, 2, 3, 4] ⟨rfl, rfl, rfl, rfl, rfl, trivial⟩ (by decide) rfl st)
   ·skip
    refine RL.ldPx (off := (0 + 2)) (e' := x1.2.2.1) 3 Ex.str Tryz_ln9 rfl rfl (Or.inl rfl) rfl PtOf.obox (Part.snd (Part.snd (Part.fst Part.self))) ?_
    refine RL.fin ?_
    refine RA.next ?_
    refine RA.relist 10 q_71 rfl (by kernel_rfl) ?_
    exact fun a w st => h185 () a w (St.cut [0, 1, 2, 3, 4] ⟨rfl, rfl, rfl, rfl, rfl, trivial⟩ (by decide) rfl st)
   refine RL.fadr (off := 0) (fo := 1) 3 Tryz_fld59_1 rfl rfl rfl PtOf.obox (Or.inr ⟨rfl, rfl⟩) ?_
   refine RL.fin ?_
   refine RA.next ?_
   refine RA.relist 10 q_73 rfl (by kernel_rfl) ?_
   exact fun a w st => h187 () a w (St.cut [0, 1, 2, 4, 3] ⟨rfl, rfl, rfl, rfl, rfl, trivial⟩ (by decide) rfl st)
  refine RA.meet (ι := Unit) (fun (p : Unit) => [(0, v0), (3, v4), (5, v12), (24, v0), (31, adr v4 (0 + 1))]) (fun (p : Unit) => [obox 45 TrH v0 (x0.1, (x0.2.1, u0a)), obox 55 TrL u0a x0.2.2, keep X, obox 59 TrE v4 x1, own 86 TrA v12 y10.1]) 11 q_80 (fun h194 => ?_) ?_
  rotate_left
  ·rintro ⟨⟩
   refine RA.weak (env' := [(0, v0), (3, v4), (5, v12), (24, v0), (31, adr v4 (0 + 1))]) (L' := [obox 45 TrH v0 (x0.1, (x0.2.1, u0a)), obox 55 TrL u0a x0.2.2, keep X, obox 59 TrE v4 x1, own 86 TrA v12 y10.1]) ss ?_
   refine RA.many [2, 4, 9] (by kernel_rfl) ⟨⟨_, rfl, ?_⟩, ⟨_, rfl, ?_⟩, ⟨_, rfl, ?_⟩, trivial⟩
   ·skip
    refine RL.fadr (off := 0) (fo := 2) 0 Tryz_fld45_2 rfl rfl rfl PtOf.obox (Or.inr ⟨rfl, rfl⟩) ?_
    refine RL.fin ?_
    refine RA.next ?_
    refine RA.relist 10 q_65 rfl (by kernel_rfl) ?_
    exact fun a w st => h179 () a w (St.cut [0, 1, 2, 3, 4] ⟨rfl, rfl, rfl, rfl, rfl, trivial⟩ (by decide) rfl st)
   ·skip
    refine RL.fadr (off := 0) (fo := 2) 3 Tryz_fld59_2 rfl rfl rfl PtOf.obox (Or.inr ⟨rfl, rfl⟩) ?_
    refine RL.fin ?_
    refine RA.next ?_
    refine RA.relist 10 q_73 rfl (by kernel_rfl) ?_
    exact fun a w st => h187 () a w (St.cut [0, 1, 2, 4, 3] ⟨rfl, rfl, rfl, rfl, rfl, trivial⟩ (by decide) rfl st)
   refine RL.ldPx (off := (0 + 1)) (e' := x1.2.1) 3 Ex.ik Tryz_ln3 rfl rfl (Or.inl rfl) rfl PtOf.obox (Part.snd (Part.fst Part.self)) ?_
   refine RL.fin ?_
   refine RA.next ?_
   refine RA.relist 10 q_67 rfl (by kernel_rfl) ?_
   exact fun a w st => h181 () a w (St.cut [0, 1, 2, 3, 4] ⟨rfl, rfl, rfl, rfl, rfl, trivial⟩ (by decide) rfl st)
  refine RA.meet (ι := Unit) (fun (p : Unit) => [(0, v0), (3, v4), (5, v12), (24, v0)]) (fun (p : Unit) => [obox 45 TrH v0 (x0.1, (x0.2.1, u0a)), obox 55 TrL u0a x0.2.2, keep X, obox 59 TrE v4 x1, own 86 TrA v12 y10.1]) 12 q_81 (fun h195 => ?_) ?_
  rotate_left
  ·rintro ⟨⟩
   refine RA.weak (env' := [(0, v0), (3, v4), (5, v12), (24, v0)]) (L' := [obox 45 TrH v0 (x0.1, (x0.2.1, u0a)), obox 55 TrL u0a x0.2.2, keep X, obox 59 TrE v4 x1, own 86 TrA v12 y10.1]) ss ?_
   refine RA.many [2, 4, 8] (by kernel_rfl) ⟨⟨_, rfl, ?_⟩, ⟨_, rfl, ?_⟩, ⟨_, rfl, ?_⟩, trivial⟩
   ·skip
    refine RL.fadr (off := 0) (fo := 2) 0 Tryz_fld45_2 rfl rfl rfl PtOf.obox (Or.inr ⟨rfl, rfl⟩) ?_
    refine RL.fin ?_
    refine RA.next ?_
    refine RA.relist 11 q_77 rfl (by kernel_rfl) ?_
    exact fun a w st => h191 () a w (St.cut [0, 1, 2, 3, 4] ⟨rfl, rfl, rfl, rfl, trivial⟩ (by decide) rfl st)
   ·skip
    refine RL.fadr (off := 0) (fo := 2) 3 Tryz_fld59_2 rfl rfl rfl PtOf.obox (Or.inr ⟨rfl, rfl⟩) ?_
    refine RL.fin ?_
    refine RA.next ?_
    refine RA.relist 11 q_79 rfl (by kernel_rfl) ?_
    exact fun a w st => h193 () a w (St.cut [0, 1, 2, 3, 4] ⟨rfl, rfl, rfl, rfl, rfl, trivial⟩ (by decide) rfl st)
   refine RL.fadr (off := 0) (fo := 1) 3 Tryz_fld59_1 rfl rfl rfl PtOf.obox (Or.inr ⟨rfl, rfl⟩) ?_
   refine RL.fin ?_
   refine RA.next ?_
   refine RA.relist 11 q_80 rfl (by kernel_rfl) ?_
   exact fun a w st => h194 () a w (St.cut [0, 1, 2, 3, 4] ⟨rfl, rfl, rfl, rfl, rfl, trivial⟩ (by decide) rfl st)
  refine RA.meet (ι := Unit) (fun (p : Unit) => [(0, v0), (3, v4), (5, v12), (23, v0), (27, adr v4 (0 + 2))]) (fun (p : Unit) => [obox 45 TrH v0 (x0.1, (x0.2.1, u0a)), obox 55 TrL u0a x0.2.2, keep X, obox 59 TrE v4 x1, own 86 TrA v12 y10.1]) 12 q_82 (fun h196 => ?_) ?_
  rotate_left
  ·rintro ⟨⟩
   refine RA.weak (env' := [(0, v0), (3, v4), (5, v12), (23, v0), (27, adr v4 (0 + 2))]) (L' := [obox 45 TrH v0 (x0.1, (x0.2.1, u0a)), obox 55 TrL u0a x0.2.2, keep X, obox 59 TrE v4 x1, own 86 TrA v12 y10.1]) ss ?_
   refine RA.many [1, 5, 8] (by kernel_rfl) ⟨⟨_, rfl, ?_⟩, ⟨_, rfl, ?_⟩, ⟨_, rfl, ?_⟩, trivial⟩
   ·skip
    refine RL.nilk 0 rfl rfl rfl rfl PtOf.obox ?_
    refine RL.fin ?_
    refine RA.next ?_
    refine RA.relist 11 q_79 rfl (by kernel_rfl) ?_
    exact fun a w st => h193 () a w (St.cut [0, 1, 2, 3, 4] ⟨rfl, rfl, rfl, rfl, rfl, trivial⟩ (by decide) rfl st)
   ·skip
    refine RL.ldPx (off := (0 + 2)) (e' := x1.2.2.1) 3 Ex.str Tryz_ln9 rfl rfl (Or.inl rfl) rfl PtOf.obox (Part.snd (Part.snd (Part.fst Part.self))) ?_
    refine RL.fin ?_
    refine RA.next ?_
    refine RA.relist 11 q_76 rfl (by kernel_rfl) ?_
    exact fun a w st => h190 () a w (St.cut [0, 1, 2, 3, 4] ⟨rfl, rfl, rfl, rfl, rfl, trivial⟩ (by decide) rfl st)
   refine RL.fadr (off := 0) (fo := 1) 3 Tryz_fld59_1 rfl rfl rfl PtOf.obox (Or.inr ⟨rfl, rfl⟩) ?_
   refine RL.fin ?_
   refine RA.next ?_
   refine RA.relist 11 q_75 rfl (by kernel_rfl) ?_
   exact fun a w st => h189 () a w (St.cut [0, 1, 2, 4, 3] ⟨rfl, rfl, rfl, rfl, rfl, trivial⟩ (by decide) rfl st)
  refine RA.meet (ι := Unit) (fun (p : Unit) => [(0, v0), (3, v4), (5, v12), (23, v0), (31, adr v4 (0 + 1))]) (fun (p : Unit) => [obox 45 TrH v0 (x0.1, (x0.2.1, u0a)), obox 55 TrL u0a x0.2.2, keep X, obox 59 TrE v4 x1, own 86 TrA v12 y10.1]) 12 q_83 (fun h197 => ?_) ?_
  rotate_left
  ·rintro ⟨⟩
   refine RA.weak (env' := [(0, v0), (3, v4), (5, v12), (23, v0), (31, adr v4 (0 + 1))]) (L' := [obox 45 TrH v0 (x0.1, (x0.2.1, u0a)), obox 55 TrL u0a x0.2.2, keep X, obox 59 TrE v4 x1, own 86 TrA v12 y10.1]) ss ?_
   refine RA.many [1, 4, 9] (by kernel_rfl) ⟨⟨_, rfl, ?_⟩, ⟨_, rfl, ?_⟩, ⟨_, rfl, ?_⟩, trivial⟩
   ·skip
    refine RL.nilk 0 rfl rfl rfl rfl PtOf.obox ?_
    refine RL.fin ?_
    refine RA.next ?_
    refine RA.relist 11 q_80 rfl (by kernel_rfl) ?_
    exact fun a w st => h194 () a w (St.cut [0, 1, 2, 3, 4] ⟨rfl, rfl, rfl, rfl, rfl, trivial⟩ (by decide) rfl st)
   ·skip
    refine RL.fadr (off := 0) (fo := 2) 3 Tryz_fld59_2 rfl rfl rfl PtOf.obox (Or.inr ⟨rfl, rfl⟩) ?_
    refine RL.fin ?_
    refine RA.next ?_
    refine RA.relist 11 q_75 rfl (by kernel_rfl) ?_
    exact fun a w st => h189 () a w (St.cut [0, 1, 2, 4, 3] ⟨rfl, rfl, rfl, rfl, rfl, trivial⟩ (by decide) rfl st)
   refine RL.ldPx (off := (0 + 1)) (e' := x1.2.1) 3 Ex.ik Tryz_ln3 rfl rfl (Or.inl rfl) rfl PtOf.obox (Part.snd (Part.fst Part.self)) ?_
   refine RL.fin ?_
   refine RA.next ?_
   refine RA.relist 11 q_78 rfl (by kernel_rfl) ?_
   exact fun a w st => h192 () a w (St.cut [0, 1, 2, 3, 4] ⟨rfl, rfl, rfl, rfl, rfl, trivial⟩ (by decide) rfl st)
  refine RA.many [1, 4, 8] (by kernel_rfl) ⟨⟨_, rfl, ?_⟩, ⟨_, rfl, ?_⟩, ⟨_, rfl, ?_⟩, trivial⟩
  ·skip
   refine RL.nilk 0 rfl rfl rfl rfl PtOf.obox ?_
   refine RL.fin ?_
   refine RA.next ?_
   refine RA.relist 12 q_81 rfl (by kernel_rfl) ?_
   exact fun a w st => h195 () a w (St.cut [0, 1, 2, 3, 4] ⟨rfl, rfl, rfl, rfl, trivial⟩ (by decide) rfl st)
  ·skip
   refine RL.fadr (off := 0) (fo := 2) 3 Tryz_fld59_2 rfl rfl rfl PtOf.obox (Or.inr ⟨rfl, rfl⟩) ?_
   refine RL.fin ?_
   refine RA.next ?_
   refine RA.relist 12 q_82 rfl (by kernel_rfl) ?_
   exact fun a w st => h196 () a w (St.cut [0, 1, 2, 3, 4] ⟨rfl, rfl, rfl, rfl, rfl, trivial⟩ (by decide) rfl st)
  refine RL.fadr (off := 0) (fo := 1) 3 Tryz_fld59_1 rfl rfl rfl PtOf.obox (Or.inr ⟨rfl, rfl⟩) ?_
  refine RL.fin ?_
  refine RA.next ?_
  refine RA.relist 12 q_83 rfl (by kernel_rfl) ?_
  exact fun a w st => h197 () a w (St.cut [0, 1, 2, 3, 4] ⟨rfl, rfl, rfl, rfl, rfl, trivial⟩ (by decide) rfl st)
 rintro ⟨⟩
 refine RA.weak (env' := [(0, v0), (5, v12), (26, u0a), (34, (sv (((([111, 32] : B8) ++ x1.2.2.1) ++ ([32] : B8)) ++ y111)))]) (L' := [obox 45 TrH v0 (x0.1, (x0.2.1, u0a)), obox 55 TrL u0a x0.2.2, keep X, own 86 TrA v12 y10.1]) ss ?_
 refine RA.seq 12 rfl (by kernel_rfl) ?_
 obtain ⟨y198, e199, hm⟩ := bind_some hm
 refine RL.callK (vs := [u0a, (sv (((([111, 32] : B8) ++ x1.2.2.1) ++ ([32] : B8)) ++ y111))]) (V := fun (o : Unit) => .int .i64 y198.1) (LR := fun (o : Unit) => [obox 55 TrL u0a y198.2]) (Ls := [obox 55 TrL u0a x0.2.2]) [1] (by decide) Tryz_fit65 rfl rfl rfl rfl rfl rfl (fun S f X w hO hB hW hI hL => log_Log_Append_c _ S X f w _ _  hO hB hI (((([111, 32] : B8) ++ x1.2.2.1) ++ ([32] : B8)) ++ y111) _ e199) ?_
 intro _
 refine RL.fin ?_
 refine RA.next ?_
 refine RA.quiet 13 rfl rfl (by kernel_rfl) ?_
 simp only [List.drop_succ_cons, List.drop_zero]
 refine RL.asg rfl rfl rfl ?_
 refine RL.reL (L' := [obox 45 TrH v0 (x0.1, (x0.2.1, u0a)), gone, keep X, own 86 TrA v12 y10.1, obox 55 TrL u0a y198.2]) rfl ?_
 refine RL.finQ ?_
 refine RA.outQ ?_
 refine GL.weak (env' := [(0, v0), (5, v12), (7, .int .i64 y198.1)]) (L' := [obox 45 TrH v0 (x0.1, (x0.2.1, u0a)), keep X, obox 55 TrL u0a y198.2, own 86 TrA v12 y10.1]) (fun a w st => St.cut [0, 2, 4, 3] ⟨rfl, rfl, rfl, trivial⟩ (by decide) rfl st) ?_
 refine GL.seq ?_
 refine GL.region ?_
 refine RL.mv rfl rfl rfl ?_
 refine RL.binI (v := .bool (y198.1 != (0 : Int))) rfl rfl rfl rfl rfl ?_
 refine RL.finG ?_
 refine GL.cond rfl (fun b200 => ?_) (fun b200 => ?_)
 ·replace hm := ite_t b200 hm
  refine GL.seq ?_
  refine GL.region ?_
  refine RL.mv rfl rfl rfl ?_
  refine RL.asg rfl rfl rfl ?_
  refine RL.finG ?_
  have hm := Option.some.inj hm
  subst hm
  exact GL.ret (Gx.ret (v := .int .i64 y198.1) (res1 rfl rfl) (fun a w st => (st.pick [0, 2, 1] (by decide) rfl).toPostM (V := fun (o : Unit) => .int .i64 ((y198.1, (x0.1, (x0.2.1, y198.2))).1)) (LR := fun (o : Unit) => [obox 45 TrH v0 (((y198.1, (x0.1, (x0.2.1, y198.2))).2).1, (((y198.1, (x0.1, (x0.2.1, y198.2))).2).2.1, u0a)), obox 55 TrL u0a (((y198.1, (x0.1, (x0.2.1, y198.2))).2).2.2), keep X]) ()))
 replace hm := ite_f b200 hm
 refine GL.skip ?_
 refine GL.seq ?_
 refine GL.region ?_
 refine RL.mv rfl rfl rfl ?_
 refine RL.mv rfl rfl rfl ?_
 refine RL.nilk 0 rfl rfl rfl rfl PtOf.obox ?_
 refine RL.fadr (off := 0) (fo := 0) 0 Tryz_fld45_0 rfl rfl rfl PtOf.obox (Or.inr ⟨rfl, rfl⟩) ?_
 refine RL.weak (fun a w st => st.freeze 3 rfl) ?_
 refine RL.stP (off := (0 + 0)) (e' := y10.1) (d1 := ((y10.1, x0.2).1, ((y10.1, x0.2).2.1, u0a))) (r := (TR.sl TrA)) 0 Tryz_ln42 rfl rfl (Or.inl rfl) rfl (VR.item 3 rfl) rfl (Upd.fst Upd.self) ?_
 refine RL.reL (L' := [obox 45 TrH v0 ((y10.1, x0.2).1, ((y10.1, x0.2).2.1, u0a)), keep X, obox 55 TrL u0a y198.2, imm (TR.sl TrA) v12 y10.1]) rfl ?_
 refine RL.finG ?_
 refine GL.seq ?_
 refine GL.region ?_
 refine RL.asg rfl rfl rfl ?_
 refine RL.finG ?_
 have hm := Option.some.inj hm
 subst hm
 exact GL.ret (Gx.ret (v := .int .i64 (0 : Int)) (res1 rfl rfl) (fun a w st => (st.pick [0, 2, 1] (by decide) rfl).toPostM (V := fun (o : Unit) => .int .i64 (((0 : Int), (y10.1, (x0.2.1, y198.2))).1)) (LR := fun (o : Unit) => [obox 45 TrH v0 ((((0 : Int), (y10.1, (x0.2.1, y198.2))).2).1, ((((0 : Int), (y10.1, (x0.2.1, y198.2))).2).2.1, u0a)), obox 55 TrL u0a ((((0 : Int), (y10.1, (x0.2.1, y198.2))).2).2.2), keep X]) ()))
end Go.Wk
