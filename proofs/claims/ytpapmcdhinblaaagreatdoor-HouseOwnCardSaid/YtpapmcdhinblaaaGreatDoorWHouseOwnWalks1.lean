/- Each function comes to what its model says; printed by a program of this repository. -/
import Derived.Test.YtpapmcdhinblaaaGreatDoorProg
import Derived.Test.YtpapmcdhinblaaaGreatDoorWHouseOwnModels
import Derived.Test.YtpapmcdhinblaaaGreatDoorFwY
import Derived.Test.YtpapmcdhinblaaaGreatDoorFwV
import Derived.Test.YtpapmcdhinblaaaGreatDoorFwZ
namespace Go.Proofs
open Go.Shelf
def Tryz.lays171_ren : Go.Shelf.Ren := ⟨fun | 171 => 58 | 243 => 78 | 246 => 88 | 283 => 98 | 284 => 99 | 285 => 100 | 286 => 101 | 129 => 76 | 317 => 109 | 318 => 110 | 319 => 111 | 320 => 112 | 337 => 120 | 338 => 121 | n => n, fun | 3 => 3 | 9 => 9 | 2 => 2 | 4 => 4 | 171 => 147 | 0 => 0 | 53 => 123 | 37 => 88 | 5 => 5 | 173 => 149 | 212 => 162 | 51 => 121 | 20 => 20 | 213 => 163 | 46 => 91 | 232 => 176 | 233 => 177 | n => n, fun | 17 => 2 | 18 => 6 | 19 => 7 | n => n⟩
theorem Tryz.lays171 : Go.Proofs.LaysM.n171 Tryz.prog Tryz.lays171_ren := {
  mixed := by kernel_rfl
  f129 := Tryz.func76.trans (congrArg some (by kernel_rfl))
  f171 := Tryz.func58.trans (congrArg some (by kernel_rfl))
  f243 := Tryz.func78.trans (congrArg some (by kernel_rfl))
  f246 := Tryz.func88.trans (congrArg some (by kernel_rfl))
  f283 := Tryz.func98.trans (congrArg some (by kernel_rfl))
  f284 := Tryz.func99.trans (congrArg some (by kernel_rfl))
  f285 := Tryz.func100.trans (congrArg some (by kernel_rfl))
  f286 := Tryz.func101.trans (congrArg some (by kernel_rfl))
  f317 := Tryz.func109.trans (congrArg some (by kernel_rfl))
  f318 := Tryz.func110.trans (congrArg some (by kernel_rfl))
  f319 := Tryz.func111.trans (congrArg some (by kernel_rfl))
  f320 := Tryz.func112.trans (congrArg some (by kernel_rfl))
  f337 := Tryz.func120.trans (congrArg some (by kernel_rfl))
  f338 := Tryz.func121.trans (congrArg some (by kernel_rfl))
  t0 := Tryz.underlying0
  a0 := Tryz.isAgg0
  z0 := Tryz.sizeOf0
  v0 := Tryz.zeroValue0
  t2 := Tryz.underlying2
  a2 := Tryz.isAgg2
  z2 := Tryz.sizeOf2
  v2 := Tryz.zeroValue2
  t3 := Tryz.underlying3
  a3 := Tryz.isAgg3
  z3 := Tryz.sizeOf3
  v3 := Tryz.zeroValue3
  t4 := Tryz.underlying4
  a4 := Tryz.isAgg4
  z4 := Tryz.sizeOf4
  v4 := Tryz.zeroValue4
  t5 := Tryz.underlying5
  a5 := Tryz.isAgg5
  z5 := Tryz.sizeOf5
  v5 := Tryz.zeroValue5
  t9 := Tryz.underlying9
  a9 := Tryz.isAgg9
  z9 := Tryz.sizeOf9
  v9 := Tryz.zeroValue9
  t20 := Tryz.underlying20
  a20 := Tryz.isAgg20
  z20 := Tryz.sizeOf20
  v20 := Tryz.zeroValue20
  t37 := Tryz.underlying88
  a37 := Tryz.isAgg88
  z37 := Tryz.sizeOf88
  v37 := Tryz.zeroValue88
  t46 := Tryz.underlying91
  a46 := Tryz.isAgg91
  z46 := Tryz.sizeOf91
  v46 := Tryz.zeroValue91
  t51 := Tryz.underlying121
  a51 := Tryz.isAgg121
  z51 := Tryz.sizeOf121
  v51 := Tryz.zeroValue121
  t53 := Tryz.underlying123
  a53 := Tryz.isAgg123
  z53 := Tryz.sizeOf123
  v53 := Tryz.zeroValue123
  t171 := Tryz.underlying147
  a171 := Tryz.isAgg147
  z171 := Tryz.sizeOf147
  v171 := Tryz.zeroValue147
  t173 := Tryz.underlying149
  a173 := Tryz.isAgg149
  z173 := Tryz.sizeOf149
  v173 := Tryz.zeroValue149
  t212 := Tryz.underlying162
  a212 := Tryz.isAgg162
  z212 := Tryz.sizeOf162
  v212 := Tryz.zeroValue162
  t213 := Tryz.underlying163
  a213 := Tryz.isAgg163
  z213 := Tryz.sizeOf163
  t232 := Tryz.underlying176
  a232 := Tryz.isAgg176
  z232 := Tryz.sizeOf176
  v232 := Tryz.zeroValue176
  t233 := Tryz.underlying177
  a233 := Tryz.isAgg177
  z233 := Tryz.sizeOf177
  v233 := Tryz.zeroValue177
  g17 := by kernel_rfl
  g18 := by kernel_rfl
  g19 := by kernel_rfl
  i0 := by kernel_rfl
  i2 := by kernel_rfl
  i3 := by kernel_rfl
  i4 := by kernel_rfl
  i5 := by kernel_rfl
  i9 := by kernel_rfl
  i20 := by kernel_rfl
  i37 := by kernel_rfl
  i46 := by kernel_rfl
  i51 := by kernel_rfl
  i53 := by kernel_rfl
  i171 := by kernel_rfl
  i173 := by kernel_rfl
  i212 := by kernel_rfl
  i232 := by kernel_rfl
  i233 := by kernel_rfl
  m17 := by kernel_rfl
  m18 := by kernel_rfl
  m19 := by kernel_rfl }
def Tryz.lays146_ren : Go.Shelf.Ren := ⟨fun | 146 => 63 | 221 => 80 | 268 => 89 | 138 => 90 | 143 => 91 | 195 => 102 | 197 => 103 | 218 => 104 | 219 => 105 | 260 => 113 | 217 => 114 | 225 => 115 | 224 => 116 | 267 => 117 | 266 => 122 | 314 => 123 | n => n, fun | 9 => 9 | 31 => 98 | 3 => 3 | 4 => 4 | 0 => 0 | 105 => 151 | 21 => 21 | 5 => 5 | 46 => 91 | 119 => 170 | 139 => 173 | 138 => 172 | 146 => 174 | 51 => 121 | n => n, fun | 1 => 3 | 3 => 4 | 4 => 5 | n => n⟩
theorem Tryz.lays146 : Go.Proofs.Lays.n146 Tryz.prog Tryz.lays146_ren := {
  mixed := by kernel_rfl
  f138 := Tryz.func90.trans (congrArg some (by kernel_rfl))
  f143 := Tryz.func91.trans (congrArg some (by kernel_rfl))
  f146 := Tryz.func63.trans (congrArg some (by kernel_rfl))
  f195 := Tryz.func102.trans (congrArg some (by kernel_rfl))
  f197 := Tryz.func103.trans (congrArg some (by kernel_rfl))
  f217 := Tryz.func114.trans (congrArg some (by kernel_rfl))
  f218 := Tryz.func104.trans (congrArg some (by kernel_rfl))
  f219 := Tryz.func105.trans (congrArg some (by kernel_rfl))
  f221 := Tryz.func80.trans (congrArg some (by kernel_rfl))
  f224 := Tryz.func116.trans (congrArg some (by kernel_rfl))
  f225 := Tryz.func115.trans (congrArg some (by kernel_rfl))
  f260 := Tryz.func113.trans (congrArg some (by kernel_rfl))
  f266 := Tryz.func122.trans (congrArg some (by kernel_rfl))
  f267 := Tryz.func117.trans (congrArg some (by kernel_rfl))
  f268 := Tryz.func89.trans (congrArg some (by kernel_rfl))
  f314 := Tryz.func123.trans (congrArg some (by kernel_rfl))
  t0 := Tryz.underlying0
  a0 := Tryz.isAgg0
  z0 := Tryz.sizeOf0
  v0 := Tryz.zeroValue0
  t3 := Tryz.underlying3
  a3 := Tryz.isAgg3
  z3 := Tryz.sizeOf3
  v3 := Tryz.zeroValue3
  t4 := Tryz.underlying4
  a4 := Tryz.isAgg4
  z4 := Tryz.sizeOf4
  v4 := Tryz.zeroValue4
  t5 := Tryz.underlying5
  a5 := Tryz.isAgg5
  z5 := Tryz.sizeOf5
  v5 := Tryz.zeroValue5
  t9 := Tryz.underlying9
  a9 := Tryz.isAgg9
  z9 := Tryz.sizeOf9
  v9 := Tryz.zeroValue9
  t21 := Tryz.underlying21
  a21 := Tryz.isAgg21
  z21 := Tryz.sizeOf21
  v21 := Tryz.zeroValue21
  t31 := Tryz.underlying98
  a31 := Tryz.isAgg98
  z31 := Tryz.sizeOf98
  v31 := Tryz.zeroValue98
  t46 := Tryz.underlying91
  a46 := Tryz.isAgg91
  z46 := Tryz.sizeOf91
  v46 := Tryz.zeroValue91
  t51 := Tryz.underlying121
  a51 := Tryz.isAgg121
  z51 := Tryz.sizeOf121
  v51 := Tryz.zeroValue121
  t105 := Tryz.underlying151
  a105 := Tryz.isAgg151
  z105 := Tryz.sizeOf151
  v105 := Tryz.zeroValue151
  t119 := Tryz.underlying170
  a119 := Tryz.isAgg170
  z119 := Tryz.sizeOf170
  t138 := Tryz.underlying172
  a138 := Tryz.isAgg172
  z138 := Tryz.sizeOf172
  v138 := Tryz.zeroValue172
  t139 := Tryz.underlying173
  a139 := Tryz.isAgg173
  z139 := Tryz.sizeOf173
  v139 := Tryz.zeroValue173
  t146 := Tryz.underlying174
  a146 := Tryz.isAgg174
  z146 := Tryz.sizeOf174
  v146 := Tryz.zeroValue174
  g1 := by kernel_rfl
  g3 := by kernel_rfl
  g4 := by kernel_rfl }
def Tryz.lays172_ren : Go.Shelf.Ren := ⟨fun | 172 => 64 | 244 => 81 | 245 => 82 | 247 => 92 | 279 => 93 | 280 => 94 | 281 => 95 | 282 => 96 | 287 => 106 | 316 => 107 | 171 => 58 | 205 => 108 | 321 => 118 | 322 => 119 | 243 => 78 | 246 => 88 | 283 => 98 | 284 => 99 | 285 => 100 | 286 => 101 | 129 => 76 | 317 => 109 | 318 => 110 | 319 => 111 | 320 => 112 | 337 => 120 | 338 => 121 | n => n, fun | 9 => 9 | 3 => 3 | 75 => 107 | 76 => 108 | 4 => 4 | 5 => 5 | 167 => 139 | 37 => 88 | 0 => 0 | 85 => 140 | 2 => 2 | 168 => 142 | 53 => 123 | 175 => 154 | 46 => 91 | 210 => 158 | 127 => 166 | 145 => 169 | 143 => 167 | 21 => 21 | 171 => 147 | 173 => 149 | 212 => 162 | 51 => 121 | 20 => 20 | 213 => 163 | 232 => 176 | 233 => 177 | 80 => 178 | n => n, fun | 15 => 0 | 16 => 1 | 17 => 2 | 18 => 6 | 19 => 7 | n => n⟩
theorem Tryz.lays172 : Go.Proofs.Lays.n172 Tryz.prog Tryz.lays172_ren := {
  mixed := by kernel_rfl
  f129 := Tryz.func76.trans (congrArg some (by kernel_rfl))
  f171 := Tryz.func58.trans (congrArg some (by kernel_rfl))
  f172 := Tryz.func64.trans (congrArg some (by kernel_rfl))
  f205 := Tryz.func108.trans (congrArg some (by kernel_rfl))
  f243 := Tryz.func78.trans (congrArg some (by kernel_rfl))
  f244 := Tryz.func81.trans (congrArg some (by kernel_rfl))
  f245 := Tryz.func82.trans (congrArg some (by kernel_rfl))
  f246 := Tryz.func88.trans (congrArg some (by kernel_rfl))
  f247 := Tryz.func92.trans (congrArg some (by kernel_rfl))
  f279 := Tryz.func93.trans (congrArg some (by kernel_rfl))
  f280 := Tryz.func94.trans (congrArg some (by kernel_rfl))
  f281 := Tryz.func95.trans (congrArg some (by kernel_rfl))
  f282 := Tryz.func96.trans (congrArg some (by kernel_rfl))
  f283 := Tryz.func98.trans (congrArg some (by kernel_rfl))
  f284 := Tryz.func99.trans (congrArg some (by kernel_rfl))
  f285 := Tryz.func100.trans (congrArg some (by kernel_rfl))
  f286 := Tryz.func101.trans (congrArg some (by kernel_rfl))
  f287 := Tryz.func106.trans (congrArg some (by kernel_rfl))
  f316 := Tryz.func107.trans (congrArg some (by kernel_rfl))
  f317 := Tryz.func109.trans (congrArg some (by kernel_rfl))
  f318 := Tryz.func110.trans (congrArg some (by kernel_rfl))
  f319 := Tryz.func111.trans (congrArg some (by kernel_rfl))
  f320 := Tryz.func112.trans (congrArg some (by kernel_rfl))
  f321 := Tryz.func118.trans (congrArg some (by kernel_rfl))
  f322 := Tryz.func119.trans (congrArg some (by kernel_rfl))
  f337 := Tryz.func120.trans (congrArg some (by kernel_rfl))
  f338 := Tryz.func121.trans (congrArg some (by kernel_rfl))
  t0 := Tryz.underlying0
  a0 := Tryz.isAgg0
  z0 := Tryz.sizeOf0
  v0 := Tryz.zeroValue0
  t2 := Tryz.underlying2
  a2 := Tryz.isAgg2
  z2 := Tryz.sizeOf2
  v2 := Tryz.zeroValue2
  t3 := Tryz.underlying3
  a3 := Tryz.isAgg3
  z3 := Tryz.sizeOf3
  v3 := Tryz.zeroValue3
  t4 := Tryz.underlying4
  a4 := Tryz.isAgg4
  z4 := Tryz.sizeOf4
  v4 := Tryz.zeroValue4
  t5 := Tryz.underlying5
  a5 := Tryz.isAgg5
  z5 := Tryz.sizeOf5
  v5 := Tryz.zeroValue5
  t9 := Tryz.underlying9
  a9 := Tryz.isAgg9
  z9 := Tryz.sizeOf9
  v9 := Tryz.zeroValue9
  t20 := Tryz.underlying20
  a20 := Tryz.isAgg20
  z20 := Tryz.sizeOf20
  v20 := Tryz.zeroValue20
  t21 := Tryz.underlying21
  a21 := Tryz.isAgg21
  z21 := Tryz.sizeOf21
  v21 := Tryz.zeroValue21
  t37 := Tryz.underlying88
  a37 := Tryz.isAgg88
  z37 := Tryz.sizeOf88
  v37 := Tryz.zeroValue88
  t46 := Tryz.underlying91
  a46 := Tryz.isAgg91
  z46 := Tryz.sizeOf91
  v46 := Tryz.zeroValue91
  t51 := Tryz.underlying121
  a51 := Tryz.isAgg121
  z51 := Tryz.sizeOf121
  v51 := Tryz.zeroValue121
  t53 := Tryz.underlying123
  a53 := Tryz.isAgg123
  z53 := Tryz.sizeOf123
  v53 := Tryz.zeroValue123
  t75 := Tryz.underlying107
  a75 := Tryz.isAgg107
  z75 := Tryz.sizeOf107
  v75 := Tryz.zeroValue107
  t76 := Tryz.underlying108
  a76 := Tryz.isAgg108
  z76 := Tryz.sizeOf108
  v76 := Tryz.zeroValue108
  t85 := Tryz.underlying140
  a85 := Tryz.isAgg140
  z85 := Tryz.sizeOf140
  v85 := Tryz.zeroValue140
  t127 := Tryz.underlying166
  a127 := Tryz.isAgg166
  z127 := Tryz.sizeOf166
  v127 := Tryz.zeroValue166
  t143 := Tryz.underlying167
  a143 := Tryz.isAgg167
  z143 := Tryz.sizeOf167
  v143 := Tryz.zeroValue167
  t145 := Tryz.underlying169
  a145 := Tryz.isAgg169
  z145 := Tryz.sizeOf169
  v145 := Tryz.zeroValue169
  t167 := Tryz.underlying139
  a167 := Tryz.isAgg139
  z167 := Tryz.sizeOf139
  v167 := Tryz.zeroValue139
  t168 := Tryz.underlying142
  a168 := Tryz.isAgg142
  z168 := Tryz.sizeOf142
  v168 := Tryz.zeroValue142
  t171 := Tryz.underlying147
  a171 := Tryz.isAgg147
  z171 := Tryz.sizeOf147
  v171 := Tryz.zeroValue147
  t173 := Tryz.underlying149
  a173 := Tryz.isAgg149
  z173 := Tryz.sizeOf149
  v173 := Tryz.zeroValue149
  t175 := Tryz.underlying154
  a175 := Tryz.isAgg154
  z175 := Tryz.sizeOf154
  v175 := Tryz.zeroValue154
  t210 := Tryz.underlying158
  a210 := Tryz.isAgg158
  z210 := Tryz.sizeOf158
  v210 := Tryz.zeroValue158
  t212 := Tryz.underlying162
  a212 := Tryz.isAgg162
  z212 := Tryz.sizeOf162
  v212 := Tryz.zeroValue162
  t213 := Tryz.underlying163
  a213 := Tryz.isAgg163
  z213 := Tryz.sizeOf163
  t232 := Tryz.underlying176
  a232 := Tryz.isAgg176
  z232 := Tryz.sizeOf176
  v232 := Tryz.zeroValue176
  t233 := Tryz.underlying177
  a233 := Tryz.isAgg177
  z233 := Tryz.sizeOf177
  v233 := Tryz.zeroValue177
  g15 := by kernel_rfl
  g16 := by kernel_rfl
  g17 := by kernel_rfl
  g18 := by kernel_rfl
  g19 := by kernel_rfl }
end Go.Proofs
namespace Go.Wk
open Go.Fw Go.Mo Go.Proofs Go.RowKit
set_option linter.all false
set_option maxRecDepth 100000
abbrev TrD := TR.pair TR.str (TR.pair TR.str (TR.pair TR.int (TR.pair TR.int (TR.pair TR.int TR.int))))
abbrev TrA := TR.pair TR.str (TR.pair TR.int TR.int)
abbrev TrE := TR.pair TR.int (TR.pair TR.int (TR.pair TR.str TrD))
abbrev TrH := TR.pair (TR.sl TrA) (TR.pair (TR.sl TrD) TR.raw)
theorem loopNx {ρ σ β γ : Type} {body : σ → Option (Fl ρ β σ)} {n : Nat} {s : σ} {y : Fl ρ γ β} (h : stepM body n (.nx s) = some y) : loopM body n s = some y := h
theorem Tryz_info3 : (Tryz.prog.info? 3).map (fun i => (i.zero, i.size, i.bytes)) = some (some (.int .i64 0), 1, 8) := by kernel_rfl
theorem Tryz_ln3 : Ln Tryz.prog 3 1 false := Ln.of Tryz_info3 Tryz.underlying3 rfl
theorem Tryz_lo3 : LnO Tryz.prog 3 1 [.int .i64 0] := LnO.of Tryz_info3 rfl rfl (by decide) (by decide)
theorem Tryz_info5 : (Tryz.prog.info? 5).map (fun i => (i.zero, i.size, i.bytes)) = some (some (.int .u8 0), 1, 1) := by kernel_rfl
theorem Tryz_ln5 : Ln Tryz.prog 5 1 false := Ln.of Tryz_info5 Tryz.underlying5 rfl
theorem Tryz_lo5 : LnO Tryz.prog 5 1 [.int .u8 0] := LnO.of Tryz_info5 rfl rfl (by decide) (by decide)
theorem Tryz_info9 : (Tryz.prog.info? 9).map (fun i => (i.zero, i.size, i.bytes)) = some (some (.string ⟨#[]⟩), 1, 16) := by kernel_rfl
theorem Tryz_ln9 : Ln Tryz.prog 9 1 false := Ln.of Tryz_info9 Tryz.underlying9 rfl
theorem Tryz_lo9 : LnO Tryz.prog 9 1 [.string ⟨#[]⟩] := LnO.of Tryz_info9 rfl rfl (by decide) (by decide)
theorem Tryz_info22 : (Tryz.prog.info? 22).map (fun i => (i.zero, i.size, i.bytes)) = some (some (.slice none 0 0), 1, 24) := by kernel_rfl
theorem Tryz_ln22 : Ln Tryz.prog 22 1 false := Ln.of Tryz_info22 Tryz.underlying22 rfl
theorem Tryz_lo22 : LnO Tryz.prog 22 1 [.slice none 0 0] := LnO.of Tryz_info22 rfl rfl (by decide) (by decide)
theorem Tryz_info24 : (Tryz.prog.info? 24).map (fun i => (i.zero, i.size, i.bytes)) = some (some (.agg #[.string ⟨#[]⟩, .string ⟨#[]⟩, .int .i64 0, .int .i64 0, .int .i64 0, .int .i64 0]), 6, 64) := by kernel_rfl
theorem Tryz_ln24 : Ln Tryz.prog 24 6 true := Ln.of Tryz_info24 Tryz.underlying24 rfl
theorem Tryz_lo24 : LnO Tryz.prog 24 6 [.string ⟨#[]⟩, .string ⟨#[]⟩, .int .i64 0, .int .i64 0, .int .i64 0, .int .i64 0] := LnO.of Tryz_info24 rfl rfl (by decide) (by decide)
theorem Tryz_info25 : (Tryz.prog.info? 25).map (fun i => (i.zero, i.size, i.bytes)) = some (some (.slice none 0 0), 1, 24) := by kernel_rfl
theorem Tryz_ln25 : Ln Tryz.prog 25 1 false := Ln.of Tryz_info25 Tryz.underlying25 rfl
theorem Tryz_lo25 : LnO Tryz.prog 25 1 [.slice none 0 0] := LnO.of Tryz_info25 rfl rfl (by decide) (by decide)
theorem Tryz_info30 : (Tryz.prog.info? 30).map (fun i => (i.zero, i.size, i.bytes)) = some (some (.agg #[.string ⟨#[]⟩, .int .i64 0, .int .i64 0]), 3, 32) := by kernel_rfl
theorem Tryz_ln30 : Ln Tryz.prog 30 3 true := Ln.of Tryz_info30 Tryz.underlying30 rfl
theorem Tryz_lo30 : LnO Tryz.prog 30 3 [.string ⟨#[]⟩, .int .i64 0, .int .i64 0] := LnO.of Tryz_info30 rfl rfl (by decide) (by decide)
theorem Tryz_info32 : (Tryz.prog.info? 32).map (fun i => (i.zero, i.size, i.bytes)) = some (some (.int .i64 0), 1, 8) := by kernel_rfl
theorem Tryz_ln32 : Ln Tryz.prog 32 1 false := Ln.of Tryz_info32 Tryz.underlying32 rfl
theorem Tryz_lo32 : LnO Tryz.prog 32 1 [.int .i64 0] := LnO.of Tryz_info32 rfl rfl (by decide) (by decide)
theorem Tryz_info57 : (Tryz.prog.info? 57).map (fun i => (i.zero, i.size, i.bytes)) = some (some (.agg #[.int .i64 0, .int .i64 0]), 2, 16) := by kernel_rfl
theorem Tryz_ln57 : Ln Tryz.prog 57 2 true := Ln.of Tryz_info57 Tryz.underlying57 rfl
theorem Tryz_lo57 : LnO Tryz.prog 57 2 [.int .i64 0, .int .i64 0] := LnO.of Tryz_info57 rfl rfl (by decide) (by decide)
theorem Tryz_info61 : (Tryz.prog.info? 61).map (fun i => (i.zero, i.size, i.bytes)) = some (some (.agg #[.int .i64 0, .int .i64 0, .string ⟨#[]⟩, .string ⟨#[]⟩, .string ⟨#[]⟩, .int .i64 0, .int .i64 0, .int .i64 0, .int .i64 0]), 9, 96) := by kernel_rfl
theorem Tryz_ln61 : Ln Tryz.prog 61 9 true := Ln.of Tryz_info61 Tryz.underlying61 rfl
theorem Tryz_lo61 : LnO Tryz.prog 61 9 [.int .i64 0, .int .i64 0, .string ⟨#[]⟩, .string ⟨#[]⟩, .string ⟨#[]⟩, .int .i64 0, .int .i64 0, .int .i64 0, .int .i64 0] := LnO.of Tryz_info61 rfl rfl (by decide) (by decide)
theorem Tryz_info76 : (Tryz.prog.info? 76).map (fun i => (i.zero, i.size, i.bytes)) = some (some (.pointer none), 1, 8) := by kernel_rfl
theorem Tryz_ln76 : Ln Tryz.prog 76 1 false := Ln.of Tryz_info76 Tryz.underlying76 rfl
theorem Tryz_lo76 : LnO Tryz.prog 76 1 [.pointer none] := LnO.of Tryz_info76 rfl rfl (by decide) (by decide)
theorem Tryz_info110 : (Tryz.prog.info? 110).map (fun i => (i.zero, i.size, i.bytes)) = some (some (.agg #[.int .i64 0, .int .i64 0, .int .i64 0, .int .i64 0]), 4, 32) := by kernel_rfl
theorem Tryz_ln110 : Ln Tryz.prog 110 4 true := Ln.of Tryz_info110 Tryz.underlying110 rfl
theorem Tryz_lo110 : LnO Tryz.prog 110 4 [.int .i64 0, .int .i64 0, .int .i64 0, .int .i64 0] := LnO.of Tryz_info110 rfl rfl (by decide) (by decide)
theorem Tryz_bld24 (pv : List (Nat × Value)) : Tryz.prog.built 24 pv = Instr.fill ((mkPlaces 0 [[.string ⟨#[]⟩], [.string ⟨#[]⟩], [.int .i64 0], [.int .i64 0], [.int .i64 0], [.int .i64 0]]).toArray[·]?) (List.flatten [[.string ⟨#[]⟩], [.string ⟨#[]⟩], [.int .i64 0], [.int .i64 0], [.int .i64 0], [.int .i64 0]]).toArray pv := by kernel_rfl
theorem Tryz_bld30 (pv : List (Nat × Value)) : Tryz.prog.built 30 pv = Instr.fill ((mkPlaces 0 [[.string ⟨#[]⟩], [.int .i64 0], [.int .i64 0]]).toArray[·]?) (List.flatten [[.string ⟨#[]⟩], [.int .i64 0], [.int .i64 0]]).toArray pv := by kernel_rfl
theorem Tryz_bld57 (pv : List (Nat × Value)) : Tryz.prog.built 57 pv = Instr.fill ((mkPlaces 0 [[.int .i64 0], [.int .i64 0]]).toArray[·]?) (List.flatten [[.int .i64 0], [.int .i64 0]]).toArray pv := by kernel_rfl
theorem Tryz_bld61 (pv : List (Nat × Value)) : Tryz.prog.built 61 pv = Instr.fill ((mkPlaces 0 [[.int .i64 0], [.int .i64 0], [.string ⟨#[]⟩], [.string ⟨#[]⟩, .string ⟨#[]⟩, .int .i64 0, .int .i64 0, .int .i64 0, .int .i64 0]]).toArray[·]?) (List.flatten [[.int .i64 0], [.int .i64 0], [.string ⟨#[]⟩], [.string ⟨#[]⟩, .string ⟨#[]⟩, .int .i64 0, .int .i64 0, .int .i64 0, .int .i64 0]]).toArray pv := by kernel_rfl
theorem Tryz_bld78 (pv : List (Nat × Value)) : Tryz.prog.built 78 pv = Instr.fill ((mkPlaces 0 [[.slice none 0 0], [.slice none 0 0], [.pointer none]]).toArray[·]?) (List.flatten [[.slice none 0 0], [.slice none 0 0], [.pointer none]]).toArray pv := by kernel_rfl
theorem Tryz_bld95 (pv : List (Nat × Value)) : Tryz.prog.built 95 pv = Instr.fill ((mkPlaces 0 [[.string ⟨#[]⟩], [.int .i64 0]]).toArray[·]?) (List.flatten [[.string ⟨#[]⟩], [.int .i64 0]]).toArray pv := by kernel_rfl
theorem Tryz_eq24 : EqT Tryz.prog 24 TrD 2 := (EqT.struct Tryz.underlying24 Tryz.stoodInHeld24 rfl (EqF.cons (by decide) rfl Tryz_ln9 (EqT.str Tryz.underlying9) (EqF.cons (by decide) rfl Tryz_ln9 (EqT.str Tryz.underlying9) (EqF.cons (by decide) rfl Tryz_ln3 (EqT.int Tryz.underlying3) (EqF.cons (by decide) rfl Tryz_ln3 (EqT.int Tryz.underlying3) (EqF.cons (by decide) rfl Tryz_ln3 (EqT.int Tryz.underlying3) (EqF.last (by decide) rfl Tryz_ln3 (EqT.int Tryz.underlying3))))))))
theorem Tryz_eq30 : EqT Tryz.prog 30 TrA 2 := (EqT.struct Tryz.underlying30 Tryz.stoodInHeld30 rfl (EqF.cons (by decide) rfl Tryz_ln9 (EqT.str Tryz.underlying9) (EqF.cons (by decide) rfl Tryz_ln3 (EqT.int Tryz.underlying3) (EqF.last (by decide) rfl Tryz_ln3 (EqT.int Tryz.underlying3)))))
theorem Tryz_eq57 : EqT Tryz.prog 57 (TR.pair TR.int TR.int) 2 := (EqT.struct Tryz.underlying57 Tryz.stoodInHeld57 rfl (EqF.cons (by decide) rfl Tryz_ln3 (EqT.int Tryz.underlying3) (EqF.last (by decide) rfl Tryz_ln3 (EqT.int Tryz.underlying3))))
theorem Tryz_fit10 : Fit Tryz.prog 10 := Fit.of Tryz.func10 (by kernel_rfl) rfl
theorem Tryz_fit11 : Fit Tryz.prog 11 := Fit.of Tryz.func11 (by kernel_rfl) rfl
theorem Tryz_fit12 : Fit Tryz.prog 12 := Fit.of Tryz.func12 (by kernel_rfl) rfl
theorem Tryz_fit13 : Fit Tryz.prog 13 := Fit.of Tryz.func13 (by kernel_rfl) rfl
theorem Tryz_fit14 : Fit Tryz.prog 14 := Fit.of Tryz.func14 (by kernel_rfl) rfl
theorem Tryz_fit15 : Fit Tryz.prog 15 := Fit.of Tryz.func15 (by kernel_rfl) rfl
theorem Tryz_fit16 : Fit Tryz.prog 16 := Fit.of Tryz.func16 (by kernel_rfl) rfl
theorem Tryz_fit17 : Fit Tryz.prog 17 := Fit.of Tryz.func17 (by kernel_rfl) rfl
theorem Tryz_fit18 : Fit Tryz.prog 18 := Fit.of Tryz.func18 (by kernel_rfl) rfl
theorem Tryz_fit19 : Fit Tryz.prog 19 := Fit.of Tryz.func19 (by kernel_rfl) rfl
theorem Tryz_fit20 : Fit Tryz.prog 20 := Fit.of Tryz.func20 (by kernel_rfl) rfl
theorem Tryz_fit21 : Fit Tryz.prog 21 := Fit.of Tryz.func21 (by kernel_rfl) rfl
theorem Tryz_fit22 : Fit Tryz.prog 22 := Fit.of Tryz.func22 (by kernel_rfl) rfl
theorem Tryz_fit23 : Fit Tryz.prog 23 := Fit.of Tryz.func23 (by kernel_rfl) rfl
theorem Tryz_fit24 : Fit Tryz.prog 24 := Fit.of Tryz.func24 (by kernel_rfl) rfl
theorem Tryz_fit25 : Fit Tryz.prog 25 := Fit.of Tryz.func25 (by kernel_rfl) rfl
theorem Tryz_fit26 : Fit Tryz.prog 26 := Fit.of Tryz.func26 (by kernel_rfl) rfl
theorem Tryz_fit27 : Fit Tryz.prog 27 := Fit.of Tryz.func27 (by kernel_rfl) rfl
theorem Tryz_fit28 : Fit Tryz.prog 28 := Fit.of Tryz.func28 (by kernel_rfl) rfl
theorem Tryz_fit29 : Fit Tryz.prog 29 := Fit.of Tryz.func29 (by kernel_rfl) rfl
theorem Tryz_fit30 : Fit Tryz.prog 30 := Fit.of Tryz.func30 (by kernel_rfl) rfl
theorem Tryz_fit31 : Fit Tryz.prog 31 := Fit.of Tryz.func31 (by kernel_rfl) rfl
theorem Tryz_fit32 : Fit Tryz.prog 32 := Fit.of Tryz.func32 (by kernel_rfl) rfl
theorem Tryz_fit33 : Fit Tryz.prog 33 := Fit.of Tryz.func33 (by kernel_rfl) rfl
theorem Tryz_fit34 : Fit Tryz.prog 34 := Fit.of Tryz.func34 (by kernel_rfl) rfl
theorem Tryz_fit35 : Fit Tryz.prog 35 := Fit.of Tryz.func35 (by kernel_rfl) rfl
theorem Tryz_fit36 : Fit Tryz.prog 36 := Fit.of Tryz.func36 (by kernel_rfl) rfl
theorem Tryz_fit37 : Fit Tryz.prog 37 := Fit.of Tryz.func37 (by kernel_rfl) rfl
theorem Tryz_fit38 : Fit Tryz.prog 38 := Fit.of Tryz.func38 (by kernel_rfl) rfl
theorem Tryz_fit39 : Fit Tryz.prog 39 := Fit.of Tryz.func39 (by kernel_rfl) rfl
theorem Tryz_fit4 : Fit Tryz.prog 4 := Fit.of Tryz.func4 (by kernel_rfl) rfl
theorem Tryz_fit40 : Fit Tryz.prog 40 := Fit.of Tryz.func40 (by kernel_rfl) rfl
theorem Tryz_fit41 : Fit Tryz.prog 41 := Fit.of Tryz.func41 (by kernel_rfl) rfl
theorem Tryz_fit42 : Fit Tryz.prog 42 := Fit.of Tryz.func42 (by kernel_rfl) rfl
theorem Tryz_fit43 : Fit Tryz.prog 43 := Fit.of Tryz.func43 (by kernel_rfl) rfl
theorem Tryz_fit44 : Fit Tryz.prog 44 := Fit.of Tryz.func44 (by kernel_rfl) rfl
theorem Tryz_fit45 : Fit Tryz.prog 45 := Fit.of Tryz.func45 (by kernel_rfl) rfl
theorem Tryz_fit46 : Fit Tryz.prog 46 := Fit.of Tryz.func46 (by kernel_rfl) rfl
theorem Tryz_fit47 : Fit Tryz.prog 47 := Fit.of Tryz.func47 (by kernel_rfl) rfl
theorem Tryz_fit48 : Fit Tryz.prog 48 := Fit.of Tryz.func48 (by kernel_rfl) rfl
theorem Tryz_fit49 : Fit Tryz.prog 49 := Fit.of Tryz.func49 (by kernel_rfl) rfl
theorem Tryz_fit5 : Fit Tryz.prog 5 := Fit.of Tryz.func5 (by kernel_rfl) rfl
theorem Tryz_fit50 : Fit Tryz.prog 50 := Fit.of Tryz.func50 (by kernel_rfl) rfl
theorem Tryz_fit51 : Fit Tryz.prog 51 := Fit.of Tryz.func51 (by kernel_rfl) rfl
theorem Tryz_fit52 : Fit Tryz.prog 52 := Fit.of Tryz.func52 (by kernel_rfl) rfl
theorem Tryz_fit53 : Fit Tryz.prog 53 := Fit.of Tryz.func53 (by kernel_rfl) rfl
theorem Tryz_fit54 : Fit Tryz.prog 54 := Fit.of Tryz.func54 (by kernel_rfl) rfl
theorem Tryz_fit55 : Fit Tryz.prog 55 := Fit.of Tryz.func55 (by kernel_rfl) rfl
theorem Tryz_fit56 : Fit Tryz.prog 56 := Fit.of Tryz.func56 (by kernel_rfl) rfl
theorem Tryz_fit57 : Fit Tryz.prog 57 := Fit.of Tryz.func57 (by kernel_rfl) rfl
theorem Tryz_fit58 : Fit Tryz.prog 58 := Fit.of Tryz.func58 (by kernel_rfl) rfl
theorem Tryz_fit59 : Fit Tryz.prog 59 := Fit.of Tryz.func59 (by kernel_rfl) rfl
theorem Tryz_fit6 : Fit Tryz.prog 6 := Fit.of Tryz.func6 (by kernel_rfl) rfl
theorem Tryz_fit60 : Fit Tryz.prog 60 := Fit.of Tryz.func60 (by kernel_rfl) rfl
theorem Tryz_fit61 : Fit Tryz.prog 61 := Fit.of Tryz.func61 (by kernel_rfl) rfl
theorem Tryz_fit62 : Fit Tryz.prog 62 := Fit.of Tryz.func62 (by kernel_rfl) rfl
theorem Tryz_fit63 : Fit Tryz.prog 63 := Fit.of Tryz.func63 (by kernel_rfl) rfl
theorem Tryz_fit64 : Fit Tryz.prog 64 := Fit.of Tryz.func64 (by kernel_rfl) rfl
theorem Tryz_fit65 : Fit Tryz.prog 65 := Fit.of Tryz.func65 (by kernel_rfl) rfl
theorem Tryz_fit66 : Fit Tryz.prog 66 := Fit.of Tryz.func66 (by kernel_rfl) rfl
theorem Tryz_fit67 : Fit Tryz.prog 67 := Fit.of Tryz.func67 (by kernel_rfl) rfl
theorem Tryz_fit7 : Fit Tryz.prog 7 := Fit.of Tryz.func7 (by kernel_rfl) rfl
theorem Tryz_fit76 : Fit Tryz.prog 76 := Fit.of Tryz.func76 (by kernel_rfl) rfl
theorem Tryz_fit77 : Fit Tryz.prog 77 := Fit.of Tryz.func77 (by kernel_rfl) rfl
theorem Tryz_fit79 : Fit Tryz.prog 79 := Fit.of Tryz.func79 (by kernel_rfl) rfl
theorem Tryz_fit8 : Fit Tryz.prog 8 := Fit.of Tryz.func8 (by kernel_rfl) rfl
theorem Tryz_fit9 : Fit Tryz.prog 9 := Fit.of Tryz.func9 (by kernel_rfl) rfl
theorem Tryz_fld24_0 (ad : Addr) (w : World) : (Instr.fieldAt 24 (.pointer (some ad)) 0).run Tryz.prog w = .ok (.pointer (some (ad.add 0))) w := by
  simp [Instr.fieldAt, run_underlying Tryz.underlying24, Instr.sureAddr, fieldPlace, Fw.run_sizeOf Tryz_ln9]
theorem Tryz_fld24_1 (ad : Addr) (w : World) : (Instr.fieldAt 24 (.pointer (some ad)) 1).run Tryz.prog w = .ok (.pointer (some (ad.add 1))) w := by
  simp [Instr.fieldAt, run_underlying Tryz.underlying24, Instr.sureAddr, fieldPlace, Fw.run_sizeOf Tryz_ln9]
theorem Tryz_fld24_2 (ad : Addr) (w : World) : (Instr.fieldAt 24 (.pointer (some ad)) 2).run Tryz.prog w = .ok (.pointer (some (ad.add 2))) w := by
  simp [Instr.fieldAt, run_underlying Tryz.underlying24, Instr.sureAddr, fieldPlace, Fw.run_sizeOf Tryz_ln3]
theorem Tryz_fld24_3 (ad : Addr) (w : World) : (Instr.fieldAt 24 (.pointer (some ad)) 3).run Tryz.prog w = .ok (.pointer (some (ad.add 3))) w := by
  simp [Instr.fieldAt, run_underlying Tryz.underlying24, Instr.sureAddr, fieldPlace, Fw.run_sizeOf Tryz_ln3]
theorem Tryz_fld24_4 (ad : Addr) (w : World) : (Instr.fieldAt 24 (.pointer (some ad)) 4).run Tryz.prog w = .ok (.pointer (some (ad.add 4))) w := by
  simp [Instr.fieldAt, run_underlying Tryz.underlying24, Instr.sureAddr, fieldPlace, Fw.run_sizeOf Tryz_ln3]
theorem Tryz_fld24_5 (ad : Addr) (w : World) : (Instr.fieldAt 24 (.pointer (some ad)) 5).run Tryz.prog w = .ok (.pointer (some (ad.add 5))) w := by
  simp [Instr.fieldAt, run_underlying Tryz.underlying24, Instr.sureAddr, fieldPlace, Fw.run_sizeOf Tryz_ln3]
theorem Tryz_fld30_0 (ad : Addr) (w : World) : (Instr.fieldAt 30 (.pointer (some ad)) 0).run Tryz.prog w = .ok (.pointer (some (ad.add 0))) w := by
  simp [Instr.fieldAt, run_underlying Tryz.underlying30, Instr.sureAddr, fieldPlace, Fw.run_sizeOf Tryz_ln9]
theorem Tryz_fld30_1 (ad : Addr) (w : World) : (Instr.fieldAt 30 (.pointer (some ad)) 1).run Tryz.prog w = .ok (.pointer (some (ad.add 1))) w := by
  simp [Instr.fieldAt, run_underlying Tryz.underlying30, Instr.sureAddr, fieldPlace, Fw.run_sizeOf Tryz_ln3]
theorem Tryz_fld30_2 (ad : Addr) (w : World) : (Instr.fieldAt 30 (.pointer (some ad)) 2).run Tryz.prog w = .ok (.pointer (some (ad.add 2))) w := by
  simp [Instr.fieldAt, run_underlying Tryz.underlying30, Instr.sureAddr, fieldPlace, Fw.run_sizeOf Tryz_ln3]
theorem Tryz_fld61_0 (ad : Addr) (w : World) : (Instr.fieldAt 61 (.pointer (some ad)) 0).run Tryz.prog w = .ok (.pointer (some (ad.add 0))) w := by
  simp [Instr.fieldAt, run_underlying Tryz.underlying61, Instr.sureAddr, fieldPlace, Fw.run_sizeOf Tryz_ln3]
theorem Tryz_fld61_1 (ad : Addr) (w : World) : (Instr.fieldAt 61 (.pointer (some ad)) 1).run Tryz.prog w = .ok (.pointer (some (ad.add 1))) w := by
  simp [Instr.fieldAt, run_underlying Tryz.underlying61, Instr.sureAddr, fieldPlace, Fw.run_sizeOf Tryz_ln3]
theorem Tryz_fld61_2 (ad : Addr) (w : World) : (Instr.fieldAt 61 (.pointer (some ad)) 2).run Tryz.prog w = .ok (.pointer (some (ad.add 2))) w := by
  simp [Instr.fieldAt, run_underlying Tryz.underlying61, Instr.sureAddr, fieldPlace, Fw.run_sizeOf Tryz_ln9]
theorem Tryz_fld61_3 (ad : Addr) (w : World) : (Instr.fieldAt 61 (.pointer (some ad)) 3).run Tryz.prog w = .ok (.pointer (some (ad.add 3))) w := by
  simp [Instr.fieldAt, run_underlying Tryz.underlying61, Instr.sureAddr, fieldPlace, Fw.run_sizeOf Tryz_ln24]
theorem Tryz_fld78_0 (ad : Addr) (w : World) : (Instr.fieldAt 78 (.pointer (some ad)) 0).run Tryz.prog w = .ok (.pointer (some (ad.add 0))) w := by
  simp [Instr.fieldAt, run_underlying Tryz.underlying78, Instr.sureAddr, fieldPlace, Fw.run_sizeOf Tryz_ln22]
theorem Tryz_fld78_1 (ad : Addr) (w : World) : (Instr.fieldAt 78 (.pointer (some ad)) 1).run Tryz.prog w = .ok (.pointer (some (ad.add 1))) w := by
  simp [Instr.fieldAt, run_underlying Tryz.underlying78, Instr.sureAddr, fieldPlace, Fw.run_sizeOf Tryz_ln25]
theorem Tryz_fld78_2 (ad : Addr) (w : World) : (Instr.fieldAt 78 (.pointer (some ad)) 2).run Tryz.prog w = .ok (.pointer (some (ad.add 2))) w := by
  simp [Instr.fieldAt, run_underlying Tryz.underlying78, Instr.sureAddr, fieldPlace, Fw.run_sizeOf Tryz_ln76]
theorem Tryz_fld95_0 (ad : Addr) (w : World) : (Instr.fieldAt 95 (.pointer (some ad)) 0).run Tryz.prog w = .ok (.pointer (some (ad.add 0))) w := by
  simp [Instr.fieldAt, run_underlying Tryz.underlying95, Instr.sureAddr, fieldPlace, Fw.run_sizeOf Tryz_ln9]
theorem Tryz_fld95_1 (ad : Addr) (w : World) : (Instr.fieldAt 95 (.pointer (some ad)) 1).run Tryz.prog w = .ok (.pointer (some (ad.add 1))) w := by
  simp [Instr.fieldAt, run_underlying Tryz.underlying95, Instr.sureAddr, fieldPlace, Fw.run_sizeOf Tryz_ln3]

set_option maxHeartbeats 4000000 in
theorem ledger_named_c (S : Hp) (w : World) (hS : S.sub w) (x0 : (List UInt8)) (res : Bool) (hm : ledger_named_m x0 = some res) : Calls Tryz.prog 30 #[.string ⟨(x0 : List UInt8).toArray⟩] w (PostV w (.bool res)) := by
 refine calls_enter 27 Tryz.func30 Tryz.ntmps30 rfl S false [(0, .string ⟨(x0 : List UInt8).toArray⟩)] [] rfl ⟨rfl, trivial⟩ hS trivial ?_
 unfold ledger_named_m at hm
 refine GL.seq ?_
 refine GL.region ?_
 refine RL.asg rfl rfl rfl ?_
 refine RL.finG ?_
 refine GL.seq ?_
 refine GL.seq ?_
 refine GL.region ?_
 refine RL.mv rfl rfl rfl ?_
 obtain ⟨y5, e6, hm⟩ := bind_some hm
 replace e6 := chk_some e6
 refine RL.cvSB Tryz.underlying9 Tryz.underlying88 Tryz.underlying5 rfl rfl rfl rfl e6 ?_
 intro v7
 refine RL.lenS 0 Tryz.underlying88 rfl rfl rfl rfl SlOf.imm ?_
 refine RL.mv rfl rfl rfl ?_
 refine RL.finG ?_
 refine GL.open_ 0 rfl (fun S h => len_imm S h) (fun n26 => ?_)
 obtain ⟨y27, K28, h29, h30, h31, h32, h33⟩ := bindR_K hm
 refine GL.join (ι := Unit) (fun (p : Unit) => [(0, .string ⟨(x0 : List UInt8).toArray⟩)]) (fun (p : Unit) => []) (fun (p : Unit) => K28 (.nx ())) ?_ ?_
 ·refine GL.block ?_
  refine GL.loop (ι := Nat × (List Int)) (fun (p : Nat × (List Int)) => [(0, .string ⟨(x0 : List UInt8).toArray⟩), (6, v7), (7, .int .i64 (((intsOf x0)).length : Int)), (8, .int .i64 (p.1 : Int))]) (fun (p : Nat × (List Int)) => [imm (TR.sl (TR.ik .u8)) v7 (intsOf x0)]) (fun (p : Nat × (List Int)) => p.1 + p.2.length = ((intsOf x0)).length ∧ List.drop p.1 (intsOf x0) = p.2 ∧ rangeL ledger_named_b1 p.2 p.1 () = some y27) (fun (p : Nat × (List Int)) => p.2.length) (0, (intsOf x0)) ⟨by simp, by simp, h29⟩ (fun a w st => St.cut [0] ⟨rfl, rfl, rfl, rfl, trivial⟩ (by decide) rfl st) ?_
  rintro ⟨i34, r35⟩ ⟨h40, h41, h39⟩
  try dsimp only at h40 h41 h39
  refine GL.weak (env' := [(0, .string ⟨(x0 : List UInt8).toArray⟩), (6, v7), (7, .int .i64 (((intsOf x0)).length : Int)), (8, .int .i64 (i34 : Int))]) (L' := [imm (TR.sl (TR.ik .u8)) v7 (intsOf x0)]) (fun _ _ st => st) ?_
  refine GL.seq ?_
  refine GL.region ?_
  refine RL.binI (v := .bool (decide ((i34 : Int) < (((intsOf x0)).length : Int)))) rfl rfl rfl rfl rfl ?_
  refine RL.finG ?_
  refine GL.seq ?_
  refine GL.cond rfl (fun b42 => ?_) (fun b42 => ?_)
  ·have h43 : i34 < ((intsOf x0)).length := by have := of_decide_eq_true b42; omega
   obtain ⟨y44, r46, hr, e45, h47⟩ := drop_cons h41 rfl h43
   subst hr
   obtain ⟨z36, h37, h38⟩ := rangeL_some h39
   unfold ledger_named_b1 at h37
   try dsimp only at h37
   refine GL.skip ?_
   refine GL.seq ?_
   refine GL.block ?_
   refine GL.seq ?_
   refine GL.region ?_
   refine RL.idxS (sz := 1) 0 Tryz.underlying88 Tryz_ln5 rfl rfl rfl rfl rfl SlOf.imm (by omega) (by omega) ?_
   refine RL.ldSx (i := i34) (e' := y44) 0 Ex.ik Tryz_ln5 rfl rfl rfl rfl SlOf.imm e45 Part.self ?_
   refine RL.asg rfl rfl rfl ?_
   refine RL.finG ?_
   refine GL.seq ?_
   obtain ⟨y51, K52, h53, h54, h55, h56, h57⟩ := bindF_K h37
   refine GL.join (ι := Bool) (fun (p : Bool) => [(0, .string ⟨(x0 : List UInt8).toArray⟩), (6, v7), (7, .int .i64 (((intsOf x0)).length : Int)), (8, .int .i64 (i34 : Int)), (17, .bool p)]) (fun (p : Bool) => [imm (TR.sl (TR.ik .u8)) v7 (intsOf x0)]) (fun (p : Bool) => K52 (.nx p)) ?_ ?_
   ·skip
    refine GL.region ?_
    refine RL.mv rfl rfl rfl ?_
    refine RL.binI (v := .bool (decide (y44 < (97 : Int)))) rfl rfl rfl rfl rfl ?_
    refine RL.mv rfl rfl rfl ?_
    refine RL.split (t := 14) rfl (fun b58 => ?_) (fun b58 => ?_)
    ·replace h53 := ite_t b58 h53
     refine RL.skip rfl rfl ?_
     refine RL.skip rfl rfl ?_
     refine RL.pickT rfl rfl rfl rfl ?_
     refine RL.fin ?_
     cases h53
     exact fun a w st => mid_intro true h54 (St.cut [0] ⟨rfl, rfl, rfl, rfl, rfl, trivial⟩ (by decide) rfl st)
    replace h53 := ite_f b58 h53
    refine RL.mv rfl rfl rfl ?_
    refine RL.binI (v := .bool (decide (y44 > (122 : Int)))) rfl rfl rfl rfl rfl ?_
    refine RL.pickF rfl rfl rfl rfl ?_
    refine RL.fin ?_
    cases h53
    exact fun a w st => mid_intro (decide (y44 > (122 : Int))) h54 (St.cut [0] ⟨rfl, rfl, rfl, rfl, rfl, trivial⟩ (by decide) rfl st)
   rintro x50 h59
   have h60 := h55 _ h59
   try dsimp only at h60
   refine GL.weak (env' := [(0, .string ⟨(x0 : List UInt8).toArray⟩), (6, v7), (7, .int .i64 (((intsOf x0)).length : Int)), (8, .int .i64 (i34 : Int)), (17, .bool x50)]) (L' := [imm (TR.sl (TR.ik .u8)) v7 (intsOf x0)]) (fun _ _ st => st) ?_
   refine GL.cond rfl (fun b61 => ?_) (fun b61 => ?_)
   ·replace h60 := ite_t b61 h60
    refine GL.seq ?_
    refine GL.region ?_
    refine RL.asg rfl rfl rfl ?_
    refine RL.finG ?_
    cases h60
    replace h38 : some (Fl.rt _) = some y27 := h38
    cases h38
    have hh := h32 _ h30
    subst hh
    exact GL.ret (Gx.ret (v := .bool false) (res1 rfl rfl) (fun a w st => st.toPostV))
   replace h60 := ite_f b61 h60
   refine GL.skip ?_
   refine GL.nilB ?_
   refine GL.region ?_
   refine RL.binI (v := .int .i64 ((i34 + 1 : Nat) : Int)) rfl rfl rfl rfl (binI_succ i34 (by omega)) ?_
   refine RL.mv rfl rfl rfl ?_
   refine RL.fin ?_
   cases h60
   exact fun a w st => lop_intro (i34 + 1, r46) ⟨by show i34 + 1 + r46.length = ((intsOf x0)).length; simp only [List.length_cons] at h40; omega, h47, h38⟩ (by simp) (St.cut [0] ⟨rfl, rfl, rfl, rfl, trivial⟩ (by decide) rfl st)
  have h43 : ¬ i34 < ((intsOf x0)).length := by have := of_decide_eq_false b42; omega
  obtain rfl : r35 = [] := by rw [← h41]; exact List.drop_of_length_le (by omega)
  replace h39 : some (Fl.nx _) = some y27 := h39
  cases h39
  exact GL.exit (fun a w st => mid_intro () h30 (St.cut [] ⟨rfl, trivial⟩ (by decide) rfl st))
 rintro ⟨⟩ h62
 have h63 := h31 _ h62
 try dsimp only at h63
 refine GL.weak (env' := [(0, .string ⟨(x0 : List UInt8).toArray⟩)]) (L' := []) (fun _ _ st => st) ?_
 refine GL.seq ?_
 obtain ⟨y67, K68, h69, h70, h71, h72, h73⟩ := bindR_K h63
 refine GL.join (ι := Bool) (fun (p : Bool) => [(2, .bool p)]) (fun (p : Bool) => []) (fun (p : Bool) => K68 (.nx p)) ?_ ?_
 ·skip
  refine GL.region ?_
  refine RL.mv rfl rfl rfl ?_
  refine RL.lenT Tryz.underlying9 rfl rfl rfl ?_
  refine RL.binI (v := .bool (decide (((x0).length : Int) > (0 : Int)))) rfl rfl rfl rfl rfl ?_
  refine RL.mv rfl rfl rfl ?_
  refine RL.split (t := 22) rfl (fun b74 => ?_) (fun b74 => ?_)
  ·replace h69 := ite_t b74 h69
   refine RL.mv rfl rfl rfl ?_
   refine RL.lenT Tryz.underlying9 rfl rfl rfl ?_
   refine RL.binI (v := .bool (decide (((x0).length : Int) ≤ (8 : Int)))) rfl rfl rfl rfl rfl ?_
   refine RL.pickT rfl rfl rfl rfl ?_
   refine RL.asg rfl rfl rfl ?_
   refine RL.fin ?_
   cases h69
   exact fun a w st => mid_intro (decide (((x0).length : Int) ≤ (8 : Int))) h70 (St.cut [] ⟨rfl, trivial⟩ (by decide) rfl st)
  replace h69 := ite_f b74 h69
  refine RL.skip rfl rfl ?_
  refine RL.skip rfl rfl ?_
  refine RL.skip rfl rfl ?_
  refine RL.pickF rfl rfl rfl rfl ?_
  refine RL.asg rfl rfl rfl ?_
  refine RL.fin ?_
  cases h69
  exact fun a w st => mid_intro false h70 (St.cut [] ⟨rfl, trivial⟩ (by decide) rfl st)
 rintro x66 h75
 have h76 := h71 _ h75
 try dsimp only at h76
 refine GL.weak (env' := [(2, .bool x66)]) (L' := []) (fun _ _ st => st) ?_
 have h76 := Option.some.inj h76
 subst h76
 exact GL.ret (Gx.ret (v := .bool x66) (res1 rfl rfl) (fun a w st => st.toPostV))

set_option maxHeartbeats 4000000 in
theorem ledger_Check_c (S : Hp) (w : World) (hS : S.sub w) (v0 : Value) (x0 : (List ((List UInt8) × (Int × Int)))) (k0 : ((TR.sl TrA)).vrep S v0 x0) (res : Int) (hm : ledger_Check_m x0 = some res) : Calls Tryz.prog 27 #[v0] w (PostV w (.int .i64 res)) := by
 refine calls_enter 53 Tryz.func27 Tryz.ntmps27 rfl S false [(0, v0)] [imm (TR.sl TrA) v0 x0] rfl ⟨rfl, trivial⟩ hS ⟨k0, trivial⟩ ?_
 unfold ledger_Check_m at hm
 refine GL.seq ?_
 refine GL.region ?_
 refine RL.asg rfl rfl rfl ?_
 refine RL.finG ?_
 refine GL.seq ?_
 refine GL.seq ?_
 refine GL.region ?_
 refine RL.mv rfl rfl rfl ?_
 refine RL.lenS 0 Tryz.underlying22 rfl rfl rfl rfl SlOf.imm ?_
 refine RL.binI (v := .bool (decide (((x0).length : Int) > (6 : Int)))) rfl rfl rfl rfl rfl ?_
 refine RL.finG ?_
 refine GL.cond rfl (fun b2 => ?_) (fun b2 => ?_)
 ·replace hm := ite_t b2 hm
  refine GL.seq ?_
  refine GL.region ?_
  refine RL.asg rfl rfl rfl ?_
  refine RL.finG ?_
  have hm := Option.some.inj hm
  subst hm
  exact GL.ret (Gx.ret (v := .int .i64 (2 : Int)) (res1 rfl rfl) (fun a w st => st.toPostV))
 replace hm := ite_f b2 hm
 refine GL.skip ?_
 refine GL.seq ?_
 refine GL.seq ?_
 refine GL.region ?_
 refine RL.mv rfl rfl rfl ?_
 refine RL.lenS 0 Tryz.underlying22 rfl rfl rfl rfl SlOf.imm ?_
 refine RL.mv rfl rfl rfl ?_
 refine RL.finG ?_
 refine GL.open_ 0 rfl (fun S h => len_imm S h) (fun n60 => ?_)
 obtain ⟨y61, K62, h63, h64, h65, h66, h67⟩ := bindR_K hm
 refine GL.join (ι := Unit) (fun (p : Unit) => []) (fun (p : Unit) => []) (fun (p : Unit) => K62 (.nx ())) ?_ ?_
 ·refine GL.block ?_
  refine GL.loop (ι := Nat × (List ((List UInt8) × (Int × Int)))) (fun (p : Nat × (List ((List UInt8) × (Int × Int)))) => [(0, v0), (8, v0), (9, .int .i64 ((x0).length : Int)), (10, .int .i64 (p.1 : Int))]) (fun (p : Nat × (List ((List UInt8) × (Int × Int)))) => [imm (TR.sl TrA) v0 x0]) (fun (p : Nat × (List ((List UInt8) × (Int × Int)))) => p.1 + p.2.length = (x0).length ∧ List.drop p.1 x0 = p.2 ∧ rangeL (ledger_Check_b1 x0) p.2 p.1 () = some y61) (fun (p : Nat × (List ((List UInt8) × (Int × Int)))) => p.2.length) (0, x0) ⟨by simp, by simp, h63⟩ (fun a w st => St.cut [0] ⟨rfl, rfl, rfl, rfl, trivial⟩ (by decide) rfl st) ?_
  rintro ⟨i68, r69⟩ ⟨h74, h75, h73⟩
  try dsimp only at h74 h75 h73
  refine GL.weak (env' := [(0, v0), (8, v0), (9, .int .i64 ((x0).length : Int)), (10, .int .i64 (i68 : Int))]) (L' := [imm (TR.sl TrA) v0 x0]) (fun _ _ st => st) ?_
  refine GL.seq ?_
  refine GL.region ?_
  refine RL.binI (v := .bool (decide ((i68 : Int) < ((x0).length : Int)))) rfl rfl rfl rfl rfl ?_
  refine RL.finG ?_
  refine GL.seq ?_
  refine GL.cond rfl (fun b76 => ?_) (fun b76 => ?_)
  ·have h77 : i68 < (x0).length := by have := of_decide_eq_true b76; omega
   obtain ⟨y78, r80, hr, e79, h81⟩ := drop_cons h75 rfl h77
   subst hr
   obtain ⟨z70, h71, h72⟩ := rangeL_some h73
   unfold ledger_Check_b1 at h71
   try dsimp only at h71
   refine GL.skip ?_
   refine GL.seq ?_
   refine GL.block ?_
   refine GL.seq ?_
   refine GL.region ?_
   refine RL.mv rfl rfl rfl ?_
   refine RL.idxS (sz := 3) 0 Tryz.underlying22 Tryz_ln30 rfl rfl rfl rfl rfl SlOf.imm (by omega) (by omega) ?_
   refine RL.ldS (i := i68) (r := TrA) (e' := y78) 0 Tryz_ln30 rfl rfl rfl rfl SlOf.imm e79 Part.self ?_
   intro v84
   refine RL.alloc (t := TrA) (z := (([] : List UInt8), (0 : Int), (0 : Int))) Tryz_lo30 (fun S => ⟨[.string ⟨#[]⟩], _, rfl, rfl, ⟨[.int .i64 0], _, rfl, rfl, rfl⟩⟩) rfl rfl rfl ?_
   intro v85
   refine RL.reL (L' := [imm (TR.sl TrA) v0 x0, imm TrA v84 y78, obox 30 TrA v85 (([] : List UInt8), (0 : Int), (0 : Int))]) rfl ?_
   refine RL.asg rfl rfl rfl ?_
   refine RL.stP (off := 0) (e' := y78) (d1 := y78) (r := TrA) 2 Tryz_ln30 rfl rfl (Or.inr ⟨rfl, rfl⟩) rfl (VR.item 1 rfl) rfl Upd.self ?_
   refine RL.finG ?_
   refine GL.seq ?_
   refine GL.seq ?_
   obtain ⟨y99, K100, h101, h102, h103, h104, h105⟩ := bindF_K h71
   refine GL.join (ι := Bool) (fun (p : Bool) => [(0, v0), (4, v85), (8, v0), (9, .int .i64 ((x0).length : Int)), (10, .int .i64 (i68 : Int)), (33, .bool p)]) (fun (p : Bool) => [imm (TR.sl TrA) v0 x0, obox 30 TrA v85 y78]) (fun (p : Bool) => K100 (.nx p)) ?_ ?_
   ·skip
    refine GL.regionQ rfl rfl (by kernel_rfl) ?_
    refine RL.fadr (off := 0) (fo := 0) 2 Tryz_fld30_0 rfl rfl rfl PtOf.obox (Or.inr ⟨rfl, rfl⟩) ?_
    refine RL.ldPx (off := (0 + 0)) (e' := y78.1) 2 Ex.str Tryz_ln9 rfl rfl (Or.inl rfl) rfl PtOf.obox (Part.fst Part.self) ?_
    obtain ⟨y106, e107, h101⟩ := bind_some h101
    refine RL.callV (v := .bool y106) (vs := [.string ⟨(y78.1 : List UInt8).toArray⟩]) Tryz_fit30 rfl (Or.inr ⟨_, rfl⟩) rfl rfl rfl rfl (fun U w hU hW hL => ledger_named_c U w hU y78.1 _ e107) ?_
    refine RL.notB rfl rfl rfl ?_
    refine RL.mv rfl rfl rfl ?_
    refine RL.split (t := 19) rfl (fun b108 => ?_) (fun b108 => ?_)
    ·replace h101 := ite_t b108 h101
     refine RL.skip rfl rfl ?_
     refine RL.skip rfl rfl ?_
     refine RL.skip rfl rfl ?_
     refine RL.skip rfl rfl ?_
     refine RL.skip rfl rfl ?_
     refine RL.skip rfl rfl ?_
     refine RL.skip rfl rfl ?_
     refine RL.skip rfl rfl ?_
     refine RL.skip rfl rfl ?_
     refine RL.skip rfl rfl ?_
     refine RL.skip rfl rfl ?_
     refine RL.skip rfl rfl ?_
     refine RL.skip rfl rfl ?_
     refine RL.pickT rfl rfl rfl rfl ?_
     refine RL.finQ ?_
     cases h101
     exact fun a w st => mid_intro true h102 (St.cut [0, 2] ⟨rfl, rfl, rfl, rfl, rfl, rfl, trivial⟩ (by decide) rfl st)
    replace h101 := ite_f b108 h101
    refine RL.mv rfl rfl rfl ?_
    refine RL.binI (v := .bool (decide ((i68 : Int) > (0 : Int)))) rfl rfl rfl rfl rfl ?_
    refine RL.mv rfl rfl rfl ?_
    refine RL.split (t := 22) rfl (fun b109 => ?_) (fun b109 => ?_)
    ·replace h101 := ite_t b109 h101
     refine RL.fadr (off := 0) (fo := 0) 2 Tryz_fld30_0 rfl rfl rfl PtOf.obox (Or.inr ⟨rfl, rfl⟩) ?_
     refine RL.ldPx (off := (0 + 0)) (e' := y78.1) 2 Ex.str Tryz_ln9 rfl rfl (Or.inl rfl) rfl PtOf.obox (Part.fst Part.self) ?_
     refine RL.mv rfl rfl rfl ?_
     refine RL.mv rfl rfl rfl ?_
     refine RL.binI (v := .int .i64 (wsub (i68 : Int) (1 : Int))) rfl rfl rfl rfl rfl ?_
     obtain ⟨y110, e111, h101⟩ := bind_some h101
     refine RL.idxS (sz := 3) 0 Tryz.underlying22 Tryz_ln30 rfl rfl rfl rfl rfl SlOf.imm (idx_some e111).1 (idx_some e111).2.1 ?_
     refine RL.fadrS (off := ((wsub (i68 : Int) (1 : Int)).toNat * 3)) (fo := 0) 0 Tryz_fld30_0 rfl rfl rfl SlOf.imm (by have := (List.getElem?_eq_some_iff.1 (idx_some e111).2.2).1; (try dsimp only at this ⊢); omega) rfl ?_
     refine RL.ldSx (i := (wsub (i68 : Int) (1 : Int)).toNat) (e' := y110.1) 0 Ex.str Tryz_ln9 rfl rfl rfl rfl SlOf.imm (idx_some e111).2.2 (Part.fst Part.self) ?_
     refine RL.binS (v := .bool (bls y78.1 y110.1 || y78.1 == y110.1)) rfl rfl rfl rfl rfl ?_
     refine RL.pickT rfl rfl rfl rfl ?_
     refine RL.pickF rfl rfl rfl rfl ?_
     refine RL.finQ ?_
     cases h101
     exact fun a w st => mid_intro (bls y78.1 y110.1 || y78.1 == y110.1) h102 (St.cut [0, 2] ⟨rfl, rfl, rfl, rfl, rfl, rfl, trivial⟩ (by decide) rfl st)
    replace h101 := ite_f b109 h101
    refine RL.skip rfl rfl ?_
    refine RL.skip rfl rfl ?_
    refine RL.skip rfl rfl ?_
    refine RL.skip rfl rfl ?_
    refine RL.skip rfl rfl ?_
    refine RL.skip rfl rfl ?_
    refine RL.skip rfl rfl ?_
    refine RL.skip rfl rfl ?_
    refine RL.skip rfl rfl ?_
    refine RL.pickF rfl rfl rfl rfl ?_
    refine RL.pickF rfl rfl rfl rfl ?_
    refine RL.finQ ?_
    cases h101
    exact fun a w st => mid_intro false h102 (St.cut [0, 2] ⟨rfl, rfl, rfl, rfl, rfl, rfl, trivial⟩ (by decide) rfl st)
   rintro x98 h112
   have h113 := h103 _ h112
   try dsimp only at h113
   refine GL.weak (env' := [(0, v0), (4, v85), (8, v0), (9, .int .i64 ((x0).length : Int)), (10, .int .i64 (i68 : Int)), (33, .bool x98)]) (L' := [imm (TR.sl TrA) v0 x0, obox 30 TrA v85 y78]) (fun _ _ st => st) ?_
   refine GL.cond rfl (fun b114 => ?_) (fun b114 => ?_)
   ·replace h113 := ite_t b114 h113
    refine GL.seq ?_
    refine GL.region ?_
    refine RL.asg rfl rfl rfl ?_
    refine RL.finG ?_
    cases h113
    replace h72 : some (Fl.rt _) = some y61 := h72
    cases h72
    have hh := h66 _ h64
    subst hh
    exact GL.ret (Gx.ret (v := .int .i64 (3 : Int)) (res1 rfl rfl) (fun a w st => st.toPostV))
   replace h113 := ite_f b114 h113
   refine GL.skip ?_
   refine GL.seq ?_
   obtain ⟨y122, K123, h124, h125, h126, h127, h128⟩ := bindF_K h113
   refine GL.join (ι := Bool) (fun (p : Bool) => [(0, v0), (8, v0), (9, .int .i64 ((x0).length : Int)), (10, .int .i64 (i68 : Int)), (51, .bool p)]) (fun (p : Bool) => [imm (TR.sl TrA) v0 x0]) (fun (p : Bool) => K123 (.nx p)) ?_ ?_
   ·skip
    refine GL.region ?_
    refine RL.fadr (off := 0) (fo := 1) 1 Tryz_fld30_1 rfl rfl rfl PtOf.obox (Or.inr ⟨rfl, rfl⟩) ?_
    refine RL.ldPx (off := (0 + 1)) (e' := y78.2.1) 1 Ex.ik Tryz_ln3 rfl rfl (Or.inl rfl) rfl PtOf.obox (Part.snd (Part.fst Part.self)) ?_
    refine RL.binI (v := .bool (decide (y78.2.1 < (0 : Int)))) rfl rfl rfl rfl rfl ?_
    refine RL.mv rfl rfl rfl ?_
    refine RL.split (t := 37) rfl (fun b129 => ?_) (fun b129 => ?_)
    ·replace h124 := ite_t b129 h124
     refine RL.skip rfl rfl ?_
     refine RL.skip rfl rfl ?_
     refine RL.skip rfl rfl ?_
     refine RL.pickT rfl rfl rfl rfl ?_
     refine RL.mv rfl rfl rfl ?_
     refine RL.skip rfl rfl ?_
     refine RL.skip rfl rfl ?_
     refine RL.skip rfl rfl ?_
     refine RL.pickT rfl rfl rfl rfl ?_
     refine RL.mv rfl rfl rfl ?_
     refine RL.skip rfl rfl ?_
     refine RL.skip rfl rfl ?_
     refine RL.skip rfl rfl ?_
     refine RL.pickT rfl rfl rfl rfl ?_
     refine RL.fin ?_
     cases h124
     exact fun a w st => mid_intro true h125 (St.cut [0] ⟨rfl, rfl, rfl, rfl, rfl, trivial⟩ (by decide) rfl st)
    replace h124 := ite_f b129 h124
    refine RL.fadr (off := 0) (fo := 1) 1 Tryz_fld30_1 rfl rfl rfl PtOf.obox (Or.inr ⟨rfl, rfl⟩) ?_
    refine RL.ldPx (off := (0 + 1)) (e' := y78.2.1) 1 Ex.ik Tryz_ln3 rfl rfl (Or.inl rfl) rfl PtOf.obox (Part.snd (Part.fst Part.self)) ?_
    refine RL.binI (v := .bool (decide (y78.2.1 > (1000000 : Int)))) rfl rfl rfl rfl rfl ?_
    refine RL.pickF rfl rfl rfl rfl ?_
    refine RL.mv rfl rfl rfl ?_
    refine RL.split (t := 42) rfl (fun b130 => ?_) (fun b130 => ?_)
    ·replace h124 := ite_t b130 h124
     refine RL.skip rfl rfl ?_
     refine RL.skip rfl rfl ?_
     refine RL.skip rfl rfl ?_
     refine RL.pickT rfl rfl rfl rfl ?_
     refine RL.mv rfl rfl rfl ?_
     refine RL.skip rfl rfl ?_
     refine RL.skip rfl rfl ?_
     refine RL.skip rfl rfl ?_
     refine RL.pickT rfl rfl rfl rfl ?_
     refine RL.fin ?_
     cases h124
     exact fun a w st => mid_intro true h125 (St.cut [0] ⟨rfl, rfl, rfl, rfl, rfl, trivial⟩ (by decide) rfl st)
    replace h124 := ite_f b130 h124
    refine RL.fadr (off := 0) (fo := 2) 1 Tryz_fld30_2 rfl rfl rfl PtOf.obox (Or.inr ⟨rfl, rfl⟩) ?_
    refine RL.ldPx (off := (0 + 2)) (e' := y78.2.2) 1 Ex.ik Tryz_ln3 rfl rfl (Or.inl rfl) rfl PtOf.obox (Part.snd (Part.snd Part.self)) ?_
    refine RL.binI (v := .bool (decide (y78.2.2 < (0 : Int)))) rfl rfl rfl rfl rfl ?_
    refine RL.pickF rfl rfl rfl rfl ?_
    refine RL.mv rfl rfl rfl ?_
    refine RL.split (t := 47) rfl (fun b131 => ?_) (fun b131 => ?_)
    ·replace h124 := ite_t b131 h124
     refine RL.skip rfl rfl ?_
     refine RL.skip rfl rfl ?_
     refine RL.skip rfl rfl ?_
     refine RL.pickT rfl rfl rfl rfl ?_
     refine RL.fin ?_
     cases h124
     exact fun a w st => mid_intro true h125 (St.cut [0] ⟨rfl, rfl, rfl, rfl, rfl, trivial⟩ (by decide) rfl st)
    replace h124 := ite_f b131 h124
    refine RL.fadr (off := 0) (fo := 2) 1 Tryz_fld30_2 rfl rfl rfl PtOf.obox (Or.inr ⟨rfl, rfl⟩) ?_
    refine RL.ldPx (off := (0 + 2)) (e' := y78.2.2) 1 Ex.ik Tryz_ln3 rfl rfl (Or.inl rfl) rfl PtOf.obox (Part.snd (Part.snd Part.self)) ?_
    refine RL.binI (v := .bool (decide (y78.2.2 > (1000000 : Int)))) rfl rfl rfl rfl rfl ?_
    refine RL.pickF rfl rfl rfl rfl ?_
    refine RL.fin ?_
    cases h124
    exact fun a w st => mid_intro (decide (y78.2.2 > (1000000 : Int))) h125 (St.cut [0] ⟨rfl, rfl, rfl, rfl, rfl, trivial⟩ (by decide) rfl st)
   rintro x121 h132
   have h133 := h126 _ h132
   try dsimp only at h133
   refine GL.weak (env' := [(0, v0), (8, v0), (9, .int .i64 ((x0).length : Int)), (10, .int .i64 (i68 : Int)), (51, .bool x121)]) (L' := [imm (TR.sl TrA) v0 x0]) (fun _ _ st => st) ?_
   refine GL.cond rfl (fun b134 => ?_) (fun b134 => ?_)
   ·replace h133 := ite_t b134 h133
    refine GL.seq ?_
    refine GL.region ?_
    refine RL.asg rfl rfl rfl ?_
    refine RL.finG ?_
    cases h133
    replace h72 : some (Fl.rt _) = some y61 := h72
    cases h72
    have hh := h66 _ h64
    subst hh
    exact GL.ret (Gx.ret (v := .int .i64 (1 : Int)) (res1 rfl rfl) (fun a w st => st.toPostV))
   replace h133 := ite_f b134 h133
   refine GL.skip ?_
   refine GL.nilB ?_
   refine GL.region ?_
   refine RL.binI (v := .int .i64 ((i68 + 1 : Nat) : Int)) rfl rfl rfl rfl (binI_succ i68 (by omega)) ?_
   refine RL.mv rfl rfl rfl ?_
   refine RL.fin ?_
   cases h133
   exact fun a w st => lop_intro (i68 + 1, r80) ⟨by show i68 + 1 + r80.length = (x0).length; simp only [List.length_cons] at h74; omega, h81, h72⟩ (by simp) (St.cut [0] ⟨rfl, rfl, rfl, rfl, trivial⟩ (by decide) rfl st)
  have h77 : ¬ i68 < (x0).length := by have := of_decide_eq_false b76; omega
  obtain rfl : r69 = [] := by rw [← h75]; exact List.drop_of_length_le (by omega)
  replace h73 : some (Fl.nx _) = some y61 := h73
  cases h73
  exact GL.exit (fun a w st => mid_intro () h64 (St.cut [] trivial (by decide) rfl st))
 rintro ⟨⟩ h135
 have h136 := h65 _ h135
 try dsimp only at h136
 refine GL.weak (env' := []) (L' := []) (fun _ _ st => st) ?_
 refine GL.seq ?_
 refine GL.region ?_
 refine RL.asg rfl rfl rfl ?_
 refine RL.finG ?_
 have h136 := Option.some.inj h136
 subst h136
 exact GL.ret (Gx.ret (v := .int .i64 (0 : Int)) (res1 rfl rfl) (fun a w st => st.toPostV))

set_option maxHeartbeats 4000000 in
theorem slices_IndexFunc_api_Account_api_Account_c (S : Hp) (w : World) (hS : S.sub w) (v0 : Value) (x0 : (List ((List UInt8) × (Int × Int)))) (k0 : ((TR.sl TrA)).vrep S v0 x0) (f1 : FuncId) (c1 : Array Value) (t1 : Fit Tryz.prog f1) (g1 : ((List UInt8) × (Int × Int)) → Option Bool) (k1 : ∀ (U : Hp) (w' : World), Hp.le S U → U.sub w' → ∀ (u0 : Value) (a0 : ((List UInt8) × (Int × Int))) (_ : (TrA).vrep U u0 a0) (rr : Bool), g1 a0 = some rr → Calls Tryz.prog f1 (#[u0] ++ c1) w' (PostV w' (.bool rr))) (res : Int) (hm : slices_IndexFunc_api_Account_api_Account_m x0 g1 = some res) : Calls Tryz.prog 50 #[v0, .func (.func f1) #[] c1] w (PostV w (.int .i64 res)) := by
 refine calls_enter 19 Tryz.func50 Tryz.ntmps50 rfl S false [(0, v0), (1, .func (.func f1) #[] c1)] [imm (TR.sl TrA) v0 x0] rfl ⟨rfl, ⟨rfl, trivial⟩⟩ hS ⟨k0, trivial⟩ ?_
 unfold slices_IndexFunc_api_Account_api_Account_m at hm
 refine GL.seq ?_
 refine GL.region ?_
 refine RL.asg rfl rfl rfl ?_
 refine RL.finG ?_
 refine GL.seq ?_
 refine GL.seq ?_
 refine GL.region ?_
 refine RL.mv rfl rfl rfl ?_
 refine RL.lenS 0 Tryz.underlying22 rfl rfl rfl rfl SlOf.imm ?_
 refine RL.mv rfl rfl rfl ?_
 refine RL.finG ?_
 refine GL.open_ 0 rfl (fun S h => len_imm S h) (fun n14 => ?_)
 obtain ⟨y15, K16, h17, h18, h19, h20, h21⟩ := bindR_K hm
 refine GL.join (ι := Unit) (fun (p : Unit) => []) (fun (p : Unit) => []) (fun (p : Unit) => K16 (.nx ())) ?_ ?_
 ·refine GL.block ?_
  refine GL.loop (ι := Nat × (List ((List UInt8) × (Int × Int)))) (fun (p : Nat × (List ((List UInt8) × (Int × Int)))) => [(0, v0), (1, .func (.func f1) #[] c1), (7, .int .i64 ((x0).length : Int)), (8, .int .i64 (p.1 : Int))]) (fun (p : Nat × (List ((List UInt8) × (Int × Int)))) => [imm (TR.sl TrA) v0 x0]) (fun (p : Nat × (List ((List UInt8) × (Int × Int)))) => p.1 + p.2.length = (x0).length ∧ List.drop p.1 x0 = p.2 ∧ rangeL (slices_IndexFunc_api_Account_api_Account_b1 g1) p.2 p.1 () = some y15) (fun (p : Nat × (List ((List UInt8) × (Int × Int)))) => p.2.length) (0, x0) ⟨by simp, by simp, h17⟩ (fun a w st => St.cut [0] ⟨rfl, rfl, rfl, rfl, trivial⟩ (by decide) rfl st) ?_
  rintro ⟨i22, r23⟩ ⟨h28, h29, h27⟩
  try dsimp only at h28 h29 h27
  refine GL.weak (env' := [(0, v0), (1, .func (.func f1) #[] c1), (7, .int .i64 ((x0).length : Int)), (8, .int .i64 (i22 : Int))]) (L' := [imm (TR.sl TrA) v0 x0]) (fun _ _ st => st) ?_
  refine GL.seq ?_
  refine GL.region ?_
  refine RL.binI (v := .bool (decide ((i22 : Int) < ((x0).length : Int)))) rfl rfl rfl rfl rfl ?_
  refine RL.finG ?_
  refine GL.seq ?_
  refine GL.cond rfl (fun b30 => ?_) (fun b30 => ?_)
  ·have h31 : i22 < (x0).length := by have := of_decide_eq_true b30; omega
   obtain ⟨y32, r34, hr, e33, h35⟩ := drop_cons h29 rfl h31
   subst hr
   obtain ⟨z24, h25, h26⟩ := rangeL_some h27
   unfold slices_IndexFunc_api_Account_api_Account_b1 at h25
   try dsimp only at h25
   refine GL.skip ?_
   refine GL.seq ?_
   refine GL.block ?_
   refine GL.seq ?_
   refine GL.region ?_
   refine RL.mv rfl rfl rfl ?_
   refine RL.asg rfl rfl rfl ?_
   refine RL.finG ?_
   refine GL.seq ?_
   refine GL.region ?_
   refine RL.mv rfl rfl rfl ?_
   refine RL.mv rfl rfl rfl ?_
   refine RL.mv rfl rfl rfl ?_
   refine RL.idxS (sz := 3) 0 Tryz.underlying22 Tryz_ln30 rfl rfl rfl rfl rfl SlOf.imm (by omega) (by omega) ?_
   refine RL.ldS (i := i22) (r := TrA) (e' := y32) 0 Tryz_ln30 rfl rfl rfl rfl SlOf.imm e33 Part.self ?_
   intro v39
   obtain ⟨y40, e41, h25⟩ := bind_some h25
   refine RL.callV (v := .bool y40) (vs := [v39]) t1 rfl (Or.inl rfl) rfl rfl rfl rfl (fun U w hU hW hL => k1 U w hW hU _ _ (hL 1 _ _ rfl Seen.imm) _ e41) ?_
   refine RL.finG ?_
   refine GL.cond rfl (fun b42 => ?_) (fun b42 => ?_)
   ·replace h25 := ite_t b42 h25
    refine GL.seq ?_
    refine GL.region ?_
    refine RL.mv rfl rfl rfl ?_
    refine RL.asg rfl rfl rfl ?_
    refine RL.finG ?_
    cases h25
    replace h26 : some (Fl.rt _) = some y15 := h26
    cases h26
    have hh := h20 _ h18
    subst hh
    exact GL.ret (Gx.ret (v := .int .i64 (i22 : Int)) (res1 rfl rfl) (fun a w st => st.toPostV))
   replace h25 := ite_f b42 h25
   refine GL.skip ?_
   refine GL.nilB ?_
   refine GL.region ?_
   refine RL.binI (v := .int .i64 ((i22 + 1 : Nat) : Int)) rfl rfl rfl rfl (binI_succ i22 (by omega)) ?_
   refine RL.mv rfl rfl rfl ?_
   refine RL.fin ?_
   cases h25
   exact fun a w st => lop_intro (i22 + 1, r34) ⟨by show i22 + 1 + r34.length = (x0).length; simp only [List.length_cons] at h28; omega, h35, h26⟩ (by simp) (St.cut [0] ⟨rfl, rfl, rfl, rfl, trivial⟩ (by decide) rfl st)
  have h31 : ¬ i22 < (x0).length := by have := of_decide_eq_false b30; omega
  obtain rfl : r23 = [] := by rw [← h29]; exact List.drop_of_length_le (by omega)
  replace h27 : some (Fl.nx _) = some y15 := h27
  cases h27
  exact GL.exit (fun a w st => mid_intro () h18 (St.cut [] trivial (by decide) rfl st))
 rintro ⟨⟩ h43
 have h44 := h19 _ h43
 try dsimp only at h44
 refine GL.weak (env' := []) (L' := []) (fun _ _ st => st) ?_
 refine GL.seq ?_
 refine GL.region ?_
 refine RL.asg rfl rfl rfl ?_
 refine RL.finG ?_
 have h44 := Option.some.inj h44
 subst h44
 exact GL.ret (Gx.ret (v := .int .i64 (-1 : Int)) (res1 rfl rfl) (fun a w st => st.toPostV))

set_option maxHeartbeats 4000000 in
theorem ledger_find_1_c (S : Hp) (w : World) (hS : S.sub w) (v0 : Value) (x0 : ((List UInt8) × (Int × Int))) (k0 : (TrA).vrep S v0 x0) (v1 : Value) (x1 : (List UInt8)) (k1 : ((TR.ptr TR.str)).vrep S v1 x1) (res : Bool) (hm : ledger_find_1_m x0 x1 = some res) : Calls Tryz.prog 51 #[v0, v1] w (PostV w (.bool res)) := by
 refine calls_enter 8 Tryz.func51 Tryz.ntmps51 rfl S false [(0, v0), (1, v1)] [imm TrA v0 x0, imm (TR.ptr TR.str) v1 x1] rfl ⟨rfl, ⟨rfl, trivial⟩⟩ hS ⟨k0, ⟨k1, trivial⟩⟩ ?_
 unfold ledger_find_1_m at hm
 refine GL.seq ?_
 refine GL.region ?_
 refine RL.box (t := TrA) (e := x0) rfl rfl rfl rfl (VR.item 0 rfl) ?_
 intro v4
 refine RL.asg rfl rfl rfl ?_
 refine RL.finG ?_
 refine GL.seq ?_
 refine GL.region ?_
 refine RL.fadr (off := 0) (fo := 0) 2 Tryz_fld30_0 rfl rfl rfl PtOf.obox (Or.inr ⟨rfl, rfl⟩) ?_
 refine RL.ldPx (off := (0 + 0)) (e' := x0.1) 2 Ex.str Tryz_ln9 rfl rfl (Or.inl rfl) rfl PtOf.obox (Part.fst Part.self) ?_
 refine RL.ldPx (off := 0) (e' := x1) 1 Ex.str Tryz_ln9 rfl rfl (Or.inr ⟨rfl, rfl⟩) rfl PtOf.imm Part.self ?_
 refine RL.binS (v := .bool (x0.1 == x1)) rfl rfl rfl rfl rfl ?_
 refine RL.asg rfl rfl rfl ?_
 refine RL.finG ?_
 have hm := Option.some.inj hm
 subst hm
 exact GL.ret (Gx.ret (v := .bool (x0.1 == x1)) (res1 rfl rfl) (fun a w st => st.toPostV))

set_option maxHeartbeats 4000000 in
theorem ledger_find_c (S : Hp) (w : World) (hS : S.sub w) (v0 : Value) (x0 : (List ((List UInt8) × (Int × Int)))) (k0 : ((TR.sl TrA)).vrep S v0 x0) (x1 : (List UInt8)) (res : Int) (hm : ledger_find_m x0 x1 = some res) : Calls Tryz.prog 29 #[v0, .string ⟨(x1 : List UInt8).toArray⟩] w (PostV w (.int .i64 res)) := by
 refine calls_enter 8 Tryz.func29 Tryz.ntmps29 rfl S false [(0, v0), (1, .string ⟨(x1 : List UInt8).toArray⟩)] [imm (TR.sl TrA) v0 x0] rfl ⟨rfl, ⟨rfl, trivial⟩⟩ hS ⟨k0, trivial⟩ ?_
 unfold ledger_find_m at hm
 refine GL.seq ?_
 refine GL.region ?_
 refine RL.box (t := TR.str) (e := x1) rfl rfl rfl rfl VR.str ?_
 intro v4
 refine RL.asg rfl rfl rfl ?_
 refine RL.finG ?_
 refine GL.seq ?_
 refine GL.region ?_
 refine RL.mv rfl rfl rfl ?_
 refine RL.mkF (vs := [v4]) rfl rfl rfl ?_
 obtain ⟨y7, e8, hm⟩ := bind_some hm
 refine RL.callV (v := .int .i64 y7) (vs := [v0, .func (.func 51) #[] #[v4]]) Tryz_fit50 rfl (Or.inl rfl) rfl rfl rfl rfl (fun U w hU hW hL => slices_IndexFunc_api_Account_api_Account_c U w hU _ _ (hL 0 _ _ rfl Seen.imm) 51 #[v4] Tryz_fit51 (fun a0 => ledger_find_1_m a0 x1) (fun U' w' hle hU' u0 a0 q0 rr hr => (ledger_find_1_c U' w' hU' u0 a0 q0 _ _ (TR.vrep_mono hle (hL 1 _ _ rfl Seen.obox)) rr hr).mono (fun _ _ z => z)) _ e8) ?_
 refine RL.asg rfl rfl rfl ?_
 refine RL.finG ?_
 have hm := Option.some.inj hm
 subst hm
 exact GL.ret (Gx.ret (v := .int .i64 y7) (res1 rfl rfl) (fun a w st => st.toPostV))

set_option maxHeartbeats 4000000 in
theorem slices_Clone_api_Account_api_Account_c (S : Hp) (w : World) (hS : S.sub w) (v0 : Value) (x0 : List ((List UInt8) × (Int × Int))) (k0 : (TR.sl TrA).vrep S v0 x0) (res : List ((List UInt8) × (Int × Int))) (hm : slices_Clone_api_Account_api_Account_m x0 = some res) : Calls Tryz.prog 8 #[v0] w (Post w S (fun (o : Value) => o) (fun (o : Value) => [own 30 TrA o res])) := by
  refine calls_enter 8 Tryz.func8 Tryz.ntmps8 rfl S false [(0, v0)] [imm (TR.sl TrA) v0 x0] rfl ⟨rfl, trivial⟩ hS ⟨k0, trivial⟩ ?_
  unfold slices_Clone_api_Account_api_Account_m at hm
  obtain ⟨_, hc, hm⟩ := bind_some hm
  replace hc := chk_some hc
  have hm := Option.some.inj hm
  subst hm
  refine GL.seq (GL.region (RL.asg rfl rfl rfl (RL.finG (GL.seq (GL.seq (GL.region ?_))))))
  refine RL.mv rfl rfl rfl ?_
  refine RL.eqNil 0 Tryz.underlying22 rfl rfl rfl rfl rfl SlOf.imm (fun b hb => ?_)
  refine RL.finG (GL.cond rfl (fun h => ?_) (fun h => ?_))
  · have := hb h
    subst this
    refine GL.seq (GL.region (RL.asg rfl rfl rfl (RL.finG ?_)))
    refine GL.weak (fun a w st => st.nilOwn 30 TrA) ?_
    exact GL.ret (Gx.ret (v := Value.slice none 0 0) (res1 rfl rfl) (fun a w st => (st.pick [1] (by decide) rfl).toPost (Value.slice none 0 0)))
  · refine GL.skip (GL.seq (GL.region ?_))
    refine RL.bS (t := TrA) (vs := []) ([] : List ((List UInt8) × (Int × Int))) Tryz.underlying22 Tryz_lo30 rfl rfl rfl rfl trivial rfl (by decide) ?_
    intro v1
    refine RL.mv rfl rfl rfl ?_
    refine RL.appB 1 0 Tryz.underlying22 Tryz_lo30 rfl rfl rfl rfl rfl rfl rfl SlOf.imm (RoomN.of (N := 4398046511104) Tryz_info30 (by decide) (by decide)) (by simpa using hc) ?_
    intro v2
    refine RL.asg rfl rfl rfl (RL.finG ?_)
    exact GL.ret (Gx.ret (v := v2) (res1 rfl rfl) (fun a w st => (st.pick [1] (by decide) rfl).toPost v2))

set_option maxHeartbeats 4000000 in
theorem math_bits_Len64_c (S : Hp) (w : World) (hS : S.sub w) (x0 : Int) (res : Int) (hm : math_bits_Len64_m x0 = some res) : Calls Tryz.prog 76 #[.int .u64 x0] w (PostC w (.int .i64 res)) := by
 refine calls_enter 25 Tryz.func76 Tryz.ntmps76 rfl S true [(0, .int .u64 x0)] [] rfl ⟨rfl, trivial⟩ hS trivial ?_
 unfold math_bits_Len64_m at hm
 refine GL.seq ?_
 refine GL.region ?_
 refine RL.asg rfl rfl rfl ?_
 refine RL.finG ?_
 refine GL.seq ?_
 refine GL.seq ?_
 refine GL.region ?_
 refine RL.mv rfl rfl rfl ?_
 refine RL.binI (v := .bool (decide (x0 ≥ (4294967296 : Int)))) rfl rfl rfl rfl rfl ?_
 refine RL.finG ?_
 obtain ⟨y9, K10, h11, h12, h13, h14, h15⟩ := bindR_K hm
 refine GL.join (ι := Int × Int) (fun (p : Int × Int) => [(0, .int .u64 p.1), (2, .int .i64 p.2)]) (fun (p : Int × Int) => []) (fun (p : Int × Int) => K10 (.nx (p.1, p.2))) ?_ ?_
 ·skip
  refine GL.cond rfl (fun b16 => ?_) (fun b16 => ?_)
  ·replace h11 := ite_t b16 h11
   refine GL.seq ?_
   refine GL.region ?_
   refine RL.mv rfl rfl rfl ?_
   obtain ⟨y19, e20, h11⟩ := bind_some h11
   replace e20 := chk_some e20
   refine RL.sh (by simp) rfl rfl rfl rfl e20 ?_
   refine RL.asg rfl rfl rfl ?_
   refine RL.finG ?_
   refine GL.region ?_
   refine RL.asg rfl rfl rfl ?_
   refine RL.finG ?_
   cases h11
   exact fun a w st => mid_intro (Int.fdiv x0 (2 ^ (min (32 : Int).toNat (IntKind.bits .u64))), (32 : Int)) h12 (St.cut [] ⟨rfl, rfl, trivial⟩ (by decide) rfl st)
  replace h11 := ite_f b16 h11
  refine GL.skip ?_
  cases h11
  exact fun a w st => mid_intro (x0, (0 : Int)) h12 (St.cut [] ⟨rfl, rfl, trivial⟩ (by decide) rfl st)
 rintro ⟨x7, x8⟩ h21
 have h22 := h13 _ h21
 try dsimp only at h22
 refine GL.weak (env' := [(0, .int .u64 x7), (2, .int .i64 x8)]) (L' := []) (fun _ _ st => st) ?_
 refine GL.seq ?_
 refine GL.seq ?_
 refine GL.region ?_
 refine RL.mv rfl rfl rfl ?_
 refine RL.binI (v := .bool (decide (x7 ≥ (65536 : Int)))) rfl rfl rfl rfl rfl ?_
 refine RL.finG ?_
 obtain ⟨y30, K31, h32, h33, h34, h35, h36⟩ := bindR_K h22
 refine GL.join (ι := Int × Int) (fun (p : Int × Int) => [(0, .int .u64 p.1), (2, .int .i64 p.2)]) (fun (p : Int × Int) => []) (fun (p : Int × Int) => K31 (.nx (p.1, p.2))) ?_ ?_
 ·skip
  refine GL.cond rfl (fun b37 => ?_) (fun b37 => ?_)
  ·replace h32 := ite_t b37 h32
   refine GL.seq ?_
   refine GL.region ?_
   refine RL.mv rfl rfl rfl ?_
   obtain ⟨y40, e41, h32⟩ := bind_some h32
   replace e41 := chk_some e41
   refine RL.sh (by simp) rfl rfl rfl rfl e41 ?_
   refine RL.asg rfl rfl rfl ?_
   refine RL.finG ?_
   refine GL.region ?_
   refine RL.mv rfl rfl rfl ?_
   refine RL.binI (v := .int .i64 (wadd x8 (16 : Int))) rfl rfl rfl rfl rfl ?_
   refine RL.asg rfl rfl rfl ?_
   refine RL.finG ?_
   cases h32
   exact fun a w st => mid_intro (Int.fdiv x7 (2 ^ (min (16 : Int).toNat (IntKind.bits .u64))), wadd x8 (16 : Int)) h33 (St.cut [] ⟨rfl, rfl, trivial⟩ (by decide) rfl st)
  replace h32 := ite_f b37 h32
  refine GL.skip ?_
  cases h32
  exact fun a w st => mid_intro (x7, x8) h33 (St.cut [] ⟨rfl, rfl, trivial⟩ (by decide) rfl st)
 rintro ⟨x28, x29⟩ h42
 have h43 := h34 _ h42
 try dsimp only at h43
 refine GL.weak (env' := [(0, .int .u64 x28), (2, .int .i64 x29)]) (L' := []) (fun _ _ st => st) ?_
 refine GL.seq ?_
 refine GL.seq ?_
 refine GL.region ?_
 refine RL.mv rfl rfl rfl ?_
 refine RL.binI (v := .bool (decide (x28 ≥ (256 : Int)))) rfl rfl rfl rfl rfl ?_
 refine RL.finG ?_
 obtain ⟨y51, K52, h53, h54, h55, h56, h57⟩ := bindR_K h43
 refine GL.join (ι := Int × Int) (fun (p : Int × Int) => [(0, .int .u64 p.1), (2, .int .i64 p.2)]) (fun (p : Int × Int) => []) (fun (p : Int × Int) => K52 (.nx (p.1, p.2))) ?_ ?_
 ·skip
  refine GL.cond rfl (fun b58 => ?_) (fun b58 => ?_)
  ·replace h53 := ite_t b58 h53
   refine GL.seq ?_
   refine GL.region ?_
   refine RL.mv rfl rfl rfl ?_
   obtain ⟨y61, e62, h53⟩ := bind_some h53
   replace e62 := chk_some e62
   refine RL.sh (by simp) rfl rfl rfl rfl e62 ?_
   refine RL.asg rfl rfl rfl ?_
   refine RL.finG ?_
   refine GL.region ?_
   refine RL.mv rfl rfl rfl ?_
   refine RL.binI (v := .int .i64 (wadd x29 (8 : Int))) rfl rfl rfl rfl rfl ?_
   refine RL.asg rfl rfl rfl ?_
   refine RL.finG ?_
   cases h53
   exact fun a w st => mid_intro (Int.fdiv x28 (2 ^ (min (8 : Int).toNat (IntKind.bits .u64))), wadd x29 (8 : Int)) h54 (St.cut [] ⟨rfl, rfl, trivial⟩ (by decide) rfl st)
  replace h53 := ite_f b58 h53
  refine GL.skip ?_
  cases h53
  exact fun a w st => mid_intro (x28, x29) h54 (St.cut [] ⟨rfl, rfl, trivial⟩ (by decide) rfl st)
 rintro ⟨x49, x50⟩ h63
 have h64 := h55 _ h63
 try dsimp only at h64
 refine GL.weak (env' := [(0, .int .u64 x49), (2, .int .i64 x50)]) (L' := []) (fun _ _ st => st) ?_
 refine GL.seq ?_
 refine GL.region ?_
 refine RL.mv rfl rfl rfl ?_
 refine RL.mv rfl rfl rfl ?_
 refine RL.cvI Tryz.underlying123 Tryz.underlying5 rfl rfl rfl ?_
 obtain ⟨y67, e68, h64⟩ := bind_some h64
 refine RL.idxT Tryz.underlying9 rfl rfl rfl rfl (idx_some e68).1 (idx_some e68).2.2 ?_
 refine RL.cvI Tryz.underlying5 Tryz.underlying3 rfl rfl rfl ?_
 refine RL.binI (v := .int .i64 (wadd x50 (IntKind.wrap .i64 (y67.toNat : Int)))) rfl rfl rfl rfl rfl ?_
 refine RL.asg rfl rfl rfl ?_
 refine RL.finG ?_
 have h64 := Option.some.inj h64
 subst h64
 exact GL.ret (Gx.ret (v := .int .i64 (wadd x50 (IntKind.wrap .i64 (y67.toNat : Int)))) (res1 rfl rfl) (fun a w st => st.toPostC rfl))

set_option maxHeartbeats 4000000 in
theorem math_bits_Len_c (S : Hp) (w : World) (hS : S.sub w) (x0 : Int) (res : Int) (hm : math_bits_Len_m x0 = some res) : Calls Tryz.prog 53 #[.int .u64 x0] w (PostC w (.int .i64 res)) := by
 refine calls_enter 8 Tryz.func53 Tryz.ntmps53 rfl S true [(0, .int .u64 x0)] [] rfl ⟨rfl, trivial⟩ hS trivial ?_
 unfold math_bits_Len_m at hm
 refine GL.seq ?_
 refine GL.region ?_
 refine RL.asg rfl rfl rfl ?_
 refine RL.finG ?_
 refine GL.seq ?_
 refine GL.cond rfl (fun b2 => ?_) (fun b2 => ?_)
 ·exact absurd b2 (by decide)
 refine GL.skip ?_
 refine GL.seq ?_
 refine GL.region ?_
 refine RL.mv rfl rfl rfl ?_
 obtain ⟨y5, e6, hm⟩ := bind_some hm
 refine RL.callC (v := .int .i64 y5) (vs := [.int .u64 x0]) Tryz_fit76 rfl rfl rfl rfl (fun U w hU hW hL => math_bits_Len64_c U w hU x0 _ e6) ?_
 refine RL.asg rfl rfl rfl ?_
 refine RL.finG ?_
 have hm := Option.some.inj hm
 subst hm
 exact GL.ret (Gx.ret (v := .int .i64 y5) (res1 rfl rfl) (fun a w st => st.toPostC rfl))

set_option maxHeartbeats 4000000 in
theorem slices_insertionSortCmpFunc_api_Account_c (B : World) (S X : Hp) (f : Nat → Hp) (w : World) (v0 : Value) (x0 : (List ((List UInt8) × (Int × Int)))) (hO : HeapOk B.heap.size S f [own 30 TrA v0 x0, keep X].length w) (hB : Below B.heap.size B w) (hI : Its [own 30 TrA v0 x0, keep X] S f) (x1 : Int) (x2 : Int) (f3 : FuncId) (c3 : Array Value) (t3 : Fit Tryz.prog f3) (g3 : ((List UInt8) × (Int × Int)) → ((List UInt8) × (Int × Int)) → Option Int) (k3 : ∀ (U : Hp) (w' : World), Hp.le S U → U.sub w' → ∀ (u0 : Value) (a0 : ((List UInt8) × (Int × Int))) (_ : (TrA).vrep U u0 a0) (u1 : Value) (a1 : ((List UInt8) × (Int × Int))) (_ : (TrA).vrep U u1 a1) (rr : Int), g3 a0 a1 = some rr → Calls Tryz.prog f3 (#[u0, u1] ++ c3) w' (PostV w' (.int .i64 rr))) (res : (List ((List UInt8) × (Int × Int)))) (hm : slices_insertionSortCmpFunc_api_Account_m x0 x1 x2 g3 = some res) : Calls Tryz.prog 67 #[v0, .int .i64 x1, .int .i64 x2, .func (.func f3) #[] c3] w (PostM B S (fun (o : Unit) => .tuple #[]) (fun (o : Unit) => [own 30 TrA v0 res, keep X])) := by
 refine calls_enterM 53 Tryz.func67 Tryz.ntmps67 rfl B S f [(0, v0), (1, .int .i64 x1), (2, .int .i64 x2), (3, .func (.func f3) #[] c3)] [own 30 TrA v0 x0, keep X] [] rfl ⟨rfl, ⟨rfl, ⟨rfl, ⟨rfl, trivial⟩⟩⟩⟩ hB hO hI trivial ?_
 unfold slices_insertionSortCmpFunc_api_Account_m at hm
 refine GL.seq ?_
 refine GL.region ?_
 refine RL.mv rfl rfl rfl ?_
 refine RL.binI (v := .int .i64 (wadd x1 (1 : Int))) rfl rfl rfl rfl rfl ?_
 refine RL.asg rfl rfl rfl ?_
 refine RL.finG ?_
 obtain ⟨y400, K401, h402, h403, h404, h405, h406⟩ := bindR_K hm
 refine GL.join (ι := (List ((List UInt8) × (Int × Int))) × Int) (fun (p : (List ((List UInt8) × (Int × Int))) × Int) => []) (fun (p : (List ((List UInt8) × (Int × Int))) × Int) => [own 30 TrA v0 p.1, keep X]) (fun (p : (List ((List UInt8) × (Int × Int))) × Int) => K401 (.nx (p.1, p.2))) ?_ ?_
 ·refine GL.block ?_
  refine GL.loop (ι := Nat × (List ((List UInt8) × (Int × Int))) × Int) (fun (p : Nat × (List ((List UInt8) × (Int × Int))) × Int) => [(0, v0), (1, .int .i64 x1), (2, .int .i64 x2), (3, .func (.func f3) #[] c3), (8, .int .i64 p.2.2)]) (fun (p : Nat × (List ((List UInt8) × (Int × Int))) × Int) => [own 30 TrA v0 p.2.1, keep X]) (fun (p : Nat × (List ((List UInt8) × (Int × Int))) × Int) => loopM (slices_insertionSortCmpFunc_api_Account_b1 x2 x1 g3) p.1 (p.2.1, p.2.2) = some y400) (fun (p : Nat × (List ((List UInt8) × (Int × Int))) × Int) => p.1) (1048576, x0, wadd x1 (1 : Int)) h402 (fun a w st => St.cut [0, 1] ⟨rfl, rfl, rfl, rfl, rfl, trivial⟩ (by decide) rfl st) ?_
  rintro ⟨r408, l202, x203⟩ h412
  try dsimp only at h412
  refine GL.weak (env' := [(0, v0), (1, .int .i64 x1), (2, .int .i64 x2), (3, .func (.func f3) #[] c3), (8, .int .i64 x203)]) (L' := [own 30 TrA v0 l202, keep X]) (fun _ _ st => st) ?_
  obtain ⟨r415, z409, hr, h410, h411⟩ := loopM_some h412
  subst hr
  unfold slices_insertionSortCmpFunc_api_Account_b1 at h410
  try dsimp only at h410
  refine GL.seq ?_
  refine GL.seq ?_
  refine GL.region ?_
  refine RL.mv rfl rfl rfl ?_
  refine RL.mv rfl rfl rfl ?_
  refine RL.binI (v := .bool (decide (x203 < x2))) rfl rfl rfl rfl rfl ?_
  refine RL.finG ?_
  refine GL.cond rfl (fun b416 => ?_) (fun b416 => ?_)
  ·replace h410 := ite_t b416 h410
   refine GL.skip ?_
   refine GL.seq ?_
   refine GL.block ?_
   refine GL.seq ?_
   refine GL.region ?_
   refine RL.mv rfl rfl rfl ?_
   refine RL.asg rfl rfl rfl ?_
   refine RL.finG ?_
   obtain ⟨y536, K537, h538, h539, h540, h541, h542⟩ := bindF_K h410
   refine GL.join (ι := (List ((List UInt8) × (Int × Int))) × Int) (fun (p : (List ((List UInt8) × (Int × Int))) × Int) => [(0, v0), (1, .int .i64 x1), (2, .int .i64 x2), (3, .func (.func f3) #[] c3), (8, .int .i64 x203)]) (fun (p : (List ((List UInt8) × (Int × Int))) × Int) => [own 30 TrA v0 p.1, keep X]) (fun (p : (List ((List UInt8) × (Int × Int))) × Int) => K537 (.nx (p.1, p.2))) ?_ ?_
   ·refine GL.block ?_
    refine GL.loop (ι := Nat × (List ((List UInt8) × (Int × Int))) × Int) (fun (p : Nat × (List ((List UInt8) × (Int × Int))) × Int) => [(0, v0), (1, .int .i64 x1), (2, .int .i64 x2), (3, .func (.func f3) #[] c3), (8, .int .i64 x203), (9, .int .i64 p.2.2)]) (fun (p : Nat × (List ((List UInt8) × (Int × Int))) × Int) => [own 30 TrA v0 p.2.1, keep X]) (fun (p : Nat × (List ((List UInt8) × (Int × Int))) × Int) => loopM (slices_insertionSortCmpFunc_api_Account_b2 x1 g3) p.1 (p.2.1, p.2.2) = some y536) (fun (p : Nat × (List ((List UInt8) × (Int × Int))) × Int) => p.1) (1048576, l202, x203) h538 (fun a w st => St.cut [0, 1] ⟨rfl, rfl, rfl, rfl, rfl, rfl, trivial⟩ (by decide) rfl st) ?_
    rintro ⟨r544, l476, x477⟩ h548
    try dsimp only at h548
    refine GL.weak (env' := [(0, v0), (1, .int .i64 x1), (2, .int .i64 x2), (3, .func (.func f3) #[] c3), (8, .int .i64 x203), (9, .int .i64 x477)]) (L' := [own 30 TrA v0 l476, keep X]) (fun _ _ st => st) ?_
    obtain ⟨r551, z545, hr, h546, h547⟩ := loopM_some h548
    subst hr
    unfold slices_insertionSortCmpFunc_api_Account_b2 at h546
    try dsimp only at h546
    refine GL.seq ?_
    refine GL.seq ?_
    obtain ⟨y571, K572, h573, h574, h575, h576, h577⟩ := bindF_K h546
    refine GL.join (ι := Bool) (fun (p : Bool) => [(0, v0), (1, .int .i64 x1), (2, .int .i64 x2), (3, .func (.func f3) #[] c3), (8, .int .i64 x203), (9, .int .i64 x477), (34, .bool p)]) (fun (p : Bool) => [own 30 TrA v0 l476, keep X]) (fun (p : Bool) => K572 (.nx p)) ?_ ?_
    ·skip
     refine GL.regionQ rfl rfl (by kernel_rfl) ?_
     refine RL.mv rfl rfl rfl ?_
     refine RL.mv rfl rfl rfl ?_
     refine RL.binI (v := .bool (decide (x477 > x1))) rfl rfl rfl rfl rfl ?_
     refine RL.mv rfl rfl rfl ?_
     refine RL.split (t := 21) rfl (fun b578 => ?_) (fun b578 => ?_)
     ·replace h573 := ite_t b578 h573
      refine RL.mv rfl rfl rfl ?_
      refine RL.mv rfl rfl rfl ?_
      refine RL.mv rfl rfl rfl ?_
      obtain ⟨y579, e580, h573⟩ := bind_some h573
      refine RL.idxS (sz := 3) 0 Tryz.underlying22 Tryz_ln30 rfl rfl rfl rfl rfl SlOf.own (idx_some e580).1 (idx_some e580).2.1 ?_
      refine RL.ldS (i := (x477).toNat) (r := TrA) (e' := y579) 0 Tryz_ln30 rfl rfl rfl rfl SlOf.own (idx_some e580).2.2 Part.self ?_
      intro v581
      refine RL.mv rfl rfl rfl ?_
      refine RL.mv rfl rfl rfl ?_
      refine RL.binI (v := .int .i64 (wsub x477 (1 : Int))) rfl rfl rfl rfl rfl ?_
      obtain ⟨y582, e583, h573⟩ := bind_some h573
      refine RL.idxS (sz := 3) 0 Tryz.underlying22 Tryz_ln30 rfl rfl rfl rfl rfl SlOf.own (idx_some e583).1 (idx_some e583).2.1 ?_
      refine RL.ldS (i := (wsub x477 (1 : Int)).toNat) (r := TrA) (e' := y582) 0 Tryz_ln30 rfl rfl rfl rfl SlOf.own (idx_some e583).2.2 Part.self ?_
      intro v584
      refine RL.reL (L' := [own 30 TrA v0 l476, keep X, imm TrA v581 y579, imm TrA v584 y582]) rfl ?_
      obtain ⟨y585, e586, h573⟩ := bind_some h573
      refine RL.callV (v := .int .i64 y585) (vs := [v581, v584]) t3 rfl (Or.inr ⟨_, rfl⟩) rfl rfl rfl rfl (fun U w hU hW hL => k3 U w hW hU _ _ (hL 2 _ _ rfl Seen.imm) _ _ (hL 3 _ _ rfl Seen.imm) _ e586) ?_
      refine RL.binI (v := .bool (decide (y585 < (0 : Int)))) rfl rfl rfl rfl rfl ?_
      refine RL.pickT rfl rfl rfl rfl ?_
      refine RL.finQ ?_
      cases h573
      exact fun a w st => mid_intro (decide (y585 < (0 : Int))) h574 (St.cut [0, 1] ⟨rfl, rfl, rfl, rfl, rfl, rfl, rfl, trivial⟩ (by decide) rfl st)
     replace h573 := ite_f b578 h573
     refine RL.skip rfl rfl ?_
     refine RL.skip rfl rfl ?_
     refine RL.skip rfl rfl ?_
     refine RL.skip rfl rfl ?_
     refine RL.skip rfl rfl ?_
     refine RL.skip rfl rfl ?_
     refine RL.skip rfl rfl ?_
     refine RL.skip rfl rfl ?_
     refine RL.skip rfl rfl ?_
     refine RL.skip rfl rfl ?_
     refine RL.skip rfl rfl ?_
     refine RL.skip rfl rfl ?_
     refine RL.pickF rfl rfl rfl rfl ?_
     refine RL.finQ ?_
     cases h573
     exact fun a w st => mid_intro false h574 (St.cut [0, 1] ⟨rfl, rfl, rfl, rfl, rfl, rfl, rfl, trivial⟩ (by decide) rfl st)
    rintro x570 h587
    have h588 := h575 _ h587
    try dsimp only at h588
    refine GL.weak (env' := [(0, v0), (1, .int .i64 x1), (2, .int .i64 x2), (3, .func (.func f3) #[] c3), (8, .int .i64 x203), (9, .int .i64 x477), (34, .bool x570)]) (L' := [own 30 TrA v0 l476, keep X]) (fun _ _ st => st) ?_
    refine GL.cond rfl (fun b589 => ?_) (fun b589 => ?_)
    ·replace h588 := ite_t b589 h588
     refine GL.skip ?_
     refine GL.seq ?_
     refine GL.block ?_
     refine GL.regionA rfl rfl ?_
     refine RA.mv 0 rfl (by kernel_rfl) rfl rfl rfl ?_
     refine RA.mv 1 rfl (by kernel_rfl) rfl rfl rfl ?_
     refine RA.mv 2 rfl (by kernel_rfl) rfl rfl rfl ?_
     refine RA.mv 3 rfl (by kernel_rfl) rfl rfl rfl ?_
     refine RA.binI (v := .int .i64 (wsub x477 (1 : Int))) 4 rfl (by kernel_rfl) rfl rfl rfl rfl rfl ?_
     refine RA.mv 5 rfl (by kernel_rfl) rfl rfl rfl ?_
     refine RA.mv 6 rfl (by kernel_rfl) rfl rfl rfl ?_
     refine RA.binI (v := .int .i64 (wsub x477 (1 : Int))) 7 rfl (by kernel_rfl) rfl rfl rfl rfl rfl ?_
     obtain ⟨y600, e601, h588⟩ := bind_some h588
     refine RA.idxS (sz := 3) 0 Tryz.underlying22 Tryz_ln30 8 rfl (by kernel_rfl) rfl rfl rfl rfl rfl SlOf.own (idx_some e601).1 (idx_some e601).2.1 ?_
     refine RA.mv 10 rfl (by kernel_rfl) rfl rfl rfl ?_
     refine RA.mv 11 rfl (by kernel_rfl) rfl rfl rfl ?_
     obtain ⟨y602, e603, h588⟩ := bind_some h588
     refine RA.idxS (sz := 3) 0 Tryz.underlying22 Tryz_ln30 12 rfl (by kernel_rfl) rfl rfl rfl rfl rfl SlOf.own (idx_some e603).1 (idx_some e603).2.1 ?_
     refine RA.still (le := #[true, true, true, true, true, true, true, true, true, true, true, true, true, true, true, false, false, false]) (f := 3) [9, 13, 14] 15 rfl (by kernel_rfl) ?_
     simp only [pickOps, List.getElem?_toArray, List.getElem?_cons_succ, List.getElem?_cons_zero]
     refine RL.ldS (i := (wsub x477 (1 : Int)).toNat) (r := TrA) (e' := y600) 0 Tryz_ln30 rfl rfl rfl rfl SlOf.own (idx_some e601).2.2 Part.self ?_
     intro v604
     refine RL.ldS (i := (x477).toNat) (r := TrA) (e' := y602) 0 Tryz_ln30 rfl rfl rfl rfl SlOf.own (idx_some e603).2.2 Part.self ?_
     intro v605
     obtain ⟨y606, e607, h588⟩ := bind_some h588
     refine RL.idxS (sz := 3) 0 Tryz.underlying22 Tryz_ln30 rfl rfl rfl rfl rfl SlOf.own (idx_some e607).1 (idx_some e607).2.1 ?_
     refine RL.finH ?_
     refine RL.fin ?_
     refine RA.next ?_
     refine RA.seq 15 rfl (by kernel_rfl) ?_
     refine RL.stS (i := (x477).toNat) (e' := y600) (e1 := y600) (r := TrA) 0 Tryz_ln30 rfl rfl rfl rfl (VR.item 2 rfl) rfl (idx_some e607).2.2 Upd.self ?_
     refine RL.fin ?_
     refine RA.next ?_
     obtain ⟨y608, e609, h588⟩ := bind_some h588
     refine RA.idxS (sz := 3) 0 Tryz.underlying22 Tryz_ln30 16 rfl (by kernel_rfl) rfl rfl rfl rfl rfl SlOf.own (idx_some e609).1 (idx_some e609).2.1 ?_
     refine RA.seq 17 rfl (by kernel_rfl) ?_
     refine RL.stS (i := (wsub x477 (1 : Int)).toNat) (e' := y602) (e1 := y602) (r := TrA) 0 Tryz_ln30 rfl rfl rfl rfl (VR.item 3 rfl) rfl (idx_some e609).2.2 Upd.self ?_
     refine RL.fin ?_
     refine RA.next ?_
     refine RA.doneG (by kernel_rfl) ?_
     refine GL.weak (env' := [(0, v0), (1, .int .i64 x1), (2, .int .i64 x2), (3, .func (.func f3) #[] c3), (8, .int .i64 x203), (9, .int .i64 x477)]) (L' := [own 30 TrA v0 (List.set (List.set l476 ((x477).toNat) y600) ((wsub x477 (1 : Int)).toNat) y602), keep X]) (fun a w st => St.cut [0, 1] ⟨rfl, rfl, rfl, rfl, rfl, rfl, trivial⟩ (by decide) rfl st) ?_
     refine GL.nilB ?_
     refine GL.region ?_
     refine RL.mv rfl rfl rfl ?_
     refine RL.binI (v := .int .i64 (wsub x477 (1 : Int))) rfl rfl rfl rfl rfl ?_
     refine RL.asg rfl rfl rfl ?_
     refine RL.finG ?_
     cases h588
     exact fun a w st => lop_intro (r551, (List.set (List.set l476 ((x477).toNat) y600) ((wsub x477 (1 : Int)).toNat) y602), wsub x477 (1 : Int)) (by exact h547) (by simp) (St.cut [0, 1] ⟨rfl, rfl, rfl, rfl, rfl, rfl, trivial⟩ (by decide) rfl st)
    replace h588 := ite_f b589 h588
    cases h588
    replace h547 : some (Fl.nx _) = some y536 := h547
    cases h547
    exact GL.exit (fun a w st => mid_intro (l476, x477) h539 (St.cut [0, 1] ⟨rfl, rfl, rfl, rfl, rfl, trivial⟩ (by decide) rfl st))
   rintro ⟨l476, x477⟩ h610
   have h611 := h540 _ h610
   try dsimp only at h611
   refine GL.weak (env' := [(0, v0), (1, .int .i64 x1), (2, .int .i64 x2), (3, .func (.func f3) #[] c3), (8, .int .i64 x203)]) (L' := [own 30 TrA v0 l476, keep X]) (fun _ _ st => st) ?_
   refine GL.nilB ?_
   refine GL.region ?_
   refine RL.mv rfl rfl rfl ?_
   refine RL.binI (v := .int .i64 (wadd x203 (1 : Int))) rfl rfl rfl rfl rfl ?_
   refine RL.asg rfl rfl rfl ?_
   refine RL.finG ?_
   cases h611
   exact fun a w st => lop_intro (r415, l476, wadd x203 (1 : Int)) (by exact h411) (by simp) (St.cut [0, 1] ⟨rfl, rfl, rfl, rfl, rfl, trivial⟩ (by decide) rfl st)
  replace h410 := ite_f b416 h410
  cases h410
  replace h411 : some (Fl.nx _) = some y400 := h411
  cases h411
  exact GL.exit (fun a w st => mid_intro (l202, x203) h403 (St.cut [0, 1] trivial (by decide) rfl st))
 rintro ⟨l202, x203⟩ h612
 have h613 := h404 _ h612
 try dsimp only at h613
 refine GL.weak (env' := []) (L' := [own 30 TrA v0 l202, keep X]) (fun _ _ st => st) ?_
 have h613 := Option.some.inj h613
 subst h613
 exact GL.nil (Gx.retN (v := .tuple #[]) (res0 rfl) (fun a w st => (st.pick [0, 1] (by decide) rfl).toPostM (V := fun (o : Unit) => .tuple #[]) (LR := fun (o : Unit) => [own 30 TrA v0 l202, keep X]) ()))

set_option maxHeartbeats 4000000 in
theorem slices_pdqsortCmpFunc_api_Account_c (B : World) (S X : Hp) (f : Nat → Hp) (w : World) (v0 : Value) (x0 : (List ((List UInt8) × (Int × Int)))) (hO : HeapOk B.heap.size S f [own 30 TrA v0 x0, keep X].length w) (hB : Below B.heap.size B w) (hI : Its [own 30 TrA v0 x0, keep X] S f) (x1 : Int) (x2 : Int) (x3 : Int) (f4 : FuncId) (c4 : Array Value) (t4 : Fit Tryz.prog f4) (g4 : ((List UInt8) × (Int × Int)) → ((List UInt8) × (Int × Int)) → Option Int) (k4 : ∀ (U : Hp) (w' : World), Hp.le S U → U.sub w' → ∀ (u0 : Value) (a0 : ((List UInt8) × (Int × Int))) (_ : (TrA).vrep U u0 a0) (u1 : Value) (a1 : ((List UInt8) × (Int × Int))) (_ : (TrA).vrep U u1 a1) (rr : Int), g4 a0 a1 = some rr → Calls Tryz.prog f4 (#[u0, u1] ++ c4) w' (PostV w' (.int .i64 rr))) (res : (List ((List UInt8) × (Int × Int)))) (hm : slices_pdqsortCmpFunc_api_Account_m x0 x1 x2 x3 g4 = some res) : Calls Tryz.prog 52 #[v0, .int .i64 x1, .int .i64 x2, .int .i64 x3, .func (.func f4) #[] c4] w (PostM B S (fun (o : Unit) => .tuple #[]) (fun (o : Unit) => [own 30 TrA v0 res, keep X])) := by
 refine calls_enterM 148 Tryz.func52 Tryz.ntmps52 rfl B S f [(0, v0), (1, .int .i64 x1), (2, .int .i64 x2), (3, .int .i64 x3), (4, .func (.func f4) #[] c4)] [own 30 TrA v0 x0, keep X] [] rfl ⟨rfl, ⟨rfl, ⟨rfl, ⟨rfl, ⟨rfl, trivial⟩⟩⟩⟩⟩ hB hO hI trivial ?_
 unfold slices_pdqsortCmpFunc_api_Account_m at hm
 refine GL.seq ?_
 refine GL.region ?_
 refine RL.asg rfl rfl rfl ?_
 refine RL.finG ?_
 refine GL.seq ?_
 refine GL.region ?_
 refine RL.asg rfl rfl rfl ?_
 refine RL.finG ?_
 obtain ⟨y83, K84, h85, h86, h87, h88, h89⟩ := bindR_K hm
 refine GL.join (ι := (List ((List UInt8) × (Int × Int))) × Int × Int × Int × Bool × Bool) (fun (p : (List ((List UInt8) × (Int × Int))) × Int × Int × Int × Bool × Bool) => []) (fun (p : (List ((List UInt8) × (Int × Int))) × Int × Int × Int × Bool × Bool) => [own 30 TrA v0 p.1, keep X]) (fun (p : (List ((List UInt8) × (Int × Int))) × Int × Int × Int × Bool × Bool) => K84 (.nx (p.1, p.2.1, p.2.2.1, p.2.2.2.1, p.2.2.2.2.1, p.2.2.2.2.2))) ?_ ?_
 ·refine GL.block ?_
  refine GL.loop (ι := Nat × (List ((List UInt8) × (Int × Int))) × Int × Int × Int × Bool × Bool) (fun (p : Nat × (List ((List UInt8) × (Int × Int))) × Int × Int × Int × Bool × Bool) => [(0, v0), (1, .int .i64 p.2.2.1), (2, .int .i64 p.2.2.2.1), (3, .int .i64 p.2.2.2.2.1), (4, .func (.func f4) #[] c4), (10, .bool p.2.2.2.2.2.1), (11, .bool p.2.2.2.2.2.2)]) (fun (p : Nat × (List ((List UInt8) × (Int × Int))) × Int × Int × Int × Bool × Bool) => [own 30 TrA v0 p.2.1, keep X]) (fun (p : Nat × (List ((List UInt8) × (Int × Int))) × Int × Int × Int × Bool × Bool) => loopM (slices_pdqsortCmpFunc_api_Account_b1 g4) p.1 (p.2.1, p.2.2.1, p.2.2.2.1, p.2.2.2.2.1, p.2.2.2.2.2.1, p.2.2.2.2.2.2) = some y83) (fun (p : Nat × (List ((List UInt8) × (Int × Int))) × Int × Int × Int × Bool × Bool) => p.1) (1048576, x0, x1, x2, x3, true, true) h85 (fun a w st => St.cut [0, 1] ⟨rfl, rfl, rfl, rfl, rfl, rfl, rfl, trivial⟩ (by decide) rfl st) ?_
  rintro ⟨r91, l44, x45, x46, x47, x48, x49⟩ h95
  try dsimp only at h95
  refine GL.weak (env' := [(0, v0), (1, .int .i64 x45), (2, .int .i64 x46), (3, .int .i64 x47), (4, .func (.func f4) #[] c4), (10, .bool x48), (11, .bool x49)]) (L' := [own 30 TrA v0 l44, keep X]) (fun _ _ st => st) ?_
  obtain ⟨r98, z92, hr, h93, h94⟩ := loopM_some h95
  subst hr
  unfold slices_pdqsortCmpFunc_api_Account_b1 at h93
  try dsimp only at h93
  refine GL.block ?_
  refine GL.seq ?_
  refine GL.region ?_
  refine RL.mv rfl rfl rfl ?_
  refine RL.mv rfl rfl rfl ?_
  refine RL.binI (v := .int .i64 (wsub x46 x45)) rfl rfl rfl rfl rfl ?_
  refine RL.asg rfl rfl rfl ?_
  refine RL.finG ?_
  refine GL.seq ?_
  refine GL.seq ?_
  refine GL.region ?_
  refine RL.mv rfl rfl rfl ?_
  refine RL.binI (v := .bool (decide ((wsub x46 x45) ≤ (12 : Int)))) rfl rfl rfl rfl rfl ?_
  refine RL.finG ?_
  refine GL.cond rfl (fun b99 => ?_) (fun b99 => ?_)
  ·replace h93 := ite_t b99 h93
   refine GL.seq ?_
   refine GL.region ?_
   refine RL.mv rfl rfl rfl ?_
   refine RL.mv rfl rfl rfl ?_
   refine RL.mv rfl rfl rfl ?_
   refine RL.mv rfl rfl rfl ?_
   obtain ⟨y106, e107, h93⟩ := bind_some h93
   refine RL.callK (vs := [v0, .int .i64 x45, .int .i64 x46, .func (.func f4) #[] c4]) (V := fun (o : Unit) => .tuple #[]) (LR := fun (o : Unit) => [own 30 TrA v0 y106]) (Ls := [own 30 TrA v0 l44]) [0] (by decide) Tryz_fit67 rfl rfl rfl rfl rfl rfl (fun S f X w hO hB hW hI hL => slices_insertionSortCmpFunc_api_Account_c _ S X f w _ _  hO hB hI x45 x46 f4 c4 t4 g4 (fun U' w' hle => k4 U' w' (Hp.le_trans hW hle)) _ e107) ?_
   intro _
   refine RL.reL (L' := [gone, keep X, own 30 TrA v0 y106]) rfl ?_
   refine RL.finG ?_
   cases h93
   replace h94 : some (Fl.rt _) = some y83 := h94
   cases h94
   have hh := h88 _ h86
   subst hh
   exact GL.ret (Gx.ret (v := .tuple #[]) (res0 rfl) (fun a w st => (st.pick [2, 1] (by decide) rfl).toPostM (V := fun (o : Unit) => .tuple #[]) (LR := fun (o : Unit) => [own 30 TrA v0 y106, keep X]) ()))
  replace h93 := ite_f b99 h93
  refine GL.skip ?_
  refine GL.seq ?_
  refine GL.seq ?_
  refine GL.region ?_
  refine RL.mv rfl rfl rfl ?_
  refine RL.binI (v := .bool (x47 == (0 : Int))) rfl rfl rfl rfl rfl ?_
  refine RL.finG ?_
  refine GL.cond rfl (fun b120 => ?_) (fun b120 => ?_)
  ·replace h93 := ite_t b120 h93
   cases h93
  replace h93 := ite_f b120 h93
  cases h93
 rintro ⟨l44, x45, x46, x47, x48, x49⟩ h132
 have h133 := h87 _ h132
 try dsimp only at h133
 cases h133

set_option maxHeartbeats 4000000 in
theorem slices_SortFunc_api_Account_api_Account_c (B : World) (S X : Hp) (f : Nat → Hp) (w : World) (v0 : Value) (x0 : (List ((List UInt8) × (Int × Int)))) (hO : HeapOk B.heap.size S f [own 30 TrA v0 x0, keep X].length w) (hB : Below B.heap.size B w) (hI : Its [own 30 TrA v0 x0, keep X] S f) (f1 : FuncId) (c1 : Array Value) (t1 : Fit Tryz.prog f1) (g1 : ((List UInt8) × (Int × Int)) → ((List UInt8) × (Int × Int)) → Option Int) (k1 : ∀ (U : Hp) (w' : World), Hp.le S U → U.sub w' → ∀ (u0 : Value) (a0 : ((List UInt8) × (Int × Int))) (_ : (TrA).vrep U u0 a0) (u1 : Value) (a1 : ((List UInt8) × (Int × Int))) (_ : (TrA).vrep U u1 a1) (rr : Int), g1 a0 a1 = some rr → Calls Tryz.prog f1 (#[u0, u1] ++ c1) w' (PostV w' (.int .i64 rr))) (res : (List ((List UInt8) × (Int × Int)))) (hm : slices_SortFunc_api_Account_api_Account_m x0 g1 = some res) : Calls Tryz.prog 31 #[v0, .func (.func f1) #[] c1] w (PostM B S (fun (o : Unit) => .tuple #[]) (fun (o : Unit) => [own 30 TrA v0 res, keep X])) := by
 refine calls_enterM 14 Tryz.func31 Tryz.ntmps31 rfl B S f [(0, v0), (1, .func (.func f1) #[] c1)] [own 30 TrA v0 x0, keep X] [] rfl ⟨rfl, ⟨rfl, trivial⟩⟩ hB hO hI trivial ?_
 unfold slices_SortFunc_api_Account_api_Account_m at hm
 refine GL.seq ?_
 refine GL.region ?_
 refine RL.mv rfl rfl rfl ?_
 refine RL.lenS 0 Tryz.underlying22 rfl rfl rfl rfl SlOf.own ?_
 refine RL.asg rfl rfl rfl ?_
 refine RL.finG ?_
 refine GL.region ?_
 refine RL.mv rfl rfl rfl ?_
 refine RL.mv rfl rfl rfl ?_
 refine RL.mv rfl rfl rfl ?_
 refine RL.cvI Tryz.underlying3 Tryz.underlying91 rfl rfl rfl ?_
 obtain ⟨y7, e8, hm⟩ := bind_some hm
 refine RL.callC (v := .int .i64 y7) (vs := [.int .u64 (IntKind.wrap .u64 ((x0).length : Int))]) Tryz_fit53 rfl rfl rfl rfl (fun U w hU hW hL => math_bits_Len_c U w hU (IntKind.wrap .u64 ((x0).length : Int)) _ e8) ?_
 refine RL.mv rfl rfl rfl ?_
 obtain ⟨y9, e10, hm⟩ := bind_some hm
 refine RL.callK (vs := [v0, .int .i64 (0 : Int), .int .i64 ((x0).length : Int), .int .i64 y7, .func (.func f1) #[] c1]) (V := fun (o : Unit) => .tuple #[]) (LR := fun (o : Unit) => [own 30 TrA v0 y9]) (Ls := [own 30 TrA v0 x0]) [0] (by decide) Tryz_fit52 rfl rfl rfl rfl rfl rfl (fun S f X w hO hB hW hI hL => slices_pdqsortCmpFunc_api_Account_c _ S X f w _ _  hO hB hI (0 : Int) ((x0).length : Int) y7 f1 c1 t1 g1 (fun U' w' hle => k1 U' w' (Hp.le_trans hW hle)) _ e10) ?_
 intro _
 refine RL.reL (L' := [gone, keep X, own 30 TrA v0 y9]) rfl ?_
 refine RL.finG ?_
 have hm := Option.some.inj hm
 subst hm
 exact GL.nil (Gx.retN (v := .tuple #[]) (res0 rfl) (fun a w st => (st.pick [2, 1] (by decide) rfl).toPostM (V := fun (o : Unit) => .tuple #[]) (LR := fun (o : Unit) => [own 30 TrA v0 y9, keep X]) ()))

set_option maxHeartbeats 4000000 in
theorem ledger_Open_1_c (S : Hp) (w : World) (hS : S.sub w) (v0 : Value) (x0 : ((List UInt8) × (Int × Int))) (k0 : (TrA).vrep S v0 x0) (v1 : Value) (x1 : ((List UInt8) × (Int × Int))) (k1 : (TrA).vrep S v1 x1) (res : Int) (hm : ledger_Open_1_m x0 x1 = some res) : Calls Tryz.prog 32 #[v0, v1] w (PostV w (.int .i64 res)) := by
 refine calls_enter 10 Tryz.func32 Tryz.ntmps32 rfl S false [(0, v0), (1, v1)] [imm TrA v0 x0, imm TrA v1 x1] rfl ⟨rfl, ⟨rfl, trivial⟩⟩ hS ⟨k0, ⟨k1, trivial⟩⟩ ?_
 unfold ledger_Open_1_m at hm
 refine GL.seq ?_
 refine GL.region ?_
 refine RL.box (t := TrA) (e := x0) rfl rfl rfl rfl (VR.item 0 rfl) ?_
 intro v5
 refine RL.box (t := TrA) (e := x1) rfl rfl rfl rfl (VR.item 1 rfl) ?_
 intro v6
 refine RL.reL (L' := [imm TrA v0 x0, imm TrA v1 x1, obox 30 TrA v5 x0, obox 30 TrA v6 x1]) rfl ?_
 refine RL.asg rfl rfl rfl ?_
 refine RL.finG ?_
 refine GL.seq ?_
 refine GL.seq ?_
 refine GL.region ?_
 refine RL.fadr (off := 0) (fo := 0) 2 Tryz_fld30_0 rfl rfl rfl PtOf.obox (Or.inr ⟨rfl, rfl⟩) ?_
 refine RL.ldPx (off := (0 + 0)) (e' := x0.1) 2 Ex.str Tryz_ln9 rfl rfl (Or.inl rfl) rfl PtOf.obox (Part.fst Part.self) ?_
 refine RL.fadr (off := 0) (fo := 0) 3 Tryz_fld30_0 rfl rfl rfl PtOf.obox (Or.inr ⟨rfl, rfl⟩) ?_
 refine RL.ldPx (off := (0 + 0)) (e' := x1.1) 3 Ex.str Tryz_ln9 rfl rfl (Or.inl rfl) rfl PtOf.obox (Part.fst Part.self) ?_
 refine RL.binS (v := .bool (bls x0.1 x1.1)) rfl rfl rfl rfl rfl ?_
 refine RL.finG ?_
 refine GL.cond rfl (fun b7 => ?_) (fun b7 => ?_)
 ·replace hm := ite_t b7 hm
  refine GL.seq ?_
  refine GL.region ?_
  refine RL.asg rfl rfl rfl ?_
  refine RL.finG ?_
  have hm := Option.some.inj hm
  subst hm
  exact GL.ret (Gx.ret (v := .int .i64 (-1 : Int)) (res1 rfl rfl) (fun a w st => st.toPostV))
 replace hm := ite_f b7 hm
 refine GL.skip ?_
 refine GL.seq ?_
 refine GL.region ?_
 refine RL.asg rfl rfl rfl ?_
 refine RL.finG ?_
 have hm := Option.some.inj hm
 subst hm
 exact GL.ret (Gx.ret (v := .int .i64 (1 : Int)) (res1 rfl rfl) (fun a w st => st.toPostV))

set_option maxHeartbeats 4000000 in
theorem ledger_Open_c (S : Hp) (w : World) (hS : S.sub w) (v0 : Value) (x0 : (List ((List UInt8) × (Int × Int)))) (k0 : ((TR.sl TrA)).vrep S v0 x0) (x1 : (List UInt8)) (x2 : Int) (res : (List ((List UInt8) × (Int × Int))) × Int) (hm : ledger_Open_m x0 x1 x2 = some res) : Calls Tryz.prog 12 #[v0, .string ⟨(x1 : List UInt8).toArray⟩, .int .i64 x2] w (Post w S (fun (o : Value) => .tuple #[o, .int .i64 res.2]) (fun (o : Value) => [own 30 TrA o res.1])) := by
 refine calls_enter 45 Tryz.func12 Tryz.ntmps12 rfl S false [(0, v0), (1, .string ⟨(x1 : List UInt8).toArray⟩), (2, .int .i64 x2)] [imm (TR.sl TrA) v0 x0] rfl ⟨rfl, ⟨rfl, ⟨rfl, trivial⟩⟩⟩ hS ⟨k0, trivial⟩ ?_
 unfold ledger_Open_m at hm
 refine GL.seq ?_
 refine GL.region ?_
 refine RL.asg rfl rfl rfl ?_
 refine RL.asg rfl rfl rfl ?_
 refine RL.finG ?_
 refine GL.seq ?_
 refine GL.seq ?_
 refine GL.region ?_
 refine RL.mv rfl rfl rfl ?_
 obtain ⟨y6, e7, hm⟩ := bind_some hm
 refine RL.callV (v := .int .i64 y6) (vs := [v0]) Tryz_fit27 rfl (Or.inl rfl) rfl rfl rfl rfl (fun U w hU hW hL => ledger_Check_c U w hU _ _ (hL 0 _ _ rfl Seen.imm) _ e7) ?_
 refine RL.asg rfl rfl rfl ?_
 refine RL.finG ?_
 refine GL.seq ?_
 refine GL.region ?_
 refine RL.mv rfl rfl rfl ?_
 refine RL.binI (v := .bool (y6 != (0 : Int))) rfl rfl rfl rfl rfl ?_
 refine RL.finG ?_
 refine GL.cond rfl (fun b8 => ?_) (fun b8 => ?_)
 ·replace hm := ite_t b8 hm
  refine GL.seq ?_
  refine GL.region ?_
  refine RL.mv rfl rfl rfl ?_
  refine RL.asg rfl rfl rfl ?_
  refine RL.asg rfl rfl rfl ?_
  refine RL.finG ?_
  refine GL.weak (fun a w st => st.nilOwn 30 TrA) ?_
  have hm := Option.some.inj hm
  subst hm
  exact GL.ret (Gx.ret (v := .tuple #[Value.slice none 0 0, .int .i64 y6]) (res2 rfl rfl rfl) (fun a w st => (st.pick [1] (by decide) rfl).toPost (Value.slice none 0 0)))
 replace hm := ite_f b8 hm
 refine GL.skip ?_
 refine GL.seq ?_
 refine GL.block ?_
 refine GL.seq ?_
 refine GL.region ?_
 refine RL.mv rfl rfl rfl ?_
 obtain ⟨y11, e12, hm⟩ := bind_some hm
 refine RL.callV (v := .bool y11) (vs := [.string ⟨(x1 : List UInt8).toArray⟩]) Tryz_fit30 rfl (Or.inl rfl) rfl rfl rfl rfl (fun U w hU hW hL => ledger_named_c U w hU x1 _ e12) ?_
 refine RL.notB rfl rfl rfl ?_
 refine RL.asg rfl rfl rfl ?_
 refine RL.finG ?_
 refine GL.cond rfl (fun b13 => ?_) (fun b13 => ?_)
 ·replace hm := ite_t b13 hm
  refine GL.seq ?_
  refine GL.region ?_
  refine RL.asg rfl rfl rfl ?_
  refine RL.asg rfl rfl rfl ?_
  refine RL.finG ?_
  refine GL.weak (fun a w st => st.nilOwn 30 TrA) ?_
  have hm := Option.some.inj hm
  subst hm
  exact GL.ret (Gx.ret (v := .tuple #[Value.slice none 0 0, .int .i64 (3 : Int)]) (res2 rfl rfl rfl) (fun a w st => (st.pick [1] (by decide) rfl).toPost (Value.slice none 0 0)))
 replace hm := ite_f b13 hm
 refine GL.seq ?_
 obtain ⟨y17, K18, h19, h20, h21, h22, h23⟩ := bindR_K hm
 refine GL.join (ι := Bool) (fun (p : Bool) => [(0, v0), (1, .string ⟨(x1 : List UInt8).toArray⟩), (2, .int .i64 x2), (19, .bool p)]) (fun (p : Bool) => [imm (TR.sl TrA) v0 x0]) (fun (p : Bool) => K18 (.nx p)) ?_ ?_
 ·skip
  refine GL.region ?_
  refine RL.mv rfl rfl rfl ?_
  refine RL.binI (v := .bool (decide (x2 < (0 : Int)))) rfl rfl rfl rfl rfl ?_
  refine RL.mv rfl rfl rfl ?_
  refine RL.split (t := 22) rfl (fun b24 => ?_) (fun b24 => ?_)
  ·replace h19 := ite_t b24 h19
   refine RL.skip rfl rfl ?_
   refine RL.skip rfl rfl ?_
   refine RL.pickT rfl rfl rfl rfl ?_
   refine RL.asg rfl rfl rfl ?_
   refine RL.fin ?_
   cases h19
   exact fun a w st => mid_intro true h20 (St.cut [0] ⟨rfl, rfl, rfl, rfl, trivial⟩ (by decide) rfl st)
  replace h19 := ite_f b24 h19
  refine RL.mv rfl rfl rfl ?_
  refine RL.binI (v := .bool (decide (x2 > (1000000 : Int)))) rfl rfl rfl rfl rfl ?_
  refine RL.pickF rfl rfl rfl rfl ?_
  refine RL.asg rfl rfl rfl ?_
  refine RL.fin ?_
  cases h19
  exact fun a w st => mid_intro (decide (x2 > (1000000 : Int))) h20 (St.cut [0] ⟨rfl, rfl, rfl, rfl, trivial⟩ (by decide) rfl st)
 rintro x16 h25
 have h26 := h21 _ h25
 try dsimp only at h26
 refine GL.weak (env' := [(0, v0), (1, .string ⟨(x1 : List UInt8).toArray⟩), (2, .int .i64 x2), (19, .bool x16)]) (L' := [imm (TR.sl TrA) v0 x0]) (fun _ _ st => st) ?_
 refine GL.cond rfl (fun b27 => ?_) (fun b27 => ?_)
 ·replace h26 := ite_t b27 h26
  refine GL.seq ?_
  refine GL.region ?_
  refine RL.asg rfl rfl rfl ?_
  refine RL.asg rfl rfl rfl ?_
  refine RL.finG ?_
  refine GL.weak (fun a w st => st.nilOwn 30 TrA) ?_
  have h26 := Option.some.inj h26
  subst h26
  exact GL.ret (Gx.ret (v := .tuple #[Value.slice none 0 0, .int .i64 (1 : Int)]) (res2 rfl rfl rfl) (fun a w st => (st.pick [1] (by decide) rfl).toPost (Value.slice none 0 0)))
 replace h26 := ite_f b27 h26
 refine GL.seq ?_
 refine GL.region ?_
 refine RL.mv rfl rfl rfl ?_
 refine RL.mv rfl rfl rfl ?_
 obtain ⟨y30, e31, h26⟩ := bind_some h26
 refine RL.callV (v := .int .i64 y30) (vs := [v0, .string ⟨(x1 : List UInt8).toArray⟩]) Tryz_fit29 rfl (Or.inl rfl) rfl rfl rfl rfl (fun U w hU hW hL => ledger_find_c U w hU _ _ (hL 0 _ _ rfl Seen.imm) x1 _ e31) ?_
 refine RL.binI (v := .bool (decide (y30 ≥ (0 : Int)))) rfl rfl rfl rfl rfl ?_
 refine RL.asg rfl rfl rfl ?_
 refine RL.finG ?_
 refine GL.cond rfl (fun b32 => ?_) (fun b32 => ?_)
 ·replace h26 := ite_t b32 h26
  refine GL.seq ?_
  refine GL.region ?_
  refine RL.asg rfl rfl rfl ?_
  refine RL.asg rfl rfl rfl ?_
  refine RL.finG ?_
  refine GL.weak (fun a w st => st.nilOwn 30 TrA) ?_
  have h26 := Option.some.inj h26
  subst h26
  exact GL.ret (Gx.ret (v := .tuple #[Value.slice none 0 0, .int .i64 (7 : Int)]) (res2 rfl rfl rfl) (fun a w st => (st.pick [1] (by decide) rfl).toPost (Value.slice none 0 0)))
 replace h26 := ite_f b32 h26
 refine GL.seq ?_
 refine GL.region ?_
 refine RL.mv rfl rfl rfl ?_
 refine RL.lenS 0 Tryz.underlying22 rfl rfl rfl rfl SlOf.imm ?_
 refine RL.binI (v := .bool (((x0).length : Int) == (6 : Int))) rfl rfl rfl rfl rfl ?_
 refine RL.asg rfl rfl rfl ?_
 refine RL.finG ?_
 refine GL.cond rfl (fun b33 => ?_) (fun b33 => ?_)
 ·replace h26 := ite_t b33 h26
  refine GL.seq ?_
  refine GL.region ?_
  refine RL.asg rfl rfl rfl ?_
  refine RL.asg rfl rfl rfl ?_
  refine RL.finG ?_
  refine GL.weak (fun a w st => st.nilOwn 30 TrA) ?_
  have h26 := Option.some.inj h26
  subst h26
  exact GL.ret (Gx.ret (v := .tuple #[Value.slice none 0 0, .int .i64 (8 : Int)]) (res2 rfl rfl rfl) (fun a w st => (st.pick [1] (by decide) rfl).toPost (Value.slice none 0 0)))
 replace h26 := ite_f b33 h26
 refine GL.skip ?_
 refine GL.nilB ?_
 refine GL.seq ?_
 refine GL.region ?_
 refine RL.mv rfl rfl rfl ?_
 obtain ⟨y42, e43, h26⟩ := bind_some h26
 refine RL.call (vs := [v0]) Tryz_fit8 rfl rfl rfl rfl rfl (fun S f w hS hW hi => slices_Clone_api_Account_api_Account_c S w hS _ _ (hi 0 _ rfl) _ e43) ?_
 intro v44
 refine RL.mv rfl rfl rfl ?_
 refine RL.mv rfl rfl rfl ?_
 refine RL.bld (t := TrA) (d0 := ((x1, x2, (0 : Int)) : ((List UInt8) × (Int × Int)))) (pv := [(0, .string ⟨(x1 : List UInt8).toArray⟩), (1, .int .i64 x2)]) rfl Tryz_bld30 rfl rfl rfl ⟨⟨_, _, TR.str, x1, rfl, rfl, VR.str⟩, ⟨⟨_, _, TR.int, x2, rfl, rfl, VR.int⟩, trivial⟩⟩ (fun S f hi => by
   obtain ⟨c0, e0, r0⟩ := cells_vrep (t := TR.str) (u := .string ⟨(x1 : List UInt8).toArray⟩) (e := x1) (VR.str S f hi)
   obtain ⟨c1, e1, r1⟩ := cells_vrep (t := TR.int) (u := .int .i64 x2) (e := x2) (VR.int S f hi)
   show TR.rep TrA S (List.flatten [(.string ⟨(x1 : List UInt8).toArray⟩ : Value).cells.toList, (.int .i64 x2 : Value).cells.toList, [.int .i64 0]]) _
   simp only [e0, e1,  List.flatten_cons, List.flatten_nil, List.append_nil]
   exact ⟨_, _, rfl, r0, ⟨_, _, rfl, r1, rfl⟩⟩) ?_
 intro v45
 refine RL.reL (L' := [imm (TR.sl TrA) v0 x0, own 30 TrA v44 y42, imm TrA v45 ((x1, x2, (0 : Int)) : ((List UInt8) × (Int × Int)))]) rfl ?_
 refine RL.bS (t := TrA) (vs := [v45]) ([((x1, x2, (0 : Int)) : ((List UInt8) × (Int × Int)))] : (List ((List UInt8) × (Int × Int)))) Tryz.underlying22 Tryz_lo30 rfl rfl rfl rfl ⟨(VR.item 2 rfl), trivial⟩ rfl (by decide) ?_
 intro v46
 obtain ⟨y47, e48, h26⟩ := bind_some h26
 replace e48 := chk_some e48
 refine RL.app 1 3 Tryz.underlying22 Tryz_lo30 rfl rfl rfl rfl rfl rfl rfl SlOf.own e48 ?_
 intro v49
 refine RL.reL (L' := [imm (TR.sl TrA) v0 x0, own 30 TrA v49 (y42 ++ ([((x1, x2, (0 : Int)) : ((List UInt8) × (Int × Int)))] : (List ((List UInt8) × (Int × Int))))), imm TrA v45 ((x1, x2, (0 : Int)) : ((List UInt8) × (Int × Int))), own 30 TrA v46 ([((x1, x2, (0 : Int)) : ((List UInt8) × (Int × Int)))] : (List ((List UInt8) × (Int × Int))))]) rfl ?_
 refine RL.asg rfl rfl rfl ?_
 refine RL.finG ?_
 refine GL.seq ?_
 refine GL.region ?_
 refine RL.mv rfl rfl rfl ?_
 obtain ⟨y52, e53, h26⟩ := bind_some h26
 refine RL.callK (vs := [v49, .func (.func 32) #[] #[]]) (V := fun (o : Unit) => .tuple #[]) (LR := fun (o : Unit) => [own 30 TrA v49 y52]) (Ls := [own 30 TrA v49 (y42 ++ ([((x1, x2, (0 : Int)) : ((List UInt8) × (Int × Int)))] : (List ((List UInt8) × (Int × Int)))))]) [1] (by decide) Tryz_fit31 rfl rfl rfl rfl rfl rfl (fun S f X w hO hB hW hI hL => slices_SortFunc_api_Account_api_Account_c _ S X f w _ _  hO hB hI 32 #[] Tryz_fit32 (fun a0 a1 => ledger_Open_1_m a0 a1) (fun U' w' hle hU' u0 a0 q0 u1 a1 q1 rr hr => (ledger_Open_1_c U' w' hU' u0 a0 q0 u1 a1 q1 rr hr).mono (fun _ _ z => z)) _ e53) ?_
 intro _
 refine RL.reL (L' := [imm (TR.sl TrA) v0 x0, gone, imm TrA v45 ((x1, x2, (0 : Int)) : ((List UInt8) × (Int × Int))), own 30 TrA v46 ([((x1, x2, (0 : Int)) : ((List UInt8) × (Int × Int)))] : (List ((List UInt8) × (Int × Int)))), own 30 TrA v49 y52]) rfl ?_
 refine RL.finG ?_
 refine GL.seq ?_
 refine GL.region ?_
 refine RL.mv rfl rfl rfl ?_
 refine RL.asg rfl rfl rfl ?_
 refine RL.asg rfl rfl rfl ?_
 refine RL.finG ?_
 have h26 := Option.some.inj h26
 subst h26
 exact GL.ret (Gx.ret (v := .tuple #[v49, .int .i64 (0 : Int)]) (res2 rfl rfl rfl) (fun a w st => (st.pick [4] (by decide) rfl).toPost v49))

set_option maxHeartbeats 4000000 in
theorem ledger_Right_c (S : Hp) (w : World) (hS : S.sub w) (v0 : Value) (x0 : ((List UInt8) × ((List UInt8) × (Int × (Int × (Int × Int)))))) (k0 : (TrD).vrep S v0 x0) (res : Int) (hm : ledger_Right_m x0 = some res) : Calls Tryz.prog 28 #[v0] w (PostV w (.int .i64 res)) := by
 refine calls_enter 58 Tryz.func28 Tryz.ntmps28 rfl S false [(0, v0)] [imm TrD v0 x0] rfl ⟨rfl, trivial⟩ hS ⟨k0, trivial⟩ ?_
 unfold ledger_Right_m at hm
 refine GL.seq ?_
 refine GL.region ?_
 refine RL.box (t := TrD) (e := x0) rfl rfl rfl rfl (VR.item 0 rfl) ?_
 intro v3
 refine RL.asg rfl rfl rfl ?_
 refine RL.finG ?_
 refine GL.seq ?_
 refine GL.seq ?_
 obtain ⟨y17, K18, h19, h20, h21, h22, h23⟩ := bindR_K hm
 refine GL.join (ι := Bool) (fun (p : Bool) => [(1, v3), (19, .bool p)]) (fun (p : Bool) => [obox 24 TrD v3 x0]) (fun (p : Bool) => K18 (.nx p)) ?_ ?_
 ·skip
  refine GL.region ?_
  refine RL.fadr (off := 0) (fo := 0) 1 Tryz_fld24_0 rfl rfl rfl PtOf.obox (Or.inr ⟨rfl, rfl⟩) ?_
  refine RL.ldPx (off := (0 + 0)) (e' := x0.1) 1 Ex.str Tryz_ln9 rfl rfl (Or.inl rfl) rfl PtOf.obox (Part.fst Part.self) ?_
  obtain ⟨y24, e25, h19⟩ := bind_some h19
  refine RL.callV (v := .bool y24) (vs := [.string ⟨(x0.1 : List UInt8).toArray⟩]) Tryz_fit30 rfl (Or.inl rfl) rfl rfl rfl rfl (fun U w hU hW hL => ledger_named_c U w hU x0.1 _ e25) ?_
  refine RL.notB rfl rfl rfl ?_
  refine RL.mv rfl rfl rfl ?_
  refine RL.split (t := 7) rfl (fun b26 => ?_) (fun b26 => ?_)
  ·replace h19 := ite_t b26 h19
   refine RL.skip rfl rfl ?_
   refine RL.skip rfl rfl ?_
   refine RL.skip rfl rfl ?_
   refine RL.skip rfl rfl ?_
   refine RL.pickT rfl rfl rfl rfl ?_
   refine RL.mv rfl rfl rfl ?_
   refine RL.skip rfl rfl ?_
   refine RL.skip rfl rfl ?_
   refine RL.skip rfl rfl ?_
   refine RL.skip rfl rfl ?_
   refine RL.skip rfl rfl ?_
   refine RL.pickT rfl rfl rfl rfl ?_
   refine RL.fin ?_
   cases h19
   exact fun a w st => mid_intro true h20 (St.cut [1] ⟨rfl, rfl, trivial⟩ (by decide) rfl st)
  replace h19 := ite_f b26 h19
  refine RL.fadr (off := 0) (fo := 1) 1 Tryz_fld24_1 rfl rfl rfl PtOf.obox (Or.inr ⟨rfl, rfl⟩) ?_
  refine RL.ldPx (off := (0 + 1)) (e' := x0.2.1) 1 Ex.str Tryz_ln9 rfl rfl (Or.inl rfl) rfl PtOf.obox (Part.snd (Part.fst Part.self)) ?_
  obtain ⟨y27, e28, h19⟩ := bind_some h19
  refine RL.callV (v := .bool y27) (vs := [.string ⟨(x0.2.1 : List UInt8).toArray⟩]) Tryz_fit30 rfl (Or.inl rfl) rfl rfl rfl rfl (fun U w hU hW hL => ledger_named_c U w hU x0.2.1 _ e28) ?_
  refine RL.notB rfl rfl rfl ?_
  refine RL.pickF rfl rfl rfl rfl ?_
  refine RL.mv rfl rfl rfl ?_
  refine RL.split (t := 13) rfl (fun b29 => ?_) (fun b29 => ?_)
  ·replace h19 := ite_t b29 h19
   refine RL.skip rfl rfl ?_
   refine RL.skip rfl rfl ?_
   refine RL.skip rfl rfl ?_
   refine RL.skip rfl rfl ?_
   refine RL.skip rfl rfl ?_
   refine RL.pickT rfl rfl rfl rfl ?_
   refine RL.fin ?_
   cases h19
   exact fun a w st => mid_intro true h20 (St.cut [1] ⟨rfl, rfl, trivial⟩ (by decide) rfl st)
  replace h19 := ite_f b29 h19
  refine RL.fadr (off := 0) (fo := 0) 1 Tryz_fld24_0 rfl rfl rfl PtOf.obox (Or.inr ⟨rfl, rfl⟩) ?_
  refine RL.ldPx (off := (0 + 0)) (e' := x0.1) 1 Ex.str Tryz_ln9 rfl rfl (Or.inl rfl) rfl PtOf.obox (Part.fst Part.self) ?_
  refine RL.fadr (off := 0) (fo := 1) 1 Tryz_fld24_1 rfl rfl rfl PtOf.obox (Or.inr ⟨rfl, rfl⟩) ?_
  refine RL.ldPx (off := (0 + 1)) (e' := x0.2.1) 1 Ex.str Tryz_ln9 rfl rfl (Or.inl rfl) rfl PtOf.obox (Part.snd (Part.fst Part.self)) ?_
  refine RL.binS (v := .bool (x0.1 == x0.2.1)) rfl rfl rfl rfl rfl ?_
  refine RL.pickF rfl rfl rfl rfl ?_
  refine RL.fin ?_
  cases h19
  exact fun a w st => mid_intro (x0.1 == x0.2.1) h20 (St.cut [1] ⟨rfl, rfl, trivial⟩ (by decide) rfl st)
 rintro x16 h30
 have h31 := h21 _ h30
 try dsimp only at h31
 refine GL.weak (env' := [(1, v3), (19, .bool x16)]) (L' := [obox 24 TrD v3 x0]) (fun _ _ st => st) ?_
 refine GL.cond rfl (fun b32 => ?_) (fun b32 => ?_)
 ·replace h31 := ite_t b32 h31
  refine GL.seq ?_
  refine GL.region ?_
  refine RL.asg rfl rfl rfl ?_
  refine RL.finG ?_
  have h31 := Option.some.inj h31
  subst h31
  exact GL.ret (Gx.ret (v := .int .i64 (3 : Int)) (res1 rfl rfl) (fun a w st => st.toPostV))
 replace h31 := ite_f b32 h31
 refine GL.skip ?_
 refine GL.seq ?_
 refine GL.seq ?_
 obtain ⟨y48, K49, h50, h51, h52, h53, h54⟩ := bindR_K h31
 refine GL.join (ι := Bool) (fun (p : Bool) => [(57, .bool p)]) (fun (p : Bool) => []) (fun (p : Bool) => K49 (.nx p)) ?_ ?_
 ·skip
  refine GL.region ?_
  refine RL.fadr (off := 0) (fo := 2) 0 Tryz_fld24_2 rfl rfl rfl PtOf.obox (Or.inr ⟨rfl, rfl⟩) ?_
  refine RL.ldPx (off := (0 + 2)) (e' := x0.2.2.1) 0 Ex.ik Tryz_ln3 rfl rfl (Or.inl rfl) rfl PtOf.obox (Part.snd (Part.snd (Part.fst Part.self))) ?_
  refine RL.binI (v := .bool (decide (x0.2.2.1 < (0 : Int)))) rfl rfl rfl rfl rfl ?_
  refine RL.mv rfl rfl rfl ?_
  refine RL.split (t := 23) rfl (fun b55 => ?_) (fun b55 => ?_)
  ·replace h50 := ite_t b55 h50
   refine RL.skip rfl rfl ?_
   refine RL.skip rfl rfl ?_
   refine RL.skip rfl rfl ?_
   refine RL.pickT rfl rfl rfl rfl ?_
   refine RL.mv rfl rfl rfl ?_
   refine RL.skip rfl rfl ?_
   refine RL.skip rfl rfl ?_
   refine RL.skip rfl rfl ?_
   refine RL.pickT rfl rfl rfl rfl ?_
   refine RL.mv rfl rfl rfl ?_
   refine RL.skip rfl rfl ?_
   refine RL.skip rfl rfl ?_
   refine RL.skip rfl rfl ?_
   refine RL.pickT rfl rfl rfl rfl ?_
   refine RL.mv rfl rfl rfl ?_
   refine RL.skip rfl rfl ?_
   refine RL.skip rfl rfl ?_
   refine RL.skip rfl rfl ?_
   refine RL.pickT rfl rfl rfl rfl ?_
   refine RL.mv rfl rfl rfl ?_
   refine RL.skip rfl rfl ?_
   refine RL.skip rfl rfl ?_
   refine RL.skip rfl rfl ?_
   refine RL.pickT rfl rfl rfl rfl ?_
   refine RL.mv rfl rfl rfl ?_
   refine RL.skip rfl rfl ?_
   refine RL.skip rfl rfl ?_
   refine RL.skip rfl rfl ?_
   refine RL.pickT rfl rfl rfl rfl ?_
   refine RL.mv rfl rfl rfl ?_
   refine RL.skip rfl rfl ?_
   refine RL.skip rfl rfl ?_
   refine RL.skip rfl rfl ?_
   refine RL.pickT rfl rfl rfl rfl ?_
   refine RL.fin ?_
   cases h50
   exact fun a w st => mid_intro true h51 (St.cut [] ⟨rfl, trivial⟩ (by decide) rfl st)
  replace h50 := ite_f b55 h50
  refine RL.fadr (off := 0) (fo := 2) 0 Tryz_fld24_2 rfl rfl rfl PtOf.obox (Or.inr ⟨rfl, rfl⟩) ?_
  refine RL.ldPx (off := (0 + 2)) (e' := x0.2.2.1) 0 Ex.ik Tryz_ln3 rfl rfl (Or.inl rfl) rfl PtOf.obox (Part.snd (Part.snd (Part.fst Part.self))) ?_
  refine RL.binI (v := .bool (decide (x0.2.2.1 > (1000000 : Int)))) rfl rfl rfl rfl rfl ?_
  refine RL.pickF rfl rfl rfl rfl ?_
  refine RL.mv rfl rfl rfl ?_
  refine RL.split (t := 28) rfl (fun b56 => ?_) (fun b56 => ?_)
  ·replace h50 := ite_t b56 h50
   refine RL.skip rfl rfl ?_
   refine RL.skip rfl rfl ?_
   refine RL.skip rfl rfl ?_
   refine RL.pickT rfl rfl rfl rfl ?_
   refine RL.mv rfl rfl rfl ?_
   refine RL.skip rfl rfl ?_
   refine RL.skip rfl rfl ?_
   refine RL.skip rfl rfl ?_
   refine RL.pickT rfl rfl rfl rfl ?_
   refine RL.mv rfl rfl rfl ?_
   refine RL.skip rfl rfl ?_
   refine RL.skip rfl rfl ?_
   refine RL.skip rfl rfl ?_
   refine RL.pickT rfl rfl rfl rfl ?_
   refine RL.mv rfl rfl rfl ?_
   refine RL.skip rfl rfl ?_
   refine RL.skip rfl rfl ?_
   refine RL.skip rfl rfl ?_
   refine RL.pickT rfl rfl rfl rfl ?_
   refine RL.mv rfl rfl rfl ?_
   refine RL.skip rfl rfl ?_
   refine RL.skip rfl rfl ?_
   refine RL.skip rfl rfl ?_
   refine RL.pickT rfl rfl rfl rfl ?_
   refine RL.mv rfl rfl rfl ?_
   refine RL.skip rfl rfl ?_
   refine RL.skip rfl rfl ?_
   refine RL.skip rfl rfl ?_
   refine RL.pickT rfl rfl rfl rfl ?_
   refine RL.fin ?_
   cases h50
   exact fun a w st => mid_intro true h51 (St.cut [] ⟨rfl, trivial⟩ (by decide) rfl st)
  replace h50 := ite_f b56 h50
  refine RL.fadr (off := 0) (fo := 3) 0 Tryz_fld24_3 rfl rfl rfl PtOf.obox (Or.inr ⟨rfl, rfl⟩) ?_
  refine RL.ldPx (off := (0 + 3)) (e' := x0.2.2.2.1) 0 Ex.ik Tryz_ln3 rfl rfl (Or.inl rfl) rfl PtOf.obox (Part.snd (Part.snd (Part.snd (Part.fst Part.self)))) ?_
  refine RL.binI (v := .bool (decide (x0.2.2.2.1 < (0 : Int)))) rfl rfl rfl rfl rfl ?_
  refine RL.pickF rfl rfl rfl rfl ?_
  refine RL.mv rfl rfl rfl ?_
  refine RL.split (t := 33) rfl (fun b57 => ?_) (fun b57 => ?_)
  ·replace h50 := ite_t b57 h50
   refine RL.skip rfl rfl ?_
   refine RL.skip rfl rfl ?_
   refine RL.skip rfl rfl ?_
   refine RL.pickT rfl rfl rfl rfl ?_
   refine RL.mv rfl rfl rfl ?_
   refine RL.skip rfl rfl ?_
   refine RL.skip rfl rfl ?_
   refine RL.skip rfl rfl ?_
   refine RL.pickT rfl rfl rfl rfl ?_
   refine RL.mv rfl rfl rfl ?_
   refine RL.skip rfl rfl ?_
   refine RL.skip rfl rfl ?_
   refine RL.skip rfl rfl ?_
   refine RL.pickT rfl rfl rfl rfl ?_
   refine RL.mv rfl rfl rfl ?_
   refine RL.skip rfl rfl ?_
   refine RL.skip rfl rfl ?_
   refine RL.skip rfl rfl ?_
   refine RL.pickT rfl rfl rfl rfl ?_
   refine RL.mv rfl rfl rfl ?_
   refine RL.skip rfl rfl ?_
   refine RL.skip rfl rfl ?_
   refine RL.skip rfl rfl ?_
   refine RL.pickT rfl rfl rfl rfl ?_
   refine RL.fin ?_
   cases h50
   exact fun a w st => mid_intro true h51 (St.cut [] ⟨rfl, trivial⟩ (by decide) rfl st)
  replace h50 := ite_f b57 h50
  refine RL.fadr (off := 0) (fo := 3) 0 Tryz_fld24_3 rfl rfl rfl PtOf.obox (Or.inr ⟨rfl, rfl⟩) ?_
  refine RL.ldPx (off := (0 + 3)) (e' := x0.2.2.2.1) 0 Ex.ik Tryz_ln3 rfl rfl (Or.inl rfl) rfl PtOf.obox (Part.snd (Part.snd (Part.snd (Part.fst Part.self)))) ?_
  refine RL.binI (v := .bool (decide (x0.2.2.2.1 > (1000000 : Int)))) rfl rfl rfl rfl rfl ?_
  refine RL.pickF rfl rfl rfl rfl ?_
  refine RL.mv rfl rfl rfl ?_
  refine RL.split (t := 38) rfl (fun b58 => ?_) (fun b58 => ?_)
  ·replace h50 := ite_t b58 h50
   refine RL.skip rfl rfl ?_
   refine RL.skip rfl rfl ?_
   refine RL.skip rfl rfl ?_
   refine RL.pickT rfl rfl rfl rfl ?_
   refine RL.mv rfl rfl rfl ?_
   refine RL.skip rfl rfl ?_
   refine RL.skip rfl rfl ?_
   refine RL.skip rfl rfl ?_
   refine RL.pickT rfl rfl rfl rfl ?_
   refine RL.mv rfl rfl rfl ?_
   refine RL.skip rfl rfl ?_
   refine RL.skip rfl rfl ?_
   refine RL.skip rfl rfl ?_
   refine RL.pickT rfl rfl rfl rfl ?_
   refine RL.mv rfl rfl rfl ?_
   refine RL.skip rfl rfl ?_
   refine RL.skip rfl rfl ?_
   refine RL.skip rfl rfl ?_
   refine RL.pickT rfl rfl rfl rfl ?_
   refine RL.fin ?_
   cases h50
   exact fun a w st => mid_intro true h51 (St.cut [] ⟨rfl, trivial⟩ (by decide) rfl st)
  replace h50 := ite_f b58 h50
  refine RL.fadr (off := 0) (fo := 4) 0 Tryz_fld24_4 rfl rfl rfl PtOf.obox (Or.inr ⟨rfl, rfl⟩) ?_
  refine RL.ldPx (off := (0 + 4)) (e' := x0.2.2.2.2.1) 0 Ex.ik Tryz_ln3 rfl rfl (Or.inl rfl) rfl PtOf.obox (Part.snd (Part.snd (Part.snd (Part.snd (Part.fst Part.self))))) ?_
  refine RL.binI (v := .bool (decide (x0.2.2.2.2.1 < (0 : Int)))) rfl rfl rfl rfl rfl ?_
  refine RL.pickF rfl rfl rfl rfl ?_
  refine RL.mv rfl rfl rfl ?_
  refine RL.split (t := 43) rfl (fun b59 => ?_) (fun b59 => ?_)
  ·replace h50 := ite_t b59 h50
   refine RL.skip rfl rfl ?_
   refine RL.skip rfl rfl ?_
   refine RL.skip rfl rfl ?_
   refine RL.pickT rfl rfl rfl rfl ?_
   refine RL.mv rfl rfl rfl ?_
   refine RL.skip rfl rfl ?_
   refine RL.skip rfl rfl ?_
   refine RL.skip rfl rfl ?_
   refine RL.pickT rfl rfl rfl rfl ?_
   refine RL.mv rfl rfl rfl ?_
   refine RL.skip rfl rfl ?_
   refine RL.skip rfl rfl ?_
   refine RL.skip rfl rfl ?_
   refine RL.pickT rfl rfl rfl rfl ?_
   refine RL.fin ?_
   cases h50
   exact fun a w st => mid_intro true h51 (St.cut [] ⟨rfl, trivial⟩ (by decide) rfl st)
  replace h50 := ite_f b59 h50
  refine RL.fadr (off := 0) (fo := 4) 0 Tryz_fld24_4 rfl rfl rfl PtOf.obox (Or.inr ⟨rfl, rfl⟩) ?_
  refine RL.ldPx (off := (0 + 4)) (e' := x0.2.2.2.2.1) 0 Ex.ik Tryz_ln3 rfl rfl (Or.inl rfl) rfl PtOf.obox (Part.snd (Part.snd (Part.snd (Part.snd (Part.fst Part.self))))) ?_
  refine RL.binI (v := .bool (decide (x0.2.2.2.2.1 > (1000000 : Int)))) rfl rfl rfl rfl rfl ?_
  refine RL.pickF rfl rfl rfl rfl ?_
  refine RL.mv rfl rfl rfl ?_
  refine RL.split (t := 48) rfl (fun b60 => ?_) (fun b60 => ?_)
  ·replace h50 := ite_t b60 h50
   refine RL.skip rfl rfl ?_
   refine RL.skip rfl rfl ?_
   refine RL.skip rfl rfl ?_
   refine RL.pickT rfl rfl rfl rfl ?_
   refine RL.mv rfl rfl rfl ?_
   refine RL.skip rfl rfl ?_
   refine RL.skip rfl rfl ?_
   refine RL.skip rfl rfl ?_
   refine RL.pickT rfl rfl rfl rfl ?_
   refine RL.fin ?_
   cases h50
   exact fun a w st => mid_intro true h51 (St.cut [] ⟨rfl, trivial⟩ (by decide) rfl st)
  replace h50 := ite_f b60 h50
  refine RL.fadr (off := 0) (fo := 5) 0 Tryz_fld24_5 rfl rfl rfl PtOf.obox (Or.inr ⟨rfl, rfl⟩) ?_
  refine RL.ldPx (off := (0 + 5)) (e' := x0.2.2.2.2.2) 0 Ex.ik Tryz_ln3 rfl rfl (Or.inl rfl) rfl PtOf.obox (Part.snd (Part.snd (Part.snd (Part.snd (Part.snd Part.self))))) ?_
  refine RL.binI (v := .bool (decide (x0.2.2.2.2.2 < (1 : Int)))) rfl rfl rfl rfl rfl ?_
  refine RL.pickF rfl rfl rfl rfl ?_
  refine RL.mv rfl rfl rfl ?_
  refine RL.split (t := 53) rfl (fun b61 => ?_) (fun b61 => ?_)
  ·replace h50 := ite_t b61 h50
   refine RL.skip rfl rfl ?_
   refine RL.skip rfl rfl ?_
   refine RL.skip rfl rfl ?_
   refine RL.pickT rfl rfl rfl rfl ?_
   refine RL.fin ?_
   cases h50
   exact fun a w st => mid_intro true h51 (St.cut [] ⟨rfl, trivial⟩ (by decide) rfl st)
  replace h50 := ite_f b61 h50
  refine RL.fadr (off := 0) (fo := 5) 0 Tryz_fld24_5 rfl rfl rfl PtOf.obox (Or.inr ⟨rfl, rfl⟩) ?_
  refine RL.ldPx (off := (0 + 5)) (e' := x0.2.2.2.2.2) 0 Ex.ik Tryz_ln3 rfl rfl (Or.inl rfl) rfl PtOf.obox (Part.snd (Part.snd (Part.snd (Part.snd (Part.snd Part.self))))) ?_
  refine RL.binI (v := .bool (decide (x0.2.2.2.2.2 > (100 : Int)))) rfl rfl rfl rfl rfl ?_
  refine RL.pickF rfl rfl rfl rfl ?_
  refine RL.fin ?_
  cases h50
  exact fun a w st => mid_intro (decide (x0.2.2.2.2.2 > (100 : Int))) h51 (St.cut [] ⟨rfl, trivial⟩ (by decide) rfl st)
 rintro x47 h62
 have h63 := h52 _ h62
 try dsimp only at h63
 refine GL.weak (env' := [(57, .bool x47)]) (L' := []) (fun _ _ st => st) ?_
 refine GL.cond rfl (fun b64 => ?_) (fun b64 => ?_)
 ·replace h63 := ite_t b64 h63
  refine GL.seq ?_
  refine GL.region ?_
  refine RL.asg rfl rfl rfl ?_
  refine RL.finG ?_
  have h63 := Option.some.inj h63
  subst h63
  exact GL.ret (Gx.ret (v := .int .i64 (1 : Int)) (res1 rfl rfl) (fun a w st => st.toPostV))
 replace h63 := ite_f b64 h63
 refine GL.skip ?_
 refine GL.seq ?_
 refine GL.region ?_
 refine RL.asg rfl rfl rfl ?_
 refine RL.finG ?_
 have h63 := Option.some.inj h63
 subst h63
 exact GL.ret (Gx.ret (v := .int .i64 (0 : Int)) (res1 rfl rfl) (fun a w st => st.toPostV))

set_option maxHeartbeats 4000000 in
theorem ledger_Take_c (S : Hp) (w : World) (hS : S.sub w) (v0 : Value) (x0 : (List ((List UInt8) × (Int × Int)))) (k0 : ((TR.sl TrA)).vrep S v0 x0) (v1 : Value) (x1 : ((List UInt8) × ((List UInt8) × (Int × (Int × (Int × Int)))))) (k1 : (TrD).vrep S v1 x1) (x2 : (List UInt8)) (res : (List ((List UInt8) × (Int × Int))) × Int) (hm : ledger_Take_m x0 x1 x2 = some res) : Calls Tryz.prog 10 #[v0, v1, .string ⟨(x2 : List UInt8).toArray⟩] w (Post w S (fun (o : Value) => .tuple #[o, .int .i64 res.2]) (fun (o : Value) => [own 30 TrA o res.1])) := by
 refine calls_enter 111 Tryz.func10 Tryz.ntmps10 rfl S false [(0, v0), (1, v1), (2, .string ⟨(x2 : List UInt8).toArray⟩)] [imm (TR.sl TrA) v0 x0, imm TrD v1 x1] rfl ⟨rfl, ⟨rfl, ⟨rfl, trivial⟩⟩⟩ hS ⟨k0, ⟨k1, trivial⟩⟩ ?_
 unfold ledger_Take_m at hm
 refine GL.seq ?_
 refine GL.region ?_
 refine RL.box (t := TrD) (e := x1) rfl rfl rfl rfl (VR.item 1 rfl) ?_
 intro v5
 refine RL.asg rfl rfl rfl ?_
 refine RL.asg rfl rfl rfl ?_
 refine RL.finG ?_
 refine GL.seq ?_
 refine GL.seq ?_
 refine GL.region ?_
 refine RL.mv rfl rfl rfl ?_
 obtain ⟨y8, e9, hm⟩ := bind_some hm
 refine RL.callV (v := .int .i64 y8) (vs := [v0]) Tryz_fit27 rfl (Or.inl rfl) rfl rfl rfl rfl (fun U w hU hW hL => ledger_Check_c U w hU _ _ (hL 0 _ _ rfl Seen.imm) _ e9) ?_
 refine RL.asg rfl rfl rfl ?_
 refine RL.finG ?_
 refine GL.seq ?_
 refine GL.region ?_
 refine RL.mv rfl rfl rfl ?_
 refine RL.binI (v := .bool (y8 != (0 : Int))) rfl rfl rfl rfl rfl ?_
 refine RL.finG ?_
 refine GL.cond rfl (fun b10 => ?_) (fun b10 => ?_)
 ·replace hm := ite_t b10 hm
  refine GL.seq ?_
  refine GL.region ?_
  refine RL.mv rfl rfl rfl ?_
  refine RL.asg rfl rfl rfl ?_
  refine RL.asg rfl rfl rfl ?_
  refine RL.finG ?_
  refine GL.weak (fun a w st => st.nilOwn 30 TrA) ?_
  have hm := Option.some.inj hm
  subst hm
  exact GL.ret (Gx.ret (v := .tuple #[Value.slice none 0 0, .int .i64 y8]) (res2 rfl rfl rfl) (fun a w st => (st.pick [3] (by decide) rfl).toPost (Value.slice none 0 0)))
 replace hm := ite_f b10 hm
 refine GL.skip ?_
 refine GL.seq ?_
 refine GL.seq ?_
 refine GL.region ?_
 refine RL.ldP (off := 0) (r := TrD) (e' := x1) 2 Tryz_ln24 rfl rfl (Or.inr ⟨rfl, rfl⟩) rfl PtOf.obox Part.self ?_
 intro v14
 refine RL.reL (L' := [imm (TR.sl TrA) v0 x0, imm TrD v1 x1, obox 24 TrD v5 x1, imm TrD v14 x1]) rfl ?_
 obtain ⟨y15, e16, hm⟩ := bind_some hm
 refine RL.callV (v := .int .i64 y15) (vs := [v14]) Tryz_fit28 rfl (Or.inl rfl) rfl rfl rfl rfl (fun U w hU hW hL => ledger_Right_c U w hU _ _ (hL 3 _ _ rfl Seen.imm) _ e16) ?_
 refine RL.asg rfl rfl rfl ?_
 refine RL.finG ?_
 refine GL.seq ?_
 refine GL.region ?_
 refine RL.mv rfl rfl rfl ?_
 refine RL.binI (v := .bool (y15 != (0 : Int))) rfl rfl rfl rfl rfl ?_
 refine RL.finG ?_
 refine GL.cond rfl (fun b17 => ?_) (fun b17 => ?_)
 ·replace hm := ite_t b17 hm
  refine GL.seq ?_
  refine GL.region ?_
  refine RL.mv rfl rfl rfl ?_
  refine RL.asg rfl rfl rfl ?_
  refine RL.asg rfl rfl rfl ?_
  refine RL.finG ?_
  refine GL.weak (fun a w st => st.nilOwn 30 TrA) ?_
  have hm := Option.some.inj hm
  subst hm
  exact GL.ret (Gx.ret (v := .tuple #[Value.slice none 0 0, .int .i64 y15]) (res2 rfl rfl rfl) (fun a w st => (st.pick [4] (by decide) rfl).toPost (Value.slice none 0 0)))
 replace hm := ite_f b17 hm
 refine GL.skip ?_
 refine GL.seq ?_
 refine GL.regionQ rfl rfl (by kernel_rfl) ?_
 refine RL.mv rfl rfl rfl ?_
 refine RL.fadr (off := 0) (fo := 0) 2 Tryz_fld24_0 rfl rfl rfl PtOf.obox (Or.inr ⟨rfl, rfl⟩) ?_
 refine RL.ldPx (off := (0 + 0)) (e' := x1.1) 2 Ex.str Tryz_ln9 rfl rfl (Or.inl rfl) rfl PtOf.obox (Part.fst Part.self) ?_
 obtain ⟨y24, e25, hm⟩ := bind_some hm
 refine RL.callV (v := .int .i64 y24) (vs := [v0, .string ⟨(x1.1 : List UInt8).toArray⟩]) Tryz_fit29 rfl (Or.inr ⟨_, rfl⟩) rfl rfl rfl rfl (fun U w hU hW hL => ledger_find_c U w hU _ _ (hL 0 _ _ rfl Seen.imm) x1.1 _ e25) ?_
 refine RL.mv rfl rfl rfl ?_
 refine RL.fadr (off := 0) (fo := 1) 2 Tryz_fld24_1 rfl rfl rfl PtOf.obox (Or.inr ⟨rfl, rfl⟩) ?_
 refine RL.ldPx (off := (0 + 1)) (e' := x1.2.1) 2 Ex.str Tryz_ln9 rfl rfl (Or.inl rfl) rfl PtOf.obox (Part.snd (Part.fst Part.self)) ?_
 obtain ⟨y26, e27, hm⟩ := bind_some hm
 refine RL.callV (v := .int .i64 y26) (vs := [v0, .string ⟨(x1.2.1 : List UInt8).toArray⟩]) Tryz_fit29 rfl (Or.inr ⟨_, rfl⟩) rfl rfl rfl rfl (fun U w hU hW hL => ledger_find_c U w hU _ _ (hL 0 _ _ rfl Seen.imm) x1.2.1 _ e27) ?_
 refine RL.mv rfl rfl rfl ?_
 refine RL.mv rfl rfl rfl ?_
 obtain ⟨y28, e29, hm⟩ := bind_some hm
 refine RL.callV (v := .int .i64 y28) (vs := [v0, .string ⟨(x2 : List UInt8).toArray⟩]) Tryz_fit29 rfl (Or.inr ⟨_, rfl⟩) rfl rfl rfl rfl (fun U w hU hW hL => ledger_find_c U w hU _ _ (hL 0 _ _ rfl Seen.imm) x2 _ e29) ?_
 refine RL.asg rfl rfl rfl ?_
 refine RL.asg rfl rfl rfl ?_
 refine RL.asg rfl rfl rfl ?_
 refine RL.finQG ?_
 refine GL.seq ?_
 refine GL.seq ?_
 obtain ⟨y35, K36, h37, h38, h39, h40, h41⟩ := bindR_K hm
 refine GL.join (ι := Bool) (fun (p : Bool) => [(0, v0), (4, v5), (10, .int .i64 y24), (11, .int .i64 y26), (12, .int .i64 y28), (44, .bool p)]) (fun (p : Bool) => [imm (TR.sl TrA) v0 x0, obox 24 TrD v5 x1]) (fun (p : Bool) => K36 (.nx p)) ?_ ?_
 ·skip
  refine GL.region ?_
  refine RL.mv rfl rfl rfl ?_
  refine RL.binI (v := .bool (decide (y24 < (0 : Int)))) rfl rfl rfl rfl rfl ?_
  refine RL.mv rfl rfl rfl ?_
  refine RL.split (t := 37) rfl (fun b42 => ?_) (fun b42 => ?_)
  ·replace h37 := ite_t b42 h37
   refine RL.skip rfl rfl ?_
   refine RL.skip rfl rfl ?_
   refine RL.pickT rfl rfl rfl rfl ?_
   refine RL.mv rfl rfl rfl ?_
   refine RL.skip rfl rfl ?_
   refine RL.skip rfl rfl ?_
   refine RL.pickT rfl rfl rfl rfl ?_
   refine RL.fin ?_
   cases h37
   exact fun a w st => mid_intro true h38 (St.cut [0, 2] ⟨rfl, rfl, rfl, rfl, rfl, rfl, trivial⟩ (by decide) rfl st)
  replace h37 := ite_f b42 h37
  refine RL.mv rfl rfl rfl ?_
  refine RL.binI (v := .bool (decide (y26 < (0 : Int)))) rfl rfl rfl rfl rfl ?_
  refine RL.pickF rfl rfl rfl rfl ?_
  refine RL.mv rfl rfl rfl ?_
  refine RL.split (t := 41) rfl (fun b43 => ?_) (fun b43 => ?_)
  ·replace h37 := ite_t b43 h37
   refine RL.skip rfl rfl ?_
   refine RL.skip rfl rfl ?_
   refine RL.pickT rfl rfl rfl rfl ?_
   refine RL.fin ?_
   cases h37
   exact fun a w st => mid_intro true h38 (St.cut [0, 2] ⟨rfl, rfl, rfl, rfl, rfl, rfl, trivial⟩ (by decide) rfl st)
  replace h37 := ite_f b43 h37
  refine RL.mv rfl rfl rfl ?_
  refine RL.binI (v := .bool (decide (y28 < (0 : Int)))) rfl rfl rfl rfl rfl ?_
  refine RL.pickF rfl rfl rfl rfl ?_
  refine RL.fin ?_
  cases h37
  exact fun a w st => mid_intro (decide (y28 < (0 : Int))) h38 (St.cut [0, 2] ⟨rfl, rfl, rfl, rfl, rfl, rfl, trivial⟩ (by decide) rfl st)
 rintro x34 h44
 have h45 := h39 _ h44
 try dsimp only at h45
 refine GL.weak (env' := [(0, v0), (4, v5), (10, .int .i64 y24), (11, .int .i64 y26), (12, .int .i64 y28), (44, .bool x34)]) (L' := [imm (TR.sl TrA) v0 x0, obox 24 TrD v5 x1]) (fun _ _ st => st) ?_
 refine GL.cond rfl (fun b46 => ?_) (fun b46 => ?_)
 ·replace h45 := ite_t b46 h45
  refine GL.seq ?_
  refine GL.region ?_
  refine RL.asg rfl rfl rfl ?_
  refine RL.asg rfl rfl rfl ?_
  refine RL.finG ?_
  refine GL.weak (fun a w st => st.nilOwn 30 TrA) ?_
  have h45 := Option.some.inj h45
  subst h45
  exact GL.ret (Gx.ret (v := .tuple #[Value.slice none 0 0, .int .i64 (4 : Int)]) (res2 rfl rfl rfl) (fun a w st => (st.pick [2] (by decide) rfl).toPost (Value.slice none 0 0)))
 replace h45 := ite_f b46 h45
 refine GL.skip ?_
 refine GL.seq ?_
 refine GL.seq ?_
 refine GL.regionQ rfl rfl (by kernel_rfl) ?_
 refine RL.fadr (off := 0) (fo := 2) 1 Tryz_fld24_2 rfl rfl rfl PtOf.obox (Or.inr ⟨rfl, rfl⟩) ?_
 refine RL.ldPx (off := (0 + 2)) (e' := x1.2.2.1) 1 Ex.ik Tryz_ln3 rfl rfl (Or.inl rfl) rfl PtOf.obox (Part.snd (Part.snd (Part.fst Part.self))) ?_
 refine RL.mv rfl rfl rfl ?_
 refine RL.mv rfl rfl rfl ?_
 obtain ⟨y49, e50, h45⟩ := bind_some h45
 refine RL.idxS (sz := 3) 0 Tryz.underlying22 Tryz_ln30 rfl rfl rfl rfl rfl SlOf.imm (idx_some e50).1 (idx_some e50).2.1 ?_
 refine RL.fadrS (off := ((y24).toNat * 3)) (fo := 2) 0 Tryz_fld30_2 rfl rfl rfl SlOf.imm (by have := (List.getElem?_eq_some_iff.1 (idx_some e50).2.2).1; (try dsimp only at this ⊢); omega) rfl ?_
 refine RL.ldSx (i := (y24).toNat) (e' := y49.2.2) 0 Ex.ik Tryz_ln3 rfl rfl rfl rfl SlOf.imm (idx_some e50).2.2 (Part.snd (Part.snd Part.self)) ?_
 refine RL.binI (v := .bool (x1.2.2.1 != y49.2.2)) rfl rfl rfl rfl rfl ?_
 refine RL.finQG ?_
 refine GL.cond rfl (fun b51 => ?_) (fun b51 => ?_)
 ·replace h45 := ite_t b51 h45
  refine GL.seq ?_
  refine GL.region ?_
  refine RL.asg rfl rfl rfl ?_
  refine RL.asg rfl rfl rfl ?_
  refine RL.finG ?_
  refine GL.weak (fun a w st => st.nilOwn 30 TrA) ?_
  have h45 := Option.some.inj h45
  subst h45
  exact GL.ret (Gx.ret (v := .tuple #[Value.slice none 0 0, .int .i64 (6 : Int)]) (res2 rfl rfl rfl) (fun a w st => (st.pick [2] (by decide) rfl).toPost (Value.slice none 0 0)))
 replace h45 := ite_f b51 h45
 refine GL.skip ?_
 refine GL.seq ?_
 refine GL.seq ?_
 refine GL.regionQ rfl rfl (by kernel_rfl) ?_
 refine RL.mv rfl rfl rfl ?_
 refine RL.mv rfl rfl rfl ?_
 obtain ⟨y54, e55, h45⟩ := bind_some h45
 refine RL.idxS (sz := 3) 0 Tryz.underlying22 Tryz_ln30 rfl rfl rfl rfl rfl SlOf.imm (idx_some e55).1 (idx_some e55).2.1 ?_
 refine RL.fadrS (off := ((y24).toNat * 3)) (fo := 1) 0 Tryz_fld30_1 rfl rfl rfl SlOf.imm (by have := (List.getElem?_eq_some_iff.1 (idx_some e55).2.2).1; (try dsimp only at this ⊢); omega) rfl ?_
 refine RL.ldSx (i := (y24).toNat) (e' := y54.2.1) 0 Ex.ik Tryz_ln3 rfl rfl rfl rfl SlOf.imm (idx_some e55).2.2 (Part.snd (Part.fst Part.self)) ?_
 refine RL.fadr (off := 0) (fo := 3) 1 Tryz_fld24_3 rfl rfl rfl PtOf.obox (Or.inr ⟨rfl, rfl⟩) ?_
 refine RL.ldPx (off := (0 + 3)) (e' := x1.2.2.2.1) 1 Ex.ik Tryz_ln3 rfl rfl (Or.inl rfl) rfl PtOf.obox (Part.snd (Part.snd (Part.snd (Part.fst Part.self)))) ?_
 refine RL.fadr (off := 0) (fo := 4) 1 Tryz_fld24_4 rfl rfl rfl PtOf.obox (Or.inr ⟨rfl, rfl⟩) ?_
 refine RL.ldPx (off := (0 + 4)) (e' := x1.2.2.2.2.1) 1 Ex.ik Tryz_ln3 rfl rfl (Or.inl rfl) rfl PtOf.obox (Part.snd (Part.snd (Part.snd (Part.snd (Part.fst Part.self))))) ?_
 refine RL.binI (v := .int .i64 (wadd x1.2.2.2.1 x1.2.2.2.2.1)) rfl rfl rfl rfl rfl ?_
 refine RL.binI (v := .bool (decide (y54.2.1 < (wadd x1.2.2.2.1 x1.2.2.2.2.1)))) rfl rfl rfl rfl rfl ?_
 refine RL.finQG ?_
 refine GL.cond rfl (fun b56 => ?_) (fun b56 => ?_)
 ·replace h45 := ite_t b56 h45
  refine GL.seq ?_
  refine GL.region ?_
  refine RL.asg rfl rfl rfl ?_
  refine RL.asg rfl rfl rfl ?_
  refine RL.finG ?_
  refine GL.weak (fun a w st => st.nilOwn 30 TrA) ?_
  have h45 := Option.some.inj h45
  subst h45
  exact GL.ret (Gx.ret (v := .tuple #[Value.slice none 0 0, .int .i64 (11 : Int)]) (res2 rfl rfl rfl) (fun a w st => (st.pick [2] (by decide) rfl).toPost (Value.slice none 0 0)))
 replace h45 := ite_f b56 h45
 refine GL.skip ?_
 refine GL.seq ?_
 refine GL.region ?_
 refine RL.mv rfl rfl rfl ?_
 obtain ⟨y60, e61, h45⟩ := bind_some h45
 refine RL.call (vs := [v0]) Tryz_fit8 rfl rfl rfl rfl rfl (fun S f w hS hW hi => slices_Clone_api_Account_api_Account_c S w hS _ _ (hi 0 _ rfl) _ e61) ?_
 intro v62
 refine RL.asg rfl rfl rfl ?_
 refine RL.finG ?_
 refine GL.seq ?_
 refine GL.regionH 13 rfl rfl (by kernel_rfl) ?_
 simp only [List.take_succ_cons, List.take_zero, List.drop_succ_cons, List.drop_zero]
 refine RL.mv rfl rfl rfl ?_
 refine RL.mv rfl rfl rfl ?_
 obtain ⟨y67, e68, h45⟩ := bind_some h45
 refine RL.idxS (sz := 3) 2 Tryz.underlying22 Tryz_ln30 rfl rfl rfl rfl rfl SlOf.own (idx_some e68).1 (idx_some e68).2.1 ?_
 refine RL.fadrS (off := ((y24).toNat * 3)) (fo := 1) 2 Tryz_fld30_1 rfl rfl rfl SlOf.own (by have := (List.getElem?_eq_some_iff.1 (idx_some e68).2.2).1; (try dsimp only at this ⊢); omega) rfl ?_
 refine RL.ldSx (i := (y24).toNat) (e' := y67.2.1) 2 Ex.ik Tryz_ln3 rfl rfl rfl rfl SlOf.own (idx_some e68).2.2 (Part.snd (Part.fst Part.self)) ?_
 refine RL.fadr (off := 0) (fo := 3) 1 Tryz_fld24_3 rfl rfl rfl PtOf.obox (Or.inr ⟨rfl, rfl⟩) ?_
 refine RL.ldPx (off := (0 + 3)) (e' := x1.2.2.2.1) 1 Ex.ik Tryz_ln3 rfl rfl (Or.inl rfl) rfl PtOf.obox (Part.snd (Part.snd (Part.snd (Part.fst Part.self)))) ?_
 refine RL.fadr (off := 0) (fo := 4) 1 Tryz_fld24_4 rfl rfl rfl PtOf.obox (Or.inr ⟨rfl, rfl⟩) ?_
 refine RL.ldPx (off := (0 + 4)) (e' := x1.2.2.2.2.1) 1 Ex.ik Tryz_ln3 rfl rfl (Or.inl rfl) rfl PtOf.obox (Part.snd (Part.snd (Part.snd (Part.snd (Part.fst Part.self))))) ?_
 refine RL.binI (v := .int .i64 (wadd x1.2.2.2.1 x1.2.2.2.2.1)) rfl rfl rfl rfl rfl ?_
 refine RL.binI (v := .int .i64 (wsub y67.2.1 (wadd x1.2.2.2.1 x1.2.2.2.2.1))) rfl rfl rfl rfl rfl ?_
 obtain ⟨y69, e70, h45⟩ := bind_some h45
 refine RL.idxS (sz := 3) 2 Tryz.underlying22 Tryz_ln30 rfl rfl rfl rfl rfl SlOf.own (idx_some e70).1 (idx_some e70).2.1 ?_
 refine RL.fadrS (off := ((y24).toNat * 3)) (fo := 1) 2 Tryz_fld30_1 rfl rfl rfl SlOf.own (by have := (List.getElem?_eq_some_iff.1 (idx_some e70).2.2).1; (try dsimp only at this ⊢); omega) rfl ?_
 refine RL.finH ?_
 refine RL.stS (i := (y24).toNat) (e' := wsub y67.2.1 (wadd x1.2.2.2.1 x1.2.2.2.2.1)) (e1 := (y69.1, (wsub y67.2.1 (wadd x1.2.2.2.1 x1.2.2.2.2.1), y69.2.2))) (r := TR.int) 2 Tryz_ln3 rfl rfl rfl rfl VR.int rfl (idx_some e70).2.2 (Upd.snd (Upd.fst Upd.self)) ?_
 refine RL.reL (L' := [imm (TR.sl TrA) v0 x0, obox 24 TrD v5 x1, own 30 TrA v62 (List.set y60 ((y24).toNat) (y69.1, (wsub y67.2.1 (wadd x1.2.2.2.1 x1.2.2.2.2.1), y69.2.2)))]) rfl ?_
 refine RL.finG ?_
 refine GL.seq ?_
 refine GL.region ?_
 refine RL.mv rfl rfl rfl ?_
 refine RL.mv rfl rfl rfl ?_
 obtain ⟨y75, e76, h45⟩ := bind_some h45
 refine RL.idxS (sz := 3) 2 Tryz.underlying22 Tryz_ln30 rfl rfl rfl rfl rfl SlOf.own (idx_some e76).1 (idx_some e76).2.1 ?_
 refine RL.fadrS (off := ((y24).toNat * 3)) (fo := 2) 2 Tryz_fld30_2 rfl rfl rfl SlOf.own (by have := (List.getElem?_eq_some_iff.1 (idx_some e76).2.2).1; (try dsimp only at this ⊢); omega) rfl ?_
 refine RL.ldSx (i := (y24).toNat) (e' := y75.2.2) 2 Ex.ik Tryz_ln3 rfl rfl rfl rfl SlOf.own (idx_some e76).2.2 (Part.snd (Part.snd Part.self)) ?_
 refine RL.binI (v := .int .i64 (wadd y75.2.2 (1 : Int))) rfl rfl rfl rfl rfl ?_
 obtain ⟨y77, e78, h45⟩ := bind_some h45
 refine RL.idxS (sz := 3) 2 Tryz.underlying22 Tryz_ln30 rfl rfl rfl rfl rfl SlOf.own (idx_some e78).1 (idx_some e78).2.1 ?_
 refine RL.fadrS (off := ((y24).toNat * 3)) (fo := 2) 2 Tryz_fld30_2 rfl rfl rfl SlOf.own (by have := (List.getElem?_eq_some_iff.1 (idx_some e78).2.2).1; (try dsimp only at this ⊢); omega) rfl ?_
 refine RL.stS (i := (y24).toNat) (e' := wadd y75.2.2 (1 : Int)) (e1 := (y77.1, (y77.2.1, wadd y75.2.2 (1 : Int)))) (r := TR.int) 2 Tryz_ln3 rfl rfl rfl rfl VR.int rfl (idx_some e78).2.2 (Upd.snd (Upd.snd Upd.self)) ?_
 refine RL.finG ?_
 refine GL.seq ?_
 refine GL.regionH 10 rfl rfl (by kernel_rfl) ?_
 simp only [List.take_succ_cons, List.take_zero, List.drop_succ_cons, List.drop_zero]
 refine RL.mv rfl rfl rfl ?_
 refine RL.mv rfl rfl rfl ?_
 obtain ⟨y83, e84, h45⟩ := bind_some h45
 refine RL.idxS (sz := 3) 2 Tryz.underlying22 Tryz_ln30 rfl rfl rfl rfl rfl SlOf.own (idx_some e84).1 (idx_some e84).2.1 ?_
 refine RL.fadrS (off := ((y26).toNat * 3)) (fo := 1) 2 Tryz_fld30_1 rfl rfl rfl SlOf.own (by have := (List.getElem?_eq_some_iff.1 (idx_some e84).2.2).1; (try dsimp only at this ⊢); omega) rfl ?_
 refine RL.ldSx (i := (y26).toNat) (e' := y83.2.1) 2 Ex.ik Tryz_ln3 rfl rfl rfl rfl SlOf.own (idx_some e84).2.2 (Part.snd (Part.fst Part.self)) ?_
 refine RL.fadr (off := 0) (fo := 3) 1 Tryz_fld24_3 rfl rfl rfl PtOf.obox (Or.inr ⟨rfl, rfl⟩) ?_
 refine RL.ldPx (off := (0 + 3)) (e' := x1.2.2.2.1) 1 Ex.ik Tryz_ln3 rfl rfl (Or.inl rfl) rfl PtOf.obox (Part.snd (Part.snd (Part.snd (Part.fst Part.self)))) ?_
 refine RL.binI (v := .int .i64 (wadd y83.2.1 x1.2.2.2.1)) rfl rfl rfl rfl rfl ?_
 obtain ⟨y85, e86, h45⟩ := bind_some h45
 refine RL.idxS (sz := 3) 2 Tryz.underlying22 Tryz_ln30 rfl rfl rfl rfl rfl SlOf.own (idx_some e86).1 (idx_some e86).2.1 ?_
 refine RL.fadrS (off := ((y26).toNat * 3)) (fo := 1) 2 Tryz_fld30_1 rfl rfl rfl SlOf.own (by have := (List.getElem?_eq_some_iff.1 (idx_some e86).2.2).1; (try dsimp only at this ⊢); omega) rfl ?_
 refine RL.finH ?_
 refine RL.stS (i := (y26).toNat) (e' := wadd y83.2.1 x1.2.2.2.1) (e1 := (y85.1, (wadd y83.2.1 x1.2.2.2.1, y85.2.2))) (r := TR.int) 2 Tryz_ln3 rfl rfl rfl rfl VR.int rfl (idx_some e86).2.2 (Upd.snd (Upd.fst Upd.self)) ?_
 refine RL.reL (L' := [imm (TR.sl TrA) v0 x0, obox 24 TrD v5 x1, own 30 TrA v62 (List.set (List.set (List.set y60 ((y24).toNat) (y69.1, (wsub y67.2.1 (wadd x1.2.2.2.1 x1.2.2.2.2.1), y69.2.2))) ((y24).toNat) (y77.1, (y77.2.1, wadd y75.2.2 (1 : Int)))) ((y26).toNat) (y85.1, (wadd y83.2.1 x1.2.2.2.1, y85.2.2)))]) rfl ?_
 refine RL.finG ?_
 refine GL.seq ?_
 refine GL.regionH 10 rfl rfl (by kernel_rfl) ?_
 simp only [List.take_succ_cons, List.take_zero, List.drop_succ_cons, List.drop_zero]
 refine RL.mv rfl rfl rfl ?_
 refine RL.mv rfl rfl rfl ?_
 obtain ⟨y91, e92, h45⟩ := bind_some h45
 refine RL.idxS (sz := 3) 2 Tryz.underlying22 Tryz_ln30 rfl rfl rfl rfl rfl SlOf.own (idx_some e92).1 (idx_some e92).2.1 ?_
 refine RL.fadrS (off := ((y28).toNat * 3)) (fo := 1) 2 Tryz_fld30_1 rfl rfl rfl SlOf.own (by have := (List.getElem?_eq_some_iff.1 (idx_some e92).2.2).1; (try dsimp only at this ⊢); omega) rfl ?_
 refine RL.ldSx (i := (y28).toNat) (e' := y91.2.1) 2 Ex.ik Tryz_ln3 rfl rfl rfl rfl SlOf.own (idx_some e92).2.2 (Part.snd (Part.fst Part.self)) ?_
 refine RL.fadr (off := 0) (fo := 4) 1 Tryz_fld24_4 rfl rfl rfl PtOf.obox (Or.inr ⟨rfl, rfl⟩) ?_
 refine RL.ldPx (off := (0 + 4)) (e' := x1.2.2.2.2.1) 1 Ex.ik Tryz_ln3 rfl rfl (Or.inl rfl) rfl PtOf.obox (Part.snd (Part.snd (Part.snd (Part.snd (Part.fst Part.self))))) ?_
 refine RL.binI (v := .int .i64 (wadd y91.2.1 x1.2.2.2.2.1)) rfl rfl rfl rfl rfl ?_
 obtain ⟨y93, e94, h45⟩ := bind_some h45
 refine RL.idxS (sz := 3) 2 Tryz.underlying22 Tryz_ln30 rfl rfl rfl rfl rfl SlOf.own (idx_some e94).1 (idx_some e94).2.1 ?_
 refine RL.fadrS (off := ((y28).toNat * 3)) (fo := 1) 2 Tryz_fld30_1 rfl rfl rfl SlOf.own (by have := (List.getElem?_eq_some_iff.1 (idx_some e94).2.2).1; (try dsimp only at this ⊢); omega) rfl ?_
 refine RL.finH ?_
 refine RL.stS (i := (y28).toNat) (e' := wadd y91.2.1 x1.2.2.2.2.1) (e1 := (y93.1, (wadd y91.2.1 x1.2.2.2.2.1, y93.2.2))) (r := TR.int) 2 Tryz_ln3 rfl rfl rfl rfl VR.int rfl (idx_some e94).2.2 (Upd.snd (Upd.fst Upd.self)) ?_
 refine RL.finG ?_
 refine GL.seq ?_
 refine GL.seq ?_
 refine GL.region ?_
 refine RL.mv rfl rfl rfl ?_
 obtain ⟨y97, e98, h45⟩ := bind_some h45
 refine RL.callV (v := .int .i64 y97) (vs := [v62]) Tryz_fit27 rfl (Or.inl rfl) rfl rfl rfl rfl (fun U w hU hW hL => ledger_Check_c U w hU _ _ (hL 2 _ _ rfl Seen.own) _ e98) ?_
 refine RL.binI (v := .bool (y97 != (0 : Int))) rfl rfl rfl rfl rfl ?_
 refine RL.finG ?_
 refine GL.cond rfl (fun b99 => ?_) (fun b99 => ?_)
 ·replace h45 := ite_t b99 h45
  refine GL.seq ?_
  refine GL.region ?_
  refine RL.asg rfl rfl rfl ?_
  refine RL.asg rfl rfl rfl ?_
  refine RL.finG ?_
  refine GL.weak (fun a w st => st.nilOwn 30 TrA) ?_
  have h45 := Option.some.inj h45
  subst h45
  exact GL.ret (Gx.ret (v := .tuple #[Value.slice none 0 0, .int .i64 (8 : Int)]) (res2 rfl rfl rfl) (fun a w st => (st.pick [3] (by decide) rfl).toPost (Value.slice none 0 0)))
 replace h45 := ite_f b99 h45
 refine GL.skip ?_
 refine GL.seq ?_
 refine GL.region ?_
 refine RL.mv rfl rfl rfl ?_
 refine RL.asg rfl rfl rfl ?_
 refine RL.asg rfl rfl rfl ?_
 refine RL.finG ?_
 have h45 := Option.some.inj h45
 subst h45
 exact GL.ret (Gx.ret (v := .tuple #[v62, .int .i64 (0 : Int)]) (res2 rfl rfl rfl) (fun a w st => (st.pick [2] (by decide) rfl).toPost v62))

set_option maxHeartbeats 4000000 in
theorem slices_IndexFunc_api_Errno_api_Errno_c (S : Hp) (w : World) (hS : S.sub w) (v0 : Value) (x0 : (List Int)) (k0 : ((TR.sl TR.int)).vrep S v0 x0) (f1 : FuncId) (c1 : Array Value) (t1 : Fit Tryz.prog f1) (g1 : Int → Option Bool) (k1 : ∀ (U : Hp) (w' : World), Hp.le S U → U.sub w' → ∀ (a0 : Int) (rr : Bool), g1 a0 = some rr → Calls Tryz.prog f1 (#[.int .i64 a0] ++ c1) w' (PostV w' (.bool rr))) (res : Int) (hm : slices_IndexFunc_api_Errno_api_Errno_m x0 g1 = some res) : Calls Tryz.prog 56 #[v0, .func (.func f1) #[] c1] w (PostV w (.int .i64 res)) := by
 refine calls_enter 19 Tryz.func56 Tryz.ntmps56 rfl S false [(0, v0), (1, .func (.func f1) #[] c1)] [imm (TR.sl TR.int) v0 x0] rfl ⟨rfl, ⟨rfl, trivial⟩⟩ hS ⟨k0, trivial⟩ ?_
 unfold slices_IndexFunc_api_Errno_api_Errno_m at hm
 refine GL.seq ?_
 refine GL.region ?_
 refine RL.asg rfl rfl rfl ?_
 refine RL.finG ?_
 refine GL.seq ?_
 refine GL.seq ?_
 refine GL.region ?_
 refine RL.mv rfl rfl rfl ?_
 refine RL.lenS 0 Tryz.underlying79 rfl rfl rfl rfl SlOf.imm ?_
 refine RL.mv rfl rfl rfl ?_
 refine RL.finG ?_
 refine GL.open_ 0 rfl (fun S h => len_imm S h) (fun n12 => ?_)
 obtain ⟨y13, K14, h15, h16, h17, h18, h19⟩ := bindR_K hm
 refine GL.join (ι := Unit) (fun (p : Unit) => []) (fun (p : Unit) => []) (fun (p : Unit) => K14 (.nx ())) ?_ ?_
 ·refine GL.block ?_
  refine GL.loop (ι := Nat × (List Int)) (fun (p : Nat × (List Int)) => [(0, v0), (1, .func (.func f1) #[] c1), (7, .int .i64 ((x0).length : Int)), (8, .int .i64 (p.1 : Int))]) (fun (p : Nat × (List Int)) => [imm (TR.sl TR.int) v0 x0]) (fun (p : Nat × (List Int)) => p.1 + p.2.length = (x0).length ∧ List.drop p.1 x0 = p.2 ∧ rangeL (slices_IndexFunc_api_Errno_api_Errno_b1 g1) p.2 p.1 () = some y13) (fun (p : Nat × (List Int)) => p.2.length) (0, x0) ⟨by simp, by simp, h15⟩ (fun a w st => St.cut [0] ⟨rfl, rfl, rfl, rfl, trivial⟩ (by decide) rfl st) ?_
  rintro ⟨i20, r21⟩ ⟨h26, h27, h25⟩
  try dsimp only at h26 h27 h25
  refine GL.weak (env' := [(0, v0), (1, .func (.func f1) #[] c1), (7, .int .i64 ((x0).length : Int)), (8, .int .i64 (i20 : Int))]) (L' := [imm (TR.sl TR.int) v0 x0]) (fun _ _ st => st) ?_
  refine GL.seq ?_
  refine GL.region ?_
  refine RL.binI (v := .bool (decide ((i20 : Int) < ((x0).length : Int)))) rfl rfl rfl rfl rfl ?_
  refine RL.finG ?_
  refine GL.seq ?_
  refine GL.cond rfl (fun b28 => ?_) (fun b28 => ?_)
  ·have h29 : i20 < (x0).length := by have := of_decide_eq_true b28; omega
   obtain ⟨y30, r32, hr, e31, h33⟩ := drop_cons h27 rfl h29
   subst hr
   obtain ⟨z22, h23, h24⟩ := rangeL_some h25
   unfold slices_IndexFunc_api_Errno_api_Errno_b1 at h23
   try dsimp only at h23
   refine GL.skip ?_
   refine GL.seq ?_
   refine GL.block ?_
   refine GL.seq ?_
   refine GL.region ?_
   refine RL.mv rfl rfl rfl ?_
   refine RL.asg rfl rfl rfl ?_
   refine RL.finG ?_
   refine GL.seq ?_
   refine GL.region ?_
   refine RL.mv rfl rfl rfl ?_
   refine RL.mv rfl rfl rfl ?_
   refine RL.mv rfl rfl rfl ?_
   refine RL.idxS (sz := 1) 0 Tryz.underlying79 Tryz_ln32 rfl rfl rfl rfl rfl SlOf.imm (by omega) (by omega) ?_
   refine RL.ldSx (i := i20) (e' := y30) 0 Ex.ik Tryz_ln32 rfl rfl rfl rfl SlOf.imm e31 Part.self ?_
   obtain ⟨y36, e37, h23⟩ := bind_some h23
   refine RL.callV (v := .bool y36) (vs := [.int .i64 y30]) t1 rfl (Or.inl rfl) rfl rfl rfl rfl (fun U w hU hW hL => k1 U w hW hU y30 _ e37) ?_
   refine RL.finG ?_
   refine GL.cond rfl (fun b38 => ?_) (fun b38 => ?_)
   ·replace h23 := ite_t b38 h23
    refine GL.seq ?_
    refine GL.region ?_
    refine RL.mv rfl rfl rfl ?_
    refine RL.asg rfl rfl rfl ?_
    refine RL.finG ?_
    cases h23
    replace h24 : some (Fl.rt _) = some y13 := h24
    cases h24
    have hh := h18 _ h16
    subst hh
    exact GL.ret (Gx.ret (v := .int .i64 (i20 : Int)) (res1 rfl rfl) (fun a w st => st.toPostV))
   replace h23 := ite_f b38 h23
   refine GL.skip ?_
   refine GL.nilB ?_
   refine GL.region ?_
   refine RL.binI (v := .int .i64 ((i20 + 1 : Nat) : Int)) rfl rfl rfl rfl (binI_succ i20 (by omega)) ?_
   refine RL.mv rfl rfl rfl ?_
   refine RL.fin ?_
   cases h23
   exact fun a w st => lop_intro (i20 + 1, r32) ⟨by show i20 + 1 + r32.length = (x0).length; simp only [List.length_cons] at h26; omega, h33, h24⟩ (by simp) (St.cut [0] ⟨rfl, rfl, rfl, rfl, trivial⟩ (by decide) rfl st)
  have h29 : ¬ i20 < (x0).length := by have := of_decide_eq_false b28; omega
  obtain rfl : r21 = [] := by rw [← h27]; exact List.drop_of_length_le (by omega)
  replace h25 : some (Fl.nx _) = some y13 := h25
  cases h25
  exact GL.exit (fun a w st => mid_intro () h16 (St.cut [] trivial (by decide) rfl st))
 rintro ⟨⟩ h39
 have h40 := h17 _ h39
 try dsimp only at h40
 refine GL.weak (env' := []) (L' := []) (fun _ _ st => st) ?_
 refine GL.seq ?_
 refine GL.region ?_
 refine RL.asg rfl rfl rfl ?_
 refine RL.finG ?_
 have h40 := Option.some.inj h40
 subst h40
 exact GL.ret (Gx.ret (v := .int .i64 (-1 : Int)) (res1 rfl rfl) (fun a w st => st.toPostV))

set_option maxHeartbeats 4000000 in
theorem slices_ContainsFunc_api_Errno_api_Errno_c (S : Hp) (w : World) (hS : S.sub w) (v0 : Value) (x0 : (List Int)) (k0 : ((TR.sl TR.int)).vrep S v0 x0) (f1 : FuncId) (c1 : Array Value) (t1 : Fit Tryz.prog f1) (g1 : Int → Option Bool) (k1 : ∀ (U : Hp) (w' : World), Hp.le S U → U.sub w' → ∀ (a0 : Int) (rr : Bool), g1 a0 = some rr → Calls Tryz.prog f1 (#[.int .i64 a0] ++ c1) w' (PostV w' (.bool rr))) (res : Bool) (hm : slices_ContainsFunc_api_Errno_api_Errno_m x0 g1 = some res) : Calls Tryz.prog 40 #[v0, .func (.func f1) #[] c1] w (PostV w (.bool res)) := by
 refine calls_enter 9 Tryz.func40 Tryz.ntmps40 rfl S false [(0, v0), (1, .func (.func f1) #[] c1)] [imm (TR.sl TR.int) v0 x0] rfl ⟨rfl, ⟨rfl, trivial⟩⟩ hS ⟨k0, trivial⟩ ?_
 unfold slices_ContainsFunc_api_Errno_api_Errno_m at hm
 refine GL.seq ?_
 refine GL.region ?_
 refine RL.asg rfl rfl rfl ?_
 refine RL.finG ?_
 refine GL.seq ?_
 refine GL.region ?_
 refine RL.mv rfl rfl rfl ?_
 refine RL.mv rfl rfl rfl ?_
 obtain ⟨y5, e6, hm⟩ := bind_some hm
 refine RL.callV (v := .int .i64 y5) (vs := [v0, .func (.func f1) #[] c1]) Tryz_fit56 rfl (Or.inl rfl) rfl rfl rfl rfl (fun U w hU hW hL => slices_IndexFunc_api_Errno_api_Errno_c U w hU _ _ (hL 0 _ _ rfl Seen.imm) f1 c1 t1 g1 (fun U' w' hle => k1 U' w' (Hp.le_trans hW hle)) _ e6) ?_
 refine RL.binI (v := .bool (decide (y5 ≥ (0 : Int)))) rfl rfl rfl rfl rfl ?_
 refine RL.asg rfl rfl rfl ?_
 refine RL.finG ?_
 have hm := Option.some.inj hm
 subst hm
 exact GL.ret (Gx.ret (v := .bool (decide (y5 ≥ (0 : Int)))) (res1 rfl rfl) (fun a w st => st.toPostV))

set_option maxHeartbeats 4000000 in
theorem pk_good_1_c (S : Hp) (w : World) (hS : S.sub w) (x0 : Int) (res : Bool) (hm : pk_good_1_m x0 = some res) : Calls Tryz.prog 41 #[.int .i64 x0] w (PostC w (.bool res)) := by
 refine calls_enter 5 Tryz.func41 Tryz.ntmps41 rfl S true [(0, .int .i64 x0)] [] rfl ⟨rfl, trivial⟩ hS trivial ?_
 unfold pk_good_1_m at hm
 refine GL.seq ?_
 refine GL.region ?_
 refine RL.asg rfl rfl rfl ?_
 refine RL.finG ?_
 refine GL.seq ?_
 refine GL.region ?_
 refine RL.mv rfl rfl rfl ?_
 refine RL.binI (v := .bool (x0 != (0 : Int))) rfl rfl rfl rfl rfl ?_
 refine RL.asg rfl rfl rfl ?_
 refine RL.finG ?_
 have hm := Option.some.inj hm
 subst hm
 exact GL.ret (Gx.ret (v := .bool (x0 != (0 : Int))) (res1 rfl rfl) (fun a w st => st.toPostC rfl))

set_option maxHeartbeats 4000000 in
theorem pk_good_c (S : Hp) (w : World) (hS : S.sub w) (v0 : Value) (x0 : (List Int)) (k0 : ((TR.sl TR.int)).vrep S v0 x0) (res : Bool) (hm : pk_good_m x0 = some res) : Calls Tryz.prog 23 #[v0] w (PostV w (.bool res)) := by
 refine calls_enter 6 Tryz.func23 Tryz.ntmps23 rfl S false [(0, v0)] [imm (TR.sl TR.int) v0 x0] rfl ⟨rfl, trivial⟩ hS ⟨k0, trivial⟩ ?_
 unfold pk_good_m at hm
 refine GL.seq ?_
 refine GL.region ?_
 refine RL.asg rfl rfl rfl ?_
 refine RL.finG ?_
 refine GL.seq ?_
 refine GL.region ?_
 refine RL.mv rfl rfl rfl ?_
 obtain ⟨y4, e5, hm⟩ := bind_some hm
 refine RL.callV (v := .bool y4) (vs := [v0, .func (.func 41) #[] #[]]) Tryz_fit40 rfl (Or.inl rfl) rfl rfl rfl rfl (fun U w hU hW hL => slices_ContainsFunc_api_Errno_api_Errno_c U w hU _ _ (hL 0 _ _ rfl Seen.imm) 41 #[] Tryz_fit41 (fun a0 => pk_good_1_m a0) (fun U' w' hle hU' a0 rr hr => (pk_good_1_c U' w' hU' a0 rr hr).mono (fun _ _ z => z.toV)) _ e5) ?_
 refine RL.notB rfl rfl rfl ?_
 refine RL.asg rfl rfl rfl ?_
 refine RL.finG ?_
 have hm := Option.some.inj hm
 subst hm
 exact GL.ret (Gx.ret (v := .bool (!y4)) (res1 rfl rfl) (fun a w st => st.toPostV))

set_option maxHeartbeats 4000000 in
theorem slices_Equal_api_Account_api_Account_c (S : Hp) (w : World) (hS : S.sub w) (v0 : Value) (x0 : (List ((List UInt8) × (Int × Int)))) (k0 : ((TR.sl TrA)).vrep S v0 x0) (v1 : Value) (x1 : (List ((List UInt8) × (Int × Int)))) (k1 : ((TR.sl TrA)).vrep S v1 x1) (res : Bool) (hm : slices_Equal_api_Account_api_Account_m x0 x1 = some res) : Calls Tryz.prog 21 #[v0, v1] w (PostV w (.bool res)) := by
 refine calls_enter 26 Tryz.func21 Tryz.ntmps21 rfl S false [(0, v0), (1, v1)] [imm (TR.sl TrA) v0 x0, imm (TR.sl TrA) v1 x1] rfl ⟨rfl, ⟨rfl, trivial⟩⟩ hS ⟨k0, ⟨k1, trivial⟩⟩ ?_
 unfold slices_Equal_api_Account_api_Account_m at hm
 refine GL.seq ?_
 refine GL.region ?_
 refine RL.asg rfl rfl rfl ?_
 refine RL.finG ?_
 refine GL.seq ?_
 refine GL.seq ?_
 refine GL.region ?_
 refine RL.mv rfl rfl rfl ?_
 refine RL.lenS 0 Tryz.underlying22 rfl rfl rfl rfl SlOf.imm ?_
 refine RL.mv rfl rfl rfl ?_
 refine RL.lenS 1 Tryz.underlying22 rfl rfl rfl rfl SlOf.imm ?_
 refine RL.binI (v := .bool (((x0).length : Int) != ((x1).length : Int))) rfl rfl rfl rfl rfl ?_
 refine RL.finG ?_
 refine GL.cond rfl (fun b3 => ?_) (fun b3 => ?_)
 ·replace hm := ite_t b3 hm
  refine GL.seq ?_
  refine GL.region ?_
  refine RL.asg rfl rfl rfl ?_
  refine RL.finG ?_
  have hm := Option.some.inj hm
  subst hm
  exact GL.ret (Gx.ret (v := .bool false) (res1 rfl rfl) (fun a w st => st.toPostV))
 replace hm := ite_f b3 hm
 refine GL.skip ?_
 refine GL.seq ?_
 refine GL.seq ?_
 refine GL.region ?_
 refine RL.mv rfl rfl rfl ?_
 refine RL.lenS 0 Tryz.underlying22 rfl rfl rfl rfl SlOf.imm ?_
 refine RL.mv rfl rfl rfl ?_
 refine RL.finG ?_
 refine GL.open_ 0 rfl (fun S h => len_imm S h) (fun n17 => ?_)
 obtain ⟨y18, K19, h20, h21, h22, h23, h24⟩ := bindR_K hm
 refine GL.join (ι := Unit) (fun (p : Unit) => []) (fun (p : Unit) => []) (fun (p : Unit) => K19 (.nx ())) ?_ ?_
 ·refine GL.block ?_
  refine GL.loop (ι := Nat × (List ((List UInt8) × (Int × Int)))) (fun (p : Nat × (List ((List UInt8) × (Int × Int)))) => [(0, v0), (1, v1), (12, .int .i64 ((x0).length : Int)), (13, .int .i64 (p.1 : Int))]) (fun (p : Nat × (List ((List UInt8) × (Int × Int)))) => [imm (TR.sl TrA) v0 x0, imm (TR.sl TrA) v1 x1]) (fun (p : Nat × (List ((List UInt8) × (Int × Int)))) => p.1 + p.2.length = (x0).length ∧ List.drop p.1 x0 = p.2 ∧ rangeL (slices_Equal_api_Account_api_Account_b1 x1) p.2 p.1 () = some y18) (fun (p : Nat × (List ((List UInt8) × (Int × Int)))) => p.2.length) (0, x0) ⟨by simp, by simp, h20⟩ (fun a w st => St.cut [0, 1] ⟨rfl, rfl, rfl, rfl, trivial⟩ (by decide) rfl st) ?_
  rintro ⟨i25, r26⟩ ⟨h31, h32, h30⟩
  try dsimp only at h31 h32 h30
  refine GL.weak (env' := [(0, v0), (1, v1), (12, .int .i64 ((x0).length : Int)), (13, .int .i64 (i25 : Int))]) (L' := [imm (TR.sl TrA) v0 x0, imm (TR.sl TrA) v1 x1]) (fun _ _ st => st) ?_
  refine GL.seq ?_
  refine GL.region ?_
  refine RL.binI (v := .bool (decide ((i25 : Int) < ((x0).length : Int)))) rfl rfl rfl rfl rfl ?_
  refine RL.finG ?_
  refine GL.seq ?_
  refine GL.cond rfl (fun b33 => ?_) (fun b33 => ?_)
  ·have h34 : i25 < (x0).length := by have := of_decide_eq_true b33; omega
   obtain ⟨y35, r37, hr, e36, h38⟩ := drop_cons h32 rfl h34
   subst hr
   obtain ⟨z27, h28, h29⟩ := rangeL_some h30
   unfold slices_Equal_api_Account_api_Account_b1 at h28
   try dsimp only at h28
   refine GL.skip ?_
   refine GL.seq ?_
   refine GL.block ?_
   refine GL.seq ?_
   refine GL.region ?_
   refine RL.mv rfl rfl rfl ?_
   refine RL.asg rfl rfl rfl ?_
   refine RL.finG ?_
   refine GL.seq ?_
   refine GL.regionQ rfl rfl (by kernel_rfl) ?_
   refine RL.mv rfl rfl rfl ?_
   refine RL.mv rfl rfl rfl ?_
   refine RL.idxS (sz := 3) 0 Tryz.underlying22 Tryz_ln30 rfl rfl rfl rfl rfl SlOf.imm (by omega) (by omega) ?_
   refine RL.ldS (i := i25) (r := TrA) (e' := y35) 0 Tryz_ln30 rfl rfl rfl rfl SlOf.imm e36 Part.self ?_
   intro v43
   refine RL.mv rfl rfl rfl ?_
   refine RL.mv rfl rfl rfl ?_
   obtain ⟨y44, e45, h28⟩ := bind_some h28
   refine RL.idxS (sz := 3) 1 Tryz.underlying22 Tryz_ln30 rfl rfl rfl rfl rfl SlOf.imm (idx_some e45).1 (idx_some e45).2.1 ?_
   refine RL.ldS (i := i25) (r := TrA) (e' := y44) 1 Tryz_ln30 rfl rfl rfl rfl SlOf.imm (idx_some e45).2.2 Part.self ?_
   intro v46
   refine RL.reL (L' := [imm (TR.sl TrA) v0 x0, imm (TR.sl TrA) v1 x1, imm TrA v43 y35, imm TrA v46 y44]) rfl ?_
   refine RL.neG (t := TrA) (e := y35) (e' := y44) rfl Tryz_eq30 (by decide) Tryz.eqGuardType30 rfl rfl rfl rfl (VR.item 2 rfl) (VR.item 3 rfl) ?_
   refine RL.finQG ?_
   refine GL.cond rfl (fun b47 => ?_) (fun b47 => ?_)
   ·replace h28 := ite_t b47 h28
    refine GL.seq ?_
    refine GL.region ?_
    refine RL.asg rfl rfl rfl ?_
    refine RL.finG ?_
    cases h28
    replace h29 : some (Fl.rt _) = some y18 := h29
    cases h29
    have hh := h23 _ h21
    subst hh
    exact GL.ret (Gx.ret (v := .bool false) (res1 rfl rfl) (fun a w st => st.toPostV))
   replace h28 := ite_f b47 h28
   refine GL.skip ?_
   refine GL.nilB ?_
   refine GL.region ?_
   refine RL.binI (v := .int .i64 ((i25 + 1 : Nat) : Int)) rfl rfl rfl rfl (binI_succ i25 (by omega)) ?_
   refine RL.mv rfl rfl rfl ?_
   refine RL.fin ?_
   cases h28
   exact fun a w st => lop_intro (i25 + 1, r37) ⟨by show i25 + 1 + r37.length = (x0).length; simp only [List.length_cons] at h31; omega, h38, h29⟩ (by simp) (St.cut [0, 1] ⟨rfl, rfl, rfl, rfl, trivial⟩ (by decide) rfl st)
  have h34 : ¬ i25 < (x0).length := by have := of_decide_eq_false b33; omega
  obtain rfl : r26 = [] := by rw [← h32]; exact List.drop_of_length_le (by omega)
  replace h30 : some (Fl.nx _) = some y18 := h30
  cases h30
  exact GL.exit (fun a w st => mid_intro () h21 (St.cut [] trivial (by decide) rfl st))
 rintro ⟨⟩ h48
 have h49 := h22 _ h48
 try dsimp only at h49
 refine GL.weak (env' := []) (L' := []) (fun _ _ st => st) ?_
 refine GL.seq ?_
 refine GL.region ?_
 refine RL.asg rfl rfl rfl ?_
 refine RL.finG ?_
 have h49 := Option.some.inj h49
 subst h49
 exact GL.ret (Gx.ret (v := .bool true) (res1 rfl rfl) (fun a w st => st.toPostV))

set_option maxHeartbeats 4000000 in
theorem pk_ledgers_c (S : Hp) (w : World) (hS : S.sub w)  (res : Bool) (hm : pk_ledgers_m = some res) : Calls Tryz.prog 4 #[] w (PostV w (.bool res)) := by
 refine calls_enter 28 Tryz.func4 Tryz.ntmps4 rfl S false [] [] rfl trivial hS trivial ?_
 unfold pk_ledgers_m at hm
 refine GL.seq ?_
 refine GL.region ?_
 refine RL.asg rfl rfl rfl ?_
 refine RL.finG ?_
 refine GL.seq ?_
 refine GL.region ?_
 refine RL.bld (t := TrA) (d0 := ((([98] : List UInt8), (9 : Int), (0 : Int)) : ((List UInt8) × (Int × Int)))) (pv := [(0, .string ⟨(([98] : List UInt8) : List UInt8).toArray⟩), (1, .int .i64 (9 : Int))]) rfl Tryz_bld30 rfl rfl rfl ⟨⟨_, _, TR.str, ([98] : List UInt8), rfl, rfl, VR.str⟩, ⟨⟨_, _, TR.int, (9 : Int), rfl, rfl, VR.int⟩, trivial⟩⟩ (fun S f hi => by
   obtain ⟨c0, e0, r0⟩ := cells_vrep (t := TR.str) (u := .string ⟨(([98] : List UInt8) : List UInt8).toArray⟩) (e := ([98] : List UInt8)) (VR.str S f hi)
   obtain ⟨c1, e1, r1⟩ := cells_vrep (t := TR.int) (u := .int .i64 (9 : Int)) (e := (9 : Int)) (VR.int S f hi)
   show TR.rep TrA S (List.flatten [(.string ⟨(([98] : List UInt8) : List UInt8).toArray⟩ : Value).cells.toList, (.int .i64 (9 : Int) : Value).cells.toList, [.int .i64 0]]) _
   simp only [e0, e1,  List.flatten_cons, List.flatten_nil, List.append_nil]
   exact ⟨_, _, rfl, r0, ⟨_, _, rfl, r1, rfl⟩⟩) ?_
 intro v6
 refine RL.bS (t := TrA) (vs := [v6]) ([((([98] : List UInt8), (9 : Int), (0 : Int)) : ((List UInt8) × (Int × Int)))] : (List ((List UInt8) × (Int × Int)))) Tryz.underlying22 Tryz_lo30 rfl rfl rfl rfl ⟨(VR.item 0 rfl), trivial⟩ rfl (by decide) ?_
 intro v7
 refine RL.reL (L' := [imm TrA v6 ((([98] : List UInt8), (9 : Int), (0 : Int)) : ((List UInt8) × (Int × Int))), own 30 TrA v7 ([((([98] : List UInt8), (9 : Int), (0 : Int)) : ((List UInt8) × (Int × Int)))] : (List ((List UInt8) × (Int × Int))))]) rfl ?_
 obtain ⟨y8, e9, hm⟩ := bind_some hm
 refine RL.callU (vs := [v7, .string ⟨(([97] : List UInt8) : List UInt8).toArray⟩, .int .i64 (5 : Int)]) (LR := fun (o : Value) => [own 30 TrA o y8.1]) (fun o => ⟨Loc.own (TR.flatT_pair TR.flatT_str (TR.flatT_pair TR.flatT_ik TR.flatT_ik)), trivial⟩) Tryz_fit12 rfl rfl rfl rfl rfl (fun U w hU hW hL => ledger_Open_c U w hU _ _ (hL 1 _ _ rfl Seen.own) ([97] : List UInt8) (5 : Int) _ e9) ?_
 intro v10
 refine RL.mv rfl rfl rfl ?_
 refine RL.ext rfl rfl rfl rfl ?_
 refine RL.ext rfl rfl rfl rfl ?_
 refine RL.asg rfl rfl rfl ?_
 refine RL.asg rfl rfl rfl ?_
 refine RL.finG ?_
 refine GL.seq ?_
 refine GL.region ?_
 refine RL.mv rfl rfl rfl ?_
 refine RL.bld (t := TrD) (d0 := ((([98] : List UInt8), ([97] : List UInt8), (0 : Int), (3 : Int), (1 : Int), (1 : Int)) : ((List UInt8) × ((List UInt8) × (Int × (Int × (Int × Int))))))) (pv := [(0, .string ⟨(([98] : List UInt8) : List UInt8).toArray⟩), (1, .string ⟨(([97] : List UInt8) : List UInt8).toArray⟩), (3, .int .i64 (3 : Int)), (4, .int .i64 (1 : Int)), (5, .int .i64 (1 : Int))]) rfl Tryz_bld24 rfl rfl rfl ⟨⟨_, _, TR.str, ([98] : List UInt8), rfl, rfl, VR.str⟩, ⟨⟨_, _, TR.str, ([97] : List UInt8), rfl, rfl, VR.str⟩, ⟨⟨_, _, TR.int, (3 : Int), rfl, rfl, VR.int⟩, ⟨⟨_, _, TR.int, (1 : Int), rfl, rfl, VR.int⟩, ⟨⟨_, _, TR.int, (1 : Int), rfl, rfl, VR.int⟩, trivial⟩⟩⟩⟩⟩ (fun S f hi => by
   obtain ⟨c0, e0, r0⟩ := cells_vrep (t := TR.str) (u := .string ⟨(([98] : List UInt8) : List UInt8).toArray⟩) (e := ([98] : List UInt8)) (VR.str S f hi)
   obtain ⟨c1, e1, r1⟩ := cells_vrep (t := TR.str) (u := .string ⟨(([97] : List UInt8) : List UInt8).toArray⟩) (e := ([97] : List UInt8)) (VR.str S f hi)
   obtain ⟨c3, e3, r3⟩ := cells_vrep (t := TR.int) (u := .int .i64 (3 : Int)) (e := (3 : Int)) (VR.int S f hi)
   obtain ⟨c4, e4, r4⟩ := cells_vrep (t := TR.int) (u := .int .i64 (1 : Int)) (e := (1 : Int)) (VR.int S f hi)
   obtain ⟨c5, e5, r5⟩ := cells_vrep (t := TR.int) (u := .int .i64 (1 : Int)) (e := (1 : Int)) (VR.int S f hi)
   show TR.rep TrD S (List.flatten [(.string ⟨(([98] : List UInt8) : List UInt8).toArray⟩ : Value).cells.toList, (.string ⟨(([97] : List UInt8) : List UInt8).toArray⟩ : Value).cells.toList, [.int .i64 0], (.int .i64 (3 : Int) : Value).cells.toList, (.int .i64 (1 : Int) : Value).cells.toList, (.int .i64 (1 : Int) : Value).cells.toList]) _
   simp only [e0, e1, e3, e4, e5,  List.flatten_cons, List.flatten_nil, List.append_nil]
   exact ⟨_, _, rfl, r0, ⟨_, _, rfl, r1, ⟨_, _, rfl, rfl, ⟨_, _, rfl, r3, ⟨_, _, rfl, r4, r4⟩⟩⟩⟩⟩) ?_
 intro v15
 obtain ⟨y16, e17, hm⟩ := bind_some hm
 refine RL.callU (vs := [v10, v15, .string ⟨(([97] : List UInt8) : List UInt8).toArray⟩]) (LR := fun (o : Value) => [own 30 TrA o y16.1]) (fun o => ⟨Loc.own (TR.flatT_pair TR.flatT_str (TR.flatT_pair TR.flatT_ik TR.flatT_ik)), trivial⟩) Tryz_fit10 rfl rfl rfl rfl rfl (fun U w hU hW hL => ledger_Take_c U w hU _ _ (hL 2 _ _ rfl Seen.own) _ _ (hL 3 _ _ rfl Seen.imm) ([97] : List UInt8) _ e17) ?_
 intro v18
 refine RL.mv rfl rfl rfl ?_
 refine RL.ext rfl rfl rfl rfl ?_
 refine RL.ext rfl rfl rfl rfl ?_
 refine RL.asg rfl rfl rfl ?_
 refine RL.asg rfl rfl rfl ?_
 refine RL.finG ?_
 refine GL.seq ?_
 obtain ⟨y38, K39, h40, h41, h42, h43, h44⟩ := bindR_K hm
 refine GL.join (ι := Bool) (fun (p : Bool) => [(0, .bool p)]) (fun (p : Bool) => []) (fun (p : Bool) => K39 (.nx p)) ?_ ?_
 ·skip
  refine GL.region ?_
  refine RL.mv rfl rfl rfl ?_
  refine RL.mv rfl rfl rfl ?_
  refine RL.bS (t := TR.int) (vs := [.int .i64 y8.2, .int .i64 y16.2]) ([y8.2, y16.2] : (List Int)) Tryz.underlying79 Tryz_lo32 rfl rfl rfl rfl ⟨VR.int, ⟨VR.int, trivial⟩⟩ rfl (by decide) ?_
  intro v45
  refine RL.reL (L' := [imm TrA v6 ((([98] : List UInt8), (9 : Int), (0 : Int)) : ((List UInt8) × (Int × Int))), own 30 TrA v7 ([((([98] : List UInt8), (9 : Int), (0 : Int)) : ((List UInt8) × (Int × Int)))] : (List ((List UInt8) × (Int × Int)))), own 30 TrA v10 y8.1, imm TrD v15 ((([98] : List UInt8), ([97] : List UInt8), (0 : Int), (3 : Int), (1 : Int), (1 : Int)) : ((List UInt8) × ((List UInt8) × (Int × (Int × (Int × Int)))))), own 30 TrA v18 y16.1, own 32 TR.int v45 ([y8.2, y16.2] : (List Int))]) rfl ?_
  obtain ⟨y46, e47, h40⟩ := bind_some h40
  refine RL.callV (v := .bool y46) (vs := [v45]) Tryz_fit23 rfl (Or.inl rfl) rfl rfl rfl rfl (fun U w hU hW hL => pk_good_c U w hU _ _ (hL 5 _ _ rfl Seen.own) _ e47) ?_
  refine RL.mv rfl rfl rfl ?_
  refine RL.split (t := 21) rfl (fun b48 => ?_) (fun b48 => ?_)
  ·replace h40 := ite_t b48 h40
   refine RL.mv rfl rfl rfl ?_
   refine RL.bld (t := TrA) (d0 := ((([97] : List UInt8), (9 : Int), (0 : Int)) : ((List UInt8) × (Int × Int)))) (pv := [(0, .string ⟨(([97] : List UInt8) : List UInt8).toArray⟩), (1, .int .i64 (9 : Int))]) rfl Tryz_bld30 rfl rfl rfl ⟨⟨_, _, TR.str, ([97] : List UInt8), rfl, rfl, VR.str⟩, ⟨⟨_, _, TR.int, (9 : Int), rfl, rfl, VR.int⟩, trivial⟩⟩ (fun S f hi => by
     obtain ⟨c0, e0, r0⟩ := cells_vrep (t := TR.str) (u := .string ⟨(([97] : List UInt8) : List UInt8).toArray⟩) (e := ([97] : List UInt8)) (VR.str S f hi)
     obtain ⟨c1, e1, r1⟩ := cells_vrep (t := TR.int) (u := .int .i64 (9 : Int)) (e := (9 : Int)) (VR.int S f hi)
     show TR.rep TrA S (List.flatten [(.string ⟨(([97] : List UInt8) : List UInt8).toArray⟩ : Value).cells.toList, (.int .i64 (9 : Int) : Value).cells.toList, [.int .i64 0]]) _
     simp only [e0, e1,  List.flatten_cons, List.flatten_nil, List.append_nil]
     exact ⟨_, _, rfl, r0, ⟨_, _, rfl, r1, rfl⟩⟩) ?_
   intro v49
   refine RL.bld (t := TrA) (d0 := ((([98] : List UInt8), (5 : Int), (1 : Int)) : ((List UInt8) × (Int × Int)))) (pv := [(0, .string ⟨(([98] : List UInt8) : List UInt8).toArray⟩), (1, .int .i64 (5 : Int)), (2, .int .i64 (1 : Int))]) rfl Tryz_bld30 rfl rfl rfl ⟨⟨_, _, TR.str, ([98] : List UInt8), rfl, rfl, VR.str⟩, ⟨⟨_, _, TR.int, (5 : Int), rfl, rfl, VR.int⟩, ⟨⟨_, _, TR.int, (1 : Int), rfl, rfl, VR.int⟩, trivial⟩⟩⟩ (fun S f hi => by
     obtain ⟨c0, e0, r0⟩ := cells_vrep (t := TR.str) (u := .string ⟨(([98] : List UInt8) : List UInt8).toArray⟩) (e := ([98] : List UInt8)) (VR.str S f hi)
     obtain ⟨c1, e1, r1⟩ := cells_vrep (t := TR.int) (u := .int .i64 (5 : Int)) (e := (5 : Int)) (VR.int S f hi)
     obtain ⟨c2, e2, r2⟩ := cells_vrep (t := TR.int) (u := .int .i64 (1 : Int)) (e := (1 : Int)) (VR.int S f hi)
     show TR.rep TrA S (List.flatten [(.string ⟨(([98] : List UInt8) : List UInt8).toArray⟩ : Value).cells.toList, (.int .i64 (5 : Int) : Value).cells.toList, (.int .i64 (1 : Int) : Value).cells.toList]) _
     simp only [e0, e1, e2,  List.flatten_cons, List.flatten_nil, List.append_nil]
     exact ⟨_, _, rfl, r0, ⟨_, _, rfl, r1, r2⟩⟩) ?_
   intro v50
   refine RL.reL (L' := [imm TrA v6 ((([98] : List UInt8), (9 : Int), (0 : Int)) : ((List UInt8) × (Int × Int))), own 30 TrA v7 ([((([98] : List UInt8), (9 : Int), (0 : Int)) : ((List UInt8) × (Int × Int)))] : (List ((List UInt8) × (Int × Int)))), own 30 TrA v10 y8.1, imm TrD v15 ((([98] : List UInt8), ([97] : List UInt8), (0 : Int), (3 : Int), (1 : Int), (1 : Int)) : ((List UInt8) × ((List UInt8) × (Int × (Int × (Int × Int)))))), own 30 TrA v18 y16.1, own 32 TR.int v45 ([y8.2, y16.2] : (List Int)), imm TrA v49 ((([97] : List UInt8), (9 : Int), (0 : Int)) : ((List UInt8) × (Int × Int))), imm TrA v50 ((([98] : List UInt8), (5 : Int), (1 : Int)) : ((List UInt8) × (Int × Int)))]) rfl ?_
   refine RL.bS (t := TrA) (vs := [v49, v50]) ([((([97] : List UInt8), (9 : Int), (0 : Int)) : ((List UInt8) × (Int × Int))), ((([98] : List UInt8), (5 : Int), (1 : Int)) : ((List UInt8) × (Int × Int)))] : (List ((List UInt8) × (Int × Int)))) Tryz.underlying22 Tryz_lo30 rfl rfl rfl rfl ⟨(VR.item 6 rfl), ⟨(VR.item 7 rfl), trivial⟩⟩ rfl (by decide) ?_
   intro v51
   obtain ⟨y52, e53, h40⟩ := bind_some h40
   refine RL.callV (v := .bool y52) (vs := [v18, v51]) Tryz_fit21 rfl (Or.inl rfl) rfl rfl rfl rfl (fun U w hU hW hL => slices_Equal_api_Account_api_Account_c U w hU _ _ (hL 4 _ _ rfl Seen.own) _ _ (hL 8 _ _ rfl Seen.own) _ e53) ?_
   refine RL.pickT rfl rfl rfl rfl ?_
   refine RL.asg rfl rfl rfl ?_
   refine RL.fin ?_
   cases h40
   exact fun a w st => mid_intro y52 h41 (St.cut [] ⟨rfl, trivial⟩ (by decide) rfl st)
  replace h40 := ite_f b48 h40
  refine RL.skip rfl rfl ?_
  refine RL.skip rfl rfl ?_
  refine RL.skip rfl rfl ?_
  refine RL.skip rfl rfl ?_
  refine RL.skip rfl rfl ?_
  refine RL.pickF rfl rfl rfl rfl ?_
  refine RL.asg rfl rfl rfl ?_
  refine RL.fin ?_
  cases h40
  exact fun a w st => mid_intro false h41 (St.cut [] ⟨rfl, trivial⟩ (by decide) rfl st)
 rintro x37 h54
 have h55 := h42 _ h54
 try dsimp only at h55
 refine GL.weak (env' := [(0, .bool x37)]) (L' := []) (fun _ _ st => st) ?_
 have h55 := Option.some.inj h55
 subst h55
 exact GL.ret (Gx.ret (v := .bool x37) (res1 rfl rfl) (fun a w st => st.toPostV))

set_option maxHeartbeats 4000000 in
theorem slices_IndexFunc_api_Deal_api_Deal_c (S : Hp) (w : World) (hS : S.sub w) (v0 : Value) (x0 : (List ((List UInt8) × ((List UInt8) × (Int × (Int × (Int × Int))))))) (k0 : ((TR.sl TrD)).vrep S v0 x0) (f1 : FuncId) (c1 : Array Value) (t1 : Fit Tryz.prog f1) (g1 : ((List UInt8) × ((List UInt8) × (Int × (Int × (Int × Int))))) → Option Bool) (k1 : ∀ (U : Hp) (w' : World), Hp.le S U → U.sub w' → ∀ (u0 : Value) (a0 : ((List UInt8) × ((List UInt8) × (Int × (Int × (Int × Int)))))) (_ : (TrD).vrep U u0 a0) (rr : Bool), g1 a0 = some rr → Calls Tryz.prog f1 (#[u0] ++ c1) w' (PostV w' (.bool rr))) (res : Int) (hm : slices_IndexFunc_api_Deal_api_Deal_m x0 g1 = some res) : Calls Tryz.prog 54 #[v0, .func (.func f1) #[] c1] w (PostV w (.int .i64 res)) := by
 refine calls_enter 19 Tryz.func54 Tryz.ntmps54 rfl S false [(0, v0), (1, .func (.func f1) #[] c1)] [imm (TR.sl TrD) v0 x0] rfl ⟨rfl, ⟨rfl, trivial⟩⟩ hS ⟨k0, trivial⟩ ?_
 unfold slices_IndexFunc_api_Deal_api_Deal_m at hm
 refine GL.seq ?_
 refine GL.region ?_
 refine RL.asg rfl rfl rfl ?_
 refine RL.finG ?_
 refine GL.seq ?_
 refine GL.seq ?_
 refine GL.region ?_
 refine RL.mv rfl rfl rfl ?_
 refine RL.lenS 0 Tryz.underlying25 rfl rfl rfl rfl SlOf.imm ?_
 refine RL.mv rfl rfl rfl ?_
 refine RL.finG ?_
 refine GL.open_ 0 rfl (fun S h => len_imm S h) (fun n14 => ?_)
 obtain ⟨y15, K16, h17, h18, h19, h20, h21⟩ := bindR_K hm
 refine GL.join (ι := Unit) (fun (p : Unit) => []) (fun (p : Unit) => []) (fun (p : Unit) => K16 (.nx ())) ?_ ?_
 ·refine GL.block ?_
  refine GL.loop (ι := Nat × (List ((List UInt8) × ((List UInt8) × (Int × (Int × (Int × Int))))))) (fun (p : Nat × (List ((List UInt8) × ((List UInt8) × (Int × (Int × (Int × Int))))))) => [(0, v0), (1, .func (.func f1) #[] c1), (7, .int .i64 ((x0).length : Int)), (8, .int .i64 (p.1 : Int))]) (fun (p : Nat × (List ((List UInt8) × ((List UInt8) × (Int × (Int × (Int × Int))))))) => [imm (TR.sl TrD) v0 x0]) (fun (p : Nat × (List ((List UInt8) × ((List UInt8) × (Int × (Int × (Int × Int))))))) => p.1 + p.2.length = (x0).length ∧ List.drop p.1 x0 = p.2 ∧ rangeL (slices_IndexFunc_api_Deal_api_Deal_b1 g1) p.2 p.1 () = some y15) (fun (p : Nat × (List ((List UInt8) × ((List UInt8) × (Int × (Int × (Int × Int))))))) => p.2.length) (0, x0) ⟨by simp, by simp, h17⟩ (fun a w st => St.cut [0] ⟨rfl, rfl, rfl, rfl, trivial⟩ (by decide) rfl st) ?_
  rintro ⟨i22, r23⟩ ⟨h28, h29, h27⟩
  try dsimp only at h28 h29 h27
  refine GL.weak (env' := [(0, v0), (1, .func (.func f1) #[] c1), (7, .int .i64 ((x0).length : Int)), (8, .int .i64 (i22 : Int))]) (L' := [imm (TR.sl TrD) v0 x0]) (fun _ _ st => st) ?_
  refine GL.seq ?_
  refine GL.region ?_
  refine RL.binI (v := .bool (decide ((i22 : Int) < ((x0).length : Int)))) rfl rfl rfl rfl rfl ?_
  refine RL.finG ?_
  refine GL.seq ?_
  refine GL.cond rfl (fun b30 => ?_) (fun b30 => ?_)
  ·have h31 : i22 < (x0).length := by have := of_decide_eq_true b30; omega
   obtain ⟨y32, r34, hr, e33, h35⟩ := drop_cons h29 rfl h31
   subst hr
   obtain ⟨z24, h25, h26⟩ := rangeL_some h27
   unfold slices_IndexFunc_api_Deal_api_Deal_b1 at h25
   try dsimp only at h25
   refine GL.skip ?_
   refine GL.seq ?_
   refine GL.block ?_
   refine GL.seq ?_
   refine GL.region ?_
   refine RL.mv rfl rfl rfl ?_
   refine RL.asg rfl rfl rfl ?_
   refine RL.finG ?_
   refine GL.seq ?_
   refine GL.region ?_
   refine RL.mv rfl rfl rfl ?_
   refine RL.mv rfl rfl rfl ?_
   refine RL.mv rfl rfl rfl ?_
   refine RL.idxS (sz := 6) 0 Tryz.underlying25 Tryz_ln24 rfl rfl rfl rfl rfl SlOf.imm (by omega) (by omega) ?_
   refine RL.ldS (i := i22) (r := TrD) (e' := y32) 0 Tryz_ln24 rfl rfl rfl rfl SlOf.imm e33 Part.self ?_
   intro v39
   obtain ⟨y40, e41, h25⟩ := bind_some h25
   refine RL.callV (v := .bool y40) (vs := [v39]) t1 rfl (Or.inl rfl) rfl rfl rfl rfl (fun U w hU hW hL => k1 U w hW hU _ _ (hL 1 _ _ rfl Seen.imm) _ e41) ?_
   refine RL.finG ?_
   refine GL.cond rfl (fun b42 => ?_) (fun b42 => ?_)
   ·replace h25 := ite_t b42 h25
    refine GL.seq ?_
    refine GL.region ?_
    refine RL.mv rfl rfl rfl ?_
    refine RL.asg rfl rfl rfl ?_
    refine RL.finG ?_
    cases h25
    replace h26 : some (Fl.rt _) = some y15 := h26
    cases h26
    have hh := h20 _ h18
    subst hh
    exact GL.ret (Gx.ret (v := .int .i64 (i22 : Int)) (res1 rfl rfl) (fun a w st => st.toPostV))
   replace h25 := ite_f b42 h25
   refine GL.skip ?_
   refine GL.nilB ?_
   refine GL.region ?_
   refine RL.binI (v := .int .i64 ((i22 + 1 : Nat) : Int)) rfl rfl rfl rfl (binI_succ i22 (by omega)) ?_
   refine RL.mv rfl rfl rfl ?_
   refine RL.fin ?_
   cases h25
   exact fun a w st => lop_intro (i22 + 1, r34) ⟨by show i22 + 1 + r34.length = (x0).length; simp only [List.length_cons] at h28; omega, h35, h26⟩ (by simp) (St.cut [0] ⟨rfl, rfl, rfl, rfl, trivial⟩ (by decide) rfl st)
  have h31 : ¬ i22 < (x0).length := by have := of_decide_eq_false b30; omega
  obtain rfl : r23 = [] := by rw [← h29]; exact List.drop_of_length_le (by omega)
  replace h27 : some (Fl.nx _) = some y15 := h27
  cases h27
  exact GL.exit (fun a w st => mid_intro () h18 (St.cut [] trivial (by decide) rfl st))
 rintro ⟨⟩ h43
 have h44 := h19 _ h43
 try dsimp only at h44
 refine GL.weak (env' := []) (L' := []) (fun _ _ st => st) ?_
 refine GL.seq ?_
 refine GL.region ?_
 refine RL.asg rfl rfl rfl ?_
 refine RL.finG ?_
 have h44 := Option.some.inj h44
 subst h44
 exact GL.ret (Gx.ret (v := .int .i64 (-1 : Int)) (res1 rfl rfl) (fun a w st => st.toPostV))

set_option maxHeartbeats 4000000 in
theorem queue_find_1_c (S : Hp) (w : World) (hS : S.sub w) (v0 : Value) (x0 : ((List UInt8) × ((List UInt8) × (Int × (Int × (Int × Int)))))) (k0 : (TrD).vrep S v0 x0) (v1 : Value) (x1 : (List UInt8)) (k1 : ((TR.ptr TR.str)).vrep S v1 x1) (v2 : Value) (x2 : Int) (k2 : ((TR.ptr TR.int)).vrep S v2 x2) (res : Bool) (hm : queue_find_1_m x0 x1 x2 = some res) : Calls Tryz.prog 55 #[v0, v1, v2] w (PostV w (.bool res)) := by
 refine calls_enter 15 Tryz.func55 Tryz.ntmps55 rfl S false [(0, v0), (1, v1), (2, v2)] [imm TrD v0 x0, imm (TR.ptr TR.str) v1 x1, imm (TR.ptr TR.int) v2 x2] rfl ⟨rfl, ⟨rfl, ⟨rfl, trivial⟩⟩⟩ hS ⟨k0, ⟨k1, ⟨k2, trivial⟩⟩⟩ ?_
 unfold queue_find_1_m at hm
 refine GL.seq ?_
 refine GL.region ?_
 refine RL.box (t := TrD) (e := x0) rfl rfl rfl rfl (VR.item 0 rfl) ?_
 intro v5
 refine RL.asg rfl rfl rfl ?_
 refine RL.finG ?_
 refine GL.seq ?_
 obtain ⟨y9, K10, h11, h12, h13, h14, h15⟩ := bindR_K hm
 refine GL.join (ι := Bool) (fun (p : Bool) => [(4, .bool p)]) (fun (p : Bool) => []) (fun (p : Bool) => K10 (.nx p)) ?_ ?_
 ·skip
  refine GL.region ?_
  refine RL.fadr (off := 0) (fo := 0) 3 Tryz_fld24_0 rfl rfl rfl PtOf.obox (Or.inr ⟨rfl, rfl⟩) ?_
  refine RL.ldPx (off := (0 + 0)) (e' := x0.1) 3 Ex.str Tryz_ln9 rfl rfl (Or.inl rfl) rfl PtOf.obox (Part.fst Part.self) ?_
  refine RL.ldPx (off := 0) (e' := x1) 1 Ex.str Tryz_ln9 rfl rfl (Or.inr ⟨rfl, rfl⟩) rfl PtOf.imm Part.self ?_
  refine RL.binS (v := .bool (x0.1 == x1)) rfl rfl rfl rfl rfl ?_
  refine RL.mv rfl rfl rfl ?_
  refine RL.split (t := 9) rfl (fun b16 => ?_) (fun b16 => ?_)
  ·replace h11 := ite_t b16 h11
   refine RL.fadr (off := 0) (fo := 2) 3 Tryz_fld24_2 rfl rfl rfl PtOf.obox (Or.inr ⟨rfl, rfl⟩) ?_
   refine RL.ldPx (off := (0 + 2)) (e' := x0.2.2.1) 3 Ex.ik Tryz_ln3 rfl rfl (Or.inl rfl) rfl PtOf.obox (Part.snd (Part.snd (Part.fst Part.self))) ?_
   refine RL.ldPx (off := 0) (e' := x2) 2 Ex.ik Tryz_ln3 rfl rfl (Or.inr ⟨rfl, rfl⟩) rfl PtOf.imm Part.self ?_
   refine RL.binI (v := .bool (x0.2.2.1 == x2)) rfl rfl rfl rfl rfl ?_
   refine RL.pickT rfl rfl rfl rfl ?_
   refine RL.asg rfl rfl rfl ?_
   refine RL.fin ?_
   cases h11
   exact fun a w st => mid_intro (x0.2.2.1 == x2) h12 (St.cut [] ⟨rfl, trivial⟩ (by decide) rfl st)
  replace h11 := ite_f b16 h11
  refine RL.skip rfl rfl ?_
  refine RL.skip rfl rfl ?_
  refine RL.skip rfl rfl ?_
  refine RL.skip rfl rfl ?_
  refine RL.pickF rfl rfl rfl rfl ?_
  refine RL.asg rfl rfl rfl ?_
  refine RL.fin ?_
  cases h11
  exact fun a w st => mid_intro false h12 (St.cut [] ⟨rfl, trivial⟩ (by decide) rfl st)
 rintro x8 h17
 have h18 := h13 _ h17
 try dsimp only at h18
 refine GL.weak (env' := [(4, .bool x8)]) (L' := []) (fun _ _ st => st) ?_
 have h18 := Option.some.inj h18
 subst h18
 exact GL.ret (Gx.ret (v := .bool x8) (res1 rfl rfl) (fun a w st => st.toPostV))

set_option maxHeartbeats 4000000 in
theorem queue_find_c (S : Hp) (w : World) (hS : S.sub w) (v0 : Value) (x0 : (List ((List UInt8) × ((List UInt8) × (Int × (Int × (Int × Int))))))) (k0 : ((TR.sl TrD)).vrep S v0 x0) (x1 : (List UInt8)) (x2 : Int) (res : Int) (hm : queue_find_m x0 x1 x2 = some res) : Calls Tryz.prog 34 #[v0, .string ⟨(x1 : List UInt8).toArray⟩, .int .i64 x2] w (PostV w (.int .i64 res)) := by
 refine calls_enter 10 Tryz.func34 Tryz.ntmps34 rfl S false [(0, v0), (1, .string ⟨(x1 : List UInt8).toArray⟩), (2, .int .i64 x2)] [imm (TR.sl TrD) v0 x0] rfl ⟨rfl, ⟨rfl, ⟨rfl, trivial⟩⟩⟩ hS ⟨k0, trivial⟩ ?_
 unfold queue_find_m at hm
 refine GL.seq ?_
 refine GL.region ?_
 refine RL.box (t := TR.str) (e := x1) rfl rfl rfl rfl VR.str ?_
 intro v6
 refine RL.box (t := TR.int) (e := x2) rfl rfl rfl rfl VR.int ?_
 intro v7
 refine RL.reL (L' := [imm (TR.sl TrD) v0 x0, obox 9 TR.str v6 x1, obox 3 TR.int v7 x2]) rfl ?_
 refine RL.asg rfl rfl rfl ?_
 refine RL.finG ?_
 refine GL.seq ?_
 refine GL.region ?_
 refine RL.mv rfl rfl rfl ?_
 refine RL.mkF (vs := [v6, v7]) rfl rfl rfl ?_
 obtain ⟨y10, e11, hm⟩ := bind_some hm
 refine RL.callV (v := .int .i64 y10) (vs := [v0, .func (.func 55) #[] #[v6, v7]]) Tryz_fit54 rfl (Or.inl rfl) rfl rfl rfl rfl (fun U w hU hW hL => slices_IndexFunc_api_Deal_api_Deal_c U w hU _ _ (hL 0 _ _ rfl Seen.imm) 55 #[v6, v7] Tryz_fit55 (fun a0 => queue_find_1_m a0 x1 x2) (fun U' w' hle hU' u0 a0 q0 rr hr => (queue_find_1_c U' w' hU' u0 a0 q0 _ _ (TR.vrep_mono hle (hL 1 _ _ rfl Seen.obox)) _ _ (TR.vrep_mono hle (hL 2 _ _ rfl Seen.obox)) rr hr).mono (fun _ _ z => z)) _ e11) ?_
 refine RL.asg rfl rfl rfl ?_
 refine RL.finG ?_
 have hm := Option.some.inj hm
 subst hm
 exact GL.ret (Gx.ret (v := .int .i64 y10) (res1 rfl rfl) (fun a w st => st.toPostV))

set_option maxHeartbeats 4000000 in
theorem queue_Check_c (S : Hp) (w : World) (hS : S.sub w) (v0 : Value) (x0 : (List ((List UInt8) × ((List UInt8) × (Int × (Int × (Int × Int))))))) (k0 : ((TR.sl TrD)).vrep S v0 x0) (res : Int) (hm : queue_Check_m x0 = some res) : Calls Tryz.prog 33 #[v0] w (PostV w (.int .i64 res)) := by
 refine calls_enter 31 Tryz.func33 Tryz.ntmps33 rfl S false [(0, v0)] [imm (TR.sl TrD) v0 x0] rfl ⟨rfl, trivial⟩ hS ⟨k0, trivial⟩ ?_
 unfold queue_Check_m at hm
 refine GL.seq ?_
 refine GL.region ?_
 refine RL.asg rfl rfl rfl ?_
 refine RL.finG ?_
 refine GL.seq ?_
 refine GL.seq ?_
 refine GL.region ?_
 refine RL.mv rfl rfl rfl ?_
 refine RL.lenS 0 Tryz.underlying25 rfl rfl rfl rfl SlOf.imm ?_
 refine RL.binI (v := .bool (decide (((x0).length : Int) > (20 : Int)))) rfl rfl rfl rfl rfl ?_
 refine RL.finG ?_
 refine GL.cond rfl (fun b2 => ?_) (fun b2 => ?_)
 ·replace hm := ite_t b2 hm
  refine GL.seq ?_
  refine GL.region ?_
  refine RL.asg rfl rfl rfl ?_
  refine RL.finG ?_
  have hm := Option.some.inj hm
  subst hm
  exact GL.ret (Gx.ret (v := .int .i64 (2 : Int)) (res1 rfl rfl) (fun a w st => st.toPostV))
 replace hm := ite_f b2 hm
 refine GL.skip ?_
 refine GL.seq ?_
 refine GL.seq ?_
 refine GL.region ?_
 refine RL.mv rfl rfl rfl ?_
 refine RL.lenS 0 Tryz.underlying25 rfl rfl rfl rfl SlOf.imm ?_
 refine RL.mv rfl rfl rfl ?_
 refine RL.finG ?_
 refine GL.open_ 0 rfl (fun S h => len_imm S h) (fun n29 => ?_)
 obtain ⟨y30, K31, h32, h33, h34, h35, h36⟩ := bindR_K hm
 refine GL.join (ι := Unit) (fun (p : Unit) => []) (fun (p : Unit) => []) (fun (p : Unit) => K31 (.nx ())) ?_ ?_
 ·refine GL.block ?_
  refine GL.loop (ι := Nat × (List ((List UInt8) × ((List UInt8) × (Int × (Int × (Int × Int))))))) (fun (p : Nat × (List ((List UInt8) × ((List UInt8) × (Int × (Int × (Int × Int))))))) => [(0, v0), (9, v0), (10, .int .i64 ((x0).length : Int)), (11, .int .i64 (p.1 : Int))]) (fun (p : Nat × (List ((List UInt8) × ((List UInt8) × (Int × (Int × (Int × Int))))))) => [imm (TR.sl TrD) v0 x0]) (fun (p : Nat × (List ((List UInt8) × ((List UInt8) × (Int × (Int × (Int × Int))))))) => p.1 + p.2.length = (x0).length ∧ List.drop p.1 x0 = p.2 ∧ rangeL (queue_Check_b1 x0) p.2 p.1 () = some y30) (fun (p : Nat × (List ((List UInt8) × ((List UInt8) × (Int × (Int × (Int × Int))))))) => p.2.length) (0, x0) ⟨by simp, by simp, h32⟩ (fun a w st => St.cut [0] ⟨rfl, rfl, rfl, rfl, trivial⟩ (by decide) rfl st) ?_
  rintro ⟨i37, r38⟩ ⟨h43, h44, h42⟩
  try dsimp only at h43 h44 h42
  refine GL.weak (env' := [(0, v0), (9, v0), (10, .int .i64 ((x0).length : Int)), (11, .int .i64 (i37 : Int))]) (L' := [imm (TR.sl TrD) v0 x0]) (fun _ _ st => st) ?_
  refine GL.seq ?_
  refine GL.region ?_
  refine RL.binI (v := .bool (decide ((i37 : Int) < ((x0).length : Int)))) rfl rfl rfl rfl rfl ?_
  refine RL.finG ?_
  refine GL.seq ?_
  refine GL.cond rfl (fun b45 => ?_) (fun b45 => ?_)
  ·have h46 : i37 < (x0).length := by have := of_decide_eq_true b45; omega
   obtain ⟨y47, r49, hr, e48, h50⟩ := drop_cons h44 rfl h46
   subst hr
   obtain ⟨z39, h40, h41⟩ := rangeL_some h42
   unfold queue_Check_b1 at h40
   try dsimp only at h40
   refine GL.skip ?_
   refine GL.seq ?_
   refine GL.block ?_
   refine GL.seq ?_
   refine GL.region ?_
   refine RL.mv rfl rfl rfl ?_
   refine RL.idxS (sz := 6) 0 Tryz.underlying25 Tryz_ln24 rfl rfl rfl rfl rfl SlOf.imm (by omega) (by omega) ?_
   refine RL.ldS (i := i37) (r := TrD) (e' := y47) 0 Tryz_ln24 rfl rfl rfl rfl SlOf.imm e48 Part.self ?_
   intro v53
   refine RL.alloc (t := TrD) (z := (([] : List UInt8), ([] : List UInt8), (0 : Int), (0 : Int), (0 : Int), (0 : Int))) Tryz_lo24 (fun S => ⟨[.string ⟨#[]⟩], _, rfl, rfl, ⟨[.string ⟨#[]⟩], _, rfl, rfl, ⟨[.int .i64 0], _, rfl, rfl, ⟨[.int .i64 0], _, rfl, rfl, ⟨[.int .i64 0], _, rfl, rfl, rfl⟩⟩⟩⟩⟩) rfl rfl rfl ?_
   intro v54
   refine RL.reL (L' := [imm (TR.sl TrD) v0 x0, imm TrD v53 y47, obox 24 TrD v54 (([] : List UInt8), ([] : List UInt8), (0 : Int), (0 : Int), (0 : Int), (0 : Int))]) rfl ?_
   refine RL.asg rfl rfl rfl ?_
   refine RL.stP (off := 0) (e' := y47) (d1 := y47) (r := TrD) 2 Tryz_ln24 rfl rfl (Or.inr ⟨rfl, rfl⟩) rfl (VR.item 1 rfl) rfl Upd.self ?_
   refine RL.finG ?_
   refine GL.seq ?_
   refine GL.seq ?_
   refine GL.region ?_
   refine RL.ldP (off := 0) (r := TrD) (e' := y47) 2 Tryz_ln24 rfl rfl (Or.inr ⟨rfl, rfl⟩) rfl PtOf.obox Part.self ?_
   intro v58
   refine RL.reL (L' := [imm (TR.sl TrD) v0 x0, imm TrD v53 y47, obox 24 TrD v54 y47, imm TrD v58 y47]) rfl ?_
   obtain ⟨y59, e60, h40⟩ := bind_some h40
   refine RL.callV (v := .int .i64 y59) (vs := [v58]) Tryz_fit28 rfl (Or.inl rfl) rfl rfl rfl rfl (fun U w hU hW hL => ledger_Right_c U w hU _ _ (hL 3 _ _ rfl Seen.imm) _ e60) ?_
   refine RL.asg rfl rfl rfl ?_
   refine RL.finG ?_
   refine GL.seq ?_
   refine GL.region ?_
   refine RL.mv rfl rfl rfl ?_
   refine RL.binI (v := .bool (y59 != (0 : Int))) rfl rfl rfl rfl rfl ?_
   refine RL.finG ?_
   refine GL.cond rfl (fun b61 => ?_) (fun b61 => ?_)
   ·replace h40 := ite_t b61 h40
    refine GL.seq ?_
    refine GL.region ?_
    refine RL.mv rfl rfl rfl ?_
    refine RL.asg rfl rfl rfl ?_
    refine RL.finG ?_
    cases h40
    replace h41 : some (Fl.rt _) = some y30 := h41
    cases h41
    have hh := h35 _ h33
    subst hh
    exact GL.ret (Gx.ret (v := .int .i64 y59) (res1 rfl rfl) (fun a w st => st.toPostV))
   replace h40 := ite_f b61 h40
   refine GL.skip ?_
   refine GL.seq ?_
   refine GL.regionQ rfl rfl (by kernel_rfl) ?_
   refine RL.mv rfl rfl rfl ?_
   refine RL.mv rfl rfl rfl ?_
   obtain ⟨y67, e68, h40⟩ := bind_some h40
   replace e68 := chk_some e68
   refine RL.slc (t := TrD) (i := 0) (j := ((i37 : Int)).toNat) (sz := 6) 0 Tryz.underlying25 Tryz_ln24 rfl rfl rfl rfl (Or.inl ⟨rfl, rfl⟩) (Or.inr ⟨_, _, rfl, by rw [Int.toNat_of_nonneg (by omega)]; rfl⟩) rfl (by omega) (by omega) ?_
   intro v69
   refine RL.fadr (off := 0) (fo := 0) 2 Tryz_fld24_0 rfl rfl rfl PtOf.obox (Or.inr ⟨rfl, rfl⟩) ?_
   refine RL.ldPx (off := (0 + 0)) (e' := y47.1) 2 Ex.str Tryz_ln9 rfl rfl (Or.inl rfl) rfl PtOf.obox (Part.fst Part.self) ?_
   refine RL.fadr (off := 0) (fo := 2) 2 Tryz_fld24_2 rfl rfl rfl PtOf.obox (Or.inr ⟨rfl, rfl⟩) ?_
   refine RL.ldPx (off := (0 + 2)) (e' := y47.2.2.1) 2 Ex.ik Tryz_ln3 rfl rfl (Or.inl rfl) rfl PtOf.obox (Part.snd (Part.snd (Part.fst Part.self))) ?_
   obtain ⟨y70, e71, h40⟩ := bind_some h40
   refine RL.callV (v := .int .i64 y70) (vs := [v69, .string ⟨(y47.1 : List UInt8).toArray⟩, .int .i64 y47.2.2.1]) Tryz_fit34 rfl (Or.inr ⟨_, rfl⟩) rfl rfl rfl rfl (fun U w hU hW hL => queue_find_c U w hU _ _ (hL 4 _ _ rfl Seen.imm) y47.1 y47.2.2.1 _ e71) ?_
   refine RL.binI (v := .bool (decide (y70 ≥ (0 : Int)))) rfl rfl rfl rfl rfl ?_
   refine RL.finQG ?_
   refine GL.cond rfl (fun b72 => ?_) (fun b72 => ?_)
   ·replace h40 := ite_t b72 h40
    refine GL.seq ?_
    refine GL.region ?_
    refine RL.asg rfl rfl rfl ?_
    refine RL.finG ?_
    cases h40
    replace h41 : some (Fl.rt _) = some y30 := h41
    cases h41
    have hh := h35 _ h33
    subst hh
    exact GL.ret (Gx.ret (v := .int .i64 (7 : Int)) (res1 rfl rfl) (fun a w st => st.toPostV))
   replace h40 := ite_f b72 h40
   refine GL.skip ?_
   refine GL.nilB ?_
   refine GL.region ?_
   refine RL.binI (v := .int .i64 ((i37 + 1 : Nat) : Int)) rfl rfl rfl rfl (binI_succ i37 (by omega)) ?_
   refine RL.mv rfl rfl rfl ?_
   refine RL.fin ?_
   cases h40
   exact fun a w st => lop_intro (i37 + 1, r49) ⟨by show i37 + 1 + r49.length = (x0).length; simp only [List.length_cons] at h43; omega, h50, h41⟩ (by simp) (St.cut [0] ⟨rfl, rfl, rfl, rfl, trivial⟩ (by decide) rfl st)
  have h46 : ¬ i37 < (x0).length := by have := of_decide_eq_false b45; omega
  obtain rfl : r38 = [] := by rw [← h44]; exact List.drop_of_length_le (by omega)
  replace h42 : some (Fl.nx _) = some y30 := h42
  cases h42
  exact GL.exit (fun a w st => mid_intro () h33 (St.cut [] trivial (by decide) rfl st))
 rintro ⟨⟩ h73
 have h74 := h34 _ h73
 try dsimp only at h74
 refine GL.weak (env' := []) (L' := []) (fun _ _ st => st) ?_
 refine GL.seq ?_
 refine GL.region ?_
 refine RL.asg rfl rfl rfl ?_
 refine RL.finG ?_
 have h74 := Option.some.inj h74
 subst h74
 exact GL.ret (Gx.ret (v := .int .i64 (0 : Int)) (res1 rfl rfl) (fun a w st => st.toPostV))

set_option maxHeartbeats 4000000 in
theorem slices_Clone_api_Deal_api_Deal_c (S : Hp) (w : World) (hS : S.sub w) (v0 : Value) (x0 : List ((List UInt8) × ((List UInt8) × (Int × (Int × (Int × Int)))))) (k0 : (TR.sl TrD).vrep S v0 x0) (res : List ((List UInt8) × ((List UInt8) × (Int × (Int × (Int × Int)))))) (hm : slices_Clone_api_Deal_api_Deal_m x0 = some res) : Calls Tryz.prog 9 #[v0] w (Post w S (fun (o : Value) => o) (fun (o : Value) => [own 24 TrD o res])) := by
  refine calls_enter 8 Tryz.func9 Tryz.ntmps9 rfl S false [(0, v0)] [imm (TR.sl TrD) v0 x0] rfl ⟨rfl, trivial⟩ hS ⟨k0, trivial⟩ ?_
  unfold slices_Clone_api_Deal_api_Deal_m at hm
  obtain ⟨_, hc, hm⟩ := bind_some hm
  replace hc := chk_some hc
  have hm := Option.some.inj hm
  subst hm
  refine GL.seq (GL.region (RL.asg rfl rfl rfl (RL.finG (GL.seq (GL.seq (GL.region ?_))))))
  refine RL.mv rfl rfl rfl ?_
  refine RL.eqNil 0 Tryz.underlying25 rfl rfl rfl rfl rfl SlOf.imm (fun b hb => ?_)
  refine RL.finG (GL.cond rfl (fun h => ?_) (fun h => ?_))
  · have := hb h
    subst this
    refine GL.seq (GL.region (RL.asg rfl rfl rfl (RL.finG ?_)))
    refine GL.weak (fun a w st => st.nilOwn 24 TrD) ?_
    exact GL.ret (Gx.ret (v := Value.slice none 0 0) (res1 rfl rfl) (fun a w st => (st.pick [1] (by decide) rfl).toPost (Value.slice none 0 0)))
  · refine GL.skip (GL.seq (GL.region ?_))
    refine RL.bS (t := TrD) (vs := []) ([] : List ((List UInt8) × ((List UInt8) × (Int × (Int × (Int × Int)))))) Tryz.underlying25 Tryz_lo24 rfl rfl rfl rfl trivial rfl (by decide) ?_
    intro v1
    refine RL.mv rfl rfl rfl ?_
    refine RL.appB 1 0 Tryz.underlying25 Tryz_lo24 rfl rfl rfl rfl rfl rfl rfl SlOf.imm (RoomN.of (N := 2199023255552) Tryz_info24 (by decide) (by decide)) (by simpa using hc) ?_
    intro v2
    refine RL.asg rfl rfl rfl (RL.finG ?_)
    exact GL.ret (Gx.ret (v := v2) (res1 rfl rfl) (fun a w st => (st.pick [1] (by decide) rfl).toPost v2))

set_option maxHeartbeats 4000000 in
theorem queue_Add_c (S : Hp) (w : World) (hS : S.sub w) (v0 : Value) (x0 : (List ((List UInt8) × ((List UInt8) × (Int × (Int × (Int × Int))))))) (k0 : ((TR.sl TrD)).vrep S v0 x0) (v1 : Value) (x1 : ((List UInt8) × ((List UInt8) × (Int × (Int × (Int × Int)))))) (k1 : (TrD).vrep S v1 x1) (res : (List ((List UInt8) × ((List UInt8) × (Int × (Int × (Int × Int)))))) × Int) (hm : queue_Add_m x0 x1 = some res) : Calls Tryz.prog 13 #[v0, v1] w (Post w S (fun (o : Value) => .tuple #[o, .int .i64 res.2]) (fun (o : Value) => [own 24 TrD o res.1])) := by
 refine calls_enter 51 Tryz.func13 Tryz.ntmps13 rfl S false [(0, v0), (1, v1)] [imm (TR.sl TrD) v0 x0, imm TrD v1 x1] rfl ⟨rfl, ⟨rfl, trivial⟩⟩ hS ⟨k0, ⟨k1, trivial⟩⟩ ?_
 unfold queue_Add_m at hm
 refine GL.seq ?_
 refine GL.region ?_
 refine RL.box (t := TrD) (e := x1) rfl rfl rfl rfl (VR.item 1 rfl) ?_
 intro v4
 refine RL.asg rfl rfl rfl ?_
 refine RL.asg rfl rfl rfl ?_
 refine RL.finG ?_
 refine GL.seq ?_
 refine GL.seq ?_
 refine GL.region ?_
 refine RL.mv rfl rfl rfl ?_
 obtain ⟨y7, e8, hm⟩ := bind_some hm
 refine RL.callV (v := .int .i64 y7) (vs := [v0]) Tryz_fit33 rfl (Or.inl rfl) rfl rfl rfl rfl (fun U w hU hW hL => queue_Check_c U w hU _ _ (hL 0 _ _ rfl Seen.imm) _ e8) ?_
 refine RL.asg rfl rfl rfl ?_
 refine RL.finG ?_
 refine GL.seq ?_
 refine GL.region ?_
 refine RL.mv rfl rfl rfl ?_
 refine RL.binI (v := .bool (y7 != (0 : Int))) rfl rfl rfl rfl rfl ?_
 refine RL.finG ?_
 refine GL.cond rfl (fun b9 => ?_) (fun b9 => ?_)
 ·replace hm := ite_t b9 hm
  refine GL.seq ?_
  refine GL.region ?_
  refine RL.mv rfl rfl rfl ?_
  refine RL.asg rfl rfl rfl ?_
  refine RL.asg rfl rfl rfl ?_
  refine RL.finG ?_
  refine GL.weak (fun a w st => st.nilOwn 24 TrD) ?_
  have hm := Option.some.inj hm
  subst hm
  exact GL.ret (Gx.ret (v := .tuple #[Value.slice none 0 0, .int .i64 y7]) (res2 rfl rfl rfl) (fun a w st => (st.pick [3] (by decide) rfl).toPost (Value.slice none 0 0)))
 replace hm := ite_f b9 hm
 refine GL.skip ?_
 refine GL.seq ?_
 refine GL.seq ?_
 refine GL.region ?_
 refine RL.ldP (off := 0) (r := TrD) (e' := x1) 2 Tryz_ln24 rfl rfl (Or.inr ⟨rfl, rfl⟩) rfl PtOf.obox Part.self ?_
 intro v13
 refine RL.reL (L' := [imm (TR.sl TrD) v0 x0, imm TrD v1 x1, obox 24 TrD v4 x1, imm TrD v13 x1]) rfl ?_
 obtain ⟨y14, e15, hm⟩ := bind_some hm
 refine RL.callV (v := .int .i64 y14) (vs := [v13]) Tryz_fit28 rfl (Or.inl rfl) rfl rfl rfl rfl (fun U w hU hW hL => ledger_Right_c U w hU _ _ (hL 3 _ _ rfl Seen.imm) _ e15) ?_
 refine RL.asg rfl rfl rfl ?_
 refine RL.finG ?_
 refine GL.seq ?_
 refine GL.region ?_
 refine RL.mv rfl rfl rfl ?_
 refine RL.binI (v := .bool (y14 != (0 : Int))) rfl rfl rfl rfl rfl ?_
 refine RL.finG ?_
 refine GL.cond rfl (fun b16 => ?_) (fun b16 => ?_)
 ·replace hm := ite_t b16 hm
  refine GL.seq ?_
  refine GL.region ?_
  refine RL.mv rfl rfl rfl ?_
  refine RL.asg rfl rfl rfl ?_
  refine RL.asg rfl rfl rfl ?_
  refine RL.finG ?_
  refine GL.weak (fun a w st => st.nilOwn 24 TrD) ?_
  have hm := Option.some.inj hm
  subst hm
  exact GL.ret (Gx.ret (v := .tuple #[Value.slice none 0 0, .int .i64 y14]) (res2 rfl rfl rfl) (fun a w st => (st.pick [4] (by decide) rfl).toPost (Value.slice none 0 0)))
 replace hm := ite_f b16 hm
 refine GL.skip ?_
 refine GL.seq ?_
 refine GL.seq ?_
 refine GL.region ?_
 refine RL.mv rfl rfl rfl ?_
 refine RL.fadr (off := 0) (fo := 0) 2 Tryz_fld24_0 rfl rfl rfl PtOf.obox (Or.inr ⟨rfl, rfl⟩) ?_
 refine RL.ldPx (off := (0 + 0)) (e' := x1.1) 2 Ex.str Tryz_ln9 rfl rfl (Or.inl rfl) rfl PtOf.obox (Part.fst Part.self) ?_
 refine RL.fadr (off := 0) (fo := 2) 2 Tryz_fld24_2 rfl rfl rfl PtOf.obox (Or.inr ⟨rfl, rfl⟩) ?_
 refine RL.ldPx (off := (0 + 2)) (e' := x1.2.2.1) 2 Ex.ik Tryz_ln3 rfl rfl (Or.inl rfl) rfl PtOf.obox (Part.snd (Part.snd (Part.fst Part.self))) ?_
 obtain ⟨y19, e20, hm⟩ := bind_some hm
 refine RL.callV (v := .int .i64 y19) (vs := [v0, .string ⟨(x1.1 : List UInt8).toArray⟩, .int .i64 x1.2.2.1]) Tryz_fit34 rfl (Or.inl rfl) rfl rfl rfl rfl (fun U w hU hW hL => queue_find_c U w hU _ _ (hL 0 _ _ rfl Seen.imm) x1.1 x1.2.2.1 _ e20) ?_
 refine RL.asg rfl rfl rfl ?_
 refine RL.finG ?_
 refine GL.seq ?_
 refine GL.region ?_
 refine RL.mv rfl rfl rfl ?_
 refine RL.binI (v := .bool (decide (y19 ≥ (0 : Int)))) rfl rfl rfl rfl rfl ?_
 refine RL.finG ?_
 refine GL.cond rfl (fun b21 => ?_) (fun b21 => ?_)
 ·replace hm := ite_t b21 hm
  refine GL.seq ?_
  refine GL.seq ?_
  refine GL.regionQ rfl rfl (by kernel_rfl) ?_
  refine RL.fadr (off := 0) (fo := 4) 2 Tryz_fld24_4 rfl rfl rfl PtOf.obox (Or.inr ⟨rfl, rfl⟩) ?_
  refine RL.ldPx (off := (0 + 4)) (e' := x1.2.2.2.2.1) 2 Ex.ik Tryz_ln3 rfl rfl (Or.inl rfl) rfl PtOf.obox (Part.snd (Part.snd (Part.snd (Part.snd (Part.fst Part.self))))) ?_
  refine RL.mv rfl rfl rfl ?_
  refine RL.mv rfl rfl rfl ?_
  obtain ⟨y24, e25, hm⟩ := bind_some hm
  refine RL.idxS (sz := 6) 0 Tryz.underlying25 Tryz_ln24 rfl rfl rfl rfl rfl SlOf.imm (idx_some e25).1 (idx_some e25).2.1 ?_
  refine RL.fadrS (off := ((y19).toNat * 6)) (fo := 4) 0 Tryz_fld24_4 rfl rfl rfl SlOf.imm (by have := (List.getElem?_eq_some_iff.1 (idx_some e25).2.2).1; (try dsimp only at this ⊢); omega) rfl ?_
  refine RL.ldSx (i := (y19).toNat) (e' := y24.2.2.2.2.1) 0 Ex.ik Tryz_ln3 rfl rfl rfl rfl SlOf.imm (idx_some e25).2.2 (Part.snd (Part.snd (Part.snd (Part.snd (Part.fst Part.self))))) ?_
  refine RL.binI (v := .bool (decide (x1.2.2.2.2.1 ≤ y24.2.2.2.2.1))) rfl rfl rfl rfl rfl ?_
  refine RL.finQG ?_
  refine GL.cond rfl (fun b26 => ?_) (fun b26 => ?_)
  ·replace hm := ite_t b26 hm
   refine GL.seq ?_
   refine GL.region ?_
   refine RL.asg rfl rfl rfl ?_
   refine RL.asg rfl rfl rfl ?_
   refine RL.finG ?_
   refine GL.weak (fun a w st => st.nilOwn 24 TrD) ?_
   have hm := Option.some.inj hm
   subst hm
   exact GL.ret (Gx.ret (v := .tuple #[Value.slice none 0 0, .int .i64 (7 : Int)]) (res2 rfl rfl rfl) (fun a w st => (st.pick [4] (by decide) rfl).toPost (Value.slice none 0 0)))
  replace hm := ite_f b26 hm
  refine GL.skip ?_
  refine GL.seq ?_
  refine GL.region ?_
  refine RL.mv rfl rfl rfl ?_
  obtain ⟨y30, e31, hm⟩ := bind_some hm
  refine RL.call (vs := [v0]) Tryz_fit9 rfl rfl rfl rfl rfl (fun S f w hS hW hi => slices_Clone_api_Deal_api_Deal_c S w hS _ _ (hi 0 _ rfl) _ e31) ?_
  intro v32
  refine RL.asg rfl rfl rfl ?_
  refine RL.finG ?_
  refine GL.seq ?_
  refine GL.region ?_
  refine RL.mv rfl rfl rfl ?_
  refine RL.mv rfl rfl rfl ?_
  refine RL.ldP (off := 0) (r := TrD) (e' := x1) 2 Tryz_ln24 rfl rfl (Or.inr ⟨rfl, rfl⟩) rfl PtOf.obox Part.self ?_
  intro v36
  refine RL.reL (L' := [imm (TR.sl TrD) v0 x0, imm TrD v1 x1, obox 24 TrD v4 x1, imm TrD v13 x1, own 24 TrD v32 y30, imm TrD v36 x1]) rfl ?_
  obtain ⟨y37, e38, hm⟩ := bind_some hm
  refine RL.idxS (sz := 6) 4 Tryz.underlying25 Tryz_ln24 rfl rfl rfl rfl rfl SlOf.own (idx_some e38).1 (idx_some e38).2.1 ?_
  refine RL.stS (i := (y19).toNat) (e' := x1) (e1 := x1) (r := TrD) 4 Tryz_ln24 rfl rfl rfl rfl (VR.item 5 rfl) rfl (idx_some e38).2.2 Upd.self ?_
  refine RL.finG ?_
  refine GL.seq ?_
  refine GL.region ?_
  refine RL.mv rfl rfl rfl ?_
  refine RL.asg rfl rfl rfl ?_
  refine RL.asg rfl rfl rfl ?_
  refine RL.finG ?_
  have hm := Option.some.inj hm
  subst hm
  exact GL.ret (Gx.ret (v := .tuple #[v32, .int .i64 (0 : Int)]) (res2 rfl rfl rfl) (fun a w st => (st.pick [4] (by decide) rfl).toPost v32))
 replace hm := ite_f b21 hm
 refine GL.skip ?_
 refine GL.seq ?_
 refine GL.seq ?_
 refine GL.region ?_
 refine RL.mv rfl rfl rfl ?_
 refine RL.lenS 0 Tryz.underlying25 rfl rfl rfl rfl SlOf.imm ?_
 refine RL.binI (v := .bool (((x0).length : Int) == (20 : Int))) rfl rfl rfl rfl rfl ?_
 refine RL.finG ?_
 refine GL.cond rfl (fun b39 => ?_) (fun b39 => ?_)
 ·replace hm := ite_t b39 hm
  refine GL.seq ?_
  refine GL.region ?_
  refine RL.asg rfl rfl rfl ?_
  refine RL.asg rfl rfl rfl ?_
  refine RL.finG ?_
  refine GL.weak (fun a w st => st.nilOwn 24 TrD) ?_
  have hm := Option.some.inj hm
  subst hm
  exact GL.ret (Gx.ret (v := .tuple #[Value.slice none 0 0, .int .i64 (8 : Int)]) (res2 rfl rfl rfl) (fun a w st => (st.pick [4] (by decide) rfl).toPost (Value.slice none 0 0)))
 replace hm := ite_f b39 hm
 refine GL.skip ?_
 refine GL.seq ?_
 refine GL.regionA rfl rfl ?_
 refine RA.mv 0 rfl (by kernel_rfl) rfl rfl rfl ?_
 obtain ⟨y65, e66, hm⟩ := bind_some hm
 refine RA.meet (ι := Value × Value) (fun (p : Value × Value) => [(47, p.1), (49, p.2)]) (fun (p : Value × Value) => [own 24 TrD p.1 y65, own 24 TrD p.2 ([x1] : (List ((List UInt8) × ((List UInt8) × (Int × (Int × (Int × Int)))))))]) 3 #[true, true, true, true, false, false, false] (fun h75 => ?_) ?_
 ·skip
  refine RA.meet (ι := Value) (fun (p : Value) => [(46, v0), (49, p)]) (fun (p : Value) => [imm (TR.sl TrD) v0 x0, own 24 TrD p ([x1] : (List ((List UInt8) × ((List UInt8) × (Int × (Int × (Int × Int)))))))]) 4 #[true, false, true, true, false, false, false] (fun h76 => ?_) ?_
  rotate_left
  ·rintro v73
   refine RA.weak (env' := [(46, v0), (49, v73)]) (L' := [imm (TR.sl TrD) v0 x0, own 24 TrD v73 ([x1] : (List ((List UInt8) × ((List UInt8) × (Int × (Int × (Int × Int)))))))]) (fun _ _ st => st) ?_
   refine RA.seq 1 rfl (by kernel_rfl) ?_
   refine RL.call (vs := [v0]) Tryz_fit9 rfl rfl rfl rfl rfl (fun S f w hS hW hi => slices_Clone_api_Deal_api_Deal_c S w hS _ _ (hi 0 _ rfl) _ e66) ?_
   intro v86
   refine RL.fin ?_
   refine RA.next ?_
   refine RA.relist 3 #[true, true, true, true, false, false, false] rfl (by kernel_rfl) ?_
   exact fun a w st => h75 (v86, v73) a w (St.cut [2, 1] ⟨rfl, rfl, trivial⟩ (by decide) rfl st)
  refine RA.meet (ι := Value × Value) (fun (p : Value × Value) => [(47, p.1), (48, p.2)]) (fun (p : Value × Value) => [own 24 TrD p.1 y65, imm TrD p.2 x1]) 4 #[true, true, true, false, false, false, false] (fun h77 => ?_) ?_
  rotate_left
  ·rintro ⟨v70, v72⟩
   refine RA.weak (env' := [(47, v70), (48, v72)]) (L' := [own 24 TrD v70 y65, imm TrD v72 x1]) (fun _ _ st => st) ?_
   refine RA.seq 3 rfl (by kernel_rfl) ?_
   refine RL.bS (t := TrD) (vs := [v72]) ([x1] : (List ((List UInt8) × ((List UInt8) × (Int × (Int × (Int × Int))))))) Tryz.underlying25 Tryz_lo24 rfl rfl rfl rfl ⟨(VR.item 1 rfl), trivial⟩ rfl (by decide) ?_
   intro v85
   refine RL.fin ?_
   refine RA.next ?_
   refine RA.relist 3 #[true, true, true, true, false, false, false] rfl (by kernel_rfl) ?_
   exact fun a w st => h75 (v70, v85) a w (St.cut [0, 2] ⟨rfl, rfl, trivial⟩ (by decide) rfl st)
  refine RA.meet (ι := Value) (fun (p : Value) => [(3, v4), (47, p)]) (fun (p : Value) => [obox 24 TrD v4 x1, own 24 TrD p y65]) 5 #[true, true, false, false, false, false, false] (fun h78 => ?_) ?_
  rotate_left
  ·rintro v70
   refine RA.weak (env' := [(3, v4), (47, v70)]) (L' := [obox 24 TrD v4 x1, own 24 TrD v70 y65]) (fun _ _ st => st) ?_
   refine RA.seq 2 rfl (by kernel_rfl) ?_
   refine RL.ldP (off := 0) (r := TrD) (e' := x1) 0 Tryz_ln24 rfl rfl (Or.inr ⟨rfl, rfl⟩) rfl PtOf.obox Part.self ?_
   intro v84
   refine RL.fin ?_
   refine RA.next ?_
   refine RA.relist 4 #[true, true, true, false, false, false, false] rfl (by kernel_rfl) ?_
   exact fun a w st => h77 (v70, v84) a w (St.cut [1, 2] ⟨rfl, rfl, trivial⟩ (by decide) rfl st)
  refine RA.meet (ι := Value) (fun (p : Value) => [(46, v0), (48, p)]) (fun (p : Value) => [imm (TR.sl TrD) v0 x0, imm TrD p x1]) 5 #[true, false, true, false, false, false, false] (fun h79 => ?_) ?_
  rotate_left
  ·rintro v71
   refine RA.weak (env' := [(46, v0), (48, v71)]) (L' := [imm (TR.sl TrD) v0 x0, imm TrD v71 x1]) (fun _ _ st => st) ?_
   refine RA.many [1, 3] (by kernel_rfl) ⟨⟨_, rfl, ?_⟩, ⟨_, rfl, ?_⟩, trivial⟩
   ·skip
    refine RL.call (vs := [v0]) Tryz_fit9 rfl rfl rfl rfl rfl (fun S f w hS hW hi => slices_Clone_api_Deal_api_Deal_c S w hS _ _ (hi 0 _ rfl) _ e66) ?_
    intro v82
    refine RL.fin ?_
    refine RA.next ?_
    refine RA.relist 4 #[true, true, true, false, false, false, false] rfl (by kernel_rfl) ?_
    exact fun a w st => h77 (v82, v71) a w (St.cut [2, 1] ⟨rfl, rfl, trivial⟩ (by decide) rfl st)
   refine RL.bS (t := TrD) (vs := [v71]) ([x1] : (List ((List UInt8) × ((List UInt8) × (Int × (Int × (Int × Int))))))) Tryz.underlying25 Tryz_lo24 rfl rfl rfl rfl ⟨(VR.item 1 rfl), trivial⟩ rfl (by decide) ?_
   intro v83
   refine RL.fin ?_
   refine RA.next ?_
   refine RA.relist 4 #[true, false, true, true, false, false, false] rfl (by kernel_rfl) ?_
   exact fun a w st => h76 v83 a w (St.cut [0, 2] ⟨rfl, rfl, trivial⟩ (by decide) rfl st)
  refine RA.many [1, 2] (by kernel_rfl) ⟨⟨_, rfl, ?_⟩, ⟨_, rfl, ?_⟩, trivial⟩
  ·skip
   refine RL.call (vs := [v0]) Tryz_fit9 rfl rfl rfl rfl rfl (fun S f w hS hW hi => slices_Clone_api_Deal_api_Deal_c S w hS _ _ (hi 0 _ rfl) _ e66) ?_
   intro v80
   refine RL.fin ?_
   refine RA.next ?_
   refine RA.relist 5 #[true, true, false, false, false, false, false] rfl (by kernel_rfl) ?_
   exact fun a w st => h78 v80 a w (St.cut [2, 4] ⟨rfl, rfl, trivial⟩ (by decide) rfl st)
  refine RL.ldP (off := 0) (r := TrD) (e' := x1) 2 Tryz_ln24 rfl rfl (Or.inr ⟨rfl, rfl⟩) rfl PtOf.obox Part.self ?_
  intro v81
  refine RL.fin ?_
  refine RA.next ?_
  refine RA.relist 5 #[true, false, true, false, false, false, false] rfl (by kernel_rfl) ?_
  exact fun a w st => h79 v81 a w (St.cut [0, 4] ⟨rfl, rfl, trivial⟩ (by decide) rfl st)
 rintro ⟨v74, v73⟩
 refine RA.weak (env' := [(47, v74), (49, v73)]) (L' := [own 24 TrD v74 y65, own 24 TrD v73 ([x1] : (List ((List UInt8) × ((List UInt8) × (Int × (Int × (Int × Int)))))))]) (fun _ _ st => st) ?_
 refine RA.seq 4 rfl (by kernel_rfl) ?_
 obtain ⟨y87, e88, hm⟩ := bind_some hm
 replace e88 := chk_some e88
 refine RL.app 0 1 Tryz.underlying25 Tryz_lo24 rfl rfl rfl rfl rfl rfl rfl SlOf.own e88 ?_
 intro v89
 refine RL.fin ?_
 refine RA.next ?_
 refine RA.quiet 5 rfl rfl (by kernel_rfl) ?_
 simp only [List.drop_succ_cons, List.drop_zero]
 refine RL.asg rfl rfl rfl ?_
 refine RL.asg rfl rfl rfl ?_
 refine RL.finQ ?_
 refine RA.outQ ?_
 refine GL.weak (env' := [(4, v89), (5, .int .i64 (0 : Int))]) (L' := [own 24 TrD v89 (y65 ++ ([x1] : (List ((List UInt8) × ((List UInt8) × (Int × (Int × (Int × Int))))))))]) (fun a w st => St.cut [0] ⟨rfl, rfl, trivial⟩ (by decide) rfl st) ?_
 have hm := Option.some.inj hm
 subst hm
 exact GL.ret (Gx.ret (v := .tuple #[v89, .int .i64 (0 : Int)]) (res2 rfl rfl rfl) (fun a w st => (st.pick [0] (by decide) rfl).toPost v89))

set_option maxHeartbeats 4000000 in
theorem pk_queues_c (S : Hp) (w : World) (hS : S.sub w)  (res : Bool) (hm : pk_queues_m = some res) : Calls Tryz.prog 5 #[] w (PostV w (.bool res)) := by
 refine calls_enter 44 Tryz.func5 Tryz.ntmps5 rfl S false [] [] rfl trivial hS trivial ?_
 unfold pk_queues_m at hm
 refine GL.seq ?_
 refine GL.region ?_
 refine RL.asg rfl rfl rfl ?_
 refine RL.finG ?_
 refine GL.seq ?_
 refine GL.region ?_
 refine RL.bld (t := TrD) (d0 := ((([97] : List UInt8), ([98] : List UInt8), (0 : Int), (0 : Int), (1 : Int), (1 : Int)) : ((List UInt8) × ((List UInt8) × (Int × (Int × (Int × Int))))))) (pv := [(0, .string ⟨(([97] : List UInt8) : List UInt8).toArray⟩), (1, .string ⟨(([98] : List UInt8) : List UInt8).toArray⟩), (4, .int .i64 (1 : Int)), (5, .int .i64 (1 : Int))]) rfl Tryz_bld24 rfl rfl rfl ⟨⟨_, _, TR.str, ([97] : List UInt8), rfl, rfl, VR.str⟩, ⟨⟨_, _, TR.str, ([98] : List UInt8), rfl, rfl, VR.str⟩, ⟨⟨_, _, TR.int, (1 : Int), rfl, rfl, VR.int⟩, ⟨⟨_, _, TR.int, (1 : Int), rfl, rfl, VR.int⟩, trivial⟩⟩⟩⟩ (fun S f hi => by
   obtain ⟨c0, e0, r0⟩ := cells_vrep (t := TR.str) (u := .string ⟨(([97] : List UInt8) : List UInt8).toArray⟩) (e := ([97] : List UInt8)) (VR.str S f hi)
   obtain ⟨c1, e1, r1⟩ := cells_vrep (t := TR.str) (u := .string ⟨(([98] : List UInt8) : List UInt8).toArray⟩) (e := ([98] : List UInt8)) (VR.str S f hi)
   obtain ⟨c4, e4, r4⟩ := cells_vrep (t := TR.int) (u := .int .i64 (1 : Int)) (e := (1 : Int)) (VR.int S f hi)
   obtain ⟨c5, e5, r5⟩ := cells_vrep (t := TR.int) (u := .int .i64 (1 : Int)) (e := (1 : Int)) (VR.int S f hi)
   show TR.rep TrD S (List.flatten [(.string ⟨(([97] : List UInt8) : List UInt8).toArray⟩ : Value).cells.toList, (.string ⟨(([98] : List UInt8) : List UInt8).toArray⟩ : Value).cells.toList, [.int .i64 0], [.int .i64 0], (.int .i64 (1 : Int) : Value).cells.toList, (.int .i64 (1 : Int) : Value).cells.toList]) _
   simp only [e0, e1, e4, e5,  List.flatten_cons, List.flatten_nil, List.append_nil]
   exact ⟨_, _, rfl, r0, ⟨_, _, rfl, r1, ⟨_, _, rfl, rfl, ⟨_, _, rfl, rfl, ⟨_, _, rfl, r4, r4⟩⟩⟩⟩⟩) ?_
 intro v5
 obtain ⟨y6, e7, hm⟩ := bind_some hm
 refine RL.call (vs := [Value.slice none 0 0, v5]) Tryz_fit13 rfl rfl rfl rfl rfl (fun S f w hS hW hi => queue_Add_c S w hS _ _ (VR.nil (L := []) S (fun _ => Hp.emp) (fun i A hA => by simp at hA)) _ _ (hi 0 _ rfl) _ e7) ?_
 intro v8
 refine RL.reL (L' := [imm TrD v5 ((([97] : List UInt8), ([98] : List UInt8), (0 : Int), (0 : Int), (1 : Int), (1 : Int)) : ((List UInt8) × ((List UInt8) × (Int × (Int × (Int × Int)))))), own 24 TrD v8 y6.1]) rfl ?_
 refine RL.mv rfl rfl rfl ?_
 refine RL.ext rfl rfl rfl rfl ?_
 refine RL.ext rfl rfl rfl rfl ?_
 refine RL.asg rfl rfl rfl ?_
 refine RL.asg rfl rfl rfl ?_
 refine RL.finG ?_
 refine GL.seq ?_
 refine GL.region ?_
 refine RL.mv rfl rfl rfl ?_
 refine RL.bld (t := TrD) (d0 := ((([97] : List UInt8), ([98] : List UInt8), (0 : Int), (0 : Int), (2 : Int), (1 : Int)) : ((List UInt8) × ((List UInt8) × (Int × (Int × (Int × Int))))))) (pv := [(0, .string ⟨(([97] : List UInt8) : List UInt8).toArray⟩), (1, .string ⟨(([98] : List UInt8) : List UInt8).toArray⟩), (4, .int .i64 (2 : Int)), (5, .int .i64 (1 : Int))]) rfl Tryz_bld24 rfl rfl rfl ⟨⟨_, _, TR.str, ([97] : List UInt8), rfl, rfl, VR.str⟩, ⟨⟨_, _, TR.str, ([98] : List UInt8), rfl, rfl, VR.str⟩, ⟨⟨_, _, TR.int, (2 : Int), rfl, rfl, VR.int⟩, ⟨⟨_, _, TR.int, (1 : Int), rfl, rfl, VR.int⟩, trivial⟩⟩⟩⟩ (fun S f hi => by
   obtain ⟨c0, e0, r0⟩ := cells_vrep (t := TR.str) (u := .string ⟨(([97] : List UInt8) : List UInt8).toArray⟩) (e := ([97] : List UInt8)) (VR.str S f hi)
   obtain ⟨c1, e1, r1⟩ := cells_vrep (t := TR.str) (u := .string ⟨(([98] : List UInt8) : List UInt8).toArray⟩) (e := ([98] : List UInt8)) (VR.str S f hi)
   obtain ⟨c4, e4, r4⟩ := cells_vrep (t := TR.int) (u := .int .i64 (2 : Int)) (e := (2 : Int)) (VR.int S f hi)
   obtain ⟨c5, e5, r5⟩ := cells_vrep (t := TR.int) (u := .int .i64 (1 : Int)) (e := (1 : Int)) (VR.int S f hi)
   show TR.rep TrD S (List.flatten [(.string ⟨(([97] : List UInt8) : List UInt8).toArray⟩ : Value).cells.toList, (.string ⟨(([98] : List UInt8) : List UInt8).toArray⟩ : Value).cells.toList, [.int .i64 0], [.int .i64 0], (.int .i64 (2 : Int) : Value).cells.toList, (.int .i64 (1 : Int) : Value).cells.toList]) _
   simp only [e0, e1, e4, e5,  List.flatten_cons, List.flatten_nil, List.append_nil]
   exact ⟨_, _, rfl, r0, ⟨_, _, rfl, r1, ⟨_, _, rfl, rfl, ⟨_, _, rfl, rfl, ⟨_, _, rfl, r4, r5⟩⟩⟩⟩⟩) ?_
 intro v13
 obtain ⟨y14, e15, hm⟩ := bind_some hm
 refine RL.callU (vs := [v8, v13]) (LR := fun (o : Value) => [own 24 TrD o y14.1]) (fun o => ⟨Loc.own (TR.flatT_pair TR.flatT_str (TR.flatT_pair TR.flatT_str (TR.flatT_pair TR.flatT_ik (TR.flatT_pair TR.flatT_ik (TR.flatT_pair TR.flatT_ik TR.flatT_ik))))), trivial⟩) Tryz_fit13 rfl rfl rfl rfl rfl (fun U w hU hW hL => queue_Add_c U w hU _ _ (hL 1 _ _ rfl Seen.own) _ _ (hL 2 _ _ rfl Seen.imm) _ e15) ?_
 intro v16
 refine RL.mv rfl rfl rfl ?_
 refine RL.ext rfl rfl rfl rfl ?_
 refine RL.ext rfl rfl rfl rfl ?_
 refine RL.asg rfl rfl rfl ?_
 refine RL.asg rfl rfl rfl ?_
 refine RL.finG ?_
 refine GL.seq ?_
 refine GL.region ?_
 refine RL.mv rfl rfl rfl ?_
 refine RL.bld (t := TrD) (d0 := ((([97] : List UInt8), ([98] : List UInt8), (0 : Int), (0 : Int), (2 : Int), (3 : Int)) : ((List UInt8) × ((List UInt8) × (Int × (Int × (Int × Int))))))) (pv := [(0, .string ⟨(([97] : List UInt8) : List UInt8).toArray⟩), (1, .string ⟨(([98] : List UInt8) : List UInt8).toArray⟩), (4, .int .i64 (2 : Int)), (5, .int .i64 (3 : Int))]) rfl Tryz_bld24 rfl rfl rfl ⟨⟨_, _, TR.str, ([97] : List UInt8), rfl, rfl, VR.str⟩, ⟨⟨_, _, TR.str, ([98] : List UInt8), rfl, rfl, VR.str⟩, ⟨⟨_, _, TR.int, (2 : Int), rfl, rfl, VR.int⟩, ⟨⟨_, _, TR.int, (3 : Int), rfl, rfl, VR.int⟩, trivial⟩⟩⟩⟩ (fun S f hi => by
   obtain ⟨c0, e0, r0⟩ := cells_vrep (t := TR.str) (u := .string ⟨(([97] : List UInt8) : List UInt8).toArray⟩) (e := ([97] : List UInt8)) (VR.str S f hi)
   obtain ⟨c1, e1, r1⟩ := cells_vrep (t := TR.str) (u := .string ⟨(([98] : List UInt8) : List UInt8).toArray⟩) (e := ([98] : List UInt8)) (VR.str S f hi)
   obtain ⟨c4, e4, r4⟩ := cells_vrep (t := TR.int) (u := .int .i64 (2 : Int)) (e := (2 : Int)) (VR.int S f hi)
   obtain ⟨c5, e5, r5⟩ := cells_vrep (t := TR.int) (u := .int .i64 (3 : Int)) (e := (3 : Int)) (VR.int S f hi)
   show TR.rep TrD S (List.flatten [(.string ⟨(([97] : List UInt8) : List UInt8).toArray⟩ : Value).cells.toList, (.string ⟨(([98] : List UInt8) : List UInt8).toArray⟩ : Value).cells.toList, [.int .i64 0], [.int .i64 0], (.int .i64 (2 : Int) : Value).cells.toList, (.int .i64 (3 : Int) : Value).cells.toList]) _
   simp only [e0, e1, e4, e5,  List.flatten_cons, List.flatten_nil, List.append_nil]
   exact ⟨_, _, rfl, r0, ⟨_, _, rfl, r1, ⟨_, _, rfl, rfl, ⟨_, _, rfl, rfl, ⟨_, _, rfl, r4, r5⟩⟩⟩⟩⟩) ?_
 intro v21
 refine RL.reL (L' := [imm TrD v5 ((([97] : List UInt8), ([98] : List UInt8), (0 : Int), (0 : Int), (1 : Int), (1 : Int)) : ((List UInt8) × ((List UInt8) × (Int × (Int × (Int × Int)))))), own 24 TrD v8 y6.1, imm TrD v13 ((([97] : List UInt8), ([98] : List UInt8), (0 : Int), (0 : Int), (2 : Int), (1 : Int)) : ((List UInt8) × ((List UInt8) × (Int × (Int × (Int × Int)))))), own 24 TrD v16 y14.1, imm TrD v21 ((([97] : List UInt8), ([98] : List UInt8), (0 : Int), (0 : Int), (2 : Int), (3 : Int)) : ((List UInt8) × ((List UInt8) × (Int × (Int × (Int × Int))))))]) rfl ?_
 obtain ⟨y22, e23, hm⟩ := bind_some hm
 refine RL.callU (vs := [v16, v21]) (LR := fun (o : Value) => [own 24 TrD o y22.1]) (fun o => ⟨Loc.own (TR.flatT_pair TR.flatT_str (TR.flatT_pair TR.flatT_str (TR.flatT_pair TR.flatT_ik (TR.flatT_pair TR.flatT_ik (TR.flatT_pair TR.flatT_ik TR.flatT_ik))))), trivial⟩) Tryz_fit13 rfl rfl rfl rfl rfl (fun U w hU hW hL => queue_Add_c U w hU _ _ (hL 3 _ _ rfl Seen.own) _ _ (hL 4 _ _ rfl Seen.imm) _ e23) ?_
 intro v24
 refine RL.mv rfl rfl rfl ?_
 refine RL.ext rfl rfl rfl rfl ?_
 refine RL.ext rfl rfl rfl rfl ?_
 refine RL.asg rfl rfl rfl ?_
 refine RL.asg rfl rfl rfl ?_
 refine RL.finG ?_
 refine GL.seq ?_
 obtain ⟨y42, K43, h44, h45, h46, h47, h48⟩ := bindR_K hm
 refine GL.join (ι := Bool) (fun (p : Bool) => [(0, .bool p)]) (fun (p : Bool) => []) (fun (p : Bool) => K43 (.nx p)) ?_ ?_
 ·skip
  refine GL.region ?_
  refine RL.mv rfl rfl rfl ?_
  refine RL.mv rfl rfl rfl ?_
  refine RL.bS (t := TR.int) (vs := [.int .i64 y6.2, .int .i64 y14.2]) ([y6.2, y14.2] : (List Int)) Tryz.underlying79 Tryz_lo32 rfl rfl rfl rfl ⟨VR.int, ⟨VR.int, trivial⟩⟩ rfl (by decide) ?_
  intro v49
  obtain ⟨y50, e51, h44⟩ := bind_some h44
  refine RL.callV (v := .bool y50) (vs := [v49]) Tryz_fit23 rfl (Or.inl rfl) rfl rfl rfl rfl (fun U w hU hW hL => pk_good_c U w hU _ _ (hL 6 _ _ rfl Seen.own) _ e51) ?_
  refine RL.mv rfl rfl rfl ?_
  refine RL.split (t := 28) rfl (fun b52 => ?_) (fun b52 => ?_)
  ·replace h44 := ite_t b52 h44
   refine RL.mv rfl rfl rfl ?_
   refine RL.binI (v := .bool (y22.2 == (7 : Int))) rfl rfl rfl rfl rfl ?_
   refine RL.pickT rfl rfl rfl rfl ?_
   refine RL.mv rfl rfl rfl ?_
   refine RL.split (t := 32) rfl (fun b53 => ?_) (fun b53 => ?_)
   ·replace h44 := ite_t b53 h44
    refine RL.mv rfl rfl rfl ?_
    refine RL.lenS 3 Tryz.underlying25 rfl rfl rfl rfl SlOf.own ?_
    refine RL.binI (v := .bool (((y14.1).length : Int) == (1 : Int))) rfl rfl rfl rfl rfl ?_
    refine RL.pickT rfl rfl rfl rfl ?_
    refine RL.mv rfl rfl rfl ?_
    refine RL.split (t := 37) rfl (fun b54 => ?_) (fun b54 => ?_)
    ·replace h44 := ite_t b54 h44
     refine RL.mv rfl rfl rfl ?_
     obtain ⟨y55, e56, h44⟩ := bind_some h44
     refine RL.idxS (sz := 6) 3 Tryz.underlying25 Tryz_ln24 rfl rfl rfl rfl rfl SlOf.own (idx_some e56).1 (idx_some e56).2.1 ?_
     refine RL.fadrS (off := (((0 : Int)).toNat * 6)) (fo := 4) 3 Tryz_fld24_4 rfl rfl rfl SlOf.own (by have := (List.getElem?_eq_some_iff.1 (idx_some e56).2.2).1; (try dsimp only at this ⊢); omega) rfl ?_
     refine RL.ldSx (i := ((0 : Int)).toNat) (e' := y55.2.2.2.2.1) 3 Ex.ik Tryz_ln3 rfl rfl rfl rfl SlOf.own (idx_some e56).2.2 (Part.snd (Part.snd (Part.snd (Part.snd (Part.fst Part.self))))) ?_
     refine RL.binI (v := .bool (y55.2.2.2.2.1 == (2 : Int))) rfl rfl rfl rfl rfl ?_
     refine RL.pickT rfl rfl rfl rfl ?_
     refine RL.asg rfl rfl rfl ?_
     refine RL.fin ?_
     cases h44
     exact fun a w st => mid_intro (y55.2.2.2.2.1 == (2 : Int)) h45 (St.cut [] ⟨rfl, trivial⟩ (by decide) rfl st)
    replace h44 := ite_f b54 h44
    refine RL.skip rfl rfl ?_
    refine RL.skip rfl rfl ?_
    refine RL.skip rfl rfl ?_
    refine RL.skip rfl rfl ?_
    refine RL.skip rfl rfl ?_
    refine RL.pickF rfl rfl rfl rfl ?_
    refine RL.asg rfl rfl rfl ?_
    refine RL.fin ?_
    cases h44
    exact fun a w st => mid_intro false h45 (St.cut [] ⟨rfl, trivial⟩ (by decide) rfl st)
   replace h44 := ite_f b53 h44
   refine RL.skip rfl rfl ?_
   refine RL.skip rfl rfl ?_
   refine RL.skip rfl rfl ?_
   refine RL.pickF rfl rfl rfl rfl ?_
   refine RL.mv rfl rfl rfl ?_
   refine RL.skip rfl rfl ?_
   refine RL.skip rfl rfl ?_
   refine RL.skip rfl rfl ?_
   refine RL.skip rfl rfl ?_
   refine RL.skip rfl rfl ?_
   refine RL.pickF rfl rfl rfl rfl ?_
   refine RL.asg rfl rfl rfl ?_
   refine RL.fin ?_
   cases h44
   exact fun a w st => mid_intro false h45 (St.cut [] ⟨rfl, trivial⟩ (by decide) rfl st)
  replace h44 := ite_f b52 h44
  refine RL.skip rfl rfl ?_
  refine RL.skip rfl rfl ?_
  refine RL.pickF rfl rfl rfl rfl ?_
  refine RL.mv rfl rfl rfl ?_
  refine RL.skip rfl rfl ?_
  refine RL.skip rfl rfl ?_
  refine RL.skip rfl rfl ?_
  refine RL.pickF rfl rfl rfl rfl ?_
  refine RL.mv rfl rfl rfl ?_
  refine RL.skip rfl rfl ?_
  refine RL.skip rfl rfl ?_
  refine RL.skip rfl rfl ?_
  refine RL.skip rfl rfl ?_
  refine RL.skip rfl rfl ?_
  refine RL.pickF rfl rfl rfl rfl ?_
  refine RL.asg rfl rfl rfl ?_
  refine RL.fin ?_
  cases h44
  exact fun a w st => mid_intro false h45 (St.cut [] ⟨rfl, trivial⟩ (by decide) rfl st)
 rintro x41 h57
 have h58 := h46 _ h57
 try dsimp only at h58
 refine GL.weak (env' := [(0, .bool x41)]) (L' := []) (fun _ _ st => st) ?_
 have h58 := Option.some.inj h58
 subst h58
 exact GL.ret (Gx.ret (v := .bool x41) (res1 rfl rfl) (fun a w st => st.toPostV))

set_option maxHeartbeats 4000000 in
theorem pick_Next_c (S : Hp) (w : World) (hS : S.sub w) (v0 : Value) (x0 : (List ((List UInt8) × ((List UInt8) × (Int × (Int × (Int × Int))))))) (k0 : ((TR.sl TrD)).vrep S v0 x0) (v1 : Value) (x1 : (List ((List UInt8) × (Int × Int)))) (k1 : ((TR.sl TrA)).vrep S v1 x1) (x2 : (List UInt8)) (x3 : Int) (res : Int × Int) (hm : pick_Next_m x0 x1 x2 x3 = some res) : Calls Tryz.prog 39 #[v0, v1, .string ⟨(x2 : List UInt8).toArray⟩, .int .i64 x3] w (PostV w (.tuple #[.int .i64 res.1, .int .i64 res.2])) := by
 refine calls_enter 79 Tryz.func39 Tryz.ntmps39 rfl S false [(0, v0), (1, v1), (2, .string ⟨(x2 : List UInt8).toArray⟩), (3, .int .i64 x3)] [imm (TR.sl TrD) v0 x0, imm (TR.sl TrA) v1 x1] rfl ⟨rfl, ⟨rfl, ⟨rfl, ⟨rfl, trivial⟩⟩⟩⟩ hS ⟨k0, ⟨k1, trivial⟩⟩ ?_
 unfold pick_Next_m at hm
 refine GL.seq ?_
 refine GL.region ?_
 refine RL.asg rfl rfl rfl ?_
 refine RL.asg rfl rfl rfl ?_
 refine RL.finG ?_
 refine GL.seq ?_
 refine GL.seq ?_
 refine GL.region ?_
 refine RL.mv rfl rfl rfl ?_
 obtain ⟨y7, e8, hm⟩ := bind_some hm
 refine RL.callV (v := .int .i64 y7) (vs := [v0]) Tryz_fit33 rfl (Or.inl rfl) rfl rfl rfl rfl (fun U w hU hW hL => queue_Check_c U w hU _ _ (hL 0 _ _ rfl Seen.imm) _ e8) ?_
 refine RL.asg rfl rfl rfl ?_
 refine RL.finG ?_
 refine GL.seq ?_
 refine GL.region ?_
 refine RL.mv rfl rfl rfl ?_
 refine RL.binI (v := .bool (y7 != (0 : Int))) rfl rfl rfl rfl rfl ?_
 refine RL.finG ?_
 refine GL.cond rfl (fun b9 => ?_) (fun b9 => ?_)
 ·replace hm := ite_t b9 hm
  refine GL.seq ?_
  refine GL.region ?_
  refine RL.mv rfl rfl rfl ?_
  refine RL.asg rfl rfl rfl ?_
  refine RL.asg rfl rfl rfl ?_
  refine RL.finG ?_
  have hm := Option.some.inj hm
  subst hm
  exact GL.ret (Gx.ret (v := .tuple #[.int .i64 (0 : Int), .int .i64 y7]) (res2 rfl rfl rfl) (fun a w st => st.toPostV))
 replace hm := ite_f b9 hm
 refine GL.skip ?_
 refine GL.seq ?_
 refine GL.seq ?_
 refine GL.region ?_
 refine RL.mv rfl rfl rfl ?_
 obtain ⟨y12, e13, hm⟩ := bind_some hm
 refine RL.callV (v := .int .i64 y12) (vs := [v1]) Tryz_fit27 rfl (Or.inl rfl) rfl rfl rfl rfl (fun U w hU hW hL => ledger_Check_c U w hU _ _ (hL 1 _ _ rfl Seen.imm) _ e13) ?_
 refine RL.asg rfl rfl rfl ?_
 refine RL.finG ?_
 refine GL.seq ?_
 refine GL.region ?_
 refine RL.mv rfl rfl rfl ?_
 refine RL.binI (v := .bool (y12 != (0 : Int))) rfl rfl rfl rfl rfl ?_
 refine RL.finG ?_
 refine GL.cond rfl (fun b14 => ?_) (fun b14 => ?_)
 ·replace hm := ite_t b14 hm
  refine GL.seq ?_
  refine GL.region ?_
  refine RL.mv rfl rfl rfl ?_
  refine RL.asg rfl rfl rfl ?_
  refine RL.asg rfl rfl rfl ?_
  refine RL.finG ?_
  have hm := Option.some.inj hm
  subst hm
  exact GL.ret (Gx.ret (v := .tuple #[.int .i64 (0 : Int), .int .i64 y12]) (res2 rfl rfl rfl) (fun a w st => st.toPostV))
 replace hm := ite_f b14 hm
 refine GL.skip ?_
 refine GL.seq ?_
 refine GL.seq ?_
 obtain ⟨y18, K19, h20, h21, h22, h23, h24⟩ := bindR_K hm
 refine GL.join (ι := Bool) (fun (p : Bool) => [(0, v0), (1, v1), (2, .string ⟨(x2 : List UInt8).toArray⟩), (3, .int .i64 x3), (32, .bool p)]) (fun (p : Bool) => [imm (TR.sl TrD) v0 x0, imm (TR.sl TrA) v1 x1]) (fun (p : Bool) => K19 (.nx p)) ?_ ?_
 ·skip
  refine GL.region ?_
  refine RL.mv rfl rfl rfl ?_
  refine RL.binI (v := .bool (decide (x3 < (0 : Int)))) rfl rfl rfl rfl rfl ?_
  refine RL.mv rfl rfl rfl ?_
  refine RL.split (t := 29) rfl (fun b25 => ?_) (fun b25 => ?_)
  ·replace h20 := ite_t b25 h20
   refine RL.skip rfl rfl ?_
   refine RL.skip rfl rfl ?_
   refine RL.pickT rfl rfl rfl rfl ?_
   refine RL.fin ?_
   cases h20
   exact fun a w st => mid_intro true h21 (St.cut [0, 1] ⟨rfl, rfl, rfl, rfl, rfl, trivial⟩ (by decide) rfl st)
  replace h20 := ite_f b25 h20
  refine RL.mv rfl rfl rfl ?_
  refine RL.binI (v := .bool (decide (x3 > (1000 : Int)))) rfl rfl rfl rfl rfl ?_
  refine RL.pickF rfl rfl rfl rfl ?_
  refine RL.fin ?_
  cases h20
  exact fun a w st => mid_intro (decide (x3 > (1000 : Int))) h21 (St.cut [0, 1] ⟨rfl, rfl, rfl, rfl, rfl, trivial⟩ (by decide) rfl st)
 rintro x17 h26
 have h27 := h22 _ h26
 try dsimp only at h27
 refine GL.weak (env' := [(0, v0), (1, v1), (2, .string ⟨(x2 : List UInt8).toArray⟩), (3, .int .i64 x3), (32, .bool x17)]) (L' := [imm (TR.sl TrD) v0 x0, imm (TR.sl TrA) v1 x1]) (fun _ _ st => st) ?_
 refine GL.cond rfl (fun b28 => ?_) (fun b28 => ?_)
 ·replace h27 := ite_t b28 h27
  refine GL.seq ?_
  refine GL.region ?_
  refine RL.asg rfl rfl rfl ?_
  refine RL.asg rfl rfl rfl ?_
  refine RL.finG ?_
  have h27 := Option.some.inj h27
  subst h27
  exact GL.ret (Gx.ret (v := .tuple #[.int .i64 (0 : Int), .int .i64 (1 : Int)]) (res2 rfl rfl rfl) (fun a w st => st.toPostV))
 replace h27 := ite_f b28 h27
 refine GL.skip ?_
 refine GL.seq ?_
 refine GL.region ?_
 refine RL.asg rfl rfl rfl ?_
 refine RL.finG ?_
 refine GL.seq ?_
 refine GL.seq ?_
 refine GL.region ?_
 refine RL.mv rfl rfl rfl ?_
 refine RL.lenS 0 Tryz.underlying25 rfl rfl rfl rfl SlOf.imm ?_
 refine RL.mv rfl rfl rfl ?_
 refine RL.finG ?_
 refine GL.open_ 0 rfl (fun S h => len_imm S h) (fun n74 => ?_)
 obtain ⟨y75, K76, h77, h78, h79, h80, h81⟩ := bindR_K h27
 refine GL.join (ι := Int) (fun (p : Int) => [(12, .int .i64 p)]) (fun (p : Int) => []) (fun (p : Int) => K76 (.nx p)) ?_ ?_
 ·refine GL.block ?_
  refine GL.loop (ι := Nat × (List ((List UInt8) × ((List UInt8) × (Int × (Int × (Int × Int)))))) × Int) (fun (p : Nat × (List ((List UInt8) × ((List UInt8) × (Int × (Int × (Int × Int)))))) × Int) => [(0, v0), (1, v1), (2, .string ⟨(x2 : List UInt8).toArray⟩), (3, .int .i64 x3), (12, .int .i64 p.2.2), (33, v0), (34, .int .i64 ((x0).length : Int)), (35, .int .i64 (p.1 : Int))]) (fun (p : Nat × (List ((List UInt8) × ((List UInt8) × (Int × (Int × (Int × Int)))))) × Int) => [imm (TR.sl TrD) v0 x0, imm (TR.sl TrA) v1 x1]) (fun (p : Nat × (List ((List UInt8) × ((List UInt8) × (Int × (Int × (Int × Int)))))) × Int) => p.1 + p.2.1.length = (x0).length ∧ List.drop p.1 x0 = p.2.1 ∧ rangeL (pick_Next_b1 x3 x1 x2 x0) p.2.1 p.1 p.2.2 = some y75) (fun (p : Nat × (List ((List UInt8) × ((List UInt8) × (Int × (Int × (Int × Int)))))) × Int) => p.2.1.length) (0, x0, (-1 : Int)) ⟨by simp, by simp, h77⟩ (fun a w st => St.cut [0, 1] ⟨rfl, rfl, rfl, rfl, rfl, rfl, rfl, rfl, trivial⟩ (by decide) rfl st) ?_
  rintro ⟨i82, r83, x29⟩ ⟨h88, h89, h87⟩
  try dsimp only at h88 h89 h87
  refine GL.weak (env' := [(0, v0), (1, v1), (2, .string ⟨(x2 : List UInt8).toArray⟩), (3, .int .i64 x3), (12, .int .i64 x29), (33, v0), (34, .int .i64 ((x0).length : Int)), (35, .int .i64 (i82 : Int))]) (L' := [imm (TR.sl TrD) v0 x0, imm (TR.sl TrA) v1 x1]) (fun _ _ st => st) ?_
  refine GL.seq ?_
  refine GL.region ?_
  refine RL.binI (v := .bool (decide ((i82 : Int) < ((x0).length : Int)))) rfl rfl rfl rfl rfl ?_
  refine RL.finG ?_
  refine GL.seq ?_
  refine GL.cond rfl (fun b90 => ?_) (fun b90 => ?_)
  ·have h91 : i82 < (x0).length := by have := of_decide_eq_true b90; omega
   obtain ⟨y92, r94, hr, e93, h95⟩ := drop_cons h89 rfl h91
   subst hr
   obtain ⟨z84, h85, h86⟩ := rangeL_some h87
   unfold pick_Next_b1 at h85
   try dsimp only at h85
   refine GL.skip ?_
   refine GL.seq ?_
   refine GL.block ?_
   refine GL.seq ?_
   refine GL.region ?_
   refine RL.mv rfl rfl rfl ?_
   refine RL.idxS (sz := 6) 0 Tryz.underlying25 Tryz_ln24 rfl rfl rfl rfl rfl SlOf.imm (by omega) (by omega) ?_
   refine RL.ldS (i := i82) (r := TrD) (e' := y92) 0 Tryz_ln24 rfl rfl rfl rfl SlOf.imm e93 Part.self ?_
   intro v98
   refine RL.alloc (t := TrD) (z := (([] : List UInt8), ([] : List UInt8), (0 : Int), (0 : Int), (0 : Int), (0 : Int))) Tryz_lo24 (fun S => ⟨[.string ⟨#[]⟩], _, rfl, rfl, ⟨[.string ⟨#[]⟩], _, rfl, rfl, ⟨[.int .i64 0], _, rfl, rfl, ⟨[.int .i64 0], _, rfl, rfl, ⟨[.int .i64 0], _, rfl, rfl, rfl⟩⟩⟩⟩⟩) rfl rfl rfl ?_
   intro v99
   refine RL.reL (L' := [imm (TR.sl TrD) v0 x0, imm (TR.sl TrA) v1 x1, imm TrD v98 y92, obox 24 TrD v99 (([] : List UInt8), ([] : List UInt8), (0 : Int), (0 : Int), (0 : Int), (0 : Int))]) rfl ?_
   refine RL.asg rfl rfl rfl ?_
   refine RL.stP (off := 0) (e' := y92) (d1 := y92) (r := TrD) 3 Tryz_ln24 rfl rfl (Or.inr ⟨rfl, rfl⟩) rfl (VR.item 2 rfl) rfl Upd.self ?_
   refine RL.finG ?_
   refine GL.seq ?_
   refine GL.seq ?_
   refine GL.region ?_
   refine RL.fadr (off := 0) (fo := 5) 3 Tryz_fld24_5 rfl rfl rfl PtOf.obox (Or.inr ⟨rfl, rfl⟩) ?_
   refine RL.ldPx (off := (0 + 5)) (e' := y92.2.2.2.2.2) 3 Ex.ik Tryz_ln3 rfl rfl (Or.inl rfl) rfl PtOf.obox (Part.snd (Part.snd (Part.snd (Part.snd (Part.snd Part.self))))) ?_
   refine RL.mv rfl rfl rfl ?_
   refine RL.binI (v := .bool (decide (y92.2.2.2.2.2 > x3))) rfl rfl rfl rfl rfl ?_
   refine RL.finG ?_
   refine GL.cond rfl (fun b100 => ?_) (fun b100 => ?_)
   ·replace h85 := ite_t b100 h85
    refine GL.exit ?_
    refine Gx.here ?_
    refine GL.region ?_
    refine RL.binI (v := .int .i64 ((i82 + 1 : Nat) : Int)) rfl rfl rfl rfl (binI_succ i82 (by omega)) ?_
    refine RL.mv rfl rfl rfl ?_
    refine RL.fin ?_
    cases h85
    exact fun a w st => lop_intro (i82 + 1, r94, x29) ⟨by show i82 + 1 + r94.length = (x0).length; simp only [List.length_cons] at h88; omega, h95, h86⟩ (by simp) (St.cut [0, 1] ⟨rfl, rfl, rfl, rfl, rfl, rfl, rfl, rfl, trivial⟩ (by decide) rfl st)
   replace h85 := ite_f b100 h85
   refine GL.skip ?_
   refine GL.seq ?_
   refine GL.seq ?_
   refine GL.region ?_
   refine RL.mv rfl rfl rfl ?_
   refine RL.ldP (off := 0) (r := TrD) (e' := y92) 3 Tryz_ln24 rfl rfl (Or.inr ⟨rfl, rfl⟩) rfl PtOf.obox Part.self ?_
   intro v105
   refine RL.reL (L' := [imm (TR.sl TrD) v0 x0, imm (TR.sl TrA) v1 x1, imm TrD v98 y92, obox 24 TrD v99 y92, imm TrD v105 y92]) rfl ?_
   refine RL.mv rfl rfl rfl ?_
   obtain ⟨y106, e107, h85⟩ := bind_some h85
   refine RL.call (vs := [v1, v105, .string ⟨(x2 : List UInt8).toArray⟩]) Tryz_fit10 rfl rfl rfl rfl rfl (fun S f w hS hW hi => ledger_Take_c S w hS _ _ (hi 1 _ rfl) _ _ (hi 4 _ rfl) x2 _ e107) ?_
   intro v108
   refine RL.mv rfl rfl rfl ?_
   refine RL.ext rfl rfl rfl rfl ?_
   refine RL.ext rfl rfl rfl rfl ?_
   refine RL.asg rfl rfl rfl ?_
   refine RL.asg rfl rfl rfl ?_
   refine RL.finG ?_
   refine GL.seq ?_
   refine GL.region ?_
   refine RL.mv rfl rfl rfl ?_
   refine RL.binI (v := .bool (y106.2 != (0 : Int))) rfl rfl rfl rfl rfl ?_
   refine RL.finG ?_
   refine GL.cond rfl (fun b109 => ?_) (fun b109 => ?_)
   ·replace h85 := ite_t b109 h85
    refine GL.exit ?_
    refine Gx.here ?_
    refine GL.region ?_
    refine RL.binI (v := .int .i64 ((i82 + 1 : Nat) : Int)) rfl rfl rfl rfl (binI_succ i82 (by omega)) ?_
    refine RL.mv rfl rfl rfl ?_
    refine RL.fin ?_
    cases h85
    exact fun a w st => lop_intro (i82 + 1, r94, x29) ⟨by show i82 + 1 + r94.length = (x0).length; simp only [List.length_cons] at h88; omega, h95, h86⟩ (by simp) (St.cut [0, 1] ⟨rfl, rfl, rfl, rfl, rfl, rfl, rfl, rfl, trivial⟩ (by decide) rfl st)
   replace h85 := ite_f b109 h85
   refine GL.skip ?_
   refine GL.seq ?_
   obtain ⟨y121, K122, h123, h124, h125, h126, h127⟩ := bindF_K h85
   refine GL.join (ι := Bool) (fun (p : Bool) => [(0, v0), (1, v1), (2, .string ⟨(x2 : List UInt8).toArray⟩), (3, .int .i64 x3), (12, .int .i64 x29), (13, .int .i64 (i82 : Int)), (33, v0), (34, .int .i64 ((x0).length : Int)), (35, .int .i64 (i82 : Int)), (73, .bool p)]) (fun (p : Bool) => [imm (TR.sl TrD) v0 x0, imm (TR.sl TrA) v1 x1]) (fun (p : Bool) => K122 (.nx p)) ?_ ?_
   ·skip
    refine GL.regionQ rfl rfl (by kernel_rfl) ?_
    refine RL.mv rfl rfl rfl ?_
    refine RL.binI (v := .bool (decide (x29 < (0 : Int)))) rfl rfl rfl rfl rfl ?_
    refine RL.mv rfl rfl rfl ?_
    refine RL.split (t := 55) rfl (fun b128 => ?_) (fun b128 => ?_)
    ·replace h123 := ite_t b128 h123
     refine RL.skip rfl rfl ?_
     refine RL.skip rfl rfl ?_
     refine RL.skip rfl rfl ?_
     refine RL.skip rfl rfl ?_
     refine RL.skip rfl rfl ?_
     refine RL.skip rfl rfl ?_
     refine RL.skip rfl rfl ?_
     refine RL.skip rfl rfl ?_
     refine RL.skip rfl rfl ?_
     refine RL.skip rfl rfl ?_
     refine RL.skip rfl rfl ?_
     refine RL.skip rfl rfl ?_
     refine RL.skip rfl rfl ?_
     refine RL.skip rfl rfl ?_
     refine RL.skip rfl rfl ?_
     refine RL.skip rfl rfl ?_
     refine RL.skip rfl rfl ?_
     refine RL.pickT rfl rfl rfl rfl ?_
     refine RL.finQ ?_
     cases h123
     exact fun a w st => mid_intro true h124 (St.cut [0, 1] ⟨rfl, rfl, rfl, rfl, rfl, rfl, rfl, rfl, rfl, rfl, trivial⟩ (by decide) rfl st)
    replace h123 := ite_f b128 h123
    refine RL.fadr (off := 0) (fo := 4) 3 Tryz_fld24_4 rfl rfl rfl PtOf.obox (Or.inr ⟨rfl, rfl⟩) ?_
    refine RL.ldPx (off := (0 + 4)) (e' := y92.2.2.2.2.1) 3 Ex.ik Tryz_ln3 rfl rfl (Or.inl rfl) rfl PtOf.obox (Part.snd (Part.snd (Part.snd (Part.snd (Part.fst Part.self))))) ?_
    refine RL.mv rfl rfl rfl ?_
    refine RL.mv rfl rfl rfl ?_
    obtain ⟨y129, e130, h123⟩ := bind_some h123
    refine RL.idxS (sz := 6) 0 Tryz.underlying25 Tryz_ln24 rfl rfl rfl rfl rfl SlOf.imm (idx_some e130).1 (idx_some e130).2.1 ?_
    refine RL.fadrS (off := ((x29).toNat * 6)) (fo := 5) 0 Tryz_fld24_5 rfl rfl rfl SlOf.imm (by have := (List.getElem?_eq_some_iff.1 (idx_some e130).2.2).1; (try dsimp only at this ⊢); omega) rfl ?_
    refine RL.ldSx (i := (x29).toNat) (e' := y129.2.2.2.2.2) 0 Ex.ik Tryz_ln3 rfl rfl rfl rfl SlOf.imm (idx_some e130).2.2 (Part.snd (Part.snd (Part.snd (Part.snd (Part.snd Part.self))))) ?_
    refine RL.binI (v := .int .i64 (wmul y92.2.2.2.2.1 y129.2.2.2.2.2)) rfl rfl rfl rfl rfl ?_
    refine RL.mv rfl rfl rfl ?_
    refine RL.mv rfl rfl rfl ?_
    obtain ⟨y131, e132, h123⟩ := bind_some h123
    refine RL.idxS (sz := 6) 0 Tryz.underlying25 Tryz_ln24 rfl rfl rfl rfl rfl SlOf.imm (idx_some e132).1 (idx_some e132).2.1 ?_
    refine RL.fadrS (off := ((x29).toNat * 6)) (fo := 4) 0 Tryz_fld24_4 rfl rfl rfl SlOf.imm (by have := (List.getElem?_eq_some_iff.1 (idx_some e132).2.2).1; (try dsimp only at this ⊢); omega) rfl ?_
    refine RL.ldSx (i := (x29).toNat) (e' := y131.2.2.2.2.1) 0 Ex.ik Tryz_ln3 rfl rfl rfl rfl SlOf.imm (idx_some e132).2.2 (Part.snd (Part.snd (Part.snd (Part.snd (Part.fst Part.self))))) ?_
    refine RL.fadr (off := 0) (fo := 5) 3 Tryz_fld24_5 rfl rfl rfl PtOf.obox (Or.inr ⟨rfl, rfl⟩) ?_
    refine RL.ldPx (off := (0 + 5)) (e' := y92.2.2.2.2.2) 3 Ex.ik Tryz_ln3 rfl rfl (Or.inl rfl) rfl PtOf.obox (Part.snd (Part.snd (Part.snd (Part.snd (Part.snd Part.self))))) ?_
    refine RL.binI (v := .int .i64 (wmul y131.2.2.2.2.1 y92.2.2.2.2.2)) rfl rfl rfl rfl rfl ?_
    refine RL.binI (v := .bool (decide ((wmul y92.2.2.2.2.1 y129.2.2.2.2.2) > (wmul y131.2.2.2.2.1 y92.2.2.2.2.2)))) rfl rfl rfl rfl rfl ?_
    refine RL.pickF rfl rfl rfl rfl ?_
    refine RL.finQ ?_
    cases h123
    exact fun a w st => mid_intro (decide ((wmul y92.2.2.2.2.1 y129.2.2.2.2.2) > (wmul y131.2.2.2.2.1 y92.2.2.2.2.2))) h124 (St.cut [0, 1] ⟨rfl, rfl, rfl, rfl, rfl, rfl, rfl, rfl, rfl, rfl, trivial⟩ (by decide) rfl st)
   rintro x120 h133
   have h134 := h125 _ h133
   try dsimp only at h134
   refine GL.weak (env' := [(0, v0), (1, v1), (2, .string ⟨(x2 : List UInt8).toArray⟩), (3, .int .i64 x3), (12, .int .i64 x29), (13, .int .i64 (i82 : Int)), (33, v0), (34, .int .i64 ((x0).length : Int)), (35, .int .i64 (i82 : Int)), (73, .bool x120)]) (L' := [imm (TR.sl TrD) v0 x0, imm (TR.sl TrA) v1 x1]) (fun _ _ st => st) ?_
   refine GL.cond rfl (fun b135 => ?_) (fun b135 => ?_)
   ·replace h134 := ite_t b135 h134
    refine GL.region ?_
    refine RL.mv rfl rfl rfl ?_
    refine RL.asg rfl rfl rfl ?_
    refine RL.finG ?_
    refine GL.nilB ?_
    refine GL.region ?_
    refine RL.binI (v := .int .i64 ((i82 + 1 : Nat) : Int)) rfl rfl rfl rfl (binI_succ i82 (by omega)) ?_
    refine RL.mv rfl rfl rfl ?_
    refine RL.fin ?_
    cases h134
    exact fun a w st => lop_intro (i82 + 1, r94, (i82 : Int)) ⟨by show i82 + 1 + r94.length = (x0).length; simp only [List.length_cons] at h88; omega, h95, h86⟩ (by simp) (St.cut [0, 1] ⟨rfl, rfl, rfl, rfl, rfl, rfl, rfl, rfl, trivial⟩ (by decide) rfl st)
   replace h134 := ite_f b135 h134
   refine GL.skip ?_
   refine GL.nilB ?_
   refine GL.region ?_
   refine RL.binI (v := .int .i64 ((i82 + 1 : Nat) : Int)) rfl rfl rfl rfl (binI_succ i82 (by omega)) ?_
   refine RL.mv rfl rfl rfl ?_
   refine RL.fin ?_
   cases h134
   exact fun a w st => lop_intro (i82 + 1, r94, x29) ⟨by show i82 + 1 + r94.length = (x0).length; simp only [List.length_cons] at h88; omega, h95, h86⟩ (by simp) (St.cut [0, 1] ⟨rfl, rfl, rfl, rfl, rfl, rfl, rfl, rfl, trivial⟩ (by decide) rfl st)
  have h91 : ¬ i82 < (x0).length := by have := of_decide_eq_false b90; omega
  obtain rfl : r83 = [] := by rw [← h89]; exact List.drop_of_length_le (by omega)
  replace h87 : some (Fl.nx _) = some y75 := h87
  cases h87
  exact GL.exit (fun a w st => mid_intro x29 h78 (St.cut [] ⟨rfl, trivial⟩ (by decide) rfl st))
 rintro x29 h136
 have h137 := h79 _ h136
 try dsimp only at h137
 refine GL.weak (env' := [(12, .int .i64 x29)]) (L' := []) (fun _ _ st => st) ?_
 refine GL.seq ?_
 refine GL.seq ?_
 refine GL.region ?_
 refine RL.mv rfl rfl rfl ?_
 refine RL.binI (v := .bool (decide (x29 < (0 : Int)))) rfl rfl rfl rfl rfl ?_
 refine RL.finG ?_
 refine GL.cond rfl (fun b138 => ?_) (fun b138 => ?_)
 ·replace h137 := ite_t b138 h137
  refine GL.seq ?_
  refine GL.region ?_
  refine RL.asg rfl rfl rfl ?_
  refine RL.asg rfl rfl rfl ?_
  refine RL.finG ?_
  have h137 := Option.some.inj h137
  subst h137
  exact GL.ret (Gx.ret (v := .tuple #[.int .i64 (0 : Int), .int .i64 (4 : Int)]) (res2 rfl rfl rfl) (fun a w st => st.toPostV))
 replace h137 := ite_f b138 h137
 refine GL.skip ?_
 refine GL.seq ?_
 refine GL.region ?_
 refine RL.mv rfl rfl rfl ?_
 refine RL.asg rfl rfl rfl ?_
 refine RL.asg rfl rfl rfl ?_
 refine RL.finG ?_
 have h137 := Option.some.inj h137
 subst h137
 exact GL.ret (Gx.ret (v := .tuple #[.int .i64 x29, .int .i64 (0 : Int)]) (res2 rfl rfl rfl) (fun a w st => st.toPostV))

set_option maxHeartbeats 4000000 in
theorem pick_Build_c (S : Hp) (w : World) (hS : S.sub w) (v0 : Value) (x0 : (List ((List UInt8) × ((List UInt8) × (Int × (Int × (Int × Int))))))) (k0 : ((TR.sl TrD)).vrep S v0 x0) (v1 : Value) (x1 : (List ((List UInt8) × (Int × Int)))) (k1 : ((TR.sl TrA)).vrep S v1 x1) (x2 : (List UInt8)) (x3 : Int) (res : (List Int) × (List ((List UInt8) × (Int × Int))) × Int) (hm : pick_Build_m x0 x1 x2 x3 = some res) : Calls Tryz.prog 16 #[v0, v1, .string ⟨(x2 : List UInt8).toArray⟩, .int .i64 x3] w (Post w S (fun (o : Value × Value) => .tuple #[o.1, o.2, .int .i64 res.2.2]) (fun (o : Value × Value) => [own 3 TR.int o.1 res.1, own 30 TrA o.2 res.2.1])) := by
 refine calls_enter 66 Tryz.func16 Tryz.ntmps16 rfl S false [(0, v0), (1, v1), (2, .string ⟨(x2 : List UInt8).toArray⟩), (3, .int .i64 x3)] [imm (TR.sl TrD) v0 x0, imm (TR.sl TrA) v1 x1] rfl ⟨rfl, ⟨rfl, ⟨rfl, ⟨rfl, trivial⟩⟩⟩⟩ hS ⟨k0, ⟨k1, trivial⟩⟩ ?_
 unfold pick_Build_m at hm
 refine GL.seq ?_
 refine GL.region ?_
 refine RL.asg rfl rfl rfl ?_
 refine RL.asg rfl rfl rfl ?_
 refine RL.asg rfl rfl rfl ?_
 refine RL.finG ?_
 refine GL.seq ?_
 refine GL.region ?_
 refine RL.mv rfl rfl rfl ?_
 refine RL.mv rfl rfl rfl ?_
 refine RL.mv rfl rfl rfl ?_
 refine RL.mv rfl rfl rfl ?_
 obtain ⟨y7, e8, hm⟩ := bind_some hm
 refine RL.callV (v := .tuple #[.int .i64 y7.1, .int .i64 y7.2]) (vs := [v0, v1, .string ⟨(x2 : List UInt8).toArray⟩, .int .i64 x3]) Tryz_fit39 rfl (Or.inl rfl) rfl rfl rfl rfl (fun U w hU hW hL => pick_Next_c U w hU _ _ (hL 0 _ _ rfl Seen.imm) _ _ (hL 1 _ _ rfl Seen.imm) x2 x3 _ e8) ?_
 refine RL.mv rfl rfl rfl ?_
 refine RL.ext rfl rfl rfl rfl ?_
 refine RL.ext rfl rfl rfl rfl ?_
 refine RL.asg rfl rfl rfl ?_
 refine RL.asg rfl rfl rfl ?_
 refine RL.finG ?_
 refine GL.seq ?_
 refine GL.seq ?_
 obtain ⟨y12, K13, h14, h15, h16, h17, h18⟩ := bindR_K hm
 refine GL.join (ι := Bool) (fun (p : Bool) => [(0, v0), (1, v1), (2, .string ⟨(x2 : List UInt8).toArray⟩), (3, .int .i64 x3), (11, .int .i64 y7.1), (12, .int .i64 y7.2), (28, .bool p)]) (fun (p : Bool) => [imm (TR.sl TrD) v0 x0, imm (TR.sl TrA) v1 x1]) (fun (p : Bool) => K13 (.nx p)) ?_ ?_
 ·skip
  refine GL.region ?_
  refine RL.mv rfl rfl rfl ?_
  refine RL.binI (v := .bool (y7.2 != (0 : Int))) rfl rfl rfl rfl rfl ?_
  refine RL.mv rfl rfl rfl ?_
  refine RL.split (t := 25) rfl (fun b19 => ?_) (fun b19 => ?_)
  ·replace h14 := ite_t b19 h14
   refine RL.mv rfl rfl rfl ?_
   refine RL.binI (v := .bool (y7.2 != (4 : Int))) rfl rfl rfl rfl rfl ?_
   refine RL.pickT rfl rfl rfl rfl ?_
   refine RL.fin ?_
   cases h14
   exact fun a w st => mid_intro (y7.2 != (4 : Int)) h15 (St.cut [0, 1] ⟨rfl, rfl, rfl, rfl, rfl, rfl, rfl, trivial⟩ (by decide) rfl st)
  replace h14 := ite_f b19 h14
  refine RL.skip rfl rfl ?_
  refine RL.skip rfl rfl ?_
  refine RL.pickF rfl rfl rfl rfl ?_
  refine RL.fin ?_
  cases h14
  exact fun a w st => mid_intro false h15 (St.cut [0, 1] ⟨rfl, rfl, rfl, rfl, rfl, rfl, rfl, trivial⟩ (by decide) rfl st)
 rintro x11 h20
 have h21 := h16 _ h20
 try dsimp only at h21
 refine GL.weak (env' := [(0, v0), (1, v1), (2, .string ⟨(x2 : List UInt8).toArray⟩), (3, .int .i64 x3), (11, .int .i64 y7.1), (12, .int .i64 y7.2), (28, .bool x11)]) (L' := [imm (TR.sl TrD) v0 x0, imm (TR.sl TrA) v1 x1]) (fun _ _ st => st) ?_
 refine GL.cond rfl (fun b22 => ?_) (fun b22 => ?_)
 ·replace h21 := ite_t b22 h21
  refine GL.seq ?_
  refine GL.region ?_
  refine RL.mv rfl rfl rfl ?_
  refine RL.asg rfl rfl rfl ?_
  refine RL.asg rfl rfl rfl ?_
  refine RL.asg rfl rfl rfl ?_
  refine RL.finG ?_
  refine GL.weak (fun a w st => st.nilOwn 3 TR.int) ?_
  refine GL.weak (fun a w st => st.nilOwn 30 TrA) ?_
  have h21 := Option.some.inj h21
  subst h21
  exact GL.ret (Gx.ret (v := .tuple #[Value.slice none 0 0, Value.slice none 0 0, .int .i64 y7.2]) (res3 rfl rfl rfl rfl) (fun a w st => (st.pick [2, 3] (by decide) rfl).toPost (Value.slice none 0 0, Value.slice none 0 0)))
 replace h21 := ite_f b22 h21
 refine GL.skip ?_
 refine GL.seq ?_
 refine GL.region ?_
 refine RL.bS (t := TrA) (vs := []) ([] : (List ((List UInt8) × (Int × Int)))) Tryz.underlying22 Tryz_lo30 rfl rfl rfl rfl trivial rfl (by decide) ?_
 intro v27
 refine RL.mv rfl rfl rfl ?_
 obtain ⟨y28, e29, h21⟩ := bind_some h21
 replace e29 := chk_some e29
 refine RL.app 2 1 Tryz.underlying22 Tryz_lo30 rfl rfl rfl rfl rfl rfl rfl SlOf.imm e29 ?_
 intro v30
 refine RL.reL (L' := [imm (TR.sl TrD) v0 x0, imm (TR.sl TrA) v1 x1, own 30 TrA v30 (([] : (List ((List UInt8) × (Int × Int)))) ++ x1)]) rfl ?_
 refine RL.asg rfl rfl rfl ?_
 refine RL.finG ?_
 refine GL.seq ?_
 refine GL.region ?_
 refine RL.asg rfl rfl rfl ?_
 refine RL.finG ?_
 refine GL.seq ?_
 refine GL.weak (fun a w st => st.nilOwn 3 TR.int) ?_
 obtain ⟨y67, K68, h69, h70, h71, h72, h73⟩ := bindR_K h21
 refine GL.join (ι := Int × Int × Int × (List ((List UInt8) × (Int × Int))) × (List Int) × Value × Value) (fun (p : Int × Int × Int × (List ((List UInt8) × (Int × Int))) × (List Int) × Value × Value) => [(13, p.2.2.2.2.2.1), (14, p.2.2.2.2.2.2)]) (fun (p : Int × Int × Int × (List ((List UInt8) × (Int × Int))) × (List Int) × Value × Value) => [own 30 TrA p.2.2.2.2.2.1 p.2.2.2.1, own 3 TR.int p.2.2.2.2.2.2 p.2.2.2.2.1]) (fun (p : Int × Int × Int × (List ((List UInt8) × (Int × Int))) × (List Int) × Value × Value) => K68 (.nx (p.1, p.2.1, p.2.2.1, p.2.2.2.1, p.2.2.2.2.1))) ?_ ?_
 ·refine GL.block ?_
  refine GL.loop (ι := Nat × Int × Int × Int × (List ((List UInt8) × (Int × Int))) × (List Int) × Value × Value) (fun (p : Nat × Int × Int × Int × (List ((List UInt8) × (Int × Int))) × (List Int) × Value × Value) => [(0, v0), (2, .string ⟨(x2 : List UInt8).toArray⟩), (3, .int .i64 p.2.1), (11, .int .i64 p.2.2.1), (12, .int .i64 p.2.2.2.1), (13, p.2.2.2.2.2.2.1), (14, p.2.2.2.2.2.2.2)]) (fun (p : Nat × Int × Int × Int × (List ((List UInt8) × (Int × Int))) × (List Int) × Value × Value) => [imm (TR.sl TrD) v0 x0, own 30 TrA p.2.2.2.2.2.2.1 p.2.2.2.2.1, own 3 TR.int p.2.2.2.2.2.2.2 p.2.2.2.2.2.1]) (fun (p : Nat × Int × Int × Int × (List ((List UInt8) × (Int × Int))) × (List Int) × Value × Value) => loopM (pick_Build_b1 x0 x2) p.1 (p.2.1, p.2.2.1, p.2.2.2.1, p.2.2.2.2.1, p.2.2.2.2.2.1) = some y67) (fun (p : Nat × Int × Int × Int × (List ((List UInt8) × (Int × Int))) × (List Int) × Value × Value) => p.1) (1048576, x3, y7.1, y7.2, (([] : (List ((List UInt8) × (Int × Int)))) ++ x1), [], v30, Value.slice none 0 0) h69 (fun a w st => St.cut [0, 2, 3] ⟨rfl, rfl, rfl, rfl, rfl, rfl, rfl, trivial⟩ (by decide) rfl st) ?_
  rintro ⟨r75, x31, x32, x33, l34, l36, v35, v37⟩ h79
  try dsimp only at h79
  refine GL.weak (env' := [(0, v0), (2, .string ⟨(x2 : List UInt8).toArray⟩), (3, .int .i64 x31), (11, .int .i64 x32), (12, .int .i64 x33), (13, v35), (14, v37)]) (L' := [imm (TR.sl TrD) v0 x0, own 30 TrA v35 l34, own 3 TR.int v37 l36]) (fun _ _ st => st) ?_
  obtain ⟨r82, z76, hr, h77, h78⟩ := loopM_some h79
  subst hr
  unfold pick_Build_b1 at h77
  try dsimp only at h77
  refine GL.seq ?_
  refine GL.seq ?_
  refine GL.region ?_
  refine RL.mv rfl rfl rfl ?_
  refine RL.binI (v := .bool (x33 == (0 : Int))) rfl rfl rfl rfl rfl ?_
  refine RL.finG ?_
  refine GL.cond rfl (fun b83 => ?_) (fun b83 => ?_)
  ·replace h77 := ite_t b83 h77
   refine GL.skip ?_
   refine GL.block ?_
   refine GL.seq ?_
   refine GL.region ?_
   refine RL.mv rfl rfl rfl ?_
   refine RL.mv rfl rfl rfl ?_
   refine RL.mv rfl rfl rfl ?_
   obtain ⟨y90, e91, h77⟩ := bind_some h77
   refine RL.idxS (sz := 6) 0 Tryz.underlying25 Tryz_ln24 rfl rfl rfl rfl rfl SlOf.imm (idx_some e91).1 (idx_some e91).2.1 ?_
   refine RL.ldS (i := (x32).toNat) (r := TrD) (e' := y90) 0 Tryz_ln24 rfl rfl rfl rfl SlOf.imm (idx_some e91).2.2 Part.self ?_
   intro v92
   refine RL.mv rfl rfl rfl ?_
   obtain ⟨y93, e94, h77⟩ := bind_some h77
   refine RL.callU (vs := [v35, v92, .string ⟨(x2 : List UInt8).toArray⟩]) (LR := fun (o : Value) => [own 30 TrA o y93.1]) (fun o => ⟨Loc.own (TR.flatT_pair TR.flatT_str (TR.flatT_pair TR.flatT_ik TR.flatT_ik)), trivial⟩) Tryz_fit10 rfl rfl rfl rfl rfl (fun U w hU hW hL => ledger_Take_c U w hU _ _ (hL 1 _ _ rfl Seen.own) _ _ (hL 3 _ _ rfl Seen.imm) x2 _ e94) ?_
   intro v95
   refine RL.mv rfl rfl rfl ?_
   refine RL.ext rfl rfl rfl rfl ?_
   refine RL.ext rfl rfl rfl rfl ?_
   refine RL.asg rfl rfl rfl ?_
   refine RL.finG ?_
   refine GL.seq ?_
   refine GL.region ?_
   refine RL.mv rfl rfl rfl ?_
   refine RL.mv rfl rfl rfl ?_
   refine RL.mv rfl rfl rfl ?_
   obtain ⟨y98, e99, h77⟩ := bind_some h77
   refine RL.idxS (sz := 6) 0 Tryz.underlying25 Tryz_ln24 rfl rfl rfl rfl rfl SlOf.imm (idx_some e99).1 (idx_some e99).2.1 ?_
   refine RL.fadrS (off := ((x32).toNat * 6)) (fo := 5) 0 Tryz_fld24_5 rfl rfl rfl SlOf.imm (by have := (List.getElem?_eq_some_iff.1 (idx_some e99).2.2).1; (try dsimp only at this ⊢); omega) rfl ?_
   refine RL.ldSx (i := (x32).toNat) (e' := y98.2.2.2.2.2) 0 Ex.ik Tryz_ln3 rfl rfl rfl rfl SlOf.imm (idx_some e99).2.2 (Part.snd (Part.snd (Part.snd (Part.snd (Part.snd Part.self))))) ?_
   refine RL.binI (v := .int .i64 (wsub x31 y98.2.2.2.2.2)) rfl rfl rfl rfl rfl ?_
   refine RL.asg rfl rfl rfl ?_
   refine RL.finG ?_
   refine GL.seq ?_
   refine GL.region ?_
   refine RL.mv rfl rfl rfl ?_
   refine RL.mv rfl rfl rfl ?_
   refine RL.bS (t := TR.int) (vs := [.int .i64 x32]) ([x32] : (List Int)) Tryz.underlying41 Tryz_lo3 rfl rfl rfl rfl ⟨VR.int, trivial⟩ rfl (by decide) ?_
   intro v104
   refine RL.reL (L' := [imm (TR.sl TrD) v0 x0, own 30 TrA v35 l34, own 3 TR.int v37 l36, imm TrD v92 y90, own 30 TrA v95 y93.1, own 3 TR.int v104 ([x32] : (List Int))]) rfl ?_
   obtain ⟨y105, e106, h77⟩ := bind_some h77
   replace e106 := chk_some e106
   refine RL.app 2 5 Tryz.underlying41 Tryz_lo3 rfl rfl rfl rfl rfl rfl rfl SlOf.own e106 ?_
   intro v107
   refine RL.asg rfl rfl rfl ?_
   refine RL.finG ?_
   refine GL.region ?_
   refine RL.mv rfl rfl rfl ?_
   refine RL.mv rfl rfl rfl ?_
   refine RL.mv rfl rfl rfl ?_
   refine RL.mv rfl rfl rfl ?_
   obtain ⟨y110, e111, h77⟩ := bind_some h77
   refine RL.callV (v := .tuple #[.int .i64 y110.1, .int .i64 y110.2]) (vs := [v0, v95, .string ⟨(x2 : List UInt8).toArray⟩, .int .i64 (wsub x31 y98.2.2.2.2.2)]) Tryz_fit39 rfl (Or.inl rfl) rfl rfl rfl rfl (fun U w hU hW hL => pick_Next_c U w hU _ _ (hL 0 _ _ rfl Seen.imm) _ _ (hL 4 _ _ rfl Seen.own) x2 (wsub x31 y98.2.2.2.2.2) _ e111) ?_
   refine RL.mv rfl rfl rfl ?_
   refine RL.ext rfl rfl rfl rfl ?_
   refine RL.ext rfl rfl rfl rfl ?_
   refine RL.asg rfl rfl rfl ?_
   refine RL.asg rfl rfl rfl ?_
   refine RL.finG ?_
   refine GL.nilB ?_
   cases h77
   exact fun a w st => lop_intro (r82, wsub x31 y98.2.2.2.2.2, y110.1, y110.2, y93.1, (l36 ++ ([x32] : (List Int))), v95, v107) (by exact h78) (by simp) (St.cut [0, 4, 2] ⟨rfl, rfl, rfl, rfl, rfl, rfl, rfl, trivial⟩ (by decide) rfl st)
  replace h77 := ite_f b83 h77
  cases h77
  replace h78 : some (Fl.nx _) = some y67 := h78
  cases h78
  exact GL.exit (fun a w st => mid_intro (x31, x32, x33, l34, l36, v35, v37) h70 (St.cut [1, 2] ⟨rfl, rfl, trivial⟩ (by decide) rfl st))
 rintro ⟨x31, x32, x33, l34, l36, v35, v37⟩ h112
 have h113 := h71 _ h112
 try dsimp only at h113
 refine GL.weak (env' := [(13, v35), (14, v37)]) (L' := [own 30 TrA v35 l34, own 3 TR.int v37 l36]) (fun _ _ st => st) ?_
 refine GL.seq ?_
 refine GL.region ?_
 refine RL.mv rfl rfl rfl ?_
 refine RL.mv rfl rfl rfl ?_
 refine RL.asg rfl rfl rfl ?_
 refine RL.asg rfl rfl rfl ?_
 refine RL.asg rfl rfl rfl ?_
 refine RL.finG ?_
 have h113 := Option.some.inj h113
 subst h113
 exact GL.ret (Gx.ret (v := .tuple #[v37, v35, .int .i64 (0 : Int)]) (res3 rfl rfl rfl rfl) (fun a w st => (st.pick [1, 0] (by decide) rfl).toPost (v37, v35)))

set_option maxHeartbeats 4000000 in
theorem slices_Equal_int_int_c (S : Hp) (w : World) (hS : S.sub w) (v0 : Value) (x0 : (List Int)) (k0 : ((TR.sl TR.int)).vrep S v0 x0) (v1 : Value) (x1 : (List Int)) (k1 : ((TR.sl TR.int)).vrep S v1 x1) (res : Bool) (hm : slices_Equal_int_int_m x0 x1 = some res) : Calls Tryz.prog 24 #[v0, v1] w (PostV w (.bool res)) := by
 refine calls_enter 26 Tryz.func24 Tryz.ntmps24 rfl S false [(0, v0), (1, v1)] [imm (TR.sl TR.int) v0 x0, imm (TR.sl TR.int) v1 x1] rfl ⟨rfl, ⟨rfl, trivial⟩⟩ hS ⟨k0, ⟨k1, trivial⟩⟩ ?_
 unfold slices_Equal_int_int_m at hm
 refine GL.seq ?_
 refine GL.region ?_
 refine RL.asg rfl rfl rfl ?_
 refine RL.finG ?_
 refine GL.seq ?_
 refine GL.seq ?_
 refine GL.region ?_
 refine RL.mv rfl rfl rfl ?_
 refine RL.lenS 0 Tryz.underlying41 rfl rfl rfl rfl SlOf.imm ?_
 refine RL.mv rfl rfl rfl ?_
 refine RL.lenS 1 Tryz.underlying41 rfl rfl rfl rfl SlOf.imm ?_
 refine RL.binI (v := .bool (((x0).length : Int) != ((x1).length : Int))) rfl rfl rfl rfl rfl ?_
 refine RL.finG ?_
 refine GL.cond rfl (fun b3 => ?_) (fun b3 => ?_)
 ·replace hm := ite_t b3 hm
  refine GL.seq ?_
  refine GL.region ?_
  refine RL.asg rfl rfl rfl ?_
  refine RL.finG ?_
  have hm := Option.some.inj hm
  subst hm
  exact GL.ret (Gx.ret (v := .bool false) (res1 rfl rfl) (fun a w st => st.toPostV))
 replace hm := ite_f b3 hm
 refine GL.skip ?_
 refine GL.seq ?_
 refine GL.seq ?_
 refine GL.region ?_
 refine RL.mv rfl rfl rfl ?_
 refine RL.lenS 0 Tryz.underlying41 rfl rfl rfl rfl SlOf.imm ?_
 refine RL.mv rfl rfl rfl ?_
 refine RL.finG ?_
 refine GL.open_ 0 rfl (fun S h => len_imm S h) (fun n13 => ?_)
 obtain ⟨y14, K15, h16, h17, h18, h19, h20⟩ := bindR_K hm
 refine GL.join (ι := Unit) (fun (p : Unit) => []) (fun (p : Unit) => []) (fun (p : Unit) => K15 (.nx ())) ?_ ?_
 ·refine GL.block ?_
  refine GL.loop (ι := Nat × (List Int)) (fun (p : Nat × (List Int)) => [(0, v0), (1, v1), (12, .int .i64 ((x0).length : Int)), (13, .int .i64 (p.1 : Int))]) (fun (p : Nat × (List Int)) => [imm (TR.sl TR.int) v0 x0, imm (TR.sl TR.int) v1 x1]) (fun (p : Nat × (List Int)) => p.1 + p.2.length = (x0).length ∧ List.drop p.1 x0 = p.2 ∧ rangeL (slices_Equal_int_int_b1 x1) p.2 p.1 () = some y14) (fun (p : Nat × (List Int)) => p.2.length) (0, x0) ⟨by simp, by simp, h16⟩ (fun a w st => St.cut [0, 1] ⟨rfl, rfl, rfl, rfl, trivial⟩ (by decide) rfl st) ?_
  rintro ⟨i21, r22⟩ ⟨h27, h28, h26⟩
  try dsimp only at h27 h28 h26
  refine GL.weak (env' := [(0, v0), (1, v1), (12, .int .i64 ((x0).length : Int)), (13, .int .i64 (i21 : Int))]) (L' := [imm (TR.sl TR.int) v0 x0, imm (TR.sl TR.int) v1 x1]) (fun _ _ st => st) ?_
  refine GL.seq ?_
  refine GL.region ?_
  refine RL.binI (v := .bool (decide ((i21 : Int) < ((x0).length : Int)))) rfl rfl rfl rfl rfl ?_
  refine RL.finG ?_
  refine GL.seq ?_
  refine GL.cond rfl (fun b29 => ?_) (fun b29 => ?_)
  ·have h30 : i21 < (x0).length := by have := of_decide_eq_true b29; omega
   obtain ⟨y31, r33, hr, e32, h34⟩ := drop_cons h28 rfl h30
   subst hr
   obtain ⟨z23, h24, h25⟩ := rangeL_some h26
   unfold slices_Equal_int_int_b1 at h24
   try dsimp only at h24
   refine GL.skip ?_
   refine GL.seq ?_
   refine GL.block ?_
   refine GL.seq ?_
   refine GL.region ?_
   refine RL.mv rfl rfl rfl ?_
   refine RL.asg rfl rfl rfl ?_
   refine RL.finG ?_
   refine GL.seq ?_
   refine GL.regionQ rfl rfl (by kernel_rfl) ?_
   refine RL.mv rfl rfl rfl ?_
   refine RL.mv rfl rfl rfl ?_
   refine RL.idxS (sz := 1) 0 Tryz.underlying41 Tryz_ln3 rfl rfl rfl rfl rfl SlOf.imm (by omega) (by omega) ?_
   refine RL.ldSx (i := i21) (e' := y31) 0 Ex.ik Tryz_ln3 rfl rfl rfl rfl SlOf.imm e32 Part.self ?_
   refine RL.mv rfl rfl rfl ?_
   refine RL.mv rfl rfl rfl ?_
   obtain ⟨y37, e38, h24⟩ := bind_some h24
   refine RL.idxS (sz := 1) 1 Tryz.underlying41 Tryz_ln3 rfl rfl rfl rfl rfl SlOf.imm (idx_some e38).1 (idx_some e38).2.1 ?_
   refine RL.ldSx (i := i21) (e' := y37) 1 Ex.ik Tryz_ln3 rfl rfl rfl rfl SlOf.imm (idx_some e38).2.2 Part.self ?_
   refine RL.binI (v := .bool (y31 != y37)) rfl rfl rfl rfl rfl ?_
   refine RL.finQG ?_
   refine GL.cond rfl (fun b39 => ?_) (fun b39 => ?_)
   ·replace h24 := ite_t b39 h24
    refine GL.seq ?_
    refine GL.region ?_
    refine RL.asg rfl rfl rfl ?_
    refine RL.finG ?_
    cases h24
    replace h25 : some (Fl.rt _) = some y14 := h25
    cases h25
    have hh := h19 _ h17
    subst hh
    exact GL.ret (Gx.ret (v := .bool false) (res1 rfl rfl) (fun a w st => st.toPostV))
   replace h24 := ite_f b39 h24
   refine GL.skip ?_
   refine GL.nilB ?_
   refine GL.region ?_
   refine RL.binI (v := .int .i64 ((i21 + 1 : Nat) : Int)) rfl rfl rfl rfl (binI_succ i21 (by omega)) ?_
   refine RL.mv rfl rfl rfl ?_
   refine RL.fin ?_
   cases h24
   exact fun a w st => lop_intro (i21 + 1, r33) ⟨by show i21 + 1 + r33.length = (x0).length; simp only [List.length_cons] at h27; omega, h34, h25⟩ (by simp) (St.cut [0, 1] ⟨rfl, rfl, rfl, rfl, trivial⟩ (by decide) rfl st)
  have h30 : ¬ i21 < (x0).length := by have := of_decide_eq_false b29; omega
  obtain rfl : r22 = [] := by rw [← h28]; exact List.drop_of_length_le (by omega)
  replace h26 : some (Fl.nx _) = some y14 := h26
  cases h26
  exact GL.exit (fun a w st => mid_intro () h17 (St.cut [] trivial (by decide) rfl st))
 rintro ⟨⟩ h40
 have h41 := h18 _ h40
 try dsimp only at h41
 refine GL.weak (env' := []) (L' := []) (fun _ _ st => st) ?_
 refine GL.seq ?_
 refine GL.region ?_
 refine RL.asg rfl rfl rfl ?_
 refine RL.finG ?_
 have h41 := Option.some.inj h41
 subst h41
 exact GL.ret (Gx.ret (v := .bool true) (res1 rfl rfl) (fun a w st => st.toPostV))

set_option maxHeartbeats 4000000 in
theorem pk_picks_c (S : Hp) (w : World) (hS : S.sub w)  (res : Bool) (hm : pk_picks_m = some res) : Calls Tryz.prog 6 #[] w (PostV w (.bool res)) := by
 refine calls_enter 31 Tryz.func6 Tryz.ntmps6 rfl S false [] [] rfl trivial hS trivial ?_
 unfold pk_picks_m at hm
 refine GL.seq ?_
 refine GL.region ?_
 refine RL.asg rfl rfl rfl ?_
 refine RL.finG ?_
 refine GL.seq ?_
 refine GL.region ?_
 refine RL.bld (t := TrD) (d0 := ((([97] : List UInt8), ([98] : List UInt8), (0 : Int), (0 : Int), (1 : Int), (1 : Int)) : ((List UInt8) × ((List UInt8) × (Int × (Int × (Int × Int))))))) (pv := [(0, .string ⟨(([97] : List UInt8) : List UInt8).toArray⟩), (1, .string ⟨(([98] : List UInt8) : List UInt8).toArray⟩), (4, .int .i64 (1 : Int)), (5, .int .i64 (1 : Int))]) rfl Tryz_bld24 rfl rfl rfl ⟨⟨_, _, TR.str, ([97] : List UInt8), rfl, rfl, VR.str⟩, ⟨⟨_, _, TR.str, ([98] : List UInt8), rfl, rfl, VR.str⟩, ⟨⟨_, _, TR.int, (1 : Int), rfl, rfl, VR.int⟩, ⟨⟨_, _, TR.int, (1 : Int), rfl, rfl, VR.int⟩, trivial⟩⟩⟩⟩ (fun S f hi => by
   obtain ⟨c0, e0, r0⟩ := cells_vrep (t := TR.str) (u := .string ⟨(([97] : List UInt8) : List UInt8).toArray⟩) (e := ([97] : List UInt8)) (VR.str S f hi)
   obtain ⟨c1, e1, r1⟩ := cells_vrep (t := TR.str) (u := .string ⟨(([98] : List UInt8) : List UInt8).toArray⟩) (e := ([98] : List UInt8)) (VR.str S f hi)
   obtain ⟨c4, e4, r4⟩ := cells_vrep (t := TR.int) (u := .int .i64 (1 : Int)) (e := (1 : Int)) (VR.int S f hi)
   obtain ⟨c5, e5, r5⟩ := cells_vrep (t := TR.int) (u := .int .i64 (1 : Int)) (e := (1 : Int)) (VR.int S f hi)
   show TR.rep TrD S (List.flatten [(.string ⟨(([97] : List UInt8) : List UInt8).toArray⟩ : Value).cells.toList, (.string ⟨(([98] : List UInt8) : List UInt8).toArray⟩ : Value).cells.toList, [.int .i64 0], [.int .i64 0], (.int .i64 (1 : Int) : Value).cells.toList, (.int .i64 (1 : Int) : Value).cells.toList]) _
   simp only [e0, e1, e4, e5,  List.flatten_cons, List.flatten_nil, List.append_nil]
   exact ⟨_, _, rfl, r0, ⟨_, _, rfl, r1, ⟨_, _, rfl, rfl, ⟨_, _, rfl, rfl, ⟨_, _, rfl, r4, r4⟩⟩⟩⟩⟩) ?_
 intro v4
 refine RL.bld (t := TrD) (d0 := ((([98] : List UInt8), ([97] : List UInt8), (0 : Int), (0 : Int), (9 : Int), (3 : Int)) : ((List UInt8) × ((List UInt8) × (Int × (Int × (Int × Int))))))) (pv := [(0, .string ⟨(([98] : List UInt8) : List UInt8).toArray⟩), (1, .string ⟨(([97] : List UInt8) : List UInt8).toArray⟩), (4, .int .i64 (9 : Int)), (5, .int .i64 (3 : Int))]) rfl Tryz_bld24 rfl rfl rfl ⟨⟨_, _, TR.str, ([98] : List UInt8), rfl, rfl, VR.str⟩, ⟨⟨_, _, TR.str, ([97] : List UInt8), rfl, rfl, VR.str⟩, ⟨⟨_, _, TR.int, (9 : Int), rfl, rfl, VR.int⟩, ⟨⟨_, _, TR.int, (3 : Int), rfl, rfl, VR.int⟩, trivial⟩⟩⟩⟩ (fun S f hi => by
   obtain ⟨c0, e0, r0⟩ := cells_vrep (t := TR.str) (u := .string ⟨(([98] : List UInt8) : List UInt8).toArray⟩) (e := ([98] : List UInt8)) (VR.str S f hi)
   obtain ⟨c1, e1, r1⟩ := cells_vrep (t := TR.str) (u := .string ⟨(([97] : List UInt8) : List UInt8).toArray⟩) (e := ([97] : List UInt8)) (VR.str S f hi)
   obtain ⟨c4, e4, r4⟩ := cells_vrep (t := TR.int) (u := .int .i64 (9 : Int)) (e := (9 : Int)) (VR.int S f hi)
   obtain ⟨c5, e5, r5⟩ := cells_vrep (t := TR.int) (u := .int .i64 (3 : Int)) (e := (3 : Int)) (VR.int S f hi)
   show TR.rep TrD S (List.flatten [(.string ⟨(([98] : List UInt8) : List UInt8).toArray⟩ : Value).cells.toList, (.string ⟨(([97] : List UInt8) : List UInt8).toArray⟩ : Value).cells.toList, [.int .i64 0], [.int .i64 0], (.int .i64 (9 : Int) : Value).cells.toList, (.int .i64 (3 : Int) : Value).cells.toList]) _
   simp only [e0, e1, e4, e5,  List.flatten_cons, List.flatten_nil, List.append_nil]
   exact ⟨_, _, rfl, r0, ⟨_, _, rfl, r1, ⟨_, _, rfl, rfl, ⟨_, _, rfl, rfl, ⟨_, _, rfl, r4, r5⟩⟩⟩⟩⟩) ?_
 intro v5
 refine RL.reL (L' := [imm TrD v4 ((([97] : List UInt8), ([98] : List UInt8), (0 : Int), (0 : Int), (1 : Int), (1 : Int)) : ((List UInt8) × ((List UInt8) × (Int × (Int × (Int × Int)))))), imm TrD v5 ((([98] : List UInt8), ([97] : List UInt8), (0 : Int), (0 : Int), (9 : Int), (3 : Int)) : ((List UInt8) × ((List UInt8) × (Int × (Int × (Int × Int))))))]) rfl ?_
 refine RL.bS (t := TrD) (vs := [v4, v5]) ([((([97] : List UInt8), ([98] : List UInt8), (0 : Int), (0 : Int), (1 : Int), (1 : Int)) : ((List UInt8) × ((List UInt8) × (Int × (Int × (Int × Int)))))), ((([98] : List UInt8), ([97] : List UInt8), (0 : Int), (0 : Int), (9 : Int), (3 : Int)) : ((List UInt8) × ((List UInt8) × (Int × (Int × (Int × Int))))))] : (List ((List UInt8) × ((List UInt8) × (Int × (Int × (Int × Int))))))) Tryz.underlying25 Tryz_lo24 rfl rfl rfl rfl ⟨(VR.item 0 rfl), ⟨(VR.item 1 rfl), trivial⟩⟩ rfl (by decide) ?_
 intro v6
 refine RL.asg rfl rfl rfl ?_
 refine RL.finG ?_
 refine GL.seq ?_
 refine GL.region ?_
 refine RL.mv rfl rfl rfl ?_
 refine RL.bld (t := TrA) (d0 := ((([97] : List UInt8), (5 : Int), (0 : Int)) : ((List UInt8) × (Int × Int)))) (pv := [(0, .string ⟨(([97] : List UInt8) : List UInt8).toArray⟩), (1, .int .i64 (5 : Int))]) rfl Tryz_bld30 rfl rfl rfl ⟨⟨_, _, TR.str, ([97] : List UInt8), rfl, rfl, VR.str⟩, ⟨⟨_, _, TR.int, (5 : Int), rfl, rfl, VR.int⟩, trivial⟩⟩ (fun S f hi => by
   obtain ⟨c0, e0, r0⟩ := cells_vrep (t := TR.str) (u := .string ⟨(([97] : List UInt8) : List UInt8).toArray⟩) (e := ([97] : List UInt8)) (VR.str S f hi)
   obtain ⟨c1, e1, r1⟩ := cells_vrep (t := TR.int) (u := .int .i64 (5 : Int)) (e := (5 : Int)) (VR.int S f hi)
   show TR.rep TrA S (List.flatten [(.string ⟨(([97] : List UInt8) : List UInt8).toArray⟩ : Value).cells.toList, (.int .i64 (5 : Int) : Value).cells.toList, [.int .i64 0]]) _
   simp only [e0, e1,  List.flatten_cons, List.flatten_nil, List.append_nil]
   exact ⟨_, _, rfl, r0, ⟨_, _, rfl, r1, rfl⟩⟩) ?_
 intro v14
 refine RL.reL (L' := [imm TrD v4 ((([97] : List UInt8), ([98] : List UInt8), (0 : Int), (0 : Int), (1 : Int), (1 : Int)) : ((List UInt8) × ((List UInt8) × (Int × (Int × (Int × Int)))))), imm TrD v5 ((([98] : List UInt8), ([97] : List UInt8), (0 : Int), (0 : Int), (9 : Int), (3 : Int)) : ((List UInt8) × ((List UInt8) × (Int × (Int × (Int × Int)))))), own 24 TrD v6 ([((([97] : List UInt8), ([98] : List UInt8), (0 : Int), (0 : Int), (1 : Int), (1 : Int)) : ((List UInt8) × ((List UInt8) × (Int × (Int × (Int × Int)))))), ((([98] : List UInt8), ([97] : List UInt8), (0 : Int), (0 : Int), (9 : Int), (3 : Int)) : ((List UInt8) × ((List UInt8) × (Int × (Int × (Int × Int))))))] : (List ((List UInt8) × ((List UInt8) × (Int × (Int × (Int × Int))))))), imm TrA v14 ((([97] : List UInt8), (5 : Int), (0 : Int)) : ((List UInt8) × (Int × Int)))]) rfl ?_
 refine RL.bld (t := TrA) (d0 := ((([98] : List UInt8), (9 : Int), (0 : Int)) : ((List UInt8) × (Int × Int)))) (pv := [(0, .string ⟨(([98] : List UInt8) : List UInt8).toArray⟩), (1, .int .i64 (9 : Int))]) rfl Tryz_bld30 rfl rfl rfl ⟨⟨_, _, TR.str, ([98] : List UInt8), rfl, rfl, VR.str⟩, ⟨⟨_, _, TR.int, (9 : Int), rfl, rfl, VR.int⟩, trivial⟩⟩ (fun S f hi => by
   obtain ⟨c0, e0, r0⟩ := cells_vrep (t := TR.str) (u := .string ⟨(([98] : List UInt8) : List UInt8).toArray⟩) (e := ([98] : List UInt8)) (VR.str S f hi)
   obtain ⟨c1, e1, r1⟩ := cells_vrep (t := TR.int) (u := .int .i64 (9 : Int)) (e := (9 : Int)) (VR.int S f hi)
   show TR.rep TrA S (List.flatten [(.string ⟨(([98] : List UInt8) : List UInt8).toArray⟩ : Value).cells.toList, (.int .i64 (9 : Int) : Value).cells.toList, [.int .i64 0]]) _
   simp only [e0, e1,  List.flatten_cons, List.flatten_nil, List.append_nil]
   exact ⟨_, _, rfl, r0, ⟨_, _, rfl, r1, rfl⟩⟩) ?_
 intro v15
 refine RL.bS (t := TrA) (vs := [v14, v15]) ([((([97] : List UInt8), (5 : Int), (0 : Int)) : ((List UInt8) × (Int × Int))), ((([98] : List UInt8), (9 : Int), (0 : Int)) : ((List UInt8) × (Int × Int)))] : (List ((List UInt8) × (Int × Int)))) Tryz.underlying22 Tryz_lo30 rfl rfl rfl rfl ⟨(VR.item 3 rfl), ⟨(VR.item 4 rfl), trivial⟩⟩ rfl (by decide) ?_
 intro v16
 refine RL.reL (L' := [imm TrD v4 ((([97] : List UInt8), ([98] : List UInt8), (0 : Int), (0 : Int), (1 : Int), (1 : Int)) : ((List UInt8) × ((List UInt8) × (Int × (Int × (Int × Int)))))), imm TrD v5 ((([98] : List UInt8), ([97] : List UInt8), (0 : Int), (0 : Int), (9 : Int), (3 : Int)) : ((List UInt8) × ((List UInt8) × (Int × (Int × (Int × Int)))))), own 24 TrD v6 ([((([97] : List UInt8), ([98] : List UInt8), (0 : Int), (0 : Int), (1 : Int), (1 : Int)) : ((List UInt8) × ((List UInt8) × (Int × (Int × (Int × Int)))))), ((([98] : List UInt8), ([97] : List UInt8), (0 : Int), (0 : Int), (9 : Int), (3 : Int)) : ((List UInt8) × ((List UInt8) × (Int × (Int × (Int × Int))))))] : (List ((List UInt8) × ((List UInt8) × (Int × (Int × (Int × Int))))))), imm TrA v14 ((([97] : List UInt8), (5 : Int), (0 : Int)) : ((List UInt8) × (Int × Int))), imm TrA v15 ((([98] : List UInt8), (9 : Int), (0 : Int)) : ((List UInt8) × (Int × Int))), own 30 TrA v16 ([((([97] : List UInt8), (5 : Int), (0 : Int)) : ((List UInt8) × (Int × Int))), ((([98] : List UInt8), (9 : Int), (0 : Int)) : ((List UInt8) × (Int × Int)))] : (List ((List UInt8) × (Int × Int))))]) rfl ?_
 obtain ⟨y17, e18, hm⟩ := bind_some hm
 refine RL.callU (vs := [v6, v16, .string ⟨(([97] : List UInt8) : List UInt8).toArray⟩, .int .i64 (3 : Int)]) (LR := fun (o : Value × Value) => [own 3 TR.int o.1 y17.1, own 30 TrA o.2 y17.2.1]) (fun o => ⟨Loc.own TR.flatT_ik, ⟨Loc.own (TR.flatT_pair TR.flatT_str (TR.flatT_pair TR.flatT_ik TR.flatT_ik)), trivial⟩⟩) Tryz_fit16 rfl rfl rfl rfl rfl (fun U w hU hW hL => pick_Build_c U w hU _ _ (hL 2 _ _ rfl Seen.own) _ _ (hL 5 _ _ rfl Seen.own) ([97] : List UInt8) (3 : Int) _ e18) ?_
 intro ⟨v19, v20⟩
 refine RL.mv rfl rfl rfl ?_
 refine RL.ext rfl rfl rfl rfl ?_
 refine RL.ext rfl rfl rfl rfl ?_
 refine RL.ext rfl rfl rfl rfl ?_
 refine RL.asg rfl rfl rfl ?_
 refine RL.asg rfl rfl rfl ?_
 refine RL.asg rfl rfl rfl ?_
 refine RL.finG ?_
 refine GL.seq ?_
 obtain ⟨y42, K43, h44, h45, h46, h47, h48⟩ := bindR_K hm
 refine GL.join (ι := Bool) (fun (p : Bool) => [(0, .bool p)]) (fun (p : Bool) => []) (fun (p : Bool) => K43 (.nx p)) ?_ ?_
 ·skip
  refine GL.region ?_
  refine RL.mv rfl rfl rfl ?_
  refine RL.binI (v := .bool (y17.2.2 == (0 : Int))) rfl rfl rfl rfl rfl ?_
  refine RL.mv rfl rfl rfl ?_
  refine RL.split (t := 19) rfl (fun b49 => ?_) (fun b49 => ?_)
  ·replace h44 := ite_t b49 h44
   refine RL.mv rfl rfl rfl ?_
   refine RL.bS (t := TR.int) (vs := [.int .i64 (1 : Int)]) ([(1 : Int)] : (List Int)) Tryz.underlying41 Tryz_lo3 rfl rfl rfl rfl ⟨VR.int, trivial⟩ rfl (by decide) ?_
   intro v50
   obtain ⟨y51, e52, h44⟩ := bind_some h44
   refine RL.callV (v := .bool y51) (vs := [v19, v50]) Tryz_fit24 rfl (Or.inl rfl) rfl rfl rfl rfl (fun U w hU hW hL => slices_Equal_int_int_c U w hU _ _ (hL 6 _ _ rfl Seen.own) _ _ (hL 8 _ _ rfl Seen.own) _ e52) ?_
   refine RL.pickT rfl rfl rfl rfl ?_
   refine RL.mv rfl rfl rfl ?_
   refine RL.split (t := 24) rfl (fun b53 => ?_) (fun b53 => ?_)
   ·replace h44 := ite_t b53 h44
    refine RL.mv rfl rfl rfl ?_
    refine RL.bld (t := TrA) (d0 := ((([97] : List UInt8), (14 : Int), (0 : Int)) : ((List UInt8) × (Int × Int)))) (pv := [(0, .string ⟨(([97] : List UInt8) : List UInt8).toArray⟩), (1, .int .i64 (14 : Int))]) rfl Tryz_bld30 rfl rfl rfl ⟨⟨_, _, TR.str, ([97] : List UInt8), rfl, rfl, VR.str⟩, ⟨⟨_, _, TR.int, (14 : Int), rfl, rfl, VR.int⟩, trivial⟩⟩ (fun S f hi => by
      obtain ⟨c0, e0, r0⟩ := cells_vrep (t := TR.str) (u := .string ⟨(([97] : List UInt8) : List UInt8).toArray⟩) (e := ([97] : List UInt8)) (VR.str S f hi)
      obtain ⟨c1, e1, r1⟩ := cells_vrep (t := TR.int) (u := .int .i64 (14 : Int)) (e := (14 : Int)) (VR.int S f hi)
      show TR.rep TrA S (List.flatten [(.string ⟨(([97] : List UInt8) : List UInt8).toArray⟩ : Value).cells.toList, (.int .i64 (14 : Int) : Value).cells.toList, [.int .i64 0]]) _
      simp only [e0, e1,  List.flatten_cons, List.flatten_nil, List.append_nil]
      exact ⟨_, _, rfl, r0, ⟨_, _, rfl, r1, rfl⟩⟩) ?_
    intro v54
    refine RL.reL (L' := [imm TrD v4 ((([97] : List UInt8), ([98] : List UInt8), (0 : Int), (0 : Int), (1 : Int), (1 : Int)) : ((List UInt8) × ((List UInt8) × (Int × (Int × (Int × Int)))))), imm TrD v5 ((([98] : List UInt8), ([97] : List UInt8), (0 : Int), (0 : Int), (9 : Int), (3 : Int)) : ((List UInt8) × ((List UInt8) × (Int × (Int × (Int × Int)))))), own 24 TrD v6 ([((([97] : List UInt8), ([98] : List UInt8), (0 : Int), (0 : Int), (1 : Int), (1 : Int)) : ((List UInt8) × ((List UInt8) × (Int × (Int × (Int × Int)))))), ((([98] : List UInt8), ([97] : List UInt8), (0 : Int), (0 : Int), (9 : Int), (3 : Int)) : ((List UInt8) × ((List UInt8) × (Int × (Int × (Int × Int))))))] : (List ((List UInt8) × ((List UInt8) × (Int × (Int × (Int × Int))))))), imm TrA v14 ((([97] : List UInt8), (5 : Int), (0 : Int)) : ((List UInt8) × (Int × Int))), imm TrA v15 ((([98] : List UInt8), (9 : Int), (0 : Int)) : ((List UInt8) × (Int × Int))), own 30 TrA v16 ([((([97] : List UInt8), (5 : Int), (0 : Int)) : ((List UInt8) × (Int × Int))), ((([98] : List UInt8), (9 : Int), (0 : Int)) : ((List UInt8) × (Int × Int)))] : (List ((List UInt8) × (Int × Int)))), own 3 TR.int v19 y17.1, own 30 TrA v20 y17.2.1, own 3 TR.int v50 ([(1 : Int)] : (List Int)), imm TrA v54 ((([97] : List UInt8), (14 : Int), (0 : Int)) : ((List UInt8) × (Int × Int)))]) rfl ?_
    refine RL.bld (t := TrA) (d0 := ((([98] : List UInt8), (0 : Int), (1 : Int)) : ((List UInt8) × (Int × Int)))) (pv := [(0, .string ⟨(([98] : List UInt8) : List UInt8).toArray⟩), (2, .int .i64 (1 : Int))]) rfl Tryz_bld30 rfl rfl rfl ⟨⟨_, _, TR.str, ([98] : List UInt8), rfl, rfl, VR.str⟩, ⟨⟨_, _, TR.int, (1 : Int), rfl, rfl, VR.int⟩, trivial⟩⟩ (fun S f hi => by
      obtain ⟨c0, e0, r0⟩ := cells_vrep (t := TR.str) (u := .string ⟨(([98] : List UInt8) : List UInt8).toArray⟩) (e := ([98] : List UInt8)) (VR.str S f hi)
      obtain ⟨c2, e2, r2⟩ := cells_vrep (t := TR.int) (u := .int .i64 (1 : Int)) (e := (1 : Int)) (VR.int S f hi)
      show TR.rep TrA S (List.flatten [(.string ⟨(([98] : List UInt8) : List UInt8).toArray⟩ : Value).cells.toList, [.int .i64 0], (.int .i64 (1 : Int) : Value).cells.toList]) _
      simp only [e0, e2,  List.flatten_cons, List.flatten_nil, List.append_nil]
      exact ⟨_, _, rfl, r0, ⟨_, _, rfl, rfl, r2⟩⟩) ?_
    intro v55
    refine RL.bS (t := TrA) (vs := [v54, v55]) ([((([97] : List UInt8), (14 : Int), (0 : Int)) : ((List UInt8) × (Int × Int))), ((([98] : List UInt8), (0 : Int), (1 : Int)) : ((List UInt8) × (Int × Int)))] : (List ((List UInt8) × (Int × Int)))) Tryz.underlying22 Tryz_lo30 rfl rfl rfl rfl ⟨(VR.item 9 rfl), ⟨(VR.item 10 rfl), trivial⟩⟩ rfl (by decide) ?_
    intro v56
    refine RL.reL (L' := [imm TrD v4 ((([97] : List UInt8), ([98] : List UInt8), (0 : Int), (0 : Int), (1 : Int), (1 : Int)) : ((List UInt8) × ((List UInt8) × (Int × (Int × (Int × Int)))))), imm TrD v5 ((([98] : List UInt8), ([97] : List UInt8), (0 : Int), (0 : Int), (9 : Int), (3 : Int)) : ((List UInt8) × ((List UInt8) × (Int × (Int × (Int × Int)))))), own 24 TrD v6 ([((([97] : List UInt8), ([98] : List UInt8), (0 : Int), (0 : Int), (1 : Int), (1 : Int)) : ((List UInt8) × ((List UInt8) × (Int × (Int × (Int × Int)))))), ((([98] : List UInt8), ([97] : List UInt8), (0 : Int), (0 : Int), (9 : Int), (3 : Int)) : ((List UInt8) × ((List UInt8) × (Int × (Int × (Int × Int))))))] : (List ((List UInt8) × ((List UInt8) × (Int × (Int × (Int × Int))))))), imm TrA v14 ((([97] : List UInt8), (5 : Int), (0 : Int)) : ((List UInt8) × (Int × Int))), imm TrA v15 ((([98] : List UInt8), (9 : Int), (0 : Int)) : ((List UInt8) × (Int × Int))), own 30 TrA v16 ([((([97] : List UInt8), (5 : Int), (0 : Int)) : ((List UInt8) × (Int × Int))), ((([98] : List UInt8), (9 : Int), (0 : Int)) : ((List UInt8) × (Int × Int)))] : (List ((List UInt8) × (Int × Int)))), own 3 TR.int v19 y17.1, own 30 TrA v20 y17.2.1, own 3 TR.int v50 ([(1 : Int)] : (List Int)), imm TrA v54 ((([97] : List UInt8), (14 : Int), (0 : Int)) : ((List UInt8) × (Int × Int))), imm TrA v55 ((([98] : List UInt8), (0 : Int), (1 : Int)) : ((List UInt8) × (Int × Int))), own 30 TrA v56 ([((([97] : List UInt8), (14 : Int), (0 : Int)) : ((List UInt8) × (Int × Int))), ((([98] : List UInt8), (0 : Int), (1 : Int)) : ((List UInt8) × (Int × Int)))] : (List ((List UInt8) × (Int × Int))))]) rfl ?_
    obtain ⟨y57, e58, h44⟩ := bind_some h44
    refine RL.callV (v := .bool y57) (vs := [v20, v56]) Tryz_fit21 rfl (Or.inl rfl) rfl rfl rfl rfl (fun U w hU hW hL => slices_Equal_api_Account_api_Account_c U w hU _ _ (hL 7 _ _ rfl Seen.own) _ _ (hL 11 _ _ rfl Seen.own) _ e58) ?_
    refine RL.pickT rfl rfl rfl rfl ?_
    refine RL.asg rfl rfl rfl ?_
    refine RL.fin ?_
    cases h44
    exact fun a w st => mid_intro y57 h45 (St.cut [] ⟨rfl, trivial⟩ (by decide) rfl st)
   replace h44 := ite_f b53 h44
   refine RL.skip rfl rfl ?_
   refine RL.skip rfl rfl ?_
   refine RL.skip rfl rfl ?_
   refine RL.skip rfl rfl ?_
   refine RL.skip rfl rfl ?_
   refine RL.pickF rfl rfl rfl rfl ?_
   refine RL.asg rfl rfl rfl ?_
   refine RL.fin ?_
   cases h44
   exact fun a w st => mid_intro false h45 (St.cut [] ⟨rfl, trivial⟩ (by decide) rfl st)
  replace h44 := ite_f b49 h44
  refine RL.skip rfl rfl ?_
  refine RL.skip rfl rfl ?_
  refine RL.skip rfl rfl ?_
  refine RL.pickF rfl rfl rfl rfl ?_
  refine RL.mv rfl rfl rfl ?_
  refine RL.skip rfl rfl ?_
  refine RL.skip rfl rfl ?_
  refine RL.skip rfl rfl ?_
  refine RL.skip rfl rfl ?_
  refine RL.skip rfl rfl ?_
  refine RL.pickF rfl rfl rfl rfl ?_
  refine RL.asg rfl rfl rfl ?_
  refine RL.fin ?_
  cases h44
  exact fun a w st => mid_intro false h45 (St.cut [] ⟨rfl, trivial⟩ (by decide) rfl st)
 rintro x41 h59
 have h60 := h46 _ h59
 try dsimp only at h60
 refine GL.weak (env' := [(0, .bool x41)]) (L' := []) (fun _ _ st => st) ?_
 have h60 := Option.some.inj h60
 subst h60
 exact GL.ret (Gx.ret (v := .bool x41) (res1 rfl rfl) (fun a w st => st.toPostV))

set_option maxHeartbeats 4000000 in
theorem log_New_c (S : Hp) (w : World) (hS : S.sub w)  (res : ((List UInt8) × Int)) (hm : log_New_m = some res) : Calls Tryz.prog 42 #[] w (Post w S (fun (o : Value) => o) (fun (o : Value) => [obox 95 (TR.pair TR.str TR.int) o res])) := by
 refine calls_enter 3 Tryz.func42 Tryz.ntmps42 rfl S false [] [] rfl trivial hS trivial ?_
 unfold log_New_m at hm
 refine GL.seq ?_
 refine GL.region ?_
 refine RL.asg rfl rfl rfl ?_
 refine RL.finG ?_
 refine GL.seq ?_
 refine GL.region ?_
 refine RL.bld (t := (TR.pair TR.str TR.int)) (d0 := ((([] : List UInt8), (0 : Int)) : ((List UInt8) × Int))) (pv := []) rfl Tryz_bld95 rfl rfl rfl trivial (fun S f hi => by
   show TR.rep (TR.pair TR.str TR.int) S (List.flatten [[.string ⟨#[]⟩], [.int .i64 0]]) _
   simp only [ List.flatten_cons, List.flatten_nil, List.append_nil]
   exact ⟨_, _, rfl, rfl, rfl⟩) ?_
 intro v3
 refine RL.box (t := (TR.pair TR.str TR.int)) (e := ((([] : List UInt8), (0 : Int)) : ((List UInt8) × Int))) rfl rfl rfl rfl (VR.item 0 rfl) ?_
 intro v4
 refine RL.reL (L' := [imm (TR.pair TR.str TR.int) v3 ((([] : List UInt8), (0 : Int)) : ((List UInt8) × Int)), obox 95 (TR.pair TR.str TR.int) v4 ((([] : List UInt8), (0 : Int)) : ((List UInt8) × Int))]) rfl ?_
 refine RL.asg rfl rfl rfl ?_
 refine RL.finG ?_
 have hm := Option.some.inj hm
 subst hm
 exact GL.ret (Gx.ret (v := v4) (res1 rfl rfl) (fun a w st => (st.pick [1] (by decide) rfl).toPost v4))

set_option maxHeartbeats 4000000 in
theorem house_New_c (S : Hp) (w : World) (hS : S.sub w)  (res : ((List ((List UInt8) × (Int × Int))) × ((List ((List UInt8) × ((List UInt8) × (Int × (Int × (Int × Int)))))) × ((List UInt8) × Int)))) (hm : house_New_m = some res) : Calls Tryz.prog 25 #[] w (Post w S (fun (o : Value × Value) => o.1) (fun (o : Value × Value) => [obox 78 TrH o.1 (res.1, (res.2.1, o.2)), obox 95 (TR.pair TR.str TR.int) o.2 res.2.2])) := by
 refine calls_enter 4 Tryz.func25 Tryz.ntmps25 rfl S false [] [] rfl trivial hS trivial ?_
 unfold house_New_m at hm
 refine GL.seq ?_
 refine GL.region ?_
 refine RL.asg rfl rfl rfl ?_
 refine RL.finG ?_
 refine GL.seq ?_
 refine GL.region ?_
 obtain ⟨y6, e7, hm⟩ := bind_some hm
 refine RL.call (vs := []) Tryz_fit42 rfl rfl rfl rfl rfl (fun S f w hS hW hi => log_New_c S w hS  _ e7) ?_
 intro v8
 refine RL.bld (t := TrH) (d0 := ((([] : (List ((List UInt8) × (Int × Int)))), ([] : (List ((List UInt8) × ((List UInt8) × (Int × (Int × (Int × Int))))))), v8) : (List ((List UInt8) × (Int × Int))) × (List ((List UInt8) × ((List UInt8) × (Int × (Int × (Int × Int)))))) × Value)) (pv := [(2, v8)]) rfl Tryz_bld78 rfl rfl rfl ⟨⟨_, _, TR.raw, v8, rfl, rfl, (VR.rawPt 0 rfl PtOf.obox)⟩, trivial⟩ (fun S f hi => by
   obtain ⟨c2, e2, r2⟩ := cells_vrep (t := TR.raw) (u := v8) (e := v8) ((VR.rawPt 0 rfl PtOf.obox) S f hi)
   show TR.rep TrH S (List.flatten [[.slice none 0 0], [.slice none 0 0], (v8 : Value).cells.toList]) _
   simp only [e2,  List.flatten_cons, List.flatten_nil, List.append_nil]
   exact ⟨_, _, rfl, ⟨_, [], rfl, ⟨none, 0, rfl, Nat.le_refl _, Nat.zero_le _, Or.inl ⟨rfl, rfl⟩⟩, rfl⟩, ⟨_, _, rfl, ⟨_, [], rfl, ⟨none, 0, rfl, Nat.le_refl _, Nat.zero_le _, Or.inl ⟨rfl, rfl⟩⟩, rfl⟩, r2⟩⟩) ?_
 intro v9
 refine RL.reL (L' := [obox 95 (TR.pair TR.str TR.int) v8 y6, imm TrH v9 (((([] : (List ((List UInt8) × (Int × Int)))), ([] : (List ((List UInt8) × ((List UInt8) × (Int × (Int × (Int × Int))))))), y6) : ((List ((List UInt8) × (Int × Int))) × ((List ((List UInt8) × ((List UInt8) × (Int × (Int × (Int × Int)))))) × ((List UInt8) × Int)))).1, (((([] : (List ((List UInt8) × (Int × Int)))), ([] : (List ((List UInt8) × ((List UInt8) × (Int × (Int × (Int × Int))))))), y6) : ((List ((List UInt8) × (Int × Int))) × ((List ((List UInt8) × ((List UInt8) × (Int × (Int × (Int × Int)))))) × ((List UInt8) × Int)))).2.1, v8))]) rfl ?_
 refine RL.box (t := TrH) (e := (((([] : (List ((List UInt8) × (Int × Int)))), ([] : (List ((List UInt8) × ((List UInt8) × (Int × (Int × (Int × Int))))))), y6) : ((List ((List UInt8) × (Int × Int))) × ((List ((List UInt8) × ((List UInt8) × (Int × (Int × (Int × Int)))))) × ((List UInt8) × Int)))).1, (((([] : (List ((List UInt8) × (Int × Int)))), ([] : (List ((List UInt8) × ((List UInt8) × (Int × (Int × (Int × Int))))))), y6) : ((List ((List UInt8) × (Int × Int))) × ((List ((List UInt8) × ((List UInt8) × (Int × (Int × (Int × Int)))))) × ((List UInt8) × Int)))).2.1, v8))) rfl rfl rfl rfl (VR.item 1 rfl) ?_
 intro v10
 refine RL.reL (L' := [obox 95 (TR.pair TR.str TR.int) v8 y6, imm TrH v9 (((([] : (List ((List UInt8) × (Int × Int)))), ([] : (List ((List UInt8) × ((List UInt8) × (Int × (Int × (Int × Int))))))), y6) : ((List ((List UInt8) × (Int × Int))) × ((List ((List UInt8) × ((List UInt8) × (Int × (Int × (Int × Int)))))) × ((List UInt8) × Int)))).1, (((([] : (List ((List UInt8) × (Int × Int)))), ([] : (List ((List UInt8) × ((List UInt8) × (Int × (Int × (Int × Int))))))), y6) : ((List ((List UInt8) × (Int × Int))) × ((List ((List UInt8) × ((List UInt8) × (Int × (Int × (Int × Int)))))) × ((List UInt8) × Int)))).2.1, v8)), obox 78 TrH v10 (((([] : (List ((List UInt8) × (Int × Int)))), ([] : (List ((List UInt8) × ((List UInt8) × (Int × (Int × (Int × Int))))))), y6) : ((List ((List UInt8) × (Int × Int))) × ((List ((List UInt8) × ((List UInt8) × (Int × (Int × (Int × Int)))))) × ((List UInt8) × Int)))).1, (((([] : (List ((List UInt8) × (Int × Int)))), ([] : (List ((List UInt8) × ((List UInt8) × (Int × (Int × (Int × Int))))))), y6) : ((List ((List UInt8) × (Int × Int))) × ((List ((List UInt8) × ((List UInt8) × (Int × (Int × (Int × Int)))))) × ((List UInt8) × Int)))).2.1, v8))]) rfl ?_
 refine RL.asg rfl rfl rfl ?_
 refine RL.finG ?_
 have hm := Option.some.inj hm
 subst hm
 exact GL.ret (Gx.ret (v := v10) (res1 rfl rfl) (fun a w st => (st.pick [2, 0] (by decide) rfl).toPost (v10, v8)))

set_option maxHeartbeats 4000000 in
theorem strconv_Itoa_c (S : Hp) (w : World) (hS : S.sub w) (hT : Tab Tryz.prog (Tryz.lays146_ren.g 1) S) (x0 : Int) (res : (List UInt8)) (hm : strconv_Itoa_m x0 = some res) : Calls Tryz.prog 58 #[.int .i64 x0] w (PostV w (.string ⟨(res : List UInt8).toArray⟩)) := by
  unfold strconv_Itoa_m at hm
  obtain ⟨_, hc, hm⟩ := bind_some hm
  replace hc := chk_some hc
  cases hm
  refine (Any.strconv_Itoa Tryz.lays171 x0 hc.1 hc.2 w (hT.pow w hS)).mono ?_
  rintro e w' ⟨rfl, k, os, rfl⟩
  exact ⟨rfl, belowGrow0 _ _ _⟩
end Go.Wk
