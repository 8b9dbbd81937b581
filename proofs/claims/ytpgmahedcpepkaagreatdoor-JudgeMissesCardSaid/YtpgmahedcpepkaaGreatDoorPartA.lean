/-
  The context of the model's proofs, and the facts of types and functions that simp wants.
  slices.IndexFunc, ContainsFunc, Clone: what they come to, for slices of unknown shape. Printed by modgen.py.
  Values: their order, and what may be.
-/
import Derived.Test.YtpgmahedcpepkaaGreatDoorRows
import Derived.Test.YtpgmahedcpepkaaGreatDoorAmWide
import Derived.Test.YtpgmahedcpepkaaGreatDoorAmArgs
namespace Go.Proofs.YtpgmahedcpepkaaGreatDoor.mod
open Go Go.Am
set_option linter.unusedVariables false
set_option linter.unusedSimpArgs false

noncomputable abbrev A0 : Am.Ask := { eqs := [24, 50, 54], exts := [(412, .cmpstr)] }
noncomputable abbrev C0 : Am.Cx := Am.mkCx Tryz.prog A0
theorem ex0 (f : Nat) (h : (f == 412) = false) : C0.exts.get f = none := by
  have h1 : ¬ f = 412 := by simpa using h
  show ((T.leaf : T Xf).set 412 .cmpstr).get f = none
  rw [get_set_ne _ _ h1]; exact get_leaf f
theorem ex228 : C0.exts.get 412 = some .cmpstr := by kernel_rfl
theorem pr0 (f : Nat) (h : (f == 0) = false) : C0.prims.get f = none := get_leaf f
theorem pu0 (f : Nat) : C0.pures.get f = none := get_leaf f

@[simp] theorem sz25 : szOf C0 95 = some 1 := by kernel_rfl
@[simp] theorem ze25 : zeroOf C0 95 = some (.nilp) := by kernel_rfl
@[simp] theorem ag3 : aggOf C0 3 = some false := by kernel_rfl
@[simp] theorem sz3 : szOf C0 3 = some 1 := by kernel_rfl
@[simp] theorem ze3 : zeroOf C0 3 = some (.int .i64 0) := by kernel_rfl
@[simp] theorem ag25 : aggOf C0 95 = some false := by kernel_rfl
@[simp] theorem ag31 : aggOf C0 30 = some false := by kernel_rfl
@[simp] theorem sz31 : szOf C0 30 = some 1 := by kernel_rfl
@[simp] theorem sz42 : szOf C0 52 = some 4 := by kernel_rfl
@[simp] theorem ze42 : zeroOf C0 52 = some (.agg [.int .u64 0, .int .u64 0, .str [], .nils]) := by kernel_rfl
@[simp] theorem ag42 : aggOf C0 52 = some true := by kernel_rfl
@[simp] theorem sz48 : szOf C0 56 = some 6 := by kernel_rfl
@[simp] theorem ze48 : zeroOf C0 56 = some (.agg [.int .u64 0, .int .u64 0, .str [], .nils, .int .u64 0, .int .u64 0]) := by kernel_rfl
@[simp] theorem cv3_31 : convT C0 3 30 = some .u64 := by kernel_rfl
@[simp] theorem ag40 : aggOf C0 33 = some true := by kernel_rfl
@[simp] theorem sz40 : szOf C0 33 = some 2 := by kernel_rfl
theorem fn10 : C0.fns.get 17 = some Tryz.f17 := by kernel_rfl
theorem ok10 : codeOk C0 Tryz.f17.ntmps (Tryz.f17.body.getD .skip) = true := by kernel_rfl
theorem fn11 : C0.fns.get 121 = some Tryz.f121 := by kernel_rfl
theorem ok11 : codeOk C0 Tryz.f121.ntmps (Tryz.f121.body.getD .skip) = true := by kernel_rfl
@[simp] theorem fa126_1 : fieldAt C0 133 1 = some 1 := by kernel_rfl
@[simp] theorem un122 : und C0 129 = some (.array 8 128) := by kernel_rfl
@[simp] theorem sz121 : szOf C0 128 = some 1 := by kernel_rfl
@[simp] theorem ag121 : aggOf C0 128 = some false := by kernel_rfl
@[simp] theorem pt121 : ptT C0 128 = true := by kernel_rfl
@[simp] theorem mt133 : mapT C0 173 = true := by kernel_rfl
theorem fn14 : C0.fns.get 268 = some Tryz.f268 := by kernel_rfl
theorem ok14 : codeOk C0 Tryz.f268.ntmps (Tryz.f268.body.getD .skip) = true := by kernel_rfl
@[simp] theorem fa140_1 : fieldAt C0 136 1 = some 1 := by kernel_rfl
@[simp] theorem ag138 : aggOf C0 134 = some false := by kernel_rfl
@[simp] theorem sz138 : szOf C0 134 = some 1 := by kernel_rfl
@[simp] theorem st138 : slT C0 134 = some (260, 4, 56) := by kernel_rfl
@[simp] theorem ag142 : aggOf C0 260 = some true := by kernel_rfl
@[simp] theorem sz142 : szOf C0 260 = some 4 := by kernel_rfl
@[simp] theorem ze142 : zeroOf C0 260 = some (.agg [.int .u64 0, .str [], .nils, .int .i64 0]) := by kernel_rfl
@[simp] theorem fa142_0 : fieldAt C0 260 0 = some 0 := by kernel_rfl
@[simp] theorem fa142_1 : fieldAt C0 260 1 = some 1 := by kernel_rfl
@[simp] theorem fa40_0 : fieldAt C0 33 0 = some 0 := by kernel_rfl
@[simp] theorem ag9 : aggOf C0 9 = some false := by kernel_rfl
@[simp] theorem sz9 : szOf C0 9 = some 1 := by kernel_rfl
@[simp] theorem fa40_1 : fieldAt C0 33 1 = some 1 := by kernel_rfl
@[simp] theorem ag38 : aggOf C0 31 = some false := by kernel_rfl
@[simp] theorem sz38 : szOf C0 31 = some 1 := by kernel_rfl
@[simp] theorem fa142_2 : fieldAt C0 260 2 = some 3 := by kernel_rfl
theorem fn15 : C0.fns.get 184 = some Tryz.f184 := by kernel_rfl
theorem ok15 : codeOk C0 Tryz.f184.ntmps (Tryz.f184.body.getD .skip) = true := by kernel_rfl
theorem fn16 : C0.fns.get 135 = some Tryz.f135 := by kernel_rfl
theorem ok16 : codeOk C0 Tryz.f135.ntmps (Tryz.f135.body.getD .skip) = true := by kernel_rfl
@[simp] theorem ag48 : aggOf C0 56 = some true := by kernel_rfl
@[simp] theorem fa136_0 : fieldAt C0 255 0 = some 0 := by kernel_rfl
@[simp] theorem ag24 : aggOf C0 29 = some false := by kernel_rfl
@[simp] theorem sz24 : szOf C0 29 = some 1 := by kernel_rfl
@[simp] theorem fa136_4 : fieldAt C0 255 4 = some 4 := by kernel_rfl
@[simp] theorem ag134 : aggOf C0 253 = some false := by kernel_rfl
@[simp] theorem sz134 : szOf C0 253 = some 1 := by kernel_rfl
@[simp] theorem st134 : slT C0 253 = some (273, 2, 16) := by kernel_rfl
theorem fn17 : C0.fns.get 138 = some Tryz.f138 := by kernel_rfl
theorem ok17 : codeOk C0 Tryz.f138.ntmps (Tryz.f138.body.getD .skip) = true := by kernel_rfl
@[simp] theorem fa48_1 : fieldAt C0 56 1 = some 4 := by kernel_rfl
@[simp] theorem ag46 : aggOf C0 54 = some true := by kernel_rfl
@[simp] theorem sz46 : szOf C0 54 = some 2 := by kernel_rfl
@[simp] theorem fa136_3 : fieldAt C0 255 3 = some 3 := by kernel_rfl
@[simp] theorem ag133 : aggOf C0 173 = some false := by kernel_rfl
@[simp] theorem sz133 : szOf C0 173 = some 1 := by kernel_rfl
@[simp] theorem mk133 : mapK C0 173 = some ((.int .i64), .int .u64 0) := by kernel_rfl
@[simp] theorem un134 : und C0 253 = some (.slice 273) := by kernel_rfl
theorem fn18 : C0.fns.get 125 = some Tryz.f125 := by kernel_rfl
theorem ok18 : codeOk C0 Tryz.f125.ntmps (Tryz.f125.body.getD .skip) = true := by kernel_rfl
@[simp] theorem fa136_2 : fieldAt C0 255 2 = some 2 := by kernel_rfl
@[simp] theorem ze40 : zeroOf C0 33 = some (.agg [.str [], .nils]) := by kernel_rfl
@[simp] theorem st38 : slT C0 31 = some (50, 5, 56) := by kernel_rfl
theorem fn22 : C0.fns.get 123 = some Tryz.f123 := by kernel_rfl
theorem ok22 : codeOk C0 Tryz.f123.ntmps (Tryz.f123.body.getD .skip) = true := by kernel_rfl
theorem fn26 : C0.fns.get 118 = some Tryz.f118 := by kernel_rfl
theorem ok26 : codeOk C0 Tryz.f118.ntmps (Tryz.f118.body.getD .skip) = true := by kernel_rfl
@[simp] theorem fa140_2 : fieldAt C0 136 2 = some 2 := by kernel_rfl
theorem fn27 : C0.fns.get 18 = some Tryz.f18 := by kernel_rfl
theorem ok27 : codeOk C0 Tryz.f18.ntmps (Tryz.f18.body.getD .skip) = true := by kernel_rfl
theorem fn29 : C0.fns.get 98 = some Tryz.f98 := by kernel_rfl
theorem ok29 : codeOk C0 Tryz.f98.ntmps (Tryz.f98.body.getD .skip) = true := by kernel_rfl
@[simp] theorem un138 : und C0 134 = some (.slice 260) := by kernel_rfl
theorem fn30 : C0.fns.get 32 = some Tryz.f32 := by kernel_rfl
theorem ok30 : codeOk C0 Tryz.f32.ntmps (Tryz.f32.body.getD .skip) = true := by kernel_rfl
theorem fn63 : C0.fns.get 106 = some Tryz.f106 := by kernel_rfl
theorem ok63 : codeOk C0 Tryz.f106.ntmps (Tryz.f106.body.getD .skip) = true := by kernel_rfl
@[simp] theorem pt25 : ptT C0 95 = true := by kernel_rfl
@[simp] theorem fa140_0 : fieldAt C0 136 0 = some 0 := by kernel_rfl
@[simp] theorem ag4 : aggOf C0 4 = some false := by kernel_rfl
@[simp] theorem sz4 : szOf C0 4 = some 1 := by kernel_rfl
theorem fn69 : C0.fns.get 175 = some Tryz.f175 := by kernel_rfl
theorem ok69 : codeOk C0 Tryz.f175.ntmps (Tryz.f175.body.getD .skip) = true := by kernel_rfl
@[simp] theorem pt32 : ptT C0 93 = true := by kernel_rfl
@[simp] theorem fa126_0 : fieldAt C0 133 0 = some 0 := by kernel_rfl
theorem fn70 : C0.fns.get 194 = some Tryz.f194 := by kernel_rfl
theorem ok70 : codeOk C0 Tryz.f194.ntmps (Tryz.f194.body.getD .skip) = true := by kernel_rfl
@[simp] theorem st92 : slT C0 36 = some (164, 2, 16) := by kernel_rfl
@[simp] theorem ag132 : aggOf C0 164 = some true := by kernel_rfl
@[simp] theorem sz132 : szOf C0 164 = some 2 := by kernel_rfl
@[simp] theorem ze132 : zeroOf C0 164 = some (.agg [.int .i64 0, .int .u64 0]) := by kernel_rfl
@[simp] theorem fa132_0 : fieldAt C0 164 0 = some 0 := by kernel_rfl
@[simp] theorem fa132_1 : fieldAt C0 164 1 = some 1 := by kernel_rfl
theorem fn71 : C0.fns.get 61 = some Tryz.f61 := by kernel_rfl
theorem ok71 : codeOk C0 Tryz.f61.ntmps (Tryz.f61.body.getD .skip) = true := by kernel_rfl
@[simp] theorem st24 : slT C0 29 = some (27, 7, 88) := by kernel_rfl
theorem fn72 : C0.fns.get 189 = some Tryz.f189 := by kernel_rfl
theorem ok72 : codeOk C0 Tryz.f189.ntmps (Tryz.f189.body.getD .skip) = true := by kernel_rfl
@[simp] theorem fa105_3 : fieldAt C0 27 3 = some 6 := by kernel_rfl
@[simp] theorem ag103 : aggOf C0 25 = some false := by kernel_rfl
@[simp] theorem sz103 : szOf C0 25 = some 1 := by kernel_rfl
theorem fn73 : C0.fns.get 65 = some Tryz.f65 := by kernel_rfl
theorem ok73 : codeOk C0 Tryz.f65.ntmps (Tryz.f65.body.getD .skip) = true := by kernel_rfl
@[simp] theorem ag92 : aggOf C0 36 = some false := by kernel_rfl
@[simp] theorem un92 : und C0 36 = some (.slice 164) := by kernel_rfl
theorem fn74 : C0.fns.get 6 = some Tryz.f6 := by kernel_rfl
theorem ok74 : codeOk C0 Tryz.f6.ntmps (Tryz.f6.body.getD .skip) = true := by kernel_rfl
@[simp] theorem ag102 : aggOf C0 24 = some true := by kernel_rfl
@[simp] theorem sz102 : szOf C0 24 = some 4 := by kernel_rfl
@[simp] theorem ze102 : zeroOf C0 24 = some (.agg [.int .i64 0, .int .i64 0, .str [], .bool false]) := by kernel_rfl
theorem fn75 : C0.fns.get 185 = some Tryz.f185 := by kernel_rfl
theorem ok75 : codeOk C0 Tryz.f185.ntmps (Tryz.f185.body.getD .skip) = true := by kernel_rfl
@[simp] theorem un38 : und C0 31 = some (.slice 50) := by kernel_rfl
theorem fn76 : C0.fns.get 156 = some Tryz.f156 := by kernel_rfl
theorem ok76 : codeOk C0 Tryz.f156.ntmps (Tryz.f156.body.getD .skip) = true := by kernel_rfl
theorem fn77 : C0.fns.get 256 = some Tryz.f256 := by kernel_rfl
theorem ok77 : codeOk C0 Tryz.f256.ntmps (Tryz.f256.body.getD .skip) = true := by kernel_rfl
@[simp] theorem fa105_0 : fieldAt C0 27 0 = some 0 := by kernel_rfl
@[simp] theorem ag105 : aggOf C0 27 = some true := by kernel_rfl
@[simp] theorem sz105 : szOf C0 27 = some 7 := by kernel_rfl
theorem fn78 : C0.fns.get 257 = some Tryz.f257 := by kernel_rfl
theorem ok78 : codeOk C0 Tryz.f257.ntmps (Tryz.f257.body.getD .skip) = true := by kernel_rfl
@[simp] theorem fa107_1 : fieldAt C0 50 1 = some 1 := by kernel_rfl
theorem fn79 : C0.fns.get 258 = some Tryz.f258 := by kernel_rfl
theorem ok79 : codeOk C0 Tryz.f258.ntmps (Tryz.f258.body.getD .skip) = true := by kernel_rfl
theorem fn80 : C0.fns.get 195 = some Tryz.f195 := by kernel_rfl
theorem ok80 : codeOk C0 Tryz.f195.ntmps (Tryz.f195.body.getD .skip) = true := by kernel_rfl
theorem fn81 : C0.fns.get 211 = some Tryz.f211 := by kernel_rfl
theorem ok81 : codeOk C0 Tryz.f211.ntmps (Tryz.f211.body.getD .skip) = true := by kernel_rfl
@[simp] theorem fa48_0 : fieldAt C0 56 0 = some 0 := by kernel_rfl
@[simp] theorem fa42_0 : fieldAt C0 52 0 = some 0 := by kernel_rfl
@[simp] theorem fa42_1 : fieldAt C0 52 1 = some 1 := by kernel_rfl
@[simp] theorem fa42_2 : fieldAt C0 52 2 = some 2 := by kernel_rfl
@[simp] theorem fa46_0 : fieldAt C0 54 0 = some 0 := by kernel_rfl
@[simp] theorem fa46_1 : fieldAt C0 54 1 = some 1 := by kernel_rfl
theorem fn82 : C0.fns.get 212 = some Tryz.f212 := by kernel_rfl
theorem ok82 : codeOk C0 Tryz.f212.ntmps (Tryz.f212.body.getD .skip) = true := by kernel_rfl
theorem fn83 : C0.fns.get 213 = some Tryz.f213 := by kernel_rfl
theorem ok83 : codeOk C0 Tryz.f213.ntmps (Tryz.f213.body.getD .skip) = true := by kernel_rfl
theorem fn84 : C0.fns.get 214 = some Tryz.f214 := by kernel_rfl
theorem ok84 : codeOk C0 Tryz.f214.ntmps (Tryz.f214.body.getD .skip) = true := by kernel_rfl
theorem fn85 : C0.fns.get 215 = some Tryz.f215 := by kernel_rfl
theorem ok85 : codeOk C0 Tryz.f215.ntmps (Tryz.f215.body.getD .skip) = true := by kernel_rfl
theorem fn86 : C0.fns.get 196 = some Tryz.f196 := by kernel_rfl
theorem ok86 : codeOk C0 Tryz.f196.ntmps (Tryz.f196.body.getD .skip) = true := by kernel_rfl
@[simp] theorem ag157 : aggOf C0 273 = some true := by kernel_rfl
@[simp] theorem sz157 : szOf C0 273 = some 2 := by kernel_rfl
theorem fn87 : C0.fns.get 197 = some Tryz.f197 := by kernel_rfl
theorem ok87 : codeOk C0 Tryz.f197.ntmps (Tryz.f197.body.getD .skip) = true := by kernel_rfl
@[simp] theorem ze157 : zeroOf C0 273 = some (.agg [.int .i64 0, .int .u64 0]) := by kernel_rfl
theorem fn88 : C0.fns.get 198 = some Tryz.f198 := by kernel_rfl
theorem ok88 : codeOk C0 Tryz.f198.ntmps (Tryz.f198.body.getD .skip) = true := by kernel_rfl
@[simp] theorem fa157_0 : fieldAt C0 273 0 = some 0 := by kernel_rfl
@[simp] theorem fa157_1 : fieldAt C0 273 1 = some 1 := by kernel_rfl
theorem fn114 : C0.fns.get 252 = some Tryz.f252 := by kernel_rfl
theorem ok114 : codeOk C0 Tryz.f252.ntmps (Tryz.f252.body.getD .skip) = true := by kernel_rfl
theorem fn124 : C0.fns.get 157 = some Tryz.f157 := by kernel_rfl
theorem ok124 : codeOk C0 Tryz.f157.ntmps (Tryz.f157.body.getD .skip) = true := by kernel_rfl
theorem fn125 : C0.fns.get 158 = some Tryz.f158 := by kernel_rfl
theorem ok125 : codeOk C0 Tryz.f158.ntmps (Tryz.f158.body.getD .skip) = true := by kernel_rfl
@[simp] theorem fa105_2 : fieldAt C0 27 2 = some 2 := by kernel_rfl
@[simp] theorem fa105_1 : fieldAt C0 27 1 = some 1 := by kernel_rfl
@[simp] theorem st103 : slT C0 25 = some (24, 4, 40) := by kernel_rfl
@[simp] theorem fa102_0 : fieldAt C0 24 0 = some 0 := by kernel_rfl
theorem fn126 : C0.fns.get 159 = some Tryz.f159 := by kernel_rfl
theorem ok126 : codeOk C0 Tryz.f159.ntmps (Tryz.f159.body.getD .skip) = true := by kernel_rfl
@[simp] theorem un24 : und C0 29 = some (.slice 27) := by kernel_rfl
theorem fn127 : C0.fns.get 160 = some Tryz.f160 := by kernel_rfl
theorem ok127 : codeOk C0 Tryz.f160.ntmps (Tryz.f160.body.getD .skip) = true := by kernel_rfl
@[simp] theorem un103 : und C0 25 = some (.slice 24) := by kernel_rfl
theorem fn128 : C0.fns.get 229 = some Tryz.f229 := by kernel_rfl
theorem ok128 : codeOk C0 Tryz.f229.ntmps (Tryz.f229.body.getD .skip) = true := by kernel_rfl
theorem fn129 : C0.fns.get 299 = some Tryz.f299 := by kernel_rfl
theorem ok129 : codeOk C0 Tryz.f299.ntmps (Tryz.f299.body.getD .skip) = true := by kernel_rfl
@[simp] theorem ag107 : aggOf C0 50 = some true := by kernel_rfl
@[simp] theorem sz107 : szOf C0 50 = some 5 := by kernel_rfl
theorem fn130 : C0.fns.get 300 = some Tryz.f300 := by kernel_rfl
theorem ok130 : codeOk C0 Tryz.f300.ntmps (Tryz.f300.body.getD .skip) = true := by kernel_rfl
@[simp] theorem fa107_0 : fieldAt C0 50 0 = some 0 := by kernel_rfl
theorem fn131 : C0.fns.get 301 = some Tryz.f301 := by kernel_rfl
theorem ok131 : codeOk C0 Tryz.f301.ntmps (Tryz.f301.body.getD .skip) = true := by kernel_rfl
theorem fn132 : C0.fns.get 267 = some Tryz.f267 := by kernel_rfl
theorem ok132 : codeOk C0 Tryz.f267.ntmps (Tryz.f267.body.getD .skip) = true := by kernel_rfl
@[simp] theorem fa136_1 : fieldAt C0 255 1 = some 1 := by kernel_rfl
@[simp] theorem sz92 : szOf C0 36 = some 1 := by kernel_rfl
theorem fn133 : C0.fns.get 269 = some Tryz.f269 := by kernel_rfl
theorem ok133 : codeOk C0 Tryz.f269.ntmps (Tryz.f269.body.getD .skip) = true := by kernel_rfl
theorem fn134 : C0.fns.get 270 = some Tryz.f270 := by kernel_rfl
theorem ok134 : codeOk C0 Tryz.f270.ntmps (Tryz.f270.body.getD .skip) = true := by kernel_rfl
theorem fn135 : C0.fns.get 260 = some Tryz.f260 := by kernel_rfl
theorem ok135 : codeOk C0 Tryz.f260.ntmps (Tryz.f260.body.getD .skip) = true := by kernel_rfl
theorem fn136 : C0.fns.get 261 = some Tryz.f261 := by kernel_rfl
theorem ok136 : codeOk C0 Tryz.f261.ntmps (Tryz.f261.body.getD .skip) = true := by kernel_rfl
theorem fn146 : C0.fns.get 296 = some Tryz.f296 := by kernel_rfl
theorem ok146 : codeOk C0 Tryz.f296.ntmps (Tryz.f296.body.getD .skip) = true := by kernel_rfl
theorem fn156 : C0.fns.get 230 = some Tryz.f230 := by kernel_rfl
theorem ok156 : codeOk C0 Tryz.f230.ntmps (Tryz.f230.body.getD .skip) = true := by kernel_rfl
theorem fn157 : C0.fns.get 231 = some Tryz.f231 := by kernel_rfl
theorem ok157 : codeOk C0 Tryz.f231.ntmps (Tryz.f231.body.getD .skip) = true := by kernel_rfl
theorem fn158 : C0.fns.get 232 = some Tryz.f232 := by kernel_rfl
theorem ok158 : codeOk C0 Tryz.f232.ntmps (Tryz.f232.body.getD .skip) = true := by kernel_rfl
@[simp] theorem ze2 : zeroOf C0 2 = some (.int .i64 0) := by kernel_rfl
@[simp] theorem conc2 : conc C0 2 = true := by kernel_rfl
@[simp] theorem ze9 : zeroOf C0 9 = some (.str []) := by kernel_rfl
@[simp] theorem conc9 : conc C0 9 = true := by kernel_rfl
@[simp] theorem ze4 : zeroOf C0 4 = some (.bool false) := by kernel_rfl
@[simp] theorem conc4 : conc C0 4 = true := by kernel_rfl
theorem fn159 : C0.fns.get 340 = some Tryz.f340 := by kernel_rfl
theorem ok159 : codeOk C0 Tryz.f340.ntmps (Tryz.f340.body.getD .skip) = true := by kernel_rfl
theorem fn160 : C0.fns.get 341 = some Tryz.f341 := by kernel_rfl
theorem ok160 : codeOk C0 Tryz.f341.ntmps (Tryz.f341.body.getD .skip) = true := by kernel_rfl
@[simp] theorem ag73 : aggOf C0 187 = some false := by kernel_rfl
@[simp] theorem sz73 : szOf C0 187 = some 1 := by kernel_rfl
theorem fn161 : C0.fns.get 342 = some Tryz.f342 := by kernel_rfl
theorem ok161 : codeOk C0 Tryz.f342.ntmps (Tryz.f342.body.getD .skip) = true := by kernel_rfl
@[simp] theorem fa102_1 : fieldAt C0 24 1 = some 1 := by kernel_rfl
@[simp] theorem ag2 : aggOf C0 2 = some false := by kernel_rfl
@[simp] theorem sz2 : szOf C0 2 = some 1 := by kernel_rfl
@[simp] theorem fa102_2 : fieldAt C0 24 2 = some 2 := by kernel_rfl
@[simp] theorem fa102_3 : fieldAt C0 24 3 = some 3 := by kernel_rfl
theorem fn162 : C0.fns.get 343 = some Tryz.f343 := by kernel_rfl
theorem ok162 : codeOk C0 Tryz.f343.ntmps (Tryz.f343.body.getD .skip) = true := by kernel_rfl
theorem fn163 : C0.fns.get 344 = some Tryz.f344 := by kernel_rfl
theorem ok163 : codeOk C0 Tryz.f344.ntmps (Tryz.f344.body.getD .skip) = true := by kernel_rfl
theorem fn164 : C0.fns.get 345 = some Tryz.f345 := by kernel_rfl
theorem ok164 : codeOk C0 Tryz.f345.ntmps (Tryz.f345.body.getD .skip) = true := by kernel_rfl
theorem fn165 : C0.fns.get 346 = some Tryz.f346 := by kernel_rfl
theorem ok165 : codeOk C0 Tryz.f346.ntmps (Tryz.f346.body.getD .skip) = true := by kernel_rfl
theorem fn166 : C0.fns.get 347 = some Tryz.f347 := by kernel_rfl
theorem ok166 : codeOk C0 Tryz.f347.ntmps (Tryz.f347.body.getD .skip) = true := by kernel_rfl
theorem fn167 : C0.fns.get 348 = some Tryz.f348 := by kernel_rfl
theorem ok167 : codeOk C0 Tryz.f348.ntmps (Tryz.f348.body.getD .skip) = true := by kernel_rfl
theorem fn168 : C0.fns.get 349 = some Tryz.f349 := by kernel_rfl
theorem ok168 : codeOk C0 Tryz.f349.ntmps (Tryz.f349.body.getD .skip) = true := by kernel_rfl
theorem fn169 : C0.fns.get 350 = some Tryz.f350 := by kernel_rfl
theorem ok169 : codeOk C0 Tryz.f350.ntmps (Tryz.f350.body.getD .skip) = true := by kernel_rfl
theorem fn170 : C0.fns.get 351 = some Tryz.f351 := by kernel_rfl
theorem ok170 : codeOk C0 Tryz.f351.ntmps (Tryz.f351.body.getD .skip) = true := by kernel_rfl
theorem fn171 : C0.fns.get 352 = some Tryz.f352 := by kernel_rfl
theorem ok171 : codeOk C0 Tryz.f352.ntmps (Tryz.f352.body.getD .skip) = true := by kernel_rfl
theorem fn172 : C0.fns.get 353 = some Tryz.f353 := by kernel_rfl
theorem ok172 : codeOk C0 Tryz.f353.ntmps (Tryz.f353.body.getD .skip) = true := by kernel_rfl
theorem fn173 : C0.fns.get 354 = some Tryz.f354 := by kernel_rfl
theorem ok173 : codeOk C0 Tryz.f354.ntmps (Tryz.f354.body.getD .skip) = true := by kernel_rfl
theorem fn174 : C0.fns.get 161 = some Tryz.f161 := by kernel_rfl
theorem ok174 : codeOk C0 Tryz.f161.ntmps (Tryz.f161.body.getD .skip) = true := by kernel_rfl
theorem fn175 : C0.fns.get 311 = some Tryz.f311 := by kernel_rfl
theorem ok175 : codeOk C0 Tryz.f311.ntmps (Tryz.f311.body.getD .skip) = true := by kernel_rfl
theorem fn176 : C0.fns.get 312 = some Tryz.f312 := by kernel_rfl
theorem ok176 : codeOk C0 Tryz.f312.ntmps (Tryz.f312.body.getD .skip) = true := by kernel_rfl
theorem fn189 : C0.fns.get 285 = some Tryz.f285 := by kernel_rfl
theorem ok189 : codeOk C0 Tryz.f285.ntmps (Tryz.f285.body.getD .skip) = true := by kernel_rfl
theorem fn190 : C0.fns.get 286 = some Tryz.f286 := by kernel_rfl
theorem ok190 : codeOk C0 Tryz.f286.ntmps (Tryz.f286.body.getD .skip) = true := by kernel_rfl
theorem fn191 : C0.fns.get 287 = some Tryz.f287 := by kernel_rfl
theorem ok191 : codeOk C0 Tryz.f287.ntmps (Tryz.f287.body.getD .skip) = true := by kernel_rfl
theorem fn192 : C0.fns.get 288 = some Tryz.f288 := by kernel_rfl
theorem ok192 : codeOk C0 Tryz.f288.ntmps (Tryz.f288.body.getD .skip) = true := by kernel_rfl
theorem fn193 : C0.fns.get 380 = some Tryz.f380 := by kernel_rfl
theorem ok193 : codeOk C0 Tryz.f380.ntmps (Tryz.f380.body.getD .skip) = true := by kernel_rfl
theorem fn194 : C0.fns.get 383 = some Tryz.f383 := by kernel_rfl
theorem ok194 : codeOk C0 Tryz.f383.ntmps (Tryz.f383.body.getD .skip) = true := by kernel_rfl
theorem fn195 : C0.fns.get 379 = some Tryz.f379 := by kernel_rfl
theorem ok195 : codeOk C0 Tryz.f379.ntmps (Tryz.f379.body.getD .skip) = true := by kernel_rfl
theorem fn196 : C0.fns.get 384 = some Tryz.f384 := by kernel_rfl
theorem ok196 : codeOk C0 Tryz.f384.ntmps (Tryz.f384.body.getD .skip) = true := by kernel_rfl
theorem fn197 : C0.fns.get 385 = some Tryz.f385 := by kernel_rfl
theorem ok197 : codeOk C0 Tryz.f385.ntmps (Tryz.f385.body.getD .skip) = true := by kernel_rfl

end Go.Proofs.YtpgmahedcpepkaaGreatDoor.mod

namespace Go.Proofs.YtpgmahedcpepkaaGreatDoor.mod
open Go Go.Am
set_option linter.unusedVariables false
set_option linter.unusedSimpArgs false

def idxI {α : Type} (P : α → Bool) (l : List α) : Int := match l.findIdx? P with | some i => (i : Int) | none => -1
theorem idxI_none {α : Type} {P : α → Bool} {l : List α} (h : ∀ x, x ∈ l → P x = false) : idxI P l = -1 := by
  unfold idxI
  rw [List.findIdx?_eq_none_iff.2 h]
theorem idxI_at {α : Type} {P : α → Bool} {l : List α} {i : Nat} {x : α} (h : l[i]? = some x) (hp : P x = true) (ha : ∀ x, x ∈ l.take i → P x = false) : idxI P l = i := by
  obtain ⟨hi, rfl⟩ := List.getElem?_eq_some_iff.1 h
  have : l.findIdx? P = some i := by
    rw [List.findIdx?_eq_some_iff_getElem]
    refine ⟨hi, hp, fun j hj => ?_⟩
    have := ha l[j] (List.mem_take_iff_getElem.2 ⟨j, by omega, rfl⟩)
    simp [this]
  unfold idxI
  rw [this]
theorem idxI_any {α : Type} {P : α → Bool} {l : List α} : decide (0 ≤ idxI P l) = l.any P := by
  unfold idxI
  cases h : l.findIdx? P with
  | none =>
    have := List.findIdx?_eq_none_iff.1 h
    have h2 : l.any P = false := by rw [List.any_eq_false]; intro x hx; simp [this x hx]
    rw [h2]; rfl
  | some i =>
    obtain ⟨hi, hp, _⟩ := List.findIdx?_eq_some_iff_getElem.1 h
    have h2 : l.any P = true := List.any_eq_true.2 ⟨l[i], List.getElem_mem hi, hp⟩
    rw [h2]; simp
theorem take_step {α : Type} {P : α → Bool} {l : List α} {i : Nat} {x : α} (h : l[i]? = some x) (hp : P x = false) (ha : ∀ x, x ∈ l.take i → P x = false) : ∀ x, x ∈ l.take (i + 1) → P x = false := by
  obtain ⟨hi, rfl⟩ := List.getElem?_eq_some_iff.1 h
  intro y hy
  rw [List.take_succ_eq_append_getElem hi] at hy
  rcases List.mem_append.1 hy with hy | hy
  · exact ha y hy
  · simp at hy; subst hy; exact hp
/-- The head of a round. -/
def idxH {α : Type} (S : AS) (u g : AV) (l : List α) (P : α → Bool) (k : Nat) (F' : Fr) (S' : AS) : Prop :=
  ∃ i : Nat, Sub S S' ∧ sl F' 0 = u ∧ sl F' 1 = g ∧ sl F' 7 = .int .i64 l.length ∧ sl F' 8 = .int .i64 i ∧ i ≤ l.length ∧ k = l.length - i ∧ ∀ x, x ∈ l.take i → P x = false
theorem idxH_mk {α : Type} {S : AS} {u g : AV} {l : List α} {P : α → Bool} {k : Nat} {F' : Fr} {S' : AS} (i : Nat) (h1 : Sub S S') (h2 : sl F' 0 = u) (h3 : sl F' 1 = g) (h4 : sl F' 7 = .int .i64 l.length) (h5 : sl F' 8 = .int .i64 i) (h6 : i ≤ l.length) (h7 : k = l.length - i) (h8 : ∀ x, x ∈ l.take i → P x = false) : idxH S u g l P k F' S' :=
  ⟨i, h1, h2, h3, h4, h5, h6, h7, h8⟩

theorem idx128 {α : Type} {enc : α → List AV} {S : AS} {u : AV} {l : List α} {f : FuncId} {caps : List AV} {P : α → Bool} (hz : ∀ x, (enc x).length = 7) (h : Sl S u 7 (l.flatMap enc)) (hb : l.length ≤ 9223372036854775807) (hf : (f == 412) = false)
    (hc : ∀ T, Sub S T → ∀ x, x ∈ l → CallW C0 f (.agg (enc x) :: caps) T fun v T' => v = .bool (P x) ∧ Sub T T') :
    CallW C0 229 [u, .func (.func f) [] caps] S fun v T => v = .int .i64 (idxI P l) ∧ Sub S T := by
  refine enterW (pu0 _) (pr0 _ rfl) fn128 rfl ok128 (by simp) fun F hn hs => ?_
  have s0 := hs 0
  have s1 := hs 1
  clear hs
  simp only [List.getElem?_cons_zero, List.getElem?_cons_succ, Option.getD_some] at s0 s1
  have u1 := h.sl
  have u2 := h.len_flat hz (by omega)
  simp [s0, s1, u1, u2]
  refine loopP_of (idxH S u (.func (.func f) [] caps) l P) l.length (idxH_mk 0 (Sub.refl S) (by simp [s0]) (by simp [s1]) (by simp) (by simp) (Nat.zero_le _) rfl (by simp)) ?_
  rintro k F' S' hn' ⟨i, hsub, t0, t1, t7, t8, hi, hk, ha⟩
  clear hn' s0 s1 hn
  by_cases hi' : i < l.length
  · have hx : l[i]? = some l[i] := List.getElem?_eq_getElem hi'
    have hl := loadT_el (cx := C0) (e := 27) (h.toSub hsub) hz (by omega) hx ag105 sz105
    obtain ⟨v, T', ⟨rfl, hs⟩, e⟩ := (hc S' hsub l[i] (List.getElem_mem hi')).ex
    cases hp : P l[i] with
    | true => simp [t0, t1, t7, t8, u1, u2, hi', hl, e, hp, ex0 f hf, hsub.trans hs, idxI_at hx hp ha]
    | false =>
      simp [t0, t1, t7, t8, u1, u2, hi', hl, e, hp, ex0 f hf]
      exact ⟨l.length - (i + 1), by omega, idxH_mk (i + 1) (hsub.trans hs) (by simp [t0]) (by simp [t1]) (by simp [t7]) (by simp [wrap_succ (show i < 9223372036854775807 by omega)]) hi' rfl (take_step hx hp ha)⟩
  · have hall : ∀ x, x ∈ l → P x = false := fun x hx => ha x (by rw [List.take_of_length_le (by omega)]; exact hx)
    simp [t7, t8, hi', idxI_none hall, hsub]

theorem con76 {α : Type} {enc : α → List AV} {S : AS} {u : AV} {l : List α} {f : FuncId} {caps : List AV} {P : α → Bool} (hz : ∀ x, (enc x).length = 7) (h : Sl S u 7 (l.flatMap enc)) (hb : l.length ≤ 9223372036854775807) (hf : (f == 412) = false)
    (hc : ∀ T, Sub S T → ∀ x, x ∈ l → CallW C0 f (.agg (enc x) :: caps) T fun v T' => v = .bool (P x) ∧ Sub T T') :
    CallW C0 156 [u, .func (.func f) [] caps] S fun v T => v = .bool (l.any P) ∧ Sub S T := by
  obtain ⟨v, T, ⟨rfl, hs⟩, e⟩ := (idx128 hz h hb hf hc).ex
  refine enterW (pu0 _) (pr0 _ rfl) fn76 rfl ok76 (by simp) fun F hn hs => ?_
  have s0 := hs 0
  have s1 := hs 1
  clear hs
  simp only [List.getElem?_cons_zero, List.getElem?_cons_succ, Option.getD_some] at s0 s1
  simp [s0, s1, e, ex0, hs, idxI_any]

theorem idx129 {α : Type} {enc : α → List AV} {S : AS} {u : AV} {l : List α} {f : FuncId} {caps : List AV} {P : α → Bool} (hz : ∀ x, (enc x).length = 5) (h : Sl S u 5 (l.flatMap enc)) (hb : l.length ≤ 9223372036854775807) (hf : (f == 412) = false)
    (hc : ∀ T, Sub S T → ∀ x, x ∈ l → CallW C0 f (.agg (enc x) :: caps) T fun v T' => v = .bool (P x) ∧ Sub T T') :
    CallW C0 299 [u, .func (.func f) [] caps] S fun v T => v = .int .i64 (idxI P l) ∧ Sub S T := by
  refine enterW (pu0 _) (pr0 _ rfl) fn129 rfl ok129 (by simp) fun F hn hs => ?_
  have s0 := hs 0
  have s1 := hs 1
  clear hs
  simp only [List.getElem?_cons_zero, List.getElem?_cons_succ, Option.getD_some] at s0 s1
  have u1 := h.sl
  have u2 := h.len_flat hz (by omega)
  simp [s0, s1, u1, u2]
  refine loopP_of (idxH S u (.func (.func f) [] caps) l P) l.length (idxH_mk 0 (Sub.refl S) (by simp [s0]) (by simp [s1]) (by simp) (by simp) (Nat.zero_le _) rfl (by simp)) ?_
  rintro k F' S' hn' ⟨i, hsub, t0, t1, t7, t8, hi, hk, ha⟩
  clear hn' s0 s1 hn
  by_cases hi' : i < l.length
  · have hx : l[i]? = some l[i] := List.getElem?_eq_getElem hi'
    have hl := loadT_el (cx := C0) (e := 50) (h.toSub hsub) hz (by omega) hx ag107 sz107
    obtain ⟨v, T', ⟨rfl, hs⟩, e⟩ := (hc S' hsub l[i] (List.getElem_mem hi')).ex
    cases hp : P l[i] with
    | true => simp [t0, t1, t7, t8, u1, u2, hi', hl, e, hp, ex0 f hf, hsub.trans hs, idxI_at hx hp ha]
    | false =>
      simp [t0, t1, t7, t8, u1, u2, hi', hl, e, hp, ex0 f hf]
      exact ⟨l.length - (i + 1), by omega, idxH_mk (i + 1) (hsub.trans hs) (by simp [t0]) (by simp [t1]) (by simp [t7]) (by simp [wrap_succ (show i < 9223372036854775807 by omega)]) hi' rfl (take_step hx hp ha)⟩
  · have hall : ∀ x, x ∈ l → P x = false := fun x hx => ha x (by rw [List.take_of_length_le (by omega)]; exact hx)
    simp [t7, t8, hi', idxI_none hall, hsub]

theorem idx136 {α : Type} {enc : α → List AV} {S : AS} {u : AV} {l : List α} {f : FuncId} {caps : List AV} {P : α → Bool} (hz : ∀ x, (enc x).length = 2) (h : Sl S u 2 (l.flatMap enc)) (hb : l.length ≤ 9223372036854775807) (hf : (f == 412) = false)
    (hc : ∀ T, Sub S T → ∀ x, x ∈ l → CallW C0 f (.agg (enc x) :: caps) T fun v T' => v = .bool (P x) ∧ Sub T T') :
    CallW C0 261 [u, .func (.func f) [] caps] S fun v T => v = .int .i64 (idxI P l) ∧ Sub S T := by
  refine enterW (pu0 _) (pr0 _ rfl) fn136 rfl ok136 (by simp) fun F hn hs => ?_
  have s0 := hs 0
  have s1 := hs 1
  clear hs
  simp only [List.getElem?_cons_zero, List.getElem?_cons_succ, Option.getD_some] at s0 s1
  have u1 := h.sl
  have u2 := h.len_flat hz (by omega)
  simp [s0, s1, u1, u2]
  refine loopP_of (idxH S u (.func (.func f) [] caps) l P) l.length (idxH_mk 0 (Sub.refl S) (by simp [s0]) (by simp [s1]) (by simp) (by simp) (Nat.zero_le _) rfl (by simp)) ?_
  rintro k F' S' hn' ⟨i, hsub, t0, t1, t7, t8, hi, hk, ha⟩
  clear hn' s0 s1 hn
  by_cases hi' : i < l.length
  · have hx : l[i]? = some l[i] := List.getElem?_eq_getElem hi'
    have hl := loadT_el (cx := C0) (e := 273) (h.toSub hsub) hz (by omega) hx ag157 sz157
    obtain ⟨v, T', ⟨rfl, hs⟩, e⟩ := (hc S' hsub l[i] (List.getElem_mem hi')).ex
    cases hp : P l[i] with
    | true => simp [t0, t1, t7, t8, u1, u2, hi', hl, e, hp, ex0 f hf, hsub.trans hs, idxI_at hx hp ha]
    | false =>
      simp [t0, t1, t7, t8, u1, u2, hi', hl, e, hp, ex0 f hf]
      exact ⟨l.length - (i + 1), by omega, idxH_mk (i + 1) (hsub.trans hs) (by simp [t0]) (by simp [t1]) (by simp [t7]) (by simp [wrap_succ (show i < 9223372036854775807 by omega)]) hi' rfl (take_step hx hp ha)⟩
  · have hall : ∀ x, x ∈ l → P x = false := fun x hx => ha x (by rw [List.take_of_length_le (by omega)]; exact hx)
    simp [t7, t8, hi', idxI_none hall, hsub]

theorem idx174 {α : Type} {enc : α → List AV} {S : AS} {u : AV} {l : List α} {f : FuncId} {caps : List AV} {P : α → Bool} (hz : ∀ x, (enc x).length = 2) (h : Sl S u 2 (l.flatMap enc)) (hb : l.length ≤ 9223372036854775807) (hf : (f == 412) = false)
    (hc : ∀ T, Sub S T → ∀ x, x ∈ l → CallW C0 f (.agg (enc x) :: caps) T fun v T' => v = .bool (P x) ∧ Sub T T') :
    CallW C0 161 [u, .func (.func f) [] caps] S fun v T => v = .int .i64 (idxI P l) ∧ Sub S T := by
  refine enterW (pu0 _) (pr0 _ rfl) fn174 rfl ok174 (by simp) fun F hn hs => ?_
  have s0 := hs 0
  have s1 := hs 1
  clear hs
  simp only [List.getElem?_cons_zero, List.getElem?_cons_succ, Option.getD_some] at s0 s1
  have u1 := h.sl
  have u2 := h.len_flat hz (by omega)
  simp [s0, s1, u1, u2]
  refine loopP_of (idxH S u (.func (.func f) [] caps) l P) l.length (idxH_mk 0 (Sub.refl S) (by simp [s0]) (by simp [s1]) (by simp) (by simp) (Nat.zero_le _) rfl (by simp)) ?_
  rintro k F' S' hn' ⟨i, hsub, t0, t1, t7, t8, hi, hk, ha⟩
  clear hn' s0 s1 hn
  by_cases hi' : i < l.length
  · have hx : l[i]? = some l[i] := List.getElem?_eq_getElem hi'
    have hl := loadT_el (cx := C0) (e := 164) (h.toSub hsub) hz (by omega) hx ag132 sz132
    obtain ⟨v, T', ⟨rfl, hs⟩, e⟩ := (hc S' hsub l[i] (List.getElem_mem hi')).ex
    cases hp : P l[i] with
    | true => simp [t0, t1, t7, t8, u1, u2, hi', hl, e, hp, ex0 f hf, hsub.trans hs, idxI_at hx hp ha]
    | false =>
      simp [t0, t1, t7, t8, u1, u2, hi', hl, e, hp, ex0 f hf]
      exact ⟨l.length - (i + 1), by omega, idxH_mk (i + 1) (hsub.trans hs) (by simp [t0]) (by simp [t1]) (by simp [t7]) (by simp [wrap_succ (show i < 9223372036854775807 by omega)]) hi' rfl (take_step hx hp ha)⟩
  · have hall : ∀ x, x ∈ l → P x = false := fun x hx => ha x (by rw [List.take_of_length_le (by omega)]; exact hx)
    simp [t7, t8, hi', idxI_none hall, hsub]

theorem idx176 {α : Type} {enc : α → List AV} {S : AS} {u : AV} {l : List α} {f : FuncId} {caps : List AV} {P : α → Bool} (hz : ∀ x, (enc x).length = 4) (h : Sl S u 4 (l.flatMap enc)) (hb : l.length ≤ 9223372036854775807) (hf : (f == 412) = false)
    (hc : ∀ T, Sub S T → ∀ x, x ∈ l → CallW C0 f (.agg (enc x) :: caps) T fun v T' => v = .bool (P x) ∧ Sub T T') :
    CallW C0 312 [u, .func (.func f) [] caps] S fun v T => v = .int .i64 (idxI P l) ∧ Sub S T := by
  refine enterW (pu0 _) (pr0 _ rfl) fn176 rfl ok176 (by simp) fun F hn hs => ?_
  have s0 := hs 0
  have s1 := hs 1
  clear hs
  simp only [List.getElem?_cons_zero, List.getElem?_cons_succ, Option.getD_some] at s0 s1
  have u1 := h.sl
  have u2 := h.len_flat hz (by omega)
  simp [s0, s1, u1, u2]
  refine loopP_of (idxH S u (.func (.func f) [] caps) l P) l.length (idxH_mk 0 (Sub.refl S) (by simp [s0]) (by simp [s1]) (by simp) (by simp) (Nat.zero_le _) rfl (by simp)) ?_
  rintro k F' S' hn' ⟨i, hsub, t0, t1, t7, t8, hi, hk, ha⟩
  clear hn' s0 s1 hn
  by_cases hi' : i < l.length
  · have hx : l[i]? = some l[i] := List.getElem?_eq_getElem hi'
    have hl := loadT_el (cx := C0) (e := 260) (h.toSub hsub) hz (by omega) hx ag142 sz142
    obtain ⟨v, T', ⟨rfl, hs⟩, e⟩ := (hc S' hsub l[i] (List.getElem_mem hi')).ex
    cases hp : P l[i] with
    | true => simp [t0, t1, t7, t8, u1, u2, hi', hl, e, hp, ex0 f hf, hsub.trans hs, idxI_at hx hp ha]
    | false =>
      simp [t0, t1, t7, t8, u1, u2, hi', hl, e, hp, ex0 f hf]
      exact ⟨l.length - (i + 1), by omega, idxH_mk (i + 1) (hsub.trans hs) (by simp [t0]) (by simp [t1]) (by simp [t7]) (by simp [wrap_succ (show i < 9223372036854775807 by omega)]) hi' rfl (take_step hx hp ha)⟩
  · have hall : ∀ x, x ∈ l → P x = false := fun x hx => ha x (by rw [List.take_of_length_le (by omega)]; exact hx)
    simp [t7, t8, hi', idxI_none hall, hsub]

theorem con133 {α : Type} {enc : α → List AV} {S : AS} {u : AV} {l : List α} {f : FuncId} {caps : List AV} {P : α → Bool} (hz : ∀ x, (enc x).length = 4) (h : Sl S u 4 (l.flatMap enc)) (hb : l.length ≤ 9223372036854775807) (hf : (f == 412) = false)
    (hc : ∀ T, Sub S T → ∀ x, x ∈ l → CallW C0 f (.agg (enc x) :: caps) T fun v T' => v = .bool (P x) ∧ Sub T T') :
    CallW C0 269 [u, .func (.func f) [] caps] S fun v T => v = .bool (l.any P) ∧ Sub S T := by
  obtain ⟨v, T, ⟨rfl, hs⟩, e⟩ := (idx176 hz h hb hf hc).ex
  refine enterW (pu0 _) (pr0 _ rfl) fn133 rfl ok133 (by simp) fun F hn hs => ?_
  have s0 := hs 0
  have s1 := hs 1
  clear hs
  simp only [List.getElem?_cons_zero, List.getElem?_cons_succ, Option.getD_some] at s0 s1
  simp [s0, s1, e, ex0, hs, idxI_any]

theorem idx189 {α : Type} {enc : α → List AV} {S : AS} {u : AV} {l : List α} {f : FuncId} {caps : List AV} {P : α → Bool} (hz : ∀ x, (enc x).length = 4) (h : Sl S u 4 (l.flatMap enc)) (hb : l.length ≤ 9223372036854775807) (hf : (f == 412) = false)
    (hc : ∀ T, Sub S T → ∀ x, x ∈ l → CallW C0 f (.agg (enc x) :: caps) T fun v T' => v = .bool (P x) ∧ Sub T T') :
    CallW C0 285 [u, .func (.func f) [] caps] S fun v T => v = .int .i64 (idxI P l) ∧ Sub S T := by
  refine enterW (pu0 _) (pr0 _ rfl) fn189 rfl ok189 (by simp) fun F hn hs => ?_
  have s0 := hs 0
  have s1 := hs 1
  clear hs
  simp only [List.getElem?_cons_zero, List.getElem?_cons_succ, Option.getD_some] at s0 s1
  have u1 := h.sl
  have u2 := h.len_flat hz (by omega)
  simp [s0, s1, u1, u2]
  refine loopP_of (idxH S u (.func (.func f) [] caps) l P) l.length (idxH_mk 0 (Sub.refl S) (by simp [s0]) (by simp [s1]) (by simp) (by simp) (Nat.zero_le _) rfl (by simp)) ?_
  rintro k F' S' hn' ⟨i, hsub, t0, t1, t7, t8, hi, hk, ha⟩
  clear hn' s0 s1 hn
  by_cases hi' : i < l.length
  · have hx : l[i]? = some l[i] := List.getElem?_eq_getElem hi'
    have hl := loadT_el (cx := C0) (e := 24) (h.toSub hsub) hz (by omega) hx ag102 sz102
    obtain ⟨v, T', ⟨rfl, hs⟩, e⟩ := (hc S' hsub l[i] (List.getElem_mem hi')).ex
    cases hp : P l[i] with
    | true => simp [t0, t1, t7, t8, u1, u2, hi', hl, e, hp, ex0 f hf, hsub.trans hs, idxI_at hx hp ha]
    | false =>
      simp [t0, t1, t7, t8, u1, u2, hi', hl, e, hp, ex0 f hf]
      exact ⟨l.length - (i + 1), by omega, idxH_mk (i + 1) (hsub.trans hs) (by simp [t0]) (by simp [t1]) (by simp [t7]) (by simp [wrap_succ (show i < 9223372036854775807 by omega)]) hi' rfl (take_step hx hp ha)⟩
  · have hall : ∀ x, x ∈ l → P x = false := fun x hx => ha x (by rw [List.take_of_length_le (by omega)]; exact hx)
    simp [t7, t8, hi', idxI_none hall, hsub]

theorem con156 {α : Type} {enc : α → List AV} {S : AS} {u : AV} {l : List α} {f : FuncId} {caps : List AV} {P : α → Bool} (hz : ∀ x, (enc x).length = 4) (h : Sl S u 4 (l.flatMap enc)) (hb : l.length ≤ 9223372036854775807) (hf : (f == 412) = false)
    (hc : ∀ T, Sub S T → ∀ x, x ∈ l → CallW C0 f (.agg (enc x) :: caps) T fun v T' => v = .bool (P x) ∧ Sub T T') :
    CallW C0 230 [u, .func (.func f) [] caps] S fun v T => v = .bool (l.any P) ∧ Sub S T := by
  obtain ⟨v, T, ⟨rfl, hs⟩, e⟩ := (idx189 hz h hb hf hc).ex
  refine enterW (pu0 _) (pr0 _ rfl) fn156 rfl ok156 (by simp) fun F hn hs => ?_
  have s0 := hs 0
  have s1 := hs 1
  clear hs
  simp only [List.getElem?_cons_zero, List.getElem?_cons_succ, Option.getD_some] at s0 s1
  simp [s0, s1, e, ex0, hs, idxI_any]

theorem clone73 {S : AS} {v : AV} {cs : List AV} (h : Sl S v 2 cs) (hf : sLen v ≤ 1048576) : CallW C0 65 [v] S fun v' T => Sub S T ∧ Sl T v' 2 cs ∧ isNil v' = isNil v ∧ sLen v' = sLen v ∧ (bnd v' = 0 ∨ S.next < bnd v') := by
  refine enterW (pu0 _) (pr0 _ rfl) fn73 rfl ok73 (by simp) fun F hn hs => ?_
  have s0 := hs 0
  clear hs
  simp only [List.getElem?_cons_zero, Option.getD_some] at s0
  have h2 := h.sl
  cases hnil : isNil v with
  | true =>
    obtain ⟨rfl, rfl⟩ := h.isNil hnil
    simp [s0, Sub.refl, Sl.nil, bnd]
  | false =>
    have hx : Sl (⟨S.h.set S.next (.row [] 0 0 false 164), S.next + 1⟩ : AS) v 2 cs := ⟨h2, by rw [rdS_set h.old]; exact h.rd, h.len, Nat.le_succ_of_le h.old⟩
    have hfit : fits (sLen v) 16 = true := by simp [fits, nble]; omega
    obtain ⟨v', T, e1, r1, r2, r3, r4, r5, r6⟩ := append_empty (ts := []) st92 un92 rfl (get_set_same _ _ _) (Nat.lt_succ_self _) hx hfit
    have hsub : Sub S T := ((Sub.refl S).set _ _ (Nat.le_refl _) _ (Nat.le_succ _)).trans r2
    simp [s0, h2, hnil, e1, r1.np, hsub, r1, r3, r4]
    rcases r6 with r6 | r6
    · rw [r6]; exact .inr (Nat.lt_succ_self _)
    · exact .inr (Nat.lt_of_succ_lt r6)

theorem clone75 {S : AS} {v : AV} {cs : List AV} (h : Sl S v 5 cs) (hf : sLen v ≤ 2513169434843) : CallW C0 185 [v] S fun v' T => Sub S T ∧ Sl T v' 5 cs ∧ isNil v' = isNil v ∧ sLen v' = sLen v ∧ (bnd v' = 0 ∨ S.next < bnd v') := by
  refine enterW (pu0 _) (pr0 _ rfl) fn75 rfl ok75 (by simp) fun F hn hs => ?_
  have s0 := hs 0
  clear hs
  simp only [List.getElem?_cons_zero, Option.getD_some] at s0
  have h2 := h.sl
  cases hnil : isNil v with
  | true =>
    obtain ⟨rfl, rfl⟩ := h.isNil hnil
    simp [s0, Sub.refl, Sl.nil, bnd]
  | false =>
    have hx : Sl (⟨S.h.set S.next (.row [] 0 0 false 50), S.next + 1⟩ : AS) v 5 cs := ⟨h2, by rw [rdS_set h.old]; exact h.rd, h.len, Nat.le_succ_of_le h.old⟩
    have hfit : fits (sLen v) 56 = true := by simp [fits, nble]; omega
    obtain ⟨v', T, e1, r1, r2, r3, r4, r5, r6⟩ := append_empty (ts := []) st38 un38 rfl (get_set_same _ _ _) (Nat.lt_succ_self _) hx hfit
    have hsub : Sub S T := ((Sub.refl S).set _ _ (Nat.le_refl _) _ (Nat.le_succ _)).trans r2
    simp [s0, h2, hnil, e1, r1.np, hsub, r1, r3, r4]
    rcases r6 with r6 | r6
    · rw [r6]; exact .inr (Nat.lt_succ_self _)
    · exact .inr (Nat.lt_of_succ_lt r6)

theorem clone126 {S : AS} {v : AV} {cs : List AV} (h : Sl S v 7 cs) (hf : sLen v ≤ 1048576) : CallW C0 159 [v] S fun v' T => Sub S T ∧ Sl T v' 7 cs ∧ isNil v' = isNil v ∧ sLen v' = sLen v ∧ (bnd v' = 0 ∨ S.next < bnd v') := by
  refine enterW (pu0 _) (pr0 _ rfl) fn126 rfl ok126 (by simp) fun F hn hs => ?_
  have s0 := hs 0
  clear hs
  simp only [List.getElem?_cons_zero, Option.getD_some] at s0
  have h2 := h.sl
  cases hnil : isNil v with
  | true =>
    obtain ⟨rfl, rfl⟩ := h.isNil hnil
    simp [s0, Sub.refl, Sl.nil, bnd]
  | false =>
    have hx : Sl (⟨S.h.set S.next (.row [] 0 0 false 27), S.next + 1⟩ : AS) v 7 cs := ⟨h2, by rw [rdS_set h.old]; exact h.rd, h.len, Nat.le_succ_of_le h.old⟩
    have hfit : fits (sLen v) 88 = true := by simp [fits, nble]; omega
    obtain ⟨v', T, e1, r1, r2, r3, r4, r5, r6⟩ := append_empty (ts := []) st24 un24 rfl (get_set_same _ _ _) (Nat.lt_succ_self _) hx hfit
    have hsub : Sub S T := ((Sub.refl S).set _ _ (Nat.le_refl _) _ (Nat.le_succ _)).trans r2
    simp [s0, h2, hnil, e1, r1.np, hsub, r1, r3, r4]
    rcases r6 with r6 | r6
    · rw [r6]; exact .inr (Nat.lt_succ_self _)
    · exact .inr (Nat.lt_of_succ_lt r6)

theorem clone127 {S : AS} {v : AV} {cs : List AV} (h : Sl S v 4 cs) (hf : sLen v ≤ 1048576) : CallW C0 160 [v] S fun v' T => Sub S T ∧ Sl T v' 4 cs ∧ isNil v' = isNil v ∧ sLen v' = sLen v ∧ (bnd v' = 0 ∨ S.next < bnd v') := by
  refine enterW (pu0 _) (pr0 _ rfl) fn127 rfl ok127 (by simp) fun F hn hs => ?_
  have s0 := hs 0
  clear hs
  simp only [List.getElem?_cons_zero, Option.getD_some] at s0
  have h2 := h.sl
  cases hnil : isNil v with
  | true =>
    obtain ⟨rfl, rfl⟩ := h.isNil hnil
    simp [s0, Sub.refl, Sl.nil, bnd]
  | false =>
    have hx : Sl (⟨S.h.set S.next (.row [] 0 0 false 24), S.next + 1⟩ : AS) v 4 cs := ⟨h2, by rw [rdS_set h.old]; exact h.rd, h.len, Nat.le_succ_of_le h.old⟩
    have hfit : fits (sLen v) 40 = true := by simp [fits, nble]; omega
    obtain ⟨v', T, e1, r1, r2, r3, r4, r5, r6⟩ := append_empty (ts := []) st103 un103 rfl (get_set_same _ _ _) (Nat.lt_succ_self _) hx hfit
    have hsub : Sub S T := ((Sub.refl S).set _ _ (Nat.le_refl _) _ (Nat.le_succ _)).trans r2
    simp [s0, h2, hnil, e1, r1.np, hsub, r1, r3, r4]
    rcases r6 with r6 | r6
    · rw [r6]; exact .inr (Nat.lt_succ_self _)
    · exact .inr (Nat.lt_of_succ_lt r6)
end Go.Proofs.YtpgmahedcpepkaaGreatDoor.mod

namespace Go.Proofs.YtpgmahedcpepkaaGreatDoor.mod
open Go Go.Am
set_option linter.unusedVariables false
set_option linter.unusedSimpArgs false

theorem fn214 : C0.fns.get 375 = some Tryz.f375 := by kernel_rfl
theorem ok214 : codeOk C0 Tryz.f375.ntmps (Tryz.f375.body.getD .skip) = true := by kernel_rfl
theorem fn215 : C0.fns.get 405 = some Tryz.f405 := by kernel_rfl
theorem ok215 : codeOk C0 Tryz.f405.ntmps (Tryz.f405.body.getD .skip) = true := by kernel_rfl
theorem fn216 : C0.fns.get 404 = some Tryz.f404 := by kernel_rfl
theorem ok216 : codeOk C0 Tryz.f404.ntmps (Tryz.f404.body.getD .skip) = true := by kernel_rfl

structure Val where
  kind : Int
  num : Int
  str : List Nat
  bool : Bool
def encV (v : Val) : List AV := [.int .i64 v.kind, .int .i64 v.num, .str v.str, .bool v.bool]
theorem encV_len (v : Val) : (encV v).length = 4 := rfl
@[simp] theorem bld102a (n : Int) : buildA C0 24 [(0, .int .i64 1), (1, .int .i64 n)] = some (.agg [.int .i64 1, .int .i64 n, .str [], .bool false]) := by kernel_rfl
@[simp] theorem bld102b (s : List Nat) : buildA C0 24 [(0, .int .i64 2), (2, .str s)] = some (.agg [.int .i64 2, .int .i64 0, .str s, .bool false]) := by kernel_rfl
@[simp] theorem bld102c (b : Bool) : buildA C0 24 [(0, .int .i64 3), (3, .bool b)] = some (.agg [.int .i64 3, .int .i64 0, .str [], .bool b]) := by kernel_rfl
@[simp] theorem bld102d : buildA C0 24 [] = some (.agg [.int .i64 0, .int .i64 0, .str [], .bool false]) := by kernel_rfl

theorem sub1 {S : AS} {o : AObj} : Sub S ⟨S.h.set S.next o, S.next + 1⟩ := (Sub.refl S).set _ _ (Nat.le_refl _) _ (Nat.le_succ _)
theorem sub1s {S : AS} {o o' : AObj} : Sub S ⟨(S.h.set S.next o).set S.next o', S.next + 1⟩ := sub1.set _ _ (Nat.le_refl _) _ (Nat.le_refl _)
theorem sub2 {S : AS} {o o' : AObj} : Sub S ⟨(S.h.set S.next o).set (S.next + 1) o', S.next + 2⟩ := sub1.set _ _ (Nat.le_succ _) _ (Nat.le_succ _)

theorem number (n : Int) (S : AS) : CallW C0 6 [.int .i64 n] S fun v T => v = .agg [.int .i64 1, .int .i64 n, .str [], .bool false] ∧ Sub S T := by
  refine enterW (pu0 _) (pr0 _ rfl) fn74 rfl ok74 (by simp) fun F hn hs => ?_
  have s0 := hs 0
  clear hs
  simp only [List.getElem?_cons_zero, Option.getD_some] at s0
  simp [s0, sub1s]
theorem word (s : List Nat) (S : AS) : CallW C0 287 [.str s] S fun v T => v = .agg [.int .i64 2, .int .i64 0, .str s, .bool false] ∧ Sub S T := by
  refine enterW (pu0 _) (pr0 _ rfl) fn191 rfl ok191 (by simp) fun F hn hs => ?_
  have s0 := hs 0
  clear hs
  simp only [List.getElem?_cons_zero, Option.getD_some] at s0
  simp [s0, sub1s]
theorem truth (b : Bool) (S : AS) : CallW C0 288 [.bool b] S fun v T => v = .agg [.int .i64 3, .int .i64 0, .str [], .bool b] ∧ Sub S T := by
  refine enterW (pu0 _) (pr0 _ rfl) fn192 rfl ok192 (by simp) fun F hn hs => ?_
  have s0 := hs 0
  clear hs
  simp only [List.getElem?_cons_zero, Option.getD_some] at s0
  simp [s0, sub1s]

def hasV (v : Val) : AV := if v.kind = 1 then .iface 2 (.int .i64 v.num) else if v.kind = 2 then .iface 9 (.str v.str) else if v.kind = 3 then .iface 4 (.bool v.bool) else .niface
theorem has (v : Val) (S : AS) : CallW C0 286 [.agg (encV v)] S fun r T => r = hasV v ∧ Sub S T := by
  refine enterW (pu0 _) (pr0 _ rfl) fn190 rfl ok190 (by simp) fun F hn hs => ?_
  have s0 := hs 0
  clear hs
  simp only [List.getElem?_cons_zero, Option.getD_some, encV] at s0
  unfold hasV
  by_cases h1 : v.kind = 1
  · simp [s0, h1, sub1]
  by_cases h2 : v.kind = 2
  · simp [s0, h2, sub1]
  by_cases h3 : v.kind = 3
  · simp [s0, h3, sub1]
  simp [s0, h1, h2, h3, sub1]
def rankI (b : Bool) : Int := cond b 1 0
theorem rank (b : Bool) (S : AS) : CallW C0 384 [.bool b] S fun v T => v = .int .i64 (rankI b) ∧ T = S := by
  refine enterW (pu0 _) (pr0 _ rfl) fn196 rfl ok196 (by simp) fun F hn hs => ?_
  have s0 := hs 0
  clear hs
  simp only [List.getElem?_cons_zero, Option.getD_some] at s0
  cases b <;> simp [s0, rankI]

def cmpI (a b : Int) : Int := if a < b then -1 else if b < a then 1 else 0
noncomputable def cmpS (a b : List Nat) : Int := cond (ltS a b) (-1) (cond (eqS a b) 0 1)
theorem nan214 (a : Int) {S : AS} {Q : AV → AS → Prop} : CallW C0 375 [.int .i64 a] S Q = Q (.bool false) S := by
  refine CallW.eq (enterW (pu0 _) (pr0 _ rfl) fn214 rfl ok214 (by simp) fun F hn hs => ?_)
  have s0 := hs 0
  clear hs
  simp only [List.getElem?_cons_zero, Option.getD_some] at s0
  simp [s0]
theorem nan215 (a : Int) {S : AS} {Q : AV → AS → Prop} : CallW C0 405 [.int .i64 a] S Q = Q (.bool false) S := by
  refine CallW.eq (enterW (pu0 _) (pr0 _ rfl) fn215 rfl ok215 (by simp) fun F hn hs => ?_)
  have s0 := hs 0
  clear hs
  simp only [List.getElem?_cons_zero, Option.getD_some] at s0
  simp [s0]
theorem cmp193 (a b : Int) {S : AS} {Q : AV → AS → Prop} : CallW C0 380 [.int .i64 a, .int .i64 b] S Q = Q (.int .i64 (cmpI a b)) S := by
  refine CallW.eq (enterW (pu0 _) (pr0 _ rfl) fn193 rfl ok193 (by simp) fun F hn hs => ?_)
  have s0 := hs 0
  have s1 := hs 1
  clear hs
  simp only [List.getElem?_cons_zero, List.getElem?_cons_succ, Option.getD_some] at s0 s1
  unfold cmpI
  by_cases h1 : a < b
  · simp [s0, s1, h1, ex0, nan214]
  by_cases h2 : b < a
  · simp [s0, s1, h1, h2, ex0, nan214]
  simp [s0, s1, h1, h2, ex0, nan214]
theorem cmp194 (a b : Int) {S : AS} {Q : AV → AS → Prop} : CallW C0 383 [.int .i64 a, .int .i64 b] S Q = Q (.int .i64 (cmpI a b)) S := by
  refine CallW.eq (enterW (pu0 _) (pr0 _ rfl) fn194 rfl ok194 (by simp) fun F hn hs => ?_)
  have s0 := hs 0
  have s1 := hs 1
  clear hs
  simp only [List.getElem?_cons_zero, List.getElem?_cons_succ, Option.getD_some] at s0 s1
  unfold cmpI
  by_cases h1 : a < b
  · simp [s0, s1, h1, ex0, nan215]
  by_cases h2 : b < a
  · simp [s0, s1, h1, h2, ex0, nan215]
  simp [s0, s1, h1, h2, ex0, nan215]
theorem cmp216 (a b : List Nat) {S : AS} {Q : AV → AS → Prop} : CallW C0 404 [.str a, .str b] S Q = Q (.int .i64 (cmpS a b)) S := by
  refine CallW.eq (enterW (pu0 _) (pr0 _ rfl) fn216 rfl ok216 (by simp) fun F hn hs => ?_)
  have s0 := hs 0
  have s1 := hs 1
  clear hs
  simp only [List.getElem?_cons_zero, List.getElem?_cons_succ, Option.getD_some] at s0 s1
  unfold cmpS
  cases h1 : ltS a b <;> cases h2 : eqS a b <;> simp [s0, s1, ex228, h1, h2]
theorem cmp195 (a b : List Nat) {S : AS} {Q : AV → AS → Prop} : CallW C0 379 [.str a, .str b] S Q = Q (.int .i64 (cmpS a b)) S := by
  refine CallW.eq (enterW (pu0 _) (pr0 _ rfl) fn195 rfl ok195 (by simp) fun F hn hs => ?_)
  have s0 := hs 0
  have s1 := hs 1
  clear hs
  simp only [List.getElem?_cons_zero, List.getElem?_cons_succ, Option.getD_some] at s0 s1
  simp [s0, s1, ex0, cmp216]

noncomputable def cmpV (a b : Val) : Int :=
  if a.kind ≠ b.kind then cmpI a.kind b.kind else if a.kind = 1 then cmpI a.num b.num else if a.kind = 2 then cmpS a.str b.str else if a.kind = 3 then cmpI (rankI a.bool) (rankI b.bool) else 0
end Go.Proofs.YtpgmahedcpepkaaGreatDoor.mod
