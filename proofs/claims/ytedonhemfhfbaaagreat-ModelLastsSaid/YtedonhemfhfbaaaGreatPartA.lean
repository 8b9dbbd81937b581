/-
  The context of the model's proofs, and the facts of types and functions that simp wants.
  slices.IndexFunc, ContainsFunc, Clone: what they come to, for slices of unknown shape. Printed by modgen.py.
  Values: their order, and what may be.
  The order of values; which values may be.
  Which values may be; values alike.
  An event's attribute of a name; what a constraint asks.
  What a constraint asks of a value.
  What a constraint asks of a value: beginnings, sets.
  Holds: whether a constraint holds of a value.
  Holds, Matches.
  Which predicates may be.
  Which predicates may be; books: a subscription's place.
  Events alike.
  A history in memory.
  A history's next number; its items.
  A history's events against a predicate.
  A new history; a new book.
  Answer.
  A history behind Answer.
-/
import Derived.Test.YtedonhemfhfbaaaGreatRows
import Derived.Test.YtedonhemfhfbaaaGreatAmWide
import Derived.Test.YtedonhemfhfbaaaGreatAmArgs
namespace Go.Proofs.YtedonhemfhfbaaaGreat.mod
open Go Go.Am
set_option linter.unusedVariables false
set_option linter.unusedSimpArgs false

noncomputable abbrev A0 : Am.Ask := { eqs := [46, 102, 107, 157], exts := [(228, .cmpstr)], prims := [(12, boolQ true)] }
noncomputable abbrev C0 : Am.Cx := Am.mkCx Tryz.prog A0
theorem ex0 (f : Nat) (h : (f == 228) = false) : C0.exts.get f = none := by
  have h1 : ¬ f = 228 := by simpa using h
  show ((T.leaf : T Xf).set 228 .cmpstr).get f = none
  rw [get_set_ne _ _ h1]; exact get_leaf f
theorem ex228 : C0.exts.get 228 = some .cmpstr := by kernel_rfl
theorem pr0 (f : Nat) (h : (f == 12) = false) : C0.prims.get f = none := by
  have h1 : ¬ f = 12 := by simpa using h
  show ((T.leaf : T (List AV → AS → Option (AV × AS))).set 12 (boolQ true)).get f = none
  rw [get_set_ne _ _ h1]; exact get_leaf f
theorem d12 {S : AS} {Q : AV → AS → Prop} : CallW C0 12 [] S Q = Q (.bool true) S := callW_prim (q := boolQ true) (by kernel_rfl) rfl rfl rfl
theorem pu0 (f : Nat) : C0.pures.get f = none := get_leaf f

@[simp] theorem st22 : slT C0 22 = some (40, 2, 40) := by kernel_rfl
@[simp] theorem ag22 : aggOf C0 22 = some false := by kernel_rfl
@[simp] theorem sz25 : szOf C0 25 = some 1 := by kernel_rfl
@[simp] theorem ze25 : zeroOf C0 25 = some (.nilp) := by kernel_rfl
@[simp] theorem st55 : slT C0 55 = some (60, 18, 224) := by kernel_rfl
@[simp] theorem ag60 : aggOf C0 60 = some true := by kernel_rfl
@[simp] theorem sz60 : szOf C0 60 = some 18 := by kernel_rfl
@[simp] theorem ze60 : zeroOf C0 60 = some (.agg [.int .i64 0, .int .i64 0, .int .i64 0, .int .i64 0, .int .u64 0, .str [], .nils, .nils, .nils, .int .i64 0, .int .i64 0, .int .i64 0, .int .u64 0, .int .u64 0, .str [], .nils, .int .u64 0, .int .u64 0]) := by kernel_rfl
@[simp] theorem fa60_2 : fieldAt C0 60 2 = some 2 := by kernel_rfl
@[simp] theorem ag3 : aggOf C0 3 = some false := by kernel_rfl
@[simp] theorem sz3 : szOf C0 3 = some 1 := by kernel_rfl
@[simp] theorem fa60_3 : fieldAt C0 60 3 = some 3 := by kernel_rfl
@[simp] theorem ze3 : zeroOf C0 3 = some (.int .i64 0) := by kernel_rfl
@[simp] theorem ag25 : aggOf C0 25 = some false := by kernel_rfl
@[simp] theorem fa60_4 : fieldAt C0 60 4 = some 4 := by kernel_rfl
@[simp] theorem ag31 : aggOf C0 31 = some false := by kernel_rfl
@[simp] theorem sz31 : szOf C0 31 = some 1 := by kernel_rfl
@[simp] theorem sz42 : szOf C0 42 = some 4 := by kernel_rfl
@[simp] theorem ze42 : zeroOf C0 42 = some (.agg [.int .u64 0, .int .u64 0, .str [], .nils]) := by kernel_rfl
@[simp] theorem ag42 : aggOf C0 42 = some true := by kernel_rfl
@[simp] theorem sz48 : szOf C0 48 = some 6 := by kernel_rfl
@[simp] theorem ze48 : zeroOf C0 48 = some (.agg [.int .u64 0, .int .u64 0, .str [], .nils, .int .u64 0, .int .u64 0]) := by kernel_rfl
@[simp] theorem cv3_31 : convT C0 3 31 = some .u64 := by kernel_rfl
@[simp] theorem ag40 : aggOf C0 40 = some true := by kernel_rfl
@[simp] theorem sz40 : szOf C0 40 = some 2 := by kernel_rfl
@[simp] theorem fa126_1 : fieldAt C0 126 1 = some 1 := by kernel_rfl
@[simp] theorem un122 : und C0 122 = some (.array 8 121) := by kernel_rfl
@[simp] theorem sz121 : szOf C0 121 = some 1 := by kernel_rfl
@[simp] theorem ag121 : aggOf C0 121 = some false := by kernel_rfl
@[simp] theorem pt121 : ptT C0 121 = true := by kernel_rfl
@[simp] theorem mt133 : mapT C0 133 = true := by kernel_rfl
theorem fn14 : C0.fns.get 14 = some Tryz.f14 := by kernel_rfl
theorem ok14 : codeOk C0 Tryz.f14.ntmps (Tryz.f14.body.getD .skip) = true := by kernel_rfl
@[simp] theorem fa140_1 : fieldAt C0 140 1 = some 1 := by kernel_rfl
@[simp] theorem ag138 : aggOf C0 138 = some false := by kernel_rfl
@[simp] theorem sz138 : szOf C0 138 = some 1 := by kernel_rfl
@[simp] theorem st138 : slT C0 138 = some (142, 4, 56) := by kernel_rfl
@[simp] theorem ag142 : aggOf C0 142 = some true := by kernel_rfl
@[simp] theorem sz142 : szOf C0 142 = some 4 := by kernel_rfl
@[simp] theorem ze142 : zeroOf C0 142 = some (.agg [.int .u64 0, .str [], .nils, .int .i64 0]) := by kernel_rfl
@[simp] theorem fa142_0 : fieldAt C0 142 0 = some 0 := by kernel_rfl
@[simp] theorem fa142_1 : fieldAt C0 142 1 = some 1 := by kernel_rfl
@[simp] theorem fa40_0 : fieldAt C0 40 0 = some 0 := by kernel_rfl
@[simp] theorem ag9 : aggOf C0 9 = some false := by kernel_rfl
@[simp] theorem sz9 : szOf C0 9 = some 1 := by kernel_rfl
@[simp] theorem fa40_1 : fieldAt C0 40 1 = some 1 := by kernel_rfl
@[simp] theorem ag38 : aggOf C0 38 = some false := by kernel_rfl
@[simp] theorem sz38 : szOf C0 38 = some 1 := by kernel_rfl
@[simp] theorem fa142_2 : fieldAt C0 142 2 = some 3 := by kernel_rfl
theorem fn15 : C0.fns.get 15 = some Tryz.f15 := by kernel_rfl
theorem ok15 : codeOk C0 Tryz.f15.ntmps (Tryz.f15.body.getD .skip) = true := by kernel_rfl
theorem fn16 : C0.fns.get 16 = some Tryz.f16 := by kernel_rfl
theorem ok16 : codeOk C0 Tryz.f16.ntmps (Tryz.f16.body.getD .skip) = true := by kernel_rfl
@[simp] theorem ag48 : aggOf C0 48 = some true := by kernel_rfl
@[simp] theorem fa136_0 : fieldAt C0 136 0 = some 0 := by kernel_rfl
@[simp] theorem ag24 : aggOf C0 24 = some false := by kernel_rfl
@[simp] theorem sz24 : szOf C0 24 = some 1 := by kernel_rfl
@[simp] theorem fa136_4 : fieldAt C0 136 4 = some 4 := by kernel_rfl
@[simp] theorem ag134 : aggOf C0 134 = some false := by kernel_rfl
@[simp] theorem sz134 : szOf C0 134 = some 1 := by kernel_rfl
@[simp] theorem st134 : slT C0 134 = some (157, 2, 16) := by kernel_rfl
theorem fn17 : C0.fns.get 17 = some Tryz.f17 := by kernel_rfl
theorem ok17 : codeOk C0 Tryz.f17.ntmps (Tryz.f17.body.getD .skip) = true := by kernel_rfl
@[simp] theorem fa48_1 : fieldAt C0 48 1 = some 4 := by kernel_rfl
@[simp] theorem ag46 : aggOf C0 46 = some true := by kernel_rfl
@[simp] theorem sz46 : szOf C0 46 = some 2 := by kernel_rfl
@[simp] theorem fa136_3 : fieldAt C0 136 3 = some 3 := by kernel_rfl
@[simp] theorem ag133 : aggOf C0 133 = some false := by kernel_rfl
@[simp] theorem sz133 : szOf C0 133 = some 1 := by kernel_rfl
@[simp] theorem mk133 : mapK C0 133 = some ((.int .i64), .int .u64 0) := by kernel_rfl
@[simp] theorem un134 : und C0 134 = some (.slice 157) := by kernel_rfl
@[simp] theorem fa136_2 : fieldAt C0 136 2 = some 2 := by kernel_rfl
@[simp] theorem ze40 : zeroOf C0 40 = some (.agg [.str [], .nils]) := by kernel_rfl
@[simp] theorem st38 : slT C0 38 = some (107, 5, 56) := by kernel_rfl
@[simp] theorem fa60_0 : fieldAt C0 60 0 = some 0 := by kernel_rfl
@[simp] theorem fa60_6 : fieldAt C0 60 6 = some 7 := by kernel_rfl
theorem fn26 : C0.fns.get 26 = some Tryz.f26 := by kernel_rfl
theorem ok26 : codeOk C0 Tryz.f26.ntmps (Tryz.f26.body.getD .skip) = true := by kernel_rfl
@[simp] theorem fa140_2 : fieldAt C0 140 2 = some 2 := by kernel_rfl
theorem fn27 : C0.fns.get 27 = some Tryz.f27 := by kernel_rfl
theorem ok27 : codeOk C0 Tryz.f27.ntmps (Tryz.f27.body.getD .skip) = true := by kernel_rfl
theorem fn29 : C0.fns.get 29 = some Tryz.f29 := by kernel_rfl
theorem ok29 : codeOk C0 Tryz.f29.ntmps (Tryz.f29.body.getD .skip) = true := by kernel_rfl
@[simp] theorem un138 : und C0 138 = some (.slice 142) := by kernel_rfl
theorem fn30 : C0.fns.get 30 = some Tryz.f30 := by kernel_rfl
theorem ok30 : codeOk C0 Tryz.f30.ntmps (Tryz.f30.body.getD .skip) = true := by kernel_rfl
theorem fn63 : C0.fns.get 63 = some Tryz.f63 := by kernel_rfl
theorem ok63 : codeOk C0 Tryz.f63.ntmps (Tryz.f63.body.getD .skip) = true := by kernel_rfl
@[simp] theorem pt25 : ptT C0 25 = true := by kernel_rfl
@[simp] theorem fa140_0 : fieldAt C0 140 0 = some 0 := by kernel_rfl
@[simp] theorem ag4 : aggOf C0 4 = some false := by kernel_rfl
@[simp] theorem sz4 : szOf C0 4 = some 1 := by kernel_rfl
theorem fn69 : C0.fns.get 69 = some Tryz.f69 := by kernel_rfl
theorem ok69 : codeOk C0 Tryz.f69.ntmps (Tryz.f69.body.getD .skip) = true := by kernel_rfl
@[simp] theorem pt32 : ptT C0 32 = true := by kernel_rfl
@[simp] theorem fa126_0 : fieldAt C0 126 0 = some 0 := by kernel_rfl
@[simp] theorem st92 : slT C0 92 = some (132, 2, 16) := by kernel_rfl
@[simp] theorem ag132 : aggOf C0 132 = some true := by kernel_rfl
@[simp] theorem sz132 : szOf C0 132 = some 2 := by kernel_rfl
@[simp] theorem ze132 : zeroOf C0 132 = some (.agg [.int .i64 0, .int .u64 0]) := by kernel_rfl
@[simp] theorem fa132_0 : fieldAt C0 132 0 = some 0 := by kernel_rfl
@[simp] theorem fa132_1 : fieldAt C0 132 1 = some 1 := by kernel_rfl
@[simp] theorem st24 : slT C0 24 = some (105, 7, 88) := by kernel_rfl
@[simp] theorem fa105_3 : fieldAt C0 105 3 = some 6 := by kernel_rfl
@[simp] theorem ag103 : aggOf C0 103 = some false := by kernel_rfl
@[simp] theorem sz103 : szOf C0 103 = some 1 := by kernel_rfl
@[simp] theorem ag92 : aggOf C0 92 = some false := by kernel_rfl
@[simp] theorem un92 : und C0 92 = some (.slice 132) := by kernel_rfl
theorem fn74 : C0.fns.get 74 = some Tryz.f74 := by kernel_rfl
theorem ok74 : codeOk C0 Tryz.f74.ntmps (Tryz.f74.body.getD .skip) = true := by kernel_rfl
@[simp] theorem ag102 : aggOf C0 102 = some true := by kernel_rfl
@[simp] theorem sz102 : szOf C0 102 = some 4 := by kernel_rfl
@[simp] theorem ze102 : zeroOf C0 102 = some (.agg [.int .i64 0, .int .i64 0, .str [], .bool false]) := by kernel_rfl
theorem fn75 : C0.fns.get 75 = some Tryz.f75 := by kernel_rfl
theorem ok75 : codeOk C0 Tryz.f75.ntmps (Tryz.f75.body.getD .skip) = true := by kernel_rfl
@[simp] theorem un38 : und C0 38 = some (.slice 107) := by kernel_rfl
theorem fn76 : C0.fns.get 76 = some Tryz.f76 := by kernel_rfl
theorem ok76 : codeOk C0 Tryz.f76.ntmps (Tryz.f76.body.getD .skip) = true := by kernel_rfl
theorem fn77 : C0.fns.get 77 = some Tryz.f77 := by kernel_rfl
theorem ok77 : codeOk C0 Tryz.f77.ntmps (Tryz.f77.body.getD .skip) = true := by kernel_rfl
@[simp] theorem fa105_0 : fieldAt C0 105 0 = some 0 := by kernel_rfl
@[simp] theorem ag105 : aggOf C0 105 = some true := by kernel_rfl
@[simp] theorem sz105 : szOf C0 105 = some 7 := by kernel_rfl
theorem fn78 : C0.fns.get 78 = some Tryz.f78 := by kernel_rfl
theorem ok78 : codeOk C0 Tryz.f78.ntmps (Tryz.f78.body.getD .skip) = true := by kernel_rfl
@[simp] theorem fa107_1 : fieldAt C0 107 1 = some 1 := by kernel_rfl
theorem fn79 : C0.fns.get 79 = some Tryz.f79 := by kernel_rfl
theorem ok79 : codeOk C0 Tryz.f79.ntmps (Tryz.f79.body.getD .skip) = true := by kernel_rfl
theorem fn80 : C0.fns.get 80 = some Tryz.f80 := by kernel_rfl
theorem ok80 : codeOk C0 Tryz.f80.ntmps (Tryz.f80.body.getD .skip) = true := by kernel_rfl
theorem fn81 : C0.fns.get 81 = some Tryz.f81 := by kernel_rfl
theorem ok81 : codeOk C0 Tryz.f81.ntmps (Tryz.f81.body.getD .skip) = true := by kernel_rfl
@[simp] theorem fa48_0 : fieldAt C0 48 0 = some 0 := by kernel_rfl
@[simp] theorem fa42_0 : fieldAt C0 42 0 = some 0 := by kernel_rfl
@[simp] theorem fa42_1 : fieldAt C0 42 1 = some 1 := by kernel_rfl
@[simp] theorem fa42_2 : fieldAt C0 42 2 = some 2 := by kernel_rfl
@[simp] theorem fa46_0 : fieldAt C0 46 0 = some 0 := by kernel_rfl
@[simp] theorem fa46_1 : fieldAt C0 46 1 = some 1 := by kernel_rfl
theorem fn82 : C0.fns.get 82 = some Tryz.f82 := by kernel_rfl
theorem ok82 : codeOk C0 Tryz.f82.ntmps (Tryz.f82.body.getD .skip) = true := by kernel_rfl
theorem fn83 : C0.fns.get 83 = some Tryz.f83 := by kernel_rfl
theorem ok83 : codeOk C0 Tryz.f83.ntmps (Tryz.f83.body.getD .skip) = true := by kernel_rfl
theorem fn84 : C0.fns.get 84 = some Tryz.f84 := by kernel_rfl
theorem ok84 : codeOk C0 Tryz.f84.ntmps (Tryz.f84.body.getD .skip) = true := by kernel_rfl
theorem fn85 : C0.fns.get 85 = some Tryz.f85 := by kernel_rfl
theorem ok85 : codeOk C0 Tryz.f85.ntmps (Tryz.f85.body.getD .skip) = true := by kernel_rfl
@[simp] theorem ag157 : aggOf C0 157 = some true := by kernel_rfl
@[simp] theorem sz157 : szOf C0 157 = some 2 := by kernel_rfl
@[simp] theorem ze157 : zeroOf C0 157 = some (.agg [.int .i64 0, .int .u64 0]) := by kernel_rfl
@[simp] theorem fa157_0 : fieldAt C0 157 0 = some 0 := by kernel_rfl
@[simp] theorem fa157_1 : fieldAt C0 157 1 = some 1 := by kernel_rfl
theorem fn114 : C0.fns.get 114 = some Tryz.f114 := by kernel_rfl
theorem ok114 : codeOk C0 Tryz.f114.ntmps (Tryz.f114.body.getD .skip) = true := by kernel_rfl
@[simp] theorem fa105_2 : fieldAt C0 105 2 = some 2 := by kernel_rfl
@[simp] theorem fa105_1 : fieldAt C0 105 1 = some 1 := by kernel_rfl
@[simp] theorem st103 : slT C0 103 = some (102, 4, 40) := by kernel_rfl
@[simp] theorem fa102_0 : fieldAt C0 102 0 = some 0 := by kernel_rfl
@[simp] theorem un24 : und C0 24 = some (.slice 105) := by kernel_rfl
@[simp] theorem un103 : und C0 103 = some (.slice 102) := by kernel_rfl
theorem fn128 : C0.fns.get 128 = some Tryz.f128 := by kernel_rfl
theorem ok128 : codeOk C0 Tryz.f128.ntmps (Tryz.f128.body.getD .skip) = true := by kernel_rfl
theorem fn129 : C0.fns.get 129 = some Tryz.f129 := by kernel_rfl
theorem ok129 : codeOk C0 Tryz.f129.ntmps (Tryz.f129.body.getD .skip) = true := by kernel_rfl
@[simp] theorem ag107 : aggOf C0 107 = some true := by kernel_rfl
@[simp] theorem sz107 : szOf C0 107 = some 5 := by kernel_rfl
theorem fn130 : C0.fns.get 130 = some Tryz.f130 := by kernel_rfl
theorem ok130 : codeOk C0 Tryz.f130.ntmps (Tryz.f130.body.getD .skip) = true := by kernel_rfl
@[simp] theorem fa107_0 : fieldAt C0 107 0 = some 0 := by kernel_rfl
theorem fn131 : C0.fns.get 131 = some Tryz.f131 := by kernel_rfl
theorem ok131 : codeOk C0 Tryz.f131.ntmps (Tryz.f131.body.getD .skip) = true := by kernel_rfl
theorem fn132 : C0.fns.get 132 = some Tryz.f132 := by kernel_rfl
theorem ok132 : codeOk C0 Tryz.f132.ntmps (Tryz.f132.body.getD .skip) = true := by kernel_rfl
@[simp] theorem fa136_1 : fieldAt C0 136 1 = some 1 := by kernel_rfl
@[simp] theorem sz92 : szOf C0 92 = some 1 := by kernel_rfl
theorem fn133 : C0.fns.get 133 = some Tryz.f133 := by kernel_rfl
theorem ok133 : codeOk C0 Tryz.f133.ntmps (Tryz.f133.body.getD .skip) = true := by kernel_rfl
theorem fn134 : C0.fns.get 134 = some Tryz.f134 := by kernel_rfl
theorem ok134 : codeOk C0 Tryz.f134.ntmps (Tryz.f134.body.getD .skip) = true := by kernel_rfl
theorem fn146 : C0.fns.get 146 = some Tryz.f146 := by kernel_rfl
theorem ok146 : codeOk C0 Tryz.f146.ntmps (Tryz.f146.body.getD .skip) = true := by kernel_rfl
theorem fn156 : C0.fns.get 156 = some Tryz.f156 := by kernel_rfl
theorem ok156 : codeOk C0 Tryz.f156.ntmps (Tryz.f156.body.getD .skip) = true := by kernel_rfl
theorem fn158 : C0.fns.get 158 = some Tryz.f158 := by kernel_rfl
theorem ok158 : codeOk C0 Tryz.f158.ntmps (Tryz.f158.body.getD .skip) = true := by kernel_rfl
@[simp] theorem ze2 : zeroOf C0 2 = some (.int .i64 0) := by kernel_rfl
@[simp] theorem conc2 : conc C0 2 = true := by kernel_rfl
@[simp] theorem ze9 : zeroOf C0 9 = some (.str []) := by kernel_rfl
@[simp] theorem conc9 : conc C0 9 = true := by kernel_rfl
@[simp] theorem ze4 : zeroOf C0 4 = some (.bool false) := by kernel_rfl
@[simp] theorem conc4 : conc C0 4 = true := by kernel_rfl
theorem fn159 : C0.fns.get 159 = some Tryz.f159 := by kernel_rfl
theorem ok159 : codeOk C0 Tryz.f159.ntmps (Tryz.f159.body.getD .skip) = true := by kernel_rfl
theorem fn160 : C0.fns.get 160 = some Tryz.f160 := by kernel_rfl
theorem ok160 : codeOk C0 Tryz.f160.ntmps (Tryz.f160.body.getD .skip) = true := by kernel_rfl
@[simp] theorem ag73 : aggOf C0 73 = some false := by kernel_rfl
@[simp] theorem sz73 : szOf C0 73 = some 1 := by kernel_rfl
theorem fn161 : C0.fns.get 161 = some Tryz.f161 := by kernel_rfl
theorem ok161 : codeOk C0 Tryz.f161.ntmps (Tryz.f161.body.getD .skip) = true := by kernel_rfl
@[simp] theorem fa102_1 : fieldAt C0 102 1 = some 1 := by kernel_rfl
@[simp] theorem ag2 : aggOf C0 2 = some false := by kernel_rfl
@[simp] theorem sz2 : szOf C0 2 = some 1 := by kernel_rfl
@[simp] theorem fa102_2 : fieldAt C0 102 2 = some 2 := by kernel_rfl
@[simp] theorem fa102_3 : fieldAt C0 102 3 = some 3 := by kernel_rfl
theorem fn162 : C0.fns.get 162 = some Tryz.f162 := by kernel_rfl
theorem ok162 : codeOk C0 Tryz.f162.ntmps (Tryz.f162.body.getD .skip) = true := by kernel_rfl
theorem fn163 : C0.fns.get 163 = some Tryz.f163 := by kernel_rfl
theorem ok163 : codeOk C0 Tryz.f163.ntmps (Tryz.f163.body.getD .skip) = true := by kernel_rfl
theorem fn164 : C0.fns.get 164 = some Tryz.f164 := by kernel_rfl
theorem ok164 : codeOk C0 Tryz.f164.ntmps (Tryz.f164.body.getD .skip) = true := by kernel_rfl
theorem fn165 : C0.fns.get 165 = some Tryz.f165 := by kernel_rfl
theorem ok165 : codeOk C0 Tryz.f165.ntmps (Tryz.f165.body.getD .skip) = true := by kernel_rfl
theorem fn166 : C0.fns.get 166 = some Tryz.f166 := by kernel_rfl
theorem ok166 : codeOk C0 Tryz.f166.ntmps (Tryz.f166.body.getD .skip) = true := by kernel_rfl
theorem fn167 : C0.fns.get 167 = some Tryz.f167 := by kernel_rfl
theorem ok167 : codeOk C0 Tryz.f167.ntmps (Tryz.f167.body.getD .skip) = true := by kernel_rfl
theorem fn168 : C0.fns.get 168 = some Tryz.f168 := by kernel_rfl
theorem ok168 : codeOk C0 Tryz.f168.ntmps (Tryz.f168.body.getD .skip) = true := by kernel_rfl
theorem fn169 : C0.fns.get 169 = some Tryz.f169 := by kernel_rfl
theorem ok169 : codeOk C0 Tryz.f169.ntmps (Tryz.f169.body.getD .skip) = true := by kernel_rfl
theorem fn170 : C0.fns.get 170 = some Tryz.f170 := by kernel_rfl
theorem ok170 : codeOk C0 Tryz.f170.ntmps (Tryz.f170.body.getD .skip) = true := by kernel_rfl
theorem fn171 : C0.fns.get 171 = some Tryz.f171 := by kernel_rfl
theorem ok171 : codeOk C0 Tryz.f171.ntmps (Tryz.f171.body.getD .skip) = true := by kernel_rfl
theorem fn172 : C0.fns.get 172 = some Tryz.f172 := by kernel_rfl
theorem ok172 : codeOk C0 Tryz.f172.ntmps (Tryz.f172.body.getD .skip) = true := by kernel_rfl
theorem fn173 : C0.fns.get 173 = some Tryz.f173 := by kernel_rfl
theorem ok173 : codeOk C0 Tryz.f173.ntmps (Tryz.f173.body.getD .skip) = true := by kernel_rfl
theorem fn174 : C0.fns.get 174 = some Tryz.f174 := by kernel_rfl
theorem ok174 : codeOk C0 Tryz.f174.ntmps (Tryz.f174.body.getD .skip) = true := by kernel_rfl
theorem fn176 : C0.fns.get 176 = some Tryz.f176 := by kernel_rfl
theorem ok176 : codeOk C0 Tryz.f176.ntmps (Tryz.f176.body.getD .skip) = true := by kernel_rfl
theorem fn189 : C0.fns.get 189 = some Tryz.f189 := by kernel_rfl
theorem ok189 : codeOk C0 Tryz.f189.ntmps (Tryz.f189.body.getD .skip) = true := by kernel_rfl
theorem fn190 : C0.fns.get 190 = some Tryz.f190 := by kernel_rfl
theorem ok190 : codeOk C0 Tryz.f190.ntmps (Tryz.f190.body.getD .skip) = true := by kernel_rfl
theorem fn191 : C0.fns.get 191 = some Tryz.f191 := by kernel_rfl
theorem ok191 : codeOk C0 Tryz.f191.ntmps (Tryz.f191.body.getD .skip) = true := by kernel_rfl
theorem fn192 : C0.fns.get 192 = some Tryz.f192 := by kernel_rfl
theorem ok192 : codeOk C0 Tryz.f192.ntmps (Tryz.f192.body.getD .skip) = true := by kernel_rfl
theorem fn193 : C0.fns.get 193 = some Tryz.f193 := by kernel_rfl
theorem ok193 : codeOk C0 Tryz.f193.ntmps (Tryz.f193.body.getD .skip) = true := by kernel_rfl
theorem fn194 : C0.fns.get 194 = some Tryz.f194 := by kernel_rfl
theorem ok194 : codeOk C0 Tryz.f194.ntmps (Tryz.f194.body.getD .skip) = true := by kernel_rfl
theorem fn195 : C0.fns.get 195 = some Tryz.f195 := by kernel_rfl
theorem ok195 : codeOk C0 Tryz.f195.ntmps (Tryz.f195.body.getD .skip) = true := by kernel_rfl
theorem fn196 : C0.fns.get 196 = some Tryz.f196 := by kernel_rfl
theorem ok196 : codeOk C0 Tryz.f196.ntmps (Tryz.f196.body.getD .skip) = true := by kernel_rfl
theorem fn197 : C0.fns.get 197 = some Tryz.f197 := by kernel_rfl
theorem ok197 : codeOk C0 Tryz.f197.ntmps (Tryz.f197.body.getD .skip) = true := by kernel_rfl

end Go.Proofs.YtedonhemfhfbaaaGreat.mod

namespace Go.Proofs.YtedonhemfhfbaaaGreat.mod
open Go Go.Am
set_option linter.unusedVariables false
set_option linter.unusedSimpArgs false

def idxI {α : Type} (P : α → Bool) (l : List α) : Int := match l.findIdx? P with | some i => (i : Int) | none => -1
theorem idxI_none {α : Type} {P : α → Bool} {l : List α} (h : ∀ x, x ∈ l → P x = false) : idxI P l = -1 := by
  unfold idxI
  rw [List.findIdx?_eq_none_iff.2 h]
theorem idxI_at {α : Type} {P : α → Bool} {l : List α} {i : Nat} {x : α} (h : l[i]? = some x) (hp : P x = true) (ha : ∀ x, x ∈ l.take i → P x = false) : idxI P l = i := by
  obtain ⟨hi, rfl⟩ := List.getElem?_eq_some_iff.1 h
  have : l.findIdx? P = some i := by
    rw [List.findIdx?_eq_some_iff_getElem]
    refine ⟨hi, hp, fun j hj => ?_⟩
    have := ha l[j] (List.mem_take_iff_getElem.2 ⟨j, by omega, rfl⟩)
    simp [this]
  unfold idxI
  rw [this]
theorem idxI_any {α : Type} {P : α → Bool} {l : List α} : decide (0 ≤ idxI P l) = l.any P := by
  unfold idxI
  cases h : l.findIdx? P with
  | none =>
    have := List.findIdx?_eq_none_iff.1 h
    have h2 : l.any P = false := by rw [List.any_eq_false]; intro x hx; simp [this x hx]
    rw [h2]; rfl
  | some i =>
    obtain ⟨hi, hp, _⟩ := List.findIdx?_eq_some_iff_getElem.1 h
    have h2 : l.any P = true := List.any_eq_true.2 ⟨l[i], List.getElem_mem hi, hp⟩
    rw [h2]; simp
theorem take_step {α : Type} {P : α → Bool} {l : List α} {i : Nat} {x : α} (h : l[i]? = some x) (hp : P x = false) (ha : ∀ x, x ∈ l.take i → P x = false) : ∀ x, x ∈ l.take (i + 1) → P x = false := by
  obtain ⟨hi, rfl⟩ := List.getElem?_eq_some_iff.1 h
  intro y hy
  rw [List.take_succ_eq_append_getElem hi] at hy
  rcases List.mem_append.1 hy with hy | hy
  · exact ha y hy
  · simp at hy; subst hy; exact hp
/-- The head of a round. -/
def idxH {α : Type} (S : AS) (u g : AV) (l : List α) (P : α → Bool) (k : Nat) (F' : Fr) (S' : AS) : Prop :=
  ∃ i : Nat, Sub S S' ∧ sl F' 0 = u ∧ sl F' 1 = g ∧ sl F' 7 = .int .i64 l.length ∧ sl F' 8 = .int .i64 i ∧ i ≤ l.length ∧ k = l.length - i ∧ ∀ x, x ∈ l.take i → P x = false
theorem idxH_mk {α : Type} {S : AS} {u g : AV} {l : List α} {P : α → Bool} {k : Nat} {F' : Fr} {S' : AS} (i : Nat) (h1 : Sub S S') (h2 : sl F' 0 = u) (h3 : sl F' 1 = g) (h4 : sl F' 7 = .int .i64 l.length) (h5 : sl F' 8 = .int .i64 i) (h6 : i ≤ l.length) (h7 : k = l.length - i) (h8 : ∀ x, x ∈ l.take i → P x = false) : idxH S u g l P k F' S' :=
  ⟨i, h1, h2, h3, h4, h5, h6, h7, h8⟩

theorem idx128 {α : Type} {enc : α → List AV} {S : AS} {u : AV} {l : List α} {f : FuncId} {caps : List AV} {P : α → Bool} (hz : ∀ x, (enc x).length = 7) (h : Sl S u 7 (l.flatMap enc)) (hb : l.length ≤ 9223372036854775807) (hf : (f == 228) = false)
    (hc : ∀ T, Sub S T → ∀ x, x ∈ l → CallW C0 f (.agg (enc x) :: caps) T fun v T' => v = .bool (P x) ∧ Sub T T') :
    CallW C0 128 [u, .func (.func f) [] caps] S fun v T => v = .int .i64 (idxI P l) ∧ Sub S T := by
  refine enterW (pu0 _) (pr0 _ rfl) fn128 rfl ok128 (by simp) fun F hn hs => ?_
  have s0 := hs 0
  have s1 := hs 1
  clear hs
  simp only [List.getElem?_cons_zero, List.getElem?_cons_succ, Option.getD_some] at s0 s1
  have u1 := h.sl
  have u2 := h.len_flat hz (by omega)
  simp [s0, s1, u1, u2]
  refine loopP_of (idxH S u (.func (.func f) [] caps) l P) l.length (idxH_mk 0 (Sub.refl S) (by simp [s0]) (by simp [s1]) (by simp) (by simp) (Nat.zero_le _) rfl (by simp)) ?_
  rintro k F' S' hn' ⟨i, hsub, t0, t1, t7, t8, hi, hk, ha⟩
  clear hn' s0 s1 hn
  by_cases hi' : i < l.length
  · have hx : l[i]? = some l[i] := List.getElem?_eq_getElem hi'
    have hl := loadT_el (cx := C0) (e := 105) (h.toSub hsub) hz (by omega) hx ag105 sz105
    obtain ⟨v, T', ⟨rfl, hs⟩, e⟩ := (hc S' hsub l[i] (List.getElem_mem hi')).ex
    cases hp : P l[i] with
    | true => simp [t0, t1, t7, t8, u1, u2, hi', hl, e, hp, ex0 f hf, hsub.trans hs, idxI_at hx hp ha]
    | false =>
      simp [t0, t1, t7, t8, u1, u2, hi', hl, e, hp, ex0 f hf]
      exact ⟨l.length - (i + 1), by omega, idxH_mk (i + 1) (hsub.trans hs) (by simp [t0]) (by simp [t1]) (by simp [t7]) (by simp [wrap_succ (show i < 9223372036854775807 by omega)]) hi' rfl (take_step hx hp ha)⟩
  · have hall : ∀ x, x ∈ l → P x = false := fun x hx => ha x (by rw [List.take_of_length_le (by omega)]; exact hx)
    simp [t7, t8, hi', idxI_none hall, hsub]

theorem con76 {α : Type} {enc : α → List AV} {S : AS} {u : AV} {l : List α} {f : FuncId} {caps : List AV} {P : α → Bool} (hz : ∀ x, (enc x).length = 7) (h : Sl S u 7 (l.flatMap enc)) (hb : l.length ≤ 9223372036854775807) (hf : (f == 228) = false)
    (hc : ∀ T, Sub S T → ∀ x, x ∈ l → CallW C0 f (.agg (enc x) :: caps) T fun v T' => v = .bool (P x) ∧ Sub T T') :
    CallW C0 76 [u, .func (.func f) [] caps] S fun v T => v = .bool (l.any P) ∧ Sub S T := by
  obtain ⟨v, T, ⟨rfl, hs⟩, e⟩ := (idx128 hz h hb hf hc).ex
  refine enterW (pu0 _) (pr0 _ rfl) fn76 rfl ok76 (by simp) fun F hn hs => ?_
  have s0 := hs 0
  have s1 := hs 1
  clear hs
  simp only [List.getElem?_cons_zero, List.getElem?_cons_succ, Option.getD_some] at s0 s1
  simp [s0, s1, e, ex0, hs, idxI_any]

theorem idx129 {α : Type} {enc : α → List AV} {S : AS} {u : AV} {l : List α} {f : FuncId} {caps : List AV} {P : α → Bool} (hz : ∀ x, (enc x).length = 5) (h : Sl S u 5 (l.flatMap enc)) (hb : l.length ≤ 9223372036854775807) (hf : (f == 228) = false)
    (hc : ∀ T, Sub S T → ∀ x, x ∈ l → CallW C0 f (.agg (enc x) :: caps) T fun v T' => v = .bool (P x) ∧ Sub T T') :
    CallW C0 129 [u, .func (.func f) [] caps] S fun v T => v = .int .i64 (idxI P l) ∧ Sub S T := by
  refine enterW (pu0 _) (pr0 _ rfl) fn129 rfl ok129 (by simp) fun F hn hs => ?_
  have s0 := hs 0
  have s1 := hs 1
  clear hs
  simp only [List.getElem?_cons_zero, List.getElem?_cons_succ, Option.getD_some] at s0 s1
  have u1 := h.sl
  have u2 := h.len_flat hz (by omega)
  simp [s0, s1, u1, u2]
  refine loopP_of (idxH S u (.func (.func f) [] caps) l P) l.length (idxH_mk 0 (Sub.refl S) (by simp [s0]) (by simp [s1]) (by simp) (by simp) (Nat.zero_le _) rfl (by simp)) ?_
  rintro k F' S' hn' ⟨i, hsub, t0, t1, t7, t8, hi, hk, ha⟩
  clear hn' s0 s1 hn
  by_cases hi' : i < l.length
  · have hx : l[i]? = some l[i] := List.getElem?_eq_getElem hi'
    have hl := loadT_el (cx := C0) (e := 107) (h.toSub hsub) hz (by omega) hx ag107 sz107
    obtain ⟨v, T', ⟨rfl, hs⟩, e⟩ := (hc S' hsub l[i] (List.getElem_mem hi')).ex
    cases hp : P l[i] with
    | true => simp [t0, t1, t7, t8, u1, u2, hi', hl, e, hp, ex0 f hf, hsub.trans hs, idxI_at hx hp ha]
    | false =>
      simp [t0, t1, t7, t8, u1, u2, hi', hl, e, hp, ex0 f hf]
      exact ⟨l.length - (i + 1), by omega, idxH_mk (i + 1) (hsub.trans hs) (by simp [t0]) (by simp [t1]) (by simp [t7]) (by simp [wrap_succ (show i < 9223372036854775807 by omega)]) hi' rfl (take_step hx hp ha)⟩
  · have hall : ∀ x, x ∈ l → P x = false := fun x hx => ha x (by rw [List.take_of_length_le (by omega)]; exact hx)
    simp [t7, t8, hi', idxI_none hall, hsub]

theorem idx174 {α : Type} {enc : α → List AV} {S : AS} {u : AV} {l : List α} {f : FuncId} {caps : List AV} {P : α → Bool} (hz : ∀ x, (enc x).length = 2) (h : Sl S u 2 (l.flatMap enc)) (hb : l.length ≤ 9223372036854775807) (hf : (f == 228) = false)
    (hc : ∀ T, Sub S T → ∀ x, x ∈ l → CallW C0 f (.agg (enc x) :: caps) T fun v T' => v = .bool (P x) ∧ Sub T T') :
    CallW C0 174 [u, .func (.func f) [] caps] S fun v T => v = .int .i64 (idxI P l) ∧ Sub S T := by
  refine enterW (pu0 _) (pr0 _ rfl) fn174 rfl ok174 (by simp) fun F hn hs => ?_
  have s0 := hs 0
  have s1 := hs 1
  clear hs
  simp only [List.getElem?_cons_zero, List.getElem?_cons_succ, Option.getD_some] at s0 s1
  have u1 := h.sl
  have u2 := h.len_flat hz (by omega)
  simp [s0, s1, u1, u2]
  refine loopP_of (idxH S u (.func (.func f) [] caps) l P) l.length (idxH_mk 0 (Sub.refl S) (by simp [s0]) (by simp [s1]) (by simp) (by simp) (Nat.zero_le _) rfl (by simp)) ?_
  rintro k F' S' hn' ⟨i, hsub, t0, t1, t7, t8, hi, hk, ha⟩
  clear hn' s0 s1 hn
  by_cases hi' : i < l.length
  · have hx : l[i]? = some l[i] := List.getElem?_eq_getElem hi'
    have hl := loadT_el (cx := C0) (e := 132) (h.toSub hsub) hz (by omega) hx ag132 sz132
    obtain ⟨v, T', ⟨rfl, hs⟩, e⟩ := (hc S' hsub l[i] (List.getElem_mem hi')).ex
    cases hp : P l[i] with
    | true => simp [t0, t1, t7, t8, u1, u2, hi', hl, e, hp, ex0 f hf, hsub.trans hs, idxI_at hx hp ha]
    | false =>
      simp [t0, t1, t7, t8, u1, u2, hi', hl, e, hp, ex0 f hf]
      exact ⟨l.length - (i + 1), by omega, idxH_mk (i + 1) (hsub.trans hs) (by simp [t0]) (by simp [t1]) (by simp [t7]) (by simp [wrap_succ (show i < 9223372036854775807 by omega)]) hi' rfl (take_step hx hp ha)⟩
  · have hall : ∀ x, x ∈ l → P x = false := fun x hx => ha x (by rw [List.take_of_length_le (by omega)]; exact hx)
    simp [t7, t8, hi', idxI_none hall, hsub]

theorem idx176 {α : Type} {enc : α → List AV} {S : AS} {u : AV} {l : List α} {f : FuncId} {caps : List AV} {P : α → Bool} (hz : ∀ x, (enc x).length = 4) (h : Sl S u 4 (l.flatMap enc)) (hb : l.length ≤ 9223372036854775807) (hf : (f == 228) = false)
    (hc : ∀ T, Sub S T → ∀ x, x ∈ l → CallW C0 f (.agg (enc x) :: caps) T fun v T' => v = .bool (P x) ∧ Sub T T') :
    CallW C0 176 [u, .func (.func f) [] caps] S fun v T => v = .int .i64 (idxI P l) ∧ Sub S T := by
  refine enterW (pu0 _) (pr0 _ rfl) fn176 rfl ok176 (by simp) fun F hn hs => ?_
  have s0 := hs 0
  have s1 := hs 1
  clear hs
  simp only [List.getElem?_cons_zero, List.getElem?_cons_succ, Option.getD_some] at s0 s1
  have u1 := h.sl
  have u2 := h.len_flat hz (by omega)
  simp [s0, s1, u1, u2]
  refine loopP_of (idxH S u (.func (.func f) [] caps) l P) l.length (idxH_mk 0 (Sub.refl S) (by simp [s0]) (by simp [s1]) (by simp) (by simp) (Nat.zero_le _) rfl (by simp)) ?_
  rintro k F' S' hn' ⟨i, hsub, t0, t1, t7, t8, hi, hk, ha⟩
  clear hn' s0 s1 hn
  by_cases hi' : i < l.length
  · have hx : l[i]? = some l[i] := List.getElem?_eq_getElem hi'
    have hl := loadT_el (cx := C0) (e := 142) (h.toSub hsub) hz (by omega) hx ag142 sz142
    obtain ⟨v, T', ⟨rfl, hs⟩, e⟩ := (hc S' hsub l[i] (List.getElem_mem hi')).ex
    cases hp : P l[i] with
    | true => simp [t0, t1, t7, t8, u1, u2, hi', hl, e, hp, ex0 f hf, hsub.trans hs, idxI_at hx hp ha]
    | false =>
      simp [t0, t1, t7, t8, u1, u2, hi', hl, e, hp, ex0 f hf]
      exact ⟨l.length - (i + 1), by omega, idxH_mk (i + 1) (hsub.trans hs) (by simp [t0]) (by simp [t1]) (by simp [t7]) (by simp [wrap_succ (show i < 9223372036854775807 by omega)]) hi' rfl (take_step hx hp ha)⟩
  · have hall : ∀ x, x ∈ l → P x = false := fun x hx => ha x (by rw [List.take_of_length_le (by omega)]; exact hx)
    simp [t7, t8, hi', idxI_none hall, hsub]

theorem con133 {α : Type} {enc : α → List AV} {S : AS} {u : AV} {l : List α} {f : FuncId} {caps : List AV} {P : α → Bool} (hz : ∀ x, (enc x).length = 4) (h : Sl S u 4 (l.flatMap enc)) (hb : l.length ≤ 9223372036854775807) (hf : (f == 228) = false)
    (hc : ∀ T, Sub S T → ∀ x, x ∈ l → CallW C0 f (.agg (enc x) :: caps) T fun v T' => v = .bool (P x) ∧ Sub T T') :
    CallW C0 133 [u, .func (.func f) [] caps] S fun v T => v = .bool (l.any P) ∧ Sub S T := by
  obtain ⟨v, T, ⟨rfl, hs⟩, e⟩ := (idx176 hz h hb hf hc).ex
  refine enterW (pu0 _) (pr0 _ rfl) fn133 rfl ok133 (by simp) fun F hn hs => ?_
  have s0 := hs 0
  have s1 := hs 1
  clear hs
  simp only [List.getElem?_cons_zero, List.getElem?_cons_succ, Option.getD_some] at s0 s1
  simp [s0, s1, e, ex0, hs, idxI_any]

theorem idx189 {α : Type} {enc : α → List AV} {S : AS} {u : AV} {l : List α} {f : FuncId} {caps : List AV} {P : α → Bool} (hz : ∀ x, (enc x).length = 4) (h : Sl S u 4 (l.flatMap enc)) (hb : l.length ≤ 9223372036854775807) (hf : (f == 228) = false)
    (hc : ∀ T, Sub S T → ∀ x, x ∈ l → CallW C0 f (.agg (enc x) :: caps) T fun v T' => v = .bool (P x) ∧ Sub T T') :
    CallW C0 189 [u, .func (.func f) [] caps] S fun v T => v = .int .i64 (idxI P l) ∧ Sub S T := by
  refine enterW (pu0 _) (pr0 _ rfl) fn189 rfl ok189 (by simp) fun F hn hs => ?_
  have s0 := hs 0
  have s1 := hs 1
  clear hs
  simp only [List.getElem?_cons_zero, List.getElem?_cons_succ, Option.getD_some] at s0 s1
  have u1 := h.sl
  have u2 := h.len_flat hz (by omega)
  simp [s0, s1, u1, u2]
  refine loopP_of (idxH S u (.func (.func f) [] caps) l P) l.length (idxH_mk 0 (Sub.refl S) (by simp [s0]) (by simp [s1]) (by simp) (by simp) (Nat.zero_le _) rfl (by simp)) ?_
  rintro k F' S' hn' ⟨i, hsub, t0, t1, t7, t8, hi, hk, ha⟩
  clear hn' s0 s1 hn
  by_cases hi' : i < l.length
  · have hx : l[i]? = some l[i] := List.getElem?_eq_getElem hi'
    have hl := loadT_el (cx := C0) (e := 102) (h.toSub hsub) hz (by omega) hx ag102 sz102
    obtain ⟨v, T', ⟨rfl, hs⟩, e⟩ := (hc S' hsub l[i] (List.getElem_mem hi')).ex
    cases hp : P l[i] with
    | true => simp [t0, t1, t7, t8, u1, u2, hi', hl, e, hp, ex0 f hf, hsub.trans hs, idxI_at hx hp ha]
    | false =>
      simp [t0, t1, t7, t8, u1, u2, hi', hl, e, hp, ex0 f hf]
      exact ⟨l.length - (i + 1), by omega, idxH_mk (i + 1) (hsub.trans hs) (by simp [t0]) (by simp [t1]) (by simp [t7]) (by simp [wrap_succ (show i < 9223372036854775807 by omega)]) hi' rfl (take_step hx hp ha)⟩
  · have hall : ∀ x, x ∈ l → P x = false := fun x hx => ha x (by rw [List.take_of_length_le (by omega)]; exact hx)
    simp [t7, t8, hi', idxI_none hall, hsub]

theorem con156 {α : Type} {enc : α → List AV} {S : AS} {u : AV} {l : List α} {f : FuncId} {caps : List AV} {P : α → Bool} (hz : ∀ x, (enc x).length = 4) (h : Sl S u 4 (l.flatMap enc)) (hb : l.length ≤ 9223372036854775807) (hf : (f == 228) = false)
    (hc : ∀ T, Sub S T → ∀ x, x ∈ l → CallW C0 f (.agg (enc x) :: caps) T fun v T' => v = .bool (P x) ∧ Sub T T') :
    CallW C0 156 [u, .func (.func f) [] caps] S fun v T => v = .bool (l.any P) ∧ Sub S T := by
  obtain ⟨v, T, ⟨rfl, hs⟩, e⟩ := (idx189 hz h hb hf hc).ex
  refine enterW (pu0 _) (pr0 _ rfl) fn156 rfl ok156 (by simp) fun F hn hs => ?_
  have s0 := hs 0
  have s1 := hs 1
  clear hs
  simp only [List.getElem?_cons_zero, List.getElem?_cons_succ, Option.getD_some] at s0 s1
  simp [s0, s1, e, ex0, hs, idxI_any]

theorem clone75 {S : AS} {v : AV} {cs : List AV} (h : Sl S v 5 cs) (hf : sLen v ≤ 2513169434843) : CallW C0 75 [v] S fun v' T => Sub S T ∧ Sl T v' 5 cs ∧ isNil v' = isNil v ∧ sLen v' = sLen v ∧ (bnd v' = 0 ∨ S.next < bnd v') := by
  refine enterW (pu0 _) (pr0 _ rfl) fn75 rfl ok75 (by simp) fun F hn hs => ?_
  have s0 := hs 0
  clear hs
  simp only [List.getElem?_cons_zero, Option.getD_some] at s0
  have h2 := h.sl
  cases hnil : isNil v with
  | true =>
    obtain ⟨rfl, rfl⟩ := h.isNil hnil
    simp [s0, Sub.refl, Sl.nil, bnd]
  | false =>
    have hx : Sl (⟨S.h.set S.next (.row [] 0 0 false 107), S.next + 1⟩ : AS) v 5 cs := ⟨h2, by rw [rdS_set h.old]; exact h.rd, h.len, Nat.le_succ_of_le h.old⟩
    have hfit : fits (sLen v) 56 = true := by simp [fits, nble]; omega
    obtain ⟨v', T, e1, r1, r2, r3, r4, r5, r6⟩ := append_empty (ts := []) st38 un38 rfl (get_set_same _ _ _) (Nat.lt_succ_self _) hx hfit
    have hsub : Sub S T := ((Sub.refl S).set _ _ (Nat.le_refl _) _ (Nat.le_succ _)).trans r2
    simp [s0, h2, hnil, e1, r1.np, hsub, r1, r3, r4]
    rcases r6 with r6 | r6
    · rw [r6]; exact .inr (Nat.lt_succ_self _)
    · exact .inr (Nat.lt_of_succ_lt r6)

end Go.Proofs.YtedonhemfhfbaaaGreat.mod

namespace Go.Proofs.YtedonhemfhfbaaaGreat.mod
open Go Go.Am
set_option linter.unusedVariables false
set_option linter.unusedSimpArgs false

theorem fn214 : C0.fns.get 214 = some Tryz.f214 := by kernel_rfl
theorem ok214 : codeOk C0 Tryz.f214.ntmps (Tryz.f214.body.getD .skip) = true := by kernel_rfl
theorem fn215 : C0.fns.get 215 = some Tryz.f215 := by kernel_rfl
theorem ok215 : codeOk C0 Tryz.f215.ntmps (Tryz.f215.body.getD .skip) = true := by kernel_rfl
theorem fn216 : C0.fns.get 216 = some Tryz.f216 := by kernel_rfl
theorem ok216 : codeOk C0 Tryz.f216.ntmps (Tryz.f216.body.getD .skip) = true := by kernel_rfl

structure Val where
  kind : Int
  num : Int
  str : List Nat
  bool : Bool
def encV (v : Val) : List AV := [.int .i64 v.kind, .int .i64 v.num, .str v.str, .bool v.bool]
theorem encV_len (v : Val) : (encV v).length = 4 := rfl
@[simp] theorem bld102a (n : Int) : buildA C0 102 [(0, .int .i64 1), (1, .int .i64 n)] = some (.agg [.int .i64 1, .int .i64 n, .str [], .bool false]) := by kernel_rfl
@[simp] theorem bld102b (s : List Nat) : buildA C0 102 [(0, .int .i64 2), (2, .str s)] = some (.agg [.int .i64 2, .int .i64 0, .str s, .bool false]) := by kernel_rfl
@[simp] theorem bld102c (b : Bool) : buildA C0 102 [(0, .int .i64 3), (3, .bool b)] = some (.agg [.int .i64 3, .int .i64 0, .str [], .bool b]) := by kernel_rfl
@[simp] theorem bld102d : buildA C0 102 [] = some (.agg [.int .i64 0, .int .i64 0, .str [], .bool false]) := by kernel_rfl

theorem sub1 {S : AS} {o : AObj} : Sub S ⟨S.h.set S.next o, S.next + 1⟩ := (Sub.refl S).set _ _ (Nat.le_refl _) _ (Nat.le_succ _)
theorem sub1s {S : AS} {o o' : AObj} : Sub S ⟨(S.h.set S.next o).set S.next o', S.next + 1⟩ := sub1.set _ _ (Nat.le_refl _) _ (Nat.le_refl _)
theorem sub2 {S : AS} {o o' : AObj} : Sub S ⟨(S.h.set S.next o).set (S.next + 1) o', S.next + 2⟩ := sub1.set _ _ (Nat.le_succ _) _ (Nat.le_succ _)

theorem number (n : Int) (S : AS) : CallW C0 74 [.int .i64 n] S fun v T => v = .agg [.int .i64 1, .int .i64 n, .str [], .bool false] ∧ Sub S T := by
  refine enterW (pu0 _) (pr0 _ rfl) fn74 rfl ok74 (by simp) fun F hn hs => ?_
  have s0 := hs 0
  clear hs
  simp only [List.getElem?_cons_zero, Option.getD_some] at s0
  simp [s0, sub1s]
theorem word (s : List Nat) (S : AS) : CallW C0 191 [.str s] S fun v T => v = .agg [.int .i64 2, .int .i64 0, .str s, .bool false] ∧ Sub S T := by
  refine enterW (pu0 _) (pr0 _ rfl) fn191 rfl ok191 (by simp) fun F hn hs => ?_
  have s0 := hs 0
  clear hs
  simp only [List.getElem?_cons_zero, Option.getD_some] at s0
  simp [s0, sub1s]
theorem truth (b : Bool) (S : AS) : CallW C0 192 [.bool b] S fun v T => v = .agg [.int .i64 3, .int .i64 0, .str [], .bool b] ∧ Sub S T := by
  refine enterW (pu0 _) (pr0 _ rfl) fn192 rfl ok192 (by simp) fun F hn hs => ?_
  have s0 := hs 0
  clear hs
  simp only [List.getElem?_cons_zero, Option.getD_some] at s0
  simp [s0, sub1s]

def hasV (v : Val) : AV := if v.kind = 1 then .iface 2 (.int .i64 v.num) else if v.kind = 2 then .iface 9 (.str v.str) else if v.kind = 3 then .iface 4 (.bool v.bool) else .niface
theorem has (v : Val) (S : AS) : CallW C0 190 [.agg (encV v)] S fun r T => r = hasV v ∧ Sub S T := by
  refine enterW (pu0 _) (pr0 _ rfl) fn190 rfl ok190 (by simp) fun F hn hs => ?_
  have s0 := hs 0
  clear hs
  simp only [List.getElem?_cons_zero, Option.getD_some, encV] at s0
  unfold hasV
  by_cases h1 : v.kind = 1
  · simp [s0, h1, sub1]
  by_cases h2 : v.kind = 2
  · simp [s0, h2, sub1]
  by_cases h3 : v.kind = 3
  · simp [s0, h3, sub1]
  simp [s0, h1, h2, h3, sub1]
def rankI (b : Bool) : Int := cond b 1 0
theorem rank (b : Bool) (S : AS) : CallW C0 196 [.bool b] S fun v T => v = .int .i64 (rankI b) ∧ T = S := by
  refine enterW (pu0 _) (pr0 _ rfl) fn196 rfl ok196 (by simp) fun F hn hs => ?_
  have s0 := hs 0
  clear hs
  simp only [List.getElem?_cons_zero, Option.getD_some] at s0
  cases b <;> simp [s0, rankI]

def cmpI (a b : Int) : Int := if a < b then -1 else if b < a then 1 else 0
noncomputable def cmpS (a b : List Nat) : Int := cond (ltS a b) (-1) (cond (eqS a b) 0 1)
theorem nan214 (a : Int) {S : AS} {Q : AV → AS → Prop} : CallW C0 214 [.int .i64 a] S Q = Q (.bool false) S := by
  refine CallW.eq (enterW (pu0 _) (pr0 _ rfl) fn214 rfl ok214 (by simp) fun F hn hs => ?_)
  have s0 := hs 0
  clear hs
  simp only [List.getElem?_cons_zero, Option.getD_some] at s0
  simp [s0]
theorem nan215 (a : Int) {S : AS} {Q : AV → AS → Prop} : CallW C0 215 [.int .i64 a] S Q = Q (.bool false) S := by
  refine CallW.eq (enterW (pu0 _) (pr0 _ rfl) fn215 rfl ok215 (by simp) fun F hn hs => ?_)
  have s0 := hs 0
  clear hs
  simp only [List.getElem?_cons_zero, Option.getD_some] at s0
  simp [s0]
theorem cmp193 (a b : Int) {S : AS} {Q : AV → AS → Prop} : CallW C0 193 [.int .i64 a, .int .i64 b] S Q = Q (.int .i64 (cmpI a b)) S := by
  refine CallW.eq (enterW (pu0 _) (pr0 _ rfl) fn193 rfl ok193 (by simp) fun F hn hs => ?_)
  have s0 := hs 0
  have s1 := hs 1
  clear hs
  simp only [List.getElem?_cons_zero, List.getElem?_cons_succ, Option.getD_some] at s0 s1
  unfold cmpI
  by_cases h1 : a < b
  · simp [s0, s1, h1, ex0, nan214]
  by_cases h2 : b < a
  · simp [s0, s1, h1, h2, ex0, nan214]
  simp [s0, s1, h1, h2, ex0, nan214]
theorem cmp194 (a b : Int) {S : AS} {Q : AV → AS → Prop} : CallW C0 194 [.int .i64 a, .int .i64 b] S Q = Q (.int .i64 (cmpI a b)) S := by
  refine CallW.eq (enterW (pu0 _) (pr0 _ rfl) fn194 rfl ok194 (by simp) fun F hn hs => ?_)
  have s0 := hs 0
  have s1 := hs 1
  clear hs
  simp only [List.getElem?_cons_zero, List.getElem?_cons_succ, Option.getD_some] at s0 s1
  unfold cmpI
  by_cases h1 : a < b
  · simp [s0, s1, h1, ex0, nan215]
  by_cases h2 : b < a
  · simp [s0, s1, h1, h2, ex0, nan215]
  simp [s0, s1, h1, h2, ex0, nan215]
theorem cmp216 (a b : List Nat) {S : AS} {Q : AV → AS → Prop} : CallW C0 216 [.str a, .str b] S Q = Q (.int .i64 (cmpS a b)) S := by
  refine CallW.eq (enterW (pu0 _) (pr0 _ rfl) fn216 rfl ok216 (by simp) fun F hn hs => ?_)
  have s0 := hs 0
  have s1 := hs 1
  clear hs
  simp only [List.getElem?_cons_zero, List.getElem?_cons_succ, Option.getD_some] at s0 s1
  unfold cmpS
  cases h1 : ltS a b <;> cases h2 : eqS a b <;> simp [s0, s1, ex228, h1, h2]
theorem cmp195 (a b : List Nat) {S : AS} {Q : AV → AS → Prop} : CallW C0 195 [.str a, .str b] S Q = Q (.int .i64 (cmpS a b)) S := by
  refine CallW.eq (enterW (pu0 _) (pr0 _ rfl) fn195 rfl ok195 (by simp) fun F hn hs => ?_)
  have s0 := hs 0
  have s1 := hs 1
  clear hs
  simp only [List.getElem?_cons_zero, List.getElem?_cons_succ, Option.getD_some] at s0 s1
  simp [s0, s1, ex0, cmp216]

noncomputable def cmpV (a b : Val) : Int :=
  if a.kind ≠ b.kind then cmpI a.kind b.kind else if a.kind = 1 then cmpI a.num b.num else if a.kind = 2 then cmpS a.str b.str else if a.kind = 3 then cmpI (rankI a.bool) (rankI b.bool) else 0
end Go.Proofs.YtedonhemfhfbaaaGreat.mod

namespace Go.Proofs.YtedonhemfhfbaaaGreat.mod
open Go Go.Am
set_option linter.unusedVariables false
set_option linter.unusedSimpArgs false

theorem nt161 : Tryz.f161.ntmps = 43 := by kernel_rfl
theorem compare (a b : Val) (S : AS) : CallW C0 161 [.agg (encV a), .agg (encV b)] S fun r T => r = .int .i64 (cmpV a b) ∧ Sub S T := by
  obtain ⟨v, T, ⟨rfl, hT⟩, e⟩ := (has a ⟨(S.h.set S.next (.row (encV a) 0 0 false 102)).set (S.next + 1) (.row (encV b) 0 0 false 102), S.next + 2⟩).ex
  have hT2 : Sub S T := Sub.trans sub2 hT
  have g0 : T.h.get (S.next + 1) = some (.row (encV b) 0 0 false 102) := by
    rw [hT.h _ (Nat.lt_succ_self _)]; exact get_set_same _ _ _
  refine enterW (pu0 _) (pr0 _ rfl) fn161 rfl ok161 (by simp) fun F hn hs => ?_
  rw [nt161] at hn
  have s0 := hs 0
  have s1 := hs 1
  clear hs
  obtain ⟨ak, an, ax, ab⟩ := a
  obtain ⟨bk, bn, bx, bb⟩ := b
  simp only [List.getElem?_cons_zero, List.getElem?_cons_succ, Option.getD_some, encV, hasV] at s0 s1 e g0
  unfold cmpV
  by_cases hk : ak = bk
  · subst hk
    by_cases h1 : ak = 1
    · subst h1
      simp [s0, s1, ex0, e, g0, cmp194, hT2]
    by_cases h2 : ak = 2
    · subst h2
      simp at e
      simp [s0, s1, ex0, e, g0, cmp195, hT2]
    by_cases h3 : ak = 3
    · subst h3
      simp at e
      obtain ⟨r1, T1, ⟨rfl, rfl⟩, e1⟩ := (rank ab T).ex
      obtain ⟨r2, T2, ⟨rfl, rfl⟩, e2⟩ := (rank bb T1).ex
      simp [s0, s1, ex0, e, g0, hn]
      refine draws [.p, .e [], .p, .r 1 0, .e [], .e [], .p] (n := 43) (by kernel_rfl) (by simp [hn]) ?_
      simp [s0, s1, ex0, e, e1, e2, g0, cmp193, hT2]
    · simp [h1, h2, h3] at e
      simp [s0, s1, h1, h2, h3, ex0, e, g0, hT2]
  · simp [s0, s1, hk, ex0, cmp193, sub2]
end Go.Proofs.YtedonhemfhfbaaaGreat.mod

namespace Go.Proofs.YtedonhemfhfbaaaGreat.mod
open Go Go.Am
set_option linter.unusedVariables false
set_option linter.unusedSimpArgs false

/-- Two values are alike. -/
noncomputable def sameB (a b : Val) : Bool := decide (a.kind = b.kind) && (decide (a.num = b.num) && (eqS a.str b.str && (a.bool == b.bool)))
def andS (a r : Option Bool) : Option Bool := match a with | some true => r | x => x
theorem eqv102 (c : Bool) (a b : Val) : binV C0 .eql 102 c (.agg (encV a)) (.agg (encV b)) = some (.bool (sameB a b)) := by
  obtain ⟨ak, an, ax, ab⟩ := a
  obtain ⟨bk, bn, bx, bb⟩ := b
  refine bin_eql_agg ?_
  have e : eqV C0 102 c (.agg [.int .i64 ak, .int .i64 an, .str ax, .bool ab]) (.agg [.int .i64 bk, .int .i64 bn, .str bx, .bool bb]) =
      andS (some (eqI ak bk)) (andS (some (eqI an bn)) (andS (some (eqS ax bx)) (andS (some (ab == bb)) (some true)))) := by kernel_rfl
  simp only [encV]
  rw [e, eqI_eq, eqI_eq]
  unfold sameB andS
  cases decide (ak = bk) <;> cases decide (an = bn) <;> cases eqS ax bx <;> cases (ab == bb) <;> rfl
theorem eqc102 (c : Bool) (ak an : Int) (ax : List Nat) (ab : Bool) (bk bn : Int) (bx : List Nat) (bb : Bool) :
    binV C0 .eql 102 c (.agg [.int .i64 ak, .int .i64 an, .str ax, .bool ab]) (.agg [.int .i64 bk, .int .i64 bn, .str bx, .bool bb]) = some (.bool (sameB ⟨ak, an, ax, ab⟩ ⟨bk, bn, bx, bb⟩)) := eqv102 c ⟨ak, an, ax, ab⟩ ⟨bk, bn, bx, bb⟩

noncomputable def mayV (v : Val) : Bool :=
  if v.kind = 1 then sameB v ⟨1, v.num, [], false⟩ else if v.kind = 2 then sameB v ⟨2, 0, v.str, false⟩ && decide (v.str.length ≤ 32) else if v.kind = 3 then sameB v ⟨3, 0, [], v.bool⟩ else false
theorem nt158 : Tryz.f158.ntmps = 34 := by kernel_rfl
theorem un9 : und C0 9 = some .string := by kernel_rfl
theorem mayIs (v : Val) (S : AS) : CallW C0 158 [.agg (encV v)] S fun r T => r = .bool (mayV v) ∧ Sub S T := by
  obtain ⟨u, T, ⟨rfl, hT⟩, e⟩ := (has v ⟨S.h.set S.next (.row (encV v) 0 0 false 102), S.next + 1⟩).ex
  have hT2 : Sub S T := Sub.trans sub1 hT
  have g0 : T.h.get S.next = some (.row (encV v) 0 0 false 102) := by
    rw [hT.h _ (Nat.lt_succ_self _)]; exact get_set_same _ _ _
  have hTn : S.next < T.next := hT.next
  refine enterW (pu0 _) (pr0 _ rfl) fn158 rfl ok158 (by simp) fun F hn hs => ?_
  rw [nt158] at hn
  have s0 := hs 0
  clear hs
  obtain ⟨k, n, s, b⟩ := v
  simp only [List.getElem?_cons_zero, List.getElem?_cons_succ, Option.getD_some, encV, hasV] at s0 e g0
  unfold mayV
  by_cases h1 : k = 1
  · subst h1
    obtain ⟨r1, T1, ⟨rfl, hs1⟩, e1⟩ := (number n T).ex
    have g1 : T1.h.get S.next = some (.row [.int .i64 1, .int .i64 n, .str s, .bool b] 0 0 false 102) := by rw [hs1.h _ hTn]; exact g0
    simp [s0, ex0, e, g0, hn]
    refine draws [.r 0 1, .p, .e [], .p, .p] (n := 34) (by kernel_rfl) (by simp [hn]) ?_
    simp [s0, ex0, e, e1, g0, g1, eqc102, hT2.trans hs1]
  by_cases h2 : k = 2
  · subst h2
    simp at e
    obtain ⟨r1, T1, ⟨rfl, hs1⟩, e1⟩ := (word s T).ex
    have g1 : T1.h.get S.next = some (.row [.int .i64 2, .int .i64 n, .str s, .bool b] 0 0 false 102) := by rw [hs1.h _ hTn]; exact g0
    simp [s0, ex0, e, g0, hn]
    refine draws [.r 0 1, .p, .e [], .p, .p, .p, .r 0 0, .p, .p, .p] (n := 34) (by kernel_rfl) (by simp [hn]) ?_
    cases hb : sameB ⟨2, n, s, b⟩ ⟨2, 0, s, false⟩ with
    | true =>
      have c1 : decide (((s.length : Nat) : Int) ≤ 32) = decide (s.length ≤ 32) := by
        by_cases hh : s.length ≤ 32 <;> simp [hh] <;> omega
      simp [s0, ex0, e, e1, g0, g1, eqc102, hb, len_str un9, hT2.trans hs1, c1]
    | false => simp [s0, ex0, e, e1, g0, g1, eqc102, hb, hT2.trans hs1]
  by_cases h3 : k = 3
  · subst h3
    simp at e
    obtain ⟨r1, T1, ⟨rfl, hs1⟩, e1⟩ := (truth b T).ex
    have g1 : T1.h.get S.next = some (.row [.int .i64 3, .int .i64 n, .str s, .bool b] 0 0 false 102) := by rw [hs1.h _ hTn]; exact g0
    simp [s0, ex0, e, g0, hn]
    refine draws [.r 0 1, .p, .e [], .p, .p] (n := 34) (by kernel_rfl) (by simp [hn]) ?_
    simp [s0, ex0, e, e1, g0, g1, eqc102, hT2.trans hs1]
  · simp [h1, h2, h3] at e
    simp [s0, h1, h2, h3, ex0, e, g0, hT2]
end Go.Proofs.YtedonhemfhfbaaaGreat.mod

namespace Go.Proofs.YtedonhemfhfbaaaGreat.mod
open Go Go.Am
set_option linter.unusedVariables false
set_option linter.unusedSimpArgs false

/-! ### Attributes -/
structure Att where
  name : List Nat
  val : Val
def encA (a : Att) : List AV := .str a.name :: encV a.val
theorem encA_len (a : Att) : (encA a).length = 5 := rfl
def zeroV : Val := ⟨0, 0, [], false⟩
noncomputable def getA (l : List Att) (n : List Nat) : Option Val := (l.find? fun a => eqS a.name n).map Att.val
theorem get1 (a : Att) (n : List Nat) (id : Nat) {S : AS} (hid : S.h.get id = some (.row [.str n] 0 0 false 9)) (hlt : id < S.next) :
    CallW C0 130 [.agg (encA a), .ptr id 0 0 1] S fun v T => v = .bool (eqS a.name n) ∧ Sub S T := by
  refine enterW (pu0 _) (pr0 _ rfl) fn130 rfl ok130 (by simp) fun F hn hs => ?_
  have s0 := hs 0
  have s1 := hs 1
  clear hs
  simp only [List.getElem?_cons_zero, List.getElem?_cons_succ, Option.getD_some, encA, encV] at s0 s1
  simp [s0, s1, hid, ne_lt hlt, sub1]
theorem getA_none {l : List Att} {n : List Nat} (h : idxI (fun a : Att => eqS a.name n) l < 0) : getA l n = none := by
  unfold idxI at h
  cases hf : l.findIdx? (fun a : Att => eqS a.name n) with
  | none =>
    have := List.findIdx?_eq_none_iff.1 hf
    unfold getA
    rw [List.find?_eq_none.2 (fun x hx => by simp [this x hx])]
    rfl
  | some i => rw [hf] at h; simp at h; omega
theorem getA_some {l : List Att} {n : List Nat} (h : ¬ idxI (fun a : Att => eqS a.name n) l < 0) : ∃ (i : Nat) (a : Att), idxI (fun a : Att => eqS a.name n) l = i ∧ l[i]? = some a ∧ getA l n = some a.val := by
  unfold idxI at h ⊢
  cases hf : l.findIdx? (fun a : Att => eqS a.name n) with
  | none => rw [hf] at h; exact absurd (by decide) h
  | some i =>
    obtain ⟨hi, hp, ha⟩ := List.findIdx?_eq_some_iff_getElem.1 hf
    refine ⟨i, l[i], rfl, List.getElem?_eq_getElem hi, ?_⟩
    have hfi : l.find? (fun a : Att => eqS a.name n) = some l[i] := List.find?_eq_some_iff_getElem.2 ⟨hp, i, hi, rfl, fun j hj => by simpa using ha j hj⟩
    unfold getA
    rw [hfi]
    rfl
theorem get {S : AS} {u : AV} {l : List Att} {key n : List Nat} (h : Sl S u 5 (l.flatMap encA)) (hb : l.length ≤ 2513169434843) :
    CallW C0 78 [.agg [.str key, u], .str n] S fun v T => v = .tuple [.agg (encV ((getA l n).getD zeroV)), .bool (getA l n).isSome] ∧ Sub S T := by
  have hS : Sub S ⟨((S.h.set S.next (.row [.str key, u] 0 0 false 40)).set (S.next + 1) (.row [.str n] 0 0 false 9)).set (S.next + 2) (.row [.int .i64 0, .int .i64 0, .str [], .bool false] 0 0 false 102), S.next + 3⟩ :=
    sub2.set _ _ (Nat.le_add_right _ _) _ (Nat.le_succ _)
  obtain ⟨v, T, ⟨rfl, hT⟩, e⟩ := (idx129 (P := fun a : Att => eqS a.name n) (f := 130) (caps := [.ptr (S.next + 1) 0 0 1]) encA_len (h.toSub hS) (by omega) rfl (fun T hT x hx => get1 x n (S.next + 1)
    (by rw [hT.h _ (by show S.next + 1 < S.next + 3; omega)]; simp only [get_set_ne _ _ (show S.next + 1 ≠ S.next + 2 by omega)]; exact get_set_same _ _ _) (by have := hT.next; exact Nat.lt_of_lt_of_le (by show S.next + 1 < S.next + 3; omega) this))).ex
  have hT2 := Sub.trans hS hT
  have g0 : T.h.get S.next = some (.row [.str key, u] 0 0 false 40) := by
    rw [hT.h _ (by show S.next < S.next + 3; omega)]
    simp only [get_set_ne _ _ (show S.next ≠ S.next + 2 by omega), get_set_ne _ _ (show S.next ≠ S.next + 1 by omega)]; exact get_set_same _ _ _
  have g2 : T.h.get (S.next + 2) = some (.row [.int .i64 0, .int .i64 0, .str [], .bool false] 0 0 false 102) := by
    rw [hT.h _ (by show S.next + 2 < S.next + 3; omega)]; exact get_set_same _ _ _
  have hTn : S.next + 3 ≤ T.next := hT.next
  have hl := h.toSub hT2
  have u1 := h.sl
  have u2 := h.len_flat encA_len (by omega)
  refine enterW (pu0 _) (pr0 _ rfl) fn78 rfl ok78 (by simp) fun F hn hs => ?_
  have s0 := hs 0
  have s1 := hs 1
  clear hs
  simp only [List.getElem?_cons_zero, List.getElem?_cons_succ, Option.getD_some] at s0 s1
  by_cases hi : idxI (fun a : Att => eqS a.name n) l < 0
  · have hg := getA_none hi
    simp [s0, s1, h.cells, ex0, e, g0, g2, hi, hg, encV, zeroV]
    exact hT2.set _ _ (Nat.le_add_right _ _) _ (Nat.le_refl _)
  · obtain ⟨i, a, h1, h2, h3⟩ := getA_some hi
    rw [h1] at e
    have hilt : i < l.length := (List.getElem?_eq_some_iff.1 h2).1
    have hp := isP_pAt (k := i) u1 (by rw [u2]; exact hilt)
    have hld := loadT_ela (cx := C0) (e := 102) (o := 1) (n' := 4) hl encA_len (by omega) h2 (by omega) ag102 sz102
    simp [encA] at hld
    have hi0 : ¬ ((i : Int) < 0) := by omega
    simp [s0, s1, h.cells, ex0, e, g0, g2, u1, u2, hilt, fieldP_add hp, hld, h3, encV, hi0]
    exact hT2.set _ _ (Nat.le_add_right _ _) _ (Nat.le_refl _)
end Go.Proofs.YtedonhemfhfbaaaGreat.mod

namespace Go.Proofs.YtedonhemfhfbaaaGreat.mod
open Go Go.Am
set_option linter.unusedVariables false
set_option linter.unusedSimpArgs false

structure Con where
  name : List Nat
  op : Int
  val : Val
  setv : AV
  vals : List Val
def encC (c : Con) : List AV := [.str c.name, .int .i64 c.op, .int .i64 c.val.kind, .int .i64 c.val.num, .str c.val.str, .bool c.val.bool, c.setv]
theorem encC_len (c : Con) : (encC c).length = 7 := rfl
/-- Its set lies in memory. -/
structure ConOk (S : AS) (c : Con) : Prop where
  sl : Sl S c.setv 4 (c.vals.flatMap encV)
  le : c.vals.length ≤ 9223372036854775807
theorem ConOk.sub {S T : AS} {c : Con} (h : ConOk S c) (hs : Sub S T) : ConOk T c := ⟨h.sl.toSub hs, h.le⟩

def opB (op n : Int) : Bool := if op = 2 then decide (n = 0) else if op = 3 then decide (n ≠ 0) else if op = 4 then decide (n < 0) else if op = 5 then decide (n ≤ 0) else if op = 6 then decide (0 < n) else decide (0 ≤ n)
theorem op163 (n : Int) {S : AS} {Q : AV → AS → Prop} : CallW C0 163 [.int .i64 n] S Q = Q (.bool (decide (n = 0))) S := by
  refine CallW.eq (enterW (pu0 _) (pr0 _ rfl) fn163 rfl ok163 (by simp) fun F hn hs => ?_)
  have s0 := hs 0
  clear hs
  simp only [List.getElem?_cons_zero, Option.getD_some] at s0
  simp [s0]
theorem op164 (n : Int) {S : AS} {Q : AV → AS → Prop} : CallW C0 164 [.int .i64 n] S Q = Q (.bool (decide (n ≠ 0))) S := by
  refine CallW.eq (enterW (pu0 _) (pr0 _ rfl) fn164 rfl ok164 (by simp) fun F hn hs => ?_)
  have s0 := hs 0
  clear hs
  simp only [List.getElem?_cons_zero, Option.getD_some] at s0
  simp [s0]
theorem op165 (n : Int) {S : AS} {Q : AV → AS → Prop} : CallW C0 165 [.int .i64 n] S Q = Q (.bool (decide (n < 0))) S := by
  refine CallW.eq (enterW (pu0 _) (pr0 _ rfl) fn165 rfl ok165 (by simp) fun F hn hs => ?_)
  have s0 := hs 0
  clear hs
  simp only [List.getElem?_cons_zero, Option.getD_some] at s0
  simp [s0]
theorem op166 (n : Int) {S : AS} {Q : AV → AS → Prop} : CallW C0 166 [.int .i64 n] S Q = Q (.bool (decide (n ≤ 0))) S := by
  refine CallW.eq (enterW (pu0 _) (pr0 _ rfl) fn166 rfl ok166 (by simp) fun F hn hs => ?_)
  have s0 := hs 0
  clear hs
  simp only [List.getElem?_cons_zero, Option.getD_some] at s0
  simp [s0]
theorem op167 (n : Int) {S : AS} {Q : AV → AS → Prop} : CallW C0 167 [.int .i64 n] S Q = Q (.bool (decide (0 < n))) S := by
  refine CallW.eq (enterW (pu0 _) (pr0 _ rfl) fn167 rfl ok167 (by simp) fun F hn hs => ?_)
  have s0 := hs 0
  clear hs
  simp only [List.getElem?_cons_zero, Option.getD_some] at s0
  simp [s0]
theorem op168 (n : Int) {S : AS} {Q : AV → AS → Prop} : CallW C0 168 [.int .i64 n] S Q = Q (.bool (decide (0 ≤ n))) S := by
  refine CallW.eq (enterW (pu0 _) (pr0 _ rfl) fn168 rfl ok168 (by simp) fun F hn hs => ?_)
  have s0 := hs 0
  clear hs
  simp only [List.getElem?_cons_zero, Option.getD_some] at s0
  simp [s0]
theorem ask162 (v : AV) (l : List AV) (hv : cellsOf v = some l) (S : AS) : CallW C0 162 [v] S fun r T => r = .bool true ∧ Sub S T := by
  refine enterW (pu0 _) (pr0 _ rfl) fn162 rfl ok162 (by simp) fun F hn hs => ?_
  have s0 := hs 0
  clear hs
  simp only [List.getElem?_cons_zero, Option.getD_some] at s0
  simp [s0, hv, sub1]
theorem ask173 (v : AV) (l : List AV) (hv : cellsOf v = some l) (S : AS) : CallW C0 173 [v] S fun r T => r = .bool false ∧ Sub S T := by
  refine enterW (pu0 _) (pr0 _ rfl) fn173 rfl ok173 (by simp) fun F hn hs => ?_
  have s0 := hs 0
  clear hs
  simp only [List.getElem?_cons_zero, Option.getD_some] at s0
  simp [s0, hv, sub1]
/-- The closure that compares. -/
theorem nt160 : Tryz.f160.ntmps = 19 := by kernel_rfl
theorem ask160 (x : Val) (c : Con) (g : FuncId) (P : Int → Bool) (i j : Nat) (hg : (g == 228) = false) (hP : ∀ (n : Int) (T : AS) (Q : AV → AS → Prop), CallW C0 g [.int .i64 n] T Q = Q (.bool (P n)) T) {S : AS} (hi : S.h.get i = some (.row (encC c) 0 0 false 105)) (hj : S.h.get j = some (.row [.func (.func g) [] []] 0 0 false 73)) (hil : i < S.next) (hjl : j < S.next) :
    CallW C0 160 [.agg (encV x), .ptr i 0 0 7, .ptr j 0 0 1] S fun r T => r = .bool (decide (x.kind = c.val.kind) && P (cmpV x c.val)) ∧ Sub S T := by
  obtain ⟨v, T, ⟨rfl, hT⟩, e⟩ := (compare x c.val ⟨S.h.set S.next (.row (encV x) 0 0 false 102), S.next + 1⟩).ex
  have g0 : T.h.get S.next = some (.row (encV x) 0 0 false 102) := by rw [hT.h _ (Nat.lt_succ_self _)]; exact get_set_same _ _ _
  have gi : T.h.get i = some (.row (encC c) 0 0 false 105) := by
    rw [hT.h _ (Nat.lt_succ_of_lt hil)]; simp only [get_set_ne _ _ (show i ≠ S.next by omega)]; exact hi
  have gj : T.h.get j = some (.row [.func (.func g) [] []] 0 0 false 73) := by
    rw [hT.h _ (Nat.lt_succ_of_lt hjl)]; simp only [get_set_ne _ _ (show j ≠ S.next by omega)]; exact hj
  refine enterW (pu0 _) (pr0 _ rfl) fn160 rfl ok160 (by simp) fun F hn hs => ?_
  rw [nt160] at hn
  have s0 := hs 0
  have s1 := hs 1
  have s2 := hs 2
  clear hs
  have hT2 := Sub.trans sub1 hT
  obtain ⟨xk, xn, xx, xb⟩ := x
  simp only [List.getElem?_cons_zero, List.getElem?_cons_succ, Option.getD_some, encV, encC] at s0 s1 s2 e g0 gi gj hi
  simp [s0, s1, s2, hn]
  refine draws [.p, .r 0 0, .p, .p, .r 0 0, .p, .p, .r 0 1, .r 0 0, .p, .r 0 0, .e [], .e [], .p, .p] (n := 19) (by kernel_rfl) (by simp [hn]) ?_
  by_cases hk : xk = c.val.kind
  · subst hk
    simp [s0, s1, s2, hi, hj, ne_lt hil, ne_lt hjl, e, g0, gi, gj, ex0, ex0 g hg, hP, hT2, baseL]
  · simp [s0, s1, s2, hi, hj, ne_lt hil, ne_lt hjl, hk, ex0, sub1]
    rfl
end Go.Proofs.YtedonhemfhfbaaaGreat.mod

namespace Go.Proofs.YtedonhemfhfbaaaGreat.mod
open Go Go.Am
set_option linter.unusedVariables false
set_option linter.unusedSimpArgs false

noncomputable def prefB (a b : List Nat) : Bool := decide (b.length ≤ a.length) && eqS (a.take b.length) b
theorem slice_str {F : Fr} {a : List Nat} {y : Operand} {m : Nat} (h : natOf (eval F y) = some m) (hm : m ≤ a.length) : sliceV C0 F 9 (.str a) none (some y) none = some (.str (a.take m)) := by
  unfold sliceV
  have e : bounds F a.length a.length none (some y) none = some (0, m, a.length) := by
    unfold bounds
    simp only [bound_none, bound_some, h]
    simp [nble, hm, isS]
  rw [un9]
  simp only [e]
  simp [isS, takeN_eq, dropN_eq]
theorem pre197 (a b : List Nat) {S : AS} {Q : AV → AS → Prop} : CallW C0 197 [.str a, .str b] S Q = Q (.bool (prefB a b)) S := by
  refine CallW.eq (enterW (pu0 _) (pr0 _ rfl) fn197 rfl ok197 (by simp) fun F hn hs => ?_)
  have s0 := hs 0
  have s1 := hs 1
  clear hs
  simp only [List.getElem?_cons_zero, List.getElem?_cons_succ, Option.getD_some] at s0 s1
  unfold prefB
  by_cases h : b.length ≤ a.length
  · have h' : (b.length : Int) ≤ (a.length : Int) := by omega
    simp [s0, s1, len_str un9, h, h', slice_str (m := b.length)]
  · have h' : ¬ (b.length : Int) ≤ (a.length : Int) := by omega
    simp [s0, s1, len_str un9, h, h']
theorem pre170 (a b : List Nat) {S : AS} {Q : AV → AS → Prop} : CallW C0 170 [.str a, .str b] S Q = Q (.bool (prefB a b)) S := by
  refine CallW.eq (enterW (pu0 _) (pr0 _ rfl) fn170 rfl ok170 (by simp) fun F hn hs => ?_)
  have s0 := hs 0
  have s1 := hs 1
  clear hs
  simp only [List.getElem?_cons_zero, List.getElem?_cons_succ, Option.getD_some] at s0 s1
  simp [s0, s1, ex0, pre197]
theorem ask169 (x : Val) (c : Con) (i : Nat) {S : AS} (hi : S.h.get i = some (.row (encC c) 0 0 false 105)) (hil : i < S.next) :
    CallW C0 169 [.agg (encV x), .ptr i 0 0 7] S fun r T => r = .bool (decide (x.kind = 2) && (decide (c.val.kind = 2) && prefB x.str c.val.str)) ∧ Sub S T := by
  refine enterW (pu0 _) (pr0 _ rfl) fn169 rfl ok169 (by simp) fun F hn hs => ?_
  have s0 := hs 0
  have s1 := hs 1
  clear hs
  simp only [List.getElem?_cons_zero, List.getElem?_cons_succ, Option.getD_some, encV, encC] at s0 s1 hi
  by_cases h1 : x.kind = 2
  · by_cases h2 : c.val.kind = 2
    · simp [s0, s1, hi, ne_lt hil, h1, h2, ex0, pre170, sub1]
    · simp [s0, s1, hi, ne_lt hil, h1, h2, ex0, pre170, sub1]
  · simp [s0, s1, hi, ne_lt hil, h1, ex0, pre170, sub1]
theorem ask172 (x y : Val) (i : Nat) {S : AS} (hi : S.h.get i = some (.row (encV x) 0 0 false 102)) (hil : i < S.next) :
    CallW C0 172 [.agg (encV y), .ptr i 0 0 4] S fun r T => r = .bool (decide (cmpV x y = 0)) ∧ Sub S T := by
  obtain ⟨v, T, ⟨rfl, hT⟩, e⟩ := (compare x y ⟨S.h.set S.next (.row (encV y) 0 0 false 102), S.next + 1⟩).ex
  refine enterW (pu0 _) (pr0 _ rfl) fn172 rfl ok172 (by simp) fun F hn hs => ?_
  have s0 := hs 0
  have s1 := hs 1
  clear hs
  simp only [List.getElem?_cons_zero, List.getElem?_cons_succ, Option.getD_some, encV] at s0 s1 hi e
  simp [s0, s1, hi, ne_lt hil, e, ex0, Sub.trans sub1 hT]
theorem ask171 (x : Val) (c : Con) (i : Nat) {S : AS} (hc : ConOk S c) (hi : S.h.get i = some (.row (encC c) 0 0 false 105)) (hil : i < S.next) :
    CallW C0 171 [.agg (encV x), .ptr i 0 0 7] S fun r T => r = .bool (c.vals.any fun y => decide (cmpV x y = 0)) ∧ Sub S T := by
  obtain ⟨v, T, ⟨rfl, hT⟩, e⟩ := (con156 (P := fun y => decide (cmpV x y = 0)) (f := 172) (caps := [.ptr S.next 0 0 4]) encV_len (hc.sl.toSub (sub1 (o := .row (encV x) 0 0 false 102))) (by have := hc.le; omega) rfl (fun T hT y hy => ask172 x y S.next
    (by rw [hT.h _ (Nat.lt_succ_self _)]; exact get_set_same _ _ _) hT.next)).ex
  refine enterW (pu0 _) (pr0 _ rfl) fn171 rfl ok171 (by simp) fun F hn hs => ?_
  have s0 := hs 0
  have s1 := hs 1
  clear hs
  simp only [List.getElem?_cons_zero, List.getElem?_cons_succ, Option.getD_some, encV, encC] at s0 s1 hi e
  simp [s0, s1, hi, ne_lt hil, e, ex0, Sub.trans sub1 hT]
end Go.Proofs.YtedonhemfhfbaaaGreat.mod

namespace Go.Proofs.YtedonhemfhfbaaaGreat.mod
open Go Go.Am
set_option linter.unusedVariables false
set_option linter.unusedSimpArgs false

noncomputable def holdsB (c : Con) (x : Val) : Bool :=
  if c.op = 1 then true
  else if c.op = 2 then decide (x.kind = c.val.kind) && (fun n : Int => decide (n = 0)) (cmpV x c.val)
  else if c.op = 3 then decide (x.kind = c.val.kind) && (fun n : Int => decide (n ≠ 0)) (cmpV x c.val)
  else if c.op = 4 then decide (x.kind = c.val.kind) && (fun n : Int => decide (n < 0)) (cmpV x c.val)
  else if c.op = 5 then decide (x.kind = c.val.kind) && (fun n : Int => decide (n ≤ 0)) (cmpV x c.val)
  else if c.op = 6 then decide (x.kind = c.val.kind) && (fun n : Int => decide (0 < n)) (cmpV x c.val)
  else if c.op = 7 then decide (x.kind = c.val.kind) && (fun n : Int => decide (0 ≤ n)) (cmpV x c.val)
  else if c.op = 8 then decide (x.kind = 2) && (decide (c.val.kind = 2) && prefB x.str c.val.str)
  else if c.op = 9 then c.vals.any fun y => decide (cmpV x y = 0)
  else false
theorem mk159 (g : FuncId) (i : Nat) {S : AS} {Q : AV → AS → Prop} : CallW C0 159 [.func (.func g) [] [], .ptr i 0 0 7] S Q = Q (.func (.func 160) [] [.ptr i 0 0 7, .ptr S.next 0 0 1]) ⟨S.h.set S.next (.row [.func (.func g) [] []] 0 0 false 73), S.next + 1⟩ := by
  refine CallW.eq (enterW (pu0 _) (pr0 _ rfl) fn159 rfl ok159 (by simp) fun F hn hs => ?_)
  have s0 := hs 0
  have s1 := hs 1
  clear hs
  simp only [List.getElem?_cons_zero, List.getElem?_cons_succ, Option.getD_some] at s0 s1
  simp [s0, s1]
/-- A function that answers what a constraint asks. -/
def Asks (c : Con) (S : AS) (v : AV) (T : AS) : Prop := ∃ f caps, v = .func (.func f) [] caps ∧ (f == 228) = false ∧ Sub S T ∧ ∀ x T', Sub T T' → CallW C0 f (.agg (encV x) :: caps) T' fun r U => r = .bool (holdsB c x) ∧ Sub T' U
theorem asksC (c : Con) {S : AS} (n : Int) (ho : c.op = n) (g : FuncId) (P : Int → Bool) (hg : (g == 228) = false) (hP : ∀ (n : Int) (T : AS) (Q : AV → AS → Prop), CallW C0 g [.int .i64 n] T Q = Q (.bool (P n)) T) (hh : ∀ x, holdsB c x = (decide (x.kind = c.val.kind) && P (cmpV x c.val))) :
    Asks c S (.func (.func 160) [] [.ptr S.next 0 0 7, .ptr (S.next + 1) 0 0 1]) ⟨(S.h.set S.next (.row (encC c) 0 0 false 105)).set (S.next + 1) (.row [.func (.func g) [] []] 0 0 false 73), S.next + 2⟩ := by
  refine ⟨160, _, rfl, rfl, sub2, fun x T' hT => ?_⟩
  rw [hh]
  refine ask160 x c g P S.next (S.next + 1) hg hP ?_ ?_ ?_ ?_
  · rw [hT.h _ (show S.next < S.next + 2 by omega)]; simp only [get_set_ne _ _ (show S.next ≠ S.next + 1 by omega)]; exact get_set_same _ _ _
  · rw [hT.h _ (show S.next + 1 < S.next + 2 by omega)]; exact get_set_same _ _ _
  · exact Nat.lt_of_lt_of_le (show S.next < S.next + 2 by omega) hT.next
  · exact Nat.lt_of_lt_of_le (show S.next + 1 < S.next + 2 by omega) hT.next
theorem asks (c : Con) {S : AS} (hc : ConOk S c) : CallW C0 131 [.agg (encC c)] S fun v T => Asks c S v T := by
  refine enterW (pu0 _) (pr0 _ rfl) fn131 rfl ok131 (by simp) fun F hn hs => ?_
  have s0 := hs 0
  clear hs
  simp only [List.getElem?_cons_zero, Option.getD_some, encC] at s0
  by_cases h1 : c.op = 1
  · simp [s0, h1, ex0]
    exact ⟨162, [], rfl, rfl, sub1, fun x T' hT => by unfold holdsB; rw [if_pos h1]; exact ask162 _ _ rfl T'⟩
  by_cases h2 : c.op = 2
  · have key := asksC (S := S) c 2 h2 163 (fun n : Int => decide (n = 0)) rfl (fun n T Q => op163 n) (fun x => by unfold holdsB; simp [h2])
    simp only [encC, h2] at key
    simp [s0, h2, ex0, mk159]
    exact key
  by_cases h3 : c.op = 3
  · have key := asksC (S := S) c 3 h3 164 (fun n : Int => decide (n ≠ 0)) rfl (fun n T Q => op164 n) (fun x => by unfold holdsB; simp [h3])
    simp only [encC, h3] at key
    simp [s0, h3, ex0, mk159]
    exact key
  by_cases h4 : c.op = 4
  · have key := asksC (S := S) c 4 h4 165 (fun n : Int => decide (n < 0)) rfl (fun n T Q => op165 n) (fun x => by unfold holdsB; simp [h4])
    simp only [encC, h4] at key
    simp [s0, h4, ex0, mk159]
    exact key
  by_cases h5 : c.op = 5
  · have key := asksC (S := S) c 5 h5 166 (fun n : Int => decide (n ≤ 0)) rfl (fun n T Q => op166 n) (fun x => by unfold holdsB; simp [h5])
    simp only [encC, h5] at key
    simp [s0, h5, ex0, mk159]
    exact key
  by_cases h6 : c.op = 6
  · have key := asksC (S := S) c 6 h6 167 (fun n : Int => decide (0 < n)) rfl (fun n T Q => op167 n) (fun x => by unfold holdsB; simp [h6])
    simp only [encC, h6] at key
    simp [s0, h6, ex0, mk159]
    exact key
  by_cases h7 : c.op = 7
  · have key := asksC (S := S) c 7 h7 168 (fun n : Int => decide (0 ≤ n)) rfl (fun n T Q => op168 n) (fun x => by unfold holdsB; simp [h7])
    simp only [encC, h7] at key
    simp [s0, h7, ex0, mk159]
    exact key
  have sz : Sub S ⟨S.h.set S.next (.row (encC c) 0 0 false 105), S.next + 1⟩ := sub1
  by_cases h8 : c.op = 8
  · simp only [encC, h8] at sz
    simp [s0, h8, ex0]
    refine ⟨169, _, rfl, rfl, sz, fun x T' hT => ?_⟩
    have hh : holdsB c x = (decide (x.kind = 2) && (decide (c.val.kind = 2) && prefB x.str c.val.str)) := by unfold holdsB; simp [h8]
    rw [hh]
    refine ask169 x c S.next ?_ hT.next
    rw [hT.h _ (Nat.lt_succ_self _), get_set_same]; simp only [encC, h8]
  by_cases h9 : c.op = 9
  · simp only [encC, h9] at sz
    simp [s0, h9, ex0]
    refine ⟨171, _, rfl, rfl, sz, fun x T' hT => ?_⟩
    have hh : holdsB c x = (c.vals.any fun y => decide (cmpV x y = 0)) := by unfold holdsB; simp [h9]
    rw [hh]
    refine ask171 x c S.next (hc.sub (sz.trans hT)) ?_ hT.next
    rw [hT.h _ (Nat.lt_succ_self _), get_set_same]; simp only [encC, h9]
  · simp [s0, h1, h2, h3, h4, h5, h6, h7, h8, h9, ex0]
    refine ⟨173, [], rfl, rfl, sz, fun x T' hT => ?_⟩
    have hh : holdsB c x = false := by unfold holdsB; simp [h1, h2, h3, h4, h5, h6, h7, h8, h9]
    rw [hh]
    exact ask173 _ _ rfl T'
end Go.Proofs.YtedonhemfhfbaaaGreat.mod

namespace Go.Proofs.YtedonhemfhfbaaaGreat.mod
open Go Go.Am
set_option linter.unusedVariables false
set_option linter.unusedSimpArgs false

theorem nt79 : Tryz.f79.ntmps = 9 := by kernel_rfl
theorem holds (c : Con) (x : Val) {S : AS} (hc : ConOk S c) : CallW C0 79 [.agg (encC c), .agg (encV x)] S fun r T => r = .bool (holdsB c x) ∧ Sub S T := by
  have hS : Sub S ⟨(S.h.set S.next (.row (encC c) 0 0 false 105)).set (S.next + 1) (.row (encV x) 0 0 false 102), S.next + 2⟩ := sub2
  obtain ⟨v, T, ⟨f, caps, rfl, hf, hT, hcall⟩, e⟩ := (asks c (hc.sub hS)).ex
  obtain ⟨r, U, ⟨rfl, hU⟩, e2⟩ := (hcall x T (Sub.refl T)).ex
  have g1 : T.h.get (S.next + 1) = some (.row (encV x) 0 0 false 102) := by rw [hT.h _ (Nat.lt_succ_self _)]; exact get_set_same _ _ _
  refine enterW (pu0 _) (pr0 _ rfl) fn79 rfl ok79 (by simp) fun F hn hs => ?_
  rw [nt79] at hn
  have s0 := hs 0
  have s1 := hs 1
  clear hs
  simp only [List.getElem?_cons_zero, List.getElem?_cons_succ, Option.getD_some, encV, encC] at s0 s1 e e2 g1
  simp [s0, s1, hn]
  refine draws [.r 0 0, .e [], .r 1 0, .e [], .p] (n := 9) (by kernel_rfl) (by simp [hn]) ?_
  simp [s0, s1, e, e2, g1, ex0, ex0 f hf, baseL, (hS.trans hT).trans hU]

noncomputable def failB (l : List Att) (c : Con) : Bool := match getA l c.name with | none => true | some v => !holdsB c v
noncomputable def matchB (cs : List Con) (l : List Att) : Bool := !cs.any (failB l)
/-- A predicate lies in memory. -/
structure PredAt (S : AS) (p : AV) (cs : List Con) : Prop where
  sl : Sl S p 7 (cs.flatMap encC)
  con : ∀ c, c ∈ cs → ConOk S c
  le : cs.length ≤ 9223372036854775807
theorem PredAt.sub {S T : AS} {p : AV} {cs : List Con} (h : PredAt S p cs) (hs : Sub S T) : PredAt T p cs := ⟨h.sl.toSub hs, fun c hc => (h.con c hc).sub hs, h.le⟩
/-- An event's attributes lie in memory. -/
structure AttsAt (S : AS) (u : AV) (l : List Att) : Prop where
  sl : Sl S u 5 (l.flatMap encA)
  le : l.length ≤ 2513169434843
theorem AttsAt.sub {S T : AS} {u : AV} {l : List Att} (h : AttsAt S u l) (hs : Sub S T) : AttsAt T u l := ⟨h.sl.toSub hs, h.le⟩
theorem match1 (c : Con) (id : Nat) {S : AS} {key : List Nat} {u : AV} {l : List Att} (hc : ConOk S c) (hl : AttsAt S u l) (hid : S.h.get id = some (.row [.str key, u] 0 0 false 40)) (hlt : id < S.next) :
    CallW C0 77 [.agg (encC c), .ptr id 0 0 2] S fun r T => r = .bool (failB l c) ∧ Sub S T := by
  have h1 : Sub S ⟨S.h.set S.next (.row (encC c) 0 0 false 105), S.next + 1⟩ := sub1
  obtain ⟨v, T, ⟨rfl, hT⟩, e⟩ := (get (key := key) (n := c.name) (hl.sub h1).sl hl.le).ex
  have hT1 := h1.trans hT
  have g0 : T.h.get S.next = some (.row (encC c) 0 0 false 105) := by rw [hT.h _ (Nat.lt_succ_self _)]; exact get_set_same _ _ _
  have hTn : S.next < T.next := hT.next
  have hz : ∀ w : Val, Sub T ⟨(T.h.set T.next (.row [.int .i64 0, .int .i64 0, .str [], .bool false] 0 0 false 102)).set T.next (.row (encV w) 0 0 false 102), T.next + 1⟩ := fun w => sub1s
  refine enterW (pu0 _) (pr0 _ rfl) fn77 rfl ok77 (by simp) fun F hn hs => ?_
  have s0 := hs 0
  have s1 := hs 1
  clear hs
  have hu := hl.sl.cells
  unfold failB
  cases hg : getA l c.name with
  | none =>
    simp only [hg, Option.getD_none, Option.isSome_none, zeroV] at e
    have hz0 := hz zeroV
    simp only [List.getElem?_cons_zero, List.getElem?_cons_succ, Option.getD_some, encV, encC, zeroV] at s0 s1 e g0 hz0
    simp [s0, s1, hid, ne_lt hlt, e, g0, ex0, hu, hT1.trans hz0]
  | some w =>
    simp only [hg, Option.getD_some, Option.isSome_some] at e
    obtain ⟨r, U, ⟨rfl, hU⟩, e2⟩ := (holds c w (hc.sub (hT1.trans (hz w)))).ex
    have hz0 := hz w
    simp only [List.getElem?_cons_zero, List.getElem?_cons_succ, Option.getD_some, encV, encC] at s0 s1 e g0 hz0 e2 hU
    simp [s0, s1, hid, ne_lt hlt, ne_lt hTn, e, e2, g0, ex0, hu, (hT1.trans hz0).trans hU]
theorem matches_ {S : AS} {p u : AV} {cs : List Con} {l : List Att} {key : List Nat} (hp : PredAt S p cs) (hl : AttsAt S u l) : CallW C0 15 [p, .agg [.str key, u]] S fun r T => r = .bool (matchB cs l) ∧ Sub S T := by
  have h1 : Sub S ⟨S.h.set S.next (.row [.str key, u] 0 0 false 40), S.next + 1⟩ := sub1
  obtain ⟨v, T, ⟨rfl, hT⟩, e⟩ := (con76 (P := failB l) (f := 77) (caps := [.ptr S.next 0 0 2]) encC_len (hp.sub h1).sl (by have := hp.le; omega) rfl (fun T hT c hc => match1 c S.next (((hp.con c hc).sub h1).sub hT) ((hl.sub h1).sub hT)
    (by rw [hT.h _ (Nat.lt_succ_self _)]; exact get_set_same _ _ _) hT.next)).ex
  refine enterW (pu0 _) (pr0 _ rfl) fn15 rfl ok15 (by simp) fun F hn hs => ?_
  have s0 := hs 0
  have s1 := hs 1
  clear hs
  have hu := hl.sl.cells
  simp only [List.getElem?_cons_zero, List.getElem?_cons_succ, Option.getD_some] at s0 s1
  simp [s0, s1, hu, e, ex0, matchB, h1.trans hT]
end Go.Proofs.YtedonhemfhfbaaaGreat.mod

namespace Go.Proofs.YtedonhemfhfbaaaGreat.mod
open Go Go.Am
set_option linter.unusedVariables false
set_option linter.unusedSimpArgs false

noncomputable def setB (c : Con) : Bool := !c.vals.any fun v => !mayV v
noncomputable def mayC (c : Con) : Bool :=
  if c.name.length < 1 then false else if 16 < c.name.length then false
  else if c.op = 1 then sameB c.val zeroV && decide (c.vals.length = 0)
  else if 2 ≤ c.op ∧ c.op ≤ 7 then mayV c.val && decide (c.vals.length = 0)
  else if c.op = 8 then mayV c.val && (decide (c.val.kind = 2) && decide (c.vals.length = 0))
  else if c.op = 9 then sameB c.val zeroV && (decide (1 ≤ c.vals.length) && (decide (c.vals.length ≤ 6) && setB c))
  else false
end Go.Proofs.YtedonhemfhfbaaaGreat.mod

namespace Go.Proofs.YtedonhemfhfbaaaGreat.mod
open Go Go.Am
set_option linter.unusedVariables false
set_option linter.unusedSimpArgs false

noncomputable def mayP (cs : List Con) : Bool := decide (cs.length ≤ 6) && !cs.any fun c => !mayC c
end Go.Proofs.YtedonhemfhfbaaaGreat.mod

namespace Go.Proofs.YtedonhemfhfbaaaGreat.mod
open Go Go.Am
set_option linter.unusedVariables false
set_option linter.unusedSimpArgs false

deriving instance DecidableEq for Val
deriving instance DecidableEq for Att
theorem sameB_eq (a b : Val) : sameB a b = decide (a = b) := by
  obtain ⟨ak, an, ax, ab⟩ := a
  obtain ⟨bk, bn, bx, bb⟩ := b
  unfold sameB
  simp only [eqS_eq, Val.mk.injEq]
  by_cases h1 : ak = bk <;> by_cases h2 : an = bn <;> by_cases h3 : ax = bx <;> cases ab <;> cases bb <;> simp [h1, h2, h3]
theorem nec107 (c : Bool) (a b : Att) : binV C0 .neq 107 c (.agg (encA a)) (.agg (encA b)) = some (.bool (!decide (a = b))) := by
  obtain ⟨an, ⟨ak, ai, ax, ab⟩⟩ := a
  obtain ⟨bn, ⟨bk, bi, bx, bb⟩⟩ := b
  have e : eqV C0 107 c (.agg [.str an, .int .i64 ak, .int .i64 ai, .str ax, .bool ab]) (.agg [.str bn, .int .i64 bk, .int .i64 bi, .str bx, .bool bb]) =
      andS (some (eqS an bn)) (andS (andS (some (eqI ak bk)) (andS (some (eqI ai bi)) (andS (some (eqS ax bx)) (andS (some (ab == bb)) (some true))))) (some true)) := by kernel_rfl
  have h : eqV C0 107 c (.agg (encA ⟨an, ⟨ak, ai, ax, ab⟩⟩)) (.agg (encA ⟨bn, ⟨bk, bi, bx, bb⟩⟩)) = some (decide ((⟨an, ⟨ak, ai, ax, ab⟩⟩ : Att) = ⟨bn, ⟨bk, bi, bx, bb⟩⟩)) := by
    simp only [encA, encV]
    rw [e, eqI_eq, eqI_eq]
    simp only [eqS_eq, Att.mk.injEq, Val.mk.injEq]
    unfold andS
    by_cases h1 : an = bn <;> by_cases h2 : ak = bk <;> by_cases h3 : ai = bi <;> by_cases h4 : ax = bx <;> cases ab <;> cases bb <;> simp [h1, h2, h3, h4]
  simp only [encA, encV] at h ⊢
  unfold binV
  simp [h, oddA]
theorem nt146 : Tryz.f146.ntmps = 26 := by kernel_rfl
/-- The head of a round of slices.Equal. -/
def eqlH (S : AS) (u v : AV) (l m : List Att) (k : Nat) (F' : Fr) (S' : AS) : Prop :=
  ∃ i : Nat, S' = S ∧ sl F' 0 = u ∧ sl F' 1 = v ∧ sl F' 12 = .int .i64 l.length ∧ sl F' 13 = .int .i64 i ∧ i ≤ l.length ∧ k = l.length - i ∧ l.take i = m.take i
theorem eqlH_mk {S : AS} {u v : AV} {l m : List Att} {k : Nat} {F' : Fr} (i : Nat) (h2 : sl F' 0 = u) (h3 : sl F' 1 = v) (h4 : sl F' 12 = .int .i64 l.length) (h5 : sl F' 13 = .int .i64 i) (h6 : i ≤ l.length) (h7 : k = l.length - i) (h8 : l.take i = m.take i) : eqlH S u v l m k F' S :=
  ⟨i, rfl, h2, h3, h4, h5, h6, h7, h8⟩
theorem equal {S : AS} {u v : AV} {l m : List Att} (hl : AttsAt S u l) (hm : AttsAt S v m) {Q : AV → AS → Prop} : CallW C0 146 [u, v] S Q = Q (.bool (decide (l = m))) S := by
  refine CallW.eq (enterW (pu0 _) (pr0 _ rfl) fn146 rfl ok146 (by simp) fun F hn hs => ?_)
  rw [nt146] at hn
  have s0 := hs 0
  have s1 := hs 1
  clear hs
  simp only [List.getElem?_cons_zero, List.getElem?_cons_succ, Option.getD_some] at s0 s1
  have u1 := hl.sl.sl
  have v1 := hm.sl.sl
  have u2 := hl.sl.len_flat encA_len (by omega)
  have v2 := hm.sl.len_flat encA_len (by omega)
  have hle := hl.le
  by_cases hlen : l.length = m.length
  · simp [s0, s1, u1, v1, u2, v2, hlen]
    refine loopP_of (eqlH S u v l m) l.length (eqlH_mk 0 (by simp [s0]) (by simp [s1]) (by simp [hlen]) (by simp) (Nat.zero_le _) rfl (by simp)) ?_
    rintro k F' S' hn' ⟨i, rfl, t0, t1, t12, t13, hi, hk, ha⟩
    have hn2 : F'.n = 26 := by rw [hn']; simp [hn]
    clear hn' s0 s1 hn
    by_cases hi' : i < l.length
    · have hi2 : i < m.length := by omega
      have hx := loadT_el (cx := C0) (e := 107) hl.sl encA_len (by omega) (List.getElem?_eq_getElem hi') ag107 sz107
      have hy := loadT_el (cx := C0) (e := 107) hm.sl encA_len (by omega) (List.getElem?_eq_getElem hi2) ag107 sz107
      have bx : baseL (encA l[i]) = true := by simp [encA, encV, baseL]
      have bY : baseL (encA m[i]) = true := by simp [encA, encV, baseL]
      simp [t0, t1, t12, t13, hi', hn2]
      refine still_ok (n := 26) (by kernel_rfl) (by simp [hn2]) ?_
      by_cases hc : l[i] = m[i]
      · simp [t0, t1, t12, t13, u1, u2, v1, v2, hi', hi2, hx, hy, nec107, hc, hl.sl.ok, hm.sl.ok, bY]
        exact ⟨l.length - (i + 1), by omega, eqlH_mk (i + 1) (by simp [t0]) (by simp [t1]) (by simp [t12]) (by simp [wrap_succ (show i < 9223372036854775807 by omega)]) hi' rfl (take_more ha hi' hi2 hc)⟩
      · have hne : ¬ l = m := by rintro rfl; exact hc rfl
        simp [t0, t1, t12, t13, u1, u2, v1, v2, hi', hi2, hx, hy, nec107, hc, hl.sl.ok, hm.sl.ok, bx, bY, hne]
    · rw [List.take_of_length_le (by omega), List.take_of_length_le (by omega)] at ha
      subst ha
      simp [t12, t13, hi']
  · have hlen' : ¬ ((l.length : Int) = m.length) := by omega
    have hne : ¬ l = m := fun e => hlen (by rw [e])
    simp [s0, s1, u1, v1, u2, v2, hlen', hne]
theorem evSame {S : AS} {u v : AV} {l m : List Att} {a b : List Nat} (hl : AttsAt S u l) (hm : AttsAt S v m) : CallW C0 114 [.agg [.str a, u], .agg [.str b, v]] S fun r T => r = .bool (decide (a = b) && decide (l = m)) ∧ Sub S T := by
  refine enterW (pu0 _) (pr0 _ rfl) fn114 rfl ok114 (by simp) fun F hn hs => ?_
  have s0 := hs 0
  have s1 := hs 1
  clear hs
  simp only [List.getElem?_cons_zero, List.getElem?_cons_succ, Option.getD_some] at s0 s1
  have h2 : Sub S ⟨(S.h.set S.next (.row [.str a, u] 0 0 false 40)).set (S.next + 1) (.row [.str b, v] 0 0 false 40), S.next + 2⟩ := sub2
  have e := fun Q => equal (hl.sub h2) (hm.sub h2) (Q := Q)
  by_cases h : a = b
  · subst h
    simp [s0, s1, hl.sl.cells, hm.sl.cells, eqS_eq, e, ex0, h2]
  · simp [s0, s1, hl.sl.cells, hm.sl.cells, eqS_eq, h, ex0, h2]
end Go.Proofs.YtedonhemfhfbaaaGreat.mod

namespace Go.Proofs.YtedonhemfhfbaaaGreat.mod
open Go Go.Am
set_option linter.unusedVariables false
set_option linter.unusedSimpArgs false

structure Kept where
  time : Nat
  key : List Nat
  u : AV
  atts : List Att
  state : Int
def encK (k : Kept) : List AV := [.int .u64 k.time, .str k.key, k.u, .int .i64 k.state]
theorem encK_len (k : Kept) : (encK k).length = 4 := rfl
structure HistAt (S : AS) (h : Nat) (v : AV) (L : List Kept) (dur : Nat) : Prop where
  lt : h < S.next
  at_ : S.h.get h = some (.row [.bool true, v, .int .i64 dur] 0 0 false 140)
  gw : Gw S v 4 142 (L.flatMap encK)
  att : ∀ k, k ∈ L → AttsAt S k.u k.atts
  apart : ∀ k, k ∈ L → bnd k.u ≠ h + 1 ∧ (bnd k.u = 0 ∨ bnd k.u ≠ bnd v)
  self : bnd v ≠ h + 1
  dur : dur ≤ L.length
  le : L.length ≤ 1048576
theorem none63 {S : AS} {h : Nat} {v : AV} {L : List Kept} {d : Nat} (hh : HistAt S h v L d) {Q : AV → AS → Prop} : CallW C0 63 [.ptr h 0 0 3] S Q = Q (.bool false) S := by
  refine CallW.eq (enterW (pu0 _) (pr0 _ rfl) fn63 rfl ok63 (by simp) fun F hn hs => ?_)
  have s0 := hs 0
  clear hs
  simp only [List.getElem?_cons_zero, Option.getD_some] at s0
  simp [s0, hh.at_]
theorem durable26 {S : AS} {h : Nat} {v : AV} {L : List Kept} {d : Nat} (hh : HistAt S h v L d) {Q : AV → AS → Prop} : CallW C0 26 [.ptr h 0 0 3] S Q = Q (.int .u64 d) S := by
  have h1 := hh.dur
  have h2 := hh.le
  have hw : IntKind.u64.wrap (d : Int) = (d : Int) := by
    simp [IntKind.wrap, IntKind.bits, IntKind.signed]; omega
  refine CallW.eq (enterW (pu0 _) (pr0 _ rfl) fn26 rfl ok26 (by simp) fun F hn hs => ?_)
  have s0 := hs 0
  clear hs
  simp only [List.getElem?_cons_zero, Option.getD_some] at s0
  simp [s0, hh.at_, none63 hh, ex0, hw]
end Go.Proofs.YtedonhemfhfbaaaGreat.mod

namespace Go.Proofs.YtedonhemfhfbaaaGreat.mod
open Go Go.Am
set_option linter.unusedVariables false
set_option linter.unusedSimpArgs false

theorem u64_nat {n : Nat} (h : n < 18446744073709551616) : IntKind.u64.wrap (n : Int) = (n : Int) := by
  simp [IntKind.wrap, IntKind.bits, IntKind.signed]; omega
theorem u64_succ {n : Nat} (h : n < 18446744073709551615) : IntKind.u64.wrap ((n : Int) + 1) = (n : Int) + 1 := by
  simp [IntKind.wrap, IntKind.bits, IntKind.signed]; omega
theorem u64_pred {n : Nat} (h : n < 18446744073709551615) : IntKind.u64.wrap ((n : Int) + 1 - 1) = (n : Int) := by
  simp [IntKind.wrap, IntKind.bits, IntKind.signed]; omega
theorem fn13 : C0.fns.get 13 = some Tryz.f13 := by kernel_rfl
theorem ok13 : codeOk C0 Tryz.f13.ntmps (Tryz.f13.body.getD .skip) = true := by kernel_rfl
section
variable {S : AS} {h : Nat} {v : AV} {L : List Kept} {d : Nat}
theorem HistAt.len (hh : HistAt S h v L d) : sLen v = L.length := hh.gw.1.len_flat encK_len (by omega)
theorem next13 (hh : HistAt S h v L d) {Q : AV → AS → Prop} : CallW C0 13 [.ptr h 0 0 3] S Q = Q (.int .u64 ((L.length + 1 : Nat) : Int)) S := by
  have h2 := hh.le
  have hw := u64_nat (n := L.length) (by omega)
  have hw2 := u64_succ (n := L.length) (by omega)
  have u1 := hh.gw.1.sl
  have u2 := hh.len
  refine CallW.eq (enterW (pu0 _) (pr0 _ rfl) fn13 rfl ok13 (by simp) fun F hn hs => ?_)
  have s0 := hs 0
  clear hs
  simp only [List.getElem?_cons_zero, Option.getD_some] at s0
  simp [s0, hh.at_, none63 hh, ex0, u1, u2, hw, hw2]
theorem bld40 {u : AV} {cs : List AV} {T : AS} (hu : Sl T u 5 cs) (k : List Nat) : buildA C0 40 [(0, .str k), (1, u)] = some (.agg [.str k, u]) := by
  rcases hu.cases with rfl | ⟨_, _, _, _, _, _, rfl⟩ <;> kernel_rfl
theorem bld42 (n t : Int) (k : List Nat) (u : AV) : buildA C0 42 [(0, .int .u64 n), (1, .int .u64 t), (2, .agg [.str k, u])] = some (.agg [.int .u64 n, .int .u64 t, .str k, u]) := by kernel_rfl
theorem HistAt.sub {T : AS} (hh : HistAt S h v L d) (hs : Sub S T) : HistAt T h v L d :=
  have hb : ∀ id, bnd v = id + 1 → id < S.next := fun id e => by have := hh.gw.1.old; omega
  ⟨Nat.lt_of_lt_of_le hh.lt hs.next, by rw [hs.h _ hh.lt]; exact hh.at_, hh.gw.agree (fun id e => hs.h id (hb id e)) hs.next, fun k hk => (hh.att k hk).sub hs, hh.apart, hh.self, hh.dur, hh.le⟩
theorem nt14 : Tryz.f14.ntmps = 47 := by kernel_rfl
set_option maxRecDepth 20000 in
theorem item_yes (hh : HistAt S h v L d) {n : Nat} {k : Kept} (hk : L[n]? = some k) : CallW C0 14 [.ptr h 0 0 3, .int .u64 ((n + 1 : Nat) : Int)] S fun r T =>
    ∃ u', r = .tuple [.agg [.int .u64 ((n + 1 : Nat) : Int), .int .u64 k.time, .str k.key, u'], .int .i64 k.state, .bool true] ∧ AttsAt T u' k.atts ∧ (bnd u' = 0 ∨ S.next < bnd u') ∧ Sub S T := by
  have h2 := hh.le
  have hnl : n < L.length := (List.getElem?_eq_some_iff.1 hk).1
  have hw := u64_nat (n := L.length) (by omega)
  have hp := u64_nat (n := n) (by omega)
  have u1 := hh.gw.1.sl
  have u2 := hh.len
  have hlt := hh.lt
  have nn := hh.sub (sub1 (o := .row [.int .u64 0, .int .u64 0, .str [], .nils] 0 0 false 42))
  have hkm : k ∈ L := List.mem_of_getElem? hk
  have ld := loadT_el (cx := C0) (e := 142) nn.gw.1 encK_len (by omega) hk ag142 sz142
  have hS2 : Sub S ⟨((S.h.set S.next (.row [.int .u64 0, .int .u64 0, .str [], .nils] 0 0 false 42)).set (S.next + 1) (.row [.int .u64 0, .str [], .nils, .int .i64 0] 0 0 false 142)).set (S.next + 1) (.row (encK k) 0 0 false 142), S.next + 2⟩ := sub2.set _ _ (Nat.le_succ _) _ (Nat.le_refl _)
  have ha := (hh.att k hkm).sub hS2
  have hal : sLen k.u = k.atts.length := ha.sl.len_flat encA_len (by omega)
  obtain ⟨u', T, ⟨hT, hsl, _, _, hb⟩, e⟩ := (clone75 ha.sl (by have := ha.le; omega)).ex
  have g0 : T.h.get (S.next + 1) = some (.row (encK k) 0 0 false 142) := by rw [hT.h _ (Nat.lt_succ_self _)]; exact get_set_same _ _ _
  have g1 : T.h.get S.next = some (.row [.int .u64 0, .int .u64 0, .str [], .nils] 0 0 false 42) := by
    rw [hT.h _ (show S.next < S.next + 2 by omega)]; simp only [get_set_ne _ _ (show S.next ≠ S.next + 1 by omega)]; exact get_set_same _ _ _
  have c1 : ¬ ((n : Int) + 1 < 1) := by omega
  have c2 : ¬ ((L.length : Int) < (n : Int) + 1) := by omega
  refine enterW (pu0 _) (pr0 _ rfl) fn14 rfl ok14 (by simp) fun F hn2 hs => ?_
  rw [nt14] at hn2
  have s0 := hs 0
  have s1 := hs 1
  clear hs
  have hku := (hh.att k hkm).sl.cells
  simp only [List.getElem?_cons_zero, List.getElem?_cons_succ, Option.getD_some] at s0 s1
  simp only [encK] at ld e g0
  simp [s0, s1, hh.at_, none63 nn, ex0, u1, u2, hw, hp, c1, c2, hnl, ld, ne_lt hlt, hn2]
  refine draws [.p, .p, .r 0 1, .p, .p, .r 0 1, .p, .p, .r 0 0, .e [], .p, .p, .p, .r 1 1, .e [], .p, .p] (n := 47) (by kernel_rfl) (by simp [hn2]) ?_
  simp [s0, s1, g0, g1, e, ex0, hsl.cells, hsl.np, hku, bld40 hsl, bld42, okW_of (hh.att k hkm).sl.ok, okW_of hsl.ok]
  have hb2 : bnd u' = 0 ∨ S.next + 2 < bnd u' := hb
  refine ⟨⟨hsl.beside (by omega) (Nat.le_refl _), (hh.att k hkm).le⟩, by omega, (hS2.trans hT).set _ _ (Nat.le_refl _) _ (Nat.le_refl _)⟩
end
end Go.Proofs.YtedonhemfhfbaaaGreat.mod

namespace Go.Proofs.YtedonhemfhfbaaaGreat.mod
open Go Go.Am
set_option linter.unusedVariables false
set_option linter.unusedSimpArgs false
theorem hmatches {S : AS} {h : Nat} {v p : AV} {L : List Kept} {d n : Nat} {k : Kept} {cs : List Con} (hh : HistAt S h v L d) (hp : PredAt S p cs) (hk : L[n]? = some k) :
    CallW C0 85 [.ptr h 0 0 3, p, .int .u64 ((n + 1 : Nat) : Int)] S fun r T => r = .bool (matchB cs k.atts) ∧ Sub S T := by
  have h2 := hh.le
  have hnl : n < L.length := (List.getElem?_eq_some_iff.1 hk).1
  have hw := u64_nat (n := n) (by omega)
  have u1 := hh.gw.1.sl
  have u2 := hh.len
  have hkm : k ∈ L := List.mem_of_getElem? hk
  have hpp := isP_pAt (k := n) u1 (by rw [u2]; exact hnl)
  have ld := loadT_ela (cx := C0) (e := 40) (o := 1) (n' := 2) hh.gw.1 encK_len (by omega) hk (by omega) ag40 (by kernel_rfl)
  obtain ⟨r, T, ⟨rfl, hT⟩, e⟩ := (matches_ (key := k.key) hp (hh.att k hkm)).ex
  refine enterW (pu0 _) (pr0 _ rfl) fn85 rfl ok85 (by simp) fun F hn hs => ?_
  have s0 := hs 0
  have s1 := hs 1
  have s2 := hs 2
  clear hs
  simp only [List.getElem?_cons_zero, List.getElem?_cons_succ, Option.getD_some] at s0 s1 s2
  simp [encK] at ld
  simp [s0, s1, s2, hh.at_, ex0, u1, u2, hw, hnl, fieldP_add hpp, ld, e, hT]
end Go.Proofs.YtedonhemfhfbaaaGreat.mod

namespace Go.Proofs.YtedonhemfhfbaaaGreat.mod
open Go Go.Am
set_option linter.unusedVariables false
set_option linter.unusedSimpArgs false
theorem bld140 : buildA C0 140 [(0, .bool true)] = some (.agg [.bool true, .nils, .int .i64 0]) := by kernel_rfl
theorem newHist {S : AS} : CallW C0 27 [] S fun r T => r = .ptr S.next 0 0 3 ∧ HistAt T S.next .nils [] 0 ∧ Sub S T := by
  refine enterW (pu0 _) (pr0 _ rfl) fn27 rfl ok27 (by simp) fun F hn hs => ?_
  simp [bld140]
  exact ⟨⟨Nat.lt_succ_self _, get_set_same _ _ _, Gw.nil, fun k hk => (by cases hk), fun k hk => (by cases hk), by simp [bnd], Nat.le_refl _, by simp⟩, sub1⟩
end Go.Proofs.YtedonhemfhfbaaaGreat.mod

namespace Go.Proofs.YtedonhemfhfbaaaGreat.mod
open Go Go.Am
set_option linter.unusedVariables false
set_option linter.unusedSimpArgs false
theorem nt30 : Tryz.f30.ntmps = 36 := by kernel_rfl
theorem answer_yes {S : AS} {h : Nat} {v : AV} {L : List Kept} {d : Nat} (hh : HistAt S h v L d) (hd : d < L.length) :
    CallW C0 30 [.ptr h 0 0 3, .int .u64 ((d + 1 : Nat) : Int)] S fun r T => r = .bool true ∧ T = ⟨S.h.set h (.row [.bool true, v, .int .i64 ((d : Int) + 1)] 0 0 false 140), S.next⟩ := by
  have h2 := hh.le
  have hw := u64_nat (n := d) (by omega)
  have hw2 := u64_succ (n := d) (by omega)
  have hw3 := wrap_succ (i := d) (by omega)
  have u1 := hh.gw.1.sl
  have u2 := hh.len
  have c1 : ¬ ((d : Int) = L.length) := by omega
  refine enterW (pu0 _) (pr0 _ rfl) fn30 rfl ok30 (by simp) fun F hn hs => ?_
  rw [nt30] at hn
  have s0 := hs 0
  have s1 := hs 1
  clear hs
  simp only [List.getElem?_cons_zero, List.getElem?_cons_succ, Option.getD_some] at s0 s1
  simp at hw3
  simp [s0, s1, hn]
  refine draws [.p, .e [], .p, .p, .p, .p, .r 0 0, .p, .p, .p, .r 0 0, .r 0 0, .p, .p, .p, .p, .p, .p, .p, .r 0 0, .p, .p, .p, .p] (n := 36) (by kernel_rfl) (by simp [hn]) ?_
  simp [s0, s1, hh.at_, none63 hh, ex0, u1, u2, hw, hw2, hw3, c1, hd]
end Go.Proofs.YtedonhemfhfbaaaGreat.mod

namespace Go.Proofs.YtedonhemfhfbaaaGreat.mod
open Go Go.Am
set_option linter.unusedVariables false
set_option linter.unusedSimpArgs false
theorem HistAt.answer {S : AS} {h : Nat} {v : AV} {L : List Kept} {d : Nat} (hh : HistAt S h v L d) (hd : d < L.length) :
    HistAt ⟨S.h.set h (.row [.bool true, v, .int .i64 ((d : Int) + 1)] 0 0 false 140), S.next⟩ h v L (d + 1) :=
  ⟨hh.lt, get_set_same _ _ _, hh.gw.agree (fun id e => get_set_ne _ _ (fun e2 => hh.self (by rw [e, e2]))) (Nat.le_refl _),
    fun k hk => ⟨(hh.att k hk).sl.beside (hh.apart k hk).1 (Nat.le_refl _), (hh.att k hk).le⟩, hh.apart, hh.self, hd, hh.le⟩
end Go.Proofs.YtedonhemfhfbaaaGreat.mod
