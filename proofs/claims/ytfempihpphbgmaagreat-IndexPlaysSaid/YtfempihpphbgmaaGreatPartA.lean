/-
  The context of the model's proofs, and the facts of types and functions that simp wants.
-/
import Derived.Test.YtfempihpphbgmaaGreatRows
import Derived.Test.YtfempihpphbgmaaGreatAmWide
import Derived.Test.YtfempihpphbgmaaGreatAmArgs
import Derived.Test.YtfempihpphbgmaaGreatAmOver
import Derived.Test.YtfempihpphbgmaaGreatAmKept
import Derived.Test.YtfempihpphbgmaaGreatAmCut
import Derived.Sort.AssemblyPlain
noncomputable section
namespace Go.Am
open Go
theorem cv {cx : Cx} {f : FuncId} {fn : Func} {c : Code} {a0 : AV} {l : List AV} {S : AS} {Q : AV → AS → Prop} (hu : cx.eh.get f = none) (hp : cx.aV.get f = none) (hf : cx.fns.get f = some fn) (hb : fn.body = some c) (hc : codeOk cx fn.ntmps c = true) (hn : (a0 :: l).length ≤ fn.ntmps) (h : ∀ F : Fr, F.n = fn.ntmps → sl F 0 = a0 → jJ cx c F S (tK cx fn Q)) : ai cx f (a0 :: l) S Q := br hu hp hf hb hc hn fun F hn hs => h F hn (hs 0)
theorem cU {cx : Cx} {f : FuncId} {fn : Func} {c : Code} {a0 a1 : AV} {l : List AV} {S : AS} {Q : AV → AS → Prop} (hu : cx.eh.get f = none) (hp : cx.aV.get f = none) (hf : cx.fns.get f = some fn) (hb : fn.body = some c) (hc : codeOk cx fn.ntmps c = true) (hn : (a0 :: a1 :: l).length ≤ fn.ntmps) (h : ∀ F : Fr, F.n = fn.ntmps → sl F 0 = a0 → sl F 1 = a1 → jJ cx c F S (tK cx fn Q)) : ai cx f (a0 :: a1 :: l) S Q := br hu hp hf hb hc hn fun F hn hs => h F hn (hs 0) (hs 1)
theorem ka {cx : Cx} {f : FuncId} {fn : Func} {c : Code} {a0 a1 a2 : AV} {l : List AV} {S : AS} {Q : AV → AS → Prop} (hu : cx.eh.get f = none) (hp : cx.aV.get f = none) (hf : cx.fns.get f = some fn) (hb : fn.body = some c) (hc : codeOk cx fn.ntmps c = true) (hn : (a0 :: a1 :: a2 :: l).length ≤ fn.ntmps) (h : ∀ F : Fr, F.n = fn.ntmps → sl F 0 = a0 → sl F 1 = a1 → sl F 2 = a2 → jJ cx c F S (tK cx fn Q)) : ai cx f (a0 :: a1 :: a2 :: l) S Q := br hu hp hf hb hc hn fun F hn hs => h F hn (hs 0) (hs 1) (hs 2)
theorem wa {cx : Cx} {f : FuncId} {fn : Func} {c : Code} {a0 a1 a2 a3 : AV} {l : List AV} {S : AS} {Q : AV → AS → Prop} (hu : cx.eh.get f = none) (hp : cx.aV.get f = none) (hf : cx.fns.get f = some fn) (hb : fn.body = some c) (hc : codeOk cx fn.ntmps c = true) (hn : (a0 :: a1 :: a2 :: a3 :: l).length ≤ fn.ntmps) (h : ∀ F : Fr, F.n = fn.ntmps → sl F 0 = a0 → sl F 1 = a1 → sl F 2 = a2 → sl F 3 = a3 → jJ cx c F S (tK cx fn Q)) : ai cx f (a0 :: a1 :: a2 :: a3 :: l) S Q := br hu hp hf hb hc hn fun F hn hs => h F hn (hs 0) (hs 1) (hs 2) (hs 3)
theorem enter5 {cx : Cx} {f : FuncId} {fn : Func} {c : Code} {a0 a1 a2 a3 a4 : AV} {l : List AV} {S : AS} {Q : AV → AS → Prop} (hu : cx.eh.get f = none) (hp : cx.aV.get f = none) (hf : cx.fns.get f = some fn) (hb : fn.body = some c) (hc : codeOk cx fn.ntmps c = true) (hn : (a0 :: a1 :: a2 :: a3 :: a4 :: l).length ≤ fn.ntmps) (h : ∀ F : Fr, F.n = fn.ntmps → sl F 0 = a0 → sl F 1 = a1 → sl F 2 = a2 → sl F 3 = a3 → sl F 4 = a4 → jJ cx c F S (tK cx fn Q)) : ai cx f (a0 :: a1 :: a2 :: a3 :: a4 :: l) S Q := br hu hp hf hb hc hn fun F hn hs => h F hn (hs 0) (hs 1) (hs 2) (hs 3) (hs 4)
end Go.Am
namespace Go.Proofs.YtfempihpphbgmaaGreat.mod
open Go Go.Am
set_option linter.unusedVariables false
set_option linter.unusedSimpArgs false
abbrev A0 : Am.Ask := { eqs := [50, 65], exts := [(132, .iS)], aV := [(14, iI true), (31, hole), (34, hole), (46, hole), (52, hole)] }
abbrev C0 : Am.Cx := Am.iF Tryz.prog A0
theorem aR (f : Nat) (h : (f == 132) = false) : C0.exts.get f = none := by
 have h1 : ¬ f = 132 := by simpa using h
 show ((T.leaf : T Xf).set 132 .iS).get f = none;rw [ae _ _ h1]; exact da f
theorem ex132 : C0.exts.get 132 = some .iS := by kernel_rfl
theorem dn (f : Nat) (h : (f == 14 || f == 31 || f == 34 || f == 46 || f == 52) = false) : C0.aV.get f = none := by
 simp only [Bool.or_eq_false_iff, beq_eq_false_iff_ne] at h;show ((((((T.leaf : T (List AV → AS → Option (AV × AS))).set 14 (iI true)).set 31 hole).set 34 hole).set 46 hole).set 52 hole).get f = none;rw [ae _ _ h.2, ae _ _ h.1.2, ae _ _ h.1.1.2, ae _ _ h.1.1.1.2, ae _ _ h.1.1.1.1]; exact da f
theorem dm (f : Nat) : C0.eh.get f = none := da f
@[simp] theorem st22 : kP C0 22 = some (33, 2, 40) := by kernel_rfl
@[simp] theorem ag22 : aE C0 22 = some false := by kernel_rfl
@[simp] theorem ag3 : aE C0 3 = some false := by kernel_rfl
@[simp] theorem sz3 : aw C0 3 = some 1 := by kernel_rfl
@[simp] theorem ze3 : zeroOf C0 3 = some (.int .i64 0) := by kernel_rfl
@[simp] theorem ag31 : aE C0 30 = some false := by kernel_rfl
@[simp] theorem sz31 : aw C0 30 = some 1 := by kernel_rfl
@[simp] theorem cv3_31 : nW C0 3 30 = some .u64 := by kernel_rfl
@[simp] theorem ag40 : aE C0 33 = some true := by kernel_rfl
@[simp] theorem sz40 : aw C0 33 = some 2 := by kernel_rfl
@[simp] theorem fa40_0 : fieldAt C0 33 0 = some 0 := by kernel_rfl
@[simp] theorem ag9 : aE C0 9 = some false := by kernel_rfl
@[simp] theorem sz9 : aw C0 9 = some 1 := by kernel_rfl
@[simp] theorem fa40_1 : fieldAt C0 33 1 = some 1 := by kernel_rfl
@[simp] theorem ag38 : aE C0 31 = some false := by kernel_rfl
@[simp] theorem sz38 : aw C0 31 = some 1 := by kernel_rfl
theorem fn15 : C0.fns.get 15 = some Tryz.f15 := by kernel_rfl
theorem ok15 : codeOk C0 Tryz.f15.ntmps (Tryz.f15.body.getD .skip) = true := by kernel_rfl
@[simp] theorem ag24 : aE C0 25 = some false := by kernel_rfl
@[simp] theorem sz24 : aw C0 25 = some 1 := by kernel_rfl
@[simp] theorem ze40 : zeroOf C0 33 = some (.agg [.str [], .aH]) := by kernel_rfl
@[simp] theorem st38 : kP C0 31 = some (65, 5, 56) := by kernel_rfl
@[simp] theorem ag4 : aE C0 4 = some false := by kernel_rfl
@[simp] theorem sz4 : aw C0 4 = some 1 := by kernel_rfl
theorem fn71 : C0.fns.get 13 = some Tryz.f13 := by kernel_rfl
theorem ok71 : codeOk C0 Tryz.f13.ntmps (Tryz.f13.body.getD .skip) = true := by kernel_rfl
@[simp] theorem st24 : kP C0 25 = some (54, 7, 88) := by kernel_rfl
@[simp] theorem fa105_3 : fieldAt C0 54 3 = some 6 := by kernel_rfl
@[simp] theorem ag103 : aE C0 51 = some false := by kernel_rfl
@[simp] theorem sz103 : aw C0 51 = some 1 := by kernel_rfl
theorem fn74 : C0.fns.get 40 = some Tryz.f40 := by kernel_rfl
theorem ok74 : codeOk C0 Tryz.f40.ntmps (Tryz.f40.body.getD .skip) = true := by kernel_rfl
@[simp] theorem wP : aE C0 50 = some true := by kernel_rfl
@[simp] theorem uW : aw C0 50 = some 4 := by kernel_rfl
@[simp] theorem ze102 : zeroOf C0 50 = some (.agg [.int .i64 0, .int .i64 0, .str [], .bool false]) := by kernel_rfl
theorem fn75 : C0.fns.get 28 = some Tryz.f28 := by kernel_rfl
theorem ok75 : codeOk C0 Tryz.f28.ntmps (Tryz.f28.body.getD .skip) = true := by kernel_rfl
@[simp] theorem un38 : aZ C0 31 = some (.slice 65) := by kernel_rfl
theorem fn76 : C0.fns.get 37 = some Tryz.f37 := by kernel_rfl
theorem ok76 : codeOk C0 Tryz.f37.ntmps (Tryz.f37.body.getD .skip) = true := by kernel_rfl
theorem fn77 : C0.fns.get 43 = some Tryz.f43 := by kernel_rfl
theorem ok77 : codeOk C0 Tryz.f43.ntmps (Tryz.f43.body.getD .skip) = true := by kernel_rfl
@[simp] theorem fa105_0 : fieldAt C0 54 0 = some 0 := by kernel_rfl
@[simp] theorem ag105 : aE C0 54 = some true := by kernel_rfl
@[simp] theorem sz105 : aw C0 54 = some 7 := by kernel_rfl
theorem fn78 : C0.fns.get 44 = some Tryz.f44 := by kernel_rfl
theorem ok78 : codeOk C0 Tryz.f44.ntmps (Tryz.f44.body.getD .skip) = true := by kernel_rfl
@[simp] theorem fa107_1 : fieldAt C0 65 1 = some 1 := by kernel_rfl
theorem fn79 : C0.fns.get 45 = some Tryz.f45 := by kernel_rfl
theorem ok79 : codeOk C0 Tryz.f45.ntmps (Tryz.f45.body.getD .skip) = true := by kernel_rfl
theorem fn124 : C0.fns.get 38 = some Tryz.f38 := by kernel_rfl
theorem ok124 : codeOk C0 Tryz.f38.ntmps (Tryz.f38.body.getD .skip) = true := by kernel_rfl
theorem fn125 : C0.fns.get 39 = some Tryz.f39 := by kernel_rfl
theorem ok125 : codeOk C0 Tryz.f39.ntmps (Tryz.f39.body.getD .skip) = true := by kernel_rfl
@[simp] theorem fa105_2 : fieldAt C0 54 2 = some 2 := by kernel_rfl
@[simp] theorem fa105_1 : fieldAt C0 54 1 = some 1 := by kernel_rfl
@[simp] theorem st103 : kP C0 51 = some (50, 4, 40) := by kernel_rfl
@[simp] theorem fa102_0 : fieldAt C0 50 0 = some 0 := by kernel_rfl
@[simp] theorem un24 : aZ C0 25 = some (.slice 54) := by kernel_rfl
@[simp] theorem un103 : aZ C0 51 = some (.slice 50) := by kernel_rfl
theorem fn128 : C0.fns.get 72 = some Tryz.f72 := by kernel_rfl
theorem ok128 : codeOk C0 Tryz.f72.ntmps (Tryz.f72.body.getD .skip) = true := by kernel_rfl
theorem fn129 : C0.fns.get 75 = some Tryz.f75 := by kernel_rfl
theorem ok129 : codeOk C0 Tryz.f75.ntmps (Tryz.f75.body.getD .skip) = true := by kernel_rfl
@[simp] theorem ag107 : aE C0 65 = some true := by kernel_rfl
@[simp] theorem sz107 : aw C0 65 = some 5 := by kernel_rfl
theorem fn130 : C0.fns.get 76 = some Tryz.f76 := by kernel_rfl
theorem ok130 : codeOk C0 Tryz.f76.ntmps (Tryz.f76.body.getD .skip) = true := by kernel_rfl
@[simp] theorem fa107_0 : fieldAt C0 65 0 = some 0 := by kernel_rfl
theorem fn131 : C0.fns.get 77 = some Tryz.f77 := by kernel_rfl
theorem ok131 : codeOk C0 Tryz.f77.ntmps (Tryz.f77.body.getD .skip) = true := by kernel_rfl
theorem fn156 : C0.fns.get 73 = some Tryz.f73 := by kernel_rfl
theorem ok156 : codeOk C0 Tryz.f73.ntmps (Tryz.f73.body.getD .skip) = true := by kernel_rfl
theorem fn157 : C0.fns.get 74 = some Tryz.f74 := by kernel_rfl
theorem ok157 : codeOk C0 Tryz.f74.ntmps (Tryz.f74.body.getD .skip) = true := by kernel_rfl
theorem fn158 : C0.fns.get 33 = some Tryz.f33 := by kernel_rfl
theorem ok158 : codeOk C0 Tryz.f33.ntmps (Tryz.f33.body.getD .skip) = true := by kernel_rfl
@[simp] theorem ze2 : zeroOf C0 2 = some (.int .i64 0) := by kernel_rfl
@[simp] theorem conc2 : wv C0 2 = true := by kernel_rfl
@[simp] theorem ze9 : zeroOf C0 9 = some (.str []) := by kernel_rfl
@[simp] theorem conc9 : wv C0 9 = true := by kernel_rfl
@[simp] theorem ze4 : zeroOf C0 4 = some (.bool false) := by kernel_rfl
@[simp] theorem conc4 : wv C0 4 = true := by kernel_rfl
theorem fn159 : C0.fns.get 107 = some Tryz.f107 := by kernel_rfl
theorem ok159 : codeOk C0 Tryz.f107.ntmps (Tryz.f107.body.getD .skip) = true := by kernel_rfl
theorem fn160 : C0.fns.get 108 = some Tryz.f108 := by kernel_rfl
theorem ok160 : codeOk C0 Tryz.f108.ntmps (Tryz.f108.body.getD .skip) = true := by kernel_rfl
@[simp] theorem ag73 : aE C0 144 = some false := by kernel_rfl
@[simp] theorem sz73 : aw C0 144 = some 1 := by kernel_rfl
theorem fn161 : C0.fns.get 55 = some Tryz.f55 := by kernel_rfl
theorem ok161 : codeOk C0 Tryz.f55.ntmps (Tryz.f55.body.getD .skip) = true := by kernel_rfl
@[simp] theorem fa102_1 : fieldAt C0 50 1 = some 1 := by kernel_rfl
@[simp] theorem ag2 : aE C0 2 = some false := by kernel_rfl
@[simp] theorem sz2 : aw C0 2 = some 1 := by kernel_rfl
@[simp] theorem fa102_2 : fieldAt C0 50 2 = some 2 := by kernel_rfl
@[simp] theorem fa102_3 : fieldAt C0 50 3 = some 3 := by kernel_rfl
theorem fn162 : C0.fns.get 109 = some Tryz.f109 := by kernel_rfl
theorem ok162 : codeOk C0 Tryz.f109.ntmps (Tryz.f109.body.getD .skip) = true := by kernel_rfl
theorem fn163 : C0.fns.get 110 = some Tryz.f110 := by kernel_rfl
theorem ok163 : codeOk C0 Tryz.f110.ntmps (Tryz.f110.body.getD .skip) = true := by kernel_rfl
theorem fn164 : C0.fns.get 111 = some Tryz.f111 := by kernel_rfl
theorem ok164 : codeOk C0 Tryz.f111.ntmps (Tryz.f111.body.getD .skip) = true := by kernel_rfl
theorem fn165 : C0.fns.get 112 = some Tryz.f112 := by kernel_rfl
theorem ok165 : codeOk C0 Tryz.f112.ntmps (Tryz.f112.body.getD .skip) = true := by kernel_rfl
theorem fn166 : C0.fns.get 113 = some Tryz.f113 := by kernel_rfl
theorem ok166 : codeOk C0 Tryz.f113.ntmps (Tryz.f113.body.getD .skip) = true := by kernel_rfl
theorem fn167 : C0.fns.get 114 = some Tryz.f114 := by kernel_rfl
theorem ok167 : codeOk C0 Tryz.f114.ntmps (Tryz.f114.body.getD .skip) = true := by kernel_rfl
theorem fn168 : C0.fns.get 115 = some Tryz.f115 := by kernel_rfl
theorem ok168 : codeOk C0 Tryz.f115.ntmps (Tryz.f115.body.getD .skip) = true := by kernel_rfl
theorem fn169 : C0.fns.get 116 = some Tryz.f116 := by kernel_rfl
theorem ok169 : codeOk C0 Tryz.f116.ntmps (Tryz.f116.body.getD .skip) = true := by kernel_rfl
theorem fn170 : C0.fns.get 68 = some Tryz.f68 := by kernel_rfl
theorem ok170 : codeOk C0 Tryz.f68.ntmps (Tryz.f68.body.getD .skip) = true := by kernel_rfl
theorem fn171 : C0.fns.get 117 = some Tryz.f117 := by kernel_rfl
theorem ok171 : codeOk C0 Tryz.f117.ntmps (Tryz.f117.body.getD .skip) = true := by kernel_rfl
theorem fn172 : C0.fns.get 118 = some Tryz.f118 := by kernel_rfl
theorem ok172 : codeOk C0 Tryz.f118.ntmps (Tryz.f118.body.getD .skip) = true := by kernel_rfl
theorem fn173 : C0.fns.get 119 = some Tryz.f119 := by kernel_rfl
theorem ok173 : codeOk C0 Tryz.f119.ntmps (Tryz.f119.body.getD .skip) = true := by kernel_rfl
theorem fn189 : C0.fns.get 106 = some Tryz.f106 := by kernel_rfl
theorem ok189 : codeOk C0 Tryz.f106.ntmps (Tryz.f106.body.getD .skip) = true := by kernel_rfl
theorem fn190 : C0.fns.get 61 = some Tryz.f61 := by kernel_rfl
theorem ok190 : codeOk C0 Tryz.f61.ntmps (Tryz.f61.body.getD .skip) = true := by kernel_rfl
theorem fn191 : C0.fns.get 41 = some Tryz.f41 := by kernel_rfl
theorem ok191 : codeOk C0 Tryz.f41.ntmps (Tryz.f41.body.getD .skip) = true := by kernel_rfl
theorem fn192 : C0.fns.get 62 = some Tryz.f62 := by kernel_rfl
theorem ok192 : codeOk C0 Tryz.f62.ntmps (Tryz.f62.body.getD .skip) = true := by kernel_rfl
theorem fn193 : C0.fns.get 85 = some Tryz.f85 := by kernel_rfl
theorem ok193 : codeOk C0 Tryz.f85.ntmps (Tryz.f85.body.getD .skip) = true := by kernel_rfl
theorem fn194 : C0.fns.get 86 = some Tryz.f86 := by kernel_rfl
theorem ok194 : codeOk C0 Tryz.f86.ntmps (Tryz.f86.body.getD .skip) = true := by kernel_rfl
theorem fn195 : C0.fns.get 87 = some Tryz.f87 := by kernel_rfl
theorem ok195 : codeOk C0 Tryz.f87.ntmps (Tryz.f87.body.getD .skip) = true := by kernel_rfl
theorem fn196 : C0.fns.get 88 = some Tryz.f88 := by kernel_rfl
theorem ok196 : codeOk C0 Tryz.f88.ntmps (Tryz.f88.body.getD .skip) = true := by kernel_rfl
theorem fn197 : C0.fns.get 92 = some Tryz.f92 := by kernel_rfl
theorem ok197 : codeOk C0 Tryz.f92.ntmps (Tryz.f92.body.getD .skip) = true := by kernel_rfl
def oZ {α : Type} (P : α → Bool) (l : List α) : Int := match l.findIdx? P with | some i => (i : Int) | none => -1
theorem oH {α : Type} {P : α → Bool} {l : List α} (h : ∀ x, x ∈ l → P x = false) : oZ P l = -1 := by
 unfold oZ;rw [List.findIdx?_eq_none_iff.2 h]
theorem uC {α : Type} {P : α → Bool} {l : List α} {i : Nat} {x : α} (h : l[i]? = some x) (hp : P x = true) (ha : ∀ x, x ∈ l.take i → P x = false) : oZ P l = i := by
 obtain ⟨hi, rfl⟩ := List.getElem?_eq_some_iff.1 h;have : l.findIdx? P = some i := by
  rw [List.findIdx?_eq_some_iff_getElem];refine ⟨hi, hp, fun j hj => ?_⟩
  have := ha l[j] (List.mem_take_iff_getElem.2 ⟨j, by omega, rfl⟩)
  simp [this]
 unfold oZ;rw [this]
theorem vM {α : Type} {P : α → Bool} {l : List α} : decide (0 ≤ oZ P l) = l.any P := by
 unfold oZ
 cases h : l.findIdx? P with
 | none =>
  have := List.findIdx?_eq_none_iff.1 h;have h2 : l.any P = false := by rw [List.any_eq_false]; intro x hx; simp [this x hx]
  rw [h2]; rfl
 | some i =>
  obtain ⟨hi, hp, _⟩ := List.findIdx?_eq_some_iff_getElem.1 h;have h2 : l.any P = true := List.any_eq_true.2 ⟨l[i], List.getElem_mem hi, hp⟩;rw [h2]; simp
theorem oz {α : Type} {P : α → Bool} {l : List α} {i : Nat} {x : α} (h : l[i]? = some x) (hp : P x = false) (ha : ∀ x, x ∈ l.take i → P x = false) : ∀ x, x ∈ l.take (i + 1) → P x = false := by
 obtain ⟨hi, rfl⟩ := List.getElem?_eq_some_iff.1 h;intro y hy;rw [List.take_succ_eq_append_getElem hi] at hy;rcases List.mem_append.1 hy with hy | hy
 ·exact ha y hy
 ·simp at hy; subst hy; exact hp
def idxH {α : Type} (S : AS) (u g : AV) (l : List α) (P : α → Bool) (k : Nat) (F' : Fr) (S' : AS) : Prop :=
 ∃ i : Nat, Sub S S' ∧ sl F' 0 = u ∧ sl F' 1 = g ∧ sl F' 7 = .int .i64 l.length ∧ sl F' 8 = .int .i64 i ∧ i ≤ l.length ∧ k = l.length - i ∧ ∀ x, x ∈ l.take i → P x = false
theorem ky {α : Type} {S : AS} {u g : AV} {l : List α} {P : α → Bool} {k : Nat} {F' : Fr} {S' : AS} (i : Nat) (h1 : Sub S S') (h2 : sl F' 0 = u) (h3 : sl F' 1 = g) (h4 : sl F' 7 = .int .i64 l.length) (h5 : sl F' 8 = .int .i64 i) (h6 : i ≤ l.length) (h7 : k = l.length - i) (h8 : ∀ x, x ∈ l.take i → P x = false) : idxH S u g l P k F' S' :=
 ⟨i, h1, h2, h3, h4, h5, h6, h7, h8⟩
theorem idx128 {α : Type} {enc : α → List AV} {S : AS} {u : AV} {l : List α} {f : FuncId} {caps : List AV} {P : α → Bool} (hz : ∀ x, (enc x).length = 7) (h : Sl S u 7 (l.flatMap enc)) (hb : l.length ≤ 9223372036854775807) (hf : (f == 132) = false)
  (hc : ∀ T, Sub S T → ∀ x, x ∈ l → ai C0 f (.agg (enc x) :: caps) T fun v T' => v = .bool (P x) ∧ Sub T T') :
  ai C0 72 [u, .func (.func f) [] caps] S fun v T => v = .int .i64 (oZ P l) ∧ Sub S T := by
 refine cU (dm _) (dn _ rfl) fn128 rfl ok128 (by simp) fun F hn s0 s1 => ?_
 have u1 := h.sl;have u2 := h.aO hz (by omega)
 simp [s0, s1, u1, u2];refine aB (idxH S u (.func (.func f) [] caps) l P) l.length (ky 0 (Sub.refl S) (by simp [s0]) (by simp [s1]) (by simp) (by simp) (Nat.zero_le _) rfl (by simp)) ?_
 rintro k F' S' df ⟨i, cr, t0, t1, t7, t8, hi, hk, ha⟩
 clear df s0 s1 hn
 by_cases b9 : i < l.length
 ·have hx : l[i]? = some l[i] := List.getElem?_eq_getElem b9
  have hl := cz (cx := C0) (e := 54) (h.toSub cr) hz (by omega) hx ag105 sz105
  obtain ⟨v, T', ⟨rfl, hs⟩, e⟩ := (hc S' cr l[i] (List.getElem_mem b9)).ex
  cases hp : P l[i] with
  | true => simp [t0, t1, t7, t8, u1, u2, b9, hl, e, hp, aR f hf, cr.trans hs, uC hx hp ha]
  | false =>
   simp [t0, t1, t7, t8, u1, u2, b9, hl, e, hp, aR f hf];exact ⟨l.length - (i + 1), by omega, ky (i + 1) (cr.trans hs) (by simp [t0]) (by simp [t1]) (by simp [t7]) (by simp [aN (show i < 9223372036854775807 by omega)]) b9 rfl (oz hx hp ha)⟩
 ·have gS : ∀ x, x ∈ l → P x = false := fun x hx => ha x (by rw [List.take_of_length_le (by omega)]; exact hx)
  simp [t7, t8, b9, oH gS, cr]
theorem con76 {α : Type} {enc : α → List AV} {S : AS} {u : AV} {l : List α} {f : FuncId} {caps : List AV} {P : α → Bool} (hz : ∀ x, (enc x).length = 7) (h : Sl S u 7 (l.flatMap enc)) (hb : l.length ≤ 9223372036854775807) (hf : (f == 132) = false)
  (hc : ∀ T, Sub S T → ∀ x, x ∈ l → ai C0 f (.agg (enc x) :: caps) T fun v T' => v = .bool (P x) ∧ Sub T T') :
  ai C0 37 [u, .func (.func f) [] caps] S fun v T => v = .bool (l.any P) ∧ Sub S T := by
 obtain ⟨v, T, ⟨rfl, hs⟩, e⟩ := (idx128 hz h hb hf hc).ex;refine cU (dm _) (dn _ rfl) fn76 rfl ok76 (by simp) fun F hn s0 s1 => ?_
 simp [s0, s1, e, aR, hs, vM]
theorem idx129 {α : Type} {enc : α → List AV} {S : AS} {u : AV} {l : List α} {f : FuncId} {caps : List AV} {P : α → Bool} (hz : ∀ x, (enc x).length = 5) (h : Sl S u 5 (l.flatMap enc)) (hb : l.length ≤ 9223372036854775807) (hf : (f == 132) = false)
  (hc : ∀ T, Sub S T → ∀ x, x ∈ l → ai C0 f (.agg (enc x) :: caps) T fun v T' => v = .bool (P x) ∧ Sub T T') :
  ai C0 75 [u, .func (.func f) [] caps] S fun v T => v = .int .i64 (oZ P l) ∧ Sub S T := by
 refine cU (dm _) (dn _ rfl) fn129 rfl ok129 (by simp) fun F hn s0 s1 => ?_
 have u1 := h.sl;have u2 := h.aO hz (by omega)
 simp [s0, s1, u1, u2];refine aB (idxH S u (.func (.func f) [] caps) l P) l.length (ky 0 (Sub.refl S) (by simp [s0]) (by simp [s1]) (by simp) (by simp) (Nat.zero_le _) rfl (by simp)) ?_
 rintro k F' S' df ⟨i, cr, t0, t1, t7, t8, hi, hk, ha⟩
 clear df s0 s1 hn
 by_cases b9 : i < l.length
 ·have hx : l[i]? = some l[i] := List.getElem?_eq_getElem b9
  have hl := cz (cx := C0) (e := 65) (h.toSub cr) hz (by omega) hx ag107 sz107
  obtain ⟨v, T', ⟨rfl, hs⟩, e⟩ := (hc S' cr l[i] (List.getElem_mem b9)).ex
  cases hp : P l[i] with
  | true => simp [t0, t1, t7, t8, u1, u2, b9, hl, e, hp, aR f hf, cr.trans hs, uC hx hp ha]
  | false =>
   simp [t0, t1, t7, t8, u1, u2, b9, hl, e, hp, aR f hf];exact ⟨l.length - (i + 1), by omega, ky (i + 1) (cr.trans hs) (by simp [t0]) (by simp [t1]) (by simp [t7]) (by simp [aN (show i < 9223372036854775807 by omega)]) b9 rfl (oz hx hp ha)⟩
 ·have gS : ∀ x, x ∈ l → P x = false := fun x hx => ha x (by rw [List.take_of_length_le (by omega)]; exact hx)
  simp [t7, t8, b9, oH gS, cr]
theorem idx189 {α : Type} {enc : α → List AV} {S : AS} {u : AV} {l : List α} {f : FuncId} {caps : List AV} {P : α → Bool} (hz : ∀ x, (enc x).length = 4) (h : Sl S u 4 (l.flatMap enc)) (hb : l.length ≤ 9223372036854775807) (hf : (f == 132) = false)
  (hc : ∀ T, Sub S T → ∀ x, x ∈ l → ai C0 f (.agg (enc x) :: caps) T fun v T' => v = .bool (P x) ∧ Sub T T') :
  ai C0 106 [u, .func (.func f) [] caps] S fun v T => v = .int .i64 (oZ P l) ∧ Sub S T := by
 refine cU (dm _) (dn _ rfl) fn189 rfl ok189 (by simp) fun F hn s0 s1 => ?_
 have u1 := h.sl;have u2 := h.aO hz (by omega)
 simp [s0, s1, u1, u2];refine aB (idxH S u (.func (.func f) [] caps) l P) l.length (ky 0 (Sub.refl S) (by simp [s0]) (by simp [s1]) (by simp) (by simp) (Nat.zero_le _) rfl (by simp)) ?_
 rintro k F' S' df ⟨i, cr, t0, t1, t7, t8, hi, hk, ha⟩
 clear df s0 s1 hn
 by_cases b9 : i < l.length
 ·have hx : l[i]? = some l[i] := List.getElem?_eq_getElem b9
  have hl := cz (cx := C0) (e := 50) (h.toSub cr) hz (by omega) hx wP uW
  obtain ⟨v, T', ⟨rfl, hs⟩, e⟩ := (hc S' cr l[i] (List.getElem_mem b9)).ex
  cases hp : P l[i] with
  | true => simp [t0, t1, t7, t8, u1, u2, b9, hl, e, hp, aR f hf, cr.trans hs, uC hx hp ha]
  | false =>
   simp [t0, t1, t7, t8, u1, u2, b9, hl, e, hp, aR f hf];exact ⟨l.length - (i + 1), by omega, ky (i + 1) (cr.trans hs) (by simp [t0]) (by simp [t1]) (by simp [t7]) (by simp [aN (show i < 9223372036854775807 by omega)]) b9 rfl (oz hx hp ha)⟩
 ·have gS : ∀ x, x ∈ l → P x = false := fun x hx => ha x (by rw [List.take_of_length_le (by omega)]; exact hx)
  simp [t7, t8, b9, oH gS, cr]
theorem con156 {α : Type} {enc : α → List AV} {S : AS} {u : AV} {l : List α} {f : FuncId} {caps : List AV} {P : α → Bool} (hz : ∀ x, (enc x).length = 4) (h : Sl S u 4 (l.flatMap enc)) (hb : l.length ≤ 9223372036854775807) (hf : (f == 132) = false)
  (hc : ∀ T, Sub S T → ∀ x, x ∈ l → ai C0 f (.agg (enc x) :: caps) T fun v T' => v = .bool (P x) ∧ Sub T T') :
  ai C0 73 [u, .func (.func f) [] caps] S fun v T => v = .bool (l.any P) ∧ Sub S T := by
 obtain ⟨v, T, ⟨rfl, hs⟩, e⟩ := (idx189 hz h hb hf hc).ex;refine cU (dm _) (dn _ rfl) fn156 rfl ok156 (by simp) fun F hn s0 s1 => ?_
 simp [s0, s1, e, aR, hs, vM]
theorem clone75 {S : AS} {v : AV} {cs : List AV} (h : Sl S v 5 cs) (hf : sLen v ≤ 2513169434843) : ai C0 28 [v] S fun v' T => Sub S T ∧ Sl T v' 5 cs ∧ isNil v' = isNil v ∧ sLen v' = sLen v ∧ (cJ v' = 0 ∨ S.next < cJ v') := by
 refine cv (dm _) (dn _ rfl) fn75 rfl ok75 (by simp) fun F hn s0 => ?_
 have h2 := h.sl
 cases hnil : isNil v with
 | true =>
  obtain ⟨rfl, rfl⟩ := h.isNil hnil;simp [s0, Sub.refl, Sl.nil, cJ]
 | false =>
  have hx : Sl (⟨S.h.set S.next (.row [] 0 0 false 65), S.next + 1⟩ : AS) v 5 cs := ⟨h2, by rw [rdS_set h.old]; exact h.rd, h.len, Nat.le_succ_of_le h.old⟩
  have vR : fits (sLen v) 56 = true := by simp [fits, cg]; omega
  obtain ⟨v', T, e1, r1, r2, r3, r4, r5, r6⟩ := append_empty (ts := []) st38 un38 rfl (aa _ _ _) (Nat.lt_succ_self _) hx vR;have cr : Sub S T := ((Sub.refl S).set _ _ (Nat.le_refl _) _ (Nat.le_succ _)).trans r2;simp [s0, h2, hnil, e1, r1.np, cr, r1, r3, r4];rcases r6 with r6 | r6
  ·rw [r6]; exact .inr (Nat.lt_succ_self _)
  ·exact .inr (Nat.lt_of_succ_lt r6)
theorem fn214 : C0.fns.get 123 = some Tryz.f123 := by kernel_rfl
theorem ok214 : codeOk C0 Tryz.f123.ntmps (Tryz.f123.body.getD .skip) = true := by kernel_rfl
theorem fn215 : C0.fns.get 124 = some Tryz.f124 := by kernel_rfl
theorem ok215 : codeOk C0 Tryz.f124.ntmps (Tryz.f124.body.getD .skip) = true := by kernel_rfl
theorem fn216 : C0.fns.get 125 = some Tryz.f125 := by kernel_rfl
theorem ok216 : codeOk C0 Tryz.f125.ntmps (Tryz.f125.body.getD .skip) = true := by kernel_rfl
structure gN where
 kind : Int
 num : Int
 str : List Nat
 bool : Bool
def aS (v : gN) : List AV := [.int .i64 v.kind, .int .i64 v.num, .str v.str, .bool v.bool]
theorem jk (v : gN) : (aS v).length = 4 := rfl
@[simp] theorem bld102a (n : Int) : kJ C0 50 [(0, .int .i64 1), (1, .int .i64 n)] = some (.agg [.int .i64 1, .int .i64 n, .str [], .bool false]) := by kernel_rfl
@[simp] theorem bld102b (s : List Nat) : kJ C0 50 [(0, .int .i64 2), (2, .str s)] = some (.agg [.int .i64 2, .int .i64 0, .str s, .bool false]) := by kernel_rfl
@[simp] theorem bld102c (b : Bool) : kJ C0 50 [(0, .int .i64 3), (3, .bool b)] = some (.agg [.int .i64 3, .int .i64 0, .str [], .bool b]) := by kernel_rfl
@[simp] theorem bld102d : kJ C0 50 [] = some (.agg [.int .i64 0, .int .i64 0, .str [], .bool false]) := by kernel_rfl
theorem cS {S : AS} {o : bW} : Sub S ⟨S.h.set S.next o, S.next + 1⟩ := (Sub.refl S).set _ _ (Nat.le_refl _) _ (Nat.le_succ _)
theorem jf {S : AS} {o o' : bW} : Sub S ⟨(S.h.set S.next o).set S.next o', S.next + 1⟩ := cS.set _ _ (Nat.le_refl _) _ (Nat.le_refl _)
theorem kD {S : AS} {o o' : bW} : Sub S ⟨(S.h.set S.next o).set (S.next + 1) o', S.next + 2⟩ := cS.set _ _ (Nat.le_succ _) _ (Nat.le_succ _)
theorem number (n : Int) (S : AS) : ai C0 40 [.int .i64 n] S fun v T => v = .agg [.int .i64 1, .int .i64 n, .str [], .bool false] ∧ Sub S T := by
 refine cv (dm _) (dn _ rfl) fn74 rfl ok74 (by simp) fun F hn s0 => ?_
 simp [s0, jf]
theorem word (s : List Nat) (S : AS) : ai C0 41 [.str s] S fun v T => v = .agg [.int .i64 2, .int .i64 0, .str s, .bool false] ∧ Sub S T := by
 refine cv (dm _) (dn _ rfl) fn191 rfl ok191 (by simp) fun F hn s0 => ?_
 simp [s0, jf]
theorem truth (b : Bool) (S : AS) : ai C0 62 [.bool b] S fun v T => v = .agg [.int .i64 3, .int .i64 0, .str [], .bool b] ∧ Sub S T := by
 refine cv (dm _) (dn _ rfl) fn192 rfl ok192 (by simp) fun F hn s0 => ?_
 simp [s0, jf]
def hasV (v : gN) : AV := if v.kind = 1 then .iface 2 (.int .i64 v.num) else if v.kind = 2 then .iface 9 (.str v.str) else if v.kind = 3 then .iface 4 (.bool v.bool) else .bN
theorem has (v : gN) (S : AS) : ai C0 61 [.agg (aS v)] S fun r T => r = hasV v ∧ Sub S T := by
 refine br (dm _) (dn _ rfl) fn190 rfl ok190 (by simp) fun F hn hs => ?_
 have s0 := hs 0;clear hs;simp only [List.getElem?_cons_zero, Option.getD_some, aS] at s0;unfold hasV
 by_cases h1 : v.kind = 1
 ·simp [s0, h1, cS]
 by_cases h2 : v.kind = 2
 ·simp [s0, h2, cS]
 by_cases h3 : v.kind = 3
 ·simp [s0, h3, cS]
 simp [s0, h1, h2, h3, cS]
def pz (b : Bool) : Int := cond b 1 0
theorem rank (b : Bool) (S : AS) : ai C0 88 [.bool b] S fun v T => v = .int .i64 (pz b) ∧ T = S := by
 refine cv (dm _) (dn _ rfl) fn196 rfl ok196 (by simp) fun F hn s0 => ?_
 cases b <;> simp [s0, pz]
def iD (a b : Int) : Int := if a < b then -1 else if b < a then 1 else 0
def kf (a b : List Nat) : Int := cond (gq a b) (-1) (cond (fX a b) 0 1)
theorem E1 (a : Int) {S : AS} {Q : AV → AS → Prop} : ai C0 123 [.int .i64 a] S Q = Q (.bool false) S := by
 refine ai.eq (cv (dm _) (dn _ rfl) fn214 rfl ok214 (by simp) fun F hn s0 => ?_)
 simp [s0]
theorem E0 (a : Int) {S : AS} {Q : AV → AS → Prop} : ai C0 124 [.int .i64 a] S Q = Q (.bool false) S := by
 refine ai.eq (cv (dm _) (dn _ rfl) fn215 rfl ok215 (by simp) fun F hn s0 => ?_)
 simp [s0]
theorem cmp193 (a b : Int) {S : AS} {Q : AV → AS → Prop} : ai C0 85 [.int .i64 a, .int .i64 b] S Q = Q (.int .i64 (iD a b)) S := by
 refine ai.eq (cU (dm _) (dn _ rfl) fn193 rfl ok193 (by simp) fun F hn s0 s1 => ?_)
 unfold iD
 by_cases h1 : a < b
 ·simp [s0, s1, h1, aR, E1]
 by_cases h2 : b < a
 ·simp [s0, s1, h1, h2, aR, E1]
 simp [s0, s1, h1, h2, aR, E1]
theorem cmp194 (a b : Int) {S : AS} {Q : AV → AS → Prop} : ai C0 86 [.int .i64 a, .int .i64 b] S Q = Q (.int .i64 (iD a b)) S := by
 refine ai.eq (cU (dm _) (dn _ rfl) fn194 rfl ok194 (by simp) fun F hn s0 s1 => ?_)
 unfold iD
 by_cases h1 : a < b
 ·simp [s0, s1, h1, aR, E0]
 by_cases h2 : b < a
 ·simp [s0, s1, h1, h2, aR, E0]
 simp [s0, s1, h1, h2, aR, E0]
theorem cmp216 (a b : List Nat) {S : AS} {Q : AV → AS → Prop} : ai C0 125 [.str a, .str b] S Q = Q (.int .i64 (kf a b)) S := by
 refine ai.eq (cU (dm _) (dn _ rfl) fn216 rfl ok216 (by simp) fun F hn s0 s1 => ?_)
 unfold kf
 cases h1 : gq a b <;> cases h2 : fX a b <;> simp [s0, s1, ex132, h1, h2]
theorem cmp195 (a b : List Nat) {S : AS} {Q : AV → AS → Prop} : ai C0 87 [.str a, .str b] S Q = Q (.int .i64 (kf a b)) S := by
 refine ai.eq (cU (dm _) (dn _ rfl) fn195 rfl ok195 (by simp) fun F hn s0 s1 => ?_)
 simp [s0, s1, aR, cmp216]
def cM (a b : gN) : Int :=
 if a.kind ≠ b.kind then iD a.kind b.kind else if a.kind = 1 then iD a.num b.num else if a.kind = 2 then kf a.str b.str else if a.kind = 3 then iD (pz a.bool) (pz b.bool) else 0
theorem nt161 : Tryz.f55.ntmps = 43 := by kernel_rfl
theorem compare (a b : gN) (S : AS) : ai C0 55 [.agg (aS a), .agg (aS b)] S fun r T => r = .int .i64 (cM a b) ∧ Sub S T := by
 obtain ⟨v, T, ⟨rfl, hT⟩, e⟩ := (has a ⟨(S.h.set S.next (.row (aS a) 0 0 false 50)).set (S.next + 1) (.row (aS b) 0 0 false 50), S.next + 2⟩).ex;have iH : Sub S T := Sub.trans kD hT;have g0 : T.h.get (S.next + 1) = some (.row (aS b) 0 0 false 50) := by
  rw [hT.h _ (Nat.lt_succ_self _)]; exact aa _ _ _
 refine br (dm _) (dn _ rfl) fn161 rfl ok161 (by simp) fun F hn hs => ?_
 rw [nt161] at hn;have s0 := hs 0;have s1 := hs 1;clear hs;obtain ⟨ak, an, ax, ab⟩ := a;obtain ⟨bk, bn, bx, bb⟩ := b;simp only [List.getElem?_cons_zero, List.getElem?_cons_succ, Option.getD_some, aS, hasV] at s0 s1 e g0;unfold cM
 by_cases hk : ak = bk
 ·subst hk
  by_cases h1 : ak = 1
  ·subst h1
   simp [s0, s1, aR, e, g0, cmp194, iH]
  by_cases h2 : ak = 2
  ·subst h2
   simp at e;simp [s0, s1, aR, e, g0, cmp195, iH]
  by_cases h3 : ak = 3
  ·subst h3
   simp at e;obtain ⟨r1, T1, ⟨rfl, rfl⟩, e1⟩ := (rank ab T).ex;obtain ⟨r2, T2, ⟨rfl, rfl⟩, e2⟩ := (rank bb T1).ex;simp [s0, s1, aR, e, g0, hn];refine aA [.p, .e [], .p, .r 1 0, .e [], .e [], .p] (n := 43) (by kernel_rfl) (by simp [hn]) ?_
   simp [s0, s1, aR, e, e1, e2, g0, cmp193, iH]
  ·simp [h1, h2, h3] at e
   simp [s0, s1, h1, h2, h3, aR, e, g0, iH]
 ·simp [s0, s1, hk, aR, cmp193, kD]
def gJ (a b : gN) : Bool := decide (a.kind = b.kind) && (decide (a.num = b.num) && (fX a.str b.str && (a.bool == b.bool)))
def andS (a r : Option Bool) : Option Bool := match a with | some true => r | x => x
theorem eqv102 (c : Bool) (a b : gN) : cK C0 .eql 50 c (.agg (aS a)) (.agg (aS b)) = some (.bool (gJ a b)) := by
 obtain ⟨ak, an, ax, ab⟩ := a;obtain ⟨bk, bn, bx, bb⟩ := b;refine Dr ?_;have e : DW C0 50 c (.agg [.int .i64 ak, .int .i64 an, .str ax, .bool ab]) (.agg [.int .i64 bk, .int .i64 bn, .str bx, .bool bb]) =
   andS (some (C2 ak bk)) (andS (some (C2 an bn)) (andS (some (fX ax bx)) (andS (some (ab == bb)) (some true)))) := by kernel_rfl
 simp only [aS];rw [e, gC, gC];unfold gJ andS
 cases decide (ak = bk) <;> cases decide (an = bn) <;> cases fX ax bx <;> cases (ab == bb) <;> rfl
theorem gx (c : Bool) (ak an : Int) (ax : List Nat) (ab : Bool) (bk bn : Int) (bx : List Nat) (bb : Bool) :
  cK C0 .eql 50 c (.agg [.int .i64 ak, .int .i64 an, .str ax, .bool ab]) (.agg [.int .i64 bk, .int .i64 bn, .str bx, .bool bb]) = some (.bool (gJ ⟨ak, an, ax, ab⟩ ⟨bk, bn, bx, bb⟩)) := eqv102 c ⟨ak, an, ax, ab⟩ ⟨bk, bn, bx, bb⟩
def gP (v : gN) : Bool :=
 if v.kind = 1 then gJ v ⟨1, v.num, [], false⟩ else if v.kind = 2 then gJ v ⟨2, 0, v.str, false⟩ && decide (v.str.length ≤ 32) else if v.kind = 3 then gJ v ⟨3, 0, [], v.bool⟩ else false
theorem nt158 : Tryz.f33.ntmps = 34 := by kernel_rfl
theorem iE : aZ C0 9 = some .string := by kernel_rfl
theorem mayIs (v : gN) (S : AS) : ai C0 33 [.agg (aS v)] S fun r T => r = .bool (gP v) ∧ Sub S T := by
 obtain ⟨u, T, ⟨rfl, hT⟩, e⟩ := (has v ⟨S.h.set S.next (.row (aS v) 0 0 false 50), S.next + 1⟩).ex;have iH : Sub S T := Sub.trans cS hT;have g0 : T.h.get S.next = some (.row (aS v) 0 0 false 50) := by
  rw [hT.h _ (Nat.lt_succ_self _)]; exact aa _ _ _
 have hTn : S.next < T.next := hT.next;refine br (dm _) (dn _ rfl) fn158 rfl ok158 (by simp) fun F hn hs => ?_
 rw [nt158] at hn;have s0 := hs 0;clear hs;obtain ⟨k, n, s, b⟩ := v;simp only [List.getElem?_cons_zero, List.getElem?_cons_succ, Option.getD_some, aS, hasV] at s0 e g0;unfold gP
 by_cases h1 : k = 1
 ·subst h1
  obtain ⟨r1, T1, ⟨rfl, hs1⟩, e1⟩ := (number n T).ex;have g1 : T1.h.get S.next = some (.row [.int .i64 1, .int .i64 n, .str s, .bool b] 0 0 false 50) := by rw [hs1.h _ hTn]; exact g0
  simp [s0, aR, e, g0, hn];refine aA [.r 0 1, .p, .e [], .p, .p] (n := 34) (by kernel_rfl) (by simp [hn]) ?_
  simp [s0, aR, e, e1, g0, g1, gx, iH.trans hs1]
 by_cases h2 : k = 2
 ·subst h2
  simp at e;obtain ⟨r1, T1, ⟨rfl, hs1⟩, e1⟩ := (word s T).ex;have g1 : T1.h.get S.next = some (.row [.int .i64 2, .int .i64 n, .str s, .bool b] 0 0 false 50) := by rw [hs1.h _ hTn]; exact g0
  simp [s0, aR, e, g0, hn];refine aA [.r 0 1, .p, .e [], .p, .p, .p, .r 0 0, .p, .p, .p] (n := 34) (by kernel_rfl) (by simp [hn]) ?_
  cases hb : gJ ⟨2, n, s, b⟩ ⟨2, 0, s, false⟩ with
  | true =>
   have c1 : decide (((s.length : Nat) : Int) ≤ 32) = decide (s.length ≤ 32) := by
    by_cases hh : s.length ≤ 32 <;> simp [hh] <;> omega
   simp [s0, aR, e, e1, g0, g1, gx, hb, aD iE, iH.trans hs1, c1]
  | false => simp [s0, aR, e, e1, g0, g1, gx, hb, iH.trans hs1]
 by_cases h3 : k = 3
 ·subst h3
  simp at e;obtain ⟨r1, T1, ⟨rfl, hs1⟩, e1⟩ := (truth b T).ex;have g1 : T1.h.get S.next = some (.row [.int .i64 3, .int .i64 n, .str s, .bool b] 0 0 false 50) := by rw [hs1.h _ hTn]; exact g0
  simp [s0, aR, e, g0, hn];refine aA [.r 0 1, .p, .e [], .p, .p] (n := 34) (by kernel_rfl) (by simp [hn]) ?_
  simp [s0, aR, e, e1, g0, g1, gx, iH.trans hs1]
 ·simp [h1, h2, h3] at e
  simp [s0, h1, h2, h3, aR, e, g0, iH]
structure dD where
 name : List Nat
 val : gN
def eQ (a : dD) : List AV := .str a.name :: aS a.val
theorem bG (a : dD) : (eQ a).length = 5 := rfl
def zeroV : gN := ⟨0, 0, [], false⟩
def fl (l : List dD) (n : List Nat) : Option gN := (l.find? fun a => fX a.name n).map dD.val
theorem get1 (a : dD) (n : List Nat) (id : Nat) {S : AS} (bY : S.h.get id = some (.row [.str n] 0 0 false 9)) (aL : id < S.next) :
  ai C0 76 [.agg (eQ a), .ptr id 0 0 1] S fun v T => v = .bool (fX a.name n) ∧ Sub S T := by
 refine br (dm _) (dn _ rfl) fn130 rfl ok130 (by simp) fun F hn hs => ?_
 have s0 := hs 0;have s1 := hs 1;clear hs;simp only [List.getElem?_cons_zero, List.getElem?_cons_succ, Option.getD_some, eQ, aS] at s0 s1;simp [s0, s1, bY, aj aL, cS]
theorem getA_none {l : List dD} {n : List Nat} (h : oZ (fun a : dD => fX a.name n) l < 0) : fl l n = none := by
 unfold oZ at h
 cases hf : l.findIdx? (fun a : dD => fX a.name n) with
 | none =>
  have := List.findIdx?_eq_none_iff.1 hf;unfold fl;rw [List.find?_eq_none.2 (fun x hx => by simp [this x hx])]
  rfl
 | some i => rw [hf] at h; simp at h; omega
theorem oL {l : List dD} {n : List Nat} (h : ¬ oZ (fun a : dD => fX a.name n) l < 0) : ∃ (i : Nat) (a : dD), oZ (fun a : dD => fX a.name n) l = i ∧ l[i]? = some a ∧ fl l n = some a.val := by
 unfold oZ at h ⊢
 cases hf : l.findIdx? (fun a : dD => fX a.name n) with
 | none => rw [hf] at h; exact absurd (by decide) h
 | some i =>
  obtain ⟨hi, hp, ha⟩ := List.findIdx?_eq_some_iff_getElem.1 hf;refine ⟨i, l[i], rfl, List.getElem?_eq_getElem hi, ?_⟩;have hfi : l.find? (fun a : dD => fX a.name n) = some l[i] := List.find?_eq_some_iff_getElem.2 ⟨hp, i, hi, rfl, fun j hj => by simpa using ha j hj⟩
  unfold fl;rw [hfi]
  rfl
theorem get {S : AS} {u : AV} {l : List dD} {key n : List Nat} (h : Sl S u 5 (l.flatMap eQ)) (hb : l.length ≤ 2513169434843) :
  ai C0 44 [.agg [.str key, u], .str n] S fun v T => v = .tuple [.agg (aS ((fl l n).getD zeroV)), .bool (fl l n).isSome] ∧ Sub S T := by
 have hS : Sub S ⟨((S.h.set S.next (.row [.str key, u] 0 0 false 33)).set (S.next + 1) (.row [.str n] 0 0 false 9)).set (S.next + 2) (.row [.int .i64 0, .int .i64 0, .str [], .bool false] 0 0 false 50), S.next + 3⟩ :=
  kD.set _ _ (Nat.le_add_right _ _) _ (Nat.le_succ _)
 obtain ⟨v, T, ⟨rfl, hT⟩, e⟩ := (idx129 (P := fun a : dD => fX a.name n) (f := 76) (caps := [.ptr (S.next + 1) 0 0 1]) bG (h.toSub hS) (by omega) rfl (fun T hT x hx => get1 x n (S.next + 1)
  (by rw [hT.h _ (by show S.next + 1 < S.next + 3; omega)]; simp only [ae _ _ (show S.next + 1 ≠ S.next + 2 by omega)]; exact aa _ _ _) (by have := hT.next; exact Nat.lt_of_lt_of_le (by show S.next + 1 < S.next + 3; omega) this))).ex
 have iH := Sub.trans hS hT;have g0 : T.h.get S.next = some (.row [.str key, u] 0 0 false 33) := by
  rw [hT.h _ (by show S.next < S.next + 3; omega)]
  simp only [ae _ _ (show S.next ≠ S.next + 2 by omega), ae _ _ (show S.next ≠ S.next + 1 by omega)]; exact aa _ _ _
 have g2 : T.h.get (S.next + 2) = some (.row [.int .i64 0, .int .i64 0, .str [], .bool false] 0 0 false 50) := by
  rw [hT.h _ (by show S.next + 2 < S.next + 3; omega)]; exact aa _ _ _
 have hTn : S.next + 3 ≤ T.next := hT.next;have hl := h.toSub iH;have u1 := h.sl;have u2 := h.aO bG (by omega)
 refine cU (dm _) (dn _ rfl) fn78 rfl ok78 (by simp) fun F hn s0 s1 => ?_
 by_cases hi : oZ (fun a : dD => fX a.name n) l < 0
 ·have hg := getA_none hi
  simp [s0, s1, h.cells, aR, e, g0, g2, hi, hg, aS, zeroV];exact iH.set _ _ (Nat.le_add_right _ _) _ (Nat.le_refl _)
 ·obtain ⟨i, a, h1, h2, h3⟩ := oL hi
  rw [h1] at e;have hilt : i < l.length := (List.getElem?_eq_some_iff.1 h2).1;have hp := ik (k := i) u1 (by rw [u2]; exact hilt)
  have hld := oF (cx := C0) (e := 50) (o := 1) (n' := 4) hl bG (by omega) h2 (by omega) wP uW
  simp [eQ] at hld;have hi0 : ¬ ((i : Int) < 0) := by omega
  simp [s0, s1, h.cells, aR, e, g0, g2, u1, u2, hilt, bl hp, hld, h3, aS, hi0];exact iH.set _ _ (Nat.le_add_right _ _) _ (Nat.le_refl _)
structure de where
 name : List Nat
 op : Int
 val : gN
 setv : AV
 bK : List gN
def bo (c : de) : List AV := [.str c.name, .int .i64 c.op, .int .i64 c.val.kind, .int .i64 c.val.num, .str c.val.str, .bool c.val.bool, c.setv]
theorem dy (c : de) : (bo c).length = 7 := rfl
structure kC (S : AS) (c : de) : Prop where
 sl : Sl S c.setv 4 (c.bK.flatMap aS)
 le : c.bK.length ≤ 9223372036854775807
theorem kC.sub {S T : AS} {c : de} (h : kC S c) (hs : Sub S T) : kC T c := ⟨h.sl.toSub hs, h.le⟩
def opB (op n : Int) : Bool := if op = 2 then decide (n = 0) else if op = 3 then decide (n ≠ 0) else if op = 4 then decide (n < 0) else if op = 5 then decide (n ≤ 0) else if op = 6 then decide (0 < n) else decide (0 ≤ n)
theorem op163 (n : Int) {S : AS} {Q : AV → AS → Prop} : ai C0 110 [.int .i64 n] S Q = Q (.bool (decide (n = 0))) S := by
 refine ai.eq (cv (dm _) (dn _ rfl) fn163 rfl ok163 (by simp) fun F hn s0 => ?_)
 simp [s0]
theorem op164 (n : Int) {S : AS} {Q : AV → AS → Prop} : ai C0 111 [.int .i64 n] S Q = Q (.bool (decide (n ≠ 0))) S := by
 refine ai.eq (cv (dm _) (dn _ rfl) fn164 rfl ok164 (by simp) fun F hn s0 => ?_)
 simp [s0]
theorem op165 (n : Int) {S : AS} {Q : AV → AS → Prop} : ai C0 112 [.int .i64 n] S Q = Q (.bool (decide (n < 0))) S := by
 refine ai.eq (cv (dm _) (dn _ rfl) fn165 rfl ok165 (by simp) fun F hn s0 => ?_)
 simp [s0]
theorem op166 (n : Int) {S : AS} {Q : AV → AS → Prop} : ai C0 113 [.int .i64 n] S Q = Q (.bool (decide (n ≤ 0))) S := by
 refine ai.eq (cv (dm _) (dn _ rfl) fn166 rfl ok166 (by simp) fun F hn s0 => ?_)
 simp [s0]
theorem op167 (n : Int) {S : AS} {Q : AV → AS → Prop} : ai C0 114 [.int .i64 n] S Q = Q (.bool (decide (0 < n))) S := by
 refine ai.eq (cv (dm _) (dn _ rfl) fn167 rfl ok167 (by simp) fun F hn s0 => ?_)
 simp [s0]
theorem op168 (n : Int) {S : AS} {Q : AV → AS → Prop} : ai C0 115 [.int .i64 n] S Q = Q (.bool (decide (0 ≤ n))) S := by
 refine ai.eq (cv (dm _) (dn _ rfl) fn168 rfl ok168 (by simp) fun F hn s0 => ?_)
 simp [s0]
theorem ask162 (v : AV) (l : List AV) (hv : cellsOf v = some l) (S : AS) : ai C0 109 [v] S fun r T => r = .bool true ∧ Sub S T := by
 refine cv (dm _) (dn _ rfl) fn162 rfl ok162 (by simp) fun F hn s0 => ?_
 simp [s0, hv, cS]
theorem ask173 (v : AV) (l : List AV) (hv : cellsOf v = some l) (S : AS) : ai C0 119 [v] S fun r T => r = .bool false ∧ Sub S T := by
 refine cv (dm _) (dn _ rfl) fn173 rfl ok173 (by simp) fun F hn s0 => ?_
 simp [s0, hv, cS]
theorem nt160 : Tryz.f108.ntmps = 19 := by kernel_rfl
theorem ask160 (x : gN) (c : de) (g : FuncId) (P : Int → Bool) (i j : Nat) (hg : (g == 132) = false) (hP : ∀ (n : Int) (T : AS) (Q : AV → AS → Prop), ai C0 g [.int .i64 n] T Q = Q (.bool (P n)) T) {S : AS} (hi : S.h.get i = some (.row (bo c) 0 0 false 54)) (hj : S.h.get j = some (.row [.func (.func g) [] []] 0 0 false 144)) (CK : i < S.next) (hjl : j < S.next) :
  ai C0 108 [.agg (aS x), .ptr i 0 0 7, .ptr j 0 0 1] S fun r T => r = .bool (decide (x.kind = c.val.kind) && P (cM x c.val)) ∧ Sub S T := by
 obtain ⟨v, T, ⟨rfl, hT⟩, e⟩ := (compare x c.val ⟨S.h.set S.next (.row (aS x) 0 0 false 50), S.next + 1⟩).ex;have g0 : T.h.get S.next = some (.row (aS x) 0 0 false 50) := by rw [hT.h _ (Nat.lt_succ_self _)]; exact aa _ _ _
 have gi : T.h.get i = some (.row (bo c) 0 0 false 54) := by
  rw [hT.h _ (Nat.lt_succ_of_lt CK)]; simp only [ae _ _ (show i ≠ S.next by omega)]; exact hi
 have gj : T.h.get j = some (.row [.func (.func g) [] []] 0 0 false 144) := by
  rw [hT.h _ (Nat.lt_succ_of_lt hjl)]; simp only [ae _ _ (show j ≠ S.next by omega)]; exact hj
 refine br (dm _) (dn _ rfl) fn160 rfl ok160 (by simp) fun F hn hs => ?_
 rw [nt160] at hn;have s0 := hs 0;have s1 := hs 1;have s2 := hs 2;clear hs;have iH := Sub.trans cS hT;obtain ⟨xk, xn, xx, xb⟩ := x;simp only [List.getElem?_cons_zero, List.getElem?_cons_succ, Option.getD_some, aS, bo] at s0 s1 s2 e g0 gi gj hi;simp [s0, s1, s2, hn];refine aA [.p, .r 0 0, .p, .p, .r 0 0, .p, .p, .r 0 1, .r 0 0, .p, .r 0 0, .e [], .e [], .p, .p] (n := 19) (by kernel_rfl) (by simp [hn]) ?_
 by_cases hk : xk = c.val.kind
 ·subst hk
  simp [s0, s1, s2, hi, hj, aj CK, aj hjl, e, g0, gi, gj, aR, aR g hg, hP, iH, jm]
 ·simp [s0, s1, s2, hi, hj, aj CK, aj hjl, hk, aR, cS]
  rfl
def ie (a b : List Nat) : Bool := decide (b.length ≤ a.length) && fX (a.take b.length) b
theorem yi {F : Fr} {a : List Nat} {y : Operand} {m : Nat} (h : fc (eval F y) = some m) (hm : m ≤ a.length) : cE C0 F 9 (.str a) none (some y) none = some (.str (a.take m)) := by
 unfold cE;have e : bounds F a.length a.length none (some y) none = some (0, m, a.length) := by
  unfold bounds;simp only [cy, az, h];simp [cg, hm, su]
 rw [iE];simp only [e];simp [su, bX, ck]
theorem pre197 (a b : List Nat) {S : AS} {Q : AV → AS → Prop} : ai C0 92 [.str a, .str b] S Q = Q (.bool (ie a b)) S := by
 refine ai.eq (cU (dm _) (dn _ rfl) fn197 rfl ok197 (by simp) fun F hn s0 s1 => ?_)
 unfold ie
 by_cases h : b.length ≤ a.length
 ·have h' : (b.length : Int) ≤ (a.length : Int) := by omega
  simp [s0, s1, aD iE, h, h', yi (m := b.length)]
 ·have h' : ¬ (b.length : Int) ≤ (a.length : Int) := by omega
  simp [s0, s1, aD iE, h, h']
theorem zY (a b : List Nat) {S : AS} {Q : AV → AS → Prop} : ai C0 68 [.str a, .str b] S Q = Q (.bool (ie a b)) S := by
 refine ai.eq (cU (dm _) (dn _ rfl) fn170 rfl ok170 (by simp) fun F hn s0 s1 => ?_)
 simp [s0, s1, aR, pre197]
theorem ask169 (x : gN) (c : de) (i : Nat) {S : AS} (hi : S.h.get i = some (.row (bo c) 0 0 false 54)) (CK : i < S.next) :
  ai C0 116 [.agg (aS x), .ptr i 0 0 7] S fun r T => r = .bool (decide (x.kind = 2) && (decide (c.val.kind = 2) && ie x.str c.val.str)) ∧ Sub S T := by
 refine br (dm _) (dn _ rfl) fn169 rfl ok169 (by simp) fun F hn hs => ?_
 have s0 := hs 0;have s1 := hs 1;clear hs;simp only [List.getElem?_cons_zero, List.getElem?_cons_succ, Option.getD_some, aS, bo] at s0 s1 hi
 by_cases h1 : x.kind = 2
 ·by_cases h2 : c.val.kind = 2
  ·simp [s0, s1, hi, aj CK, h1, h2, aR, zY, cS]
  ·simp [s0, s1, hi, aj CK, h1, h2, aR, zY, cS]
 ·simp [s0, s1, hi, aj CK, h1, aR, zY, cS]
theorem ask172 (x y : gN) (i : Nat) {S : AS} (hi : S.h.get i = some (.row (aS x) 0 0 false 50)) (CK : i < S.next) :
  ai C0 118 [.agg (aS y), .ptr i 0 0 4] S fun r T => r = .bool (decide (cM x y = 0)) ∧ Sub S T := by
 obtain ⟨v, T, ⟨rfl, hT⟩, e⟩ := (compare x y ⟨S.h.set S.next (.row (aS y) 0 0 false 50), S.next + 1⟩).ex;refine br (dm _) (dn _ rfl) fn172 rfl ok172 (by simp) fun F hn hs => ?_
 have s0 := hs 0;have s1 := hs 1;clear hs;simp only [List.getElem?_cons_zero, List.getElem?_cons_succ, Option.getD_some, aS] at s0 s1 hi e;simp [s0, s1, hi, aj CK, e, aR, Sub.trans cS hT]
theorem ask171 (x : gN) (c : de) (i : Nat) {S : AS} (hc : kC S c) (hi : S.h.get i = some (.row (bo c) 0 0 false 54)) (CK : i < S.next) :
  ai C0 117 [.agg (aS x), .ptr i 0 0 7] S fun r T => r = .bool (c.bK.any fun y => decide (cM x y = 0)) ∧ Sub S T := by
 obtain ⟨v, T, ⟨rfl, hT⟩, e⟩ := (con156 (P := fun y => decide (cM x y = 0)) (f := 118) (caps := [.ptr S.next 0 0 4]) jk (hc.sl.toSub (cS (o := .row (aS x) 0 0 false 50))) (by have := hc.le; omega) rfl (fun T hT y hy => ask172 x y S.next
  (by rw [hT.h _ (Nat.lt_succ_self _)]; exact aa _ _ _) hT.next)).ex
 refine br (dm _) (dn _ rfl) fn171 rfl ok171 (by simp) fun F hn hs => ?_
 have s0 := hs 0;have s1 := hs 1;clear hs;simp only [List.getElem?_cons_zero, List.getElem?_cons_succ, Option.getD_some, aS, bo] at s0 s1 hi e;simp [s0, s1, hi, aj CK, e, aR, Sub.trans cS hT]
def aY (c : de) (x : gN) : Bool :=
 if c.op = 1 then true
 else if c.op = 2 then decide (x.kind = c.val.kind) && (fun n : Int => decide (n = 0)) (cM x c.val)
 else if c.op = 3 then decide (x.kind = c.val.kind) && (fun n : Int => decide (n ≠ 0)) (cM x c.val)
 else if c.op = 4 then decide (x.kind = c.val.kind) && (fun n : Int => decide (n < 0)) (cM x c.val)
 else if c.op = 5 then decide (x.kind = c.val.kind) && (fun n : Int => decide (n ≤ 0)) (cM x c.val)
 else if c.op = 6 then decide (x.kind = c.val.kind) && (fun n : Int => decide (0 < n)) (cM x c.val)
 else if c.op = 7 then decide (x.kind = c.val.kind) && (fun n : Int => decide (0 ≤ n)) (cM x c.val)
 else if c.op = 8 then decide (x.kind = 2) && (decide (c.val.kind = 2) && ie x.str c.val.str)
 else if c.op = 9 then c.bK.any fun y => decide (cM x y = 0)
 else false
theorem yN (g : FuncId) (i : Nat) {S : AS} {Q : AV → AS → Prop} : ai C0 107 [.func (.func g) [] [], .ptr i 0 0 7] S Q = Q (.func (.func 108) [] [.ptr i 0 0 7, .ptr S.next 0 0 1]) ⟨S.h.set S.next (.row [.func (.func g) [] []] 0 0 false 144), S.next + 1⟩ := by
 refine ai.eq (cU (dm _) (dn _ rfl) fn159 rfl ok159 (by simp) fun F hn s0 s1 => ?_)
 simp [s0, s1]
def Asks (c : de) (S : AS) (v : AV) (T : AS) : Prop := ∃ f caps, v = .func (.func f) [] caps ∧ (f == 132) = false ∧ Sub S T ∧ ∀ x T', Sub T T' → ai C0 f (.agg (aS x) :: caps) T' fun r U => r = .bool (aY c x) ∧ Sub T' U
theorem zn (c : de) {S : AS} (n : Int) (ho : c.op = n) (g : FuncId) (P : Int → Bool) (hg : (g == 132) = false) (hP : ∀ (n : Int) (T : AS) (Q : AV → AS → Prop), ai C0 g [.int .i64 n] T Q = Q (.bool (P n)) T) (hh : ∀ x, aY c x = (decide (x.kind = c.val.kind) && P (cM x c.val))) :
  Asks c S (.func (.func 108) [] [.ptr S.next 0 0 7, .ptr (S.next + 1) 0 0 1]) ⟨(S.h.set S.next (.row (bo c) 0 0 false 54)).set (S.next + 1) (.row [.func (.func g) [] []] 0 0 false 144), S.next + 2⟩ := by
 refine ⟨108, _, rfl, rfl, kD, fun x T' hT => ?_⟩
 rw [hh];refine ask160 x c g P S.next (S.next + 1) hg hP ?_ ?_ ?_ ?_
 ·rw [hT.h _ (show S.next < S.next + 2 by omega)]; simp only [ae _ _ (show S.next ≠ S.next + 1 by omega)]; exact aa _ _ _
 ·rw [hT.h _ (show S.next + 1 < S.next + 2 by omega)]; exact aa _ _ _
 ·exact Nat.lt_of_lt_of_le (show S.next < S.next + 2 by omega) hT.next
 ·exact Nat.lt_of_lt_of_le (show S.next + 1 < S.next + 2 by omega) hT.next
theorem asks (c : de) {S : AS} (hc : kC S c) : ai C0 77 [.agg (bo c)] S fun v T => Asks c S v T := by
 refine br (dm _) (dn _ rfl) fn131 rfl ok131 (by simp) fun F hn hs => ?_
 have s0 := hs 0;clear hs;simp only [List.getElem?_cons_zero, Option.getD_some, bo] at s0
 by_cases h1 : c.op = 1
 ·simp [s0, h1, aR]
  exact ⟨109, [], rfl, rfl, cS, fun x T' hT => by unfold aY; rw [if_pos h1]; exact ask162 _ _ rfl T'⟩
 by_cases h2 : c.op = 2
 ·have key := zn (S := S) c 2 h2 110 (fun n : Int => decide (n = 0)) rfl (fun n T Q => op163 n) (fun x => by unfold aY; simp [h2])
  simp only [bo, h2] at key;simp [s0, h2, aR, yN];exact key
 by_cases h3 : c.op = 3
 ·have key := zn (S := S) c 3 h3 111 (fun n : Int => decide (n ≠ 0)) rfl (fun n T Q => op164 n) (fun x => by unfold aY; simp [h3])
  simp only [bo, h3] at key;simp [s0, h3, aR, yN];exact key
 by_cases h4 : c.op = 4
 ·have key := zn (S := S) c 4 h4 112 (fun n : Int => decide (n < 0)) rfl (fun n T Q => op165 n) (fun x => by unfold aY; simp [h4])
  simp only [bo, h4] at key;simp [s0, h4, aR, yN];exact key
 by_cases h5 : c.op = 5
 ·have key := zn (S := S) c 5 h5 113 (fun n : Int => decide (n ≤ 0)) rfl (fun n T Q => op166 n) (fun x => by unfold aY; simp [h5])
  simp only [bo, h5] at key;simp [s0, h5, aR, yN];exact key
 by_cases h6 : c.op = 6
 ·have key := zn (S := S) c 6 h6 114 (fun n : Int => decide (0 < n)) rfl (fun n T Q => op167 n) (fun x => by unfold aY; simp [h6])
  simp only [bo, h6] at key;simp [s0, h6, aR, yN];exact key
 by_cases h7 : c.op = 7
 ·have key := zn (S := S) c 7 h7 115 (fun n : Int => decide (0 ≤ n)) rfl (fun n T Q => op168 n) (fun x => by unfold aY; simp [h7])
  simp only [bo, h7] at key;simp [s0, h7, aR, yN];exact key
 have sz : Sub S ⟨S.h.set S.next (.row (bo c) 0 0 false 54), S.next + 1⟩ := cS
 by_cases h8 : c.op = 8
 ·simp only [bo, h8] at sz
  simp [s0, h8, aR];refine ⟨116, _, rfl, rfl, sz, fun x T' hT => ?_⟩
  have hh : aY c x = (decide (x.kind = 2) && (decide (c.val.kind = 2) && ie x.str c.val.str)) := by unfold aY; simp [h8]
  rw [hh];refine ask169 x c S.next ?_ hT.next;rw [hT.h _ (Nat.lt_succ_self _), aa]; simp only [bo, h8]
 by_cases h9 : c.op = 9
 ·simp only [bo, h9] at sz
  simp [s0, h9, aR];refine ⟨117, _, rfl, rfl, sz, fun x T' hT => ?_⟩
  have hh : aY c x = (c.bK.any fun y => decide (cM x y = 0)) := by unfold aY; simp [h9]
  rw [hh];refine ask171 x c S.next (hc.sub (sz.trans hT)) ?_ hT.next;rw [hT.h _ (Nat.lt_succ_self _), aa]; simp only [bo, h9]
 ·simp [s0, h1, h2, h3, h4, h5, h6, h7, h8, h9, aR]
  refine ⟨119, [], rfl, rfl, sz, fun x T' hT => ?_⟩
  have hh : aY c x = false := by unfold aY; simp [h1, h2, h3, h4, h5, h6, h7, h8, h9]
  rw [hh];exact ask173 _ _ rfl T'
theorem nt79 : Tryz.f45.ntmps = 9 := by kernel_rfl
theorem holds (c : de) (x : gN) {S : AS} (hc : kC S c) : ai C0 45 [.agg (bo c), .agg (aS x)] S fun r T => r = .bool (aY c x) ∧ Sub S T := by
 have hS : Sub S ⟨(S.h.set S.next (.row (bo c) 0 0 false 54)).set (S.next + 1) (.row (aS x) 0 0 false 50), S.next + 2⟩ := kD;obtain ⟨v, T, ⟨f, caps, rfl, hf, hT, hcall⟩, e⟩ := (asks c (hc.sub hS)).ex;obtain ⟨r, U, ⟨rfl, hU⟩, e2⟩ := (hcall x T (Sub.refl T)).ex;have g1 : T.h.get (S.next + 1) = some (.row (aS x) 0 0 false 50) := by rw [hT.h _ (Nat.lt_succ_self _)]; exact aa _ _ _
 refine br (dm _) (dn _ rfl) fn79 rfl ok79 (by simp) fun F hn hs => ?_
 rw [nt79] at hn;have s0 := hs 0;have s1 := hs 1;clear hs;simp only [List.getElem?_cons_zero, List.getElem?_cons_succ, Option.getD_some, aS, bo] at s0 s1 e e2 g1;simp [s0, s1, hn];refine aA [.r 0 0, .e [], .r 1 0, .e [], .p] (n := 9) (by kernel_rfl) (by simp [hn]) ?_
 simp [s0, s1, e, e2, g1, aR, aR f hf, jm, (hS.trans hT).trans hU]
def lK (l : List dD) (c : de) : Bool := match fl l c.name with | none => true | some v => !aY c v
def di (cs : List de) (l : List dD) : Bool := !cs.any (lK l)
structure js (S : AS) (p : AV) (cs : List de) : Prop where
 sl : Sl S p 7 (cs.flatMap bo)
 con : ∀ c, c ∈ cs → kC S c
 le : cs.length ≤ 9223372036854775807
theorem js.sub {S T : AS} {p : AV} {cs : List de} (h : js S p cs) (hs : Sub S T) : js T p cs := ⟨h.sl.toSub hs, fun c hc => (h.con c hc).sub hs, h.le⟩
structure eF (S : AS) (u : AV) (l : List dD) : Prop where
 sl : Sl S u 5 (l.flatMap eQ)
 le : l.length ≤ 2513169434843
theorem eF.sub {S T : AS} {u : AV} {l : List dD} (h : eF S u l) (hs : Sub S T) : eF T u l := ⟨h.sl.toSub hs, h.le⟩
theorem match1 (c : de) (id : Nat) {S : AS} {key : List Nat} {u : AV} {l : List dD} (hc : kC S c) (hl : eF S u l) (bY : S.h.get id = some (.row [.str key, u] 0 0 false 33)) (aL : id < S.next) :
  ai C0 43 [.agg (bo c), .ptr id 0 0 2] S fun r T => r = .bool (lK l c) ∧ Sub S T := by
 have h1 : Sub S ⟨S.h.set S.next (.row (bo c) 0 0 false 54), S.next + 1⟩ := cS;obtain ⟨v, T, ⟨rfl, hT⟩, e⟩ := (get (key := key) (n := c.name) (hl.sub h1).sl hl.le).ex;have iv := h1.trans hT;have g0 : T.h.get S.next = some (.row (bo c) 0 0 false 54) := by rw [hT.h _ (Nat.lt_succ_self _)]; exact aa _ _ _
 have hTn : S.next < T.next := hT.next;have hz : ∀ w : gN, Sub T ⟨(T.h.set T.next (.row [.int .i64 0, .int .i64 0, .str [], .bool false] 0 0 false 50)).set T.next (.row (aS w) 0 0 false 50), T.next + 1⟩ := fun w => jf
 refine br (dm _) (dn _ rfl) fn77 rfl ok77 (by simp) fun F hn hs => ?_
 have s0 := hs 0;have s1 := hs 1;clear hs;have hu := hl.sl.cells;unfold lK
 cases hg : fl l c.name with
 | none =>
  simp only [hg, Option.getD_none, Option.isSome_none, zeroV] at e;have hz0 := hz zeroV;simp only [List.getElem?_cons_zero, List.getElem?_cons_succ, Option.getD_some, aS, bo, zeroV] at s0 s1 e g0 hz0;simp [s0, s1, bY, aj aL, e, g0, aR, hu, iv.trans hz0]
 | some w =>
  simp only [hg, Option.getD_some, Option.isSome_some] at e;obtain ⟨r, U, ⟨rfl, hU⟩, e2⟩ := (holds c w (hc.sub (iv.trans (hz w)))).ex;have hz0 := hz w;simp only [List.getElem?_cons_zero, List.getElem?_cons_succ, Option.getD_some, aS, bo] at s0 s1 e g0 hz0 e2 hU;simp [s0, s1, bY, aj aL, aj hTn, e, e2, g0, aR, hu, (iv.trans hz0).trans hU]
theorem matches_ {S : AS} {p u : AV} {cs : List de} {l : List dD} {key : List Nat} (hp : js S p cs) (hl : eF S u l) : ai C0 15 [p, .agg [.str key, u]] S fun r T => r = .bool (di cs l) ∧ Sub S T := by
 have h1 : Sub S ⟨S.h.set S.next (.row [.str key, u] 0 0 false 33), S.next + 1⟩ := cS;obtain ⟨v, T, ⟨rfl, hT⟩, e⟩ := (con76 (P := lK l) (f := 43) (caps := [.ptr S.next 0 0 2]) dy (hp.sub h1).sl (by have := hp.le; omega) rfl (fun T hT c hc => match1 c S.next (((hp.con c hc).sub h1).sub hT) ((hl.sub h1).sub hT)
  (by rw [hT.h _ (Nat.lt_succ_self _)]; exact aa _ _ _) hT.next)).ex
 refine br (dm _) (dn _ rfl) fn15 rfl ok15 (by simp) fun F hn hs => ?_
 have s0 := hs 0;have s1 := hs 1;clear hs;have hu := hl.sl.cells;simp only [List.getElem?_cons_zero, List.getElem?_cons_succ, Option.getD_some] at s0 s1;simp [s0, s1, hu, e, aR, di, h1.trans hT]
theorem not157 (v : gN) (S : AS) : ai C0 74 [.agg (aS v)] S fun r T => r = .bool (!gP v) ∧ Sub S T := by
 obtain ⟨r, T, ⟨rfl, hT⟩, e⟩ := (mayIs v ⟨S.h.set S.next (.row (aS v) 0 0 false 50), S.next + 1⟩).ex;refine br (dm _) (dn _ rfl) fn157 rfl ok157 (by simp) fun F hn hs => ?_
 have s0 := hs 0;clear hs;simp only [List.getElem?_cons_zero, List.getElem?_cons_succ, Option.getD_some, aS] at s0 e;simp [s0, e, aR, Sub.trans cS hT]
def zP (c : de) : Bool := !c.bK.any fun v => !gP v
def m6 (c : de) : Bool :=
 if c.name.length < 1 then false else if 16 < c.name.length then false
 else if c.op = 1 then gJ c.val zeroV && decide (c.bK.length = 0)
 else if 2 ≤ c.op ∧ c.op ≤ 7 then gP c.val && decide (c.bK.length = 0)
 else if c.op = 8 then gP c.val && (decide (c.val.kind = 2) && decide (c.bK.length = 0))
 else if c.op = 9 then gJ c.val zeroV && (decide (1 ≤ c.bK.length) && (decide (c.bK.length ≤ 6) && zP c))
 else false
set_option maxHeartbeats 4000000 in
theorem mayCons (c : de) {S : AS} (hc : kC S c) : ai C0 39 [.agg (bo c)] S fun r T => r = .bool (m6 c) ∧ Sub S T := by
 have h1 : Sub S ⟨S.h.set S.next (.row (bo c) 0 0 false 54), S.next + 1⟩ := cS;obtain ⟨v, T, ⟨rfl, hT⟩, e⟩ := (con156 (P := fun v => !gP v) (f := 74) (caps := []) jk (hc.sub h1).sl (by have := hc.le; omega) rfl (fun T hT v hv => not157 v T)).ex
 obtain ⟨r, U, ⟨rfl, hU⟩, e2⟩ := (mayIs c.val T).ex;have iv := h1.trans hT;have hU1 := iv.trans hU;have g0 : T.h.get S.next = some (.row (bo c) 0 0 false 54) := by rw [hT.h _ (Nat.lt_succ_self _)]; exact aa _ _ _
 have g1 : U.h.get S.next = some (.row (bo c) 0 0 false 54) := by rw [hU.h _ hT.next]; exact g0
 have u1 := hc.sl.sl;have u2 := hc.sl.aO jk (by omega)
 refine br (dm _) (dn _ rfl) fn125 rfl ok125 (by simp) fun F hn hs => ?_
 have s0 := hs 0;clear hs;have hs : (c.bK.any fun v => !gP v) = !zP c := by simp [zP]
 simp only [List.getElem?_cons_zero, List.getElem?_cons_succ, Option.getD_some, bo, aS, hs] at s0 e e2 g0 g1;unfold m6
 by_cases n1 : c.name.length < 1
 ·have n1' : (c.name.length : Int) < 1 := by omega
  simp [s0, aD iE, n1', n1, h1];simp only [bo] at h1;exact h1
 have n1' : ¬ (c.name.length : Int) < 1 := by omega
 by_cases n2 : 16 < c.name.length
 ·have n2' : (16 : Int) < c.name.length := by omega
  simp [s0, aD iE, n1', n1, n2', n2];simp only [bo] at h1;exact h1
 have n2' : ¬ (16 : Int) < c.name.length := by omega
 have hbe : gJ ⟨c.val.kind, c.val.num, c.val.str, c.val.bool⟩ ⟨0, 0, [], false⟩ = gJ c.val zeroV := rfl;have q0 : ((c.bK.length : Int) = 0) = (c.bK.length = 0) := by simp
 have q1 : ((1 : Int) ≤ c.bK.length) = (1 ≤ c.bK.length) := by simp; omega
 have q6 : ((c.bK.length : Int) ≤ 6) = (c.bK.length ≤ 6) := by simp; omega
 by_cases o1 : c.op = 1
 ·simp only [o1] at s0 e e2 g0 g1
  cases hb : gJ c.val zeroV <;> simp [s0, aD iE, n1', n1, n2', n2, o1, aR, e, e2, g0, g1, u1, u2, gx, hbe, hb, iv]
 by_cases o2 : 2 ≤ c.op
 ·by_cases o7 : c.op ≤ 7
  ·cases hb : gP c.val <;> simp [s0, aD iE, n1', n1, n2', n2, o1, o2, o7, aR, e, e2, g0, g1, u1, u2, gx, hb, hU1]
  by_cases o8 : c.op = 8
  ·simp only [o8] at s0 e e2 g0 g1
   cases hb : gP c.val with
   | false => simp [s0, aD iE, n1', n1, n2', n2, o1, o2, o7, o8, aR, e, e2, g0, g1, u1, u2, gx, hb, hU1]
   | true =>
    by_cases k2 : c.val.kind = 2
    ·simp only [k2] at s0 e e2 g0 g1
     simp [s0, aD iE, n1', n1, n2', n2, o1, o2, o7, o8, aR, e, e2, g0, g1, u1, u2, gx, hb, k2, hU1]
    ·simp [s0, aD iE, n1', n1, n2', n2, o1, o2, o7, o8, aR, e, e2, g0, g1, u1, u2, gx, hb, k2, hU1]
  by_cases o9 : c.op = 9
  ·simp only [o9] at s0 e e2 g0 g1
   cases hb : gJ c.val zeroV with
   | false => simp [s0, aD iE, n1', n1, n2', n2, o1, o2, o7, o8, o9, aR, e, e2, g0, g1, u1, u2, gx, hbe, hb, iv]
   | true =>
    by_cases l1 : 1 ≤ c.bK.length
    ·by_cases l6 : c.bK.length ≤ 6
     ·simp [s0, aD iE, n1', n1, n2', n2, o1, o2, o7, o8, o9, aR, e, e2, g0, g1, u1, u2, gx, hbe, hb, q1, q6, l1, l6, iv]
     ·simp [s0, aD iE, n1', n1, n2', n2, o1, o2, o7, o8, o9, aR, e, e2, g0, g1, u1, u2, gx, hbe, hb, q1, q6, l1, l6, iv]
    ·simp [s0, aD iE, n1', n1, n2', n2, o1, o2, o7, o8, o9, aR, e, e2, g0, g1, u1, u2, gx, hbe, hb, q1, q6, l1, iv]
  ·simp [s0, aD iE, n1', n1, n2', n2, o1, o2, o7, o8, o9, aR, e, e2, g0, g1, u1, u2, gx, iv]
 ·have o8 : ¬ c.op = 8 := by omega
  have o9 : ¬ c.op = 9 := by omega
  simp [s0, aD iE, n1', n1, n2', n2, o1, o2, o8, o9, aR, e, e2, g0, g1, u1, u2, gx, iv]
theorem not124 (c : de) {S : AS} (hc : kC S c) : ai C0 38 [.agg (bo c)] S fun r T => r = .bool (!m6 c) ∧ Sub S T := by
 have h1 : Sub S ⟨S.h.set S.next (.row (bo c) 0 0 false 54), S.next + 1⟩ := cS;obtain ⟨r, T, ⟨rfl, hT⟩, e⟩ := (mayCons c (hc.sub h1)).ex;have iv := h1.trans hT;refine br (dm _) (dn _ rfl) fn124 rfl ok124 (by simp) fun F hn hs => ?_
 have s0 := hs 0;clear hs;simp only [List.getElem?_cons_zero, List.getElem?_cons_succ, Option.getD_some, bo] at s0 e;simp [s0, e, aR, iv]
def jZ (cs : List de) : Bool := decide (cs.length ≤ 6) && !cs.any fun c => !m6 c
theorem mayPred {S : AS} {p : AV} {cs : List de} (hp : js S p cs) : ai C0 13 [p] S fun r T => r = .bool (jZ cs) ∧ Sub S T := by
 obtain ⟨v, T, ⟨rfl, hT⟩, e⟩ := (con76 (P := fun c => !m6 c) (f := 38) (caps := []) dy hp.sl (by have := hp.le; omega) rfl (fun T hT c hc => not124 c ((hp.con c hc).sub hT))).ex
 have u1 := hp.sl.sl;have u2 := hp.sl.aO dy (by omega)
 have q6 : ((cs.length : Int) ≤ 6) = (cs.length ≤ 6) := by simp; omega
 refine cv (dm _) (dn _ rfl) fn71 rfl ok71 (by simp) fun F hn s0 => ?_
 unfold jZ
 by_cases l6 : cs.length ≤ 6
 ·simp [s0, u1, u2, q6, l6, e, aR, hT]
 ·simp [s0, u1, u2, q6, l6, aR, Sub.refl]
end Go.Proofs.YtfempihpphbgmaaGreat.mod
namespace Go.Proofs.YtfempihpphbgmaaGreat.idx
open Go Go.Am Go.Proofs.YtfempihpphbgmaaGreat.mod
set_option linter.unusedVariables false
set_option linter.unusedSimpArgs false
@[simp] theorem st38 : kP C0 38 = some (30, 1, 8) := by kernel_rfl
@[simp] theorem ag30 : aE C0 30 = some false := by kernel_rfl
@[simp] theorem sz30 : aw C0 30 = some 1 := by kernel_rfl
@[simp] theorem cv105_142 : nW C0 105 142 = some .u32 := by kernel_rfl
@[simp] theorem sz3 : aw C0 3 = some 1 := by kernel_rfl
@[simp] theorem ze3 : zeroOf C0 3 = some (.int .i64 0) := by kernel_rfl
@[simp] theorem ag3 : aE C0 3 = some false := by kernel_rfl
@[simp] theorem cv30_5 : nW C0 30 5 = some .u8 := by kernel_rfl
@[simp] theorem cv5_3 : nW C0 5 3 = some .i64 := by kernel_rfl
theorem fn78 : C0.fns.get 78 = some Tryz.f78 := by kernel_rfl
theorem ok78 : codeOk C0 Tryz.f78.ntmps (Tryz.f78.body.getD .skip) = true := by kernel_rfl
theorem fn120 : C0.fns.get 120 = some Tryz.f120 := by kernel_rfl
theorem ok120 : codeOk C0 Tryz.f120.ntmps (Tryz.f120.body.getD .skip) = true := by kernel_rfl
@[simp] theorem ag38 : aE C0 38 = some false := by kernel_rfl
@[simp] theorem sz38 : aw C0 38 = some 1 := by kernel_rfl
@[simp] theorem un38 : aZ C0 38 = some (.slice 30) := by kernel_rfl
theorem fn79 : C0.fns.get 79 = some Tryz.f79 := by kernel_rfl
theorem ok79 : codeOk C0 Tryz.f79.ntmps (Tryz.f79.body.getD .skip) = true := by kernel_rfl
@[simp] theorem ag70 : aE C0 70 = some false := by kernel_rfl
@[simp] theorem sz70 : aw C0 70 = some 1 := by kernel_rfl
@[simp] theorem fa73_0 : fieldAt C0 73 0 = some 0 := by kernel_rfl
@[simp] theorem pt26 : ptT C0 26 = true := by kernel_rfl
@[simp] theorem mt70 : E3 C0 70 = true := by kernel_rfl
@[simp] theorem mt71 : E3 C0 71 = true := by kernel_rfl
@[simp] theorem ag33 : aE C0 33 = some true := by kernel_rfl
@[simp] theorem sz33 : aw C0 33 = some 2 := by kernel_rfl
@[simp] theorem mk70 : xr C0 70 = some ((.int .u64), .agg [.str [], .aH]) := by kernel_rfl
@[simp] theorem ze33 : zeroOf C0 33 = some (.agg [.str [], .aH]) := by kernel_rfl
@[simp] theorem fa33_0 : fieldAt C0 33 0 = some 0 := by kernel_rfl
@[simp] theorem ag9 : aE C0 9 = some false := by kernel_rfl
@[simp] theorem sz9 : aw C0 9 = some 1 := by kernel_rfl
@[simp] theorem fa33_1 : fieldAt C0 33 1 = some 1 := by kernel_rfl
@[simp] theorem ag31 : aE C0 31 = some false := by kernel_rfl
@[simp] theorem sz31 : aw C0 31 = some 1 := by kernel_rfl
@[simp] theorem st31 : kP C0 31 = some (65, 5, 56) := by kernel_rfl
@[simp] theorem ag65 : aE C0 65 = some true := by kernel_rfl
@[simp] theorem sz65 : aw C0 65 = some 5 := by kernel_rfl
@[simp] theorem ze65 : zeroOf C0 65 = some (.agg [.str [], .int .i64 0, .int .i64 0, .str [], .bool false]) := by kernel_rfl
@[simp] theorem fa73_1 : fieldAt C0 73 1 = some 1 := by kernel_rfl
@[simp] theorem ag71 : aE C0 71 = some false := by kernel_rfl
@[simp] theorem sz71 : aw C0 71 = some 1 := by kernel_rfl
@[simp] theorem fa65_0 : fieldAt C0 65 0 = some 0 := by kernel_rfl
@[simp] theorem mk71 : xr C0 71 = some (.string, .aH) := by kernel_rfl
@[simp] theorem fa65_1 : fieldAt C0 65 1 = some 1 := by kernel_rfl
@[simp] theorem ag50 : aE C0 50 = some true := by kernel_rfl
@[simp] theorem sz50 : aw C0 50 = some 4 := by kernel_rfl
@[simp] theorem tW : aw C0 80 = some 5 := by kernel_rfl
@[simp] theorem ze80 : zeroOf C0 80 = some (.agg [.int .i64 0, .int .i64 0, .str [], .bool false, .int .u64 0]) := by kernel_rfl
@[simp] theorem ag80 : aE C0 80 = some true := by kernel_rfl
@[simp] theorem xe : kP C0 78 = some (80, 5, 48) := by kernel_rfl
@[simp] theorem ag78 : aE C0 78 = some false := by kernel_rfl
theorem fn29 : C0.fns.get 29 = some Tryz.f29 := by kernel_rfl
theorem ok29 : codeOk C0 Tryz.f29.ntmps (Tryz.f29.body.getD .skip) = true := by kernel_rfl
theorem fn30 : C0.fns.get 30 = some Tryz.f30 := by kernel_rfl
theorem ok30 : codeOk C0 Tryz.f30.ntmps (Tryz.f30.body.getD .skip) = true := by kernel_rfl
@[simp] theorem fa80_0 : fieldAt C0 80 0 = some 0 := by kernel_rfl
@[simp] theorem fa80_1 : fieldAt C0 80 1 = some 4 := by kernel_rfl
theorem fn31 : C0.fns.get 31 = some Tryz.f31 := by kernel_rfl
theorem ok31 : codeOk C0 Tryz.f31.ntmps (Tryz.f31.body.getD .skip) = true := by kernel_rfl
@[simp] theorem lX : aZ C0 78 = some (.slice 80) := by kernel_rfl
@[simp] theorem un3 : aZ C0 3 = some (.int .i64) := by kernel_rfl
theorem fn34 : C0.fns.get 34 = some Tryz.f34 := by kernel_rfl
theorem ok34 : codeOk C0 Tryz.f34.ntmps (Tryz.f34.body.getD .skip) = true := by kernel_rfl
theorem ej : okW .undef = true := rfl
theorem fn36 : C0.fns.get 36 = some Tryz.f36 := by kernel_rfl
theorem ok36 : codeOk C0 Tryz.f36.ntmps (Tryz.f36.body.getD .skip) = true := by kernel_rfl
theorem fn70 : C0.fns.get 70 = some Tryz.f70 := by kernel_rfl
theorem ok70 : codeOk C0 Tryz.f70.ntmps (Tryz.f70.body.getD .skip) = true := by kernel_rfl
theorem fn71 : C0.fns.get 71 = some Tryz.f71 := by kernel_rfl
theorem ok71 : codeOk C0 Tryz.f71.ntmps (Tryz.f71.body.getD .skip) = true := by kernel_rfl
theorem fn95 : C0.fns.get 95 = some Tryz.f95 := by kernel_rfl
theorem ok95 : codeOk C0 Tryz.f95.ntmps (Tryz.f95.body.getD .skip) = true := by kernel_rfl
theorem fn96 : C0.fns.get 96 = some Tryz.f96 := by kernel_rfl
theorem ok96 : codeOk C0 Tryz.f96.ntmps (Tryz.f96.body.getD .skip) = true := by kernel_rfl
theorem fn97 : C0.fns.get 97 = some Tryz.f97 := by kernel_rfl
theorem ok97 : codeOk C0 Tryz.f97.ntmps (Tryz.f97.body.getD .skip) = true := by kernel_rfl
theorem fn98 : C0.fns.get 98 = some Tryz.f98 := by kernel_rfl
theorem ok98 : codeOk C0 Tryz.f98.ntmps (Tryz.f98.body.getD .skip) = true := by kernel_rfl
theorem fn99 : C0.fns.get 99 = some Tryz.f99 := by kernel_rfl
theorem ok99 : codeOk C0 Tryz.f99.ntmps (Tryz.f99.body.getD .skip) = true := by kernel_rfl
theorem fn100 : C0.fns.get 100 = some Tryz.f100 := by kernel_rfl
theorem ok100 : codeOk C0 Tryz.f100.ntmps (Tryz.f100.body.getD .skip) = true := by kernel_rfl
theorem fn101 : C0.fns.get 101 = some Tryz.f101 := by kernel_rfl
theorem ok101 : codeOk C0 Tryz.f101.ntmps (Tryz.f101.body.getD .skip) = true := by kernel_rfl
theorem fn102 : C0.fns.get 102 = some Tryz.f102 := by kernel_rfl
theorem ok102 : codeOk C0 Tryz.f102.ntmps (Tryz.f102.body.getD .skip) = true := by kernel_rfl
theorem fn103 : C0.fns.get 103 = some Tryz.f103 := by kernel_rfl
theorem ok103 : codeOk C0 Tryz.f103.ntmps (Tryz.f103.body.getD .skip) = true := by kernel_rfl
theorem fn105 : C0.fns.get 105 = some Tryz.f105 := by kernel_rfl
theorem ok105 : codeOk C0 Tryz.f105.ntmps (Tryz.f105.body.getD .skip) = true := by kernel_rfl
theorem fn127 : C0.fns.get 127 = some Tryz.f127 := by kernel_rfl
theorem ok127 : codeOk C0 Tryz.f127.ntmps (Tryz.f127.body.getD .skip) = true := by kernel_rfl
theorem fn128 : C0.fns.get 128 = some Tryz.f128 := by kernel_rfl
theorem ok128 : codeOk C0 Tryz.f128.ntmps (Tryz.f128.body.getD .skip) = true := by kernel_rfl
theorem fn129 : C0.fns.get 129 = some Tryz.f129 := by kernel_rfl
theorem ok129 : codeOk C0 Tryz.f129.ntmps (Tryz.f129.body.getD .skip) = true := by kernel_rfl
theorem fn130 : C0.fns.get 130 = some Tryz.f130 := by kernel_rfl
theorem ok130 : codeOk C0 Tryz.f130.ntmps (Tryz.f130.body.getD .skip) = true := by kernel_rfl
theorem fn131 : C0.fns.get 131 = some Tryz.f131 := by kernel_rfl
theorem ok131 : codeOk C0 Tryz.f131.ntmps (Tryz.f131.body.getD .skip) = true := by kernel_rfl
theorem fn89 : C0.fns.get 89 = some Tryz.f89 := by kernel_rfl
theorem ok89 : codeOk C0 Tryz.f89.ntmps (Tryz.f89.body.getD .skip) = true := by kernel_rfl
theorem fn133 : C0.fns.get 133 = some Tryz.f133 := by kernel_rfl
theorem ok133 : codeOk C0 Tryz.f133.ntmps (Tryz.f133.body.getD .skip) = true := by kernel_rfl
@[simp] theorem cv3_105 : nW C0 3 105 = some .u64 := by kernel_rfl
@[simp] theorem cv105_3 : nW C0 105 3 = some .i64 := by kernel_rfl
@[simp] theorem cv3_149 : nW C0 3 149 = some .u64 := by kernel_rfl
@[simp] theorem sz149 : aw C0 149 = some 1 := by kernel_rfl
@[simp] theorem ze149 : zeroOf C0 149 = some (.int .u64 0) := by kernel_rfl
@[simp] theorem ag149 : aE C0 149 = some false := by kernel_rfl
def cI (l : List Nat) : List AV := l.map fun n : Nat => AV.int .u64 (n : Int)
structure aQ (S : AS) (v : AV) (d : Array Nat) : Prop where
 gw : Gw S v 1 30 (cI d.toList)
 whole : ∀ id cells low top frz ty, cJ v = id + 1 → S.h.get id = some (.row cells low top frz ty) → cells.length = d.size
def nth (d : Array Nat) (i : Nat) : Nat := d[i]!
def aT (x y : Nat) : Bool := decide (x < y)
theorem oA : Sort.SWO aT where
 irrefl x := by simp [aT]
 trans x y z h1 h2 := by simp only [aT, decide_eq_true_eq] at *; omega
 ntrans x y z h1 h2 := by simp only [aT, decide_eq_false_iff_not] at *; omega
abbrev dc (v : AV) (S T : AS) : Prop := eS (fun id => cJ v = id + 1) S T
section
variable {S T : AS} {v : AV} {d : Array Nat}
theorem aQ.bR (h : aQ S v d) (hs : ∀ id, cJ v = id + 1 → T.h.get id = S.h.get id) (hn : S.next ≤ T.next) : aQ T v d :=
 ⟨h.gw.bR hs hn, fun id cells low top frz ty hb hr => h.whole id cells low top frz ty hb (by rw [← hs id hb]; exact hr)⟩
theorem aQ.sub (h : aQ S v d) (hs : Sub S T) : aQ T v d := h.bR (fun id e => hs.h id (by have := h.gw.1.old; omega)) hs.next
theorem aQ.len (h : aQ S v d) : sLen v = d.size := by rw [h.gw.1.sm]; simp [cI]
theorem aQ.sl (h : aQ S v d) : isSl 1 v = true := h.gw.1.sl
theorem aQ.ok (h : aQ S v d) : okW v = true := EO h.gw.1.ok
theorem aQ.ld (h : aQ S v d) {i : Nat} (hi : i < d.size) : loadT C0 S 30 (rW v i) = some (.int .u64 (nth d i : Nat)) := by
 refine lB h.gw.1 ?_ ag30;unfold cI;rw [List.getElem?_map];have : d.toList[i]? = some d[i]! := by
  rw [Array.getElem?_toList, getElem!_pos d i hi];exact Array.getElem?_eq_getElem hi
 rw [this]; rfl
theorem pAt_add {v : AV} {k : Nat} : x5 (rW v k) 0 = rW v k := by cases v <;> rfl
theorem wrV_len {e : Nat} {cs : List AV} {x : AV} {i : Nat} (h : Gw S v 1 e cs) (hi : i < sLen v) (hw : wrV S (rW v i) [x] = some T) {id : Nat} {cells : List AV} {low top : Nat} {frz : Bool} {ty : Nat} (hb : cJ v = id + 1) (hr : T.h.get id = some (.row cells low top frz ty)) :
  ∃ cells' low' oT xF yd, S.h.get id = some (.row cells' low' oT xF yd) ∧ cells.length = cells'.length := by
 obtain ⟨h1, h2⟩ := h;rcases h2 with rfl | ⟨id1, g, off, n, lim, cap, rfl, hc, aL, cells1, low1, top1, hg, hl, htq⟩
 ·simp [sLen] at hi
 ·subst htq
  simp only [sLen] at hi;obtain ⟨qu, g', off', n', lim', xL, e1, cells', low', oT, xF, yd, hg', k1, k2, k3, k4⟩ := ll h1 (k := i) hi
  cases e1
  rw [hg] at hg'
  cases hg'
  have hlen := h1.len;simp only [sLen] at hlen;have pY : off + n * 1 ≤ cells1.length := by
   have := congrArg List.length k4;rw [List.length_take, List.length_drop, hlen] at this;omega
  obtain rfl : id1 = id := by simpa [cJ] using hb
  have hsp : dg (off + i * 1) cells1 [x] = cells1.set (off + i * 1) x := by
   rw [fE _ _ _ (by omega), List.set_eq_take_append_cons_drop, if_pos (by omega)]
   simp
  simp only [rW, zC, yb, hg, ox, List.length_singleton, hsp] at hw;rw [if_pos (by refine ⟨?_, by omega, ?_⟩ <;> trivial)] at hw
  cases hw
  rw [aa] at hr
  cases hr
  exact ⟨_, _, _, _, _, hg, List.length_set⟩
theorem aQ.put (h : aQ S v d) {i : Nat} (hi : i < d.size) (x : Nat) : ∃ T, wrV S (rW v i) [.int .u64 (x : Int)] = some T ∧ aQ T v (d.setIfInBounds i x) ∧ dc v S T ∧ T.next = S.next := by
 obtain ⟨T, e, hg, hs, hn⟩ := h.gw.putc (x := .int .u64 (x : Int)) (i := i) (o := 0) (by rw [h.len]; exact hi) (by omega)
 rw [pAt_add] at e;refine ⟨T, e, ⟨?_, fun id cells low top frz ty hb hr => ?_⟩, ⟨fun id _ ha => hs id (fun e => ha e.symm), by omega⟩, hn⟩
 rotate_left
 ·obtain ⟨cells', low', oT, xF, yd, q1, q2⟩ := wrV_len h.gw (by rw [h.len]; exact hi) e hb hr
  rw [q2, Array.size_setIfInBounds];exact h.whole id cells' low' oT xF yd hb q1
 have : (cI d.toList).set (i * 1 + 0) (.int .u64 (x : Int)) = cI (d.setIfInBounds i x).toList := by
  rw [Nat.mul_one, Nat.add_zero, Array.toList_setIfInBounds];unfold cI;rw [List.map_set]
 rw [← this];exact hg
theorem aQ.swap (h : aQ S v d) {i j : Nat} (hi : i < d.size) (hj : j < d.size) : ∃ T1 T2, wrV S (rW v i) [.int .u64 (nth d j : Nat)] = some T1 ∧ wrV T1 (rW v j) [.int .u64 (nth d i : Nat)] = some T2 ∧ aQ T2 v (Sort.swp d i j) ∧ dc v S T2 ∧ T2.next = S.next := by
 obtain ⟨T1, e1, h1, k1, n1⟩ := h.put hi d[j]!;obtain ⟨T2, e2, h2, k2, n2⟩ := h1.put (i := j) (by simpa using hj) d[i]!
 exact ⟨T1, T2, e1, e2, h2, k1.trans k2, by omega⟩
theorem nan_sort {x : Nat} {Q : AV → AS → Prop} : ai C0 89 [.int .u64 x] S Q = Q (.bool false) S := by
 refine ai.eq (cv (dm _) (dn _ rfl) fn89 rfl ok89 (by simp) fun F hn s0 => ?_)
 simp [s0]
theorem aG {x y : Nat} {Q : AV → AS → Prop} : ai C0 101 [.int .u64 x, .int .u64 y] S Q = Q (.bool (aT x y)) S := by
 refine ai.eq (cU (dm _) (dn _ rfl) fn101 rfl ok101 (by simp) fun F hn s0 s1 => ?_)
 simp [s0, s1, nan_sort, aR, aT]
end
section
variable {S : AS} {v : AV} {d : Array Nat}
theorem dp {n : Nat} (h : n < 9223372036854775807) : IntKind.i64.wrap ((n : Int) + 1) = (n : Int) + 1 := IntWalk.i64_in _ (by omega)
theorem im {n : Nat} (h : n < 9223372036854775807) : IntKind.i64.wrap ((n : Int) - 1) = (n : Int) - 1 := IntWalk.i64_in _ (by omega)
theorem nt95 : Tryz.f95.ntmps = 49 := by kernel_rfl
def insH (S : AS) (v : AV) (d : Array Nat) (a b k : Nat) (F' : Fr) (S' : AS) : Prop :=
 ∃ (i : Nat) (d' : Array Nat), aQ S' v d' ∧ dc v S S' ∧ d'.size = d.size ∧ Sort.insOuter aT a b i d' = Sort.insertionSort aT d a b ∧ sl F' 0 = v ∧ sl F' 1 = .int .i64 a ∧ sl F' 2 = .int .i64 b ∧ sl F' 6 = .int .i64 i ∧ F'.n = 49 ∧ i ≤ b + 1 ∧ k = b + 1 - i
theorem Ao {S : AS} {v : AV} {d : Array Nat} {a b k : Nat} {F' : Fr} {S' : AS} (i : Nat) (d' : Array Nat) (h1 : aQ S' v d') (h2 : dc v S S') (h3 : d'.size = d.size) (h4 : Sort.insOuter aT a b i d' = Sort.insertionSort aT d a b) (h5 : sl F' 0 = v) (h6 : sl F' 1 = .int .i64 a) (h7 : sl F' 2 = .int .i64 b) (h8 : sl F' 6 = .int .i64 i) (h9 : F'.n = 49) (qA : i ≤ b + 1) (rf : k = b + 1 - i) : insH S v d a b k F' S' :=
 ⟨i, d', h1, h2, h3, h4, h5, h6, h7, h8, h9, qA, rf⟩
def inrH (S : AS) (v : AV) (d : Array Nat) (a b i : Nat) (R : Array Nat) (k : Nat) (F' : Fr) (S' : AS) : Prop :=
 ∃ (j : Nat) (d' : Array Nat), aQ S' v d' ∧ dc v S S' ∧ d'.size = d.size ∧ Sort.insInner aT a j d' = R ∧ sl F' 0 = v ∧ sl F' 1 = .int .i64 a ∧ sl F' 2 = .int .i64 b ∧ sl F' 6 = .int .i64 i ∧ sl F' 7 = .int .i64 j ∧ F'.n = 49 ∧ j ≤ i ∧ k = j
theorem inrH_mk {S : AS} {v : AV} {d : Array Nat} {a b i : Nat} {R : Array Nat} {k : Nat} {F' : Fr} {S' : AS} (j : Nat) (d' : Array Nat) (h1 : aQ S' v d') (h2 : dc v S S') (h3 : d'.size = d.size) (h4 : Sort.insInner aT a j d' = R) (h5 : sl F' 0 = v) (h6 : sl F' 1 = .int .i64 a) (h7 : sl F' 2 = .int .i64 b) (h8 : sl F' 6 = .int .i64 i) (h9 : sl F' 7 = .int .i64 j) (qA : F'.n = 49) (rf : j ≤ i) (DT : k = j) : inrH S v d a b i R k F' S' :=
 ⟨j, d', h1, h2, h3, h4, h5, h6, h7, h8, h9, qA, rf, DT⟩
theorem Cz {a b i : Nat} {d : Array Nat} (h : i < b) : Sort.insOuter aT a b i d = Sort.insOuter aT a b (i + 1) (Sort.insInner aT a i d) := by
 rw [Sort.insOuter, if_pos h]
theorem CA {a b i : Nat} {d : Array Nat} (h : ¬ i < b) : Sort.insOuter aT a b i d = d := by
 rw [Sort.insOuter, if_neg h]
theorem kE (a : Nat) : ∀ (j : Nat) (d : Array Nat), (Sort.insInner aT a j d).size = d.size
 | 0, d => rfl
 | j + 1, d => by
  rw [Sort.insInner]
  split
  ·rw [kE a j]; simp [Sort.swp]
  ·rfl
set_option maxRecDepth 20000 in
theorem ins_sort (h : aQ S v d) {a b : Nat} (qz : a ≤ b) (hb : b ≤ d.size) (fi : d.size ≤ 1048576) : ai C0 95 [v, .int .i64 a, .int .i64 b] S fun r T => r = .tuple [] ∧ aQ T v (Sort.insertionSort aT d a b) ∧ dc v S T := by
 refine ka (dm _) (dn _ rfl) fn95 rfl ok95 (by simp) fun F hn s0 s1 s2 => ?_
 rw [nt95] at hn;have hw := dp (n := a) (by omega)
 simp [s0, s1, s2, hw];refine aB (insH S v d a b) (b + 1 - (a + 1)) (Ao (a + 1) d h eS.refl rfl rfl (by simp [s0]) (by simp [s1]) (by simp [s2]) (by simp) (by simp [hn]) (by omega) rfl) ?_
 clear s0 s1 s2 hn hw
 rintro k F' S' df ⟨i, d', h1, h2, h3, h4, s0, s1, s2, s6, hn, hi, hk⟩
 clear df;have u2 := h1.len
 by_cases hib : i < b
 ·rw [Cz hib] at h4
  simp [s0, s1, s2, s6, hib];refine aB (inrH S v d a b i (Sort.insInner aT a i d')) i (inrH_mk i d' h1 h2 h3 rfl (by simp [s0]) (by simp [s1]) (by simp [s2]) (by simp [s6]) (by simp) (by simp [hn]) (Nat.le_refl _) rfl) ?_
  clear s0 s1 s2 s6 hn
  rintro k2 F2 S2 fg ⟨j, d2, g1, g2, g3, g4, s0, s1, s2, s6, s7, hn, hj, xy⟩
  clear fg;have w1 := g1.sl;have w2 := g1.len;have wk := g1.ok
  by_cases haj : a < j
  ·obtain ⟨j', rfl⟩ : ∃ j', j = j' + 1 := ⟨j - 1, by omega⟩
   have l1 := g1.ld (i := j' + 1) (by omega)
   have l2 := g1.ld (i := j') (by omega)
   have hajI : (a : Int) < (j' : Int) + 1 := by omega
   have nc : IntKind.i64.wrap ((j' : Int) + 1 - 1) = (j' : Int) := by rw [show (j' : Int) + 1 - 1 = j' by omega]; exact IntWalk.i64_in _ (by omega)
   have lF : IntKind.i64.wrap (j' : Int) = (j' : Int) := IntWalk.i64_in _ (by omega)
   have q1 : (j' : Int) + 1 < d2.size := by omega
   have q0 : (0 : Int) ≤ (j' : Int) + 1 := by omega
   have qt : ((j' : Int) + 1).toNat = j' + 1 := by omega
   have q2 : j' < d2.size := by omega
   have fB := g1.gw.1.ok;simp at s7;simp [s0, s1, s2, s6, s7];refine aA [.p, .p, .p, .p, .p, .p, .p, .r 0 0, .p, .p, .p, .p, .r 0 0, .e [], .p] (n := 49) (by kernel_rfl) (by simp [hn]) ?_
   replace g4 : (if j' + 1 > a && aT (nth d2 (j' + 1)) (nth d2 j') then Sort.insInner aT a j' (Sort.swp d2 (j' + 1) j') else d2) = Sort.insInner aT a i d' := by rw [← g4, Sort.insInner]; rfl
   cases hl : aT (nth d2 (j' + 1)) (nth d2 j') with
   | true =>
    rw [hl] at g4;have hc : (decide (j' + 1 > a) && true) = true := by simp; omega
    rw [if_pos hc] at g4;obtain ⟨T1, T2, e1, e2, t1, t2, t3⟩ := g1.swap (i := j' + 1) (j := j') (by omega) (by omega)
    simp [s0, s1, s2, s6, s7, hajI, w1, w2, wk, l1, l2, nc, lF, q0, q1, q2, qt, aG, hl, aR, fB];refine aA [.p, .p, .p, .p, .p, .p, .p, .p, .p, .r 0 0, .p, .p, .p, .r 0 0, .p, .e [], .p, .e []] (n := 49) (by kernel_rfl) (by simp [hn]) ?_
    simp [s0, s1, s2, s6, s7, hajI, w1, w2, wk, l1, l2, nc, lF, q0, q1, q2, qt, e1, e2, fB];exact ⟨j', by omega, inrH_mk j' _ t1 (g2.trans t2) (by simp [Sort.swp, g3]) g4 (by simp [s0]) (by simp [s1]) (by simp [s2]) (by simp [s6]) (by simp) (by simp [hn]) (by omega) rfl⟩
   | false =>
    rw [hl] at g4;rw [if_neg (by simp)] at g4
    have iY := dp (n := i) (by omega)
    simp [s0, s1, s2, s6, s7, hajI, w1, w2, wk, l1, l2, nc, lF, q0, q1, q2, qt, aG, hl, aR, fB];exact ⟨b + 1 - (i + 1), by omega, Ao (i + 1) _ (by rw [← g4]; exact g1) g2 (by rw [kE]; exact h3) h4 (by simp [s0]) (by simp [s1]) (by simp [s2]) (by simp [iY]) (by simp [hn]) (by omega) rfl⟩
  ·have hajI : ¬ (a : Int) < j := by omega
   have iY := dp (n := i) (by omega)
   have g4' : d2 = Sort.insInner aT a i d' := by
    rw [← g4]
    cases j with
    | zero => rfl
    | succ j' =>
     rw [Sort.insInner];have : ¬ (j' + 1 > a) := haj;simp [this]
   simp [s0, s1, s2, s6, s7];refine aA [.p, .p, .p, .p, .p, .p, .p, .r 0 0, .p, .p, .p, .p, .r 0 0, .e [], .p] (n := 49) (by kernel_rfl) (by simp [hn]) ?_
   simp [s0, s1, s2, s6, s7, hajI, ej];exact ⟨b + 1 - (i + 1), by omega, Ao (i + 1) _ (by rw [← g4']; exact g1) g2 (by rw [kE]; exact h3) h4 (by simp [s0]) (by simp [s1]) (by simp [s2]) (by simp [iY]) (by simp [hn]) (by omega) rfl⟩
 ·rw [CA hib] at h4
  simp [s0, s1, s2, s6, hib];exact ⟨by rw [← h4]; exact h1, h2⟩
end
section
variable {S : AS} {v : AV} {d : Array Nat}
theorem bT (d : Array Nat) (i j : Nat) : (Sort.swp d i j).size = d.size := by simp [Sort.swp]
theorem nt99 : Tryz.f99.ntmps = 32 := by kernel_rfl
def revH (S : AS) (v : AV) (d : Array Nat) (a b k : Nat) (F' : Fr) (S' : AS) : Prop :=
 ∃ (i j : Nat) (d' : Array Nat), aQ S' v d' ∧ dc v S S' ∧ d'.size = d.size ∧ Sort.reverseLoop i j d' = Sort.reverseRange d a b ∧ sl F' 0 = v ∧ sl F' 6 = .int .i64 i ∧ sl F' 7 = .int .i64 j ∧ F'.n = 32 ∧ i ≤ b ∧ j < b ∧ k = j - i
theorem revH_mk {S : AS} {v : AV} {d : Array Nat} {a b k : Nat} {F' : Fr} {S' : AS} (i j : Nat) (d' : Array Nat) (h1 : aQ S' v d') (h2 : dc v S S') (h3 : d'.size = d.size) (h4 : Sort.reverseLoop i j d' = Sort.reverseRange d a b) (h5 : sl F' 0 = v) (h6 : sl F' 6 = .int .i64 i) (h7 : sl F' 7 = .int .i64 j) (h8 : F'.n = 32) (h9 : i ≤ b) (qA : j < b) (rf : k = j - i) : revH S v d a b k F' S' :=
 ⟨i, j, d', h1, h2, h3, h4, h5, h6, h7, h8, h9, qA, rf⟩
set_option maxRecDepth 20000 in
theorem rev_sort (h : aQ S v d) {a b : Nat} (qz : a < b) (hb : b ≤ d.size) (fi : d.size ≤ 1048576) : ai C0 99 [v, .int .i64 a, .int .i64 b] S fun r T => r = .tuple [] ∧ aQ T v (Sort.reverseRange d a b) ∧ dc v S T := by
 refine ka (dm _) (dn _ rfl) fn99 rfl ok99 (by simp) fun F hn s0 s1 s2 => ?_
 rw [nt99] at hn;obtain ⟨b', rfl⟩ : ∃ b', b = b' + 1 := ⟨b - 1, by omega⟩
 have hw : IntKind.i64.wrap ((b' : Int) + 1 - 1) = (b' : Int) := by rw [show (b' : Int) + 1 - 1 = b' by omega]; exact IntWalk.i64_in _ (by omega)
 have At : IntKind.i64.wrap (b' : Int) = (b' : Int) := IntWalk.i64_in _ (by omega)
 simp at s2;simp [s0, s1, s2, hw, At];refine aB (revH S v d a (b' + 1)) (b' - a) (revH_mk a b' d h eS.refl rfl (by rfl) (by simp [s0]) (by simp) (by simp) (by simp [hn]) (by omega) (by omega) rfl) ?_
 clear s0 s1 s2 hn hw At
 rintro k F' S' df ⟨i, j, d', h1, h2, h3, h4, s0, s6, s7, hn, hi, hj, hk⟩
 clear df;have u1 := h1.sl;have u2 := h1.len;have wk := h1.ok;have fB := h1.gw.1.ok
 by_cases fW : i < j
 ·have l1 := h1.ld (i := i) (by omega)
  have l2 := h1.ld (i := j) (by omega)
  have q1 : i < d'.size := by omega
  have q2 : j < d'.size := by omega
  rw [Sort.reverseLoop, if_pos fW] at h4;have iY := dp (n := i) (by omega)
  have nc : IntKind.i64.wrap ((j : Int) - 1) = ((j - 1 : Nat) : Int) := by rw [im (by omega)]; omega
  obtain ⟨T1, T2, e1, e2, t1, t2, t3⟩ := h1.swap (i := i) (j := j) (by omega) (by omega)
  simp [s0, s6, s7, fW];refine aA [.p, .p, .p, .p, .p, .p, .p, .r 0 0, .p, .p, .p, .r 0 0, .p, .e [], .p, .e []] (n := 32) (by kernel_rfl) (by simp [hn]) ?_
  simp [s0, s6, s7, u1, u2, wk, fB, l1, l2, q1, q2, e1, e2];exact ⟨j - 1 - (i + 1), by omega, revH_mk (i + 1) (j - 1) _ t1 (h2.trans t2) (by rw [bT]; exact h3) h4 (by simp [s0]) (by simp [iY]) (by simp [nc]) (by simp [hn]) (by omega) (by omega) rfl⟩
 ·rw [Sort.reverseLoop, if_neg fW] at h4
  simp [s0, s6, s7, fW];exact ⟨by rw [← h4]; exact h1, h2⟩
theorem nt127 : Tryz.f127.ntmps = 76 := by kernel_rfl
def siftH (S : AS) (v : AV) (d : Array Nat) (hi first : Nat) (R : Array Nat) (k : Nat) (F' : Fr) (S' : AS) : Prop :=
 ∃ (root : Nat) (d' : Array Nat), aQ S' v d' ∧ dc v S S' ∧ d'.size = d.size ∧ Sort.siftDown aT hi first root d' = R ∧ sl F' 0 = v ∧ sl F' 2 = .int .i64 hi ∧ sl F' 3 = .int .i64 first ∧ sl F' 8 = .int .i64 root ∧ F'.n = 76 ∧ root ≤ hi ∧ k = hi - root
theorem qE {S : AS} {v : AV} {d : Array Nat} {hi first : Nat} {R : Array Nat} {k : Nat} {F' : Fr} {S' : AS} (root : Nat) (d' : Array Nat) (h1 : aQ S' v d') (h2 : dc v S S') (h3 : d'.size = d.size) (h4 : Sort.siftDown aT hi first root d' = R) (h5 : sl F' 0 = v) (h6 : sl F' 2 = .int .i64 hi) (h7 : sl F' 3 = .int .i64 first) (h8 : sl F' 8 = .int .i64 root) (h9 : F'.n = 76) (qA : root ≤ hi) (rf : k = hi - root) : siftH S v d hi first R k F' S' :=
 ⟨root, d', h1, h2, h3, h4, h5, h6, h7, h8, h9, qA, rf⟩
theorem zL (hi first root : Nat) (d : Array Nat) : Sort.siftDown aT hi first root d =
  if 2 * root + 1 ≥ hi then d else
  if 2 * root + 2 < hi ∧ aT (nth d (first + (2 * root + 1))) (nth d (first + (2 * root + 2))) = true then
   (if aT (nth d (first + root)) (nth d (first + (2 * root + 2))) = true then Sort.siftDown aT hi first (2 * root + 2) (Sort.swp d (first + root) (first + (2 * root + 2))) else d)
  else (if aT (nth d (first + root)) (nth d (first + (2 * root + 1))) = true then Sort.siftDown aT hi first (2 * root + 1) (Sort.swp d (first + root) (first + (2 * root + 1))) else d) := by
 conv => lhs; rw [Sort.siftDown]
 by_cases h1 : 2 * root + 1 ≥ hi
 ·simp only [h1, dite_true, if_true]
 ·simp only [h1, dite_false, if_false]
  have e1 : first + (2 * root + 1) + 1 = first + (2 * root + 2) := by omega
  rw [e1];show (if (decide (2 * root + 1 + 1 < hi) && aT (nth d (first + (2 * root + 1))) (nth d (first + (2 * root + 2)))) = true then
    if (!aT (nth d (first + root)) (nth d (first + (2 * root + 2)))) = true then d else if _h2 : 2 * root + 2 < hi then Sort.siftDown aT hi first (2 * root + 2) (Sort.swp d (first + root) (first + (2 * root + 2))) else d
   else if (!aT (nth d (first + root)) (nth d (first + (2 * root + 1)))) = true then d else Sort.siftDown aT hi first (2 * root + 1) (Sort.swp d (first + root) (first + (2 * root + 1)))) = _
  by_cases h2 : 2 * root + 2 < hi
  ·have lV : 2 * root + 1 + 1 < hi := by omega
   cases hl : aT (nth d (first + (2 * root + 1))) (nth d (first + (2 * root + 2))) <;> cases hr : aT (nth d (first + root)) (nth d (first + (2 * root + 2))) <;> cases hq : aT (nth d (first + root)) (nth d (first + (2 * root + 1))) <;> simp [h2, lV]
  ·have lV : ¬ 2 * root + 1 + 1 < hi := by omega
   cases hq : aT (nth d (first + root)) (nth d (first + (2 * root + 1))) <;> simp [h2, lV]
set_option maxRecDepth 20000 in
theorem yk (h : aQ S v d) {lo hi first : Nat} (hl : lo ≤ hi) (hb : first + hi ≤ d.size) (fi : d.size ≤ 1048576) : ai C0 127 [v, .int .i64 lo, .int .i64 hi, .int .i64 first] S fun r T => r = .tuple [] ∧ aQ T v (Sort.siftDown aT hi first lo d) ∧ dc v S T := by
 refine wa (dm _) (dn _ rfl) fn127 rfl ok127 (by simp) fun F hn s0 s1 s2 s3 => ?_
 rw [nt127] at hn;simp [s0, s1, s2, s3];refine aB (siftH S v d hi first (Sort.siftDown aT hi first lo d)) (hi - lo) (qE lo d h eS.refl rfl rfl (by simp [s0]) (by simp [s2]) (by simp [s3]) (by simp) (by simp [hn]) hl rfl) ?_
 clear s0 s1 s2 s3 hn
 rintro k F' S' df ⟨root, d', h1, h2, h3, h4, s0, s2, s3, s8, hn, hr, hk⟩
 clear df;have u1 := h1.sl;have u2 := h1.len;have wk := h1.ok;have fB := h1.gw.1.ok;rw [zL] at h4;obtain ⟨c, hc⟩ : ∃ c, c = 2 * root + 1 := ⟨_, rfl⟩;have yW : 2 * root + 2 = c + 1 := by omega
 rw [yW, ← hc] at h4;have hwa : IntKind.i64.wrap (2 * (root : Int)) = 2 * (root : Int) := IntWalk.i64_in _ (by omega)
 have hwb : IntKind.i64.wrap (2 * (root : Int) + 1) = (c : Int) := by rw [hc]; rw [IntWalk.i64_in _ (by omega)]; omega
 have hwc := dp (n := c) (by omega)
 by_cases hch : c ≥ hi
 ·rw [if_pos hch] at h4
  have CM : (hi : Int) ≤ c := by omega
  simp [s0, s2, s3, s8, hwa, hwb, CM];exact ⟨by rw [← h4]; exact h1, h2⟩
 ·rw [if_neg hch] at h4
  have CM : ¬ (hi : Int) ≤ c := by omega
  obtain ⟨x, hx⟩ : ∃ x, x = first + root := ⟨_, rfl⟩;obtain ⟨y, hy⟩ : ∃ y, y = first + c := ⟨_, rfl⟩;have hz : first + (c + 1) = y + 1 := by omega
  rw [hz, ← hx, ← hy] at h4;have wx : IntKind.i64.wrap ((first : Int) + root) = (x : Int) := by rw [hx]; rw [IntWalk.i64_in _ (by omega)]; omega
  have wy : IntKind.i64.wrap ((first : Int) + c) = (y : Int) := by rw [hy]; rw [IntWalk.i64_in _ (by omega)]; omega
  have wy1 := dp (n := y) (by omega)
  have wy2 : IntKind.i64.wrap ((first : Int) + ((c : Int) + 1)) = (y : Int) + 1 := by rw [IntWalk.i64_in _ (by omega)]; omega
  have lx := h1.ld (i := x) (by omega)
  have ly := h1.ld (i := y) (by omega)
  have qx : x < d'.size := by omega
  have qy : y < d'.size := by omega
  have q0 : (0 : Int) ≤ (y : Int) + 1 := by omega
  have qt : ((y : Int) + 1).toNat = y + 1 := by omega
  by_cases yX : c + 1 < hi
  ·have hc1I : (c : Int) + 1 < hi := by omega
   have ly1 := h1.ld (i := y + 1) (by omega)
   have qy1 : (y : Int) + 1 < d'.size := by omega
   cases Av : aT (nth d' y) (nth d' (y + 1)) with
   | true =>
    rw [Av, if_pos ⟨yX, rfl⟩] at h4
    cases rH : aT (nth d' x) (nth d' (y + 1)) with
    | true =>
     rw [rH, if_pos rfl] at h4;obtain ⟨T1, T2, e1, e2, t1, t2, t3⟩ := h1.swap (i := x) (j := y + 1) (by omega) (by omega)
     simp [s0, s2, s3, s8, hwa, hwb, CM];refine aA [.p, .p, .p, .p, .p, .p, .p, .p, .p, .p, .r 0 0, .p, .p, .p, .p, .p, .p, .r 0 0, .e [], .p] (n := 76) (by kernel_rfl) (by simp [hn]) ?_
     simp [s0, s2, s3, s8, u1, u2, wk, fB, hwc, hc1I, wy, wy1, ly, ly1, qy, q0, qt, qy1, aG, Av, aR];refine aA [.p, .p, .p, .p, .p, .r 0 0, .p, .p, .p, .p, .p, .r 0 0, .e [], .p] (n := 76) (by kernel_rfl) (by simp [hn]) ?_
     simp [s0, s2, s3, s8, u1, u2, wk, fB, hwc, wx, wy2, lx, ly1, qx, q0, qt, qy1, aG, rH, aR];refine aA [.p, .p, .p, .p, .p, .p, .p, .p, .p, .p, .p, .p, .p, .r 0 0, .p, .p, .p, .p, .p, .r 0 0, .p, .e [], .p, .e []] (n := 76) (by kernel_rfl) (by simp [hn]) ?_
     simp [s0, s2, s3, s8, u1, u2, wk, fB, hwc, wx, wy2, lx, ly1, qx, q0, qt, qy1, e1, e2];exact ⟨hi - (c + 1), by omega, qE (c + 1) _ t1 (h2.trans t2) (by rw [bT]; exact h3) h4 (by simp [s0]) (by simp [s2]) (by simp [s3]) (by simp) (by simp [hn]) (by omega) rfl⟩
    | false =>
     rw [rH, if_neg (by simp)] at h4
     simp [s0, s2, s3, s8, hwa, hwb, CM];refine aA [.p, .p, .p, .p, .p, .p, .p, .p, .p, .p, .r 0 0, .p, .p, .p, .p, .p, .p, .r 0 0, .e [], .p] (n := 76) (by kernel_rfl) (by simp [hn]) ?_
     simp [s0, s2, s3, s8, u1, u2, wk, fB, hwc, hc1I, wy, wy1, ly, ly1, qy, q0, qt, qy1, aG, Av, aR];refine aA [.p, .p, .p, .p, .p, .r 0 0, .p, .p, .p, .p, .p, .r 0 0, .e [], .p] (n := 76) (by kernel_rfl) (by simp [hn]) ?_
     simp [s0, s2, s3, s8, u1, u2, wk, fB, hwc, wx, wy2, lx, ly1, qx, q0, qt, qy1, aG, rH, aR];exact ⟨by rw [← h4]; exact h1, h2⟩
   | false =>
    rw [Av, if_neg (by simp)] at h4
    cases rH : aT (nth d' x) (nth d' y) with
    | true =>
     rw [rH, if_pos rfl] at h4;obtain ⟨T1, T2, e1, e2, t1, t2, t3⟩ := h1.swap (i := x) (j := y) (by omega) (by omega)
     simp [s0, s2, s3, s8, hwa, hwb, CM];refine aA [.p, .p, .p, .p, .p, .p, .p, .p, .p, .p, .r 0 0, .p, .p, .p, .p, .p, .p, .r 0 0, .e [], .p] (n := 76) (by kernel_rfl) (by simp [hn]) ?_
     simp [s0, s2, s3, s8, u1, u2, wk, fB, hwc, hc1I, wy, wy1, ly, ly1, qy, q0, qt, qy1, aG, Av, aR];refine aA [.p, .p, .p, .p, .p, .r 0 0, .p, .p, .p, .p, .p, .r 0 0, .e [], .p] (n := 76) (by kernel_rfl) (by simp [hn]) ?_
     simp [s0, s2, s3, s8, u1, u2, wk, fB, wx, wy, lx, ly, qx, qy, aG, rH, aR];refine aA [.p, .p, .p, .p, .p, .p, .p, .p, .p, .p, .p, .p, .p, .r 0 0, .p, .p, .p, .p, .p, .r 0 0, .p, .e [], .p, .e []] (n := 76) (by kernel_rfl) (by simp [hn]) ?_
     simp [s0, s2, s3, s8, u1, u2, wk, fB, wx, wy, lx, ly, qx, qy, e1, e2];exact ⟨hi - c, by omega, qE c _ t1 (h2.trans t2) (by rw [bT]; exact h3) h4 (by simp [s0]) (by simp [s2]) (by simp [s3]) (by simp) (by simp [hn]) (by omega) rfl⟩
    | false =>
     rw [rH, if_neg (by simp)] at h4
     simp [s0, s2, s3, s8, hwa, hwb, CM];refine aA [.p, .p, .p, .p, .p, .p, .p, .p, .p, .p, .r 0 0, .p, .p, .p, .p, .p, .p, .r 0 0, .e [], .p] (n := 76) (by kernel_rfl) (by simp [hn]) ?_
     simp [s0, s2, s3, s8, u1, u2, wk, fB, hwc, hc1I, wy, wy1, ly, ly1, qy, q0, qt, qy1, aG, Av, aR];refine aA [.p, .p, .p, .p, .p, .r 0 0, .p, .p, .p, .p, .p, .r 0 0, .e [], .p] (n := 76) (by kernel_rfl) (by simp [hn]) ?_
     simp [s0, s2, s3, s8, u1, u2, wk, fB, wx, wy, lx, ly, qx, qy, aG, rH, aR];exact ⟨by rw [← h4]; exact h1, h2⟩
  ·have hc1I : ¬ (c : Int) + 1 < hi := by omega
   rw [if_neg (fun hh => yX hh.1)] at h4
   cases rH : aT (nth d' x) (nth d' y) with
   | true =>
    rw [rH, if_pos rfl] at h4;obtain ⟨T1, T2, e1, e2, t1, t2, t3⟩ := h1.swap (i := x) (j := y) (by omega) (by omega)
    simp [s0, s2, s3, s8, hwa, hwb, CM];refine aA [.p, .p, .p, .p, .p, .p, .p, .p, .p, .p, .r 0 0, .p, .p, .p, .p, .p, .p, .r 0 0, .e [], .p] (n := 76) (by kernel_rfl) (by simp [hn]) ?_
    simp [s0, s2, s3, s8, hwc, hc1I, ej];refine aA [.p, .p, .p, .p, .p, .r 0 0, .p, .p, .p, .p, .p, .r 0 0, .e [], .p] (n := 76) (by kernel_rfl) (by simp [hn]) ?_
    simp [s0, s2, s3, s8, u1, u2, wk, fB, wx, wy, lx, ly, qx, qy, aG, rH, aR];refine aA [.p, .p, .p, .p, .p, .p, .p, .p, .p, .p, .p, .p, .p, .r 0 0, .p, .p, .p, .p, .p, .r 0 0, .p, .e [], .p, .e []] (n := 76) (by kernel_rfl) (by simp [hn]) ?_
    simp [s0, s2, s3, s8, u1, u2, wk, fB, wx, wy, lx, ly, qx, qy, e1, e2];exact ⟨hi - c, by omega, qE c _ t1 (h2.trans t2) (by rw [bT]; exact h3) h4 (by simp [s0]) (by simp [s2]) (by simp [s3]) (by simp) (by simp [hn]) (by omega) rfl⟩
   | false =>
    rw [rH, if_neg (by simp)] at h4
    simp [s0, s2, s3, s8, hwa, hwb, CM];refine aA [.p, .p, .p, .p, .p, .p, .p, .p, .p, .p, .r 0 0, .p, .p, .p, .p, .p, .p, .r 0 0, .e [], .p] (n := 76) (by kernel_rfl) (by simp [hn]) ?_
    simp [s0, s2, s3, s8, hwc, hc1I, ej];refine aA [.p, .p, .p, .p, .p, .r 0 0, .p, .p, .p, .p, .p, .r 0 0, .e [], .p] (n := 76) (by kernel_rfl) (by simp [hn]) ?_
    simp [s0, s2, s3, s8, u1, u2, wk, fB, wx, wy, lx, ly, qx, qy, aG, rH, aR];exact ⟨by rw [← h4]; exact h1, h2⟩
end
section
variable {S : AS} {v : AV} {d : Array Nat}
theorem pj (hi first : Nat) : ∀ (n root : Nat) (d : Array Nat), hi - root ≤ n → (Sort.siftDown aT hi first root d).size = d.size := by
 intro n
 induction n with
 | zero =>
  intro root d h;rw [zL, if_pos (by omega)]
 | succ n ih =>
  intro root d h;rw [zL]
  split
  ·rfl
  split
  ·split
   ·rw [ih _ _ (by omega), bT]
   ·rfl
  ·split
   ·rw [ih _ _ (by omega), bT]
   ·rfl
theorem nt96 : Tryz.f96.ntmps = 56 := by kernel_rfl
def bldH (S : AS) (v : AV) (d : Array Nat) (a n : Nat) (R : Array Nat) (k : Nat) (F' : Fr) (S' : AS) : Prop :=
 ∃ d' : Array Nat, aQ S' v d' ∧ dc v S S' ∧ d'.size = d.size ∧ Sort.heapBuild aT n a k d' = R ∧ sl F' 0 = v ∧ sl F' 6 = .int .i64 a ∧ sl F' 7 = .int .i64 0 ∧ sl F' 8 = .int .i64 n ∧ sl F' 9 = .int .i64 ((k : Int) - 1) ∧ F'.n = 56 ∧ k ≤ n
theorem bldH_mk {S : AS} {v : AV} {d : Array Nat} {a n : Nat} {R : Array Nat} {k : Nat} {F' : Fr} {S' : AS} (d' : Array Nat) (h1 : aQ S' v d') (h2 : dc v S S') (h3 : d'.size = d.size) (h4 : Sort.heapBuild aT n a k d' = R) (h5 : sl F' 0 = v) (h6 : sl F' 6 = .int .i64 a) (h7 : sl F' 7 = .int .i64 0) (h8 : sl F' 8 = .int .i64 n) (h9 : sl F' 9 = .int .i64 ((k : Int) - 1)) (qA : F'.n = 56) (rf : k ≤ n) : bldH S v d a n R k F' S' :=
 ⟨d', h1, h2, h3, h4, h5, h6, h7, h8, h9, qA, rf⟩
def popH (S : AS) (v : AV) (d : Array Nat) (a n : Nat) (R : Array Nat) (k : Nat) (F' : Fr) (S' : AS) : Prop :=
 ∃ d' : Array Nat, aQ S' v d' ∧ dc v S S' ∧ d'.size = d.size ∧ Sort.heapPop aT a k d' = R ∧ sl F' 0 = v ∧ sl F' 6 = .int .i64 a ∧ sl F' 7 = .int .i64 0 ∧ sl F' 10 = .int .i64 ((k : Int) - 1) ∧ F'.n = 56 ∧ k ≤ n
theorem popH_mk {S : AS} {v : AV} {d : Array Nat} {a n : Nat} {R : Array Nat} {k : Nat} {F' : Fr} {S' : AS} (d' : Array Nat) (h1 : aQ S' v d') (h2 : dc v S S') (h3 : d'.size = d.size) (h4 : Sort.heapPop aT a k d' = R) (h5 : sl F' 0 = v) (h6 : sl F' 6 = .int .i64 a) (h7 : sl F' 7 = .int .i64 0) (h9 : sl F' 10 = .int .i64 ((k : Int) - 1)) (qA : F'.n = 56) (rf : k ≤ n) : popH S v d a n R k F' S' :=
 ⟨d', h1, h2, h3, h4, h5, h6, h7, h9, qA, rf⟩
set_option maxRecDepth 20000 in
theorem heap_sort (h : aQ S v d) {a b : Nat} (qz : a < b) (hb : b ≤ d.size) (fi : d.size ≤ 1048576) : ai C0 96 [v, .int .i64 a, .int .i64 b] S fun r T => r = .tuple [] ∧ aQ T v (Sort.heapSort aT d a b) ∧ dc v S T := by
 refine ka (dm _) (dn _ rfl) fn96 rfl ok96 (by simp) fun F hn s0 s1 s2 => ?_
 rw [nt96] at hn;obtain ⟨n, qV⟩ : ∃ n, n = b - a := ⟨_, rfl⟩;have hw1 : IntKind.i64.wrap ((b : Int) - a) = (n : Int) := by rw [IntWalk.i64_in _ (by omega)]; omega
 obtain ⟨q, hq⟩ : ∃ q, q = (n - 1) / 2 := ⟨_, rfl⟩;have Ar : IntKind.i64.wrap ((n : Int) - 1) = ((n - 1 : Nat) : Int) := by rw [im (by omega)]; omega
 have hw3 : Int.tdiv ((n - 1 : Nat) : Int) 2 = (q : Int) := by rw [hq]; rfl
 have hw4 : IntKind.i64.wrap (q : Int) = (q : Int) := IntWalk.i64_in _ (by omega)
 have hR : Sort.heapPop aT a n (Sort.heapBuild aT n a (q + 1) d) = Sort.heapSort aT d a b := by
  unfold Sort.heapSort;rw [hq, qV]
 simp [s0, s1, s2, hw1, Ar, hw3, hw4];refine aB (bldH S v d a n (Sort.heapBuild aT n a (q + 1) d)) (q + 1) (bldH_mk d h eS.refl rfl rfl (by simp [s0]) (by simp) (by simp) (by simp) (by simp) (by simp [hn]) (by omega)) ?_
 clear s0 s1 s2 hn
 rintro k F' S' df ⟨d', h1, h2, h3, h4, s0, s6, s7, s8, s9, hn, hk⟩
 clear df
 by_cases h0 : (0 : Int) ≤ (k : Int) - 1
 ·obtain ⟨i, rfl⟩ : ∃ i, k = i + 1 := ⟨k - 1, by omega⟩
  have qX : ((i + 1 : Nat) : Int) - 1 = i := by omega
  rw [qX] at s9 h0;obtain ⟨r, T, ⟨rfl, t1, t2⟩, e⟩ := (yk h1 (lo := i) (hi := n) (first := a) (by omega) (by omega) (by omega)).ex
  have iY := im (n := i) (by omega)
  simp [s0, s6, s7, s8, s9, h0, e, aR, iY];exact ⟨i, by omega, bldH_mk _ t1 (h2.trans t2) (by rw [pj _ _ _ _ _ (Nat.le_refl _)]; exact h3) h4 (by simp [s0]) (by simp [s6]) (by simp [s7]) (by simp [s8]) (by simp) (by simp [hn]) (by omega)⟩
 ·obtain rfl : k = 0 := by omega
  have h4' : d' = Sort.heapBuild aT n a (q + 1) d := h4;simp [s0, s6, s7, s8, s9, h0, Ar];refine aB (popH S v d a n (Sort.heapSort aT d a b)) n (popH_mk d' h1 h2 h3 (by rw [h4']; exact hR) (by simp [s0]) (by simp [s6]) (by simp [s7]) (by simp; omega) (by simp [hn]) (Nat.le_refl _)) ?_
  clear s0 s6 s7 s8 s9 hn h4 h4' h1 h2 h3 h0 hk d'
  rintro k F' S' df ⟨d', h1, h2, h3, h4, s0, s6, s7, l9, hn, hk⟩
  clear df
  by_cases h0 : (0 : Int) ≤ (k : Int) - 1
  ·obtain ⟨i, rfl⟩ : ∃ i, k = i + 1 := ⟨k - 1, by omega⟩
   have qX : ((i + 1 : Nat) : Int) - 1 = i := by omega
   rw [qX] at l9 h0;have u1 := h1.sl;have u2 := h1.len;have wk := h1.ok;have fB := h1.gw.1.ok;obtain ⟨y, hy⟩ : ∃ y, y = a + i := ⟨_, rfl⟩;have wy : IntKind.i64.wrap ((a : Int) + i) = (y : Int) := by rw [hy]; rw [IntWalk.i64_in _ (by omega)]; omega
   have la := h1.ld (i := a) (by omega)
   have ly := h1.ld (i := y) (by omega)
   have qa : a < d'.size := by omega
   have qy : y < d'.size := by omega
   obtain ⟨T1, T2, e1, e2, t1, t2, t3⟩ := h1.swap (i := a) (j := y) (by omega) (by omega)
   obtain ⟨r, T, ⟨rfl, t4, t5⟩, e⟩ := (yk t1 (lo := 0) (hi := i) (first := a) (by omega) (by rw [bT]; omega) (by rw [bT]; omega)).ex
   have iY := im (n := i) (by omega)
   replace h4 : Sort.heapPop aT a i (Sort.siftDown aT i a 0 (Sort.swp d' a y)) = Sort.heapSort aT d a b := by rw [hy]; exact h4
   simp at e;simp [s0, s6, s7, l9, h0];refine aA [.p, .p, .p, .p, .p, .p, .p, .p, .p, .p, .p, .r 0 0, .p, .p, .p, .r 0 0, .p, .e [], .p, .e []] (n := 56) (by kernel_rfl) (by simp [hn]) ?_
   simp [s0, s6, s7, l9, u1, u2, wk, fB, wy, la, ly, qa, qy, e1, e2, e, aR, iY];exact ⟨i, by omega, popH_mk _ t4 ((h2.trans t2).trans t5) (by rw [pj _ _ _ _ _ (Nat.le_refl _), bT]; exact h3) h4 (by simp [s0]) (by simp [s6]) (by simp [s7]) (by simp) (by simp [hn]) (by omega)⟩
  ·obtain rfl : k = 0 := by omega
   have h4' : d' = Sort.heapSort aT d a b := h4;simp [s0, s6, s7, l9, h0];exact ⟨by rw [← h4']; exact h1, h2⟩
end
section
variable {S : AS} {v : AV} {d : Array Nat}
theorem pJ {p : Nat → Bool} {d : Array Nat} {i j : Nat} (h1 : i ≤ j) (h2 : p (nth d i) = true) : Sort.scanUp p d j i = Sort.scanUp p d j (i + 1) := by
 conv => lhs; rw [Sort.scanUp]
 rw [if_pos];rw [Bool.and_eq_true, decide_eq_true_eq];exact ⟨h1, h2⟩
theorem jK {p : Nat → Bool} {d : Array Nat} {i j : Nat} (h : i ≤ j → p (nth d i) = false) : Sort.scanUp p d j i = i := by
 rw [Sort.scanUp, if_neg];rw [Bool.and_eq_true, decide_eq_true_eq]
 rintro ⟨h1, h2⟩
 have h3 : p (nth d i) = true := h2;rw [h h1] at h3
 cases h3
theorem l7 {p : Nat → Bool} {d : Array Nat} {i j : Nat} (h1 : i ≤ j + 1) (h2 : p (nth d (j + 1)) = true) : Sort.scanDown p d i (j + 1) = Sort.scanDown p d i j := by
 conv => lhs; rw [Sort.scanDown]
 rw [if_pos];rw [Bool.and_eq_true, decide_eq_true_eq];exact ⟨h1, h2⟩
theorem gI {p : Nat → Bool} {d : Array Nat} {i j : Nat} (h : i ≤ j → p (nth d j) = false) : Sort.scanDown p d i j = j := by
 cases j with
 | zero => rfl
 | succ j =>
  rw [Sort.scanDown, if_neg];rw [Bool.and_eq_true, decide_eq_true_eq]
  rintro ⟨h1, h2⟩
  have h3 : p (nth d (j + 1)) = true := h2;rw [h h1] at h3
  cases h3
def upH (S1 : AS) (v : AV) (a : Nat) (p : Nat → Bool) (d : Array Nat) (j I N si sj k : Nat) (F' : Fr) (S' : AS) : Prop :=
 S' = S1 ∧ ∃ i : Nat, sl F' 0 = v ∧ sl F' 1 = .int .i64 a ∧ sl F' sj = .int .i64 j ∧ sl F' si = .int .i64 i ∧ Sort.scanUp p d j i = I ∧ a < i ∧ i ≤ j + 1 ∧ F'.n = N ∧ k = j + 1 - i
theorem rJ {S1 : AS} {v : AV} {a : Nat} {p : Nat → Bool} {d : Array Nat} {j I N si sj k : Nat} {F' : Fr} (i : Nat) (h1 : sl F' 0 = v) (h2 : sl F' 1 = .int .i64 a) (h3 : sl F' sj = .int .i64 j) (h4 : sl F' si = .int .i64 i) (h5 : Sort.scanUp p d j i = I) (h6 : a < i) (h7 : i ≤ j + 1) (h8 : F'.n = N) (h9 : k = j + 1 - i) : upH S1 v a p d j I N si sj k F' S1 :=
 ⟨rfl, i, h1, h2, h3, h4, h5, h6, h7, h8, h9⟩
def dnH (S1 : AS) (v : AV) (a : Nat) (p : Nat → Bool) (d : Array Nat) (i J N si sj k : Nat) (F' : Fr) (S' : AS) : Prop :=
 S' = S1 ∧ ∃ j : Nat, sl F' 0 = v ∧ sl F' 1 = .int .i64 a ∧ sl F' sj = .int .i64 j ∧ sl F' si = .int .i64 i ∧ Sort.scanDown p d i j = J ∧ i ≤ j + 1 ∧ j < d.size ∧ F'.n = N ∧ k = j
theorem sS {S1 : AS} {v : AV} {a : Nat} {p : Nat → Bool} {d : Array Nat} {i J N si sj k : Nat} {F' : Fr} (j : Nat) (h1 : sl F' 0 = v) (h2 : sl F' 1 = .int .i64 a) (h3 : sl F' sj = .int .i64 j) (h4 : sl F' si = .int .i64 i) (h5 : Sort.scanDown p d i j = J) (h7 : i ≤ j + 1) (h8 : j < d.size) (h9 : F'.n = N) (qA : k = j) : dnH S1 v a p d i J N si sj k F' S1 :=
 ⟨rfl, j, h1, h2, h3, h4, h5, h7, h8, h9, qA⟩
def En (S1 : AS) (v : AV) (a N si sj I J : Nat) (F' : Fr) (S' : AS) : Prop :=
 S' = S1 ∧ sl F' 0 = v ∧ sl F' 1 = .int .i64 a ∧ sl F' si = .int .i64 I ∧ sl F' sj = .int .i64 J ∧ F'.n = N
theorem gg {S1 : AS} {v : AV} {a N si sj I J : Nat} {F' : Fr} (h1 : sl F' 0 = v) (h2 : sl F' 1 = .int .i64 a) (h3 : sl F' si = .int .i64 I) (h4 : sl F' sj = .int .i64 J) (h5 : F'.n = N) : En S1 v a N si sj I J F' S1 := ⟨rfl, h1, h2, h3, h4, h5⟩
theorem nt103 : Tryz.f103.ntmps = 168 := by kernel_rfl
theorem z7 (a i j I J : Nat) (d : Array Nat) (hI : I = Sort.scanUp (fun x => aT x (nth d a)) d j i) (hJ : J = Sort.scanDown (fun x => !aT x (nth d a)) d I j) : Sort.partLoop aT a i j d = if I > J then (J, d) else Sort.partLoop aT a (I + 1) (J - 1) (Sort.swp d I J) := by
 subst hJ;subst hI;exact Sort.partLoop_eq aT a i j d
theorem xj (a b pivot I J : Nat) (d d1 : Array Nat) (h1 : d1 = Sort.swp d a pivot) (hI : I = Sort.scanUp (fun x => aT x (nth d1 a)) d1 (b - 1) (a + 1)) (hJ : J = Sort.scanDown (fun x => !aT x (nth d1 a)) d1 I (b - 1)) :
  Sort.partition aT d a b pivot = if I > J then (J, true, Sort.swp d1 J a) else ((Sort.partLoop aT a (I + 1) (J - 1) (Sort.swp d1 I J)).1, false, Sort.swp (Sort.partLoop aT a (I + 1) (J - 1) (Sort.swp d1 I J)).2 (Sort.partLoop aT a (I + 1) (J - 1) (Sort.swp d1 I J)).1 a) := by
 subst hJ;subst hI;subst h1
 rfl
def prtH (S : AS) (v : AV) (d : Array Nat) (a b : Nat) (R : Nat × Array Nat) (k : Nat) (F' : Fr) (S' : AS) : Prop :=
 ∃ (i j : Nat) (d' : Array Nat), aQ S' v d' ∧ dc v S S' ∧ d'.size = d.size ∧ Sort.partLoop aT a i j d' = R ∧ sl F' 0 = v ∧ sl F' 1 = .int .i64 a ∧ sl F' 10 = .int .i64 i ∧ sl F' 11 = .int .i64 j ∧ F'.n = 168 ∧ a < i ∧ i ≤ j + 1 ∧ j < b ∧ k = j + 1 - i
theorem prtH_mk {S : AS} {v : AV} {d : Array Nat} {a b : Nat} {R : Nat × Array Nat} {k : Nat} {F' : Fr} {S' : AS} (i j : Nat) (d' : Array Nat) (h1 : aQ S' v d') (h2 : dc v S S') (h3 : d'.size = d.size) (h4 : Sort.partLoop aT a i j d' = R) (h5 : sl F' 0 = v) (h6 : sl F' 1 = .int .i64 a) (h7 : sl F' 10 = .int .i64 i) (h8 : sl F' 11 = .int .i64 j) (h9 : F'.n = 168) (qA : a < i) (rf : i ≤ j + 1) (DT : j < b) (h13 : k = j + 1 - i) : prtH S v d a b R k F' S' :=
 ⟨i, j, d', h1, h2, h3, h4, h5, h6, h7, h8, h9, qA, rf, DT, h13⟩
set_option maxRecDepth 20000 in
theorem prt_sort (h : aQ S v d) {a b pivot : Nat} (hap : a ≤ pivot) (hpb : pivot < b) (hb : b ≤ d.size) (fi : d.size ≤ 1048576) : ai C0 103 [v, .int .i64 a, .int .i64 b, .int .i64 pivot] S fun r T => r = .tuple [.int .i64 (Sort.partition aT d a b pivot).1, .bool (Sort.partition aT d a b pivot).2.1] ∧ aQ T v (Sort.partition aT d a b pivot).2.2 ∧ dc v S T := by
 have DP := (Sort.partition_holds aT oA d a b pivot hap hpb hb);refine wa (dm _) (dn _ rfl) fn103 rfl ok103 (by simp) fun F hn s0 s1 s2 s3 => ?_
 rw [nt103] at hn;obtain ⟨b', rfl⟩ : ∃ b', b = b' + 1 := ⟨b - 1, by omega⟩
 have hw : IntKind.i64.wrap ((b' : Int) + 1 - 1) = (b' : Int) := by rw [show (b' : Int) + 1 - 1 = b' by omega]; exact IntWalk.i64_in _ (by omega)
 have At : IntKind.i64.wrap (b' : Int) = (b' : Int) := IntWalk.i64_in _ (by omega)
 have hwa := dp (n := a) (by omega)
 simp at s2;have u1 := h.sl;have u2 := h.len;have wk := h.ok;have fB := h.gw.1.ok;have la := h.ld (i := a) (by omega)
 have qa : a < d.size := by omega
 have lp := h.ld (i := pivot) (by omega)
 have qp : pivot < d.size := by omega
 obtain ⟨d1, hd1⟩ : ∃ d1, d1 = Sort.swp d a pivot := ⟨_, rfl⟩;obtain ⟨T0, T1, e1, e2, g1, g2, g3⟩ := h.swap (i := a) (j := pivot) (by omega) (by omega)
 rw [← hd1] at g1;have g4 : d1.size = d.size := by rw [hd1, bT]
 obtain ⟨I1, hI1⟩ : ∃ I1, I1 = Sort.scanUp (fun x => aT x (nth d1 a)) d1 b' (a + 1) := ⟨_, rfl⟩
 obtain ⟨J1, hJ1⟩ : ∃ J1, J1 = Sort.scanDown (fun x => !aT x (nth d1 a)) d1 I1 b' := ⟨_, rfl⟩
 have hp := xj a (b' + 1) pivot I1 J1 d d1 hd1 hI1 hJ1;have bI := Sort.scanUp_spec (fun x => aT x (nth d1 a)) d1 b' _ (a + 1) rfl
 rw [← hI1] at bI;have bJ := Sort.scanDown_spec (fun x => !aT x (nth d1 a)) d1 I1 b'
 rw [← hJ1] at bJ;have bI2 := bI.2.1 (by omega)
 have bJ2 := bJ.2.1 bI2;have bI1 := bI.1;have bJ1 := bJ.1;have cD : ¬ I1 > J1 → I1 < J1 := fun hh => by
  have h1 : aT (nth d1 I1) (nth d1 a) = false := bI.2.2.2 (by omega)
  have h2 : (!aT (nth d1 J1) (nth d1 a)) = false := bJ.2.2.2 (by omega) (by omega)
  rcases Nat.lt_or_ge I1 J1 with h3 | h3
  ·exact h3
  ·have h4 : I1 = J1 := by omega
   rw [h4] at h1;rw [h1] at h2
   cases h2
 clear bI bJ;simp [-bC, s0, s1, s2, s3];refine aA [.p, .p, .p, .p, .p, .p, .p, .r 0 0, .p, .p, .p, .r 0 0, .p, .e [], .p, .e []] (n := 168) (by kernel_rfl) (by simp [hn]) ?_
 simp [-bC, s0, s1, s2, s3, u1, u2, wk, fB, la, lp, qa, qp, e1, e2, hw, At, hwa];clear u1 u2 wk fB la qa lp qp e1 e2;have u1 := g1.sl;have u2 := g1.len;have wk := g1.ok;have fB := g1.gw.1.ok;have la := g1.ld (i := a) (by omega)
 have qa : a < d1.size := by omega
 have si : True := trivial;have sj : True := trivial;refine iB (En T1 v a 168 10 11 I1 b') ?_ ?_
 ·rw [bC, gY]
  refine aB (upH T1 v a (fun x => aT x (nth d1 a)) d1 b' I1 168 10 11) (b' + 1 - (a + 1)) (rJ (a + 1) (by simp [s0]) (by simp [s1]) (by simp) (by simp) hI1.symm (by omega) (by omega) (by simp [hn]) rfl) ?_
  clear s0 s1 si sj hn
  rintro k2 F2 S2 fg ⟨rfl, i, s0, s1, sj, si, hI, hai, fW, hn, xy⟩
  clear fg;have iY := dp (n := i) (by omega)
  simp [s0, s1, si, sj];refine aA [.p, .p, .p, .p, .p, .p, .p, .r 0 0, .p, .p, .p, .r 0 0, .e [], .p] (n := 168) (by kernel_rfl) (by simp [hn]) ?_
  by_cases hc : i ≤ b'
  ·have li := g1.ld (i := i) (by omega)
   have qi : i < d1.size := by omega
   cases hl : aT (nth d1 i) (nth d1 a) with
   | true =>
    rw [pJ hc (by show aT _ _ = true; rw [hl])] at hI
    simp [s0, s1, si, sj, hc, u1, u2, wk, fB, li, la, qi, qa, aG, hl, aR];exact ⟨b' + 1 - (i + 1), by omega, rJ (i + 1) (by simp [s0]) (by simp [s1]) (by simp [sj]) (by simp [iY]) hI (by omega) (by omega) (by simp [hn]) rfl⟩
   | false =>
    rw [jK (fun _ => by show aT _ _ = false; rw [hl])] at hI
    simp [s0, s1, si, sj, hc, u1, u2, wk, fB, li, la, qi, qa, aG, hl, aR];exact gg (by simp [s0]) (by simp [s1]) (by simp [si, hI]) (by simp [sj]) (by simp [hn])
  ·rw [jK (fun hh => absurd hh hc)] at hI
   simp [s0, s1, si, sj, hc, ej];exact gg (by simp [s0]) (by simp [s1]) (by simp [si, hI]) (by simp [sj]) (by simp [hn])
 clear s0 s1 s2 s3 hn si sj
 rintro F T ⟨rfl, s0, s1, si, sj, hn⟩
 simp [-bC, aP, s0, s1, si, sj];refine iB (En T v a 168 10 11 I1 J1) ?_ ?_
 ·rw [bC, gY]
  refine aB (dnH T v a (fun x => !aT x (nth d1 a)) d1 I1 J1 168 10 11) b' (sS b' (by simp [s0]) (by simp [s1]) (by simp [sj]) (by simp [si]) hJ1.symm (by omega) (by omega) (by simp [hn]) rfl) ?_
  clear s0 s1 si sj hn
  rintro k2 F2 S2 fg ⟨rfl, j, s0, s1, sj, si, hJ, fW, hjb, hn, xy⟩
  clear fg;simp [s0, s1, si, sj];refine aA [.p, .p, .p, .p, .p, .p, .p, .r 0 0, .p, .p, .p, .r 0 0, .e [], .p, .p] (n := 168) (by kernel_rfl) (by simp [hn]) ?_
  by_cases hc : I1 ≤ j
  ·obtain ⟨j2, rfl⟩ : ∃ j2, j = j2 + 1 := ⟨j - 1, by omega⟩
   have li := g1.ld (i := j2 + 1) (by omega)
   have qi : (j2 : Int) + 1 < d1.size := by omega
   have q0 : (0 : Int) ≤ (j2 : Int) + 1 := by omega
   have qt : ((j2 : Int) + 1).toNat = j2 + 1 := by omega
   have uF : (I1 : Int) ≤ (j2 : Int) + 1 := by omega
   have nc : IntKind.i64.wrap ((j2 : Int) + 1 - 1) = (j2 : Int) := by rw [show (j2 : Int) + 1 - 1 = j2 by omega]; exact IntWalk.i64_in _ (by omega)
   have lF : IntKind.i64.wrap (j2 : Int) = (j2 : Int) := IntWalk.i64_in _ (by omega)
   simp at sj
   cases hl : aT (nth d1 (j2 + 1)) (nth d1 a) with
   | false =>
    rw [l7 hc (by show (!aT _ _) = true; rw [hl]; rfl)] at hJ
    simp [s0, s1, si, sj, uF, u1, u2, wk, fB, li, la, qi, q0, qt, qa, aG, hl, aR];exact ⟨j2, by omega, sS j2 (by simp [s0]) (by simp [s1]) (by simp [nc, lF]) (by simp [si]) hJ (by omega) (by omega) (by simp [hn]) rfl⟩
   | true =>
    rw [gI (fun _ => by show (!aT _ _) = false; rw [hl]; rfl)] at hJ
    simp [s0, s1, si, sj, uF, u1, u2, wk, fB, li, la, qi, q0, qt, qa, aG, hl, aR];exact gg (by simp [s0]) (by simp [s1]) (by simp [si]) (by simp [sj, ← hJ]) (by simp [hn])
  ·have uF : ¬ (I1 : Int) ≤ j := by omega
   rw [gI (fun hh => absurd hh hc)] at hJ
   simp [s0, s1, si, sj, uF, ej];exact gg (by simp [s0]) (by simp [s1]) (by simp [si]) (by simp [sj, ← hJ]) (by simp [hn])
 clear s0 s1 hn si sj
 rintro F T ⟨rfl, s0, s1, si, sj, hn⟩
 by_cases Bn : I1 > J1
 ·rw [if_pos Bn] at hp
  rw [hp];have hIJI : (J1 : Int) < I1 := by omega
  obtain ⟨U0, U1, f1, f2, t1, t2, t3⟩ := g1.swap (i := J1) (j := a) (by omega) (by omega)
  have lj := g1.ld (i := J1) (by omega)
  have qj : J1 < d1.size := by omega
  simp [aP, s0, s1, si, sj, Bn];refine aA [.p, .p, .p, .p, .p, .p, .p, .r 0 0, .p, .p, .p, .r 0 0, .p, .e [], .p, .e []] (n := 168) (by kernel_rfl) (by simp [hn]) ?_
  simp [s0, s1, si, sj, u1, u2, wk, fB, la, lj, qa, qj, f1, f2];exact ⟨t1, g2.trans t2⟩
 ·rw [if_neg Bn] at hp
  have gu := cD Bn;have hIJI : ¬ (J1 : Int) < I1 := by omega
  obtain ⟨U0, U1, f1, f2, t1, t2, t3⟩ := g1.swap (i := I1) (j := J1) (by omega) (by omega)
  have lj := g1.ld (i := J1) (by omega)
  have qj : J1 < d1.size := by omega
  have li := g1.ld (i := I1) (by omega)
  have qi : I1 < d1.size := by omega
  have iY := dp (n := I1) (by omega)
  have nc : IntKind.i64.wrap ((J1 : Int) - 1) = ((J1 - 1 : Nat) : Int) := by rw [im (by omega)]; omega
  obtain ⟨R, hR⟩ : ∃ R, R = Sort.partLoop aT a (I1 + 1) (J1 - 1) (Sort.swp d1 I1 J1) := ⟨_, rfl⟩;rw [← hR] at hp;have hRa : a ≤ R.1 ∧ R.1 < b' + 1 := by
   have h1 := DP.1;have h2 := DP.2.1;rw [hp] at h1 h2;exact ⟨h1, h2⟩
  rw [hp];simp [aP, s0, s1, si, sj, Bn];refine aA [.p, .p, .p, .p, .p, .p, .p, .r 0 0, .p, .p, .p, .r 0 0, .p, .e [], .p, .e []] (n := 168) (by kernel_rfl) (by simp [hn]) ?_
  simp [s0, s1, si, sj, u1, u2, wk, fB, li, lj, qi, qj, f1, f2];refine aB (prtH S v d a (b' + 1) R) (J1 - 1 + 1 - (I1 + 1)) (prtH_mk (I1 + 1) (J1 - 1) _ t1 (g2.trans t2) (by rw [bT]; exact g4) hR.symm (by simp [s0]) (by simp [s1]) (by simp [iY]) (by simp [nc]) (by simp [hn]) (by omega) (by omega) (by omega) rfl) ?_
  clear s0 s1 si sj hn u1 u2 wk fB la qa li lj qi qj f1 f2 iY nc t1 t2 t3 U0 U1 hR hI1 hJ1 bI1 bI2 bJ1 bJ2 Bn hIJI hp g1 g2 g3 g4 hd1
  rintro k F S1 df ⟨i, j, d', h1, h2, h3, h4, s0, s1, si, sj, hn, hai, fW, hjb, hk⟩
  clear df;have u1 := h1.sl;have u2 := h1.len;have wk := h1.ok;have fB := h1.gw.1.ok;have la := h1.ld (i := a) (by omega)
  have qa : a < d'.size := by omega
  obtain ⟨I1, hI1⟩ : ∃ I1, I1 = Sort.scanUp (fun x => aT x (nth d' a)) d' j i := ⟨_, rfl⟩
  obtain ⟨J1, hJ1⟩ : ∃ J1, J1 = Sort.scanDown (fun x => !aT x (nth d' a)) d' I1 j := ⟨_, rfl⟩
  rw [z7 a i j I1 J1 d' hI1 hJ1] at h4;have bI := Sort.scanUp_spec (fun x => aT x (nth d' a)) d' j _ i rfl
  rw [← hI1] at bI;have bJ := Sort.scanDown_spec (fun x => !aT x (nth d' a)) d' I1 j
  rw [← hJ1] at bJ;have bI2 := bI.2.1 (by omega)
  have bJ2 := bJ.2.1 bI2;have bI1 := bI.1;have bJ1 := bJ.1;have cD : ¬ I1 > J1 → I1 < J1 := fun hh => by
   have h1 : aT (nth d' I1) (nth d' a) = false := bI.2.2.2 (by omega)
   have h2 : (!aT (nth d' J1) (nth d' a)) = false := bJ.2.2.2 (by omega) (by omega)
   rcases Nat.lt_or_ge I1 J1 with h3 | h3
   ·exact h3
   ·have h4 : I1 = J1 := by omega
    rw [h4] at h1;rw [h1] at h2
    cases h2
  clear bI bJ;rw [bC];simp only [lW];refine iB (En S1 v a 168 10 11 I1 j) ?_ ?_
  ·rw [bC, gY]
   refine aB (upH S1 v a (fun x => aT x (nth d' a)) d' j I1 168 10 11) (j + 1 - i) (rJ i (by simp [s0]) (by simp [s1]) (by simp [sj]) (by simp [si]) hI1.symm (by omega) (by omega) (by simp [hn]) rfl) ?_
   clear s0 s1 si sj hn
   rintro k2 F2 S2 fg ⟨e0, i, s0, s1, sj, si, hI, hai, fW, hn, xy⟩
   subst e0;clear fg;have iY := dp (n := i) (by omega)
   simp [s0, s1, si, sj];refine aA [.p, .p, .p, .p, .p, .p, .p, .r 0 0, .p, .p, .p, .r 0 0, .e [], .p] (n := 168) (by kernel_rfl) (by simp [hn]) ?_
   by_cases hc : i ≤ j
   ·have li := h1.ld (i := i) (by omega)
    have qi : i < d'.size := by omega
    cases hl : aT (nth d' i) (nth d' a) with
    | true =>
     rw [pJ hc (by show aT _ _ = true; rw [hl])] at hI
     simp [s0, s1, si, sj, hc, u1, u2, wk, fB, li, la, qi, qa, aG, hl, aR];exact ⟨j + 1 - (i + 1), by omega, rJ (i + 1) (by simp [s0]) (by simp [s1]) (by simp [sj]) (by simp [iY]) hI (by omega) (by omega) (by simp [hn]) rfl⟩
    | false =>
     rw [jK (fun _ => by show aT _ _ = false; rw [hl])] at hI
     simp [s0, s1, si, sj, hc, u1, u2, wk, fB, li, la, qi, qa, aG, hl, aR];exact gg (by simp [s0]) (by simp [s1]) (by simp [si, hI]) (by simp [sj]) (by simp [hn])
   ·rw [jK (fun hh => absurd hh hc)] at hI
    simp [s0, s1, si, sj, hc, ej];exact gg (by simp [s0]) (by simp [s1]) (by simp [si, hI]) (by simp [sj]) (by simp [hn])
  clear s0 s1 hn si sj
  rintro F T ⟨e0, s0, s1, si, sj, hn⟩
  subst e0;simp [-bC, aP, s0, s1, si, sj];refine iB (En T v a 168 10 11 I1 J1) ?_ ?_
  ·rw [bC, gY]
   refine aB (dnH T v a (fun x => !aT x (nth d' a)) d' I1 J1 168 10 11) j (sS j (by simp [s0]) (by simp [s1]) (by simp [sj]) (by simp [si]) hJ1.symm (by omega) (by omega) (by simp [hn]) rfl) ?_
   clear s0 s1 si sj hn
   rintro k2 F2 S2 fg ⟨rfl, j, s0, s1, sj, si, hJ, fW, hjb, hn, xy⟩
   clear fg;simp [s0, s1, si, sj];refine aA [.p, .p, .p, .p, .p, .p, .p, .r 0 0, .p, .p, .p, .r 0 0, .e [], .p, .p] (n := 168) (by kernel_rfl) (by simp [hn]) ?_
   by_cases hc : I1 ≤ j
   ·obtain ⟨j2, rfl⟩ : ∃ j2, j = j2 + 1 := ⟨j - 1, by omega⟩
    have li := h1.ld (i := j2 + 1) (by omega)
    have qi : (j2 : Int) + 1 < d'.size := by omega
    have q0 : (0 : Int) ≤ (j2 : Int) + 1 := by omega
    have qt : ((j2 : Int) + 1).toNat = j2 + 1 := by omega
    have uF : (I1 : Int) ≤ (j2 : Int) + 1 := by omega
    have nc : IntKind.i64.wrap ((j2 : Int) + 1 - 1) = (j2 : Int) := by rw [show (j2 : Int) + 1 - 1 = j2 by omega]; exact IntWalk.i64_in _ (by omega)
    have lF : IntKind.i64.wrap (j2 : Int) = (j2 : Int) := IntWalk.i64_in _ (by omega)
    simp at sj
    cases hl : aT (nth d' (j2 + 1)) (nth d' a) with
    | false =>
     rw [l7 hc (by show (!aT _ _) = true; rw [hl]; rfl)] at hJ
     simp [s0, s1, si, sj, uF, u1, u2, wk, fB, li, la, qi, q0, qt, qa, aG, hl, aR];exact ⟨j2, by omega, sS j2 (by simp [s0]) (by simp [s1]) (by simp [nc, lF]) (by simp [si]) hJ (by omega) (by omega) (by simp [hn]) rfl⟩
    | true =>
     rw [gI (fun _ => by show (!aT _ _) = false; rw [hl]; rfl)] at hJ
     simp [s0, s1, si, sj, uF, u1, u2, wk, fB, li, la, qi, q0, qt, qa, aG, hl, aR];exact gg (by simp [s0]) (by simp [s1]) (by simp [si]) (by simp [sj, ← hJ]) (by simp [hn])
   ·have uF : ¬ (I1 : Int) ≤ j := by omega
    rw [gI (fun hh => absurd hh hc)] at hJ
    simp [s0, s1, si, sj, uF, ej];exact gg (by simp [s0]) (by simp [s1]) (by simp [si]) (by simp [sj, ← hJ]) (by simp [hn])
  clear s0 s1 hn si sj
  rintro F T ⟨e0, s0, s1, si, sj, hn⟩
  subst e0
  by_cases Bn : I1 > J1
  ·rw [if_pos Bn] at h4
   have hIJI : (J1 : Int) < I1 := by omega
   obtain ⟨U0, U1, f1, f2, t1, t2, t3⟩ := h1.swap (i := J1) (j := a) (by omega) (by omega)
   have lj := h1.ld (i := J1) (by omega)
   have qj : J1 < d'.size := by omega
   rw [← h4];simp [aP, s0, s1, si, sj, Bn];refine aA [.p, .p, .p, .p, .p, .p, .p, .r 0 0, .p, .p, .p, .r 0 0, .p, .e [], .p, .e []] (n := 168) (by kernel_rfl) (by simp [hn]) ?_
   simp [s0, s1, si, sj, u1, u2, wk, fB, la, lj, qa, qj, f1, f2];exact ⟨t1, h2.trans t2⟩
  ·rw [if_neg Bn] at h4
   have hIJI : ¬ (J1 : Int) < I1 := by omega
   have gu := cD Bn;obtain ⟨U0, U1, f1, f2, t1, t2, t3⟩ := h1.swap (i := I1) (j := J1) (by omega) (by omega)
   have lj := h1.ld (i := J1) (by omega)
   have qj : J1 < d'.size := by omega
   have li := h1.ld (i := I1) (by omega)
   have qi : I1 < d'.size := by omega
   have iY := dp (n := I1) (by omega)
   have nc : IntKind.i64.wrap ((J1 : Int) - 1) = ((J1 - 1 : Nat) : Int) := by rw [im (by omega)]; omega
   simp [aP, s0, s1, si, sj, Bn];refine aA [.p, .p, .p, .p, .p, .p, .p, .r 0 0, .p, .p, .p, .r 0 0, .p, .e [], .p, .e []] (n := 168) (by kernel_rfl) (by simp [hn]) ?_
   simp [s0, s1, si, sj, u1, u2, wk, fB, li, lj, qi, qj, f1, f2];exact ⟨J1 - 1 + 1 - (I1 + 1), by omega, prtH_mk (I1 + 1) (J1 - 1) _ t1 (h2.trans t2) (by rw [bT]; exact h3) h4 (by simp [s0]) (by simp [s1]) (by simp [iY]) (by simp [nc]) (by simp [hn]) (by omega) (by omega) (by omega) rfl⟩
end
section
variable {S : AS} {v : AV} {d : Array Nat}
theorem nt102 : Tryz.f102.ntmps = 84 := by kernel_rfl
theorem vj (a i j I J : Nat) (d : Array Nat) (hI : I = Sort.scanUp (fun x => !aT (nth d a) x) d j i) (hJ : J = Sort.scanDown (fun x => aT (nth d a) x) d I j) : Sort.partEqLoop aT a i j d = if I > J then (I, d) else Sort.partEqLoop aT a (I + 1) (J - 1) (Sort.swp d I J) := by
 subst hJ;subst hI;exact Sort.partEqLoop_eq aT a i j d
def peqH (S : AS) (v : AV) (d : Array Nat) (a b : Nat) (R : Nat × Array Nat) (k : Nat) (F' : Fr) (S' : AS) : Prop :=
 ∃ (i j : Nat) (d' : Array Nat), aQ S' v d' ∧ dc v S S' ∧ d'.size = d.size ∧ Sort.partEqLoop aT a i j d' = R ∧ sl F' 0 = v ∧ sl F' 1 = .int .i64 a ∧ sl F' 9 = .int .i64 i ∧ sl F' 10 = .int .i64 j ∧ F'.n = 84 ∧ a < i ∧ i ≤ j + 1 ∧ j < b ∧ k = j + 1 - i
theorem peqH_mk {S : AS} {v : AV} {d : Array Nat} {a b : Nat} {R : Nat × Array Nat} {k : Nat} {F' : Fr} {S' : AS} (i j : Nat) (d' : Array Nat) (h1 : aQ S' v d') (h2 : dc v S S') (h3 : d'.size = d.size) (h4 : Sort.partEqLoop aT a i j d' = R) (h5 : sl F' 0 = v) (h6 : sl F' 1 = .int .i64 a) (h7 : sl F' 9 = .int .i64 i) (h8 : sl F' 10 = .int .i64 j) (h9 : F'.n = 84) (qA : a < i) (rf : i ≤ j + 1) (DT : j < b) (h13 : k = j + 1 - i) : peqH S v d a b R k F' S' :=
 ⟨i, j, d', h1, h2, h3, h4, h5, h6, h7, h8, h9, qA, rf, DT, h13⟩
set_option maxRecDepth 20000 in
theorem peq_sort (h : aQ S v d) {a b pivot : Nat} (hap : a ≤ pivot) (hpb : pivot < b) (hb : b ≤ d.size) (fi : d.size ≤ 1048576) : ai C0 102 [v, .int .i64 a, .int .i64 b, .int .i64 pivot] S fun r T => r = .int .i64 (Sort.partitionEqual aT d a b pivot).1 ∧ aQ T v (Sort.partitionEqual aT d a b pivot).2 ∧ dc v S T := by
 refine wa (dm _) (dn _ rfl) fn102 rfl ok102 (by simp) fun F hn s0 s1 s2 s3 => ?_
 rw [nt102] at hn;obtain ⟨b', rfl⟩ : ∃ b', b = b' + 1 := ⟨b - 1, by omega⟩
 have hw : IntKind.i64.wrap ((b' : Int) + 1 - 1) = (b' : Int) := by rw [show (b' : Int) + 1 - 1 = b' by omega]; exact IntWalk.i64_in _ (by omega)
 have At : IntKind.i64.wrap (b' : Int) = (b' : Int) := IntWalk.i64_in _ (by omega)
 have hwa := dp (n := a) (by omega)
 simp at s2;have u1 := h.sl;have u2 := h.len;have wk := h.ok;have fB := h.gw.1.ok;have la := h.ld (i := a) (by omega)
 have qa : a < d.size := by omega
 have lp := h.ld (i := pivot) (by omega)
 have qp : pivot < d.size := by omega
 obtain ⟨T0, T1, e1, e2, g1, g2, g3⟩ := h.swap (i := a) (j := pivot) (by omega) (by omega)
 obtain ⟨R, hR⟩ : ∃ R, R = Sort.partitionEqual aT d a (b' + 1) pivot := ⟨_, rfl⟩;rw [← hR];simp [s0, s1, s2, s3];refine aA [.p, .p, .p, .p, .p, .p, .p, .r 0 0, .p, .p, .p, .r 0 0, .p, .e [], .p, .e []] (n := 84) (by kernel_rfl) (by simp [hn]) ?_
 simp [s0, s1, s2, s3, u1, u2, wk, fB, la, lp, qa, qp, e1, e2, hw, At, hwa];refine aB (peqH S v d a (b' + 1) R) (b' + 1 - (a + 1)) (peqH_mk (a + 1) b' _ g1 g2 (bT _ _ _) (by rw [hR]; rfl) (by simp [s0]) (by simp [s1]) (by simp) (by simp) (by simp [hn]) (by omega) (by omega) (by omega) rfl) ?_
 clear s0 s1 s2 s3 hn u1 u2 wk fB la qa lp qp e1 e2 g1 g2 g3 hR
 rintro k F S1 df ⟨i, j, d', h1, h2, h3, h4, s0, s1, si, sj, hn, hai, fW, hjb, hk⟩
 clear df;have u1 := h1.sl;have u2 := h1.len;have wk := h1.ok;have fB := h1.gw.1.ok;have la := h1.ld (i := a) (by omega)
 have qa : a < d'.size := by omega
 obtain ⟨I1, hI1⟩ : ∃ I1, I1 = Sort.scanUp (fun x => !aT (nth d' a) x) d' j i := ⟨_, rfl⟩
 obtain ⟨J1, hJ1⟩ : ∃ J1, J1 = Sort.scanDown (fun x => aT (nth d' a) x) d' I1 j := ⟨_, rfl⟩
 rw [vj a i j I1 J1 d' hI1 hJ1] at h4;have bI := Sort.scanUp_spec (fun x => !aT (nth d' a) x) d' j _ i rfl
 rw [← hI1] at bI;have bJ := Sort.scanDown_spec (fun x => aT (nth d' a) x) d' I1 j
 rw [← hJ1] at bJ;have bI2 := bI.2.1 (by omega)
 have bJ2 := bJ.2.1 bI2;have bI1 := bI.1;have bJ1 := bJ.1;have cD : ¬ I1 > J1 → I1 < J1 := fun hh => by
  have h1 : (!aT (nth d' a) (nth d' I1)) = false := bI.2.2.2 (by omega)
  have h2 : aT (nth d' a) (nth d' J1) = false := bJ.2.2.2 (by omega) (by omega)
  rcases Nat.lt_or_ge I1 J1 with h3 | h3
  ·exact h3
  ·have h4 : I1 = J1 := by omega
   rw [h4, h2] at h1
   cases h1
 clear bI bJ;rw [bC];simp only [lW];refine iB (En S1 v a 84 9 10 I1 j) ?_ ?_
 ·rw [bC, gY]
  refine aB (upH S1 v a (fun x => !aT (nth d' a) x) d' j I1 84 9 10) (j + 1 - i) (rJ i (by simp [s0]) (by simp [s1]) (by simp [sj]) (by simp [si]) hI1.symm (by omega) (by omega) (by simp [hn]) rfl) ?_
  clear s0 s1 si sj hn
  rintro k2 F2 S2 fg ⟨e0, i, s0, s1, sj, si, hI, hai, fW, hn, xy⟩
  subst e0;clear fg;have iY := dp (n := i) (by omega)
  simp [s0, s1, si, sj];refine aA [.p, .p, .p, .p, .p, .p, .p, .r 0 0, .p, .p, .p, .r 0 0, .e [], .p, .p] (n := 84) (by kernel_rfl) (by simp [hn]) ?_
  by_cases hc : i ≤ j
  ·have li := h1.ld (i := i) (by omega)
   have qi : i < d'.size := by omega
   cases hl : aT (nth d' a) (nth d' i) with
   | false =>
    rw [pJ hc (by show (!aT _ _) = true; rw [hl]; rfl)] at hI
    simp [s0, s1, si, sj, hc, u1, u2, wk, fB, li, la, qi, qa, aG, hl, aR];exact ⟨j + 1 - (i + 1), by omega, rJ (i + 1) (by simp [s0]) (by simp [s1]) (by simp [sj]) (by simp [iY]) hI (by omega) (by omega) (by simp [hn]) rfl⟩
   | true =>
    rw [jK (fun _ => by show (!aT _ _) = false; rw [hl]; rfl)] at hI
    simp [s0, s1, si, sj, hc, u1, u2, wk, fB, li, la, qi, qa, aG, hl, aR];exact gg (by simp [s0]) (by simp [s1]) (by simp [si, hI]) (by simp [sj]) (by simp [hn])
  ·rw [jK (fun hh => absurd hh hc)] at hI
   simp [s0, s1, si, sj, hc, ej];exact gg (by simp [s0]) (by simp [s1]) (by simp [si, hI]) (by simp [sj]) (by simp [hn])
 clear s0 s1 hn si sj
 rintro F T ⟨e0, s0, s1, si, sj, hn⟩
 subst e0;simp [-bC, aP, s0, s1, si, sj];refine iB (En T v a 84 9 10 I1 J1) ?_ ?_
 ·rw [bC, gY]
  refine aB (dnH T v a (fun x => aT (nth d' a) x) d' I1 J1 84 9 10) j (sS j (by simp [s0]) (by simp [s1]) (by simp [sj]) (by simp [si]) hJ1.symm (by omega) (by omega) (by simp [hn]) rfl) ?_
  clear s0 s1 si sj hn
  rintro k2 F2 S2 fg ⟨rfl, j, s0, s1, sj, si, hJ, fW, hjb, hn, xy⟩
  clear fg;simp [s0, s1, si, sj];refine aA [.p, .p, .p, .p, .p, .p, .p, .r 0 0, .p, .p, .p, .r 0 0, .e [], .p] (n := 84) (by kernel_rfl) (by simp [hn]) ?_
  by_cases hc : I1 ≤ j
  ·obtain ⟨j2, rfl⟩ : ∃ j2, j = j2 + 1 := ⟨j - 1, by omega⟩
   have li := h1.ld (i := j2 + 1) (by omega)
   have qi : (j2 : Int) + 1 < d'.size := by omega
   have q0 : (0 : Int) ≤ (j2 : Int) + 1 := by omega
   have qt : ((j2 : Int) + 1).toNat = j2 + 1 := by omega
   have uF : (I1 : Int) ≤ (j2 : Int) + 1 := by omega
   have nc : IntKind.i64.wrap ((j2 : Int) + 1 - 1) = (j2 : Int) := by rw [show (j2 : Int) + 1 - 1 = j2 by omega]; exact IntWalk.i64_in _ (by omega)
   have lF : IntKind.i64.wrap (j2 : Int) = (j2 : Int) := IntWalk.i64_in _ (by omega)
   simp at sj
   cases hl : aT (nth d' a) (nth d' (j2 + 1)) with
   | true =>
    rw [l7 hc (by show aT _ _ = true; rw [hl])] at hJ
    simp [s0, s1, si, sj, uF, u1, u2, wk, fB, li, la, qi, q0, qt, qa, aG, hl, aR];exact ⟨j2, by omega, sS j2 (by simp [s0]) (by simp [s1]) (by simp [nc, lF]) (by simp [si]) hJ (by omega) (by omega) (by simp [hn]) rfl⟩
   | false =>
    rw [gI (fun _ => by show aT _ _ = false; rw [hl])] at hJ
    simp [s0, s1, si, sj, uF, u1, u2, wk, fB, li, la, qi, q0, qt, qa, aG, hl, aR];exact gg (by simp [s0]) (by simp [s1]) (by simp [si]) (by simp [sj, ← hJ]) (by simp [hn])
  ·have uF : ¬ (I1 : Int) ≤ j := by omega
   rw [gI (fun hh => absurd hh hc)] at hJ
   simp [s0, s1, si, sj, uF, ej];exact gg (by simp [s0]) (by simp [s1]) (by simp [si]) (by simp [sj, ← hJ]) (by simp [hn])
 clear s0 s1 hn si sj
 rintro F T ⟨e0, s0, s1, si, sj, hn⟩
 subst e0
 by_cases Bn : I1 > J1
 ·rw [if_pos Bn] at h4
  have hIJI : (J1 : Int) < I1 := by omega
  rw [← h4];simp [aP, s0, s1, si, sj, Bn];exact ⟨h1, h2⟩
 ·rw [if_neg Bn] at h4
  have hIJI : ¬ (J1 : Int) < I1 := by omega
  have gu := cD Bn;obtain ⟨U0, U1, f1, f2, t1, t2, t3⟩ := h1.swap (i := I1) (j := J1) (by omega) (by omega)
  have lj := h1.ld (i := J1) (by omega)
  have qj : J1 < d'.size := by omega
  have li := h1.ld (i := I1) (by omega)
  have qi : I1 < d'.size := by omega
  have iY := dp (n := I1) (by omega)
  have nc : IntKind.i64.wrap ((J1 : Int) - 1) = ((J1 - 1 : Nat) : Int) := by rw [im (by omega)]; omega
  simp [aP, s0, s1, si, sj, Bn];refine aA [.p, .p, .p, .p, .p, .p, .p, .r 0 0, .p, .p, .p, .r 0 0, .p, .e [], .p, .e []] (n := 84) (by kernel_rfl) (by simp [hn]) ?_
  simp [s0, s1, si, sj, u1, u2, wk, fB, li, lj, qi, qj, f1, f2];exact ⟨J1 - 1 + 1 - (I1 + 1), by omega, peqH_mk (I1 + 1) (J1 - 1) _ t1 (h2.trans t2) (by rw [bT]; exact h3) h4 (by simp [s0]) (by simp [s1]) (by simp [iY]) (by simp [nc]) (by simp [hn]) (by omega) (by omega) (by omega) rfl⟩
end
end Go.Proofs.YtfempihpphbgmaaGreat.idx
end
