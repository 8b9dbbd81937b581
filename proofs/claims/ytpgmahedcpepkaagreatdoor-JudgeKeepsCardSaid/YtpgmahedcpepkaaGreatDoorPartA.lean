/-
  'Is the next number the one that was told': a function whose answer is known, so that the kernel need not enter it.
  The functions that the run of 'JudgeKeeps' need not enter.
  A run of code in two: the one by the logic, the other by the kernel.
-/
import Derived.Test.YtpgmahedcpepkaaGreatDoorLaid
import Derived.Test.YtpgmahedcpepkaaGreatDoorAmRow
import Derived.Test.YtpgmahedcpepkaaGreatDoorAw
import Derived.Test.YtpgmahedcpepkaaGreatDoorAmPrim
namespace Go.Proofs.YtpgmahedcpepkaaGreatDoor.nx
open Go Go.RowKit Go.Am
set_option linter.unusedVariables false
set_option linter.unusedSimpArgs false

noncomputable abbrev C0 : Am.Cx := mkCx Tryz.prog laid.A0
theorem fn100 : C0.fns.get 100 = some Tryz.f100 := by kernel_rfl
theorem ok100 : codeOk C0 Tryz.f100.ntmps (Tryz.f100.body.getD .skip) = true := by kernel_rfl
@[simp] theorem fa45_2 : fieldAt C0 45 2 = some 2 := by kernel_rfl
@[simp] theorem ag30 : aggOf C0 30 = some false := by kernel_rfl
@[simp] theorem sz30 : szOf C0 30 = some 1 := by kernel_rfl
theorem fn101 : C0.fns.get 101 = some Tryz.f101 := by kernel_rfl
theorem ok101 : codeOk C0 Tryz.f101.ntmps (Tryz.f101.body.getD .skip) = true := by kernel_rfl
@[simp] theorem fa136_1 : fieldAt C0 136 1 = some 1 := by kernel_rfl
@[simp] theorem ag134 : aggOf C0 134 = some false := by kernel_rfl
@[simp] theorem sz134 : szOf C0 134 = some 1 := by kernel_rfl
@[simp] theorem st134 : slT C0 134 = some (260, 4, 56) := by kernel_rfl
@[simp] theorem cv3_30 : convT C0 3 30 = some .u64 := by kernel_rfl
theorem fn106 : C0.fns.get 106 = some Tryz.f106 := by kernel_rfl
theorem ok106 : codeOk C0 Tryz.f106.ntmps (Tryz.f106.body.getD .skip) = true := by kernel_rfl
@[simp] theorem pt95 : ptT C0 95 = true := by kernel_rfl
@[simp] theorem fa136_0 : fieldAt C0 136 0 = some 0 := by kernel_rfl
@[simp] theorem ag4 : aggOf C0 4 = some false := by kernel_rfl
@[simp] theorem sz4 : szOf C0 4 = some 1 := by kernel_rfl
theorem pu100 : C0.pures.get 100 = none := by kernel_rfl
theorem pu101 : C0.pures.get 101 = none := by kernel_rfl
theorem pu106 : C0.pures.get 106 = none := by kernel_rfl
theorem pr0 (f : Nat) : C0.prims.get f = none := rfl
@[simp] theorem ex101 : C0.exts.get 101 = none := by kernel_rfl
@[simp] theorem ex106 : C0.exts.get 106 = none := by kernel_rfl
theorem nt100 : Tryz.f100.ntmps = 9 := by kernel_rfl

/-- A history's cells, and a row's number. -/
noncomputable def hist (S : AS) (h : Nat) : Option (Bool × AV) := match S.h.get h with | some (.row [.bool b, v, _] 0 0 _ _) => some (b, v) | _ => none
noncomputable def told (S : AS) (c : Nat) : Option Int := match S.h.get c with | some (.row (_ :: _ :: .int .u64 n :: _) 0 0 _ _) => some n | _ => none
noncomputable def cnt (v : AV) : Option Nat := cond (isSl 4 v && Nat.blt (sLen v) 9223372036854775807) (some (sLen v)) none
noncomputable def nextOf (S : AS) (h : Nat) : Option Nat := match hist S h with | some (true, v) => (match cnt v with | some n => some (Nat.succ n) | none => none) | some (false, _) => some 1 | none => none
noncomputable def isNext (vs : List AV) (S : AS) : Option (AV × AS) :=
  match vs with
  | [.ptr h gh oh lh, .ptr c gc oc lc] =>
    cond (Nat.beq gh 0 && Nat.beq oh 0 && Nat.beq lh 3 && Nat.beq gc 0 && Nat.beq oc 0 && Nat.ble 3 lc)
      (match nextOf S h, told S c with
        | some m, some n => some (.bool (eqI (Int.ofNat m) n), S)
        | _, _ => none) none
  | _ => none

theorem hist_some {S : AS} {h : Nat} {b : Bool} {v : AV} (e : hist S h = some (b, v)) : ∃ x frz ty, S.h.get h = some (.row [.bool b, v, x] 0 0 frz ty) := by
  unfold hist at e
  split at e
  · rename_i h1; cases e; exact ⟨_, _, _, h1⟩
  · cases e
theorem told_some {S : AS} {c : Nat} {n : Int} (e : told S c = some n) : ∃ x y l frz ty, S.h.get c = some (.row (x :: y :: .int .u64 n :: l) 0 0 frz ty) := by
  unfold told at e
  split at e
  · rename_i h1; cases e; exact ⟨_, _, _, _, _, h1⟩
  · cases e
theorem cnt_some {v : AV} {n : Nat} (e : cnt v = some n) : isSl 4 v = true ∧ sLen v = n ∧ n < 9223372036854775807 := by
  unfold cnt at e
  cases hb : (isSl 4 v && Nat.blt (sLen v) 9223372036854775807) with
  | true =>
    rw [hb] at e
    cases e
    rw [Bool.and_eq_true] at hb
    exact ⟨hb.1, rfl, by have := hb.2; rw [nblt] at this; simpa using this⟩
  | false => rw [hb] at e; cases e

theorem none106 {S : AS} {h : Nat} {b : Bool} {v : AV} (e : hist S h = some (b, v)) {Q : AV → AS → Prop} : CallW C0 106 [.ptr h 0 0 3] S Q = Q (.bool (!b)) S := by
  obtain ⟨x, frz, ty, at_⟩ := hist_some e
  refine CallW.eq (enterW pu106 (pr0 _) fn106 rfl ok106 (by simp) fun F hn hs => ?_)
  have s0 := hs 0
  clear hs
  simp only [List.getElem?_cons_zero, Option.getD_some] at s0
  simp [s0, at_]
theorem next101 {S : AS} {h m : Nat} (e : nextOf S h = some m) {Q : AV → AS → Prop} : CallW C0 101 [.ptr h 0 0 3] S Q = Q (.int .u64 m) S := by
  unfold nextOf at e
  refine CallW.eq (enterW pu101 (pr0 _) fn101 rfl ok101 (by simp) fun F hn hs => ?_)
  have s0 := hs 0
  clear hs
  simp only [List.getElem?_cons_zero, Option.getD_some] at s0
  split at e
  · rename_i v hh
    split at e
    · rename_i n hc
      cases e
      obtain ⟨x, frz, ty, at_⟩ := hist_some hh
      obtain ⟨h0, h1, h2⟩ := cnt_some hc
      have hw : IntKind.u64.wrap (n : Int) = (n : Int) := by
        simp [IntKind.wrap, IntKind.bits, IntKind.signed]; omega
      have hw1 : IntKind.u64.wrap ((n : Int) + 1) = (n : Int) + 1 := by
        simp [IntKind.wrap, IntKind.bits, IntKind.signed]; omega
      simp [s0, at_, none106 hh, h0, h1, hw, hw1]
    · cases e
  · rename_i v hh
    cases e
    simp [s0, none106 hh]
  · cases e
theorem isNext_ok (vs : List AV) (S : AS) (v : AV) (S' : AS) (h : isNext vs S = some (v, S')) : S' = S ∧ flatF 8 v = true ∧ CallW C0 100 vs S fun v' T => v' = v ∧ Sub S T := by
  unfold isNext at h
  split at h
  · rename_i hh gh oh lh c gc oc lc
    cases hb : (Nat.beq gh 0 && Nat.beq oh 0 && Nat.beq lh 3 && Nat.beq gc 0 && Nat.beq oc 0 && Nat.ble 3 lc) with
    | false => rw [hb] at h; cases h
    | true =>
      rw [hb] at h
      simp only [Bool.and_eq_true, Nat.beq_eq, Nat.ble_eq] at hb
      obtain ⟨⟨⟨⟨⟨rfl, rfl⟩, rfl⟩, rfl⟩, rfl⟩, hlc⟩ := hb
      simp only [cond_true] at h
      split at h
      · rename_i m n h1 h2
        cases h
        obtain ⟨x, y, l, frz, ty, at_⟩ := told_some h2
        refine ⟨rfl, rfl, enterW pu100 (pr0 _) fn100 rfl ok100 (by simp) fun F hn hs => ?_⟩
        rw [nt100] at hn
        have s0 := hs 0
        have s1 := hs 1
        clear hs
        simp only [List.getElem?_cons_zero, List.getElem?_cons_succ, Option.getD_some] at s0 s1
        simp
        refine draws [.p, .e [], .p, .r 1 0, .p, .p] (n := 9) (by kernel_rfl) (by simp [hn]) ?_
        simp [s0, s1, next101 h1, at_, hlc]
        exact ⟨by rw [eqI_eq], Sub.refl S⟩
      · cases h
  · cases h
theorem isNext_prim (Λ : LB) : PrimOk Λ Tryz.prog 100 isNext :=
  prim_flat (A := laid.A0) (laid.ready laid.A0 rfl rfl) (fun x hx => by cases hx) (fun x hx => by cases hx) 8 isNext_ok
end Go.Proofs.YtpgmahedcpepkaaGreatDoor.nx

namespace Go.Proofs.YtpgmahedcpepkaaGreatDoor.ask
open Go Go.RowKit

noncomputable def A2 : Am.Ask := { laid.A0 with prims := [(5, Am.boolQ true), (100, nx.isNext)] }
theorem prims (Λ : Am.LB) : ∀ x, x ∈ A2.prims → Am.PrimOk Λ Tryz.prog x.1 x.2 := by
  intro x hx
  simp only [A2, List.mem_cons, List.not_mem_nil, or_false] at hx
  rcases hx with rfl | rfl
  · exact Am.boolQ_ok Tryz.func5 rfl aw.walk
  · exact nx.isNext_prim Λ
end Go.Proofs.YtpgmahedcpepkaaGreatDoor.ask

namespace Go.Am
open Go

def Runs (cx : Cx) (c : Code) (F : Fr) (S : AS) (o : Out) : Prop := ∃ n, exec cx n c F S = .ok o []
theorem Runs.seq {cx : Cx} {a b : Code} {F : Fr} {S : AS} {o o2 : Out} (h : Runs cx a F S o) (he : o.ex = .normal) (k : Runs cx b o.F o.S o2) : Runs cx (.seq a b) F S o2 := by
  obtain ⟨n, h⟩ := h
  obtain ⟨m, k⟩ := k
  refine ⟨max n m + 1, ?_⟩
  have h1 := exec_mono (cx := cx) (Nat.le_max_left n m) a F S _ _ h
  have k1 := exec_mono (cx := cx) (Nat.le_max_right n m) b o.F o.S _ _ k
  show Res.bind (exec cx (max n m) a F S) _ = _
  rw [h1]
  show (match o.ex with | .normal => exec cx (max n m) b o.F o.S | _ => .ok o []) = _
  rw [he]
  exact k1
theorem Runs.wp {cx : Cx} {c : Code} {F : Fr} {S : AS} {o : Out} (hc : codeOk cx F.n c = true) (h : wpP cx c F S fun e F' S' => e = o.ex ∧ F' = o.F ∧ S' = o.S) : Runs cx c F S o := by
  obtain ⟨n, o', h1, ⟨h2, h3, h4⟩, _⟩ := wpP_ok c hc h
  refine ⟨n, ?_⟩
  rw [h1]
  obtain ⟨e, F', S'⟩ := o'
  simp only at h2 h3 h4
  subst h2; subst h3; subst h4
  rfl
/-- It has ended, with this answer. -/
noncomputable def doneB (cx : Cx) (fn : Func) (b : Bool) (r : Res Out) : Bool :=
  match r with
  | .ok ⟨.ret, F, S⟩ [] => match F.ds, resultsV cx fn F S with
    | [], some (.bool c) => cond b c (!c)
    | _, _ => false
  | _ => false
theorem call_done {cx : Cx} {f : FuncId} {fn : Func} {x y c : Code} {vs : List AV} {S : AS} {o1 o2 : Out} {n : Nat} (hu : cx.pures.get f = none) (hp : cx.prims.get f = none) (hf : cx.fns.get f = some fn) (hb : fn.body = some (.seq x (.seq y c)))
    (h1 : Runs cx x (initF vs fn.ntmps) S o1) (e1 : o1.ex = .normal) (h2 : Runs cx y o1.F o1.S o2) (e2 : o2.ex = .normal) (h : doneB cx fn true (exec cx n c o2.F o2.S) = true) : CallW cx f vs S fun v _ => v = .bool true := by
  unfold doneB at h
  split at h
  · rename_i F' S' hex
    split at h
    · rename_i b hds hres
      have hb' : b = true := by simpa using h
      subst hb'
      obtain ⟨m, hm⟩ := h1.seq e1 (h2.seq e2 ⟨n, hex⟩)
      refine ⟨m, ?_⟩
      unfold call callF pureF fnF
      simp only [hu, hp, hf, hb]
      refine Res.One.bind ⟨_, hm, ?_⟩
      show (leaveL cx (exec cx m) fn F' F'.ds .ret S').One _
      rw [hds]
      show (match resultsV cx fn F' S' with | some v => (.ok (v, S') [] : Res (AV × AS)) | none => .err 2001).One _
      rw [hres]
      exact ⟨_, rfl, rfl, rfl⟩
    · cases h
  · cases h
end Go.Am
