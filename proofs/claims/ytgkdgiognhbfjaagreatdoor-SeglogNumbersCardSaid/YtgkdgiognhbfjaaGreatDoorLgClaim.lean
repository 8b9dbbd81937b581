/-
  'SeglogNumbers': the law as it runs, and the row's step. The listed package-level variables are not read.
-/
import Derived.Test.YtgkdgiognhbfjaaGreatDoorPartF
import Derived.Test.YtgkdgiognhbfjaaGreatDoorPartI
import Derived.Test.YtgkdgiognhbfjaaGreatDoorCards
import Derived.Test.YtgkdgiognhbfjaaGreatDoorTie
import Derived.SevenTiedAt
namespace Go.Proofs.YtgkdgiognhbfjaaGreatDoor.seglogNumbers
open Go Go.Am Go.ChangeShapes Go.WideShapes Go.ChangeAt Go.RowKit Go.Proofs.YtgkdgiognhbfjaaGreatDoor.dk
set_option linter.unusedVariables false
set_option linter.unusedSimpArgs false
set_option maxRecDepth 100000 in
theorem lifted (os:Os) (started:os.Started) (H:Type) (enc:TypeId×Value→H) :
  ReturnsInHanded {} Tryz.checked os 3 .any (fun w args=>(Rows.seglogNumbersSpec.pre enc Tryz.prog Tryz.f3 [] false w args∧laidMetH Tryz.prog laid.L w)∧sizedMet enc Tryz.prog Tryz.f3 (OpenSpec.ofChange Rows.seglogNumbersSpec) false w args)
   (Rows.seglogNumbersSpec.post enc Tryz.prog Tryz.f3 false true false false):=by
 refine rq (C:=Tryz.checked) (X:=fun w _=>laidMetH Tryz.prog laid.L w) (fun _ _ _ hh h=>h.of_heap hh) laid.own started (by kernel_rfl) Tryz.func3
  (ChangeSpec.witness_at (enc:=enc) (C:=Tryz.checked) (os:=os) (X:=fun w _=>laidMetH Tryz.prog laid.L w) false (laid.yW os) #[.slice none 0 0] 8 rfl (by kernel_rfl) (by kernel_rfl) (by kernel_rfl) (by kernel_rfl) (by kernel_rfl) (laid.xV os _))
  (by kernel_rfl) (by kernel_rfl) (tb:=4) rfl Tryz.underlying4 rfl (fun ds hl=>?_) (fun W base args ds p hv hA hW hL=>?_)
 ·rw[Tryz.params3] at hl
  match ds,hl with
  | [_],_=>rfl
 ·have Eo:Tryz.f3.params.toList=[22]:=by rw[Tryz.params3]
  rw[Eo] at hv hA hW;exact law_args (P:=Tryz.prog) (A:=A1) (f:=3) (ts:=[22]) (B:=fun _=>False) (fun b hb=>hb.elim) (laid.ready A1 rfl rfl) (prims1 _) (fun x hx=>by cases hx) 5 (by kernel_rfl) hv hA hW (fun S xL _ ht=>law S xL ht)
theorem over:Rows.SeglogNumbersSaid:=
 OpenClaim.holds_of_wide 3 Tryz.f3 rfl rfl rfl rfl rfl rfl rfl ⟨rfl,rfl,rfl,rfl,rfl⟩ rfl rfl rfl rfl rfl (by kernel_rfl) Tryz.func3 (by kernel_rfl)
  (of_decide_eq_true (by kernel_rfl)) (by unfold Func.isWrapper;first|(rw[if_pos (by decide +kernel)];kernel_rfl)|(rw[if_neg (by decide +kernel)];exact ⟨rfl,rfl⟩))
  (fun os started H enc _=>lifted os started H enc)
theorem proved:Rows.SeglogNumbersCardSaid:=
 Claim7.holds_tied_plain_at .later [] [.data,.pinned] true _ false
  over (fun _ h=>by cases h) (by kernel_rfl) (fun _ h=>by cases h) seglogNumbers_row_tie rfl ⟨rfl,rfl⟩ (by kernel_rfl) rfl
  (fun f fn hf tO=>by
   obtain rfl:f=3:=Option.some.inj ((show Tryz.prog.funcNamed Rows.seglogNumbersRow.func=some 3 by kernel_rfl).symm.trans hf) |>.symm;obtain rfl:fn=Tryz.f3:=(Option.some.inj (Tryz.func3.symm.trans tO)).symm;refine ⟨by kernel_rfl,fun j t ht=>?_⟩;have dv:(Tryz.f3.params.toList.all fun t=>!Tryz.prog.wantsStandIn t)=true:=by kernel_rfl
   have hm:t∈Tryz.f3.params.toList:=by
    rw[←Array.getElem?_toList] at ht;exact List.mem_of_getElem? ht
   have hb:Tryz.prog.wantsStandIn t=false:=by simpa using List.all_eq_true.1 dv t hm
   exact hb)
  (by kernel_rfl)
end Go.Proofs.YtgkdgiognhbfjaaGreatDoor.seglogNumbers
