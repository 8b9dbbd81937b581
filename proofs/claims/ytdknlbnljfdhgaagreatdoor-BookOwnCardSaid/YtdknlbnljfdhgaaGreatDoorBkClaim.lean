/-
  'BookOwn': the law as it runs, and the row's step. The listed package-level variables are not read.
-/
import Derived.Test.YtdknlbnljfdhgaaGreatDoorPartF
import Derived.Test.YtdknlbnljfdhgaaGreatDoorPartH
import Derived.Test.YtdknlbnljfdhgaaGreatDoorCards
import Derived.Test.YtdknlbnljfdhgaaGreatDoorTie
import Derived.SevenTiedAt
namespace Go.Proofs.YtdknlbnljfdhgaaGreatDoor.bookOwn
open Go Go.Am Go.ChangeShapes Go.WideShapes Go.ChangeAt Go.RowKit Go.Proofs.YtdknlbnljfdhgaaGreatDoor.dk Go.Proofs.YtdknlbnljfdhgaaGreatDoor.bk
set_option linter.unusedVariables false
set_option linter.unusedSimpArgs false
set_option maxRecDepth 100000 in
theorem lifted (os:Os) (started:os.Started) (H:Type) (enc:TypeId×Value→H) :
  ReturnsInHanded {} Tryz.checked os 3 .any (fun w args=>(Rows.bookOwnSpec.pre enc Tryz.prog Tryz.f3 [] false w args∧laidMetH Tryz.prog laid.L w)∧sizedMet enc Tryz.prog Tryz.f3 (OpenSpec.ofChange Rows.bookOwnSpec) false w args)
   (Rows.bookOwnSpec.post enc Tryz.prog Tryz.f3 false true false false):=by
 refine sa (C:=Tryz.checked) (X:=fun w _=>laidMetH Tryz.prog laid.L w) (fun _ _ _ hh h=>h.of_heap hh) laid.own started (by kernel_rfl) Tryz.func3
  (ChangeSpec.witness_at (enc:=enc) (C:=Tryz.checked) (os:=os) (X:=fun w _=>laidMetH Tryz.prog laid.L w) false (laid.zP os) #[.slice none 0 0] 8 rfl (by kernel_rfl) (by kernel_rfl) (by kernel_rfl) (by kernel_rfl) (by kernel_rfl) (laid.yK os _))
  (by kernel_rfl) (by kernel_rfl) (tb:=4) rfl Tryz.underlying4 rfl (fun ds hl=>?_) (fun W base args ds p hv hA hW hL=>?_)
 ·rw[Tryz.params3] at hl
  match ds,hl with
  | [_],_=>rfl
 ·have hts:Tryz.f3.params.toList=[22]:=by rw[Tryz.params3]
  rw[hts] at hv hA hW;exact law_args (P:=Tryz.prog) (A:=A1) (f:=3) (ts:=[22]) (B:=fun _=>False) (fun b hb=>hb.elim) (rdy A1 rfl rfl) (prims1 _) (fun x hx=>by cases hx) 8 (by kernel_rfl) hv hA hW (fun S bX _ ht=>lawOwn S bX ht)
theorem over:Rows.BookOwnSaid:=
 OpenClaim.holds_of_wide 3 Tryz.f3 rfl rfl rfl rfl rfl rfl rfl ⟨rfl,rfl,rfl,rfl,rfl⟩ rfl rfl rfl rfl rfl (by kernel_rfl) Tryz.func3 (by kernel_rfl)
  (of_decide_eq_true (by kernel_rfl)) (by unfold Func.isWrapper;first|(rw[if_pos (by decide +kernel)];kernel_rfl)|(rw[if_neg (by decide +kernel)];exact ⟨rfl,rfl⟩))
  (fun os started H enc _=>lifted os started H enc)
theorem proved:Rows.BookOwnCardSaid:=
 Claim7.holds_tied_plain_at .later [] [.data,.pinned] true _ true
  over (fun _ h=>by cases h) (by kernel_rfl) (fun _ h=>by cases h) bookOwn_row_tie rfl ⟨rfl,rfl⟩ (by kernel_rfl) rfl
  (fun f fn hf Eh=>by
   obtain rfl:f=3:=Option.some.inj ((show Tryz.prog.funcNamed Rows.bookOwnRow.func=some 3 by kernel_rfl).symm.trans hf) |>.symm;obtain rfl:fn=Tryz.f3:=(Option.some.inj (Tryz.func3.symm.trans Eh)).symm;refine ⟨by kernel_rfl,fun j t ht=>?_⟩;have iN:(Tryz.f3.params.toList.all fun t=>!Tryz.prog.wantsStandIn t)=true:=by kernel_rfl
   have hm:t∈Tryz.f3.params.toList:=by
    rw[←Array.getElem?_toList] at ht;exact List.mem_of_getElem? ht
   have hb:Tryz.prog.wantsStandIn t=false:=by simpa using List.all_eq_true.1 iN t hm
   exact hb)
  (by kernel_rfl)
end Go.Proofs.YtdknlbnljfdhgaaGreatDoor.bookOwn
