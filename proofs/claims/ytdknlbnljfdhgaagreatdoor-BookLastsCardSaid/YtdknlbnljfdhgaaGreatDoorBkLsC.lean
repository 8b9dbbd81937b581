/-
  'BookLasts': the law as it runs, and the row's step. The listed package-level variables are not read.
-/
import Derived.Test.YtdknlbnljfdhgaaGreatDoorPartJ
import Derived.Test.YtdknlbnljfdhgaaGreatDoorPartH
import Derived.Test.YtdknlbnljfdhgaaGreatDoorPartI
import Derived.Test.YtdknlbnljfdhgaaGreatDoorAmHanded
import Derived.Test.YtdknlbnljfdhgaaGreatDoorCards
import Derived.Test.YtdknlbnljfdhgaaGreatDoorTie
import Derived.SevenTiedAt
set_option linter.unusedVariables false
set_option linter.unusedSimpArgs false
namespace Go.Proofs.YtdknlbnljfdhgaaGreatDoor.bookLasts
open Go Go.Am Go.ChangeShapes Go.WideShapes Go.ChangeAt Go.RowKit Go.Proofs.YtdknlbnljfdhgaaGreatDoor.dk Go.Proofs.YtdknlbnljfdhgaaGreatDoor.bk
theorem Up(hA:seg.Dj)(S:AS)(bA:List AV)(h:nY C1 S 8 [22] bA):ah C1 5 bA S fun v _=>v=.bool true:=by
 obtain⟨v,ops,rfl,hv⟩:=jfn (m:=1) jat h;exact law5 hA hv
set_option maxRecDepth 100000 in
theorem lifted(os:Os)(started:os.Started)(H:Type)(enc:TypeId×Value->H):
  ReturnsInHanded {} Tryz.checked os 5 .any (fun w args=>(Rows.bookLastsSpec.pre enc Tryz.prog Tryz.f5 [] false w args/\laidMetH Tryz.prog laid.L w)/\sizedMet enc Tryz.prog Tryz.f5 (OpenSpec.ofChange Rows.bookLastsSpec) false w args)
   (Rows.bookLastsSpec.post enc Tryz.prog Tryz.f5 false true false false):=by
 refine vc (C:=Tryz.checked) (X:=fun w _=>laidMetH Tryz.prog laid.L w) (fun _ _ _ hh h=>h.of_heap hh) laid.own started (by kernel_rfl) Tryz.func5
  (ChangeSpec.witness_at (enc:=enc) (C:=Tryz.checked) (os:=os) (X:=fun w _=>laidMetH Tryz.prog laid.L w) false (laid.CJ os) #[.slice none 0 0] 8 rfl (by kernel_rfl) (by kernel_rfl) (by kernel_rfl) (by kernel_rfl) (by kernel_rfl) (laid.BH os _))
  (by kernel_rfl) (by kernel_rfl) (tb:=4) rfl Tryz.underlying4 rfl (fun ds hl=>?_) (fun W base args ds p hv hA hW hL=>?_)
 .rw[Tryz.params5]at hl
  match ds,hl with
  |[_],_=>rfl
 .have Je:Tryz.f5.params.toList=[22]:=by rw[Tryz.params5]
  rw[Je]at hv hA hW;exact Uo (P:=Tryz.prog) (A:=A1) (f:=5) (ts:=[22]) (B:=fun _=>False) (fun b hb=>hb.elim) (run.rdy A1 rfl rfl) (run.J9 _) (fun x hx=>by cases hx) 8 (by kernel_rfl) hv hA hW (fun S bA _ ht=>Up aw.jfB S bA ht)
theorem over:Rows.BookLastsSaid:=
 OpenClaim.holds_of_wide 5 Tryz.f5 rfl rfl rfl rfl rfl rfl rfl ⟨rfl,rfl,rfl,rfl,rfl⟩ rfl rfl rfl rfl rfl (by kernel_rfl) Tryz.func5 (by kernel_rfl)
  (of_decide_eq_true (by kernel_rfl)) (by unfold Func.isWrapper;first|(rw[if_pos (by decide +kernel)];kernel_rfl)|(rw[if_neg (by decide +kernel)];exact⟨rfl,rfl⟩))
  (fun os started H enc _=>lifted os started H enc)
theorem proved:Rows.BookLastsCardSaid:=
 Claim7.holds_tied_plain_at .later [] [.data,.pinned] true _ true
  over (fun _ h=>by cases h) (by kernel_rfl) (fun _ h=>by cases h) bookLasts_row_tie rfl ⟨rfl,rfl⟩ (by kernel_rfl) rfl
  (fun f fn hf Hz=>by
   obtain rfl:f=5:=Option.some.inj ((show Tryz.prog.funcNamed Rows.bookLastsRow.func=some 5 by kernel_rfl).symm.trans hf) |>.symm;obtain rfl:fn=Tryz.f5:=(Option.some.inj (Tryz.func5.symm.trans Hz)).symm;refine⟨by kernel_rfl,fun j t ht=>?_⟩;have lr:(Tryz.f5.params.toList.all fun t=>!Tryz.prog.wantsStandIn t)=true:=by kernel_rfl
   have hm:t∈Tryz.f5.params.toList:=by
    rw[<-Array.getElem?_toList]at ht;exact List.mem_of_getElem? ht
   have hb:Tryz.prog.wantsStandIn t=false:=by simpa using List.all_eq_true.1 lr t hm
   exact hb)
  (by kernel_rfl)
end Go.Proofs.YtdknlbnljfdhgaaGreatDoor.bookLasts
