/-
  'ShellApart' answers true for every input of a bulk that is bounded: unlike events, unlike rows, unlike texts.
-/
import Derived.Test.YthklfandhmkpiaaGreatDoorPartJ
import Derived.Test.YthklfandhmkpiaaGreatDoorPartK
import Derived.Test.YthklfandhmkpiaaGreatDoorPartL
import Derived.Test.YthklfandhmkpiaaGreatDoorPartQ
import Derived.Test.YthklfandhmkpiaaGreatDoorCards
import Derived.Test.YthklfandhmkpiaaGreatDoorTie
import Derived.SevenTiedAt
import Derived.Deep.DeepHandedRow
open List renaming append_nil->zza
open Array renaming getElem?_toList->zzb
set_option linter.unusedVariables false
set_option linter.unusedSimpArgs false
namespace Go.Proofs.YthklfandhmkpiaaGreatDoor.shellApart
open Go Go.Am Go.ChangeShapes Go.WideShapes Go.ChangeAt Go.RowKit Go.Proofs.YthklfandhmkpiaaGreatDoor.sh Go.Proofs.YthklfandhmkpiaaGreatDoor.upto
theorem law(S:AS)(cF:List AV)(h:jV C0 S 1048576 12 [50,50,54,54] cF):az C0 4 cF S fun v _=>v=.bool true:=by
 obtain⟨a,b,r,q,rfl,ha,hb,hr,hq⟩:=args4 (m:=0) shFacts (Nat.le_refl _) h;exact law4 wakes nam.names ha hb hr hq
theorem primsA{W:World}{B:Nat->Prop}(hg:∀x,x∈A9.eZ->gu W B x.1 x.2):∀x,x∈A0.fi->kD ⟨W,B⟩ Tryz.prog x.1 x.2:=by
 intro x hx;simp only[A0,List.mem_cons,List.not_mem_nil,or_false]at hx;rcases hx with rfl|rfl
 .exact wakeQ_ok hg
 .exact nameQ_ok
theorem globs_lt{W:World}(hg:∀x,x∈A9.eZ->gu W laid.B x.1 x.2):∀x,x∈A9.eZ->gu W (fun b=>b<W.heap.size) x.1 x.2:=fun x hx=>let ⟨a,b⟩:=hg x hx;⟨(laid.base_of hg _ a).1,b⟩
def ev0:Value:=.agg #[.int .i64 0,.int .i64 0,.int .i64 0,.int .i64 0,.int .i64 0,.int .u64 0,.slice none 0 0,.string ⟨#[]⟩,.slice none 0 0,.int .i64 0,.int .i64 0,.int .i64 0,.slice none 0 0,.slice none 0 0,.slice none 0 0]
def row0:Value:=.agg #[.int .i64 0,.int .i64 0,.int .u64 0,.slice none 0 0,.slice none 0 0]
def evD{H:Type}:DataW H:=.agg [.lit (.int .i64 0),.lit (.int .i64 0),.lit (.int .i64 0),.lit (.int .i64 0),.lit (.int .i64 0),.lit (.int .u64 0),.nil,.agg [.lit (.string []),.nil],.agg [.lit (.int .i64 0),.lit (.int .i64 0),.lit (.int .i64 0)],.nil,.nil,.nil]
def rowD{H:Type}:DataW H:=.agg [.lit (.int .i64 0),.lit (.int .i64 0),.lit (.int .u64 0),.nil,.nil]
noncomputable abbrev M(os:Os):World:=((laid.sq os).forCall (fun _ _=>0) ⟨#[],#[ev0,ev0,row0,row0],[]⟩).memory
theorem reads(os:Os){H:Type}(enc:TypeId×Value->H):∃places,DataW.whole enc Tryz.prog (M os) Tryz.f4.params.toList Rows.shellApartSpec.vars false #[ev0,ev0,row0,row0].toList 8=some ([evD,evD,rowD,rowD],[],places):=
 ⟨[],by kernel_rfl⟩
set_option maxRecDepth 100000 in
theorem lifted(os:Os)(started:os.Started)(H:Type)(enc:TypeId×Value->H)(F:Stop.Interp):
  ReturnsInHanded {} Tryz.checked os 4 .any ((Rows.OpenSpec.upto Rows.shellApartSpec).preRow enc Tryz.prog Tryz.f4 Rows.shellApartUptoRow.domain false Rows.shellApartUptoRow.laid) (((Rows.OpenSpec.upto Rows.shellApartSpec).at F).post enc Tryz.prog Tryz.f4 false true false false):=by
 obtain⟨places,hx⟩:=reads os enc;refine returnsInHanded_of_row (C:=Tryz.checked) (s:=Rows.OpenSpec.upto Rows.shellApartSpec) laid.own started (by kernel_rfl) Tryz.func4
  (witness_row_at (enc:=enc) (C:=Tryz.checked) false (laid.sq os) #[ev0,ev0,row0,row0] rfl (by kernel_rfl) (by kernel_rfl) (by kernel_rfl)
   (OpenSpec.preRow_of_cond 8 hx (by kernel_rfl) (fun k hk=>by cases hk;kernel_rfl) (by kernel_rfl) (laid.wZ os _))) ?_
 intro W base args ds gs before hval hW _ hcond hz hL _ _;have hW':=hW;obtain⟨p,q,hA,hV,rfl,_,_⟩:=hW;obtain⟨rfl,rfl⟩:=trodVars_none hV;have hk:=hcond _ rfl;rw[zza]at hk;have hbulk:Rows.uptoBulkAll ds<=1048576:=of_decide_eq_true hk;have hz1:(DataW.weightsEach Tryz.prog (Tryz.f4.params.toList++[]) (ds++[])).all (· <= reachBytes)=true:=hz;rw[zza,zza]at hz1;have hlen:ds.length=Tryz.f4.params.toList.length:=sY _ _ _ _ hA;have hA1:DataW.TrodAll enc Tryz.prog W 0 (fun _=>true) true Tryz.f4.params.toList args.toList ds p:=hA;have AO:Tryz.f4.params.toList=[50,50,54,54]:=by rw[Tryz.params4]
 have hg:=laid.globs_of hL;have hz':∀n,n∈DataW.weightsEach Tryz.prog [50,50,54,54] ds->n<=reachBytes:=fun n hn=>of_decide_eq_true (List.all_eq_true.1 hz1 n (by rw[AO];exact hn));have hA2:=hA1;rw[AO]at hA2;have hval':∀(j:Nat)t v,([50,50,54,54]:List TypeId)[j]?=some t->args[j]?=some v->Value.okWide Tryz.prog W .any base t v:=fun j t v h1 h2=>hval j t v (by rw[<-zzb,AO];exact h1) h2;refine (wY (P:=Tryz.prog) (A:=A0) (f:=4) (ts:=[50,50,54,54]) (B:=laid.B) (fun b hb=>(laid.base_of hg b hb).1) (laid.ready A0 rfl rfl) (primsA (globs_lt hg)) hg 12 (by kernel_rfl) hval' hA2 hz' hbulk (fun S cF _ ht=>law S cF ht)).mono fun e W' ⟨he,hbl⟩=>?_;subst he;have hd:∃d0 d1 d2 d3,ds=[d0,d1,d2,d3]:=by
  rw[AO]at hlen
  match ds,hlen with
  |[d0,d1,d2,d3],_=>exact⟨d0,d1,d2,d3,rfl⟩
 obtain⟨d0,d1,d2,d3,rfl⟩:=hd;exact⟨_,rfl,[d0,d1,d2,d3],[],_,[],p,[],hW',trodAll_mk1 (shut_bool Tryz.underlying4 _),pE (by kernel_rfl) hbl _ _ _ _ (by kernel_rfl) hA1 (uB _ _ _ _ hA1),rfl,hbl.frame _,fun h=>by cases h⟩
set_option maxRecDepth 100000 in
theorem over:Rows.ShellApartUptoSaid:=
 OpenClaim.holds_of_cond 4 Tryz.f4 rfl rfl rfl rfl rfl rfl rfl ⟨rfl,rfl,rfl,rfl,rfl⟩ rfl rfl rfl rfl rfl k_fn Tryz.func4 closed
  (of_decide_eq_true (by kernel_rfl)) (by unfold Func.isWrapper;first|(rw[if_pos (by decide +kernel)];kernel_rfl)|(rw[if_neg (by decide +kernel)];exact⟨rfl,rfl⟩))
  (fun os started H enc _ F=>by rw[OpenClaim.pre_eq_preRow];exact lifted os started H enc F)
theorem proved:Rows.ShellApartUptoCardSaid:=
 Claim7.holds_tied_plain_at .later [] [.data,.data,.data,.data,.sentinel,.sentinel,.pinned] true _ true
  over (fun _ h=>by cases h) (by kernel_rfl) (fun _ h=>by cases h) shellApartUpto_row_tie rfl ⟨rfl,rfl⟩ (by kernel_rfl) rfl
  (fun f fn hf hfn=>by
   obtain rfl:f=4:=Option.some.inj ((show Tryz.prog.funcNamed Rows.shellApartUptoRow.func=some 4 by kernel_rfl).symm.trans hf) |>.symm;obtain rfl:fn=Tryz.f4:=(Option.some.inj (Tryz.func4.symm.trans hfn)).symm;refine⟨by kernel_rfl,fun j t ht=>?_⟩;have kL:(Tryz.f4.params.toList.all fun t=>!Tryz.prog.wantsStandIn t)=true:=by kernel_rfl
   have hm:t∈Tryz.f4.params.toList:=by
    rw[<-zzb]at ht;exact List.mem_of_getElem? ht
   have hb:Tryz.prog.wantsStandIn t=false:=by simpa using List.all_eq_true.1 kL t hm
   exact hb)
  (by kernel_rfl)
end Go.Proofs.YthklfandhmkpiaaGreatDoor.shellApart
