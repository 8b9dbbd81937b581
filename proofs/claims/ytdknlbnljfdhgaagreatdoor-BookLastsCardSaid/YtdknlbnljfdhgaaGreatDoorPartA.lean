/-
  slices.Sorted(maps.Keys(m)) off the kit's contracts: the layings.
-/
import Derived.Shelf.SlIterI.Nil
import Derived.Shelf.SlIter.Nil
import Derived.Shelf.SortM.Plain
import Derived.Shelf.SortM.SortNone
import Derived.Ground.GgzProg
import Derived.Ground.SlgmProg
import Derived.Test.YtdknlbnljfdhgaaGreatDoorProg
import Derived.Test.YtdknlbnljfdhgaaGreatDoorAmRules
import Derived.Test.YtdknlbnljfdhgaaGreatDoorAmTop
import Derived.Test.YtdknlbnljfdhgaaGreatDoorAmIter
import Derived.Test.YtdknlbnljfdhgaaGreatDoorRows
import Derived.Test.YtdknlbnljfdhgaaGreatDoorAmWide
import Derived.Test.YtdknlbnljfdhgaaGreatDoorAmArgs
open List renaming getElem?_eq_getElem->zza,length_eq_zero_iff->zzc,length_map->zzd,pairwise_mergeSort->zze,map_map->zzf,getElem_map->zzg,ext_getElem->zzh,mergeSort_perm->zzi,map->zzj,map_congr_left->zzm
open Nat renaming le_refl->zzb
open Bool renaming or_eq_true->zzk
open Array renaming ext'->zzl
set_option linter.unusedVariables false
set_option linter.unusedSimpArgs false
noncomputable section
namespace Go.Am
open Go
abbrev okF(cx:Cx)(f:Func):Bool:=codeOk cx f.ntmps (f.body.getD .skip)
theorem aL{cx:Cx}{f:FuncId}{fn:Func}{c:Code}{a0:AV}{l:List AV}{S:AS}{Q:AV->AS->Prop}(hu:cx.kZ.get f=none)(hp:cx.ei.get f=none)(hf:cx.fns.get f=some fn)(hb:fn.body=some c)(hc:codeOk cx fn.ntmps c=true)(hn:(a0::l).length<=fn.ntmps)(h:∀F:Fr,F.n=fn.ntmps->sl F 0=a0->mc cx c F S (AU cx fn Q)):ah cx f (a0::l) S Q:=cG hu hp hf hb hc hn fun F hn hs=>h F hn (hs 0)
theorem bt{cx:Cx}{f:FuncId}{fn:Func}{c:Code}{a0 a1:AV}{l:List AV}{S:AS}{Q:AV->AS->Prop}(hu:cx.kZ.get f=none)(hp:cx.ei.get f=none)(hf:cx.fns.get f=some fn)(hb:fn.body=some c)(hc:codeOk cx fn.ntmps c=true)(hn:(a0::a1::l).length<=fn.ntmps)(h:∀F:Fr,F.n=fn.ntmps->sl F 0=a0->sl F 1=a1->mc cx c F S (AU cx fn Q)):ah cx f (a0::a1::l) S Q:=cG hu hp hf hb hc hn fun F hn hs=>h F hn (hs 0) (hs 1)
theorem tW{cx:Cx}{f:FuncId}{fn:Func}{c:Code}{a0 a1 a2:AV}{l:List AV}{S:AS}{Q:AV->AS->Prop}(hu:cx.kZ.get f=none)(hp:cx.ei.get f=none)(hf:cx.fns.get f=some fn)(hb:fn.body=some c)(hc:codeOk cx fn.ntmps c=true)(hn:(a0::a1::a2::l).length<=fn.ntmps)(h:∀F:Fr,F.n=fn.ntmps->sl F 0=a0->sl F 1=a1->sl F 2=a2->mc cx c F S (AU cx fn Q)):ah cx f (a0::a1::a2::l) S Q:=cG hu hp hf hb hc hn fun F hn hs=>h F hn (hs 0) (hs 1) (hs 2)
theorem Li{cx:Cx}{f:FuncId}{fn:Func}{c:Code}{a0 a1 a2 a3:AV}{l:List AV}{S:AS}{Q:AV->AS->Prop}(hu:cx.kZ.get f=none)(hp:cx.ei.get f=none)(hf:cx.fns.get f=some fn)(hb:fn.body=some c)(hc:codeOk cx fn.ntmps c=true)(hn:(a0::a1::a2::a3::l).length<=fn.ntmps)(h:∀F:Fr,F.n=fn.ntmps->sl F 0=a0->sl F 1=a1->sl F 2=a2->sl F 3=a3->mc cx c F S (AU cx fn Q)):ah cx f (a0::a1::a2::a3::l) S Q:=cG hu hp hf hb hc hn fun F hn hs=>h F hn (hs 0) (hs 1) (hs 2) (hs 3)
end Go.Am
namespace Go.Proofs.YtdknlbnljfdhgaaGreatDoor.sk
open Go Go.Proofs Go.RowKit Go.Maps Go.Sort Go.Shelf
def CL:Go.Shelf.Ren:=⟨fun x=>match x with|7=>162|10=>202|x=>x,fun x=>match x with|23=>164|26=>3|3=>27|28=>238|0=>0|27=>237|33=>204|4=>4|x=>x,fun x=>x⟩
theorem jhT:SlLaysZI.n7 Tryz.prog CL:=by
  constructor<;>first|kernel_rfl|(intro w;kernel_rfl)|skip
  exact⟨Tryz.f162.name,by kernel_rfl,by kernel_rfl⟩;exact⟨Tryz.f202.name,by kernel_rfl,by kernel_rfl⟩
def xm:Go.Shelf.Ren:=⟨fun x=>match x with|6=>161|8=>200|9=>201|11=>242|13=>169|12=>243|23=>214|24=>215|14=>265|15=>266|16=>267|17=>268|18=>269|19=>270|20=>271|21=>272|22=>273|25=>281|26=>246|27=>247|28=>282|29=>283|30=>284|31=>286|x=>x,fun x=>match x with|26=>3|28=>238|24=>235|0=>0|3=>3|37=>246|48=>219|50=>27|4=>4|40=>274|39=>273|45=>139|5=>5|9=>9|51=>306|55=>309|57=>328|58=>144|33=>204|x=>x,fun x=>x⟩
theorem XU:SlLaysZI.n6 Tryz.prog xm:=by
  constructor<;>first|kernel_rfl|(intro w;kernel_rfl)|skip
  exact⟨Tryz.f161.name,by kernel_rfl,by kernel_rfl⟩;exact⟨Tryz.f200.name,by kernel_rfl,by kernel_rfl⟩;exact⟨Tryz.f242.name,by kernel_rfl,by kernel_rfl⟩
def OE:Go.Shelf.Ren:=⟨fun x=>match x with|5=>201|8=>169|7=>243|19=>214|20=>215|10=>265|11=>266|12=>267|13=>268|14=>269|15=>270|16=>271|17=>272|18=>273|30=>281|31=>246|32=>247|33=>282|34=>283|35=>284|40=>286|x=>x,fun x=>match x with|23=>235|25=>3|3=>3|32=>246|22=>235|0=>0|44=>219|46=>27|4=>4|36=>274|35=>273|41=>139|5=>5|9=>9|53=>306|57=>309|63=>328|64=>144|x=>x,fun x=>x⟩
theorem jbl:SlLaysM.n5 Tryz.prog OE:=by
  constructor<;>first|kernel_rfl|(intro w;kernel_rfl)|skip
  exact⟨Tryz.f201.name,by kernel_rfl,by kernel_rfl⟩;exact⟨Tryz.f243.name,by kernel_rfl,by kernel_rfl⟩;exact⟨Tryz.f265.name,by kernel_rfl,by kernel_rfl⟩;exact⟨Tryz.f266.name,by kernel_rfl,by kernel_rfl⟩;exact⟨Tryz.f267.name,by kernel_rfl,by kernel_rfl⟩;exact⟨Tryz.f268.name,by kernel_rfl,by kernel_rfl⟩;exact⟨Tryz.f269.name,by kernel_rfl,by kernel_rfl⟩;exact⟨Tryz.f270.name,by kernel_rfl,by kernel_rfl⟩;exact⟨Tryz.f271.name,by kernel_rfl,by kernel_rfl⟩;exact⟨Tryz.f272.name,by kernel_rfl,by kernel_rfl⟩;exact⟨Tryz.f273.name,by kernel_rfl,by kernel_rfl⟩;exact⟨Tryz.f281.name,by kernel_rfl,by kernel_rfl⟩;exact⟨Tryz.f282.name,by kernel_rfl,by kernel_rfl⟩;exact⟨Tryz.f283.name,by kernel_rfl,by kernel_rfl⟩;exact⟨Tryz.f284.name,by kernel_rfl,by kernel_rfl⟩;exact⟨Tryz.f286.name,by kernel_rfl,by kernel_rfl⟩
def CK:Go.Shelf.Ren:=⟨fun x=>match x with|7=>56|10=>123|x=>x,fun x=>match x with|23=>127|26=>9|3=>128|28=>125|0=>0|27=>124|33=>137|4=>4|x=>x,fun x=>x⟩
theorem jhS:SlLaysZ.n7 Tryz.prog CK:=by
  constructor<;>first|kernel_rfl|(intro w;kernel_rfl)|skip
  exact⟨Tryz.f56.name,by kernel_rfl,by kernel_rfl⟩;exact⟨Tryz.f123.name,by kernel_rfl,by kernel_rfl⟩
def xl:Go.Shelf.Ren:=⟨fun x=>match x with|6=>55|8=>121|9=>122|11=>167|13=>169|12=>168|23=>214|24=>215|14=>205|15=>206|16=>207|17=>208|18=>209|19=>210|20=>211|21=>212|22=>213|25=>245|26=>246|27=>247|28=>248|29=>249|30=>250|31=>274|x=>x,fun x=>match x with|26=>9|28=>125|24=>57|0=>0|3=>3|37=>246|48=>219|50=>27|4=>4|40=>274|39=>273|45=>139|5=>5|9=>9|51=>306|55=>309|57=>328|58=>144|33=>137|x=>x,fun x=>x⟩
theorem XT:SlLaysZ.n6 Tryz.prog xl:=by
  constructor<;>first|kernel_rfl|(intro w;kernel_rfl)|skip
  exact⟨Tryz.f55.name,by kernel_rfl,by kernel_rfl⟩;exact⟨Tryz.f121.name,by kernel_rfl,by kernel_rfl⟩;exact⟨Tryz.f167.name,by kernel_rfl,by kernel_rfl⟩
def OD:Go.Shelf.Ren:=⟨fun x=>match x with|6=>122|8=>169|9=>168|19=>214|20=>215|21=>205|22=>206|23=>207|24=>208|25=>209|26=>210|27=>211|28=>212|29=>213|36=>245|31=>246|32=>247|37=>248|38=>249|39=>250|41=>274|x=>x,fun x=>match x with|27=>57|29=>9|3=>3|32=>246|26=>57|0=>0|44=>219|46=>27|4=>4|36=>274|35=>273|41=>139|5=>5|9=>9|53=>306|57=>309|63=>328|64=>144|x=>x,fun x=>x⟩
theorem jbk:SlLaysM.n6 Tryz.prog OD:=by
  constructor<;>first|kernel_rfl|(intro w;kernel_rfl)|skip
  exact⟨Tryz.f122.name,by kernel_rfl,by kernel_rfl⟩;exact⟨Tryz.f168.name,by kernel_rfl,by kernel_rfl⟩;exact⟨Tryz.f205.name,by kernel_rfl,by kernel_rfl⟩;exact⟨Tryz.f206.name,by kernel_rfl,by kernel_rfl⟩;exact⟨Tryz.f207.name,by kernel_rfl,by kernel_rfl⟩;exact⟨Tryz.f208.name,by kernel_rfl,by kernel_rfl⟩;exact⟨Tryz.f209.name,by kernel_rfl,by kernel_rfl⟩;exact⟨Tryz.f210.name,by kernel_rfl,by kernel_rfl⟩;exact⟨Tryz.f211.name,by kernel_rfl,by kernel_rfl⟩;exact⟨Tryz.f212.name,by kernel_rfl,by kernel_rfl⟩;exact⟨Tryz.f213.name,by kernel_rfl,by kernel_rfl⟩;exact⟨Tryz.f245.name,by kernel_rfl,by kernel_rfl⟩;exact⟨Tryz.f248.name,by kernel_rfl,by kernel_rfl⟩;exact⟨Tryz.f249.name,by kernel_rfl,by kernel_rfl⟩;exact⟨Tryz.f250.name,by kernel_rfl,by kernel_rfl⟩;exact⟨Tryz.f274.name,by kernel_rfl,by kernel_rfl⟩
theorem jcy(m:Nat):AnyZI.SortsIn Tryz.prog xm Fence.wide m:=
 ⟨fun blk off cap ss W hH jel nf=>callsIn_wide.2 (AnyM.slices_Sort_int jbl blk off cap ss W hH jel nf),
  fun p cap W=>callsIn_wide.2 (AnyM.slices_Sort_int_none jbl p cap W)⟩
theorem jcx(m:Nat):AnyZ.SortsIn Tryz.prog xl Fence.wide m:=
 ⟨fun blk off cap ss W hH jel nf=>callsIn_wide.2 (AnyM.slices_Sort_string jbk blk off cap ss W hH jel nf),
  fun p cap W=>callsIn_wide.2 (AnyM.slices_Sort_string_none jbk p cap W)⟩
theorem JL{H:Type}(Bm b nn:Nat)(D0:DataW H)(R:Value->Option (DataW H×List MemPlace))(w:World)(hBm:Bm<w.heap.size)(hm:w.cell? ⟨Bm,0,none⟩=some (.map (some b)))(j9:w.ownsMap Tryz.prog 3 R b nn D0)(nH:Maps.size D0<=maxLen)(Ap:Maps.size D0*8<=140737488355328):
  Calls Tryz.prog 161 #[.func (.func 202) #[] #[.pointer (some ⟨Bm,0,none⟩)]] w fun e w'=>∃(v:Value)(ss:List Int),e=.returned v/\ss.Perm (intKeys D0) /\
   w'.ownsRow w.heap.size 3 1 v ss.length ((ss.mergeSort (fun x y=>decide (x<=y))).map encZ)/\(v=.slice none 0 0↔ss=[])/\Below w.heap.size w w':=by
 refine (callsIn_wide (n:=5)).1 ?_;have jdN:SeqGives Fence.wide 2 Tryz.prog 202 #[.pointer (some ⟨Bm,0,none⟩)] encZ (fun ss=>ss.Perm (intKeys D0)) (Maps.size D0) w:=
  AnyZI.keys_gives (ρ:=CL) {jhT with} Fence.wide _ trivial rfl (by omega) Bm b nn D0 w hBm hm j9
 exact AnyZI.sorted_in XU Fence.wide 5 trivial trivial trivial trivial rfl (by omega) (jcy _) (enters_of Tryz.func201 (by kernel_rfl) rfl) 202 #[.pointer (some ⟨Bm,0,none⟩)] trivial (enters_of Tryz.func202 (by kernel_rfl) rfl) _ _ nH Ap _ jdN
theorem OB{H:Type}(Bm b nn:Nat)(D0:DataW H)(R:Value->Option (DataW H×List MemPlace))(w:World)(hBm:Bm<w.heap.size)(hm:w.cell? ⟨Bm,0,none⟩=some (.map (some b)))(j9:w.ownsMap Tryz.prog 9 R b nn D0)(nH:Maps.size D0<=maxLen)(Ap:Maps.size D0*16<=140737488355328):
  Calls Tryz.prog 55 #[.func (.func 123) #[] #[.pointer (some ⟨Bm,0,none⟩)]] w fun e w'=>∃(v:Value)(ss:List (List UInt8)),e=.returned v/\ss.Perm (strKeys D0) /\
   w'.ownsRow w.heap.size 9 1 v ss.length ((ss.mergeSort leB).map encStr)/\(v=.slice none 0 0↔ss=[])/\Below w.heap.size w w':=by
 refine (callsIn_wide (n:=5)).1 ?_;have jdN:SeqGives Fence.wide 2 Tryz.prog 123 #[.pointer (some ⟨Bm,0,none⟩)] encStr (fun ss=>ss.Perm (strKeys D0)) (Maps.size D0) w:=
  AnyZ.keys_gives (ρ:=CK) {jhS with} Fence.wide _ trivial rfl (by omega) Bm b nn D0 w hBm hm j9
 exact AnyZ.sorted_in XT Fence.wide 5 trivial trivial trivial trivial rfl (by omega) (jcx _) (enters_of Tryz.func122 (by kernel_rfl) rfl) 123 #[.pointer (some ⟨Bm,0,none⟩)] trivial (enters_of Tryz.func123 (by kernel_rfl) rfl) _ _ nH Ap _ jdN
end Go.Proofs.YtdknlbnljfdhgaaGreatDoor.sk
namespace Go.Am
open Go Go.RowKit
variable{Λ:LB}
theorem R.G8{ρ:aY}{S:AS}{w w':World}{cells:List AV}{C:Array Value}{e:TypeId}{fr:Nat×Nat}{b:Nat}(h:R Λ ρ S w)(hw:Below w.heap.size w w')(hb:w.heap.size<=b)(cJ:w'.heap[b]?=some (.cells C e fr))
  (hl:ay ρ cells (C.toList.take cells.length)) (hC:cells.length<=C.size) (h1:∀v,v∈C.toList.take cells.length->v.oneCell'=true) :
  ∃ρ' pl,ρ' S.nx 0=some pl/\pl.b=b/\pl.base=0/\pl.n=cells.length/\pl.N=C.size /\
   R Λ ρ' ⟨S.h.set S.nx (.row cells 0 0 true e),S.nx+1⟩ w'/\Kp ρ S w ρ' ⟨S.h.set S.nx (.row cells 0 0 true e),S.nx+1⟩ w':=by
 have hx:=gH (ρ:=ρ) (id:=S.nx) (g:=0) ⟨b,0,cells.length,C.size,by simpa using hC⟩ (h.fresh _ _ (zzb _));have cQ:b<w'.heap.size:=(Array.getElem?_eq_some_iff.1 cJ).1;refine⟨put ρ S.nx 0 ⟨b,0,cells.length,C.size,by simpa using hC⟩,_,bK _ _ _ _,rfl,rfl,rfl,rfl,?_⟩;refine h.change (fun _=>False) hx ?_ ⟨hw.os,hw.tape,hw.output⟩ ?_ ?_ ?_ ?_ ?_ ?_ ?_ ?_ ?_ ?_ ?_ ?_
 .exact fun i g hi=>b9 _ _ (fun e=>hi e.1)
 .exact hw.size
 .exact fun k hk _=>hw.block k hk
 .exact fun _ _ hf=>hf.elim
 .exact fun o ho _=>absurd (h.vm _ o ho) (Nat.lt_irrefl _)
 .exact fun _ _ _ _ _ _ _ hf=>hf
 .refine⟨zzb _,fun g _ P9=>?_,fun g k p q _ a2 _ a4 Rp M1 _=>by
   obtain rfl:g=0:=by omega
   obtain rfl:k=0:=by omega
   rw[Rp]at M1;cases M1;rfl⟩
  obtain rfl:g=0:=by omega
  refine⟨_,C,fr,bK _ _ _ _,cJ,rfl,by simpa using hC,zzb _,fun i hi=>?_,fun _=>rfl,fun hf=>(by cases hf),fun _=>rfl,fun hf=>(by cases hf)⟩;dsimp only at hi⊢;obtain⟨x,hxx⟩:∃x,cells[i]?=some x:=⟨cells[i],by simp[zza hi]⟩
  obtain⟨v,hv,hr⟩:=hl.get hxx;have hm:=List.mem_of_getElem? hv;rw[List.getElem?_take,if_pos hi]at hv;exact⟨x,v,hxx,by simpa using hv,hr.mono hx _ _,h1 v hm⟩
 .intro cells' low top frz ty he g Zw;cases he;rw[b9 _ _ (by omega)];exact h.fresh _ _ (zzb _)
 .intro g pl hp;by_cases P9:g=0
  .subst P9;rw[bK]at hp;cases hp;exact⟨cQ,.inr hb⟩
  .rw[b9 _ _ (by omega),h.fresh _ _ (zzb _)]at hp;cases hp
 .omega
 .omega
 .intro g i hi;rw[b9 _ _ (by omega)];exact h.fresh _ _ (by omega)
 .exact .inr (zzb _)
end Go.Am
namespace Go.Proofs.YtdknlbnljfdhgaaGreatDoor.sk
open Go Go.Proofs Go.RowKit Go.Maps Go.Sort Go.Shelf Go.WideElems Go.MapKept Go.WideShapes
def R0:Value->Option (DataW Unit×List MemPlace):=fun _=>some (.lit (.bool false),[])
theorem key3{n:Nat}(h:n<9223372036854775808):keyOf Tryz.prog 3 (.int .i64 (n:Int))=some (.int .i64 (n:Int)):=by
 have hw:(Lit.int .i64 (n:Int)).wf=true:=by
  have nH:IntKind.i64.max=9223372036854775807:=rfl;have sR:IntKind.i64.min=-9223372036854775808:=rfl;simp[Lit.wf,nH,sR];omega
 simp[keyOf,mapKey,hw]
theorem rd3{x:MapEntry}{n:Nat}(hk:x.key=.int .i64 (n:Int))(h:n<9223372036854775808):WideElems.rd Tryz.prog 3 R0 x=some (.int .i64 (n:Int),.lit (.bool false)):=by
 unfold WideElems.rd;rw[hk,key3 h];rfl
theorem XS{w:World}{Bm b clock:Nat}{ES:Array MapEntry}{ns:List Nat}(hBm:Bm<w.heap.size)(hm:w.cell? ⟨Bm,0,none⟩=some (.map (some b)))(hb:w.heap[b]?=some (.map ES clock))(hk:ES.toList.map (·.key)=ns.map fun n:Nat=>Value.int .i64 (n:Int))(BO:ns.Nodup)
  (cQ:∀n,n∈ns->n<9223372036854775808) (Vi:∀x,x∈ES.toList->x.born<clock) (jej:(ES.toList.map (·.born)).Nodup) (nf:ES.size<=1048576) :
  Calls Tryz.prog 161 #[.func (.func 202) #[] #[.pointer (some ⟨Bm,0,none⟩)]] w fun e w'=>∃v:Value,e=.returned v/\w'.ownsRow w.heap.size 3 1 v ns.length ((ns.mergeSort fun a b=>decide (a<=b)).map fun n:Nat=>Value.int .i64 (n:Int))/\(v=.slice none 0 0↔ns=[])/\Below w.heap.size w w':=by
 have qz:maxLen=9223372036854775807:=rfl;have Hw:∀x,x∈ES.toList->∃n,n∈ns/\x.key=.int .i64 ((n:Nat):Int):=fun x hx=>by
  have:x.key∈ES.toList.map (·.key):=List.mem_map.2 ⟨x,hx,rfl⟩;rw[hk]at this;obtain⟨n,h1,h2⟩:=List.mem_map.1 this;exact⟨n,h1,h2.symm⟩
 have F:Fit Tryz.prog 3 R0 ES clock:=⟨by rw[qz];omega,⟨Vi,jej,by
  rw[hk];exact List.pairwise_map.2 (BO.imp fun {a b} h e=>h (by injection e with _ e;omega))⟩,fun x hx=>by
  obtain⟨n,h1,h2⟩:=Hw x hx;exact⟨_,rd3 h2 (cQ n h1)⟩⟩
 have j9:=World.ownsMap_of_fit (R:=R0) hb F (fun _ _ _ h=>h);have hs:=j9.size_le;have UL:(intKeys (.map ((ES.toList.map (rg Tryz.prog 3 R0)).foldr DataW.insert []))).Perm (ns.map fun n:Nat=>(n:Int)):=by
  show (zzj _ _).Perm _;refine ((sorted_perm _).map _).trans ?_;rw[zzf];have:ES.toList.map ((fun p:Lit×DataW Unit=>Go.intOf p.1)∘rg Tryz.prog 3 R0)=(ES.toList.map (·.key)).map fun v=>match v with | .int _ a=>a|_=>0:=by
   rw[zzf];refine zzm fun x hx=>?_;obtain⟨n,h1,h2⟩:=Hw x hx;have e:rg Tryz.prog 3 R0 x=(.int .i64 (n:Int),.lit (.bool false)):=by unfold rg;rw[rd3 h2 (cQ n h1)];rfl
   simp only[Function.comp,e,h2,Go.intOf]
  rw[this,hk,zzf];exact List.Perm.refl _
 refine (JL Bm b ES.size _ R0 w hBm hm j9 (by rw[qz];omega) (by omega)).mono ?_;rintro e w' ⟨v,ss,rfl,h1,h2,h3,h4⟩;have h5:=h1.trans UL;have hl:ss.length=ns.length:=by rw[h5.length_eq,zzd]
 have jbG:ss.mergeSort (fun x y=>decide (x<=y))=(ns.mergeSort fun a b=>decide (a<=b)).map fun n:Nat=>(n:Int):=by
  have tr:∀a b c:Int,decide (a<=b)=true->decide (b<=c)=true->decide (a<=c)=true:=fun a b c q1 q2=>by simp only[decide_eq_true_eq]at *;omega
  have to:∀a b:Int,(decide (a<=b)||decide (b<=a))=true:=fun a b=>by simp only[zzk,decide_eq_true_eq];omega
  have trn:∀a b c:Nat,decide (a<=b)=true->decide (b<=c)=true->decide (a<=c)=true:=fun a b c q1 q2=>by simp only[decide_eq_true_eq]at *;omega
  have ton:∀a b:Nat,(decide (a<=b)||decide (b<=a))=true:=fun a b=>by simp only[zzk,decide_eq_true_eq];omega
  refine List.Perm.eq_of_pairwise (le:=fun a b:Int=>decide (a<=b)=true) (fun a b _ _ q1 q2=>?_) (zze tr to ss) ?_ (((zzi ss _).trans h5).trans ((zzi ns _).symm.map _))
  .simp only[decide_eq_true_eq]at q1 q2;omega
  .refine List.pairwise_map.2 ((zze trn ton ns).imp fun {a b} q=>?_);simp only[decide_eq_true_eq]at q⊢;omega
 refine⟨v,rfl,?_,h3.trans ?_,h4⟩
 .rw[jbG,hl,zzf]at h2;exact h2
 .rw[<-zzc,hl,zzc]
end Go.Proofs.YtdknlbnljfdhgaaGreatDoor.sk
namespace Go.Proofs.YtdknlbnljfdhgaaGreatDoor.srt
open Go Go.Am Go.RowKit
def tK(e:dI):Nat:=match e.key with | .int _ (.ofNat n)=>n|_=>0
def la(l:List Nat):List AV:=l.map fun n:Nat=>AV.int .i64 (n:Int)
def jO(es:List dI):List Nat:=(es.map tK).mergeSort fun a b=>decide (a<=b)
def Kh(S:AS)(l:List Nat):AV×AS:=match l with
 |[]=>(.ar,S)
 |x::l=>(.slice S.nx 0 0 (l.length+1) (l.length+1) 1 none,⟨S.h.set S.nx (.row (la (x::l)) 0 0 true 3),S.nx+1⟩)
def LN(vs:List AV)(S:AS)(es:List dI):Prop:=
 ∃bx mi clock,vs=[.func (.func 202) [] [.ptr bx 0 0 1]]/\S.h.get bx=some (.row [.map mi] 0 0 false 164)/\S.h.get mi=some (.map es clock)/\pe es clock/\(∀e,e∈es->e.key=.int .i64 (tK e:Int)/\tK e<9223372036854775808)/\(es.map tK).Nodup/\es.length<=1048576
theorem LN.uniq{vs:List AV}{S:AS}{es es':List dI}(h:LN vs S es)(h':LN vs S es'):es=es':=by
 obtain⟨bx,mi,clock,rfl,h1,h2,_⟩:=h;obtain⟨bx',mi',jfd,e,vH,rz,_⟩:=h';cases e;rw[h1]at vH;cases vH;rw[h2]at rz;cases rz;rfl
open Classical in
def sL(vs:List AV)(S:AS):Option (AV×AS):=if h:∃es,LN vs S es then some (Kh S (jO h.choose)) else none
theorem DI{vs:List AV}{S:AS}{es:List dI}(h:LN vs S es):sL vs S=some (Kh S (jO es)):=by
 have hx:∃es,LN vs S es:=⟨es,h⟩
 unfold sL;rw[dif_pos hx,hx.choose_spec.uniq h]
theorem VY{ρ:aY}{es:List dI}{l:List MapEntry}(h:Bh ρ es l)(hk:∀e,e∈es->e.key=.int .i64 (tK e:Int)):l.map (·.key)=(es.map tK).map (fun n:Nat=>Value.int .i64 (n:Int))/\l.map (·.born)=es.map (·.born):=by
 obtain⟨hl,hp⟩:=h;refine⟨zzh (by simp[hl]) fun i h1 h2=>?_,zzh (by simp[hl]) fun i h1 h2=>?_⟩
 .simp only[zzg];have hi:i<l.length:=by simpa using h1
  have r:=(hp i es[i] l[i] (zza (by omega)) (zza hi)).1;rw[hk _ (List.getElem_mem (by omega))]at r;simpa only[ai]using r
 .simp only[zzg];have hi:i<l.length:=by simpa using h1
  exact (hp i es[i] l[i] (zza (by omega)) (zza hi)).2.2.symm
theorem G4{ρ:aY}:∀l:List Nat,ay ρ (la l) (l.map fun n:Nat=>Value.int .i64 (n:Int))
 |[]=>by simp[la,ay]
 |x::l=>by
  show ay ρ (.int .i64 (x:Int)::la l) _;simp only[ay];exact⟨_,_,rfl,by simp only[ai],G4 l⟩
theorem yr{Λ:LB}:gg Λ Tryz.prog 161 sL:=by
 intro ρ vs S w args v S' hR hl hq;have BM:=hq;unfold sL at BM;split at BM
 case isFalse=>cases BM
 case isTrue h=>
 clear BM;obtain⟨es,hQ⟩:=h;rw[DI hQ]at hq;obtain⟨bx,mi,clock,rfl,h1,h2,h3,h4,h5,h6⟩:=hQ;obtain⟨y,ys,hy,qu,rfl⟩:=(show ∃y ys,args.toList=y::ys/\ai ρ (.func (.func 202) [] [.ptr bx 0 0 1]) y/\ys=[] by simpa only[ay]using hl)
 simp only[ai]at qu;obtain⟨a,b,rfl,ha,hb⟩:=qu;obtain rfl:a=#[]:=zzl (by simpa only[ay]using ha);obtain⟨z,zs,hz,Ux,rfl⟩:=(show ∃y ys,b.toList=y::ys/\ai ρ (.ptr bx 0 0 1) y/\ys=[] by simpa only[ay]using hb)
 simp only[ai]at Ux;obtain⟨pl,hp,hpn,rfl⟩:=Ux;obtain⟨_,hg,_⟩:=hR.jE bx _ h1;obtain⟨eA,C,fr,g1,g2,g3,g4,g5,g6,g7,g8,g9,g10⟩:=hg 0 (zzb _) (zzb _);rw[hp]at g1;cases g1;have vb:pl.base=0:=g9 rfl;obtain⟨x,u,x1,x2,x3,_⟩:=g6 0 (by omega);cases x1;simp only[ai]at x3;obtain⟨pm,hpm,rfl⟩:=x3;obtain⟨pm',ES,m1,m2,m3⟩:=hR.jE mi _ h2;rw[hpm]at m1;cases m1;rw[vb]at x2 hz;obtain rfl:b=#[.pointer (some ⟨pl.b,0,none⟩)]:=zzl (by simpa using hz);obtain rfl:args=#[.func (.func 202) #[] #[.pointer (some ⟨pl.b,0,none⟩)]]:=zzl (by simpa using hy);have nk:w.cell? ⟨pl.b,0,none⟩=some (.map (some pm.b)):=by
  unfold World.cell?;simp only[g2];simpa using x2
 obtain⟨k1,k2⟩:=VY m3 (fun e he=>(h4 e he).1);have hES:ES.size=es.length:=by rw[<-Array.length_toList];exact m3.1.symm
 refine⟨⟨Tryz.f161,Tryz.func161,rfl⟩,(sk.XS (ns:=es.map tK) (hR.lt _ _ _ _ h1 hp) nk m2 k1 h5 (fun n hn=>?_) (fun x hx=>?_) ?_ (by omega)).mono ?_⟩
 .obtain⟨e,he,rfl⟩:=List.mem_map.1 hn;exact (h4 e he).2
 .have:x.born∈ES.toList.map (·.born):=List.mem_map.2 ⟨x,hx,rfl⟩;rw[k2]at this;obtain⟨e,he,q⟩:=List.mem_map.1 this;rw[<-q];exact h3.1 e he
 .rw[k2];exact List.pairwise_map.2 h3.2
 .rintro e w' ⟨v',rfl,⟨r1,r2⟩,r3,r4⟩;have mO:(jO es).length=es.length:=by unfold jO;rw[List.length_mergeSort,zzd]
  cases hl:jO es with
  |nil=>
   rw[hl]at hq;cases hq;rw[hl]at mO;have rp:v'=.slice none 0 0:=r3.2 (by rw[List.map_eq_nil_iff,<-zzc];exact mO.symm);obtain⟨q1,q2⟩:=hR.below r4;exact⟨_,ρ,rfl,by simp only[ai];exact rp,q1,q2⟩
  |cons x l=>
   rw[hl]at hq;cases hq;rw[hl]at mO;rcases r2 with⟨_,hz⟩|⟨g,cap,cur,rfl,c1,c2,c3,c4,c5,c6⟩
   .rw[zzd]at hz;simp at mO;omega
   .have hc6:cur.toList.take (l.length+1)=(x::l).map fun n:Nat=>Value.int .i64 (n:Int):=by
     have e0:(es.map tK).mergeSort (fun a b=>decide (a<=b))=x::l:=hl;rw[e0,Nat.mul_one,zzd,<-mO]at c6;exact c6
    have hn:(la (x::l)).length=l.length+1:=by simp[la]
    have hle:es.length=l.length+1:=by rw[<-mO];rfl
    rw[zzd]at c3;obtain⟨ρ',p2,d1,d2,d3,d4,d5,d6,d7⟩:=hR.G8 (cells:=la (x::l)) r4 c1 c2 (by rw[hn,hc6];exact G4 _) (by rw[hn];omega) (fun v hv=>by
     rw[hn,hc6]at hv;obtain⟨n,_,rfl⟩:=List.mem_map.1 hv;rfl)
    refine⟨_,ρ',rfl,?_,d6,d7⟩;simp only[ai];refine⟨p2,cap,d1,by rw[d4,hn];exact zzb _,by omega,by decide,by omega,.inl ⟨by rw[d2,d3,zzd,hle],by rw[d3,d5];omega,fun k hk=>by cases hk⟩⟩
end Go.Proofs.YtdknlbnljfdhgaaGreatDoor.srt
namespace Go.Proofs.YtdknlbnljfdhgaaGreatDoor.sk
open Go Go.Proofs Go.RowKit Go.Maps Go.Sort Go.Shelf Go.WideElems Go.MapKept Go.WideShapes
theorem key9{l:List UInt8}(h:l.length<=1048576):keyOf Tryz.prog 9 (encStr l)=some (.string l):=by
 have qz:maxLen=9223372036854775807:=rfl;have hs:(⟨l.toArray⟩:ByteArray).size<=maxLen:=by
  show l.toArray.size<=_;rw[qz];simp;omega
 simp[keyOf,mapKey,encStr,hs]
theorem rd9{x:MapEntry}{l:List UInt8}(hk:x.key=encStr l)(h:l.length<=1048576):WideElems.rd Tryz.prog 9 R0 x=some (.string l,.lit (.bool false)):=by
 unfold WideElems.rd;rw[hk,key9 h];rfl
theorem XR{w:World}{Bm b clock:Nat}{ES:Array MapEntry}{ns:List (List UInt8)}(hBm:Bm<w.heap.size)(hm:w.cell? ⟨Bm,0,none⟩=some (.map (some b)))(hb:w.heap[b]?=some (.map ES clock))(hk:ES.toList.map (·.key)=ns.map encStr)(BO:ns.Nodup)
  (cQ:∀n,n∈ns->n.length<=1048576) (Vi:∀x,x∈ES.toList->x.born<clock) (jej:(ES.toList.map (·.born)).Nodup) (nf:ES.size<=1048576) :
  Calls Tryz.prog 55 #[.func (.func 123) #[] #[.pointer (some ⟨Bm,0,none⟩)]] w fun e w'=>∃(v:Value)(ss:List (List UInt8)),e=.returned v/\ss.Perm ns/\w'.ownsRow w.heap.size 9 1 v ns.length ((ss.mergeSort leB).map encStr)/\(v=.slice none 0 0↔ns=[])/\Below w.heap.size w w':=by
 have qz:maxLen=9223372036854775807:=rfl;have Hw:∀x,x∈ES.toList->∃n,n∈ns/\x.key=encStr n:=fun x hx=>by
  have:x.key∈ES.toList.map (·.key):=List.mem_map.2 ⟨x,hx,rfl⟩;rw[hk]at this;obtain⟨n,h1,h2⟩:=List.mem_map.1 this;exact⟨n,h1,h2.symm⟩
 have F:Fit Tryz.prog 9 R0 ES clock:=⟨by rw[qz];omega,⟨Vi,jej,by
  rw[hk];exact List.pairwise_map.2 (BO.imp fun {a b} h e=>h (encStr_inj e))⟩,fun x hx=>by
  obtain⟨n,h1,h2⟩:=Hw x hx;exact⟨_,rd9 h2 (cQ n h1)⟩⟩
 have j9:=World.ownsMap_of_fit (R:=R0) hb F (fun _ _ _ h=>h);have hs:=j9.size_le;have UL:(strKeys (.map ((ES.toList.map (rg Tryz.prog 9 R0)).foldr DataW.insert []))).Perm ns:=by
  show (zzj _ _).Perm _;refine ((sorted_perm _).map _).trans ?_;rw[zzf];have:ES.toList.map ((fun p:Lit×DataW Unit=>strOf p.1)∘rg Tryz.prog 9 R0)=(ES.toList.map (·.key)).map fun v=>match v with | .string s=>s.data.toList|_=>[]:=by
   rw[zzf];refine zzm fun x hx=>?_;obtain⟨n,h1,h2⟩:=Hw x hx;have e:rg Tryz.prog 9 R0 x=(.string n,.lit (.bool false)):=by unfold rg;rw[rd9 h2 (cQ n h1)];rfl
   simp only[Function.comp,e,h2,strOf]
  rw[this,hk,zzf];have e:ns.map ((fun v:Value=>match v with | .string s=>s.data.toList|_=>[])∘encStr)=ns:=by
   conv=>rhs;rw[<-List.map_id ns]
   exact zzm fun n _=>rfl
  rw[e]
 refine (OB Bm b ES.size _ R0 w hBm hm j9 (by rw[qz];omega) (by omega)).mono ?_;rintro e w' ⟨v,ss,rfl,h1,h2,h3,h4⟩;have h5:=h1.trans UL;have hl:ss.length=ns.length:=h5.length_eq;refine⟨v,ss,rfl,h5,by rw[<-hl];exact h2,h3.trans ?_,h4⟩;rw[<-zzc,hl,zzc]
theorem Ue:∀{x y:List UInt8},x.map UInt8.toNat<y.map UInt8.toNat↔x<y
 |[],[]=>by simp
 |[],_::_=>by simp
 |_::_,[]=>by simp
 |a::x,b::y=>by
  rw[List.map_cons,List.map_cons,List.cons_lt_cons_iff,List.cons_lt_cons_iff,Ue,UInt8.lt_iff_toNat_lt];constructor
  .rintro (h|⟨h1,h2⟩)
   .exact .inl h
   .exact .inr ⟨UInt8.toNat_inj.1 h1,h2⟩
  .rintro (h|⟨h1,h2⟩)
   .exact .inl h
   .exact .inr ⟨by rw[h1],h2⟩
theorem jdA{x y:List UInt8}:x.map UInt8.toNat<=y.map UInt8.toNat↔x<=y:=by
 rw[<-List.not_lt,<-List.not_lt,Ue]
end Go.Proofs.YtdknlbnljfdhgaaGreatDoor.sk
namespace Go.Proofs.YtdknlbnljfdhgaaGreatDoor.seg
open Go Go.Am Go.RowKit Go.Proofs
def rl(e:dI):List Nat:=match e.key with | .str s=>s|_=>[]
def la(l:List (List Nat)):List AV:=l.map AV.str
def Hg(a b:List Nat):Bool:=decide (a<=b)
def jO(es:List dI):List (List Nat):=(es.map rl).mergeSort Hg
def Cy(S:AS)(l:List (List Nat)):AV×AS:=match l with
 |[]=>(.ar,S)
 |x::l=>(.slice S.nx 0 0 (l.length+1) (l.length+1) 1 none,⟨S.h.set S.nx (.row (la (x::l)) 0 0 true 9),S.nx+1⟩)
def Q55(vs:List AV)(S:AS)(es:List dI):Prop:=
 ∃bx mi clock,vs=[.func (.func 123) [] [.ptr bx 0 0 1]]/\S.h.get bx=some (.row [.map mi] 0 0 false 127)/\S.h.get mi=some (.map es clock)/\pe es clock/\(∀e,e∈es->e.key=.str (rl e)/\(rl e).length<=1048576)/\(es.map rl).Nodup/\es.length<=1048576
theorem Q55.uniq{vs:List AV}{S:AS}{es es':List dI}(h:Q55 vs S es)(h':Q55 vs S es'):es=es':=by
 obtain⟨bx,mi,clock,rfl,h1,h2,_⟩:=h;obtain⟨bx',mi',jfd,e,vH,rz,_⟩:=h';cases e;rw[h1]at vH;cases vH;rw[h2]at rz;cases rz;rfl
open Classical in
def J5(vs:List AV)(S:AS):Option (AV×AS):=if h:∃es,Q55 vs S es then some (Cy S (jO h.choose)) else none
theorem J4{vs:List AV}{S:AS}{es:List dI}(h:Q55 vs S es):J5 vs S=some (Cy S (jO es)):=by
 have hx:∃es,Q55 vs S es:=⟨es,h⟩
 unfold J5;rw[dif_pos hx,hx.choose_spec.uniq h]
def byK(x:MapEntry):List UInt8:=match x.key with | .string s=>s.data.toList|_=>[]
theorem VX{ρ:aY}{es:List dI}{l:List MapEntry}(h:Bh ρ es l)(hk:∀e,e∈es->e.key=.str (rl e)):l.map (·.key)=(l.map byK).map encStr/\(l.map byK).map (zzj UInt8.toNat)=es.map rl/\l.map (·.born)=es.map (·.born):=by
 obtain⟨hl,hp⟩:=h;have key:∀i,(hi:i<l.length)->∃s:ByteArray,l[i].key=.string s/\s.data.toList.map UInt8.toNat=rl (es[i]'(by omega)):=fun i hi=>by
  have r:=(hp i (es[i]'(by omega)) l[i] (zza (by omega)) (zza hi)).1;rw[hk _ (List.getElem_mem (by omega))]at r;simpa only[ai]using r
 refine⟨zzh (by simp) fun i h1 h2=>?_,zzh (by simp[hl]) fun i h1 h2=>?_,zzh (by simp[hl]) fun i h1 h2=>?_⟩
 .simp only[zzg];obtain⟨s,e1,_⟩:=key i (by simpa using h1);unfold byK;rw[e1]
 .simp only[zzg];obtain⟨s,e1,e2⟩:=key i (by simpa using h1);unfold byK;rw[e1];exact e2
 .simp only[zzg];have hi:i<l.length:=by simpa using h1
  exact (hp i (es[i]'(by omega)) l[i] (zza (by omega)) (zza hi)).2.2.symm
theorem Gf{ρ:aY}:∀l:List (List UInt8),ay ρ (la (l.map (zzj UInt8.toNat))) (l.map encStr)
 |[]=>by simp[la,ay]
 |x::l=>by
  show ay ρ (.str (x.map UInt8.toNat)::la (l.map (zzj UInt8.toNat))) _;simp only[ay];exact⟨_,_,rfl,by simp only[ai];exact⟨_,rfl,by simp⟩,Gf l⟩
theorem Yb{ss bs:List (List UInt8)}(h:ss.Perm bs):(ss.mergeSort leB).map (zzj UInt8.toNat)=(bs.map (zzj UInt8.toNat)).mergeSort Hg:=by
 have trn:∀a b c:List Nat,Hg a b=true->Hg b c=true->Hg a c=true:=fun a b c q1 q2=>by unfold Hg at *;simp only[decide_eq_true_eq]at *;exact List.le_trans q1 q2
 have ton:∀a b:List Nat,(Hg a b||Hg b a)=true:=fun a b=>by unfold Hg;simp only[zzk,decide_eq_true_eq];exact List.le_total a b
 have trb:∀a b c:List UInt8,leB a b=true->leB b c=true->leB a c=true:=fun a b c q1 q2=>by simp only[leB,decide_eq_true_eq]at *;exact List.le_trans q1 q2
 have tob:∀a b:List UInt8,(leB a b||leB b a)=true:=fun a b=>by simp only[leB,zzk,decide_eq_true_eq];exact List.le_total a b
 refine List.Perm.eq_of_pairwise (le:=fun a b=>Hg a b=true) (fun a b _ _ q1 q2=>?_) ?_ (zze trn ton _) ((((zzi ss _).trans h).map _).trans (zzi _ _).symm)
 .unfold Hg at q1 q2;simp only[decide_eq_true_eq]at q1 q2;exact List.le_antisymm q1 q2
 .refine List.pairwise_map.2 ((zze trb tob ss).imp fun {a b} q=>?_);unfold Hg;simp only[leB,decide_eq_true_eq]at q⊢;exact sk.jdA.2 q
theorem DL{Λ:LB}:gg Λ Tryz.prog 55 J5:=by
 intro ρ vs S w args v S' hR hl hq;have BM:=hq;unfold J5 at BM;split at BM
 case isFalse=>cases BM
 case isTrue h=>
 clear BM;obtain⟨es,hQ⟩:=h;rw[J4 hQ]at hq;obtain⟨bx,mi,clock,rfl,h1,h2,h3,h4,h5,h6⟩:=hQ;obtain⟨y,ys,hy,qu,rfl⟩:=(show ∃y ys,args.toList=y::ys/\ai ρ (.func (.func 123) [] [.ptr bx 0 0 1]) y/\ys=[] by simpa only[ay]using hl)
 simp only[ai]at qu;obtain⟨a,b,rfl,ha,hb⟩:=qu;obtain rfl:a=#[]:=zzl (by simpa only[ay]using ha);obtain⟨z,zs,hz,Ux,rfl⟩:=(show ∃y ys,b.toList=y::ys/\ai ρ (.ptr bx 0 0 1) y/\ys=[] by simpa only[ay]using hb)
 simp only[ai]at Ux;obtain⟨pl,hp,hpn,rfl⟩:=Ux;obtain⟨_,hg,_⟩:=hR.jE bx _ h1;obtain⟨eA,C,fr,g1,g2,g3,g4,g5,g6,g7,g8,g9,g10⟩:=hg 0 (zzb _) (zzb _);rw[hp]at g1;cases g1;have vb:pl.base=0:=g9 rfl;obtain⟨x,u,x1,x2,x3,_⟩:=g6 0 (by omega);cases x1;simp only[ai]at x3;obtain⟨pm,hpm,rfl⟩:=x3;obtain⟨pm',ES,m1,m2,m3⟩:=hR.jE mi _ h2;rw[hpm]at m1;cases m1;rw[vb]at x2 hz;obtain rfl:b=#[.pointer (some ⟨pl.b,0,none⟩)]:=zzl (by simpa using hz);obtain rfl:args=#[.func (.func 123) #[] #[.pointer (some ⟨pl.b,0,none⟩)]]:=zzl (by simpa using hy);have nk:w.cell? ⟨pl.b,0,none⟩=some (.map (some pm.b)):=by
  unfold World.cell?;simp only[g2];simpa using x2
 obtain⟨k1,k3,k2⟩:=VX m3 (fun e he=>(h4 e he).1);have hES:ES.size=es.length:=by rw[<-Array.length_toList];exact m3.1.symm
 obtain⟨bs,nI⟩:∃bs,bs=ES.toList.map byK:=⟨_,rfl⟩
 rw[<-nI]at k1 k3;have sT:bs.length=es.length:=by have:=congrArg List.length k3;simpa using this
 have hbn:bs.Nodup:=by
  have:(bs.map (zzj UInt8.toNat)).Nodup:=by rw[k3];exact h5
  exact (List.pairwise_map.1 this).imp fun h e=>h (by rw[e])
 refine⟨⟨Tryz.f55,Tryz.func55,rfl⟩,(sk.XR (ns:=bs) (hR.lt _ _ _ _ h1 hp) nk m2 k1 hbn (fun n hn=>?_) (fun x hx=>?_) ?_ (by omega)).mono ?_⟩
 .have:n.map UInt8.toNat∈bs.map (zzj UInt8.toNat):=List.mem_map.2 ⟨n,hn,rfl⟩;rw[k3]at this;obtain⟨e,he,q⟩:=List.mem_map.1 this;have h:=(h4 e he).2;rw[q,zzd]at h;exact h
 .have:x.born∈ES.toList.map (·.born):=List.mem_map.2 ⟨x,hx,rfl⟩;rw[k2]at this;obtain⟨e,he,q⟩:=List.mem_map.1 this;rw[<-q];exact h3.1 e he
 .rw[k2];exact List.pairwise_map.2 h3.2
 .rintro e w' ⟨v',ss,rfl,hss,⟨r1,r2⟩,r3,r4⟩;have vF:(ss.mergeSort leB).map (zzj UInt8.toNat)=jO es:=by unfold jO;rw[Yb hss,k3]
  have mO:(jO es).length=es.length:=by unfold jO;rw[List.length_mergeSort,zzd]
  obtain⟨so,UF⟩:∃so,so=ss.mergeSort leB:=⟨_,rfl⟩
  rw[<-UF]at vF r1 r2;have BJ:so.length=es.length:=by rw[<-mO,<-vF,zzd]
  cases hl:jO es with
  |nil=>
   rw[hl]at hq;cases hq;rw[hl]at mO;have rp:v'=.slice none 0 0:=r3.2 (by rw[<-zzc,sT];exact mO.symm);obtain⟨q1,q2⟩:=hR.below r4;exact⟨_,ρ,rfl,by simp only[ai];exact rp,q1,q2⟩
  |cons x l=>
   rw[hl]at hq;cases hq;rw[hl]at mO vF;rcases r2 with⟨_,hz⟩|⟨g,cap,cur,rfl,c1,c2,c3,c4,c5,c6⟩
   .simp at mO;omega
   .have hle:es.length=l.length+1:=by rw[<-mO];rfl
    have hc6:cur.toList.take (l.length+1)=so.map encStr:=by
     rw[Nat.mul_one,sT,hle]at c6;exact c6
    have hn:(la (x::l)).length=l.length+1:=by simp[la]
    obtain⟨ρ',p2,d1,d2,d3,d4,d5,d6,d7⟩:=hR.G8 (cells:=la (x::l)) r4 c1 c2 (by rw[hn,hc6,<-vF];exact Gf _) (by rw[hn];omega) (fun v hv=>by
     rw[hn,hc6]at hv;obtain⟨n,_,rfl⟩:=List.mem_map.1 hv;rfl)
    refine⟨_,ρ',rfl,?_,d6,d7⟩;simp only[ai];refine⟨p2,cap,d1,by rw[d4,hn];exact zzb _,by omega,by decide,by omega,.inl ⟨by rw[d2,d3,sT,hle],by rw[d3,d5];omega,fun k hk=>by cases hk⟩⟩
def Dj:Prop:=∀Λ:LB,gg Λ Tryz.prog 12 (Dc true)
open Classical in
def xf(vs:List AV)(S:AS):Option (AV×AS):=if Dj then Dc true vs S else none
theorem RL{Λ:LB}:gg Λ Tryz.prog 12 xf:=by
 intro ρ vs S w args v S' hR hl hq;unfold xf at hq;split at hq
 .rename_i h;exact h Λ ρ vs S w args v S' hR hl hq
 .cases hq
abbrev A0:Am.Ask:={eqs:=[100,52,38,37],ei:=[(12,xf),(55,J5),(161,srt.sL)]}
abbrev C0:Am.Cx:=Am.xS Tryz.prog A0
theorem sB(f:Nat):C0.exts.get f=none:=gm f
theorem Bj(f:Nat)(h:(f==12||f==55||f==161)=false):C0.ei.get f=none:=by
 simp only[Bool.or_eq_false_iff,beq_eq_false_iff_ne]at h;show ((((T.leaf:T (List AV->AS->Option (AV×AS))).set 12 xf).set 55 J5).set 161 srt.sL).get f=none;rw[ae _ _ h.2,ae _ _ h.1.2,ae _ _ h.1.1];exact gm f
theorem Cs(f:Nat):C0.kZ.get f=none:=gm f
theorem jjg(h:Dj):C0.ei.get 12=some (Dc true):=by
 have e:xf=Dc true:=by funext vs S;exact if_pos h
 show ((((T.leaf:T (List AV->AS->Option (AV×AS))).set 12 xf).set 55 J5).set 161 srt.sL).get 12=_;rw[ae _ _ (by decide),ae _ _ (by decide),aa,e]
theorem jjf:C0.ei.get 55=some J5:=by
 show ((((T.leaf:T (List AV->AS->Option (AV×AS))).set 12 xf).set 55 J5).set 161 srt.sL).get 55=_;rw[ae _ _ (by decide)];exact aa _ _ _
theorem EA:C0.ei.get 161=some srt.sL:=by
 show ((((T.leaf:T (List AV->AS->Option (AV×AS))).set 12 xf).set 55 J5).set 161 srt.sL).get 161=_;exact aa _ _ _
theorem cq{S:AS}{o:dR}:Sub S ⟨S.h.set S.nx o,S.nx+1⟩:=(Sub.refl S).set _ _ (zzb _) _ (Nat.le_succ _)
theorem gF{S:AS}{o o':dR}:Sub S ⟨(S.h.set S.nx o).set S.nx o',S.nx+1⟩:=cq.set _ _ (zzb _) _ (zzb _)
end Go.Proofs.YtdknlbnljfdhgaaGreatDoor.seg
end
