/-
  slices.Sorted(maps.Keys(m)) off the kit's contracts: the layings.
-/
import Derived.Shelf.SlIterI.Nil
import Derived.Shelf.SlIter.Nil
import Derived.Shelf.SortM.Plain
import Derived.Shelf.SortM.SortNone
import Derived.Ground.GgzProg
import Derived.Ground.SlgmProg
import Derived.Test.YtdknlbnljfdhgaaGreatDoorProg
import Derived.Test.YtdknlbnljfdhgaaGreatDoorAmRules
import Derived.Test.YtdknlbnljfdhgaaGreatDoorAmTop
import Derived.Test.YtdknlbnljfdhgaaGreatDoorAmIter
import Derived.Test.YtdknlbnljfdhgaaGreatDoorRows
import Derived.Test.YtdknlbnljfdhgaaGreatDoorAmWide
import Derived.Test.YtdknlbnljfdhgaaGreatDoorAmArgs
noncomputable section
namespace Go.Am
open Go
theorem aK{cx:Cx}{f:FuncId}{fn:Func}{c:Code}{a0:AV}{l:List AV}{S:AS}{Q:AV->AS->Prop}(hu:cx.jS.get f=none)(hp:cx.dE.get f=none)(hf:cx.fns.get f=some fn)(hb:fn.body=some c)(hc:codeOk cx fn.ntmps c=true)(hn:(a0::l).length<=fn.ntmps)(h:∀F:Fr,F.n=fn.ntmps->sl F 0=a0->kQ cx c F S (xU cx fn Q)):ai cx f (a0::l) S Q:=cl hu hp hf hb hc hn fun F hn hs=>h F hn (hs 0)
theorem aX{cx:Cx}{f:FuncId}{fn:Func}{c:Code}{a0 a1:AV}{l:List AV}{S:AS}{Q:AV->AS->Prop}(hu:cx.jS.get f=none)(hp:cx.dE.get f=none)(hf:cx.fns.get f=some fn)(hb:fn.body=some c)(hc:codeOk cx fn.ntmps c=true)(hn:(a0::a1::l).length<=fn.ntmps)(h:∀F:Fr,F.n=fn.ntmps->sl F 0=a0->sl F 1=a1->kQ cx c F S (xU cx fn Q)):ai cx f (a0::a1::l) S Q:=cl hu hp hf hb hc hn fun F hn hs=>h F hn (hs 0) (hs 1)
theorem uy{cx:Cx}{f:FuncId}{fn:Func}{c:Code}{a0 a1 a2:AV}{l:List AV}{S:AS}{Q:AV->AS->Prop}(hu:cx.jS.get f=none)(hp:cx.dE.get f=none)(hf:cx.fns.get f=some fn)(hb:fn.body=some c)(hc:codeOk cx fn.ntmps c=true)(hn:(a0::a1::a2::l).length<=fn.ntmps)(h:∀F:Fr,F.n=fn.ntmps->sl F 0=a0->sl F 1=a1->sl F 2=a2->kQ cx c F S (xU cx fn Q)):ai cx f (a0::a1::a2::l) S Q:=cl hu hp hf hb hc hn fun F hn hs=>h F hn (hs 0) (hs 1) (hs 2)
theorem enter4{cx:Cx}{f:FuncId}{fn:Func}{c:Code}{a0 a1 a2 a3:AV}{l:List AV}{S:AS}{Q:AV->AS->Prop}(hu:cx.jS.get f=none)(hp:cx.dE.get f=none)(hf:cx.fns.get f=some fn)(hb:fn.body=some c)(hc:codeOk cx fn.ntmps c=true)(hn:(a0::a1::a2::a3::l).length<=fn.ntmps)(h:∀F:Fr,F.n=fn.ntmps->sl F 0=a0->sl F 1=a1->sl F 2=a2->sl F 3=a3->kQ cx c F S (xU cx fn Q)):ai cx f (a0::a1::a2::a3::l) S Q:=cl hu hp hf hb hc hn fun F hn hs=>h F hn (hs 0) (hs 1) (hs 2) (hs 3)
end Go.Am
namespace Go.Proofs.YtdknlbnljfdhgaaGreatDoor.sk
open Go Go.Proofs Go.RowKit Go.Maps Go.Sort Go.Shelf
def zW:Go.Shelf.Ren:=⟨fun x=>match x with|7=>162|10=>202|x=>x,fun x=>match x with|23=>164|26=>3|3=>27|28=>238|0=>0|27=>237|33=>204|4=>4|x=>x,fun x=>x⟩
theorem keysA:SlLaysZI.n7 Tryz.prog zW where
 mixed:=by kernel_rfl
 f7:=⟨Tryz.f162.name,by kernel_rfl,by kernel_rfl⟩
 f10:=⟨Tryz.f202.name,by kernel_rfl,by kernel_rfl⟩
 t0:=by kernel_rfl
 a0:=fun w=>by kernel_rfl
 z0:=fun w=>by kernel_rfl
 v0:=fun w=>by kernel_rfl
 t4:=by kernel_rfl
 a4:=fun w=>by kernel_rfl
 z4:=fun w=>by kernel_rfl
 v4:=fun w=>by kernel_rfl
 t23:=by kernel_rfl
 a23:=fun w=>by kernel_rfl
 z23:=fun w=>by kernel_rfl
 v23:=fun w=>by kernel_rfl
 t26:=by kernel_rfl
 a26:=fun w=>by kernel_rfl
 z26:=fun w=>by kernel_rfl
 v26:=fun w=>by kernel_rfl
 t27:=by kernel_rfl
 a27:=fun w=>by kernel_rfl
 z27:=fun w=>by kernel_rfl
 v27:=fun w=>by kernel_rfl
 t28:=by kernel_rfl
 a28:=fun w=>by kernel_rfl
 z28:=fun w=>by kernel_rfl
 v28:=fun w=>by kernel_rfl
 t33:=by kernel_rfl
 a33:=fun w=>by kernel_rfl
 z33:=fun w=>by kernel_rfl
 v33:=fun w=>by kernel_rfl
def uP:Go.Shelf.Ren:=⟨fun x=>match x with|6=>161|8=>200|9=>201|11=>242|13=>169|12=>243|23=>214|24=>215|14=>265|15=>266|16=>267|17=>268|18=>269|19=>270|20=>271|21=>272|22=>273|25=>281|26=>246|27=>247|28=>282|29=>283|30=>284|31=>286|x=>x,fun x=>match x with|26=>3|28=>238|24=>235|0=>0|3=>3|37=>246|48=>219|50=>27|4=>4|40=>274|39=>273|45=>139|5=>5|9=>9|51=>306|55=>309|57=>328|58=>144|33=>204|x=>x,fun x=>x⟩
theorem sortedA:SlLaysZI.n6 Tryz.prog uP where
 mixed:=by kernel_rfl
 f6:=⟨Tryz.f161.name,by kernel_rfl,by kernel_rfl⟩
 f8:=⟨Tryz.f200.name,by kernel_rfl,by kernel_rfl⟩
 f11:=⟨Tryz.f242.name,by kernel_rfl,by kernel_rfl⟩
 t0:=by kernel_rfl
 a0:=fun w=>by kernel_rfl
 z0:=fun w=>by kernel_rfl
 v0:=fun w=>by kernel_rfl
 t24:=by kernel_rfl
 a24:=fun w=>by kernel_rfl
 z24:=fun w=>by kernel_rfl
 v24:=fun w=>by kernel_rfl
 t26:=by kernel_rfl
 a26:=fun w=>by kernel_rfl
 z26:=fun w=>by kernel_rfl
 v26:=fun w=>by kernel_rfl
 t28:=by kernel_rfl
 a28:=fun w=>by kernel_rfl
 z28:=fun w=>by kernel_rfl
 v28:=fun w=>by kernel_rfl
 i26:=by kernel_rfl
def sortA_ren:Go.Shelf.Ren:=⟨fun x=>match x with|5=>201|8=>169|7=>243|19=>214|20=>215|10=>265|11=>266|12=>267|13=>268|14=>269|15=>270|16=>271|17=>272|18=>273|30=>281|31=>246|32=>247|33=>282|34=>283|35=>284|40=>286|x=>x,fun x=>match x with|23=>235|25=>3|3=>3|32=>246|22=>235|0=>0|44=>219|46=>27|4=>4|36=>274|35=>273|41=>139|5=>5|9=>9|53=>306|57=>309|63=>328|64=>144|x=>x,fun x=>x⟩
theorem sortA:SlLaysM.n5 Tryz.prog sortA_ren where
 mixed:=by kernel_rfl
 f5:=⟨Tryz.f201.name,by kernel_rfl,by kernel_rfl⟩
 f7:=⟨Tryz.f243.name,by kernel_rfl,by kernel_rfl⟩
 f8:=by kernel_rfl
 f10:=⟨Tryz.f265.name,by kernel_rfl,by kernel_rfl⟩
 f11:=⟨Tryz.f266.name,by kernel_rfl,by kernel_rfl⟩
 f12:=⟨Tryz.f267.name,by kernel_rfl,by kernel_rfl⟩
 f13:=⟨Tryz.f268.name,by kernel_rfl,by kernel_rfl⟩
 f14:=⟨Tryz.f269.name,by kernel_rfl,by kernel_rfl⟩
 f15:=⟨Tryz.f270.name,by kernel_rfl,by kernel_rfl⟩
 f16:=⟨Tryz.f271.name,by kernel_rfl,by kernel_rfl⟩
 f17:=⟨Tryz.f272.name,by kernel_rfl,by kernel_rfl⟩
 f18:=⟨Tryz.f273.name,by kernel_rfl,by kernel_rfl⟩
 f19:=by kernel_rfl
 f20:=by kernel_rfl
 f30:=⟨Tryz.f281.name,by kernel_rfl,by kernel_rfl⟩
 f31:=by kernel_rfl
 f32:=by kernel_rfl
 f33:=⟨Tryz.f282.name,by kernel_rfl,by kernel_rfl⟩
 f34:=⟨Tryz.f283.name,by kernel_rfl,by kernel_rfl⟩
 f35:=⟨Tryz.f284.name,by kernel_rfl,by kernel_rfl⟩
 f40:=⟨Tryz.f286.name,by kernel_rfl,by kernel_rfl⟩
 t0:=by kernel_rfl
 a0:=fun w=>by kernel_rfl
 z0:=fun w=>by kernel_rfl
 v0:=fun w=>by kernel_rfl
 t3:=by kernel_rfl
 a3:=fun w=>by kernel_rfl
 z3:=fun w=>by kernel_rfl
 v3:=fun w=>by kernel_rfl
 t4:=by kernel_rfl
 a4:=fun w=>by kernel_rfl
 z4:=fun w=>by kernel_rfl
 v4:=fun w=>by kernel_rfl
 t5:=by kernel_rfl
 a5:=fun w=>by kernel_rfl
 z5:=fun w=>by kernel_rfl
 v5:=fun w=>by kernel_rfl
 t9:=by kernel_rfl
 a9:=fun w=>by kernel_rfl
 z9:=fun w=>by kernel_rfl
 v9:=fun w=>by kernel_rfl
 t22:=by kernel_rfl
 a22:=fun w=>by kernel_rfl
 z22:=fun w=>by kernel_rfl
 v22:=fun w=>by kernel_rfl
 t23:=by kernel_rfl
 a23:=fun w=>by kernel_rfl
 z23:=fun w=>by kernel_rfl
 v23:=fun w=>by kernel_rfl
 t25:=by kernel_rfl
 a25:=fun w=>by kernel_rfl
 z25:=fun w=>by kernel_rfl
 v25:=fun w=>by kernel_rfl
 t32:=by kernel_rfl
 a32:=fun w=>by kernel_rfl
 z32:=fun w=>by kernel_rfl
 v32:=fun w=>by kernel_rfl
 t35:=by kernel_rfl
 a35:=fun w=>by kernel_rfl
 z35:=fun w=>by kernel_rfl
 v35:=fun w=>by kernel_rfl
 t36:=by kernel_rfl
 a36:=fun w=>by kernel_rfl
 z36:=fun w=>by kernel_rfl
 v36:=fun w=>by kernel_rfl
 t41:=by kernel_rfl
 a41:=fun w=>by kernel_rfl
 z41:=fun w=>by kernel_rfl
 v41:=fun w=>by kernel_rfl
 t44:=by kernel_rfl
 a44:=fun w=>by kernel_rfl
 z44:=fun w=>by kernel_rfl
 v44:=fun w=>by kernel_rfl
 t46:=by kernel_rfl
 a46:=fun w=>by kernel_rfl
 z46:=fun w=>by kernel_rfl
 v46:=fun w=>by kernel_rfl
 t53:=by kernel_rfl
 a53:=fun w=>by kernel_rfl
 z53:=fun w=>by kernel_rfl
 v53:=fun w=>by kernel_rfl
 t57:=by kernel_rfl
 a57:=fun w=>by kernel_rfl
 z57:=fun w=>by kernel_rfl
 v57:=fun w=>by kernel_rfl
 t63:=by kernel_rfl
 a63:=fun w=>by kernel_rfl
 z63:=fun w=>by kernel_rfl
 v63:=fun w=>by kernel_rfl
 t64:=by kernel_rfl
 a64:=fun w=>by kernel_rfl
 z64:=fun w=>by kernel_rfl
 v64:=fun w=>by kernel_rfl
def zV:Go.Shelf.Ren:=⟨fun x=>match x with|7=>56|10=>123|x=>x,fun x=>match x with|23=>127|26=>9|3=>128|28=>125|0=>0|27=>124|33=>137|4=>4|x=>x,fun x=>x⟩
theorem keysB:SlLaysZ.n7 Tryz.prog zV where
 mixed:=by kernel_rfl
 f7:=⟨Tryz.f56.name,by kernel_rfl,by kernel_rfl⟩
 f10:=⟨Tryz.f123.name,by kernel_rfl,by kernel_rfl⟩
 t0:=by kernel_rfl
 a0:=fun w=>by kernel_rfl
 z0:=fun w=>by kernel_rfl
 v0:=fun w=>by kernel_rfl
 t4:=by kernel_rfl
 a4:=fun w=>by kernel_rfl
 z4:=fun w=>by kernel_rfl
 v4:=fun w=>by kernel_rfl
 t23:=by kernel_rfl
 a23:=fun w=>by kernel_rfl
 z23:=fun w=>by kernel_rfl
 v23:=fun w=>by kernel_rfl
 t26:=by kernel_rfl
 a26:=fun w=>by kernel_rfl
 z26:=fun w=>by kernel_rfl
 v26:=fun w=>by kernel_rfl
 t27:=by kernel_rfl
 a27:=fun w=>by kernel_rfl
 z27:=fun w=>by kernel_rfl
 v27:=fun w=>by kernel_rfl
 t28:=by kernel_rfl
 a28:=fun w=>by kernel_rfl
 z28:=fun w=>by kernel_rfl
 v28:=fun w=>by kernel_rfl
 t33:=by kernel_rfl
 a33:=fun w=>by kernel_rfl
 z33:=fun w=>by kernel_rfl
 v33:=fun w=>by kernel_rfl
def uO:Go.Shelf.Ren:=⟨fun x=>match x with|6=>55|8=>121|9=>122|11=>167|13=>169|12=>168|23=>214|24=>215|14=>205|15=>206|16=>207|17=>208|18=>209|19=>210|20=>211|21=>212|22=>213|25=>245|26=>246|27=>247|28=>248|29=>249|30=>250|31=>274|x=>x,fun x=>match x with|26=>9|28=>125|24=>57|0=>0|3=>3|37=>246|48=>219|50=>27|4=>4|40=>274|39=>273|45=>139|5=>5|9=>9|51=>306|55=>309|57=>328|58=>144|33=>137|x=>x,fun x=>x⟩
theorem sortedB:SlLaysZ.n6 Tryz.prog uO where
 mixed:=by kernel_rfl
 f6:=⟨Tryz.f55.name,by kernel_rfl,by kernel_rfl⟩
 f8:=⟨Tryz.f121.name,by kernel_rfl,by kernel_rfl⟩
 f11:=⟨Tryz.f167.name,by kernel_rfl,by kernel_rfl⟩
 t0:=by kernel_rfl
 a0:=fun w=>by kernel_rfl
 z0:=fun w=>by kernel_rfl
 v0:=fun w=>by kernel_rfl
 t24:=by kernel_rfl
 a24:=fun w=>by kernel_rfl
 z24:=fun w=>by kernel_rfl
 v24:=fun w=>by kernel_rfl
 t26:=by kernel_rfl
 a26:=fun w=>by kernel_rfl
 z26:=fun w=>by kernel_rfl
 v26:=fun w=>by kernel_rfl
 t28:=by kernel_rfl
 a28:=fun w=>by kernel_rfl
 z28:=fun w=>by kernel_rfl
 v28:=fun w=>by kernel_rfl
 i26:=by kernel_rfl
def sortB_ren:Go.Shelf.Ren:=⟨fun x=>match x with|6=>122|8=>169|9=>168|19=>214|20=>215|21=>205|22=>206|23=>207|24=>208|25=>209|26=>210|27=>211|28=>212|29=>213|36=>245|31=>246|32=>247|37=>248|38=>249|39=>250|41=>274|x=>x,fun x=>match x with|27=>57|29=>9|3=>3|32=>246|26=>57|0=>0|44=>219|46=>27|4=>4|36=>274|35=>273|41=>139|5=>5|9=>9|53=>306|57=>309|63=>328|64=>144|x=>x,fun x=>x⟩
theorem sortB:SlLaysM.n6 Tryz.prog sortB_ren where
 mixed:=by kernel_rfl
 f6:=⟨Tryz.f122.name,by kernel_rfl,by kernel_rfl⟩
 f8:=by kernel_rfl
 f9:=⟨Tryz.f168.name,by kernel_rfl,by kernel_rfl⟩
 f19:=by kernel_rfl
 f20:=by kernel_rfl
 f21:=⟨Tryz.f205.name,by kernel_rfl,by kernel_rfl⟩
 f22:=⟨Tryz.f206.name,by kernel_rfl,by kernel_rfl⟩
 f23:=⟨Tryz.f207.name,by kernel_rfl,by kernel_rfl⟩
 f24:=⟨Tryz.f208.name,by kernel_rfl,by kernel_rfl⟩
 f25:=⟨Tryz.f209.name,by kernel_rfl,by kernel_rfl⟩
 f26:=⟨Tryz.f210.name,by kernel_rfl,by kernel_rfl⟩
 f27:=⟨Tryz.f211.name,by kernel_rfl,by kernel_rfl⟩
 f28:=⟨Tryz.f212.name,by kernel_rfl,by kernel_rfl⟩
 f29:=⟨Tryz.f213.name,by kernel_rfl,by kernel_rfl⟩
 f31:=by kernel_rfl
 f32:=by kernel_rfl
 f36:=⟨Tryz.f245.name,by kernel_rfl,by kernel_rfl⟩
 f37:=⟨Tryz.f248.name,by kernel_rfl,by kernel_rfl⟩
 f38:=⟨Tryz.f249.name,by kernel_rfl,by kernel_rfl⟩
 f39:=⟨Tryz.f250.name,by kernel_rfl,by kernel_rfl⟩
 f41:=⟨Tryz.f274.name,by kernel_rfl,by kernel_rfl⟩
 t0:=by kernel_rfl
 a0:=fun w=>by kernel_rfl
 z0:=fun w=>by kernel_rfl
 v0:=fun w=>by kernel_rfl
 t3:=by kernel_rfl
 a3:=fun w=>by kernel_rfl
 z3:=fun w=>by kernel_rfl
 v3:=fun w=>by kernel_rfl
 t4:=by kernel_rfl
 a4:=fun w=>by kernel_rfl
 z4:=fun w=>by kernel_rfl
 v4:=fun w=>by kernel_rfl
 t5:=by kernel_rfl
 a5:=fun w=>by kernel_rfl
 z5:=fun w=>by kernel_rfl
 v5:=fun w=>by kernel_rfl
 t9:=by kernel_rfl
 a9:=fun w=>by kernel_rfl
 z9:=fun w=>by kernel_rfl
 v9:=fun w=>by kernel_rfl
 t26:=by kernel_rfl
 a26:=fun w=>by kernel_rfl
 z26:=fun w=>by kernel_rfl
 v26:=fun w=>by kernel_rfl
 t27:=by kernel_rfl
 a27:=fun w=>by kernel_rfl
 z27:=fun w=>by kernel_rfl
 v27:=fun w=>by kernel_rfl
 t29:=by kernel_rfl
 a29:=fun w=>by kernel_rfl
 z29:=fun w=>by kernel_rfl
 v29:=fun w=>by kernel_rfl
 t32:=by kernel_rfl
 a32:=fun w=>by kernel_rfl
 z32:=fun w=>by kernel_rfl
 v32:=fun w=>by kernel_rfl
 t35:=by kernel_rfl
 a35:=fun w=>by kernel_rfl
 z35:=fun w=>by kernel_rfl
 v35:=fun w=>by kernel_rfl
 t36:=by kernel_rfl
 a36:=fun w=>by kernel_rfl
 z36:=fun w=>by kernel_rfl
 v36:=fun w=>by kernel_rfl
 t41:=by kernel_rfl
 a41:=fun w=>by kernel_rfl
 z41:=fun w=>by kernel_rfl
 v41:=fun w=>by kernel_rfl
 t44:=by kernel_rfl
 a44:=fun w=>by kernel_rfl
 z44:=fun w=>by kernel_rfl
 v44:=fun w=>by kernel_rfl
 t46:=by kernel_rfl
 a46:=fun w=>by kernel_rfl
 z46:=fun w=>by kernel_rfl
 v46:=fun w=>by kernel_rfl
 t53:=by kernel_rfl
 a53:=fun w=>by kernel_rfl
 z53:=fun w=>by kernel_rfl
 v53:=fun w=>by kernel_rfl
 t57:=by kernel_rfl
 a57:=fun w=>by kernel_rfl
 z57:=fun w=>by kernel_rfl
 v57:=fun w=>by kernel_rfl
 t63:=by kernel_rfl
 a63:=fun w=>by kernel_rfl
 z63:=fun w=>by kernel_rfl
 v63:=fun w=>by kernel_rfl
 t64:=by kernel_rfl
 a64:=fun w=>by kernel_rfl
 z64:=fun w=>by kernel_rfl
 v64:=fun w=>by kernel_rfl
theorem sortsA(m:Nat):AnyZI.SortsIn Tryz.prog uP Fence.wide m:=
 ⟨fun blk off cap ss W hH hblk lT=>callsIn_wide.2 (AnyM.slices_Sort_int sortA blk off cap ss W hH hblk lT),
  fun p cap W=>callsIn_wide.2 (AnyM.slices_Sort_int_none sortA p cap W)⟩
theorem sortsB(m:Nat):AnyZ.SortsIn Tryz.prog uO Fence.wide m:=
 ⟨fun blk off cap ss W hH hblk lT=>callsIn_wide.2 (AnyM.slices_Sort_string sortB blk off cap ss W hH hblk lT),
  fun p cap W=>callsIn_wide.2 (AnyM.slices_Sort_string_none sortB p cap W)⟩
theorem sorted161w{H:Type}(Bm b nn:Nat)(D0:DataW H)(R:Value->Option (DataW H×List MemPlace))(w:World)(hBm:Bm<w.heap.size)(hm:w.cell? ⟨Bm,0,none⟩=some (.map (some b)))(jm:w.ownsMap Tryz.prog 3 R b nn D0)(nJ:Maps.size D0<=maxLen)(xz:Maps.size D0*8<=140737488355328):
  Calls Tryz.prog 161 #[.func (.func 202) #[] #[.pointer (some ⟨Bm,0,none⟩)]] w fun e w'=>∃(v:Value)(ss:List Int),e=.returned v/\ss.Perm (intKeys D0) /\
   w'.ownsRow w.heap.size 3 1 v ss.length ((ss.mergeSort (fun x y=>decide (x<=y))).map encZ)/\(v=.slice none 0 0↔ss=[])/\Below w.heap.size w w':=by
 refine (callsIn_wide (n:=5)).1 ?_;have hseq:SeqGives Fence.wide 2 Tryz.prog 202 #[.pointer (some ⟨Bm,0,none⟩)] encZ (fun ss=>ss.Perm (intKeys D0)) (Maps.size D0) w:=
  AnyZI.keys_gives (ρ:=zW) {keysA with} Fence.wide _ trivial rfl (by omega) Bm b nn D0 w hBm hm jm
 exact AnyZI.sorted_in sortedA Fence.wide 5 trivial trivial trivial trivial rfl (by omega) (sortsA _) (enters_of Tryz.func201 (by kernel_rfl) rfl) 202 #[.pointer (some ⟨Bm,0,none⟩)] trivial (enters_of Tryz.func202 (by kernel_rfl) rfl) _ _ nJ xz _ hseq
theorem sorted55w{H:Type}(Bm b nn:Nat)(D0:DataW H)(R:Value->Option (DataW H×List MemPlace))(w:World)(hBm:Bm<w.heap.size)(hm:w.cell? ⟨Bm,0,none⟩=some (.map (some b)))(jm:w.ownsMap Tryz.prog 9 R b nn D0)(nJ:Maps.size D0<=maxLen)(xz:Maps.size D0*16<=140737488355328):
  Calls Tryz.prog 55 #[.func (.func 123) #[] #[.pointer (some ⟨Bm,0,none⟩)]] w fun e w'=>∃(v:Value)(ss:List (List UInt8)),e=.returned v/\ss.Perm (strKeys D0) /\
   w'.ownsRow w.heap.size 9 1 v ss.length ((ss.mergeSort leB).map encStr)/\(v=.slice none 0 0↔ss=[])/\Below w.heap.size w w':=by
 refine (callsIn_wide (n:=5)).1 ?_;have hseq:SeqGives Fence.wide 2 Tryz.prog 123 #[.pointer (some ⟨Bm,0,none⟩)] encStr (fun ss=>ss.Perm (strKeys D0)) (Maps.size D0) w:=
  AnyZ.keys_gives (ρ:=zV) {keysB with} Fence.wide _ trivial rfl (by omega) Bm b nn D0 w hBm hm jm
 exact AnyZ.sorted_in sortedB Fence.wide 5 trivial trivial trivial trivial rfl (by omega) (sortsB _) (enters_of Tryz.func122 (by kernel_rfl) rfl) 123 #[.pointer (some ⟨Bm,0,none⟩)] trivial (enters_of Tryz.func123 (by kernel_rfl) rfl) _ _ nJ xz _ hseq
end Go.Proofs.YtdknlbnljfdhgaaGreatDoor.sk
namespace Go.Am
open Go Go.RowKit
variable{Λ:LB}
theorem R.Ei{ρ:aO}{S:AS}{w w':World}{cells:List AV}{C:Array Value}{e:TypeId}{fr:Nat×Nat}{b:Nat}(h:R Λ ρ S w)(hw:Below w.heap.size w w')(hb:w.heap.size<=b)(cJ:w'.heap[b]?=some (.cells C e fr))
  (hl:au ρ cells (C.toList.take cells.length)) (hC:cells.length<=C.size) (h1:∀v,v∈C.toList.take cells.length->v.oneCell'=true) :
  ∃ρ' pl,ρ' S.next 0=some pl/\pl.b=b/\pl.base=0/\pl.n=cells.length/\pl.N=C.size /\
   R Λ ρ' ⟨S.h.set S.next (.row cells 0 0 true e),S.next+1⟩ w'/\Kp ρ S w ρ' ⟨S.h.set S.next (.row cells 0 0 true e),S.next+1⟩ w':=by
 have hx:=fJ (ρ:=ρ) (id:=S.next) (g:=0) ⟨b,0,cells.length,C.size,by simpa using hC⟩ (h.fresh _ _ (Nat.le_refl _));have cq:b<w'.heap.size:=(Array.getElem?_eq_some_iff.1 cJ).1;refine⟨put ρ S.next 0 ⟨b,0,cells.length,C.size,by simpa using hC⟩,_,bA _ _ _ _,rfl,rfl,rfl,rfl,?_⟩;refine h.change (fun _=>False) hx ?_ ⟨hw.os,hw.tape,hw.output⟩ ?_ ?_ ?_ ?_ ?_ ?_ ?_ ?_ ?_ ?_ ?_ ?_
 .exact fun i g hi=>bL _ _ (fun e=>hi e.1)
 .exact hw.size
 .exact fun k hk _=>hw.block k hk
 .exact fun _ _ hf=>hf.elim
 .exact fun o ho _=>absurd (h.sY _ o ho) (Nat.lt_irrefl _)
 .exact fun _ _ _ _ _ _ _ hf=>hf
 .refine⟨Nat.le_refl _,fun g _ hg0=>?_,fun g k p q _ a2 _ a4 hp1 hq1 _=>by
   obtain rfl:g=0:=by omega
   obtain rfl:k=0:=by omega
   rw[hp1]at hq1;cases hq1;rfl⟩
  obtain rfl:g=0:=by omega
  refine⟨_,C,fr,bA _ _ _ _,cJ,rfl,by simpa using hC,Nat.le_refl _,fun i hi=>?_,fun _=>rfl,fun hf=>(by cases hf),fun _=>rfl,fun hf=>(by cases hf)⟩;dsimp only at hi⊢;obtain⟨x,hxx⟩:∃x,cells[i]?=some x:=⟨cells[i],by simp[List.getElem?_eq_getElem hi]⟩
  obtain⟨v,hv,hr⟩:=hl.get hxx;have hm:=List.mem_of_getElem? hv;rw[List.getElem?_take,if_pos hi]at hv;exact⟨x,v,hxx,by simpa using hv,hr.mono hx _ _,h1 v hm⟩
 .intro cells' low top frz ty he g hgt;cases he;rw[bL _ _ (by omega)];exact h.fresh _ _ (Nat.le_refl _)
 .intro g pl hp;by_cases hg0:g=0
  .subst hg0;rw[bA]at hp;cases hp;exact⟨cq,.inr hb⟩
  .rw[bL _ _ (by omega),h.fresh _ _ (Nat.le_refl _)]at hp;cases hp
 .omega
 .omega
 .intro g i hi;rw[bL _ _ (by omega)];exact h.fresh _ _ (by omega)
 .exact .inr (Nat.le_refl _)
end Go.Am
namespace Go.Proofs.YtdknlbnljfdhgaaGreatDoor.sk
open Go Go.Proofs Go.RowKit Go.Maps Go.Sort Go.Shelf Go.WideElems Go.MapKept Go.WideShapes
def R0:Value->Option (DataW Unit×List MemPlace):=fun _=>some (.lit (.bool false),[])
theorem key3{n:Nat}(h:n<9223372036854775808):keyOf Tryz.prog 3 (.int .i64 (n:Int))=some (.int .i64 (n:Int)):=by
 have hw:(Lit.int .i64 (n:Int)).wf=true:=by
  have nJ:IntKind.i64.max=9223372036854775807:=rfl;have sN:IntKind.i64.min=-9223372036854775808:=rfl;simp[Lit.wf,nJ,sN];omega
 simp[keyOf,mapKey,hw]
theorem rd3{x:MapEntry}{n:Nat}(hk:x.key=.int .i64 (n:Int))(h:n<9223372036854775808):WideElems.rd Tryz.prog 3 R0 x=some (.int .i64 (n:Int),.lit (.bool false)):=by
 unfold WideElems.rd;rw[hk,key3 h];rfl
theorem sortedI{w:World}{Bm b clock:Nat}{ES:Array MapEntry}{ns:List Nat}(hBm:Bm<w.heap.size)(hm:w.cell? ⟨Bm,0,none⟩=some (.map (some b)))(hb:w.heap[b]?=some (.map ES clock))(hk:ES.toList.map (·.key)=ns.map fun n:Nat=>Value.int .i64 (n:Int))(BN:ns.Nodup)
  (cq:∀n,n∈ns->n<9223372036854775808) (hborn:∀x,x∈ES.toList->x.born<clock) (hbnd:(ES.toList.map (·.born)).Nodup) (lT:ES.size<=1048576) :
  Calls Tryz.prog 161 #[.func (.func 202) #[] #[.pointer (some ⟨Bm,0,none⟩)]] w fun e w'=>∃v:Value,e=.returned v/\w'.ownsRow w.heap.size 3 1 v ns.length ((ns.mergeSort fun a b=>decide (a<=b)).map fun n:Nat=>Value.int .i64 (n:Int))/\(v=.slice none 0 0↔ns=[])/\Below w.heap.size w w':=by
 have se:maxLen=9223372036854775807:=rfl;have EH:∀x,x∈ES.toList->∃n,n∈ns/\x.key=.int .i64 ((n:Nat):Int):=fun x hx=>by
  have:x.key∈ES.toList.map (·.key):=List.mem_map.2 ⟨x,hx,rfl⟩;rw[hk]at this;obtain⟨n,h1,h2⟩:=List.mem_map.1 this;exact⟨n,h1,h2.symm⟩
 have F:Fit Tryz.prog 3 R0 ES clock:=⟨by rw[se];omega,⟨hborn,hbnd,by
  rw[hk];exact List.pairwise_map.2 (BN.imp fun {a b} h e=>h (by injection e with _ e;omega))⟩,fun x hx=>by
  obtain⟨n,h1,h2⟩:=EH x hx;exact⟨_,rd3 h2 (cq n h1)⟩⟩
 have jm:=World.ownsMap_of_fit (R:=R0) hb F (fun _ _ _ h=>h);have hs:=jm.size_le;have hperm:(intKeys (.map ((ES.toList.map (rg Tryz.prog 3 R0)).foldr DataW.insert []))).Perm (ns.map fun n:Nat=>(n:Int)):=by
  show (List.map _ _).Perm _;refine ((sorted_perm _).map _).trans ?_;rw[List.map_map];have:ES.toList.map ((fun p:Lit×DataW Unit=>Go.intOf p.1)∘rg Tryz.prog 3 R0)=(ES.toList.map (·.key)).map fun v=>match v with | .int _ a=>a|_=>0:=by
   rw[List.map_map];refine List.map_congr_left fun x hx=>?_;obtain⟨n,h1,h2⟩:=EH x hx;have e:rg Tryz.prog 3 R0 x=(.int .i64 (n:Int),.lit (.bool false)):=by unfold rg;rw[rd3 h2 (cq n h1)];rfl
   simp only[Function.comp,e,h2,Go.intOf]
  rw[this,hk,List.map_map];exact List.Perm.refl _
 refine (sorted161w Bm b ES.size _ R0 w hBm hm jm (by rw[se];omega) (by omega)).mono ?_;rintro e w' ⟨v,ss,rfl,h1,h2,h3,h4⟩;have h5:=h1.trans hperm;have hl:ss.length=ns.length:=by rw[h5.length_eq,List.length_map]
 have hsort:ss.mergeSort (fun x y=>decide (x<=y))=(ns.mergeSort fun a b=>decide (a<=b)).map fun n:Nat=>(n:Int):=by
  have tr:∀a b c:Int,decide (a<=b)=true->decide (b<=c)=true->decide (a<=c)=true:=fun a b c q1 q2=>by simp only[decide_eq_true_eq]at *;omega
  have to:∀a b:Int,(decide (a<=b)||decide (b<=a))=true:=fun a b=>by simp only[Bool.or_eq_true,decide_eq_true_eq];omega
  have trn:∀a b c:Nat,decide (a<=b)=true->decide (b<=c)=true->decide (a<=c)=true:=fun a b c q1 q2=>by simp only[decide_eq_true_eq]at *;omega
  have ton:∀a b:Nat,(decide (a<=b)||decide (b<=a))=true:=fun a b=>by simp only[Bool.or_eq_true,decide_eq_true_eq];omega
  refine List.Perm.eq_of_pairwise (le:=fun a b:Int=>decide (a<=b)=true) (fun a b _ _ q1 q2=>?_) (List.pairwise_mergeSort tr to ss) ?_ (((List.mergeSort_perm ss _).trans h5).trans ((List.mergeSort_perm ns _).symm.map _))
  .simp only[decide_eq_true_eq]at q1 q2;omega
  .refine List.pairwise_map.2 ((List.pairwise_mergeSort trn ton ns).imp fun {a b} q=>?_);simp only[decide_eq_true_eq]at q⊢;omega
 refine⟨v,rfl,?_,h3.trans ?_,h4⟩
 .rw[hsort,hl,List.map_map]at h2;exact h2
 .rw[<-List.length_eq_zero_iff,hl,List.length_eq_zero_iff]
end Go.Proofs.YtdknlbnljfdhgaaGreatDoor.sk
namespace Go.Proofs.YtdknlbnljfdhgaaGreatDoor.srt
open Go Go.Am Go.RowKit
set_option linter.unusedVariables false
set_option linter.unusedSimpArgs false
def rE(e:dg):Nat:=match e.key with | .int _ (.ofNat n)=>n|_=>0
def lR(l:List Nat):List AV:=l.map fun n:Nat=>AV.int .i64 (n:Int)
def iV(es:List dg):List Nat:=(es.map rE).mergeSort fun a b=>decide (a<=b)
def out161(S:AS)(l:List Nat):AV×AS:=match l with
 |[]=>(.aq,S)
 |x::l=>(.slice S.next 0 0 (l.length+1) (l.length+1) 1 none,⟨S.h.set S.next (.row (lR (x::l)) 0 0 true 3),S.next+1⟩)
def Q161(vs:List AV)(S:AS)(es:List dg):Prop:=
 ∃bx mi clock,vs=[.func (.func 202) [] [.ptr bx 0 0 1]]/\S.h.get bx=some (.row [.map mi] 0 0 false 164)/\S.h.get mi=some (.map es clock)/\nf es clock/\(∀e,e∈es->e.key=.int .i64 (rE e:Int)/\rE e<9223372036854775808)/\(es.map rE).Nodup/\es.length<=1048576
theorem Q161.uniq{vs:List AV}{S:AS}{es es':List dg}(h:Q161 vs S es)(h':Q161 vs S es'):es=es':=by
 obtain⟨bx,mi,clock,rfl,h1,h2,_⟩:=h;obtain⟨bx',mi',clock',e,vL,rH,_⟩:=h';cases e;rw[h1]at vL;cases vL;rw[h2]at rH;cases rH;rfl
open Classical in
def qG(vs:List AV)(S:AS):Option (AV×AS):=if h:∃es,Q161 vs S es then some (out161 S (iV h.choose)) else none
theorem Be{vs:List AV}{S:AS}{es:List dg}(h:Q161 vs S es):qG vs S=some (out161 S (iV es)):=by
 have hx:∃es,Q161 vs S es:=⟨es,h⟩
 unfold qG;rw[dif_pos hx,hx.choose_spec.uniq h]
theorem erel_map{ρ:aO}{es:List dg}{l:List MapEntry}(h:yj ρ es l)(hk:∀e,e∈es->e.key=.int .i64 (rE e:Int)):l.map (·.key)=(es.map rE).map (fun n:Nat=>Value.int .i64 (n:Int))/\l.map (·.born)=es.map (·.born):=by
 obtain⟨hl,hp⟩:=h;refine⟨List.ext_getElem (by simp[hl]) fun i h1 h2=>?_,List.ext_getElem (by simp[hl]) fun i h1 h2=>?_⟩
 .simp only[List.getElem_map];have hi:i<l.length:=by simpa using h1
  have r:=(hp i es[i] l[i] (List.getElem?_eq_getElem (by omega)) (List.getElem?_eq_getElem hi)).1;rw[hk _ (List.getElem_mem (by omega))]at r;simpa only[ah]using r
 .simp only[List.getElem_map];have hi:i<l.length:=by simpa using h1
  exact (hp i es[i] l[i] (List.getElem?_eq_getElem (by omega)) (List.getElem?_eq_getElem hi)).2.2.symm
theorem Ef{ρ:aO}:∀l:List Nat,au ρ (lR l) (l.map fun n:Nat=>Value.int .i64 (n:Int))
 |[]=>by simp[lR,au]
 |x::l=>by
  show au ρ (.int .i64 (x:Int)::lR l) _;simp only[au];exact⟨_,_,rfl,by simp only[ah],Ef l⟩
theorem vC{Λ:LB}:fw Λ Tryz.prog 161 qG:=by
 intro ρ vs S w args v S' hR hl hq;have BM:=hq;unfold qG at BM;split at BM
 case isFalse=>cases BM
 case isTrue h=>
 clear BM;obtain⟨es,hQ⟩:=h;rw[Be hQ]at hq;obtain⟨bx,mi,clock,rfl,h1,h2,h3,h4,h5,h6⟩:=hQ;obtain⟨y,ys,hy,oD,rfl⟩:=(show ∃y ys,args.toList=y::ys/\ah ρ (.func (.func 202) [] [.ptr bx 0 0 1]) y/\ys=[] by simpa only[au]using hl)
 simp only[ah]at oD;obtain⟨a,b,rfl,ha,hb⟩:=oD;obtain rfl:a=#[]:=Array.ext' (by simpa only[au]using ha);obtain⟨z,zs,hz,hzr,rfl⟩:=(show ∃y ys,b.toList=y::ys/\ah ρ (.ptr bx 0 0 1) y/\ys=[] by simpa only[au]using hb)
 simp only[ah]at hzr;obtain⟨pl,hp,hpn,rfl⟩:=hzr;obtain⟨_,hg,_⟩:=hR.iM bx _ h1;obtain⟨dK,C,fr,g1,g2,g3,g4,g5,g6,g7,g8,g9,g10⟩:=hg 0 (Nat.le_refl _) (Nat.le_refl _);rw[hp]at g1;cases g1;have hbase:pl.base=0:=g9 rfl;obtain⟨x,u,x1,x2,x3,_⟩:=g6 0 (by omega);cases x1;simp only[ah]at x3;obtain⟨pm,hpm,rfl⟩:=x3;obtain⟨pm',ES,m1,m2,m3⟩:=hR.iM mi _ h2;rw[hpm]at m1;cases m1;rw[hbase]at x2 hz;obtain rfl:b=#[.pointer (some ⟨pl.b,0,none⟩)]:=Array.ext' (by simpa using hz);obtain rfl:args=#[.func (.func 202) #[] #[.pointer (some ⟨pl.b,0,none⟩)]]:=Array.ext' (by simpa using hy);have kD:w.cell? ⟨pl.b,0,none⟩=some (.map (some pm.b)):=by
  unfold World.cell?;simp only[g2];simpa using x2
 obtain⟨k1,k2⟩:=erel_map m3 (fun e he=>(h4 e he).1);have hES:ES.size=es.length:=by rw[<-Array.length_toList];exact m3.1.symm
 refine⟨⟨Tryz.f161,Tryz.func161,rfl⟩,(sk.sortedI (ns:=es.map rE) (hR.lt _ _ _ _ h1 hp) kD m2 k1 h5 (fun n hn=>?_) (fun x hx=>?_) ?_ (by omega)).mono ?_⟩
 .obtain⟨e,he,rfl⟩:=List.mem_map.1 hn;exact (h4 e he).2
 .have:x.born∈ES.toList.map (·.born):=List.mem_map.2 ⟨x,hx,rfl⟩;rw[k2]at this;obtain⟨e,he,q⟩:=List.mem_map.1 this;rw[<-q];exact h3.1 e he
 .rw[k2];exact List.pairwise_map.2 h3.2
 .rintro e w' ⟨v',rfl,⟨r1,r2⟩,r3,r4⟩;have ml:(iV es).length=es.length:=by unfold iV;rw[List.length_mergeSort,List.length_map]
  cases hl:iV es with
  |nil=>
   rw[hl]at hq;cases hq;rw[hl]at ml;have pA:v'=.slice none 0 0:=r3.2 (by rw[List.map_eq_nil_iff,<-List.length_eq_zero_iff];exact ml.symm);obtain⟨q1,q2⟩:=hR.below r4;exact⟨_,ρ,rfl,by simp only[ah];exact pA,q1,q2⟩
  |cons x l=>
   rw[hl]at hq;cases hq;rw[hl]at ml;rcases r2 with⟨_,hz⟩|⟨g,cap,cur,rfl,c1,c2,c3,c4,c5,c6⟩
   .rw[List.length_map]at hz;simp at ml;omega
   .have hc6:cur.toList.take (l.length+1)=(x::l).map fun n:Nat=>Value.int .i64 (n:Int):=by
     have e0:(es.map rE).mergeSort (fun a b=>decide (a<=b))=x::l:=hl;rw[e0,Nat.mul_one,List.length_map,<-ml]at c6;exact c6
    have hn:(lR (x::l)).length=l.length+1:=by simp[lR]
    have hle:es.length=l.length+1:=by rw[<-ml];rfl
    rw[List.length_map]at c3;obtain⟨ρ',p2,d1,d2,d3,d4,d5,d6,d7⟩:=hR.Ei (cells:=lR (x::l)) r4 c1 c2 (by rw[hn,hc6];exact Ef _) (by rw[hn];omega) (fun v hv=>by
     rw[hn,hc6]at hv;obtain⟨n,_,rfl⟩:=List.mem_map.1 hv;rfl)
    refine⟨_,ρ',rfl,?_,d6,d7⟩;simp only[ah];refine⟨p2,cap,d1,by rw[d4,hn];exact Nat.le_refl _,by omega,by decide,by omega,.inl ⟨by rw[d2,d3,List.length_map,hle],by rw[d3,d5];omega,fun k hk=>by cases hk⟩⟩
end Go.Proofs.YtdknlbnljfdhgaaGreatDoor.srt
namespace Go.Proofs.YtdknlbnljfdhgaaGreatDoor.sk
open Go Go.Proofs Go.RowKit Go.Maps Go.Sort Go.Shelf Go.WideElems Go.MapKept Go.WideShapes
theorem key9{l:List UInt8}(h:l.length<=1048576):keyOf Tryz.prog 9 (encStr l)=some (.string l):=by
 have se:maxLen=9223372036854775807:=rfl;have hs:(⟨l.toArray⟩:ByteArray).size<=maxLen:=by
  show l.toArray.size<=_;rw[se];simp;omega
 simp[keyOf,mapKey,encStr,hs]
theorem rd9{x:MapEntry}{l:List UInt8}(hk:x.key=encStr l)(h:l.length<=1048576):WideElems.rd Tryz.prog 9 R0 x=some (.string l,.lit (.bool false)):=by
 unfold WideElems.rd;rw[hk,key9 h];rfl
theorem sortedS{w:World}{Bm b clock:Nat}{ES:Array MapEntry}{ns:List (List UInt8)}(hBm:Bm<w.heap.size)(hm:w.cell? ⟨Bm,0,none⟩=some (.map (some b)))(hb:w.heap[b]?=some (.map ES clock))(hk:ES.toList.map (·.key)=ns.map encStr)(BN:ns.Nodup)
  (cq:∀n,n∈ns->n.length<=1048576) (hborn:∀x,x∈ES.toList->x.born<clock) (hbnd:(ES.toList.map (·.born)).Nodup) (lT:ES.size<=1048576) :
  Calls Tryz.prog 55 #[.func (.func 123) #[] #[.pointer (some ⟨Bm,0,none⟩)]] w fun e w'=>∃(v:Value)(ss:List (List UInt8)),e=.returned v/\ss.Perm ns/\w'.ownsRow w.heap.size 9 1 v ns.length ((ss.mergeSort leB).map encStr)/\(v=.slice none 0 0↔ns=[])/\Below w.heap.size w w':=by
 have se:maxLen=9223372036854775807:=rfl;have EH:∀x,x∈ES.toList->∃n,n∈ns/\x.key=encStr n:=fun x hx=>by
  have:x.key∈ES.toList.map (·.key):=List.mem_map.2 ⟨x,hx,rfl⟩;rw[hk]at this;obtain⟨n,h1,h2⟩:=List.mem_map.1 this;exact⟨n,h1,h2.symm⟩
 have F:Fit Tryz.prog 9 R0 ES clock:=⟨by rw[se];omega,⟨hborn,hbnd,by
  rw[hk];exact List.pairwise_map.2 (BN.imp fun {a b} h e=>h (encStr_inj e))⟩,fun x hx=>by
  obtain⟨n,h1,h2⟩:=EH x hx;exact⟨_,rd9 h2 (cq n h1)⟩⟩
 have jm:=World.ownsMap_of_fit (R:=R0) hb F (fun _ _ _ h=>h);have hs:=jm.size_le;have hperm:(strKeys (.map ((ES.toList.map (rg Tryz.prog 9 R0)).foldr DataW.insert []))).Perm ns:=by
  show (List.map _ _).Perm _;refine ((sorted_perm _).map _).trans ?_;rw[List.map_map];have:ES.toList.map ((fun p:Lit×DataW Unit=>strOf p.1)∘rg Tryz.prog 9 R0)=(ES.toList.map (·.key)).map fun v=>match v with | .string s=>s.data.toList|_=>[]:=by
   rw[List.map_map];refine List.map_congr_left fun x hx=>?_;obtain⟨n,h1,h2⟩:=EH x hx;have e:rg Tryz.prog 9 R0 x=(.string n,.lit (.bool false)):=by unfold rg;rw[rd9 h2 (cq n h1)];rfl
   simp only[Function.comp,e,h2,strOf]
  rw[this,hk,List.map_map];have e:ns.map ((fun v:Value=>match v with | .string s=>s.data.toList|_=>[])∘encStr)=ns:=by
   conv=>rhs;rw[<-List.map_id ns]
   exact List.map_congr_left fun n _=>rfl
  rw[e]
 refine (sorted55w Bm b ES.size _ R0 w hBm hm jm (by rw[se];omega) (by omega)).mono ?_;rintro e w' ⟨v,ss,rfl,h1,h2,h3,h4⟩;have h5:=h1.trans hperm;have hl:ss.length=ns.length:=h5.length_eq;refine⟨v,ss,rfl,h5,by rw[<-hl];exact h2,h3.trans ?_,h4⟩;rw[<-List.length_eq_zero_iff,hl,List.length_eq_zero_iff]
theorem lt_nat:∀{x y:List UInt8},x.map UInt8.toNat<y.map UInt8.toNat↔x<y
 |[],[]=>by simp
 |[],_::_=>by simp
 |_::_,[]=>by simp
 |a::x,b::y=>by
  rw[List.map_cons,List.map_cons,List.cons_lt_cons_iff,List.cons_lt_cons_iff,lt_nat,UInt8.lt_iff_toNat_lt];constructor
  .rintro (h|⟨h1,h2⟩)
   .exact .inl h
   .exact .inr ⟨UInt8.toNat_inj.1 h1,h2⟩
  .rintro (h|⟨h1,h2⟩)
   .exact .inl h
   .exact .inr ⟨by rw[h1],h2⟩
theorem le_nat{x y:List UInt8}:x.map UInt8.toNat<=y.map UInt8.toNat↔x<=y:=by
 rw[<-List.not_lt,<-List.not_lt,lt_nat]
end Go.Proofs.YtdknlbnljfdhgaaGreatDoor.sk
namespace Go.Proofs.YtdknlbnljfdhgaaGreatDoor.seg
open Go Go.Am Go.RowKit Go.Proofs
set_option linter.unusedVariables false
set_option linter.unusedSimpArgs false
def pz(e:dg):List Nat:=match e.key with | .str s=>s|_=>[]
def lR(l:List (List Nat)):List AV:=l.map AV.str
def leS(a b:List Nat):Bool:=decide (a<=b)
def iV(es:List dg):List (List Nat):=(es.map pz).mergeSort leS
def zK(S:AS)(l:List (List Nat)):AV×AS:=match l with
 |[]=>(.aq,S)
 |x::l=>(.slice S.next 0 0 (l.length+1) (l.length+1) 1 none,⟨S.h.set S.next (.row (lR (x::l)) 0 0 true 9),S.next+1⟩)
def Q55(vs:List AV)(S:AS)(es:List dg):Prop:=
 ∃bx mi clock,vs=[.func (.func 123) [] [.ptr bx 0 0 1]]/\S.h.get bx=some (.row [.map mi] 0 0 false 127)/\S.h.get mi=some (.map es clock)/\nf es clock/\(∀e,e∈es->e.key=.str (pz e)/\(pz e).length<=1048576)/\(es.map pz).Nodup/\es.length<=1048576
theorem Q55.uniq{vs:List AV}{S:AS}{es es':List dg}(h:Q55 vs S es)(h':Q55 vs S es'):es=es':=by
 obtain⟨bx,mi,clock,rfl,h1,h2,_⟩:=h;obtain⟨bx',mi',clock',e,vL,rH,_⟩:=h';cases e;rw[h1]at vL;cases vL;rw[h2]at rH;cases rH;rfl
open Classical in
def q55(vs:List AV)(S:AS):Option (AV×AS):=if h:∃es,Q55 vs S es then some (zK S (iV h.choose)) else none
theorem q55_of{vs:List AV}{S:AS}{es:List dg}(h:Q55 vs S es):q55 vs S=some (zK S (iV es)):=by
 have hx:∃es,Q55 vs S es:=⟨es,h⟩
 unfold q55;rw[dif_pos hx,hx.choose_spec.uniq h]
def byK(x:MapEntry):List UInt8:=match x.key with | .string s=>s.data.toList|_=>[]
theorem erel_str{ρ:aO}{es:List dg}{l:List MapEntry}(h:yj ρ es l)(hk:∀e,e∈es->e.key=.str (pz e)):l.map (·.key)=(l.map byK).map encStr/\(l.map byK).map (List.map UInt8.toNat)=es.map pz/\l.map (·.born)=es.map (·.born):=by
 obtain⟨hl,hp⟩:=h;have key:∀i,(hi:i<l.length)->∃s:ByteArray,l[i].key=.string s/\s.data.toList.map UInt8.toNat=pz (es[i]'(by omega)):=fun i hi=>by
  have r:=(hp i (es[i]'(by omega)) l[i] (List.getElem?_eq_getElem (by omega)) (List.getElem?_eq_getElem hi)).1;rw[hk _ (List.getElem_mem (by omega))]at r;simpa only[ah]using r
 refine⟨List.ext_getElem (by simp) fun i h1 h2=>?_,List.ext_getElem (by simp[hl]) fun i h1 h2=>?_,List.ext_getElem (by simp[hl]) fun i h1 h2=>?_⟩
 .simp only[List.getElem_map];obtain⟨s,e1,_⟩:=key i (by simpa using h1);unfold byK;rw[e1]
 .simp only[List.getElem_map];obtain⟨s,e1,e2⟩:=key i (by simpa using h1);unfold byK;rw[e1];exact e2
 .simp only[List.getElem_map];have hi:i<l.length:=by simpa using h1
  exact (hp i (es[i]'(by omega)) l[i] (List.getElem?_eq_getElem (by omega)) (List.getElem?_eq_getElem hi)).2.2.symm
theorem Dn{ρ:aO}:∀l:List (List UInt8),au ρ (lR (l.map (List.map UInt8.toNat))) (l.map encStr)
 |[]=>by simp[lR,au]
 |x::l=>by
  show au ρ (.str (x.map UInt8.toNat)::lR (l.map (List.map UInt8.toNat))) _;simp only[au];exact⟨_,_,rfl,by simp only[ah];exact⟨_,rfl,by simp⟩,Dn l⟩
theorem rise_eq{ss bs:List (List UInt8)}(h:ss.Perm bs):(ss.mergeSort leB).map (List.map UInt8.toNat)=(bs.map (List.map UInt8.toNat)).mergeSort leS:=by
 have trn:∀a b c:List Nat,leS a b=true->leS b c=true->leS a c=true:=fun a b c q1 q2=>by unfold leS at *;simp only[decide_eq_true_eq]at *;exact List.le_trans q1 q2
 have ton:∀a b:List Nat,(leS a b||leS b a)=true:=fun a b=>by unfold leS;simp only[Bool.or_eq_true,decide_eq_true_eq];exact List.le_total a b
 have trb:∀a b c:List UInt8,leB a b=true->leB b c=true->leB a c=true:=fun a b c q1 q2=>by simp only[leB,decide_eq_true_eq]at *;exact List.le_trans q1 q2
 have tob:∀a b:List UInt8,(leB a b||leB b a)=true:=fun a b=>by simp only[leB,Bool.or_eq_true,decide_eq_true_eq];exact List.le_total a b
 refine List.Perm.eq_of_pairwise (le:=fun a b=>leS a b=true) (fun a b _ _ q1 q2=>?_) ?_ (List.pairwise_mergeSort trn ton _) ((((List.mergeSort_perm ss _).trans h).map _).trans (List.mergeSort_perm _ _).symm)
 .unfold leS at q1 q2;simp only[decide_eq_true_eq]at q1 q2;exact List.le_antisymm q1 q2
 .refine List.pairwise_map.2 ((List.pairwise_mergeSort trb tob ss).imp fun {a b} q=>?_);unfold leS;simp only[leB,decide_eq_true_eq]at q⊢;exact sk.le_nat.2 q
theorem Bh{Λ:LB}:fw Λ Tryz.prog 55 q55:=by
 intro ρ vs S w args v S' hR hl hq;have BM:=hq;unfold q55 at BM;split at BM
 case isFalse=>cases BM
 case isTrue h=>
 clear BM;obtain⟨es,hQ⟩:=h;rw[q55_of hQ]at hq;obtain⟨bx,mi,clock,rfl,h1,h2,h3,h4,h5,h6⟩:=hQ;obtain⟨y,ys,hy,oD,rfl⟩:=(show ∃y ys,args.toList=y::ys/\ah ρ (.func (.func 123) [] [.ptr bx 0 0 1]) y/\ys=[] by simpa only[au]using hl)
 simp only[ah]at oD;obtain⟨a,b,rfl,ha,hb⟩:=oD;obtain rfl:a=#[]:=Array.ext' (by simpa only[au]using ha);obtain⟨z,zs,hz,hzr,rfl⟩:=(show ∃y ys,b.toList=y::ys/\ah ρ (.ptr bx 0 0 1) y/\ys=[] by simpa only[au]using hb)
 simp only[ah]at hzr;obtain⟨pl,hp,hpn,rfl⟩:=hzr;obtain⟨_,hg,_⟩:=hR.iM bx _ h1;obtain⟨dK,C,fr,g1,g2,g3,g4,g5,g6,g7,g8,g9,g10⟩:=hg 0 (Nat.le_refl _) (Nat.le_refl _);rw[hp]at g1;cases g1;have hbase:pl.base=0:=g9 rfl;obtain⟨x,u,x1,x2,x3,_⟩:=g6 0 (by omega);cases x1;simp only[ah]at x3;obtain⟨pm,hpm,rfl⟩:=x3;obtain⟨pm',ES,m1,m2,m3⟩:=hR.iM mi _ h2;rw[hpm]at m1;cases m1;rw[hbase]at x2 hz;obtain rfl:b=#[.pointer (some ⟨pl.b,0,none⟩)]:=Array.ext' (by simpa using hz);obtain rfl:args=#[.func (.func 123) #[] #[.pointer (some ⟨pl.b,0,none⟩)]]:=Array.ext' (by simpa using hy);have kD:w.cell? ⟨pl.b,0,none⟩=some (.map (some pm.b)):=by
  unfold World.cell?;simp only[g2];simpa using x2
 obtain⟨k1,k3,k2⟩:=erel_str m3 (fun e he=>(h4 e he).1);have hES:ES.size=es.length:=by rw[<-Array.length_toList];exact m3.1.symm
 obtain⟨bs,oo⟩:∃bs,bs=ES.toList.map byK:=⟨_,rfl⟩
 rw[<-oo]at k1 k3;have tz:bs.length=es.length:=by have:=congrArg List.length k3;simpa using this
 have hbn:bs.Nodup:=by
  have:(bs.map (List.map UInt8.toNat)).Nodup:=by rw[k3];exact h5
  exact (List.pairwise_map.1 this).imp fun h e=>h (by rw[e])
 refine⟨⟨Tryz.f55,Tryz.func55,rfl⟩,(sk.sortedS (ns:=bs) (hR.lt _ _ _ _ h1 hp) kD m2 k1 hbn (fun n hn=>?_) (fun x hx=>?_) ?_ (by omega)).mono ?_⟩
 .have:n.map UInt8.toNat∈bs.map (List.map UInt8.toNat):=List.mem_map.2 ⟨n,hn,rfl⟩;rw[k3]at this;obtain⟨e,he,q⟩:=List.mem_map.1 this;have h:=(h4 e he).2;rw[q,List.length_map]at h;exact h
 .have:x.born∈ES.toList.map (·.born):=List.mem_map.2 ⟨x,hx,rfl⟩;rw[k2]at this;obtain⟨e,he,q⟩:=List.mem_map.1 this;rw[<-q];exact h3.1 e he
 .rw[k2];exact List.pairwise_map.2 h3.2
 .rintro e w' ⟨v',ss,rfl,hss,⟨r1,r2⟩,r3,r4⟩;have ua:(ss.mergeSort leB).map (List.map UInt8.toNat)=iV es:=by unfold iV;rw[rise_eq hss,k3]
  have ml:(iV es).length=es.length:=by unfold iV;rw[List.length_mergeSort,List.length_map]
  obtain⟨so,hso⟩:∃so,so=ss.mergeSort leB:=⟨_,rfl⟩
  rw[<-hso]at ua r1 r2;have yM:so.length=es.length:=by rw[<-ml,<-ua,List.length_map]
  cases hl:iV es with
  |nil=>
   rw[hl]at hq;cases hq;rw[hl]at ml;have pA:v'=.slice none 0 0:=r3.2 (by rw[<-List.length_eq_zero_iff,tz];exact ml.symm);obtain⟨q1,q2⟩:=hR.below r4;exact⟨_,ρ,rfl,by simp only[ah];exact pA,q1,q2⟩
  |cons x l=>
   rw[hl]at hq;cases hq;rw[hl]at ml ua;rcases r2 with⟨_,hz⟩|⟨g,cap,cur,rfl,c1,c2,c3,c4,c5,c6⟩
   .simp at ml;omega
   .have hle:es.length=l.length+1:=by rw[<-ml];rfl
    have hc6:cur.toList.take (l.length+1)=so.map encStr:=by
     rw[Nat.mul_one,tz,hle]at c6;exact c6
    have hn:(lR (x::l)).length=l.length+1:=by simp[lR]
    obtain⟨ρ',p2,d1,d2,d3,d4,d5,d6,d7⟩:=hR.Ei (cells:=lR (x::l)) r4 c1 c2 (by rw[hn,hc6,<-ua];exact Dn _) (by rw[hn];omega) (fun v hv=>by
     rw[hn,hc6]at hv;obtain⟨n,_,rfl⟩:=List.mem_map.1 hv;rfl)
    refine⟨_,ρ',rfl,?_,d6,d7⟩;simp only[ah];refine⟨p2,cap,d1,by rw[d4,hn];exact Nat.le_refl _,by omega,by decide,by omega,.inl ⟨by rw[d2,d3,tz,hle],by rw[d3,d5];omega,fun k hk=>by cases hk⟩⟩
open Go Go.Am
def AI:Prop:=∀Λ:LB,fw Λ Tryz.prog 12 (Aw true)
open Classical in
def uJ(vs:List AV)(S:AS):Option (AV×AS):=if AI then Aw true vs S else none
theorem wakeQ_ok{Λ:LB}:fw Λ Tryz.prog 12 uJ:=by
 intro ρ vs S w args v S' hR hl hq;unfold uJ at hq;split at hq
 .rename_i h;exact h Λ ρ vs S w args v S' hR hl hq
 .cases hq
abbrev A0:Am.Ask:={eqs:=[100,52,38,37],dE:=[(12,uJ),(55,q55),(161,srt.qG)]}
abbrev C0:Am.Cx:=Am.vf Tryz.prog A0
theorem qy(f:Nat):C0.exts.get f=none:=fD f
theorem ym(f:Nat)(h:(f==12||f==55||f==161)=false):C0.dE.get f=none:=by
 simp only[Bool.or_eq_false_iff,beq_eq_false_iff_ne]at h;show ((((T.leaf:T (List AV->AS->Option (AV×AS))).set 12 uJ).set 55 q55).set 161 srt.qG).get f=none;rw[ae _ _ h.2,ae _ _ h.1.2,ae _ _ h.1.1];exact fD f
theorem zF(f:Nat):C0.jS.get f=none:=fD f
theorem get12(h:AI):C0.dE.get 12=some (Aw true):=by
 have e:uJ=Aw true:=by funext vs S;exact if_pos h
 show ((((T.leaf:T (List AV->AS->Option (AV×AS))).set 12 uJ).set 55 q55).set 161 srt.qG).get 12=_;rw[ae _ _ (by decide),ae _ _ (by decide),aa,e]
theorem get55:C0.dE.get 55=some q55:=by
 show ((((T.leaf:T (List AV->AS->Option (AV×AS))).set 12 uJ).set 55 q55).set 161 srt.qG).get 55=_;rw[ae _ _ (by decide)];exact aa _ _ _
theorem BZ:C0.dE.get 161=some srt.qG:=by
 show ((((T.leaf:T (List AV->AS->Option (AV×AS))).set 12 uJ).set 55 q55).set 161 srt.qG).get 161=_;exact aa _ _ _
theorem cf{S:AS}{o:dr}:Sub S ⟨S.h.set S.next o,S.next+1⟩:=(Sub.refl S).set _ _ (Nat.le_refl _) _ (Nat.le_succ _)
theorem fO{S:AS}{o o':dr}:Sub S ⟨(S.h.set S.next o).set S.next o',S.next+1⟩:=cf.set _ _ (Nat.le_refl _) _ (Nat.le_refl _)
end Go.Proofs.YtdknlbnljfdhgaaGreatDoor.seg
end
