/-
  The context of the shell's proofs.
-/
import Derived.Test.YthklfandhmkpiaaGreatDoorRows
import Derived.Test.YthklfandhmkpiaaGreatDoorAmArgs
import Derived.Test.YthklfandhmkpiaaGreatDoorAmWide
import Derived.Test.YthklfandhmkpiaaGreatDoorAmSet
import Derived.IntWalk
open List renaming length_append->zza,append_assoc->zzb,getElem?_cons_zero->zzc,getElem?_cons_succ->zzd,getElem?_eq_getElem->zzh,getElem_mem->zzi,take_of_length_le->zzm,take_succ_eq_append_getElem->zzo,any_eq_false->zzp
open Bool renaming and_eq_true->zze
open Option renaming getD_some->zzf
open Nat renaming lt_succ_self->zzg,mul_le_mul_right->zzj,le_succ->zzk,le_trans->zzl,le_refl->zzn,zero_le->zzq,pow->zzr,min->zzs
set_option linter.unusedVariables false
set_option linter.unusedSimpArgs false
set_option maxRecDepth 20000
noncomputable section
namespace Go.Am
open Go
abbrev okF(cx:Cx)(f:Func):Bool:=codeOk cx f.ntmps (f.body.getD .skip)
theorem bD{cx:Cx}{f:FuncId}{fn:Func}{c:Code}{a0:AV}{l:List AV}{S:AS}{Q:AV->AS->Prop}(hu:cx.kU.get f=none)(hp:cx.fi.get f=none)(hf:cx.fns.get f=some fn)(hb:fn.body=some c)(hc:codeOk cx fn.ntmps c=true)(hn:(a0::l).length<=fn.ntmps)(h:∀F:Fr,F.n=fn.ntmps->sl F 0=a0->kE cx c F S (zA cx fn Q)):az cx f (a0::l) S Q:=ej hu hp hf hb hc hn fun F hn hs=>h F hn (hs 0)
theorem bu{cx:Cx}{f:FuncId}{fn:Func}{c:Code}{a0 a1:AV}{l:List AV}{S:AS}{Q:AV->AS->Prop}(hu:cx.kU.get f=none)(hp:cx.fi.get f=none)(hf:cx.fns.get f=some fn)(hb:fn.body=some c)(hc:codeOk cx fn.ntmps c=true)(hn:(a0::a1::l).length<=fn.ntmps)(h:∀F:Fr,F.n=fn.ntmps->sl F 0=a0->sl F 1=a1->kE cx c F S (zA cx fn Q)):az cx f (a0::a1::l) S Q:=ej hu hp hf hb hc hn fun F hn hs=>h F hn (hs 0) (hs 1)
theorem enter3{cx:Cx}{f:FuncId}{fn:Func}{c:Code}{a0 a1 a2:AV}{l:List AV}{S:AS}{Q:AV->AS->Prop}(hu:cx.kU.get f=none)(hp:cx.fi.get f=none)(hf:cx.fns.get f=some fn)(hb:fn.body=some c)(hc:codeOk cx fn.ntmps c=true)(hn:(a0::a1::a2::l).length<=fn.ntmps)(h:∀F:Fr,F.n=fn.ntmps->sl F 0=a0->sl F 1=a1->sl F 2=a2->kE cx c F S (zA cx fn Q)):az cx f (a0::a1::a2::l) S Q:=ej hu hp hf hb hc hn fun F hn hs=>h F hn (hs 0) (hs 1) (hs 2)
end Go.Am
namespace Go.Proofs.YthklfandhmkpiaaGreatDoor.sh
open Go Go.Am
def db32:List Int:=[0,1,28,2,29,14,24,3,30,22,20,15,25,17,4,8,31,27,13,23,21,19,16,7,26,12,18,6,11,5,10,9]
def db64:List Int:=[0,1,56,2,57,49,28,3,61,58,42,50,38,29,17,4,62,47,59,36,45,43,51,22,53,39,33,30,24,18,12,5,63,55,48,27,60,41,37,16,46,35,44,21,52,32,23,11,54,26,40,15,34,20,31,10,25,14,19,9,13,8,7,6]
def p10:List Int:=[1,10,100,1000,10000,100000,1000000,10000000,100000000,1000000000,10000000000,100000000000,1000000000000,10000000000000,100000000000000,1000000000000000,10000000000000000,100000000000000000,1000000000000000000,10000000000000000000]
abbrev A9:Am.Ask:={
 eqs:=[92,95,77,45,100,78],
 exts:=[(256,.kr),(130,.ident),(150,.m9),(218,.qk),(224,.mX 5)],
 eZ:=[(6,db32.map (AV.int .u8)),(7,db64.map (AV.int .u8)),(3,p10.map (AV.int .u64)),(2,[.iface 303 .top]),(1,[.iface 303 .top])]}
def GlobsAt(Λ:LB):Prop:=∀x,x∈A9.eZ->gu Λ.w Λ.B x.1 x.2
def EI:Prop:=∀Λ:LB,GlobsAt Λ->kD Λ Tryz.prog 15 (Ek true)
open Classical in
def sT(vs:List AV)(S:AS):Option (AV×AS):=if EI then Ek true vs S else none
theorem wakeQ_ok{Λ:LB}(hg:GlobsAt Λ):kD Λ Tryz.prog 15 sT:=by
 intro ρ vs S w args v S' hR hl hq;unfold sT at hq;split at hq
 .rename_i h;exact h Λ hg ρ vs S w args v S' hR hl hq
 .cases hq
def cd(k:Int):List Nat:=
 if k=1 then [97,100,118,101,114,116,105,115,101] else if k=2 then [119,105,116,104,100,114,97,119] else if k=3 then [112,117,98,108,105,115,104]
 else if k=4 then [115,117,98,115,99,114,105,98,101] else if k=5 then [117,110,115,117,98,115,99,114,105,98,101] else if k=6 then [97,99,107]
 else if k=7 then [114,101,116,97,105,110] else if k=8 then [99,111,109,112,97,99,116] else if k=9 then [116,105,99,107] else if k=10 then [99,108,111,99,107]
 else if k=11 then [99,97,114,114,121] else if k=12 then [100,114,111,112] else if k=13 then [100,111,117,98,108,101] else if k=14 then [99,114,97,115,104]
 else if k=15 then [102,117,115,101] else if k=16 then [113,117,111,116,97] else []
def yM(vs:List AV)(S:AS):Option (AV×AS):=match vs with|[.int .i64 k]=>some (.str (cd k),S)|_=>none
def Names:Prop:=∀Λ:LB,kD Λ Tryz.prog 51 yM
open Classical in
def th(vs:List AV)(S:AS):Option (AV×AS):=if Names then yM vs S else none
theorem nameQ_ok{Λ:LB}:kD Λ Tryz.prog 51 th:=by
 intro ρ vs S w args v S' hR hl hq;unfold th at hq;split at hq
 .rename_i h;exact h Λ ρ vs S w args v S' hR hl hq
 .cases hq
abbrev A0:Am.Ask:={
 eqs:=[92,95,77,45,100,78],
 exts:=[(256,.kr),(130,.ident),(150,.m9),(218,.qk),(224,.mX 5)],
 eZ:=[(6,db32.map (AV.int .u8)),(7,db64.map (AV.int .u8)),(3,p10.map (AV.int .u64)),(2,[.iface 303 .top]),(1,[.iface 303 .top])],
 fi:=[(15,sT),(51,th)]}
abbrev C0:Am.Cx:=Am.sd Tryz.prog A0
@[simp] def exB(f:Nat):Bool:=f==256||f==130||f==150||f==218||f==224
theorem aK(f:Nat)(h:exB f=false):C0.exts.get f=none:=by
 simp only[exB,Bool.or_eq_false_iff,beq_eq_false_iff_ne]at h;obtain⟨⟨⟨⟨h1,h2⟩,h3⟩,h4⟩,h5⟩:=h;show ((((((T.leaf:T Xf).set 256 .kr).set 130 .ident).set 150 .m9).set 218 .qk).set 224 (.mX 5)).get f=none;rw[ah _ _ h5,ah _ _ h4,ah _ _ h3,ah _ _ h2,ah _ _ h1];exact fj f
theorem ex63:C0.exts.get 130=some .ident:=by kernel_rfl
theorem DP:C0.exts.get 256=some .kr:=by kernel_rfl
theorem exNoz:C0.exts.get 224=some (.mX 5):=by kernel_rfl
@[simp] def prB(f:Nat):Bool:=f==15||f==51
theorem dF(f:Nat)(h:prB f=false):C0.fi.get f=none:=by
 simp only[prB,Bool.or_eq_false_iff,beq_eq_false_iff_ne]at h;show (((T.leaf:T (List AV->AS->Option (AV×AS))).set 15 sT).set 51 th).get f=none;rw[ah _ _ h.2,ah _ _ h.1];exact fj f
theorem get51(h:Names):C0.fi.get 51=some yM:=by
 show (((T.leaf:T (List AV->AS->Option (AV×AS))).set 15 sT).set 51 th).get 51=_;rw[get_set_same];have:th=yM:=by
  funext vs S;unfold th;rw[if_pos h]
 rw[this]
theorem get15(h:EI):C0.fi.get 15=some (Ek true):=by
 show (((T.leaf:T (List AV->AS->Option (AV×AS))).set 15 sT).set 51 th).get 15=_;rw[ah _ _ (by decide),get_set_same];have:sT=Ek true:=by
  funext vs S;unfold sT;rw[if_pos h]
 rw[this]
theorem dL(f:Nat):C0.kU.get f=none:=fj f
theorem name51(h:Names)(k:Int){S:AS}{Q:AV->AS->Prop}:az C0 51 [.int .i64 k] S Q=Q (.str (cd k)) S:=ql (q:=yM) (get51 h) (dL _) rfl rfl
theorem awake15(h:EI){S:AS}{Q:AV->AS->Prop}:az C0 15 [] S Q=Q (.bool true) S:=ql (q:=Ek true) (get15 h) (dL _) rfl rfl
end Go.Proofs.YthklfandhmkpiaaGreatDoor.sh
namespace Go.Proofs.YthklfandhmkpiaaGreatDoor.mod
open Go Go.Am
abbrev A0:Am.Ask:=Go.Proofs.YthklfandhmkpiaaGreatDoor.sh.A0
abbrev C0:Am.Cx:=Go.Proofs.YthklfandhmkpiaaGreatDoor.sh.C0
abbrev exB:Nat->Bool:=Go.Proofs.YthklfandhmkpiaaGreatDoor.sh.exB
theorem aK(f:Nat)(h:Go.Proofs.YthklfandhmkpiaaGreatDoor.sh.exB f=false):C0.exts.get f=none:=Go.Proofs.YthklfandhmkpiaaGreatDoor.sh.aK f h
theorem ex63:C0.exts.get 130=some .ident:=Go.Proofs.YthklfandhmkpiaaGreatDoor.sh.ex63
theorem DP:C0.exts.get 256=some .kr:=Go.Proofs.YthklfandhmkpiaaGreatDoor.sh.DP
theorem dF(f:Nat)(h:Go.Proofs.YthklfandhmkpiaaGreatDoor.sh.prB f=false):C0.fi.get f=none:=Go.Proofs.YthklfandhmkpiaaGreatDoor.sh.dF f h
theorem dL(f:Nat):C0.kU.get f=none:=fj f
@[simp] theorem ag3:aX C0 3=some false:=by kernel_rfl
@[simp] theorem sz3:aH C0 3=some 1:=by kernel_rfl
@[simp] theorem ag31:aX C0 38=some false:=by kernel_rfl
@[simp] theorem sz31:aH C0 38=some 1:=by kernel_rfl
@[simp] theorem cv3_31:kq C0 3 38=some .u64:=by kernel_rfl
@[simp] theorem ag9:aX C0 9=some false:=by kernel_rfl
@[simp] theorem sz9:aH C0 9=some 1:=by kernel_rfl
@[simp] theorem ag24:aX C0 40=some false:=by kernel_rfl
@[simp] theorem sz24:aH C0 40=some 1:=by kernel_rfl
@[simp] theorem ag4:aX C0 4=some false:=by kernel_rfl
@[simp] theorem sz4:aH C0 4=some 1:=by kernel_rfl
@[simp] theorem st92:n9 C0 72=some (77,2,16):=by kernel_rfl
@[simp] theorem ag132:aX C0 77=some true:=by kernel_rfl
@[simp] theorem sz132:aH C0 77=some 2:=by kernel_rfl
@[simp] theorem ze132:zeroOf C0 77=some (.agg [.int .i64 0,.int .u64 0])/\fieldAt C0 77 0=some 0/\fieldAt C0 77 1=some 1:=by and_intros<;>kernel_rfl
theorem fn71:C0.fns.get 53=some Tryz.f53:=by kernel_rfl
theorem ok71:okF C0 Tryz.f53=true:=by kernel_rfl
@[simp] theorem st24:n9 C0 40=some (98,7,88)/\fieldAt C0 98 3=some 6:=by and_intros<;>kernel_rfl
@[simp] theorem zI:aX C0 96=some false:=by kernel_rfl
@[simp] theorem yj:aH C0 96=some 1:=by kernel_rfl
@[simp] theorem ag92:aX C0 72=some false:=by kernel_rfl
@[simp] theorem un92:bJ C0 72=some (.slice 77):=by kernel_rfl
theorem fn74:C0.fns.get 31=some Tryz.f31:=by kernel_rfl
theorem ok74:okF C0 Tryz.f31=true:=by kernel_rfl
@[simp] theorem ag102:aX C0 92=some true:=by kernel_rfl
@[simp] theorem sz102:aH C0 92=some 4:=by kernel_rfl
@[simp] theorem ze102:zeroOf C0 92=some (.agg [.int .i64 0,.int .i64 0,.str [],.bool false]):=by kernel_rfl
theorem fn76:C0.fns.get 103=some Tryz.f103:=by kernel_rfl
theorem ok76:okF C0 Tryz.f103=true:=by kernel_rfl
@[simp] theorem fa105_0:fieldAt C0 98 0=some 0:=by kernel_rfl
@[simp] theorem ag105:aX C0 98=some true:=by kernel_rfl
@[simp] theorem sz105:aH C0 98=some 7:=by kernel_rfl
theorem fn124:C0.fns.get 104=some Tryz.f104:=by kernel_rfl
theorem ok124:okF C0 Tryz.f104=true:=by kernel_rfl
theorem fn125:C0.fns.get 105=some Tryz.f105:=by kernel_rfl
theorem ok125:okF C0 Tryz.f105=true:=by kernel_rfl
@[simp] theorem fa105_2:fieldAt C0 98 2=some 2/\fieldAt C0 98 1=some 1/\n9 C0 96=some (92,4,40)/\fieldAt C0 92 0=some 0:=by and_intros<;>kernel_rfl
theorem fn128:C0.fns.get 136=some Tryz.f136:=by kernel_rfl
theorem ok128:okF C0 Tryz.f136=true:=by kernel_rfl
@[simp] theorem sz92:aH C0 72=some 1:=by kernel_rfl
theorem fn156:C0.fns.get 137=some Tryz.f137:=by kernel_rfl
theorem ok156:okF C0 Tryz.f137=true:=by kernel_rfl
theorem fn157:C0.fns.get 138=some Tryz.f138:=by kernel_rfl
theorem ok157:okF C0 Tryz.f138=true:=by kernel_rfl
theorem fn158:C0.fns.get 107=some Tryz.f107:=by kernel_rfl
theorem ok158:okF C0 Tryz.f107=true:=by kernel_rfl
@[simp] theorem ze2:zeroOf C0 2=some (.int .i64 0):=by kernel_rfl
@[simp] theorem conc2:rA C0 2=true:=by kernel_rfl
@[simp] theorem ze9:zeroOf C0 9=some (.str []):=by kernel_rfl
@[simp] theorem conc9:rA C0 9=true:=by kernel_rfl
@[simp] theorem ze4:zeroOf C0 4=some (.bool false):=by kernel_rfl
@[simp] theorem conc4:rA C0 4=true:=by kernel_rfl
@[simp] theorem fa102_1:fieldAt C0 92 1=some 1:=by kernel_rfl
@[simp] theorem ag2:aX C0 2=some false:=by kernel_rfl
@[simp] theorem sz2:aH C0 2=some 1:=by kernel_rfl
@[simp] theorem fa102_2:fieldAt C0 92 2=some 2/\fieldAt C0 92 3=some 3:=by and_intros<;>kernel_rfl
theorem fn189:C0.fns.get 184=some Tryz.f184:=by kernel_rfl
theorem ok189:okF C0 Tryz.f184=true:=by kernel_rfl
theorem fn190:C0.fns.get 141=some Tryz.f141:=by kernel_rfl
theorem ok190:okF C0 Tryz.f141=true:=by kernel_rfl
theorem fn191:C0.fns.get 142=some Tryz.f142:=by kernel_rfl
theorem ok191:okF C0 Tryz.f142=true:=by kernel_rfl
theorem fn192:C0.fns.get 143=some Tryz.f143:=by kernel_rfl
theorem ok192:okF C0 Tryz.f143=true:=by kernel_rfl
def px{α:Type}(P:α->Bool)(l:List α):Int:=match l.findIdx? P with|some i=>(i:Int)|none=>-1
theorem oY{α:Type}{P:α->Bool}{l:List α}(h:∀x,x∈l->P x=false):px P l=-1:=by
 unfold px;rw[List.findIdx?_eq_none_iff.2 h]
theorem ue{α:Type}{P:α->Bool}{l:List α}{i:Nat}{x:α}(h:l[i]?=some x)(hp:P x=true)(ha:∀x,x∈l.take i->P x=false):px P l=i:=by
 obtain⟨hi,rfl⟩:=List.getElem?_eq_some_iff.1 h;have:l.findIdx? P=some i:=by
  rw[List.findIdx?_eq_some_iff_getElem];refine⟨hi,hp,fun j hj=>?_⟩;have:=ha l[j] (List.mem_take_iff_getElem.2 ⟨j,by omega,rfl⟩);simp[this]
 unfold px;rw[this]
theorem ri{α:Type}{P:α->Bool}{l:List α}:decide (0<=px P l)=l.any P:=by
 unfold px;cases h:l.findIdx? P with
 |none=>
  have:=List.findIdx?_eq_none_iff.1 h;have h2:l.any P=false:=by rw[zzp];intro x hx;simp[this x hx]
  rw[h2];rfl
 |some i=>
  obtain⟨hi,hp,_⟩:=List.findIdx?_eq_some_iff_getElem.1 h;have h2:l.any P=true:=List.any_eq_true.2 ⟨l[i],zzi hi,hp⟩;rw[h2];simp
theorem iF{α:Type}{P:α->Bool}{l:List α}{i:Nat}{x:α}(h:l[i]?=some x)(hp:P x=false)(ha:∀x,x∈l.take i->P x=false):∀x,x∈l.take (i+1)->P x=false:=by
 obtain⟨hi,rfl⟩:=List.getElem?_eq_some_iff.1 h;intro y hy;rw[zzo hi]at hy;rcases List.mem_append.1 hy with hy|hy
 .exact ha y hy
 .simp at hy;subst hy;exact hp
def idxH{α:Type}(S:AS)(u g:AV)(l:List α)(P:α->Bool)(k:Nat)(F':Fr)(S':AS):Prop:=
 ∃i:Nat,Sub S S'/\sl F' 0=u/\sl F' 1=g/\sl F' 7=.int .i64 l.length/\sl F' 8=.int .i64 i/\i<=l.length/\k=l.length-i/\∀x,x∈l.take i->P x=false
theorem mZ{α:Type}{S:AS}{u g:AV}{l:List α}{P:α->Bool}{k:Nat}{F':Fr}{S':AS}(i:Nat)(h1:Sub S S')(h2:sl F' 0=u)(h3:sl F' 1=g)(h4:sl F' 7=.int .i64 l.length)(h5:sl F' 8=.int .i64 i)(h6:i<=l.length)(h7:k=l.length-i)(h8:∀x,x∈l.take i->P x=false):idxH S u g l P k F' S':=
 ⟨i,h1,h2,h3,h4,h5,h6,h7,h8⟩
theorem idx128{α:Type}{enc:α->List AV}{S:AS}{u:AV}{l:List α}{f:FuncId}{caps:List AV}{P:α->Bool}(hz:∀x,(enc x).length=7)(h:Sl S u 7 (l.flatMap enc))(hb:l.length<=9223372036854775807)(hf:exB f=false)
  (hc:∀T,Sub S T->∀x,x∈l->az C0 f (.agg (enc x)::caps) T fun v T'=>v=.bool (P x)/\Sub T T') :
  az C0 136 [u,.func (.func f) [] caps] S fun v T=>v=.int .i64 (px P l)/\Sub S T:=by
 refine bu (dL _) (dF _ rfl) fn128 rfl ok128 (by simp) fun F hn s0 s1=>?_;have u1:=h.sl;have u2:=h.bj hz (by omega);simp[s0,s1,u1,u2];refine aW (idxH S u (.func (.func f) [] caps) l P) l.length (mZ 0 (Sub.refl S) (by simp[s0]) (by simp[s1]) (by simp) (by simp) (zzq _) rfl (by simp)) ?_;rintro k F' S' ng ⟨i,ez,t0,t1,t7,t8,hi,hk,ha⟩;clear ng s0 s1 hn;by_cases ck:i<l.length
 .have hx:l[i]?=some l[i]:=zzh ck;have hl:=bh (cx:=C0) (e:=98) (h.toSub ez) hz (by omega) hx ag105 sz105;obtain⟨v,T',⟨rfl,hs⟩,e⟩:=(hc S' ez l[i] (zzi ck)).ex;cases hp:P l[i]with
  |true=>simp[t0,t1,t7,t8,u1,u2,ck,hl,e,hp,aK f hf,ez.trans hs,ue hx hp ha]
  |false=>
   simp[t0,t1,t7,t8,u1,u2,ck,hl,e,hp,aK f hf];exact⟨l.length-(i+1),by omega,mZ (i+1) (ez.trans hs) (by simp[t0]) (by simp[t1]) (by simp[t7]) (by simp[fV (show i<9223372036854775807 by omega)]) ck rfl (iF hx hp ha)⟩
 .have kL:∀x,x∈l->P x=false:=fun x hx=>ha x (by rw[zzm (by omega)];exact hx);simp[t7,t8,ck,oY kL,ez]
theorem con76{α:Type}{enc:α->List AV}{S:AS}{u:AV}{l:List α}{f:FuncId}{caps:List AV}{P:α->Bool}(hz:∀x,(enc x).length=7)(h:Sl S u 7 (l.flatMap enc))(hb:l.length<=9223372036854775807)(hf:exB f=false)
  (hc:∀T,Sub S T->∀x,x∈l->az C0 f (.agg (enc x)::caps) T fun v T'=>v=.bool (P x)/\Sub T T') :
  az C0 103 [u,.func (.func f) [] caps] S fun v T=>v=.bool (l.any P)/\Sub S T:=by
 obtain⟨v,T,⟨rfl,hs⟩,e⟩:=(idx128 hz h hb hf hc).ex;refine bu (dL _) (dF _ rfl) fn76 rfl ok76 (by simp) fun F hn s0 s1=>?_;simp[s0,s1,e,aK,hs,ri]
theorem idx189{α:Type}{enc:α->List AV}{S:AS}{u:AV}{l:List α}{f:FuncId}{caps:List AV}{P:α->Bool}(hz:∀x,(enc x).length=4)(h:Sl S u 4 (l.flatMap enc))(hb:l.length<=9223372036854775807)(hf:exB f=false)
  (hc:∀T,Sub S T->∀x,x∈l->az C0 f (.agg (enc x)::caps) T fun v T'=>v=.bool (P x)/\Sub T T') :
  az C0 184 [u,.func (.func f) [] caps] S fun v T=>v=.int .i64 (px P l)/\Sub S T:=by
 refine bu (dL _) (dF _ rfl) fn189 rfl ok189 (by simp) fun F hn s0 s1=>?_;have u1:=h.sl;have u2:=h.bj hz (by omega);simp[s0,s1,u1,u2];refine aW (idxH S u (.func (.func f) [] caps) l P) l.length (mZ 0 (Sub.refl S) (by simp[s0]) (by simp[s1]) (by simp) (by simp) (zzq _) rfl (by simp)) ?_;rintro k F' S' ng ⟨i,ez,t0,t1,t7,t8,hi,hk,ha⟩;clear ng s0 s1 hn;by_cases ck:i<l.length
 .have hx:l[i]?=some l[i]:=zzh ck;have hl:=bh (cx:=C0) (e:=92) (h.toSub ez) hz (by omega) hx ag102 sz102;obtain⟨v,T',⟨rfl,hs⟩,e⟩:=(hc S' ez l[i] (zzi ck)).ex;cases hp:P l[i]with
  |true=>simp[t0,t1,t7,t8,u1,u2,ck,hl,e,hp,aK f hf,ez.trans hs,ue hx hp ha]
  |false=>
   simp[t0,t1,t7,t8,u1,u2,ck,hl,e,hp,aK f hf];exact⟨l.length-(i+1),by omega,mZ (i+1) (ez.trans hs) (by simp[t0]) (by simp[t1]) (by simp[t7]) (by simp[fV (show i<9223372036854775807 by omega)]) ck rfl (iF hx hp ha)⟩
 .have kL:∀x,x∈l->P x=false:=fun x hx=>ha x (by rw[zzm (by omega)];exact hx);simp[t7,t8,ck,oY kL,ez]
theorem con156{α:Type}{enc:α->List AV}{S:AS}{u:AV}{l:List α}{f:FuncId}{caps:List AV}{P:α->Bool}(hz:∀x,(enc x).length=4)(h:Sl S u 4 (l.flatMap enc))(hb:l.length<=9223372036854775807)(hf:exB f=false)
  (hc:∀T,Sub S T->∀x,x∈l->az C0 f (.agg (enc x)::caps) T fun v T'=>v=.bool (P x)/\Sub T T') :
  az C0 137 [u,.func (.func f) [] caps] S fun v T=>v=.bool (l.any P)/\Sub S T:=by
 obtain⟨v,T,⟨rfl,hs⟩,e⟩:=(idx189 hz h hb hf hc).ex;refine bu (dL _) (dF _ rfl) fn156 rfl ok156 (by simp) fun F hn s0 s1=>?_;simp[s0,s1,e,aK,hs,ri]
structure kH where
 kind:Int
 num:Int
 str:List Nat
 bool:Bool
def bq(v:kH):List AV:=[.int .i64 v.kind,.int .i64 v.num,.str v.str,.bool v.bool]
theorem dJ(v:kH):(bq v).length=4:=rfl
@[simp] theorem bld102a(n:Int):eT C0 92 [(0,.int .i64 1),(1,.int .i64 n)]=some (.agg [.int .i64 1,.int .i64 n,.str [],.bool false]):=by kernel_rfl
@[simp] theorem bld102b(s:List Nat):eT C0 92 [(0,.int .i64 2),(2,.str s)]=some (.agg [.int .i64 2,.int .i64 0,.str s,.bool false]):=by kernel_rfl
@[simp] theorem bld102c(b:Bool):eT C0 92 [(0,.int .i64 3),(3,.bool b)]=some (.agg [.int .i64 3,.int .i64 0,.str [],.bool b]):=by kernel_rfl
@[simp] theorem bld102d:eT C0 92 []=some (.agg [.int .i64 0,.int .i64 0,.str [],.bool false]):=by kernel_rfl
theorem dc{S:AS}{o:dp}:Sub S ⟨S.h.set S.nx o,S.nx+1⟩:=(Sub.refl S).set _ _ (zzn _) _ (zzk _)
theorem eb{S:AS}{o o':dp}:Sub S ⟨(S.h.set S.nx o).set S.nx o',S.nx+1⟩:=dc.set _ _ (zzn _) _ (zzn _)
theorem pY{S:AS}{o o':dp}:Sub S ⟨(S.h.set S.nx o).set (S.nx+1) o',S.nx+2⟩:=dc.set _ _ (zzk _) _ (zzk _)
theorem number(n:Int)(S:AS):az C0 31 [.int .i64 n] S fun v T=>v=.agg [.int .i64 1,.int .i64 n,.str [],.bool false]/\Sub S T:=by
 refine bD (dL _) (dF _ rfl) fn74 rfl ok74 (by simp) fun F hn s0=>?_;simp[s0,eb]
theorem word(s:List Nat)(S:AS):az C0 142 [.str s] S fun v T=>v=.agg [.int .i64 2,.int .i64 0,.str s,.bool false]/\Sub S T:=by
 refine bD (dL _) (dF _ rfl) fn191 rfl ok191 (by simp) fun F hn s0=>?_;simp[s0,eb]
theorem truth(b:Bool)(S:AS):az C0 143 [.bool b] S fun v T=>v=.agg [.int .i64 3,.int .i64 0,.str [],.bool b]/\Sub S T:=by
 refine bD (dL _) (dF _ rfl) fn192 rfl ok192 (by simp) fun F hn s0=>?_;simp[s0,eb]
def AU(v:kH):AV:=if v.kind=1 then .iface 2 (.int .i64 v.num) else if v.kind=2 then .iface 9 (.str v.str) else if v.kind=3 then .iface 4 (.bool v.bool) else .bS
theorem has(v:kH)(S:AS):az C0 141 [.agg (bq v)] S fun r T=>r=AU v/\Sub S T:=by
 refine ej (dL _) (dF _ rfl) fn190 rfl ok190 (by simp) fun F hn hs=>?_;have s0:=hs 0;clear hs;simp only[zzc,zzf,bq]at s0;unfold AU;by_cases h1:v.kind=1
 .simp[s0,h1,dc]
 by_cases h2:v.kind=2
 .simp[s0,h2,dc]
 by_cases h3:v.kind=3
 .simp[s0,h3,dc]
 simp[s0,h1,h2,h3,dc]
def gv(a b:kH):Bool:=decide (a.kind=b.kind)&&(decide (a.num=b.num)&&(ph a.str b.str&&(a.bool==b.bool)))
def fB(a r:Option Bool):Option Bool:=match a with|some true=>r|x=>x
theorem eqv102(c:Bool)(a b:kH):bI C0 .eql 92 c (.agg (bq a)) (.agg (bq b))=some (.bool (gv a b)):=by
 obtain⟨ak,an,ax,ab⟩:=a;obtain⟨bk,bn,bx,bb⟩:=b;refine oJ ?_;have e:qh C0 92 c (.agg [.int .i64 ak,.int .i64 an,.str ax,.bool ab]) (.agg [.int .i64 bk,.int .i64 bn,.str bx,.bool bb]) =
   fB (some (pP ak bk)) (fB (some (pP an bn)) (fB (some (ph ax bx)) (fB (some (ab==bb)) (some true)))):=by kernel_rfl
 simp only[bq];rw[e,cQ,cQ];unfold gv fB;cases decide (ak=bk)<;>cases decide (an=bn)<;>cases ph ax bx<;>cases (ab==bb)<;>rfl
theorem gO(c:Bool)(ak an:Int)(ax:List Nat)(ab:Bool)(bk bn:Int)(bx:List Nat)(bb:Bool):
  bI C0 .eql 92 c (.agg [.int .i64 ak,.int .i64 an,.str ax,.bool ab]) (.agg [.int .i64 bk,.int .i64 bn,.str bx,.bool bb])=some (.bool (gv ⟨ak,an,ax,ab⟩ ⟨bk,bn,bx,bb⟩)):=eqv102 c ⟨ak,an,ax,ab⟩ ⟨bk,bn,bx,bb⟩
def dR(v:kH):Bool:=
 if v.kind=1 then gv v ⟨1,v.num,[],false⟩ else if v.kind=2 then gv v ⟨2,0,v.str,false⟩&&decide (v.str.length<=32) else if v.kind=3 then gv v ⟨3,0,[],v.bool⟩ else false
theorem nt158:Tryz.f107.ntmps=34:=by kernel_rfl
theorem wP:bJ C0 9=some .string:=by kernel_rfl
theorem mayIs(v:kH)(S:AS):az C0 107 [.agg (bq v)] S fun r T=>r=.bool (dR v)/\Sub S T:=by
 obtain⟨u,T,⟨rfl,hT⟩,e⟩:=(has v ⟨S.h.set S.nx (.row (bq v) 0 0 false 92),S.nx+1⟩).ex;have kW:Sub S T:=Sub.trans dc hT;have g0:T.h.get S.nx=some (.row (bq v) 0 0 false 92):=by
  rw[hT.h _ (zzg _)];exact get_set_same _ _ _
 have AY:S.nx<T.nx:=hT.nx;refine ej (dL _) (dF _ rfl) fn158 rfl ok158 (by simp) fun F hn hs=>?_;rw[nt158]at hn;have s0:=hs 0;clear hs;obtain⟨k,n,s,b⟩:=v;simp only[zzc,zzd,zzf,bq,AU]at s0 e g0;unfold dR;by_cases h1:k=1
 .subst h1;obtain⟨r1,T1,⟨rfl,BM⟩,e1⟩:=(number n T).ex;have g1:T1.h.get S.nx=some (.row [.int .i64 1,.int .i64 n,.str s,.bool b] 0 0 false 92):=by rw[BM.h _ AY];exact g0
  simp[s0,aK,e,g0,hn];refine bg [.r 0 1,.p,.e [],.p,.p] (n:=34) (by kernel_rfl) (by simp[hn]) ?_;simp[s0,aK,e,e1,g0,g1,gO,kW.trans BM]
 by_cases h2:k=2
 .subst h2;simp at e;obtain⟨r1,T1,⟨rfl,BM⟩,e1⟩:=(word s T).ex;have g1:T1.h.get S.nx=some (.row [.int .i64 2,.int .i64 n,.str s,.bool b] 0 0 false 92):=by rw[BM.h _ AY];exact g0
  simp[s0,aK,e,g0,hn];refine bg [.r 0 1,.p,.e [],.p,.p,.p,.r 0 0,.p,.p,.p] (n:=34) (by kernel_rfl) (by simp[hn]) ?_;cases hb:gv ⟨2,n,s,b⟩ ⟨2,0,s,false⟩with
  |true=>
   have c1:decide (((s.length:Nat):Int)<=32)=decide (s.length<=32):=by
    by_cases hh:s.length<=32<;>simp[hh]<;>omega
   simp[s0,aK,e,e1,g0,g1,gO,hb,cI wP,kW.trans BM,c1]
  |false=>simp[s0,aK,e,e1,g0,g1,gO,hb,kW.trans BM]
 by_cases h3:k=3
 .subst h3;simp at e;obtain⟨r1,T1,⟨rfl,BM⟩,e1⟩:=(truth b T).ex;have g1:T1.h.get S.nx=some (.row [.int .i64 3,.int .i64 n,.str s,.bool b] 0 0 false 92):=by rw[BM.h _ AY];exact g0
  simp[s0,aK,e,g0,hn];refine bg [.r 0 1,.p,.e [],.p,.p] (n:=34) (by kernel_rfl) (by simp[hn]) ?_;simp[s0,aK,e,e1,g0,g1,gO,kW.trans BM]
 .simp[h1,h2,h3]at e;simp[s0,h1,h2,h3,aK,e,g0,kW]
def zeroV:kH:=⟨0,0,[],false⟩
structure gY where
 name:List Nat
 op:Int
 val:kH
 Fw:AV
 cF:List kH
def ek(c:gY):List AV:=[.str c.name,.int .i64 c.op,.int .i64 c.val.kind,.int .i64 c.val.num,.str c.val.str,.bool c.val.bool,c.Fw]
theorem dj(c:gY):(ek c).length=7:=rfl
structure jm(S:AS)(c:gY):Prop where
 sl:Sl S c.Fw 4 (c.cF.flatMap bq)
 le:c.cF.length<=9223372036854775807
theorem jm.sub{S T:AS}{c:gY}(h:jm S c)(hs:Sub S T):jm T c:=⟨h.sl.toSub hs,h.le⟩
structure df(S:AS)(p:AV)(cs:List gY):Prop where
 sl:Sl S p 7 (cs.flatMap ek)
 con:∀c,c∈cs->jm S c
 le:cs.length<=9223372036854775807
theorem df.sub{S T:AS}{p:AV}{cs:List gY}(h:df S p cs)(hs:Sub S T):df T p cs:=⟨h.sl.toSub hs,fun c hc=>(h.con c hc).sub hs,h.le⟩
theorem not157(v:kH)(S:AS):az C0 138 [.agg (bq v)] S fun r T=>r=.bool (!dR v)/\Sub S T:=by
 obtain⟨r,T,⟨rfl,hT⟩,e⟩:=(mayIs v ⟨S.h.set S.nx (.row (bq v) 0 0 false 92),S.nx+1⟩).ex;refine ej (dL _) (dF _ rfl) fn157 rfl ok157 (by simp) fun F hn hs=>?_;have s0:=hs 0;clear hs;simp only[zzc,zzd,zzf,bq]at s0 e;simp[s0,e,aK,Sub.trans dc hT]
def Cr(c:gY):Bool:=!c.cF.any fun v=>!dR v
def lq(c:gY):Bool:=
 if c.name.length<1 then false else if 16<c.name.length then false
 else if c.op=1 then gv c.val zeroV&&decide (c.cF.length=0)
 else if 2<=c.op/\c.op<=7 then dR c.val&&decide (c.cF.length=0)
 else if c.op=8 then dR c.val&&(decide (c.val.kind=2)&&decide (c.cF.length=0))
 else if c.op=9 then gv c.val zeroV&&(decide (1<=c.cF.length)&&(decide (c.cF.length<=6)&&Cr c))
 else false
set_option maxHeartbeats 4000000 in
theorem mayCons(c:gY){S:AS}(hc:jm S c):az C0 105 [.agg (ek c)] S fun r T=>r=.bool (lq c)/\Sub S T:=by
 have h1:Sub S ⟨S.h.set S.nx (.row (ek c) 0 0 false 98),S.nx+1⟩:=dc;obtain⟨v,T,⟨rfl,hT⟩,e⟩:=(con156 (P:=fun v=>!dR v) (f:=138) (caps:=[]) dJ (hc.sub h1).sl (by have:=hc.le;omega) rfl (fun T hT v hv=>not157 v T)).ex;obtain⟨r,U,⟨rfl,hU⟩,e2⟩:=(mayIs c.val T).ex;have rn:=h1.trans hT;have hU1:=rn.trans hU;have g0:T.h.get S.nx=some (.row (ek c) 0 0 false 98):=by rw[hT.h _ (zzg _)];exact get_set_same _ _ _
 have g1:U.h.get S.nx=some (.row (ek c) 0 0 false 98):=by rw[hU.h _ hT.nx];exact g0
 have u1:=hc.sl.sl;have u2:=hc.sl.bj dJ (by omega);refine ej (dL _) (dF _ rfl) fn125 rfl ok125 (by simp) fun F hn hs=>?_;have s0:=hs 0;clear hs;have hs:(c.cF.any fun v=>!dR v)=!Cr c:=by simp[Cr]
 simp only[zzc,zzd,zzf,ek,bq,hs]at s0 e e2 g0 g1;unfold lq;by_cases n1:c.name.length<1
 .have ER:(c.name.length:Int)<1:=by omega
  simp[s0,cI wP,ER,n1,h1];simp only[ek]at h1;exact h1
 have ER:¬(c.name.length:Int)<1:=by omega
 by_cases n2:16<c.name.length
 .have n2':(16:Int)<c.name.length:=by omega
  simp[s0,cI wP,ER,n1,n2',n2];simp only[ek]at h1;exact h1
 have n2':¬(16:Int)<c.name.length:=by omega
 have hbe:gv ⟨c.val.kind,c.val.num,c.val.str,c.val.bool⟩ ⟨0,0,[],false⟩=gv c.val zeroV:=rfl;have q0:((c.cF.length:Int)=0)=(c.cF.length=0):=by simp
 have q1:((1:Int)<=c.cF.length)=(1<=c.cF.length):=by simp;omega
 have q6:((c.cF.length:Int)<=6)=(c.cF.length<=6):=by simp;omega
 by_cases o1:c.op=1
 .simp only[o1]at s0 e e2 g0 g1;cases hb:gv c.val zeroV<;>simp[s0,cI wP,ER,n1,n2',n2,o1,aK,e,e2,g0,g1,u1,u2,gO,hbe,hb,rn]
 by_cases o2:2<=c.op
 .by_cases o7:c.op<=7
  .cases hb:dR c.val<;>simp[s0,cI wP,ER,n1,n2',n2,o1,o2,o7,aK,e,e2,g0,g1,u1,u2,gO,hb,hU1]
  by_cases o8:c.op=8
  .simp only[o8]at s0 e e2 g0 g1;cases hb:dR c.val with
   |false=>simp[s0,cI wP,ER,n1,n2',n2,o1,o2,o7,o8,aK,e,e2,g0,g1,u1,u2,gO,hb,hU1]
   |true=>
    by_cases k2:c.val.kind=2
    .simp only[k2]at s0 e e2 g0 g1;simp[s0,cI wP,ER,n1,n2',n2,o1,o2,o7,o8,aK,e,e2,g0,g1,u1,u2,gO,hb,k2,hU1]
    .simp[s0,cI wP,ER,n1,n2',n2,o1,o2,o7,o8,aK,e,e2,g0,g1,u1,u2,gO,hb,k2,hU1]
  by_cases o9:c.op=9
  .simp only[o9]at s0 e e2 g0 g1;cases hb:gv c.val zeroV with
   |false=>simp[s0,cI wP,ER,n1,n2',n2,o1,o2,o7,o8,o9,aK,e,e2,g0,g1,u1,u2,gO,hbe,hb,rn]
   |true=>
    by_cases l1:1<=c.cF.length
    .by_cases l6:c.cF.length<=6
     .simp[s0,cI wP,ER,n1,n2',n2,o1,o2,o7,o8,o9,aK,e,e2,g0,g1,u1,u2,gO,hbe,hb,q1,q6,l1,l6,rn]
     .simp[s0,cI wP,ER,n1,n2',n2,o1,o2,o7,o8,o9,aK,e,e2,g0,g1,u1,u2,gO,hbe,hb,q1,q6,l1,l6,rn]
    .simp[s0,cI wP,ER,n1,n2',n2,o1,o2,o7,o8,o9,aK,e,e2,g0,g1,u1,u2,gO,hbe,hb,q1,q6,l1,rn]
  .simp[s0,cI wP,ER,n1,n2',n2,o1,o2,o7,o8,o9,aK,e,e2,g0,g1,u1,u2,gO,rn]
 .have o8:¬c.op=8:=by omega
  have o9:¬c.op=9:=by omega
  simp[s0,cI wP,ER,n1,n2',n2,o1,o2,o8,o9,aK,e,e2,g0,g1,u1,u2,gO,rn]
theorem not124(c:gY){S:AS}(hc:jm S c):az C0 104 [.agg (ek c)] S fun r T=>r=.bool (!lq c)/\Sub S T:=by
 have h1:Sub S ⟨S.h.set S.nx (.row (ek c) 0 0 false 98),S.nx+1⟩:=dc;obtain⟨r,T,⟨rfl,hT⟩,e⟩:=(mayCons c (hc.sub h1)).ex;have rn:=h1.trans hT;refine ej (dL _) (dF _ rfl) fn124 rfl ok124 (by simp) fun F hn hs=>?_;have s0:=hs 0;clear hs;simp only[zzc,zzd,zzf,ek]at s0 e;simp[s0,e,aK,rn]
def iw(cs:List gY):Bool:=decide (cs.length<=6) && !cs.any fun c=>!lq c
theorem qY{S:AS}{p:AV}{cs:List gY}(hp:df S p cs):az C0 53 [p] S fun r T=>r=.bool (iw cs)/\Sub S T:=by
 obtain⟨v,T,⟨rfl,hT⟩,e⟩:=(con76 (P:=fun c=>!lq c) (f:=104) (caps:=[]) dj hp.sl (by have:=hp.le;omega) rfl (fun T hT c hc=>not124 c ((hp.con c hc).sub hT))).ex;have u1:=hp.sl.sl;have u2:=hp.sl.bj dj (by omega);have q6:((cs.length:Int)<=6)=(cs.length<=6):=by simp;omega
 refine bD (dL _) (dF _ rfl) fn71 rfl ok71 (by simp) fun F hn s0=>?_;unfold iw;by_cases l6:cs.length<=6
 .simp[s0,u1,u2,q6,l6,e,aK,hT]
 .simp[s0,u1,u2,q6,l6,aK,Sub.refl]
end Go.Proofs.YthklfandhmkpiaaGreatDoor.mod
namespace Go.Proofs.YthklfandhmkpiaaGreatDoor.dk
open Go Go.Am
abbrev A1:Am.Ask:=Go.Proofs.YthklfandhmkpiaaGreatDoor.sh.A0
abbrev C1:Am.Cx:=Go.Proofs.YthklfandhmkpiaaGreatDoor.sh.C0
theorem xm(f:Nat)(h:Go.Proofs.YthklfandhmkpiaaGreatDoor.sh.exB f=false):C1.exts.get f=none:=Go.Proofs.YthklfandhmkpiaaGreatDoor.sh.aK f h
theorem EP(f:Nat)(h:Go.Proofs.YthklfandhmkpiaaGreatDoor.sh.prB f=false):C1.fi.get f=none:=Go.Proofs.YthklfandhmkpiaaGreatDoor.sh.dF f h
theorem EO(f:Nat):C1.kU.get f=none:=fj f
theorem up1{f:FuncId}{vs:List AV}{S:AS}{Q:AV->AS->Prop}(h:az mod.C0 f vs S Q):az C1 f vs S Q:=h
@[simp] theorem ag3:aX C1 3=some false:=by kernel_rfl
@[simp] theorem sz3:aH C1 3=some 1:=by kernel_rfl
@[simp] theorem ag31:aX C1 48=some false:=by kernel_rfl
@[simp] theorem sz31:aH C1 48=some 1:=by kernel_rfl
@[simp] theorem Ae:n9 C1 48=some (5,1,1):=by kernel_rfl
@[simp] theorem ag32:aX C1 38=some false:=by kernel_rfl
@[simp] theorem sz32:aH C1 38=some 1:=by kernel_rfl
@[simp] theorem dh:n9 C1 86=some (9,1,16):=by kernel_rfl
@[simp] theorem ag9:aX C1 9=some false:=by kernel_rfl
@[simp] theorem sz9:aH C1 9=some 1:=by kernel_rfl
@[simp] theorem cv3_5:kq C1 3 5=some .u8:=by kernel_rfl
@[simp] theorem ag4:aX C1 4=some false:=by kernel_rfl
@[simp] theorem sz4:aH C1 4=some 1:=by kernel_rfl
theorem fn35:C1.fns.get 237=some Tryz.f237:=by kernel_rfl
theorem ok35:okF C1 Tryz.f237=true:=by kernel_rfl
@[simp] theorem un31:bJ C1 48=some (.slice 5):=by kernel_rfl
@[simp] theorem ze32:zeroOf C1 38=some (.int .u64 0):=by kernel_rfl
@[simp] theorem cv32_5:kq C1 38 5=some .u8:=by kernel_rfl
@[simp] theorem sz5:aH C1 5=some 1:=by kernel_rfl
theorem fn77:C1.fns.get 210=some Tryz.f210:=by kernel_rfl
theorem ok77:okF C1 Tryz.f210=true:=by kernel_rfl
@[simp] theorem ag24:aX C1 23=some false:=by kernel_rfl
@[simp] theorem sz24:aH C1 23=some 1:=by kernel_rfl
@[simp] theorem sz69:aH C1 86=some 1:=by kernel_rfl
@[simp] theorem un69:bJ C1 86=some (.slice 9):=by kernel_rfl
@[simp] theorem ag5:aX C1 5=some false:=by kernel_rfl
theorem tV{n:Nat}(h:n<18446744073709551616):IntKind.u64.wrap (n:Int)=n:=by simp[IntKind.wrap,IntKind.bits,IntKind.signed];omega
theorem u8_nat{n:Nat}(h:n<256):IntKind.u8.wrap (n:Int)=n:=by simp[IntKind.wrap,IntKind.bits,IntKind.signed];omega
theorem bits_nat{op:BinOp}{k:IntKind}(nN:op=.and\/op=.or\/op=.xor)(hk:∀n:Nat,n<2 ^ k.bits->k.wrap (n:Int)=n){a b:Nat}(ha:a<2 ^ k.bits)(hb:b<2 ^ k.bits):lg op k a b=.int k (oV op a b:Nat):=by
 rw[jk (by rcases nN with h|h|h<;>simp[h])];rcases nN with rfl|rfl|rfl
 .show AV.int k (k.wrap _)=_;rw[BitVec.toNat_and,jx _ a ha,jx _ b hb,hk _ (Nat.lt_of_le_of_lt Nat.and_le_left ha)];rfl
 .show AV.int k (k.wrap _)=_;rw[BitVec.toNat_or,jx _ a ha,jx _ b hb,hk _ (Nat.or_lt_two_pow ha hb)];rfl
 .show AV.int k (k.wrap _)=_;rw[BitVec.toNat_xor,jx _ a ha,jx _ b hb,hk _ (Nat.xor_lt_two_pow ha hb)];rfl
theorem hk64:∀n:Nat,n<2 ^ IntKind.u64.bits->IntKind.u64.wrap (n:Int)=n:=fun n h=>tV h
theorem hk8:∀n:Nat,n<2 ^ IntKind.u8.bits->IntKind.u8.wrap (n:Int)=n:=fun n h=>u8_nat h
section
variable{cx:Cx}{t:TypeId}{c:Bool}{a b:Nat}
theorem bin_and64(ha:a<18446744073709551616)(hb:b<18446744073709551616):bI cx .and t c (.int .u64 a) (.int .u64 b)=some (.int .u64 ((a &&& b:Nat):Int)):=by
 show cond (iO .u64 .u64) (some (lg .and .u64 a b)) none=_;rw[bits_nat (.inl rfl) hk64 ha hb,oX];rfl
theorem bin_or8(ha:a<256)(hb:b<256):bI cx .or t c (.int .u8 a) (.int .u8 b)=some (.int .u8 ((a ||| b:Nat):Int)):=by
 show cond (iO .u8 .u8) (some (lg .or .u8 a b)) none=_;rw[bits_nat (.inr (.inl rfl)) hk8 ha hb,oX];rfl
theorem bin_shr{k:IntKind}{n s:Nat}(hs:s<=k.bits):bI cx .shr t c (.int k n) (.int .u64 s)=some (.int k ((n / 2 ^ s:Nat):Int)):=by
 show some (ju (Int.fdiv (n:Int) (.ofNat (zzr 2 (zzs s k.bits)))) fun n=>AV.int k n)=_;rw[eG];have h1:zzs s k.bits=s:=Nat.min_eq_left hs;rw[h1];have h2:(n:Int).fdiv (Int.ofNat (zzr 2 s))=((n / 2 ^ s:Nat):Int):=by
  have e:(n:Int).fdiv ((2 ^ s:Nat):Int)=((n / 2 ^ s:Nat):Int):=by rw[Int.fdiv_eq_ediv_of_nonneg _ (Int.natCast_nonneg _)];exact (Int.natCast_ediv n (2 ^ s)).symm
  exact e
 rw[h2]
end
theorem and_127(n:Nat):n &&& 127=n%128:=Nat.and_two_pow_sub_one_eq_mod n 7
theorem or_128{n:Nat}(h:n<128):n ||| 128=n+128:=by
 have:=Nat.two_pow_add_eq_or_of_lt (i:=7) (b:=n) h 1;rw[Nat.or_comm];have e:(2:Nat) ^ 7*1=128:=by decide
 rw[e]at this;omega
theorem Gw.fresh{S:AS}{id sz e:Nat}(cw:S.h.get id=some (.row [] 0 0 false e))(cR:id<S.nx):Gw S (.slice id 0 0 0 0 sz (some 0)) sz e []:=
 ⟨⟨by simp[isSl,eS],by simp[lY],by simp[sLen],by simp[aV];omega⟩,.inr ⟨id,0,0,0,0,some 0,rfl,by simp[capN],cR,[],0,0,cw,zzn _,rfl⟩⟩
theorem aj{S:AS}{v:AV}{sz:Nat}{cs:List AV}(h:Sl S v sz cs):okW v=true:=j9 h.ok
def tP(lo:Nat)(v:AV):Prop:=aV v=0\/lo<aV v
theorem clone35{S:AS}{v:AV}{cs:List AV}(h:Sl S v 1 cs)(hf:sLen v<=1073741824):az C1 237 [v] S fun v' T=>Sub S T/\Gw T v' 1 5 cs/\sLen v'=sLen v/\tP S.nx v':=by
 refine bD (EO _) (EP _ rfl) fn35 rfl ok35 (by simp) fun F hn s0=>?_;have h2:=h.sl;have e0:∀c,bI C1 .eql 48 c v .ar=some (.bool (isNil v)):=fun c=>eq_nil (cx:=C1) (t:=48) (c:=c) Ae h2;cases hnil:isNil v with
 |true=>
  obtain⟨rfl,rfl⟩:=h.isNil hnil;simp[s0,Sub.refl,Gw.nil,aV,tP]
 |false=>
  have hx:Sl (⟨S.h.set S.nx (.row [] 0 0 false 5),S.nx+1⟩:AS) v 1 cs:=⟨h2,by rw[rdS_set h.old];exact h.rd,h.len,Nat.le_succ_of_le h.old⟩
  have vG:fits (sLen (.slice S.nx 0 0 0 0 1 (some 0))+sLen v) 1=true:=by simp[fits,cG,iI];omega
  obtain⟨v',T,e1,r1,r2,r3,r4,r5,r6,r7⟩:=dr (cx:=C1) (ts:=[]) (p:=(5,1,1)) Ae un31 rfl (Gw.fresh (get_set_same _ _ _) (zzg _)) hx vG;rw[List.nil_append]at r1;have ez:Sub S T:=⟨fun id hi=>by rw[r2 id (Nat.lt_succ_of_lt hi) (by simp[aV];omega)];exact ah _ _ (by omega),zzl (zzk _) r3⟩
  have r4':sLen v'=sLen v:=by rw[r4];simp[iI]
  rw[hnil]at e0;have hfr:∀(F:Fr)(B:Nat),aO C1 F B (.buildSlice 48 0 #[])=some (.slice B 0 0 0 0 1 (some 0),.row [] 0 0 false 5):=fun F B=>oB (p:=(5,1,1)) Ae;simp[s0,e0,e1,hfr,r1.1.np];refine⟨ez,r1,r4',?_⟩;rcases r6 with r6|r6
  .unfold tP;rw[r6];exact .inr (zzg _)
  .exact .inr (Nat.lt_of_succ_lt r6)
theorem kB{S':AS}{v:AV}{cs:List AV}{lo:Nat}(x:AV)(hg:Gw S' v 1 5 cs)(hl:cs.length<=1048576)(hb:tP lo v)(EY:lo<=S'.nx):
  ∃v' T,aY C1 ⟨S'.h.set S'.nx (.row [x] 0 0 false 5),S'.nx+1⟩ .append [48,48] [v,.slice S'.nx 0 0 1 1 1 (some 1)]=.val v' T/\Gw T v' 1 5 (cs++[x])/\(∀id,id<lo->T.h.get id=S'.h.get id)/\S'.nx<=T.nx/\tP lo v':=by
 have hold:=hg.1.old;have hx:Sl (⟨S'.h.set S'.nx (.row [x] 0 0 false 5),S'.nx+1⟩:AS) (.slice S'.nx 0 0 1 1 1 (some 1)) 1 [x]:=
  ⟨by simp[isSl,eS],by simp[lY,dP],by simp[sLen],by simp[aV]⟩
 have hgT:Gw (⟨S'.h.set S'.nx (.row [x] 0 0 false 5),S'.nx+1⟩:AS) v 1 5 cs:=hg.cE (fun id e=>ah _ _ (by omega)) (zzk _);have hlen:=hg.1.gx;obtain⟨v',V,e2,r1,r2,r3,r4,r5,r6,r7⟩:=dr (cx:=C1) (ts:=[]) (u:=48) (p:=(5,1,1)) Ae un31 rfl hgT hx (by rw[hlen];simp[fits,cG,iI];omega);refine⟨v',V,e2,r1,fun id cw=>?_,by have:S'.nx+1<=V.nx:=r3;omega,?_⟩
 .have:id<S'.nx+1:=by omega
  rw[r2 id this (by rcases hb with h|h<;>omega)];exact ah _ _ (by omega)
 .rcases r6 with r6|r6
  .unfold tP;rw[r6];exact hb
  .right;have:S'.nx+1<aV v':=r6;omega
def eJ(n:Nat):List Nat:=if n<128 then [n] else (n%128+128)::eJ (n / 128)
theorem mV(n:Nat):∀c,c∈eJ n->c<256:=by
 induction n using Nat.strongRecOn with
 |_ n ih=>
  intro c hc;unfold eJ at hc;split at hc
  .simp at hc;omega
  .rename_i h;rcases List.mem_cons.1 hc with rfl|hc
   .have:=Nat.mod_lt n (show 0<128 by decide);omega
   .exact ih (n / 128) (by omega) c hc
theorem oo:∀(k n:Nat),n<128 ^ (k+1)->(eJ n).length<=k+1
 |0,n,h=>by
  unfold eJ;have:n<128:=by simpa using h
  rw[if_pos this];simp
 |k+1,n,h=>by
  unfold eJ;split
  .simp
  .have:=oo k (n / 128) (by rw[Nat.div_lt_iff_lt_mul (by decide)];rw[Nat.pow_succ]at h;exact h);simp;omega
theorem nt77:Tryz.f210.ntmps=26:=by kernel_rfl
def numH(S:AS)(bs:List Nat)(k:Nat)(F':Fr)(S':AS):Prop:=
 ∃(v:AV)(cs:List Nat),Gw S' v 1 5 (bH cs)/\Sub S S'/\tP S.nx v/\bs=cs++eJ k/\bs.length<=1048576/\k<18446744073709551616/\sl F' 5=v/\sl F' 1=.int .u64 k/\F'.n=26
theorem num77{S:AS}{b:AV}{cs:List Nat}{n:Nat}(h:Sl S b 1 (bH cs))(hl:cs.length<=1000000)(hn:n<18446744073709551616):
  az C1 210 [b,.int .u64 n] S fun r T=>Sub S T/\tP S.nx r/\Gw T r 1 5 (bH (cs++eJ n)):=by
 have hlen:=h.gx;rw[bM]at hlen;obtain⟨v,T,⟨hT,g1,g2,g3⟩,e1⟩:=(clone35 h (by omega)).ex;have hnb:(eJ n).length<=10:=oo 9 n (by omega);refine bu (EO _) (EP _ rfl) fn77 rfl ok77 (by simp) fun F ng s0 s1=>?_;rw[nt77]at ng;simp[s0,s1,e1,xm];refine aW (numH S (cs++eJ n)) n ⟨v,cs,g1,hT,g3,rfl,by rw[zza];omega,hn,by simp,by simp[s1],by simp[ng]⟩ ?_;clear s0 s1 e1 g1 g2 g3 hT h ng hn;rintro k F' S' hn'' ⟨v,cs1,g,ez,hb,hbs,hlb,hk,t5,t1,ng⟩;clear hn'';have hlen1:=congrArg List.length hbs;simp only[zza]at hlen1;have hlb':=hlb;simp only[zza]at hlb';have hr:k%128<128:=Nat.mod_lt _ (by decide);obtain⟨y,hy⟩:∃y,y=k%128:=⟨_,rfl⟩
 obtain⟨z,hz⟩:∃z,z=k / 128:=⟨_,rfl⟩
 obtain⟨y2,hy2⟩:∃y2,y2=y+128:=⟨_,rfl⟩
 have em:∀t c,bI C1 .and t c (.int .u64 k) (.int .u64 127)=some (.int .u64 (y:Int)):=fun t c=>by rw[hy,<-and_127];exact bin_and64 hk (by decide)
 have hsh:∀t c,bI C1 .shr t c (.int .u64 k) (.int .u64 7)=some (.int .u64 (z:Int)):=fun t c=>by rw[hz];exact bin_shr (s:=7) (by decide)
 rw[<-hy]at hr;have w8:=u8_nat (n:=y) (by omega);have eo:∀t c,bI C1 .or t c (.int .u8 y) (.int .u8 128)=some (.int .u8 (y2:Int)):=fun t c=>by rw[hy2,<-or_128 hr];exact bin_or8 (by omega) (by decide)
 by_cases h0:z=0
 .have hkn:eJ k=[y]:=by
   have:k<128:=by omega
   unfold eJ;rw[if_pos this,hy,Nat.mod_eq_of_lt this]
  obtain⟨v',V,e2,q1,q2,q3,q4⟩:=kB (.int .u8 y) g (by rw[bM];omega) hb ez.nx;rw[h0]at hsh;simp[t5,t1,em,hsh,w8,e2,aj g.1];refine⟨q1.1.np,⟨fun id cw=>(q2 id cw).trans (ez.h id cw),zzl ez.nx q3⟩,q4,?_⟩;rw[hbs,hkn,<-mA];exact q1
 .have hkn:eJ k=y2::eJ z:=by
   have:¬k<128:=by omega
   rw[eJ,if_neg this,hy2,hy,hz]
  obtain⟨v',V,e2,q1,q2,q3,q4⟩:=kB (.int .u8 y2) g (by rw[bM];omega) hb ez.nx;have h0':¬((z:Int)=0):=by omega
  simp[t5,t1,em,hsh,w8,eo,h0,h0',e2,aj g.1];refine⟨z,by omega,v',cs1++[y2],by rw[<-mA];exact q1,⟨fun id cw=>(q2 id cw).trans (ez.h id cw),zzl ez.nx q3⟩,q4,by rw[hbs,hkn,zzb];rfl,hlb,by omega,by simp,by simp,by simp[ng]⟩
section
variable{S T:AS}
theorem app_bytes{v x:AV}{cs ds:List AV}{lo:Nat}(hg:Gw S v 1 5 cs)(hx:Sl S x 1 ds)(hl:cs.length+ds.length<=1073741824)(hb:tP lo v)(EY:lo<=S.nx):
  ∃v' T,aY C1 S .append [48,48] [v,x]=.val v' T/\Gw T v' 1 5 (cs++ds)/\(∀id,id<lo->T.h.get id=S.h.get id)/\S.nx<=T.nx/\tP lo v'/\sLen v'=cs.length+ds.length:=by
 have l1:=hg.1.gx;have l2:=hx.gx;obtain⟨v',V,e2,r1,r2,r3,r4,r5,r6,r7⟩:=dr (cx:=C1) (ts:=[]) (u:=48) (p:=(5,1,1)) Ae un31 rfl hg hx (by rw[l1,l2];simp[fits,cG];omega);refine⟨v',V,e2,r1,fun id cw=>r2 id (by omega) (by rcases hb with h|h<;>omega),r3,?_,by rw[r4,l1,l2]⟩;rcases r6 with r6|r6
 .unfold tP;rw[r6];exact hb
 .exact .inr (by omega)
end
end Go.Proofs.YthklfandhmkpiaaGreatDoor.dk
namespace Go.Proofs.YthklfandhmkpiaaGreatDoor.bk
open Go Go.Am Go.Proofs.YthklfandhmkpiaaGreatDoor.dk
@[simp] theorem ag3:aX C1 3=some false:=by kernel_rfl
@[simp] theorem sz3:aH C1 3=some 1:=by kernel_rfl
@[simp] theorem ag30:aX C1 46=some false/\aH C1 46=some 1:=by and_intros<;>kernel_rfl
@[simp] theorem ag4:aX C1 4=some false:=by kernel_rfl
@[simp] theorem sz4:aH C1 4=some 1:=by kernel_rfl
@[simp] theorem ag32:aX C1 48=some false:=by kernel_rfl
@[simp] theorem sz32:aH C1 48=some 1:=by kernel_rfl
@[simp] theorem st30:n9 C1 46=some (78,2,16):=by kernel_rfl
@[simp] theorem un48:bJ C1 72=some (.slice 77):=by kernel_rfl
theorem fn48:C1.fns.get 32=some Tryz.f32:=by kernel_rfl
theorem ok48:okF C1 Tryz.f32=true:=by kernel_rfl
@[simp] theorem ze32:zeroOf C1 48=some (.ar):=by kernel_rfl
theorem fn95:C1.fns.get 85=some Tryz.f85:=by kernel_rfl
theorem ok95:okF C1 Tryz.f85=true:=by kernel_rfl
@[simp] theorem zI:aX C1 98=some true:=by kernel_rfl
@[simp] theorem yj:aH C1 98=some 7:=by kernel_rfl
@[simp] theorem st235:n9 C1 51=some (3,1,8):=by kernel_rfl
@[simp] theorem ag9:aX C1 9=some false:=by kernel_rfl
@[simp] theorem sz9:aH C1 9=some 1:=by kernel_rfl
@[simp] theorem EG:aX C1 92=some true:=by kernel_rfl
@[simp] theorem Ce:aH C1 92=some 4:=by kernel_rfl
theorem fn156:C1.fns.get 131=some Tryz.f131:=by kernel_rfl
theorem ok156:okF C1 Tryz.f131=true:=by kernel_rfl
theorem fn160:C1.fns.get 238=some Tryz.f238:=by kernel_rfl
theorem ok160:okF C1 Tryz.f238=true:=by kernel_rfl
theorem fn195:C1.fns.get 174=some Tryz.f174:=by kernel_rfl
theorem ok195:okF C1 Tryz.f174=true:=by kernel_rfl
@[simp] theorem fa300_0:fieldAt C1 287 0=some 0:=by kernel_rfl
theorem fn196:C1.fns.get 175=some Tryz.f175:=by kernel_rfl
theorem ok196:okF C1 Tryz.f175=true:=by kernel_rfl
@[simp] theorem ze103:zeroOf C1 98=some (.agg [.str [],.int .i64 0,.int .i64 0,.int .i64 0,.str [],.bool false,.ar]):=by kernel_rfl
theorem fn197:C1.fns.get 176=some Tryz.f176:=by kernel_rfl
theorem ok197:okF C1 Tryz.f176=true:=by kernel_rfl
theorem fn198:C1.fns.get 177=some Tryz.f177:=by kernel_rfl
theorem ok198:okF C1 Tryz.f177=true:=by kernel_rfl
theorem fn240:C1.fns.get 211=some Tryz.f211:=by kernel_rfl
theorem ok240:okF C1 Tryz.f211=true:=by kernel_rfl
theorem fn241:C1.fns.get 212=some Tryz.f212:=by kernel_rfl
theorem ok241:okF C1 Tryz.f212=true:=by kernel_rfl
theorem fn263:C1.fns.get 239=some Tryz.f239:=by kernel_rfl
theorem ok263:okF C1 Tryz.f239=true:=by kernel_rfl
theorem fn264:C1.fns.get 240=some Tryz.f240:=by kernel_rfl
theorem ok264:okF C1 Tryz.f240=true:=by kernel_rfl
theorem fn280:C1.fns.get 255=some Tryz.f255:=by kernel_rfl
theorem ok280:okF C1 Tryz.f255=true:=by kernel_rfl
@[simp] theorem cv2_27:kq C1 2 38=some .u64:=by kernel_rfl
open Go.Proofs.YthklfandhmkpiaaGreatDoor.mod (kH bq dJ gY ek dj jm df iw lq dR Cr)
theorem zZ(n:Int):0<=IntKind.u64.wrap n/\IntKind.u64.wrap n<18446744073709551616:=by
 simp[IntKind.wrap,IntKind.bits,IntKind.signed];omega
theorem mkI_wrap(k:IntKind)(n:Int):mkI k n=.int k (k.wrap n):=by
 unfold mkI;rw[eG,BU]
def uN(n:Int):Nat:=(IntKind.u64.wrap n).toNat
theorem uz(n:Int):uN n<18446744073709551616:=by have:=zZ n;unfold uN;omega
theorem sX(n:Int):IntKind.u64.wrap n=(uN n:Int):=by have:=zZ n;unfold uN;omega
theorem uN_nat{n:Nat}(h:n<18446744073709551616):uN n=n:=by
 unfold uN;rw[show IntKind.u64.wrap (n:Int)=(n:Int) by simp[IntKind.wrap,IntKind.bits,IntKind.signed];omega];rfl
def pT(n:Int):Nat:=match lg .xor .u64 (uN (Int.mul n 2)) (uN (if n<0 then -1 else 0))with | .int _ m=>m.toNat|_=>0
theorem bits_u64(a b:Nat)(ha:a<18446744073709551616)(hb:b<18446744073709551616):∃m:Nat,m<18446744073709551616/\lg .xor .u64 a b=.int .u64 m:=by
 show ∃m:Nat,m<18446744073709551616/\cond (Nat.blt a (half .u64)&&Nat.blt b (half .u64)) (dS (Nat.xor a b) fun n=>AV.int .u64 (Int.ofNat n)) (ju (wg .xor .u64 a b) fun n=>AV.int .u64 n)=AV.int .u64 m;cases (Nat.blt a (half .u64)&&Nat.blt b (half .u64))with
 |true=>exact⟨a ^^^ b,Nat.xor_lt_two_pow (n:=64) ha hb,by rw[cond_true,aQ];rfl⟩
 |false=>
  have h:=zZ (((BitVec.ofInt 64 a) ^^^ (BitVec.ofInt 64 b)).toNat:Int);refine⟨(IntKind.u64.wrap (((BitVec.ofInt 64 a) ^^^ (BitVec.ofInt 64 b)).toNat:Int)).toNat,by omega,?_⟩;rw[cond_false,eG,Int.toNat_of_nonneg h.1];rfl
theorem uu(n:Int):pT n<18446744073709551616/\lg .xor .u64 (uN (Int.mul n 2)) (uN (if n<0 then -1 else 0))=.int .u64 (pT n):=by
 obtain⟨m,h1,h2⟩:=bits_u64 _ _ (uz (Int.mul n 2)) (uz (if n<0 then -1 else 0));have e:pT n=m:=by unfold pT;rw[h2];rfl
 rw[e];exact⟨h1,h2⟩
theorem E5(n:Int):IntKind.u64.wrap (Int.mul (IntKind.u64.wrap n) 2)=IntKind.u64.wrap (Int.mul n 2):=by
 show IntKind.u64.wrap (IntKind.u64.wrap n*2)=IntKind.u64.wrap (n*2);simp only[IntKind.wrap,IntKind.bits,IntKind.signed];simp;omega
theorem shr63{n:Int}(h1:-9223372036854775808<=n)(h2:n<9223372036854775808):Int.fdiv n 9223372036854775808=if n<0 then -1 else 0:=by
 rw[Int.fdiv_eq_ediv_of_nonneg _ (by decide)];by_cases h:n<0
 .rw[if_pos h];omega
 .rw[if_neg h];omega
section
variable{S T:AS}{lo:Nat}
theorem zig280{n:Int}(h1:-9223372036854775808<=n)(h2:n<9223372036854775808):∀Q:AV->AS->Prop,az C1 255 [.int .i64 n] S Q=Q (.int .u64 (pT n)) S:=fun Q=>by
 have e1:∀c t,bI C1 .shl t c (.int .u64 (IntKind.u64.wrap n)) (.int .u64 1)=some (.int .u64 (uN (Int.mul n 2))):=fun c t=>by
  show some (mkI .u64 (Int.mul (IntKind.u64.wrap n) (.ofNat (zzr 2 (zzs 1 IntKind.u64.bits)))))=_;have:zzr 2 (zzs 1 IntKind.u64.bits)=2:=by decide
  rw[this,mkI_wrap];show some (AV.int .u64 (IntKind.u64.wrap (Int.mul (IntKind.u64.wrap n) 2)))=_;rw[E5,sX]
 have e2:∀c t,bI C1 .shr t c (.int .i64 n) (.int .u64 63)=some (.int .i64 (if n<0 then -1 else 0)):=fun c t=>by
  show some (ju (Int.fdiv n (.ofNat (zzr 2 (zzs 63 IntKind.i64.bits)))) fun n=>AV.int .i64 n)=_;rw[eG];have:zzr 2 (zzs 63 IntKind.i64.bits)=9223372036854775808:=by decide
  rw[this];show some (AV.int .i64 (Int.fdiv n 9223372036854775808))=_;rw[shr63 h1 h2]
 have e3:∀c t,bI C1 .xor t c (.int .u64 (uN (Int.mul n 2))) (.int .u64 (uN (if n<0 then -1 else 0)))=some (.int .u64 (pT n)):=fun c t=>by
  show cond (iO .u64 .u64) (some (lg .xor .u64 (uN (Int.mul n 2)) (uN (if n<0 then -1 else 0)))) none=_;rw[(uu n).2];rfl
 have e4:=sX (if n<0 then -1 else 0);obtain⟨z,hz⟩:∃z:Int,z=if n<0 then -1 else 0:=⟨_,rfl⟩
 rw[<-hz]at e2 e3 e4;obtain⟨a,ha⟩:∃a,a=uN (Int.mul n 2):=⟨_,rfl⟩
 rw[<-ha]at e1 e3;clear hz ha;refine az.eq (bD (EO _) (EP _ rfl) fn280 rfl ok280 (by simp) fun F hn s0=>?_);simp[s0,e1,e2,e3,e4]
theorem int263{b:AV}{bs:List Nat}{n:Int}(h:Sl S b 1 (bH bs))(hl:bs.length<=1000000)(h1:-9223372036854775808<=n)(h2:n<9223372036854775808):
  az C1 239 [b,.int .i64 n] S fun r T=>Sub S T/\tP S.nx r/\Gw T r 1 5 (bH (bs++eJ (pT n))):=by
 have e1:=zig280 (S:=S) h1 h2;obtain⟨r,T,h1,e2⟩:=(num77 (n:=pT n) h hl (uu n).1).ex;refine bu (EO _) (EP _ rfl) fn263 rfl ok263 (by simp) fun F hn s0 s1=>?_;simp[s0,s1,e1,e2,xm,h1.2.2.1.np];exact h1
def rf(s:List Nat):List Nat:=eJ s.length++s
theorem bytes160{b s:AV}{cs ds:List Nat}(h:Sl S b 1 (bH cs))(hs:Sl S s 1 (bH ds))(hl:cs.length<=900000)(hd:ds.length<=90000):
  az C1 238 [b,s] S fun r T=>Sub S T/\tP S.nx r/\Gw T r 1 5 (bH (cs++rf ds)):=by
 have qe:=hs.gx;rw[bM]at qe;have hnb:(eJ ds.length).length<=10:=oo 9 _ (by omega);obtain⟨r,T,⟨hT,g1,g2⟩,e1⟩:=(num77 (n:=ds.length) h (by omega) (by omega)).ex;obtain⟨v',V,e2,r1,r2,r3,r4,r5⟩:=app_bytes g2 (hs.toSub hT) (by rw[bM,bM,zza];omega) g1 hT.nx;rw[mA]at r1;have hw:=tV (n:=ds.length) (by omega);refine bu (EO _) (EP _ rfl) fn160 rfl ok160 (by simp) fun F hn s0 s1=>?_;have u1:=hs.sl;simp[s0,s1,u1,qe,hw,e1,e2,xm,r1.1.np,aj g2.1];refine⟨⟨fun id cw=>(r2 id cw).trans (hT.h id cw),zzl hT.nx r3⟩,r4,?_⟩;unfold rf;rw[<-zzb];exact r1
structure kN(lo:Nat)(S:AS)(w:Nat)(bs:List Nat):Prop where
 ex:∃v,S.h.get w=some (.row [v] 0 0 false 287)/\Gw S v 1 5 (bH bs)/\aV v≠w+1/\tP lo v
 lt:w<S.nx
 le:lo<=S.nx
theorem E6{w:Nat}{bs:List Nat}{v':AV}{bs':List Nat}(h:kN lo S w bs)(hT:Sub S T)(hb:tP S.nx v')(hg:Gw T v' 1 5 (bH bs')):
  kN lo ⟨T.h.set w (.row [v'] 0 0 false 287),T.nx⟩ w bs'/\kO (fun id=>id=w) S ⟨T.h.set w (.row [v'] 0 0 false 287),T.nx⟩:=by
 have h2:=h.lt;have h3:=hT.nx;unfold tP at hb;refine⟨⟨⟨v',get_set_same _ _ _,hg.cE (fun id e=>ah _ _ (by omega)) (zzn _),by omega,by have:=h.le;unfold tP;omega⟩,by show w<T.nx;omega,by have:=h.le;show lo<=T.nx;omega⟩,⟨fun id cw ha=>?_,h3⟩⟩;show (T.h.set w _).get id=_;rw[ah _ _ ha];exact hT.h id cw
theorem kN.sub{w:Nat}{bs:List Nat}(h:kN lo S w bs)(hs:Sub S T):kN lo T w bs:=by
 obtain⟨⟨v,h1,h2,h4,h5⟩,h7,h8⟩:=h;exact⟨⟨v,by rw[hs.h _ h7];exact h1,h2.cE (fun id e=>hs.h id (by have:=h2.1.old;omega)) hs.nx,h4,h5⟩,Nat.lt_of_lt_of_le h7 hs.nx,zzl h8 hs.nx⟩
theorem sc{w n:Nat}{bs:List Nat}(h:kN lo S w bs)(hm:bs.length<=800000)(hn:n<18446744073709551616):az C1 176 [.ptr w 0 0 1,.int .u64 n] S fun r T=>kN lo T w (bs++eJ n)/\kO (fun id=>id=w) S T:=by
 obtain⟨⟨v,h1,h2,h4,_⟩,h7,_⟩:=id h;obtain⟨r,T,⟨hT,g1,g2⟩,e1⟩:=(num77 (n:=n) h2.1 (by omega) hn).ex;have fin:=E6 h hT g1 g2;have hw:T.h.get w=some (.row [v] 0 0 false 287):=by rw[hT.h w h7];exact h1
 refine bu (EO _) (EP _ rfl) fn197 rfl ok197 (by simp) fun F hn s0 s1=>?_;simp[s0,s1,h1,e1,xm,hw,aj h2.1,g2.1.np,g2.1.cells];exact fin
end
def bytesT(cx:Am.Cx)(s d:TypeId):Option Nat:=match bJ cx s,bJ cx d with
 |some _,some (.slice e)=>match bJ cx e with|some (.int .u8)=>some e|_=>none
 |_,_=>none
def strOf:AV->Option (List Nat) | .str l=>some l|_=>none
@[simp] theorem yr(l:List Nat):strOf (.str l)=some l:=rfl
@[simp] theorem zG{cx:Am.Cx}{F:Fr}{S:AS}{dst:Option Tmp}{ty:TypeId}{pos:String}{af:Array Edge}{gd:Option (Nat×Bool)}{s d:TypeId}{x:Tmp}{v:AV}{l:List Nat}{e:Nat}
  (hx:sl F x=v) (h:bytesT cx s d=some e) (hv:strOf v=some l):bE cx F S ⟨dst,.convert s d (.tmp x),ty,pos,af,gd⟩=.val (.slice S.nx 0 0 l.length l.length 1 none) ⟨S.h.set S.nx (.row (bH l) 0 0 true e),S.nx+1⟩:=by
 unfold strOf at hv;split at hv
 .cases hv;unfold bytesT at h;split at h
  .rename_i d1 e' h1 h2;split at h
   .rename_i h3;cases h;unfold bE;simp only[aA,hx,h1,h2,h3];have hm:jt (fun n=>AV.int .u8 (.ofNat n)) l=bH l:=by
     unfold bH;rw[fZ];rfl
    rw[hm]
   .cases h
  .cases h
 .cases hv
@[simp] theorem bt9:bytesT C1 9 48=some 5:=by kernel_rfl
section
variable{S T:AS}{lo:Nat}
theorem uJ(l:List Nat):Sl ⟨S.h.set S.nx (.row (bH l) 0 0 true 5),S.nx+1⟩ (.slice S.nx 0 0 l.length l.length 1 none) 1 (bH l):=by
 refine⟨by simp[isSl,eS],?_,by simp[sLen,bM],by simp[aV]⟩;cases l with
 |nil=>simp[lY,bH]
 |cons x l=>
  simp[lY,dP,get_set_same,cr,bH];rw[zzm (by simp)]
theorem text240{w:Nat}{bs s:List Nat}(h:kN lo S w bs)(hm:bs.length<=800000)(hs:s.length<=1000):az C1 211 [.ptr w 0 0 1,.str s] S fun r T=>kN lo T w (bs++rf s)/\kO (fun id=>id=w) S T:=by
 obtain⟨⟨v,h1,h2,h4,_⟩,h7,_⟩:=id h;have BM:Sub S ⟨S.h.set S.nx (.row (bH s) 0 0 true 5),S.nx+1⟩:=Go.Proofs.YthklfandhmkpiaaGreatDoor.mod.dc;obtain⟨r,T,⟨hT,g1,g2⟩,e1⟩:=(bytes160 (h2.1.toSub BM) (uJ s) (by omega) (by omega)).ex;have lA:=BM.trans hT;have fin:=E6 h lA (by have h:S.nx+1<=T.nx:=hT.nx;rcases g1 with h|h;exact .inl h;exact .inr (Nat.lt_of_succ_lt h)) g2;have hw:T.h.get w=some (.row [v] 0 0 false 287):=by rw[lA.h w h7];exact h1
 refine bu (EO _) (EP _ rfl) fn240 rfl ok240 (by simp) fun F hn s0 s1=>?_;simp[s0,s1,h1,e1,xm,hw,aj h2.1,g2.1.np,g2.1.cells];exact fin
def zj(b:Bool):List Nat:=eJ (if b then 1 else 0)
theorem flag264{w:Nat}{bs:List Nat}(b:Bool)(h:kN lo S w bs)(hm:bs.length<=800000):az C1 240 [.ptr w 0 0 1,.bool b] S fun r T=>kN lo T w (bs++zj b)/\kO (fun id=>id=w) S T:=by
 cases b with
 |true=>
  obtain⟨r,T,h1,e1⟩:=(sc (n:=1) h hm (by omega)).ex;refine bu (EO _) (EP _ rfl) fn264 rfl ok264 (by simp) fun F hn s0 s1=>?_;simp only[Int.ofNat_one,Int.cast_ofNat_Int]at e1;simp[s0,s1,e1,xm];exact h1
 |false=>
  obtain⟨r,T,h1,e1⟩:=(sc (n:=0) h hm (by omega)).ex;refine bu (EO _) (EP _ rfl) fn264 rfl ok264 (by simp) fun F hn s0 s1=>?_;simp only[Int.ofNat_zero,Int.cast_ofNat_Int]at e1;simp[s0,s1,e1,xm];exact h1
def El(a:kH):List Nat:=if a.kind=1 then eJ (pT a.num) else if a.kind=2 then rf a.str else if a.kind=3 then zj a.bool else []
def gm(a:kH):List Nat:=eJ (uN a.kind)++El a
def wC(a:kH):Prop:=-9223372036854775808<=a.num/\a.num<9223372036854775808/\a.str.length<=32
theorem nt241:Tryz.f212.ntmps=35:=by kernel_rfl
theorem B4{w:Nat}{bs:List Nat}(a:kH)(h:kN lo S w bs)(hm:bs.length<=700000)(ha:wC a):az C1 212 [.ptr w 0 0 1,.agg (bq a)] S fun r T=>kN lo T w (bs++gm a)/\kO (fun id=>id=w) S T:=by
 have dZ:Sub S ⟨S.h.set S.nx (.row (bq a) 0 0 false 92),S.nx+1⟩:=Go.Proofs.YthklfandhmkpiaaGreatDoor.mod.dc;have h1:=h.sub dZ;have hk:=uz a.kind;obtain⟨r,T,⟨g1,g2⟩,e1⟩:=(sc (n:=uN a.kind) h1 (by omega) hk).ex;rw[<-sX]at e1;have hnb:(eJ (uN a.kind)).length<=10:=oo 9 _ (by omega);have cR:=h.lt;have hK:kO (fun id=>id=w) S T:=(dZ.fM).trans g2;have AY:S.nx+1<=T.nx:=g2.nx;have g0:T.h.get S.nx=some (.row (bq a) 0 0 false 92):=by rw[g2.h _ (zzg _) (by omega)];exact get_set_same _ _ _
 obtain⟨⟨v,q1,q2,q3,_⟩,q5,_⟩:=id g1;have c1:¬w=S.nx:=by omega
 obtain⟨n1,n2,n3⟩:=ha;simp only[bq]at g0 h1;unfold gm El;rw[<-zzb];refine ej (EO _) (EP _ rfl) fn241 rfl ok241 (by simp) fun F hn hs'=>?_;rw[nt241]at hn;have s0:=hs' 0;have s1:=hs' 1;clear hs';simp only[zzc,zzd,zzf,bq]at s0 s1;by_cases k1:a.kind=1
 .obtain⟨r,U,⟨hU,p1,p2⟩,e2⟩:=(int263 (n:=a.num) q2.1 (by rw[zza];omega) n1 n2).ex;have fin:=E6 g1 hU p1 p2;have hw:U.h.get w=some (.row [v] 0 0 false 287):=by rw[hU.h w q5];exact q1
  have fH:U.h.get S.nx=some (.row [.int .i64 a.kind,.int .i64 a.num,.str a.str,.bool a.bool] 0 0 false 92):=by rw[hU.h _ (by omega)];exact g0
  simp only[bq]at e1;rw[k1]at e1 s1 g0 fin;simp only[k1]at fH;simp[s0,s1,e1,g0,k1,hn,xm];refine bg [.p,.p,.p,.p,.r 0 0,.p,.r 0 0,.e [],.p,.p,.e []] (n:=35) (by kernel_rfl) (by simp[hn]) ?_;simp[s0,s1,q1,g0,e2,hw,xm,aj q2.1,aj p2.1,p2.1.np,p2.1.cells];rw[zzb]at fin;exact⟨fin.1,hK.trans fin.2⟩
 .by_cases k2:a.kind=2
  .obtain⟨r,U,⟨p1,p2⟩,e2⟩:=(text240 (s:=a.str) g1 (by rw[zza];omega) (by omega)).ex;simp only[bq]at e1;rw[k2]at e1 s1 g0 p1;simp[s0,s1,e1,e2,g0,k2,hn,xm];rw[zzb]at p1;exact⟨p1,hK.trans p2⟩
  .by_cases k3:a.kind=3
   .obtain⟨r,U,⟨p1,p2⟩,e2⟩:=(flag264 a.bool g1 (by rw[zza];omega)).ex;simp only[bq]at e1;rw[k3]at e1 s1 g0 p1;simp[s0,s1,e1,e2,g0,k3,hn,xm];rw[zzb]at p1;exact⟨p1,hK.trans p2⟩
   .simp only[bq]at e1;simp[s0,s1,e1,g0,k1,k2,k3,hn,xm];exact⟨g1,hK⟩
end
def ji(c:gY):List Nat:=rf c.name++eJ (uN c.op)++(if c.op=1 then [] else if c.op=9 then eJ c.cF.length++c.cF.flatMap gm else gm c.val)
def pF(cs:List gY):List Nat:=eJ cs.length++cs.flatMap ji
def ConRng(c:gY):Prop:=wC c.val/\∀v,v∈c.cF->wC v
def qq(c:gY):Prop:=c.name.length<=16/\c.cF.length<=6/\ConRng c
theorem lp(n:Nat)(h:n<18446744073709551616):(eJ n).length<=10:=oo 9 _ (by omega)
theorem flag_len(b:Bool):(zj b).length<=10:=lp _ (by cases b<;>decide)
theorem vr{s:List Nat}{k:Nat}(h:s.length<=k)(hk:k<=100000):(rf s).length<=10+k:=by
 have:=lp s.length (by omega);unfold rf;rw[zza];omega
theorem pU{a:kH}(h:wC a):(gm a).length<=52:=by
 have h1:=lp _ (uz a.kind);have h2:=lp _ (uu a.num).1;have h3:=vr (s:=a.str) h.2.2 (by omega);have h4:=flag_len a.bool;unfold gm El;rw[zza];split
 .omega
 .split
  .omega
  .split
   .omega
   .simp;omega
theorem gA{α:Type}{f:α->List Nat}{k:Nat}:∀{l:List α},(∀a,a∈l->(f a).length<=k)->(l.flatMap f).length<=l.length*k
 |[],_=>by simp
 |a::l,h=>by
  have h1:=h a (List.mem_cons_self ..);have h2:=gA (f:=f) (k:=k) (l:=l) fun b hb=>h b (List.mem_cons_of_mem _ hb);rw[List.flatMap_cons,zza,List.length_cons,Nat.succ_mul];omega
theorem zw{c:gY}(h:qq c):(ji c).length<=400:=by
 obtain⟨h1,h2,h3,h4⟩:=h;have k1:=vr (s:=c.name) h1 (by omega);have k2:=lp _ (uz c.op);have k3:=pU h3;have k4:=lp c.cF.length (by omega);have k5:=gA (f:=gm) (k:=52) fun v hv=>pU (h4 v hv);have k6:c.cF.length*52<=6*52:=zzj _ h2;unfold ji;rw[zza,zza];split
 .simp;omega
 .split
  .rw[zza];omega
  .omega
theorem predB_len{cs:List gY}(h6:cs.length<=6)(h:∀c,c∈cs->qq c):(pF cs).length<=2410:=by
 have k4:=lp cs.length (by omega);have k5:=gA (f:=ji) (k:=400) fun v hv=>zw (h v hv);have k6:cs.length*400<=6*400:=zzj _ h6;unfold pF;rw[zza];omega
theorem iF{α:Type}{f:α->List Nat}{l:List α}{i:Nat}(h:i<l.length):(l.take (i+1)).flatMap f=(l.take i).flatMap f++f l[i]:=by
 rw[zzo h,List.flatMap_append];simp
section
variable{S T:AS}{lo:Nat}
theorem nt198:Tryz.f177.ntmps=42:=by kernel_rfl
def conH(lo:Nat)(S:AS)(w:Nat)(bs:List Nat)(u:AV)(l:List kH)(k:Nat)(F':Fr)(S':AS):Prop:=
 ∃i:Nat,kN lo S' w (bs++(l.take i).flatMap gm)/\kO (fun id=>id=w) S S'/\sl F' 0=.ptr w 0 0 1/\sl F' 32=u/\sl F' 33=.int .i64 l.length/\sl F' 34=.int .i64 i/\i<=l.length/\F'.n=42/\k=l.length-i
theorem conH_mk{w:Nat}{bs:List Nat}{u:AV}{l:List kH}{k:Nat}{F':Fr}(i:Nat)(h1:kN lo T w (bs++(l.take i).flatMap gm))(h2:kO (fun id=>id=w) S T)(h3:sl F' 0=.ptr w 0 0 1)(h4:sl F' 32=u)(h5:sl F' 33=.int .i64 l.length)(h6:sl F' 34=.int .i64 i)(h7:i<=l.length)(h8:F'.n=42)(h9:k=l.length-i):conH lo S w bs u l k F' T:=
 ⟨i,h1,h2,h3,h4,h5,h6,h7,h8,h9⟩
theorem Sl.Dc{w sz:Nat}{u:AV}{cs:List AV}(h:Sl S u sz cs)(hk:kO (fun id=>id=w) S T)(hw:aV u≠w+1):Sl T u sz cs:=
 h.cE (fun id e=>hk.h id (by have:=h.old;omega) (by omega)) hk.nx
theorem xE{w:Nat}{bs:List Nat}{c:gY}(h:kN lo S w bs)(hm:bs.length<=600000)(hc:jm S c)(hw:aV c.Fw≠w+1)(hf:qq c):az C1 177 [.ptr w 0 0 1,.agg (ek c)] S fun r T=>kN lo T w (bs++ji c)/\kO (fun id=>id=w) S T:=by
 obtain⟨f1,f2,f3,f4⟩:=hf;have dZ:Sub S ⟨S.h.set S.nx (.row (ek c) 0 0 false 98),S.nx+1⟩:=Go.Proofs.YthklfandhmkpiaaGreatDoor.mod.dc;have cR:=h.lt;have k1:=vr (s:=c.name) f1 (by omega);have k2:=lp _ (uz c.op);obtain⟨r,T,⟨g1,g2⟩,e1⟩:=(text240 (s:=c.name) (h.sub dZ) (by omega) (by omega)).ex;obtain⟨r,T2,⟨g3,g4⟩,e2⟩:=(sc (n:=uN c.op) g1 (by rw[zza];omega) (uz _)).ex;rw[<-sX]at e2;have AY:S.nx+1<=T.nx:=g2.nx;have hT2n:=g4.nx;have b0:T.h.get S.nx=some (.row (ek c) 0 0 false 98):=by rw[g2.h _ (zzg _) (by omega)];exact get_set_same _ _ _
 have b1:T2.h.get S.nx=some (.row (ek c) 0 0 false 98):=by rw[g4.h _ (by omega) (by omega)];exact b0
 have hK:kO (fun id=>id=w) S T2:=((dZ.fM).trans g2).trans g4;have u1:=hc.sl.sl;have u2:=hc.sl.bj dJ (by omega);have uk:=aj hc.sl;have uc:=hc.sl.cells;unfold ji;simp only[ek]at b0 b1 e1;refine ej (EO _) (EP _ rfl) fn198 rfl ok198 (by simp) fun F hn hs'=>?_;rw[nt198]at hn;have s0:=hs' 0;have s1:=hs' 1;clear hs';simp only[zzc,zzd,zzf,ek]at s0 s1;by_cases o1:c.op=1
 .rw[o1]at b0 b1 e1 e2 s1 g3;simp[s0,s1,e1,e2,b0,b1,uc,xm,o1];rw[zzb]at g3;exact⟨g3,hK⟩
 by_cases o9:c.op=9
 .rw[o9]at b0 b1 e1 e2 s1 g3;have k3:=lp c.cF.length (by omega);obtain⟨r,T3,⟨g5,g6⟩,e3⟩:=(sc (n:=c.cF.length) g3 (by rw[zza,zza];rw[o9]at k2;omega) (by omega)).ex;have Dp:=tV (n:=c.cF.length) (by omega);have b2:=(g6.h S.nx (by omega) (by omega)).trans b1;have hK3:=hK.trans g6;have hT3n:=g6.nx;obtain⟨bs2,hbs2⟩:∃bs2,bs2=bs++rf c.name++eJ (uN 9)++eJ c.cF.length:=⟨_,rfl⟩
  rw[<-hbs2]at g5;have hb2l:bs2.length<=600100:=by rw[hbs2];simp only[zza];rw[o9]at k2;omega
  have hgoal:bs++(rf c.name++eJ (uN 9)++(eJ c.cF.length++c.cF.flatMap gm))=bs2++c.cF.flatMap gm:=by rw[hbs2];simp only[zzb]
  simp[s0,s1,e1,e2,e3,b0,b1,b2,u1,u2,uc,uk,Dp,xm,o9];simp only[<-zzb];rw[show bs++rf c.name++eJ (uN 9)++eJ c.cF.length=bs2 from hbs2.symm];refine aW (conH lo S w bs2 c.Fw c.cF) c.cF.length (conH_mk 0 (by simpa using g5) hK3 (by simp[s0]) (by simp) (by simp) (by simp) (zzq _) (by simp[hn]) rfl) ?_;clear g3 g4 g5 g6 hK b0 b1 b2 e1 e2 e3 g1 g2 hT2n AY s0 s1 hn hbs2 hgoal hK3 hT3n;rintro k F' S'-⟨i,q1,q2,t0,t32,t33,t34,hi,hn,hk'⟩;by_cases ck:i<c.cF.length
  .have hx:c.cF[i]?=some c.cF[i]:=zzh ck;have huS:=Sl.Dc hc.sl q2 hw;have EY:=bh (cx:=C1) (e:=92) huS dJ (by omega) hx EG Ce;have hlt':=q1.lt;have hZ:Sub S' ⟨(S'.h.set S'.nx (.row [.int .i64 0,.int .i64 0,.str [],.bool false] 0 0 false 92)).set S'.nx (.row (bq c.cF[i]) 0 0 false 92),S'.nx+1⟩:=Go.Proofs.YthklfandhmkpiaaGreatDoor.mod.eb;have hml:=gA (f:=gm) (k:=52) (l:=c.cF.take i) fun v hv=>pU (f4 v (List.mem_of_mem_take hv));have hml2:(c.cF.take i).length*52<=6*52:=zzj _ (by rw[List.length_take];omega);obtain⟨r,V,⟨p1,p2⟩,e3⟩:=(B4 c.cF[i] (q1.sub hZ) (by rw[zza];omega) (f4 _ (zzi ck))).ex;rw[zzb,<-iF ck]at p1;have hK2:kO (fun id=>id=w) S V:=(q2.trans hZ.fM).trans p2;have hwi:=fV (i:=i) (by omega);simp only[bq]at EY e3;simp[t0,t32,t33,t34,u1,u2,ck,EY,e3,xm,hwi];exact⟨c.cF.length-(i+1),by omega,conH_mk (i+1) p1 hK2 (by simp[t0]) (by simp[t32]) (by simp[t33]) (by simp) ck (by simp[hn]) rfl⟩
  .have:i=c.cF.length:=by omega
   subst this;rw[List.take_length]at q1;simp[t0,t32,t33,t34];exact⟨q1,q2⟩
 .obtain⟨r,T3,⟨g5,g6⟩,e3⟩:=(B4 c.val g3 (by simp only[zza];omega) f3).ex;simp only[bq]at e3;simp[s0,s1,e1,e2,e3,b0,b1,uc,xm,o1,o9];simp only[zzb]at g5;exact⟨g5,hK.trans g6⟩
end
open Go.Proofs.YthklfandhmkpiaaGreatDoor.mod (gv zeroV qY)
def oP(v:kH):Prop:=-9223372036854775808<=v.num/\v.num<9223372036854775808/\∀c,c∈v.str->c<256
def eW(c:gY):Prop:=oP c.val/\(∀v,v∈c.cF->oP v)/\∀x,x∈c.name->x<256
theorem uP{a b:kH}(h:gv a b=true):a.str=b.str:=by
 unfold gv at h;simp only[zze,aZ,decide_eq_true_eq]at h;exact h.2.2.1
theorem Ay{v:kH}(h:dR v=true)(hn:oP v):wC v:=by
 refine⟨hn.1,hn.2.1,?_⟩;unfold dR at h;split at h
 .rw[uP h];simp
 .split at h
  .simp only[zze,decide_eq_true_eq]at h;exact h.2
  .split at h
   .rw[uP h];simp
   .cases h
theorem BR{v:kH}(h:gv v zeroV=true)(hn:oP v):wC v:=⟨hn.1,hn.2.1,by rw[uP h];show ([]:List Nat).length<=32;simp⟩
theorem may_fit{c:gY}(h:lq c=true)(hn:eW c):qq c:=by
 have no:c.cF.length=0->∀v,v∈c.cF->wC v:=fun e v hv=>by rw[List.length_eq_zero_iff.1 e]at hv;cases hv
 unfold lq at h;split at h
 .cases h
 .split at h
  .cases h
  .rename_i h1 h2;refine⟨by omega,?_⟩;split at h
   .simp only[zze,decide_eq_true_eq]at h;exact⟨by omega,BR h.1 hn.1,no h.2⟩
   .split at h
    .simp only[zze,decide_eq_true_eq]at h;exact⟨by omega,Ay h.1 hn.1,no h.2⟩
    .split at h
     .simp only[zze,decide_eq_true_eq]at h;exact⟨by omega,Ay h.1 hn.1,no h.2.2⟩
     .split at h
      .simp only[zze,decide_eq_true_eq]at h;refine⟨h.2.2.1,BR h.1 hn.1,fun v hv=>?_⟩;have h3:=h.2.2.2;unfold Cr at h3;have h4:(c.cF.any fun v=>!dR v)=false:=by simpa using h3
       rw[zzp]at h4;have h5:=h4 v hv;exact Ay (by simpa using h5) (hn.2.1 v hv)
      .cases h
theorem mayP_len{cs:List gY}(h:iw cs=true):cs.length<=6:=by
 unfold iw at h;simp only[zze,decide_eq_true_eq]at h;exact h.1
theorem vj{cs:List gY}(h:iw cs=true):∀c,c∈cs->lq c=true:=by
 unfold iw at h;simp only[zze]at h;have h2:(cs.any fun c=>!lq c)=false:=by simpa using h.2
 rw[zzp]at h2;intro c hc;simpa using h2 c hc
theorem vi{cs:List gY}(h:iw cs=true)(hn:∀c,c∈cs->eW c):cs.length<=6/\∀c,c∈cs->qq c:=
 ⟨mayP_len h,fun c hc=>may_fit (vj h c hc) (hn c hc)⟩
section
variable{S T:AS}{lo:Nat}
theorem df.Dc{w:Nat}{p:AV}{cs:List gY}(h:df S p cs)(hk:kO (fun id=>id=w) S T)(hw:aV p≠w+1)(hc:∀c,c∈cs->aV c.Fw≠w+1):df T p cs:=
 ⟨Sl.Dc h.sl hk hw,fun c hm=>⟨Sl.Dc (h.con c hm).sl hk (hc c hm),(h.con c hm).le⟩,h.le⟩
theorem nt196:Tryz.f175.ntmps=20:=by kernel_rfl
def putH(lo:Nat)(S:AS)(w:Nat)(bs:List Nat)(u:AV)(l:List gY)(k:Nat)(F':Fr)(S':AS):Prop:=
 ∃i:Nat,kN lo S' w (bs++(l.take i).flatMap ji)/\kO (fun id=>id=w) S S'/\sl F' 0=.ptr w 0 0 1/\sl F' 10=u/\sl F' 11=.int .i64 l.length/\sl F' 12=.int .i64 i/\i<=l.length/\F'.n=20/\k=l.length-i
theorem putH_mk{w:Nat}{bs:List Nat}{u:AV}{l:List gY}{k:Nat}{F':Fr}(i:Nat)(h1:kN lo T w (bs++(l.take i).flatMap ji))(h2:kO (fun id=>id=w) S T)(h3:sl F' 0=.ptr w 0 0 1)(h4:sl F' 10=u)(h5:sl F' 11=.int .i64 l.length)(h6:sl F' 12=.int .i64 i)(h7:i<=l.length)(h8:F'.n=20)(h9:k=l.length-i):putH lo S w bs u l k F' T:=
 ⟨i,h1,h2,h3,h4,h5,h6,h7,h8,h9⟩
theorem put196{w b:Nat}{p:AV}{cs:List gY}(h:kN lo S w [])(hb:S.h.get b=some (.row [p] 0 0 false 40))(hbl:b<S.nx)(hbw:b≠w)(hp:df S p cs)(hpw:aV p≠w+1)(hcw:∀c,c∈cs->aV c.Fw≠w+1)(h6:cs.length<=6)(hf:∀c,c∈cs->qq c):
  az C1 175 [.ptr w 0 0 1,.ptr b 0 0 1] S fun r T=>kN lo T w (pF cs)/\kO (fun id=>id=w) S T:=by
 obtain⟨r,T,⟨g1,g2⟩,e1⟩:=(sc (n:=cs.length) h (by simp) (by omega)).ex;have cR:=h.lt;have AY:=g2.nx;have b1:T.h.get b=some (.row [p] 0 0 false 40):=(g2.h b hbl hbw).trans hb;have u1:=hp.sl.sl;have u2:=hp.sl.bj dj (by omega);have uk:=aj hp.sl;have Dp:=tV (n:=cs.length) (by omega);have k4:=lp cs.length (by omega);unfold pF;refine bu (EO _) (EP _ rfl) fn196 rfl ok196 (by simp) fun F hn s0 s1=>?_;rw[nt196]at hn;simp[s0,s1,hb,b1,e1,u1,u2,uk,Dp,xm];refine aW (putH lo S w (eJ cs.length) p cs) cs.length (putH_mk 0 (by simpa using g1) g2 (by simp[s0]) (by simp) (by simp) (by simp) (zzq _) (by simp[hn]) rfl) ?_;clear g1 g2 b1 e1 AY s0 s1 hn;rintro k F' S'-⟨i,q1,q2,t0,t10,t11,t12,hi,hn,hk'⟩;by_cases ck:i<cs.length
 .have hx:cs[i]?=some cs[i]:=zzh ck;have hm:=zzi ck;have hpS:=df.Dc hp q2 hpw hcw;have EY:=bh (cx:=C1) (e:=98) hpS.sl dj (by omega) hx zI yj;have hlt':=q1.lt;have hZ:Sub S' ⟨(S'.h.set S'.nx (.row [.str [],.int .i64 0,.int .i64 0,.int .i64 0,.str [],.bool false,.ar] 0 0 false 98)).set S'.nx (.row (ek cs[i]) 0 0 false 98),S'.nx+1⟩:=Go.Proofs.YthklfandhmkpiaaGreatDoor.mod.eb;have hml:=gA (f:=ji) (k:=400) (l:=cs.take i) fun v hv=>zw (hf v (List.mem_of_mem_take hv));have hml2:(cs.take i).length*400<=6*400:=zzj _ (by rw[List.length_take];omega);obtain⟨r,V,⟨p1,p2⟩,e3⟩:=(xE (c:=cs[i]) (q1.sub hZ) (by rw[zza];omega) ((hpS.con _ hm).sub hZ) (hcw _ hm) (hf _ hm)).ex;rw[zzb,<-iF ck]at p1;have hK2:kO (fun id=>id=w) S V:=(q2.trans hZ.fM).trans p2;have hwi:=fV (i:=i) (by omega);have uc:=(hp.con _ hm).sl.cells;simp only[ek]at EY e3;simp[t0,t10,t11,t12,u1,u2,ck,EY,e3,xm,hwi,uc];exact⟨cs.length-(i+1),by omega,putH_mk (i+1) p1 hK2 (by simp[t0]) (by simp[t10]) (by simp[t11]) (by simp) ck (by simp[hn]) rfl⟩
 .have:i=cs.length:=by omega
  subst this;rw[List.take_length]at q1;simp[t0,t10,t11,t12];exact⟨q1,q2⟩
theorem bld300(id g o n l z:Nat)(c:Option Nat):eT C1 287 [(0,.slice id g o n l z c)]=some (.agg [.slice id g o n l z c]):=by kernel_rfl
theorem pY{o o':dp}:Sub S ⟨(S.h.set S.nx o).set (S.nx+1) o',S.nx+2⟩:=Go.Proofs.YthklfandhmkpiaaGreatDoor.mod.dc.set _ _ (zzk _) _ (zzk _)
theorem pred_below{p:AV}{cs:List gY}(hp:df S p cs):aV p<=S.nx/\∀c,c∈cs->aV c.Fw<=S.nx:=⟨hp.sl.old,fun c hc=>(hp.con c hc).sl.old⟩
theorem form195{b:Nat}{p:AV}{cs:List gY}(t:Bool)(hb:S.h.get b=some (.row [p] 0 0 false 40))(hbl:b<S.nx)(hp:df S p cs)(ht:t=true->cs.length<=6/\∀c,c∈cs->qq c):
  az C1 174 [.bool t,.func (.func 175) [] [.ptr b 0 0 1]] S fun r T=>∃v,r=.tuple [v,.int .i64 (if t then 0 else 30)]/\Gw T v 1 5 (bH (if t then pF cs else []))/\tP S.nx v/\Sub S T:=by
 cases t with
 |false=>
  refine bu (EO _) (EP _ rfl) fn195 rfl ok195 (by simp) fun F hn s0 s1=>?_;simp[s0,s1];exact⟨by simpa[bH]using (Gw.nil (S:=S) (sz:=1) (e:=5)),.inl rfl,Sub.refl S⟩
 |true=>
  obtain⟨k1,k2⟩:=ht rfl;have h1:Sub S ⟨(S.h.set S.nx (.row [] 0 0 false 5)).set (S.nx+1) (.row [.slice S.nx 0 0 0 0 1 (some 0)] 0 0 false 287),S.nx+2⟩:=pY;obtain⟨o1,o2⟩:=pred_below hp;have hW:kN S.nx ⟨(S.h.set S.nx (.row [] 0 0 false 5)).set (S.nx+1) (.row [.slice S.nx 0 0 0 0 1 (some 0)] 0 0 false 287),S.nx+2⟩ (S.nx+1) []:=by
   refine⟨⟨_,get_set_same _ _ _,Gw.fresh ?_ (by show S.nx<S.nx+2;omega),by simp[aV],.inr (by simp[aV])⟩,by show S.nx+1<S.nx+2;omega,Nat.le_add_right _ _⟩;show ((S.h.set _ _).set _ _).get _=_;rw[ah _ _ (by omega)];exact get_set_same _ _ _
  obtain⟨r,T,⟨⟨⟨v,q1,q2,q3,hN⟩,q5,_⟩,q6⟩,e1⟩:=(put196 hW (by rw[h1.h _ hbl];exact hb) (by show b<S.nx+2;omega) (by omega) (hp.sub h1) (by omega) (fun c hc=>by have:=o2 c hc;omega) k1 k2).ex;have hT:Sub S T:=⟨fun id cw=>(q6.h id (by show id<S.nx+2;omega) (by omega)).trans (h1.h id cw),zzl h1.nx q6.nx⟩
  refine bu (EO _) (EP _ rfl) fn195 rfl ok195 (by simp) fun F hn s0 s1=>?_;simp[s0,s1,oB Ae,bld300,e1,xm,q1,aj q2.1,q2.1.np];exact⟨q2,hN,hT⟩
end
end Go.Proofs.YthklfandhmkpiaaGreatDoor.bk
end
