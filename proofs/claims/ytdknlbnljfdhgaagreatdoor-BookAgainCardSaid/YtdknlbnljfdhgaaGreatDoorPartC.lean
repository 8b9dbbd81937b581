/-
  The context of the model's proofs, and the facts of types and functions that simp wants.
-/
import Derived.Test.YtdknlbnljfdhgaaGreatDoorPartA
import Derived.Test.YtdknlbnljfdhgaaGreatDoorAmWide
import Derived.Test.YtdknlbnljfdhgaaGreatDoorAmArgs
noncomputable section
namespace Go.Proofs.YtdknlbnljfdhgaaGreatDoor.mod
open Go Go.Am
set_option linter.unusedVariables false
set_option linter.unusedSimpArgs false
abbrev A0:Am.Ask:=seg.A0
abbrev C0:Am.Cx:=seg.C0
theorem qy(f:Nat)(h:(f==287)=false):C0.exts.get f=none:=fD f
theorem ym(f:Nat)(h:(f==12||f==55||f==161)=false):C0.dE.get f=none:=seg.ym f h
theorem zF(f:Nat):C0.jS.get f=none:=fD f
@[simp] theorem ag3:aG C0 3=some false:=by kernel_rfl
@[simp] theorem sz3:aE C0 3=some 1:=by kernel_rfl
@[simp] theorem ze3:zeroOf C0 3=some (.int .i64 0):=by kernel_rfl
@[simp] theorem ag31:aG C0 27=some false:=by kernel_rfl
@[simp] theorem sz31:aE C0 27=some 1:=by kernel_rfl
@[simp] theorem cv3_31:jY C0 3 27=some .u64:=by kernel_rfl
@[simp] theorem mt133:mapT C0 164=true:=by kernel_rfl
@[simp] theorem ag9:aG C0 9=some false:=by kernel_rfl
@[simp] theorem sz9:aE C0 9=some 1:=by kernel_rfl
@[simp] theorem ag24:aG C0 29=some false:=by kernel_rfl
@[simp] theorem sz24:aE C0 29=some 1:=by kernel_rfl
@[simp] theorem ag133:aG C0 164=some false:=by kernel_rfl
@[simp] theorem sz133:aE C0 164=some 1:=by kernel_rfl
@[simp] theorem mk133:El C0 164=some ((.int .i64),.int .u64 0):=by kernel_rfl
@[simp] theorem ag4:aG C0 4=some false:=by kernel_rfl
@[simp] theorem sz4:aE C0 4=some 1:=by kernel_rfl
@[simp] theorem st92:oz C0 48=some (52,2,16):=by kernel_rfl
@[simp] theorem ag132:aG C0 52=some true:=by kernel_rfl
@[simp] theorem sz132:aE C0 52=some 2:=by kernel_rfl
@[simp] theorem ze132:zeroOf C0 52=some (.agg [.int .i64 0,.int .u64 0]):=by kernel_rfl
@[simp] theorem fa132_0:fieldAt C0 52 0=some 0:=by kernel_rfl
@[simp] theorem fa132_1:fieldAt C0 52 1=some 1:=by kernel_rfl
theorem fn71:C0.fns.get 93=some Tryz.f93:=by kernel_rfl
theorem ok71:codeOk C0 Tryz.f93.ntmps (Tryz.f93.body.getD .skip)=true:=by kernel_rfl
@[simp] theorem st24:oz C0 29=some (103,7,88):=by kernel_rfl
theorem fn72:C0.fns.get 86=some Tryz.f86:=by kernel_rfl
theorem ok72:codeOk C0 Tryz.f86.ntmps (Tryz.f86.body.getD .skip)=true:=by kernel_rfl
@[simp] theorem fa105_3:fieldAt C0 103 3=some 6:=by kernel_rfl
@[simp] theorem ag103:aG C0 101=some false:=by kernel_rfl
@[simp] theorem zy:aE C0 101=some 1:=by kernel_rfl
theorem fn73:C0.fns.get 87=some Tryz.f87:=by kernel_rfl
theorem ok73:codeOk C0 Tryz.f87.ntmps (Tryz.f87.body.getD .skip)=true:=by kernel_rfl
@[simp] theorem ag92:aG C0 48=some false:=by kernel_rfl
@[simp] theorem un92:bC C0 48=some (.slice 52):=by kernel_rfl
theorem fn74:C0.fns.get 231=some Tryz.f231:=by kernel_rfl
theorem ok74:codeOk C0 Tryz.f231.ntmps (Tryz.f231.body.getD .skip)=true:=by kernel_rfl
@[simp] theorem ag102:aG C0 100=some true:=by kernel_rfl
@[simp] theorem sz102:aE C0 100=some 4:=by kernel_rfl
@[simp] theorem ze102:zeroOf C0 100=some (.agg [.int .i64 0,.int .i64 0,.str [],.bool false]):=by kernel_rfl
theorem fn76:C0.fns.get 144=some Tryz.f144:=by kernel_rfl
theorem ok76:codeOk C0 Tryz.f144.ntmps (Tryz.f144.body.getD .skip)=true:=by kernel_rfl
@[simp] theorem fa105_0:fieldAt C0 103 0=some 0:=by kernel_rfl
@[simp] theorem ag105:aG C0 103=some true:=by kernel_rfl
@[simp] theorem sz105:aE C0 103=some 7:=by kernel_rfl
theorem fn124:C0.fns.get 145=some Tryz.f145:=by kernel_rfl
theorem ok124:codeOk C0 Tryz.f145.ntmps (Tryz.f145.body.getD .skip)=true:=by kernel_rfl
theorem fn125:C0.fns.get 146=some Tryz.f146:=by kernel_rfl
theorem ok125:codeOk C0 Tryz.f146.ntmps (Tryz.f146.body.getD .skip)=true:=by kernel_rfl
@[simp] theorem fa105_2:fieldAt C0 103 2=some 2:=by kernel_rfl
@[simp] theorem fa105_1:fieldAt C0 103 1=some 1:=by kernel_rfl
@[simp] theorem st103:oz C0 101=some (100,4,40):=by kernel_rfl
@[simp] theorem fa102_0:fieldAt C0 100 0=some 0:=by kernel_rfl
theorem fn126:C0.fns.get 139=some Tryz.f139:=by kernel_rfl
theorem ok126:codeOk C0 Tryz.f139.ntmps (Tryz.f139.body.getD .skip)=true:=by kernel_rfl
@[simp] theorem un24:bC C0 29=some (.slice 103):=by kernel_rfl
theorem fn127:C0.fns.get 140=some Tryz.f140:=by kernel_rfl
theorem ok127:codeOk C0 Tryz.f140.ntmps (Tryz.f140.body.getD .skip)=true:=by kernel_rfl
@[simp] theorem un103:bC C0 101=some (.slice 100):=by kernel_rfl
theorem fn128:C0.fns.get 183=some Tryz.f183:=by kernel_rfl
theorem ok128:codeOk C0 Tryz.f183.ntmps (Tryz.f183.body.getD .skip)=true:=by kernel_rfl
@[simp] theorem sz92:aE C0 48=some 1:=by kernel_rfl
theorem fn156:C0.fns.get 184=some Tryz.f184:=by kernel_rfl
theorem ok156:codeOk C0 Tryz.f184.ntmps (Tryz.f184.body.getD .skip)=true:=by kernel_rfl
theorem fn157:C0.fns.get 185=some Tryz.f185:=by kernel_rfl
theorem ok157:codeOk C0 Tryz.f185.ntmps (Tryz.f185.body.getD .skip)=true:=by kernel_rfl
theorem EU:C0.fns.get 186=some Tryz.f186:=by kernel_rfl
theorem Ee:codeOk C0 Tryz.f186.ntmps (Tryz.f186.body.getD .skip)=true:=by kernel_rfl
@[simp] theorem ze2:zeroOf C0 2=some (.int .i64 0):=by kernel_rfl
@[simp] theorem conc2:vm C0 2=true:=by kernel_rfl
@[simp] theorem ze9:zeroOf C0 9=some (.str []):=by kernel_rfl
@[simp] theorem conc9:vm C0 9=true:=by kernel_rfl
@[simp] theorem ze4:zeroOf C0 4=some (.bool false):=by kernel_rfl
@[simp] theorem conc4:vm C0 4=true:=by kernel_rfl
@[simp] theorem ag73:aG C0 204=some false:=by kernel_rfl
@[simp] theorem sz73:aE C0 204=some 1:=by kernel_rfl
@[simp] theorem fa102_1:fieldAt C0 100 1=some 1:=by kernel_rfl
@[simp] theorem ag2:aG C0 2=some false:=by kernel_rfl
@[simp] theorem sz2:aE C0 2=some 1:=by kernel_rfl
@[simp] theorem fa102_2:fieldAt C0 100 2=some 2:=by kernel_rfl
@[simp] theorem fa102_3:fieldAt C0 100 3=some 3:=by kernel_rfl
theorem fn174:C0.fns.get 141=some Tryz.f141:=by kernel_rfl
theorem ok174:codeOk C0 Tryz.f141.ntmps (Tryz.f141.body.getD .skip)=true:=by kernel_rfl
theorem fn189:C0.fns.get 229=some Tryz.f229:=by kernel_rfl
theorem ok189:codeOk C0 Tryz.f229.ntmps (Tryz.f229.body.getD .skip)=true:=by kernel_rfl
theorem fn190:C0.fns.get 230=some Tryz.f230:=by kernel_rfl
theorem ok190:codeOk C0 Tryz.f230.ntmps (Tryz.f230.body.getD .skip)=true:=by kernel_rfl
theorem fn191:C0.fns.get 232=some Tryz.f232:=by kernel_rfl
theorem ok191:codeOk C0 Tryz.f232.ntmps (Tryz.f232.body.getD .skip)=true:=by kernel_rfl
theorem fn192:C0.fns.get 233=some Tryz.f233:=by kernel_rfl
theorem ok192:codeOk C0 Tryz.f233.ntmps (Tryz.f233.body.getD .skip)=true:=by kernel_rfl
def idxI{α:Type}(P:α->Bool)(l:List α):Int:=match l.findIdx? P with|some i=>(i:Int)|none=>-1
theorem tX{α:Type}{P:α->Bool}{l:List α}(h:∀x,x∈l->P x=false):idxI P l=-1:=by
 unfold idxI;rw[List.findIdx?_eq_none_iff.2 h]
theorem BH{α:Type}{P:α->Bool}{l:List α}{i:Nat}{x:α}(h:l[i]?=some x)(hp:P x=true)(ha:∀x,x∈l.take i->P x=false):idxI P l=i:=by
 obtain⟨hi,rfl⟩:=List.getElem?_eq_some_iff.1 h;have:l.findIdx? P=some i:=by
  rw[List.findIdx?_eq_some_iff_getElem];refine⟨hi,hp,fun j hj=>?_⟩;have:=ha l[j] (List.mem_take_iff_getElem.2 ⟨j,by omega,rfl⟩);simp[this]
 unfold idxI;rw[this]
theorem Ez{α:Type}{P:α->Bool}{l:List α}:decide (0<=idxI P l)=l.any P:=by
 unfold idxI;cases h:l.findIdx? P with
 |none=>
  have:=List.findIdx?_eq_none_iff.1 h;have h2:l.any P=false:=by rw[List.any_eq_false];intro x hx;simp[this x hx]
  rw[h2];rfl
 |some i=>
  obtain⟨hi,hp,_⟩:=List.findIdx?_eq_some_iff_getElem.1 h;have h2:l.any P=true:=List.any_eq_true.2 ⟨l[i],List.getElem_mem hi,hp⟩;rw[h2];simp
theorem jx{α:Type}{P:α->Bool}{l:List α}{i:Nat}{x:α}(h:l[i]?=some x)(hp:P x=false)(ha:∀x,x∈l.take i->P x=false):∀x,x∈l.take (i+1)->P x=false:=by
 obtain⟨hi,rfl⟩:=List.getElem?_eq_some_iff.1 h;intro y hy;rw[List.take_succ_eq_append_getElem hi]at hy;rcases List.mem_append.1 hy with hy|hy
 .exact ha y hy
 .simp at hy;subst hy;exact hp
def idxH{α:Type}(S:AS)(u g:AV)(l:List α)(P:α->Bool)(k:Nat)(F':Fr)(S':AS):Prop:=
 ∃i:Nat,Sub S S'/\sl F' 0=u/\sl F' 1=g/\sl F' 7=.int .i64 l.length/\sl F' 8=.int .i64 i/\i<=l.length/\k=l.length-i/\∀x,x∈l.take i->P x=false
theorem qq{α:Type}{S:AS}{u g:AV}{l:List α}{P:α->Bool}{k:Nat}{F':Fr}{S':AS}(i:Nat)(h1:Sub S S')(h2:sl F' 0=u)(h3:sl F' 1=g)(h4:sl F' 7=.int .i64 l.length)(h5:sl F' 8=.int .i64 i)(h6:i<=l.length)(h7:k=l.length-i)(h8:∀x,x∈l.take i->P x=false):idxH S u g l P k F' S':=
 ⟨i,h1,h2,h3,h4,h5,h6,h7,h8⟩
theorem idx128{α:Type}{enc:α->List AV}{S:AS}{u:AV}{l:List α}{f:FuncId}{caps:List AV}{P:α->Bool}(hz:∀x,(enc x).length=7)(h:Sl S u 7 (l.flatMap enc))(hb:l.length<=9223372036854775807)(hf:(f==287)=false)
  (hc:∀T,Sub S T->∀x,x∈l->ai C0 f (.agg (enc x)::caps) T fun v T'=>v=.bool (P x)/\Sub T T') :
  ai C0 183 [u,.func (.func f) [] caps] S fun v T=>v=.int .i64 (idxI P l)/\Sub S T:=by
 refine aX (zF _) (ym _ rfl) fn128 rfl ok128 (by simp) fun F hn s0 s1=>?_;have u1:=h.sl;have u2:=h.aM hz (by omega);simp[s0,s1,u1,u2];refine aH (idxH S u (.func (.func f) [] caps) l P) l.length (qq 0 (Sub.refl S) (by simp[s0]) (by simp[s1]) (by simp) (by simp) (Nat.zero_le _) rfl (by simp)) ?_;rintro k F' S' fL ⟨i,aP,t0,t1,t7,t8,hi,hk,ha⟩;clear fL s0 s1 hn;by_cases cQ:i<l.length
 .have hx:l[i]?=some l[i]:=List.getElem?_eq_getElem cQ;have hl:=cZ (cx:=C0) (e:=103) (h.toSub aP) hz (by omega) hx ag105 sz105;obtain⟨v,T',⟨rfl,hs⟩,e⟩:=(hc S' aP l[i] (List.getElem_mem cQ)).ex;cases hp:P l[i]with
  |true=>simp[t0,t1,t7,t8,u1,u2,cQ,hl,e,hp,qy f hf,aP.trans hs,BH hx hp ha]
  |false=>
   simp[t0,t1,t7,t8,u1,u2,cQ,hl,e,hp,qy f hf];exact⟨l.length-(i+1),by omega,qq (i+1) (aP.trans hs) (by simp[t0]) (by simp[t1]) (by simp[t7]) (by simp[aW (show i<9223372036854775807 by omega)]) cQ rfl (jx hx hp ha)⟩
 .have jW:∀x,x∈l->P x=false:=fun x hx=>ha x (by rw[List.take_of_length_le (by omega)];exact hx);simp[t7,t8,cQ,tX jW,aP]
theorem con76{α:Type}{enc:α->List AV}{S:AS}{u:AV}{l:List α}{f:FuncId}{caps:List AV}{P:α->Bool}(hz:∀x,(enc x).length=7)(h:Sl S u 7 (l.flatMap enc))(hb:l.length<=9223372036854775807)(hf:(f==287)=false)
  (hc:∀T,Sub S T->∀x,x∈l->ai C0 f (.agg (enc x)::caps) T fun v T'=>v=.bool (P x)/\Sub T T') :
  ai C0 144 [u,.func (.func f) [] caps] S fun v T=>v=.bool (l.any P)/\Sub S T:=by
 obtain⟨v,T,⟨rfl,hs⟩,e⟩:=(idx128 hz h hb hf hc).ex;refine aX (zF _) (ym _ rfl) fn76 rfl ok76 (by simp) fun F hn s0 s1=>?_;simp[s0,s1,e,qy,hs,Ez]
theorem idx174{α:Type}{enc:α->List AV}{S:AS}{u:AV}{l:List α}{f:FuncId}{caps:List AV}{P:α->Bool}(hz:∀x,(enc x).length=2)(h:Sl S u 2 (l.flatMap enc))(hb:l.length<=9223372036854775807)(hf:(f==287)=false)
  (hc:∀T,Sub S T->∀x,x∈l->ai C0 f (.agg (enc x)::caps) T fun v T'=>v=.bool (P x)/\Sub T T') :
  ai C0 141 [u,.func (.func f) [] caps] S fun v T=>v=.int .i64 (idxI P l)/\Sub S T:=by
 refine aX (zF _) (ym _ rfl) fn174 rfl ok174 (by simp) fun F hn s0 s1=>?_;have u1:=h.sl;have u2:=h.aM hz (by omega);simp[s0,s1,u1,u2];refine aH (idxH S u (.func (.func f) [] caps) l P) l.length (qq 0 (Sub.refl S) (by simp[s0]) (by simp[s1]) (by simp) (by simp) (Nat.zero_le _) rfl (by simp)) ?_;rintro k F' S' fL ⟨i,aP,t0,t1,t7,t8,hi,hk,ha⟩;clear fL s0 s1 hn;by_cases cQ:i<l.length
 .have hx:l[i]?=some l[i]:=List.getElem?_eq_getElem cQ;have hl:=cZ (cx:=C0) (e:=52) (h.toSub aP) hz (by omega) hx ag132 sz132;obtain⟨v,T',⟨rfl,hs⟩,e⟩:=(hc S' aP l[i] (List.getElem_mem cQ)).ex;cases hp:P l[i]with
  |true=>simp[t0,t1,t7,t8,u1,u2,cQ,hl,e,hp,qy f hf,aP.trans hs,BH hx hp ha]
  |false=>
   simp[t0,t1,t7,t8,u1,u2,cQ,hl,e,hp,qy f hf];exact⟨l.length-(i+1),by omega,qq (i+1) (aP.trans hs) (by simp[t0]) (by simp[t1]) (by simp[t7]) (by simp[aW (show i<9223372036854775807 by omega)]) cQ rfl (jx hx hp ha)⟩
 .have jW:∀x,x∈l->P x=false:=fun x hx=>ha x (by rw[List.take_of_length_le (by omega)];exact hx);simp[t7,t8,cQ,tX jW,aP]
theorem idx189{α:Type}{enc:α->List AV}{S:AS}{u:AV}{l:List α}{f:FuncId}{caps:List AV}{P:α->Bool}(hz:∀x,(enc x).length=4)(h:Sl S u 4 (l.flatMap enc))(hb:l.length<=9223372036854775807)(hf:(f==287)=false)
  (hc:∀T,Sub S T->∀x,x∈l->ai C0 f (.agg (enc x)::caps) T fun v T'=>v=.bool (P x)/\Sub T T') :
  ai C0 229 [u,.func (.func f) [] caps] S fun v T=>v=.int .i64 (idxI P l)/\Sub S T:=by
 refine aX (zF _) (ym _ rfl) fn189 rfl ok189 (by simp) fun F hn s0 s1=>?_;have u1:=h.sl;have u2:=h.aM hz (by omega);simp[s0,s1,u1,u2];refine aH (idxH S u (.func (.func f) [] caps) l P) l.length (qq 0 (Sub.refl S) (by simp[s0]) (by simp[s1]) (by simp) (by simp) (Nat.zero_le _) rfl (by simp)) ?_;rintro k F' S' fL ⟨i,aP,t0,t1,t7,t8,hi,hk,ha⟩;clear fL s0 s1 hn;by_cases cQ:i<l.length
 .have hx:l[i]?=some l[i]:=List.getElem?_eq_getElem cQ;have hl:=cZ (cx:=C0) (e:=100) (h.toSub aP) hz (by omega) hx ag102 sz102;obtain⟨v,T',⟨rfl,hs⟩,e⟩:=(hc S' aP l[i] (List.getElem_mem cQ)).ex;cases hp:P l[i]with
  |true=>simp[t0,t1,t7,t8,u1,u2,cQ,hl,e,hp,qy f hf,aP.trans hs,BH hx hp ha]
  |false=>
   simp[t0,t1,t7,t8,u1,u2,cQ,hl,e,hp,qy f hf];exact⟨l.length-(i+1),by omega,qq (i+1) (aP.trans hs) (by simp[t0]) (by simp[t1]) (by simp[t7]) (by simp[aW (show i<9223372036854775807 by omega)]) cQ rfl (jx hx hp ha)⟩
 .have jW:∀x,x∈l->P x=false:=fun x hx=>ha x (by rw[List.take_of_length_le (by omega)];exact hx);simp[t7,t8,cQ,tX jW,aP]
theorem con156{α:Type}{enc:α->List AV}{S:AS}{u:AV}{l:List α}{f:FuncId}{caps:List AV}{P:α->Bool}(hz:∀x,(enc x).length=4)(h:Sl S u 4 (l.flatMap enc))(hb:l.length<=9223372036854775807)(hf:(f==287)=false)
  (hc:∀T,Sub S T->∀x,x∈l->ai C0 f (.agg (enc x)::caps) T fun v T'=>v=.bool (P x)/\Sub T T') :
  ai C0 184 [u,.func (.func f) [] caps] S fun v T=>v=.bool (l.any P)/\Sub S T:=by
 obtain⟨v,T,⟨rfl,hs⟩,e⟩:=(idx189 hz h hb hf hc).ex;refine aX (zF _) (ym _ rfl) fn156 rfl ok156 (by simp) fun F hn s0 s1=>?_;simp[s0,s1,e,qy,hs,Ez]
theorem clone73{S:AS}{v:AV}{cs:List AV}(h:Sl S v 2 cs)(hf:sLen v<=1048576):ai C0 87 [v] S fun v' T=>Sub S T/\Sl T v' 2 cs/\isNil v'=isNil v/\sLen v'=sLen v/\(aB v'=0\/S.next<aB v'):=by
 refine aK (zF _) (ym _ rfl) fn73 rfl ok73 (by simp) fun F hn s0=>?_;have h2:=h.sl;cases pA:isNil v with
 |true=>
  obtain⟨rfl,rfl⟩:=h.isNil pA;simp[s0,Sub.refl,Sl.nil,aB]
 |false=>
  have hx:Sl (⟨S.h.set S.next (.row [] 0 0 false 52),S.next+1⟩:AS) v 2 cs:=⟨h2,by rw[vz h.old];exact h.rd,h.len,Nat.le_succ_of_le h.old⟩
  have lF:fits (sLen v) 16=true:=by simp[fits,cH];omega
  obtain⟨v',T,e1,r1,r2,r3,r4,r5,r6⟩:=append_empty (ts:=[]) st92 un92 rfl (aa _ _ _) (Nat.lt_succ_self _) hx lF;have aP:Sub S T:=((Sub.refl S).set _ _ (Nat.le_refl _) _ (Nat.le_succ _)).trans r2;simp[s0,h2,pA,e1,r1.np,aP,r1,r3,r4];rcases r6 with r6|r6
  .rw[r6];exact .inr (Nat.lt_succ_self _)
  .exact .inr (Nat.lt_of_succ_lt r6)
theorem clone127{S:AS}{v:AV}{cs:List AV}(h:Sl S v 4 cs)(hf:sLen v<=1048576):ai C0 140 [v] S fun v' T=>Sub S T/\Sl T v' 4 cs/\isNil v'=isNil v/\sLen v'=sLen v/\(aB v'=0\/S.next<aB v'):=by
 refine aK (zF _) (ym _ rfl) fn127 rfl ok127 (by simp) fun F hn s0=>?_;have h2:=h.sl;cases pA:isNil v with
 |true=>
  obtain⟨rfl,rfl⟩:=h.isNil pA;simp[s0,Sub.refl,Sl.nil,aB]
 |false=>
  have hx:Sl (⟨S.h.set S.next (.row [] 0 0 false 100),S.next+1⟩:AS) v 4 cs:=⟨h2,by rw[vz h.old];exact h.rd,h.len,Nat.le_succ_of_le h.old⟩
  have lF:fits (sLen v) 40=true:=by simp[fits,cH];omega
  obtain⟨v',T,e1,r1,r2,r3,r4,r5,r6⟩:=append_empty (ts:=[]) st103 un103 rfl (aa _ _ _) (Nat.lt_succ_self _) hx lF;have aP:Sub S T:=((Sub.refl S).set _ _ (Nat.le_refl _) _ (Nat.le_succ _)).trans r2;simp[s0,h2,pA,e1,r1.np,aP,r1,r3,r4];rcases r6 with r6|r6
  .rw[r6];exact .inr (Nat.lt_succ_self _)
  .exact .inr (Nat.lt_of_succ_lt r6)
structure Val where
 kind:Int
 num:Int
 str:List Nat
 bool:Bool
def encV(v:Val):List AV:=[.int .i64 v.kind,.int .i64 v.num,.str v.str,.bool v.bool]
theorem encV_len(v:Val):(encV v).length=4:=rfl
@[simp] theorem bld102a(n:Int):cU C0 100 [(0,.int .i64 1),(1,.int .i64 n)]=some (.agg [.int .i64 1,.int .i64 n,.str [],.bool false]):=by kernel_rfl
@[simp] theorem bld102b(s:List Nat):cU C0 100 [(0,.int .i64 2),(2,.str s)]=some (.agg [.int .i64 2,.int .i64 0,.str s,.bool false]):=by kernel_rfl
@[simp] theorem bld102c(b:Bool):cU C0 100 [(0,.int .i64 3),(3,.bool b)]=some (.agg [.int .i64 3,.int .i64 0,.str [],.bool b]):=by kernel_rfl
@[simp] theorem bld102d:cU C0 100 []=some (.agg [.int .i64 0,.int .i64 0,.str [],.bool false]):=by kernel_rfl
theorem cf{S:AS}{o:dr}:Sub S ⟨S.h.set S.next o,S.next+1⟩:=(Sub.refl S).set _ _ (Nat.le_refl _) _ (Nat.le_succ _)
theorem fO{S:AS}{o o':dr}:Sub S ⟨(S.h.set S.next o).set S.next o',S.next+1⟩:=cf.set _ _ (Nat.le_refl _) _ (Nat.le_refl _)
theorem yz{S:AS}{o o':dr}:Sub S ⟨(S.h.set S.next o).set (S.next+1) o',S.next+2⟩:=cf.set _ _ (Nat.le_succ _) _ (Nat.le_succ _)
theorem number(n:Int)(S:AS):ai C0 231 [.int .i64 n] S fun v T=>v=.agg [.int .i64 1,.int .i64 n,.str [],.bool false]/\Sub S T:=by
 refine aK (zF _) (ym _ rfl) fn74 rfl ok74 (by simp) fun F hn s0=>?_;simp[s0,fO]
theorem word(s:List Nat)(S:AS):ai C0 232 [.str s] S fun v T=>v=.agg [.int .i64 2,.int .i64 0,.str s,.bool false]/\Sub S T:=by
 refine aK (zF _) (ym _ rfl) fn191 rfl ok191 (by simp) fun F hn s0=>?_;simp[s0,fO]
theorem truth(b:Bool)(S:AS):ai C0 233 [.bool b] S fun v T=>v=.agg [.int .i64 3,.int .i64 0,.str [],.bool b]/\Sub S T:=by
 refine aK (zF _) (ym _ rfl) fn192 rfl ok192 (by simp) fun F hn s0=>?_;simp[s0,fO]
def hasV(v:Val):AV:=if v.kind=1 then .iface 2 (.int .i64 v.num) else if v.kind=2 then .iface 9 (.str v.str) else if v.kind=3 then .iface 4 (.bool v.bool) else .bH
theorem has(v:Val)(S:AS):ai C0 230 [.agg (encV v)] S fun r T=>r=hasV v/\Sub S T:=by
 refine cl (zF _) (ym _ rfl) fn190 rfl ok190 (by simp) fun F hn hs=>?_;have s0:=hs 0;clear hs;simp only[List.getElem?_cons_zero,Option.getD_some,encV]at s0;unfold hasV;by_cases h1:v.kind=1
 .simp[s0,h1,cf]
 by_cases h2:v.kind=2
 .simp[s0,h2,cf]
 by_cases h3:v.kind=3
 .simp[s0,h3,cf]
 simp[s0,h1,h2,h3,cf]
def sameB(a b:Val):Bool:=decide (a.kind=b.kind)&&(decide (a.num=b.num)&&(re a.str b.str&&(a.bool==b.bool)))
def andS(a r:Option Bool):Option Bool:=match a with|some true=>r|x=>x
theorem eqv102(c:Bool)(a b:Val):aS C0 .eql 100 c (.agg (encV a)) (.agg (encV b))=some (.bool (sameB a b)):=by
 obtain⟨ak,an,ax,ab⟩:=a;obtain⟨bk,bn,bx,bb⟩:=b;refine FI ?_;have e:Aq C0 100 c (.agg [.int .i64 ak,.int .i64 an,.str ax,.bool ab]) (.agg [.int .i64 bk,.int .i64 bn,.str bx,.bool bb]) =
   andS (some (yU ak bk)) (andS (some (yU an bn)) (andS (some (re ax bx)) (andS (some (ab==bb)) (some true)))):=by kernel_rfl
 simp only[encV];rw[e,gK,gK];unfold sameB andS;cases decide (ak=bk)<;>cases decide (an=bn)<;>cases re ax bx<;>cases (ab==bb)<;>rfl
theorem iC(c:Bool)(ak an:Int)(ax:List Nat)(ab:Bool)(bk bn:Int)(bx:List Nat)(bb:Bool):
  aS C0 .eql 100 c (.agg [.int .i64 ak,.int .i64 an,.str ax,.bool ab]) (.agg [.int .i64 bk,.int .i64 bn,.str bx,.bool bb])=some (.bool (sameB ⟨ak,an,ax,ab⟩ ⟨bk,bn,bx,bb⟩)):=eqv102 c ⟨ak,an,ax,ab⟩ ⟨bk,bn,bx,bb⟩
def mayV(v:Val):Bool:=
 if v.kind=1 then sameB v ⟨1,v.num,[],false⟩ else if v.kind=2 then sameB v ⟨2,0,v.str,false⟩&&decide (v.str.length<=32) else if v.kind=3 then sameB v ⟨3,0,[],v.bool⟩ else false
theorem nt158:Tryz.f186.ntmps=34:=by kernel_rfl
theorem sc:bC C0 9=some .string:=by kernel_rfl
theorem mayIs(v:Val)(S:AS):ai C0 186 [.agg (encV v)] S fun r T=>r=.bool (mayV v)/\Sub S T:=by
 obtain⟨u,T,⟨rfl,hT⟩,e⟩:=(has v ⟨S.h.set S.next (.row (encV v) 0 0 false 100),S.next+1⟩).ex;have ie:Sub S T:=Sub.trans cf hT;have g0:T.h.get S.next=some (.row (encV v) 0 0 false 100):=by
  rw[hT.h _ (Nat.lt_succ_self _)];exact aa _ _ _
 have BW:S.next<T.next:=hT.next
 refine cl (zF _) (ym _ rfl) EU rfl Ee (by simp) fun F hn hs=>?_;rw[nt158]at hn;have s0:=hs 0;clear hs;obtain⟨k,n,s,b⟩:=v;simp only[List.getElem?_cons_zero,List.getElem?_cons_succ,Option.getD_some,encV,hasV]at s0 e g0;unfold mayV;by_cases h1:k=1
 .subst h1;obtain⟨r1,T1,⟨rfl,gA⟩,e1⟩:=(number n T).ex;have g1:T1.h.get S.next=some (.row [.int .i64 1,.int .i64 n,.str s,.bool b] 0 0 false 100):=by rw[gA.h _ BW];exact g0
  simp[s0,qy,e,g0,hn];refine cO [.r 0 1,.p,.e [],.p,.p] (n:=34) (by kernel_rfl) (by simp[hn]) ?_;simp[s0,qy,e,e1,g0,g1,iC,ie.trans gA]
 by_cases h2:k=2
 .subst h2;simp at e;obtain⟨r1,T1,⟨rfl,gA⟩,e1⟩:=(word s T).ex;have g1:T1.h.get S.next=some (.row [.int .i64 2,.int .i64 n,.str s,.bool b] 0 0 false 100):=by rw[gA.h _ BW];exact g0
  simp[s0,qy,e,g0,hn];refine cO [.r 0 1,.p,.e [],.p,.p,.p,.r 0 0,.p,.p,.p] (n:=34) (by kernel_rfl) (by simp[hn]) ?_;cases hb:sameB ⟨2,n,s,b⟩ ⟨2,0,s,false⟩with
  |true=>
   have c1:decide (((s.length:Nat):Int)<=32)=decide (s.length<=32):=by
    by_cases hh:s.length<=32<;>simp[hh]<;>omega
   simp[s0,qy,e,e1,g0,g1,iC,hb,cF sc,ie.trans gA,c1]
  |false=>simp[s0,qy,e,e1,g0,g1,iC,hb,ie.trans gA]
 by_cases h3:k=3
 .subst h3;simp at e;obtain⟨r1,T1,⟨rfl,gA⟩,e1⟩:=(truth b T).ex;have g1:T1.h.get S.next=some (.row [.int .i64 3,.int .i64 n,.str s,.bool b] 0 0 false 100):=by rw[gA.h _ BW];exact g0
  simp[s0,qy,e,g0,hn];refine cO [.r 0 1,.p,.e [],.p,.p] (n:=34) (by kernel_rfl) (by simp[hn]) ?_;simp[s0,qy,e,e1,g0,g1,iC,ie.trans gA]
 .simp[h1,h2,h3]at e;simp[s0,h1,h2,h3,qy,e,g0,ie]
def zeroV:Val:=⟨0,0,[],false⟩
structure Con where
 name:List Nat
 op:Int
 val:Val
 kJ:AV
 aY:List Val
def encC(c:Con):List AV:=[.str c.name,.int .i64 c.op,.int .i64 c.val.kind,.int .i64 c.val.num,.str c.val.str,.bool c.val.bool,c.kJ]
theorem encC_len(c:Con):(encC c).length=7:=rfl
structure ConOk(S:AS)(c:Con):Prop where
 sl:Sl S c.kJ 4 (c.aY.flatMap encV)
 le:c.aY.length<=9223372036854775807
theorem ConOk.sub{S T:AS}{c:Con}(h:ConOk S c)(hs:Sub S T):ConOk T c:=⟨h.sl.toSub hs,h.le⟩
structure PredAt(S:AS)(p:AV)(cs:List Con):Prop where
 sl:Sl S p 7 (cs.flatMap encC)
 y6:∀c,c∈cs->ConOk S c
 le:cs.length<=9223372036854775807
theorem PredAt.sub{S T:AS}{p:AV}{cs:List Con}(h:PredAt S p cs)(hs:Sub S T):PredAt T p cs:=⟨h.sl.toSub hs,fun c hc=>(h.y6 c hc).sub hs,h.le⟩
theorem not157(v:Val)(S:AS):ai C0 185 [.agg (encV v)] S fun r T=>r=.bool (!mayV v)/\Sub S T:=by
 obtain⟨r,T,⟨rfl,hT⟩,e⟩:=(mayIs v ⟨S.h.set S.next (.row (encV v) 0 0 false 100),S.next+1⟩).ex;refine cl (zF _) (ym _ rfl) fn157 rfl ok157 (by simp) fun F hn hs=>?_;have s0:=hs 0;clear hs;simp only[List.getElem?_cons_zero,List.getElem?_cons_succ,Option.getD_some,encV]at s0 e;simp[s0,e,qy,Sub.trans cf hT]
def setB(c:Con):Bool:=!c.aY.any fun v=>!mayV v
def mayC(c:Con):Bool:=
 if c.name.length<1 then false else if 16<c.name.length then false
 else if c.op=1 then sameB c.val zeroV&&decide (c.aY.length=0)
 else if 2<=c.op/\c.op<=7 then mayV c.val&&decide (c.aY.length=0)
 else if c.op=8 then mayV c.val&&(decide (c.val.kind=2)&&decide (c.aY.length=0))
 else if c.op=9 then sameB c.val zeroV&&(decide (1<=c.aY.length)&&(decide (c.aY.length<=6)&&setB c))
 else false
set_option maxHeartbeats 4000000 in
theorem mayCons(c:Con){S:AS}(hc:ConOk S c):ai C0 146 [.agg (encC c)] S fun r T=>r=.bool (mayC c)/\Sub S T:=by
 have h1:Sub S ⟨S.h.set S.next (.row (encC c) 0 0 false 103),S.next+1⟩:=cf;obtain⟨v,T,⟨rfl,hT⟩,e⟩:=(con156 (P:=fun v=>!mayV v) (f:=185) (caps:=[]) encV_len (hc.sub h1).sl (by have:=hc.le;omega) rfl (fun T hT v hv=>not157 v T)).ex;obtain⟨r,U,⟨rfl,hU⟩,e2⟩:=(mayIs c.val T).ex;have iP:=h1.trans hT;have hU1:=iP.trans hU;have g0:T.h.get S.next=some (.row (encC c) 0 0 false 103):=by rw[hT.h _ (Nat.lt_succ_self _)];exact aa _ _ _
 have g1:U.h.get S.next=some (.row (encC c) 0 0 false 103):=by rw[hU.h _ hT.next];exact g0
 have u1:=hc.sl.sl;have u2:=hc.sl.aM encV_len (by omega);refine cl (zF _) (ym _ rfl) fn125 rfl ok125 (by simp) fun F hn hs=>?_;have s0:=hs 0;clear hs;have hs:(c.aY.any fun v=>!mayV v)=!setB c:=by simp[setB]
 simp only[List.getElem?_cons_zero,List.getElem?_cons_succ,Option.getD_some,encC,encV,hs]at s0 e e2 g0 g1;unfold mayC;by_cases n1:c.name.length<1
 .have n1':(c.name.length:Int)<1:=by omega
  simp[s0,cF sc,n1',n1,h1];simp only[encC]at h1;exact h1
 have n1':¬(c.name.length:Int)<1:=by omega
 by_cases n2:16<c.name.length
 .have n2':(16:Int)<c.name.length:=by omega
  simp[s0,cF sc,n1',n1,n2',n2];simp only[encC]at h1;exact h1
 have n2':¬(16:Int)<c.name.length:=by omega
 have hbe:sameB ⟨c.val.kind,c.val.num,c.val.str,c.val.bool⟩ ⟨0,0,[],false⟩=sameB c.val zeroV:=rfl;have q0:((c.aY.length:Int)=0)=(c.aY.length=0):=by simp
 have q1:((1:Int)<=c.aY.length)=(1<=c.aY.length):=by simp;omega
 have q6:((c.aY.length:Int)<=6)=(c.aY.length<=6):=by simp;omega
 by_cases o1:c.op=1
 .simp only[o1]at s0 e e2 g0 g1;cases hb:sameB c.val zeroV<;>simp[s0,cF sc,n1',n1,n2',n2,o1,qy,e,e2,g0,g1,u1,u2,iC,hbe,hb,iP]
 by_cases o2:2<=c.op
 .by_cases o7:c.op<=7
  .cases hb:mayV c.val<;>simp[s0,cF sc,n1',n1,n2',n2,o1,o2,o7,qy,e,e2,g0,g1,u1,u2,iC,hb,hU1]
  by_cases o8:c.op=8
  .simp only[o8]at s0 e e2 g0 g1;cases hb:mayV c.val with
   |false=>simp[s0,cF sc,n1',n1,n2',n2,o1,o2,o7,o8,qy,e,e2,g0,g1,u1,u2,iC,hb,hU1]
   |true=>
    by_cases k2:c.val.kind=2
    .simp only[k2]at s0 e e2 g0 g1;simp[s0,cF sc,n1',n1,n2',n2,o1,o2,o7,o8,qy,e,e2,g0,g1,u1,u2,iC,hb,k2,hU1]
    .simp[s0,cF sc,n1',n1,n2',n2,o1,o2,o7,o8,qy,e,e2,g0,g1,u1,u2,iC,hb,k2,hU1]
  by_cases o9:c.op=9
  .simp only[o9]at s0 e e2 g0 g1;cases hb:sameB c.val zeroV with
   |false=>simp[s0,cF sc,n1',n1,n2',n2,o1,o2,o7,o8,o9,qy,e,e2,g0,g1,u1,u2,iC,hbe,hb,iP]
   |true=>
    by_cases l1:1<=c.aY.length
    .by_cases l6:c.aY.length<=6
     .simp[s0,cF sc,n1',n1,n2',n2,o1,o2,o7,o8,o9,qy,e,e2,g0,g1,u1,u2,iC,hbe,hb,q1,q6,l1,l6,iP]
     .simp[s0,cF sc,n1',n1,n2',n2,o1,o2,o7,o8,o9,qy,e,e2,g0,g1,u1,u2,iC,hbe,hb,q1,q6,l1,l6,iP]
    .simp[s0,cF sc,n1',n1,n2',n2,o1,o2,o7,o8,o9,qy,e,e2,g0,g1,u1,u2,iC,hbe,hb,q1,q6,l1,iP]
  .simp[s0,cF sc,n1',n1,n2',n2,o1,o2,o7,o8,o9,qy,e,e2,g0,g1,u1,u2,iC,iP]
 .have o8:¬c.op=8:=by omega
  have o9:¬c.op=9:=by omega
  simp[s0,cF sc,n1',n1,n2',n2,o1,o2,o8,o9,qy,e,e2,g0,g1,u1,u2,iC,iP]
theorem not124(c:Con){S:AS}(hc:ConOk S c):ai C0 145 [.agg (encC c)] S fun r T=>r=.bool (!mayC c)/\Sub S T:=by
 have h1:Sub S ⟨S.h.set S.next (.row (encC c) 0 0 false 103),S.next+1⟩:=cf;obtain⟨r,T,⟨rfl,hT⟩,e⟩:=(mayCons c (hc.sub h1)).ex;have iP:=h1.trans hT;refine cl (zF _) (ym _ rfl) fn124 rfl ok124 (by simp) fun F hn hs=>?_;have s0:=hs 0;clear hs;simp only[List.getElem?_cons_zero,List.getElem?_cons_succ,Option.getD_some,encC]at s0 e;simp[s0,e,qy,iP]
def mayP(cs:List Con):Bool:=decide (cs.length<=6) && !cs.any fun c=>!mayC c
theorem mayPred{S:AS}{p:AV}{cs:List Con}(hp:PredAt S p cs):ai C0 93 [p] S fun r T=>r=.bool (mayP cs)/\Sub S T:=by
 obtain⟨v,T,⟨rfl,hT⟩,e⟩:=(con76 (P:=fun c=>!mayC c) (f:=145) (caps:=[]) encC_len hp.sl (by have:=hp.le;omega) rfl (fun T hT c hc=>not124 c ((hp.y6 c hc).sub hT))).ex;have u1:=hp.sl.sl;have u2:=hp.sl.aM encC_len (by omega);have q6:((cs.length:Int)<=6)=(cs.length<=6):=by simp;omega
 refine aK (zF _) (ym _ rfl) fn71 rfl ok71 (by simp) fun F hn s0=>?_;unfold mayP;by_cases l6:cs.length<=6
 .simp[s0,u1,u2,q6,l6,e,qy,hT]
 .simp[s0,u1,u2,q6,l6,qy,Sub.refl]
def uD(cx:Am.Cx)(t:TypeId):Option (Nat×Nat):=match bC cx t with
 |some (.array n e)=>match aE cx e with|some z=>some (n,z)|none=>none
 |_=>none
def ti(o:Option (Nat×Nat))(v u:AV):Option AV:=match o,v,u with
 |some (n,z),.ptr id g off lim,.int _ m=>if 0<=m/\m<n then some (.ptr id g (off+m.toNat*z) lim) else none
 |_,_,_=>none
@[simp] theorem arrOk_ptr{n z id g off lim:Nat}{k:IntKind}{m:Int}:ti (some (n,z)) (.ptr id g off lim) (.int k m)=if 0<=m/\m<n then some (.ptr id g (off+m.toNat*z) lim) else none:=rfl
theorem uE{cx:Am.Cx}{F:Fr}{S:AS}{dst:Option Tmp}{ty t:TypeId}{pos:String}{af:Array Edge}{gd:Option (Nat×Bool)}{x ix:Operand}{w:AV}(h:ti (uD cx t) (eval F x) (eval F ix)=some w):
  bj cx F S ⟨dst,.indexAddr t x ix,ty,pos,af,gd⟩=.val w S:=by
 unfold ti at h;split at h
 .rename_i n z id g off lim k m h1 h2 h3;split at h
  .rename_i hm;cases h;unfold uD at h1;split at h1
   .rename_i n' e hu;split at h1
    .rename_i z' hz;cases h1;obtain⟨i,rfl⟩:∃i:Nat,m=i:=⟨m.toNat,by omega⟩
     have cq:i<n:=by omega
     simp only[bj,hu,h2,h3,eR,hz,gH,cq,decide_true,cond_true,aN];rfl
    .cases h1
   .cases h1
  .cases h
 .cases h
@[simp] theorem zo{cx:Am.Cx}{F:Fr}{S:AS}{dst:Option Tmp}{ty t:TypeId}{pos:String}{af:Array Edge}{gd:Option (Nat×Bool)}{x ix:Tmp}{v u w:AV}(hx:sl F x=v)(hi:sl F ix=u)(h:ti (uD cx t) v u=some w):
  bj cx F S ⟨dst,.indexAddr t (.tmp x) (.tmp ix),ty,pos,af,gd⟩=.val w S:=
 uE (by rw[aJ,aJ,hx,hi];exact h)
def bare(c:Con):Con:={c with kJ:=.aq}
def encT(t:Int×Nat):List AV:=[.int .i64 t.1,.int .u64 t.2]
theorem encT_len(t:Int×Nat):(encT t).length=2:=rfl
def encM(m:List (Int×Nat)):List (Int×AV):=m.map fun p=>(p.1,.int .u64 p.2)
def nget:List (Int×Nat)->Int->Option Nat
 |[],_=>none
 |(a,v)::m,k=>if k=a then some v else nget m k
def nput:List (Int×Nat)->Int->Nat->List (Int×Nat)
 |[],k,v=>[(k,v)]
 |(a,w)::m,k,v=>if k=a then (k,v)::m else (a,w)::nput m k v
theorem mget_encM(m:List (Int×Nat))(k:Int):vg (encM m) k=(nget m k).map fun n:Nat=>AV.int .u64 n:=by
 induction m with
 |nil=>rfl
 |cons p m ih=>
  obtain⟨a,v⟩:=p;show (if k=a then some (AV.int .u64 v) else vg (encM m) k)=_;unfold nget;by_cases h:k=a<;>simp[h,ih]
theorem mput_encM(m:List (Int×Nat))(k:Int)(n:Nat):pq (encM m) k (.int .u64 n)=encM (nput m k n):=by
 induction m with
 |nil=>rfl
 |cons p m ih=>
  obtain⟨a,v⟩:=p;show (if k=a then (k,AV.int .u64 n)::encM m else (a,AV.int .u64 v)::pq (encM m) k (.int .u64 n))=_;unfold nput;by_cases h:k=a
  .simp[h,encM]
  .rw[if_neg h,if_neg h,ih];rfl
theorem nget_nput(m:List (Int×Nat))(k:Int)(n:Nat)(j:Int):nget (nput m k n) j=if j=k then some n else nget m j:=by
 induction m with
 |nil=>simp[nput,nget]
 |cons p m ih=>
  obtain⟨a,w⟩:=p;unfold nput;by_cases h:k=a
  .subst h;by_cases hj:j=k<;>simp[nget,hj]
  .simp only[h,if_false,nget,ih];by_cases hj:j=a
   .subst hj;have:¬j=k:=fun e=>h e.symm;simp[this]
   .simp[hj]
theorem nput_mem{m:List (Int×Nat)}{k:Int}{n:Nat}{t:Int×Nat}(h:t∈nput m k n):t=(k,n)\/t∈m:=by
 induction m with
 |nil=>exact .inl (by simpa[nput]using h)
 |cons p m ih=>
  obtain⟨a,w⟩:=p;unfold nput at h;by_cases hk:k=a
  .rw[if_pos hk]at h;rcases List.mem_cons.1 h with h|h
   .exact .inl h
   .exact .inr (List.mem_cons_of_mem _ h)
  .rw[if_neg hk]at h;rcases List.mem_cons.1 h with h|h
   .exact .inr (by rw[h];exact List.mem_cons_self ..)
   .rcases ih h with h|h
    .exact .inl h
    .exact .inr (List.mem_cons_of_mem _ h)
theorem nget_mem{m:List (Int×Nat)}{k:Int}{n:Nat}(h:nget m k=some n):(k,n)∈m:=by
 induction m with
 |nil=>cases h
 |cons p m ih=>
  obtain⟨a,w⟩:=p;unfold nget at h;by_cases hk:k=a
  .rw[if_pos hk]at h;cases h;subst hk;exact List.mem_cons_self ..
  .rw[if_neg hk]at h;exact List.mem_cons_of_mem _ (ih h)
def predFoot(p:AV)(ks:List Con)(id:Nat):Prop:=aB p=id+1\/∃c,c∈ks/\aB c.kJ=id+1
theorem PredAt.agree{S T:AS}{p:AV}{ks:List Con}(h:PredAt S p ks)(hs:∀id,predFoot p ks id->T.h.get id=S.h.get id)(hn:S.next<=T.next):PredAt T p ks:=
 ⟨h.sl.agree (fun id e=>hs id (.inl e)) hn,fun c hc=>⟨(h.y6 c hc).sl.agree (fun id e=>hs id (.inr ⟨c,hc,e⟩)) hn,(h.y6 c hc).le⟩,h.le⟩
theorem PredAt.bB{S:AS}{p:AV}{ks:List Con}(h:PredAt S p ks){id:Nat}(hf:predFoot p ks id):id<S.next:=by
 rcases hf with e|⟨c,hc,e⟩
 .have:=h.sl.old;omega
 .have:=(h.y6 c hc).sl.old;omega
theorem Gw.fresh{S:AS}{id sz e:Nat}(bY:S.h.get id=some (.row [] 0 0 false e))(cq:id<S.next):Gw S (.slice id 0 0 0 0 sz (some 0)) sz e []:=
 ⟨⟨by simp[isSl,eu],rfl,by simp[sLen],by simp[aB];omega⟩,.inr ⟨id,0,0,0,0,some 0,rfl,rfl,cq,[],0,0,bY,Nat.le_refl _,rfl⟩⟩
theorem cloneG126{S:AS}{v:AV}{cs:List AV}(h:Sl S v 7 cs)(hf:sLen v<=1048576):ai C0 139 [v] S fun v' T=>Sub S T/\Gw T v' 7 103 cs/\sLen v'=sLen v/\(aB v'=0\/S.next<aB v'):=by
 refine aK (zF _) (ym _ rfl) fn126 rfl ok126 (by simp) fun F hn s0=>?_;have h2:=h.sl;cases pA:isNil v with
 |true=>
  obtain⟨rfl,rfl⟩:=h.isNil pA;simp[s0,Sub.refl,Gw.nil,aB]
 |false=>
  have hx:Sl (⟨S.h.set S.next (.row [] 0 0 false 103),S.next+1⟩:AS) v 7 cs:=⟨h2,by rw[vz h.old];exact h.rd,h.len,Nat.le_succ_of_le h.old⟩
  have lF:fits (sLen (.slice S.next 0 0 0 0 7 (some 0))+sLen v) 88=true:=by simp[fits,cH,ij];omega
  obtain⟨v',T,e1,r1,r2,r3,r4,r5,r6,r7⟩:=eB (ts:=[]) st24 un24 rfl (Gw.fresh (aa _ _ _) (Nat.lt_succ_self _)) hx lF;rw[List.nil_append]at r1;have aP:Sub S T:=⟨fun id hi=>by rw[r2 id (Nat.lt_succ_of_lt hi) (by simp[aB];omega)];exact ae _ _ (by omega),Nat.le_trans (Nat.le_succ _) r3⟩
  have r4':sLen v'=sLen v:=by rw[r4];simp[ij]
  simp[s0,h2,pA,e1,r1.1.np,aP,r1];refine⟨r4',?_⟩;rcases r6 with r6|r6
  .rw[r6];exact .inr (Nat.lt_succ_self _)
  .exact .inr (Nat.lt_of_succ_lt r6)
theorem set_flat{α:Type}{sz:Nat}{enc:α->List AV}(hz:∀x,(enc x).length=sz){d r:List α}{c c':α}{o:Nat}{x:AV}(ho:o<sz)(hc:(enc c).set o x=enc c'):
  ((d++c::r).flatMap enc).set (d.length*sz+o) x=(d++c'::r).flatMap enc:=by
 rw[List.flatMap_append,List.flatMap_append,List.flatMap_cons,List.flatMap_cons];have hl:(d.flatMap enc).length=d.length*sz:=fm_len hz d;rw[List.set_append_right _ _ (by omega),hl,Nat.add_sub_cancel_left,List.set_append_left _ _ (by rw[hz];exact ho),hc]
def copH(S T:AS)(ks:List Con)(q:AV)(k:Nat)(F':Fr)(S':AS):Prop:=
 ∃done:List Con,Sub S S'/\T.next<=S'.next/\sl F' 3=q/\sl F' 8=.int .i64 ks.length/\sl F' 9=.int .i64 done.length/\k=ks.length-done.length/\done.length<=ks.length/\done.map bare=(ks.take done.length).map bare /\
  Gw S' q 7 103 ((done++ks.drop done.length).flatMap encC)/\∀c,c∈done->ConOk S' c/\(aB c.kJ=0\/T.next<aB c.kJ)
theorem copH_mk{S T:AS}{ks:List Con}{q:AV}{k:Nat}{F':Fr}{S':AS}(done:List Con)(h1:Sub S S')(h2:T.next<=S'.next)(h3:sl F' 3=q)(h4:sl F' 8=.int .i64 ks.length)(h5:sl F' 9=.int .i64 done.length)
  (h6:k=ks.length-done.length) (h7:done.length<=ks.length) (h8:done.map bare=(ks.take done.length).map bare) (h9:Gw S' q 7 103 ((done++ks.drop done.length).flatMap encC)) (BX:∀c,c∈done->ConOk S' c/\(aB c.kJ=0\/T.next<aB c.kJ)):copH S T ks q k F' S':=
 ⟨done,h1,h2,h3,h4,h5,h6,h7,h8,h9,BX⟩
theorem nt72:Tryz.f86.ntmps=24:=by kernel_rfl
theorem tc{S:AS}{p:AV}{ks:List Con}(hp:PredAt S p ks)(h6:ks.length<=6)(hs6:∀c,c∈ks->c.aY.length<=6):
  ai C0 86 [p] S fun r T=>∃tW,PredAt T r tW/\tW.map bare=ks.map bare/\Sub S T/\∀id,predFoot r tW id->S.next<=id:=by
 have hl0:=hp.sl.aM encC_len (by omega);obtain⟨q,T,⟨hT,hq,hql,hqb⟩,e1⟩:=(cloneG126 hp.sl (by omega)).ex;have hq1:=hq.1.sl;have BM:sLen q=ks.length:=by omega
 have hqo:=hq.1.old;refine aK (zF _) (ym _ rfl) fn72 rfl ok72 (by simp) fun F hn s0=>?_;rw[nt72]at hn;simp[s0,e1,qy,hq.1.np,lr hq.1.ok,hq1,BM];refine aH (copH S T ks q) ks.length (copH_mk [] hT (Nat.le_refl _) (by simp) (by simp) (by simp) (by simp) (by simp) (by simp) (by simpa using hq) (fun c hc=>by cases hc)) ?_;rintro k F' S' fL ⟨done,aP,hnx,t3,t8,t9,hk,xw,hdm,hG,hd⟩;have hn2:F'.n=24:=by rw[fL];simp[hn]
 clear fL s0 hn;by_cases hi:done.length<ks.length
 .obtain⟨c,hc⟩:∃c,ks[done.length]?=some c:=⟨_,List.getElem?_eq_getElem hi⟩
  have hdrop:ks.drop done.length=c::ks.drop (done.length+1):=by
   obtain⟨_,rfl⟩:=List.getElem?_eq_some_iff.1 hc;exact List.drop_eq_getElem_cons hi
  have hcm:c∈ks:=List.mem_of_getElem? hc;rw[hdrop]at hG;have hgc:(done++c::ks.drop (done.length+1))[done.length]?=some c:=by simp
  have ld:=dF (cx:=C0) (e:=101) (o:=6) hG.1 encC_len (by omega) hgc rfl (by kernel_rfl);have hpp:=lY (k:=done.length) hq1 (by rw[BM];exact hi);obtain⟨w,U,⟨hU,hw,_,_,hwb⟩,e2⟩:=(clone127 ((hp.y6 c hcm).sl.toSub aP) (by have:=hs6 c hcm;have:=(hp.y6 c hcm).sl.aM encV_len (by omega);omega)).ex;obtain⟨V,e3,hGV,fy,hVn⟩:=(hG.agree (fun id e=>hU.h id (by have:=hG.1.old;omega)) hU.next).putc (x:=w) (i:=done.length) (o:=6) (by rw[BM];exact hi) (by omega);rw[set_flat encC_len (c':={c with kJ:=w}) (by omega) rfl]at hGV;have hUV:∀{v:AV},aB v≠aB q->∀id,aB v=id+1->V.h.get id=U.h.get id:=fun cS id e=>fy id (by omega);simp[t3,t8,t9,hi,hq1,BM,c8 hpp,ld,e2,e3,qy,hw.cells,hw.np,lr hw.ok,lr (hp.y6 c hcm).sl.ok];have hwne:aB w≠aB q\/aB w=0:=by
   rcases hwb with h|h
   .exact .inr h
   .left;omega
  refine⟨ks.length-(done.length+1),by omega,copH_mk (done++[{c with kJ:=w}]) ?_ (by rw[hVn];exact Nat.le_trans hnx hU.next) (by simp[t3]) (by simp[t8]) (by simp[aW (show done.length<9223372036854775807 by omega)]) (by simp) (by simp;omega) ?_ (by simpa using hGV) ?_⟩
  .exact⟨fun id bY=>by
    rw[fy id (by rcases hqb with h|h<;>omega)];exact (aP.trans hU).h id bY,by rw[hVn];exact (aP.trans hU).next⟩
  .rw[List.map_append,hdm];obtain⟨_,rfl⟩:=List.getElem?_eq_some_iff.1 hc;rw[List.length_append,List.length_singleton,List.take_succ_eq_append_getElem hi,List.map_append];rfl
  .intro x hx;rcases List.mem_append.1 hx with hx|hx
   .obtain⟨g1,g2⟩:=hd x hx;have g3:=g1.sub hU;refine⟨⟨g3.sl.agree (fun id e=>fy id (by rcases g2 with g2|g2<;>omega)) (by omega),g3.le⟩,g2⟩
   .simp at hx;subst hx;refine⟨⟨hw.agree (fun id e=>fy id (by rcases hwb with g2|g2<;>omega)) (by omega),(hp.y6 c hcm).le⟩,?_⟩;rcases hwb with h|h
    .exact .inl h
    .exact .inr (by simp only;omega)
 .have hde:done.length=ks.length:=by omega
  have hdr:ks.drop done.length=[]:=by rw[hde];simp
  rw[hdr,List.append_nil]at hG;simp[t3,t8,t9,hi,lr hq.1.ok,hq.1.np];refine⟨done,⟨hG.1,fun c hc=>(hd c hc).1,by omega⟩,by rw[hdm,hde,List.take_length],aP,fun id hf=>?_⟩;have BW:=hT.next
  rcases hf with e|⟨c,hc,e⟩
  .rcases hqb with h|h<;>omega
  .rcases (hd c hc).2 with h|h<;>omega
end Go.Proofs.YtdknlbnljfdhgaaGreatDoor.mod
namespace Go.Proofs.YtdknlbnljfdhgaaGreatDoor.dk
open Go Go.Am Go.Proofs.YtdknlbnljfdhgaaGreatDoor.seg
set_option linter.unusedVariables false
set_option linter.unusedSimpArgs false
abbrev A1:Am.Ask:=seg.A0
abbrev C1:Am.Cx:=seg.C0
theorem aR(f:Nat)(h:(f==278||f==287)=false):C1.exts.get f=none:=fD f
theorem cG(f:Nat)(h:(f==12||f==55||f==161)=false):C1.dE.get f=none:=seg.ym f h
theorem cD(f:Nat):C1.jS.get f=none:=fD f
theorem get62:C1.dE.get 55=some q55:=seg.get55
theorem BZ:C1.dE.get 161=some srt.qG:=seg.BZ
theorem up1{f:FuncId}{vs:List AV}{S:AS}{Q:AV->AS->Prop}(h:ai mod.C0 f vs S Q):ai C1 f vs S Q:=h
theorem awake7(h:seg.AI){S:AS}{Q:AV->AS->Prop}:ai C1 12 [] S Q=Q (.bool true) S:=lH (q:=Aw true) (seg.get12 h) rfl rfl rfl
@[simp] theorem ag3:aG C1 3=some false:=by kernel_rfl
@[simp] theorem sz3:aE C1 3=some 1:=by kernel_rfl
@[simp] theorem ag31:aG C1 32=some false:=by kernel_rfl
@[simp] theorem sz31:aE C1 32=some 1:=by kernel_rfl
@[simp] theorem sq:oz C1 32=some (5,1,1):=by kernel_rfl
@[simp] theorem ag32:aG C1 27=some false:=by kernel_rfl
@[simp] theorem sz32:aE C1 27=some 1:=by kernel_rfl
theorem fn5:C1.fns.get 22=some Tryz.f22:=by kernel_rfl
theorem ok5:codeOk C1 Tryz.f22.ntmps (Tryz.f22.body.getD .skip)=true:=by kernel_rfl
@[simp] theorem mt60:mapT C1 127=true:=by kernel_rfl
@[simp] theorem pt23:ptT C1 24=true:=by kernel_rfl
@[simp] theorem st69:oz C1 57=some (9,1,16):=by kernel_rfl
@[simp] theorem ag9:aG C1 9=some false:=by kernel_rfl
@[simp] theorem sz9:aE C1 9=some 1:=by kernel_rfl
@[simp] theorem ze31:zeroOf C1 32=some (.aq):=by kernel_rfl
@[simp] theorem st122:oz C1 193=some (122,1,8):=by kernel_rfl
@[simp] theorem ag122:aG C1 193=some false:=by kernel_rfl
@[simp] theorem ag23:aG C1 24=some false:=by kernel_rfl
@[simp] theorem sz23:aE C1 24=some 1:=by kernel_rfl
theorem fn20:C1.fns.get 117=some Tryz.f117:=by kernel_rfl
theorem ok20:codeOk C1 Tryz.f117.ntmps (Tryz.f117.body.getD .skip)=true:=by kernel_rfl
@[simp] theorem cv3_5:jY C1 3 5=some .u8:=by kernel_rfl
@[simp] theorem fa62_0:fieldAt C1 130 0=some 0:=by kernel_rfl
@[simp] theorem ag60:aG C1 127=some false:=by kernel_rfl
@[simp] theorem sz60:aE C1 127=some 1:=by kernel_rfl
theorem fn23:C1.fns.get 16=some Tryz.f16:=by kernel_rfl
theorem ok23:codeOk C1 Tryz.f16.ntmps (Tryz.f16.body.getD .skip)=true:=by kernel_rfl
@[simp] theorem mk60:El C1 127=some (.string,.bM):=by kernel_rfl
@[simp] theorem fa103_0:fieldAt C1 132 0=some 0:=by kernel_rfl
@[simp] theorem fa103_1:fieldAt C1 132 1=some 1:=by kernel_rfl
theorem fn28:C1.fns.get 26=some Tryz.f26:=by kernel_rfl
theorem ok28:codeOk C1 Tryz.f26.ntmps (Tryz.f26.body.getD .skip)=true:=by kernel_rfl
@[simp] theorem ag4:aG C1 4=some false:=by kernel_rfl
@[simp] theorem sz4:aE C1 4=some 1:=by kernel_rfl
@[simp] theorem cv3_119:jY C1 3 246=some .u64:=by kernel_rfl
@[simp] theorem cv119_3:jY C1 246 3=some .i64:=by kernel_rfl
theorem fn35:C1.fns.get 199=some Tryz.f199:=by kernel_rfl
theorem ok35:codeOk C1 Tryz.f199.ntmps (Tryz.f199.body.getD .skip)=true:=by kernel_rfl
@[simp] theorem un31:bC C1 32=some (.slice 5):=by kernel_rfl
@[simp] theorem ag45:aG C1 122=some false:=by kernel_rfl
@[simp] theorem sz45:aE C1 122=some 1:=by kernel_rfl
theorem fn41:C1.fns.get 25=some Tryz.f25:=by kernel_rfl
theorem ok41:codeOk C1 Tryz.f25.ntmps (Tryz.f25.body.getD .skip)=true:=by kernel_rfl
@[simp] theorem ze32:zeroOf C1 27=some (.int .u64 0):=by kernel_rfl
theorem fn55:C1.fns.get 58=some Tryz.f58:=by kernel_rfl
theorem ok55:codeOk C1 Tryz.f58.ntmps (Tryz.f58.body.getD .skip)=true:=by kernel_rfl
theorem fn56:C1.fns.get 54=some Tryz.f54:=by kernel_rfl
theorem ok56:codeOk C1 Tryz.f54.ntmps (Tryz.f54.body.getD .skip)=true:=by kernel_rfl
@[simp] theorem fa62_3:fieldAt C1 130 3=some 3:=by kernel_rfl
theorem fn57:C1.fns.get 59=some Tryz.f59:=by kernel_rfl
theorem ok57:codeOk C1 Tryz.f59.ntmps (Tryz.f59.body.getD .skip)=true:=by kernel_rfl
theorem fn59:C1.fns.get 35=some Tryz.f35:=by kernel_rfl
theorem ok59:codeOk C1 Tryz.f35.ntmps (Tryz.f35.body.getD .skip)=true:=by kernel_rfl
theorem fn60:C1.fns.get 64=some Tryz.f64:=by kernel_rfl
theorem ok60:codeOk C1 Tryz.f64.ntmps (Tryz.f64.body.getD .skip)=true:=by kernel_rfl
theorem fn61:C1.fns.get 63=some Tryz.f63:=by kernel_rfl
theorem ok61:codeOk C1 Tryz.f63.ntmps (Tryz.f63.body.getD .skip)=true:=by kernel_rfl
@[simp] theorem fa62_2:fieldAt C1 130 2=some 2:=by kernel_rfl
theorem fn63:C1.fns.get 56=some Tryz.f56:=by kernel_rfl
theorem ok63:codeOk C1 Tryz.f56.ntmps (Tryz.f56.body.getD .skip)=true:=by kernel_rfl
theorem fn64:C1.fns.get 125=some Tryz.f125:=by kernel_rfl
theorem ok64:codeOk C1 Tryz.f125.ntmps (Tryz.f125.body.getD .skip)=true:=by kernel_rfl
@[simp] theorem sz133:aE C1 249=some 256:=by kernel_rfl
@[simp] theorem ze133:zeroOf C1 249=some (.agg [.bool false,.bool false,.bool false,.bool false,.bool false,.bool false,.bool false,.bool false,.bool false,.bool false,.bool false,.bool false,.bool false,.bool false,.bool false,.bool false,.bool false,.bool false,.bool false,.bool false,.bool false,.bool false,.bool false,.bool false,.bool false,.bool false,.bool false,.bool false,.bool false,.bool false,.bool false,.bool false,.bool false,.bool false,.bool false,.bool false,.bool false,.bool false,.bool false,.bool false,.bool false,.bool false,.bool false,.bool false,.bool false,.bool false,.bool false,.bool false,.bool false,.bool false,.bool false,.bool false,.bool false,.bool false,.bool false,.bool false,.bool false,.bool false,.bool false,.bool false,.bool false,.bool false,.bool false,.bool false,.bool false,.bool false,.bool false,.bool false,.bool false,.bool false,.bool false,.bool false,.bool false,.bool false,.bool false,.bool false,.bool false,.bool false,.bool false,.bool false,.bool false,.bool false,.bool false,.bool false,.bool false,.bool false,.bool false,.bool false,.bool false,.bool false,.bool false,.bool false,.bool false,.bool false,.bool false,.bool false,.bool false,.bool false,.bool false,.bool false,.bool false,.bool false,.bool false,.bool false,.bool false,.bool false,.bool false,.bool false,.bool false,.bool false,.bool false,.bool false,.bool false,.bool false,.bool false,.bool false,.bool false,.bool false,.bool false,.bool false,.bool false,.bool false,.bool false,.bool false,.bool false,.bool false,.bool false,.bool false,.bool false,.bool false,.bool false,.bool false,.bool false,.bool false,.bool false,.bool false,.bool false,.bool false,.bool false,.bool false,.bool false,.bool false,.bool false,.bool false,.bool false,.bool false,.bool false,.bool false,.bool false,.bool false,.bool false,.bool false,.bool false,.bool false,.bool false,.bool false,.bool false,.bool false,.bool false,.bool false,.bool false,.bool false,.bool false,.bool false,.bool false,.bool false,.bool false,.bool false,.bool false,.bool false,.bool false,.bool false,.bool false,.bool false,.bool false,.bool false,.bool false,.bool false,.bool false,.bool false,.bool false,.bool false,.bool false,.bool false,.bool false,.bool false,.bool false,.bool false,.bool false,.bool false,.bool false,.bool false,.bool false,.bool false,.bool false,.bool false,.bool false,.bool false,.bool false,.bool false,.bool false,.bool false,.bool false,.bool false,.bool false,.bool false,.bool false,.bool false,.bool false,.bool false,.bool false,.bool false,.bool false,.bool false,.bool false,.bool false,.bool false,.bool false,.bool false,.bool false,.bool false,.bool false,.bool false,.bool false,.bool false,.bool false,.bool false,.bool false,.bool false,.bool false,.bool false,.bool false,.bool false,.bool false,.bool false,.bool false,.bool false,.bool false,.bool false,.bool false,.bool false,.bool false,.bool false,.bool false,.bool false,.bool false,.bool false,.bool false,.bool false,.bool false,.bool false,.bool false,.bool false,.bool false,.bool false,.bool false]):=by kernel_rfl
@[simp] theorem cv32_5:jY C1 27 5=some .u8:=by kernel_rfl
@[simp] theorem sz5:aE C1 5=some 1:=by kernel_rfl
theorem fn71:C1.fns.get 24=some Tryz.f24:=by kernel_rfl
theorem ok71:codeOk C1 Tryz.f24.ntmps (Tryz.f24.body.getD .skip)=true:=by kernel_rfl
theorem fn76:C1.fns.get 111=some Tryz.f111:=by kernel_rfl
theorem ok76:codeOk C1 Tryz.f111.ntmps (Tryz.f111.body.getD .skip)=true:=by kernel_rfl
@[simp] theorem cv3_147:jY C1 3 219=some .u32:=by kernel_rfl
theorem fn77:C1.fns.get 157=some Tryz.f157:=by kernel_rfl
theorem ok77:codeOk C1 Tryz.f157.ntmps (Tryz.f157.body.getD .skip)=true:=by kernel_rfl
theorem fn79:C1.fns.get 65=some Tryz.f65:=by kernel_rfl
theorem ok79:codeOk C1 Tryz.f65.ntmps (Tryz.f65.body.getD .skip)=true:=by kernel_rfl
@[simp] theorem fa62_1:fieldAt C1 130 1=some 1:=by kernel_rfl
theorem fn80:C1.fns.get 66=some Tryz.f66:=by kernel_rfl
theorem ok80:codeOk C1 Tryz.f66.ntmps (Tryz.f66.body.getD .skip)=true:=by kernel_rfl
theorem fn90:C1.fns.get 116=some Tryz.f116:=by kernel_rfl
theorem ok90:codeOk C1 Tryz.f116.ntmps (Tryz.f116.body.getD .skip)=true:=by kernel_rfl
theorem fn91:C1.fns.get 124=some Tryz.f124:=by kernel_rfl
theorem ok91:codeOk C1 Tryz.f124.ntmps (Tryz.f124.body.getD .skip)=true:=by kernel_rfl
@[simp] theorem ag24:aG C1 42=some false:=by kernel_rfl
@[simp] theorem sz24:aE C1 42=some 1:=by kernel_rfl
theorem fn92:C1.fns.get 126=some Tryz.f126:=by kernel_rfl
theorem ok92:codeOk C1 Tryz.f126.ntmps (Tryz.f126.body.getD .skip)=true:=by kernel_rfl
@[simp] theorem pt101:ptT C1 128=true:=by kernel_rfl
theorem fn93:C1.fns.get 60=some Tryz.f60:=by kernel_rfl
theorem ok93:codeOk C1 Tryz.f60.ntmps (Tryz.f60.body.getD .skip)=true:=by kernel_rfl
theorem fn94:C1.fns.get 121=some Tryz.f121:=by kernel_rfl
theorem ok94:codeOk C1 Tryz.f121.ntmps (Tryz.f121.body.getD .skip)=true:=by kernel_rfl
theorem fn95:C1.fns.get 122=some Tryz.f122:=by kernel_rfl
theorem ok95:codeOk C1 Tryz.f122.ntmps (Tryz.f122.body.getD .skip)=true:=by kernel_rfl
theorem fn96:C1.fns.get 123=some Tryz.f123:=by kernel_rfl
theorem ok96:codeOk C1 Tryz.f123.ntmps (Tryz.f123.body.getD .skip)=true:=by kernel_rfl
theorem fn97:C1.fns.get 170=some Tryz.f170:=by kernel_rfl
theorem ok97:codeOk C1 Tryz.f170.ntmps (Tryz.f170.body.getD .skip)=true:=by kernel_rfl
theorem fn98:C1.fns.get 171=some Tryz.f171:=by kernel_rfl
theorem ok98:codeOk C1 Tryz.f171.ntmps (Tryz.f171.body.getD .skip)=true:=by kernel_rfl
theorem fn99:C1.fns.get 172=some Tryz.f172:=by kernel_rfl
theorem ok99:codeOk C1 Tryz.f172.ntmps (Tryz.f172.body.getD .skip)=true:=by kernel_rfl
@[simp] theorem ag133:aG C1 249=some true:=by kernel_rfl
@[simp] theorem un133:bC C1 249=some (.array 256 4):=by kernel_rfl
theorem fn100:C1.fns.get 173=some Tryz.f173:=by kernel_rfl
theorem ok100:codeOk C1 Tryz.f173.ntmps (Tryz.f173.body.getD .skip)=true:=by kernel_rfl
theorem fn101:C1.fns.get 174=some Tryz.f174:=by kernel_rfl
theorem ok101:codeOk C1 Tryz.f174.ntmps (Tryz.f174.body.getD .skip)=true:=by kernel_rfl
theorem fn109:C1.fns.get 61=some Tryz.f61:=by kernel_rfl
theorem ok109:codeOk C1 Tryz.f61.ntmps (Tryz.f61.body.getD .skip)=true:=by kernel_rfl
theorem fn110:C1.fns.get 62=some Tryz.f62:=by kernel_rfl
theorem ok110:codeOk C1 Tryz.f62.ntmps (Tryz.f62.body.getD .skip)=true:=by kernel_rfl
theorem fn111:C1.fns.get 163=some Tryz.f163:=by kernel_rfl
theorem ok111:codeOk C1 Tryz.f163.ntmps (Tryz.f163.body.getD .skip)=true:=by kernel_rfl
theorem fn112:C1.fns.get 164=some Tryz.f164:=by kernel_rfl
theorem ok112:codeOk C1 Tryz.f164.ntmps (Tryz.f164.body.getD .skip)=true:=by kernel_rfl
@[simp] theorem cv147_5:jY C1 219 5=some .u8:=by kernel_rfl
theorem fn114:C1.fns.get 167=some Tryz.f167:=by kernel_rfl
theorem ok114:codeOk C1 Tryz.f167.ntmps (Tryz.f167.body.getD .skip)=true:=by kernel_rfl
@[simp] theorem ag69:aG C1 57=some false:=by kernel_rfl
@[simp] theorem sz69:aE C1 57=some 1:=by kernel_rfl
@[simp] theorem un69:bC C1 57=some (.slice 9):=by kernel_rfl
theorem fn117:C1.fns.get 216=some Tryz.f216:=by kernel_rfl
theorem ok117:codeOk C1 Tryz.f216.ntmps (Tryz.f216.body.getD .skip)=true:=by kernel_rfl
theorem fn125:C1.fns.get 203=some Tryz.f203:=by kernel_rfl
theorem ok125:codeOk C1 Tryz.f203.ntmps (Tryz.f203.body.getD .skip)=true:=by kernel_rfl
theorem fn126:C1.fns.get 189=some Tryz.f189:=by kernel_rfl
theorem ok126:codeOk C1 Tryz.f189.ntmps (Tryz.f189.body.getD .skip)=true:=by kernel_rfl
theorem fn146:C1.fns.get 235=some Tryz.f235:=by kernel_rfl
theorem ok146:codeOk C1 Tryz.f235.ntmps (Tryz.f235.body.getD .skip)=true:=by kernel_rfl
@[simp] theorem sz194:aE C1 315=some 16:=by kernel_rfl
@[simp] theorem ze194:zeroOf C1 315=some (.agg [.int .u32 0,.int .u32 0,.int .u32 0,.int .u32 0,.int .u32 0,.int .u32 0,.int .u32 0,.int .u32 0,.int .u32 0,.int .u32 0,.int .u32 0,.int .u32 0,.int .u32 0,.int .u32 0,.int .u32 0,.int .u32 0]):=by kernel_rfl
@[simp] theorem sz147:aE C1 219=some 1:=by kernel_rfl
@[simp] theorem ze147:zeroOf C1 219=some (.int .u32 0):=by kernel_rfl
@[simp] theorem ag5:aG C1 5=some false:=by kernel_rfl
@[simp] theorem ag147:aG C1 219=some false:=by kernel_rfl
@[simp] theorem cv5_147:jY C1 5 219=some .u32:=by kernel_rfl
theorem EU:C1.fns.get 259=some Tryz.f259:=by kernel_rfl
theorem Ee:codeOk C1 Tryz.f259.ntmps (Tryz.f259.body.getD .skip)=true:=by kernel_rfl
@[simp] theorem ag194:aG C1 315=some true:=by kernel_rfl
@[simp] theorem un194:bC C1 315=some (.array 16 219):=by kernel_rfl
theorem fn159:C1.fns.get 260=some Tryz.f260:=by kernel_rfl
theorem ok159:codeOk C1 Tryz.f260.ntmps (Tryz.f260.body.getD .skip)=true:=by kernel_rfl
theorem fn152:C1.fns.get 250=some Tryz.f250:=by kernel_rfl
theorem ok152:codeOk C1 Tryz.f250.ntmps (Tryz.f250.body.getD .skip)=true:=by kernel_rfl
theorem xe:KeyE .string (fun s:List Nat=>AV.str s):=
 ⟨fun a b=>by
  show some (re a b)=_;rw[kj],fun _=>rfl⟩
def wU{κ:Type}[DecidableEq κ]:List (κ×AV)->κ->List (κ×AV)
 |[],_=>[]
 |(a,w)::m,k=>if k=a then m else (a,w)::wU m k
def CW{κ:Type}(S:AS)(id:Nat)(enc:κ->AV)(m:List (κ×AV)):Prop:=
 ∃es clock,S.h.get id=some (.map es clock)/\es.map (fun e=>(e.key,e.val))=m.map (fun p=>(enc p.1,p.2))/\nf es clock
theorem CW.mp{κ:Type}{enc:κ->AV}{m:List (κ×AV)}{S:AS}{id:Nat}(h:CW S id enc m)(hl:id<S.next):Mp S (.map id) enc m:=by
 obtain⟨es,clock,h1,h2,_⟩:=h;exact⟨id,es,clock,rfl,hl,h1,h2⟩
theorem CW.agree{κ:Type}{enc:κ->AV}{m:List (κ×AV)}{S:AS}{id:Nat}{T:AS}(h:CW S id enc m)(hs:T.h.get id=S.h.get id):CW T id enc m:=by
 obtain⟨es,clock,h1,h2,h3⟩:=h;exact⟨es,clock,hs.trans h1,h2,h3⟩
theorem DD{es:List dg}:∀(j:Nat)(k v:AV)(e:dg),es[j]?=some e->(ry j es ⟨k,v,e.born⟩).map dg.born=es.map dg.born:=by
 induction es with
 |nil=>intro j k v e h;simp at h
 |cons z es ih=>
  intro j k v e h;cases j with
  |zero=>
   simp at h;subst h;show List.map dg.born ((⟨k,v,z.born⟩:dg)::es)=_;rfl
  |succ j=>
   show List.map dg.born (z::ry j es ⟨k,v,e.born⟩)=_;simp only[List.map_cons,List.cons.injEq,true_and];exact ih j k v e (by simpa using h)
theorem mapWf_born{es es':List dg}{clock:Nat}(h:es'.map dg.born=es.map dg.born)(hw:nf es clock):nf es' clock:=by
 have e1:∀(l:List dg),nf l clock↔(∀b,b∈l.map dg.born->b<clock)/\(l.map dg.born).Pairwise (· ≠ ·):=fun l=>by
  unfold nf;rw[List.pairwise_map];simp
 rw[e1]at hw⊢;rw[h];exact hw
theorem EX{d:TypeDesc}{k:AV}:∀(es:List dg)(i j:Nat)(e:dg),fU d k es i=some (some (i+j,e))->es[j]?=some e
 |[],i,j,e,h=>by cases h
 |z::es,i,j,e,h=>by
  have u:fU d k (z::es) i=(match mK d k z.key with|some true=>some (some (i,z))|some false=>fU d k es (Nat.succ i)|none=>none):=rfl;rw[u]at h;cases hs:mK d k z.key with
  |none=>rw[hs]at h;cases h
  |some b=>
   cases b with
   |true=>
    rw[hs]at h;simp only[Option.some.injEq,Prod.mk.injEq]at h;obtain⟨h1,rfl⟩:=h;have:j=0:=by omega
    subst this;rfl
   |false=>
    rw[hs]at h;simp only[]at h;have mono:∀(es:List dg)(i q:Nat)(e:dg),fU d k es i=some (some (q,e))->i<=q:=by
     intro es
     induction es with
     |nil=>intro i q e h;cases h
     |cons y es ih=>
      intro i q e h;have u:fU d k (y::es) i=(match mK d k y.key with|some true=>some (some (i,y))|some false=>fU d k es (Nat.succ i)|none=>none):=rfl;rw[u]at h;cases hy:mK d k y.key with
      |none=>rw[hy]at h;cases h
      |some b=>
       cases b with
       |true=>rw[hy]at h;simp only[Option.some.injEq,Prod.mk.injEq]at h;omega
       |false=>rw[hy]at h;have:=ih _ _ _ h;omega
    have hm:=mono es _ _ _ h;cases j with
    |zero=>have:i+1<=i+0:=hm;omega
    |succ j=>
     have h2:fU d k es (i+1)=some (some (i+1+j,e)):=by rw[show i+1+j=i+(j+1) by omega];exact h
     have h3:=EX es (i+1) j e h2;simpa using h3
section
variable{κ:Type}[DecidableEq κ]{enc:κ->AV}{m:List (κ×AV)}{S:AS}{id:Nat}
theorem rn{cx:Cx}{t:TypeId}{p:TypeDesc×AV}{v:AV}{k:κ}(h:El cx t=some p)(hk:KeyE p.1 enc)(hm:CW S id enc m):
  ∃T,nh cx S t (.map id) (enc k) v=some (.undef,T)/\CW T id enc (pq m k v)/\(∀j,j≠id->T.h.get j=S.h.get j)/\T.next=S.next:=by
 obtain⟨kt,et,h1,h2,h3⟩:=w7 h;obtain⟨es,clock,h5,h6,h7⟩:=hm;unfold nh;simp only[h1,h2,hk.plain,cond_true,h5];rcases xI hk k v clock es m 0 h6 with⟨j,e,g1,_,_,g4⟩|⟨g1,_,g3⟩
 .rw[g1];simp only[Nat.zero_add];have he:=EX es 0 j e g1;exact⟨_,rfl,⟨_,_,aa _ _ _,g4,mapWf_born (DD j _ _ e he) h7⟩,fun i hi=>ae _ _ hi,rfl⟩
 .rw[g1];refine⟨_,rfl,⟨_,_,aa _ _ _,g3,?_,?_⟩,fun i hi=>ae _ _ hi,rfl⟩
  .intro e he;rw[bz]at he;rcases List.mem_append.1 he with he|he
   .exact Nat.lt_succ_of_lt (h7.1 e he)
   .simp at he;subst he;exact Nat.lt_succ_self _
  .rw[bz,List.pairwise_append];refine⟨h7.2,by simp,fun a ha b hb=>?_⟩;simp at hb;subst hb;have:=h7.1 a ha;simp;omega
theorem Al{d:TypeDesc}(hk:KeyE d enc)(k:κ):∀(es:List dg)(m:List (κ×AV))(i:Nat),es.map (fun e=>(e.key,e.val))=m.map (fun p=>(enc p.1,p.2)) ->
  (∃j e,fU d (enc k) es i=some (some (i+j,e))/\(uw j es).map (fun e=>(e.key,e.val))=(wU m k).map (fun p=>(enc p.1,p.2))) \/
  (fU d (enc k) es i=some none/\wU m k=m)
 |[],m,i,h=>by
  cases m with
  |nil=>exact .inr ⟨rfl,rfl⟩
  |cons p m=>simp at h
 |e::es,m,i,h=>by
  cases m with
  |nil=>simp at h
  |cons p m=>
   obtain⟨a,w⟩:=p;simp only[List.map_cons,List.cons.injEq,Prod.mk.injEq]at h;obtain⟨⟨h1,h2⟩,h3⟩:=h;have hs:fU d (enc k) (e::es) i=(match mK d (enc k) e.key with|some true=>some (some (i,e))|some false=>fU d (enc k) es (Nat.succ i)|none=>none):=rfl;rw[hs,h1,hk.same];by_cases hka:k=a
   .subst hka;refine .inl ⟨0,e,by simp,?_⟩;show es.map _=_;simp[wU,h3]
   .rcases Al hk k es m (i+1) h3 with⟨j,e',g1,g2⟩|⟨g1,g2⟩
    .refine .inl ⟨j+1,e',?_,?_⟩
     .have:(i+1+j,e')=(i+(j+1),e'):=by rw[Nat.add_assoc,Nat.add_comm 1 j]
      simp only[hka,decide_false];rw[<-this];exact g1
     .show (e::uw j es).map _=_;simp[wU,hka,g2,h1,h2]
    .exact .inr ⟨by simp only[hka,decide_false];exact g1,by simp[wU,hka,g2]⟩
theorem rM{α:Type}:∀(j:Nat)(l:List α),(uw j l).Sublist l
 |_,[]=>by
  rename_i j;cases j<;>exact List.Sublist.refl _
 |0,x::l=>List.sublist_cons_self x l
 |j+1,x::l=>List.Sublist.cons_cons x (rM j l)
theorem delete_mpw{cx:Cx}{t:TypeId}{p:TypeDesc×AV}{k:κ}(h:El cx t=some p)(hk:KeyE p.1 enc)(hm:CW S id enc m):
  ∃T,qA cx S t (.map id) (enc k)=some (.undef,T)/\CW T id enc (wU m k)/\(∀j,j≠id->T.h.get j=S.h.get j)/\T.next=S.next:=by
 obtain⟨kt,et,h1,h2,h3⟩:=w7 h;obtain⟨es,clock,h5,h6,h7⟩:=hm;unfold qA;simp only[h1,h2,hk.plain,cond_true,h5];rcases Al hk k es m 0 h6 with⟨j,e,g1,g4⟩|⟨g1,g3⟩
 .rw[g1];simp only[Nat.zero_add];exact⟨_,rfl,⟨_,_,aa _ _ _,g4,fun e he=>h7.1 e ((rM j es).subset he),h7.2.sublist (rM j es)⟩,fun i hi=>ae _ _ hi,rfl⟩
 .rw[g1];exact⟨_,rfl,⟨_,_,aa _ _ _,by rw[g3];exact h6,h7⟩,fun i hi=>ae _ _ hi,rfl⟩
end
def SameAt(v:AV)(S T:AS):Prop:=(∀id,aB v=id+1->T.h.get id=S.h.get id)/\S.next<=T.next
theorem _root_.Go.Am.Sl.cg{S T:AS}{v:AV}{sz:Nat}{cs:List AV}(h:Sl S v sz cs)(hs:SameAt v S T):Sl T v sz cs:=h.agree hs.1 hs.2
def CL(v:AV):List AV->AS->(Int->AS->Prop)->Prop
 |[],S,Q=>Q 0 S
 |f::l,S,Q=>∃g first cap,f=.func (.func g) first cap/\C1.exts.get g=none/\ai C1 g (first++cap) S fun r T=>∃e:Int,r=.int .i64 e/\SameAt v S T/\((e=0/\CL v l T Q)\/(e≠0/\Q e T))
theorem nt55:Tryz.f58.ntmps=18:=by kernel_rfl
def askH(v:AV)(cs:List AV)(Q:Int->AS->Prop)(k:Nat)(F':Fr)(S':AS):Prop:=
 ∃i:Nat,Sl S' v 1 cs/\CL v (cs.drop i) S' Q/\sl F' 6=v/\sl F' 7=.int .i64 cs.length/\sl F' 8=.int .i64 i/\i<=cs.length/\F'.n=18/\k=cs.length-i
theorem askH_mk{v:AV}{cs:List AV}{Q:Int->AS->Prop}{k:Nat}{F':Fr}{S':AS}(i:Nat)(h1:Sl S' v 1 cs)(h2:CL v (cs.drop i) S' Q)(h3:sl F' 6=v)(h4:sl F' 7=.int .i64 cs.length)(h5:sl F' 8=.int .i64 i)(h6:i<=cs.length)(h7:F'.n=18)(h8:k=cs.length-i):askH v cs Q k F' S':=
 ⟨i,h1,h2,h3,h4,h5,h6,h7,h8⟩
theorem sU{S:AS}{v:AV}{cs:List AV}{Q:Int->AS->Prop}(h:Sl S v 1 cs)(hl:cs.length<=1048576)(ha:CL v cs S Q):ai C1 58 [v] S fun r T=>∃e:Int,r=.int .i64 e/\Q e T:=by
 refine aK (cD _) (cG _ rfl) fn55 rfl ok55 (by simp) fun F hn s0=>?_;rw[nt55]at hn;have u1:=h.sl;have u2:=h.fC;simp[s0,u1,u2];refine aH (askH v cs Q) cs.length (askH_mk 0 h ha (by simp[s0]) (by simp[u2]) (by simp) (Nat.zero_le _) (by simp[hn]) rfl) ?_;clear s0 hn u1 u2;rintro k F' S' fL ⟨i,h1,h2,s6,s7,s8,hi,hn,hk⟩;clear fL;have w1:=h1.sl;have w2:=h1.fC;by_cases cQ:i<cs.length
 .have hd:cs.drop i=cs[i]::cs.drop (i+1):=List.drop_eq_getElem_cons cQ;rw[hd]at h2;obtain⟨g,first,cap,hf,hxt,hc⟩:=h2;have hx:=fQ (cx:=C1) (e:=122) (k:=i) h1 (List.getElem?_eq_getElem cQ) ag45;rw[hf]at hx;have jC:(i:Int)<cs.length:=by omega
  obtain⟨r,T,⟨e,rfl,hsm,hq⟩,he⟩:=hc.ex;have hw:=IntWalk.i64_in ((i:Int)+1) (by have:=cs.length;omega);rcases hq with⟨rfl,hq⟩|⟨h0,hq⟩
  .simp[s6,s7,s8,cQ,hx,w1,w2,hxt,he,hw];exact⟨cs.length-(i+1),by omega,askH_mk (i+1) (h1.cg hsm) hq (by simp[s6]) (by simp[s7]) (by simp) (by omega) (by simp[hn]) rfl⟩
  .simp[s6,s7,s8,cQ,hx,w1,w2,hxt,he,hw,h0];exact hq
 .have:i=cs.length:=by omega
  subst this;rw[List.drop_length]at h2;simp[s6,s7,s8];exact h2
@[simp] theorem sT9:strT C1 9=true:=by kernel_rfl
@[simp] theorem sc:bC C1 9=some .string:=by kernel_rfl
@[simp] theorem FJ:bytE C1 32=some 5:=by kernel_rfl
def uD(cx:Am.Cx)(t:TypeId):Option (Nat×Nat):=match bC cx t with
 |some (.array n e)=>match aE cx e with|some z=>some (n,z)|none=>none
 |_=>none
def ti(o:Option (Nat×Nat))(v u:AV):Option AV:=match o,v,u with
 |some (n,z),.ptr id g off lim,.int _ m=>if 0<=m/\m<n then some (.ptr id g (off+m.toNat*z) lim) else none
 |_,_,_=>none
@[simp] theorem arrOk_ptr{n z id g off lim:Nat}{k:IntKind}{m:Int}:ti (some (n,z)) (.ptr id g off lim) (.int k m)=if 0<=m/\m<n then some (.ptr id g (off+m.toNat*z) lim) else none:=rfl
theorem uE{cx:Am.Cx}{F:Fr}{S:AS}{dst:Option Tmp}{ty t:TypeId}{pos:String}{af:Array Edge}{gd:Option (Nat×Bool)}{x ix:Operand}{w:AV}(h:ti (uD cx t) (eval F x) (eval F ix)=some w):
  bj cx F S ⟨dst,.indexAddr t x ix,ty,pos,af,gd⟩=.val w S:=by
 unfold ti at h;split at h
 .rename_i n z id g off lim k m h1 h2 h3;split at h
  .rename_i hm;cases h;unfold uD at h1;split at h1
   .rename_i n' e hu;split at h1
    .rename_i z' hz;cases h1;obtain⟨i,rfl⟩:∃i:Nat,m=i:=⟨m.toNat,by omega⟩
     have cq:i<n:=by omega
     simp only[bj,hu,h2,h3,eR,hz,gH,cq,decide_true,cond_true,aN];rfl
    .cases h1
   .cases h1
  .cases h
 .cases h
@[simp] theorem zo{cx:Am.Cx}{F:Fr}{S:AS}{dst:Option Tmp}{ty t:TypeId}{pos:String}{af:Array Edge}{gd:Option (Nat×Bool)}{x ix:Tmp}{v u w:AV}(hx:sl F x=v)(hi:sl F ix=u)(h:ti (uD cx t) v u=some w):
  bj cx F S ⟨dst,.indexAddr t (.tmp x) (.tmp ix),ty,pos,af,gd⟩=.val w S:=
 uE (by rw[aJ,aJ,hx,hi];exact h)
@[simp] theorem arr133:uD C1 249=some (256,1):=by kernel_rfl
@[simp] theorem arr194:uD C1 315=some (16,1):=by kernel_rfl
section
variable{S:AS}
def jP(s:List Nat):List AV:=(List.range 256).map fun i=>AV.bool (decide (i∈s))
theorem fB(s:List Nat):(jP s).length=256:=by simp[jP]
theorem wv{s:List Nat}{i:Nat}(h:i<256):(jP s)[i]?=some (AV.bool (decide (i∈s))):=by
 unfold jP;rw[List.getElem?_map,List.getElem?_range h];rfl
theorem setC_put{s:List Nat}{c:Nat}(h:c<256):(jP s).set c (AV.bool true)=jP (s++[c]):=by
 apply List.ext_getElem?;intro i;by_cases hi:i<256
 .rw[wv hi,List.getElem?_set];by_cases e:c=i
  .subst e;simp[fB,h]
  .rw[if_neg e,wv hi];simp[Ne.symm e]
 .rw[List.getElem?_eq_none (by rw[List.length_set,fB];omega),List.getElem?_eq_none (by rw[fB];omega)]
theorem zero133:zeroOf C1 249=some (.agg (jP [])):=by kernel_rfl
theorem has117{B:Nat}{s:List Nat}{c ty:Nat}{frz:Bool}(hB:S.h.get B=some (.row (jP s) 0 0 frz ty))(hc:c<256){Q:AV->AS->Prop}:ai C1 216 [.ptr B 0 0 256,.int .u8 c] S Q=Q (.bool (decide (c∈s))) S:=by
 refine ai.eq (aX (cD _) (cG _ rfl) fn117 rfl ok117 (by simp) fun F hn s0 s1=>?_);have hd:((jP s).drop c).take 1=[AV.bool (decide (c∈s))]:=by
  have h1:c<(jP s).length:=by rw[fB];exact hc
  rw[List.drop_eq_getElem_cons h1,List.take_succ_cons,List.take_zero];have h2:=wv (s:=s) hc;rw[List.getElem?_eq_getElem h1]at h2;rw[Option.some.inj h2]
 have hcI:(c:Int)<256:=by omega
 simp[s0,s1,hB,hcI,hd,show c+1<=256 by omega]
def leftH(S:AS)(B:Nat)(s cut:List Nat)(k:Nat)(F':Fr)(S':AS):Prop:=
 ∃r:List Nat,S'=S/\r.dropWhile (fun c=>decide (c∈cut))=s.dropWhile (fun c=>decide (c∈cut))/\(∀c,c∈r->c<256)/\r.length<=s.length/\sl F' 0=.str r/\sl F' 1=.ptr B 0 0 256/\F'.n=16/\k=r.length
theorem Er{S:AS}{B:Nat}{s cut:List Nat}{k:Nat}{F':Fr}(r:List Nat)(h1:r.dropWhile (fun c=>decide (c∈cut))=s.dropWhile (fun c=>decide (c∈cut)))(h2:∀c,c∈r->c<256)(h0:r.length<=s.length)(h3:sl F' 0=.str r)(h4:sl F' 1=.ptr B 0 0 256)(h5:F'.n=16)(h6:k=r.length):leftH S B s cut k F' S:=
 ⟨r,rfl,h1,h2,h0,h3,h4,h5,h6⟩
theorem nt100:Tryz.f173.ntmps=16:=by kernel_rfl
theorem nt101:Tryz.f174.ntmps=22:=by kernel_rfl
set_option maxRecDepth 20000 in
theorem left100{B:Nat}{s cut:List Nat}{ty:Nat}{frz:Bool}(hB:S.h.get B=some (.row (jP cut) 0 0 frz ty))(hs:∀c,c∈s->c<256)(hl:s.length<=1048576):ai C1 173 [.str s,.ptr B 0 0 256] S fun r T=>r=.str (s.dropWhile fun c=>decide (c∈cut))/\T=S:=by
 refine aX (cD _) (cG _ rfl) fn100 rfl ok100 (by simp) fun F hn s0 s1=>?_;rw[nt100]at hn;simp[s0,s1];refine aH (leftH S B s cut) s.length (Er s rfl hs (Nat.le_refl _) (by simp[s0]) (by simp[s1]) (by simp[hn]) rfl) ?_;clear s0 s1 hn;rintro k F' S' fL ⟨r,rfl,h1,h2,h0,s0,s1,hn,hk⟩;clear fL;cases r with
 |nil=>
  simp[s0,s1,cF sc];rw[<-h1];rfl
 |cons c r=>
  have ixc:=fun (F:Fr) (S':AS) (dst:Option Tmp) (ty:TypeId) (pos:String) (af:Array Edge) (gd:Option (Nat×Bool)) (x:Tmp) (a:sl F x=.str (c::r))=>lL (cx:=C1) (F:=F) (S:=S') (dst:=dst) (ty:=ty) (pos:=pos) (af:=af) (gd:=gd) (t:=9) (ix:=.const (.int .i64 0)) (i:=0) (c:=c) ((aJ F x).trans a) rfl rfl rfl sT9 rfl;have hc:c<256:=h2 c (List.mem_cons_self ..);have hp:=fun Q=>has117 (Q:=Q) hB hc;have q:(0:Int)<(r.length:Int)+1:=by omega
  by_cases hm:c∈cut
  .have v1:=fun (F:Fr)=>(uQ (cx:=C1) (F:=F) (t:=9) (s:=c::r) (lo:=some (.const (.int .i64 1))) (hi:=none) (l:=1) (k:=(c::r).length) sT9 rfl rfl (by simp) (Nat.le_refl _)).trans (show _=some (AV.str r) by simp);simp[s0,s1,ixc,hp,aR,cF sc,q,hm,v1];refine⟨r.length,by rw[hk];simp,Er r ?_ (fun x hx=>h2 x (List.mem_cons_of_mem _ hx)) (by simp at h0;omega) (by simp) (by simp[s1]) (by simp[hn]) rfl⟩;rw[<-h1,List.dropWhile_cons];simp[hm]
  .simp[s0,s1,ixc,hp,aR,cF sc,q,hm];rw[<-h1,List.dropWhile_cons];simp[hm]
def rightH(S:AS)(B:Nat)(s cut:List Nat)(k:Nat)(F':Fr)(S':AS):Prop:=
 ∃r:List Nat,S'=S/\r.dropWhile (fun c=>decide (c∈cut))=s.reverse.dropWhile (fun c=>decide (c∈cut))/\(∀c,c∈r->c<256)/\r.length<=s.length/\sl F' 0=.str r.reverse/\sl F' 1=.ptr B 0 0 256/\F'.n=22/\k=r.length
theorem zE{S:AS}{B:Nat}{s cut:List Nat}{k:Nat}{F':Fr}(r:List Nat)(h1:r.dropWhile (fun c=>decide (c∈cut))=s.reverse.dropWhile (fun c=>decide (c∈cut)))(h2:∀c,c∈r->c<256)(h0:r.length<=s.length)(h3:sl F' 0=.str r.reverse)(h4:sl F' 1=.ptr B 0 0 256)(h5:F'.n=22)(h6:k=r.length):rightH S B s cut k F' S:=
 ⟨r,rfl,h1,h2,h0,h3,h4,h5,h6⟩
set_option maxRecDepth 20000 in
theorem right101{B:Nat}{s cut:List Nat}{ty:Nat}{frz:Bool}(hB:S.h.get B=some (.row (jP cut) 0 0 frz ty))(hs:∀c,c∈s->c<256)(hl:s.length<=1048576):ai C1 174 [.str s,.ptr B 0 0 256] S fun r T=>r=.str (s.reverse.dropWhile fun c=>decide (c∈cut)).reverse/\T=S:=by
 refine aX (cD _) (cG _ rfl) fn101 rfl ok101 (by simp) fun F hn s0 s1=>?_;rw[nt101]at hn;simp[s0,s1];refine aH (rightH S B s cut) s.length (zE s.reverse rfl (fun c h=>hs c (List.mem_reverse.1 h)) (by simp) (by simp[s0]) (by simp[s1]) (by simp[hn]) (by simp)) ?_;clear s0 s1 hn;rintro k F' S' fL ⟨r,rfl,h1,h2,h0,s0,s1,hn,hk⟩;clear fL;cases r with
 |nil=>
  simp at s0;simp[s0,s1,cF sc];rw[<-h1];rfl
 |cons c r=>
  obtain⟨m,hm0⟩:∃m,m=r.length:=⟨_,rfl⟩
  obtain⟨z,hz⟩:∃z,z=(c::r).reverse:=⟨_,rfl⟩
  have hzl:z.length=m+1:=by rw[hz,hm0];simp
  have hzi:z[m]?=some c:=by rw[hz,hm0];simp
  have hzt:z.take m=r.reverse:=by rw[hz,hm0,List.reverse_cons,List.take_append_of_le_length (by simp)];rw[List.take_of_length_le (by simp)]
  rw[<-hz]at s0;have hc:c<256:=h2 c (List.mem_cons_self ..);have hp:=fun Q=>has117 (Q:=Q) hB hc;have hl0:(c::r).length<=s.length:=h0;simp at hl0;have q:(0:Int)<(m:Int)+1:=by omega
  have w:IntKind.i64.wrap ((m:Int)+1-1)=(m:Int):=by rw[show (m:Int)+1-1=m by omega];exact IntWalk.i64_in _ (by omega)
  have w':IntKind.i64.wrap (m:Int)=(m:Int):=IntWalk.i64_in _ (by omega);have ixc:=fun (F:Fr) (S':AS) (dst:Option Tmp) (ty:TypeId) (pos:String) (af:Array Edge) (gd:Option (Nat×Bool)) (x y:Tmp) (a:sl F x=.str z) (b:sl F y=.int .i64 (m:Int))=>lL (cx:=C1) (F:=F) (S:=S') (dst:=dst) (ty:=ty) (pos:=pos) (af:=af) (gd:=gd) (t:=9) (ix:=.tmp y) (i:=m) (c:=c) ((aJ F x).trans a) rfl ((aJ F y).trans b) qf sT9 hzi;by_cases hm:c∈cut
  .have v1:=fun (F:Fr) (y:Tmp) (b:sl F y=.int .i64 (m:Int))=>(uQ (cx:=C1) (F:=F) (t:=9) (s:=z) (lo:=none) (hi:=some (.tmp y)) (l:=0) (k:=m) sT9 rfl (by simp[bound,aJ,b,qf]) (by omega) (by omega)).trans (show _=some (AV.str r.reverse) by simp[hzt]);simp[s0,s1,ixc,hp,aR,cF sc,q,hm,v1,hzl,w,w'];refine⟨r.length,by rw[hk];simp,zE r ?_ (fun x hx=>h2 x (List.mem_cons_of_mem _ hx)) (by omega) (by simp) (by simp[s1]) (by simp[hn]) rfl⟩;rw[<-h1,List.dropWhile_cons];simp[hm]
  .simp[s0,s1,ixc,hp,aR,cF sc,q,hm,hzl,w,w'];rw[<-h1,List.dropWhile_cons,hz];simp[hm]
end
section
variable{S:AS}
def makeH(S:AS)(cut:List Nat)(k:Nat)(F':Fr)(S':AS):Prop:=
 ∃i:Nat,S'.h.get S.next=some (.row (jP (cut.take i)) 0 0 false 249)/\S'.next=S.next+1/\(∀id,id<S.next->S'.h.get id=S.h.get id)/\sl F' 0=.str cut/\sl F' 2=.ptr S.next 0 0 256/\sl F' 4=.int .i64 i/\i<=cut.length/\F'.n=21/\k=cut.length-i
theorem Em{S:AS}{cut:List Nat}{k:Nat}{F':Fr}{S':AS}(i:Nat)(h1:S'.h.get S.next=some (.row (jP (cut.take i)) 0 0 false 249))(h2:S'.next=S.next+1)(h3:∀id,id<S.next->S'.h.get id=S.h.get id)(h4:sl F' 0=.str cut)(h5:sl F' 2=.ptr S.next 0 0 256)(h6:sl F' 4=.int .i64 i)(h7:i<=cut.length)(h8:F'.n=21)(h9:k=cut.length-i):makeH S cut k F' S':=
 ⟨i,h1,h2,h3,h4,h5,h6,h7,h8,h9⟩
theorem nt99:Tryz.f172.ntmps=21:=by kernel_rfl
set_option maxRecDepth 20000 in
theorem make99{cut:List Nat}(hs:∀c,c∈cut->c<128)(hl:cut.length<=1048576):ai C1 172 [.str cut] S fun r T=>r=.tuple [.agg (jP cut),.bool true]/\Sub S T:=by
 refine aK (cD _) (cG _ rfl) fn99 rfl ok99 (by simp) fun F hn s0=>?_;rw[nt99]at hn;have hz:=zero133;simp[s0,-ze133,hz,fB];refine aH (makeH S cut) cut.length (Em 0 (aa _ _ _) rfl (fun id h=>ae _ _ (by omega)) (by simp[s0]) (by simp) (by simp) (Nat.zero_le _) (by simp[hn]) rfl) ?_;clear s0 hn;rintro k F' S' fL ⟨i,h1,h2,h3,s0,s2,s4,hi,hn,hk⟩;clear fL;by_cases cQ:i<cut.length
 .have hx:cut[i]?=some cut[i]:=List.getElem?_eq_getElem cQ;have hc:=hs cut[i] (List.getElem_mem cQ);obtain⟨c,qM⟩:∃c,c=cut[i]:=⟨_,rfl⟩
  rw[<-qM]at hx hc;have hcI:¬(128:Int)<=(c:Int):=by omega
  have hcI2:(c:Int)<256:=by omega
  have jC:(i:Int)<cut.length:=by omega
  have hw:=IntWalk.i64_in ((i:Int)+1) (by omega);have ixc:=fun (F:Fr) (S':AS) (dst:Option Tmp) (ty:TypeId) (pos:String) (af:Array Edge) (gd:Option (Nat×Bool)) (x y:Tmp) (a:sl F x=.str cut) (b:sl F y=.int .i64 (i:Int))=>lL (cx:=C1) (F:=F) (S:=S') (dst:=dst) (ty:=ty) (pos:=pos) (af:=af) (gd:=gd) (t:=9) (ix:=.tmp y) (i:=i) (c:=c) ((aJ F x).trans a) rfl ((aJ F y).trans b) qf sT9 hx;have mj:AM S' (.ptr S.next 0 c 256) [.bool true]=some ⟨S'.h.set S.next (.row (jP (cut.take (i+1))) 0 0 false 249),S'.next⟩:=by
   have e1:cut.take (i+1)=cut.take i++[c]:=by
    rw[List.take_add_one,hx];rfl
   have e2:cT c (jP (cut.take i)) [AV.bool true]=jP (cut.take (i+1)):=by
    rw[e1,<-setC_put (by omega),gm _ _ _ (by rw[fB];omega),List.set_eq_take_append_cons_drop,if_pos (by rw[fB];omega)];simp
   simp only[gh,mA,h1,gk,List.length_singleton,e2];rw[if_pos (by refine⟨?_,by omega,?_⟩<;>trivial)]
  simp[s0,s2,s4,ixc,cF sc,cQ,jC,hcI,hcI2,hw,mj];exact⟨cut.length-(i+1),by omega,Em (i+1) (aa _ _ _) h2 (fun id h=>(ae _ _ (by omega)).trans (h3 id h)) (by simp[s0]) (by simp[s2]) (by simp) (by omega) (by simp[hn]) rfl⟩
 .have:i=cut.length:=by omega
  subst this;rw[List.take_length]at h1;have hr:((jP cut).drop 0).take 256=jP cut:=by rw[List.drop_zero,List.take_of_length_le (by rw[fB];exact Nat.le_refl _)]
  simp[s0,s2,s4,cF sc,h1,hr,fB];exact⟨by rw[List.take_of_length_le (by rw[fB];exact Nat.le_refl _)],⟨fun id h=>(ae _ _ (by omega)).trans (h3 id h),by show S.next<=S'.next;omega⟩⟩
def trimB(cut s:List Nat):List Nat:=((s.reverse.dropWhile fun c=>decide (c∈cut)).reverse).dropWhile fun c=>decide (c∈cut)
theorem trimB_nil(cut s:List Nat):trimB cut s=[]↔∀c,c∈s->c∈cut:=by
 unfold trimB;have dw:∀l:List Nat,l.dropWhile (fun c=>decide (c∈cut))=[]↔∀c,c∈l->c∈cut:=by
  intro l
  induction l with
  |nil=>simp
  |cons x l ih=>
   rw[List.dropWhile_cons];by_cases hx:x∈cut
   .simp[hx,ih]
   .simp[hx]
 rw[dw];constructor
 .intro h;by_cases jW:∀c,c∈s.reverse->c∈cut
  .exact fun c hc=>jW c (List.mem_reverse.2 hc)
  .exfalso;have cS:s.reverse.dropWhile (fun c=>decide (c∈cut))≠[]:=fun e=>jW ((dw _).1 e);have h1:=List.head_dropWhile_not (fun c=>decide (c∈cut)) cS;have h2:=h _ (List.mem_reverse.2 (List.head_mem cS));rw[decide_eq_true h2]at h1;cases h1
 .intro h c hc;exact h c (List.mem_reverse.1 ((List.dropWhile_suffix _).subset (List.mem_reverse.1 hc)))
theorem nt64:Tryz.f125.ntmps=43:=by kernel_rfl
theorem yY(p:Nat->Bool)(l:List Nat):(l.dropWhile p).length<=l.length:=(List.dropWhile_suffix p).length_le
set_option maxRecDepth 20000 in
theorem trim64{s cut:List Nat}(hc:∀c,c∈cut->c<128)(qY:cut.length<=1048576)(h2:2<=cut.length)(hs:∀c,c∈s->c<256)(hl:s.length<=1048576):ai C1 125 [.str s,.str cut] S fun r T=>r=.str (trimB cut s)/\Sub S T:=by
 obtain⟨r,T1,⟨rfl,h1⟩,e1⟩:=(make99 (S:=S) hc qY).ex;refine aX (cD _) (cG _ rfl) fn64 rfl ok64 (by simp) fun F hn s0 s1=>?_;rw[nt64]at hn;have hcn:re cut []=false:=by
  rw[kj];simp;intro e;rw[e]at h2;simp at h2
 by_cases hsn:s=[]
 .subst hsn;have hsq:re ([]:List Nat) []=true:=by rw[kj];simp
  simp[s0,s1,hsq,Sub.refl];rfl
 .have hsq:re s []=false:=by rw[kj];simp[hsn]
  have hc1:¬(cut.length:Int)=1:=by omega
  have hdr:jP cut++List.drop 256 (jP [])=jP cut:=by rw[List.drop_of_length_le (by rw[fB];exact Nat.le_refl _),List.append_nil]
  obtain⟨T2,ie⟩:∃T2:AS,T2=⟨(T1.h.set T1.next (.row (jP []) 0 0 false 249)).set T1.next (.row (jP cut) 0 0 false 249),T1.next+1⟩:=⟨_,rfl⟩
  have hB:T2.h.get T1.next=some (.row (jP cut) 0 0 false 249):=by rw[ie];exact aa _ _ _
  have lE:Sub T1 T2:=by rw[ie];exact fO
  obtain⟨r,T3,⟨rfl,rfl⟩,e2⟩:=(right101 hB hs hl).ex;obtain⟨r,T4,⟨rfl,rfl⟩,e3⟩:=(left100 (s:=(s.reverse.dropWhile fun c=>decide (c∈cut)).reverse) hB (fun c h=>hs c (List.mem_reverse.1 ((List.dropWhile_suffix _).subset (List.mem_reverse.1 h)))) (by rw[List.length_reverse];exact Nat.le_trans (yY _ _) (by rw[List.length_reverse];exact hl))).ex;rw[ie]at e2 e3;simp[s0,s1,hsq,hcn,hc1,cF sc,aR,e1,-ze133,zero133,fB,hdr,e2,e3];rw[<-ie];exact⟨rfl,h1.trans lE⟩
def cutF:List Nat:=[97,98,99,100,101,102,103,104,105,106,107,108,109,110,111,112,113,114,115,116,117,118,119,120,121,122,48,49,50,51,52,53,54,55,56,57,45,46]
def kf(s:List Nat):Bool:=decide (1<=s.length/\s.length<=32/\∀c,c∈s->c∈cutF)
theorem may93{s:List Nat}(hs:∀c,c∈s->c<256)(hl:s.length<=1048576):ai C1 60 [.str s] S fun r T=>r=.bool (kf s)/\Sub S T:=by
 obtain⟨r,T1,⟨rfl,h1⟩,e1⟩:=(trim64 (S:=S) (s:=s) (cut:=cutF) (by decide) (by decide) (by decide) hs hl).ex;refine aK (cD _) (cG _ rfl) fn93 rfl ok93 (by simp) fun F hn s0=>?_;unfold kf;unfold cutF at e1;by_cases a1:(1:Int)<=(s.length:Int)
 .by_cases a2:(s.length:Int)<=32
  .have a3:re (trimB [97,98,99,100,101,102,103,104,105,106,107,108,109,110,111,112,113,114,115,116,117,118,119,120,121,122,48,49,50,51,52,53,54,55,56,57,45,46] s) []=decide (∀c,c∈s->c∈cutF):=by
    rw[kj];exact decide_eq_decide.2 (trimB_nil cutF s)
   have b1:1<=s.length:=by omega
   have b2:s.length<=32:=by omega
   simp[s0,cF sc,a1,a2,aR,e1,a3,b1,b2,h1]
  .have b2:¬s.length<=32:=by omega
   simp[s0,cF sc,a1,a2,b2,Sub.refl]
 .have b1:¬1<=s.length:=by omega
  simp[s0,cF sc,a1,b1,Sub.refl]
end
structure Fl where
 name:List Nat
 id:Nat
 w:AV
 bs:List AV
 iB:Nat
def Fl.p(f:Fl):List Nat×AV:=(f.name,.ptr f.id 0 0 2)
structure Dk where
 dp:Nat
 mi:Nat
 fs:List Fl
 q:Nat
 dQ:Int
 off:Bool
def Dk.bB(D:Dk)(id:Nat):Prop:=id=D.dp\/id=D.mi\/∃f,f∈D.fs/\(id=f.id\/aB f.w=id+1)
structure bh(S:AS)(D:Dk):Prop where
 row:S.h.get D.dp=some (.row [.map D.mi,.int .i64 D.q,.int .i64 D.dQ,.bool D.off] 0 0 false 130)
 CU:D.dp<S.next
 mlt:D.mi<S.next
 map:CW S D.mi AV.str (D.fs.map Fl.p)
 xC:∀f,f∈D.fs->S.h.get f.id=some (.row [f.w,.int .i64 f.iB] 0 0 false 132)
 CS:∀f,f∈D.fs->f.id<S.next
 gw:∀f,f∈D.fs->Gw S f.w 1 5 f.bs
 names:(D.fs.map (·.name)).Nodup
 dm:D.dp≠D.mi
 fid:∀f,f∈D.fs->f.id≠D.dp/\f.id≠D.mi
 wid:∀f,f∈D.fs->aB f.w≠D.dp+1/\aB f.w≠D.mi+1/\∀g,g∈D.fs->aB f.w≠g.id+1
 apart:D.fs.Pairwise fun f g=>f.id≠g.id/\(aB f.w=0\/aB f.w≠aB g.w)
 wQ:∀f,f∈D.fs->f.name.length<=1048576
def Dk.small(D:Dk):Prop:=D.fs.length<=1048576/\∀f,f∈D.fs->f.bs.length<=4194304
structure Evo(D D':Dk)(S T:AS):Prop where
 cg:∀id,id<S.next->¬D.bB id->T.h.get id=S.h.get id
 next:S.next<=T.next
 bB:∀id,id<S.next->D'.bB id->D.bB id
section
variable{S T U:AS}{D D' D'':Dk}
theorem Evo.refl:Evo D D S S:=⟨fun _ _ _=>rfl,Nat.le_refl _,fun _ _ h=>h⟩
theorem Evo.trans(h:Evo D D' S T)(k:Evo D' D'' T U):Evo D D'' S U:=
 ⟨fun id h1 h2=>by rw[k.cg id (Nat.lt_of_lt_of_le h1 h.next) (fun h3=>h2 (h.bB id h1 h3))];exact h.cg id h1 h2,Nat.le_trans h.next k.next,fun id h1 h2=>h.bB id h1 (k.bB id (Nat.lt_of_lt_of_le h1 h.next) h2)⟩
theorem bh.agree(h:bh S D)(hs:∀id,D.bB id->T.h.get id=S.h.get id)(hn:S.next<=T.next):bh T D where
 row:=by rw[hs _ (.inl rfl)];exact h.row
 CU:=Nat.lt_of_lt_of_le h.CU hn
 mlt:=Nat.lt_of_lt_of_le h.mlt hn
 map:=h.map.agree (hs _ (.inr (.inl rfl)))
 xC f hf:=by rw[hs _ (.inr (.inr ⟨f,hf,.inl rfl⟩))];exact h.xC f hf
 CS f hf:=Nat.lt_of_lt_of_le (h.CS f hf) hn
 gw f hf:=(h.gw f hf).agree (fun id e=>hs _ (.inr (.inr ⟨f,hf,.inr e⟩))) hn
 names:=h.names
 dm:=h.dm
 fid:=h.fid
 wid:=h.wid
 apart:=h.apart
 wQ:=h.wQ
theorem bh.lt(h:bh S D){id:Nat}(hf:D.bB id):id<S.next:=by
 rcases hf with rfl|rfl|⟨f,hf,rfl|e⟩
 .exact h.CU
 .exact h.mlt
 .exact h.CS f hf
 .have:=(h.gw f hf).1.old;omega
theorem bh.sub(h:bh S D)(hs:Sub S T):bh T D:=h.agree (fun id hf=>hs.h id (h.lt hf)) hs.next
def Dk.eY(D:Dk):Int:=if D.off then 8 else 0
@[simp] theorem eqm60(c:Bool)(i:Nat):aS C1 .eql 127 c (.map i) .jl=some (.bool false):=by kernel_rfl
theorem AD(h:bh S D){Q:AV->AS->Prop}:ai C1 54 [.ptr D.dp 0 0 4] S Q=Q (.int .i64 D.eY) S:=by
 refine ai.eq (aK (cD _) (cG _ rfl) fn56 rfl ok56 (by simp) fun F hn s0=>?_);unfold Dk.eY;have hr:=h.row;cases ho:D.off<;>rw[ho]at hr<;>simp[s0,hr]
theorem sh{b:Bool}{e:Int}:∀Q:AV->AS->Prop,ai C1 59 [.bool b,.int .i64 e] S Q=Q (.func (.func 124) [] [.ptr S.next 0 0 1,.ptr (S.next+1) 0 0 1]) ⟨(S.h.set S.next (.row [.bool b] 0 0 false 4)).set (S.next+1) (.row [.int .i64 e] 0 0 false 42),S.next+2⟩:=fun Q=>by
 refine ai.eq (aX (cD _) (cG _ rfl) fn57 rfl ok57 (by simp) fun F hn s0 s1=>?_);simp[s0,s1]
theorem vr{x y t t':Nat}{f f':Bool}{b:Bool}{e:Int}(hx:S.h.get x=some (.row [.bool b] 0 0 f t))(hy:S.h.get y=some (.row [.int .i64 e] 0 0 f' t')){Q:AV->AS->Prop}:ai C1 124 [.ptr x 0 0 1,.ptr y 0 0 1] S Q=Q (.int .i64 (if b then e else 0)) S:=by
 refine ai.eq (aX (cD _) (cG _ rfl) fn91 rfl ok91 (by simp) fun F hn s0 s1=>?_);cases b<;>simp[s0,s1,hx,hy]
theorem vt{d:Nat}{name:List Nat}:∀Q:AV->AS->Prop,ai C1 64 [.ptr d 0 0 4,.str name] S Q=Q (.func (.func 126) [] [.ptr (S.next+1) 0 0 1,.ptr S.next 0 0 1]) ⟨(S.h.set S.next (.row [.ptr d 0 0 4] 0 0 false 24)).set (S.next+1) (.row [.str name] 0 0 false 9),S.next+2⟩:=fun Q=>by
 refine ai.eq (aX (cD _) (cG _ rfl) fn60 rfl ok60 (by simp) fun F hn s0 s1=>?_);simp[s0,s1]
def Dk.file(D:Dk)(name:List Nat):Option Fl:=D.fs.find? fun f=>f.name==name
def Dk.ay(D:Dk)(name:List Nat):Int:=if kf name then (if (D.file name).isSome then 0 else 6) else 1
theorem tQ(name:List Nat):∀fs:List Fl,vg (fs.map Fl.p) name=(fs.find? fun f=>f.name==name).map fun f=>AV.ptr f.id 0 0 2
 |[]=>rfl
 |f::fs=>by
  have ih:=tQ name fs;by_cases h:name=f.name
  .have h2:(f.name==name)=true:=by simp[h]
   simp only[List.map_cons,Fl.p,vg,h,if_true,List.find?_cons,beq_self_eq_true,Option.map_some]
  .have h2:(f.name==name)=false:=by simp[Ne.symm h]
   simp only[List.map_cons,Fl.p,vg,h,if_false,List.find?_cons,h2];exact ih
theorem bh.lookup(h:bh S D)(name:List Nat):kN C1 S 127 (.map D.mi) (.str name) false=some (match D.file name with|some f=>.ptr f.id 0 0 2|none=>.bM):=by
 have:=qj (cx:=C1) (t:=127) (k:=name) (ok:=false) mk60 xe (h.map.mp h.mlt);rw[this,tQ];unfold Dk.file;cases D.fs.find? fun f=>f.name==name<;>rfl
theorem there92(h:bh S D){a b:Nat}{name:List Nat}{t t':Nat}{f f':Bool}(ha:S.h.get a=some (.row [.str name] 0 0 f t))(hb:S.h.get b=some (.row [.ptr D.dp 0 0 4] 0 0 f' t'))(hn:∀c,c∈name->c<256)(hl:name.length<=1048576)(hal:a<S.next)(tz:b<S.next):
  ai C1 126 [.ptr a 0 0 1,.ptr b 0 0 1] S fun r T=>r=.int .i64 (D.ay name)/\Sub S T:=by
 obtain⟨r,T1,⟨rfl,h1⟩,e1⟩:=(may93 (S:=S) hn hl).ex;have hT:=h.sub h1;have lk:=hT.lookup name;have hr:=hT.row;have ha':=(h1.h a hal).trans ha;have sQ:=(h1.h b tz).trans hb;refine cl (cD _) (cG _ rfl) fn92 rfl ok92 (by simp) fun F fL hs=>?_;have nt92:Tryz.f126.ntmps=15:=by kernel_rfl
 rw[nt92]at fL;have s0:=hs 0;have s1:=hs 1;clear hs;simp only[List.getElem?_cons_zero,List.getElem?_cons_succ,Option.getD_some]at s0 s1;unfold Dk.ay;cases hm:kf name with
 |false=>
  rw[hm]at e1;simp[s0,s1,ha,aR,e1,h1]
 |true=>
  rw[hm]at e1;simp[s0,s1,ha,aR,e1];refine mH (n:=15) (by kernel_rfl) (by simp[fL]) ?_;cases hf:D.file name with
  |none=>
   rw[hf]at lk;simp[s0,s1,ha',sQ,hr,lk,hf,h1]
  |some fl=>
   rw[hf]at lk;simp[s0,s1,ha',sQ,hr,lk,hf,h1]
def Dk.jg(D:Dk):Int×Dk:=if D.dQ=0 then (8,{D with off:=true,dQ:=-1}) else if 0<D.dQ then (0,{D with dQ:=D.dQ-1}) else (0,D)
theorem Cl(D:Dk):D.jg.2.fs=D.fs/\D.jg.2.dp=D.dp/\D.jg.2.mi=D.mi/\D.jg.2.q=D.q:=by
 unfold Dk.jg;split
 .exact⟨rfl,rfl,rfl,rfl⟩
 .split<;>exact⟨rfl,rfl,rfl,rfl⟩
theorem bh.turn(h:bh S D){dQ:Int}{off:Bool}(hr:T.h.get D.dp=some (.row [.map D.mi,.int .i64 D.q,.int .i64 dQ,.bool off] 0 0 false 130))(hs:∀id,id≠D.dp->T.h.get id=S.h.get id)(hn:S.next<=T.next):bh T {D with dQ:=dQ,off:=off} where
 row:=hr
 CU:=Nat.lt_of_lt_of_le h.CU hn
 mlt:=Nat.lt_of_lt_of_le h.mlt hn
 map:=h.map.agree (hs _ (Ne.symm h.dm))
 xC f hf:=by rw[hs _ (h.fid f hf).1];exact h.xC f hf
 CS f hf:=Nat.lt_of_lt_of_le (h.CS f hf) hn
 gw f hf:=(h.gw f hf).agree (fun id e=>hs _ (fun e2=>(h.wid f hf).1 (by rw[e,e2]))) hn
 names:=h.names
 dm:=h.dm
 fid:=h.fid
 wid:=h.wid
 apart:=h.apart
 wQ:=h.wQ
theorem burns61(h:bh S D)(yQ:D.dQ<9223372036854775808):ai C1 63 [.ptr D.dp 0 0 4] S fun r T=>r=.int .i64 D.jg.1/\bh T D.jg.2/\(∀id,id≠D.dp->T.h.get id=S.h.get id)/\T.next=S.next:=by
 have hr:=h.row;refine aK (cD _) (cG _ rfl) fn61 rfl ok61 (by simp) fun F hn s0=>?_;unfold Dk.jg;by_cases h0:D.dQ=0
 .rw[h0]at hr;simp[s0,hr,h0];refine⟨bh.turn (D:=D) h (aa _ _ _) (fun id hi=>(ae _ _ hi).trans (ae _ _ hi)) (Nat.le_refl _),by intro id hi;simp[hi]⟩
 .by_cases h1:0<D.dQ
  .have hw:=IntWalk.i64_in (D.dQ-1) (by omega);simp[s0,hr,h0,h1,hw];refine⟨bh.turn (D:=D) (off:=D.off) h (aa _ _ _) (fun id hi=>ae _ _ hi) (Nat.le_refl _),by intro id hi;simp[hi]⟩
  .simp[s0,hr,h0,h1];exact h
end
section
variable{S T U:AS}{D D':Dk}{v:AV}{Q:Int->AS->Prop}
def Quiet(S:AS)(f:AV)(e:Int):Prop:=∃g first cap,f=.func (.func g) first cap/\C1.exts.get g=none/\∀T,Sub S T->ai C1 g (first++cap) T fun r T'=>r=.int .i64 e/\Sub T T'
theorem Quiet.sub{f:AV}{e:Int}(h:Quiet S f e)(hs:Sub S T):Quiet T f e:=by
 obtain⟨g,first,cap,h1,h2,h3⟩:=h;exact⟨g,first,cap,h1,h2,fun U hU=>h3 U (hs.trans hU)⟩
theorem sameAt_sub(hv:aB v<=S.next)(h:Sub S T):SameAt v S T:=⟨fun id e=>h.h id (by omega),h.next⟩
theorem nY{f:AV}{e:Int}{l:List AV}(hq:Quiet S f e)(hT:Sub S T)(hv:aB v<=S.next)(k0:e=0->∀U,Sub S U->CL v l U Q)(k1:e≠0->∀U,Sub S U->Q e U):CL v (f::l) T Q:=by
 obtain⟨g,first,cap,h1,h2,h3⟩:=hq;refine⟨g,first,cap,h1,h2,(h3 T hT).mono ?_⟩;rintro r T' ⟨rfl,h4⟩;refine⟨e,rfl,sameAt_sub (by have:=hT.next;omega) h4,?_⟩;by_cases h0:e=0
 .exact .inl ⟨h0,k0 h0 T' (hT.trans h4)⟩
 .exact .inr ⟨h0,k1 h0 T' (hT.trans h4)⟩
theorem askP_burn(hD:bh T D)(yQ:D.dQ<9223372036854775808)(hv:aB v≠D.dp+1)(k:∀U,bh U D.jg.2->(∀id,id≠D.dp->U.h.get id=T.h.get id)->U.next=T.next->Q D.jg.1 U):CL v [.func (.func 63) [.ptr D.dp 0 0 4] []] T Q:=by
 refine⟨63,[.ptr D.dp 0 0 4],[],rfl,aR _ rfl,(burns61 hD yQ).mono ?_⟩;rintro r U ⟨rfl,h1,h2,h3⟩;have hq:=k U h1 h2 h3;refine⟨D.jg.1,rfl,⟨fun id e=>h2 id (fun e2=>hv (by rw[e,e2])),by omega⟩,?_⟩;by_cases h0:D.jg.1=0
 .rw[h0]at hq⊢;exact .inl ⟨rfl,hq⟩
 .exact .inr ⟨h0,hq⟩
theorem qb(h:bh S D):Quiet S (.func (.func 54) [.ptr D.dp 0 0 4] []) D.eY:=
 ⟨54,_,_,rfl,aR _ rfl,fun T hT=>by
  show ai C1 54 [.ptr D.dp 0 0 4] T _;rw[AD (h.sub hT)];exact⟨rfl,Sub.refl T⟩⟩
theorem vA(h:bh S D){a b:Nat}{name:List Nat}{t t':Nat}{f f':Bool}(ha:S.h.get a=some (.row [.str name] 0 0 f t))(hb:S.h.get b=some (.row [.ptr D.dp 0 0 4] 0 0 f' t'))(hn:∀c,c∈name->c<256)(hl:name.length<=1048576)(hal:a<S.next)(tz:b<S.next):
  Quiet S (.func (.func 126) [] [.ptr a 0 0 1,.ptr b 0 0 1]) (D.ay name):=
 ⟨126,_,_,rfl,aR _ rfl,fun T hT=>there92 (h.sub hT) ((hT.h a hal).trans ha) ((hT.h b tz).trans hb) hn hl (Nat.lt_of_lt_of_le hal hT.next) (Nat.lt_of_lt_of_le tz hT.next)⟩
theorem quiet91{x y t t':Nat}{f f':Bool}{b:Bool}{e:Int}(hx:S.h.get x=some (.row [.bool b] 0 0 f t))(hy:S.h.get y=some (.row [.int .i64 e] 0 0 f' t'))(hxl:x<S.next)(hyl:y<S.next):Quiet S (.func (.func 124) [] [.ptr x 0 0 1,.ptr y 0 0 1]) (if b then e else 0):=
 ⟨124,_,_,rfl,aR _ rfl,fun T hT=>by
  show ai C1 124 [.ptr x 0 0 1,.ptr y 0 0 1] T _;rw[vr ((hT.h x hxl).trans hx) ((hT.h y hyl).trans hy)];exact⟨rfl,Sub.refl T⟩⟩
def aT:List Int->Int
 |[]=>0
 |e::l=>if e=0 then aT l else e
theorem wP{α β:Type}{r:α->β}:∀{l:List α},(l.map r).Nodup->∀{a b:α},a∈l->b∈l->r a=r b->a=b
 |[],_,_,_,h,_,_=>absurd h (List.not_mem_nil)
 |x::l,hn,a,b,ha,hb,e=>by
  rw[List.map_cons,List.nodup_cons]at hn;rcases List.mem_cons.1 ha with ea|ha'
  .rcases List.mem_cons.1 hb with eb|sQ
   .rw[ea,eb]
   .exact absurd (List.mem_map.2 ⟨b,sQ,by rw[<-e,ea]⟩) hn.1
  .rcases List.mem_cons.1 hb with eb|sQ
   .exact absurd (List.mem_map.2 ⟨a,ha',by rw[e,eb]⟩) hn.1
   .exact wP hn.2 ha' sQ e
def kK(f' g:Fl):Fl:=if g.name=f'.name then f' else g
def Dk.put(D:Dk)(f':Fl):Dk:={D with fs:=D.fs.map (kK f')}
theorem bh.put(h:bh S D){f f':Fl}(hf:f∈D.fs)(hn:f'.name=f.name)(hi:f'.id=f.id)(dc:T.h.get f.id=some (.row [f'.w,.int .i64 f'.iB] 0 0 false 132))(hgw:Gw T f'.w 1 5 f'.bs)
  (hw:aB f'.w=aB f.w\/S.next<aB f'.w\/aB f'.w=0) (hs:∀id,id<S.next->id≠f.id->aB f.w≠id+1->T.h.get id=S.h.get id) (hx:S.next<=T.next):bh T (D.put f'):=by
 have hd:∀{g},g∈D.fs->g.name=f'.name->g=f:=fun hg e=>wP h.names hg hf (e.trans hn);have bY:∀{g},g∈D.fs->g≠f->g.id≠f.id/\f.id≠g.id/\(aB f.w=0\/aB f.w≠aB g.w)/\(aB g.w=0\/aB g.w≠aB f.w):=by
  intro g hg hgf;have key:∀l:List Fl,l.Pairwise (fun f g=>f.id≠g.id/\(aB f.w=0\/aB f.w≠aB g.w))->g∈l->f∈l->(g.id≠f.id/\(aB g.w=0\/aB g.w≠aB f.w))\/(f.id≠g.id/\(aB f.w=0\/aB f.w≠aB g.w)):=by
   intro l
   induction l with
   |nil=>intro _ h1 _;exact absurd h1 (List.not_mem_nil)
   |cons x l ih=>
    intro hp h1 h2;obtain⟨p1,p2⟩:=List.pairwise_cons.1 hp;rcases List.mem_cons.1 h1 with e1|vL
    .rcases List.mem_cons.1 h2 with e2|rH
     .exact absurd (e1.trans e2.symm) hgf
     .exact .inl (by rw[e1];exact p1 f rH)
    .rcases List.mem_cons.1 h2 with e2|rH
     .exact .inr (by rw[e2];exact p1 g vL)
     .exact ih p2 vL rH
  rcases key _ h.apart hg hf with⟨a,b⟩|⟨a,b⟩
  .refine⟨a,Ne.symm a,?_,b⟩;rcases b with b|b
   .by_cases e:aB f.w=0
    .exact .inl e
    .exact .inr (fun e2=>e (by rw[e2,b]))
   .exact .inr (Ne.symm b)
  .refine⟨Ne.symm a,a,b,?_⟩;rcases b with b|b
   .by_cases e:aB g.w=0
    .exact .inl e
    .exact .inr (fun e2=>e (by rw[e2,b]))
   .exact .inr (Ne.symm b)
 have hold:∀{g},g∈D.fs->aB g.w<=S.next:=fun hg=>(h.gw _ hg).1.old
 have im:∀{g'},g'∈(D.put f').fs->g'=f'\/(g'∈D.fs/\g'≠f):=by
  intro g' xv;obtain⟨g,hg,rfl⟩:=List.mem_map.1 xv;unfold kK;by_cases e:g.name=f'.name
  .rw[if_pos e];exact .inl rfl
  .rw[if_neg e];exact .inr ⟨hg,fun e2=>e (by rw[e2,hn])⟩
 have hwf:∀{g},g∈D.fs->g≠f->(aB f'.w=0\/aB f'.w≠aB g.w)/\(aB g.w=0\/aB g.w≠aB f'.w):=by
  intro g hg hgf;obtain⟨_,_,a,b⟩:=bY hg hgf;have:=hold hg;rcases hw with e|e|e
  .rw[e];exact⟨a,b⟩
  .exact⟨.inr (by omega),.inr (by omega)⟩
  .exact⟨.inl e,by by_cases e2:aB g.w=0;exact .inl e2;exact .inr (by rw[e];exact e2)⟩
 have hwx:∀{id},id<S.next->aB f.w≠id+1->aB f'.w≠id+1:=by
  intro id hl cS;rcases hw with e|e|e
  .rw[e];exact cS
  .omega
  .omega
 have hdm:T.h.get D.mi=S.h.get D.mi:=hs _ h.mlt (Ne.symm (h.fid f hf).2) (h.wid f hf).2.1;have hpm:(D.put f').fs.map Fl.p=D.fs.map Fl.p:=by
  show (D.fs.map (kK f')).map Fl.p=_;rw[List.map_map];refine List.map_congr_left fun g hg=>?_;show Fl.p (kK f' g)=_;unfold kK;by_cases e:g.name=f'.name
  .rw[if_pos e,hd hg e];show (f'.name,AV.ptr f'.id 0 0 2)=(f.name,AV.ptr f.id 0 0 2);rw[hn,hi]
  .rw[if_neg e]
 refine⟨?_,Nat.lt_of_lt_of_le h.CU hx,Nat.lt_of_lt_of_le h.mlt hx,?_,fun g' xv=>?_,fun g' xv=>?_,fun g' xv=>?_,?_,h.dm,fun g' xv=>?_,fun g' xv=>?_,?_,?nl⟩
 case nl=>
  intro g' xv;rcases im xv with rfl|⟨a,_⟩
  .rw[hn];exact h.wQ f hf
  .exact h.wQ _ a
 .show T.h.get D.dp=_;rw[hs _ h.CU (Ne.symm (h.fid f hf).1) (h.wid f hf).1];exact h.row
 .rw[hpm];exact h.map.agree hdm
 .rcases im xv with rfl|⟨hg,hgf⟩
  .rw[hi];exact dc
  .rw[hs _ (h.CS g' hg) (bY hg hgf).1 ((h.wid f hf).2.2 g' hg)];exact h.xC g' hg
 .rcases im xv with rfl|⟨hg,hgf⟩
  .rw[hi];exact Nat.lt_of_lt_of_le (h.CS f hf) hx
  .exact Nat.lt_of_lt_of_le (h.CS g' hg) hx
 .rcases im xv with rfl|⟨hg,hgf⟩
  .exact hgw
  .refine (h.gw g' hg).agree (fun id e=>hs id (by have:=hold hg;omega) (fun e2=>?_) (fun e2=>?_)) hx
   .exact (h.wid g' hg).2.2 f hf (by rw[e,e2])
   .rcases (bY hg hgf).2.2.2 with q|q
    .omega
    .exact q (by rw[e,e2])
 .have:(D.put f').fs.map (·.name)=D.fs.map (·.name):=by
   have e:=congrArg (List.map Prod.fst) hpm;simpa[List.map_map,Function.comp_def,Fl.p]using e
  rw[this];exact h.names
 .rcases im xv with rfl|⟨hg,hgf⟩
  .rw[hi];exact h.fid f hf
  .exact h.fid g' hg
 .rcases im xv with rfl|⟨hg,hgf⟩
  .refine⟨hwx h.CU (h.wid f hf).1,hwx h.mlt (h.wid f hf).2.1,fun k hk=>?_⟩;rcases im hk with rfl|⟨hk,hkf⟩
   .rw[hi];exact hwx (h.CS f hf) ((h.wid f hf).2.2 f hf)
   .exact hwx (h.CS k hk) ((h.wid f hf).2.2 k hk)
  .refine⟨(h.wid g' hg).1,(h.wid g' hg).2.1,fun k hk=>?_⟩;rcases im hk with rfl|⟨hk,hkf⟩
   .rw[hi];exact (h.wid g' hg).2.2 f hf
   .exact (h.wid g' hg).2.2 k hk
 .show (D.fs.map (kK f')).Pairwise _;rw[List.pairwise_map];refine h.apart.imp_of_mem fun {a b} ha hb hr=>?_;unfold kK;by_cases ea:a.name=f'.name
  .obtain rfl:=hd ha ea;rw[if_pos ea];by_cases eb:b.name=f'.name
   .obtain rfl:=hd hb eb;exact absurd rfl hr.1
   .have hbf:b≠a:=fun e=>eb (by rw[e,hn]);rw[if_neg eb,hi];exact⟨(bY hb hbf).2.1,(hwf hb hbf).1⟩
  .have haf:a≠f:=fun e=>ea (by rw[e,hn]);rw[if_neg ea];by_cases eb:b.name=f'.name
   .obtain rfl:=hd hb eb;rw[if_pos eb,hi];exact⟨hr.1,(hwf ha haf).2⟩
   .rw[if_neg eb];exact hr
end
section
variable{S T U:AS}{D D':Dk}{v:AV}{Q:Int->AS->Prop}
def Dk.aU(D:Dk)(es:List Int):Int×Dk:=if aT es=0 then D.jg else (aT es,D)
structure Kd(D:Dk)(S U:AS):Prop where
 h:∀id,id<S.next->id≠D.dp->U.h.get id=S.h.get id
 next:S.next<=U.next
theorem pQ(h:bh S D)(yQ:D.dQ<9223372036854775808)(hv:aB v<=S.next)(hvd:aB v≠D.dp+1):∀(qs:List (AV×Int)),(∀p,p∈qs->Quiet S p.1 p.2)->∀T,Sub S T ->
  (∀U,bh U (D.aU (qs.map (·.2))).2->Kd D S U->Q (D.aU (qs.map (·.2))).1 U)->CL v (qs.map (·.1)++[.func (.func 63) [.ptr D.dp 0 0 4] []]) T Q
 |[],_,T,hT,k=>askP_burn (h.sub hT) yQ hvd fun U h1 h2 h3=>k U h1 ⟨fun id hi hd=>(h2 id hd).trans (hT.h id hi),by rw[h3];exact hT.next⟩
 |p::qs,hq,T,hT,k=>by
  refine nY (hq p (List.mem_cons_self ..)) hT hv (fun h0 U hU=>?_) (fun h0 U hU=>?_)
  .refine pQ h yQ hv hvd qs (fun x hx=>hq x (List.mem_cons_of_mem _ hx)) U hU fun V h1 h2=>?_;have e:D.aU ((p::qs).map (·.2))=D.aU (qs.map (·.2)):=by unfold Dk.aU;rw[List.map_cons,aT,if_pos h0]
   rw[e]at k;exact k V h1 h2
  .have e:D.aU ((p::qs).map (·.2))=(p.2,D):=by
    have e2:aT ((p::qs).map (·.2))=p.2:=by rw[List.map_cons,aT,if_neg h0]
    unfold Dk.aU;rw[e2,if_neg h0]
   rw[e]at k;exact k U (h.sub hU) ⟨fun id hi _=>hU.h id hi,hU.next⟩
def Dk.sync(D:Dk)(name:List Nat):Int×Dk:=
 let r:=D.aU [D.eY,D.ay name]
 if r.1=0 then (0,match r.2.file name with|some f=>r.2.put {f with iB:=f.bs.length}|none=>r.2) else r
theorem nt28:Tryz.f26.ntmps=36:=by kernel_rfl
theorem asks3(h:bh S D)(yQ:D.dQ<9223372036854775808){name:List Nat}(hn:∀c,c∈name->c<256)(hl:name.length<=1048576):
  ∀S2:AS,S2=⟨((S.h.set S.next (.row [.ptr D.dp 0 0 4] 0 0 false 24)).set (S.next+1) (.row [.str name] 0 0 false 9)).set (S.next+1+1) (.row [.func (.func 54) [.ptr D.dp 0 0 4] [],.func (.func 126) [] [.ptr (S.next+1) 0 0 1,.ptr S.next 0 0 1],.func (.func 63) [.ptr D.dp 0 0 4] []] 0 0 false 122),S.next+1+1+1⟩ ->
  ai C1 58 [.slice (S.next+1+1) 0 0 3 3 1 (some 3)] S2 fun r T=>r=.int .i64 (D.aU [D.eY,D.ay name]).1/\bh T (D.aU [D.eY,D.ay name]).2/\Kd D S T:=by
 intro S2 c7;have aP:Sub S S2:=by
  rw[c7];exact ((cf (S:=S) (o:=.row [.ptr D.dp 0 0 4] 0 0 false 24)).set _ _ (Nat.le_succ _) (S.next+1+1) (Nat.le_succ _)).set _ _ (by show S.next<=_;omega) _ (Nat.le_succ _)
 have h2:=h.sub aP;have n2:S2.next=S.next+1+1+1:=by rw[c7]
 have g0:S2.h.get S.next=some (.row [.ptr D.dp 0 0 4] 0 0 false 24):=by rw[c7];exact ((ae _ _ (by omega)).trans (ae _ _ (by omega))).trans (aa _ _ _)
 have g1:S2.h.get (S.next+1)=some (.row [.str name] 0 0 false 9):=by rw[c7];exact (ae _ _ (by omega)).trans (aa _ _ _)
 have g2:S2.h.get (S.next+1+1)=some (.row [.func (.func 54) [.ptr D.dp 0 0 4] [],.func (.func 126) [] [.ptr (S.next+1) 0 0 1,.ptr S.next 0 0 1],.func (.func 63) [.ptr D.dp 0 0 4] []] 0 0 false 122):=by rw[c7];exact aa _ _ _
 have xw:=h.CU;have yS:Sl S2 (.slice (S.next+1+1) 0 0 3 3 1 (some 3)) 1 [.func (.func 54) [.ptr D.dp 0 0 4] [],.func (.func 126) [] [.ptr (S.next+1) 0 0 1,.ptr S.next 0 0 1],.func (.func 63) [.ptr D.dp 0 0 4] []]:=
  ⟨by simp[isSl,eu],by simp[jR,dJ,g2,bt],by simp[sLen],by simp[aB,n2]⟩
 refine (sU (Q:=fun e T=>e=(D.aU [D.eY,D.ay name]).1/\bh T (D.aU [D.eY,D.ay name]).2/\Kd D S T) yS (by simp) ?_).mono ?_
 .refine pQ (S:=S2) (qs:=[(.func (.func 54) [.ptr D.dp 0 0 4] [],D.eY),(.func (.func 126) [] [.ptr (S.next+1) 0 0 1,.ptr S.next 0 0 1],D.ay name)]) h2 yQ (by simp[aB,n2]) (by simp[aB];omega) ?_ S2 (Sub.refl _) ?_
  .intro p hp;simp only[List.mem_cons,List.not_mem_nil,or_false]at hp;rcases hp with rfl|rfl
   .exact qb h2
   .exact vA h2 g1 g0 hn hl (by omega) (by omega)
  .intro U h3 h4;exact⟨rfl,h3,⟨fun id hi hd=>(h4.h id (by have:=aP.next;omega) hd).trans (aP.h id hi),Nat.le_trans aP.next h4.next⟩⟩
 .rintro r T ⟨e,rfl,h1,h2,h3⟩;exact⟨by rw[h1],h2,h3⟩
theorem jf{name:List Nat}{f:Fl}(h:D.file name=some f):f∈D.fs/\f.name=name:=by
 unfold Dk.file at h;exact⟨List.mem_of_find?_eq_some h,by simpa using List.find?_some h⟩
theorem uX{a b:Int}(h:aT [a,b]=0):a=0/\b=0:=by
 unfold aT at h;by_cases ha:a=0
 .rw[if_pos ha]at h;unfold aT at h;by_cases hb:b=0
  .exact⟨ha,hb⟩
  .rw[if_neg hb]at h;exact absurd h hb
 .rw[if_neg ha]at h;exact absurd h ha
theorem fq(es:List Int):(D.aU es).2.fs=D.fs/\(D.aU es).2.dp=D.dp/\(D.aU es).2.mi=D.mi/\(D.aU es).2.q=D.q:=by
 unfold Dk.aU;split
 .exact Cl D
 .exact⟨rfl,rfl,rfl,rfl⟩
theorem jG(es:List Int)(name:List Nat):(D.aU es).2.file name=D.file name:=by
 unfold Dk.file;rw[(fq es).1]
theorem ask_there{name:List Nat}(h:(D.aU [D.eY,D.ay name]).1=0):∃f,D.file name=some f:=by
 unfold Dk.aU at h;have hz:aT [D.eY,D.ay name]=0:=by
  by_cases e:aT [D.eY,D.ay name]=0
  .exact e
  .rw[if_neg e]at h;exact absurd h e
 have h2:=(uX hz).2;unfold Dk.ay at h2;cases hm:kf name with
 |false=>rw[hm]at h2;simp at h2
 |true=>
  rw[hm]at h2;cases hf:D.file name with
  |none=>rw[hf]at h2;simp at h2
  |some f=>exact⟨f,rfl⟩
theorem nc(es:List Int){id:Nat}:((D.aU es).2).bB id↔D.bB id:=by
 unfold Dk.bB;rw[(fq es).1,(fq es).2.1,(fq es).2.2.1]
theorem DW{f':Fl}{id:Nat}(h:(D.put f').bB id):D.bB id\/id=f'.id\/aB f'.w=id+1:=by
 rcases h with h|h|⟨g,hg,h⟩
 .exact .inl (.inl h)
 .exact .inl (.inr (.inl h))
 .obtain⟨g0,hg0,rfl⟩:=List.mem_map.1 hg;unfold kK at h;by_cases e:g0.name=f'.name
  .rw[if_pos e]at h;exact .inr h
  .rw[if_neg e]at h;exact .inl (.inr (.inr ⟨g0,hg0,h⟩))
set_option maxRecDepth 20000 in
theorem sync28(h:bh S D)(yQ:D.dQ<9223372036854775808){name:List Nat}(hn:∀c,c∈name->c<256)(hl:name.length<=1048576):
  ai C1 26 [.ptr D.dp 0 0 4,.str name] S fun r T=>r=.int .i64 (D.sync name).1/\bh T (D.sync name).2/\Evo D (D.sync name).2 S T:=by
 obtain ⟨r, T, ⟨rfl, h1, h2⟩, e55⟩ := (asks3 h yQ hn hl _ rfl).ex;have e60 := vt (S := S) (d := D.dp) (name := name);refine aX (cD _) (cG _ rfl) fn28 rfl ok28 (by simp) fun F fL s0 s1 => ?_;rw [nt28] at fL;have iY : ∀ (F : Fr) (B : Nat) (x0 x1 x2 : Tmp), sl F x0 = .func (.func 54) [.ptr D.dp 0 0 4] [] → sl F x1 = .func (.func 126) [] [.ptr (S.next + 1) 0 0 1, .ptr S.next 0 0 1] → sl F x2 = .func (.func 63) [.ptr D.dp 0 0 4] [] →
   aA C1 F B (.buildSlice 193 3 #[(0,.tmp x0),(1,.tmp x1),(2,.tmp x2)])=some (.slice B 0 0 3 3 1 (some 3),.row [.func (.func 54) [.ptr D.dp 0 0 4] [],.func (.func 126) [] [.ptr (S.next+1) 0 0 1,.ptr S.next 0 0 1],.func (.func 63) [.ptr D.dp 0 0 4] []] 0 0 false 122):=by
  intro F B x0 x1 x2 a0 a1 a2;have:=ck (cx:=C1) (F:=F) (t:=193) (p:=(122,1,8)) (id:=B) (n:=3) (a:=#[(0,.tmp x0),(1,.tmp x1),(2,.tmp x2)]) [[.func (.func 54) [.ptr D.dp 0 0 4] []],[.func (.func 126) [] [.ptr (S.next+1) 0 0 1,.ptr S.next 0 0 1]],[.func (.func 63) [.ptr D.dp 0 0 4] []]] st122 rfl (by simp[aJ,a0,a1,a2,cellsOf]) (by simp) (by decide);simpa using this
 unfold Dk.sync;by_cases h0:(D.aU [D.eY,D.ay name]).1=0
 .obtain⟨f,hf⟩:=ask_there h0;obtain⟨BR,EI⟩:=jf hf;have hf1:(D.aU [D.eY,D.ay name]).2.file name=some f:=by rw[jG];exact hf
  obtain⟨D1,hD1⟩:∃D1,D1=(D.aU [D.eY,D.ay name]).2:=⟨_,rfl⟩
  have jV:=(fq (D:=D) [D.eY,D.ay name])
  rw[<-hD1]at jV h1 hf1;have iZ:∀id,D1.bB id↔D.bB id:=fun id=>by rw[hD1];exact nc _
  have hr:=h1.row;have lk:=h1.lookup name;rw[hf1]at lk;rw[jV.2.1,jV.2.2.1]at hr;rw[jV.2.2.1]at lk;have pE:f∈D1.fs:=by rw[jV.1];exact BR
  have fr:=h1.xC f pE;have gw:=h1.gw f pE;have w1:=gw.1.sl;have w2:=gw.1.fC;have wk:okW f.w=true:=lr gw.1.ok;simp only[]at lk;simp[s0,s1,aR,e60,iY,e55,h0];refine cO [.p,.p,.p,.r 0 0,.p,.r 0 0,.p,.p,.p,.r 0 0,.p,.r 0 0,.p,.p,.r 0 0,.r 0 0,.p,.p,.e []] (n:=36) (by kernel_rfl) (by simp[fL]) ?_;simp[s0,s1,hr,lk,fr,w1,w2,wk];rw[<-hD1,hf1];refine⟨h1.put (f':=⟨f.name,f.id,f.w,f.bs,f.bs.length⟩) pE rfl rfl (aa _ _ _) (gw.agree (fun id e=>ae _ _ (fun e2=>(h1.wid f pE).2.2 f pE (by rw[e,e2]))) (Nat.le_refl _)) (.inl rfl) (fun id _ cS _=>ae _ _ cS) (Nat.le_refl _),⟨fun id hi hd=>?_,h2.next,fun id hi hd=>?_⟩⟩
  .refine (ae _ _ (fun e=>hd (.inr (.inr ⟨f,BR,.inl e⟩)))).trans (h2.h id hi (fun e=>hd (.inl e)))
  .rcases DW hd with hd|hd|hd
   .exact (iZ id).1 hd
   .exact .inr (.inr ⟨f,BR,.inl hd⟩)
   .exact .inr (.inr ⟨f,BR,.inr hd⟩)
 .simp[s0,s1,aR,e60,iY,e55,h0];exact⟨h1,⟨fun id hi hd=>h2.h id hi (fun e=>hd (.inl e)),h2.next,fun id hi hd=>(nc _).1 hd⟩⟩
end
section
variable{S T U:AS}{D D':Dk}{v:AV}{Q:Int->AS->Prop}
theorem delete_b{cx:Am.Cx}{S:AS}{t:TypeId}{ts:List TypeId}{x k:AV}:bg cx S .delete (t::ts) [x,k]=dN (qA cx S t x k) 16:=rfl
def uz:List Fl->List Nat->List Fl
 |[],_=>[]
 |f::l,s=>if s=f.name then l else f::uz l s
theorem Fe(s:List Nat):∀l:List Fl,(uz l s).map Fl.p=wU (l.map Fl.p) s
 |[]=>rfl
 |f::l=>by
  have ih:=Fe s l;by_cases h:s=f.name
  .simp[uz,wU,Fl.p,h]
  .simp[uz,wU,Fl.p,h];exact ih
theorem sZ(s:List Nat):∀l:List Fl,(uz l s).Sublist l
 |[]=>List.Sublist.refl _
 |f::l=>by
  unfold uz;split
  .exact List.sublist_cons_self f l
  .exact List.Sublist.cons_cons f (sZ s l)
def Dk.del(D:Dk)(name:List Nat):Dk:={D with fs:=uz D.fs name}
def Dk.remove(D:Dk)(name:List Nat):Int×Dk:=
 let r:=D.aU [D.eY,D.ay name]
 if r.1=0 then (0,r.2.del name) else r
end
section
variable{S T U:AS}{D D':Dk}{v:AV}{Q:Int->AS->Prop}
def Dk.sorted(D:Dk):List (List Nat):=(D.fs.map (·.name)).mergeSort leS
theorem str_inj:∀l m:List (List Nat),l.map AV.str=m.map AV.str->l=m
 |[],[],_=>rfl
 |[],_::_,h=>by cases h
 |_::_,[],h=>by cases h
 |a::l,b::m,h=>by
  simp only[List.map_cons,List.cons.injEq,AV.str.injEq]at h;rw[h.1,str_inj l m h.2]
theorem keys_ent{es:List dg}{fs:List Fl}(h:es.map (fun e=>(e.key,e.val))=(fs.map Fl.p).map fun p=>(AV.str p.1,p.2)):(∀e,e∈es->e.key=.str (pz e))/\es.map pz=fs.map (·.name)/\es.length=fs.length:=by
 have h1:es.map (·.key)=fs.map fun f=>AV.str f.name:=by
  have e:=congrArg (List.map Prod.fst) h;simpa[List.map_map,Function.comp_def,Fl.p]using e
 have h2:∀e,e∈es->e.key=.str (pz e):=by
  intro e he;have:e.key∈fs.map fun f=>AV.str f.name:=by rw[<-h1];exact List.mem_map.2 ⟨e,he,rfl⟩
  obtain⟨f,_,hf⟩:=List.mem_map.1 this;unfold pz;rw[<-hf]
 refine⟨h2,?_,by have:=congrArg List.length h1;simpa using this⟩;have h3:(es.map pz).map AV.str=(fs.map (·.name)).map AV.str:=by
  rw[List.map_map,List.map_map];show es.map (fun e=>AV.str (pz e))=_;rw[<-show es.map (·.key)=es.map (fun e=>AV.str (pz e)) from List.map_congr_left h2,h1];rfl
 exact str_inj _ _ h3
theorem names23(h:bh S D)(hsm:D.fs.length<=1048576)(yO:D.off=false):ai C1 16 [.ptr D.dp 0 0 4] S fun v T=>Sl T v 1 (lR D.sorted)/\Sub S T:=by
 obtain⟨es,clock,m1,m2,m3⟩:=h.map;obtain⟨k1,k2,k3⟩:=keys_ent m2;have hr:=h.row;have se:=h.mlt;obtain⟨T1,iP⟩:∃T1:AS,T1=⟨S.h.set S.next (.row [.map D.mi] 0 0 false 127),S.next+1⟩:=⟨_,rfl⟩
 have gA:Sub S T1:=by rw[iP];exact cf
 have n1:T1.next=S.next+1:=by rw[iP]
 have hQ:Q55 [.func (.func 123) [] [.ptr S.next 0 0 1]] T1 es:=⟨S.next,D.mi,clock,rfl,by rw[iP];exact aa _ _ _,(gA.h _ se).trans m1,m3,fun e he=>⟨k1 e he,by
  have:pz e∈D.fs.map (·.name):=by rw[<-k2];exact List.mem_map.2 ⟨e,he,rfl⟩
  obtain⟨f,hf,q⟩:=List.mem_map.1 this;rw[<-q];exact h.wQ f hf⟩,by rw[k2];exact h.names,by rw[k3];exact hsm⟩
 have hq:=q55_of hQ;have ua:iV es=D.sorted:=by unfold iV Dk.sorted;rw[k2]
 rw[ua]at hq;have e63:∀Q:AV->AS->Prop,ai C1 56 [.map D.mi] S Q=Q (.func (.func 123) [] [.ptr S.next 0 0 1]) T1:=fun Q=>by
  refine ai.eq (aK (cD _) (cG _ rfl) fn63 rfl ok63 (by simp) fun F hn s0=>?_);simp[s0];exact iP.symm
 have hans:D.eY=0:=by unfold Dk.eY;rw[yO];rfl
 have e56:=fun Q=>AD h (Q:=Q);rw[hans]at e56;have fin:∀(v:AV)(T:AS),zK T1 D.sorted=(v,T)->Sl T v 1 (lR D.sorted)/\Sub S T/\bE v=false:=by
  intro v T e;unfold zK at e;cases hl:D.sorted with
  |nil=>
   rw[hl]at e;cases e;exact⟨Sl.nil,gA,rfl⟩
  |cons x l=>
   rw[hl]at e;cases e;refine⟨⟨by simp[isSl,eu],?_,by simp[sLen,lR],by simp[aB]⟩,⟨fun id bY=>(ae _ _ (by omega)).trans (gA.h id bY),by show S.next<=T1.next+1;omega⟩,rfl⟩;simp[jR,dJ,aa,bt,lR];rw[List.take_of_length_le (by rw[List.length_map];exact Nat.le_refl _)]
 obtain⟨v,T,hvT⟩:∃v T,zK T1 D.sorted=(v,T):=⟨_,_,rfl⟩
 obtain⟨f1,f2,f3⟩:=fin v T hvT;rw[hvT]at hq;have e62:∀Q:AV->AS->Prop,ai C1 55 [.func (.func 123) [] [.ptr S.next 0 0 1]] T1 Q=Q v T:=fun Q=>lH (q:=q55) get62 (cD _) hq f3;refine aK (cD _) (cG _ rfl) fn23 rfl ok23 (by simp) fun F hn s0=>?_;simp[s0,aR,e56,hr,e63,e62];exact⟨f3,f1,f2⟩
def Dk.used(D:Dk):Nat:=(D.fs.map fun f=>f.bs.length).sum
def Dk.sizeOf(D:Dk)(name:List Nat):Nat:=match D.file name with|some f=>f.bs.length|none=>0
theorem uv(h:(D.fs.map (·.name)).Nodup){f:Fl}(hf:f∈D.fs):D.file f.name=some f:=by
 unfold Dk.file;cases hx:D.fs.find? (fun g=>g.name==f.name)with
 |none=>
  have:=List.find?_eq_none.1 hx f hf;simp at this
 |some g=>
  have h1:=List.mem_of_find?_eq_some hx;have h2:g.name=f.name:=by simpa using List.find?_some hx
  rw[wP h h1 hf h2]
theorem sum_perm{l m:List Nat}(h:l.Perm m):l.sum=m.sum:=by
 induction h with
 |nil=>rfl
 |cons x _ ih=>simp[ih]
 |swap x y l=>simp;omega
 |trans _ _ ih1 ih2=>exact ih1.trans ih2
theorem Db(h:(D.fs.map (·.name)).Nodup):(D.sorted.map D.sizeOf).sum=D.used:=by
 have h1:D.sorted.Perm (D.fs.map (·.name)):=List.mergeSort_perm _ _;rw[sum_perm (h1.map D.sizeOf),List.map_map];unfold Dk.used;congr 1;refine List.map_congr_left fun f hf=>?_;show D.sizeOf f.name=_;unfold Dk.sizeOf;rw[uv h hf]
theorem Dg(l:List Nat)(i:Nat):(l.take i).sum<=l.sum:=by
 conv=>rhs;rw[<-List.take_append_drop i l]
 rw[List.sum_append];omega
theorem nt80:Tryz.f66.ntmps=27:=by kernel_rfl
def usedH(T:AS)(D:Dk)(v:AV)(k:Nat)(F':Fr)(S':AS):Prop:=
 ∃i:Nat,S'=T/\sl F' 0=.ptr D.dp 0 0 4/\sl F' 3=.int .i64 (((D.sorted.map D.sizeOf).take i).sum:Nat)/\sl F' 7=v/\sl F' 8=.int .i64 D.sorted.length/\sl F' 9=.int .i64 i/\i<=D.sorted.length/\F'.n=27/\k=D.sorted.length-i
theorem Dc{T:AS}{D:Dk}{v:AV}{k:Nat}{F':Fr}(i:Nat)(h1:sl F' 0=.ptr D.dp 0 0 4)(h2:sl F' 3=.int .i64 (((D.sorted.map D.sizeOf).take i).sum:Nat))(h3:sl F' 7=v)(h4:sl F' 8=.int .i64 D.sorted.length)(h5:sl F' 9=.int .i64 i)(h6:i<=D.sorted.length)(h7:F'.n=27)(h8:k=D.sorted.length-i):usedH T D v k F' T:=
 ⟨i,rfl,h1,h2,h3,h4,h5,h6,h7,h8⟩
set_option maxRecDepth 20000 in
theorem used80(h:bh S D)(hsm:D.fs.length<=1048576)(hu:D.used<=1099511627776)(yO:D.off=false):ai C1 66 [.ptr D.dp 0 0 4] S fun r T=>r=.int .i64 D.used/\Sub S T:=by
 obtain⟨v,T,⟨hv,hT⟩,e23⟩:=(names23 h hsm yO).ex;have hD:=h.sub hT;have hus:=Db h.names;have yM:D.sorted.length=D.fs.length:=by unfold Dk.sorted;rw[List.length_mergeSort,List.length_map]
 have u1:=hv.sl;have u2:sLen v=D.sorted.length:=by rw[hv.fC];simp[lR]
 refine aK (cD _) (cG _ rfl) fn80 rfl ok80 (by simp) fun F hn s0=>?_;rw[nt80]at hn;simp[s0,aR,e23,u1,u2];refine aH (usedH T D v) D.sorted.length (Dc 0 (by simp[s0]) (by simp) (by simp) (by simp[u2]) (by simp) (Nat.zero_le _) (by simp[hn]) rfl) ?_;clear s0 hn;rintro k F' S' fL ⟨i,rfl,s0,s3,s7,s8,s9,hi,hn,hk⟩;clear fL;by_cases cQ:i<D.sorted.length
 .have hx:D.sorted[i]?=some D.sorted[i]:=List.getElem?_eq_getElem cQ;obtain⟨nm,hnm⟩:∃nm,nm=D.sorted[i]:=⟨_,rfl⟩
  rw[<-hnm]at hx;have vj:nm∈D.fs.map (·.name):=(List.mergeSort_perm _ _).mem_iff.1 (show nm∈D.sorted by rw[hnm];exact List.getElem_mem cQ);obtain⟨f,hf,EI⟩:=List.mem_map.1 vj;have hfile:D.file nm=some f:=by rw[<-EI];exact uv h.names hf
  have hl:=fQ (cx:=C1) (e:=9) (k:=i) hv (x:=.str nm) (by unfold lR;rw[List.getElem?_map,hx];rfl) ag9;have hr:=hD.row;have lk:=hD.lookup nm;rw[hfile]at lk;have fr:=hD.xC f hf;have gw:=(hD.gw f hf).1;have w1:=gw.sl;have w2:=gw.fC;simp only[]at lk;have xk:((D.sorted.map D.sizeOf).take (i+1)).sum=((D.sorted.map D.sizeOf).take i).sum+f.bs.length:=by
   rw[List.take_add_one,List.sum_append,List.getElem?_map,hx];simp[Dk.sizeOf,hfile]
  have hle:=Dg (D.sorted.map D.sizeOf) (i+1);rw[hus,xk]at hle;obtain⟨m,hm⟩:∃m,m=((D.sorted.map D.sizeOf).take i).sum:=⟨_,rfl⟩
  rw[<-hm]at s3 xk hle;have hw:=IntWalk.i64_in ((m:Int)+(f.bs.length:Int)) (by omega);have kh:=IntWalk.i64_in ((i:Int)+1) (by omega);have jC:(i:Int)<D.sorted.length:=by omega
  simp[s0,s3,s7,s8,s9,cQ,jC,hl,u1,u2,hr,lk,fr,w1,w2,hw,kh];exact⟨D.sorted.length-(i+1),by omega,Dc (i+1) (by simp[s0]) (by rw[xk];simp) (by simp[s7]) (by simp[s8]) (by simp) (by omega) (by simp[hn]) rfl⟩
 .have:i=D.sorted.length:=by omega
  subst this;rw[List.take_of_length_le (by simp),hus]at s3;simp[s0,s3,s7,s8,s9];exact hT
end
section
variable{S T U:AS}{D D':Dk}{v:AV}{Q:Int->AS->Prop}
def Dk.fR(D:Dk)(n:Nat):Int:=if (D.q:Int)-D.used<n then 7 else 0
theorem ask_off(h:bh S D)(yO:D.off=true)(hv:aB v<=S.next){l:List AV}(hT:Sub S T)(k:∀U,Sub S U->Q 8 U):CL v (.func (.func 54) [.ptr D.dp 0 0 4] []::l) T Q:=by
 have ha:D.eY=8:=by unfold Dk.eY;rw[yO];rfl
 have hq:=qb h;rw[ha]at hq;exact nY hq hT hv (fun e=>by cases e) (fun _ U hU=>k U hU)
set_option maxRecDepth 20000 in
theorem full79(h:bh S D)(hsm:D.fs.length<=1048576)(hu:D.used<=1099511627776)(hq:D.q<=1099511627776)(yO:D.off=false){x y:Nat}{b:AV}{bs:List AV}{t t':Nat}{f f':Bool}(hx:S.h.get x=some (.row [b] 0 0 f t))(hy:S.h.get y=some (.row [.ptr D.dp 0 0 4] 0 0 f' t'))(hxl:x<S.next)(hyl:y<S.next)(hb:Sl S b 1 bs):
  ai C1 65 [.ptr x 0 0 1,.ptr y 0 0 1] S fun r T=>r=.int .i64 (D.fR bs.length)/\Sub S T:=by
 obtain⟨r,T,⟨rfl,hT⟩,e80⟩:=(used80 h hsm hu yO).ex;have hr:=h.row;have u1:=hb.sl;have u2:=hb.fC;have wk:okW b=true:=lr hb.ok;have hrT:=(h.sub hT).row;have hyT:=(hT.h y hyl).trans hy;have hw:=IntWalk.i64_in ((D.q:Int)-(D.used:Int)) (by omega);obtain⟨bb,sf⟩:∃bb:Bool,bb=decide ((D.q:Int)-D.used<bs.length):=⟨_,rfl⟩
 have hfe:D.fR bs.length=if bb then 7 else 0:=by unfold Dk.fR;rw[sf];by_cases e:(D.q:Int)-D.used<bs.length<;>simp[e]
 rw[hfe];obtain⟨T2,ie⟩:∃T2:AS,T2=⟨(T.h.set T.next (.row [.bool bb] 0 0 false 4)).set (T.next+1) (.row [.int .i64 7] 0 0 false 42),T.next+2⟩:=⟨_,rfl⟩
 have yW:=sh (S:=T) (b:=bb) (e:=7);rw[<-ie]at yW;have lE:Sub T T2:=by rw[ie];exact (cf (S:=T)).set _ _ (Nat.le_succ _) (T.next+2) (by show T.next+1<=_;omega)
 have CT:=fun Q=>vr (S:=T2) (x:=T.next) (y:=T.next+1) (b:=bb) (e:=7) (Q:=Q) (by rw[ie];exact (ae _ _ (by omega)).trans (aa _ _ _)) (by rw[ie];exact aa _ _ _);refine cl (cD _) (cG _ rfl) fn79 rfl ok79 (by simp) fun F hn hs=>?_;have nt79:Tryz.f65.ntmps=15:=by kernel_rfl
 rw[nt79]at hn;have s0:=hs 0;have s1:=hs 1;clear hs;simp only[List.getElem?_cons_zero,List.getElem?_cons_succ,Option.getD_some]at s0 s1;simp;refine cO [.r 0 1,.r 0 1,.r 0 1,.p,.p,.r 0 1,.r 0 0,.e [],.p,.p,.e [],.e [],.p] (n:=15) (by kernel_rfl) (by simp[hn]) ?_;have hxT:=(hT.h x hxl).trans hx;simp[s0,s1,hx,hy,hr,hxT,hyT,hrT,u1,u2,wk,aR,e80,hw,<-sf,yW,CT];exact hT.trans lE
theorem asks4(h:bh S D)(yQ:D.dQ<9223372036854775808){name:List Nat}(hn:∀c,c∈name->c<256)(hl:name.length<=1048576){g:AV}{eg:Int}:
  ∀S2:AS,S2=⟨((S.h.set S.next (.row [.ptr D.dp 0 0 4] 0 0 false 24)).set (S.next+1) (.row [.str name] 0 0 false 9)).set (S.next+1+1) (.row [.func (.func 54) [.ptr D.dp 0 0 4] [],.func (.func 126) [] [.ptr (S.next+1) 0 0 1,.ptr S.next 0 0 1],g,.func (.func 63) [.ptr D.dp 0 0 4] []] 0 0 false 122),S.next+1+1+1⟩ ->
  (Sub S S2->D.off=false->Quiet S2 g eg) ->
  ai C1 58 [.slice (S.next+1+1) 0 0 4 4 1 (some 4)] S2 fun r T=>r=.int .i64 (D.aU [D.eY,D.ay name,eg]).1/\bh T (D.aU [D.eY,D.ay name,eg]).2/\Kd D S T:=by
 intro S2 c7 hg;have aP:Sub S S2:=by
  rw[c7];exact ((cf (S:=S) (o:=.row [.ptr D.dp 0 0 4] 0 0 false 24)).set _ _ (Nat.le_succ _) (S.next+1+1) (Nat.le_succ _)).set _ _ (by show S.next<=_;omega) _ (Nat.le_succ _)
 have h2:=h.sub aP;have n2:S2.next=S.next+1+1+1:=by rw[c7]
 have g0:S2.h.get S.next=some (.row [.ptr D.dp 0 0 4] 0 0 false 24):=by rw[c7];exact ((ae _ _ (by omega)).trans (ae _ _ (by omega))).trans (aa _ _ _)
 have g1:S2.h.get (S.next+1)=some (.row [.str name] 0 0 false 9):=by rw[c7];exact (ae _ _ (by omega)).trans (aa _ _ _)
 have g2:S2.h.get (S.next+1+1)=some (.row [.func (.func 54) [.ptr D.dp 0 0 4] [],.func (.func 126) [] [.ptr (S.next+1) 0 0 1,.ptr S.next 0 0 1],g,.func (.func 63) [.ptr D.dp 0 0 4] []] 0 0 false 122):=by rw[c7];exact aa _ _ _
 have xw:=h.CU;have yS:Sl S2 (.slice (S.next+1+1) 0 0 4 4 1 (some 4)) 1 [.func (.func 54) [.ptr D.dp 0 0 4] [],.func (.func 126) [] [.ptr (S.next+1) 0 0 1,.ptr S.next 0 0 1],g,.func (.func 63) [.ptr D.dp 0 0 4] []]:=
  ⟨by simp[isSl,eu],by simp[jR,dJ,g2,bt],by simp[sLen],by simp[aB,n2]⟩
 refine (sU (Q:=fun e T=>e=(D.aU [D.eY,D.ay name,eg]).1/\bh T (D.aU [D.eY,D.ay name,eg]).2/\Kd D S T) yS (by simp) ?_).mono ?_
 .cases ho:D.off with
  |true=>
   have ha:D.eY=8:=by unfold Dk.eY;rw[ho];rfl
   have hb:D.aU [D.eY,D.ay name,eg]=(8,D):=by unfold Dk.aU;rw[ha];rfl
   refine ask_off h2 ho (by simp[aB,n2]) (Sub.refl _) fun U hU=>?_;rw[hb];exact⟨rfl,h.sub (aP.trans hU),⟨fun id hi _=>(aP.trans hU).h id hi,(aP.trans hU).next⟩⟩
  |false=>
   refine pQ (S:=S2) (qs:=[(.func (.func 54) [.ptr D.dp 0 0 4] [],D.eY),(.func (.func 126) [] [.ptr (S.next+1) 0 0 1,.ptr S.next 0 0 1],D.ay name),(g,eg)]) h2 yQ (by simp[aB,n2]) (by simp[aB];omega) ?_ S2 (Sub.refl _) ?_
   .intro p hp;simp only[List.mem_cons,List.not_mem_nil,or_false]at hp;rcases hp with rfl|rfl|rfl
    .exact qb h2
    .exact vA h2 g1 g0 hn hl (by omega) (by omega)
    .exact hg aP ho
   .intro U h3 h4;exact⟨rfl,h3,⟨fun id hi hd=>(h4.h id (by have:=aP.next;omega) hd).trans (aP.h id hi),Nat.le_trans aP.next h4.next⟩⟩
 .rintro r T ⟨e,rfl,h1,h2,h3⟩;exact⟨by rw[h1],h2,h3⟩
def Dk.append(D:Dk)(name:List Nat)(n:Nat):Int:=(D.aU [D.eY,D.ay name,D.fR n]).1
theorem nt41:Tryz.f25.ntmps=40:=by kernel_rfl
theorem B3{F:Fr}{B:Nat}{x0 x1 x2 x3:Tmp}{g0 g1 g2 g3:Fn}{a0 b0 a1 b1 a2 b2 a3 b3:List AV}(h0:sl F x0=.func g0 a0 b0)(h1:sl F x1=.func g1 a1 b1)(h2:sl F x2=.func g2 a2 b2)(h3:sl F x3=.func g3 a3 b3):
  aA C1 F B (.buildSlice 193 4 #[(0,.tmp x0),(1,.tmp x1),(2,.tmp x2),(3,.tmp x3)])=some (.slice B 0 0 4 4 1 (some 4),.row [.func g0 a0 b0,.func g1 a1 b1,.func g2 a2 b2,.func g3 a3 b3] 0 0 false 122):=by
 have:=ck (cx:=C1) (F:=F) (t:=193) (p:=(122,1,8)) (id:=B) (n:=4) (a:=#[(0,.tmp x0),(1,.tmp x1),(2,.tmp x2),(3,.tmp x3)]) [[.func g0 a0 b0],[.func g1 a1 b1],[.func g2 a2 b2],[.func g3 a3 b3]] st122 rfl (by simp[aJ,h0,h1,h2,h3,cellsOf]) (by simp) (by decide);simpa using this
theorem xX{es:List Int}(h:(D.aU es).1=0):aT es=0:=by
 unfold Dk.aU at h;by_cases e:aT es=0
 .exact e
 .rw[if_neg e]at h;exact absurd h e
theorem rp{name:List Nat}(h:D.ay name=0):∃f,D.file name=some f:=by
 unfold Dk.ay at h;cases hm:kf name with
 |false=>rw[hm]at h;simp at h
 |true=>
  rw[hm]at h;cases hf:D.file name with
  |none=>rw[hf]at h;simp at h
  |some f=>exact⟨f,rfl⟩
theorem fi{a:Int}{l:List Int}(h:aT (a::l)=0):a=0/\aT l=0:=by
 rw[aT]at h;by_cases ha:a=0
 .rw[if_pos ha]at h;exact⟨ha,h⟩
 .rw[if_neg ha]at h;exact absurd h ha
theorem xd{f:Fl}(hf:f∈D.fs):f.bs.length<=D.used:=by
 unfold Dk.used;have key:∀l:List Fl,f∈l->f.bs.length<=(l.map fun f=>f.bs.length).sum:=by
  intro l
  induction l with
  |nil=>intro h;exact absurd h (List.not_mem_nil)
  |cons g l ih=>
   intro h;rw[List.map_cons,List.sum_cons];rcases List.mem_cons.1 h with e|h
   .rw[e];omega
   .have:=ih h;omega
 exact key _ hf
theorem rO{v:AV}{sz:Nat}(h:isSl sz v=true):cellsOf v=some [v]:=by
 cases v<;>first|rfl|(simp[isSl]at h)
set_option maxRecDepth 20000 in
theorem append41(h:bh S D)(yQ:D.dQ<9223372036854775808)(hsm:D.fs.length<=1048576)(hu:D.used<=1099511627776)(hq:D.q<=1099511627776){name:List Nat}(hn:∀c,c∈name->c<256)(hl:name.length<=1048576){b:AV}{bs:List AV}(hb:Sl S b 1 bs)(ue:aB b≠D.dp+1)(tz:bs.length<=1073741824):
  ai C1 25 [.ptr D.dp 0 0 4,.str name,b] S fun r T=>r=.int .i64 (D.append name bs.length)/\∃D',bh T D'/\Evo D D' S T/\((D.append name bs.length≠0/\D'=(D.aU [D.eY,D.ay name,D.fR bs.length]).2) \/
   (D.append name bs.length=0/\∃f w',D.file name=some f/\D'=(D.aU [D.eY,D.ay name,D.fR bs.length]).2.put ⟨f.name,f.id,w',f.bs++bs,f.iB⟩)):=by
 obtain⟨S0,hS0⟩:∃S0:AS,S0=⟨(S.h.set S.next (.row [.ptr D.dp 0 0 4] 0 0 false 24)).set (S.next+1) (.row [b] 0 0 false 32),S.next+1+1⟩:=⟨_,rfl⟩
 have yN:Sub S S0:=by rw[hS0];exact (cf (S:=S)).set _ _ (Nat.le_succ _) (S.next+1+1) (Nat.le_succ _)
 have n0:S0.next=S.next+1+1:=by rw[hS0]
 have b0:S0.h.get S.next=some (.row [.ptr D.dp 0 0 4] 0 0 false 24):=by rw[hS0];exact (ae _ _ (by omega)).trans (aa _ _ _)
 have b1:S0.h.get (S.next+1)=some (.row [b] 0 0 false 32):=by rw[hS0];exact aa _ _ _
 have h0:=h.sub yN;have xw:=h.CU;have hbo:=hb.old;obtain⟨r,T,⟨rfl,h1,h2⟩,e55⟩:=(asks4 h0 yQ hn hl (g:=.func (.func 65) [] [.ptr (S.next+1) 0 0 1,.ptr S.next 0 0 1]) (eg:=D.fR bs.length) _ rfl (fun aP ho=>⟨65,_,_,rfl,aR _ rfl,fun U hU=>by
  have hSU:=yN.trans (aP.trans hU);exact full79 (h.sub hSU) hsm hu hq ho (((aP.trans hU).h _ (by omega)).trans b1) (((aP.trans hU).h _ (by omega)).trans b0) (by have:=(aP.trans hU).next;omega) (by have:=(aP.trans hU).next;omega) (hb.toSub hSU)⟩)).ex
 have e60 := vt (S := S0) (d := D.dp) (name := name);refine uy (cD _) (cG _ rfl) fn41 rfl ok41 (by simp) fun F fL s0 s1 s2 => ?_;rw [nt41] at fL;have iY : ∀ (F : Fr) (B : Nat) (x0 x1 x2 x3 : Tmp), sl F x0 = .func (.func 54) [.ptr D.dp 0 0 4] [] → sl F x1 = .func (.func 126) [] [.ptr (S0.next + 1) 0 0 1, .ptr S0.next 0 0 1] → sl F x2 = .func (.func 65) [] [.ptr (S.next + 1) 0 0 1, .ptr S.next 0 0 1] → sl F x3 = .func (.func 63) [.ptr D.dp 0 0 4] [] →
   aA C1 F B (.buildSlice 193 4 #[(0,.tmp x0),(1,.tmp x1),(2,.tmp x2),(3,.tmp x3)])=some (.slice B 0 0 4 4 1 (some 4),.row [.func (.func 54) [.ptr D.dp 0 0 4] [],.func (.func 126) [] [.ptr (S0.next+1) 0 0 1,.ptr S0.next 0 0 1],.func (.func 65) [] [.ptr (S.next+1) 0 0 1,.ptr S.next 0 0 1],.func (.func 63) [.ptr D.dp 0 0 4] []] 0 0 false 122):=
  fun F B x0 x1 x2 x3 a0 a1 a2 a3=>B3 a0 a1 a2 a3
 have okb:okW b=true:=lr hb.ok;have cb:cellsOf b=some [b]:=rO hb.sl;have bS0:=hS0.symm;simp[s0,s1,s2,cb,bS0];refine cO [.r 0 1,.p,.r 0 0,.p,.e [],.p,.r 1 0,.p,.e [],.e [],.p] (n:=40) (by kernel_rfl) (by simp[fL]) ?_;have b0':∀o:dr,∀o2:dr,∀o3:dr,(((S0.h.set S0.next o).set (S0.next+1) o2).set (S0.next+1+1) o3).get S.next=some (.row [.ptr D.dp 0 0 4] 0 0 false 24):=fun o o2 o3=>((ae _ _ (by omega)).trans (ae _ _ (by omega))).trans ((ae _ _ (by omega)).trans b0)
 have b0'':∀o:dr,∀o2:dr,((S0.h.set S0.next o).set (S0.next+1) o2).get S.next=some (.row [.ptr D.dp 0 0 4] 0 0 false 24):=fun o o2=>(ae _ _ (by omega)).trans ((ae _ _ (by omega)).trans b0)
 have ne1:¬S.next=S0.next:=by omega
 have ne2:¬S.next=S0.next+1:=by omega
 unfold Dk.append;obtain⟨es,hes⟩:∃es,es=[D.eY,D.ay name,D.fR bs.length]:=⟨_,rfl⟩
 rw[<-hes]at h1 e55⊢;have jV:=(fq (D:=D) es)
 have iZ:∀id,(D.aU es).2.bB id↔D.bB id:=fun id=>nc es;have hk:∀id,id<S.next->¬D.bB id->T.h.get id=S.h.get id:=fun id hi hd=>(h2.h id (by omega) (fun e=>hd (.inl e))).trans (yN.h id hi)
 have hnx:S.next<=T.next:=by have:=h2.next;omega
 by_cases hz:(D.aU es).1=0
 .have EB:=xX hz;rw[hes]at EB;obtain⟨f,hf⟩:=rp (fi (fi EB).2).1;obtain⟨BR,EI⟩:=jf hf;have hf1:(D.aU es).2.file name=some f:=by rw[jG];exact hf
  obtain⟨D1,hD1⟩:∃D1,D1=(D.aU es).2:=⟨_,rfl⟩
  rw[<-hD1]at jV h1 hf1 iZ;have hr:=h1.row;have lk:=h1.lookup name;rw[hf1]at lk;rw[jV.2.1,jV.2.2.1]at hr;rw[jV.2.2.1]at lk;simp only[]at lk;have pE:f∈D1.fs:=by rw[jV.1];exact BR
  have fr:=h1.xC f pE;have gw:=h1.gw f pE;have wk:okW f.w=true:=lr gw.1.ok;have hbT:Sl T b 1 bs:=(hb.toSub yN).agree (fun id e=>h2.h id (by omega) (fun e2=>ue (by rw[e,e2]))) (by have:=h2.next;omega);have hlu:=xd BR;have hflen:sLen f.w=f.bs.length:=gw.1.fC;have hbT2:sLen b=bs.length:=hb.fC;obtain⟨w',T2,a1,a2,a3,a4,a5,a6,a7,a8⟩:=rW (cx:=C1) (ts:=[]) (p:=(5,1,1)) (x:=b) (ds:=bs) sq un31 rfl gw (oK hbT) (by rw[hbT2];simp) (by rw[hflen,hbT2];simp[fits,cH];omega);have w1:=a2.1.sl;have wk2:okW w'=true:=lr a2.1.ok;have cb2:cellsOf w'=some [w']:=rO w1;have wid:=h1.wid f pE;have tS0:T.h.get S.next=some (.row [.ptr D.dp 0 0 4] 0 0 false 24):=(h2.h _ (by omega) (by omega)).trans b0
  have tS1:T.h.get (S.next+1)=some (.row [b] 0 0 false 32):=(h2.h _ (by omega) (by omega)).trans b1;have ub:=h1.CS f pE;have hdp:=h1.fid f pE;rw[jV.2.1,jV.2.2.1]at wid hdp;have se:=h1.mlt;rw[jV.2.2.1]at se;have t2b:∀id,id<T.next->aB f.w≠id+1->T2.h.get id=T.h.get id:=fun id hi cS=>a3 id hi (fun e=>cS e.symm)
  have wS0:aB f.w≠S.next+1:=fun e=>by
   rcases gw.2 with q|⟨i,g,off,n,lim,cap,q1,q2,q3,cells,low,top,q4,q5,q6⟩
   .rw[q]at e;simp[aB]at e
   .rw[q1]at e;simp[aB]at e;subst e;rw[tS0]at q4;cases q4
  have wS1:aB f.w≠S.next+1+1:=fun e=>by
   rcases gw.2 with q|⟨i,g,off,n,lim,cap,q1,q2,q3,cells,low,top,q4,q5,q6⟩
   .rw[q]at e;simp[aB]at e
   .rw[q1]at e;simp[aB]at e;subst e;rw[tS1]at q4;cases q4
  have BW:S.next+1+1<=T.next:=by have:=h2.next;omega
  have t2S0:T2.h.get S.next=some (.row [.ptr D.dp 0 0 4] 0 0 false 24):=(t2b _ (by omega) wS0).trans tS0
  have t2S1:T2.h.get (S.next+1)=some (.row [b] 0 0 false 32):=(t2b _ (by omega) wS1).trans tS1;have hr2:=(t2b D.dp (by omega) wid.1).trans hr;have fr2:=(t2b f.id ub (wid.2.2 f pE)).trans fr;have lk2:kN C1 T2 127 (.map D.mi) (.str name) false=some (.ptr f.id 0 0 2):=by
   have CP:=(h1.map.agree (T:=T2) (by rw[jV.2.2.1];exact t2b D.mi se wid.2.1))
   have:=qj (cx:=C1) (t:=127) (k:=name) (ok:=false) mk60 xe (CP.mp (by rw[jV.2.2.1];omega));rw[jV.2.2.1]at this;rw[this,tQ];unfold Dk.file at hf1;rw[hf1];rfl
  simp[s0,s1,s2,b0,b0',b0'',ne1,ne2,aR,e60,iY,e55,hz];refine cO [.r 0 1,.p,.p,.r 0 1,.p,.r 0 1,.r 0 0,.p,.p,.r 0 0,.p,.r 0 0,.p,.p,.r 0 0,.r 0 0,.e [],.p,.p,.e []] (n:=40) (by kernel_rfl) (by simp[fL]) ?_;simp[s0,s1,s2,tS0,tS1,t2S0,t2S1,hr,hr2,lk,lk2,fr,fr2,wk,okb,wk2,cb2,a1];have hwid:aB w'≠f.id+1:=by
   rcases a7 with e|e
   .rw[e];exact wid.2.2 f pE
   .omega
  refine⟨D1.put ⟨f.name,f.id,w',f.bs++bs,f.iB⟩,h1.put (f':=⟨f.name,f.id,w',f.bs++bs,f.iB⟩) pE rfl rfl (aa _ _ _) (a2.agree (fun id e=>ae _ _ (fun e2=>hwid (by rw[e,e2]))) (Nat.le_refl _)) (a7.elim .inl fun e=>.inr (.inl e))
   (fun id hi cS hw=>(ae _ _ cS).trans (t2b id hi hw)) a4,⟨fun id hi hd=>?_,Nat.le_trans hnx a4,fun id hi hd=>?_⟩,f,hf,w',by rw[hD1]⟩
  .exact ((ae _ _ (fun e=>hd (.inr (.inr ⟨f,BR,.inl e⟩)))).trans (t2b id (by omega) (fun e=>hd (.inr (.inr ⟨f,BR,.inr e⟩))))).trans (hk id hi hd)
  .rcases DW hd with hd|hd|hd
   .exact (iZ id).1 hd
   .exact .inr (.inr ⟨f,BR,.inl hd⟩)
   .rcases a7 with e|e
    .exact .inr (.inr ⟨f,BR,.inr (e.symm.trans hd)⟩)
    .have jq:aB w'=id+1:=hd;omega
 .simp[s0,s1,s2,b0,b0',b0'',ne1,ne2,aR,e60,iY,e55,hz];exact⟨h1,⟨hk,hnx,fun id hi hd=>(iZ id).1 hd⟩⟩
end
section
variable{S T U:AS}{D D':Dk}{v:AV}{Q:Int->AS->Prop}
def Dk.isE(D:Dk)(name:List Nat):Int:=if (D.file name).isSome then 9 else 0
def Dk.zR(D:Dk):Int:=if 512<=D.fs.length then 7 else 0
set_option maxRecDepth 20000 in
theorem is109(h:bh S D){x y:Nat}{name:List Nat}{t t':Nat}{f f':Bool}(hx:S.h.get x=some (.row [.ptr D.dp 0 0 4] 0 0 f t))(hy:S.h.get y=some (.row [.str name] 0 0 f' t')):
  ai C1 61 [.ptr x 0 0 1,.ptr y 0 0 1] S fun r T=>r=.int .i64 (D.isE name)/\Sub S T:=by
 have hr:=h.row;have lk:=h.lookup name;obtain⟨bb,sf⟩:∃bb:Bool,bb=(D.file name).isSome:=⟨_,rfl⟩
 obtain⟨T2,ie⟩:∃T2:AS,T2=⟨(S.h.set S.next (.row [.bool bb] 0 0 false 4)).set (S.next+1) (.row [.int .i64 9] 0 0 false 42),S.next+2⟩:=⟨_,rfl⟩
 have yW:=sh (S:=S) (b:=bb) (e:=9);rw[<-ie]at yW;have lE:Sub S T2:=by rw[ie];exact (cf (S:=S)).set _ _ (Nat.le_succ _) (S.next+2) (by show S.next+1<=_;omega)
 have CT:=fun Q=>vr (S:=T2) (x:=S.next) (y:=S.next+1) (b:=bb) (e:=9) (Q:=Q) (by rw[ie];exact (ae _ _ (by omega)).trans (aa _ _ _)) (by rw[ie];exact aa _ _ _);refine cl (cD _) (cG _ rfl) fn109 rfl ok109 (by simp) fun F hn hs=>?_;have nt109:Tryz.f61.ntmps=12:=by kernel_rfl
 rw[nt109]at hn;have s0:=hs 0;have s1:=hs 1;clear hs;simp only[List.getElem?_cons_zero,List.getElem?_cons_succ,Option.getD_some]at s0 s1;unfold Dk.isE;rw[<-sf];simp;refine cO [.r 0 0,.p,.p,.r 0 0,.r 0 0,.r 0 0,.p,.e [],.e [],.p] (n:=12) (by kernel_rfl) (by simp[hn]) ?_;cases hf:D.file name with
 |none=>
  rw[hf]at lk sf;simp only[Option.isSome_none]at sf;subst sf;simp[s0,s1,hx,hy,hr,lk,aR,yW,CT];exact lE
 |some fl=>
  rw[hf]at lk sf;simp only[Option.isSome_some]at sf;subst sf;simp[s0,s1,hx,hy,hr,lk,aR,yW,CT];exact lE
theorem len_mpw{κ:Type}{enc:κ->AV}{m:List (κ×AV)}{id:Nat}{ts:List TypeId}{l:List AV}(h:CW S id enc m):bg C1 S .len (127::ts) (.map id::l)=.val (.int .i64 (m.length:Nat)) S:=by
 obtain⟨es,clock,h1,h2,_⟩:=h;have hlen:es.length=m.length:=by simpa using congrArg List.length h2
 have hu:bC C1 127=some (.map 9 128):=by kernel_rfl
 simp only[bg,lenV,hu,h1,aN,bJ,hlen];rfl
set_option maxRecDepth 20000 in
theorem many110(h:bh S D){x:Nat}{t:Nat}{f:Bool}(hx:S.h.get x=some (.row [.ptr D.dp 0 0 4] 0 0 f t)):
  ai C1 62 [.ptr x 0 0 1] S fun r T=>r=.int .i64 D.zR/\Sub S T:=by
 have hr:=h.row;have ln:=fun ts l=>len_mpw (ts:=ts) (l:=l) h.map;rw[List.length_map]at ln;obtain⟨bb,sf⟩:∃bb:Bool,bb=decide (512<=D.fs.length):=⟨_,rfl⟩
 have hbI:decide ((512:Int)<=(D.fs.length:Int))=bb:=by rw[sf];exact decide_eq_decide.2 (by omega)
 have hfe:D.zR=if bb then 7 else 0:=by unfold Dk.zR;rw[sf];by_cases e:512<=D.fs.length<;>simp[e]
 rw[hfe];obtain⟨T2,ie⟩:∃T2:AS,T2=⟨(S.h.set S.next (.row [.bool bb] 0 0 false 4)).set (S.next+1) (.row [.int .i64 7] 0 0 false 42),S.next+2⟩:=⟨_,rfl⟩
 have yW:=sh (S:=S) (b:=bb) (e:=7);rw[<-ie]at yW;have lE:Sub S T2:=by rw[ie];exact (cf (S:=S)).set _ _ (Nat.le_succ _) (S.next+2) (by show S.next+1<=_;omega)
 have CT:=fun Q=>vr (S:=T2) (x:=S.next) (y:=S.next+1) (b:=bb) (e:=7) (Q:=Q) (by rw[ie];exact (ae _ _ (by omega)).trans (aa _ _ _)) (by rw[ie];exact aa _ _ _);refine aK (cD _) (cG _ rfl) fn110 rfl ok110 (by simp) fun F hn s0=>?_;simp[s0,hx,hr,ln,hbI,aR,yW,CT];exact lE
def Dk.add(D:Dk)(f:Fl):Dk:={D with fs:=D.fs++[f]}
theorem wT{name:List Nat}{x:AV}:∀fs:List Fl,(fs.find? fun f=>f.name==name)=none->pq (fs.map Fl.p) name x=fs.map Fl.p++[(name,x)]
 |[],_=>rfl
 |f::fs,h=>by
  rw[List.find?_cons]at h;cases e:f.name==name with
  |true=>rw[e]at h;cases h
  |false=>
   rw[e]at h;have cS:¬name=f.name:=fun e2=>by rw[e2]at e;simp at e
   have ih:=wT (x:=x) fs h;simp only[List.map_cons,Fl.p,pq,cS,if_false,List.cons_append];rw[<-ih]
theorem bh.add(h:bh S D){name:List Nat}{id:Nat}(yu:name.length<=1048576)(jL:D.file name=none)(bY:S.next<=id)(hil:id<T.next)(dc:T.h.get id=some (.row [.aq,.int .i64 0] 0 0 false 132))(hm:CW T D.mi AV.str (pq (D.fs.map Fl.p) name (.ptr id 0 0 2)))
  (hs:∀i,i<S.next->i≠D.mi->T.h.get i=S.h.get i) (hx:S.next<=T.next):bh T (D.add ⟨name,id,.aq,[],0⟩):=by
 have hold:∀{g},g∈D.fs->aB g.w<=S.next:=fun hg=>(h.gw _ hg).1.old
 have im:∀{g},g∈(D.add ⟨name,id,.aq,[],0⟩).fs->g=⟨name,id,.aq,[],0⟩\/g∈D.fs:=by
  intro g hg;rcases List.mem_append.1 hg with hg|hg
  .exact .inr hg
  .exact .inl (by simpa using hg)
 have xw:=h.CU;have se:=h.mlt;refine⟨?_,Nat.lt_of_lt_of_le xw hx,Nat.lt_of_lt_of_le se hx,?_,fun g hg=>?_,fun g hg=>?_,fun g hg=>?_,?_,h.dm,fun g hg=>?_,fun g hg=>?_,?_,fun g hg=>by
  rcases im hg with rfl|hg
  .exact yu
  .exact h.wQ g hg⟩
 .show T.h.get D.dp=_;rw[hs _ xw h.dm];exact h.row
 .show CW T D.mi AV.str ((D.fs++[(⟨name,id,.aq,[],0⟩:Fl)]).map Fl.p);rw[List.map_append];unfold Dk.file at jL;rw[wT D.fs jL]at hm;exact hm
 .rcases im hg with rfl|hg
  .exact dc
  .rw[hs _ (h.CS g hg) (h.fid g hg).2];exact h.xC g hg
 .rcases im hg with rfl|hg
  .exact hil
  .exact Nat.lt_of_lt_of_le (h.CS g hg) hx
 .rcases im hg with rfl|hg
  .exact Gw.nil
  .exact (h.gw g hg).agree (fun i e=>hs i (by have:=hold hg;omega) (fun e2=>(h.wid g hg).2.1 (by rw[e,e2]))) hx
 .show ((D.fs++[(⟨name,id,.aq,[],0⟩:Fl)]).map (·.name)).Nodup;rw[List.map_append,List.nodup_append];refine⟨h.names,by simp,fun a ha b hb e=>?_⟩;obtain⟨g,hg,rfl⟩:=List.mem_map.1 ha;simp at hb;subst hb;have:=uv h.names hg;rw[e,jL]at this;cases this
 .rcases im hg with rfl|hg
  .exact⟨by show id≠D.dp;omega,by show id≠D.mi;omega⟩
  .exact h.fid g hg
 .rcases im hg with rfl|hg
  .exact⟨by simp[aB],by simp[aB],fun k hk=>by simp[aB]⟩
  .refine⟨(h.wid g hg).1,(h.wid g hg).2.1,fun k hk=>?_⟩;rcases im hk with rfl|hk
   .have:=hold hg;show aB g.w≠id+1;omega
   .exact (h.wid g hg).2.2 k hk
 .show (D.fs++[(⟨name,id,.aq,[],0⟩:Fl)]).Pairwise _;rw[List.pairwise_append];refine⟨h.apart,by simp,fun a ha b hb=>?_⟩;simp at hb;subst hb;have:=h.CS a ha;refine⟨by show a.id≠id;omega,?_⟩;by_cases e:aB a.w=0
  .exact .inl e
  .exact .inr (by simpa[aB]using e)
end
section
variable{S T U:AS}{D D':Dk}{v:AV}{Q:Int->AS->Prop}
def ng(b:Bool)(e:Int):Int:=if b then e else 0
def Dk.fj(D:Dk)(name:List Nat):List Int:=[D.eY,ng (!kf name) 1,D.isE name,D.zR]
theorem add_foot{f':Fl}{id:Nat}(h:(D.add f').bB id):D.bB id\/id=f'.id\/aB f'.w=id+1:=by
 rcases h with h|h|⟨g,hg,h⟩
 .exact .inl (.inl h)
 .exact .inl (.inr (.inl h))
 .rcases List.mem_append.1 hg with hg|hg
  .exact .inl (.inr (.inr ⟨g,hg,h⟩))
  .simp at hg;subst hg;exact .inr h
theorem fresh5{F:Fr}{B:Nat}{x0 x1 x2 x3 x4:Tmp}{g0 g1 g2 g3 g4:Fn}{a0 b0 a1 b1 a2 b2 a3 b3 a4 b4:List AV}(h0:sl F x0=.func g0 a0 b0)(h1:sl F x1=.func g1 a1 b1)(h2:sl F x2=.func g2 a2 b2)(h3:sl F x3=.func g3 a3 b3)(h4:sl F x4=.func g4 a4 b4):
  aA C1 F B (.buildSlice 193 5 #[(0,.tmp x0),(1,.tmp x1),(2,.tmp x2),(3,.tmp x3),(4,.tmp x4)])=some (.slice B 0 0 5 5 1 (some 5),.row [.func g0 a0 b0,.func g1 a1 b1,.func g2 a2 b2,.func g3 a3 b3,.func g4 a4 b4] 0 0 false 122):=by
 have:=ck (cx:=C1) (F:=F) (t:=193) (p:=(122,1,8)) (id:=B) (n:=5) (a:=#[(0,.tmp x0),(1,.tmp x1),(2,.tmp x2),(3,.tmp x3),(4,.tmp x4)]) [[.func g0 a0 b0],[.func g1 a1 b1],[.func g2 a2 b2],[.func g3 a3 b3],[.func g4 a4 b4]] st122 rfl (by simp[aJ,h0,h1,h2,h3,h4,cellsOf]) (by simp) (by decide);simpa using this
theorem asks5(h:bh S D)(yQ:D.dQ<9223372036854775808){name:List Nat}{x y p q:Nat}{t t' u u':Nat}{f f' k k':Bool}(hx:S.h.get x=some (.row [.ptr D.dp 0 0 4] 0 0 f t))(hy:S.h.get y=some (.row [.str name] 0 0 f' t'))(hp:S.h.get p=some (.row [.bool (!kf name)] 0 0 k u))(hq:S.h.get q=some (.row [.int .i64 1] 0 0 k' u'))
  (hxl:x<S.next) (hyl:y<S.next) (lV:p<S.next) (hql:q<S.next) :
  ∀S2:AS,S2=⟨S.h.set S.next (.row [.func (.func 54) [.ptr D.dp 0 0 4] [],.func (.func 124) [] [.ptr p 0 0 1,.ptr q 0 0 1],.func (.func 61) [] [.ptr x 0 0 1,.ptr y 0 0 1],.func (.func 62) [] [.ptr x 0 0 1],.func (.func 63) [.ptr D.dp 0 0 4] []] 0 0 false 122),S.next+1⟩ ->
  ai C1 58 [.slice S.next 0 0 5 5 1 (some 5)] S2 fun r T=>r=.int .i64 (D.aU (D.fj name)).1/\bh T (D.aU (D.fj name)).2/\Kd D S T:=by
 intro S2 c7;have aP:Sub S S2:=by rw[c7];exact cf
 have h2:=h.sub aP;have n2:S2.next=S.next+1:=by rw[c7]
 have g2:S2.h.get S.next=some (.row [.func (.func 54) [.ptr D.dp 0 0 4] [],.func (.func 124) [] [.ptr p 0 0 1,.ptr q 0 0 1],.func (.func 61) [] [.ptr x 0 0 1,.ptr y 0 0 1],.func (.func 62) [] [.ptr x 0 0 1],.func (.func 63) [.ptr D.dp 0 0 4] []] 0 0 false 122):=by rw[c7];exact aa _ _ _
 have xw:=h.CU;have yS:Sl S2 (.slice S.next 0 0 5 5 1 (some 5)) 1 [.func (.func 54) [.ptr D.dp 0 0 4] [],.func (.func 124) [] [.ptr p 0 0 1,.ptr q 0 0 1],.func (.func 61) [] [.ptr x 0 0 1,.ptr y 0 0 1],.func (.func 62) [] [.ptr x 0 0 1],.func (.func 63) [.ptr D.dp 0 0 4] []]:=
  ⟨by simp[isSl,eu],by simp[jR,dJ,g2,bt],by simp[sLen],by simp[aB,n2]⟩
 refine (sU (Q:=fun e T=>e=(D.aU (D.fj name)).1/\bh T (D.aU (D.fj name)).2/\Kd D S T) yS (by simp) ?_).mono ?_
 .refine pQ (S:=S2) (qs:=[(.func (.func 54) [.ptr D.dp 0 0 4] [],D.eY),(.func (.func 124) [] [.ptr p 0 0 1,.ptr q 0 0 1],ng (!kf name) 1),(.func (.func 61) [] [.ptr x 0 0 1,.ptr y 0 0 1],D.isE name),(.func (.func 62) [] [.ptr x 0 0 1],D.zR)]) h2 yQ (by simp[aB,n2]) (by simp[aB];omega) ?_ S2 (Sub.refl _) ?_
  .intro z hz;simp only[List.mem_cons,List.not_mem_nil,or_false]at hz;rcases hz with rfl|rfl|rfl|rfl
   .exact qb h2
   .exact quiet91 ((aP.h p lV).trans hp) ((aP.h q hql).trans hq) (by omega) (by omega)
   .exact⟨61,_,_,rfl,aR _ rfl,fun T hT=>is109 (h2.sub hT) ((hT.h x (by omega)).trans ((aP.h x hxl).trans hx)) ((hT.h y (by omega)).trans ((aP.h y hyl).trans hy))⟩
   .exact⟨62,_,_,rfl,aR _ rfl,fun T hT=>many110 (h2.sub hT) ((hT.h x (by omega)).trans ((aP.h x hxl).trans hx))⟩
  .intro U h3 h4;exact⟨rfl,h3,⟨fun id hi hd=>(h4.h id (by omega) hd).trans (aP.h id hi),by have:=h4.next;omega⟩⟩
 .rintro r T ⟨e,rfl,h1,h2,h3⟩;exact⟨by rw[h1],h2,h3⟩
theorem nt71:Tryz.f24.ntmps=28:=by kernel_rfl
set_option maxRecDepth 20000 in
theorem create71(h:bh S D)(yQ:D.dQ<9223372036854775808){name:List Nat}(hn:∀c,c∈name->c<256)(hl:name.length<=1048576):
  ai C1 24 [.ptr D.dp 0 0 4,.str name] S fun r T=>r=.int .i64 (D.aU (D.fj name)).1/\∃D',bh T D'/\Evo D D' S T/\(((D.aU (D.fj name)).1≠0/\D'=(D.aU (D.fj name)).2) \/
   ((D.aU (D.fj name)).1=0/\∃id,D'=(D.aU (D.fj name)).2.add ⟨name,id,.aq,[],0⟩)):=by
 obtain⟨S0,hS0⟩:∃S0:AS,S0=⟨(S.h.set S.next (.row [.ptr D.dp 0 0 4] 0 0 false 24)).set (S.next+1) (.row [.str name] 0 0 false 9),S.next+1+1⟩:=⟨_,rfl⟩
 have yN:Sub S S0:=by rw[hS0];exact (cf (S:=S)).set _ _ (Nat.le_succ _) (S.next+1+1) (Nat.le_succ _)
 have n0:S0.next=S.next+1+1:=by rw[hS0]
 have b0:S0.h.get S.next=some (.row [.ptr D.dp 0 0 4] 0 0 false 24):=by rw[hS0];exact (ae _ _ (by omega)).trans (aa _ _ _)
 have b1:S0.h.get (S.next+1)=some (.row [.str name] 0 0 false 9):=by rw[hS0];exact aa _ _ _
 obtain⟨r,T1,⟨rfl,ht1⟩,u3⟩:=(may93 (S:=S0) hn hl).ex;have oE:=ht1.next
 obtain⟨T2,ie⟩:∃T2:AS,T2=⟨(T1.h.set T1.next (.row [.bool (!kf name)] 0 0 false 4)).set (T1.next+1) (.row [.int .i64 1] 0 0 false 42),T1.next+2⟩:=⟨_,rfl⟩
 have yW:=sh (S:=T1) (b:=!kf name) (e:=1);rw[<-ie]at yW;have n2:T2.next=T1.next+2:=by rw[ie]
 have lE:Sub T1 T2:=by rw[ie];exact (cf (S:=T1)).set _ _ (Nat.le_succ _) (T1.next+2) (by show T1.next+1<=_;omega)
 have p0:T2.h.get T1.next=some (.row [.bool (!kf name)] 0 0 false 4):=by rw[ie];exact (ae _ _ (by omega)).trans (aa _ _ _)
 have p1:T2.h.get (T1.next+1)=some (.row [.int .i64 1] 0 0 false 42):=by rw[ie];exact aa _ _ _
 have c7:=(yN.trans ht1).trans lE;have b0t:=(ht1.h S.next (by omega)).trans b0;have b1t:=(ht1.h (S.next+1) (by omega)).trans b1;have b0u:=(lE.h S.next (by omega)).trans b0t;have b1u:=(lE.h (S.next+1) (by omega)).trans b1t;obtain⟨r,U,⟨rfl,h1,h2⟩,e55⟩:=(asks5 (h.sub c7) yQ b0u b1u p0 p1 (by omega) (by omega) (by omega) (by omega) _ rfl).ex;have hnx:S.next<=U.next:=by have:=h2.next;have:=c7.next;omega
 have hk:∀id,id<S.next->¬D.bB id->U.h.get id=S.h.get id:=fun id hi hd=>(h2.h id (by have:=c7.next;omega) (fun e=>hd (.inl e))).trans (c7.h id hi)
 refine aX (cD _) (cG _ rfl) fn71 rfl ok71 (by simp) fun F fL s0 s1 => ?_;rw [nt71] at fL;have bS0 := hS0.symm;simp [s0, s1, bS0];refine cO [.r 0 2, .p, .r 0 0, .e [], .p, .e [], .p, .p, .r 2 0, .p, .e [], .e [], .p] (n := 28) (by kernel_rfl) (by simp [fL]) ?_;have iY : ∀ (F : Fr) (B : Nat) (x0 x1 x2 x3 x4 : Tmp), sl F x0 = .func (.func 54) [.ptr D.dp 0 0 4] [] → sl F x1 = .func (.func 124) [] [.ptr T1.next 0 0 1, .ptr (T1.next + 1) 0 0 1] → sl F x2 = .func (.func 61) [] [.ptr S.next 0 0 1, .ptr (S.next + 1) 0 0 1] → sl F x3 = .func (.func 62) [] [.ptr S.next 0 0 1] → sl F x4 = .func (.func 63) [.ptr D.dp 0 0 4] [] →
   aA C1 F B (.buildSlice 193 5 #[(0,.tmp x0),(1,.tmp x1),(2,.tmp x2),(3,.tmp x3),(4,.tmp x4)])=some (.slice B 0 0 5 5 1 (some 5),.row [.func (.func 54) [.ptr D.dp 0 0 4] [],.func (.func 124) [] [.ptr T1.next 0 0 1,.ptr (T1.next+1) 0 0 1],.func (.func 61) [] [.ptr S.next 0 0 1,.ptr (S.next+1) 0 0 1],.func (.func 62) [] [.ptr S.next 0 0 1],.func (.func 63) [.ptr D.dp 0 0 4] []] 0 0 false 122):=
  fun F B x0 x1 x2 x3 x4 a0 a1 a2 a3 a4=>fresh5 a0 a1 a2 a3 a4
 have jV:=(fq (D:=D) (D.fj name))
 have iZ:∀id,(D.aU (D.fj name)).2.bB id↔D.bB id:=fun id=>nc _;by_cases hz:(D.aU (D.fj name)).1=0
 .simp[s0,s1,b0,b1,b0t,b1t,b0u,b1u,aR,u3,yW,iY,e55,hz];have EB:=xX hz;have jL:D.file name=none:=by
   have e:=(fi (fi (fi EB).2).2).1;unfold Dk.isE at e;cases hf:D.file name with
   |none=>rfl
   |some f=>rw[hf]at e;simp at e
  have hno1:(D.aU (D.fj name)).2.file name=none:=by rw[jG];exact jL
  obtain⟨D1,hD1⟩:∃D1,D1=(D.aU (D.fj name)).2:=⟨_,rfl⟩
  rw[<-hD1]at jV h1 hno1 iZ⊢;have xw:=h.CU;have hr:=h1.row;rw[jV.2.1,jV.2.2.1]at hr;have se:=h1.mlt;rw[jV.2.2.1]at se;have hml0:=h.mlt;have b0U:=(h2.h S.next (by omega) (by omega)).trans b0u;have b1U:=(h2.h (S.next+1) (by omega) (by omega)).trans b1u;have hU2:=h2.next
  obtain⟨V,hV⟩:∃V:AS,V=⟨U.h.set U.next (.row [.aq,.int .i64 0] 0 0 false 132),U.next+1⟩:=⟨_,rfl⟩
  have hsV:Sub U V:=by rw[hV];exact cf
  have nV:V.next=U.next+1:=by rw[hV]
  have vrow:V.h.get U.next=some (.row [.aq,.int .i64 0] 0 0 false 132):=by rw[hV];exact aa _ _ _
  obtain⟨W,w1,w2,w3,w4⟩:=rn (cx:=C1) (t:=127) (k:=name) (v:=.ptr U.next 0 0 2) mk60 xe (h1.sub hsV).map;have hW:=h1.add (T:=W) (name:=name) (id:=U.next) hl hno1 (Nat.le_refl _) (by omega) ((w3 _ (by rw[jV.2.2.1];omega)).trans vrow) w2 (fun i hi cS=>(w3 i cS).trans (hsV.h i hi)) (by omega);rw[jV.2.2.1]at w1 w3;have b0V:=(hsV.h S.next (by omega)).trans b0U;have b1V:=(hsV.h (S.next+1) (by omega)).trans b1U;have hrV:=(hsV.h D.dp (by omega)).trans hr;have b0W:=(w3 S.next (by omega)).trans b0V;have b1W:=(w3 (S.next+1) (by omega)).trans b1V;have hrW:=(w3 D.dp (fun e=>h.dm e)).trans hrV;have bld:cU C1 132 []=some (.agg [.aq,.int .i64 0]):=by kernel_rfl
  have bV:=hV.symm;refine cO [.r 0 1,.p,.p,.r 0 1,.r 0 1,.p,.e [],.e []] (n:=28) (by kernel_rfl) (by simp[fL]) ?_;simp[s0,s1,b0U,b1U,hr,bld,bV,b0V,b1V,hrV,w1,b0W,b1W,hrW];refine⟨_,hW,⟨fun id hi hd=>?_,by omega,fun id hi hd=>?_⟩,_,rfl⟩
  .exact ((w3 id (fun e=>hd (.inr (.inl e)))).trans (hsV.h id (by omega))).trans (hk id hi hd)
  .rcases add_foot hd with hd|hd|hd
   .exact (iZ id).1 hd
   .have jq:id=U.next:=hd
    omega
   .simp[aB]at hd
 .simp[s0,s1,b0,b1,b0t,b1t,b0u,b1u,aR,u3,yW,iY,e55,hz];exact⟨h1,⟨hk,hnx,fun id hi hd=>(iZ id).1 hd⟩⟩
end
section
variable{S T U:AS}{D D':Dk}{v:AV}{Q:Int->AS->Prop}
theorem bh.far(h:bh S D){f g:Fl}(hf:f∈D.fs)(hg:g∈D.fs)(cS:f≠g):f.id≠g.id/\(aB f.w=0\/aB f.w≠aB g.w):=by
 have key:∀l:List Fl,l.Pairwise (fun f g=>f.id≠g.id/\(aB f.w=0\/aB f.w≠aB g.w))->g∈l->f∈l->(g.id≠f.id/\(aB g.w=0\/aB g.w≠aB f.w))\/(f.id≠g.id/\(aB f.w=0\/aB f.w≠aB g.w)):=by
  intro l
  induction l with
  |nil=>intro _ h1 _;exact absurd h1 (List.not_mem_nil)
  |cons x l ih=>
   intro hp h1 h2;obtain⟨p1,p2⟩:=List.pairwise_cons.1 hp;rcases List.mem_cons.1 h1 with e1|vL
   .rcases List.mem_cons.1 h2 with e2|rH
    .exact absurd (e2.trans e1.symm) cS
    .exact .inl (by rw[e1];exact p1 f rH)
   .rcases List.mem_cons.1 h2 with e2|rH
    .exact .inr (by rw[e2];exact p1 g vL)
    .exact ih p2 vL rH
 rcases key _ h.apart hg hf with⟨a,b⟩|h
 .refine⟨Ne.symm a,?_⟩;rcases b with b|b
  .by_cases e:aB f.w=0
   .exact .inl e
   .exact .inr (fun e2=>e (by rw[e2,b]))
  .exact .inr (Ne.symm b)
 .exact h
theorem bh.relist(h:bh S D){l:List Fl}(hm:∀g',g'∈l->∃g,g∈D.fs/\g'.id=g.id/\g'.w=g.w/\g'.bs=g.bs/\g'.iB=g.iB)(hn:(l.map (·.name)).Nodup)(hi:∀a b,a∈l->b∈l->a.id=b.id->a.name=b.name)
  (hmp:CW T D.mi AV.str (l.map Fl.p)) (hs:∀id,id≠D.mi->T.h.get id=S.h.get id) (hx:S.next<=T.next) (yu:∀g',g'∈l->g'.name.length<=1048576):bh T {D with fs:=l}:=by
 refine⟨?_,Nat.lt_of_lt_of_le h.CU hx,Nat.lt_of_lt_of_le h.mlt hx,hmp,fun f hf=>?_,fun f hf=>?_,fun f hf=>?_,hn,h.dm,fun f hf=>?_,fun f hf=>?_,?_,yu⟩
 .show T.h.get D.dp=_;rw[hs _ h.dm];exact h.row
 .obtain⟨g,hg,e1,e2,e3,e4⟩:=hm f hf;rw[e1,e2,e4,hs _ (h.fid g hg).2];exact h.xC g hg
 .obtain⟨g,hg,e1,e2,e3,e4⟩:=hm f hf;rw[e1];exact Nat.lt_of_lt_of_le (h.CS g hg) hx
 .obtain⟨g,hg,e1,e2,e3,e4⟩:=hm f hf;rw[e2,e3];exact (h.gw g hg).agree (fun id e=>hs id (fun e2=>(h.wid g hg).2.1 (by rw[e,e2]))) hx
 .obtain⟨g,hg,e1,e2,e3,e4⟩:=hm f hf;rw[e1];exact h.fid g hg
 .obtain⟨g,hg,e1,e2,e3,e4⟩:=hm f hf;rw[e2];refine⟨(h.wid g hg).1,(h.wid g hg).2.1,fun k hk=>?_⟩;obtain⟨k',BO,q1,_⟩:=hm k hk;rw[q1];exact (h.wid g hg).2.2 k' BO
 .have hp:l.Pairwise fun a b=>a.name≠b.name:=by
   have:=hn;unfold List.Nodup at this
   rwa [List.pairwise_map]at this
  refine hp.imp_of_mem fun {a b} ha hb cS=>?_;have bY:a.id≠b.id:=fun e=>cS (hi a b ha hb e);obtain⟨ga,hga,a1,a2,_⟩:=hm a ha;obtain⟨gb,hgb,b1,b2,_⟩:=hm b hb;have:=h.far hga hgb (fun e=>bY (by rw[a1,b1,e]));rw[a2,b2];exact⟨bY,this.2⟩
def mvL(fs:List Fl)(f':Fl):List Fl:=if (fs.find? fun g=>g.name==f'.name).isSome then fs.map (kK f') else fs++[f']
theorem Ej{f':Fl}:∀fs:List Fl,(fs.map (·.name)).Nodup->(fs.find? fun g=>g.name==f'.name).isSome=true->pq (fs.map Fl.p) f'.name (.ptr f'.id 0 0 2)=(fs.map (kK f')).map Fl.p
 |[],_,h=>by cases h
 |g::fs,hn,h=>by
  rw[List.map_cons,List.nodup_cons]at hn;by_cases e:f'.name=g.name
  .have h2:∀x,x∈fs->kK f' x=x:=fun x hx=>by
    unfold kK;rw[if_neg (fun e2=>hn.1 (List.mem_map.2 ⟨x,hx,e2.trans e⟩))]
   have h3:(fs.map (kK f'))=fs:=by
    conv=>rhs;rw[<-List.map_id fs]
    exact List.map_congr_left h2
   have h4:kK f' g=f':=by unfold kK;rw[if_pos e.symm]
   simp only[List.map_cons,Fl.p,pq,e,if_true,h3,h4]
  .have hb:(g.name==f'.name)=false:=by simp[Ne.symm e]
   rw[List.find?_cons,hb]at h;have ih:=Ej fs hn.2 h;have h4:kK f' g=g:=by unfold kK;rw[if_neg (Ne.symm e)]
   simp only[List.map_cons,Fl.p,pq,e,if_false,h4];rw[ih]
theorem mvL_map{fs:List Fl}{f':Fl}(hn:(fs.map (·.name)).Nodup):pq (fs.map Fl.p) f'.name (.ptr f'.id 0 0 2)=(mvL fs f').map Fl.p:=by
 unfold mvL;cases h:(fs.find? fun g=>g.name==f'.name)with
 |some g=>
  rw[Ej fs hn (by rw[h];rfl)];rfl
 |none=>
  rw[wT fs h];show _=(fs++[f']).map Fl.p;rw[List.map_append];rfl
theorem mvL_mem{fs:List Fl}{f' g:Fl}(h:g∈mvL fs f'):g=f'\/(g∈fs/\g.name≠f'.name):=by
 unfold mvL at h;cases hf:(fs.find? fun g=>g.name==f'.name)with
 |some x=>
  rw[hf]at h;obtain⟨g0,hg0,rfl⟩:=List.mem_map.1 h;unfold kK;by_cases e:g0.name=f'.name
  .rw[if_pos e];exact .inl rfl
  .rw[if_neg e];exact .inr ⟨hg0,e⟩
 |none=>
  rw[hf]at h;rcases List.mem_append.1 h with h|h
  .refine .inr ⟨h,fun e=>?_⟩;have:=List.find?_eq_none.1 hf g h;simp[e]at this
  .exact .inl (by simpa using h)
theorem mvL_nodup{fs:List Fl}{f':Fl}(hn:(fs.map (·.name)).Nodup):((mvL fs f').map (·.name)).Nodup:=by
 unfold mvL;cases hf:(fs.find? fun g=>g.name==f'.name)with
 |some x=>
  have e:(fs.map (kK f')).map (·.name)=fs.map (·.name):=by
   rw[List.map_map];refine List.map_congr_left fun g hg=>?_;show (kK f' g).name=g.name;unfold kK;by_cases e:g.name=f'.name
   .rw[if_pos e,e]
   .rw[if_neg e]
  show ((fs.map (kK f')).map (·.name)).Nodup;rw[e];exact hn
 |none=>
  show ((fs++[f']).map (·.name)).Nodup;rw[List.map_append,List.nodup_append];refine⟨hn,by simp,fun a ha b hb e=>?_⟩;obtain⟨g,hg,rfl⟩:=List.mem_map.1 ha;simp at hb;have:=List.find?_eq_none.1 hf g hg;simp[e,hb]at this
theorem delF_ne{s:List Nat}:∀{l:List Fl},(l.map (·.name)).Nodup->∀{g:Fl},g∈uz l s->g.name≠s
 |[],_,g,h=>absurd h (List.not_mem_nil)
 |f::l,hn,g,h=>by
  rw[List.map_cons,List.nodup_cons]at hn;unfold uz at h;by_cases e:s=f.name
  .rw[if_pos e]at h;intro e2;exact hn.1 (List.mem_map.2 ⟨g,h,e2.trans e⟩)
  .rw[if_neg e]at h;rcases List.mem_cons.1 h with rfl|h
   .exact Ne.symm e
   .exact delF_ne hn.2 h
def Dk.mv(D:Dk)(f:Fl)(name:List Nat):Dk:={D with fs:=uz (mvL D.fs ⟨name,f.id,f.w,f.bs,f.iB⟩) f.name}
theorem bh.mv(h:bh S D){f:Fl}{name:List Nat}(hf:f∈D.fs)(yu:name.length<=1048576)(hmp:CW T D.mi AV.str (wU (pq (D.fs.map Fl.p) name (.ptr f.id 0 0 2)) f.name))(hs:∀id,id≠D.mi->T.h.get id=S.h.get id)(hx:S.next<=T.next):bh T (D.mv f name):=by
 have BN:=mvL_nodup (f':=⟨name,f.id,f.w,f.bs,f.iB⟩) h.names;have mem:∀{g},g∈(D.mv f name).fs->(g=⟨name,f.id,f.w,f.bs,f.iB⟩)\/(g∈D.fs/\g.name≠name/\g.name≠f.name):=by
  intro g hg;have h1:=delF_ne BN hg;rcases mvL_mem ((sZ _ _).subset hg)with e|⟨a,b⟩
  .exact .inl e
  .exact .inr ⟨a,b,h1⟩
 refine h.relist (fun g hg=>?_) (BN.sublist ((sZ _ _).map _)) (fun a b ha hb e=>?_) ?_ hs hx (fun g hg=>by
  rcases mem hg with rfl|⟨a,_,_⟩
  .exact yu
  .exact h.wQ g a)
 .rcases mem hg with rfl|⟨a,_,_⟩
  .exact⟨f,hf,rfl,rfl,rfl,rfl⟩
  .exact⟨g,a,rfl,rfl,rfl,rfl⟩
 .have far:∀{g},g∈D.fs->g.name≠f.name->g.id≠f.id:=fun hg cS=>(h.far hg hf (fun e=>cS (by rw[e]))).1;rcases mem ha with rfl|⟨a1,a2,a3⟩
  .rcases mem hb with rfl|⟨b1,b2,b3⟩
   .rfl
   .exact absurd e.symm (far b1 b3)
  .rcases mem hb with rfl|⟨b1,b2,b3⟩
   .exact absurd e (far a1 a3)
   .rcases Classical.em (a=b)with e2|e2
    .rw[e2]
    .exact absurd e (h.far a1 b1 e2).1
 .rw[Fe,<-mvL_map h.names];exact hmp
def Dk.iI(D:Dk)(old name:List Nat):List Int:=[D.eY,ng (!kf name) 1,D.ay old]
theorem asks4r(h:bh S D)(yQ:D.dQ<9223372036854775808){old name:List Nat}(hn:∀c,c∈old->c<256)(hl:old.length<=1048576){x y p q:Nat}{t t' u u':Nat}{f f' k k':Bool}(hx:S.h.get x=some (.row [.ptr D.dp 0 0 4] 0 0 f t))(hy:S.h.get y=some (.row [.str old] 0 0 f' t'))(hp:S.h.get p=some (.row [.bool (!kf name)] 0 0 k u))(hq:S.h.get q=some (.row [.int .i64 1] 0 0 k' u'))
  (hxl:x<S.next) (hyl:y<S.next) (lV:p<S.next) (hql:q<S.next) :
  ∀S2:AS,S2=⟨S.h.set S.next (.row [.func (.func 54) [.ptr D.dp 0 0 4] [],.func (.func 124) [] [.ptr p 0 0 1,.ptr q 0 0 1],.func (.func 126) [] [.ptr y 0 0 1,.ptr x 0 0 1],.func (.func 63) [.ptr D.dp 0 0 4] []] 0 0 false 122),S.next+1⟩ ->
  ai C1 58 [.slice S.next 0 0 4 4 1 (some 4)] S2 fun r T=>r=.int .i64 (D.aU (D.iI old name)).1/\bh T (D.aU (D.iI old name)).2/\Kd D S T:=by
 intro S2 c7;have aP:Sub S S2:=by rw[c7];exact cf
 have h2:=h.sub aP;have n2:S2.next=S.next+1:=by rw[c7]
 have g2:S2.h.get S.next=some (.row [.func (.func 54) [.ptr D.dp 0 0 4] [],.func (.func 124) [] [.ptr p 0 0 1,.ptr q 0 0 1],.func (.func 126) [] [.ptr y 0 0 1,.ptr x 0 0 1],.func (.func 63) [.ptr D.dp 0 0 4] []] 0 0 false 122):=by rw[c7];exact aa _ _ _
 have xw:=h.CU;have yS:Sl S2 (.slice S.next 0 0 4 4 1 (some 4)) 1 [.func (.func 54) [.ptr D.dp 0 0 4] [],.func (.func 124) [] [.ptr p 0 0 1,.ptr q 0 0 1],.func (.func 126) [] [.ptr y 0 0 1,.ptr x 0 0 1],.func (.func 63) [.ptr D.dp 0 0 4] []]:=
  ⟨by simp[isSl,eu],by simp[jR,dJ,g2,bt],by simp[sLen],by simp[aB,n2]⟩
 refine (sU (Q:=fun e T=>e=(D.aU (D.iI old name)).1/\bh T (D.aU (D.iI old name)).2/\Kd D S T) yS (by simp) ?_).mono ?_
 .refine pQ (S:=S2) (qs:=[(.func (.func 54) [.ptr D.dp 0 0 4] [],D.eY),(.func (.func 124) [] [.ptr p 0 0 1,.ptr q 0 0 1],ng (!kf name) 1),(.func (.func 126) [] [.ptr y 0 0 1,.ptr x 0 0 1],D.ay old)]) h2 yQ (by simp[aB,n2]) (by simp[aB];omega) ?_ S2 (Sub.refl _) ?_
  .intro z hz;simp only[List.mem_cons,List.not_mem_nil,or_false]at hz;rcases hz with rfl|rfl|rfl
   .exact qb h2
   .exact quiet91 ((aP.h p lV).trans hp) ((aP.h q hql).trans hq) (by omega) (by omega)
   .exact vA h2 ((aP.h y hyl).trans hy) ((aP.h x hxl).trans hx) hn hl (by omega) (by omega)
  .intro U h3 h4;exact⟨rfl,h3,⟨fun id hi hd=>(h4.h id (by omega) hd).trans (aP.h id hi),by have:=h4.next;omega⟩⟩
 .rintro r T ⟨e,rfl,h1,h2,h3⟩;exact⟨by rw[h1],h2,h3⟩
theorem mv_foot{f:Fl}(hf:f∈D.fs){name:List Nat}{id:Nat}(h:(D.mv f name).bB id):D.bB id:=by
 rcases h with h|h|⟨g,hg,h⟩
 .exact .inl h
 .exact .inr (.inl h)
 .rcases mvL_mem ((sZ _ _).subset hg)with e|⟨a,_⟩
  .rw[e]at h;exact .inr (.inr ⟨f,hf,h⟩)
  .exact .inr (.inr ⟨g,a,h⟩)
theorem nt90:Tryz.f116.ntmps=45:=by kernel_rfl
set_option maxRecDepth 20000 in
theorem rename90(h:bh S D)(yQ:D.dQ<9223372036854775808){old name:List Nat}(cS:old≠name)(ho:∀c,c∈old->c<256)(hol:old.length<=1048576)(hn:∀c,c∈name->c<256)(hl:name.length<=1048576):
  ai C1 116 [.ptr D.dp 0 0 4,.str old,.str name] S fun r T=>r=.int .i64 (D.aU (D.iI old name)).1/\∃D',bh T D'/\Evo D D' S T/\(((D.aU (D.iI old name)).1≠0/\D'=(D.aU (D.iI old name)).2) \/
   ((D.aU (D.iI old name)).1=0/\∃f,D.file old=some f/\D'=(D.aU (D.iI old name)).2.mv f name)):=by
 obtain⟨r,T1,⟨rfl,ht1⟩,u3⟩:=(may93 (S:=S) hn hl).ex;obtain⟨T2,ie⟩:∃T2:AS,T2=⟨(T1.h.set T1.next (.row [.bool (!kf name)] 0 0 false 4)).set (T1.next+1) (.row [.int .i64 1] 0 0 false 42),T1.next+2⟩:=⟨_,rfl⟩
 have yW:=sh (S:=T1) (b:=!kf name) (e:=1);rw[<-ie]at yW;have n2:T2.next=T1.next+2:=by rw[ie]
 have lE:Sub T1 T2:=by rw[ie];exact (cf (S:=T1)).set _ _ (Nat.le_succ _) (T1.next+2) (by show T1.next+1<=_;omega)
 have p0:T2.h.get T1.next=some (.row [.bool (!kf name)] 0 0 false 4):=by rw[ie];exact (ae _ _ (by omega)).trans (aa _ _ _)
 have p1:T2.h.get (T1.next+1)=some (.row [.int .i64 1] 0 0 false 42):=by rw[ie];exact aa _ _ _
 obtain⟨T3,uV⟩:∃T3:AS,T3=⟨(T2.h.set T2.next (.row [.ptr D.dp 0 0 4] 0 0 false 24)).set (T2.next+1) (.row [.str old] 0 0 false 9),T2.next+2⟩:=⟨_,rfl⟩
 have e60:=vt (S:=T2) (d:=D.dp) (name:=old);rw[<-uV]at e60;have n3:T3.next=T2.next+2:=by rw[uV]
 have hs3:Sub T2 T3:=by rw[uV];exact (cf (S:=T2)).set _ _ (Nat.le_succ _) (T2.next+2) (by show T2.next+1<=_;omega)
 have q0:T3.h.get T2.next=some (.row [.ptr D.dp 0 0 4] 0 0 false 24):=by rw[uV];exact (ae _ _ (by omega)).trans (aa _ _ _)
 have q1:T3.h.get (T2.next+1)=some (.row [.str old] 0 0 false 9):=by rw[uV];exact aa _ _ _
 have kO:=(ht1.trans lE).trans hs3;obtain⟨r,U,⟨rfl,h1,h2⟩,e55⟩:=(asks4r (old:=old) (h.sub kO) yQ ho hol q0 q1 ((hs3.h _ (by omega)).trans p0) ((hs3.h _ (by omega)).trans p1) (by omega) (by omega) (by omega) (by omega) _ rfl).ex;have hnx:S.next<=U.next:=by have:=h2.next;have:=kO.next;omega
 have hk:∀id,id<S.next->¬D.bB id->U.h.get id=S.h.get id:=fun id hi hd=>(h2.h id (by have:=kO.next;omega) (fun e=>hd (.inl e))).trans (kO.h id hi)
 refine uy (cD _) (cG _ rfl) fn90 rfl ok90 (by simp) fun F fL s0 s1 s2 => ?_;rw [nt90] at fL;have iY : ∀ (F : Fr) (B : Nat) (x0 x1 x2 x3 : Tmp), sl F x0 = .func (.func 54) [.ptr D.dp 0 0 4] [] → sl F x1 = .func (.func 124) [] [.ptr T1.next 0 0 1, .ptr (T1.next + 1) 0 0 1] → sl F x2 = .func (.func 126) [] [.ptr (T2.next + 1) 0 0 1, .ptr T2.next 0 0 1] → sl F x3 = .func (.func 63) [.ptr D.dp 0 0 4] [] →
   aA C1 F B (.buildSlice 193 4 #[(0,.tmp x0),(1,.tmp x1),(2,.tmp x2),(3,.tmp x3)])=some (.slice B 0 0 4 4 1 (some 4),.row [.func (.func 54) [.ptr D.dp 0 0 4] [],.func (.func 124) [] [.ptr T1.next 0 0 1,.ptr (T1.next+1) 0 0 1],.func (.func 126) [] [.ptr (T2.next+1) 0 0 1,.ptr T2.next 0 0 1],.func (.func 63) [.ptr D.dp 0 0 4] []] 0 0 false 122):=
  fun F B x0 x1 x2 x3 a0 a1 a2 a3=>B3 a0 a1 a2 a3
 have jV:=(fq (D:=D) (D.iI old name))
 have iZ:∀id,(D.aU (D.iI old name)).2.bB id↔D.bB id:=fun id=>nc _;have hes:re old name=false:=by rw[kj];simp[cS]
 by_cases hz:(D.aU (D.iI old name)).1=0
 .have EB:=xX hz;obtain⟨f,hf⟩:=rp (fi (fi (fi EB).2).2).1;obtain⟨BR,EI⟩:=jf hf;have hf1:(D.aU (D.iI old name)).2.file old=some f:=by rw[jG];exact hf
  obtain⟨D1,hD1⟩:∃D1,D1=(D.aU (D.iI old name)).2:=⟨_,rfl⟩
  rw[<-hD1]at jV h1 hf1 iZ⊢;have hr:=h1.row;have lk:=h1.lookup old;rw[hf1]at lk;simp only[]at lk;obtain⟨W1,w1,w2,w3,w4⟩:=rn (cx:=C1) (t:=127) (k:=name) (v:=.ptr f.id 0 0 2) mk60 xe h1.map;obtain⟨W2,v1,v2,v3,v4⟩:=delete_mpw (cx:=C1) (t:=127) (k:=old) mk60 xe w2;have pE:f∈D1.fs:=by rw[jV.1];exact BR
  have hW:=h1.mv (T:=W2) pE hl (by rw[EI];exact v2) (fun id cS=>(v3 id cS).trans (w3 id cS)) (by rw[v4,w4];exact Nat.le_refl _);have hr1:=(w3 _ h1.dm).trans hr;rw[jV.2.1,jV.2.2.1]at hr hr1;rw[jV.2.2.1]at lk w1 w3 v1 v3;simp[s0,s1,s2,aR,u3,yW,e60,iY,e55,hz,hes];refine cO [.p,.p,.p,.r 0 0,.p,.p,.p,.p,.r 0 0,.p,.r 0 0,.e []] (n:=45) (by kernel_rfl) (by simp[fL]) ?_;simp[s0,s1,s2,hr,lk,w1,hr1,delete_b,v1];exact⟨_,hW,⟨fun id hi hd=>((v3 id (fun e=>hd (.inr (.inl e)))).trans (w3 id (fun e=>hd (.inr (.inl e))))).trans (hk id hi hd),by rw[v4,w4];exact hnx,fun id hi hd=>(iZ id).1 (mv_foot pE hd)⟩,f,hf,rfl⟩
 .simp[s0,s1,s2,aR,u3,yW,e60,iY,e55,hz];exact⟨h1,⟨hk,hnx,fun id hi hd=>(iZ id).1 hd⟩⟩
end
section
variable{S T U:AS}{D D':Dk}{v:AV}{Q:Int->AS->Prop}
theorem fn58:C1.fns.get 57=some Tryz.f57:=by kernel_rfl
theorem ok58:codeOk C1 Tryz.f57.ntmps (Tryz.f57.body.getD .skip)=true:=by kernel_rfl
theorem clone58{b:AV}{bs:List AV}(hb:Sl S b 1 bs)(hl:bs.length<=1073741824):ai C1 57 [b] S fun r T=>Sl T r 1 bs/\Sub S T:=by
 have u1:=hb.sl;have u2:=hb.fC;have st:=sq;refine aK (cD _) (cG _ rfl) fn58 rfl ok58 (by simp) fun F hn s0=>?_;rcases hb.cases with hb0|⟨id,g,off,n,lim,cap,hb0⟩
 .subst hb0;have:bs=[]:=List.length_eq_zero_iff.1 (by rw[<-u2];rfl);subst this;simp[s0];exact⟨Sl.nil,Sub.refl S⟩
 .subst hb0;have iY:∀(F:Fr)(B:Nat),aA C1 F B (.buildSlice 32 0 #[])=some (.slice B 0 0 0 0 1 (some 0),.row [] 0 0 false 5):=fun F B=>by
   have:=ck (cx:=C1) (F:=F) (t:=32) (p:=(5,1,1)) (id:=B) (n:=0) (a:=#[]) [] sq rfl (by simp) (by simp) (by decide);exact this
  obtain⟨S1,bI⟩:∃S1:AS,S1=⟨S.h.set S.next (.row [] 0 0 false 5),S.next+1⟩:=⟨_,rfl⟩
  have gA:Sub S S1:=by rw[bI];exact cf
  have g1:S1.h.get S.next=some (.row [] 0 0 false 5):=by rw[bI];exact aa _ _ _
  have hgw:Gw S1 (.slice S.next 0 0 0 0 1 (some 0)) 1 5 []:=
   ⟨⟨by simp[isSl,eu],by simp[jR],by simp[sLen],by simp[aB,bI]⟩,.inr ⟨S.next,0,0,0,0,some 0,rfl,by simp[Fu],by rw[bI];exact Nat.lt_succ_self _,[],0,0,g1,Nat.le_refl _,rfl⟩⟩
  obtain⟨w',T,a1,a2,a3,a4,a5,a6,a7,a8⟩:=rW (cx:=C1) (ts:=[]) (p:=(5,1,1)) (x:=.slice id g off n lim 1 cap) (ds:=bs) sq un31 rfl hgw (oK (hb.toSub gA)) (by simp[u2]) (by rw[u2];simp[sLen,fits,cH];omega);have fN:=bI.symm;have e1:∀c,aS C1 .eql 32 c (.slice id g off n lim 1 cap) .aq=some (.bool false):=fun c=>by
   have:=eq_nil (cx:=C1) (t:=32) (c:=c) sq u1;simpa[isNil]using this
  have np:bE w'=false:=by
   have:=a2.1.sl;cases w'<;>first|rfl|(simp[isSl]at this)
  simp[s0,iY,fN,a1,e1,np];exact⟨a2.1,⟨fun id hi=>(a3 id (by rw[bI];show id<S.next+1;omega) (by simp[aB];omega)).trans (gA.h id hi),Nat.le_trans gA.next a4⟩⟩
theorem asks2(h:bh S D){name:List Nat}(hn:∀c,c∈name->c<256)(hl:name.length<=1048576):
  ∀S2:AS,S2=⟨((S.h.set S.next (.row [.ptr D.dp 0 0 4] 0 0 false 24)).set (S.next+1) (.row [.str name] 0 0 false 9)).set (S.next+1+1) (.row [.func (.func 54) [.ptr D.dp 0 0 4] [],.func (.func 126) [] [.ptr (S.next+1) 0 0 1,.ptr S.next 0 0 1]] 0 0 false 122),S.next+1+1+1⟩ ->
  ai C1 58 [.slice (S.next+1+1) 0 0 2 2 1 (some 2)] S2 fun r T=>r=.int .i64 (aT [D.eY,D.ay name])/\Sub S T:=by
 intro S2 c7;have aP:Sub S S2:=by
  rw[c7];exact ((cf (S:=S) (o:=.row [.ptr D.dp 0 0 4] 0 0 false 24)).set _ _ (Nat.le_succ _) (S.next+1+1) (Nat.le_succ _)).set _ _ (by show S.next<=_;omega) _ (Nat.le_succ _)
 have h2:=h.sub aP;have n2:S2.next=S.next+1+1+1:=by rw[c7]
 have g0:S2.h.get S.next=some (.row [.ptr D.dp 0 0 4] 0 0 false 24):=by rw[c7];exact ((ae _ _ (by omega)).trans (ae _ _ (by omega))).trans (aa _ _ _)
 have g1:S2.h.get (S.next+1)=some (.row [.str name] 0 0 false 9):=by rw[c7];exact (ae _ _ (by omega)).trans (aa _ _ _)
 have g2:S2.h.get (S.next+1+1)=some (.row [.func (.func 54) [.ptr D.dp 0 0 4] [],.func (.func 126) [] [.ptr (S.next+1) 0 0 1,.ptr S.next 0 0 1]] 0 0 false 122):=by rw[c7];exact aa _ _ _
 have yS:Sl S2 (.slice (S.next+1+1) 0 0 2 2 1 (some 2)) 1 [.func (.func 54) [.ptr D.dp 0 0 4] [],.func (.func 126) [] [.ptr (S.next+1) 0 0 1,.ptr S.next 0 0 1]]:=
  ⟨by simp[isSl,eu],by simp[jR,dJ,g2,bt],by simp[sLen],by simp[aB,n2]⟩
 have hv:aB (.slice (S.next+1+1) 0 0 2 2 1 (some 2))<=S2.next:=by simp[aB,n2]
 refine (sU (Q:=fun e T=>e=aT [D.eY,D.ay name]/\Sub S T) yS (by simp) ?_).mono ?_
 .refine nY (qb h2) (Sub.refl _) hv (fun e0 U hU=>nY ((vA h2 g1 g0 hn hl (by omega) (by omega)).sub hU) (Sub.refl _) (Nat.le_trans hv hU.next) (fun e1 V hV=>?_) (fun e1 V hV=>?_)) (fun e0 U hU=>?_)
  .exact⟨by simp[aT,e0,e1],aP.trans (hU.trans hV)⟩
  .exact⟨by simp[aT,e0,e1],aP.trans (hU.trans hV)⟩
  .exact⟨by simp[aT,e0],aP.trans hU⟩
 .rintro r T ⟨e,rfl,h1,h2⟩;exact⟨by rw[h1],h2⟩
theorem fresh2{F:Fr}{B:Nat}{x0 x1:Tmp}{g0 g1:Fn}{a0 b0 a1 b1:List AV}(h0:sl F x0=.func g0 a0 b0)(h1:sl F x1=.func g1 a1 b1):
  aA C1 F B (.buildSlice 193 2 #[(0,.tmp x0),(1,.tmp x1)])=some (.slice B 0 0 2 2 1 (some 2),.row [.func g0 a0 b0,.func g1 a1 b1] 0 0 false 122):=by
 have:=ck (cx:=C1) (F:=F) (t:=193) (p:=(122,1,8)) (id:=B) (n:=2) (a:=#[(0,.tmp x0),(1,.tmp x1)]) [[.func g0 a0 b0],[.func g1 a1 b1]] st122 rfl (by simp[aJ,h0,h1,cellsOf]) (by simp) (by decide);simpa using this
set_option maxRecDepth 20000 in
theorem read59(h:bh S D)(hsm:∀f,f∈D.fs->f.bs.length<=1073741824){name:List Nat}(hn:∀c,c∈name->c<256)(hl:name.length<=1048576):
  ai C1 35 [.ptr D.dp 0 0 4,.str name] S fun r T=>Sub S T/\((aT [D.eY,D.ay name]≠0/\r=.tuple [.aq,.int .i64 (aT [D.eY,D.ay name])])\/(aT [D.eY,D.ay name]=0/\∃f v,D.file name=some f/\r=.tuple [v,.int .i64 0]/\Sl T v 1 f.bs)):=by
 obtain ⟨r, T, ⟨rfl, h1⟩, e55⟩ := (asks2 h hn hl _ rfl).ex;have e60 := vt (S := S) (d := D.dp) (name := name);refine aX (cD _) (cG _ rfl) fn59 rfl ok59 (by simp) fun F fL s0 s1 => ?_;have iY : ∀ (F : Fr) (B : Nat) (x0 x1 : Tmp), sl F x0 = .func (.func 54) [.ptr D.dp 0 0 4] [] → sl F x1 = .func (.func 126) [] [.ptr (S.next + 1) 0 0 1, .ptr S.next 0 0 1] →
   aA C1 F B (.buildSlice 193 2 #[(0,.tmp x0),(1,.tmp x1)])=some (.slice B 0 0 2 2 1 (some 2),.row [.func (.func 54) [.ptr D.dp 0 0 4] [],.func (.func 126) [] [.ptr (S.next+1) 0 0 1,.ptr S.next 0 0 1]] 0 0 false 122):=
  fun F B x0 x1 a0 a1=>fresh2 a0 a1
 by_cases h0:aT [D.eY,D.ay name]=0
 .obtain⟨f,hf⟩:=rp (uX h0).2;obtain⟨BR,EI⟩:=jf hf;have hT:=h.sub h1;have hr:=hT.row;have lk:=hT.lookup name;rw[hf]at lk;simp only[]at lk;have fr:=hT.xC f BR;have gw:=(hT.gw f BR).1;obtain⟨v,T2,⟨c1,c2⟩,e58⟩:=(clone58 gw (hsm f BR)).ex;have cv:cellsOf v=some [v]:=rO c1.sl;simp[s0,s1,aR,e60,iY,e55,h0,hr,lk,fr,e58];exact⟨h1.trans c2,f,hf,c1⟩
 .simp[s0,s1,aR,e60,iY,e55,h0];exact h1
theorem size20(h:bh S D)(hsm:∀f,f∈D.fs->f.bs.length<=1073741824){name:List Nat}(hn:∀c,c∈name->c<256)(hl:name.length<=1048576):
  ai C1 117 [.ptr D.dp 0 0 4,.str name] S fun r T=>Sub S T/\((aT [D.eY,D.ay name]≠0/\r=.tuple [.int .i64 0,.int .i64 (aT [D.eY,D.ay name])])\/(aT [D.eY,D.ay name]=0/\∃f,D.file name=some f/\r=.tuple [.int .i64 f.bs.length,.int .i64 0])):=by
 obtain⟨r,T,⟨h1,h2⟩,e59⟩:=(read59 h hsm hn hl).ex;refine aX (cD _) (cG _ rfl) fn20 rfl ok20 (by simp) fun F fL s0 s1=>?_;rcases h2 with⟨q,rfl⟩|⟨q,f,v,hf,rfl,hv⟩
 .simp[s0,s1,aR,e59];exact⟨h1,.inl q⟩
 .have u1:=hv.sl;have u2:=hv.fC;simp[s0,s1,aR,e59,u1,u2];exact⟨h1,.inr ⟨q,f,hf,rfl⟩⟩
end
section
variable{S T U:AS}{D D':Dk}{v:AV}{Q:Int->AS->Prop}
end
section
variable{S T:AS}
end
theorem eC{n:Nat}(h:n<18446744073709551616):IntKind.u64.wrap (n:Int)=n:=by simp[IntKind.wrap,IntKind.bits,IntKind.signed];omega
theorem fI{n:Nat}(h:n<4294967296):IntKind.u32.wrap (n:Int)=n:=by simp[IntKind.wrap,IntKind.bits,IntKind.signed];omega
theorem u8_nat{n:Nat}(h:n<256):IntKind.u8.wrap (n:Int)=n:=by simp[IntKind.wrap,IntKind.bits,IntKind.signed];omega
theorem oH(n:Nat):IntKind.u8.wrap (n:Int)=((n%256:Nat):Int):=by simp[IntKind.wrap,IntKind.bits,IntKind.signed]
theorem bits_nat{op:BinOp}{k:IntKind}(mo:op=.and\/op=.or\/op=.xor)(hk:∀n:Nat,n<2 ^ k.bits->k.wrap (n:Int)=n){a b:Nat}(ha:a<2 ^ k.bits)(hb:b<2 ^ k.bits):fk op k a b=.int k (qg op a b:Nat):=by
 rw[ji (by rcases mo with h|h|h<;>simp[h])];rcases mo with rfl|rfl|rfl
 .show AV.int k (k.wrap _)=_;rw[BitVec.toNat_and,kr _ a ha,kr _ b hb,hk _ (Nat.lt_of_le_of_lt Nat.and_le_left ha)];rfl
 .show AV.int k (k.wrap _)=_;rw[BitVec.toNat_or,kr _ a ha,kr _ b hb,hk _ (Nat.or_lt_two_pow ha hb)];rfl
 .show AV.int k (k.wrap _)=_;rw[BitVec.toNat_xor,kr _ a ha,kr _ b hb,hk _ (Nat.xor_lt_two_pow ha hb)];rfl
theorem hk64:∀n:Nat,n<2 ^ IntKind.u64.bits->IntKind.u64.wrap (n:Int)=n:=fun n h=>eC h
theorem hk32:∀n:Nat,n<2 ^ IntKind.u32.bits->IntKind.u32.wrap (n:Int)=n:=fun n h=>fI h
theorem hk8:∀n:Nat,n<2 ^ IntKind.u8.bits->IntKind.u8.wrap (n:Int)=n:=fun n h=>u8_nat h
section
variable{cx:Cx}{t:TypeId}{c:Bool}{a b:Nat}
theorem bin_and64(ha:a<18446744073709551616)(hb:b<18446744073709551616):aS cx .and t c (.int .u64 a) (.int .u64 b)=some (.int .u64 ((a &&& b:Nat):Int)):=by
 show cond (ej .u64 .u64) (some (fk .and .u64 a b)) none=_;rw[bits_nat (.inl rfl) hk64 ha hb,eA];rfl
theorem bin_or8(ha:a<256)(hb:b<256):aS cx .or t c (.int .u8 a) (.int .u8 b)=some (.int .u8 ((a ||| b:Nat):Int)):=by
 show cond (ej .u8 .u8) (some (fk .or .u8 a b)) none=_;rw[bits_nat (.inr (.inl rfl)) hk8 ha hb,eA];rfl
theorem Ax(ha:a<4294967296)(hb:b<4294967296):aS cx .and t c (.int .u32 a) (.int .u32 b)=some (.int .u32 ((a &&& b:Nat):Int)):=by
 show cond (ej .u32 .u32) (some (fk .and .u32 a b)) none=_;rw[bits_nat (.inl rfl) hk32 ha hb,eA];rfl
theorem m9(ha:a<4294967296)(hb:b<4294967296):aS cx .or t c (.int .u32 a) (.int .u32 b)=some (.int .u32 ((a ||| b:Nat):Int)):=by
 show cond (ej .u32 .u32) (some (fk .or .u32 a b)) none=_;rw[bits_nat (.inr (.inl rfl)) hk32 ha hb,eA];rfl
theorem uB(ha:a<4294967296)(hb:b<4294967296):aS cx .xor t c (.int .u32 a) (.int .u32 b)=some (.int .u32 ((a ^^^ b:Nat):Int)):=by
 show cond (ej .u32 .u32) (some (fk .xor .u32 a b)) none=_;rw[bits_nat (.inr (.inr rfl)) hk32 ha hb,eA];rfl
theorem kP{k:IntKind}{n s:Nat}(hs:s<=k.bits):aS cx .shr t c (.int k n) (.int .u64 s)=some (.int k ((n / 2 ^ s:Nat):Int)):=by
 show some (jd (Int.fdiv (n:Int) (.ofNat (Nat.pow 2 (Nat.min s k.bits)))) fun n=>AV.int k n)=_;rw[dG];have h1:Nat.min s k.bits=s:=Nat.min_eq_left hs;rw[h1];have h2:(n:Int).fdiv (Int.ofNat (Nat.pow 2 s))=((n / 2 ^ s:Nat):Int):=by
  have e:(n:Int).fdiv ((2 ^ s:Nat):Int)=((n / 2 ^ s:Nat):Int):=by rw[Int.fdiv_eq_ediv_of_nonneg _ (Int.natCast_nonneg _)];exact (Int.natCast_ediv n (2 ^ s)).symm
  exact e
 rw[h2]
theorem un_not32(ha:a<4294967296):unV .xor (.int .u32 a)=some (.int .u32 ((4294967295 ^^^ a:Nat):Int)):=by
 show some (fk .xor .u32 ((4294967295:Nat):Int) a)=_;rw[bits_nat (.inr (.inr rfl)) hk32 (by decide) ha];rfl
end
theorem and_127(n:Nat):n &&& 127=n%128:=Nat.and_two_pow_sub_one_eq_mod n 7
theorem or_128{n:Nat}(h:n<128):n ||| 128=n+128:=by
 have:=Nat.two_pow_add_eq_or_of_lt (i:=7) (b:=n) h 1;rw[Nat.or_comm];have e:(2:Nat) ^ 7*1=128:=by decide
 rw[e]at this;omega
structure PF where
 name:List Nat
 bs:List AV
 iB:Nat
structure PD where
 fs:List PF
 q:Nat
 dQ:Int
 off:Bool
def Fl.pf(f:Fl):PF:=⟨f.name,f.bs,f.iB⟩
def Dk.pd(D:Dk):PD:=⟨D.fs.map Fl.pf,D.q,D.dQ,D.off⟩
namespace PD
def eY(d:PD):Int:=if d.off then 8 else 0
def file(d:PD)(name:List Nat):Option PF:=d.fs.find? fun f=>f.name==name
def has(d:PD)(name:List Nat):Bool:=(d.file name).isSome
def ay(d:PD)(name:List Nat):Int:=if kf name then (if d.has name then 0 else 6) else 1
def jg(d:PD):Int×PD:=if d.dQ=0 then (8,{d with off:=true,dQ:=-1}) else if 0<d.dQ then (0,{d with dQ:=d.dQ-1}) else (0,d)
def aU(d:PD)(es:List Int):Int×PD:=if aT es=0 then d.jg else (aT es,d)
def put(d:PD)(f':PF):PD:={d with fs:=d.fs.map fun g=>if g.name=f'.name then f' else g}
def used(d:PD):Nat:=(d.fs.map fun f=>f.bs.length).sum
def fR(d:PD)(n:Nat):Int:=if (d.q:Int)-d.used<n then 7 else 0
def del(d:PD)(name:List Nat):PD:={d with fs:=d.fs.filter fun f=>!(f.name==name)}
def on(d:PD)(es:List Int)(k:PD->PD):Int×PD:=let r:=d.aU es;if r.1=0 then (0,k r.2) else r
def sync(d:PD)(name:List Nat):Int×PD:=d.on [d.eY,d.ay name] fun d=>match d.file name with|some f=>d.put {f with iB:=f.bs.length}|none=>d
def append(d:PD)(name:List Nat)(bs:List AV):Int×PD:=d.on [d.eY,d.ay name,d.fR bs.length] fun d=>match d.file name with|some f=>d.put {f with bs:=f.bs++bs}|none=>d
def fj(d:PD)(name:List Nat):List Int:=[d.eY,ng (!kf name) 1,if d.has name then 9 else 0,if 512<=d.fs.length then 7 else 0]
def create(d:PD)(name:List Nat):Int×PD:=d.on (d.fj name) fun d=>{d with fs:=d.fs++[⟨name,[],0⟩]}
def remove(d:PD)(name:List Nat):Int×PD:=d.on [d.eY,d.ay name] fun d=>d.del name
def mv(d:PD)(f:PF)(name:List Nat):PD:=(if d.has name then d.put ⟨name,f.bs,f.iB⟩ else {d with fs:=d.fs++[⟨name,f.bs,f.iB⟩]}).del f.name
def rename(d:PD)(old name:List Nat):Int×PD:=d.on [d.eY,ng (!kf name) 1,d.ay old] fun d=>match d.file old with|some f=>d.mv f name|none=>d
end PD
section
variable{S T:AS}{D D':Dk}
theorem pd_ans(D:Dk):D.pd.eY=D.eY:=rfl
theorem sC(D:Dk)(name:List Nat):D.pd.file name=(D.file name).map Fl.pf:=by
 unfold PD.file Dk.file Dk.pd;rw[List.find?_map];rfl
theorem pd_has(D:Dk)(name:List Nat):D.pd.has name=(D.file name).isSome:=by unfold PD.has;rw[sC];cases D.file name<;>rfl
theorem tN(D:Dk)(name:List Nat):D.pd.ay name=D.ay name:=by unfold PD.ay Dk.ay;rw[pd_has]
theorem pd_used(D:Dk):D.pd.used=D.used:=by unfold PD.used Dk.used Dk.pd;rw[List.map_map];rfl
theorem pd_fullE(D:Dk)(n:Nat):D.pd.fR n=D.fR n:=by unfold PD.fR Dk.fR;rw[pd_used];rfl
theorem pd_len(D:Dk):D.pd.fs.length=D.fs.length:=List.length_map ..
theorem pd_creaE(D:Dk)(name:List Nat):D.pd.fj name=D.fj name:=by unfold PD.fj Dk.fj Dk.isE Dk.zR;rw[pd_has,pd_len];rfl
theorem pd_burn(D:Dk):D.pd.jg=(D.jg.1,D.jg.2.pd):=by
 unfold PD.jg Dk.jg Dk.pd;by_cases h:D.dQ=0
 .simp[h]
 .by_cases h2:0<D.dQ<;>simp[h,h2]
theorem vD(D:Dk)(es:List Int):D.pd.aU es=((D.aU es).1,(D.aU es).2.pd):=by
 unfold PD.aU Dk.aU;by_cases h:aT es=0
 .rw[if_pos h,if_pos h,pd_burn]
 .rw[if_neg h,if_neg h]
theorem Bi(D:Dk)(f':Fl):(D.put f').pd=D.pd.put f'.pf:=by
 unfold Dk.pd Dk.put PD.put;simp only[List.map_map,PD.mk.injEq,and_true,true_and];refine List.map_congr_left fun g _=>?_;show (kK f' g).pf=if g.pf.name=f'.pf.name then f'.pf else g.pf
 unfold kK;show (if g.name=f'.name then f' else g).pf=if g.name=f'.name then f'.pf else g.pf
 split<;>rfl
theorem pd_add(D:Dk)(f:Fl):(D.add f).pd={D.pd with fs:=D.pd.fs++[f.pf]}:=by
 unfold Dk.add Dk.pd;simp
theorem u4:∀(fs:List Fl)(name:List Nat),(fs.map (·.name)).Nodup->uz fs name=fs.filter fun f=>!(f.name==name)
 |[],_,_=>rfl
 |f::fs,name,h=>by
  rw[List.map_cons,List.nodup_cons]at h;by_cases e:name=f.name
  .have h2:∀g,g∈fs->(!(g.name==name))=true:=fun g hg=>by
    have:g.name≠name:=fun e2=>h.1 (List.mem_map.2 ⟨g,hg,by rw[e2,e]⟩);simp[this]
   have h3:fs.filter (fun f=>!(f.name==name))=fs:=List.filter_eq_self.2 h2;rw[List.filter_cons];have h4:(!(f.name==name))=false:=by simp[e]
   rw[h4,if_neg (by simp),h3];show (if name=f.name then fs else f::uz fs name)=fs;rw[if_pos e]
  .have h4:(!(f.name==name))=true:=by simp[Ne.symm e]
   rw[List.filter_cons,h4,if_pos rfl,<-u4 fs name h.2];show (if name=f.name then fs else f::uz fs name)=_;rw[if_neg e]
theorem pd_del(D:Dk)(name:List Nat)(h:(D.fs.map (·.name)).Nodup):(D.del name).pd=D.pd.del name:=by
 unfold Dk.del PD.del Dk.pd;simp only[u4 _ _ h,List.filter_map];rfl
end
end Go.Proofs.YtdknlbnljfdhgaaGreatDoor.dk
namespace Go.Proofs.YtdknlbnljfdhgaaGreatDoor.dk
open Go Go.Am Go.Proofs.YtdknlbnljfdhgaaGreatDoor.seg
set_option linter.unusedVariables false
set_option linter.unusedSimpArgs false
structure PD.ok(d:PD):Prop where
 many:d.fs.length<=512
 used:d.used<=d.q
 q:d.q<=4194304
 dQ:d.dQ<9223372036854775808
 names:(d.fs.map (·.name)).Nodup
namespace PD
variable{d:PD}
theorem xd(fs:List PF):∀f,f∈fs->f.bs.length<=(fs.map fun f=>f.bs.length).sum:=by
 induction fs with
 |nil=>intro f h;cases h
 |cons g fs ih=>
  intro f h;rw[List.map_cons,List.sum_cons];rcases List.mem_cons.1 h with rfl|h
  .omega
  .have:=ih f h;omega
theorem ok.small(h:d.ok):∀f,f∈d.fs->f.bs.length<=4194304:=fun f hf=>by
 have:=xd d.fs f hf;have h1:=h.used;have h2:=h.q;unfold PD.used at h1;omega
theorem ok.jg(h:d.ok):d.jg.2.ok:=by
 unfold PD.jg;have hf:=h.dQ;split
 .exact⟨h.many,h.used,h.q,by show (-1:Int)<_;omega,h.names⟩
 .split
  .exact⟨h.many,h.used,h.q,by show d.dQ-1<_;omega,h.names⟩
  .exact h
theorem Cl(d:PD):d.jg.2.fs=d.fs/\d.jg.2.q=d.q:=by
 unfold PD.jg;split
 .exact⟨rfl,rfl⟩
 .split<;>exact⟨rfl,rfl⟩
theorem fq(d:PD)(es:List Int):(d.aU es).2.fs=d.fs/\(d.aU es).2.q=d.q:=by
 unfold PD.aU;split
 .exact Cl d
 .exact⟨rfl,rfl⟩
theorem jG(d:PD)(es:List Int)(name:List Nat):(d.aU es).2.file name=d.file name:=by
 unfold PD.file;rw[(fq d es).1]
theorem ok.aU(h:d.ok)(es:List Int):(d.aU es).2.ok:=by
 unfold PD.aU;split
 .exact h.jg
 .exact h
theorem ok.on(h:d.ok){es:List Int}{k:PD->PD}(hk:∀d':PD,d'.ok->d'.fs=d.fs->d'.q=d.q->(d.aU es).1=0->(k d').ok):(d.on es k).2.ok:=by
 unfold PD.on;have h1:=h.aU es;have h2:=fq d es;by_cases e:(d.aU es).1=0
 .simp only[e,if_true];exact hk _ h1 h2.1 h2.2 e
 .simp only[e,if_false];exact h1
theorem tK(d:PD)(f':PF):(d.put f').fs.map (·.name)=d.fs.map (·.name):=by
 show (d.fs.map _).map _=_;rw[List.map_map];refine List.map_congr_left fun g _=>?_;show (if g.name=f'.name then f' else g).name=g.name;split
 .rename_i e;exact e.symm
 .rfl
theorem wY{f':PF}:∀{fs:List PF},f'.name∉fs.map (·.name)->fs.map (fun g=>if g.name=f'.name then f' else g)=fs
 |[],_=>rfl
 |g::fs,h=>by
  rw[List.map_cons,List.mem_cons,not_or]at h;rw[List.map_cons,wY h.2,if_neg (Ne.symm h.1)]
theorem AQ{f f':PF}(hn:f'.name=f.name):∀{fs:List PF},(fs.map (·.name)).Nodup->f∈fs->((fs.map fun g=>if g.name=f'.name then f' else g).map fun f=>f.bs.length).sum+f.bs.length=(fs.map fun f=>f.bs.length).sum+f'.bs.length
 |[],_,h=>by cases h
 |g::fs,hd,h=>by
  rw[List.map_cons,List.nodup_cons]at hd;rcases List.mem_cons.1 h with rfl|h'
  .have:f'.name∉fs.map (·.name):=by rw[hn];exact hd.1
   simp only[List.map_cons,List.sum_cons,hn,if_true];have e:=wY this;rw[hn]at e;rw[e];omega
  .have ne:¬g.name=f'.name:=fun e=>hd.1 (List.mem_map.2 ⟨f,h',by rw[e,hn]⟩);have ih:=AQ hn hd.2 h';simp only[List.map_cons,List.sum_cons,ne,if_false];omega
theorem jf{name:List Nat}{f:PF}(h:d.file name=some f):f∈d.fs/\f.name=name:=
 ⟨List.mem_of_find?_eq_some h,by simpa using List.find?_some h⟩
theorem ok.put(h:d.ok){f f':PF}(hf:f∈d.fs)(hn:f'.name=f.name)(hl:d.used+f'.bs.length<=d.q+f.bs.length):(d.put f').ok:=by
 refine⟨?_,?_,h.q,h.dQ,?_⟩
 .show (d.fs.map _).length<=512;rw[List.length_map];exact h.many
 .have:=AQ hn h.names hf;show ((d.fs.map _).map _).sum<=d.q;unfold PD.used at hl;omega
 .rw[tK];exact h.names
theorem ok.sync(h:d.ok)(name:List Nat):(d.sync name).2.ok:=h.on fun d' h1 h2 h3 _=>by
 cases e:d'.file name with
 |none=>exact h1
 |some f=>
  have hm:=jf e;exact h1.put hm.1 rfl (by have:=h1.used;show _+f.bs.length<=_;omega)
theorem xH:∀{es:List Int},aT es=0->∀e,e∈es->e=0
 |[],_,e,h=>by cases h
 |x::es,h,e,he=>by
  unfold aT at h;split at h
  .rename_i h0;rcases List.mem_cons.1 he with rfl|he
   .exact h0
   .exact xH h e he
  .rename_i h0;exact absurd h h0
theorem askB_0{es:List Int}(h:(d.aU es).1=0):aT es=0:=by
 unfold PD.aU at h;split at h
 .assumption
 .exact h
theorem ok.append(h:d.ok)(name:List Nat)(bs:List AV):(d.append name bs).2.ok:=h.on fun d' h1 h2 h3 h0=>by
 have hf:=xH (askB_0 h0) (d.fR bs.length) (by simp);have hu:d'.used=d.used:=by unfold PD.used;rw[h2]
 have hl:d.used+bs.length<=d.q:=by
  unfold PD.fR at hf;have:=h.used;split at hf
  .exact absurd hf (by decide)
  .omega
 cases e:d'.file name with
 |none=>exact h1
 |some f=>
  have hm:=jf e;exact h1.put hm.1 rfl (by rw[hu,h3];show _+(f.bs++bs).length<=_;rw[List.length_append];omega)
theorem BV(d:PD)(name:List Nat):d.has name=true↔name∈d.fs.map (·.name):=by
 unfold PD.has PD.file;rw[List.find?_isSome];constructor
 .rintro⟨f,h1,h2⟩;exact List.mem_map.2 ⟨f,h1,by simpa using h2⟩
 .intro h;obtain⟨f,h1,h2⟩:=List.mem_map.1 h;exact⟨f,h1,by simpa using h2⟩
theorem ok.create(h:d.ok)(name:List Nat):(d.create name).2.ok:=h.on fun d' h1 h2 h3 h0=>by
 have hf:=xH (askB_0 h0);have e1:=hf (if d.has name then 9 else 0) (by simp[PD.fj]);have e2:=hf (if 512<=d.fs.length then 7 else 0) (by simp[PD.fj]);have l1:d.fs.length<512:=by
  split at e2
  .exact absurd e2 (by decide)
  .omega
 have l2:¬name∈d.fs.map (·.name):=fun hm=>by
  rw[(BV d name).2 hm]at e1;exact absurd e1 (by decide)
 refine⟨?_,?_,h1.q,h1.dQ,?_⟩
 .show (d'.fs++_).length<=_;rw[List.length_append,h2];show _+1<=_;omega
 .show ((d'.fs++_).map _).sum<=d'.q;have:=h1.used;unfold PD.used at this;simpa using this
 .show ((d'.fs++_).map _).Nodup;rw[List.map_append,List.nodup_append,h2];refine⟨h.names,by simp,fun a ha b hb=>?_⟩;simp at hb;subst hb;exact fun e=>l2 (e▸ha)
end PD
end Go.Proofs.YtdknlbnljfdhgaaGreatDoor.dk
namespace Go.Proofs.YtdknlbnljfdhgaaGreatDoor.dk
open Go Go.Am Go.Proofs.YtdknlbnljfdhgaaGreatDoor.seg
set_option linter.unusedVariables false
set_option linter.unusedSimpArgs false
theorem Gw.fresh{S:AS}{id sz e:Nat}(bY:S.h.get id=some (.row [] 0 0 false e))(cq:id<S.next):Gw S (.slice id 0 0 0 0 sz (some 0)) sz e []:=
 ⟨⟨by simp[isSl,eu],by simp[jR],by simp[sLen],by simp[aB];omega⟩,.inr ⟨id,0,0,0,0,some 0,rfl,by simp[Fu],cq,[],0,0,bY,Nat.le_refl _,rfl⟩⟩
theorem aj{S:AS}{v:AV}{sz:Nat}{cs:List AV}(h:Sl S v sz cs):okW v=true:=lr h.ok
def iS(lo:Nat)(v:AV):Prop:=aB v=0\/lo<aB v
theorem clone35{S:AS}{v:AV}{cs:List AV}(h:Sl S v 1 cs)(hf:sLen v<=1073741824):ai C1 199 [v] S fun v' T=>Sub S T/\Gw T v' 1 5 cs/\sLen v'=sLen v/\iS S.next v':=by
 refine aK (cD _) (cG _ rfl) fn35 rfl ok35 (by simp) fun F hn s0=>?_;have h2:=h.sl;have e0:∀c,aS C1 .eql 32 c v .aq=some (.bool (isNil v)):=fun c=>eq_nil (cx:=C1) (t:=32) (c:=c) sq h2;cases pA:isNil v with
 |true=>
  obtain⟨rfl,rfl⟩:=h.isNil pA;simp[s0,Sub.refl,Gw.nil,aB,iS]
 |false=>
  have hx:Sl (⟨S.h.set S.next (.row [] 0 0 false 5),S.next+1⟩:AS) v 1 cs:=⟨h2,by rw[vz h.old];exact h.rd,h.len,Nat.le_succ_of_le h.old⟩
  have lF:fits (sLen (.slice S.next 0 0 0 0 1 (some 0))+sLen v) 1=true:=by simp[fits,cH,ij];omega
  obtain⟨v',T,e1,r1,r2,r3,r4,r5,r6,r7⟩:=eB (cx:=C1) (ts:=[]) (p:=(5,1,1)) sq un31 rfl (Gw.fresh (aa _ _ _) (Nat.lt_succ_self _)) hx lF;rw[List.nil_append]at r1;have aP:Sub S T:=⟨fun id hi=>by rw[r2 id (Nat.lt_succ_of_lt hi) (by simp[aB];omega)];exact ae _ _ (by omega),Nat.le_trans (Nat.le_succ _) r3⟩
  have r4':sLen v'=sLen v:=by rw[r4];simp[ij]
  rw[pA]at e0;have iY:∀(F:Fr)(B:Nat),aA C1 F B (.buildSlice 32 0 #[])=some (.slice B 0 0 0 0 1 (some 0),.row [] 0 0 false 5):=fun F B=>pH (p:=(5,1,1)) sq;simp[s0,e0,e1,iY,r1.1.np];refine⟨aP,r1,r4',?_⟩;rcases r6 with r6|r6
  .unfold iS;rw[r6];exact .inr (Nat.lt_succ_self _)
  .exact .inr (Nat.lt_of_succ_lt r6)
theorem FN{S':AS}{v:AV}{cs:List AV}{lo:Nat}(x:AV)(hg:Gw S' v 1 5 cs)(hl:cs.length<=1048576)(hb:iS lo v)(qu:lo<=S'.next):
  ∃v' T,bg C1 ⟨S'.h.set S'.next (.row [x] 0 0 false 5),S'.next+1⟩ .append [32,32] [v,.slice S'.next 0 0 1 1 1 (some 1)]=.val v' T/\Gw T v' 1 5 (cs++[x])/\(∀id,id<lo->T.h.get id=S'.h.get id)/\S'.next<=T.next/\iS lo v':=by
 have hold:=hg.1.old;have hx:Sl (⟨S'.h.set S'.next (.row [x] 0 0 false 5),S'.next+1⟩:AS) (.slice S'.next 0 0 1 1 1 (some 1)) 1 [x]:=
  ⟨by simp[isSl,eu],by simp[jR,dJ],by simp[sLen],by simp[aB]⟩
 have hgT:Gw (⟨S'.h.set S'.next (.row [x] 0 0 false 5),S'.next+1⟩:AS) v 1 5 cs:=hg.agree (fun id e=>ae _ _ (by omega)) (Nat.le_succ _);have hlen:=hg.1.fC;obtain⟨v',V,e2,r1,r2,r3,r4,r5,r6,r7⟩:=eB (cx:=C1) (ts:=[]) (u:=32) (p:=(5,1,1)) sq un31 rfl hgT hx (by rw[hlen];simp[fits,cH,ij];omega);refine⟨v',V,e2,r1,fun id bY=>?_,by have:S'.next+1<=V.next:=r3;omega,?_⟩
 .have:id<S'.next+1:=by omega
  rw[r2 id this (by rcases hb with h|h<;>omega)];exact ae _ _ (by omega)
 .rcases r6 with r6|r6
  .unfold iS;rw[r6];exact hb
  .right;have:S'.next+1<aB v':=r6
   omega
def aV(n:Nat):List Nat:=if n<128 then [n] else (n%128+128)::aV (n / 128)
theorem numB_lt(n:Nat):∀c,c∈aV n->c<256:=by
 induction n using Nat.strongRecOn with
 |_ n ih=>
  intro c hc;unfold aV at hc;split at hc
  .simp at hc;omega
  .rename_i h;rcases List.mem_cons.1 hc with rfl|hc
   .have:=Nat.mod_lt n (show 0<128 by decide);omega
   .exact ih (n / 128) (by omega) c hc
theorem jT:∀(k n:Nat),n<128 ^ (k+1)->(aV n).length<=k+1
 |0,n,h=>by
  unfold aV;have:n<128:=by simpa using h
  rw[if_pos this];simp
 |k+1,n,h=>by
  unfold aV;split
  .simp
  .have:=jT k (n / 128) (by rw[Nat.div_lt_iff_lt_mul (by decide)];rw[Nat.pow_succ]at h;exact h);simp;omega
theorem numB_pos(n:Nat):1<=(aV n).length:=by
 unfold aV;split<;>simp
theorem nt77:Tryz.f157.ntmps=26:=by kernel_rfl
def numH(S:AS)(bs:List Nat)(k:Nat)(F':Fr)(S':AS):Prop:=
 ∃(v:AV)(cs:List Nat),Gw S' v 1 5 (az cs)/\Sub S S'/\iS S.next v/\bs=cs++aV k/\bs.length<=1048576/\k<18446744073709551616/\sl F' 5=v/\sl F' 1=.int .u64 k/\F'.n=26
theorem Eg{S:AS}{b:AV}{cs:List Nat}{n:Nat}(h:Sl S b 1 (az cs))(hl:cs.length<=1000000)(hn:n<18446744073709551616):
  ai C1 157 [b,.int .u64 n] S fun r T=>Sub S T/\iS S.next r/\Gw T r 1 5 (az (cs++aV n)):=by
 have hlen:=h.fC;rw[aD]at hlen;obtain⟨v,T,⟨hT,g1,g2,g3⟩,e1⟩:=(clone35 h (by omega)).ex;have hnb:(aV n).length<=10:=jT 9 n (by omega);refine aX (cD _) (cG _ rfl) fn77 rfl ok77 (by simp) fun F fL s0 s1=>?_;rw[nt77]at fL;simp[s0,s1,e1,aR];refine aH (numH S (cs++aV n)) n ⟨v,cs,g1,hT,g3,rfl,by rw[List.length_append];omega,hn,by simp,by simp[s1],by simp[fL]⟩ ?_;clear s0 s1 e1 g1 g2 g3 hT h fL hn;rintro k F' S' hn'' ⟨v,cs1,g,aP,hb,oo,hlb,hk,t5,t1,fL⟩;clear hn'';have hlen1:=congrArg List.length oo;simp only[List.length_append]at hlen1;have hlb':=hlb;simp only[List.length_append]at hlb';have hr:k%128<128:=Nat.mod_lt _ (by decide);obtain⟨y,hy⟩:∃y,y=k%128:=⟨_,rfl⟩
 obtain⟨z,hz⟩:∃z,z=k / 128:=⟨_,rfl⟩
 obtain⟨y2,hy2⟩:∃y2,y2=y+128:=⟨_,rfl⟩
 have em:∀t c,aS C1 .and t c (.int .u64 k) (.int .u64 127)=some (.int .u64 (y:Int)):=fun t c=>by rw[hy,<-and_127];exact bin_and64 hk (by decide)
 have yr:∀t c,aS C1 .shr t c (.int .u64 k) (.int .u64 7)=some (.int .u64 (z:Int)):=fun t c=>by rw[hz];exact kP (s:=7) (by decide)
 rw[<-hy]at hr;have w8:=u8_nat (n:=y) (by omega);have eo:∀t c,aS C1 .or t c (.int .u8 y) (.int .u8 128)=some (.int .u8 (y2:Int)):=fun t c=>by rw[hy2,<-or_128 hr];exact bin_or8 (by omega) (by decide)
 by_cases h0:z=0
 .have hkn:aV k=[y]:=by
   have:k<128:=by omega
   unfold aV;rw[if_pos this,hy,Nat.mod_eq_of_lt this]
  obtain⟨v',V,e2,q1,q2,q3,q4⟩:=FN (.int .u8 y) g (by rw[aD];omega) hb aP.next
  rw[h0]at yr;simp[t5,t1,em,yr,w8,e2,aj g.1];refine⟨q1.1.np,⟨fun id bY=>(q2 id bY).trans (aP.h id bY),Nat.le_trans aP.next q3⟩,q4,?_⟩;rw[oo,hkn,<-fE];exact q1
 .have hkn:aV k=y2::aV z:=by
   have:¬k<128:=by omega
   rw[aV,if_neg this,hy2,hy,hz]
  obtain⟨v',V,e2,q1,q2,q3,q4⟩:=FN (.int .u8 y2) g (by rw[aD];omega) hb aP.next
  have h0':¬((z:Int)=0):=by omega
  simp[t5,t1,em,yr,w8,eo,h0,h0',e2,aj g.1];refine⟨z,by omega,v',cs1++[y2],by rw[<-fE];exact q1,⟨fun id bY=>(q2 id bY).trans (aP.h id bY),Nat.le_trans aP.next q3⟩,q4,by rw[oo,hkn,List.append_assoc];rfl,hlb,by omega,by simp,by simp,by simp[fL]⟩
def zb(s:Nat):Nat:=(s / 2) ^^^ (2197175160*(s%2))
theorem tg{s:Nat}(h:s<4294967296):zb s<4294967296:=Nat.xor_lt_two_pow (n:=32) (by omega) (by have:=Nat.mod_lt s (show 0<2 by decide);omega)
def qZ(s:Nat):Nat:=zb (zb (zb (zb s)))
theorem ET{s:Nat}(h:s<4294967296):qZ s<4294967296:=tg (tg (tg (tg h)))
def lP(i:Nat):List AV:=(List.range 16).map fun j=>AV.int .u32 ((if j<i then qZ j else 0:Nat):Int)
@[simp] theorem oJ(i:Nat):(lP i).length=16:=by simp[lP]
theorem v8{i j:Nat}(h:j<16):(lP i)[j]?=some (AV.int .u32 ((if j<i then qZ j else 0:Nat):Int)):=by
 unfold lP;rw[List.getElem?_map,List.getElem?_range h];rfl
theorem tblA_put{i:Nat}(h:i<16):(lP i).set i (AV.int .u32 (qZ i:Int))=lP (i+1):=by
 apply List.ext_getElem?;intro j;by_cases hj:j<16
 .rw[v8 hj,List.getElem?_set];by_cases e:i=j
  .subst e;simp[oJ,h]
  .rw[if_neg e,v8 hj];have:(j<i)↔(j<i+1):=by omega
   simp only[this]
 .rw[List.getElem?_eq_none (by rw[List.length_set,oJ];omega),List.getElem?_eq_none (by rw[oJ];omega)]
theorem zero194:zeroOf C1 315=some (.agg (lP 0)):=by kernel_rfl
theorem nt158:Tryz.f259.ntmps=26:=by kernel_rfl
section
variable{S:AS}
theorem DN{α:Type}(f:α->α):∀(n:Nat)(x:α),Nat.repeat f (n+1) x=Nat.repeat f n (f x)
 |0,_=>rfl
 |n+1,x=>by
  show f (Nat.repeat f (n+1) x)=f (Nat.repeat f n (f x));rw[DN f n x]
theorem wr_cell{B j n:Nat}{vs:List AV}{x:AV}{e:Nat}(h:S.h.get B=some (.row vs 0 0 false e))(hn:vs.length=n)(hj:j<n):AM S (.ptr B 0 j n) [x]=some ⟨S.h.set B (.row (vs.set j x) 0 0 false e),S.next⟩:=by
 have:=wr_row (cap:=none) (x:=x) h hn hj;have e:j5 (.slice B 0 0 n n 1 none) j=.ptr B 0 j n:=by simp[j5]
 rwa [e]at this
theorem ld_cell{cx:Am.Cx}{B j n t:Nat}{vs:List AV}{x:AV}{e:Nat}(h:S.h.get B=some (.row vs 0 0 false e))(hn:vs.length=n)(hj:vs[j]?=some x)(ha:aG cx t=some false):loadT cx S t (.ptr B 0 j n)=some x:=by
 have hl:j<vs.length:=(List.getElem?_eq_some_iff.1 hj).1;have:=loadT_one (cx:=cx) (v:=.slice B 0 0 n n 1 none) (e:=t) (cs:=vs) (k:=j) (S:=S) (by
  cases n with
  |zero=>omega
  |succ n=>simp[jR,dJ,h,bt,<-hn]) (by simp[isSl,eu]) (by rw[hn];rfl) hj ha
 have e:j5 (.slice B 0 0 n n 1 none) j=.ptr B 0 j n:=by simp[j5]
 rwa [e]at this
def stpH(S:AS)(k:Nat)(F':Fr)(S':AS):Prop:=
 ∃i:Nat,Sub S S'/\S'.h.get S.next=some (.row (lP 0) 0 0 false 315)/\S'.h.get (S.next+1)=some (.row (lP i) 0 0 false 315)/\S'.next=S.next+2/\sl F' 0=.ptr S.next 0 0 16/\sl F' 1=.ptr (S.next+1) 0 0 16/\sl F' 5=.int .i64 i/\i<=16/\F'.n=26/\k=16-i
def bitH(S':AS)(S:AS)(i:Nat)(k:Nat)(F':Fr)(S2:AS):Prop:=
 ∃j s:Nat,S2=S'/\s<4294967296/\(j<=4/\(Nat.repeat zb (4-j) s)=qZ i)/\sl F' 0=.ptr S.next 0 0 16/\sl F' 1=.ptr (S.next+1) 0 0 16/\sl F' 5=.int .i64 i/\sl F' 2=.int .i64 i/\sl F' 3=.int .u32 s/\sl F' 10=.int .i64 j/\F'.n=26/\k=4-j
theorem steps158:ai C1 259 [] S fun r T=>r=.agg (lP 16)/\Sub S T:=by
 refine cl (cD _) (cG _ rfl) EU rfl Ee (by simp) fun F hn hs=>?_;rw[nt158]at hn;clear hs;have c7:Sub S ⟨(S.h.set S.next (.row (lP 0) 0 0 false 315)).set (S.next+1) (.row (lP 0) 0 0 false 315),S.next+1+1⟩:=(cf (S:=S)).set _ _ (Nat.le_succ _) _ (Nat.le_succ _);simp[-ze194,zero194];refine aH (stpH S) 16 ⟨0,c7,(ae _ _ (by omega)).trans (aa _ _ _),aa _ _ _,rfl,by simp,by simp,by simp,by omega,by simp[hn],rfl⟩ ?_;clear c7 hn;rintro k F' S' fL ⟨i,h1,h2,h3,h4,s0,s1,s5,hi,hn,hk⟩;clear fL;by_cases cQ:i<16
 .have hw:IntKind.u32.wrap (i:Int)=i:=fI (by omega);have kh:=IntWalk.i64_in ((i:Int)+1) (by omega);have jC:(i:Int)<16:=by omega
  simp[s0,s1,s5,jC,hw];refine aH (bitH S' S i) 4 ⟨0,i,rfl,by omega,⟨by omega,rfl⟩,by simp[s0],by simp[s1],by simp[s5],by simp,by simp,by simp,by simp[hn],rfl⟩ ?_;clear s0 s1 s5 hn;rintro k2 F2 S2 hn2 ⟨j,s,rfl,hs,⟨hj,hrep⟩,s0,s1,s5,s2,s3,s10,hn,vl⟩;clear hn2;obtain⟨b,hb⟩:∃b,b=s%2:=⟨_,rfl⟩
  obtain⟨z,hz⟩:∃z,z=s / 2:=⟨_,rfl⟩
  obtain⟨m,hm⟩:∃m,m=2197175160*b:=⟨_,rfl⟩
  have hb2:b<2:=by rw[hb];exact Nat.mod_lt _ (by decide)
  have ea:∀t c,aS C1 .and t c (.int .u32 s) (.int .u32 1)=some (.int .u32 (b:Int)):=fun t c=>by
   have:s &&& 1=b:=by rw[hb];exact Nat.and_two_pow_sub_one_eq_mod s 1
   rw[<-this];exact Ax hs (by decide)
  have es:∀t c,aS C1 .shr t c (.int .u32 s) (.int .u64 1)=some (.int .u32 (z:Int)):=fun t c=>by rw[hz];exact kP (s:=1) (by decide)
  have wm:IntKind.u32.wrap (2197175160*(b:Int))=(m:Int):=by
   rw[show (2197175160*(b:Int))=(m:Int) by omega];exact fI (by omega)
  have ex:∀t c,aS C1 .xor t c (.int .u32 z) (.int .u32 m)=some (.int .u32 ((zb s:Nat):Int)):=fun t c=>by
   unfold zb;rw[<-hz,<-hb,<-hm];exact uB (by omega) (by omega)
  by_cases hj':j<4
  .have hwj:=IntWalk.i64_in ((j:Int)+1) (by omega);have Ae:(j:Int)<4:=by omega
   simp[s0,s1,s5,s2,s3,s10,Ae,ea,es,wm,ex,hwj];refine⟨4-(j+1),by omega,j+1,zb s,rfl,tg hs,⟨by omega,?_⟩,by simp[s0],by simp[s1],by simp[s5],by simp[s2],by simp,by simp,by simp[hn],rfl⟩;rw[<-hrep];have:4-j=(4-(j+1))+1:=by omega
   rw[this];exact (DN zb (4-(j+1)) s).symm
  .have:j=4:=by omega
   subst this;have hsi:s=qZ i:=hrep;have hp:=tblA_put cQ;have mj:=wr_cell (x:=.int .u32 (qZ i:Int)) h3 (oJ i) cQ;rw[hp]at mj;simp[s0,s1,s5,s2,s3,s10,hsi,jC,h3,kh,mj];exact⟨16-(i+1),by omega,i+1,⟨fun id bY=>(ae _ _ (by omega)).trans (h1.h id bY),h1.next⟩,(ae _ _ (by omega)).trans h2,aa _ _ _,h4,by simp[s0],by simp[s1],by simp,by omega,by simp[hn],rfl⟩
 .have:i=16:=by omega
  subst this;have mj:AM S' (.ptr S.next 0 0 16) (lP 16)=some ⟨S'.h.set S.next (.row (lP 16) 0 0 false 315),S'.next⟩:=by
   simp only[gh,mA,h2,gk];rw[if_pos ⟨trivial,by simp,trivial⟩];rfl
  simp[s0,s1,s5,h2,h3,mj];exact⟨List.take_of_length_le (by simp),⟨fun id bY=>(ae _ _ (by omega)).trans (h1.h id bY),h1.next⟩⟩
def sS(s:Nat):Nat:=(s / 16) ^^^ qZ (s%16)
theorem xB{s:Nat}(h:s<4294967296):sS s<4294967296:=Nat.xor_lt_two_pow (n:=32) (by omega) (ET (by omega))
theorem nt159:Tryz.f260.ntmps=9:=by kernel_rfl
theorem half159{a b s:Nat}(ha:S.h.get a=some (.row [.int .u32 s] 0 0 false 219))(hb:S.h.get b=some (.row (lP 16) 0 0 false 315))(hs:s<4294967296):ai C1 260 [.ptr a 0 0 1,.ptr b 0 0 16] S fun r T=>T=⟨S.h.set a (.row [.int .u32 (sS s:Nat)] 0 0 false 219),S.next⟩:=by
 refine aX (cD _) (cG _ rfl) fn159 rfl ok159 (by simp) fun F hn s0 s1=>?_;rw[nt159]at hn;obtain⟨z,hz⟩:∃z,z=s / 16:=⟨_,rfl⟩
 obtain⟨y,hy⟩:∃y,y=s%16:=⟨_,rfl⟩
 have hy16:y<16:=by rw[hy];exact Nat.mod_lt _ (by decide)
 have es:∀t c,aS C1 .shr t c (.int .u32 s) (.int .u64 4)=some (.int .u32 (z:Int)):=fun t c=>by rw[hz];exact kP (s:=4) (by decide)
 have ea:∀t c,aS C1 .and t c (.int .u32 s) (.int .u32 15)=some (.int .u32 (y:Int)):=fun t c=>by
  have:s &&& 15=y:=by rw[hy];exact Nat.and_two_pow_sub_one_eq_mod s 4
  rw[<-this];exact Ax hs (by decide)
 have ex:∀t c,aS C1 .xor t c (.int .u32 z) (.int .u32 (qZ y:Nat))=some (.int .u32 ((sS s:Nat):Int)):=fun t c=>by
  unfold sS;rw[<-hz,<-hy];exact uB (by omega) (ET (by omega))
 have hyI:(y:Int)<16:=by omega
 have hg:(lP 16)[y]?=some (AV.int .u32 ((qZ y:Nat):Int)):=by rw[v8 hy16,if_pos hy16]
 have hl:=ld_cell (cx:=C1) (t:=219) hb (oJ 16) hg (by simp);simp;refine cO [.r 0 0,.p,.r 0 0,.p,.p,.r 0 0,.p,.e []] (n:=9) (by kernel_rfl) (by simp[hn]) ?_;simp[s0,s1,ha,hb,es,ea,ex,hyI,hl]
def oM(s c:Nat):Nat:=sS (sS (s ^^^ c))
theorem Du{s c:Nat}(h:s<4294967296)(hc:c<256):oM s c<4294967296:=xB (xB (Nat.xor_lt_two_pow (n:=32) h (by omega)))
theorem fold_lt:∀(bs:List Nat)(s:Nat),s<4294967296->(∀c,c∈bs->c<256)->bs.foldl oM s<4294967296
 |[],s,h,_=>h
 |c::bs,s,h,hb=>fold_lt bs _ (Du h (hb c (List.mem_cons_self ..))) fun x hx=>hb x (List.mem_cons_of_mem _ hx)
def jX(bs:List Nat):Nat:=4294967295 ^^^ bs.foldl oM 4294967295
theorem crcN_lt{bs:List Nat}(hb:∀c,c∈bs->c<256):jX bs<4294967296:=Nat.xor_lt_two_pow (n:=32) (by decide) (fold_lt bs _ (by decide) hb)
theorem nt146:Tryz.f235.ntmps=31:=by kernel_rfl
def extH(S:AS)(v:AV)(bs:List Nat)(a b:Nat)(k:Nat)(F':Fr)(S':AS):Prop:=
 ∃(i s:Nat),Sub S S'/\S.next<=a/\a≠b/\S.next<=b/\S'.h.get a=some (.row [.int .u32 s] 0 0 false 219)/\S'.h.get b=some (.row (lP 16) 0 0 false 315)/\s<4294967296/\jX bs=4294967295 ^^^ (bs.drop i).foldl oM s/\sl F' 6=.ptr a 0 0 1/\sl F' 7=.func (.func 260) [] [.ptr a 0 0 1,.ptr b 0 0 16]/\sl F' 14=v/\sl F' 15=.int .i64 bs.length/\sl F' 16=.int .i64 i/\i<=bs.length/\F'.n=31/\k=bs.length-i
theorem ext146{v:AV}{bs:List Nat}(h:Sl S v 1 (az bs))(hb:∀c,c∈bs->c<256)(hl:bs.length<=1073741824):ai C1 235 [.int .u32 0,v] S fun r T=>r=.int .u32 (jX bs:Nat)/\Sub S T:=by
 obtain⟨r,T,⟨rfl,hT⟩,e158⟩:=(steps158 (S:=S)).ex;have u1:=h.sl;have u2:=h.fC;rw[aD]at u2;have en:unV .xor (.int .u32 0)=some (.int .u32 4294967295):=by rfl
 have hd:List.drop 16 (lP 0)=[]:=List.drop_eq_nil_of_le (by simp);refine aX (cD _) (cG _ rfl) fn146 rfl ok146 (by simp) fun F hn s0 s1=>?_;rw[nt146]at hn;simp[-ze194,zero194,s0,s1,aR,e158,u1,u2,en,hd];obtain⟨S3,kO⟩:∃S3:AS,S3=⟨(((T.h.set T.next (.row (lP 0) 0 0 false 315)).set T.next (.row (lP 16) 0 0 false 315)).set (T.next+1) (.row [.int .u32 0] 0 0 false 219)).set (T.next+1) (.row [.int .u32 4294967295] 0 0 false 219),T.next+2⟩:=⟨_,rfl⟩
 have uV:Sub T S3:=by rw[kO];exact ((fO (S:=T)).set _ _ (Nat.le_succ _) (T.next+2) (Nat.le_succ _)).set _ _ (Nat.le_succ _) (T.next+2) (Nat.le_refl _)
 have BW:=hT.next
 rw[<-kO];refine aH (extH S v bs (T.next+1) T.next) bs.length ⟨0,4294967295,hT.trans uV,by omega,by omega,by omega,by rw[kO];exact aa _ _ _,by rw[kO];exact ((ae _ _ (by omega)).trans (ae _ _ (by omega))).trans (aa _ _ _),by decide,by simp[jX],by simp,by simp,by simp[s1],by simp[u2],by simp,by omega,by simp[hn],rfl⟩ ?_;obtain⟨a,ha⟩:∃a,a=T.next+1:=⟨_,rfl⟩
 obtain⟨b,sQ⟩:∃b,b=T.next:=⟨_,rfl⟩
 rw[<-ha,<-sQ];clear s0 s1 hn kO uV BW e158 hT ha sQ u1 u2 en hd;rintro k F' S' fL ⟨i,s,h1,h2,h3,h4,ga,gb,hs,hc,s6,s7,s14,s15,s16,hi,hn,hk⟩;clear fL;have hS':=h.toSub h1;have u1:=hS'.sl;have u2:=hS'.fC;rw[aD]at u2;by_cases cQ:i<bs.length
 .have jC:(i:Int)<bs.length:=by omega
  have kh:=IntWalk.i64_in ((i:Int)+1) (by omega);obtain⟨c,qM⟩:∃c,c=bs[i]:=⟨_,rfl⟩
  have hc256:c<256:=hb c (by rw[qM];exact List.getElem_mem cQ);have hg:(az bs)[i]?=some (AV.int .u8 (c:Int)):=by unfold az;rw[List.getElem?_map,List.getElem?_eq_getElem cQ,<-qM];rfl
  have hx:=fQ (cx:=C1) (e:=5) hS' hg (by simp);have w32:=fI (n:=c) (by omega);have ex:∀t d,aS C1 .xor t d (.int .u32 s) (.int .u32 c)=some (.int .u32 ((s ^^^ c:Nat):Int)):=fun t d=>uB hs (by omega);have hd:bs.drop i=c::bs.drop (i+1):=by rw[qM];exact List.drop_eq_getElem_cons cQ
  obtain⟨s1,gA⟩:∃s1,s1=s ^^^ c:=⟨_,rfl⟩
  have hs1l:s1<4294967296:=by rw[gA];exact Nat.xor_lt_two_pow (n:=32) hs (by omega)
  rw[<-gA]at ex;obtain⟨A1,hA1⟩:∃A1:AS,A1=⟨S'.h.set a (.row [.int .u32 s1] 0 0 false 219),S'.next⟩:=⟨_,rfl⟩
  have a1:A1.h.get a=some (.row [.int .u32 s1] 0 0 false 219):=by rw[hA1];exact aa _ _ _
  have b1:A1.h.get b=some (.row (lP 16) 0 0 false 315):=by rw[hA1];exact (ae _ _ (Ne.symm h3)).trans gb
  obtain⟨r1,A2,rfl,e1⟩:=(half159 a1 b1 hs1l).ex;have a2:(⟨A1.h.set a (.row [.int .u32 (sS s1:Nat)] 0 0 false 219),A1.next⟩:AS).h.get a=some (.row [.int .u32 (sS s1:Nat)] 0 0 false 219):=aa _ _ _;have b2:(⟨A1.h.set a (.row [.int .u32 (sS s1:Nat)] 0 0 false 219),A1.next⟩:AS).h.get b=some (.row (lP 16) 0 0 false 315):=(ae _ _ (Ne.symm h3)).trans b1;obtain⟨r2,A3,rfl,e2⟩:=(half159 a2 b2 (xB hs1l)).ex;simp[s6,s7,s14,s15,s16,jC,u1,u2,cQ,hx,w32,ga,ex,<-hA1,aR,e1,e2,kh];refine⟨bs.length-(i+1),by omega,i+1,oM s c,?_,h2,h3,h4,?_,?_,Du hs hc256,?_,by simp[s6],by simp[s7],by simp[s14],by simp[s15],by simp,by omega,by simp[hn],rfl⟩
  .refine⟨fun id bY=>?_,?_⟩
   .have:id≠a:=by omega
    rw[ae _ _ this,ae _ _ this,hA1,ae _ _ this];exact h1.h id bY
   .rw[hA1];exact h1.next
  .unfold oM;rw[<-gA];exact aa _ _ _
  .exact (ae _ _ (Ne.symm h3)).trans b2
  .rw[hc,hd];rfl
 .have:i=bs.length:=by omega
  subst this;rw[List.drop_length]at hc;have en:=un_not32 hs;simp[s6,s7,s14,s15,s16,ga,en,hc,h1]
theorem sum126{v:AV}{bs:List Nat}(h:Sl S v 1 (az bs))(hb:∀c,c∈bs->c<256)(hl:bs.length<=1073741824):ai C1 189 [v] S fun r T=>r=.int .u32 (jX bs:Nat)/\Sub S T:=by
 obtain⟨r,T,⟨rfl,hT⟩,e1⟩:=(ext146 h hb hl).ex;refine aK (cD _) (cG _ rfl) fn126 rfl ok126 (by simp) fun F hn s0=>?_;simp[s0,aR,e1,hT]
def di(n:Nat):List Nat:=[n%256,n / 256%256,n / 65536%256,n / 16777216%256]
theorem xE(n:Nat):∀c,c∈di n->c<256:=by
 intro c hc;simp only[di,List.mem_cons,List.not_mem_nil,or_false]at hc;omega
theorem four112{n:Nat}(h:n<4294967296):ai C1 164 [.int .u32 n] S fun r T=>r=.slice S.next 0 0 4 4 1 (some 4)/\T=⟨S.h.set S.next (.row (az (di n)) 0 0 false 5),S.next+1⟩:=by
 have s8:∀t d,aS C1 .shr t d (.int .u32 n) (.int .u64 8)=some (.int .u32 ((n / 256:Nat):Int)):=fun t d=>kP (s:=8) (by decide);have s16:∀t d,aS C1 .shr t d (.int .u32 n) (.int .u64 16)=some (.int .u32 ((n / 65536:Nat):Int)):=fun t d=>kP (s:=16) (by decide);have s24:∀t d,aS C1 .shr t d (.int .u32 n) (.int .u64 24)=some (.int .u32 ((n / 16777216:Nat):Int)):=fun t d=>kP (s:=24) (by decide);obtain⟨y1,hy1⟩:∃y,y=n / 256:=⟨_,rfl⟩
 obtain⟨y2,hy2⟩:∃y,y=n / 65536:=⟨_,rfl⟩
 obtain⟨y3,hy3⟩:∃y,y=n / 16777216:=⟨_,rfl⟩
 have w0:=oH n;have w1:=oH y1;have w2:=oH y2;have w3:=oH y3;rw[<-hy1]at s8;rw[<-hy2]at s16;rw[<-hy3]at s24;have hB:di n=[n%256,y1%256,y2%256,y3%256]:=by unfold di;rw[hy1,hy2,hy3]
 obtain⟨z0,hz0⟩:∃z,z=n%256:=⟨_,rfl⟩
 obtain⟨z1,EB⟩:∃z,z=y1%256:=⟨_,rfl⟩
 obtain⟨z2,hz2⟩:∃z,z=y2%256:=⟨_,rfl⟩
 obtain⟨z3,hz3⟩:∃z,z=y3%256:=⟨_,rfl⟩
 rw[<-hz0]at w0;rw[<-EB]at w1;rw[<-hz2]at w2;rw[<-hz3]at w3;rw[<-hz0,<-EB,<-hz2,<-hz3]at hB;have iY:∀(F:Fr)(B:Nat)(x0 x1 x2 x3:Tmp),sl F x0=.int .u8 z0->sl F x1=.int .u8 z1->sl F x2=.int .u8 z2->sl F x3=.int .u8 z3->aA C1 F B (.buildSlice 32 4 #[(0,.tmp x0),(1,.tmp x1),(2,.tmp x2),(3,.tmp x3)])=some (.slice B 0 0 4 4 1 (some 4),.row [.int .u8 z0,.int .u8 z1,.int .u8 z2,.int .u8 z3] 0 0 false 5):=by
  intro F B x0 x1 x2 x3 a0 a1 a2 a3;have:=ck (cx:=C1) (F:=F) (t:=32) (p:=(5,1,1)) (id:=B) (n:=4) (a:=#[(0,.tmp x0),(1,.tmp x1),(2,.tmp x2),(3,.tmp x3)]) [[.int .u8 z0],[.int .u8 z1],[.int .u8 z2],[.int .u8 z3]] sq rfl (by simp[a0,a1,a2,a3,cellsOf]) (by simp) (by decide);exact this
 refine aK (cD _) (cG _ rfl) fn112 rfl ok112 (by simp) fun F hn s0=>?_;simp[s0,s8,s16,s24,w0,w1,w2,w3,iY,hB,az]
theorem four125{n:Nat}(h:n<4294967296):ai C1 203 [.int .u32 n] S fun r T=>r=.slice S.next 0 0 4 4 1 (some 4)/\T=⟨S.h.set S.next (.row (az (di n)) 0 0 false 5),S.next+1⟩:=by
 have s8:∀t d,aS C1 .shr t d (.int .u32 n) (.int .u64 8)=some (.int .u32 ((n / 256:Nat):Int)):=fun t d=>kP (s:=8) (by decide);have s16:∀t d,aS C1 .shr t d (.int .u32 n) (.int .u64 16)=some (.int .u32 ((n / 65536:Nat):Int)):=fun t d=>kP (s:=16) (by decide);have s24:∀t d,aS C1 .shr t d (.int .u32 n) (.int .u64 24)=some (.int .u32 ((n / 16777216:Nat):Int)):=fun t d=>kP (s:=24) (by decide);obtain⟨y1,hy1⟩:∃y,y=n / 256:=⟨_,rfl⟩
 obtain⟨y2,hy2⟩:∃y,y=n / 65536:=⟨_,rfl⟩
 obtain⟨y3,hy3⟩:∃y,y=n / 16777216:=⟨_,rfl⟩
 have w0:=oH n;have w1:=oH y1;have w2:=oH y2;have w3:=oH y3;rw[<-hy1]at s8;rw[<-hy2]at s16;rw[<-hy3]at s24;have hB:di n=[n%256,y1%256,y2%256,y3%256]:=by unfold di;rw[hy1,hy2,hy3]
 obtain⟨z0,hz0⟩:∃z,z=n%256:=⟨_,rfl⟩
 obtain⟨z1,EB⟩:∃z,z=y1%256:=⟨_,rfl⟩
 obtain⟨z2,hz2⟩:∃z,z=y2%256:=⟨_,rfl⟩
 obtain⟨z3,hz3⟩:∃z,z=y3%256:=⟨_,rfl⟩
 rw[<-hz0]at w0;rw[<-EB]at w1;rw[<-hz2]at w2;rw[<-hz3]at w3;rw[<-hz0,<-EB,<-hz2,<-hz3]at hB;have iY:∀(F:Fr)(B:Nat)(x0 x1 x2 x3:Tmp),sl F x0=.int .u8 z0->sl F x1=.int .u8 z1->sl F x2=.int .u8 z2->sl F x3=.int .u8 z3->aA C1 F B (.buildSlice 32 4 #[(0,.tmp x0),(1,.tmp x1),(2,.tmp x2),(3,.tmp x3)])=some (.slice B 0 0 4 4 1 (some 4),.row [.int .u8 z0,.int .u8 z1,.int .u8 z2,.int .u8 z3] 0 0 false 5):=by
  intro F B x0 x1 x2 x3 a0 a1 a2 a3;have:=ck (cx:=C1) (F:=F) (t:=32) (p:=(5,1,1)) (id:=B) (n:=4) (a:=#[(0,.tmp x0),(1,.tmp x1),(2,.tmp x2),(3,.tmp x3)]) [[.int .u8 z0],[.int .u8 z1],[.int .u8 z2],[.int .u8 z3]] sq rfl (by simp[a0,a1,a2,a3,cellsOf]) (by simp) (by decide);exact this
 refine aK (cD _) (cG _ rfl) fn125 rfl ok125 (by simp) fun F hn s0=>?_;simp[s0,s8,s16,s24,w0,w1,w2,w3,iY,hB,az]
end
section
variable{S T:AS}
theorem qC{v x:AV}{cs ds:List AV}{lo:Nat}(hg:Gw S v 1 5 cs)(hx:Sl S x 1 ds)(hl:cs.length+ds.length<=1073741824)(hb:iS lo v)(qu:lo<=S.next):
  ∃v' T,bg C1 S .append [32,32] [v,x]=.val v' T/\Gw T v' 1 5 (cs++ds)/\(∀id,id<lo->T.h.get id=S.h.get id)/\S.next<=T.next/\iS lo v'/\sLen v'=cs.length+ds.length:=by
 have l1:=hg.1.fC;have l2:=hx.fC;obtain⟨v',V,e2,r1,r2,r3,r4,r5,r6,r7⟩:=eB (cx:=C1) (ts:=[]) (u:=32) (p:=(5,1,1)) sq un31 rfl hg hx (by rw[l1,l2];simp[fits,cH];omega);refine⟨v',V,e2,r1,fun id bY=>r2 id (by omega) (by rcases hb with h|h<;>omega),r3,?_,by rw[r4,l1,l2]⟩;rcases r6 with r6|r6
 .unfold iS;rw[r6];exact hb
 .exact .inr (by omega)
theorem four_gw{n:Nat}:Gw (⟨S.h.set S.next (.row (az (di n)) 0 0 false 5),S.next+1⟩:AS) (.slice S.next 0 0 4 4 1 (some 4)) 1 5 (az (di n)):=by
 have hb:(az (di n)).length=4:=rfl;refine⟨rd_row (aa _ _ _) (Nat.le_refl _) hb (Nat.lt_succ_self _) (by simp[eu]),.inr ⟨S.next,0,0,4,4,some 4,rfl,by simp[Fu],Nat.lt_succ_self _,az (di n),0,0,aa _ _ _,Nat.le_refl _,rfl⟩⟩
theorem put111{v:AV}{bs:List Nat}(h:Sl S v 1 (az bs))(hb:∀c,c∈bs->c<256)(hl:bs.length<=1000000):ai C1 163 [v] S fun r T=>Sub S T/\iS S.next r/\Gw T r 1 5 (az (bs++di (jX bs))):=by
 have hlb:=aD bs;obtain⟨v1,T1,ea,g1,k1,n1,w1,_⟩:=qC (lo:=S.next) (cs:=[]) Gw.nil h (by simp[hlb];omega) (.inl rfl) (Nat.le_refl _);have gA:Sub S T1:=⟨k1,n1⟩
 obtain⟨r,T2,⟨rfl,lE⟩,e2⟩:=(sum126 (h.toSub gA) hb (by omega)).ex;obtain⟨r,T3,⟨rfl,rfl⟩,e3⟩:=(four125 (S:=T2) (crcN_lt hb)).ex;have hs3:Sub T2 ⟨T2.h.set T2.next (.row (az (di (jX bs))) 0 0 false 5),T2.next+1⟩:=cf;have g2:Gw (⟨T2.h.set T2.next (.row (az (di (jX bs))) 0 0 false 5),T2.next+1⟩:AS) v1 1 5 (az bs):=by
  have:=g1.agree (T:=(⟨T2.h.set T2.next (.row (az (di (jX bs))) 0 0 false 5),T2.next+1⟩:AS)) (fun id e=>(lE.trans hs3).h id (by have:=g1.1.old;omega)) (lE.trans hs3).next
  simpa using this
 obtain⟨v4,T4,e4,g4,k4,n4,w4,_⟩:=qC (lo:=S.next) g2 (four_gw (S:=T2) (n:=jX bs)).1 (by rw[hlb];show bs.length+4<=_;omega) w1 (gA.trans (lE.trans hs3)).next
 have wk:okW v1=true:=aj g1.1;refine aK (cD _) (cG _ rfl) fn111 rfl ok111 (by simp) fun F hn s0=>?_;simp[s0,aR,ea,e2,e3,e4,wk,g4.1.np];refine⟨⟨fun id bY=>(k4 id bY).trans ((gA.trans (lE.trans hs3)).h id bY),Nat.le_trans (gA.trans (lE.trans hs3)).next n4⟩,w4,?_⟩;rw[<-fE];exact g4
def kC(r:List Nat):List Nat:=di r.length++r
def xD(r:List Nat):List Nat:=kC r++di (jX (kC r))
theorem EK{r:List Nat}(h:∀c,c∈r->c<256):∀c,c∈kC r->c<256:=fun c hc=>by
 rcases List.mem_append.1 hc with hc|hc
 .exact xE _ c hc
 .exact h c hc
theorem frameB_lt{r:List Nat}(h:∀c,c∈r->c<256):∀c,c∈xD r->c<256:=fun c hc=>by
 rcases List.mem_append.1 hc with hc|hc
 .exact EK h c hc
 .exact xE _ c hc
theorem rK(r:List Nat):(xD r).length=r.length+8:=by
 unfold xD kC;simp only[List.length_append];have:∀n,(di n).length=4:=fun _=>rfl;rw[this,this];omega
theorem put76{v:AV}{r:List Nat}(h:Sl S v 1 (az r))(hb:∀c,c∈r->c<256)(h1:1<=r.length)(h2:r.length<=2048):ai C1 111 [v] S fun u T=>∃w,u=.tuple [w,.int .i64 0]/\Sub S T/\iS S.next w/\Gw T w 1 5 (az (xD r)):=by
 have hlb:=aD r;obtain⟨u,T1,⟨rfl,rfl⟩,e1⟩:=(four112 (S:=S) (n:=r.length) (by omega)).ex;have gA:Sub S ⟨S.h.set S.next (.row (az (di r.length)) 0 0 false 5),S.next+1⟩:=cf;obtain⟨v2,T2,e2,g2,k2,n2,w2,_⟩:=qC (lo:=S.next) (four_gw (S:=S) (n:=r.length)) (h.toSub gA) (by rw[hlb];show 4+r.length<=_;omega) (.inr (by simp[aB])) gA.next
 rw[fE]at g2;obtain⟨v3,T3,⟨k3,n3,g3⟩,e3⟩:=(put111 (bs:=kC r) g2.1 (EK hb) (by unfold kC;rw[List.length_append];show 4+_<=_;omega)).ex;have u1:=h.sl;have u2:=h.fC;rw[hlb]at u2;have hw:=fI (n:=r.length) (by omega);have q1:¬(r=[]):=fun e=>by rw[e]at h1;exact absurd h1 (by decide)
 have q2:¬((2048:Int)<r.length):=by omega
 refine aK (cD _) (cG _ rfl) fn76 rfl ok76 (by simp) fun F hn s0=>?_;simp[s0,u1,u2,hw,q1,q2,aR,e1,e2,e3,aj g2.1,aj g3.1];refine⟨⟨fun id bY=>?_,?_⟩,?_,g3⟩
 .have:id<T2.next:=by have:=gA.next;omega
  exact (k3.h id this).trans ((k2 id bY).trans (gA.h id bY))
 .exact Nat.le_trans gA.next (Nat.le_trans n2 k3.next)
 .have:S.next<=T2.next:=Nat.le_trans gA.next n2
  rcases n3 with e|e
  .exact .inl e
  .exact .inr (by omega)
def mayN(n:Nat):Bool:=decide (1<=n/\n<=1099511627776)
def dS(n:Nat)(bs:List Nat):List Nat:=aV n++bs
end
section
variable{S T:AS}
def digL:Nat->Nat->List Nat
 |0,_=>[]
 |k+1,n=>(48+n / 10 ^ k%10)::digL k n
theorem Fb:∀k n,(digL k n).length=k
 |0,_=>rfl
 |k+1,n=>by rw[digL,List.length_cons,Fb k n]
def digA(i n:Nat):List AV:=List.replicate (13-i) (AV.int .u8 0)++az (digL i n)
@[simp] theorem digA_len{i n:Nat}(h:i<=13):(digA i n).length=13:=by unfold digA;rw[List.length_append,List.length_replicate,aD,Fb];omega
end
section
variable{S T:AS}{D D':Dk}
structure Left(D:Dk)(S:AS)(r:Int×PD)(u:AV)(T:AS):Prop where
 ret:u=.int .i64 r.1
 ex:∃D',bh T D'/\D'.pd=r.2/\D'.dp=D.dp/\Evo D D' S T
theorem on_eq{d:PD}{es:List Int}{k:PD->PD}:d.on es k=if (d.aU es).1=0 then (0,k (d.aU es).2) else d.aU es:=rfl
theorem vF(ok:D.pd.ok):D.dQ<9223372036854775808:=ok.dQ
theorem ok_len(ok:D.pd.ok):D.fs.length<=512:=by have:=ok.many;rwa [pd_len]at this
theorem ok_used(ok:D.pd.ok):D.used<=1099511627776:=by have h1:=ok.used;have h2:=ok.q;rw[pd_used]at h1;omega
theorem ok_q(ok:D.pd.ok):D.q<=4194304:=ok.q
theorem Ec(ok:D.pd.ok):∀f,f∈D.fs->f.bs.length<=1073741824:=fun f hf=>by
 have:=ok.small f.pf (List.mem_map.2 ⟨f,hf,rfl⟩);have e:f.pf.bs.length=f.bs.length:=rfl;omega
theorem Bj{D:Dk}{name:List Nat}(h:D.file name=none):D.pd.file name=none:=by rw[sC,h];rfl
theorem nG{D:Dk}{name:List Nat}{f:Fl}(h:D.file name=some f):D.pd.file name=some f.pf:=by rw[sC,h];rfl
theorem sync_pd(h:bh S D)(ok:D.pd.ok){name:List Nat}(hn:∀c,c∈name->c<256)(hl:name.length<=1048576):ai C1 26 [.ptr D.dp 0 0 4,.str name] S (Left D S (D.pd.sync name)):=by
 refine (sync28 h (vF ok) hn hl).mono ?_;rintro r T ⟨rfl,h1,h2⟩;have ea:=vD D [D.eY,D.ay name];have e:D.pd.sync name=((D.sync name).1,(D.sync name).2.pd):=by
  unfold PD.sync Dk.sync;rw[tN,pd_ans,on_eq,ea];simp only[];by_cases h0:(D.aU [D.eY,D.ay name]).1=0
  .simp only[h0,if_true];cases hf:(D.aU [D.eY,D.ay name]).2.file name with
   |none=>rw[Bj hf]
   |some f=>rw[nG hf];simp only[Bi];rfl
  .simp only[h0,if_false]
 have ed:(D.sync name).2.dp=D.dp:=by
  unfold Dk.sync;simp only[];have:=(fq (D:=D) [D.eY,D.ay name]).2.1;split
  .cases hf:(D.aU [D.eY,D.ay name]).2.file name<;>exact this
  .exact this
 exact⟨by rw[e],_,h1,by rw[e],ed,h2⟩
theorem Az(h:bh S D)(ok:D.pd.ok){name:List Nat}(hn:∀c,c∈name->c<256)(hl:name.length<=1048576){b:AV}{bs:List AV}(hb:Sl S b 1 bs)(ue:aB b≠D.dp+1)(tz:bs.length<=1073741824):ai C1 25 [.ptr D.dp 0 0 4,.str name,b] S (Left D S (D.pd.append name bs)):=by
 refine (append41 h (vF ok) (by have:=ok_len ok;omega) (ok_used ok) (by have:=ok_q ok;omega) hn hl hb ue tz).mono ?_;rintro r T ⟨rfl,D',h1,h2,h3⟩;have ea:=vD D [D.eY,D.ay name,D.fR bs.length];have hd:=(fq (D:=D) [D.eY,D.ay name,D.fR bs.length]).2.1;have e0:D.append name bs.length=(D.aU [D.eY,D.ay name,D.fR bs.length]).1:=rfl;rw[e0]at h3⊢;have e:D.pd.append name bs=((D.aU [D.eY,D.ay name,D.fR bs.length]).1,D'.pd)/\D'.dp=D.dp:=by
  unfold PD.append;rw[tN,pd_ans,pd_fullE,on_eq,ea];simp only[];rcases h3 with⟨h0,rfl⟩|⟨h0,f,w',hf,rfl⟩
  .simp only[h0,if_false];exact⟨trivial,hd⟩
  .have BS:(D.aU [D.eY,D.ay name,D.fR bs.length]).2.file name=some f:=by rw[jG];exact hf
   simp only[h0,if_true,nG BS,Bi];exact⟨rfl,hd⟩
 exact⟨by rw[e.1],D',h1,by rw[e.1],e.2,h2⟩
theorem create_pd(h:bh S D)(ok:D.pd.ok){name:List Nat}(hn:∀c,c∈name->c<256)(hl:name.length<=1048576):ai C1 24 [.ptr D.dp 0 0 4,.str name] S (Left D S (D.pd.create name)):=by
 refine (create71 h (vF ok) hn hl).mono ?_;rintro r T ⟨rfl,D',h1,h2,h3⟩;have ea:=vD D (D.fj name);have hd:=(fq (D:=D) (D.fj name)).2.1;have e:D.pd.create name=((D.aU (D.fj name)).1,D'.pd)/\D'.dp=D.dp:=by
  unfold PD.create;rw[pd_creaE,on_eq,ea];simp only[];rcases h3 with⟨h0,rfl⟩|⟨h0,id,rfl⟩
  .simp only[h0,if_false];exact⟨trivial,hd⟩
  .simp only[h0,if_true,pd_add];exact⟨rfl,hd⟩
 exact⟨by rw[e.1],D',h1,by rw[e.1],e.2,h2⟩
theorem rename_pd(h:bh S D)(ok:D.pd.ok){old name:List Nat}(cS:old≠name)(ho:∀c,c∈old->c<256)(hol:old.length<=1048576)(hn:∀c,c∈name->c<256)(hl:name.length<=1048576):ai C1 116 [.ptr D.dp 0 0 4,.str old,.str name] S (Left D S (D.pd.rename old name)):=by
 refine (rename90 h (vF ok) cS ho hol hn hl).mono ?_;rintro r T ⟨rfl,D',h1,h2,h3⟩;have ea:=vD D (D.iI old name);have hf3:=fq (D:=D) (D.iI old name);have hd:=hf3.2.1;have er:[D.pd.eY,ng (!kf name) 1,D.pd.ay old]=D.iI old name:=by rw[tN];rfl
 have e:D.pd.rename old name=((D.aU (D.iI old name)).1,D'.pd)/\D'.dp=D.dp:=by
  unfold PD.rename;rw[er,on_eq,ea];simp only[];rcases h3 with⟨h0,rfl⟩|⟨h0,f,hf,rfl⟩
  .simp only[h0,if_false];exact⟨trivial,hd⟩
  .have BS:(D.aU (D.iI old name)).2.file old=some f:=by rw[jG];exact hf
   simp only[h0,if_true,nG BS];refine⟨Prod.ext rfl ?_,hd⟩;obtain⟨D1,hD1⟩:∃D1,D1=(D.aU (D.iI old name)).2:=⟨_,rfl⟩
   have BN:(D1.fs.map (·.name)).Nodup:=by rw[hD1,hf3.1];exact h.names
   rw[<-hD1];show D1.pd.mv f.pf name=(D1.mv f name).pd;unfold PD.mv Dk.mv mvL;have hh:=pd_has D1 name;have hh2:(D1.fs.find? fun g=>g.name==name)=D1.file name:=rfl;rw[hh];cases hx:D1.file name with
   |none=>
    have hnn:¬name∈D1.fs.map (·.name):=fun hm=>by
     have:=(PD.BV D1.pd name).2 (by show name∈(D1.fs.map Fl.pf).map _;rw[List.map_map];exact hm);rw[hh,hx]at this;cases this
    have hq:=pd_del {D1 with fs:=D1.fs++[⟨name,f.id,f.w,f.bs,f.iB⟩]} f.name (by
     show ((D1.fs++_).map _).Nodup;rw[List.map_append,List.nodup_append];refine⟨BN,by simp,fun a ha b hb=>?_⟩;simp at hb;subst hb;exact fun e=>hnn (e▸ha))
    simp only[hh2,hx,Option.isSome_none,Bool.false_eq_true,if_false];refine Eq.trans ?_ hq.symm;show PD.del _ _=PD.del _ _;congr 1;show (⟨_,_,_,_⟩:PD)=⟨_,_,_,_⟩;congr 1;show D1.fs.map Fl.pf++_=(D1.fs++_).map Fl.pf;rw[List.map_append];rfl
   |some g=>
    have hq:=pd_del (D1.put ⟨name,f.id,f.w,f.bs,f.iB⟩) f.name (by
     have:=PD.tK D1.pd (Fl.pf ⟨name,f.id,f.w,f.bs,f.iB⟩);rw[<-Bi]at this;have e1:∀X:Dk,X.pd.fs.map (·.name)=X.fs.map (·.name):=fun X=>by show (X.fs.map Fl.pf).map _=_;rw[List.map_map];rfl
     rw[e1,e1]at this;rw[this];exact BN)
    simp only[hh2,hx,Option.isSome_some,if_true];refine Eq.trans ?_ hq.symm;rw[Bi];rfl
 exact⟨by rw[e.1],D',h1,by rw[e.1],e.2,h2⟩
end
end Go.Proofs.YtdknlbnljfdhgaaGreatDoor.dk
end
