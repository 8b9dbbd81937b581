/-
  The context of the model's proofs, and the facts of types and functions that simp wants.
-/
import Derived.Test.YtdknlbnljfdhgaaGreatDoorPartA
noncomputable section
namespace Go.Proofs.YtdknlbnljfdhgaaGreatDoor.mod
open Go Go.Am
set_option linter.unusedVariables false
set_option linter.unusedSimpArgs false
abbrev A0:Am.Ask:={ eqs:=[100,52,38,37],bG:=[(12,mw true),(55,hole),(49,hole)] }
abbrev C0:Am.Cx:=Am.j4 Tryz.prog A0
theorem dD (f:Nat) (h:(f == 287)=false):C0.exts.get f=none:=dz f
theorem kg (f:Nat) (h:(f == 12||f == 55||f == 49)=false):C0.bG.get f=none:=by
 simp only[Bool.or_eq_false_iff,beq_eq_false_iff_ne] at h;show ((((T.leaf:T (List AV→AS→Option (AV×AS))).set 12 (mw true)).set 55 hole).set 49 hole).get f=none;rw[ae _ _ h.2,ae _ _ h.1.2,ae _ _ h.1.1];exact dz f
theorem kf (f:Nat):C0.fQ.get f=none:=dz f
@[simp] theorem ag3:aD C0 3=some false:=by kernel_rfl
@[simp] theorem sz3:aA C0 3=some 1:=by kernel_rfl
@[simp] theorem ze3:zeroOf C0 3=some (.int .i64 0):=by kernel_rfl
@[simp] theorem ag31:aD C0 27=some false:=by kernel_rfl
@[simp] theorem sz31:aA C0 27=some 1:=by kernel_rfl
@[simp] theorem cv3_31:iR C0 3 27=some .u64:=by kernel_rfl
@[simp] theorem mt133:mapT C0 164=true:=by kernel_rfl
@[simp] theorem ag9:aD C0 9=some false:=by kernel_rfl
@[simp] theorem sz9:aA C0 9=some 1:=by kernel_rfl
@[simp] theorem ag24:aD C0 29=some false:=by kernel_rfl
@[simp] theorem sz24:aA C0 29=some 1:=by kernel_rfl
@[simp] theorem ag133:aD C0 164=some false:=by kernel_rfl
@[simp] theorem sz133:aA C0 164=some 1:=by kernel_rfl
@[simp] theorem mk133:DK C0 164=some ((.int .i64),.int .u64 0):=by kernel_rfl
@[simp] theorem ag4:aD C0 4=some false:=by kernel_rfl
@[simp] theorem sz4:aA C0 4=some 1:=by kernel_rfl
@[simp] theorem st92:mC C0 48=some (52,2,16):=by kernel_rfl
@[simp] theorem ag132:aD C0 52=some true:=by kernel_rfl
@[simp] theorem sz132:aA C0 52=some 2:=by kernel_rfl
@[simp] theorem ze132:zeroOf C0 52=some (.agg [.int .i64 0,.int .u64 0]):=by kernel_rfl
@[simp] theorem fa132_0:fieldAt C0 52 0=some 0:=by kernel_rfl
@[simp] theorem fa132_1:fieldAt C0 52 1=some 1:=by kernel_rfl
theorem fn71:C0.fns.get 93=some Tryz.f93:=by kernel_rfl
theorem ok71:codeOk C0 Tryz.f93.ntmps (Tryz.f93.body.getD .skip)=true:=by kernel_rfl
@[simp] theorem st24:mC C0 29=some (103,7,88):=by kernel_rfl
theorem fn72:C0.fns.get 86=some Tryz.f86:=by kernel_rfl
theorem ok72:codeOk C0 Tryz.f86.ntmps (Tryz.f86.body.getD .skip)=true:=by kernel_rfl
@[simp] theorem fa105_3:fieldAt C0 103 3=some 6:=by kernel_rfl
@[simp] theorem ag103:aD C0 101=some false:=by kernel_rfl
@[simp] theorem zp:aA C0 101=some 1:=by kernel_rfl
theorem fn73:C0.fns.get 87=some Tryz.f87:=by kernel_rfl
theorem ok73:codeOk C0 Tryz.f87.ntmps (Tryz.f87.body.getD .skip)=true:=by kernel_rfl
@[simp] theorem ag92:aD C0 48=some false:=by kernel_rfl
@[simp] theorem un92:aY C0 48=some (.slice 52):=by kernel_rfl
theorem fn74:C0.fns.get 231=some Tryz.f231:=by kernel_rfl
theorem ok74:codeOk C0 Tryz.f231.ntmps (Tryz.f231.body.getD .skip)=true:=by kernel_rfl
@[simp] theorem ag102:aD C0 100=some true:=by kernel_rfl
@[simp] theorem sz102:aA C0 100=some 4:=by kernel_rfl
@[simp] theorem ze102:zeroOf C0 100=some (.agg [.int .i64 0,.int .i64 0,.str [],.bool false]):=by kernel_rfl
theorem fn76:C0.fns.get 144=some Tryz.f144:=by kernel_rfl
theorem ok76:codeOk C0 Tryz.f144.ntmps (Tryz.f144.body.getD .skip)=true:=by kernel_rfl
@[simp] theorem fa105_0:fieldAt C0 103 0=some 0:=by kernel_rfl
@[simp] theorem ag105:aD C0 103=some true:=by kernel_rfl
@[simp] theorem sz105:aA C0 103=some 7:=by kernel_rfl
theorem fn124:C0.fns.get 145=some Tryz.f145:=by kernel_rfl
theorem ok124:codeOk C0 Tryz.f145.ntmps (Tryz.f145.body.getD .skip)=true:=by kernel_rfl
theorem fn125:C0.fns.get 146=some Tryz.f146:=by kernel_rfl
theorem ok125:codeOk C0 Tryz.f146.ntmps (Tryz.f146.body.getD .skip)=true:=by kernel_rfl
@[simp] theorem fa105_2:fieldAt C0 103 2=some 2:=by kernel_rfl
@[simp] theorem fa105_1:fieldAt C0 103 1=some 1:=by kernel_rfl
@[simp] theorem st103:mC C0 101=some (100,4,40):=by kernel_rfl
@[simp] theorem fa102_0:fieldAt C0 100 0=some 0:=by kernel_rfl
theorem fn126:C0.fns.get 139=some Tryz.f139:=by kernel_rfl
theorem ok126:codeOk C0 Tryz.f139.ntmps (Tryz.f139.body.getD .skip)=true:=by kernel_rfl
@[simp] theorem un24:aY C0 29=some (.slice 103):=by kernel_rfl
theorem fn127:C0.fns.get 140=some Tryz.f140:=by kernel_rfl
theorem ok127:codeOk C0 Tryz.f140.ntmps (Tryz.f140.body.getD .skip)=true:=by kernel_rfl
@[simp] theorem un103:aY C0 101=some (.slice 100):=by kernel_rfl
theorem fn128:C0.fns.get 183=some Tryz.f183:=by kernel_rfl
theorem ok128:codeOk C0 Tryz.f183.ntmps (Tryz.f183.body.getD .skip)=true:=by kernel_rfl
@[simp] theorem sz92:aA C0 48=some 1:=by kernel_rfl
theorem fn156:C0.fns.get 184=some Tryz.f184:=by kernel_rfl
theorem ok156:codeOk C0 Tryz.f184.ntmps (Tryz.f184.body.getD .skip)=true:=by kernel_rfl
theorem fn157:C0.fns.get 185=some Tryz.f185:=by kernel_rfl
theorem ok157:codeOk C0 Tryz.f185.ntmps (Tryz.f185.body.getD .skip)=true:=by kernel_rfl
theorem Ez:C0.fns.get 186=some Tryz.f186:=by kernel_rfl
theorem DD:codeOk C0 Tryz.f186.ntmps (Tryz.f186.body.getD .skip)=true:=by kernel_rfl
@[simp] theorem ze2:zeroOf C0 2=some (.int .i64 0):=by kernel_rfl
@[simp] theorem conc2:xS C0 2=true:=by kernel_rfl
@[simp] theorem ze9:zeroOf C0 9=some (.str []):=by kernel_rfl
@[simp] theorem conc9:xS C0 9=true:=by kernel_rfl
@[simp] theorem ze4:zeroOf C0 4=some (.bool false):=by kernel_rfl
@[simp] theorem conc4:xS C0 4=true:=by kernel_rfl
@[simp] theorem ag73:aD C0 204=some false:=by kernel_rfl
@[simp] theorem sz73:aA C0 204=some 1:=by kernel_rfl
@[simp] theorem fa102_1:fieldAt C0 100 1=some 1:=by kernel_rfl
@[simp] theorem ag2:aD C0 2=some false:=by kernel_rfl
@[simp] theorem sz2:aA C0 2=some 1:=by kernel_rfl
@[simp] theorem fa102_2:fieldAt C0 100 2=some 2:=by kernel_rfl
@[simp] theorem fa102_3:fieldAt C0 100 3=some 3:=by kernel_rfl
theorem fn174:C0.fns.get 141=some Tryz.f141:=by kernel_rfl
theorem ok174:codeOk C0 Tryz.f141.ntmps (Tryz.f141.body.getD .skip)=true:=by kernel_rfl
theorem fn189:C0.fns.get 229=some Tryz.f229:=by kernel_rfl
theorem ok189:codeOk C0 Tryz.f229.ntmps (Tryz.f229.body.getD .skip)=true:=by kernel_rfl
theorem fn190:C0.fns.get 230=some Tryz.f230:=by kernel_rfl
theorem ok190:codeOk C0 Tryz.f230.ntmps (Tryz.f230.body.getD .skip)=true:=by kernel_rfl
theorem fn191:C0.fns.get 232=some Tryz.f232:=by kernel_rfl
theorem ok191:codeOk C0 Tryz.f232.ntmps (Tryz.f232.body.getD .skip)=true:=by kernel_rfl
theorem fn192:C0.fns.get 233=some Tryz.f233:=by kernel_rfl
theorem ok192:codeOk C0 Tryz.f233.ntmps (Tryz.f233.body.getD .skip)=true:=by kernel_rfl
def idxI {α:Type} (P:α→Bool) (l:List α):Int:=match l.findIdx? P with|some i=>(i:Int)|none=>-1
theorem tw {α:Type} {P:α→Bool} {l:List α} (h:∀ x,x∈l→P x=false):idxI P l=-1:=by
 unfold idxI;rw[List.findIdx?_eq_none_iff.2 h]
theorem Bq {α:Type} {P:α→Bool} {l:List α} {i:Nat} {x:α} (h:l[i]?=some x) (hp:P x=true) (ha:∀ x,x∈l.take i→P x=false):idxI P l=i:=by
 obtain ⟨hi,rfl⟩:=List.getElem?_eq_some_iff.1 h;have:l.findIdx? P=some i:=by
  rw[List.findIdx?_eq_some_iff_getElem];refine ⟨hi,hp,fun j hj=>?_⟩;have:=ha l[j] (List.mem_take_iff_getElem.2 ⟨j,by omega,rfl⟩);simp[this]
 unfold idxI;rw[this]
theorem D6 {α:Type} {P:α→Bool} {l:List α}:decide (0≤idxI P l)=l.any P:=by
 unfold idxI;cases h:l.findIdx? P with
 | none=>
  have:=List.findIdx?_eq_none_iff.1 h;have h2:l.any P=false:=by rw[List.any_eq_false];intro x hx;simp[this x hx]
  rw[h2];rfl
 | some i=>
  obtain ⟨hi,hp,_⟩:=List.findIdx?_eq_some_iff_getElem.1 h;have h2:l.any P=true:=List.any_eq_true.2 ⟨l[i],List.getElem_mem hi,hp⟩;rw[h2];simp
theorem jb {α:Type} {P:α→Bool} {l:List α} {i:Nat} {x:α} (h:l[i]?=some x) (hp:P x=false) (ha:∀ x,x∈l.take i→P x=false):∀ x,x∈l.take (i+1)→P x=false:=by
 obtain ⟨hi,rfl⟩:=List.getElem?_eq_some_iff.1 h;intro y hy;rw[List.take_succ_eq_append_getElem hi] at hy;rcases List.mem_append.1 hy with hy|hy
 ·exact ha y hy
 ·simp at hy;subst hy;exact hp
def idxH {α:Type} (S:AS) (u g:AV) (l:List α) (P:α→Bool) (k:Nat) (F':Fr) (S':AS):Prop:=
 ∃ i:Nat,Sub S S'∧sl F' 0=u∧sl F' 1=g∧sl F' 7=.int .i64 l.length∧sl F' 8=.int .i64 i∧i≤l.length∧k=l.length-i∧∀ x,x∈l.take i→P x=false
theorem pw {α:Type} {S:AS} {u g:AV} {l:List α} {P:α→Bool} {k:Nat} {F':Fr} {S':AS} (i:Nat) (h1:Sub S S') (h2:sl F' 0=u) (h3:sl F' 1=g) (h4:sl F' 7=.int .i64 l.length) (h5:sl F' 8=.int .i64 i) (h6:i≤l.length) (h7:k=l.length-i) (h8:∀ x,x∈l.take i→P x=false):idxH S u g l P k F' S':=
 ⟨i,h1,h2,h3,h4,h5,h6,h7,h8⟩
theorem idx128 {α:Type} {enc:α→List AV} {S:AS} {u:AV} {l:List α} {f:FuncId} {caps:List AV} {P:α→Bool} (hz:∀ x,(enc x).length=7) (h:Sl S u 7 (l.flatMap enc)) (hb:l.length≤9223372036854775807) (hf:(f == 287)=false)
  (hc:∀ T,Sub S T→∀ x,x∈l→ai C0 f (.agg (enc x) :: caps) T fun v T'=>v=.bool (P x)∧Sub T T') :
  ai C0 183 [u,.func (.func f) [] caps] S fun v T=>v=.int .i64 (idxI P l)∧Sub S T:=by
 refine bC (kf _) (kg _ rfl) fn128 rfl ok128 (by simp) fun F hn s0 s1=>?_;have u1:=h.sl;have u2:=h.aU hz (by omega);simp[s0,s1,u1,u2];refine av (idxH S u (.func (.func f) [] caps) l P) l.length (pw 0 (Sub.refl S) (by simp[s0]) (by simp[s1]) (by simp) (by simp) (Nat.zero_le _) rfl (by simp)) ?_;rintro k F' S' dY ⟨i,aQ,t0,t1,t7,t8,hi,hk,ha⟩;clear dY s0 s1 hn;by_cases cW:i<l.length
 ·have hx:l[i]?=some l[i]:=List.getElem?_eq_getElem cW;have hl:=cJ (cx:=C0) (e:=103) (h.toSub aQ) hz (by omega) hx ag105 sz105;obtain ⟨v,T',⟨rfl,hs⟩,e⟩:=(hc S' aQ l[i] (List.getElem_mem cW)).ex;cases hp:P l[i] with
  | true=>simp[t0,t1,t7,t8,u1,u2,cW,hl,e,hp,dD f hf,aQ.trans hs,Bq hx hp ha]
  | false=>
   simp[t0,t1,t7,t8,u1,u2,cW,hl,e,hp,dD f hf];exact ⟨l.length-(i+1),by omega,pw (i+1) (aQ.trans hs) (by simp[t0]) (by simp[t1]) (by simp[t7]) (by simp[cd (show i<9223372036854775807 by omega)]) cW rfl (jb hx hp ha)⟩
 ·have iN:∀ x,x∈l→P x=false:=fun x hx=>ha x (by rw[List.take_of_length_le (by omega)];exact hx);simp[t7,t8,cW,tw iN,aQ]
theorem con76 {α:Type} {enc:α→List AV} {S:AS} {u:AV} {l:List α} {f:FuncId} {caps:List AV} {P:α→Bool} (hz:∀ x,(enc x).length=7) (h:Sl S u 7 (l.flatMap enc)) (hb:l.length≤9223372036854775807) (hf:(f == 287)=false)
  (hc:∀ T,Sub S T→∀ x,x∈l→ai C0 f (.agg (enc x) :: caps) T fun v T'=>v=.bool (P x)∧Sub T T') :
  ai C0 144 [u,.func (.func f) [] caps] S fun v T=>v=.bool (l.any P)∧Sub S T:=by
 obtain ⟨v,T,⟨rfl,hs⟩,e⟩:=(idx128 hz h hb hf hc).ex;refine bC (kf _) (kg _ rfl) fn76 rfl ok76 (by simp) fun F hn s0 s1=>?_;simp[s0,s1,e,dD,hs,D6]
theorem idx174 {α:Type} {enc:α→List AV} {S:AS} {u:AV} {l:List α} {f:FuncId} {caps:List AV} {P:α→Bool} (hz:∀ x,(enc x).length=2) (h:Sl S u 2 (l.flatMap enc)) (hb:l.length≤9223372036854775807) (hf:(f == 287)=false)
  (hc:∀ T,Sub S T→∀ x,x∈l→ai C0 f (.agg (enc x) :: caps) T fun v T'=>v=.bool (P x)∧Sub T T') :
  ai C0 141 [u,.func (.func f) [] caps] S fun v T=>v=.int .i64 (idxI P l)∧Sub S T:=by
 refine bC (kf _) (kg _ rfl) fn174 rfl ok174 (by simp) fun F hn s0 s1=>?_;have u1:=h.sl;have u2:=h.aU hz (by omega);simp[s0,s1,u1,u2];refine av (idxH S u (.func (.func f) [] caps) l P) l.length (pw 0 (Sub.refl S) (by simp[s0]) (by simp[s1]) (by simp) (by simp) (Nat.zero_le _) rfl (by simp)) ?_;rintro k F' S' dY ⟨i,aQ,t0,t1,t7,t8,hi,hk,ha⟩;clear dY s0 s1 hn;by_cases cW:i<l.length
 ·have hx:l[i]?=some l[i]:=List.getElem?_eq_getElem cW;have hl:=cJ (cx:=C0) (e:=52) (h.toSub aQ) hz (by omega) hx ag132 sz132;obtain ⟨v,T',⟨rfl,hs⟩,e⟩:=(hc S' aQ l[i] (List.getElem_mem cW)).ex;cases hp:P l[i] with
  | true=>simp[t0,t1,t7,t8,u1,u2,cW,hl,e,hp,dD f hf,aQ.trans hs,Bq hx hp ha]
  | false=>
   simp[t0,t1,t7,t8,u1,u2,cW,hl,e,hp,dD f hf];exact ⟨l.length-(i+1),by omega,pw (i+1) (aQ.trans hs) (by simp[t0]) (by simp[t1]) (by simp[t7]) (by simp[cd (show i<9223372036854775807 by omega)]) cW rfl (jb hx hp ha)⟩
 ·have iN:∀ x,x∈l→P x=false:=fun x hx=>ha x (by rw[List.take_of_length_le (by omega)];exact hx);simp[t7,t8,cW,tw iN,aQ]
theorem idx189 {α:Type} {enc:α→List AV} {S:AS} {u:AV} {l:List α} {f:FuncId} {caps:List AV} {P:α→Bool} (hz:∀ x,(enc x).length=4) (h:Sl S u 4 (l.flatMap enc)) (hb:l.length≤9223372036854775807) (hf:(f == 287)=false)
  (hc:∀ T,Sub S T→∀ x,x∈l→ai C0 f (.agg (enc x) :: caps) T fun v T'=>v=.bool (P x)∧Sub T T') :
  ai C0 229 [u,.func (.func f) [] caps] S fun v T=>v=.int .i64 (idxI P l)∧Sub S T:=by
 refine bC (kf _) (kg _ rfl) fn189 rfl ok189 (by simp) fun F hn s0 s1=>?_;have u1:=h.sl;have u2:=h.aU hz (by omega);simp[s0,s1,u1,u2];refine av (idxH S u (.func (.func f) [] caps) l P) l.length (pw 0 (Sub.refl S) (by simp[s0]) (by simp[s1]) (by simp) (by simp) (Nat.zero_le _) rfl (by simp)) ?_;rintro k F' S' dY ⟨i,aQ,t0,t1,t7,t8,hi,hk,ha⟩;clear dY s0 s1 hn;by_cases cW:i<l.length
 ·have hx:l[i]?=some l[i]:=List.getElem?_eq_getElem cW;have hl:=cJ (cx:=C0) (e:=100) (h.toSub aQ) hz (by omega) hx ag102 sz102;obtain ⟨v,T',⟨rfl,hs⟩,e⟩:=(hc S' aQ l[i] (List.getElem_mem cW)).ex;cases hp:P l[i] with
  | true=>simp[t0,t1,t7,t8,u1,u2,cW,hl,e,hp,dD f hf,aQ.trans hs,Bq hx hp ha]
  | false=>
   simp[t0,t1,t7,t8,u1,u2,cW,hl,e,hp,dD f hf];exact ⟨l.length-(i+1),by omega,pw (i+1) (aQ.trans hs) (by simp[t0]) (by simp[t1]) (by simp[t7]) (by simp[cd (show i<9223372036854775807 by omega)]) cW rfl (jb hx hp ha)⟩
 ·have iN:∀ x,x∈l→P x=false:=fun x hx=>ha x (by rw[List.take_of_length_le (by omega)];exact hx);simp[t7,t8,cW,tw iN,aQ]
theorem con156 {α:Type} {enc:α→List AV} {S:AS} {u:AV} {l:List α} {f:FuncId} {caps:List AV} {P:α→Bool} (hz:∀ x,(enc x).length=4) (h:Sl S u 4 (l.flatMap enc)) (hb:l.length≤9223372036854775807) (hf:(f == 287)=false)
  (hc:∀ T,Sub S T→∀ x,x∈l→ai C0 f (.agg (enc x) :: caps) T fun v T'=>v=.bool (P x)∧Sub T T') :
  ai C0 184 [u,.func (.func f) [] caps] S fun v T=>v=.bool (l.any P)∧Sub S T:=by
 obtain ⟨v,T,⟨rfl,hs⟩,e⟩:=(idx189 hz h hb hf hc).ex;refine bC (kf _) (kg _ rfl) fn156 rfl ok156 (by simp) fun F hn s0 s1=>?_;simp[s0,s1,e,dD,hs,D6]
theorem clone73 {S:AS} {v:AV} {cs:List AV} (h:Sl S v 2 cs) (hf:sLen v≤1048576):ai C0 87 [v] S fun v' T=>Sub S T∧Sl T v' 2 cs∧isNil v'=isNil v∧sLen v'=sLen v∧(aN v'=0∨S.next<aN v'):=by
 refine aW (kf _) (kg _ rfl) fn73 rfl ok73 (by simp) fun F hn s0=>?_;have h2:=h.sl;cases xq:isNil v with
 | true=>
  obtain ⟨rfl,rfl⟩:=h.isNil xq;simp[s0,Sub.refl,Sl.nil,aN]
 | false=>
  have hx:Sl (⟨S.h.set S.next (.row [] 0 0 false 52),S.next+1⟩:AS) v 2 cs:=⟨h2,by rw[vm h.old];exact h.rd,h.len,Nat.le_succ_of_le h.old⟩
  have kG:fits (sLen v) 16=true:=by simp[fits,cn];omega
  obtain ⟨v',T,e1,r1,r2,r3,r4,r5,r6⟩:=append_empty (ts:=[]) st92 un92 rfl (aa _ _ _) (Nat.lt_succ_self _) hx kG;have aQ:Sub S T:=((Sub.refl S).set _ _ (Nat.le_refl _) _ (Nat.le_succ _)).trans r2;simp[s0,h2,xq,e1,r1.np,aQ,r1,r3,r4];rcases r6 with r6|r6
  ·rw[r6];exact .inr (Nat.lt_succ_self _)
  ·exact .inr (Nat.lt_of_succ_lt r6)
theorem clone127 {S:AS} {v:AV} {cs:List AV} (h:Sl S v 4 cs) (hf:sLen v≤1048576):ai C0 140 [v] S fun v' T=>Sub S T∧Sl T v' 4 cs∧isNil v'=isNil v∧sLen v'=sLen v∧(aN v'=0∨S.next<aN v'):=by
 refine aW (kf _) (kg _ rfl) fn127 rfl ok127 (by simp) fun F hn s0=>?_;have h2:=h.sl;cases xq:isNil v with
 | true=>
  obtain ⟨rfl,rfl⟩:=h.isNil xq;simp[s0,Sub.refl,Sl.nil,aN]
 | false=>
  have hx:Sl (⟨S.h.set S.next (.row [] 0 0 false 100),S.next+1⟩:AS) v 4 cs:=⟨h2,by rw[vm h.old];exact h.rd,h.len,Nat.le_succ_of_le h.old⟩
  have kG:fits (sLen v) 40=true:=by simp[fits,cn];omega
  obtain ⟨v',T,e1,r1,r2,r3,r4,r5,r6⟩:=append_empty (ts:=[]) st103 un103 rfl (aa _ _ _) (Nat.lt_succ_self _) hx kG;have aQ:Sub S T:=((Sub.refl S).set _ _ (Nat.le_refl _) _ (Nat.le_succ _)).trans r2;simp[s0,h2,xq,e1,r1.np,aQ,r1,r3,r4];rcases r6 with r6|r6
  ·rw[r6];exact .inr (Nat.lt_succ_self _)
  ·exact .inr (Nat.lt_of_succ_lt r6)
structure Val where
 kind:Int
 num:Int
 str:List Nat
 bool:Bool
def encV (v:Val):List AV:=[.int .i64 v.kind,.int .i64 v.num,.str v.str,.bool v.bool]
theorem encV_len (v:Val):(encV v).length=4:=rfl
@[simp] theorem bld102a (n:Int):dV C0 100 [(0,.int .i64 1),(1,.int .i64 n)]=some (.agg [.int .i64 1,.int .i64 n,.str [],.bool false]):=by kernel_rfl
@[simp] theorem bld102b (s:List Nat):dV C0 100 [(0,.int .i64 2),(2,.str s)]=some (.agg [.int .i64 2,.int .i64 0,.str s,.bool false]):=by kernel_rfl
@[simp] theorem bld102c (b:Bool):dV C0 100 [(0,.int .i64 3),(3,.bool b)]=some (.agg [.int .i64 3,.int .i64 0,.str [],.bool b]):=by kernel_rfl
@[simp] theorem bld102d:dV C0 100 []=some (.agg [.int .i64 0,.int .i64 0,.str [],.bool false]):=by kernel_rfl
theorem dE {S:AS} {o:bE}:Sub S ⟨S.h.set S.next o,S.next+1⟩:=(Sub.refl S).set _ _ (Nat.le_refl _) _ (Nat.le_succ _)
theorem iW {S:AS} {o o':bE}:Sub S ⟨(S.h.set S.next o).set S.next o',S.next+1⟩:=dE.set _ _ (Nat.le_refl _) _ (Nat.le_refl _)
theorem yC {S:AS} {o o':bE}:Sub S ⟨(S.h.set S.next o).set (S.next+1) o',S.next+2⟩:=dE.set _ _ (Nat.le_succ _) _ (Nat.le_succ _)
theorem number (n:Int) (S:AS):ai C0 231 [.int .i64 n] S fun v T=>v=.agg [.int .i64 1,.int .i64 n,.str [],.bool false]∧Sub S T:=by
 refine aW (kf _) (kg _ rfl) fn74 rfl ok74 (by simp) fun F hn s0=>?_;simp[s0,iW]
theorem word (s:List Nat) (S:AS):ai C0 232 [.str s] S fun v T=>v=.agg [.int .i64 2,.int .i64 0,.str s,.bool false]∧Sub S T:=by
 refine aW (kf _) (kg _ rfl) fn191 rfl ok191 (by simp) fun F hn s0=>?_;simp[s0,iW]
theorem truth (b:Bool) (S:AS):ai C0 233 [.bool b] S fun v T=>v=.agg [.int .i64 3,.int .i64 0,.str [],.bool b]∧Sub S T:=by
 refine aW (kf _) (kg _ rfl) fn192 rfl ok192 (by simp) fun F hn s0=>?_;simp[s0,iW]
def hasV (v:Val):AV:=if v.kind=1 then .iface 2 (.int .i64 v.num) else if v.kind=2 then .iface 9 (.str v.str) else if v.kind=3 then .iface 4 (.bool v.bool) else .b8
theorem has (v:Val) (S:AS):ai C0 230 [.agg (encV v)] S fun r T=>r=hasV v∧Sub S T:=by
 refine cp (kf _) (kg _ rfl) fn190 rfl ok190 (by simp) fun F hn hs=>?_;have s0:=hs 0;clear hs;simp only[List.getElem?_cons_zero,Option.getD_some,encV] at s0;unfold hasV;by_cases h1:v.kind=1
 ·simp[s0,h1,dE]
 by_cases h2:v.kind=2
 ·simp[s0,h2,dE]
 by_cases h3:v.kind=3
 ·simp[s0,h3,dE]
 simp[s0,h1,h2,h3,dE]
def sameB (a b:Val):Bool:=decide (a.kind=b.kind)&&(decide (a.num=b.num)&&(qw a.str b.str&&(a.bool == b.bool)))
def andS (a r:Option Bool):Option Bool:=match a with|some true=>r|x=>x
theorem eqv102 (c:Bool) (a b:Val):bt C0 .eql 100 c (.agg (encV a)) (.agg (encV b))=some (.bool (sameB a b)):=by
 obtain ⟨ak,an,ax,ab⟩:=a;obtain ⟨bk,bn,bx,bb⟩:=b;refine Fc ?_;have e:Ae C0 100 c (.agg [.int .i64 ak,.int .i64 an,.str ax,.bool ab]) (.agg [.int .i64 bk,.int .i64 bn,.str bx,.bool bb]) =
   andS (some (yT ak bk)) (andS (some (yT an bn)) (andS (some (qw ax bx)) (andS (some (ab == bb)) (some true)))):=by kernel_rfl
 simp only[encV];rw[e,gN,gN];unfold sameB andS;cases decide (ak=bk)<;>cases decide (an=bn)<;>cases qw ax bx<;>cases (ab == bb)<;>rfl
theorem ir (c:Bool) (ak an:Int) (ax:List Nat) (ab:Bool) (bk bn:Int) (bx:List Nat) (bb:Bool) :
  bt C0 .eql 100 c (.agg [.int .i64 ak,.int .i64 an,.str ax,.bool ab]) (.agg [.int .i64 bk,.int .i64 bn,.str bx,.bool bb])=some (.bool (sameB ⟨ak,an,ax,ab⟩ ⟨bk,bn,bx,bb⟩)):=eqv102 c ⟨ak,an,ax,ab⟩ ⟨bk,bn,bx,bb⟩
def mayV (v:Val):Bool:=
 if v.kind=1 then sameB v ⟨1,v.num,[],false⟩ else if v.kind=2 then sameB v ⟨2,0,v.str,false⟩&&decide (v.str.length≤32) else if v.kind=3 then sameB v ⟨3,0,[],v.bool⟩ else false
theorem nt158:Tryz.f186.ntmps=34:=by kernel_rfl
theorem rj:aY C0 9=some .string:=by kernel_rfl
theorem mayIs (v:Val) (S:AS):ai C0 186 [.agg (encV v)] S fun r T=>r=.bool (mayV v)∧Sub S T:=by
 obtain ⟨u,T,⟨rfl,hT⟩,e⟩:=(has v ⟨S.h.set S.next (.row (encV v) 0 0 false 100),S.next+1⟩).ex;have jC:Sub S T:=Sub.trans dE hT;have g0:T.h.get S.next=some (.row (encV v) 0 0 false 100):=by
  rw[hT.h _ (Nat.lt_succ_self _)];exact aa _ _ _
 have hTn:S.next<T.next:=hT.next
 refine cp (kf _) (kg _ rfl) Ez rfl DD (by simp) fun F hn hs=>?_;rw[nt158] at hn;have s0:=hs 0;clear hs;obtain ⟨k,n,s,b⟩:=v;simp only[List.getElem?_cons_zero,List.getElem?_cons_succ,Option.getD_some,encV,hasV] at s0 e g0;unfold mayV;by_cases h1:k=1
 ·subst h1;obtain ⟨r1,T1,⟨rfl,lZ⟩,e1⟩:=(number n T).ex;have g1:T1.h.get S.next=some (.row [.int .i64 1,.int .i64 n,.str s,.bool b] 0 0 false 100):=by rw[lZ.h _ hTn];exact g0
  simp[s0,dD,e,g0,hn];refine aK [.r 0 1,.p,.e [],.p,.p] (n:=34) (by kernel_rfl) (by simp[hn]) ?_;simp[s0,dD,e,e1,g0,g1,ir,jC.trans lZ]
 by_cases h2:k=2
 ·subst h2;simp at e;obtain ⟨r1,T1,⟨rfl,lZ⟩,e1⟩:=(word s T).ex;have g1:T1.h.get S.next=some (.row [.int .i64 2,.int .i64 n,.str s,.bool b] 0 0 false 100):=by rw[lZ.h _ hTn];exact g0
  simp[s0,dD,e,g0,hn];refine aK [.r 0 1,.p,.e [],.p,.p,.p,.r 0 0,.p,.p,.p] (n:=34) (by kernel_rfl) (by simp[hn]) ?_;cases hb:sameB ⟨2,n,s,b⟩ ⟨2,0,s,false⟩ with
  | true=>
   have c1:decide (((s.length:Nat):Int)≤32)=decide (s.length≤32):=by
    by_cases hh:s.length≤32<;>simp[hh]<;>omega
   simp[s0,dD,e,e1,g0,g1,ir,hb,cw rj,jC.trans lZ,c1]
  | false=>simp[s0,dD,e,e1,g0,g1,ir,hb,jC.trans lZ]
 by_cases h3:k=3
 ·subst h3;simp at e;obtain ⟨r1,T1,⟨rfl,lZ⟩,e1⟩:=(truth b T).ex;have g1:T1.h.get S.next=some (.row [.int .i64 3,.int .i64 n,.str s,.bool b] 0 0 false 100):=by rw[lZ.h _ hTn];exact g0
  simp[s0,dD,e,g0,hn];refine aK [.r 0 1,.p,.e [],.p,.p] (n:=34) (by kernel_rfl) (by simp[hn]) ?_;simp[s0,dD,e,e1,g0,g1,ir,jC.trans lZ]
 ·simp[h1,h2,h3] at e;simp[s0,h1,h2,h3,dD,e,g0,jC]
def zeroV:Val:=⟨0,0,[],false⟩
structure Con where
 name:List Nat
 op:Int
 val:Val
 qF:AV
 bX:List Val
def encC (c:Con):List AV:=[.str c.name,.int .i64 c.op,.int .i64 c.val.kind,.int .i64 c.val.num,.str c.val.str,.bool c.val.bool,c.qF]
theorem encC_len (c:Con):(encC c).length=7:=rfl
structure ConOk (S:AS) (c:Con):Prop where
 sl:Sl S c.qF 4 (c.bX.flatMap encV)
 le:c.bX.length≤9223372036854775807
theorem ConOk.sub {S T:AS} {c:Con} (h:ConOk S c) (hs:Sub S T):ConOk T c:=⟨h.sl.toSub hs,h.le⟩
structure PredAt (S:AS) (p:AV) (cs:List Con):Prop where
 sl:Sl S p 7 (cs.flatMap encC)
 yW:∀ c,c∈cs→ConOk S c
 le:cs.length≤9223372036854775807
theorem PredAt.sub {S T:AS} {p:AV} {cs:List Con} (h:PredAt S p cs) (hs:Sub S T):PredAt T p cs:=⟨h.sl.toSub hs,fun c hc=>(h.yW c hc).sub hs,h.le⟩
theorem not157 (v:Val) (S:AS):ai C0 185 [.agg (encV v)] S fun r T=>r=.bool (!mayV v)∧Sub S T:=by
 obtain ⟨r,T,⟨rfl,hT⟩,e⟩:=(mayIs v ⟨S.h.set S.next (.row (encV v) 0 0 false 100),S.next+1⟩).ex;refine cp (kf _) (kg _ rfl) fn157 rfl ok157 (by simp) fun F hn hs=>?_;have s0:=hs 0;clear hs;simp only[List.getElem?_cons_zero,List.getElem?_cons_succ,Option.getD_some,encV] at s0 e;simp[s0,e,dD,Sub.trans dE hT]
def setB (c:Con):Bool:=!c.bX.any fun v=>!mayV v
def mayC (c:Con):Bool:=
 if c.name.length<1 then false else if 16<c.name.length then false
 else if c.op=1 then sameB c.val zeroV&&decide (c.bX.length=0)
 else if 2≤c.op∧c.op≤7 then mayV c.val&&decide (c.bX.length=0)
 else if c.op=8 then mayV c.val&&(decide (c.val.kind=2)&&decide (c.bX.length=0))
 else if c.op=9 then sameB c.val zeroV&&(decide (1≤c.bX.length)&&(decide (c.bX.length≤6)&&setB c))
 else false
set_option maxHeartbeats 4000000 in
theorem mayCons (c:Con) {S:AS} (hc:ConOk S c):ai C0 146 [.agg (encC c)] S fun r T=>r=.bool (mayC c)∧Sub S T:=by
 have h1:Sub S ⟨S.h.set S.next (.row (encC c) 0 0 false 103),S.next+1⟩:=dE;obtain ⟨v,T,⟨rfl,hT⟩,e⟩:=(con156 (P:=fun v=>!mayV v) (f:=185) (caps:=[]) encV_len (hc.sub h1).sl (by have:=hc.le;omega) rfl (fun T hT v hv=>not157 v T)).ex;obtain ⟨r,U,⟨rfl,hU⟩,e2⟩:=(mayIs c.val T).ex;have sL:=h1.trans hT;have hU1:=sL.trans hU;have g0:T.h.get S.next=some (.row (encC c) 0 0 false 103):=by rw[hT.h _ (Nat.lt_succ_self _)];exact aa _ _ _
 have g1:U.h.get S.next=some (.row (encC c) 0 0 false 103):=by rw[hU.h _ hT.next];exact g0
 have u1:=hc.sl.sl;have u2:=hc.sl.aU encV_len (by omega);refine cp (kf _) (kg _ rfl) fn125 rfl ok125 (by simp) fun F hn hs=>?_;have s0:=hs 0;clear hs;have hs:(c.bX.any fun v=>!mayV v)=!setB c:=by simp[setB]
 simp only[List.getElem?_cons_zero,List.getElem?_cons_succ,Option.getD_some,encC,encV,hs] at s0 e e2 g0 g1;unfold mayC;by_cases n1:c.name.length<1
 ·have n1':(c.name.length:Int)<1:=by omega
  simp[s0,cw rj,n1',n1,h1];simp only[encC] at h1;exact h1
 have n1':¬(c.name.length:Int)<1:=by omega
 by_cases n2:16<c.name.length
 ·have n2':(16:Int)<c.name.length:=by omega
  simp[s0,cw rj,n1',n1,n2',n2];simp only[encC] at h1;exact h1
 have n2':¬(16:Int)<c.name.length:=by omega
 have hbe:sameB ⟨c.val.kind,c.val.num,c.val.str,c.val.bool⟩ ⟨0,0,[],false⟩=sameB c.val zeroV:=rfl;have q0:((c.bX.length:Int)=0)=(c.bX.length=0):=by simp
 have q1:((1:Int)≤c.bX.length)=(1≤c.bX.length):=by simp;omega
 have q6:((c.bX.length:Int)≤6)=(c.bX.length≤6):=by simp;omega
 by_cases o1:c.op=1
 ·simp only[o1] at s0 e e2 g0 g1;cases hb:sameB c.val zeroV<;>simp[s0,cw rj,n1',n1,n2',n2,o1,dD,e,e2,g0,g1,u1,u2,ir,hbe,hb,sL]
 by_cases o2:2≤c.op
 ·by_cases o7:c.op≤7
  ·cases hb:mayV c.val<;>simp[s0,cw rj,n1',n1,n2',n2,o1,o2,o7,dD,e,e2,g0,g1,u1,u2,ir,hb,hU1]
  by_cases o8:c.op=8
  ·simp only[o8] at s0 e e2 g0 g1;cases hb:mayV c.val with
   | false=>simp[s0,cw rj,n1',n1,n2',n2,o1,o2,o7,o8,dD,e,e2,g0,g1,u1,u2,ir,hb,hU1]
   | true=>
    by_cases k2:c.val.kind=2
    ·simp only[k2] at s0 e e2 g0 g1;simp[s0,cw rj,n1',n1,n2',n2,o1,o2,o7,o8,dD,e,e2,g0,g1,u1,u2,ir,hb,k2,hU1]
    ·simp[s0,cw rj,n1',n1,n2',n2,o1,o2,o7,o8,dD,e,e2,g0,g1,u1,u2,ir,hb,k2,hU1]
  by_cases o9:c.op=9
  ·simp only[o9] at s0 e e2 g0 g1;cases hb:sameB c.val zeroV with
   | false=>simp[s0,cw rj,n1',n1,n2',n2,o1,o2,o7,o8,o9,dD,e,e2,g0,g1,u1,u2,ir,hbe,hb,sL]
   | true=>
    by_cases l1:1≤c.bX.length
    ·by_cases l6:c.bX.length≤6
     ·simp[s0,cw rj,n1',n1,n2',n2,o1,o2,o7,o8,o9,dD,e,e2,g0,g1,u1,u2,ir,hbe,hb,q1,q6,l1,l6,sL]
     ·simp[s0,cw rj,n1',n1,n2',n2,o1,o2,o7,o8,o9,dD,e,e2,g0,g1,u1,u2,ir,hbe,hb,q1,q6,l1,l6,sL]
    ·simp[s0,cw rj,n1',n1,n2',n2,o1,o2,o7,o8,o9,dD,e,e2,g0,g1,u1,u2,ir,hbe,hb,q1,q6,l1,sL]
  ·simp[s0,cw rj,n1',n1,n2',n2,o1,o2,o7,o8,o9,dD,e,e2,g0,g1,u1,u2,ir,sL]
 ·have o8:¬c.op=8:=by omega
  have o9:¬c.op=9:=by omega
  simp[s0,cw rj,n1',n1,n2',n2,o1,o2,o8,o9,dD,e,e2,g0,g1,u1,u2,ir,sL]
theorem not124 (c:Con) {S:AS} (hc:ConOk S c):ai C0 145 [.agg (encC c)] S fun r T=>r=.bool (!mayC c)∧Sub S T:=by
 have h1:Sub S ⟨S.h.set S.next (.row (encC c) 0 0 false 103),S.next+1⟩:=dE;obtain ⟨r,T,⟨rfl,hT⟩,e⟩:=(mayCons c (hc.sub h1)).ex;have sL:=h1.trans hT;refine cp (kf _) (kg _ rfl) fn124 rfl ok124 (by simp) fun F hn hs=>?_;have s0:=hs 0;clear hs;simp only[List.getElem?_cons_zero,List.getElem?_cons_succ,Option.getD_some,encC] at s0 e;simp[s0,e,dD,sL]
def mayP (cs:List Con):Bool:=decide (cs.length≤6) && !cs.any fun c=>!mayC c
theorem mayPred {S:AS} {p:AV} {cs:List Con} (hp:PredAt S p cs):ai C0 93 [p] S fun r T=>r=.bool (mayP cs)∧Sub S T:=by
 obtain ⟨v,T,⟨rfl,hT⟩,e⟩:=(con76 (P:=fun c=>!mayC c) (f:=145) (caps:=[]) encC_len hp.sl (by have:=hp.le;omega) rfl (fun T hT c hc=>not124 c ((hp.yW c hc).sub hT))).ex;have u1:=hp.sl.sl;have u2:=hp.sl.aU encC_len (by omega);have q6:((cs.length:Int)≤6)=(cs.length≤6):=by simp;omega
 refine aW (kf _) (kg _ rfl) fn71 rfl ok71 (by simp) fun F hn s0=>?_;unfold mayP;by_cases l6:cs.length≤6
 ·simp[s0,u1,u2,q6,l6,e,dD,hT]
 ·simp[s0,u1,u2,q6,l6,dD,Sub.refl]
def tZ (cx:Am.Cx) (t:TypeId):Option (Nat×Nat):=match aY cx t with
 | some (.array n e)=>match aA cx e with|some z=>some (n,z)|none=>none
 | _=>none
def sC (o:Option (Nat×Nat)) (v u:AV):Option AV:=match o,v,u with
 | some (n,z),.ptr id g off ay,.int _ m=>if 0≤m∧m<n then some (.ptr id g (off+m.toNat*z) ay) else none
 | _,_,_=>none
@[simp] theorem arrOk_ptr {n z id g off ay:Nat} {k:IntKind} {m:Int}:sC (some (n,z)) (.ptr id g off ay) (.int k m)=if 0≤m∧m<n then some (.ptr id g (off+m.toNat*z) ay) else none:=rfl
theorem ua {cx:Am.Cx} {F:Fr} {S:AS} {dst:Option Tmp} {ty t:TypeId} {pos:String} {af:Array Edge} {gd:Option (Nat×Bool)} {x ix:Operand} {w:AV} (h:sC (tZ cx t) (eval F x) (eval F ix)=some w) :
  bo cx F S ⟨dst,.indexAddr t x ix,ty,pos,af,gd⟩=.val w S:=by
 unfold sC at h;split at h
 ·rename_i n z id g off ay k m h1 h2 h3;split at h
  ·rename_i hm;cases h;unfold tZ at h1;split at h1
   ·rename_i n' e hu;split at h1
    ·rename_i z' hz;cases h1;obtain ⟨i,rfl⟩:∃ i:Nat,m=i:=⟨m.toNat,by omega⟩
     have bK:i<n:=by omega
     simp only[bo,hu,h2,h3,dS,hz,gI,bK,decide_true,cond_true,aH];rfl
    ·cases h1
   ·cases h1
  ·cases h
 ·cases h
@[simp] theorem zj {cx:Am.Cx} {F:Fr} {S:AS} {dst:Option Tmp} {ty t:TypeId} {pos:String} {af:Array Edge} {gd:Option (Nat×Bool)} {x ix:Tmp} {v u w:AV} (hx:sl F x=v) (hi:sl F ix=u) (h:sC (tZ cx t) v u=some w) :
  bo cx F S ⟨dst,.indexAddr t (.tmp x) (.tmp ix),ty,pos,af,gd⟩=.val w S:=
 ua (by rw[aP,aP,hx,hi];exact h)
def bare (c:Con):Con:={ c with qF:=.ar }
def encT (t:Int×Nat):List AV:=[.int .i64 t.1,.int .u64 t.2]
theorem encT_len (t:Int×Nat):(encT t).length=2:=rfl
def encM (m:List (Int×Nat)):List (Int×AV):=m.map fun p=>(p.1,.int .u64 p.2)
def nget:List (Int×Nat)→Int→Option Nat
 | [],_=>none
 | (a,v) :: m,k=>if k=a then some v else nget m k
def nput:List (Int×Nat)→Int→Nat→List (Int×Nat)
 | [],k,v=>[(k,v)]
 | (a,w) :: m,k,v=>if k=a then (k,v) :: m else (a,w) :: nput m k v
theorem mget_encM (m:List (Int×Nat)) (k:Int):uZ (encM m) k=(nget m k).map fun n:Nat=>AV.int .u64 n:=by
 induction m with
 | nil=>rfl
 | cons p m ih=>
  obtain ⟨a,v⟩:=p;show (if k=a then some (AV.int .u64 v) else uZ (encM m) k)=_;unfold nget;by_cases h:k=a<;>simp[h,ih]
theorem mput_encM (m:List (Int×Nat)) (k:Int) (n:Nat):ot (encM m) k (.int .u64 n)=encM (nput m k n):=by
 induction m with
 | nil=>rfl
 | cons p m ih=>
  obtain ⟨a,v⟩:=p;show (if k=a then (k,AV.int .u64 n) :: encM m else (a,AV.int .u64 v) :: ot (encM m) k (.int .u64 n))=_;unfold nput;by_cases h:k=a
  ·simp[h,encM]
  ·rw[if_neg h,if_neg h,ih];rfl
theorem nget_nput (m:List (Int×Nat)) (k:Int) (n:Nat) (j:Int):nget (nput m k n) j=if j=k then some n else nget m j:=by
 induction m with
 | nil=>simp[nput,nget]
 | cons p m ih=>
  obtain ⟨a,w⟩:=p;unfold nput;by_cases h:k=a
  ·subst h;by_cases hj:j=k<;>simp[nget,hj]
  ·simp only[h,if_false,nget,ih];by_cases hj:j=a
   ·subst hj;have:¬j=k:=fun e=>h e.symm;simp[this]
   ·simp[hj]
theorem nput_mem {m:List (Int×Nat)} {k:Int} {n:Nat} {t:Int×Nat} (h:t∈nput m k n):t=(k,n)∨t∈m:=by
 induction m with
 | nil=>exact .inl (by simpa[nput] using h)
 | cons p m ih=>
  obtain ⟨a,w⟩:=p;unfold nput at h;by_cases hk:k=a
  ·rw[if_pos hk] at h;rcases List.mem_cons.1 h with h|h
   ·exact .inl h
   ·exact .inr (List.mem_cons_of_mem _ h)
  ·rw[if_neg hk] at h;rcases List.mem_cons.1 h with h|h
   ·exact .inr (by rw[h];exact List.mem_cons_self ..)
   ·rcases ih h with h|h
    ·exact .inl h
    ·exact .inr (List.mem_cons_of_mem _ h)
theorem nget_mem {m:List (Int×Nat)} {k:Int} {n:Nat} (h:nget m k=some n):(k,n)∈m:=by
 induction m with
 | nil=>cases h
 | cons p m ih=>
  obtain ⟨a,w⟩:=p;unfold nget at h;by_cases hk:k=a
  ·rw[if_pos hk] at h;cases h;subst hk;exact List.mem_cons_self ..
  ·rw[if_neg hk] at h;exact List.mem_cons_of_mem _ (ih h)
def predFoot (p:AV) (ks:List Con) (id:Nat):Prop:=aN p=id+1∨∃ c,c∈ks∧aN c.qF=id+1
theorem PredAt.aF {S T:AS} {p:AV} {ks:List Con} (h:PredAt S p ks) (hs:∀ id,predFoot p ks id→T.h.get id=S.h.get id) (hn:S.next≤T.next):PredAt T p ks:=
 ⟨h.sl.aF (fun id e=>hs id (.inl e)) hn,fun c hc=>⟨(h.yW c hc).sl.aF (fun id e=>hs id (.inr ⟨c,hc,e⟩)) hn,(h.yW c hc).le⟩,h.le⟩
theorem PredAt.bT {S:AS} {p:AV} {ks:List Con} (h:PredAt S p ks) {id:Nat} (hf:predFoot p ks id):id<S.next:=by
 rcases hf with e|⟨c,hc,e⟩
 ·have:=h.sl.old;omega
 ·have:=(h.yW c hc).sl.old;omega
theorem Gw.fresh {S:AS} {id sz e:Nat} (ck:S.h.get id=some (.row [] 0 0 false e)) (bK:id<S.next):Gw S (.slice id 0 0 0 0 sz (some 0)) sz e []:=
 ⟨⟨by simp[isSl,iG],rfl,by simp[sLen],by simp[aN];omega⟩,.inr ⟨id,0,0,0,0,some 0,rfl,rfl,bK,[],0,0,ck,Nat.le_refl _,rfl⟩⟩
theorem cloneG126 {S:AS} {v:AV} {cs:List AV} (h:Sl S v 7 cs) (hf:sLen v≤1048576):ai C0 139 [v] S fun v' T=>Sub S T∧Gw T v' 7 103 cs∧sLen v'=sLen v∧(aN v'=0∨S.next<aN v'):=by
 refine aW (kf _) (kg _ rfl) fn126 rfl ok126 (by simp) fun F hn s0=>?_;have h2:=h.sl;cases xq:isNil v with
 | true=>
  obtain ⟨rfl,rfl⟩:=h.isNil xq;simp[s0,Sub.refl,Gw.nil,aN]
 | false=>
  have hx:Sl (⟨S.h.set S.next (.row [] 0 0 false 103),S.next+1⟩:AS) v 7 cs:=⟨h2,by rw[vm h.old];exact h.rd,h.len,Nat.le_succ_of_le h.old⟩
  have kG:fits (sLen (.slice S.next 0 0 0 0 7 (some 0))+sLen v) 88=true:=by simp[fits,cn,gZ];omega
  obtain ⟨v',T,e1,r1,r2,r3,r4,r5,r6,r7⟩:=kj (ts:=[]) st24 un24 rfl (Gw.fresh (aa _ _ _) (Nat.lt_succ_self _)) hx kG;rw[List.nil_append] at r1;have aQ:Sub S T:=⟨fun id hi=>by rw[r2 id (Nat.lt_succ_of_lt hi) (by simp[aN];omega)];exact ae _ _ (by omega),Nat.le_trans (Nat.le_succ _) r3⟩
  have r4':sLen v'=sLen v:=by rw[r4];simp[gZ]
  simp[s0,h2,xq,e1,r1.1.np,aQ,r1];refine ⟨r4',?_⟩;rcases r6 with r6|r6
  ·rw[r6];exact .inr (Nat.lt_succ_self _)
  ·exact .inr (Nat.lt_of_succ_lt r6)
theorem set_flat {α:Type} {sz:Nat} {enc:α→List AV} (hz:∀ x,(enc x).length=sz) {d r:List α} {c c':α} {o:Nat} {x:AV} (ho:o<sz) (hc:(enc c).set o x=enc c') :
  ((d++c :: r).flatMap enc).set (d.length*sz+o) x=(d++c' :: r).flatMap enc:=by
 rw[List.flatMap_append,List.flatMap_append,List.flatMap_cons,List.flatMap_cons];have hl:(d.flatMap enc).length=d.length*sz:=fm_len hz d;rw[List.set_append_right _ _ (by omega),hl,Nat.add_sub_cancel_left,List.set_append_left _ _ (by rw[hz];exact ho),hc]
def copH (S T:AS) (ks:List Con) (q:AV) (k:Nat) (F':Fr) (S':AS):Prop:=
 ∃ done:List Con,Sub S S'∧T.next≤S'.next∧sl F' 3=q∧sl F' 8=.int .i64 ks.length∧sl F' 9=.int .i64 done.length∧k=ks.length-done.length∧done.length≤ks.length∧done.map bare=(ks.take done.length).map bare ∧
  Gw S' q 7 103 ((done++ks.drop done.length).flatMap encC)∧∀ c,c∈done→ConOk S' c∧(aN c.qF=0∨T.next<aN c.qF)
theorem copH_mk {S T:AS} {ks:List Con} {q:AV} {k:Nat} {F':Fr} {S':AS} (done:List Con) (h1:Sub S S') (h2:T.next≤S'.next) (h3:sl F' 3=q) (h4:sl F' 8=.int .i64 ks.length) (h5:sl F' 9=.int .i64 done.length)
  (h6:k=ks.length-done.length) (h7:done.length≤ks.length) (h8:done.map bare=(ks.take done.length).map bare) (h9:Gw S' q 7 103 ((done++ks.drop done.length).flatMap encC)) (qQ:∀ c,c∈done→ConOk S' c∧(aN c.qF=0∨T.next<aN c.qF)):copH S T ks q k F' S':=
 ⟨done,h1,h2,h3,h4,h5,h6,h7,h8,h9,qQ⟩
theorem nt72:Tryz.f86.ntmps=24:=by kernel_rfl
theorem su {S:AS} {p:AV} {ks:List Con} (hp:PredAt S p ks) (h6:ks.length≤6) (hs6:∀ c,c∈ks→c.bX.length≤6) :
  ai C0 86 [p] S fun r T=>∃ tu,PredAt T r tu∧tu.map bare=ks.map bare∧Sub S T∧∀ id,predFoot r tu id→S.next≤id:=by
 have hl0:=hp.sl.aU encC_len (by omega);obtain ⟨q,T,⟨hT,hq,hql,hqb⟩,e1⟩:=(cloneG126 hp.sl (by omega)).ex;have hq1:=hq.1.sl;have Bs:sLen q=ks.length:=by omega
 have hqo:=hq.1.old;refine aW (kf _) (kg _ rfl) fn72 rfl ok72 (by simp) fun F hn s0=>?_;rw[nt72] at hn;simp[s0,e1,dD,hq.1.np,jG hq.1.ok,hq1,Bs];refine av (copH S T ks q) ks.length (copH_mk [] hT (Nat.le_refl _) (by simp) (by simp) (by simp) (by simp) (by simp) (by simp) (by simpa using hq) (fun c hc=>by cases hc)) ?_;rintro k F' S' dY ⟨done,aQ,hnx,t3,t8,t9,hk,zZ,hdm,hG,hd⟩;have rn:F'.n=24:=by rw[dY];simp[hn]
 clear dY s0 hn;by_cases hi:done.length<ks.length
 ·obtain ⟨c,hc⟩:∃ c,ks[done.length]?=some c:=⟨_,List.getElem?_eq_getElem hi⟩
  have hdrop:ks.drop done.length=c :: ks.drop (done.length+1):=by
   obtain ⟨_,rfl⟩:=List.getElem?_eq_some_iff.1 hc;exact List.drop_eq_getElem_cons hi
  have hcm:c∈ks:=List.mem_of_getElem? hc;rw[hdrop] at hG;have hgc:(done++c :: ks.drop (done.length+1))[done.length]?=some c:=by simp
  have ld:=fK (cx:=C0) (e:=101) (o:=6) hG.1 encC_len (by omega) hgc rfl (by kernel_rfl);have hpp:=pq (k:=done.length) hq1 (by rw[Bs];exact hi);obtain ⟨w,U,⟨hU,hw,_,_,hwb⟩,e2⟩:=(clone127 ((hp.yW c hcm).sl.toSub aQ) (by have:=hs6 c hcm;have:=(hp.yW c hcm).sl.aU encV_len (by omega);omega)).ex;obtain ⟨V,e3,hGV,eX,hVn⟩:=(hG.aF (fun id e=>hU.h id (by have:=hG.1.old;omega)) hU.next).putc (x:=w) (i:=done.length) (o:=6) (by rw[Bs];exact hi) (by omega);rw[set_flat encC_len (c':={ c with qF:=w }) (by omega) rfl] at hGV;have hUV:∀ {v:AV},aN v≠aN q→∀ id,aN v=id+1→V.h.get id=U.h.get id:=fun cN id e=>eX id (by omega);simp[t3,t8,t9,hi,hq1,Bs,eQ hpp,ld,e2,e3,dD,hw.cells,hw.np,jG hw.ok,jG (hp.yW c hcm).sl.ok];have hwne:aN w≠aN q∨aN w=0:=by
   rcases hwb with h|h
   ·exact .inr h
   ·left;omega
  refine ⟨ks.length-(done.length+1),by omega,copH_mk (done++[{ c with qF:=w }]) ?_ (by rw[hVn];exact Nat.le_trans hnx hU.next) (by simp[t3]) (by simp[t8]) (by simp[cd (show done.length<9223372036854775807 by omega)]) (by simp) (by simp;omega) ?_ (by simpa using hGV) ?_⟩
  ·exact ⟨fun id ck=>by
    rw[eX id (by rcases hqb with h|h<;>omega)];exact (aQ.trans hU).h id ck,by rw[hVn];exact (aQ.trans hU).next⟩
  ·rw[List.map_append,hdm];obtain ⟨_,rfl⟩:=List.getElem?_eq_some_iff.1 hc;rw[List.length_append,List.length_singleton,List.take_succ_eq_append_getElem hi,List.map_append];rfl
  ·intro x hx;rcases List.mem_append.1 hx with hx|hx
   ·obtain ⟨g1,g2⟩:=hd x hx;have g3:=g1.sub hU;refine ⟨⟨g3.sl.aF (fun id e=>eX id (by rcases g2 with g2|g2<;>omega)) (by omega),g3.le⟩,g2⟩
   ·simp at hx;subst hx;refine ⟨⟨hw.aF (fun id e=>eX id (by rcases hwb with g2|g2<;>omega)) (by omega),(hp.yW c hcm).le⟩,?_⟩;rcases hwb with h|h
    ·exact .inl h
    ·exact .inr (by simp only;omega)
 ·have hde:done.length=ks.length:=by omega
  have hdr:ks.drop done.length=[]:=by rw[hde];simp
  rw[hdr,List.append_nil] at hG;simp[t3,t8,t9,hi,jG hq.1.ok,hq.1.np];refine ⟨done,⟨hG.1,fun c hc=>(hd c hc).1,by omega⟩,by rw[hdm,hde,List.take_length],aQ,fun id hf=>?_⟩;have hTn:=hT.next
  rcases hf with e|⟨c,hc,e⟩
  ·rcases hqb with h|h<;>omega
  ·rcases (hd c hc).2 with h|h<;>omega
end Go.Proofs.YtdknlbnljfdhgaaGreatDoor.mod
end
