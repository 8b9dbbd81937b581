/-
  What a call changes is its own: without memory.
-/
import Derived.Test.YtdknlbnljfdhgaaGreatDoorPartE
import Derived.Test.YtdknlbnljfdhgaaGreatDoorAmArgs
namespace Go.Proofs.YtdknlbnljfdhgaaGreatDoor.bk
open Go Go.Am Go.Proofs.YtdknlbnljfdhgaaGreatDoor.dk
open Go.Proofs.YtdknlbnljfdhgaaGreatDoor.mod (Val encV encV_len Con encC encC_len ConOk PredAt mayP mayC mayV setB sameB zeroV mayPred encT encT_len bare encM nget nput mget_encM mput_encM nget_nput nput_mem nget_mem predFoot idxI idx174)
set_option linter.unusedVariables false
set_option linter.unusedSimpArgs false
def mineB (eZ id:Int) (p i j:Nat):Bool:=!decide (4≤eZ)&&decide ((i:Int)=id)&&(decide (1<eZ)||decide (j=p))
def EP (P:PB) (o:yz) (P':PB):Prop:=
 (4≤o.eZ∧P'.aM=P.aM) ∨
 (o.eZ<4∧P'.ey=P.ey∧∃ k:Nat,o.id=k∧k<8∧(∀ i,i≠k→P'.aM i=P.aM i)∧(o.eZ≤1→dZ (P'.aM k) ((ti o.cU:Nat):Int)=o.n∧∀ j:Int,j≠(ti o.cU:Nat)→dZ (P'.aM k) j=dZ (P.aM k) j))
theorem ep_of {X:dX} {o:yz} {P':PB} (h:EOp X o P'):EP X.pure o P':=by
 rcases h with ⟨hw,k,x,e1,e2,e3,e4,e5,rfl⟩|⟨hw,k,e1,e2,e3,rfl⟩|⟨hw,k,x,e1,e2,e3,rfl⟩|⟨hw,k,e1,e2,rfl⟩|⟨hw,k,e1,e2,rfl⟩
 ·refine .inr ⟨by omega,rfl,k,e1,e2,fun i hi=>if_neg hi,fun _=>?_⟩;have ec:X.pure.aM k=some ⟨x.ks.map bare,x.st,x.cur⟩:=by show (X.aM k).map dB.pure=_;rw[e3];rfl
  have ep:(X.pure.dr k (some ⟨x.ks.map bare,x.st,nput x.cur ((ti o.cU:Nat):Int) o.n⟩)).aM k=some ⟨x.ks.map bare,x.st,nput x.cur ((ti o.cU:Nat):Int) o.n⟩:=if_pos rfl;rw[ep,ec];refine ⟨?_,fun j hj=>?_⟩
  ·show (match nget (nput x.cur _ o.n) _ with|some n=>n|none=>vX x.st _)=_;rw[nget_nput,if_pos rfl]
  ·show (match nget (nput x.cur _ o.n) j with|some n=>n|none=>vX x.st j)=(match nget x.cur j with|some n=>n|none=>vX x.st j);rw[nget_nput,if_neg hj]
 ·exact .inr ⟨by omega,rfl,k,e1,e2,fun i hi=>if_neg hi,fun h=>by omega⟩
 ·exact .inr ⟨by omega,rfl,k,e1,e2,fun i hi=>if_neg hi,fun h=>by omega⟩
 ·exact .inl ⟨by omega,rfl⟩
 ·exact .inl ⟨by omega,rfl⟩
section
variable {P P':PB} {o:yz}
theorem own_cur (h:EP P o P') {i j:Nat} (hm:mineB o.eZ o.id (ti o.cU) i j=false):dZ (P'.aM i) (j:Int)=dZ (P.aM i) (j:Int):=by
 rcases h with ⟨hw,e⟩|⟨hw,_,k,e1,e2,e3,e4⟩
 ·rw[e]
 ·by_cases hi:i=k
  ·subst hi;unfold mineB at hm;rw[decide_eq_false (by omega),e1,decide_eq_true rfl] at hm;simp at hm;exact (e4 (by omega)).2 j (by omega)
  ·rw[e3 i hi]
theorem own_ack (h:EP P o P') (hw:o.eZ≤1):∃ k:Nat,o.id=k∧k<8∧dZ (P'.aM k) ((ti o.cU:Nat):Int)=o.n:=by
 rcases h with ⟨uz,e⟩|⟨_,_,k,e1,e2,e3,e4⟩
 ·omega
 ·exact ⟨k,e1,e2,(e4 hw).1⟩
def Dq (n:Int) (L:List PSb):List PSb:=L.filter fun s=>!decide (s.id=n)
theorem Dz (n:Int) (L:List gE):(pN n L).map gE.pure=Dq n (L.map gE.pure):=by
 unfold pN Dq;rw[List.filter_map];rfl
theorem own_subs (h:EP P o P') (hw:o.eZ<4):Dq o.id (kq P' 8)=Dq o.id (kq P 8)∧ve P' 4=ve P 4:=by
 rcases h with ⟨uz,e⟩|⟨_,ea,k,e1,e2,e3,e4⟩
 ·omega
 ·refine ⟨?_,by unfold ve;rw[show adO P'=adO P from by funext i;unfold adO;rw[ea]]⟩;unfold Dq kq;rw[List.filter_filterMap,List.filter_filterMap];congr 1;funext i;by_cases hi:i=k
  ·subst hi;unfold sbO;rw[e1];cases P'.aM i<;>cases P.aM i<;>simp[Option.filter]
  ·unfold sbO;rw[e3 i hi]
theorem own_ads (h:EP P o P') (hw:4≤o.eZ):kq P' 8=kq P 8:=by
 rcases h with ⟨_,e⟩|⟨uz,_⟩
 ·unfold kq;rw[show sbO P'=sbO P from by funext i;unfold sbO;rw[e]]
 ·omega
theorem own_curF (h:EP P o P') {i j:Nat} (hi:i<8) (hj:j<16) (hm:mineB o.eZ o.id (ti o.cU) i j=false):jo P' 128 (i*16+j)=jo P 128 (i*16+j):=by
 unfold jo;rw[if_pos (by omega),if_pos (by omega),show (i*16+j) / 16=i by omega,show (i*16+j)%16=j by omega];exact own_cur h hm
theorem own_ackF (h:EP P o P') (hw:o.eZ≤1):∃ k:Nat,o.id=k∧k<8∧jo P' 128 (k*16+ti o.cU)=o.n:=by
 obtain ⟨k,h1,h2,h3⟩:=own_ack h hw;have:=(wJ o.cU).2;refine ⟨k,h1,h2,?_⟩;unfold jo;rw[if_pos (by omega),show (k*16+ti o.cU) / 16=k by omega,show (k*16+ti o.cU)%16=ti o.cU by omega];exact h3
end
open Go.Proofs.YtdknlbnljfdhgaaGreatDoor.mod (Val encV encV_len Con encC encC_len ConOk PredAt mayP mayC mayV setB sameB zeroV mayPred encT encT_len bare encM nget nput mget_encM mput_encM nget_nput nput_mem nget_mem predFoot idxI idx174)
def wT (q:Nat):PD:=⟨[],q,-1,false⟩
section
variable {S T U:AS} {D:Dk}
theorem bu130 (m:Nat) (n:Int):dV C1 130 [(0,AV.map m),(1,AV.int .i64 n),(2,.int .i64 (-1)),(3,.bool false)]=some (.agg [.map m,.int .i64 n,.int .i64 (-1),.bool false]):=by kernel_rfl
set_option maxRecDepth 20000 in
theorem new22 {q:Nat} (hq:q≤4194304):ai C1 22 [.int .i64 q] S fun u T=>Sub S T∧∃ D,u=.tuple [.ptr D.dp 0 0 4,.int .i64 0]∧bu T D∧D.pd=wT q∧(∀ id,D.bT id→S.next≤id):=by
 have q1:¬((q:Int)<0):=by omega
 have q2:¬((4194304:Int)<q):=by omega
 refine aW (dJ _) (dM _ rfl) fn5 rfl ok5 (by simp) fun F hn s0=>?_;simp[s0,q1,q2,bu130];have hf:∀ id,(⟨S.next+1,S.next,[],q,-1,false⟩:Dk).bT id→S.next≤id:=fun id hf=>by
  rcases hf with e|e|⟨f,hf,_⟩
  ·have e:id=S.next+1:=e;omega
  ·have e:id=S.next:=e;omega
  ·cases hf
 refine ⟨⟨fun id hi=>(ae _ _ (by omega)).trans (ae _ _ (by omega)),by show S.next≤S.next+2;omega⟩,⟨S.next+1,S.next,[],q,-1,false⟩,rfl,?_,rfl,hf⟩;have no:∀ {P:Fl→Prop} (f:Fl),f∈([]:List Fl)→P f:=fun f hf=>(by cases hf)
 exact ⟨aa _ _ _,Nat.lt_succ_self (S.next+1),Nat.lt_succ_of_lt (Nat.lt_succ_self S.next),⟨[],0,(ae _ _ (show S.next≠S.next+1 by omega)).trans (aa _ _ _),rfl,by simp[nD]⟩,no,no,no,List.Pairwise.nil,Nat.succ_ne_self _,no,no,List.Pairwise.nil⟩
def dy:List Nat:=[98,111,111,107,46,110,101,119]
def qe:List Nat:=[98,111,111,107]
theorem wS:(wT 1048576).ok:=⟨by show 0≤512;decide,Nat.zero_le _,by show 1048576≤_;decide,by show (-1:Int)<_;decide,List.Pairwise.nil⟩
theorem mayN:j5 dy=true:=by decide
theorem mayK:j5 qe=true:=by decide
theorem pd_cre:(wT 1048576).create dy=(0,⟨[⟨dy,[],0⟩],1048576,-1,false⟩):=by
 unfold PD.create PD.on PD.aT PD.fR mF;rw[mayN];rfl
theorem pd_app {bs:List AV} (h:bs.length≤100000):PD.append ⟨[⟨dy,[],0⟩],1048576,-1,false⟩ dy bs=(0,⟨[⟨dy,bs,0⟩],1048576,-1,false⟩):=by
 have hf:PD.gg ⟨[⟨dy,[],0⟩],1048576,-1,false⟩ bs.length=0:=by
  unfold PD.gg PD.used;rw[if_neg (by simp;omega)]
 unfold PD.append PD.on PD.aT PD.aG;rw[hf,mayN];rfl
theorem pd_syn {bs:List AV}:PD.sync ⟨[⟨dy,bs,0⟩],1048576,-1,false⟩ dy=(0,⟨[⟨dy,bs,bs.length⟩],1048576,-1,false⟩):=by
 unfold PD.sync PD.on PD.aT PD.aG;rw[mayN];rfl
theorem pd_ren {bs:List AV}:PD.rename ⟨[⟨dy,bs,bs.length⟩],1048576,-1,false⟩ dy qe=(0,⟨[⟨qe,bs,bs.length⟩],1048576,-1,false⟩):=by
 unfold PD.rename PD.on PD.aT PD.aG mF;rw[mayN,mayK];rfl
def kX (n:Nat):Rec:=⟨1,0,0,n,false,.ar,[],.ar,[]⟩
theorem bl115 (n:Int):dV C1 115 [(0,.int .i64 1),(3,.int .u64 n)]=some (.agg [.int .i64 1,.int .i64 0,.int .i64 0,.int .u64 n,.bool false,.ar,.ar]):=by kernel_rfl
def al0H (S:AS) (X:dX) (w:AV) (k:Nat) (F':Fr) (S':AS):Prop:=
 ∃ j:Nat,S'=S∧sl F' 0=.ptr X.b 0 1 27∧sl F' 3=w∧sl F' 19=za X∧sl F' 20=.int .i64 j∧j≤8∧F'.n=90∧k=8-j
theorem al0H_mk {X:dX} {w:AV} {k:Nat} {F':Fr} (j:Nat) (h1:T=S) (h2:sl F' 0=.ptr X.b 0 1 27) (h3:sl F' 3=w) (h4:sl F' 19=za X) (h5:sl F' 20=.int .i64 j) (h6:j≤8) (h7:F'.n=90) (h8:k=8-j):al0H S X w k F' T:=
 ⟨j,h1,h2,h3,h4,h5,h6,h7,h8⟩
def al1H (S:AS) (X:dX) (w:AV) (k:Nat) (F':Fr) (S':AS):Prop:=
 ∃ j:Nat,Sub S S'∧sl F' 3=w∧sl F' 69=zb X∧sl F' 70=.int .i64 j∧j≤4∧F'.n=90∧k=4-j
theorem al1H_mk {X:dX} {w:AV} {k:Nat} {F':Fr} (j:Nat) (h1:Sub S T) (h3:sl F' 3=w) (h4:sl F' 69=zb X) (h5:sl F' 70=.int .i64 j) (h6:j≤4) (h7:F'.n=90) (h8:k=4-j):al1H S X w k F' T:=
 ⟨j,h1,h3,h4,h5,h6,h7,h8⟩
theorem nt110:Tryz.f110.ntmps=90:=by kernel_rfl
set_option maxRecDepth 20000 in
theorem all110e {X:dX} (h:bR S X) (hs8:∀ j,j<8→X.aM j=none) (ha4:∀ j,j<4→(X.ey j).js=0):ai C1 110 [.ptr X.b 0 1 27] S fun r T=>Sub S T∧∃ B,r=.slice B 0 0 1 7 7 (some 1)∧S.next≤B∧B<T.next∧T.h.get B=some (.row (kX X.fb).c 0 0 false 115):=by
 have dI:=h.row;unfold dX.c at dI;obtain ⟨S1,dL⟩:∃ S1:AS,S1=⟨S.h.set S.next (.row (kX X.fb).c 0 0 false 115),S.next+1⟩:=⟨_,rfl⟩
 have s1:Sub S S1:=by rw[dL];exact seg.dE
 have g1:S1.h.get S.next=some (.row (kX X.fb).c 0 0 false 115):=by rw[dL];exact aa _ _ _
 have n1:S1.next=S.next+1:=by rw[dL]
 have xn:=(h.toSub s1).row;unfold dX.c at xn;have jD:=dL.symm;clear dL;have mE:∀ (F:Fr) (B:Nat) (y:Tmp),sl F y=.agg (kX X.fb).c→aC C1 F B (.buildSlice 189 1 #[(0,.tmp y)])=some (.slice B 0 0 1 7 7 (some 1),.row (kX X.fb).c 0 0 false 115):=fun F B y a0=>by
  have:=c9 (cx:=C1) (F:=F) (t:=189) (p:=(115,7,88)) (id:=B) (n:=1) (a:=#[(0,.tmp y)]) [(kX X.fb).c] st189 rfl (by simp[a0,cellsOf]) (by simp[Rec.c]) (by decide);rw[this];simp[Rec.c]
 have hlc:(kX X.fb).c=[.int .i64 1,.int .i64 0,.int .i64 0,.int .u64 X.fb,.bool false,.ar,.ar]:=rfl;rw[hlc] at jD mE;refine aW (dJ _) (dM _ rfl) fn110 rfl ok110 (by simp) fun F hn s0=>?_;rw[nt110] at hn;simp[s0,dI,bl115,mE,jD,xn];refine av (al0H S1 X (.slice S.next 0 0 1 7 7 (some 1))) 8 (al0H_mk 0 rfl (by simp[s0]) (by simp) (by simp[za]) (by simp) (by omega) (by simp[hn]) rfl) ?_;clear s0 hn;rintro k F' S'-⟨j,rfl,t0,t3,t19,t20,hj,hn,hk⟩;by_cases hj8:j<8
 ·have Ch:(j:Int)<8:=by omega
  have Eg:∀ (F:Fr) (dst:Option Tmp) (ty:TypeId) (pos:String) (af:Array Edge) (gd:Option (Nat×Bool)),sl F 19=za X→sl F 20=.int .i64 j→bo C1 F S' ⟨dst,.index 105 (.tmp 19) (.tmp 20),ty,pos,af,gd⟩=.val .bd S':=fun F dst ty pos af gd h1 h2=>by
   have:=idx105 (S:=S') (dst:=dst) (ty:=ty) (pos:=pos) (af:=af) (gd:=gd) h1 h2 hj8;rw[hs8 j hj8] at this;exact this
  have hw:=IntWalk.i64_in ((j:Int)+1) (by omega);simp[t0,t3,t19,t20,Ch,hj8,Eg,hw];exact ⟨8-(j+1),by omega,al0H_mk (j+1) rfl (by simp[t0]) (by simp[t3]) (by simp[t19]) (by simp) (by omega) (by simp[hn]) rfl⟩
 obtain rfl:j=8:=by omega
 simp[t0,t3,t19,t20,xn];refine av (al1H S' X (.slice S.next 0 0 1 7 7 (some 1))) 4 (al1H_mk 0 (Sub.refl _) (by simp[t3]) (by simp[zb]) (by simp) (by omega) (by simp[hn]) rfl) ?_;clear t0 t3 t19 t20 hn;rintro k F' S2-⟨j,h2,t3,t69,t70,hj,hn,hk⟩;by_cases hj4:j<4
 ·have Ch:(j:Int)<4:=by omega
  have Eg:∀ (F:Fr) (dst:Option Tmp) (ty:TypeId) (pos:String) (af:Array Edge) (gd:Option (Nat×Bool)),sl F 69=zb X→sl F 70=.int .i64 j→bo C1 F S2 ⟨dst,.index 106 (.tmp 69) (.tmp 70),ty,pos,af,gd⟩=.val (.agg (X.ey j).c) S2:=fun F dst ty pos af gd h1 h2=>idx106 h1 h2 hj4;have hw:=IntWalk.i64_in ((j:Int)+1) (by omega);have hv:=ha4 j hj4;simp only[jO.c,hv] at Eg;have hZ:Sub S2 ⟨(S2.h.set S2.next (.row [.int .i64 0,.int .u64 0,.bool false,.ar] 0 0 false 98)).set S2.next (.row [.int .i64 (X.ey j).k,.int .u64 (0:Nat),.bool (X.ey j).there,(X.ey j).p] 0 0 false 98),S2.next+1⟩:=seg.iW;have k1:=(h.ad j hj4).1.at_.sl.cells;simp[t3,t69,t70,Ch,hj4,Eg,hw,k1];exact ⟨4-(j+1),by omega,al1H_mk (j+1) (h2.trans hZ) (by simp[t3]) (by simp[t69]) (by simp) (by omega) (by simp[hn]) rfl⟩
 obtain rfl:j=4:=by omega
 simp[t3,t69,t70];have:=h2.next
 exact ⟨s1.trans h2,by omega,(h2.h _ (by omega)).trans g1⟩
end
open Go.Proofs.YtdknlbnljfdhgaaGreatDoor.mod (Val encV encV_len Con encC encC_len ConOk PredAt mayP mayC mayV setB sameB zeroV mayPred encT encT_len bare encM nget nput mget_encM mput_encM nget_nput nput_mem nget_mem predFoot idxI idx174)
section
variable {S T U:AS} {D:Dk} {a b:Nat}
theorem cre112 (h:bu S D) (ok:D.pd.ok) (ha:S.h.get a=some (.row [.ptr D.dp 0 0 4] 0 0 false 24)):ai C1 112 [.ptr a 0 0 1] S (dk.Left D S (D.pd.create dy)):=by
 obtain ⟨r,T,hr,e⟩:=(create_pd h ok (name:=dy) (by decide) (by decide)).ex;have xp:=hr.ret;subst xp;unfold dy at e;refine aW (dJ _) (dM _ rfl) fn112 rfl ok112 (by simp) fun F hn s0=>?_;simp[s0,ha,bN,e];exact hr
theorem app113 (h:bu S D) (ok:D.pd.ok) (ha:S.h.get a=some (.row [.ptr D.dp 0 0 4] 0 0 false 24)) {v:AV} {bs:List AV} (hb:S.h.get b=some (.row [v] 0 0 false 32)) (hv:Sl S v 1 bs) (tE:aN v≠D.dp+1) (xD:bs.length≤1073741824):ai C1 113 [.ptr a 0 0 1,.ptr b 0 0 1] S (dk.Left D S (D.pd.append dy bs)):=by
 obtain ⟨r,T,hr,e⟩:=(Ao h ok (name:=dy) (by decide) (by decide) hv tE xD).ex;have xp:=hr.ret;subst xp;unfold dy at e;refine bC (dJ _) (dM _ rfl) fn113 rfl ok113 (by simp) fun F hn s0 s1=>?_;simp[s0,s1,ha,hb,bN,e];exact hr
theorem syn114 (h:bu S D) (ok:D.pd.ok) (ha:S.h.get a=some (.row [.ptr D.dp 0 0 4] 0 0 false 24)):ai C1 114 [.ptr a 0 0 1] S (dk.Left D S (D.pd.sync dy)):=by
 obtain ⟨r,T,hr,e⟩:=(sync_pd h ok (name:=dy) (by decide) (by decide)).ex;have xp:=hr.ret;subst xp;unfold dy at e;refine aW (dJ _) (dM _ rfl) fn114 rfl ok114 (by simp) fun F hn s0=>?_;simp[s0,ha,bN,e];exact hr
theorem ren115 (h:bu S D) (ok:D.pd.ok) (ha:S.h.get a=some (.row [.ptr D.dp 0 0 4] 0 0 false 24)):ai C1 115 [.ptr a 0 0 1] S (dk.Left D S (D.pd.rename dy qe)):=by
 obtain ⟨r,T,hr,e⟩:=(rename_pd h ok (old:=dy) (name:=qe) (by decide) (by decide) (by decide) (by decide) (by decide)).ex;have xp:=hr.ret;subst xp;unfold dy qe at e;refine aW (dJ _) (dM _ rfl) fn115 rfl ok115 (by simp) fun F hn s0=>?_;simp[s0,ha,bN,e];exact hr
def rA (bs:List AV):Nat→PD
 | 0=>wT 1048576
 | 1=>⟨[⟨dy,[],0⟩],1048576,-1,false⟩
 | 2=>⟨[⟨dy,bs,0⟩],1048576,-1,false⟩
 | 3=>⟨[⟨dy,bs,bs.length⟩],1048576,-1,false⟩
 | _=>⟨[⟨qe,bs,bs.length⟩],1048576,-1,false⟩
theorem qL {n:List Nat} {bs:List AV} {k:Nat} (h:bs.length≤100000):PD.ok ⟨[⟨n,bs,k⟩],1048576,-1,false⟩:=
 ⟨by show 1≤512;decide,by show (bs.length+0)≤1048576;omega,by show 1048576≤_;decide,by show (-1:Int)<_;decide,by simp⟩
theorem CL {bs:List AV} (h:bs.length≤100000):∀ i,(rA bs i).ok
 | 0=>wS
 | 1=>qL (by simp)
 | 2=>qL h
 | 3=>qL h
 | _+4=>qL h
def cO (a b:Nat):Nat→AV
 | 0=>.func (.func 112) [] [.ptr a 0 0 1]
 | 1=>.func (.func 113) [] [.ptr a 0 0 1,.ptr b 0 0 1]
 | 2=>.func (.func 114) [] [.ptr a 0 0 1]
 | _=>.func (.func 115) [] [.ptr a 0 0 1]
def stepG:Nat→Nat|0=>112|1=>113|2=>114|_=>115
def nO (a b:Nat):Nat→List AV|1=>[.ptr a 0 0 1,.ptr b 0 0 1]|_=>[.ptr a 0 0 1]
theorem stepF_eq (a b i:Nat):cO a b i=.func (.func (stepG i)) [] (nO a b i):=by
 match i with
 | 0|1|2=>rfl
 | _+3=>rfl
theorem step_call (h:bu S D) {v:AV} {bs:List AV} {i:Nat} (hi:i<4) (hd:D.pd=rA bs i) (ha:S.h.get a=some (.row [.ptr D.dp 0 0 4] 0 0 false 24)) (hb:S.h.get b=some (.row [v] 0 0 false 32)) (hv:Sl S v 1 bs) (tE:aN v≠D.dp+1) (xD:bs.length≤100000) :
  ai C1 (stepG i) (nO a b i) S (dk.Left D S (0,rA bs (i+1))):=by
 have ok:D.pd.ok:=by rw[hd];exact CL xD i
 have:i=0∨i=1∨i=2∨i=3:=by omega
 rcases this with rfl|rfl|rfl|rfl
 ·have:=cre112 h ok ha
  rwa [hd,show rA bs 0=wT 1048576 from rfl,pd_cre] at this
 ·have:=app113 h ok ha hb hv tE (by omega)
  rwa [hd,show rA bs 1=⟨[⟨dy,[],0⟩],1048576,-1,false⟩ from rfl,pd_app xD] at this
 ·have:=syn114 h ok ha
  rwa [hd,show rA bs 2=⟨[⟨dy,bs,0⟩],1048576,-1,false⟩ from rfl,pd_syn] at this
 ·have:=ren115 h ok ha
  rwa [hd,show rA bs 3=⟨[⟨dy,bs,bs.length⟩],1048576,-1,false⟩ from rfl,pd_ren] at this
theorem BA {F:Fr} {B:Nat} {x0 x1 x2 x3:Tmp} (h0:sl F x0=cO a b 0) (h1:sl F x1=cO a b 1) (h2:sl F x2=cO a b 2) (h3:sl F x3=cO a b 3) :
  aC C1 F B (.buildSlice 193 4 #[(0,.tmp x0),(1,.tmp x1),(2,.tmp x2),(3,.tmp x3)])=some (.slice B 0 0 4 4 1 (some 4),.row [cO a b 0,cO a b 1,cO a b 2,cO a b 3] 0 0 false 122):=by
 have:=c9 (cx:=C1) (F:=F) (t:=193) (p:=(122,1,8)) (id:=B) (n:=4) (a:=#[(0,.tmp x0),(1,.tmp x1),(2,.tmp x2),(3,.tmp x3)]) [[cO a b 0],[cO a b 1],[cO a b 2],[cO a b 3]] st193 rfl (by simp[aP,h0,h1,h2,h3,cellsOf,cO]) (by simp) (by decide);simpa using this
end
open Go.Proofs.YtdknlbnljfdhgaaGreatDoor.mod (Val encV encV_len Con encC encC_len ConOk PredAt mayP mayC mayV setB sameB zeroV mayPred encT encT_len bare encM nget nput mget_encM mput_encM nget_nput nput_mem nget_mem predFoot idxI idx174)
section
variable {S T:AS}
theorem nt52:Tryz.f52.ntmps=66:=by kernel_rfl
structure Told (S:AS) (a b dp:Nat) (bs:List AV) (S':AS):Prop where
 sub:Sub S S'
 ra:S'.h.get a=some (.row [.ptr dp 0 0 4] 0 0 false 24)
 al:a<S'.next
 bl:b<S'.next
 ex:∃ w,S'.h.get b=some (.row [w] 0 0 false 32)∧Sl S' w 1 bs∧(aN w=0∨S.next<aN w)
structure WrC (a b B:Nat) (F':Fr):Prop where
 t2:sl F' 2=.ptr a 0 0 1
 t6:sl F' 6=.slice B 0 0 1 7 7 (some 1)
 t7:sl F' 7=.ptr b 0 0 1
 t20:sl F' 20=.slice B 0 0 1 7 7 (some 1)
 t21:sl F' 21=.int .i64 1
 n:F'.n=66
def wr0H (S S2:AS) (a b B dp:Nat) (bs:List AV) (k:Nat) (F':Fr) (S':AS):Prop:=
 WrC a b B F'∧((k=1∧S'=S2∧sl F' 22=.int .i64 0)∨(k=0∧Told S a b dp bs S'∧sl F' 22=.int .i64 1))
theorem wr0H_0 {S S2:AS} {a b B dp:Nat} {bs:List AV} {F':Fr} (h:WrC a b B F') (h2:sl F' 22=.int .i64 0):wr0H S S2 a b B dp bs 1 F' S2:=⟨h,.inl ⟨rfl,rfl,h2⟩⟩
theorem wr0H_1 {S S2:AS} {a b B dp:Nat} {bs:List AV} {F':Fr} (h:WrC a b B F') (h1:Told S a b dp bs T) (h2:sl F' 22=.int .i64 1):wr0H S S2 a b B dp bs 0 F' T:=⟨h,.inr ⟨rfl,h1,h2⟩⟩
def wr2H (U1:AS) (D:Dk) (B q:Nat) (bs:List AV) (k:Nat) (F':Fr) (S':AS):Prop:=
 ∃ (i:Nat) (D':Dk),bu S' D'∧D'.pd=rA bs i∧D'.dp=D.dp∧Evo D D' U1 S'∧i≤4∧sl F' 52=.slice q 0 0 4 4 1 (some 4)∧sl F' 53=.int .i64 4∧sl F' 54=.int .i64 i∧sl F' 6=.slice B 0 0 1 7 7 (some 1)∧F'.n=66∧k=4-i
theorem wr2H_mk {U1:AS} {D:Dk} {B q:Nat} {bs:List AV} {k:Nat} {F':Fr} (i:Nat) (D':Dk) (h1:bu T D') (h2:D'.pd=rA bs i) (h3:D'.dp=D.dp) (h4:Evo D D' U1 T) (h5:i≤4) (h6:sl F' 52=.slice q 0 0 4 4 1 (some 4)) (h7:sl F' 53=.int .i64 4) (h8:sl F' 54=.int .i64 i) (h9:sl F' 6=.slice B 0 0 1 7 7 (some 1)) (qQ:F'.n=66) (Bw:k=4-i):wr2H U1 D B q bs k F' T:=
 ⟨i,D',h1,h2,h3,h4,h5,h6,h7,h8,h9,qQ,Bw⟩
theorem life_at {n:Nat} (hn:n<18446744073709551616):eW S (kX n):=
 ⟨⟨show Sl S .ar 7 [] from Sl.nil,fun c hc=>(List.not_mem_nil hc).elim,Nat.zero_le _⟩,show Sl S .ar 2 [] from Sl.nil,fun c hc=>(List.not_mem_nil hc).elim,hn,fun t ht=>(List.not_mem_nil ht).elim,Nat.zero_le _⟩
set_option maxRecDepth 20000 in
theorem write52e {X:dX} (h:bR S X) (hD:X.D.pd=wT 1048576) (hs8:∀ j,j<8→X.aM j=none) (ha4:∀ j,j<4→(X.ey j).js=0) :
  ai C1 52 [.ptr X.D.dp 0 0 4,.ptr X.b 0 1 27] S fun v T=>v=.tuple [.int .i64 1,.int .i64 0]∧∃ D',bR T { X with D:=D' }∧gF X { X with D:=D' } S T∧D'.pd.ok∧D'.dp=X.D.dp:=by
 obtain ⟨a,ha⟩:∃ a,a=S.next:=⟨_,rfl⟩
 obtain ⟨S1,dL⟩:∃ S1:AS,S1=⟨S.h.set a (.row [.ptr X.D.dp 0 0 4] 0 0 false 24),a+1⟩:=⟨_,rfl⟩
 have s1:Sub S S1:=by rw[dL,ha];exact seg.dE
 have ra1:S1.h.get a=some (.row [.ptr X.D.dp 0 0 4] 0 0 false 24):=by rw[dL];exact aa _ _ _
 have n1:S1.next=a+1:=by rw[dL]
 have jD:=dL.symm;clear dL;obtain ⟨r,T1,⟨t1,B,rfl,hB1,hB2,gB⟩,e110⟩:=(all110e (h.toSub s1) hs8 ha4).ex;have t1n:=t1.next
 obtain ⟨b,hb⟩:∃ b,b=T1.next:=⟨_,rfl⟩
 obtain ⟨S2,fM⟩:∃ S2:AS,S2=⟨T1.h.set b (.row [.ar] 0 0 false 32),b+1⟩:=⟨_,rfl⟩
 have s2:Sub T1 S2:=by rw[fM,hb];exact seg.dE
 have rb2:S2.h.get b=some (.row [.ar] 0 0 false 32):=by rw[fM];exact aa _ _ _
 have n2:S2.next=b+1:=by rw[fM]
 have pV:=fM.symm;clear fM;have gB2:=(s2.h _ hB2).trans gB;obtain ⟨c,hc⟩:∃ c,c=S2.next:=⟨_,rfl⟩
 obtain ⟨S3,pA⟩:∃ S3:AS,S3=⟨(S2.h.set c (.row [.int .i64 0,.int .i64 0,.int .i64 0,.int .u64 0,.bool false,.ar,.ar] 0 0 false 115)).set c (.row (kX X.fb).c 0 0 false 115),c+1⟩:=⟨_,rfl⟩
 have s3:Sub S2 S3:=by rw[pA,hc];exact seg.iW
 have g3:S3.h.get c=some (.row (kX X.fb).c 0 0 false 115):=by rw[pA];exact aa _ _ _
 have n3:S3.next=c+1:=by rw[pA]
 have qX:=pA.symm;clear pA;have cy:eW S3 (kX X.fb):=life_at h.fb;obtain ⟨fv,T3,⟨t3,w1,gw1⟩,e104⟩:=(E5 cy (by show 0≤8;decide)).ex;have xD:=Df cy.num cy.n cy.sts (by show 0≤8;decide);obtain ⟨x,T4,⟨w,e,rfl,t4,w2,gw2⟩,e111⟩:=(frm111 gw1.1 (byt_rec cy.num) (De _) (by omega)).ex;obtain ⟨bs,yx⟩:∃ bs,bs=cL (frmB (te (kX X.fb))):=⟨_,rfl⟩
 rw[←yx] at gw2;have hbsl:bs.length≤2056:=by rw[yx,dT];exact Ep _
 have hwl:sLen w≤2056:=by
  have:=gw2.1.kT;omega
 obtain ⟨w',T5,e5,g5,o5,n5,q5,_,q6,_⟩:=kj (cx:=C1) (S:=T4) (t:=32) (u:=32) (ts:=[]) (p:=(5,1,1)) (v:=.ar) (x:=w) (cs:=[]) (ds:=bs) st32 un32 rfl Gw.nil gw2.1 (by simp[fits,cn];omega);rw[List.nil_append] at g5;have t5:Sub T4 T5:=⟨fun id hi=>o5 id hi (by simp[aN]),n5⟩
 obtain ⟨S6,Ck⟩:∃ S6:AS,S6=⟨T5.h.set b (.row [w'] 0 0 false 32),T5.next⟩:=⟨_,rfl⟩
 have b6:S6.h.get b=some (.row [w'] 0 0 false 32):=by rw[Ck];exact aa _ _ _
 have o6:∀ id,id≠b→S6.h.get id=T5.h.get id:=fun id hi=>by rw[Ck];exact ae _ _ hi
 have n6:S6.next=T5.next:=by rw[Ck]
 have bS6:=Ck.symm;clear Ck;have hSb:Sub S T1:=s1.trans t1;have sT5:Sub T1 T5:=(((s2.trans s3).trans t3).trans t4).trans t5;have sS2T4:Sub S2 T4:=(s3.trans t3).trans t4;have n34:=sS2T4.next
 have rb4:=(sS2T4.h b (by omega)).trans rb2;have rb5:=(t5.h b (by omega)).trans rb4;have rc3:=((t3.h c (by omega)).trans g3)
 have hSn:=hSb.next
 have zZ:=h.m9.Co;have fin:Told S a b X.D.dp bs S6:=by
  refine ⟨⟨fun id hi=>(o6 id (by omega)).trans ((sT5.h id (by omega)).trans (hSb.h id hi)),by have:=sT5.next;omega⟩,?_,by have:=sT5.next;omega,by omega,w',b6,?_,?_⟩
  ·exact (o6 a (by omega)).trans ((sT5.h a (by omega)).trans ((t1.h a (by omega)).trans ra1))
  ·exact g5.1.aF (fun id e=>o6 id (by have:aN AV.ar=0:=rfl;omega)) (by omega)
  ·have:aN AV.ar=0:=rfl;omega
 have xj:IntKind.i64.wrap 1=1:=by decide
 have hlc:(kX X.fb).c=[.int .i64 1,.int .i64 0,.int .i64 0,.int .u64 X.fb,.bool false,.ar,.ar]:=rfl;have hSl:Sl S2 (.slice B 0 0 1 7 7 (some 1)) 7 ([kX X.fb].flatMap Rec.c):=
  ⟨by simp[isSl,iG],by simp[lr,eS,gB2,bY,AU];rfl,by simp[sLen,AU],by simp[aN,n2];omega⟩
 have yv:=cJ (cx:=C1) (e:=115) (k:=0) hSl AU (by decide) rfl ag115 sz115;rw[hlc] at qX g3 rc3 e104 yv;refine cp (dJ _) (dM _ rfl) fn52 rfl ok52 (by simp) fun F hn hs=>?_;rw[nt52] at hn;have s0:=hs 0;have wg:=hs 1;clear hs;simp only[List.getElem?_cons_zero,List.getElem?_cons_succ,Option.getD_some] at s0 wg;simp[s0,wg,←ha,jD,bN,e110,←hb,pV];refine av (wr0H S S2 a b B X.D.dp bs) 1 (wr0H_0 ⟨by simp,by simp,by simp,by simp,by simp,by simp[hn]⟩ (by simp)) ?_;clear s0 wg hn;rintro k F' S'-⟨⟨t2',t6,t7,t20,t21,hn⟩,hk⟩;rcases hk with ⟨rfl,rfl,t22⟩|⟨rfl,hT,t22⟩
 ·simp[t2',t6,t7,t20,t21,t22,yv,←hc,qX,g3,bN,e104,e111,gw1.1.np,aq gw1.1,gw2.1.np,aq gw2.1,rb4,e5,g5.1.np,aq g5.1,rb5,bS6,g5.1.cells];exact wr0H_1 ⟨by simp[t2'],by simp[t6],by simp[t7],by simp[t20],by simp[t21],by simp[hn]⟩ fin (by simp[xj])
 clear fin;obtain ⟨k1,k2,k3,k4,w,k5,k6,k7⟩:=hT;obtain ⟨q,hq⟩:∃ q,q=S'.next:=⟨_,rfl⟩
 obtain ⟨S7,hS7⟩:∃ S7:AS,S7=⟨S'.h.set q (.row [cO a b 0,cO a b 1,cO a b 2,cO a b 3] 0 0 false 122),q+1⟩:=⟨_,rfl⟩
 have s7:Sub S' S7:=by rw[hS7,hq];exact seg.dE
 have g7:S7.h.get q=some (.row [cO a b 0,cO a b 1,cO a b 2,cO a b 3] 0 0 false 122):=by rw[hS7];exact aa _ _ _
 have n7:S7.next=q+1:=by rw[hS7]
 have bS7:=hS7.symm;clear hS7;have hd7:bu S7 X.D:=h.m9.sub (k1.trans s7);have mb:X.D.fs=[]:=by
  have:X.D.pd.fs=[]:=by rw[hD];rfl
  exact List.map_eq_nil_iff.1 this
 have u9:X.D.off=false:=by
  have:X.D.pd.off=false:=by rw[hD];rfl
  exact this
 have okD:X.D.pd.ok:=by rw[hD];exact wS
 obtain ⟨r,U1,⟨u1,yL⟩,e117⟩:=(size20 (name:=dy) hd7 (DC okD) (by decide) (by decide)).ex;have hfi:b9 [X.D.gD,X.D.aG dy]=6:=by
  unfold Dk.gD Dk.aG Dk.file;rw[u9,mayN,mb];rfl
 rw[hfi] at yL;rcases yL with ⟨_,rfl⟩|⟨q0,_⟩
 case inr=>exact absurd q0 (by decide)
 have ra7:=(s7.h a k3).trans k2;have u1n:=u1.next
 have dU:bu U1 X.D:=hd7.sub u1;have hSU:Sub S U1:=(k1.trans s7).trans u1;have nfa:∀ id,S.next≤id→¬X.D.bT id:=fun id hi hf=>by have:=h.m9.lt hf;omega
 have gaU:=(u1.h a (by have:=s7.next;omega)).trans ra7;have gbU:=(u1.h b (by have:=s7.next;omega)).trans ((s7.h b k4).trans k5);have gqU:=(u1.h q (by omega)).trans g7;have gwU:=(k6.toSub s7).toSub u1;have hw6:aN w≤S'.next:=k6.old
 unfold dy at e117;have hbS:S.next≤b:=by have:=t1n;omega
 have hqS:S.next≤q:=by have:=k1.next;omega
 simp[t2',t6,t7,t20,t21,t22];have hf4:∀ F B (x0 x1 x2 x3:Tmp),sl F x0=.func (.func 112) [] [.ptr a 0 0 1]→sl F x1=.func (.func 113) [] [.ptr a 0 0 1,.ptr b 0 0 1]→sl F x2=.func (.func 114) [] [.ptr a 0 0 1]→sl F x3=.func (.func 115) [] [.ptr a 0 0 1]→aC C1 F B (.buildSlice 193 4 #[(0,.tmp x0),(1,.tmp x1),(2,.tmp x2),(3,.tmp x3)])=some (.slice B 0 0 4 4 1 (some 4),.row [cO a b 0,cO a b 1,cO a b 2,cO a b 3] 0 0 false 122):=fun F B x0 x1 x2 x3 a0 a1 a2 a3=>BA a0 a1 a2 a3;simp[t2',t6,t7,t20,t21,t22,hf4,←hq,bS7,ra7,bN,e117];refine av (wr2H U1 X.D B q bs) 4 (wr2H_mk 0 X.D dU hD rfl Evo.refl (by omega) (by simp) (by simp) (by simp) (by simp[t6]) (by simp[hn]) rfl) ?_;clear t2' t6 t7 t20 t21 t22 hn;rintro k F' S8-⟨i,D',d1,d2,d3,d4,hi,t52,t53,t54,t6,hn,hk⟩;have ga8:S8.h.get a=some (.row [.ptr D'.dp 0 0 4] 0 0 false 24):=by rw[d3];exact (d4.bH a (by omega) (nfa a (by omega))).trans gaU
 have gb8:=(d4.bH b (by omega) (nfa b hbS)).trans gbU;have gq8:=(d4.bH q (by omega) (nfa q hqS)).trans gqU;by_cases hi4:i<4
 ·have hw8:Sl S8 w 1 bs:=gwU.aF (fun id e=>d4.bH id (by omega) (nfa id (by omega))) d4.next
  obtain ⟨r,V,hL,ec⟩:=(step_call d1 hi4 d2 ga8 gb8 hw8 (by rw[d3];omega) (by omega)).ex;obtain ⟨xp,D2,f1,f2,f3,f4⟩:=hL;subst xp;have v4:=d4.trans f4;have hX:∀ i,i<4→C1.exts.get (stepG i)=none:=fun i hi=>by
   have:i=0∨i=1∨i=2∨i=3:=by omega
   rcases this with rfl|rfl|rfl|rfl<;>exact bN _ rfl
  have hxi:=hX i hi4;have hSl:Sl S8 (.slice q 0 0 4 4 1 (some 4)) 1 ([cO a b 0,cO a b 1,cO a b 2,cO a b 3]):=
   ⟨by simp[isSl,iG],by simp[lr,eS,gq8,bY],by simp[sLen],by have:=d4.next;simp[aN];omega⟩
  have yv:loadT C1 S8 122 (jZ (.slice q 0 0 4 4 1 (some 4)) i)=some (.func (.func (stepG i)) [] (nO a b i)):=by
   have:([cO a b 0,cO a b 1,cO a b 2,cO a b 3])[i]?=some (.func (.func (stepG i)) [] (nO a b i)):=by
    rw[←stepF_eq];have:i=0∨i=1∨i=2∨i=3:=by omega
    rcases this with rfl|rfl|rfl|rfl<;>rfl
   exact lX hSl this ag122
  have kF:(i:Int)<4:=by omega
  have gY:=cd (i:=i) (by omega);simp[t52,t53,t54,t6,kF,hi4,yv,hxi,ec,gY];exact ⟨4-(i+1),by omega,wr2H_mk (i+1) D2 f1 f2 (f3.trans d3) v4 (by omega) (by simp[t52]) (by simp[t53]) (by simp) (by simp[t6]) (by simp[hn]) rfl⟩
 ·obtain rfl:i=4:=by omega
  simp[t52,t53,t54,t6];obtain ⟨o1,o2⟩:=(h.toSub hSU).onD d1 d3 d4;exact ⟨D',o1,(gF.of hSU).trans o2,by rw[d2];exact CL (by omega) 4,d3⟩
end
open Go.Proofs.YtdknlbnljfdhgaaGreatDoor.mod (Val encV encV_len Con encC encC_len ConOk PredAt mayP mayC mayV setB sameB zeroV mayPred encT encT_len bare encM nget nput mget_encM mput_encM nget_nput nput_mem nget_mem predFoot idxI idx174)
def gL (b:Nat) (D:Dk) (fb dF:Nat):dX:=⟨b,D,fb,fun _=>none,fun _=>⟨0,0,false,.ar,[]⟩,dF⟩
def freshP:PB:=⟨1,fun _=>none,fun _=>⟨0,0,false,[]⟩⟩
section
variable {S T:AS} {D:Dk}
theorem bld110 (d:Nat):dV C1 110 [(0,.ptr d 0 0 4)]=some (.agg [.ptr d 0 0 4,.int .u64 0,.bd,.bd,.bd,.bd,.bd,.bd,.bd,.bd,.int .i64 0,.int .u64 0,.bool false,.ar,.int .i64 0,.int .u64 0,.bool false,.ar,.int .i64 0,.int .u64 0,.bool false,.ar,.int .i64 0,.int .u64 0,.bool false,.ar,.int .i64 0]):=by kernel_rfl
theorem fresh_c0 (b:Nat) (D:Dk):(gL b D 0 0).c=[.ptr D.dp 0 0 4,.int .u64 0,.bd,.bd,.bd,.bd,.bd,.bd,.bd,.bd,.int .i64 0,.int .u64 0,.bool false,.ar,.int .i64 0,.int .u64 0,.bool false,.ar,.int .i64 0,.int .u64 0,.bool false,.ar,.int .i64 0,.int .u64 0,.bool false,.ar,.int .i64 0]:=rfl
theorem Er (b:Nat) (D:Dk):(gL b D 1 0).c=[.ptr D.dp 0 0 4,.int .u64 1,.bd,.bd,.bd,.bd,.bd,.bd,.bd,.bd,.int .i64 0,.int .u64 0,.bool false,.ar,.int .i64 0,.int .u64 0,.bool false,.ar,.int .i64 0,.int .u64 0,.bool false,.ar,.int .i64 0,.int .u64 0,.bool false,.ar,.int .i64 0]:=rfl
theorem fresh_c2 (b:Nat) (D:Dk):(gL b D 1 1).c=[.ptr D.dp 0 0 4,.int .u64 1,.bd,.bd,.bd,.bd,.bd,.bd,.bd,.bd,.int .i64 0,.int .u64 0,.bool false,.ar,.int .i64 0,.int .u64 0,.bool false,.ar,.int .i64 0,.int .u64 0,.bool false,.ar,.int .i64 0,.int .u64 0,.bool false,.ar,.int .i64 1]:=rfl
theorem fresh_at {b n m:Nat} (hr:S.h.get b=some (.row (gL b D n m).c 0 0 false 110)) (hb:b<S.next) (hd:bu S D) (hf:¬D.bT b) (hn:n<18446744073709551616):bR S (gL b D n m) where
 row:=hr
 lt:=hb
 m9:=hd
 sub i x _ h:=by cases h
 ad i _:=⟨⟨⟨show Sl S .ar 7 [] from Sl.nil,fun c hc=>(List.not_mem_nil hc).elim,Nat.zero_le _⟩,by show mayP []=true;simp[mayP],fun c hc=>(List.not_mem_nil hc).elim⟩,Nat.zero_le _⟩
 bD:=hf
 mD i x _ h:=by cases h
 mm i j x y _ _ _ h _:=by cases h
 ros i x _ h:=by cases h
 roa i _ id h:=by
  rcases h with e|⟨c,hc,_⟩
  ·have e:(0:Nat)=id+1:=e;omega
  ·exact (List.not_mem_nil hc).elim
 fb:=hn
theorem nt13:Tryz.f13.ntmps=87:=by kernel_rfl
def opnH (S:AS) (b dp:Nat) (k:Nat) (F':Fr) (S':AS):Prop:=S'=S∧sl F' 0=.ptr dp 0 0 4∧sl F' 4=.ptr b 0 0 27∧sl F' 35=.int .i64 0∧sl F' 36=.int .i64 0∧F'.n=87
set_option maxRecDepth 20000 in
theorem open13 (h:bu S D) (hD:D.pd=wT 1048576):ai C1 13 [.ptr D.dp 0 0 4] S fun v T=>∃ X,v=.tuple [.ptr X.b 0 0 27,.int .i64 0]∧bR T X∧X.D.pd.ok∧X.D.dp=D.dp∧X.dF=1∧X.pure=freshP∧S.next≤X.b ∧
  S.next≤T.next∧(∀ id,id<S.next→¬D.bT id→T.h.get id=S.h.get id)∧(∀ id,id<S.next→X.wf id→D.bT id):=by
 obtain ⟨b,hb⟩:∃ b,b=S.next:=⟨_,rfl⟩
 obtain ⟨S1,dL⟩:∃ S1:AS,S1=⟨S.h.set b (.row (gL b D 0 0).c 0 0 false 110),b+1⟩:=⟨_,rfl⟩
 have s1:Sub S S1:=by rw[dL,hb];exact seg.dE
 have g1:S1.h.get b=some (.row (gL b D 0 0).c 0 0 false 110):=by rw[dL];exact aa _ _ _
 have n1:S1.next=b+1:=by rw[dL]
 have jD:=dL.symm;clear dL;have h1:=h.sub s1;have okD:D.pd.ok:=by rw[hD];exact wS
 have mb:D.fs=[]:=by
  have:D.pd.fs=[]:=by rw[hD];rfl
  exact List.map_eq_nil_iff.1 this
 have u9:D.off=false:=by
  have:D.pd.off=false:=by rw[hD];rfl
  exact this
 have hfi:b9 [D.gD,D.aG qe]=6:=by
  unfold Dk.gD Dk.aG Dk.file;rw[u9,mayK,mb];rfl
 obtain ⟨r,U1,⟨u1,yL⟩,e35⟩:=(read59 (name:=qe) h1 (DC okD) (by decide) (by decide)).ex;rw[hfi] at yL;rcases yL with ⟨_,rfl⟩|⟨q0,_⟩
 case inr=>exact absurd q0 (by decide)
 unfold qe at e35;have u1n:=u1.next
 have gU:=(u1.h b (by omega)).trans g1;have e49:∀ Q:AV→AS→Prop,ai C1 49 [.ar] U1 Q=Q (.tuple [.ar,.int .i64 0]) U1:=fun Q=>nc (q:=spl.q49) get49 rfl rfl rfl;obtain ⟨S3,pA⟩:∃ S3:AS,S3=⟨U1.h.set b (.row (gL b D 1 0).c 0 0 false 110),U1.next⟩:=⟨_,rfl⟩
 have g3:S3.h.get b=some (.row (gL b D 1 0).c 0 0 false 110):=by rw[pA];exact aa _ _ _
 have n3:S3.next=U1.next:=by rw[pA]
 have o3:∀ id,id≠b→S3.h.get id=U1.h.get id:=fun id hi=>by rw[pA];exact ae _ _ hi
 have qX:=pA.symm;clear pA;have nfb:¬D.bT b:=fun hf=>by have:=h.lt hf;omega
 have sS3:Sub S S3:=⟨fun id hi=>(o3 id (by omega)).trans ((s1.trans u1).h id hi),by have:=s1.next;omega⟩
 have hX3:bR S3 (gL b D 1 0):=fresh_at g3 (by omega) (h.sub sS3) nfb (by decide);obtain ⟨v,T4,⟨rfl,D4,f1,f2,f3,f4⟩,e52⟩:=(write52e hX3 hD (fun _ _=>rfl) (fun _ _=>rfl)).ex;have hw6:=wr_recs f1 1;obtain ⟨q1,q2⟩:=at_recs f1 1;obtain ⟨Z,hZ⟩:∃ Z:AS,Z=⟨T4.h.set b (.row (gL b D4 1 1).c 0 0 false 110),T4.next⟩:=⟨_,rfl⟩
 have hw7:pL T4 (.ptr b 0 26 27) [.int .i64 1]=some Z:=by rw[hZ];exact hw6
 have hXZ:bR Z (gL b D4 1 1):=by rw[hZ];exact q1
 have hEZ:gF (gL b D 1 0) (gL b D4 1 1) S3 Z:=by rw[hZ];exact f2.trans q2
 have fin:∃ X:dX,X.b=b∧bR Z X∧X.D.pd.ok∧X.D.dp=D.dp∧X.dF=1∧X.pure=freshP∧S.next≤X.b ∧
  S.next≤Z.next∧(∀ id,id<S.next→¬D.bT id→Z.h.get id=S.h.get id)∧(∀ id,id<S.next→X.wf id→D.bT id):=by
  refine ⟨gL b D4 1 1,rfl,hXZ,f3,f4,rfl,rfl,by show S.next≤b;omega,Nat.le_trans sS3.next hEZ.next,fun id hi hf=>?_,fun id hi hw=>?_⟩
  ·refine (hEZ.bH id (by have:=sS3.next;omega) fun hw=>?_).trans (sS3.h id hi);rcases hw with e|e|⟨_,_,_,e,_⟩
   ·have e:id=b:=e;omega
   ·exact hf e
   ·cases e
  ·have:=hEZ.bT id (by have:=sS3.next;omega) hw;rcases this with e|e|⟨_,_,_,e,_⟩
   ·have e:id=b:=e;omega
   ·exact e
   ·cases e
 have bZ:=hZ.symm;clear hZ;rw[fresh_c0] at jD g1 gU;rw[Er] at qX g3;have xj:IntKind.u64.wrap 1=1:=by decide
 refine aW (dJ _) (dM _ rfl) fn13 rfl ok13 (by simp) fun F hn s0=>?_;rw[nt13] at hn;simp[s0,bld110,←hb,jD,bN,e35,e49];refine av (opnH U1 b D.dp) 0 ⟨rfl,by simp[s0],by simp,by simp,by simp,by simp[hn]⟩ ?_;clear s0 hn;rintro k F' S'-⟨rfl,t0,t4,t35,t36,hn⟩;have e52':∀ Q:AV→AS→Prop,ai C1 52 [.ptr D.dp 0 0 4,.ptr b 0 1 27] S3 Q=Q (.tuple [.int .i64 1,.int .i64 0]) T4:=e52;have g4:T4.h.get b=some (.row (gL b D4 1 0).c 0 0 false 110):=f1.row;rw[Er] at g4;rw[fresh_c2] at bZ;simp[t0,t4,t35,t36,gU,xj,qX,bN,e52',g4,bZ];obtain ⟨X,x1,x2⟩:=fin;rw[←hb] at x2;exact ⟨X,by rw[x1],x2⟩
theorem opened7 (S:AS):ai C1 7 [] S fun v T=>∃ X,v=.tuple [.ptr X.b 0 0 27,.ptr X.D.dp 0 0 4]∧bR T X∧X.D.pd.ok∧X.dF=1∧X.pure=freshP∧Sub S T∧(∀ id,X.wf id→S.next≤id):=by
 obtain ⟨u,T1,⟨t1,D,rfl,d1,d2,d3⟩,e22⟩:=(new22 (S:=S) (q:=1048576) (by decide)).ex;obtain ⟨v,T2,⟨X,rfl,x1,x2,x3,x4,x5,x6,x7,x8,x9⟩,e13⟩:=(open13 d1 d2).ex;have hT:Sub S T2:=⟨fun id hi=>(x8 id (by have:=t1.next;omega) (fun hf=>by have:=d3 id hf;omega)).trans (t1.h id hi),Nat.le_trans t1.next x7⟩
 have e22':∀ Q:AV→AS→Prop,ai C1 22 [.int .i64 1048576] S Q=Q (.tuple [.ptr D.dp 0 0 4,.int .i64 0]) T1:=e22;refine cp (dJ _) (dM _ rfl) fn7 rfl ok7 (by simp) fun F hn hs=>?_;simp[bN,e22',e13];refine ⟨X,by rw[x3];exact ⟨rfl,rfl⟩,x1,x2,x4,x5,hT,fun id hw=>?_⟩;by_cases hi:S.next≤id
 ·exact hi
 ·exact d3 id (x9 id (by have:=t1.next;omega) hw)
end
open Go.Proofs.YtdknlbnljfdhgaaGreatDoor.mod (Val encV encV_len Con encC encC_len ConOk PredAt mayP mayC mayV setB sameB zeroV mayPred encT encT_len bare encM nget nput mget_encM mput_encM nget_nput nput_mem nget_mem predFoot idxI idx174)
structure OpsAt (S:AS) (w:AV) (ops:List yz):Prop where
 sl:Sl S w 8 (ops.flatMap yz.c)
 el:∀ o,o∈ops→OpAt S o
section
variable {S T:AS}
theorem zH_len:zH.length=130:=db _ _ _
theorem st_held {B:Nat} {cs cs':List AV} (h:S.h.get B=some (.row cs 0 0 false 40)) (hl:cs.length=130) (rW:cs'.length=130):pL S (.ptr B 0 0 130) cs'=some ⟨S.h.set B (.row cs' 0 0 false 40),S.next⟩:=by
 simp only[fo,kk,h,fp];rw[if_pos ⟨trivial,by omega,trivial⟩];have:cz 0 cs cs'=cs':=by
  show jX cs _=_;unfold jX;rw[rW,bL,List.drop_of_length_le (by omega)];exact List.append_nil _
 rw[this]
theorem nt3:Tryz.f3.ntmps=142:=by kernel_rfl
def lawH (S:AS) (w0:AV) (k:Nat) (F':Fr) (S':AS):Prop:=
 ∃ (i:Nat) (X:dX),bR S' X∧X.D.pd.ok∧X.dF≤i+1∧(∀ id,X.wf id→S.next≤id)∧Sub S S'∧sl F' 0=w0∧sl F' 3=.ptr X.b 0 0 27∧sl F' 5=.int .i64 i∧i≤60∧F'.n=142∧k=60-i
theorem pk {w0:AV} {k:Nat} {F':Fr} (i:Nat) (X:dX) (h1:bR T X) (h2:X.D.pd.ok) (h3:X.dF≤i+1) (h4:∀ id,X.wf id→S.next≤id) (h5:Sub S T) (h6:sl F' 0=w0) (h7:sl F' 3=.ptr X.b 0 0 27) (h8:sl F' 5=.int .i64 i) (h9:i≤60) (qQ:F'.n=142) (Bw:k=60-i):lawH S w0 k F' T:=
 ⟨i,X,h1,h2,h3,h4,h5,h6,h7,h8,h9,qQ,Bw⟩
def cR (S U:AS) (a7 a9:Nat):Prop:=S.next≤U.next∧∀ id,id<S.next→id≠a7→id≠a9→U.h.get id=S.h.get id
theorem cR.refl {a7 a9:Nat}:cR S S a7 a9:=⟨Nat.le_refl _,fun _ _ _ _=>rfl⟩
theorem cR.sub {U:AS} {a7 a9:Nat} (h:cR S T a7 a9) (hs:Sub T U):cR S U a7 a9:=⟨Nat.le_trans h.1 hs.next,fun id i1 i2 i3=>(hs.h id (Nat.lt_of_lt_of_le i1 h.1)).trans (h.2 id i1 i2 i3)⟩
theorem cR.set {a7 a9:Nat} (h:cR S T a7 a9) {B:Nat} {c:bE} (hb:B=a7∨B=a9):cR S ⟨T.h.set B c,T.next⟩ a7 a9:=⟨h.1,fun id i1 i2 i3=>(ae _ _ (by omega)).trans (h.2 id i1 i2 i3)⟩
structure Ready2 (S0 S:AS) (o:yz) (X':dX) (P:PB) (a6 a7 a9:Nat) (H1 H2:HdX):Prop where
 bk:∀ U,cR S U a7 a9→bR U X'
 ok:X'.D.pd.ok
 wf:∀ id,X'.wf id→S0.next≤id
 sub:Sub S0 S
 g6:S.h.get a6=some (.row o.c 0 0 false 34)
 g7:S.h.get a7=some (.row H1.c 0 0 false 40)
 g9:S.h.get a9=some (.row H2.c 0 0 false 40)
 l6:a6<a7
 l7:a7<a9
 l9:a9<S.next
 n6:S0.next≤a6
 s1:∀ U,cR S U a7 a9→Ql gE.c 3 gE.ok U H1.sw H1.L
 s2:∀ U,cR S U a7 a9→Ql gE.c 3 gE.ok U H2.sw H2.L
 d1:∀ U,cR S U a7 a9→Ql jO.c 4 jO.ok U H1.aw H1.A
 d2:∀ U,cR S U a7 a9→Ql jO.c 4 jO.ok U H2.aw H2.A
 o1:HdOf P H1
 o2:HdOf X'.pure H2
theorem Ready2.sub' {S0 U:AS} {o:yz} {X':dX} {P:PB} {a6 a7 a9:Nat} {H1 H2:HdX} (R:Ready2 S0 S o X' P a6 a7 a9 H1 H2) (h:cR S U a7 a9):Sub S0 U:=
 ⟨fun id hi=>by have:=R.l6;have:=R.l7;have:=R.n6;have:=R.sub.next;exact (h.2 id (by omega) (by omega) (by omega)).trans (R.sub.h id hi),Nat.le_trans R.sub.next h.1⟩
structure OwC (w0:AV) (b i a6 a7 a9:Nat) (w:Int) (F':Fr):Prop where
 t0:sl F' 0=w0
 t3:sl F' 3=.ptr b 0 0 27
 t5:sl F' 5=.int .i64 i
 t6:sl F' 6=.ptr a6 0 0 8
 t7:sl F' 7=.ptr a7 0 0 130
 t9:sl F' 9=.ptr a9 0 0 130
 t10:sl F' 10=.bool (decide (4≤w))
 n:F'.n=142
def ow2H (S:AS) (w0:AV) (b i a6 a7 a9:Nat) (w:Int) (k:Nat) (F':Fr) (S':AS):Prop:=∃ p:Nat,S'=S∧OwC w0 b i a6 a7 a9 w F'∧sl F' 11=.int .i64 p∧p≤8∧k=8-p
def ow4H (S:AS) (w0:AV) (b i a6 a7 a9:Nat) (w:Int) (p:Nat) (k:Nat) (F':Fr) (S':AS):Prop:=∃ q:Nat,S'=S∧OwC w0 b i a6 a7 a9 w F'∧sl F' 11=.int .i64 p∧sl F' 12=.int .i64 q∧q≤16∧k=16-q
theorem ow2H_mk {w0:AV} {b i a6 a7 a9:Nat} {w:Int} {k:Nat} {F':Fr} (p:Nat) (h1:T=S) (h2:OwC w0 b i a6 a7 a9 w F') (h3:sl F' 11=.int .i64 p) (h4:p≤8) (h5:k=8-p):ow2H S w0 b i a6 a7 a9 w k F' T:=⟨p,h1,h2,h3,h4,h5⟩
theorem ow4H_mk {w0:AV} {b i a6 a7 a9:Nat} {w:Int} {p k:Nat} {F':Fr} (q:Nat) (h1:T=S) (h2:OwC w0 b i a6 a7 a9 w F') (h3:sl F' 11=.int .i64 p) (h3':sl F' 12=.int .i64 q) (h4:q≤16) (h5:k=16-q):ow4H S w0 b i a6 a7 a9 w p k F' T:=⟨q,h1,h2,h3,h3',h4,h5⟩
theorem st_sw {B:Nat} {a b w:AV} {f:Nat→Nat} (h:S.h.get B=some (.row (gQ a b f) 0 0 false 40)):pL S (.ptr B 0 0 130) [w]=some ⟨S.h.set B (.row (gQ w b f) 0 0 false 40),S.next⟩:=by
 simp only[fo,kk,h,fp];rw[if_pos ⟨trivial,by simp,trivial⟩];rfl
theorem st_aw {B:Nat} {a b w:AV} {f:Nat→Nat} (h:S.h.get B=some (.row (gQ a b f) 0 0 false 40)):pL S (.ptr B 0 1 130) [w]=some ⟨S.h.set B (.row (gQ a w f) 0 0 false 40),S.next⟩:=by
 simp only[fo,kk,h,fp];rw[if_pos ⟨trivial,by simp,trivial⟩];rfl
theorem st_cur {B:Nat} {a b:AV} {f g:Nat→Nat} (h:S.h.get B=some (.row (gQ a b f) 0 0 false 40)):pL S (.ptr B 0 2 130) (fO g)=some ⟨S.h.set B (.row (gQ a b g) 0 0 false 40),S.next⟩:=by
 simp only[fo,kk,h,fp];rw[if_pos ⟨trivial,by rw[mq];exact Nat.le_refl _,trivial⟩];have:cz 2 (gQ a b f) (fO g)=gQ a b g:=by
  show a :: b :: jX (fO f) (fO g)=_;unfold jX;rw[mq,bL,List.drop_of_length_le (by rw[mq];exact Nat.le_refl _)];show a :: b :: (fO g++[])=_;rw[List.append_nil];rfl
 rw[this]
theorem bl38:dV C1 38 []=some (.agg (fO fun _=>0)):=by kernel_rfl
theorem ld_one {B:Nat} {a b:AV} {f:Nat→Nat} {fz:Bool} (h:S.h.get B=some (.row (gQ a b f) 0 0 fz 40)) {m:Nat} (hm:m<128):loadT C1 S 27 (.ptr B 0 (2+m) 130)=some (.int .u64 (f m:Nat)):=by
 simp only[gz,iK,ag27,kh,h,bY];rw[if_pos ⟨Nat.le_refl _,Nat.le_refl _,by omega⟩];have:(gQ a b f).drop (2+m)=(fO f).drop m:=by rw[Nat.add_comm];rfl
 rw[this];have hc:(fO f).drop m=.int .u64 (f m:Nat) :: (fO f).drop (m+1):=by
  have hl:m<(fO f).length:=by rw[mq];exact hm
  rw[List.drop_eq_getElem_cons hl];have:=cur_get (f:=f) hm;rw[List.getElem?_eq_getElem hl] at this;rw[Option.some.inj this]
 rw[hc];rfl
set_option maxRecDepth 20000 in
theorem law3 {w0:AV} {ops:List yz} (h:OpsAt S w0 ops):ai C1 3 [w0] S fun v T=>v=.bool true:=by
 obtain ⟨v,T0,⟨X0,rfl,b1,b2,b3,b4,b5,b6⟩,e7⟩:=(opened7 S).ex;have u1:=h.sl.sl;have u2:=h.sl.aU op_len (by omega);have uo:=h.sl.ok;have uk:=aq h.sl;refine aW (dJ _) (dM _ rfl) fn3 rfl ok3 (by simp) fun F hn s0=>?_;rw[nt3] at hn;simp[s0,bN,e7];refine av (lawH S w0) 60 (pk 0 X0 b1 b2 (by omega) b6 b5 (by simp[s0]) (by simp) (by simp) (by omega) (by simp[hn]) rfl) ?_;clear s0 hn;rintro k F' S'-⟨i,X,hX,okX,hr,hwf,hS,t0,t3,t5,hi,hn,hk⟩;by_cases hlen:i<ops.length
 case neg=>
  have hI:¬(i:Int)<ops.length:=by omega
  simp[t0,t3,t5,u1,u2,hlen,hI,bN,awake7]
 by_cases hi60:i<60
 case neg=>
  obtain rfl:i=60:=by omega
  have hI:(60:Int)<ops.length:=by omega
  simp[t0,t3,t5,u1,u2,hlen,hI,bN,awake7]
 have hI:(i:Int)<ops.length:=by omega
 have hI60:(i:Int)<60:=by omega
 obtain ⟨o,hx⟩:∃ t,ops[i]?=some t:=⟨_,List.getElem?_eq_getElem hlen⟩
 have cy:=h.el o (List.mem_of_getElem? hx);have yv:=cJ (cx:=C1) (e:=34) (h.sl.toSub hS) op_len (by omega) hx ag34 sz34;obtain ⟨a6,ha6⟩:∃ a,a=S'.next:=⟨_,rfl⟩
 obtain ⟨S1,dL⟩:∃ S1:AS,S1=⟨(S'.h.set a6 (.row [.int .i64 0,.int .i64 0,.int .i64 0,.int .u64 0,.ar,.ar,.ar,.ar] 0 0 false 34)).set a6 (.row o.c 0 0 false 34),a6+1⟩:=⟨_,rfl⟩
 have s1:Sub S' S1:=by rw[dL,ha6];exact seg.iW
 have g1:S1.h.get a6=some (.row o.c 0 0 false 34):=by rw[dL];exact aa _ _ _
 have n1:S1.next=a6+1:=by rw[dL]
 have jD:=dL.symm;clear dL;have gY:=cd (i:=i) (by omega);have gg1:=g1;simp only[yz.c] at yv jD gg1;have k1:=cy.pred.sl.cells;have k2:=cy.sl.cells;have k3:=cy.kv.1;have k4:=cy.tv.1;have k5:=aq cy.pred.sl;have k6:=aq cy.sl;have k7:=cy.kv.2;have k8:=cy.tv.2;have hwf6:∀ id,a6≤id→¬X.wf id:=fun id hi hw=>by have:=hX.BB hw;omega
 by_cases hw:o.eZ<0
 ·simp[t0,t3,t5,u1,u2,uo,uk,hlen,hI,hi60,hI60,yv,←ha6,jD,gg1,k1,k2,k3,k4,k5,k6,k7,k8,hw,gY];exact ⟨60-(i+1),by omega,pk (i+1) X (hX.toSub s1) okX (by omega) hwf (hS.trans s1) (by simp[t0]) (by simp[t3]) (by simp) (by omega) (by simp[hn]) rfl⟩
 by_cases hw5:5<o.eZ
 ·simp[t0,t3,t5,u1,u2,uo,uk,hlen,hI,hi60,hI60,yv,←ha6,jD,gg1,k1,k2,k3,k4,k5,k6,k7,k8,hw,hw5,gY];exact ⟨60-(i+1),by omega,pk (i+1) X (hX.toSub s1) okX (by omega) hwf (hS.trans s1) (by simp[t0]) (by simp[t3]) (by simp) (by omega) (by simp[hn]) rfl⟩
 have hX1:=hX.toSub s1;obtain ⟨_,T1,⟨t1,H1,rfl,c1,c2⟩,e8⟩:=(holds8 hX1).ex;have t1n:=t1.next
 obtain ⟨a7,ha7⟩:∃ a,a=T1.next:=⟨_,rfl⟩
 obtain ⟨S2,fM⟩:∃ S2:AS,S2=⟨(T1.h.set a7 (.row zH 0 0 false 40)).set a7 (.row H1.c 0 0 false 40),a7+1⟩:=⟨_,rfl⟩
 have s2:Sub T1 S2:=by rw[fM,ha7];exact seg.iW
 have g2:S2.h.get a7=some (.row H1.c 0 0 false 40):=by rw[fM];exact aa _ _ _
 have n2:S2.next=a7+1:=by rw[fM]
 have w2:pL (⟨T1.h.set a7 (.row zH 0 0 false 40),a7+1⟩:AS) (.ptr a7 0 0 130) H1.c=some S2:=by rw[fM];exact st_held (aa _ _ _) zH_len (db _ _ _)
 clear fM;have hX2:=hX1.toSub (t1.trans s2);have hSS2:=((hS.trans s1).trans t1).trans s2;have hSn:=hS.next
 obtain ⟨_,T2,⟨e,X',rfl,r1,r2,r3,r4⟩,e9⟩:=(do9 hX2 okX (by omega) (cy.sub hSS2) ⟨by omega,by omega⟩ (fun id hf hw=>by have:=PredAt.bT cy.pred hf;have:=hwf id hw;omega)).ex;obtain ⟨_,T3,⟨t3',H2,rfl,c3,c4⟩,e8'⟩:=(holds8 r1).ex;have rZ:X'.b=X.b:=r2.b;rw[rZ] at e8';obtain ⟨a9,ha9⟩:∃ a,a=T3.next:=⟨_,rfl⟩
 obtain ⟨S4,hS4⟩:∃ S4:AS,S4=⟨(T3.h.set a9 (.row zH 0 0 false 40)).set a9 (.row H2.c 0 0 false 40),a9+1⟩:=⟨_,rfl⟩
 have s4:Sub T3 S4:=by rw[hS4,ha9];exact seg.iW
 have g4:S4.h.get a9=some (.row H2.c 0 0 false 40):=by rw[hS4];exact aa _ _ _
 have n4:S4.next=a9+1:=by rw[hS4]
 have w4:pL (⟨T3.h.set a9 (.row zH 0 0 false 40),a9+1⟩:AS) (.ptr a9 0 0 130) H2.c=some S4:=by rw[hS4];exact st_held (aa _ _ _) zH_len (db _ _ _)
 clear hS4;have r2n:=r2.next
 have t3n:=t3'.next
 have bH:∀ id,a6≤id→id<S2.next→S4.h.get id=S2.h.get id:=fun id i1 i2=>(s4.h id (by omega)).trans ((t3'.h id (by omega)).trans (r2.bH id i2 (hwf6 id i1)))
 have gg2:=((t1.trans s2).h a6 (by omega)).trans gg1;have R:Ready2 S S4 o X' X.pure a6 a7 a9 H1 H2:=by
  have K:∀ U:AS,cR S4 U a7 a9→∀ id,id<S4.next→id≠a7→id≠a9→U.h.get id=S4.h.get id:=fun U hU=>hU.2
  refine ⟨fun U hU=>?_,r3,fun id hw=>?_,⟨fun id hi=>?_,by omega⟩,?_,?_,g4,by omega,by omega,by omega,by omega,fun U hU=>?_,fun U hU=>?_,fun U hU=>?_,fun U hU=>?_,c2,c4⟩
  ·have hUn:=hU.1;refine r1.agreeF (fun id hi hw=>?_) (by omega);have h7:id≠a7:=fun e7=>by
    rcases hw with hw|hw
    ·exact hwf6 a7 (by omega) (r2.bT a7 (by omega) (e7▸hw))
    ·have:=hX.rlt (r2.rof a7 (by omega) (e7▸hw));omega
   exact (hU.2 id (by omega) h7 (by omega)).trans ((s4.h id (by omega)).trans (t3'.h id (by omega)))
  ·by_cases bK:id<S2.next
   ·exact hwf id (r2.bT id bK hw)
   ·omega
  ·exact (s4.h id (by omega)).trans ((t3'.h id (by omega)).trans ((r2.bH id (by omega) (fun hw=>by have:=hwf id hw;omega)).trans (hSS2.h id hi)))
  ·exact (bH a6 (Nat.le_refl _) (by omega)).trans (((t1.trans s2).h a6 (by omega)).trans g1)
  ·exact (bH a7 (by omega) (by omega)).trans g2
  ·exact (dq.aF rE c1.sbs (fun id q1 q2=>(hU.2 id (by omega) (by omega) (by omega)).trans ((bH id (by omega) (by omega)).trans (s2.h id q2))) (by have:=hU.1;omega) (Nat.le_refl _)).ql
  ·exact (dq.aF rE c3.sbs (fun id q1 q2=>(hU.2 id (by omega) (by omega) (by omega)).trans (s4.h id q2)) (by have:=hU.1;omega) (Nat.le_refl _)).ql
  ·exact (dq.aF pJ c1.ey (fun id q1 q2=>(hU.2 id (by omega) (by omega) (by omega)).trans ((bH id (by omega) (by omega)).trans (s2.h id q2))) (by have:=hU.1;omega) (Nat.le_refl _)).ql
  ·exact (dq.aF pJ c3.ey (fun id q1 q2=>(hU.2 id (by omega) (by omega) (by omega)).trans (s4.h id q2)) (by have:=hU.1;omega) (Nat.le_refl _)).ql
 have Cm:=R.g6;simp only[yz.c] at Cm e9;have Ef:H1.c.length=130:=db _ _ _;have tD:H2.c.length=130:=db _ _ _;simp[-bF,t0,t3,t5,u1,u2,uo,uk,hlen,hI,hi60,hI60,yv,←ha6,jD,gg1,k1,k2,k3,k4,k5,k6,k7,k8,hw,hw5,gY];rw[bF];simp[-bF,t0,t3,t5,u1,u2,uo,uk,hlen,hI,hi60,hI60,yv,←ha6,jD,gg1,k1,k2,k3,k4,k5,k6,k7,k8,hw,hw5,gY];rw[bF];simp[-bF,t0,t3,t5,u1,u2,uo,uk,hlen,hI,hi60,hI60,yv,←ha6,jD,gg1,k1,k2,k3,k4,k5,k6,k7,k8,hw,hw5,gY,bN,e8,←ha7,Ef,tD,zH_len,w2,gg2,e9,e8',←ha9,w4];rw[bF];have zV:=R.o1.sbs;have pQ:=R.o2.sbs;have hq1:=R.o1.ey;have Bs:=R.o2.ey;have hl8:H1.L.length≤8:=by have:=congrArg List.length zV;have h2:=sR X.pure 8;rw[List.length_map] at this;omega
 have hl8':H2.L.length≤8:=by have:=congrArg List.length pQ;have h2:=sR X'.pure 8;rw[List.length_map] at this;omega
 have hl4:H1.A.length≤4:=by have:=congrArg List.length hq1;have h2:=adsP_len X.pure 4;rw[List.length_map] at this;omega
 have hd7:=mX R.g7 Ef;have hd9:=mX R.g9 tD;by_cases z:e=0
 case neg=>
  obtain ⟨z1,z2⟩:X'.pure=X.pure∧X'.dF=X.dF:=by
   rcases r4 with ⟨_,q1,q2⟩|⟨q1,_⟩
   ·exact ⟨q1,q2⟩
   ·exact absurd q1 z
  have ef:H2.f=H1.f:=by rw[R.o1.cur,R.o2.cur,z1]
  obtain ⟨_,T5,⟨t5',rfl⟩,e10⟩:=(B6 (f:=H1.f) (R.s1 _ .refl) (R.s2 _ .refl) (R.d1 _ .refl) (R.d2 _ .refl) (by rw[zV,pQ,z1]) (by rw[hq1,Bs,z1]) hl8 hl4).ex;have e10':∀ Q:AV→AS→Prop,ai C1 10 [.agg H1.c,.agg H2.c] S4 Q=Q (.bool true) T5:=by
   rw[show H2.c=gQ H2.sw H2.aw H1.f from by rw[←ef];rfl];exact e10
  simp[t0,t3,t5,z,hd7,hd9,bN,e10',gY];exact ⟨60-(i+1),by omega,pk (i+1) X' (R.bk _ (cR.refl.sub t5')) R.ok (by omega) R.wf (R.sub.trans t5') (by simp[t0]) (by simp[t3,rZ]) (by simp) (by omega) (by simp[hn]) rfl⟩
 obtain ⟨z1,z2⟩:EP X.pure o X'.pure∧X'.dF=X.dF+1:=by
  rcases r4 with ⟨q1,_⟩|⟨_,q1,q2⟩
  ·exact absurd z q1
  ·exact ⟨ep_of q1,q2⟩
 have hcf:=R.o1.cur;have hcg:=R.o2.cur;have hrc:X'.dF≤i+1+1:=by omega
 rw[←rZ] at t3;clear hr hX hX1 hX2 okX hwf e8 e8' e9 r1 r2 r3 r4 c1 c2 c3 c4 w2 w4 jD hwf6 bH hS yv gg1 gg2 g1 g2 g4;simp[t0,t3,t5,z,Cm];refine av (ow2H S4 w0 X'.b i a6 a7 a9 o.eZ) 8 (ow2H_mk 0 rfl ⟨by simp[t0],by simp[t3],by simp[t5],by simp,by simp,by simp,by simp,by simp[hn]⟩ (by simp) (by omega) rfl) ?_;clear t0 t3 t5 hn;rintro k2 F2 S'-⟨p,rfl,C,t11,hp8,va⟩;obtain ⟨t0,t3,t5,t6,t7,t9,t10,hn⟩:=C;by_cases hp:p<8
 ·have hpI:(p:Int)<8:=by omega
  simp[t11,hpI];refine av (ow4H S' w0 X'.b i a6 a7 a9 o.eZ p) 16 (ow4H_mk 0 rfl ⟨by simp[t0],by simp[t3],by simp[t5],by simp[t6],by simp[t7],by simp[t9],by simp[t10],by simp[hn]⟩ (by simp[t11]) (by simp) (by omega) rfl) ?_;clear t0 t3 t5 t6 t7 t9 t10 t11 hn;rintro k4 F4 S5-⟨q,rfl,C,t11,t12,hq16,xy⟩;obtain ⟨t0,t3,t5,t6,t7,t9,t10,hn⟩:=C;by_cases hq:q<16
  ·have hqI:(q:Int)<16:=by omega
   have xj:=cd (i:=q) (by omega);have l7:=ld_one (S:=S5) (B:=a7) (a:=H1.sw) (b:=H1.aw) (f:=H1.f) R.g7 (m:=p*16+q) (by omega);have l9:=ld_one (S:=S5) (B:=a9) (a:=H2.sw) (b:=H2.aw) (f:=H2.f) R.g9 (m:=p*16+q) (by omega);rw[show 2+(p*16+q)=2+p*16+q by omega] at l7 l9;have hm:=fun h=>own_curF z1 (i:=p) (j:=q) hp hq h;rw[←hcf,←hcg] at hm;have nx:∀ F':Fr,OwC w0 X'.b i a6 a7 a9 o.eZ F'→sl F' 11=.int .i64 p→sl F' 12=.int .i64 (q+1:Nat)→∃ j,j<k4∧ow4H S5 w0 X'.b i a6 a7 a9 o.eZ p j F' S5:=fun F' h1 h2 h3=>⟨16-(q+1),by omega,ow4H_mk (q+1) rfl h1 h2 h3 (by omega) rfl⟩
   have Ec:mineB o.eZ o.id (ti o.cU) p q=(!decide (4≤o.eZ)&&decide ((p:Int)=o.id)&&(decide (1<o.eZ)||decide (q=ti o.cU))):=rfl;have qk:=fun (t:TypeId) (c:Bool)=>tX o.cU (t:=t) (c:=c);by_cases c4:4≤o.eZ
   ·have fg:=hm (by rw[Ec];simp[c4]);rw[fg] at l9;simp[t0,t3,t5,t6,t7,t9,t10,t11,t12,hpI,hqI,Cm,c4];refine eC (n:=142) (by kernel_rfl) (by simp[hn]) ?_;simp[t0,t3,t5,t6,t7,t9,t10,t11,t12,hpI,hqI,hp,hq,Cm,l7,l9,xj,c4];exact nx _ ⟨by simp[t0],by simp[t3],by simp[t5],by simp[t6],by simp[t7],by simp[t9],by simp[t10],by simp[hn]⟩ (by simp[t11]) (by simp)
   by_cases cid:(p:Int)=o.id
   case neg=>
    have fg:=hm (by rw[Ec];simp[c4,cid]);rw[fg] at l9;simp[t0,t3,t5,t6,t7,t9,t10,t11,t12,hpI,hqI,Cm,c4,cid,qk];refine eC (n:=142) (by kernel_rfl) (by simp[hn]) ?_;simp[t0,t3,t5,t6,t7,t9,t10,t11,t12,hpI,hqI,hp,hq,Cm,l7,l9,xj,c4,cid,qk];exact nx _ ⟨by simp[t0],by simp[t3],by simp[t5],by simp[t6],by simp[t7],by simp[t9],by simp[t10],by simp[hn]⟩ (by simp[t11]) (by simp)
   by_cases c1:1<o.eZ
   ·simp[t0,t3,t5,t6,t7,t9,t10,t11,t12,hpI,hqI,Cm,c4,←cid,c1,qk];refine eC (n:=142) (by kernel_rfl) (by simp[hn]) ?_;simp[t0,t3,t5,t6,t7,t9,t10,t11,t12,hpI,hqI,hp,hq,Cm,l7,l9,xj,c4,←cid,c1,qk];exact nx _ ⟨by simp[t0],by simp[t3],by simp[t5],by simp[t6],by simp[t7],by simp[t9],by simp[t10],by simp[hn]⟩ (by simp[t11]) (by simp)
   by_cases cq:q=ti o.cU
   ·have cqI:(q:Int)=(ti o.cU:Nat):=by omega
    simp[t0,t3,t5,t6,t7,t9,t10,t11,t12,hpI,hqI,Cm,c4,←cid,c1,←cqI,qk];refine eC (n:=142) (by kernel_rfl) (by simp[hn]) ?_;simp[t0,t3,t5,t6,t7,t9,t10,t11,t12,hpI,hqI,hp,hq,Cm,l7,l9,xj,c4,←cid,c1,←cqI,qk];exact nx _ ⟨by simp[t0],by simp[t3],by simp[t5],by simp[t6],by simp[t7],by simp[t9],by simp[t10],by simp[hn]⟩ (by simp[t11]) (by simp)
   ·have cqI:¬(q:Int)=(ti o.cU:Nat):=by omega
    have fg:=hm (by rw[Ec];simp[c4,←cid,c1,cqI,cq]);rw[fg] at l9;simp[t0,t3,t5,t6,t7,t9,t10,t11,t12,hpI,hqI,Cm,c4,←cid,c1,cqI,cq,qk];refine eC (n:=142) (by kernel_rfl) (by simp[hn]) ?_;simp[t0,t3,t5,t6,t7,t9,t10,t11,t12,hpI,hqI,hp,hq,Cm,l7,l9,xj,c4,←cid,c1,cqI,cq,qk];exact nx _ ⟨by simp[t0],by simp[t3],by simp[t5],by simp[t6],by simp[t7],by simp[t9],by simp[t10],by simp[hn]⟩ (by simp[t11]) (by simp)
  ·obtain rfl:q=16:=by omega
   have xj:=cd (i:=p) (by omega);simp[t0,t3,t5,t6,t7,t9,t10,t11,t12,xj];exact ⟨8-(p+1),by omega,ow2H_mk (p+1) rfl ⟨by simp[t0],by simp[t3],by simp[t5],by simp[t6],by simp[t7],by simp[t9],by simp[t10],by simp[hn]⟩ (by simp) (by omega) rfl⟩
 ·obtain rfl:p=8:=by omega
  have hb:=R.l6;have hb2:=R.l7;have hb3:=R.l9;by_cases c4:4≤o.eZ
  ·have c1:¬o.eZ≤1:=by omega
   obtain ⟨S5,hS5⟩:∃ S5:AS,S5=⟨S'.h.set a7 (.row (gQ H1.sw .ar H1.f) 0 0 false 40),S'.next⟩:=⟨_,rfl⟩
   have w5:pL S' (.ptr a7 0 1 130) [.ar]=some S5:=by rw[hS5];exact st_aw R.g7
   have g5:S5.h.get a7=some (.row (gQ H1.sw .ar H1.f) 0 0 false 40):=by rw[hS5];exact aa _ _ _
   have g5':S5.h.get a9=some (.row (gQ H2.sw H2.aw H2.f) 0 0 false 40):=by rw[hS5];exact (ae _ _ (by omega)).trans R.g9
   have q5:cR S' S5 a7 a9:=by rw[hS5];exact cR.refl.set (.inl rfl)
   clear hS5;obtain ⟨S6,Ck⟩:∃ S6:AS,S6=⟨S5.h.set a9 (.row (gQ H2.sw .ar H2.f) 0 0 false 40),S5.next⟩:=⟨_,rfl⟩
   have w6:pL S5 (.ptr a9 0 1 130) [.ar]=some S6:=by rw[Ck];exact st_aw g5'
   have g6:S6.h.get a7=some (.row (gQ H1.sw .ar H1.f) 0 0 false 40):=by rw[Ck];exact (ae _ _ (by omega)).trans g5
   have g6':S6.h.get a9=some (.row (gQ H2.sw .ar H2.f) 0 0 false 40):=by rw[Ck];exact aa _ _ _
   have q6:cR S' S6 a7 a9:=by rw[Ck];exact q5.set (.inr rfl)
   clear Ck;have ef:H2.f=H1.f:=by
    rw[hcf,hcg];rcases z1 with ⟨_,e⟩|⟨e,_⟩
    ·unfold jo;rw[e]
    ·omega
   have l6:=mX g6 (db _ _ _);have l6':=mX g6' (db _ _ _);rw[ef] at l6';obtain ⟨_,T5,⟨t5',rfl⟩,e10⟩:=(B6 (f:=H1.f) (A:=[]) (A':=[]) (R.s1 _ q6) (R.s2 _ q6) ⟨Sl.nil,fun a ha=>(List.not_mem_nil ha).elim⟩ ⟨Sl.nil,fun a ha=>(List.not_mem_nil ha).elim⟩ (by rw[zV,pQ,own_ads z1 c4]) rfl hl8 (by decide)).ex;simp[t0,t3,t5,t6,t7,t9,t10,t11];refine eC (n:=142) (by kernel_rfl) (by simp[hn]) ?_;simp[t0,t3,t5,t6,t7,t9,t10,t11,Cm,c1,c4,w5,w6,l6,l6',bN,e10,gY];exact ⟨60-(i+1),by omega,pk (i+1) X' (R.bk _ (q6.sub t5')) R.ok (by omega) R.wf (R.sub' (q6.sub t5')) (by simp[t0]) (by simp[t3]) (by simp) (by omega) (by simp[hn]) rfl⟩
  obtain ⟨hsubs,hads⟩:=own_subs z1 (by omega);have Q1:=R.s1 S' .refl;have Q2:=R.s2 S' .refl;obtain ⟨w1,V1,⟨v1,h1,m1⟩,ea⟩:=(Dy o.id Q1.sl Q1.el hl8).ex;obtain ⟨w2,V2,⟨v2,h2,m2⟩,eb⟩:=(Dy o.id (Q2.subS v1).sl (Q2.subS v1).el hl8').ex;have qv:=(cR.refl (S:=S') (a7:=a7) (a9:=a9)).sub (v1.trans v2);have gv:=((v1.trans v2).h a7 (by omega)).trans R.g7;have gv':=((v1.trans v2).h a9 (by omega)).trans R.g9;have gg5:=(v1.h a6 (by omega)).trans Cm;have lw7:=DR (show S'.h.get a7=some (.row (gQ H1.sw H1.aw H1.f) 0 0 false 40) from R.g7);have lw9:=DR (show S'.h.get a9=some (.row (gQ H2.sw H2.aw H2.f) 0 0 false 40) from R.g9);have lw9':=DR (show V1.h.get a9=some (.row (gQ H2.sw H2.aw H2.f) 0 0 false 40) from (v1.h a9 (by omega)).trans R.g9);obtain ⟨S5,hS5⟩:∃ S5:AS,S5=⟨V2.h.set a7 (.row (gQ w1 H1.aw H1.f) 0 0 false 40),V2.next⟩:=⟨_,rfl⟩
  have w5:pL V2 (.ptr a7 0 0 130) [w1]=some S5:=by rw[hS5];exact st_sw gv
  have g5:S5.h.get a7=some (.row (gQ w1 H1.aw H1.f) 0 0 false 40):=by rw[hS5];exact aa _ _ _
  have g5':S5.h.get a9=some (.row (gQ H2.sw H2.aw H2.f) 0 0 false 40):=by rw[hS5];exact (ae _ _ (by omega)).trans gv'
  have q5:cR S' S5 a7 a9:=by rw[hS5];exact qv.set (.inl rfl)
  have p5:cR V2 S5 a7 a9:=by rw[hS5];exact cR.refl.set (.inl rfl)
  clear hS5;obtain ⟨S6,Ck⟩:∃ S6:AS,S6=⟨S5.h.set a9 (.row (gQ w2 H2.aw H2.f) 0 0 false 40),S5.next⟩:=⟨_,rfl⟩
  have w6:pL S5 (.ptr a9 0 0 130) [w2]=some S6:=by rw[Ck];exact st_sw g5'
  have g6:S6.h.get a7=some (.row (gQ w1 H1.aw H1.f) 0 0 false 40):=by rw[Ck];exact (ae _ _ (by omega)).trans g5
  have g6':S6.h.get a9=some (.row (gQ w2 H2.aw H2.f) 0 0 false 40):=by rw[Ck];exact aa _ _ _
  have q6:cR S' S6 a7 a9:=by rw[Ck];exact q5.set (.inr rfl)
  have p6:cR V2 S6 a7 a9:=by rw[Ck];exact p5.set (.inr rfl)
  clear Ck;obtain ⟨S7,hS7⟩:∃ S7:AS,S7=⟨S6.h.set a7 (.row (gQ w1 H1.aw fun _=>0) 0 0 false 40),S6.next⟩:=⟨_,rfl⟩
  have w7:pL S6 (.ptr a7 0 2 130) (fO fun _=>0)=some S7:=by rw[hS7];exact st_cur g6
  have g7:S7.h.get a7=some (.row (gQ w1 H1.aw fun _=>0) 0 0 false 40):=by rw[hS7];exact aa _ _ _
  have g7':S7.h.get a9=some (.row (gQ w2 H2.aw H2.f) 0 0 false 40):=by rw[hS7];exact (ae _ _ (by omega)).trans g6'
  have q7:cR S' S7 a7 a9:=by rw[hS7];exact q6.set (.inl rfl)
  have p7:cR V2 S7 a7 a9:=by rw[hS7];exact p6.set (.inl rfl)
  clear hS7;obtain ⟨S8,hS8⟩:∃ S8:AS,S8=⟨S7.h.set a9 (.row (gQ w2 H2.aw fun _=>0) 0 0 false 40),S7.next⟩:=⟨_,rfl⟩
  have w8:pL S7 (.ptr a9 0 2 130) (fO fun _=>0)=some S8:=by rw[hS8];exact st_cur g7'
  have g8:S8.h.get a7=some (.row (gQ w1 H1.aw fun _=>0) 0 0 false 40):=by rw[hS8];exact (ae _ _ (by omega)).trans g7
  have g8':S8.h.get a9=some (.row (gQ w2 H2.aw fun _=>0) 0 0 false 40):=by rw[hS8];exact aa _ _ _
  have q8:cR S' S8 a7 a9:=by rw[hS8];exact q7.set (.inr rfl)
  have p8:cR V2 S8 a7 a9:=by rw[hS8];exact p7.set (.inr rfl)
  clear hS8;have l8:=mX g8 (db _ _ _);have l8':=mX g8' (db _ _ _);have uF:Gw V2 w1 3 50 ((pN o.id H1.L).flatMap gE.c):=h1.aF (fun id e=>v2.h id (by have:=h1.1.old;omega)) v2.next
  have nb:∀ {w:AV} {L:List gE},Gw V2 w 3 50 ((pN o.id L).flatMap gE.c)→jN S'.next w→Sl S8 w 3 ((pN o.id L).flatMap gE.c):=fun hg hnw=>hg.1.aF (fun id e=>p8.2 id (by have:=hg.1.old;omega) (by unfold jN at hnw;omega) (by unfold jN at hnw;omega)) p8.1
  have v1n:=v1.next
  obtain ⟨_,T5,⟨t5',rfl⟩,e10⟩:=(B6 (f:=fun _=>0) (L:=pN o.id H1.L) (L':=pN o.id H2.L) ⟨nb uF m1,fun a ha=>(R.s1 S8 q8).el a (List.mem_filter.1 ha |>.1)⟩ ⟨nb h2 (by unfold jN at m2 ⊢;omega),fun a ha=>(R.s2 S8 q8).el a (List.mem_filter.1 ha |>.1)⟩ (R.d1 _ q8) (R.d2 _ q8) (by rw[Dz,Dz,zV,pQ,hsubs]) (by rw[hq1,Bs,hads]) (by have:=DA o.id H1.L;omega) hl4).ex;have kw1:=aq h1.1;have kw2:=aq h2.1;have cw1:=h1.1.cells;have cw2:=h2.1.cells;have nw1:=h1.1.np;have nw2:=h2.1.np;have ok1:=aq Q1.sl;have ok2:=aq Q2.sl;have fin3:∀ F5:Fr,sl F5 0=w0→sl F5 3=.ptr X'.b 0 0 27→sl F5 5=.int .i64 (i+1:Nat)→F5.n=142→∃ j,j<k∧lawH S w0 j F5 T5:=fun F5 f1 f2 f3 f4=>
   ⟨60-(i+1),by omega,pk (i+1) X' (R.bk _ (q8.sub t5')) R.ok (by omega) R.wf (R.sub' (q8.sub t5')) f1 f2 f3 (by omega) f4 rfl⟩
  have qk:=fun (t:TypeId) (c:Bool)=>tX o.cU (t:=t) (c:=c);by_cases c1:o.eZ≤1
  ·obtain ⟨m,e1,e2,e3⟩:=own_ackF z1 c1;rw[←hcg] at e3;have h16:=(wJ o.cU).2;have h16I:((ti o.cU:Nat):Int)<16:=by omega
   have l9:=ld_one (S:=S') (B:=a9) (a:=H2.sw) (b:=H2.aw) (f:=H2.f) R.g9 (m:=m*16+ti o.cU) (by omega);rw[show 2+(m*16+ti o.cU)=2+m*16+ti o.cU by omega,e3] at l9;have e2I:(m:Int)<8:=by omega
   simp[t0,t3,t5,t6,t7,t9,t10,t11];refine eC (n:=142) (by kernel_rfl) (by simp[hn]) ?_;simp[t0,t3,t5,t6,t7,t9,t10,t11,Cm,c4,c1,e1,e2,e2I,l9,h16,h16I,qk];refine aK [.p,.r 0 0,.p,.r 0 0,.e [],.p,.r 1 0,.p,.r 1 0,.e [],.p,.e [],.p,.e []] (n:=142) (by kernel_rfl) (by simp[hn]) ?_;simp[t0,t3,t5,t6,t7,t9,t10,t11,Cm,gg5,lw7,lw9,lw9',c4,bl38,w5,w6,w7,w8,l8,l8',bN,ea,eb,e10,gY,kw1,kw2,cw1,cw2,nw1,nw2,ok1,ok2,mq];exact fin3 _ (by simp[t0]) (by simp[t3]) (by simp) (by simp[hn])
  ·simp[t0,t3,t5,t6,t7,t9,t10,t11];refine eC (n:=142) (by kernel_rfl) (by simp[hn]) ?_;simp[t0,t3,t5,t6,t7,t9,t10,t11,Cm,c4,c1];refine aK [.p,.r 0 0,.p,.r 0 0,.e [],.p,.r 1 0,.p,.r 1 0,.e [],.p,.e [],.p,.e []] (n:=142) (by kernel_rfl) (by simp[hn]) ?_;simp[t0,t3,t5,t6,t7,t9,t10,t11,Cm,gg5,lw7,lw9,lw9',c4,bl38,w5,w6,w7,w8,l8,l8',bN,ea,eb,e10,gY,kw1,kw2,cw1,cw2,nw1,nw2,ok1,ok2,mq];exact fin3 _ (by simp[t0]) (by simp[t3]) (by simp) (by simp[hn])
end
open Go.Proofs.YtdknlbnljfdhgaaGreatDoor.mod (Val encV encV_len Con encC encC_len ConOk PredAt mayP mayC mayV setB sameB zeroV mayPred encT encT_len bare encM nget nput mget_encM mput_encM nget_nput nput_mem nget_mem predFoot idxI idx174)
noncomputable def flT (cx:Am.Cx) (t:TypeId):Option (List TypeId):=match aY cx t with|some (.struct fs)=>some (fs.toList.map (·.type))|_=>none
section
variable {cx:Am.Cx}
theorem AT {S:AS} {m:Nat} {t:TypeId} {l:List TypeId} {x:List AV} (h:flT cx t=some l) (hx:bU cx S (m+1) t x):pD (aA cx) (bU cx S m) l x:=by
 unfold flT at h;split at h
 ·rename_i fs hu;cases h;unfold bU at hx;simp only[hu] at hx;exact hx
 ·cases h
theorem chunks {α:Type} {sz:Nat} {enc:α→List AV} {G:α→Prop}:∀ (k:Nat) (cells:List AV),cells.length=k*sz→(∀ i,i<k→∃ a,(cells.drop (i*sz)).take sz=enc a∧G a)→∃ l:List α,l.length=k∧cells=l.flatMap enc∧∀ a,a∈l→G a
 | 0,cells,h,_=>by
  rw[Nat.zero_mul] at h;exact ⟨[],rfl,by rw[List.length_eq_zero_iff.1 h];rfl,fun a ha=>by cases ha⟩
 | k+1,cells,h,hc=>by
  obtain ⟨a,e,g⟩:=hc 0 (by omega);rw[Nat.succ_mul] at h;obtain ⟨l,h1,h2,h3⟩:=chunks (sz:=sz) (enc:=enc) (G:=G) k (cells.drop sz) (by rw[List.length_drop];omega) (fun i hi=>by
   obtain ⟨b,e,g⟩:=hc (i+1) (by omega);refine ⟨b,?_,g⟩;rw[←e,List.drop_drop];congr 2;rw[Nat.succ_mul,Nat.add_comm])
  refine ⟨a :: l,by rw[List.length_cons,h1],?_,fun b hb=>?_⟩
  ·rw[List.flatMap_cons,←h2,←e,Nat.zero_mul,List.drop_zero,List.take_append_drop]
  ·rcases List.mem_cons.1 hb with rfl|hb
   ·exact g
   ·exact h3 b hb
theorem sl_of {S:AS} {m:Nat} {t e sz:Nat} {pG:List AV} (hu:aY cx t=some (.slice e)) (hs:aA cx e=some sz) (h:bU cx S (m+1) t pG) {α:Type} {enc:α→List AV} {G:α→Prop} (hz:∀ a,(enc a).length=sz)
  (hel:∀ x,bU cx S m e x→∃ a,x=enc a∧G a):∃ (u:AV) (l:List α),pG=[u]∧Sl S u sz (l.flatMap enc)∧(∀ a,a∈l→G a)∧l.length≤maxLen∧∀ bs,bytesOf cx e=some bs→l.length*bs≤reachBytes:=by
 unfold bU at h;simp only[hu] at h;rcases h with rfl|⟨id,len,cap,sz',rfl,h1,h2,h3,h4,hb,h5,h6⟩
 ·exact ⟨_,[],rfl,Sl.nil,fun a ha=>(by cases ha),by simp,fun bs _=>by simp⟩
 ·rw[hs] at h1;cases h1;rcases h6 with rfl|⟨cells,ty,g1,g2,g3⟩
  ·obtain rfl:len=0:=by omega
   exact ⟨_,[],rfl,⟨by simp[isSl,iG],rfl,by simp[sLen],h5⟩,fun a ha=>(by cases ha),by simp,fun bs _=>by simp⟩
  ·obtain ⟨l,k1,k2,k3⟩:=chunks cap cells g2 fun i hi=>hel _ (g3 i hi);subst k2;refine ⟨_,l.take len,rfl,⟨by simp[isSl,iG,h3],?_,by rw[fm_len hz,List.length_take];simp only[sLen];congr 1;omega,h5⟩,fun a ha=>k3 a (List.mem_of_mem_take ha),by rw[List.length_take];omega,fun bs yx=>Nat.le_trans (Nat.mul_le_mul_right _ (by rw[List.length_take];omega)) (hb bs yx)⟩;cases len with
   | zero=>simp[lr]
   | succ len=>
    simp only[lr,eS,g1,bY];rw[if_pos ⟨Nat.le_refl _,Nat.le_refl _,by rw[Nat.zero_add];exact Nat.mul_le_mul_right _ h3⟩,List.drop_zero,fm_take hz]
theorem qZ {S:AS} {m:Nat} {t:TypeId} {pG:List AV} (hu:aY cx t=some (.int .i64)) (h:bU cx S (m+1) t pG):∃ n:Int,pG=[.int .i64 n]∧-9223372036854775808≤n∧n<9223372036854775808:=by
 unfold bU at h;simp only[hu] at h;obtain ⟨n,e,k1,k2⟩:=h;have xu:IntKind.i64.max=9223372036854775807:=rfl;have hmin:IntKind.i64.min=-9223372036854775808:=rfl;rw[hmin] at k1;rw[xu] at k2;exact ⟨n,e,k1,by omega⟩
theorem argU64 {S:AS} {m:Nat} {t:TypeId} {pG:List AV} (hu:aY cx t=some (.int .u64)) (h:bU cx S (m+1) t pG):∃ n:Nat,pG=[.int .u64 n]∧n<18446744073709551616:=by
 unfold bU at h;simp only[hu] at h;obtain ⟨n,e,k1,k2⟩:=h;have xu:IntKind.u64.max=18446744073709551615:=rfl;have hmin:IntKind.u64.min=0:=rfl;rw[hmin] at k1;rw[xu] at k2;exact ⟨n.toNat,by rw[e,Int.toNat_of_nonneg k1],by omega⟩
theorem argSl {S:AS} {m:Nat} {t e:TypeId} {pG:List AV} (hu:aY cx t=some (.slice e)) (h:bU cx S (m+1) t pG):∃ u:AV,pG=[u]∧cellsOf u=some [u]∧okW u=true:=by
 unfold bU at h;simp only[hu] at h;rcases h with rfl|⟨id,len,cap,sz',rfl,_⟩
 ·exact ⟨_,rfl,rfl,rfl⟩
 ·exact ⟨_,rfl,rfl,rfl⟩
theorem argBool {S:AS} {m:Nat} {t:TypeId} {pG:List AV} (hu:aY cx t=some .bool) (h:bU cx S (m+1) t pG):∃ b:Bool,pG=[.bool b]:=by
 unfold bU at h;simp only[hu] at h;exact h
theorem argStr {S:AS} {m:Nat} {t:TypeId} {pG:List AV} (hu:aY cx t=some .string) (h:bU cx S (m+1) t pG):∃ s:List Nat,pG=[.str s]∧s.length<140737488355328∧∀ c,c∈s→c<256:=by
 unfold bU at h;simp only[hu] at h;obtain ⟨s,e,k1,k2⟩:=h;have:reachBytes=140737488351232:=rfl;exact ⟨s,e,by omega,k2⟩
structure pK (cx:Am.Cx):Prop where
 un2:aY cx 2=some (.int .i64)
 un3:aY cx 3=some (.int .i64)
 un4:aY cx 4=some .bool
 rj:aY cx 9=some .string
 un27:aY cx 27=some (.int .u64)
 un22:aY cx 22=some (.slice 34)
 un29:aY cx 29=some (.slice 103)
 un30:aY cx 30=some (.slice 174)
 un31:aY cx 31=some (.slice 133)
 un32:aY cx 32=some (.slice 5)
 un101:aY cx 101=some (.slice 100)
 sz34:aA cx 34=some 8
 zp:aA cx 103=some 7
 sz174:aA cx 174=some 2
 CD:aA cx 100=some 4
 by174:bytesOf cx 174=some 16
 fl34:flT cx 34=some [3,3,3,27,29,30,31,32]
 fl103:flT cx 103=some [9,3,100,101]
 fl100:flT cx 100=some [3,2,9,4]
 fl174:flT cx 174=some [3,27]
 ag22:aD cx 22=some false
theorem val_of (K:pK cx) {S:AS} {m:Nat} {x:List AV} (h:bU cx S (m+2) 100 x):∃ v:Val,x=encV v∧yl v:=by
 obtain ⟨a,_,rfl,_,h1,b,_,rfl,_,h2,c,_,rfl,_,h3,d,_,rfl,_,h4,rfl⟩:=AT K.fl100 h;obtain ⟨k,rfl,_⟩:=qZ K.un3 h1;obtain ⟨n,rfl,n1,n2⟩:=qZ K.un2 h2;obtain ⟨s,rfl,s1,s2⟩:=argStr K.rj h3;obtain ⟨b,rfl⟩:=argBool K.un4 h4;exact ⟨⟨k,n,s,b⟩,rfl,n1,n2,s2⟩
theorem con_of (K:pK cx) {S:AS} {m:Nat} {x:List AV} (h:bU cx S (m+4) 103 x):∃ c:Con,x=encC c∧ConOk S c∧fA c:=by
 obtain ⟨a,_,rfl,_,h1,b,_,rfl,_,h2,c,_,rfl,_,h3,d,_,rfl,_,h4,rfl⟩:=AT K.fl103 h;obtain ⟨s,rfl,s1,s2⟩:=argStr K.rj h1;obtain ⟨k,rfl,_⟩:=qZ K.un3 h2;obtain ⟨v,rfl,v1⟩:=val_of K h3;obtain ⟨u,l,rfl,g1,g0,g3,_⟩:=sl_of (enc:=encV) (G:=yl) K.un101 K.CD h4 encV_len (fun x hx=>val_of K hx);have tC:maxLen=9223372036854775807:=rfl;exact ⟨⟨s,k,v,u,l⟩,rfl,⟨g1,by show l.length≤_;omega⟩,v1,g0,s2⟩
theorem start_of (K:pK cx) {S:AS} {m:Nat} {x:List AV} (h:bU cx S (m+2) 174 x):∃ t:Int×Nat,x=encT t∧True:=by
 obtain ⟨a,_,rfl,_,h1,b,_,rfl,_,h2,rfl⟩:=AT K.fl174 h;obtain ⟨k,rfl,_⟩:=qZ K.un3 h1;obtain ⟨n,rfl,_⟩:=argU64 K.un27 h2;exact ⟨(k,n),rfl,trivial⟩
theorem op_of (K:pK cx) {S:AS} {m:Nat} {x:List AV} (h:bU cx S (m+6) 34 x):∃ o:yz,x=o.c∧OpAt S o:=by
 obtain ⟨a,_,rfl,_,h1,b,_,rfl,_,h2,c,_,rfl,_,h3,d,_,rfl,_,h4,e,_,rfl,_,h5,f,_,rfl,_,h6,g,_,rfl,_,h7,i,_,rfl,_,h8,rfl⟩:=AT K.fl34 h;obtain ⟨w,rfl,_⟩:=qZ K.un3 h1;obtain ⟨id,rfl,_⟩:=qZ K.un3 h2;obtain ⟨cU,rfl,_⟩:=qZ K.un3 h3;obtain ⟨n,rfl,n1⟩:=argU64 K.un27 h4;obtain ⟨p,cs,rfl,p1,p2,p3,_⟩:=sl_of (enc:=encC) (G:=fun c=>ConOk S c∧fA c) K.un29 K.zp h5 encC_len (fun x hx=>con_of K hx);obtain ⟨sv,st,rfl,s1,_,_,s3⟩:=sl_of (enc:=encT) (G:=fun _=>True) K.un30 K.sz174 h6 encT_len (fun x hx=>start_of K hx);obtain ⟨kv,rfl,k1⟩:=argSl K.un31 h7;obtain ⟨tv,rfl,t1⟩:=argSl K.un32 h8;have tC:maxLen=9223372036854775807:=rfl;have hb:=s3 16 K.by174;have hrb:reachBytes=140737488351232:=rfl;exact ⟨⟨w,id,cU,n,p,cs,sv,st,kv,tv⟩,rfl,⟨p1,fun c hc=>(p2 c hc).1,by show cs.length≤_;omega⟩,fun c hc=>(p2 c hc).2,s1,by show st.length*16≤_;omega,n1,k1,t1⟩
theorem args22 (K:pK cx) {S:AS} {m:Nat} {bX:List AV} (h:lJ cx S (m+7) [22] bX):∃ (v:AV) (ops:List yz),bX=[v]∧OpsAt S v ops:=by
 obtain ⟨a1,r1,rfl,h1,rfl⟩:=h;obtain ⟨u,l,rfl,g1,g0,_,_⟩:=sl_of (G:=OpAt S) (enc:=yz.c) K.un22 K.sz34 h1 op_len (fun x hx=>op_of K hx);exact ⟨u,l,by simp only[argA,K.ag22,CO],g1,g0⟩
end
theorem bkFacts:pK C1:=⟨by kernel_rfl,by kernel_rfl,by kernel_rfl,by kernel_rfl,by kernel_rfl,by kernel_rfl,by kernel_rfl,by kernel_rfl,by kernel_rfl,by kernel_rfl,by kernel_rfl,by kernel_rfl,by kernel_rfl,by kernel_rfl,by kernel_rfl,by kernel_rfl,by kernel_rfl,by kernel_rfl,by kernel_rfl,by kernel_rfl,by kernel_rfl⟩
theorem lawOwn (S:AS) (bX:List AV) (h:lJ C1 S 8 [22] bX):ai C1 3 bX S fun v _=>v=.bool true:=by
 obtain ⟨v,ops,rfl,hv⟩:=args22 (m:=1) bkFacts h;exact law3 hv
end Go.Proofs.YtdknlbnljfdhgaaGreatDoor.bk
