/-
  What a record of a life does; what records do, without memory.
-/
import Derived.Test.YtdknlbnljfdhgaaGreatDoorPartD
import Derived.Test.YtdknlbnljfdhgaaGreatDoorPartE
namespace Go.Proofs.YtdknlbnljfdhgaaGreatDoor.bk
open Go Go.Am Go.Proofs.YtdknlbnljfdhgaaGreatDoor.dk
open Go.Proofs.YtdknlbnljfdhgaaGreatDoor.mod (Val encV encV_len Con encC encC_len ConOk PredAt mayP mayC mayV setB sameB zeroV mayPred encT encT_len bare encM nget nput mget_encM mput_encM nget_nput nput_mem nget_mem predFoot idxI idx174)
set_option linter.unusedVariables false
set_option linter.unusedSimpArgs false
def PB.de(P:PB)(n:Nat):PB:={P with aI:=n}
section
variable{S T:AS}{X:cV}{r:Rec}
set_option maxRecDepth 20000 in
theorem does51l(h:bN S X)(cJ:cK S r)(e2:r.sort=1)(oE:fc r.n=true):
  ai C1 51 [.ptr X.b 0 1 27,.agg r.c] S fun v T=>v=.func (.func 105) [] [.ptr (S.next+1) 0 0 7,.ptr S.next 0 0 1]/\tu S X r T:=by
 have hB:=m7 (S:=S) (X:=X) (r:=r);have iR:=fun Q=>sj (h.toSub (pL (X:=X) (r:=r))) r.id (Q:=Q);have iJ:(⟨(S.h.set S.next (.row [.ptr X.b 0 1 27] 0 0 false 121)).set (S.next+1) (.row r.c 0 0 false 115),S.next+2⟩:AS)=iE S X r:=rfl;have n2:(iE S X r).next=S.next+2:=rfl
 have rI:(iE S X r).h.get (S.next+1)=some (.row r.c 0 0 false 115):=aa _ _ _;have EM:(iE S X r).h.get S.next=some (.row [.ptr X.b 0 1 27] 0 0 false 121):=(ae _ _ (by omega)).trans (aa _ _ _)
 have my:(⟨((iE S X r).h.set (S.next+2) (.row [.bM] 0 0 false 104)).set (S.next+2) (.row [pX (iT X.ar r.id)] 0 0 false 104),S.next+3⟩:AS)=bxS S X r:=rfl;have sg:=mO (S:=bxS S X r) (n:=r.n);have gr:=hB.br;have gx:=hB.bx;have gs:=hB.bs;have k1:=aj cJ.pred.sl;have k2:=aj cJ.sl;have k3:=cJ.pred.sl.cells;have k4:=cJ.sl.cells;obtain⟨S2,c7⟩:∃S2,S2=iE S X r:=⟨_,rfl⟩
 obtain⟨S3,kO⟩:∃S3,S3=bxS S X r:=⟨_,rfl⟩
 rw[<-c7]at iR iJ n2 rI EM my;rw[<-kO]at my sg gr gx gs hB;obtain⟨px,hpx⟩:∃px,px=pX (iT X.ar r.id):=⟨_,rfl⟩
 have o1:okW px=true:=by rw[hpx];exact okW_pX
 have o2:bE px=false:=by rw[hpx];exact np_pX
 have o3:cellsOf px=some [px]:=by rw[hpx];exact Fk
 rw[<-hpx]at iR my gx;unfold Rec.c at iJ rI gr;rw[e2]at iJ rI gr;rw[oE]at sg;refine cl (cD _) (cG _ rfl) fn51 rfl ok51 (by simp) fun F hn hs=>?_;rw[nt51]at hn;have s0:=hs 0;have s1:=hs 1;clear hs;simp only[List.getElem?_cons_zero,List.getElem?_cons_succ,Option.getD_some,Rec.c,e2]at s0 s1;simp[s0,s1,aR,iJ,n2,rI,EM,iR,my,gr,gx,sg,k1,k2,k3,k4,o1,o2,o3];exact hB
theorem eff105(h:bN S X){sb rb:Nat}(hs:S.h.get sb=some (.row [.ptr X.b 0 1 27] 0 0 false 121))(hr:S.h.get rb=some (.row r.c 0 0 false 115))(hn:r.n<18446744073709551616):
  ai C1 105 [.ptr rb 0 0 7,.ptr sb 0 0 1] S fun _ T=>bN T {X with aI:=r.n}/\dV X {X with aI:=r.n} S T:=by
 have dc:=h.row;have hw:AM S (.ptr X.b 0 1 27) [.int .u64 r.n]=some ⟨S.h.set X.b (.row ({X with aI:=r.n}:cV).c 0 0 false 110),S.next⟩:=by
  simp only[gh,mA,h.row,gk];rw[if_pos ⟨trivial,by simp,trivial⟩];rfl
 have fin:bN ⟨S.h.set X.b (.row ({X with aI:=r.n}:cV).c 0 0 false 110),S.next⟩ {X with aI:=r.n}/\dV X {X with aI:=r.n} S ⟨S.h.set X.b (.row ({X with aI:=r.n}:cV).c 0 0 false 110),S.next⟩:=
  h.own rfl rfl (fun id _ hi=>ae _ _ hi) (Nat.le_refl _) (aa _ _ _) hn (fun i x hi hx=>.inl hx) (fun i hi=>.inl rfl)
 unfold Rec.c at hr;refine aX (cD _) (cG _ rfl) fn105 rfl ok105 (by simp) fun F hn s0 s1=>?_;simp[s0,s1,hs,hr,hw];exact fin
theorem does_life(e2:r.sort=1)(oE:fc r.n=true):Does S X r (X.pure.de r.n):=fun T X1 hX hL cJ=>by
 obtain⟨v,U,⟨rfl,hB⟩,e1⟩:=(does51l hX cJ e2 oE).ex;have hXU:=hX.toSub hB.sub;have cq:=hB.lt;obtain⟨w,Y,⟨h1,h2⟩,e⟩:=(eff105 hXU hB.bs hB.br cJ.n).ex;refine⟨_,_,U,e1,aR _ rfl,hB.sub,w,Y,_,e,h1,h2,?_,rfl,rfl⟩;have:=mT hL;rw[<-this];rfl
end
inductive vq(P:PB)(r:Rec):PB->Prop
 |aI (e:r.sort=1) (hn:fc r.n=true):vq P r (P.de r.n)
 |rQ (e:r.sort=2) {n:Nat} (bY:r.id=n) (mw:n<8) (jL:P.ar n=none) (hm:mayP r.cs=true) (hr:eh r.st=true):vq P r (P.bq n (some ⟨r.cs.map bare,r.st,[]⟩))
 |ends (e:r.sort=3) {n:Nat} (bY:r.id=n) (mw:n<8) {x:mu} (hx:P.ar n=some x):vq P r (P.bq n none)
 |ad (e:r.sort=4) {k:Nat} (bY:r.id=k) (tw:k<4) (hn:fc r.n=true) (hv:(P.bR k).gE<r.n) (hm:mayP r.cs=true):vq P r (P.jQ k ⟨k,r.n,r.there,r.cs.map bare⟩)
 |ack (e:r.sort=5) {n:Nat} (bY:r.id=n) (mw:n<8) {x:mu} (hx:P.ar n=some x) (hn:fc r.n=true) (hp:0<=r.pub/\r.pub<256) (hv:lW x r.pub<r.n):vq P r (P.bq n (some {x with cur:=nput x.cur r.pub r.n}))
theorem vq.eqv{P P':PB}{r r':Rec}(h:vq P r P')(he:Eqv r r'):vq P r' P':=by
 have hm:mayP r.cs=true->mayP r'.cs=true:=fun h=>by rw[lA he.cs];exact h
 cases h with
 |aI e hn=>rw[<-he.n]at hn⊢;exact .aI (he.sort.trans e) hn
 |rQ e bY mw jL h1 h2=>rw[<-he.st]at h2⊢;rw[<-he.cs];exact .rQ (he.sort.trans e) (he.id.trans bY) mw jL (hm h1) h2
 |ends e bY mw hx=>exact .ends (he.sort.trans e) (he.id.trans bY) mw hx
 |ad e bY tw hn hv h1=>rw[<-he.n]at hn hv⊢;rw[<-he.there,<-he.cs];exact .ad (he.sort.trans e) (he.id.trans bY) tw hn hv (hm h1)
 |ack e bY mw hx hn hp hv=>rw[<-he.n]at hn hv⊢;rw[<-he.pub]at hp hv⊢;exact .ack (he.sort.trans e) (he.id.trans bY) mw hx hn hp hv
inductive js:PB->List Rec->PB->Prop
 |nil (P:PB):js P [] P
 |cons {P Q R:PB} {r:Rec} {rs:List Rec} (h:vq P r Q) (k:js Q rs R):js P (r::rs) R
theorem js.append{P Q R:PB}{rs ss:List Rec}(h:js P rs Q)(k:js Q ss R):js P (rs++ss) R:=by
 induction h with
 |nil=>exact k
 |cons h1 _ ih=>exact .cons h1 (ih k)
def DoneP(d:PD)(P:PB)(e:Int)(d':PD)(P':PB):Prop:=(e≠0/\d'=d/\P'=P)\/∃r Q,kG r/\vq P r Q/\Cc d (az (iQ (dS r)))=(e,d')/\(e≠0->P'=P)/\(e=0->P'=Q)
section
variable{S T:AS}{X:cV}{r:Rec}
theorem vq.does{P':PB}(h:vq X.pure r P'):Does S X r P':=by
 have hx0:∀{n:Nat}{y:mu},X.pure.ar n=some y->∃x,X.ar n=some x/\x.pure=y:=fun {n y} h=>by
  have h:(X.ar n).map da.pure=some y:=h;cases e:X.ar n with
  |none=>rw[e]at h;cases h
  |some x=>rw[e]at h;exact⟨x,rfl,Option.some.inj h⟩
 cases h with
 |aI e hn=>exact does_life e hn
 | rQ e bY mw jL h1 h2=>exact E9 e bY mw (by
   have jL:(X.ar _).map da.pure=none:=jL;exact Option.map_eq_none_iff.1 jL) h1 h2
 |ends e bY mw hx=>obtain⟨x,h1,_⟩:=hx0 hx;exact does_ends e bY mw h1
 |ad e bY tw hn hv h1=>exact does_ad e bY tw hn hv h1
 |ack e bY mw hx hn hp hv=>obtain⟨x,h1,rfl⟩:=hx0 hx;exact does_ack e bY mw h1 hn hp hv
end
open Go.Proofs.YtdknlbnljfdhgaaGreatDoor.mod (Val encV encV_len Con encC encC_len ConOk PredAt mayP mayC mayV setB sameB zeroV mayPred encT encT_len bare encM nget nput mget_encM mput_encM nget_nput nput_mem nget_mem predFoot idxI idx174)
def av(X:cV)(E:PB->Prop)(S:AS)(v:AV)(T:AS):Prop:=
 ∃(e:Int)(X':cV),v=.int .i64 e/\bN T X'/\dV X X' S T/\X'.D.pd.ok/\((e≠0/\X'.pure=X.pure/\X'.db=X.db)\/(e=0/\E X'.pure/\X'.db=X.db+1))/\DoneP X.D.pd X.pure e X'.D.pd X'.pure/\X'.D.dp=X.D.dp
def EAck(X:cV)(id pub:Int)(n:Nat)(P:PB):Prop:=∃(k:Nat)(x:da),id=k/\k<8/\X.ar k=some x/\0<=pub/\pub<256/\P=X.pure.bq k (some ⟨x.ks.map bare,x.st,nput x.cur pub n⟩)
def ESub(X:cV)(id:Int)(cs:List Con)(st:List (Int×Nat))(P:PB):Prop:=∃k:Nat,id=k/\k<8/\X.ar k=none/\P=X.pure.bq k (some ⟨cs.map bare,st,[]⟩)
def EUns(X:cV)(id:Int)(P:PB):Prop:=∃(k:Nat)(x:da),id=k/\k<8/\X.ar k=some x/\P=X.pure.bq k none
def EAdv(X:cV)(id:Int)(there:Bool)(cs:List Con)(P:PB):Prop:=∃k:Nat,id=k/\k<4/\P=X.pure.jQ k ⟨k,(X.bR k).gE+1,there,cs.map bare⟩
theorem bld115b{id:Int}{p v:AV}(h:isSl 7 p=true)(hv:isSl 2 v=true):cU C1 115 [(0,.int .i64 2),(1,.int .i64 id),(6,v),(5,p)]=some (.agg [.int .i64 2,.int .i64 id,.int .i64 0,.int .u64 0,.bool false,p,v]):=by
 cases p<;>first|(simp[isSl]at h;done)|(cases v<;>first|(simp[isSl]at hv;done)|kernel_rfl)
theorem bld115e{id:Int}:cU C1 115 [(0,.int .i64 3),(1,.int .i64 id)]=some (.agg [.int .i64 3,.int .i64 id,.int .i64 0,.int .u64 0,.bool false,.aq,.aq]):=by kernel_rfl
theorem bld115a{k n:Int}{t:Bool}{p:AV}(h:isSl 7 p=true):cU C1 115 [(0,.int .i64 4),(1,.int .i64 k),(3,.int .u64 n),(4,.bool t),(5,p)]=some (.agg [.int .i64 4,.int .i64 k,.int .i64 0,.int .u64 n,.bool t,p,.aq]):=by
 cases p<;>first|(simp[isSl]at h;done)|kernel_rfl
theorem bld115k{id pub n:Int}:cU C1 115 [(0,.int .i64 5),(1,.int .i64 id),(2,.int .i64 pub),(3,.int .u64 n)]=some (.agg [.int .i64 5,.int .i64 id,.int .i64 pub,.int .u64 n,.bool false,.aq,.aq]):=by kernel_rfl
section
variable{S T:AS}{X:cV}
theorem wI:PredAt S .aq []:=⟨Sl.nil,(fun c hc=>by cases hc),by simp⟩
theorem av.no{E:PB->Prop}(h:bN S X)(ok:X.D.pd.ok){e:Int}(he:e≠0)(hs:Sub S T):av X E S (.int .i64 e) T:=⟨e,X,rfl,h.toSub hs,dV.of hs,ok,.inl ⟨he,rfl,rfl⟩,.inl ⟨he,rfl,rfl⟩,rfl⟩
theorem nQ{r:Rec}{E:PB->Prop}(h:bN S X)(hs:Sub S T)(cJ:cK T r)(ho:uH X r)(Ah:X.db<64)(ok:X.D.pd.ok)(hs8:r.st.length<=8){P':PB}(hp:vq X.pure r P')(hw:kG r)(hE:E P'):
  ∃v U,(∀Q:AV->AS->Prop,ai C1 91 [.ptr X.b 0 0 27,.agg r.c] T Q=Q v U)/\bE v=false/\okW v=true/\av X E S v U:=by
 obtain⟨v,U,⟨e,X',rfl,h1,h2,h3,h4,h7,h8⟩,e1⟩:=(change91 (h.toSub hs) cJ ho Ah ok hs8 (vq.does (S:=T) hp)).ex;refine⟨_,U,e1,rfl,rfl,e,X',rfl,h1,(dV.of hs).trans h2,h3,?_,.inr ⟨r,P',hw,hp,h7,fun q=>?_,fun q=>?_⟩,h8⟩
 case refine_2=>rcases h4 with⟨_,h5,_⟩|⟨h5,_⟩;exact h5;exact absurd h5 q
 case refine_3=>rcases h4 with⟨h5,_⟩|⟨_,h5,_⟩;exact absurd q h5;exact h5
 rcases h4 with h4|⟨h4,h5,h6⟩
 .exact .inl h4
 .exact .inr ⟨h4,by rw[h5];exact hE,h6⟩
theorem wC{r:Rec}(e1:r.p=.aq)(e2:r.cs=[])(e3:r.sv=.aq):uH X r:=fun id e=>by
 rcases e with e|e
 .rw[e1,e2]at e;rcases e with e|⟨c,hc,_⟩
  .simp[aB]at e
  .cases hc
 .rw[e3]at e;simp[aB]at e
theorem Dj{k:Nat}{x:da}(h:X.ar k=some x):X.pure.ar k=some x.pure:=by
 show (X.ar k).map _=_;rw[h];rfl
theorem sub_none{k:Nat}(h:X.ar k=none):X.pure.ar k=none:=by
 show (X.ar k).map _=_;rw[h];rfl
theorem may_nil:mayP []=true:=by decide
theorem rw_ack{k:Nat}{pub:Int}{n:Nat}(hk:k<256)(hp:0<=pub/\pub<256)(hn:fc n=true):kG ⟨5,k,pub,n,false,.aq,[],.aq,[]⟩:=
 ⟨by unfold fc at hn;simp at hn;show n<=_;omega,may_nil,(fun c hc=>by cases hc),by simp,(fun t ht=>by cases ht),by show (0:Int)<=k/\(k:Int)<256;omega,hp,.inr (.inr (.inr (.inr ⟨rfl,rfl,rfl,rfl⟩)))⟩
theorem rw_ends{k:Nat}(hk:k<256):kG ⟨3,k,0,0,false,.aq,[],.aq,[]⟩:=
 ⟨by simp,may_nil,(fun c hc=>by cases hc),by simp,(fun t ht=>by cases ht),by show (0:Int)<=k/\(k:Int)<256;omega,by simp,.inr (.inr (.inl ⟨rfl,rfl,rfl,rfl,rfl,rfl⟩))⟩
theorem right_more{st:List (Int×Nat)}(h:eh st=true):∀t,t∈st->0<=t.1/\t.1<256/\t.2<=1099511627777:=by
 unfold eh at h;rw[Bool.and_eq_true]at h;refine fun t ht=>?_;obtain⟨i,hi,rfl⟩:=List.getElem_of_mem ht;have h1:=List.all_eq_true.1 h.1 i (List.mem_range.2 hi);unfold Ed at h1;rw[List.getElem?_eq_getElem hi]at h1;unfold okT at h1;simp only[Bool.and_eq_true,decide_eq_true_eq]at h1;omega
theorem zC{k:Nat}{p sv:AV}{cs:List Con}{st:List (Int×Nat)}(hk:k<256)(hm:mayP cs=true)(hn:∀c,c∈cs->bX c)(hr:eh st=true):kG ⟨2,k,0,0,false,p,cs,sv,st⟩:=
 ⟨by simp,hm,hn,(oX hr).1,right_more hr,by show (0:Int)<=k/\(k:Int)<256;omega,by simp,.inr (.inl ⟨rfl,rfl,rfl,rfl⟩)⟩
theorem rw_ad{k n:Nat}{there:Bool}{p:AV}{cs:List Con}(hk:k<256)(oE:n<=1099511627776)(hm:mayP cs=true)(hn:∀c,c∈cs->bX c)(ht:there=false->cs=[]):kG ⟨4,k,0,n,there,p,cs,.aq,[]⟩:=
 ⟨by show n<=_;omega,hm,hn,by simp,(fun t ht=>by cases ht),by show (0:Int)<=k/\(k:Int)<256;omega,by simp,.inr (.inr (.inr (.inl ⟨rfl,rfl,rfl,ht⟩)))⟩
theorem ack41(h:bN S X)(ok:X.D.pd.ok)(Ah:X.db<64)(id pub:Int){n:Nat}(hn64:n<18446744073709551616):
  ai C1 41 [.ptr X.b 0 0 27,.int .i64 id,.int .i64 pub,.int .u64 n] S (av X (EAck X id pub n) S):=by
 have oF:=fun Q=>mh h (Q:=Q);have iR:=fun Q=>sj h id (Q:=Q);have sg:=mO (S:=S) (n:=n);obtain⟨v,T,⟨rfl,hT⟩,e88⟩:=(xN h id pub).ex;have dc:=h.row;unfold cV.c at dc;refine enter4 (cD _) (cG _ rfl) fn41 rfl ok41 (by simp) fun F hn s0 s1 s2 s3=>?_;cases fy:iT X.ar id with
 |none=>
  rw[fy]at iR;simp only[pX]at iR;simp[s0,s1,s2,s3,oF,iR,aR];exact av.no h ok (by decide) (Sub.refl S)
 |some x=>
  obtain⟨k,rfl,hk8,hx⟩:=tG fy;rw[fy]at iR e88;simp only[pX]at iR;have ec:ig (Option.map da.pure (some x)) pub=lW x.pure pub:=rfl;rw[ec]at e88;by_cases p0:pub<0
  .simp[s0,s1,s2,s3,oF,iR,aR,p0];exact av.no h ok (by decide) (Sub.refl S)
  by_cases p1:256<=pub
  .simp[s0,s1,s2,s3,oF,iR,aR,p0,p1];exact av.no h ok (by decide) (Sub.refl S)
  cases hk:fc n with
  |false=>
   rw[hk]at sg;simp[s0,s1,s2,s3,oF,iR,aR,p0,p1,sg];exact av.no h ok (by decide) (Sub.refl S)
  |true=>
   rw[hk]at sg;by_cases c:n<=lW x.pure pub
   .have cI:(n:Int)<=(lW x.pure pub:Nat):=by omega
    simp[s0,s1,s2,s3,oF,iR,aR,p0,p1,sg,dc,e88,c,cI];exact av.no h ok (by decide) hT
   .have cI:¬(n:Int)<=(lW x.pure pub:Nat):=by omega
    obtain⟨r,hr⟩:∃r:Rec,r=⟨5,k,pub,n,false,.aq,[],.aq,[]⟩:=⟨_,rfl⟩
    have cJ:cK T r:=by rw[hr];exact⟨wI,Sl.nil,(fun c hc=>by cases hc),hn64,(fun t ht=>by cases ht),by simp⟩
    have hrc:r.c=[.int .i64 5,.int .i64 k,.int .i64 pub,.int .u64 n,.bool false,.aq,.aq]:=by rw[hr];rfl
    obtain⟨v,U,CT,np,okv,iN⟩:=nQ (E:=EAck X k pub n) h hT cJ (wC (by rw[hr]) (by rw[hr]) (by rw[hr])) Ah ok (by rw[hr];simp)
     (vq.ack (P:=X.pure) (r:=r) (x:=x.pure) (by rw[hr]) (by rw[hr]) hk8 (Dj hx) (by rw[hr];exact hk) (by rw[hr];show 0<=pub/\pub<256;omega) (by rw[hr];show lW x.pure pub<n;omega))
     (by rw[hr];exact rw_ack (by omega) (by omega) hk) ⟨k,x,rfl,hk8,hx,by omega,by omega,by rw[hr];rfl⟩
    rw[hrc]at CT;simp[s0,s1,s2,s3,oF,iR,aR,p0,p1,sg,dc,e88,c,cI,bld115k,CT,np,okv];exact iN
theorem yy(h:bN S X)(ok:X.D.pd.ok)(Ah:X.db<64)(id:Int):ai C1 44 [.ptr X.b 0 0 27,.int .i64 id] S (av X (EUns X id) S):=by
 have oF:=fun Q=>mh h (Q:=Q);have iR:=fun Q=>sj h id (Q:=Q);have dc:=h.row;unfold cV.c at dc;refine aX (cD _) (cG _ rfl) fn44 rfl ok44 (by simp) fun F hn s0 s1=>?_;cases fy:iT X.ar id with
 |none=>
  rw[fy]at iR;simp only[pX]at iR;simp[s0,s1,oF,iR,aR];exact av.no h ok (by decide) (Sub.refl S)
 |some x=>
  obtain⟨k,rfl,hk8,hx⟩:=tG fy;rw[fy]at iR;simp only[pX]at iR;obtain⟨r,hr⟩:∃r:Rec,r=⟨3,k,0,0,false,.aq,[],.aq,[]⟩:=⟨_,rfl⟩
  have cJ:cK S r:=by rw[hr];exact⟨wI,Sl.nil,(fun c hc=>by cases hc),(by show 0<18446744073709551616;decide),(fun t ht=>by cases ht),by simp⟩
  have hrc:r.c=[.int .i64 3,.int .i64 k,.int .i64 0,.int .u64 0,.bool false,.aq,.aq]:=by rw[hr];rfl
  obtain⟨v,U,CT,np,okv,iN⟩:=nQ (E:=EUns X k) h (Sub.refl S) cJ (wC (by rw[hr]) (by rw[hr]) (by rw[hr])) Ah ok (by rw[hr];simp)
   (vq.ends (P:=X.pure) (r:=r) (x:=x.pure) (by rw[hr]) (by rw[hr]) hk8 (Dj hx)) (by rw[hr];exact rw_ends (by omega)) ⟨k,x,rfl,hk8,hx,rfl⟩
  rw[hrc]at CT;simp[s0,s1,oF,iR,aR,bld115e,CT,np,okv];exact iN
theorem Dh(h:bN S X)(ok:X.D.pd.ok)(Ah:X.db<64)(id:Int){p sv:AV}{cs:List Con}{st:List (Int×Nat)}(hp:PredAt S p cs)(hn:∀c,c∈cs->bX c)(hs:Sl S sv 2 (st.flatMap encT))(fy:st.length<=9223372036854775806)
  (hpo:∀i,predFoot p cs i->¬X.wf i) (hso:∀i,aB sv=i+1->¬X.wf i) :
  ai C1 42 [.ptr X.b 0 0 27,.int .i64 id,p,sv] S (av X (ESub X id cs st) S):=by
 have oF:=fun Q=>mh h (Q:=Q);obtain⟨v,T,⟨rfl,hT⟩,e92⟩:=(right92 hs fy).ex;obtain⟨v,U,⟨rfl,hU⟩,u3⟩:=(up1 (mayPred (hp.sub hT))).ex;have hTU:=hT.trans hU;have hX:=h.toSub hTU;have iR:=fun Q=>sj hX id (Q:=Q);have k1:=aj hp.sl;have k2:=aj hs;refine enter4 (cD _) (cG _ rfl) fn42 rfl ok42 (by simp) fun F fL s0 s1 s2 s3=>?_;by_cases i0:id<0
 .simp[s0,s1,s2,s3,oF,aR,i0];exact av.no h ok (by decide) (Sub.refl S)
 by_cases i8:8<=id
 .simp[s0,s1,s2,s3,oF,aR,i0,i8];exact av.no h ok (by decide) (Sub.refl S)
 cases hr:eh st with
 |false=>
  rw[hr]at e92;simp[s0,s1,s2,s3,oF,aR,i0,i8,k2,e92];exact av.no h ok (by decide) hT
 |true=>
  rw[hr]at e92;cases hm:mayP cs with
  |false=>
   rw[hm]at u3;simp[s0,s1,s2,s3,oF,aR,i0,i8,k1,k2,e92,u3];exact av.no h ok (by decide) hTU
  |true=>
   rw[hm]at u3;obtain⟨k,rfl⟩:∃k:Nat,id=k:=⟨id.toNat,by omega⟩
   have hk8:k<8:=by omega
   rw[oN _ hk8]at iR;cases hx:X.ar k with
   |some x=>
    rw[hx]at iR;simp only[pX]at iR;simp[s0,s1,s2,s3,oF,aR,i0,i8,k1,k2,e92,u3,iR];exact av.no h ok (by decide) hTU
   |none=>
    rw[hx]at iR;simp only[pX]at iR;obtain⟨r,eS⟩:∃r:Rec,r=⟨2,k,0,0,false,p,cs,sv,st⟩:=⟨_,rfl⟩
    have hro:=oX hr;have cJ:cK U r:=by rw[eS];exact⟨hp.sub hTU,hs.toSub hTU,hn,(by show 0<18446744073709551616;decide),(fun t ht=>(hro.2 t ht).2),by show st.length<=_;omega⟩
    have hrc:r.c=[.int .i64 2,.int .i64 k,.int .i64 0,.int .u64 0,.bool false,p,sv]:=by rw[eS];rfl
    have sL:uH X r:=fun i e=>by
     rw[eS]at e;rcases e with e|e
     .exact hpo i e
     .exact hso i e
    obtain⟨v,W,CT,np,okv,iN⟩:=nQ (E:=ESub X k cs st) h hTU cJ sL Ah ok (by rw[eS];exact hro.1)
     (vq.rQ (P:=X.pure) (r:=r) (by rw[eS]) (by rw[eS]) hk8 (sub_none hx) (by rw[eS];exact hm) (by rw[eS];exact hr)) (by rw[eS];exact zC (by omega) hm hn hr) ⟨k,rfl,hk8,hx,by rw[eS]⟩
    rw[hrc]at CT;simp[s0,s1,s2,s3,oF,aR,i0,i8,k1,k2,e92,u3,iR,bld115b hp.sl.sl hs.sl,CT,np,okv];exact iN
theorem ad_get(dc:S.h.get X.b=some (.row X.c 0 0 false 110)){k:Nat}(hk:k<4):loadT C1 S 27 (.ptr X.b 0 (10+k*4+1) 27)=some (.int .u64 (X.bR k).gE)/\loadT C1 S 4 (.ptr X.b 0 (10+k*4+2) 27)=some (.bool (X.bR k).there):=by
 unfold cV.c at dc;rcases lt4 hk with rfl|rfl|rfl|rfl<;>constructor<;>simp[dc]
set_option maxRecDepth 20000 in
theorem va(h:bN S X)(ok:X.D.pd.ok)(Ah:X.db<64){k:Nat}(tw:k<4)(there:Bool){p:AV}{cs:List Con}(hp:PredAt S p cs)(hn:∀c,c∈cs->bX c)(hm:mayP cs=true)(hth:there=false->cs=[])(hpo:∀i,predFoot p cs i->¬X.wf i):
  ai C1 94 [.ptr X.b 0 0 27,.int .i64 k,.bool there,p] S fun v T=>av X (EAdv X k there cs) S v T:=by
 obtain⟨g1,g2⟩:=ad_get h.row tw;have hver:=(h.ad k tw).2;have k1:=aj hp.sl;obtain⟨gE,hv⟩:∃gE,gE=(X.bR k).gE:=⟨_,rfl⟩
 rw[<-hv]at g1 hver;have hkI:(k:Int)<4:=by omega
 refine enter4 (cD _) (cG _ rfl) fn94 rfl ok94 (by simp) fun F fL s0 s1 s2 s3=>?_;by_cases c:1099511627776<=gE
 .have cI:(1099511627776:Int)<=gE:=by omega
  simp[s0,s1,s2,s3,aR,hkI,tw,g1,c,cI];exact av.no h ok (by decide) (Sub.refl S)
 .have cI:¬(1099511627776:Int)<=gE:=by omega
  have hw:IntKind.u64.wrap ((gE:Int)+1)=((gE+1:Nat):Int):=by rw[show ((gE:Int)+1)=((gE+1:Nat):Int) by omega];exact eC (by omega)
  obtain⟨y,hy⟩:∃y,y=gE+1:=⟨_,rfl⟩
  rw[<-hy]at hw;obtain⟨r,eS⟩:∃r:Rec,r=⟨4,k,0,y,there,p,cs,.aq,[]⟩:=⟨_,rfl⟩
  have cJ:cK S r:=by rw[eS];exact⟨hp,Sl.nil,hn,(by show y<18446744073709551616;omega),(fun t ht=>by cases ht),by simp⟩
  have hrc:r.c=[.int .i64 4,.int .i64 k,.int .i64 0,.int .u64 y,.bool there,p,.aq]:=by rw[eS];rfl
  have sL:uH X r:=fun i e=>by
   rw[eS]at e;rcases e with e|e
   .exact hpo i e
   .simp[aB]at e
  have hnum:fc r.n=true:=by rw[eS];unfold fc;simp;show 1<=y/\y<=_;omega
  obtain⟨v,W,CT,np,okv,iN⟩:=nQ (E:=EAdv X k there cs) h (Sub.refl S) cJ sL Ah ok (by rw[eS];simp)
   (vq.ad (P:=X.pure) (r:=r) (by rw[eS]) (by rw[eS]) tw hnum (by rw[eS];show (X.bR k).gE<y;rw[<-hv];omega) (by rw[eS];exact hm)) (by rw[eS];exact rw_ad (by omega) (by omega) hm hn hth) ⟨k,rfl,tw,by rw[eS,<-hv,<-hy]⟩
  rw[hrc]at CT;simp[s0,s1,s2,s3,aR,hkI,tw,g1,c,cI,hw,k1,bld115a hp.sl.sl,CT,np,okv];exact iN
theorem FY(h:bN S X)(ok:X.D.pd.ok)(Ah:X.db<64)(id:Int){p:AV}{cs:List Con}(hp:PredAt S p cs)(hn:∀c,c∈cs->bX c)(hpo:∀i,predFoot p cs i->¬X.wf i):
  ai C1 45 [.ptr X.b 0 0 27,.int .i64 id,p] S (av X (EAdv X id true cs) S):=by
 have oF:=fun Q=>mh h (Q:=Q);obtain⟨v,T,⟨rfl,hT⟩,u3⟩:=(up1 (mayPred hp)).ex;have k1:=aj hp.sl;refine uy (cD _) (cG _ rfl) fn45 rfl ok45 (by simp) fun F fL s0 s1 s2=>?_;by_cases i0:id<0
 .simp[s0,s1,s2,oF,aR,i0];exact av.no h ok (by decide) (Sub.refl S)
 by_cases i4:4<=id
 .simp[s0,s1,s2,oF,aR,i0,i4];exact av.no h ok (by decide) (Sub.refl S)
 cases hm:mayP cs with
 |false=>
  rw[hm]at u3;simp[s0,s1,s2,oF,aR,i0,i4,k1,u3];exact av.no h ok (by decide) hT
 |true=>
  rw[hm]at u3;obtain⟨k,rfl⟩:∃k:Nat,id=k:=⟨id.toNat,by omega⟩
  have tw:k<4:=by omega
  obtain⟨v,U,⟨e,X',rfl,q1,q2,q3,q4⟩,e94⟩:=(va (h.toSub hT) ok Ah tw true (hp.sub hT) hn hm (by simp) hpo).ex;simp[s0,s1,s2,oF,aR,i0,i4,k1,u3,e94];exact⟨e,X',rfl,q1,(dV.of hT).trans q2,q3,q4⟩
theorem withdraw46(h:bN S X)(ok:X.D.pd.ok)(Ah:X.db<64)(id:Int):ai C1 46 [.ptr X.b 0 0 27,.int .i64 id] S (av X (EAdv X id false []) S):=by
 have oF:=fun Q=>mh h (Q:=Q);refine aX (cD _) (cG _ rfl) fn46 rfl ok46 (by simp) fun F fL s0 s1=>?_;by_cases i0:id<0
 .simp[s0,s1,oF,aR,i0];exact av.no h ok (by decide) (Sub.refl S)
 by_cases i4:4<=id
 .simp[s0,s1,oF,aR,i0,i4];exact av.no h ok (by decide) (Sub.refl S)
 obtain⟨k,rfl⟩:∃k:Nat,id=k:=⟨id.toNat,by omega⟩
 have tw:k<4:=by omega
 have hkI:(k:Int)<4:=by omega
 obtain⟨g1,g2⟩:=ad_get h.row tw;obtain⟨t,ht⟩:∃t,t=(X.bR k).there:=⟨_,rfl⟩
 rw[<-ht]at g2;cases t with
 |false=>
  simp[s0,s1,oF,aR,i0,i4,hkI,tw,g2];exact av.no h ok (by decide) (Sub.refl S)
 |true=>
  obtain⟨v,U,⟨e,X',rfl,q1,q2,q3,q4⟩,e94⟩:=(va h ok Ah tw false (p:=.aq) (cs:=[]) wI (fun c hc=>by cases hc) (by decide) (fun _=>rfl) (fun i e=>by
   rcases e with e|⟨c,hc,_⟩
   .simp[aB]at e
   .cases hc)).ex
  simp[s0,s1,oF,aR,i0,i4,hkI,tw,g2,e94];exact⟨e,X',rfl,q1,q2,q3,q4⟩
end
open Go.Proofs.YtdknlbnljfdhgaaGreatDoor.mod (Val encV encV_len Con encC encC_len ConOk PredAt mayP mayC mayV setB sameB zeroV mayPred encT encT_len bare encM nget nput mget_encM mput_encM nget_nput nput_mem nget_mem predFoot idxI idx174)
section
variable{S T:AS}{X:cV}{lo:Nat}
theorem push_gw{t e sz bs:Nat}{w:AV}{cs x:List AV}(fy:oz C1 t=some (e,sz,bs))(vI:bC C1 t=some (.slice e))(h:Gw S w sz e cs)(hn:iS lo w)(qu:lo<=S.next)(hx:x.length=sz)(hf:fits (sLen w+1) bs=true):
  ∃w' T,bg C1 (⟨S.h.set S.next (.row x 0 0 false e),S.next+1⟩:AS) .append [t,t] [w,.slice S.next 0 0 1 sz sz (some 1)]=.val w' T/\Gw T w' sz e (cs++x)/\iS lo w'/\(∀id,id<lo->T.h.get id=S.h.get id)/\S.next<=T.next /\
   (∀id,id<S.next->id+1≠aB w->T.h.get id=S.h.get id)/\(aB w'=aB w\/S.next<aB w')/\sLen w'=sLen w+1:=by
 obtain⟨S1,bI⟩:∃S1:AS,S1=⟨S.h.set S.next (.row x 0 0 false e),S.next+1⟩:=⟨_,rfl⟩
 have s1:Sub S S1:=by rw[bI];exact seg.cf
 have hxs:Sl S1 (.slice S.next 0 0 1 sz sz (some 1)) sz x:=by
  refine⟨by simp[isSl,eu],?_,by simp[sLen,hx],by simp[aB,bI]⟩;rw[bI];simp[jR,dJ,aa,bt,<-hx]
 have hwo:=h.1.old;have g1:=h.agree (T:=S1) (fun id e=>s1.h id (by omega)) s1.next
 obtain⟨w',T,e1,r1,r2,r3,r4,r5,r6,r7⟩:=eB (cx:=C1) (ts:=[]) (u:=t) (p:=(e,sz,bs)) fy vI rfl g1 hxs (by simpa[ij]using hf);rw[bI]at e1;have fL:iS lo w':=by
  rcases r6 with q|q
  .unfold iS;rw[q];exact hn
  .exact .inr (by have:=s1.next;omega)
 have hk:∀id,id<S.next->id+1≠aB w->T.h.get id=S.h.get id:=fun id hi cS=>(r2 id (by have:=s1.next;omega) cS).trans (s1.h id hi)
 refine⟨w',T,e1,r1,fL,fun id hi=>hk id (by omega) (by rcases hn with q|q<;>omega),Nat.le_trans s1.next r3,hk,?_,by rw[r4];rfl⟩;rcases r6 with q|q
 .exact .inl q
 .exact .inr (by have:=s1.next;omega)
theorem nt43:Tryz.f43.ntmps=19:=by kernel_rfl
def staH(S:AS)(v:AV)(st:List (Int×Nat))(k:Nat)(F':Fr)(S':AS):Prop:=
 ∃(i:Nat)(w:AV),Sub S S'/\Gw S' w 2 52 ((st.take i).flatMap encT)/\iS S.next w/\sl F' 0=v/\sl F' 3=w/\sl F' 4=.int .i64 i/\i<=st.length/\F'.n=19/\k=st.length-i
theorem staH_mk{v:AV}{st:List (Int×Nat)}{k:Nat}{F':Fr}(i:Nat)(w:AV)(h1:Sub S T)(h2:Gw T w 2 52 ((st.take i).flatMap encT))(h3:iS S.next w)(h4:sl F' 0=v)(h5:sl F' 3=w)(h6:sl F' 4=.int .i64 i)(h7:i<=st.length)(h8:F'.n=19)(h9:k=st.length-i):staH S v st k F' T:=
 ⟨i,w,h1,h2,h3,h4,h5,h6,h7,h8,h9⟩
theorem flat_take{α:Type}{f:α->List AV}{l:List α}{i:Nat}(h:i<l.length):(l.take (i+1)).flatMap f=(l.take i).flatMap f++f l[i]:=by
 rw[List.take_succ_eq_append_getElem h,List.flatMap_append];simp
theorem starts43{v:AV}{st:List (Int×Nat)}(h:Sl S v 2 (st.flatMap encT))(hb:st.length*16<=140737488355328):ai C1 43 [v] S fun r T=>Sub S T/\Sl T r 2 (st.flatMap encT)/\iS S.next r:=by
 have u1:=h.sl;have u2:=h.aM encT_len (by omega);refine aK (cD _) (cG _ rfl) fn43 rfl ok43 (by simp) fun F hn s0=>?_;rw[nt43]at hn;simp[s0,u1,u2];refine aH (staH S v st) st.length (staH_mk 0 .aq (Sub.refl S) (by simpa using (Gw.nil (S:=S) (sz:=2) (e:=52))) (.inl rfl) (by simp[s0]) (by simp) (by simp) (Nat.zero_le _) (by simp[hn]) rfl) ?_;clear s0 hn;rintro k F' S'-⟨i,w,hS,hg,hnw,t0,t3,t4,hi,hn,hk⟩;by_cases cQ:i<st.length
 .obtain⟨t,hx⟩:∃t,st[i]?=some t:=⟨_,List.getElem?_eq_getElem cQ⟩
  have hxe:st[i]=t:=(List.getElem?_eq_some_iff.1 hx).2;have qu:=cZ (cx:=C1) (e:=174) (h.toSub hS) encT_len (by omega) hx ag174 sz174;have jC:(i:Int)<st.length:=by omega
  have hwl:sLen w=i:=by
   have:=hg.1.aM encT_len (by omega);rw[this,List.length_take];omega
  obtain⟨w',U,e1,g1,g2,g3,g4,g5,g6,g7⟩:=push_gw (lo:=S.next) (t:=48) (e:=52) (sz:=2) (bs:=16) (x:=encT t) st48 un48 hg hnw hS.next rfl (by rw[hwl];simp[fits,cH];omega)
  have iY:∀(F:Fr)(B:Nat)(y:Tmp),sl F y=.agg (encT t)->aA C1 F B (.buildSlice 48 1 #[(0,.tmp y)])=some (.slice B 0 0 1 2 2 (some 1),.row (encT t) 0 0 false 52):=fun F B y a0=>by
   have:=ck (cx:=C1) (F:=F) (t:=48) (p:=(52,2,16)) (id:=B) (n:=1) (a:=#[(0,.tmp y)]) [encT t] st48 rfl (by simp[a0,cellsOf]) (by simp[encT]) (by decide);rw[this];simp[encT]
  have kh:=aW (i:=i) (by omega);have kw:=aj hg.1;have kn:=g1.1.np;have hSU:Sub S U:=⟨fun id bY=>(g3 id bY).trans (hS.h id bY),Nat.le_trans hS.next g4⟩
  rw[<-hxe,<-flat_take cQ]at g1;simp[t0,t3,t4,u1,u2,cQ,jC,qu,iY,e1,kh,kw,kn];exact⟨st.length-(i+1),by omega,staH_mk (i+1) w' hSU g1 g2 (by simp[t0]) (by simp) (by simp) (by omega) (by simp[hn]) rfl⟩
 .have:i=st.length:=by omega
  subst this;rw[List.take_length]at hg;simp[t0,t3,t4,u1,u2,hg.1.np,aj hg.1];exact⟨hS,hg.1,hnw⟩
def p15(pub:Int):Nat:=match fk .and .i64 pub 15 with | .int _ m=>m.toNat|_=>0
theorem i64_small{m:Int}(h1:0<=m)(h2:m<16):IntKind.i64.wrap m=m:=IntWalk.i64_in m (by omega)
theorem Eb(pub:Int):fk .and .i64 pub 15=.int .i64 (p15 pub)/\p15 pub<16:=by
 have key:∃m:Nat,m<16/\fk .and .i64 pub 15=.int .i64 m:=by
  have bv:∃m:Nat,m<16/\rh .and .i64 pub 15=(m:Int):=by
   have h1:((BitVec.ofInt 64 pub) &&& (BitVec.ofInt 64 15)).toNat<16:=by
    rw[BitVec.toNat_and];have h2:(BitVec.ofInt 64 15).toNat=15:=by decide
    rw[h2];exact Nat.lt_succ_of_le Nat.and_le_right
   refine⟨((BitVec.ofInt 64 pub) &&& (BitVec.ofInt 64 15)).toNat,h1,?_⟩;show IntKind.i64.wrap (((BitVec.ofInt 64 pub) &&& (BitVec.ofInt 64 15)).toNat:Int)=_;exact i64_small (by omega) (by omega)
  cases pub with
  |ofNat a=>
   show ∃m:Nat,m<16/\cond (Nat.blt a (half .i64)&&Nat.blt 15 (half .i64)) (fS (Nat.land a 15) fun n=>AV.int .i64 (.ofNat n)) (jd (rh .and .i64 (Int.ofNat a) 15) fun n=>AV.int .i64 n)=AV.int .i64 m;cases (Nat.blt a (half .i64)&&Nat.blt 15 (half .i64))with
   |true=>exact⟨a &&& 15,Nat.lt_succ_of_le Nat.and_le_right,by rw[cond_true,aN];rfl⟩
   |false=>
    obtain⟨m,h1,h2⟩:=bv;exact⟨m,h1,by rw[cond_false,dG,h2]⟩
  |negSucc a=>
   obtain⟨m,h1,h2⟩:=bv;refine⟨m,h1,?_⟩;show jd (rh .and .i64 (Int.negSucc a) 15) (fun n=>AV.int .i64 n)=_;rw[dG,h2]
 obtain⟨m,h1,h2⟩:=key;have e:p15 pub=m:=by unfold p15;rw[h2];rfl
 rw[e];exact⟨h2,h1⟩
theorem bin_and15{t:TypeId}{c:Bool}(pub:Int):aS C1 .and t c (.int .i64 pub) (.int .i64 15)=some (.int .i64 (p15 pub)):=by
 show cond (ej .i64 .i64) (some (fk .and .i64 pub 15)) none=_;rw[(Eb pub).1];rfl
structure CV where
 kH:Int
 id:Int
 pub:Int
 n:Nat
 p:AV
 cs:List Con
 sv:AV
 st:List (Int×Nat)
 kv:AV
 tv:AV
def CV.c(o:CV):List AV:=[.int .i64 o.kH,.int .i64 o.id,.int .i64 o.pub,.int .u64 o.n,o.p,o.sv,o.kv,o.tv]
theorem Bq(o:CV):o.c.length=8:=rfl
structure OpAt(S:AS)(o:CV):Prop where
 pred:PredAt S o.p o.cs
 num:∀c,c∈o.cs->bX c
 sl:Sl S o.sv 2 (o.st.flatMap encT)
 len:o.st.length*16<=140737488355328
 n:o.n<18446744073709551616
 kv:cellsOf o.kv=some [o.kv]/\okW o.kv=true
 tv:cellsOf o.tv=some [o.tv]/\okW o.tv=true
theorem OpAt.sub{o:CV}(h:OpAt S o)(hs:Sub S T):OpAt T o:=⟨h.pred.sub hs,h.num,h.sl.toSub hs,h.len,h.n,h.kv,h.tv⟩
def EOp(X:cV)(o:CV)(P:PB):Prop:=
 (o.kH<=1/\EAck X o.id (p15 o.pub) o.n P)\/(o.kH=2/\ESub X o.id o.cs o.st P)\/(o.kH=3/\EUns X o.id P)\/(o.kH=4/\EAdv X o.id true o.cs P)\/(o.kH=5/\EAdv X o.id false [] P)
theorem av.mono{E E':PB->Prop}{v:AV}(h:av X E S v T)(hE:∀P,E P->E' P):av X E' S v T:=by
 obtain⟨e,X',h1,h2,h3,h4,h5,h6⟩:=h;refine⟨e,X',h1,h2,h3,h4,?_,h6⟩;clear h6;rcases h5 with h5|⟨h5,h6,h7⟩
 .exact .inl h5
 .exact .inr ⟨h5,hE _ h6,h7⟩
theorem av.pre{E:PB->Prop}{U:AS}{v:AV}(hs:Sub S T)(h:av X E T v U):av X E S v U:=by
 obtain⟨e,X',h1,h2,h3,h4,h5⟩:=h;exact⟨e,X',h1,h2,(dV.of hs).trans h3,h4,h5⟩
theorem nt9:Tryz.f9.ntmps=48:=by kernel_rfl
set_option maxRecDepth 20000 in
theorem do9{o:CV}(h:bN S X)(ok:X.D.pd.ok)(Ah:X.db<64)(ho:OpAt S o)(hw:0<=o.kH/\o.kH<=5)(hpo:∀i,predFoot o.p o.cs i->¬X.wf i):
  ai C1 9 [.ptr X.b 0 0 27,.agg o.c] S (av X (EOp X o) S):=by
 obtain⟨S1,bI⟩:∃S1:AS,S1=⟨S.h.set S.next (.row o.c 0 0 false 34),S.next+1⟩:=⟨_,rfl⟩
 have s1:Sub S S1:=by rw[bI];exact seg.cf
 have g1:S1.h.get S.next=some (.row o.c 0 0 false 34):=by rw[bI];exact aa _ _ _
 have fN:=bI.symm;have n1:S1.next=S.next+1:=by rw[bI]
 clear bI;have hX:=h.toSub s1;have ho1:=ho.sub s1;have k1:=aj ho.pred.sl;have k2:=aj ho.sl;have k3:=ho.pred.sl.cells;have k4:=ho.sl.cells;have k5:=ho.kv.1;have k6:=ho.tv.1;have k7:=ho.kv.2;have k8:=ho.tv.2;have ep:=fun (c:Bool)=>bin_and15 (t:=3) (c:=c) o.pub;unfold CV.c at fN g1;refine cl (cD _) (cG _ rfl) fn9 rfl ok9 (by simp) fun F hn hs=>?_;rw[nt9]at hn;have s0:=hs 0;have yl:=hs 1;clear hs;simp only[List.getElem?_cons_zero,List.getElem?_cons_succ,Option.getD_some,CV.c]at s0 yl;by_cases w0:o.kH<=1
 .have hor:o.kH=0\/o.kH=1:=by omega
  obtain⟨v,U,iN,e41⟩:=(ack41 hX ok Ah o.id (p15 o.pub) ho.n).ex;have hv:okW v=true/\bE v=false:=by obtain⟨e,_,rfl,_⟩:=iN;exact⟨rfl,rfl⟩
  have fin:av X (EOp X o) S v U:=(iN.mono fun P hP=>.inl ⟨w0,hP⟩).pre s1;rcases hor with hw|hw
  .rw[hw]at fN g1 yl;simp[s0,yl,fN,g1,k1,k2,k3,k4,k5,k6,k7,k8,ep,aR,e41,hv.1,hv.2];exact fin
  .rw[hw]at fN g1 yl;simp[s0,yl,fN,g1,k1,k2,k3,k4,k5,k6,k7,k8,ep,aR,e41,hv.1,hv.2];exact fin
 by_cases w2:o.kH=2
 .obtain⟨sv,T,⟨t1,t2,t3⟩,e43⟩:=(starts43 ho1.sl ho.len).ex;have hXT:=hX.toSub t1;have gT:=(t1.h _ (by omega)).trans g1;have hsv:∀i,aB sv=i+1->¬X.wf i:=fun i e hwf=>by
   have:=h.CS hwf;unfold iS at t3;omega
  obtain⟨v,U,iN,e42⟩:=(Dh hXT ok Ah o.id (ho1.pred.sub t1) ho.num t2 (by have:=ho.len;omega) hpo hsv).ex;have hv:okW v=true/\bE v=false:=by obtain⟨e,_,rfl,_⟩:=iN;exact⟨rfl,rfl⟩
  have fin:av X (EOp X o) S v U:=(iN.mono fun P hP=>.inr (.inl ⟨w2,hP⟩)).pre (s1.trans t1);have k9:=aj t2;have ka:=t2.np;rw[w2]at fN g1 yl gT;simp[s0,yl,fN,g1,k1,k2,k3,k4,k5,k6,k7,k8];refine cO [.p,.p,.r 0 1,.p,.r 0 1,.p,.r 0 0,.e [],.e [],.p] (n:=48) (by kernel_rfl) (by simp[hn]) ?_;simp[s0,yl,g1,gT,k1,k2,k7,k8,k9,ka,aR,e43,e42,hv.1,hv.2];exact fin
 by_cases w3:o.kH=3
 .obtain⟨v,U,iN,e44⟩:=(yy hX ok Ah o.id).ex;have hv:okW v=true/\bE v=false:=by obtain⟨e,_,rfl,_⟩:=iN;exact⟨rfl,rfl⟩
  have fin:av X (EOp X o) S v U:=(iN.mono fun P hP=>.inr (.inr (.inl ⟨w3,hP⟩))).pre s1;rw[w3]at fN g1 yl;simp[s0,yl,fN,g1,k1,k2,k3,k4,k5,k6,k7,k8,aR,e44,hv.1,hv.2];exact fin
 by_cases w4:o.kH=4
 .obtain⟨v,U,iN,e45⟩:=(FY hX ok Ah o.id ho1.pred ho.num hpo).ex;have hv:okW v=true/\bE v=false:=by obtain⟨e,_,rfl,_⟩:=iN;exact⟨rfl,rfl⟩
  have fin:av X (EOp X o) S v U:=(iN.mono fun P hP=>.inr (.inr (.inr (.inl ⟨w4,hP⟩)))).pre s1;rw[w4]at fN g1 yl;simp[s0,yl,fN,g1,k1,k2,k3,k4,k5,k6,k7,k8,aR,e45,hv.1,hv.2];exact fin
 have w5:o.kH=5:=by omega
 obtain⟨v,U,iN,e46⟩:=(withdraw46 hX ok Ah o.id).ex;have hv:okW v=true/\bE v=false:=by obtain⟨e,_,rfl,_⟩:=iN;exact⟨rfl,rfl⟩
 have fin:av X (EOp X o) S v U:=(iN.mono fun P hP=>.inr (.inr (.inr (.inr ⟨w5,hP⟩)))).pre s1;rw[w5]at fN g1 yl;simp[s0,yl,fN,g1,k1,k2,k3,k4,k5,k6,k7,k8,aR,e46,hv.1,hv.2];exact fin
end
open Go.Proofs.YtdknlbnljfdhgaaGreatDoor.mod (Val encV encV_len Con encC encC_len ConOk PredAt mayP mayC mayV setB sameB zeroV mayPred encT encT_len bare encM nget nput mget_encM mput_encM nget_nput nput_mem nget_mem predFoot idxI idx174)
structure gY{α:Type}(enc:α->List AV)(sz e:Nat)(ft:α->Nat->Prop)(sF:AS->α->Prop)(S:AS)(lo:Nat)(w:AV)(L:List α):Prop where
 gw:Gw S w sz e (L.flatMap enc)
 new:iS lo w
 el:∀a,a∈L->sF S a/\∀id,ft a id->lo<=id/\id<S.next/\id+1≠aB w
section
variable{α:Type}{enc:α->List AV}{sz e:Nat}{ft:α->Nat->Prop}{sF:AS->α->Prop}{S T:AS}{lo:Nat}{w:AV}{L:List α}
theorem gY.nil:gY enc sz e ft sF S lo .aq []:=⟨Gw.nil,.inl rfl,fun a h=>by cases h⟩
theorem gY.sub(yC:∀S T a,sF S a->(∀id,ft a id->T.h.get id=S.h.get id)->S.next<=T.next->sF T a)(h:gY enc sz e ft sF S lo w L)(hs:Sub S T):gY enc sz e ft sF T lo w L:=
 ⟨h.gw.agree (fun id q=>hs.h id (by have:=h.gw.1.old;omega)) hs.next,h.new,fun a ha=>⟨yC S T a (h.el a ha).1 (fun id q=>hs.h id ((h.el a ha).2 id q).2.1) hs.next,fun id q=>by
  have h1:=(h.el a ha).2 id q;have:=hs.next
  exact⟨h1.1,by omega,h1.2.2⟩⟩⟩
theorem gY.push{t bs:Nat}(fy:oz C1 t=some (e,sz,bs))(vI:bC C1 t=some (.slice e))(yC:∀S T a,sF S a->(∀id,ft a id->T.h.get id=S.h.get id)->S.next<=T.next->sF T a)
  (h:gY enc sz e ft sF S lo w L) (qu:lo<=S.next) {a:α} (ha:sF S a) (hf:∀id,ft a id->lo<=id/\id<S.next/\id+1≠aB w) (hx:(enc a).length=sz) (lF:fits (sLen w+1) bs=true) :
  ∃w' T,bg C1 (⟨S.h.set S.next (.row (enc a) 0 0 false e),S.next+1⟩:AS) .append [t,t] [w,.slice S.next 0 0 1 sz sz (some 1)]=.val w' T/\gY enc sz e ft sF T lo w' (L++[a])/\(∀id,id<lo->T.h.get id=S.h.get id)/\S.next<=T.next:=by
 obtain⟨w',T,e1,g1,g2,g3,g4,g5,g6,g7⟩:=push_gw fy vI h.gw h.new qu hx lF;have key:∀b,sF S b->(∀id,ft b id->lo<=id/\id<S.next/\id+1≠aB w)->sF T b/\∀id,ft b id->lo<=id/\id<T.next/\id+1≠aB w':=fun b h1 h2=>
  ⟨yC S T b h1 (fun id q=>g5 id (h2 id q).2.1 (h2 id q).2.2) g4,fun id q=>by
   have h3:=h2 id q;refine⟨h3.1,by omega,?_⟩;rcases g6 with q|q<;>omega⟩
 refine⟨w',T,e1,⟨by rw[List.flatMap_append];simpa using g1,g2,fun b hb=>?_⟩,g3,g4⟩;rcases List.mem_append.1 hb with hb|hb
 .exact key b (h.el b hb).1 (h.el b hb).2
 .simp at hb;subst hb;exact key b ha hf
end
structure lM where
 id:Int
 p:AV
 ks:List Con
 sv:AV
 st:List (Int×Nat)
def lM.c(s:lM):List AV:=[.int .i64 s.id,s.p,s.sv]
def lM.ft(s:lM)(id:Nat):Prop:=predFoot s.p s.ks id\/aB s.sv=id+1
def lM.ok(S:AS)(s:lM):Prop:=PredAt S s.p s.ks/\Sl S s.sv 2 (s.st.flatMap encT)/\s.ks.length<=6/\s.st.length<=8
structure zt where
 id:Int
 cs:List Con
 st:List (Int×Nat)
def lM.pure(s:lM):zt:=⟨s.id,s.ks.map bare,s.st⟩
def jn.c(a:jn):List AV:=[.int .i64 a.k,.int .u64 a.gE,.bool a.there,a.p]
def jn.ft(a:jn)(id:Nat):Prop:=predFoot a.p a.ks id
def jn.ok(S:AS)(a:jn):Prop:=PredAt S a.p a.ks/\a.ks.length<=6
theorem vw(S T:AS)(s:lM)(h:lM.ok S s)(hs:∀id,s.ft id->T.h.get id=S.h.get id)(hn:S.next<=T.next):lM.ok T s:=
 ⟨PredAt.agree h.1 (fun id q=>hs id (.inl q)) hn,h.2.1.agree (fun id q=>hs id (.inr q)) hn,h.2.2⟩
theorem tq(S T:AS)(s:jn)(h:jn.ok S s)(hs:∀id,s.ft id->T.h.get id=S.h.get id)(hn:S.next<=T.next):jn.ok T s:=
 ⟨PredAt.agree h.1 hs hn,h.2⟩
abbrev F7(S:AS)(lo:Nat)(w:AV)(L:List lM):Prop:=gY lM.c 3 50 lM.ft lM.ok S lo w L
abbrev AdsAt(S:AS)(lo:Nat)(w:AV)(L:List jn):Prop:=gY jn.c 4 98 jn.ft jn.ok S lo w L
def sbO(P:PB)(i:Nat):Option zt:=(P.ar i).map fun x=>⟨i,x.cs,x.st⟩
def adO(P:PB)(i:Nat):Option PAd:=if 0<(P.bR i).gE then some (P.bR i) else none
def iH(P:PB)(n:Nat):List zt:=(List.range n).filterMap (sbO P)
def tp(P:PB)(n:Nat):List PAd:=(List.range n).filterMap (adO P)
theorem rq(P:PB)(n:Nat):iH P (n+1)=iH P n++(match sbO P n with|some s=>[s]|none=>[]):=by
 unfold iH;rw[List.range_succ,List.filterMap_append];cases h:sbO P n<;>simp[h]
theorem AG(P:PB)(n:Nat):tp P (n+1)=tp P n++(match adO P n with|some s=>[s]|none=>[]):=by
 unfold tp;rw[List.range_succ,List.filterMap_append];cases h:adO P n<;>simp[h]
theorem xJ{α β:Type}(f:α->Option β):∀l:List α,(l.filterMap f).length<=l.length
 |[]=>Nat.le_refl _
 |a::l=>by
  have:=xJ f l;rw[List.filterMap_cons];split<;>simp only[List.length_cons]<;>omega
theorem tC(P:PB)(n:Nat):(iH P n).length<=n:=by have:=xJ (sbO P) (List.range n);rwa [List.length_range]at this
theorem ya(P:PB)(n:Nat):(tp P n).length<=n:=by have:=xJ (adO P) (List.range n);rwa [List.length_range]at this
def vn(X:cV):AV:=.agg [pX (X.ar 0),pX (X.ar 1),pX (X.ar 2),pX (X.ar 3),pX (X.ar 4),pX (X.ar 5),pX (X.ar 6),pX (X.ar 7)]
def zi(X:cV):AV:=.agg [.int .i64 (X.bR 0).k,.int .u64 (X.bR 0).gE,.bool (X.bR 0).there,(X.bR 0).p,.int .i64 (X.bR 1).k,.int .u64 (X.bR 1).gE,.bool (X.bR 1).there,(X.bR 1).p,
 .int .i64 (X.bR 2).k,.int .u64 (X.bR 2).gE,.bool (X.bR 2).there,(X.bR 2).p,.int .i64 (X.bR 3).k,.int .u64 (X.bR 3).gE,.bool (X.bR 3).there,(X.bR 3).p]
section
variable{S T:AS}{X:cV}
theorem idx105{F:Fr}{dst:Option Tmp}{ty:TypeId}{pos:String}{af:Array Edge}{gd:Option (Nat×Bool)}{x i:Tmp}{j:Nat}(hx:sl F x=vn X)(hi:sl F i=.int .i64 j)(hj:j<8):
  bj C1 F S ⟨dst,.index 105 (.tmp x) (.tmp i),ty,pos,af,gd⟩=.val (pX (X.ar j)) S:=by
 have hu:bC C1 105=some (.array 8 104):=by kernel_rfl
 have hz:aE C1 104=some 1:=by kernel_rfl
 have ha:aG C1 104=some false:=by kernel_rfl
 unfold vn at hx;rcases lt8 hj with rfl|rfl|rfl|rfl|rfl|rfl|rfl|rfl<;>simp[bj,hu,aJ,hx,hi,eR,hz,partOf,ha,nth,val?,gH]
theorem idx106{F:Fr}{dst:Option Tmp}{ty:TypeId}{pos:String}{af:Array Edge}{gd:Option (Nat×Bool)}{x i:Tmp}{j:Nat}(hx:sl F x=zi X)(hi:sl F i=.int .i64 j)(hj:j<4):
  bj C1 F S ⟨dst,.index 106 (.tmp x) (.tmp i),ty,pos,af,gd⟩=.val (.agg (X.bR j).c) S:=by
 have hu:bC C1 106=some (.array 4 98):=by kernel_rfl
 have hz:aE C1 98=some 4:=by kernel_rfl
 have ha:aG C1 98=some true:=by kernel_rfl
 unfold zi at hx;rcases lt4 hj with rfl|rfl|rfl|rfl<;>simp[bj,hu,aJ,hx,hi,eR,hz,partOf,ha,val?,gH,jn.c,ct,ca]
end
open Go.Proofs.YtdknlbnljfdhgaaGreatDoor.mod (Val encV encV_len Con encC encC_len ConOk PredAt mayP mayC mayV setB sameB zeroV mayPred encT encT_len bare encM nget nput mget_encM mput_encM nget_nput nput_mem nget_mem predFoot idxI idx174)
def qT(q:Nat):PD:=⟨[],q,-1,false⟩
section
variable{S T U:AS}{D:Dk}
theorem bu130(m:Nat)(n:Int):cU C1 130 [(0,AV.map m),(1,AV.int .i64 n),(2,.int .i64 (-1)),(3,.bool false)]=some (.agg [.map m,.int .i64 n,.int .i64 (-1),.bool false]):=by kernel_rfl
set_option maxRecDepth 20000 in
theorem new22{q:Nat}(hq:q<=4194304):ai C1 22 [.int .i64 q] S fun u T=>Sub S T/\∃D,u=.tuple [.ptr D.dp 0 0 4,.int .i64 0]/\bh T D/\D.pd=qT q/\(∀id,D.bB id->S.next<=id):=by
 have q1:¬((q:Int)<0):=by omega
 have q2:¬((4194304:Int)<q):=by omega
 refine aK (cD _) (cG _ rfl) fn5 rfl ok5 (by simp) fun F hn s0=>?_;simp[s0,q1,q2,bu130];have hf:∀id,(⟨S.next+1,S.next,[],q,-1,false⟩:Dk).bB id->S.next<=id:=fun id hf=>by
  rcases hf with e|e|⟨f,hf,_⟩
  .have e:id=S.next+1:=e;omega
  .have e:id=S.next:=e;omega
  .cases hf
 refine⟨⟨fun id hi=>(ae _ _ (by omega)).trans (ae _ _ (by omega)),by show S.next<=S.next+2;omega⟩,⟨S.next+1,S.next,[],q,-1,false⟩,rfl,?_,rfl,hf⟩;have no:∀{P:Fl->Prop}(f:Fl),f∈([]:List Fl)->P f:=fun f hf=>(by cases hf)
 exact⟨aa _ _ _,Nat.lt_succ_self (S.next+1),Nat.lt_succ_of_lt (Nat.lt_succ_self S.next),⟨[],0,(ae _ _ (show S.next≠S.next+1 by omega)).trans (aa _ _ _),rfl,by simp[nf]⟩,no,no,no,List.Pairwise.nil,Nat.succ_ne_self _,no,no,List.Pairwise.nil,no⟩
def aZ:List Nat:=[98,111,111,107,46,110,101,119]
def cu:List Nat:=[98,111,111,107]
theorem newPD_ok:(qT 1048576).ok:=⟨by show 0<=512;decide,Nat.zero_le _,by show 1048576<=_;decide,by show (-1:Int)<_;decide,List.Pairwise.nil⟩
theorem mayN:kf aZ=true:=by decide
theorem mayK:kf cu=true:=by decide
def fK(n:Nat):Rec:=⟨1,0,0,n,false,.aq,[],.aq,[]⟩
theorem bl115(n:Int):cU C1 115 [(0,.int .i64 1),(3,.int .u64 n)]=some (.agg [.int .i64 1,.int .i64 0,.int .i64 0,.int .u64 n,.bool false,.aq,.aq]):=by kernel_rfl
theorem nt110:Tryz.f110.ntmps=90:=by kernel_rfl
end
open Go.Proofs.YtdknlbnljfdhgaaGreatDoor.mod (Val encV encV_len Con encC encC_len ConOk PredAt mayP mayC mayV setB sameB zeroV mayPred encT encT_len bare encM nget nput mget_encM mput_encM nget_nput nput_mem nget_mem predFoot idxI idx174)
theorem fn162:C1.fns.get 162=some Tryz.f162:=by kernel_rfl
theorem ok162:codeOk C1 Tryz.f162.ntmps (Tryz.f162.body.getD .skip)=true:=by kernel_rfl
def lJ(r:Rec):Rec:={r with p:=.aq,cs:=r.cs.map bare,sv:=.aq}
def Dl(i:Nat)(x:mu):Rec:=⟨2,i,0,0,false,.aq,x.cs,.aq,x.st⟩
def ackR(i k n:Nat):Rec:=⟨5,i,k,n,false,.aq,[],.aq,[]⟩
def fh(cur:List (Int×Nat)):List Nat:=(cur.map fun t=>t.1.toNat).mergeSort fun a b=>decide (a<=b)
def F0(i:Nat)(x:mu):List Rec:=(fh x.cur).map fun k=>ackR i k ((nget x.cur k).getD 0)
def lq(P:PB)(i:Nat):List Rec:=match P.ar i with|none=>[]|some x=>Dl i x::F0 i x
def adR(k:Int)(a:PAd):Rec:=⟨4,k,0,a.gE,a.there,.aq,a.cs,.aq,[]⟩
def jH(P:PB)(k:Nat):List Rec:=if 0<(P.bR k).gE then [adR k (P.bR k)] else []
def gD(P:PB):List Rec:=fK P.aI::((List.range 8).flatMap (lq P)++(List.range 4).flatMap (jH P))
structure PBOk(P:PB):Prop where
 keys:∀i x,i<8->P.ar i=some x->x.cur.length<=256/\(∀t,t∈x.cur->0<=t.1/\t.1<256/\t.2<=1099511627776)/\(x.cur.map (·.1)).Nodup
theorem recB_bare(r:Rec):dS (lJ r)=dS r:=recB_of ⟨rfl,rfl,rfl,rfl,rfl,by show (r.cs.map bare).map bare=_;rw[List.map_map];rfl,rfl⟩
structure mf(S:AS)(lo:Nat)(w:AV)(rs:List Rec):Prop where
 gw:Gw S w 7 115 (rs.flatMap Rec.c)
 el:∀r,r∈rs->cK S r
 nw:aB w=0\/lo<aB w
section
variable{S T:AS}
theorem mf.sub{lo:Nat}{w:AV}{rs:List Rec}(h:mf S lo w rs)(hs:Sub S T):mf T lo w rs:=
 ⟨h.gw.agree (fun id e=>hs.h id (by have:=h.gw.1.old;omega)) hs.next,fun r hr=>(h.el r hr).sub hs,h.nw⟩
theorem mf.push{S0:AS}{w:AV}{rs:List Rec}(h:mf S S0.next w rs)(hs:Sub S0 S){r:Rec}(h0:cK S0 r)(hold:∀x,x∈rs->cK S0 x)(hl:rs.length<=100000):
  ∃(w':AV)(T:AS),bg C1 ⟨S.h.set S.next (.row r.c 0 0 false 115),S.next+1⟩ .append [189,189] [w,.slice S.next 0 0 1 7 7 (some 1)]=.val w' T/\mf T S0.next w' (rs++[r])/\Sub S0 T/\S.next<=T.next/\(∀id,id<S.next->id+1≠aB w->T.h.get id=S.h.get id)/\(aB w'=aB w\/S.next<aB w'):=by
 obtain⟨S1,bI⟩:∃S1:AS,S1=⟨S.h.set S.next (.row r.c 0 0 false 115),S.next+1⟩:=⟨_,rfl⟩
 have s1:Sub S S1:=by rw[bI];exact seg.cf
 have g1:S1.h.get S.next=some (.row r.c 0 0 false 115):=by rw[bI];exact aa _ _ _
 have n1:S1.next=S.next+1:=by rw[bI]
 rw[<-bI];have yS:Sl S1 (.slice S.next 0 0 1 7 7 (some 1)) 7 r.c:=⟨by simp[isSl,eu],by simp[jR,dJ,g1,bt,nC];rw[List.take_of_length_le (by rw[nC];omega)],by simp[sLen,nC],by simp[aB,n1]⟩
 have hwl:sLen w=rs.length:=h.gw.1.aM nC (by omega);obtain⟨w',T,e,g,o,n,l,_,b,_⟩:=eB (cx:=C1) (S:=S1) (t:=189) (u:=189) (ts:=[]) (p:=(115,7,88)) (v:=w) (x:=.slice S.next 0 0 1 7 7 (some 1)) st189 un189 rfl (h.sub s1).gw yS (by rw[hwl];simp[fits,cH,sLen];omega);have hnw:=h.nw;have hwo:=h.gw.1.old;have hsn:=hs.next
 have aP:Sub S0 T:=⟨fun id hi=>by rw[o id (by omega) (by omega),s1.h id (by omega)];exact hs.h id hi,by omega⟩
 refine⟨w',T,e,⟨by rw[List.flatMap_append,List.flatMap_cons,List.flatMap_nil,List.append_nil];exact g,fun x hx=>?_,by omega⟩,aP,by omega,fun id h1 h2=>by rw[o id (by omega) h2,s1.h id h1],by omega⟩;rcases List.mem_append.1 hx with hx|hx
 .exact (hold x hx).sub aP
 .rw[List.mem_singleton]at hx;subst hx;exact h0.sub aP
end
open Go.Proofs.YtdknlbnljfdhgaaGreatDoor.mod (Val encV encV_len Con encC encC_len ConOk PredAt mayP mayC mayV setB sameB zeroV mayPred encT encT_len bare encM nget nput mget_encM mput_encM nget_nput nput_mem nget_mem predFoot idxI idx174)
section
variable{S T:AS}
theorem keys162{m:Nat}:∀Q:AV->AS->Prop,ai C1 162 [.map m] S Q=Q (.func (.func 202) [] [.ptr S.next 0 0 1]) ⟨S.h.set S.next (.row [.map m] 0 0 false 164),S.next+1⟩:=fun Q=>by
 refine ai.eq (aK (cD _) (cG _ rfl) fn162 rfl ok162 (by simp) fun F hn s0=>?_);simp[s0]
def vh(l:List Nat):List AV:=l.map fun n:Nat=>AV.int .i64 (n:Int)
theorem sorted161{m:Nat}{cur:List (Int×Nat)}(hm:CW S m (fun n:Int=>AV.int .i64 n) (encM cur))(se:m<S.next)(hk:∀t,t∈cur->0<=t.1/\t.1<256)(BN:(cur.map (·.1)).Nodup)(hl:cur.length<=1048576):
  ∃v T,(∀Q:AV->AS->Prop,ai C1 161 [.func (.func 202) [] [.ptr S.next 0 0 1]] ⟨S.h.set S.next (.row [.map m] 0 0 false 164),S.next+1⟩ Q=Q v T)/\Sub S T/\Sl T v 1 (vh (fh cur))/\(aB v=0\/S.next<aB v):=by
 obtain⟨es,clock,h1,h2,h3⟩:=hm;obtain⟨S1,bI⟩:∃S1:AS,S1=⟨S.h.set S.next (.row [.map m] 0 0 false 164),S.next+1⟩:=⟨_,rfl⟩
 have s1:Sub S S1:=by rw[bI];exact seg.cf
 have g1:S1.h.get S.next=some (.row [.map m] 0 0 false 164):=by rw[bI];exact aa _ _ _
 have n1:S1.next=S.next+1:=by rw[bI]
 rw[<-bI];clear bI;have hlen:es.length=cur.length:=by have:=congrArg List.length h2;simpa[encM]using this
 have EH:es.map (·.key)=cur.map fun t=>AV.int .i64 t.1:=by
  have:=congrArg (List.map Prod.fst) h2;simpa[encM,List.map_map,Function.comp_def]using this
 have hkn:es.map srt.rE=cur.map fun t=>t.1.toNat:=by
  have e1:es.map srt.rE=(es.map (·.key)).map fun v:AV=>match v with | .int _ (.ofNat n)=>n|_=>0:=by rw[List.map_map];rfl
  rw[e1,EH,List.map_map];refine List.map_congr_left fun t ht=>?_;have:=(hk t ht).1;obtain⟨a,b⟩:=t;simp only at this;obtain⟨n,rfl⟩:∃n:Nat,a=n:=⟨a.toNat,by omega⟩
  rfl
 have hQ:srt.Q161 [.func (.func 202) [] [.ptr S.next 0 0 1]] S1 es:=⟨S.next,m,clock,rfl,g1,(s1.h _ se).trans h1,h3,fun e he=>by
  have:e.key∈cur.map fun t=>AV.int .i64 t.1:=by rw[<-EH];exact List.mem_map.2 ⟨e,he,rfl⟩
  obtain⟨t,ht,h⟩:=List.mem_map.1 this;have h0:=hk t ht;refine⟨?_,?_⟩
  case refine_2=>
   have:srt.rE e∈es.map srt.rE:=List.mem_map.2 ⟨e,he,rfl⟩;rw[hkn]at this;obtain⟨u,hu,q⟩:=List.mem_map.1 this;have:=hk u hu;omega
  have h0:=h0.1;unfold srt.rE;rw[<-h];obtain⟨a,b⟩:=t;simp only at h0⊢;obtain⟨n,rfl⟩:∃n:Nat,a=n:=⟨a.toNat,by omega⟩
  rfl,by
  rw[hkn];refine List.pairwise_map.2 ((List.pairwise_map.1 BN).imp_of_mem fun {a b} ha hb e q=>e ?_);have h1:=(hk a ha).1;have h2:=(hk b hb).1;omega,by omega⟩
 have hr:srt.iV es=fh cur:=by unfold srt.iV fh;rw[hkn]
 have hq:=srt.Be hQ;rw[hr]at hq;cases yP:fh cur with
 |nil=>
  rw[yP]at hq;exact⟨_,_,fun Q=>lH (q:=srt.qG) BZ rfl hq rfl,s1,Sl.nil,.inl rfl⟩
 |cons x l=>
  rw[yP]at hq;refine⟨_,_,fun Q=>lH (q:=srt.qG) BZ rfl hq rfl,⟨fun id hi=>(ae _ _ (by omega)).trans (s1.h id hi),by show S.next<=S1.next+1;omega⟩,?_,.inr (by show S.next<S1.next+1;omega)⟩;refine⟨by simp[isSl,eu],?_,by simp[sLen,vh],by show S1.next+1<=S1.next+1;omega⟩;simp[jR,dJ,aa,bt,srt.lR,vh];rw[List.take_of_length_le (by simp)]
theorem mU(cur:List (Int×Nat)):(fh cur).length=cur.length:=by unfold fh;rw[List.length_mergeSort,List.length_map]
theorem oneR_len{P:PB}(l7:PBOk P){i:Nat}(hi:i<8):(lq P i).length<=257:=by
 unfold lq;cases hx:P.ar i with
 |none=>simp
 |some x=>
  have:=(l7.keys i x hi hx).1;simp[F0,mU];omega
theorem pn{P:PB}(l7:PBOk P):∀j,j<=8->((List.range j).flatMap (lq P)).length<=j*257
 |0,_=>by simp
 |j+1,hj=>by
  have h1:=pn l7 j (by omega);have h2:=oneR_len l7 (i:=j) (by omega);rw[List.range_succ,List.flatMap_append,List.flatMap_cons,List.flatMap_nil,List.append_nil,List.length_append];omega
def al2H(S:AS)(X:cV)(k:Nat)(F':Fr)(S':AS):Prop:=
 ∃(j:Nat)(w:AV)(rs:List Rec),Sub S S'/\mf S' S.next w rs/\(∀r,r∈rs->cK S r)/\rs.map lJ=fK X.aI::(List.range j).flatMap (lq X.pure)/\sl F' 0=.ptr X.b 0 1 27/\sl F' 3=w/\sl F' 19=vn X/\sl F' 20=.int .i64 j/\j<=8/\F'.n=90/\k=8-j
theorem CC{X:cV}{k:Nat}{F':Fr}(j:Nat)(w:AV)(rs:List Rec)(h1:Sub S T)(h2:mf T S.next w rs)(h3:∀r,r∈rs->cK S r)(h4:rs.map lJ=fK X.aI::(List.range j).flatMap (lq X.pure))(h5:sl F' 0=.ptr X.b 0 1 27)(h6:sl F' 3=w)(h7:sl F' 19=vn X)(h8:sl F' 20=.int .i64 j)(h9:j<=8)(BX:F'.n=90)(h11:k=8-j):al2H S X k F' T:=
 ⟨j,w,rs,h1,h2,h3,h4,h5,h6,h7,h8,h9,BX,h11⟩
def al3H(S:AS)(X:cV)(j:Nat)(x:da)(v:AV)(ks:List Nat)(k:Nat)(F':Fr)(S':AS):Prop:=
 ∃(i:Nat)(w:AV)(rs:List Rec),Sub S S'/\mf S' S.next w rs/\(∀r,r∈rs->cK S r)/\rs.map lJ=fK X.aI::((List.range j).flatMap (lq X.pure)++Dl j x.pure::((ks.take i).map fun k=>ackR j k ((nget x.cur k).getD 0)))/\Sl S' v 1 (vh ks)/\(aB v=0\/aB v≠aB w) /\
  sl F' 0=.ptr X.b 0 1 27/\sl F' 3=w/\sl F' 4=.int .i64 j/\sl F' 5=.ptr x.s 0 0 4/\sl F' 19=vn X/\sl F' 20=.int .i64 j/\sl F' 46=v/\sl F' 47=.int .i64 ks.length/\sl F' 48=.int .i64 i/\i<=ks.length/\F'.n=90/\k=ks.length-i
theorem al3H_mk{X:cV}{j:Nat}{x:da}{v:AV}{ks:List Nat}{k:Nat}{F':Fr}(i:Nat)(w:AV)(rs:List Rec)(h1:Sub S T)(h2:mf T S.next w rs)(h3:∀r,r∈rs->cK S r)(h4:rs.map lJ=fK X.aI::((List.range j).flatMap (lq X.pure)++Dl j x.pure::((ks.take i).map fun k=>ackR j k ((nget x.cur k).getD 0))))(h5:Sl T v 1 (vh ks))(h6:aB v=0\/aB v≠aB w)
  (h7:sl F' 0=.ptr X.b 0 1 27) (h8:sl F' 3=w) (h9:sl F' 4=.int .i64 j) (BX:sl F' 5=.ptr x.s 0 0 4) (h11:sl F' 19=vn X) (h12:sl F' 20=.int .i64 j) (h13:sl F' 46=v) (h14:sl F' 47=.int .i64 ks.length) (h15:sl F' 48=.int .i64 i) (h16:i<=ks.length) (h17:F'.n=90) (h18:k=ks.length-i):al3H S X j x v ks k F' T:=
 ⟨i,w,rs,h1,h2,h3,h4,h5,h6,h7,h8,h9,BX,h11,h12,h13,h14,h15,h16,h17,h18⟩
def al4H(S:AS)(X:cV)(k:Nat)(F':Fr)(S':AS):Prop:=
 ∃(j:Nat)(w:AV)(rs:List Rec),Sub S S'/\mf S' S.next w rs/\(∀r,r∈rs->cK S r)/\rs.map lJ=fK X.aI::((List.range 8).flatMap (lq X.pure)++(List.range j).flatMap (jH X.pure))/\sl F' 3=w/\sl F' 69=zi X/\sl F' 70=.int .i64 j/\j<=4/\F'.n=90/\k=4-j
theorem CB{X:cV}{k:Nat}{F':Fr}(j:Nat)(w:AV)(rs:List Rec)(h1:Sub S T)(h2:mf T S.next w rs)(h3:∀r,r∈rs->cK S r)(h4:rs.map lJ=fK X.aI::((List.range 8).flatMap (lq X.pure)++(List.range j).flatMap (jH X.pure)))(h6:sl F' 3=w)(h7:sl F' 69=zi X)(h8:sl F' 70=.int .i64 j)(h9:j<=4)(BX:F'.n=90)(h11:k=4-j):al4H S X k F' T:=
 ⟨j,w,rs,h1,h2,h3,h4,h6,h7,h8,h9,BX,h11⟩
theorem fr189(F:Fr)(B:Nat)(y:Tmp)(r:Rec)(h:sl F y=.agg r.c):aA C1 F B (.buildSlice 189 1 #[(0,.tmp y)])=some (.slice B 0 0 1 7 7 (some 1),.row r.c 0 0 false 115):=by
 have:=ck (cx:=C1) (F:=F) (t:=189) (p:=(115,7,88)) (id:=B) (n:=1) (a:=#[(0,.tmp y)]) [r.c] st189 rfl (by simp[h,cellsOf]) (by simp[Rec.c]) (by decide);rw[this];simp[Rec.c]
set_option maxRecDepth 20000 in
theorem all110{X:cV}(h:bN S X)(l7:PBOk X.pure):ai C1 110 [.ptr X.b 0 1 27] S fun w T=>Sub S T/\∃rs,mf T S.next w rs/\(∀r,r∈rs->cK S r)/\rs.map lJ=gD X.pure:=by
 have dc:=h.row;unfold cV.c at dc;obtain⟨S1,bI⟩:∃S1:AS,S1=⟨S.h.set S.next (.row (fK X.aI).c 0 0 false 115),S.next+1⟩:=⟨_,rfl⟩
 have s1:Sub S S1:=by rw[bI];exact seg.cf
 have g1:S1.h.get S.next=some (.row (fK X.aI).c 0 0 false 115):=by rw[bI];exact aa _ _ _
 have n1:S1.next=S.next+1:=by rw[bI]
 have xn:=(h.toSub s1).row;unfold cV.c at xn;have fN:=bI.symm;clear bI;have Ad:cK S (fK X.aI):=⟨⟨Sl.nil,(fun c hc=>(List.not_mem_nil hc).elim),Nat.zero_le _⟩,Sl.nil,(fun c hc=>(List.not_mem_nil hc).elim),h.aI,(fun t ht=>(List.not_mem_nil ht).elim),Nat.zero_le _⟩
 have hw0:mf S1 S.next (.slice S.next 0 0 1 7 7 (some 1)) [fK X.aI]:=by
  refine⟨⟨⟨by simp[isSl,eu],by simp[jR,dJ,g1,bt];rfl,by simp[sLen,nC],by simp[aB,n1]⟩,.inr ⟨S.next,0,0,1,7,some 1,rfl,by simp[Fu],by rw[n1];exact Nat.lt_succ_self _,(fK X.aI).c,0,0,g1,Nat.le_refl _,rfl⟩⟩,fun r hr=>?_,.inr (Nat.lt_succ_self _)⟩;rw[List.mem_singleton]at hr;subst hr;exact Ad.sub s1
 have iY:=fun (F:Fr) (B:Nat) (y:Tmp)=>fr189 F B y (fK X.aI);have hlc:(fK X.aI).c=[.int .i64 1,.int .i64 0,.int .i64 0,.int .u64 X.aI,.bool false,.aq,.aq]:=rfl;rw[hlc]at fN iY;refine aK (cD _) (cG _ rfl) fn110 rfl ok110 (by simp) fun F hn s0=>?_;rw[nt110]at hn;simp[s0,dc,bl115,iY,fN,xn];refine aH (al2H S X) 8 (CC 0 _ [fK X.aI] s1 hw0 (fun r hr=>by rw[List.mem_singleton]at hr;subst hr;exact Ad) rfl (by simp[s0]) (by simp) (by simp[vn]) (by simp) (by omega) (by simp[hn]) rfl) ?_;clear s0 hn xn fN hw0;rintro k F' S'-⟨j,w,rs,hS,hw,hold,ua,t0,t3,t19,t20,hj,hn,hk⟩;have hrow':=(h.toSub hS).row;unfold cV.c at hrow';by_cases hj8:j<8
 case neg=>
  obtain rfl:j=8:=by omega
  simp[t0,t3,t19,t20,hrow'];refine aH (al4H S X) 4 (CB 0 w rs hS hw hold (by rw[List.range_zero,List.flatMap_nil,List.append_nil];exact ua) (by simp[t3]) (by simp[zi]) (by simp) (by omega) (by simp[hn]) rfl) ?_;clear t0 t3 t19 t20 hn ua hold hw hS hrow' hk;rintro k F' S'-⟨j,w,rs,hS,hw,hold,ua,t3,t69,t70,hj,hn,hk⟩;have kw:=aj hw.gw.1;by_cases hj4:j<4
  case neg=>
   obtain rfl:j=4:=by omega
   simp[t3,t69,t70,kw,hw.gw.1.np];exact⟨hS,rs,hw,hold,ua⟩
  have Ae:(j:Int)<4:=by omega
  have vK:∀(F:Fr)(dst:Option Tmp)(ty:TypeId)(pos:String)(af:Array Edge)(gd:Option (Nat×Bool)),sl F 69=zi X->sl F 70=.int .i64 j->bj C1 F S' ⟨dst,.index 106 (.tmp 69) (.tmp 70),ty,pos,af,gd⟩=.val (.agg (X.bR j).c) S':=fun F dst ty pos af gd h1 h2=>idx106 h1 h2 hj4;have hwj:=IntWalk.i64_in ((j:Int)+1) (by omega);have qa:=(h.ad j hj4).1;have hver:=(h.ad j hj4).2;simp only[jn.c]at vK;obtain⟨S2,c7⟩:∃S2:AS,S2=⟨(S'.h.set S'.next (.row [.int .i64 0,.int .u64 0,.bool false,.aq] 0 0 false 98)).set S'.next (.row [.int .i64 (X.bR j).k,.int .u64 (X.bR j).gE,.bool (X.bR j).there,(X.bR j).p] 0 0 false 98),S'.next+1⟩:=⟨_,rfl⟩
  have s2:Sub S' S2:=by rw[c7];exact seg.fO
  have g2:S2.h.get S'.next=some (.row [.int .i64 (X.bR j).k,.int .u64 (X.bR j).gE,.bool (X.bR j).there,(X.bR j).p] 0 0 false 98):=by rw[c7];exact aa _ _ _
  have iJ:=c7.symm;clear c7;have k1:=qa.at_.sl.cells;have kp:=aj qa.at_.sl;have xq:(List.range (j+1)).flatMap (jH X.pure)=(List.range j).flatMap (jH X.pure)++jH X.pure j:=by rw[List.range_succ,List.flatMap_append,List.flatMap_cons,List.flatMap_nil,List.append_nil]
  by_cases hv:0<(X.bR j).gE
  case neg=>
   have hvI:¬(0:Int)<(X.bR j).gE:=by omega
   have h1:jH X.pure j=[]:=by unfold jH;exact if_neg hv
   simp[t3,t69,t70,Ae,hj4,vK,k1,iJ,g2,hv,hvI,hwj];exact⟨4-(j+1),by omega,CB (j+1) w rs (hS.trans s2) (hw.sub s2) hold (by rw[xq,h1,List.append_nil];exact ua) (by simp[t3]) (by simp[t69]) (by simp) (by omega) (by simp[hn]) rfl⟩
  have hvI:(0:Int)<(X.bR j).gE:=by omega
  obtain⟨r,hr⟩:∃r:Rec,r=⟨4,j,0,(X.bR j).gE,(X.bR j).there,(X.bR j).p,(X.bR j).ks,.aq,[]⟩:=⟨_,rfl⟩
  have CN:cK S r:=by rw[hr];exact⟨qa.at_,Sl.nil,qa.num,by show (X.bR j).gE<_;omega,(fun t ht=>(List.not_mem_nil ht).elim),Nat.zero_le _⟩
  have ml:rs.length<=3000:=by
   have h1:=congrArg List.length ua;have h2:=pn l7 8 (by omega);have h3:∀m,m<=4->((List.range m).flatMap (jH X.pure)).length<=m:=by
    intro m
    induction m with
    |zero=>simp
    |succ m ih=>
     intro hm;have:=ih (by omega);rw[List.range_succ,List.flatMap_append,List.flatMap_cons,List.flatMap_nil,List.append_nil,List.length_append];have:(jH X.pure m).length<=1:=by unfold jH;split<;>simp
     omega
   have h4:=h3 j (by omega);rw[List.length_map,List.length_cons,List.length_append]at h1;omega
  obtain⟨w2,T,e1,BJ,hT,nT,oT,bT⟩:=(hw.sub s2).push (hS.trans s2) CN hold (by omega);have hrc:r.c=[.int .i64 4,.int .i64 j,.int .i64 0,.int .u64 (X.bR j).gE,.bool (X.bR j).there,(X.bR j).p,.aq]:=by rw[hr];rfl
  have BQ:=fun (F:Fr) (B:Nat) (y:Tmp)=>fr189 F B y r;rw[hrc]at e1 BQ;have kw2:=aj BJ.gw.1;have hba:=bld115a (k:=j) (n:=(X.bR j).gE) (t:=(X.bR j).there) qa.at_.sl.sl;simp[t3,t69,t70,Ae,hj4,vK,k1,iJ,g2,hv,hvI,hwj,kw,kp,hba,BQ,e1,BJ.gw.1.np,kw2];refine⟨4-(j+1),by omega,CB (j+1) w2 (rs++[r]) hT BJ (fun y hy=>?_) ?_ (by simp) (by simp[t69]) (by simp) (by omega) (by simp[hn]) rfl⟩
  .rcases List.mem_append.1 hy with hy|hy
   .exact hold y hy
   .rw[List.mem_singleton]at hy;subst hy;exact CN
  .have h1:jH X.pure j=[adR j (X.pure.bR j)]:=by unfold jH;exact if_pos hv
   rw[xq,h1,List.map_append,ua];simp[lJ,hr,adR,cV.pure,jn.pure]
 have Ae:(j:Int)<8:=by omega
 have vK:∀(F:Fr)(dst:Option Tmp)(ty:TypeId)(pos:String)(af:Array Edge)(gd:Option (Nat×Bool)),sl F 19=vn X->sl F 20=.int .i64 j->bj C1 F S' ⟨dst,.index 105 (.tmp 19) (.tmp 20),ty,pos,af,gd⟩=.val (pX (X.ar j)) S':=fun F dst ty pos af gd h1 h2=>idx105 h1 h2 hj8;have hwj:=IntWalk.i64_in ((j:Int)+1) (by omega);have xq:(List.range (j+1)).flatMap (lq X.pure)=(List.range j).flatMap (lq X.pure)++lq X.pure j:=by rw[List.range_succ,List.flatMap_append,List.flatMap_cons,List.flatMap_nil,List.append_nil]
 cases hx:X.ar j with
 |none=>
  rw[hx]at vK;simp only[pX]at vK;have h1:lq X.pure j=[]:=by unfold lq cV.pure;simp[hx]
  simp[t0,t3,t19,t20,Ae,hj8,vK,hwj];exact⟨8-(j+1),by omega,CC (j+1) w rs hS hw hold (by rw[xq,h1,List.append_nil];exact ua) (by simp[t0]) (by simp[t3]) (by simp[t19]) (by simp) (by omega) (by simp[hn]) rfl⟩
 |some x=>
  rw[hx]at vK;simp only[pX]at vK;have q0:=h.sub j x hj8 hx;have q:=(h.toSub hS).sub j x hj8 hx;have wF:=q.row;unfold da.c at wF;have hPx:X.pure.ar j=some x.pure:=by unfold cV.pure;simp[hx]
  obtain⟨qY,hck,hcn⟩:=l7.keys j x.pure hj8 hPx;have ml:rs.length<=2057:=by
   have h1:=congrArg List.length ua;have h2:=pn l7 j (by omega);rw[List.length_map,List.length_cons]at h1;omega
  obtain⟨r,hr⟩:∃r:Rec,r=⟨2,j,0,0,false,x.p,x.ks,x.sv,x.st⟩:=⟨_,rfl⟩
  have CN:cK S r:=by rw[hr];exact⟨q0.pred.at_,q0.sl,q0.pred.num,by show (0:Nat)<18446744073709551616;decide,fun t ht=>(q0.CM t ht).2,by have:=q0.sl8;show x.st.length<=_;omega⟩
  have hrb:lJ r=Dl j x.pure:=by rw[hr];rfl
  obtain⟨w1,T1,e1,xj,hS1',n1',o1,b1⟩:=hw.push hS CN hold (by omega);have hrc:r.c=[.int .i64 2,.int .i64 j,.int .i64 0,.int .u64 0,.bool false,x.p,x.sv]:=by rw[hr];rfl
  have BQ:=fun (F:Fr) (B:Nat) (y:Tmp)=>fr189 F B y r;rw[hrc]at e1 BQ;have hxT1:=((h.toSub hS1').sub j x hj8 hx)
  have DV:=hxT1.row;unfold da.c at DV;have e162:=keys162 (S:=T1) (m:=x.m);obtain⟨v,T2,e161,ie,hv,hvb⟩:=sorted161 hxT1.map hxT1.mlt (fun t ht=>⟨(hck t ht).1,(hck t ht).2.1⟩) hcn (by have:x.cur.length<=256:=qY;omega);have u1:=hv.sl;have u2:=hv.fC;have vk:(vh (fh x.cur)).length=(fh x.cur).length:=by simp[vh]
  rw[vk]at u2;have kw:=aj hw.gw.1;have kw1:=aj xj.gw.1;have kp:=aj q.pred.at_.sl;have ks:=aj q.sl;have kv:=aj hv;have hb:=bld115b (id:=j) q.pred.at_.sl.sl q.sl.sl;have hwo:=hw.gw.1.old;have hw1o:=xj.gw.1.old;have hT2n:=ie.next
  simp[t0,t3,t19,t20,Ae,hj8,vK];refine cO [.p,.p,.p,.p,.p,.p,.r 0 0,.p,.p,.p,.p,.r 0 0,.p,.e [],.e [],.p] (n:=90) (by kernel_rfl) (by simp[hn]) ?_;simp[t0,t3,t19,t20,wF,kw,kp,ks,hb,BQ,e1,xj.gw.1.np,kw1,DV,aR,e162,e161,hv.np,kv,u1,u2];refine aH (al3H S X j x v (fh x.cur)) (fh x.cur).length (al3H_mk 0 w1 (rs++[r]) (hS1'.trans ie) (xj.sub ie) (fun y hy=>?_) ?_ hv (by omega) (by simp[t0]) (by simp) (by simp) (by simp) (by simp[t19]) (by simp[t20]) (by simp) (by simp) (by simp) (Nat.zero_le _) (by simp[hn]) rfl) ?_
  .rcases List.mem_append.1 hy with hy|hy
   .exact hold y hy
   .rw[List.mem_singleton]at hy;subst hy;exact CN
  .rw[List.map_append,ua,List.map_cons,hrb,List.take_zero];rfl
  clear e1 e161 e162 vK kw kw1 kv u1 wF DV BQ hb hv hvb u2 xj hw hS1' ie hxT1 o1 b1 hw1o hwo n1' t0 t3 t19 t20 hn hold ua hT2n hrow' vk q kp ks hS;rintro k F' S'-⟨i,w,rs,hS,hw,hold,ua,hv,hvb,t0,t3,t4,t5,t19,t20,t46,t47,t48,hi,hn,hk⟩;have u1:=hv.sl;have u2:=hv.fC;have vk:(vh (fh x.cur)).length=(fh x.cur).length:=by simp[vh]
  rw[vk]at u2;by_cases cQ:i<(fh x.cur).length
  case neg=>
   obtain rfl:i=(fh x.cur).length:=by omega
   rw[List.take_length]at ua;simp[t0,t3,t4,t5,t19,t20,t46,t47,t48,hwj];refine⟨8-(j+1),by omega,CC (j+1) w rs hS hw hold ?_ (by simp[t0]) (by simp[t3]) (by simp[t19]) (by simp) (by omega) (by simp[hn]) rfl⟩;have h1:lq X.pure j=Dl j x.pure::F0 j x.pure:=by unfold lq;rw[hPx]
   rw[xq,h1];exact ua
  have jC:(i:Int)<(fh x.cur).length:=by omega
  obtain⟨kk,hkk⟩:∃kk,kk=(fh x.cur)[i]:=⟨_,rfl⟩
  have hke:(vh (fh x.cur))[i]?=some (.int .i64 (kk:Int)):=by
   unfold vh;rw[List.getElem?_map,List.getElem?_eq_getElem cQ,<-hkk];rfl
  have CQ:loadT C1 S' 3 (j5 v i)=some (.int .i64 (kk:Int)):=fQ hv hke (by simp);have qS:=(h.toSub hS).sub j x hj8 hx;have wF:=qS.row;unfold da.c at wF;obtain⟨val,yL⟩:∃val,val=(nget x.cur kk).getD 0:=⟨_,rfl⟩
  have hvl:val<18446744073709551616:=by
   rw[yL];cases hg:nget x.cur kk with
   |none=>decide
   |some m=>exact q0.curs _ (nget_mem hg)
  have lk:kN C1 S' 164 (.map x.m) (.int .i64 (kk:Int)) false=some (.int .u64 (val:Int)):=by
   have:=qj (cx:=C1) (t:=164) (k:=(kk:Int)) (ok:=false) mk164 (keyInt .i64 .i64) (qS.map.mp qS.mlt);rw[mget_encM]at this;rw[yL];cases hg:nget x.cur (kk:Int)with
   |none=>rw[hg]at this;exact this
   |some m=>rw[hg]at this;exact this
  obtain⟨r2,hr2⟩:∃r2:Rec,r2=⟨5,j,kk,val,false,.aq,[],.aq,[]⟩:=⟨_,rfl⟩
  have hr20:cK S r2:=by rw[hr2];exact⟨⟨Sl.nil,(fun c hc=>(List.not_mem_nil hc).elim),Nat.zero_le _⟩,Sl.nil,(fun c hc=>(List.not_mem_nil hc).elim),hvl,(fun t ht=>(List.not_mem_nil ht).elim),Nat.zero_le _⟩
  have hrl2:rs.length<=3000:=by
   have h1:=congrArg List.length ua;have h2:=pn l7 j (by omega);have h3:=mU x.cur;have h4:x.cur.length<=256:=qY;rw[List.length_map,List.length_cons,List.length_append,List.length_cons,List.length_map,List.length_take]at h1;omega
  obtain⟨w2,T,e1,BJ,hT,nT,oT,bT⟩:=hw.push hS hr20 hold (by omega);have hrc:r2.c=[.int .i64 5,.int .i64 j,.int .i64 kk,.int .u64 val,.bool false,.aq,.aq]:=by rw[hr2];rfl
  have BQ:=fun (F:Fr) (B:Nat) (y:Tmp)=>fr189 F B y r2;rw[hrc]at e1 BQ;have hwo:=hw.gw.1.old;have hvo:=hv.old;have kw:=aj hw.gw.1;have kw2:=aj BJ.gw.1;have hvT:Sl T v 1 (vh (fh x.cur)):=hv.agree (fun id e=>oT id (by omega) (by omega)) nT;have kh:=aW (i:=i) (by have h3:=mU x.cur;have h4:x.cur.length<=256:=qY;omega);have hbk:=bld115k (id:=j) (pub:=kk) (n:=val);simp[t0,t3,t4,t5,t19,t20,t46,t47,t48,cQ,jC,u1,u2,CQ,kw,wF,lk,hbk,BQ,e1,BJ.gw.1.np,kw2,kh];refine⟨(fh x.cur).length-(i+1),by omega,al3H_mk (i+1) w2 (rs++[r2]) hT BJ (fun y hy=>?_) ?_ hvT (by omega) (by simp[t0]) (by simp) (by simp[t4]) (by simp[t5]) (by simp[t19]) (by simp[t20]) (by simp[t46]) (by simp[t47]) (by simp) cQ (by simp[hn]) rfl⟩
  .rcases List.mem_append.1 hy with hy|hy
   .exact hold y hy
   .rw[List.mem_singleton]at hy;subst hy;exact hr20
  .rw[List.map_append,ua,List.take_succ_eq_append_getElem cQ,List.map_append,<-hkk];simp[lJ,hr2,ackR,yL]
end
open Go.Proofs.YtdknlbnljfdhgaaGreatDoor.mod (Val encV encV_len Con encC encC_len ConOk PredAt mayP mayC mayV setB sameB zeroV mayPred encT encT_len bare encM nget nput mget_encM mput_encM nget_nput nput_mem nget_mem predFoot idxI idx174)
section
variable{S T U:AS}{D:Dk}{a b:Nat}
theorem cre112(h:bh S D)(ok:D.pd.ok)(ha:S.h.get a=some (.row [.ptr D.dp 0 0 4] 0 0 false 24)):ai C1 112 [.ptr a 0 0 1] S (dk.Left D S (D.pd.create aZ)):=by
 obtain⟨r,T,hr,e⟩:=(create_pd h ok (name:=aZ) (by decide) (by decide)).ex;have BL:=hr.ret;subst BL;unfold aZ at e;refine aK (cD _) (cG _ rfl) fn112 rfl ok112 (by simp) fun F hn s0=>?_;simp[s0,ha,aR,e];exact hr
theorem app113(h:bh S D)(ok:D.pd.ok)(ha:S.h.get a=some (.row [.ptr D.dp 0 0 4] 0 0 false 24)){v:AV}{bs:List AV}(hb:S.h.get b=some (.row [v] 0 0 false 32))(hv:Sl S v 1 bs)(ue:aB v≠D.dp+1)(tz:bs.length<=1073741824):ai C1 113 [.ptr a 0 0 1,.ptr b 0 0 1] S (dk.Left D S (D.pd.append aZ bs)):=by
 obtain⟨r,T,hr,e⟩:=(Az h ok (name:=aZ) (by decide) (by decide) hv ue tz).ex;have BL:=hr.ret;subst BL;unfold aZ at e;refine aX (cD _) (cG _ rfl) fn113 rfl ok113 (by simp) fun F hn s0 s1=>?_;simp[s0,s1,ha,hb,aR,e];exact hr
theorem syn114(h:bh S D)(ok:D.pd.ok)(ha:S.h.get a=some (.row [.ptr D.dp 0 0 4] 0 0 false 24)):ai C1 114 [.ptr a 0 0 1] S (dk.Left D S (D.pd.sync aZ)):=by
 obtain⟨r,T,hr,e⟩:=(sync_pd h ok (name:=aZ) (by decide) (by decide)).ex;have BL:=hr.ret;subst BL;unfold aZ at e;refine aK (cD _) (cG _ rfl) fn114 rfl ok114 (by simp) fun F hn s0=>?_;simp[s0,ha,aR,e];exact hr
theorem ren115(h:bh S D)(ok:D.pd.ok)(ha:S.h.get a=some (.row [.ptr D.dp 0 0 4] 0 0 false 24)):ai C1 115 [.ptr a 0 0 1] S (dk.Left D S (D.pd.rename aZ cu)):=by
 obtain⟨r,T,hr,e⟩:=(rename_pd h ok (old:=aZ) (name:=cu) (by decide) (by decide) (by decide) (by decide) (by decide)).ex;have BL:=hr.ret;subst BL;unfold aZ cu at e;refine aK (cD _) (cG _ rfl) fn115 rfl ok115 (by simp) fun F hn s0=>?_;simp[s0,ha,aR,e];exact hr
def cW(a b:Nat):Nat->AV
 |0=>.func (.func 112) [] [.ptr a 0 0 1]
 |1=>.func (.func 113) [] [.ptr a 0 0 1,.ptr b 0 0 1]
 |2=>.func (.func 114) [] [.ptr a 0 0 1]
 |_=>.func (.func 115) [] [.ptr a 0 0 1]
def stepG:Nat->Nat|0=>112|1=>113|2=>114|_=>115
def oM(a b:Nat):Nat->List AV|1=>[.ptr a 0 0 1,.ptr b 0 0 1]|_=>[.ptr a 0 0 1]
theorem stepF_eq(a b i:Nat):cW a b i=.func (.func (stepG i)) [] (oM a b i):=by
 match i with
 |0|1|2=>rfl
 |_+3=>rfl
theorem B3{F:Fr}{B:Nat}{x0 x1 x2 x3:Tmp}(h0:sl F x0=cW a b 0)(h1:sl F x1=cW a b 1)(h2:sl F x2=cW a b 2)(h3:sl F x3=cW a b 3):
  aA C1 F B (.buildSlice 193 4 #[(0,.tmp x0),(1,.tmp x1),(2,.tmp x2),(3,.tmp x3)])=some (.slice B 0 0 4 4 1 (some 4),.row [cW a b 0,cW a b 1,cW a b 2,cW a b 3] 0 0 false 122):=by
 have:=ck (cx:=C1) (F:=F) (t:=193) (p:=(122,1,8)) (id:=B) (n:=4) (a:=#[(0,.tmp x0),(1,.tmp x1),(2,.tmp x2),(3,.tmp x3)]) [[cW a b 0],[cW a b 1],[cW a b 2],[cW a b 3]] st193 rfl (by simp[aJ,h0,h1,h2,h3,cellsOf,cW]) (by simp) (by decide);simpa using this
end
open Go.Proofs.YtdknlbnljfdhgaaGreatDoor.mod (Val encV encV_len Con encC encC_len ConOk PredAt mayP mayC mayV setB sameB zeroV mayPred encT encT_len bare encM nget nput mget_encM mput_encM nget_nput nput_mem nget_mem predFoot idxI idx174)
theorem AT{f:PF}:∀{fs:List PF},(fs.map (·.name)).Nodup->f∈fs->((fs.filter fun g=>!(g.name==f.name)).map fun g=>g.bs.length).sum+f.bs.length=(fs.map fun g=>g.bs.length).sum/\(fs.filter fun g=>!(g.name==f.name)).length+1=fs.length
 |[],_,h=>by cases h
 |g::fs,hd,h=>by
  rw[List.map_cons,List.nodup_cons]at hd;rcases List.mem_cons.1 h with rfl|h'
  .have e:fs.filter (fun g=>!(g.name==f.name))=fs:=List.filter_eq_self.2 fun g hg=>by
    have:g.name≠f.name:=fun e=>hd.1 (List.mem_map.2 ⟨g,hg,e⟩);simp[this]
   rw[List.filter_cons];simp[e];omega
  .have ne:¬g.name=f.name:=fun e=>hd.1 (List.mem_map.2 ⟨f,h',e.symm⟩);have ih:=AT hd.2 h';rw[List.filter_cons];simp[ne];omega
theorem ok_rename{d:PD}(h:d.ok){old name:List Nat}(cS:old≠name):(d.rename old name).2.ok:=h.on fun d' h1 h2 h3 h0=>by
 cases e:d'.file old with
 |none=>exact h1
 |some f=>
  have hm:=PD.jf e;show (d'.mv f name).ok;unfold PD.mv;by_cases hx:d'.has name=true
  .rw[if_pos hx];obtain⟨g,hg⟩:∃g,d'.file name=some g:=Option.isSome_iff_exists.1 hx;have hgm:=PD.jf hg;have hs:=PD.AQ (f:=g) (f':=⟨name,f.bs,f.iB⟩) hgm.2.symm h1.names hgm.1;have hn:=PD.tK d' ⟨name,f.bs,f.iB⟩;have BR:f∈(d'.put ⟨name,f.bs,f.iB⟩).fs:=by
    show f∈d'.fs.map _;refine List.mem_map.2 ⟨f,hm.1,if_neg ?_⟩;rw[hm.2];exact cS
   have hd:=AT (f:=f) (fs:=(d'.put ⟨name,f.bs,f.iB⟩).fs) (by rw[hn];exact h1.names) BR;have hu:=h1.used;unfold PD.used at hu;have hl:(d'.put ⟨name,f.bs,f.iB⟩).fs.length=d'.fs.length:=List.length_map _;refine⟨?_,?_,h1.q,h1.dQ,?_⟩
   .show (List.filter _ _).length<=512;have:=h1.many;omega
   .show ((List.filter _ _).map _).sum<=d'.q;have h5:((d'.put ⟨name,f.bs,f.iB⟩).fs.map fun g=>g.bs.length).sum+g.bs.length=(d'.fs.map fun g=>g.bs.length).sum+f.bs.length:=hs;omega
   .show ((List.filter _ _).map _).Nodup;exact (show ((d'.put ⟨name,f.bs,f.iB⟩).fs.map (·.name)).Nodup by rw[hn];exact h1.names).sublist (List.filter_sublist.map _)
  .rw[if_neg hx];have hnm:¬name∈d'.fs.map (·.name):=fun hh=>hx ((PD.BV d' name).2 hh);have hd:=AT (f:=f) (fs:=d'.fs++[⟨name,f.bs,f.iB⟩]) (by
    rw[List.map_append,List.nodup_append];refine⟨h1.names,by simp,fun a ha b hb=>?_⟩;simp at hb;subst hb;exact fun e=>hnm (e▸ha)) (List.mem_append_left _ hm.1)
   have hu:=h1.used;unfold PD.used at hu;rw[List.map_append,List.sum_append,List.length_append]at hd;simp only[List.map_cons,List.map_nil,List.sum_cons,List.sum_nil,List.length_cons,List.length_nil]at hd;refine⟨?_,?_,h1.q,h1.dQ,?_⟩
   .show (List.filter (fun g=>!(g.name==f.name)) (d'.fs++[⟨name,f.bs,f.iB⟩])).length<=512;have:=h1.many;omega
   .show ((List.filter (fun g=>!(g.name==f.name)) (d'.fs++[⟨name,f.bs,f.iB⟩])).map fun g=>g.bs.length).sum<=d'.q;omega
   .show ((List.filter _ _).map _).Nodup;refine List.Nodup.sublist (List.filter_sublist.map _) ?_;rw[List.map_append,List.nodup_append];refine⟨h1.names,by simp,fun a ha b hb=>?_⟩;simp at hb;subst hb;exact fun e=>hnm (e▸ha)
noncomputable def recF(r:Rec):List Nat:=iQ (dS r)
noncomputable def dj(rs:List Rec):List Nat:=rs.flatMap recF
def opP(bs:List AV)(i:Nat)(d:PD):Int×PD:=match i with|0=>d.create aZ|1=>d.append aZ bs|2=>d.sync aZ|_=>d.rename aZ cu
def lQ(bs:List AV):List Nat->PD->Int×PD
 |[],d=>(0,d)
 |i::l,d=>if (opP bs i d).1=0 then lQ bs l (opP bs i d).2 else opP bs i d
def DP:Nat->List Nat|0=>[0,1,2,3]|1=>[1,2,3]|2=>[2,3]|3=>[3]|_=>[]
def dH(d:PD)(bs:List AV):Int×PD:=lQ bs (DP 0) d
theorem remP_step{i:Nat}(h:i<4):DP i=i::DP (i+1):=by
 have:i=0\/i=1\/i=2\/i=3:=by omega
 rcases this with rfl|rfl|rfl|rfl<;>rfl
theorem recF_len(r:Rec):(recF r).length<=2056:=sT _
theorem jD:∀rs:List Rec,(dj rs).length<=rs.length*2056
 |[]=>by simp[dj]
 |r::rs=>by
  have h1:=recF_len r;have h2:=jD rs;unfold dj at h2⊢;rw[List.flatMap_cons,List.length_append,List.length_cons];omega
theorem fileB_bare(rs:List Rec):dj (rs.map lJ)=dj rs:=by
 unfold dj;rw[List.flatMap_map];have:(fun r=>recF (lJ r))=recF:=by funext r;unfold recF;rw[recB_bare]
 rw[this]
theorem allR_len{P:PB}(l7:PBOk P):(gD P).length<=2061:=by
 have h2:=pn l7 8 (by omega);have h3:∀m,m<=4->((List.range m).flatMap (jH P)).length<=m:=by
  intro m
  induction m with
  |zero=>simp
  |succ m ih=>
   intro hm;have:=ih (by omega);rw[List.range_succ,List.flatMap_append,List.flatMap_cons,List.flatMap_nil,List.append_nil,List.length_append];have:(jH P m).length<=1:=by unfold jH;split<;>simp
   omega
 have h4:=h3 4 (by omega);unfold gD;rw[List.length_cons,List.length_append];omega
section
variable{S T:AS}
theorem nt52:Tryz.f52.ntmps=66:=by kernel_rfl
structure WrM(S0:AS)(a b dp:Nat)(l:AV)(rs:List Rec)(i:Nat)(S:AS):Prop where
 sub:Sub S0 S
 ra:S.h.get a=some (.row [.ptr dp 0 0 4] 0 0 false 24)
 al:a<S.next
 bl:b<S.next
 ab:a≠b
 al0:S0.next<=a
 bl0:S0.next<=b
 rcs:Sl S l 7 (rs.flatMap Rec.c)
 lb:aB l≠a+1/\aB l≠b+1
 ex:∃w,S.h.get b=some (.row [w] 0 0 false 32)/\Gw S w 1 5 (az (dj (rs.take i)))/\(aB w=0\/(b+1<aB w/\aB w≠aB l))
structure WrS(a b:Nat)(l:AV)(n:Nat)(F':Fr):Prop where
 t2:sl F' 2=.ptr a 0 0 1
 t6:sl F' 6=l
 t7:sl F' 7=.ptr b 0 0 1
 t20:sl F' 20=l
 t21:sl F' 21=.int .i64 n
 n:F'.n=66
def wr0G(S0:AS)(a b dp:Nat)(l:AV)(rs:List Rec)(k:Nat)(F':Fr)(S':AS):Prop:=
 ∃i:Nat,WrM S0 a b dp l rs i S'/\WrS a b l rs.length F'/\sl F' 22=.int .i64 i/\i<=rs.length/\k=rs.length-i
theorem wr0G_mk{S0:AS}{a b dp:Nat}{l:AV}{rs:List Rec}{k:Nat}{F':Fr}(i:Nat)(h1:WrM S0 a b dp l rs i T)(h2:WrS a b l rs.length F')(h3:sl F' 22=.int .i64 i)(h4:i<=rs.length)(h5:k=rs.length-i):wr0G S0 a b dp l rs k F' T:=⟨i,h1,h2,h3,h4,h5⟩
def wr2G(U1:AS)(D:Dk)(l:AV)(q n:Nat)(bs:List AV)(k:Nat)(F':Fr)(S':AS):Prop:=
 ∃(i:Nat)(D':Dk),bh S' D'/\D'.pd.ok/\lQ bs (DP i) D'.pd=dH D.pd bs/\D'.dp=D.dp/\Evo D D' U1 S'/\i<=4/\sl F' 52=.slice q 0 0 4 4 1 (some 4)/\sl F' 53=.int .i64 4/\sl F' 54=.int .i64 i/\sl F' 6=l/\F'.n=66/\k=4-i
theorem wr2G_mk{U1:AS}{D:Dk}{l:AV}{q n:Nat}{bs:List AV}{k:Nat}{F':Fr}(i:Nat)(D':Dk)(h1:bh T D')(vL:D'.pd.ok)(h2:lQ bs (DP i) D'.pd=dH D.pd bs)(h3:D'.dp=D.dp)(h4:Evo D D' U1 T)(h5:i<=4)(h6:sl F' 52=.slice q 0 0 4 4 1 (some 4))(h7:sl F' 53=.int .i64 4)(h8:sl F' 54=.int .i64 i)(h9:sl F' 6=l)(BX:F'.n=66)(h11:k=4-i):wr2G U1 D l q n bs k F' T:=
 ⟨i,D',h1,vL,h2,h3,h4,h5,h6,h7,h8,h9,BX,h11⟩
theorem op_call{D:Dk}{a b i:Nat}(h:bh S D)(ok:D.pd.ok){v:AV}{bs:List AV}(hi:i<4)(ha:S.h.get a=some (.row [.ptr D.dp 0 0 4] 0 0 false 24))(hb:S.h.get b=some (.row [v] 0 0 false 32))(hv:Sl S v 1 bs)(ue:aB v≠D.dp+1)(tz:bs.length<=1073741824):
  ai C1 (stepG i) (oM a b i) S (dk.Left D S (opP bs i D.pd)):=by
 have:i=0\/i=1\/i=2\/i=3:=by omega
 rcases this with rfl|rfl|rfl|rfl
 .exact cre112 h ok ha
 .exact app113 h ok ha hb hv ue tz
 .exact syn114 h ok ha
 .exact ren115 h ok ha
theorem opP_ok{d:PD}(h:d.ok)(bs:List AV)(i:Nat)(hi:i<4):(opP bs i d).2.ok:=by
 have:i=0\/i=1\/i=2\/i=3:=by omega
 rcases this with rfl|rfl|rfl|rfl
 .exact h.create _
 .exact h.append _ _
 .exact h.sync _
 .exact ok_rename h (by decide)
end
open Go.Proofs.YtdknlbnljfdhgaaGreatDoor.mod (Val encV encV_len Con encC encC_len ConOk PredAt mayP mayC mayV setB sameB zeroV mayPred encT encT_len bare encM nget nput mget_encM mput_encM nget_nput nput_mem nget_mem predFoot idxI idx174)
section
variable{S T:AS}
theorem WrM.old{S0:AS}{a b dp:Nat}{l:AV}{rs:List Rec}{i:Nat}(h:WrM S0 a b dp l rs i S):S0.next<=S.next:=h.sub.next
set_option maxRecDepth 20000 in
theorem write52{X:cV}(h:bN S X)(l7:PBOk X.pure)(ok:X.D.pd.ok)(hr8:∀r,r∈gD X.pure->r.st.length<=8)(jL:aT [X.D.eY,X.D.ay aZ]≠0):
  ai C1 52 [.ptr X.D.dp 0 0 4,.ptr X.b 0 1 27] S fun v T=>∃D',v=.tuple [.int .i64 (if (dH X.D.pd (az (dj (gD X.pure)))).1=0 then ((gD X.pure).length:Int) else 0),.int .i64 (dH X.D.pd (az (dj (gD X.pure)))).1] /\
   bN T {X with D:=D'}/\dV X {X with D:=D'} S T/\D'.pd=(dH X.D.pd (az (dj (gD X.pure)))).2/\D'.dp=X.D.dp:=by
 obtain⟨a,ha⟩:∃a,a=S.next:=⟨_,rfl⟩
 obtain⟨S1,bI⟩:∃S1:AS,S1=⟨S.h.set a (.row [.ptr X.D.dp 0 0 4] 0 0 false 24),a+1⟩:=⟨_,rfl⟩
 have s1:Sub S S1:=by rw[bI,ha];exact seg.cf
 have ra1:S1.h.get a=some (.row [.ptr X.D.dp 0 0 4] 0 0 false 24):=by rw[bI];exact aa _ _ _
 have n1:S1.next=a+1:=by rw[bI]
 have fN:=bI.symm;clear bI;obtain⟨l,T1,⟨t1,rs,hl,hold1,ua⟩,e110⟩:=(all110 (h.toSub s1) l7).ex;have t1n:=t1.next
 have hlen:rs.length=(gD X.pure).length:=by rw[<-ua,List.length_map]
 have hl61:=allR_len l7;have hfile:dj rs=dj (gD X.pure):=by rw[<-ua,fileB_bare]
 have hrst:∀r,r∈rs->r.st.length<=8:=fun r hr=>by
  have:lJ r∈gD X.pure:=by rw[<-ua];exact List.mem_map.2 ⟨r,hr,rfl⟩
  have h2:=hr8 (lJ r) this;exact h2
 rw[<-hfile,<-hlen];obtain⟨b,hb⟩:∃b,b=T1.next:=⟨_,rfl⟩
 obtain⟨S2,c7⟩:∃S2:AS,S2=⟨T1.h.set b (.row [.aq] 0 0 false 32),b+1⟩:=⟨_,rfl⟩
 have s2:Sub T1 S2:=by rw[c7,hb];exact seg.cf
 have rb2:S2.h.get b=some (.row [.aq] 0 0 false 32):=by rw[c7];exact aa _ _ _
 have n2:S2.next=b+1:=by rw[c7]
 have iJ:=c7.symm;clear c7;have qu:=hl.gw.1.old;have hlw:=hl.nw;have kl:=aj hl.gw.1;have u1:=hl.gw.1.sl;have u2:sLen l=rs.length:=hl.gw.1.aM nC (by omega);have m0:WrM S a b X.D.dp l rs 0 S2:=⟨(s1.trans t1).trans s2,(s2.h _ (by omega)).trans ((t1.h _ (by omega)).trans ra1),by omega,by omega,by omega,by omega,by have:=(s1.trans t1).next;omega,hl.gw.1.toSub s2,by omega,.aq,rb2,Gw.nil,.inl rfl⟩
 refine cl (cD _) (cG _ rfl) fn52 rfl ok52 (by simp) fun F hn hs=>?_;rw[nt52]at hn;have s0:=hs 0;have yl:=hs 1;clear hs;simp only[List.getElem?_cons_zero,List.getElem?_cons_succ,Option.getD_some]at s0 yl;simp[s0,yl,<-ha,fN,aR,e110,hl.gw.1.np,kl,<-hb,iJ,u1,u2];refine aH (wr0G S a b X.D.dp l rs) rs.length (wr0G_mk 0 m0 ⟨by simp,by simp,by simp,by simp,by simp,by simp[hn]⟩ (by simp) (Nat.zero_le _) rfl) ?_;clear s0 yl hn m0 rb2 e110 fN iJ;rintro k F' S'-⟨i,hM,⟨t2',t6,t7,t20,t21,hn⟩,t22,hi,hk⟩;obtain⟨w,k5,k6,k7⟩:=hM.ex;have hMs:Sub S1 S':=⟨fun id hi=>by
  by_cases e:id=a
  .rw[e];exact hM.ra.trans ra1.symm
  .rw[hM.sub.h id (by omega),s1.h id (by omega)],by have:=hM.al;omega⟩
 by_cases cQ:i<rs.length
 .obtain⟨r,hrx⟩:∃r,rs[i]?=some r:=⟨_,List.getElem?_eq_getElem cQ⟩
  have hrm:=List.mem_of_getElem? hrx;have CN:=(hold1 r hrm).sub hMs;have CQ:=cZ (cx:=C1) (e:=115) (k:=i) hM.rcs nC (by decide) hrx ag115 sz115;have hal:=hM.al;have tz:=hM.bl;have hab:=hM.ab;have hlb:=hM.lb;have hMo:=hM.old;have hal0:=hM.al0;have hbl0:=hM.bl0;obtain⟨c,hc⟩:∃c,c=S'.next:=⟨_,rfl⟩
  obtain⟨S3,kO⟩:∃S3:AS,S3=⟨(S'.h.set c (.row [.int .i64 0,.int .i64 0,.int .i64 0,.int .u64 0,.bool false,.aq,.aq] 0 0 false 115)).set c (.row r.c 0 0 false 115),c+1⟩:=⟨_,rfl⟩
  have s3:Sub S' S3:=by rw[kO,hc];exact seg.fO
  have g3:S3.h.get c=some (.row r.c 0 0 false 115):=by rw[kO];exact aa _ _ _
  have n3:S3.next=c+1:=by rw[kO]
  have my:=kO.symm;clear kO;have cJ:=CN.sub s3;obtain⟨fv,T3,⟨t3,w1,gw1⟩,E6⟩:=(xT cJ (hrst r hrm)).ex;have hbl':=DR cJ.num cJ.n cJ.CM (hrst r hrm);obtain⟨x,T4,⟨y,e,rfl,t4,w2,gw2⟩,e111⟩:=(frm111 gw1.1 (tf cJ.num) (wD _) (by omega)).ex;have st34:=(s3.trans t3).trans t4;have n34:=st34.next
  have k6':Gw T4 w 1 5 (az (dj (rs.take i))):=k6.agree (fun id e=>st34.h id (by have:=k6.1.old;omega)) n34;have hwl:sLen w<=2061*2056:=by
   have h1:=k6.1.fC;have h2:=jD (rs.take i);have h3:(rs.take i).length*2056<=2061*2056:=Nat.mul_le_mul_right _ (by rw[List.length_take];omega);rw[aD]at h1;omega
  have hyl:sLen y<=2056:=by
   have h1:=gw2.1.fC;have h2:=sT (dS r);rw[aD]at h1;omega
  obtain⟨w',T5,e5,g5,o5,n5,q5,_,q6,_⟩:=eB (cx:=C1) (S:=T4) (t:=32) (u:=32) (ts:=[]) (p:=(5,1,1)) (v:=w) (x:=y) ru un32 rfl k6' gw2.1 (by simp[fits,cH];omega);have xz:az (dj (rs.take i))++az (iQ (dS r))=az (dj (rs.take (i+1))):=by
   rw[fE];congr 1;unfold dj;have:rs[i]=r:=by rw[List.getElem?_eq_getElem cQ]at hrx;exact Option.some.inj hrx
   rw[List.take_succ_eq_append_getElem cQ,List.flatMap_append,List.flatMap_cons,List.flatMap_nil,List.append_nil,this];rfl
  rw[xz]at g5;have kwo:=k6.1.old;obtain⟨S6,hS6⟩:∃S6:AS,S6=⟨T5.h.set b (.row [w'] 0 0 false 32),T5.next⟩:=⟨_,rfl⟩
  have b6:S6.h.get b=some (.row [w'] 0 0 false 32):=by rw[hS6];exact aa _ _ _
  have o6:∀id,id≠b->S6.h.get id=T5.h.get id:=fun id hi=>by rw[hS6];exact ae _ _ hi
  have n6:S6.next=T5.next:=by rw[hS6]
  have bS6:=hS6.symm;clear hS6;have og:∀id,id<S'.next->id≠b->id+1≠aB w->S6.h.get id=S'.h.get id:=fun id h1 h2 h3=>by
   rw[o6 _ h2,o5 _ (by omega) h3,st34.h _ h1]
  have rb4:=(st34.h b (by omega)).trans k5;have rb5:T5.h.get b=some (.row [w] 0 0 false 32):=by rw[o5 _ (by omega) (by omega)];exact rb4
  have rc3:=(t3.h c (by omega)).trans g3;have hrco:=hM.rcs.old;have fin:WrM S a b X.D.dp l rs (i+1) S6:=by
   refine⟨⟨fun id hi=>by rw[og id (by omega) (by omega) (by omega)];exact hM.sub.h id hi,by omega⟩,by rw[og _ (by omega) (by omega) (by omega)];exact hM.ra,by omega,by omega,hab,hal0,hbl0,hM.rcs.agree (fun id e=>og id (by omega) (by omega) (by omega)) (by omega),hlb,w',b6,g5.agree (fun id e=>o6 id (by omega)) (by omega),by omega⟩
  have kh:=aW (i:=i) (by omega);have jC:(i:Int)<rs.length:=by omega
  have kw:=aj k6.1;simp only[Rec.c]at my g3 rc3 E6 CQ;have kp:=aj CN.pred.sl;have ks:=aj CN.sl;have kpc:=CN.pred.sl.cells;have ksc:=CN.sl.cells;simp[t2',t6,t7,t20,t21,t22,cQ,jC,u1,u2,kl,CQ,<-hc,my,g3,kp,ks,kpc,ksc,aR,E6,e111,gw1.1.np,aj gw1.1,gw2.1.np,aj gw2.1,rb4,kw,e5,g5.1.np,aj g5.1,rb5,bS6,g5.1.cells,kh];exact⟨rs.length-(i+1),by omega,wr0G_mk (i+1) fin ⟨by simp[t2'],by simp[t6],by simp[t7],by simp[t20],by simp[t21],by simp[hn]⟩ (by simp) cQ rfl⟩
 .obtain rfl:i=rs.length:=by omega
  rw[List.take_length]at k6;obtain⟨bs,oo⟩:∃bs,bs=az (dj rs):=⟨_,rfl⟩
  rw[<-oo]at k6⊢;have hbsl:bs.length<=2061*2056:=by
   rw[oo,aD];have h1:=jD rs;have h2:rs.length*2056<=2061*2056:=Nat.mul_le_mul_right _ (by omega);omega
  have k1:=hM.sub;have k2:=hM.ra;have k3:=hM.al;have k4:=hM.bl;have hal0:=hM.al0;have hbl0:=hM.bl0;have hab:=hM.ab;have k1n:=k1.next
  obtain⟨q,hq⟩:∃q,q=S'.next:=⟨_,rfl⟩
  obtain⟨S7,hS7⟩:∃S7:AS,S7=⟨S'.h.set q (.row [cW a b 0,cW a b 1,cW a b 2,cW a b 3] 0 0 false 122),q+1⟩:=⟨_,rfl⟩
  have s7:Sub S' S7:=by rw[hS7,hq];exact seg.cf
  have g7:S7.h.get q=some (.row [cW a b 0,cW a b 1,cW a b 2,cW a b 3] 0 0 false 122):=by rw[hS7];exact aa _ _ _
  have n7:S7.next=q+1:=by rw[hS7]
  have bS7:=hS7.symm;clear hS7;have hd7:bh S7 X.D:=h.gL.sub (k1.trans s7);obtain⟨r,U1,⟨u1',ED⟩,e117⟩:=(size20 (name:=aZ) hd7 (Ec ok) (by decide) (by decide)).ex;rcases ED with⟨_,rfl⟩|⟨q0,_⟩
  case inr=>exact absurd q0 jL
  obtain⟨e0,he0⟩:∃e0,e0=aT [X.D.eY,X.D.ay aZ]:=⟨_,rfl⟩
  rw[<-he0]at e117 jL;have ra7:=(s7.h a k3).trans k2;have u1n:=u1'.next
  have dU:bh U1 X.D:=hd7.sub u1';have hSU:Sub S U1:=(k1.trans s7).trans u1';have nfa:∀id,S.next<=id->¬X.D.bB id:=fun id hi hf=>by have:=h.gL.lt hf;omega
  have gaU:=(u1'.h a (by have:=s7.next;omega)).trans ra7;have gbU:=(u1'.h b (by have:=s7.next;omega)).trans ((s7.h b k4).trans k5);have gqU:=(u1'.h q (by omega)).trans g7;have gwU:=(k6.1.toSub s7).toSub u1';have hw6:aB w<=S'.next:=k6.1.old
  unfold aZ at e117;have hqS:S.next<=q:=by omega
  have xw:=h.gL.CU;have hf4:∀F B(x0 x1 x2 x3:Tmp),sl F x0=.func (.func 112) [] [.ptr a 0 0 1]->sl F x1=.func (.func 113) [] [.ptr a 0 0 1,.ptr b 0 0 1]->sl F x2=.func (.func 114) [] [.ptr a 0 0 1]->sl F x3=.func (.func 115) [] [.ptr a 0 0 1]->aA C1 F B (.buildSlice 193 4 #[(0,.tmp x0),(1,.tmp x1),(2,.tmp x2),(3,.tmp x3)])=some (.slice B 0 0 4 4 1 (some 4),.row [cW a b 0,cW a b 1,cW a b 2,cW a b 3] 0 0 false 122):=fun F B x0 x1 x2 x3 a0 a1 a2 a3=>B3 a0 a1 a2 a3;have hwlo:aB w=0\/S.next<aB w:=by have:=k7;omega
  simp[t2',t6,t7,t20,t21,t22,hf4,<-hq,bS7,ra7,aR,e117,jL];refine aH (wr2G U1 X.D l q rs.length bs) 4 (wr2G_mk 0 X.D dU ok rfl rfl Evo.refl (by omega) (by simp) (by simp) (by simp) (by simp[t6]) (by simp[hn]) rfl) ?_;clear t2' t6 t7 t20 t21 t22 hn;rintro k F' S8-⟨i,D',d1,ok',d2,d3,d4,hi,t52,t53,t54,t6,hn,hk⟩;have ga8:S8.h.get a=some (.row [.ptr D'.dp 0 0 4] 0 0 false 24):=by rw[d3];exact (d4.cg a (by omega) (nfa a (by omega))).trans gaU
  have gb8:=(d4.cg b (by omega) (nfa b hbl0)).trans gbU;have gq8:=(d4.cg q (by omega) (nfa q hqS)).trans gqU;by_cases hi4:i<4
  .have hw8:Sl S8 w 1 bs:=gwU.agree (fun id e=>d4.cg id (by omega) (nfa id (by omega))) d4.next
   obtain⟨r,V,hL,ec⟩:=(op_call d1 ok' hi4 ga8 gb8 hw8 (by rw[d3];omega) (by omega)).ex;obtain⟨BL,D2,f1,f2,f3,f4⟩:=hL;subst BL;have v4:=d4.trans f4;have hX:∀i,i<4->C1.exts.get (stepG i)=none:=fun i hi=>by
    have:i=0\/i=1\/i=2\/i=3:=by omega
    rcases this with rfl|rfl|rfl|rfl<;>exact aR _ rfl
   have hxi:=hX i hi4;have yS:Sl S8 (.slice q 0 0 4 4 1 (some 4)) 1 ([cW a b 0,cW a b 1,cW a b 2,cW a b 3]):=
    ⟨by simp[isSl,eu],by simp[jR,dJ,gq8,bt],by simp[sLen],by have:=d4.next;simp[aB];omega⟩
   have CQ:loadT C1 S8 122 (j5 (.slice q 0 0 4 4 1 (some 4)) i)=some (.func (.func (stepG i)) [] (oM a b i)):=by
    have:([cW a b 0,cW a b 1,cW a b 2,cW a b 3])[i]?=some (.func (.func (stepG i)) [] (oM a b i)):=by
     rw[<-stepF_eq];have:i=0\/i=1\/i=2\/i=3:=by omega
     rcases this with rfl|rfl|rfl|rfl<;>rfl
    exact fQ yS this ag122
   have jC:(i:Int)<4:=by omega
   have kh:=aW (i:=i) (by omega);have oB:lQ bs (DP i) D'.pd=if (opP bs i D'.pd).1=0 then lQ bs (DP (i+1)) (opP bs i D'.pd).2 else opP bs i D'.pd:=by rw[remP_step hi4];rfl
   have qR:=opP_ok ok' bs i hi4;obtain⟨e,he⟩:∃e,e=(opP bs i D'.pd).1:=⟨_,rfl⟩
   rw[<-he]at oB ec;by_cases hz:e=0
   .rw[if_pos hz]at oB;rw[hz]at ec;simp[t52,t53,t54,t6,jC,hi4,CQ,hxi,ec,kh];exact⟨4-(i+1),by omega,wr2G_mk (i+1) D2 f1 (by rw[f2];exact qR) (by rw[<-d2,oB,f2]) (f3.trans d3) v4 (by omega) (by simp[t52]) (by simp[t53]) (by simp) (by simp[t6]) (by simp[hn]) rfl⟩
   .rw[if_neg hz]at oB;rw[oB]at d2;have hz2:¬(dH X.D.pd bs).1=0:=by rw[<-d2,<-he];exact hz
    have hez:e=(dH X.D.pd bs).1:=by rw[<-d2];exact he
    obtain⟨o1,o2⟩:=(h.toSub hSU).onD f1 (f3.trans d3) v4;simp[t52,t53,t54,t6,jC,hi4,CQ,hxi,ec,hz,hz2];exact⟨hez,D2,o1,(dV.of hSU).trans o2,by rw[f2,d2],f3.trans d3⟩
  .obtain rfl:i=4:=by omega
   have hw0:dH X.D.pd bs=(0,D'.pd):=d2.symm;have kl':=kl;rw[hw0];simp[t52,t53,t54,t6,u1,u2,kl];obtain⟨o1,o2⟩:=(h.toSub hSU).onD d1 d3 d4;exact⟨D',o1,(dV.of hSU).trans o2,rfl,d3⟩
end
end Go.Proofs.YtdknlbnljfdhgaaGreatDoor.bk
