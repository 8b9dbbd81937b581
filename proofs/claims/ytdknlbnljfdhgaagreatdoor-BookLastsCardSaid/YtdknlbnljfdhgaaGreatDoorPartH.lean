/-
  A book without memory: what calls keep, how many records and subscriptions there are.
-/
import Derived.Test.YtdknlbnljfdhgaaGreatDoorPartG
import Derived.Test.YtdknlbnljfdhgaaGreatDoorPartF
import Derived.Test.YtdknlbnljfdhgaaGreatDoorAmArgs
open List renaming range->zza,length_append->zzb,mem_singleton->zzc,range_succ->zze,length_take->zzg,sum_append->zzh,map_append->zzi,mem_cons_of_mem->zzk,mem_cons_self->zzl,flatMap_cons->zzm,append_nil->zzn,getElem?_append_right->zzo,getElem?_append_left->zzp
open Nat renaming le_refl->zzd,le_succ_of_le->zzf,le_trans->zzj
set_option linter.unusedVariables false
set_option linter.unusedSimpArgs false
namespace Go.Proofs.YtdknlbnljfdhgaaGreatDoor.bk
open Go Go.Am Go.Proofs.YtdknlbnljfdhgaaGreatDoor.dk
open Go.Proofs.YtdknlbnljfdhgaaGreatDoor.mod (qe cZ dC dH dj c8 gq aB dE nG kF zj gG zeroV jP eJ cd bare rC dg gl kE mh ej lg gM aW tL wx)
def xO(P:PB):Prop:=∀i x,i<8->P.au i=some x->∀t,t∈x.cur->t.1<16
theorem SM{P Q:PB}{r:Rec}(h:um P r Q)(hk:xO Q)(hs:r.sort=5):r.pub<16:=by
 cases h with
 |aC e=>omega
 |qd e=>omega
 |ends e=>omega
 |ad e=>omega
 | @ack e n cD lI x hx hn hp hv=>
  exact hk n _ lI (if_pos rfl) (r.pub,r.n) (gM (by show dg (gl x.cur r.pub r.n) r.pub=_;rw[ej,if_pos rfl]))
theorem Yq{X:cT}{o:rP}{P':PB}(h:W6 X o P')(hg:xO X.pure):xO P'/\P'.aC=X.pure.aC:=by
 have key:∀(k:Nat)(q:Option iQ),(∀x,q=some x->∀t,t∈x.cur->t.1<16)->xO (X.pure.aK k q):=fun k q hq i x hi hx=>by
  have hx:(if i=k then q else X.pure.au i)=some x:=hx;split at hx
  .exact hq x hx
  .exact hg i x hi hx
 rcases h with⟨hw,k,x,e1,e2,e3,e4,e5,_,rfl⟩|⟨hw,k,e1,e2,e3,_,rfl⟩|⟨hw,k,x,e1,e2,e3,rfl⟩|⟨hw,k,e1,e2,_,rfl⟩|⟨hw,k,e1,e2,_,rfl⟩
 .refine⟨key _ _ fun y hy t ht=>?_,rfl⟩;cases hy;rcases lg ht with q|q
  .rw[q];have:=(uP o.pub).2;show ((zC o.pub:Nat):Int)<16;omega
  .have ec:X.pure.au k=some ⟨x.ks.map bare,x.st,x.cur⟩:=by show (X.au k).map dv.pure=_;rw[e3];rfl
   exact hg k _ e2 ec t q
 .refine⟨key _ _ fun y hy t ht=>?_,rfl⟩;cases hy;cases ht
 .exact⟨key _ _ fun y hy=>by (cases hy),rfl⟩
 .exact⟨hg,rfl⟩
 .exact⟨hg,rfl⟩
theorem HR(rs:List Rec)(r:Rec):aJ (rs++[r])=aJ rs++di (cX r):=by
 unfold aJ;rw[List.flatMap_append,zzm,List.flatMap_nil,zzn];rfl
theorem WT{P:PB}(hg:ew P):∀r,r∈iO P->r.sort=5->r.pub<16:=fun r hr hs=>by
 unfold iO at hr;rcases List.mem_cons.1 hr with rfl|hr
 .exact absurd hs (by show ¬(1:Int)=5;decide)
 .rcases List.mem_append.1 hr with hr|hr
  .obtain⟨i,hi,hr⟩:=List.mem_flatMap.1 hr;have hi:=List.mem_range.1 hi;unfold mF at hr;cases e:P.au i with
   |none=>rw[e]at hr;cases hr
   |some x=>
    rw[e]at hr;have g:=hg.au i x hi e;rcases List.mem_cons.1 hr with rfl|hr
    .exact absurd hs (by show ¬(2:Int)=5;decide)
    .obtain⟨k,hk,rfl⟩:=List.mem_map.1 hr;obtain⟨t,q1,q2⟩:=List.mem_map.1 ((mj fun t ht=>(g.cur t ht).1).1 hk);have:=(g.cur t q1).2.1;show (k:Int)<16;omega
  .obtain⟨k,hk,hr⟩:=List.mem_flatMap.1 hr;unfold kN at hr;split at hr
   .rw[zzc]at hr;subst hr;exact absurd hs (by show ¬(4:Int)=5;decide)
   .cases hr
theorem jC.tQ{P Q:PB}{rs:List Rec}(h:jC P rs Q)(hg:ew P)(hw:∀r,r∈rs->fQ r)(hp:∀r,r∈rs->r.sort=5->r.pub<16):ew Q:=by
 induction h with
 |nil=>exact hg
 |cons h1 _ ih=>exact ih (hg.do h1 (hw _ (zzl ..)) (hp _ (zzl ..))) (fun r hr=>hw r (zzk _ hr)) fun r hr=>hp r (zzk _ hr)
theorem WV{P:PB}(hg:ew P):(iO P).length<=141:=by
 rw[NU hg];have h1:∀(f:Nat->Nat)(c n:Nat),(∀i,f i<=c)->((zza n).map f).sum<=n*c:=fun f c n hf=>by
  induction n with
  |zero=>simp
  |succ n ih=>
   rw[zze,zzi,zzh,Nat.succ_mul];have:=hf n;simp only[List.map_cons,List.map_nil,List.sum_cons,List.sum_nil];omega
 have a1:=h1 (fun i=>sV (P.au i)) 17 8 fun i=>by
  unfold sV;split
  .omega
  .rename_i x _;have:=List.length_filter_le (fun k:Nat=>(dg x.cur (k:Nat)).isSome) (zza 16);rw[List.length_range]at this;omega
 have a2:=h1 (fun k=>oQ (P.bg k)) 1 4 fun k=>by unfold oQ;split<;>omega
 omega
theorem vh{α β:Type}{f g:α->Option β}:∀{l:List α},(∀a,a∈l->f a=g a)->l.filterMap f=l.filterMap g
 |[],_=>rfl
 |a::l,h=>by
  rw[List.filterMap_cons,List.filterMap_cons,h a (zzl ..),vh fun b hb=>h b (zzk _ hb)]
theorem vP{P Q:PB}(h:bz P Q):jx P 8=jx Q 8/\iP P 4=iP Q 4/\jq P 128=jq Q 128:=by
 refine⟨?_,?_,?_⟩
 .unfold jx;refine vh fun i hi=>?_;unfold W8;rcases h.au i (List.mem_range.1 hi)with⟨h1,h2⟩|⟨x,y,h1,h2,h3,h4,_⟩
  .rw[h1,h2]
  .rw[h1,h2];simp[h3,h4]
 .unfold iP;refine vh fun k hk=>?_;unfold IV;rw[h.bg k (List.mem_range.1 hk)]
 .funext m;unfold jq;split
  .rcases h.au (m / 16) (by omega)with⟨h1,h2⟩|⟨x,y,h1,h2,h3,h4,h5⟩
   .rw[h1,h2]
   .rw[h1,h2];show jH x _=jH y _;unfold jH;rw[h5,h4]
  .rfl
theorem yX(P:PB):∀n,(jx P n).length=((zza n).map fun i=>if (P.au i).isSome then 1 else 0).sum
 |0=>rfl
 |n+1=>by
  rw[yY,zzb,yX P n,zze,zzi,zzh];unfold W8;cases h:P.au n<;>simp[h]
theorem vA(P:PB):∀n,(iP P n).length=((zza n).map fun k=>oQ (P.bg k)).sum
 |0=>rfl
 |n+1=>by
  rw[xa,zzb,vA P n,zze,zzi,zzh];unfold IV oQ;split
  .rename_i h;split at h
   .rename_i h2;simp[h2]
   .cases h
  .rename_i h;split at h
   .cases h
   .rename_i h2;simp[h2]
def LU(P:PB)(o:rP)(P':PB):Prop:=
 (o.gI<=1/\∃(k:Nat)(x:iQ),o.id=k/\k<8/\P.au k=some x/\fb o.n=true/\jH x (zC o.pub:Nat)<o.n/\P'=P.aK k (some ⟨x.cs,x.st,gl x.cur (zC o.pub:Nat) o.n⟩)) \/
 (o.gI=2/\∃k:Nat,o.id=k/\k<8/\P.au k=none/\dE o.cs=true/\fN o.st=true/\P'=P.aK k (some ⟨o.cs.map bare,o.st,[]⟩)) \/
 (o.gI=3/\∃(k:Nat)(x:iQ),o.id=k/\k<8/\P.au k=some x/\P'=P.aK k none) \/
 (o.gI=4/\∃k:Nat,o.id=k/\k<4/\(P.bg k).fy<1099511627776/\dE o.cs=true/\P'=P.dV k ⟨k,(P.bg k).fy+1,true,o.cs.map bare⟩) \/
 (o.gI=5/\∃k:Nat,o.id=k/\k<4/\(P.bg k).fy<1099511627776/\(P.bg k).there=true/\P'=P.dV k ⟨k,(P.bg k).fy+1,false,[]⟩)
theorem Ct{X:cT}{k:Nat}{y:iQ}(h:X.pure.au k=some y):∃x,X.au k=some x/\y=x.pure:=by
 have h:(X.au k).map dv.pure=some y:=h;cases e:X.au k with
 |none=>rw[e]at h;cases h
 |some x=>rw[e]at h;exact⟨x,rfl,(Option.some.inj h).symm⟩
theorem Pc{X:cT}{k:Nat}(h:X.pure.au k=none):X.au k=none:=Option.map_eq_none_iff.1 (show (X.au k).map dv.pure=none from h)
theorem Qp{X:cT}{o:rP}{P':PB}:W6 X o P'↔LU X.pure o P':=by
 constructor
 .rintro (⟨hw,k,x,e1,e2,e3,e4,e5,⟨e6,e7⟩,rfl⟩|⟨hw,k,e1,e2,e3,⟨e4,e5⟩,rfl⟩|⟨hw,k,x,e1,e2,e3,rfl⟩|⟨hw,k,e1,e2,⟨e3,e4,_⟩,rfl⟩|⟨hw,k,e1,e2,⟨e3,_,e5⟩,rfl⟩)
  .exact .inl ⟨hw,k,x.pure,e1,e2,uC e3,e6,e7,rfl⟩
  .exact .inr (.inl ⟨hw,k,e1,e2,Gc e3,e4,e5,rfl⟩)
  .exact .inr (.inr (.inl ⟨hw,k,x.pure,e1,e2,uC e3,rfl⟩))
  .exact .inr (.inr (.inr (.inl ⟨hw,k,e1,e2,e3,e4,rfl⟩)))
  .exact .inr (.inr (.inr (.inr ⟨hw,k,e1,e2,e3,e5 rfl,rfl⟩)))
 .have hp:=(uP o.pub).2;rintro (⟨hw,k,y,e1,e2,e3,e4,e5,rfl⟩|⟨hw,k,e1,e2,e3,e4,e5,rfl⟩|⟨hw,k,y,e1,e2,e3,rfl⟩|⟨hw,k,e1,e2,e3,e4,rfl⟩|⟨hw,k,e1,e2,e3,e4,rfl⟩)
  .obtain⟨x,hx,rfl⟩:=Ct e3;exact .inl ⟨hw,k,x,e1,e2,hx,by omega,by omega,⟨e4,e5⟩,rfl⟩
  .exact .inr (.inl ⟨hw,k,e1,e2,Pc e3,⟨e4,e5⟩,rfl⟩)
  .obtain⟨x,hx,rfl⟩:=Ct e3;exact .inr (.inr (.inl ⟨hw,k,x,e1,e2,hx,rfl⟩))
  .exact .inr (.inr (.inr (.inl ⟨hw,k,e1,e2,⟨e3,e4,fun h=>by cases h⟩,rfl⟩)))
  .exact .inr (.inr (.inr (.inr ⟨hw,k,e1,e2,⟨e3,by decide,fun _=>e4⟩,rfl⟩)))
theorem lA.none{o:Option iQ}(h:lA none o):o=none:=by
 rcases h with⟨_,h⟩|⟨x,y,h,_⟩
 .exact h
 .cases h
theorem lA.some{x:iQ}{o:Option iQ}(h:lA (some x) o):∃y,o=Option.some y/\x.cs=y.cs/\x.st=y.st/\∀k,dg x.cur k=dg y.cur k:=by
 rcases h with⟨h,_⟩|⟨x',y,h,h2,h3,h4,h5⟩
 .cases h
 .cases h;exact⟨y,h2,h3,h4,h5⟩
theorem AH{x y:iQ}(h1:x.st=y.st)(h2:∀k,dg x.cur k=dg y.cur k)(pub:Int):jH x pub=jH y pub:=by
 unfold jH;rw[h2,h1]
theorem bz.aK{P Q:PB}(h:bz P Q)(k:Nat){a b:Option iQ}(hs:lA a b):bz (P.aK k a) (Q.aK k b):=⟨fun i hi=>by
 show lA (if i=k then a else P.au i) (if i=k then b else Q.au i);split
 .exact hs
 .exact h.au i hi,h.bg⟩
theorem bz.dV{P Q:PB}(h:bz P Q)(k:Nat)(a:IY):bz (P.dV k a) (Q.dV k a):=⟨h.au,fun i hi=>by
 show (if i=k then a else P.bg i)=(if i=k then a else Q.bg i);split
 .rfl
 .exact h.bg i hi⟩
theorem HV{P Q P':PB}{o:rP}(h:LU P o P')(hs:bz P Q):∃Q',LU Q o Q'/\bz P' Q':=by
 rcases h with⟨hw,k,x,e1,e2,e3,e4,e5,rfl⟩|⟨hw,k,e1,e2,e3,e4,e5,rfl⟩|⟨hw,k,x,e1,e2,e3,rfl⟩|⟨hw,k,e1,e2,e3,e4,rfl⟩|⟨hw,k,e1,e2,e3,e4,rfl⟩
 .have h1:=hs.au k e2;rw[e3]at h1;obtain⟨y,h2,h3,h4,h5⟩:=h1.some;refine⟨_,.inl ⟨hw,k,y,e1,e2,h2,e4,by rw[<-AH h4 h5];exact e5,rfl⟩,hs.aK k (.inr ⟨_,_,rfl,rfl,h3,h4,fun j=>?_⟩)⟩;show dg (gl x.cur _ _) j=dg (gl y.cur _ _) j;rw[ej,ej,h5]
 .have h1:=hs.au k e2;rw[e3]at h1;exact⟨_,.inr (.inl ⟨hw,k,e1,e2,h1.none,e4,e5,rfl⟩),hs.aK k (.inr ⟨_,_,rfl,rfl,rfl,rfl,fun _=>rfl⟩)⟩
 .have h1:=hs.au k e2;rw[e3]at h1;obtain⟨y,h2,_⟩:=h1.some;exact⟨_,.inr (.inr (.inl ⟨hw,k,y,e1,e2,h2,rfl⟩)),hs.aK k (.inl ⟨rfl,rfl⟩)⟩
 .rw[hs.bg k e2]at e3⊢;exact⟨_,.inr (.inr (.inr (.inl ⟨hw,k,e1,e2,e3,e4,rfl⟩))),hs.dV k _⟩
 .rw[hs.bg k e2]at e3 e4⊢;exact⟨_,.inr (.inr (.inr (.inr ⟨hw,k,e1,e2,e3,e4,rfl⟩))),hs.dV k _⟩
theorem Z9{P P1 P2:PB}{o:rP}(h:LU P o P1)(k:LU P o P2):P1=P2:=by
 rcases h with⟨hw,n,x,e1,e2,e3,e4,e5,rfl⟩|⟨hw,n,e1,e2,e3,e4,e5,rfl⟩|⟨hw,n,x,e1,e2,e3,rfl⟩|⟨hw,n,e1,e2,e3,e4,rfl⟩|⟨hw,n,e1,e2,e3,e4,rfl⟩ <;>
  rcases k with⟨kw,m,y,f1,f2,f3,f4,f5,rfl⟩|⟨kw,m,f1,f2,f3,f4,f5,rfl⟩|⟨kw,m,y,f1,f2,f3,rfl⟩|⟨kw,m,f1,f2,f3,f4,rfl⟩|⟨kw,m,f1,f2,f3,f4,rfl⟩<;>first
  |(exfalso;omega)
  | (obtain rfl : n = m := by omega
     first|rfl|(rw[e3]at f3;cases f3;rfl))
theorem um.same{P Q P':PB}{r:Rec}(h:um P r P')(hs:bz P Q):∃Q',um Q r Q'/\bz P' Q'/\(r.sort≠1->Q'.aC=Q.aC):=by
 cases h with
 |aC e hn=>exact⟨_,.aC e hn,hs.aC _ _,fun h=>absurd e h⟩
 | @qd e n cD lI lR hm hr=>
  have h1:=hs.au n lI;rw[lR]at h1;exact⟨_,.qd e cD lI h1.none hm hr,hs.aK n (.inr ⟨_,_,rfl,rfl,rfl,rfl,fun _=>rfl⟩),fun _=>rfl⟩
 | @ends e n cD lI x hx=>
  have h1:=hs.au n lI;rw[hx]at h1;obtain⟨y,h2,_⟩:=h1.some;exact⟨_,.ends e cD lI h2,hs.aK n (.inl ⟨rfl,rfl⟩),fun _=>rfl⟩
 | @ad e k cD tN hn hv hm=>
  rw[hs.bg k tN]at hv;exact⟨_,.ad e cD tN hn hv hm,hs.dV k _,fun _=>rfl⟩
 | @ack e n cD lI x hx hn hp hv=>
  have h1:=hs.au n lI;rw[hx]at h1;obtain⟨y,h2,h3,h4,h5⟩:=h1.some;refine⟨_,.ack e cD lI h2 hn hp (by rw[<-AH h4 h5];exact hv),hs.aK n (.inr ⟨_,_,rfl,rfl,h3,h4,fun j=>?_⟩),fun _=>rfl⟩;show dg (gl x.cur _ _) j=dg (gl y.cur _ _) j;rw[ej,ej,h5]
def rN(P Q:PB):Prop:=
 (jx Q 8).length≠(jx P 8).length\/(iP Q 4).length≠(iP P 4).length\/(∃j,j<128/\jq P 128 j≠jq Q 128 j) \/
 (jx P 8=jx Q 8/\jq P 128=jq Q 128/\(iP Q 4).length=(iP P 4).length/\∃m,m<(iP P 4).length/\(∀i a b,i<m->(iP P 4)[i]?=some a->(iP Q 4)[i]?=some b->a=b)/\∀a b,(iP P 4)[m]?=some a->(iP Q 4)[m]?=some b->a.k=b.k/\a.fy≠b.fy)
theorem uB{f g:Nat->Nat}{k:Nat}:∀n,k<n->(∀i,i<n->i≠k->f i=g i)->((zza n).map f).sum+g k=((zza n).map g).sum+f k
 |0,h,_=>by omega
 |n+1,h,he=>by
  simp only[zze,zzi,zzh,List.map_cons,List.map_nil,List.sum_cons,List.sum_nil];by_cases e:k=n
  .subst e;have:(zza k).map f=(zza k).map g:=List.map_congr_left fun i hi=>by have:=List.mem_range.1 hi;exact he i (by omega) (by omega)
   rw[this];omega
  .have:=uB (f:=f) (g:=g) n (by omega) fun i hi ct=>he i (by omega) ct;have:=he n (by omega) (Ne.symm e);omega
theorem w9(P:PB)(k:Nat):∀n,k<n->∃tl,iP P n=iP P k++((match IV P k with|some s=>[s]|none=>[])++tl)
 |0,h=>by omega
 |n+1,h=>by
  rw[xa];by_cases e:k=n
  .subst e;exact⟨[],by rw[zzn];cases IV P k<;>rfl⟩
  .obtain⟨tl,ht⟩:=w9 P k n (by omega);rw[ht,List.append_assoc,List.append_assoc];exact⟨_,rfl⟩
theorem A9{P Q:PB}(hs:bz P Q)(hg:ew Q){k:Nat}(hk:k<4)(t:Bool)(cs:List dH):rN (P.dV k ⟨k,(P.bg k).fy+1,t,cs⟩) Q:=by
 obtain⟨R,hR⟩:∃R,R=P.dV k ⟨k,(P.bg k).fy+1,t,cs⟩:=⟨_,rfl⟩
 rw[<-hR];have rk:R.bg k=⟨k,(P.bg k).fy+1,t,cs⟩:=by rw[hR];exact if_pos rfl
 have ri:∀i,i<4->i≠k->R.bg i=Q.bg i:=fun i hi ct=>by rw[hR];show (if i=k then _ else P.bg i)=_;rw[if_neg ct];exact hs.bg i hi
 have pk:P.bg k=Q.bg k:=hs.bg k hk;have vF:bz (P.dV k ⟨k,(P.bg k).fy+1,t,cs⟩) (Q.dV k ⟨k,(P.bg k).fy+1,t,cs⟩):=hs.dV k _;have aR:jx R 8=jx Q 8/\jq R 128=jq Q 128:=by
  have:=vP (hs.dV k ⟨k,(P.bg k).fy+1,t,cs⟩);rw[hR];exact⟨this.1,this.2.2⟩
 by_cases hv:(Q.bg k).fy=0
 .refine .inr (.inl ?_);rw[vA,vA];have c1:oQ (R.bg k)=1:=by rw[rk];exact if_pos (Nat.succ_pos _)
  have c2:oQ (Q.bg k)=0:=by unfold oQ;rw[hv];rfl
  have:=uB (f:=fun i=>oQ (R.bg i)) (g:=fun i=>oQ (Q.bg i)) 4 hk fun i hi ct=>by rw[ri i hi ct]
  simp only[c1,c2]at this;omega
 .have hlen:(iP Q 4).length=(iP R 4).length:=by
   rw[vA,vA];congr 1;refine List.map_congr_left fun i hi=>?_;have hi:=List.mem_range.1 hi;by_cases e:i=k
   .subst e;unfold oQ;rw[rk,if_pos (by omega),if_pos (Nat.succ_pos _)]
   .rw[ri i hi e]
  have ha:(Q.bg k).k=k:=by
   rcases hg.bg k hk with e|e
   .rw[e]at hv;exact absurd rfl hv
   .exact e.2.2.1
  have BN:iP R k=iP Q k:=by
   unfold iP;refine vh fun i hi=>?_;have hi:=List.mem_range.1 hi;unfold IV;rw[ri i (by omega) (by omega)]
  obtain⟨t1,h1⟩:=w9 R k 4 hk;obtain⟨t2,h2⟩:=w9 Q k 4 hk;have o1:IV R k=some (R.bg k):=by unfold IV;rw[if_pos (by rw[rk];exact Nat.succ_pos _)]
  have o2:IV Q k=some (Q.bg k):=by unfold IV;rw[if_pos (by omega)]
  rw[o1,BN]at h1;rw[o2]at h2;refine .inr (.inr (.inr ⟨aR.1,aR.2,hlen,(iP Q k).length,?_,fun i a b hi h3 h4=>?_,fun a b h3 h4=>?_⟩))
  .rw[h1,zzb,zzb];show _<_+(1+_);omega
  .rw[h1,zzp hi]at h3;rw[h2,zzp hi]at h4;rw[h3]at h4;exact Option.some.inj h4
  .rw[h1,zzo (zzd _),Nat.sub_self]at h3;rw[h2,zzo (zzd _),Nat.sub_self]at h4;have h3:R.bg k=a:=Option.some.inj h3;have h4:Q.bg k=b:=Option.some.inj h4;rw[<-h3,<-h4,rk,ha,pk];exact⟨rfl,by show (Q.bg k).fy+1≠(Q.bg k).fy;omega⟩
theorem xj{P Q:PB}{k:Nat}{a:Option iQ}(hs:bz P Q)(hk:k<8)(h:a.isSome≠(Q.au k).isSome):rN (P.aK k a) Q:=by
 refine .inl ?_;rw[yX,yX];have:=uB (f:=fun i=>if ((P.aK k a).au i).isSome=true then 1 else 0) (g:=fun i=>if (Q.au i).isSome=true then 1 else 0) 8 hk fun i hi ct=>by
  have e:(P.aK k a).au i=P.au i:=if_neg ct;rw[e];rcases hs.au i hi with⟨e1,e2⟩|⟨x,y,e1,e2,_⟩<;>rw[e1,e2];rfl
 have e:(P.aK k a).au k=a:=if_pos rfl;simp only[e]at this;intro q;rw[q]at this;cases h1:a.isSome<;>cases h2:(Q.au k).isSome<;>rw[h1,h2]at h this<;>first|exact absurd rfl h|(simp at this)
theorem Lf{P Q P':PB}{o:rP}(h:LU P o P')(hs:bz P Q)(hg:ew Q):rN P' Q:=by
 have hp:=(uP o.pub).2;rcases h with⟨hw,k,x,e1,e2,e3,e4,e5,rfl⟩|⟨hw,k,e1,e2,e3,e4,e5,rfl⟩|⟨hw,k,x,e1,e2,e3,rfl⟩|⟨hw,k,e1,e2,e3,e4,rfl⟩|⟨hw,k,e1,e2,e3,e4,rfl⟩
 .refine .inr (.inr (.inl ⟨k*16+zC o.pub,by omega,?_⟩));have h1:=hs.au k e2;rw[e3]at h1;obtain⟨y,h2,h3,h4,h5⟩:=h1.some;unfold jq;rw[if_pos (by omega),if_pos (by omega),show (k*16+zC o.pub) / 16=k by omega,show (k*16+zC o.pub)%16=zC o.pub by omega,h2];have e:(P.aK k (some ⟨x.cs,x.st,gl x.cur (zC o.pub:Nat) o.n⟩)).au k=some ⟨x.cs,x.st,gl x.cur (zC o.pub:Nat) o.n⟩:=if_pos rfl;rw[e];show jH _ _≠jH y _;rw[<-AH h4 h5];have:jH ⟨x.cs,x.st,gl x.cur (zC o.pub:Nat) o.n⟩ (zC o.pub:Nat)=o.n:=by
   unfold jH;show (match dg (gl x.cur _ _) _ with|some n=>n|none=>_)=_;rw[ej,if_pos rfl]
  rw[this];omega
 .refine xj hs e2 ?_;have h1:=hs.au k e2;rw[e3]at h1;rw[h1.none];simp
 .refine xj hs e2 ?_;have h1:=hs.au k e2;rw[e3]at h1;obtain⟨y,h2,_⟩:=h1.some;rw[h2];simp
 .exact A9 hs hg e2 _ _
 .exact A9 hs hg e2 _ _
structure yL(d:PD)(P:PB)(bs:List Nat)(rs:List Rec)(n:Option (List Nat×Nat)):Prop where
 ds:DS d bs bs.length n
 yU:Dl bs rs
 wr:∀r,r∈rs->fQ r
 pub:∀r,r∈rs->r.sort=5->r.pub<16
 DM:jC fF rs P
theorem yL.tQ{d:PD}{P:PB}{bs:List Nat}{rs:List Rec}{n:Option (List Nat×Nat)}(h:yL d P bs rs n):ew P:=h.DM.tQ vI h.wr h.pub
theorem AQ{rs:List Rec}(h:∀r,r∈rs->fQ r):mZ (aJ rs):=rE fun r hr=>HF (nz (h r hr).num)
theorem tB{rs:List Rec}(h:∀r,r∈rs->fQ r)(hl:rs.length<=400):Dl (aJ rs) rs:=⟨AQ h,by have:=jA rs;omega,xk h⟩
section
variable{S:AS}{D:Dk}{P:PB}{bs:List Nat}{rs:List Rec}{n:Option (List Nat×Nat)}
theorem yL.open(hD:aV S D)(h:yL D.pd P bs rs n)(dL:D.off=false)(hl:P.aC<=100000):∃(v:AV)(T:AS)(X:cT),(∀Q:AV->AS->Prop,ah C1 13 [.ptr D.dp 0 0 4] S Q=Q v T)/\LP S T D X P/\X.D.pd.q=D.pd.q /\
  ((v=.tuple [.ptr X.b 0 0 27,.int .i64 0]/\X.D.off=false/\X.cL=(iO X.pure).length/\X.cL<=141/\∃P' gJ,yL X.D.pd P' (aJ gJ) gJ none/\gJ.length=X.cL/\bz P' X.pure/\P'.aC=P.aC+1) \/
   (v=.tuple [.ck,.int .i64 7]/\X.D.off=false/\X.D.pd.q<4194304/\∃m,yL X.D.pd P bs rs m) \/
   (v=.tuple [.ck,.int .i64 8]/\X.D.off=true/\∃m,yL X.D.pd P bs rs m)):=by
 have hg:=h.tQ;have hg1:=hg.aC (P.aC+1);have hw:=NW hg1 (by show P.aC+1<=_;omega);have h141:=WV hg1;have vG:=jA (iO (P.cN (P.aC+1)));have xv:Reads D.pd rs:=⟨dL,.inr ⟨_,bs,h.ds.xD,rfl,h.yU⟩⟩
 obtain⟨v,T,⟨X,hO,h1,h2⟩,wQ⟩:=(S9 hD h.ds.ok xv h.wr h.DM (by omega) hg1.pbok (fun r hr=>(hw r hr).st8)).ex;have oI:=h.ds.write dL (xs:=aJ (iO (P.cN (P.aC+1)))) (AQ hw);have Ro:=hO.pd;have e:qZ P=aq (aJ (iO (P.cN (P.aC+1)))):=rfl;rw[e]at Ro h1 h2;have ho:∀{b:Bool},(dJ D.pd (aq (aJ (iO (P.cN (P.aC+1)))))).2.off=b->X.D.off=b:=fun {b} q=>by
  rw[<-Ro]at q;exact q
 rcases oI with⟨w1,w2,w3,w4⟩|⟨w1,w2,w3,⟨m,w4⟩,w5⟩|⟨w1,w2,w3,m,w4⟩
 .obtain⟨rfl,tM⟩:=h2 w1;obtain⟨Q,q1,q2,q3⟩:=WS hg1 (TQ (by show 1<=P.aC+1/\P.aC+1<=_;omega));refine⟨_,T,X,wQ,hO,by rw[Ro];exact w4,.inl ⟨rfl,ho w3,by rw[tM,hO.pure],by rw[tM];exact h141,Q,iO (P.cN (P.aC+1)),⟨by rw[Ro];exact w2,tB hw (by omega),hw,WT hg1,q1⟩,tM.symm,by rw[hO.pure];exact q2,q3⟩⟩
 .have hv:=h1 (by rw[w1];decide);rw[w1]at hv;subst hv;have h4:=h.yU.2.1;exact⟨_,T,X,wQ,hO,by rw[Ro];exact w3,.inr (.inl ⟨rfl,ho w2,by rw[Ro];omega,m,by rw[Ro];exact w4,h.yU,h.wr,h.pub,h.DM⟩)⟩
 .have hv:=h1 (by rw[w1];decide);rw[w1]at hv;subst hv;exact⟨_,T,X,wQ,hO,by rw[Ro];exact w3,.inr (.inr ⟨rfl,ho w2,m,by rw[Ro];exact w4,h.yU,h.wr,h.pub,h.DM⟩)⟩
theorem yL.done{d d':PD}{X P':PB}{E:PB->Prop}{e:Int}(h:yL d P (aJ rs) rs n)(dL:d.off=false)(hs:bz X P)(hk:∀Q,E Q->xO Q)(hl:rs.length<=390)(hd:I4 d X E e d' P'):
  ((∀Q,¬E Q)/\e≠0/\d'=d/\P'=X)\/∃Q,E Q/\((e=0/\d'.off=false/\P'=Q/\∃P2 gJ,yL d' P2 (aJ gJ) gJ n/\gJ.length=rs.length+1/\bz Q P2/\P2.aC=P.aC)\/(e=7/\d'=d/\P'=X) \/
   (e=8/\d'.off=true/\P'=X/\(yL d' P (aJ rs) rs n\/∃r P2,fQ r/\DS d' (aJ rs++di (cX r)) (aJ rs).length n/\um P r P2/\P2.aC=P.aC/\(r.sort=5->r.pub<16)/\bz Q P2))):=by
 rcases hd with⟨hc,he,h1,h2⟩|⟨r,Q,hE,jl,hw,hp,h1,h2,h3⟩
 .exact .inl ⟨hc,he,h1,h2⟩
 .refine .inr ⟨Q,hE,?_⟩;obtain⟨P2,p1,p2,p3⟩:=hp.same hs;have Zn:r.sort=5->r.pub<16:=fun q=>SM hp (hk Q hE) q;have hrb:mZ (di (cX r)):=HF (nz hw.num);have hfa:=HR rs r;have xV:∀x,x∈rs++[r]->fQ x:=fun x hx=>by
   rcases List.mem_append.1 hx with hx|hx
   .exact h.wr x hx
   .rw[zzc]at hx;rw[hx];exact hw
  have Ve:=h.ds.chg dL hrb;rw[h1]at Ve;rcases Ve with⟨c1,c2,c3⟩|⟨c1,c2⟩|⟨c1,c2,c3⟩
  .have c1:e=0:=c1;refine .inl ⟨c1,c2,h3 c1,P2,rs++[r],⟨by rw[hfa];exact c3,tB xV (by simp;omega),xV,fun x hx=>?_,h.DM.append (.cons p1 (.nil _))⟩,by simp,p2,p3 jl⟩;rcases List.mem_append.1 hx with hx|hx
   .exact h.pub x hx
   .rw[zzc]at hx;rw[hx];exact Zn
  .have c1:e=7:=c1;exact .inr (.inl ⟨c1,c2,h2 (by rw[c1];decide)⟩)
  .have c1:e=8:=c1;refine .inr (.inr ⟨c1,c2,h2 (by rw[c1];decide),?_⟩);rcases c3 with c3|c3
   .exact .inl ⟨c3,h.yU,h.wr,h.pub,h.DM⟩
   .exact .inr ⟨r,P2,hw,c3,p1,p3 jl,Zn,p2⟩
theorem yL.oN{D:Dk}{picks flips:List Nat}(h:yL D.pd P bs rs n)(hf:∀c,c∈flips->c<256){d':PD}(hd:d'=PD.fj picks flips D.sorted 0 {D.pd with off:=false,bq:=-1}):(∃m,yL d' P bs rs m)/\d'.off=false/\d'.bq=-1/\d'.q=D.pd.q:=by
 obtain⟨⟨m,h1⟩,h2⟩:=h.ds.oN picks hf hd;have e:kM picks flips 0 bs bs.length=bs:=if_pos rfl;rw[e]at h1;exact⟨⟨m,h1,h.yU,h.wr,h.pub,h.DM⟩,h2⟩
theorem Jx{D:Dk}{picks flips:List Nat}{r:Rec}{P2:PB}(h:DS D.pd (aJ rs++di (cX r)) (aJ rs).length n)(hf:∀c,c∈flips->c<256)(hw:∀r,r∈rs->fQ r)(hp:∀r,r∈rs->r.sort=5->r.pub<16)(kS:jC fF rs P)(hr:fQ r)(hrp:r.sort=5->r.pub<16)(hdo:um P r P2)(hl:rs.length<=390)
  {d':PD} (hd:d'=PD.fj picks flips D.sorted 0 {D.pd with off:=false,bq:=-1}):(∃b' m,yL d' P b' rs m\/yL d' P2 b' (rs++[r]) m)/\d'.off=false/\d'.bq=-1/\d'.q=D.pd.q:=by
  obtain⟨⟨m,h1⟩,h2⟩:=h.oN picks hf hd;have mO:=oq hr;have vG:(di (cX r)).length=(cX r).length+8:=by unfold di;rw[if_pos (by omega),pQ]
  have e:kM picks flips 0 (aJ rs++di (cX r)) (aJ rs).length=gX picks flips 0 (aJ rs++di (cX r)) (aJ rs).length:=if_neg (by rw[zzb];omega);rw[e]at h1;obtain⟨k,hk,e2⟩:=Ll (aJ rs) (di (cX r)) picks flips;rw[e2]at h1;have hfb:=jA rs;have KP:(jK (di (cX r)) k flips[0]?).length<=2056:=by
   have h3:((di (cX r)).take k).length<=2056:=by rw[zzg];omega
   unfold jK;split
   .split
    .rw[rK];exact h3
    .exact h3
   .exact h3
  refine⟨⟨aJ rs++jK (di (cX r)) k flips[0]?,m,?_⟩,h2⟩;have hb:=h1.Iz;have hlen:(aJ rs++jK (di (cX r)) k flips[0]?).length<=1000000:=by rw[zzb];omega
  rcases Jw hr hk flips[0]? with q|q
  .exact .inl ⟨h1,⟨hb,hlen,by rw[OA hw,q,zzn]⟩,hw,hp,kS⟩
  .have xV:∀x,x∈rs++[r]->fQ x:=fun x hx=>by
    rcases List.mem_append.1 hx with hx|hx
    .exact hw x hx
    .rw[zzc]at hx;rw[hx];exact hr
   refine .inr ⟨h1,⟨hb,hlen,?_⟩,xV,fun x hx=>?_,kS.append (.cons hdo (.nil _))⟩
   .rw[q,<-HR];exact xk xV
   .rcases List.mem_append.1 hx with hx|hx
    .exact hp x hx
    .rw[zzc]at hx;rw[hx];exact hrp
end
def oP(P:PB):Nat:=((zza 8).map fun i=>sV (P.au i)).sum+((zza 4).map fun k=>oQ (P.bg k)).sum
theorem HO{f g:Nat->Bool}{a:Nat}(h:∀k,k≠a->f k=g k):∀n,((zza n).filter f).length<=((zza n).filter g).length+(if a<n then 1 else 0)
 |0=>Nat.zero_le _
 |n+1=>by
  have ih:=HO h n;rw[zze,List.filter_append,List.filter_append,zzb,zzb];by_cases e:n=a
  .subst e;rw[if_neg (Nat.lt_irrefl _)]at ih;rw[if_pos (Nat.lt_succ_self _)];have h1:=List.length_filter_le f [n];simp only[List.length_cons,List.length_nil]at h1;omega
  .have e2:[n].filter f=[n].filter g:=by simp[List.filter_cons,h n e]
   rw[e2];have:(if a<n then 1 else 0)<=if a<n+1 then 1 else 0:=by split<;>split<;>omega
   omega
theorem EN{P:PB}{k:Nat}(hk:k<8){a:Option iQ}(h:sV a<=sV (P.au k)+1):oP (P.aK k a)<=oP P+1:=by
 have:=uB (f:=fun i=>sV ((P.aK k a).au i)) (g:=fun i=>sV (P.au i)) 8 hk fun i hi ct=>by
  have e:(P.aK k a).au i=P.au i:=if_neg ct;rw[e]
 have e:(P.aK k a).au k=a:=if_pos rfl;simp only[e]at this;unfold oP;show _+((zza 4).map fun k=>oQ (P.bg k)).sum<=_;omega
theorem Wi{P:PB}{k:Nat}(hk:k<4)(a:IY):oP (P.dV k a)<=oP P+1:=by
 have:=uB (f:=fun i=>oQ ((P.dV k a).bg i)) (g:=fun i=>oQ (P.bg i)) 4 hk fun i hi ct=>by
  have e:(P.dV k a).bg i=P.bg i:=if_neg ct;rw[e]
 have e:oQ ((P.dV k a).bg k)<=1:=by unfold oQ;split<;>omega
 unfold oP;show ((zza 8).map fun i=>sV (P.au i)).sum+_<=_;omega
theorem Ny{P P':PB}{o:rP}(h:LU P o P'):oP P'<=oP P+1:=by
 rcases h with⟨hw,k,x,e1,e2,e3,e4,e5,rfl⟩|⟨hw,k,e1,e2,e3,e4,e5,rfl⟩|⟨hw,k,x,e1,e2,e3,rfl⟩|⟨hw,k,e1,e2,e3,e4,rfl⟩|⟨hw,k,e1,e2,e3,e4,rfl⟩
 .refine EN e2 ?_;rw[e3];have:=HO (f:=fun k:Nat=>(dg (gl x.cur (zC o.pub:Nat) o.n) (k:Nat)).isSome) (g:=fun k:Nat=>(dg x.cur (k:Nat)).isSome) (a:=zC o.pub) (fun j hj=>by rw[ej,if_neg (by omega)]) 16;have c1:sV (some (⟨x.cs,x.st,gl x.cur (zC o.pub:Nat) o.n⟩:iQ))=1+((zza 16).filter fun k:Nat=>(dg (gl x.cur (zC o.pub:Nat) o.n) (k:Nat)).isSome).length:=rfl;have c2:sV (some x)=1+((zza 16).filter fun k:Nat=>(dg x.cur (k:Nat)).isSome).length:=rfl;rw[c1,c2];have h1:(if zC o.pub<16 then 1 else 0)<=1:=by split<;>omega
  omega
 .refine EN e2 ?_;have:sV (some ⟨o.cs.map bare,o.st,[]⟩)=1:=by unfold sV;simp[dg]
  omega
 .refine EN e2 ?_;show 0<=_;exact Nat.zero_le _
 .exact Wi e2 _
 .exact Wi e2 _
theorem oO{P Q:PB}(h:bz P Q):oP P=oP Q:=Sh h
theorem jaO{P:PB}(h:ew P):(iO P).length=1+oP P:=NU h
section
variable{S T:AS}{X:cT}{P Q:PB}{H H':HdX}
theorem iB(h:bG S X):∃(H:HdX)(T:AS),(∀R:AV->AS->Prop,ah C1 8 [.ptr X.b 0 0 27] S R=R (.agg (lq H.sw H.aw H.f)) T)/\Sub S T/\jaS T S.nx H/\I0 X.pure H:=by
 obtain⟨_,T,⟨u,H,rfl,c1,c2⟩,e⟩:=(jdS h).ex;exact⟨H,T,e,u,c1,c2⟩
structure HdQ(S:AS)(H:HdX):Prop where
 Fv:Ql ma.c 3 ma.ok S H.sw H.L
 bg:Ql iS.c 4 iS.ok S H.aw H.A
theorem jaS.q{lo:Nat}(h:jaS S lo H):HdQ S H:=⟨h.Fv.ql,h.bg.ql⟩
theorem HdQ.sub(h:HdQ S H)(hs:Sub S T):HdQ T H:=⟨h.Fv.subS hs,h.bg.kX hs⟩
theorem I0.lens(h:I0 P H):H.L.length<=8/\H.A.length<=4/\H.L.length=(jx P 8).length/\H.A.length=(iP P 4).length:=by
 have h1:=congrArg List.length h.Fv;have h2:=congrArg List.length h.bg;rw[List.length_map]at h1 h2;have:=Cj P 8;have:=IU P 4;omega
theorem ko(h:HdQ S H)(h':HdQ S H')(c:I0 P H)(c':I0 Q H')(hs:bz P Q):∃U,(∀R:AV->AS->Prop,ah C1 10 [.agg (lq H.sw H.aw H.f),.agg (lq H'.sw H'.aw H'.f)] S R=R (.bool true) U)/\Sub S U:=by
 obtain⟨s1,s2,s3⟩:=vP hs;obtain⟨l1,l2,l3,l4⟩:=c.lens;obtain⟨m1,m2,m3,m4⟩:=c'.lens;have hf:H.f=H'.f:=by rw[c.cur,c'.cur,s3]
 have hA:H.A.map iS.pure=H'.A.map iS.pure:=by rw[c.bg,c'.bg,s2]
 rw[<-hf];obtain⟨_,U,⟨u,rfl⟩,e⟩:=(NX (f:=H.f) h.Fv h'.Fv h.bg h'.bg (by rw[c.Fv,c'.Fv,s1]) (m:=H.A.length) (zzd _) (by rw[l4,m4,s2]) (fun i a b _ ha hb=>by
  obtain⟨y,hy,Nk⟩:=D9 hA ha;rw[hb]at hy;cases hy;exact Nk) (fun a b ha _=>by rw[List.getElem?_eq_none (zzd _)]at ha;cases ha) l1 l2).ex
 rw[decide_eq_true rfl]at e;exact⟨U,e,u⟩
theorem F0(h:HdQ S H)(h':HdQ S H')(c:I0 P H)(c':I0 Q H')(hs:rN P Q):∃U,(∀R:AV->AS->Prop,ah C1 10 [.agg (lq H.sw H.aw H.f),.agg (lq H'.sw H'.aw H'.f)] S R=R (.bool false) U)/\Sub S U:=by
 obtain⟨l1,l2,l3,l4⟩:=c.lens;obtain⟨m1,m2,m3,m4⟩:=c'.lens;have one:(H'.L.length≠H.L.length\/H'.A.length≠H.A.length\/∃j,j<128/\H.f j≠H'.f j)->∃U,(∀R:AV->AS->Prop,ah C1 10 [.agg (lq H.sw H.aw H.f),.agg (lq H'.sw H'.aw H'.f)] S R=R (.bool false) U)/\Sub S U:=fun hd=>by
  obtain⟨_,U,⟨u,rfl⟩,e⟩:=(RQ h.Fv h'.Fv h.bg h'.bg hd).ex;exact⟨U,e,u⟩
 rcases hs with q|q|q|⟨q1,q2,q3,m,q4,q5,q6⟩
 .exact one (.inl (by omega))
 .exact one (.inr (.inl (by omega)))
 .exact one (.inr (.inr (by rw[c.cur,c'.cur];exact q)))
 .have hf:H.f=H'.f:=by rw[c.cur,c'.cur,q2]
  have gA:∀i(a:iS),H.A[i]?=some a->(iP P 4)[i]?=some a.pure:=fun i a ha=>by rw[<-c.bg,List.getElem?_map,ha];rfl
  have gB:∀i(a:iS),H'.A[i]?=some a->(iP Q 4)[i]?=some a.pure:=fun i a ha=>by rw[<-c'.bg,List.getElem?_map,ha];rfl
  rw[<-hf];obtain⟨_,U,⟨u,rfl⟩,e⟩:=(NX (f:=H.f) h.Fv h'.Fv h.bg h'.bg (by rw[c.Fv,c'.Fv,q1]) (m:=m) (by omega) (by rw[l4,m4,q3]) (fun i a b hi ha hb=>q5 i _ _ hi (gA i a ha) (gB i b hb)) (fun a b ha hb=>q6 _ _ (gA m a ha) (gB m b hb)) l1 l2).ex;rw[decide_eq_false (by omega)]at e;exact⟨U,e,u⟩
end
theorem jar{d:PD}(h:d.bq<0):d.bM=(0,d):=by
 unfold PD.bM;rw[if_neg (by omega),if_neg (by omega)]
theorem Te{d:PD}{es:List Int}{k:PD->PD}(h:d.bq<0)(he:aS es=0):d.on es k=(0,k d):=by
 unfold PD.on PD.bf;simp only[he,if_true,jar h]
theorem uS{d:PD}{es:List Int}{k:PD->PD}(h:d.bq<0)(hk:(k d).off=d.off/\(k d).bq=d.bq):(d.on es k).2.off=d.off/\(d.on es k).2.bq=d.bq:=by
 rcases qY d es k with⟨_,q⟩|⟨q1,_⟩
 .rw[q];exact⟨rfl,rfl⟩
 .rw[Te h q1];exact hk
theorem Yr{d:PD}(h:d.bq<0)(bs:List AV)(i:Nat):(rY bs i d).2.off=d.off/\(rY bs i d).2.bq=d.bq:=by
 unfold rY;split
 .exact uS h ⟨rfl,rfl⟩
 .exact uS h ⟨rfl,rfl⟩
 .refine uS h ?_;split<;>exact⟨rfl,rfl⟩
 .refine uS h ?_;split<;>exact⟨rfl,rfl⟩
 .refine uS h ?_;split
  .rename_i f _;have hm:(d.mv f aM).off=d.off/\(d.mv f aM).bq=d.bq:=by
    unfold PD.mv;split<;>exact⟨rfl,rfl⟩
   exact hm
  .exact⟨rfl,rfl⟩
theorem GA(bs:List AV):∀(l:List Nat){d:PD},d.bq<0->(iV bs l d).2.off=d.off/\(iV bs l d).2.bq=d.bq
 |[],d,_=>⟨rfl,rfl⟩
 |i::l,d,h=>by
  obtain⟨h1,h2⟩:=Yr h bs i;rw[kA];split
  .obtain⟨h3,h4⟩:=GA bs l (d:=(rY bs i d).2) (by omega);exact⟨h3.trans h1,h4.trans h2⟩
  .exact⟨h1,h2⟩
theorem Jk{d:PD}(h:d.bq<0)(bs:List AV):(dJ d bs).2.off=d.off/\(dJ d bs).2.bq=d.bq:=GA bs _ h
theorem Wk{d:PD}{bs xs:List Nat}(h:DS d bs bs.length none)(dL:d.off=false)(hf:d.bq<0)(hl:bs.length+xs.length<=d.q):(oR d (aq xs)).1=0/\(oR d (aq xs)).2.bq<0/\(oR d (aq xs)).2.q=d.q:=by
 have e0:oR d (aq xs)=if (d.append aM (aq xs)).1=0 then (d.append aM (aq xs)).2.sync aM else d.append aM (aq xs):=rfl
 have KQ:d.av aM=0:=by unfold PD.av PD.has;rw[Ky,h.xD];rfl
 have hu:d.used=bs.length:=h.used;have Hy:d.fc (aq xs).length=0:=by
  unfold PD.fc;rw[hu,aA,if_neg (by omega)]
 have e1:d.append aM (aq xs)=(0,d.put ⟨aM,aq bs++aq xs,bs.length⟩):=by
  unfold PD.append;rw[Te hf (by rw[EF (nO dL) KQ];exact Hy),h.xD]
 obtain⟨d1,KX⟩:∃d1,d1=d.put ⟨aM,aq bs++aq xs,bs.length⟩:=⟨_,rfl⟩
 have f1:d1.bq<0:=by rw[KX];exact hf
 have o1:d1.off=false:=by rw[KX];exact dL
 have q1:d1.q=d.q:=by rw[KX];rfl
 have k1:d1.file aM=some ⟨aM,aq bs++aq xs,bs.length⟩:=by
  rw[KX];unfold PD.put PD.file;rw[h.fs];simp[gO]
 have t1:d1.av aM=0:=by unfold PD.av PD.has;rw[Ky,k1];rfl
 have e2:d1.sync aM=(0,d1.put ⟨aM,aq bs++aq xs,(aq bs++aq xs).length⟩):=by
  unfold PD.sync;rw[Te f1 (by rw[Aw (nO o1)];exact t1),k1]
 rw[e0,e1,<-KX];simp only[if_true,e2];exact⟨trivial,f1,q1⟩
theorem I4.tQ{d d':PD}{P P':PB}{E:PB->Prop}{e:Int}(h:I4 d P E e d' P')(hg:ew P)(hk:∀Q,E Q->xO Q):ew P':=by
 rcases h with⟨_,_,_,h⟩|⟨r,Q,hE,_,hw,hp,_,h2,h3⟩
 .rw[h];exact hg
 .by_cases e0:e=0
  .rw[h3 e0];exact hg.do hp hw fun q=>SM hp (hk Q hE) q
  .rw[h2 e0];exact hg
structure xN(S:AS)(c:Nat)(D:Dk)(Y:cT)(S':AS):Prop where
 iE:aV S' D
 y:bG S' Y
 FI:∃PY rsY,yL Y.D.pd PY (aJ rsY) rsY none/\bz Y.pure PY/\rsY.length<=c+1
 FL:Y.D.off=false
 Cg:Y.D.pd.bq<0
 yq:Y.D.pd.q=1048576
 FJ:Y.cL<=c+1
 uy:ew Y.pure
 own:∀id,D.aU id->S.nx<=id
 FK:∀id,Y.wf id->S.nx<=id
 apart:∀id,D.aU id->¬Y.wf id/\¬Y.rf id
 sub:Sub S S'
structure nE(S:AS)(c l:Nat)(D:Dk)(P:PB)(bs:List Nat)(rs:List Rec)(Y:cT)(S':AS):Prop where
 w:xN S c D Y S'
 Mj:∃n,yL D.pd P bs rs n
 aC:P.aC=l
 FG:oP P<=c
 I9:rs.length<=c+1
structure vD(S:AS)(c:Nat)(X:cT)(P:PB)(bs:List Nat)(rs:List Rec)(Y:cT)(S':AS):Prop where
 at_:bG S' X
 same:bz X.pure P
 aC:X.aC=P.aC
 tQ:ew X.pure
 bs:bs=aJ rs
 cL:X.cL<=c+1
 wf:∀id,X.wf id->S.nx<=id/\¬Y.wf id/\¬Y.rf id
 rf:∀id,X.rf id->¬Y.wf id
section
variable{S S' T:AS}{c l:Nat}{D:Dk}{P:PB}{bs:List Nat}{rs:List Rec}{X Y:cT}
theorem xN.to(h:xN S c D Y S')(hs:Sub S' T):xN S c D Y T:=⟨h.iE.sub hs,h.y.toSub hs,h.FI,h.FL,h.Cg,h.yq,h.FJ,h.uy,h.own,h.FK,h.apart,h.sub.trans hs⟩
theorem nE.to(h:nE S c l D P bs rs Y S')(hs:Sub S' T):nE S c l D P bs rs Y T:=⟨h.w.to hs,h.Mj,h.aC,h.FG,h.I9⟩
theorem vD.to(h:vD S c X P bs rs Y S')(hs:Sub S' T):vD S c X P bs rs Y T:=⟨h.at_.toSub hs,h.same,h.aC,h.tQ,h.bs,h.cL,h.wf,h.rf⟩
theorem nE.open(h:nE S c l D P bs rs Y S')(dL:D.off=false)(hl:l<=1000):∃(v:AV)(T:AS)(X:cT),(∀Q:AV->AS->Prop,ah C1 13 [.ptr D.dp 0 0 4] S' Q=Q v T)/\X.D.dp=D.dp/\nF D X.D S' T/\(D.pd.bq<0->X.D.off=false/\X.D.pd.bq<0) /\
  ((v=.tuple [.ptr X.b 0 0 27,.int .i64 0]/\X.D.off=false/\∃P' gJ,nE S c (l+1) X.D P' (aJ gJ) gJ Y T/\vD S c X P' (aJ gJ) gJ Y T/\gJ.length=X.cL/\bz P P') \/
   (v=.tuple [.ck,.int .i64 7]/\X.D.off=false/\X.D.pd.q<4194304/\D.pd.q=X.D.pd.q/\nE S c l X.D P bs rs Y T) \/
   (v=.tuple [.ck,.int .i64 8]/\X.D.off=true/\nE S c l X.D P bs rs Y T)):=by
 obtain⟨n,xX⟩:=h.Mj;obtain⟨v,T,X,wQ,hO,hq,hc⟩:=xX.open h.w.iE dL (by rw[h.aC];omega);have hkY:∀id,id<S'.nx->Y.wf id\/Y.rf id->T.h.get id=S'.h.get id:=fun id hi hw=>hO.ca id hi fun hf=>by
  obtain⟨a1,a2⟩:=h.w.apart id hf;exact hw.elim a1 a2
 have yT:bG T Y:=h.w.y.Fi hkY hO.nx;have jdL:∀id,X.wf id->S.nx<=id/\¬Y.wf id/\¬Y.rf id:=fun id hw=>by
  by_cases hi:id<S'.nx
  .have hf:=hO.aU id hi hw;exact⟨h.w.own id hf,h.w.apart id hf⟩
  .have:=h.w.sub.nx;exact⟨by omega,fun q=>hi (h.w.y.tj q),fun q=>hi (h.w.y.rlt q)⟩
 have hsT:Sub S T:=⟨fun id hi=>(hO.ca id (by have:=h.w.sub.nx;omega) fun hf=>by have:=h.w.own id hf;omega).trans (h.w.sub.h id hi),zzj h.w.sub.nx hO.nx⟩
 have base:∀{l':Nat}{P':PB}{Jj:List Nat}{gJ:List Rec},(∃m,yL X.D.pd P' Jj gJ m)->P'.aC=l'->oP P'<=c->gJ.length<=c+1->nE S c l' X.D P' Jj gJ Y T:=fun h1 h2 h3 h4=>
  ⟨⟨hO.at_.iE,yT,h.w.FI,h.w.FL,h.w.Cg,h.w.yq,h.w.FJ,h.w.uy,fun id hf=>(jdL id (.inr (.inl hf))).1,h.w.FK,fun id hf=>(jdL id (.inr (.inl hf))).2,hsT⟩,h1,h2,h3,h4⟩
 have Af:=hO.pure;have jbm:bz P X.pure:=by rw[Af];exact⟨(bz.refl P).au,(bz.refl P).bg⟩
 refine⟨v,T,X,wQ,hO.dp,⟨hO.ca,hO.nx,fun id hi hf=>hO.aU id hi (.inr (.inl hf))⟩,fun hf=>by
  obtain⟨a1,a2⟩:=Jk hf (qZ P);rw[<-hO.pd]at a1 a2;exact⟨a1.trans dL,by omega⟩,?_⟩
 rcases hc with⟨rfl,c1,c2,c3,P',gJ,c4,c5,c6,c7⟩|⟨rfl,c1,c2,m,c3⟩|⟨rfl,c1,m,c3⟩
 .have hg1:ew X.pure:=by rw[Af];exact xX.tQ.aC _
  have aF:oP X.pure=oP P:=(oO jbm).symm;have Fy:X.cL<=c+1:=by
   have:=h.FG;rw[c2,jaO hg1,aF];omega
  have hcp:oP P'=oP X.pure:=oO c6;exact .inl ⟨rfl,c1,P',gJ,base ⟨_,c4⟩ (by rw[c7,h.aC]) (by have:=h.FG;omega) (by omega),⟨hO.at_,c6.symm,by
   have:X.pure.aC=P.aC+1:=by rw[Af];rfl
   rw[c7];exact this,hg1,rfl,Fy,jdL,fun id hr hw=>by
   have h1:=hO.Ya id hr;have h2:=h.w.y.tj hw;omega⟩,c5,jbm.trans c6.symm⟩
 .exact .inr (.inl ⟨rfl,c1,c2,hq.symm,base ⟨m,c3⟩ h.aC h.FG h.I9⟩)
 .exact .inr (.inr ⟨rfl,c1,base ⟨m,c3⟩ h.aC h.FG h.I9⟩)
theorem xN.onD(h:xN S c D Y S'){D':Dk}(hd:aV T D')(he:nF D D' S' T):xN S c D' Y T:=by
 have hn:=h.sub.nx;have hf:∀id,D'.aU id->S.nx<=id/\¬Y.wf id/\¬Y.rf id:=fun id hf=>by
  by_cases hi:id<S'.nx
  .have:=he.aU id hi hf;exact⟨h.own id this,h.apart id this⟩
  .exact⟨by omega,fun q=>hi (h.y.tj q),fun q=>hi (h.y.rlt q)⟩
 exact⟨hd,h.y.Fi (fun id hi hw=>he.ca id hi fun hf=>by
  obtain⟨a1,a2⟩:=h.apart id hf;exact hw.elim a1 a2) he.nx,h.FI,h.FL,h.Cg,h.yq,h.FJ,h.uy,fun id q=>(hf id q).1,h.FK,fun id q=>(hf id q).2,
  ⟨fun id hi=>(he.ca id (by omega) fun hf=>by have:=h.own id hf;omega).trans (h.sub.h id hi),zzj hn he.nx⟩⟩
theorem yx{X:cT}{o:rP}(hg:ew X.pure):∀Q,W6 X o Q->xO Q:=fun Q h=>by
 have hk:xO X.pure:=fun i x hi hx t ht=>((hg.au i x hi hx).cur t ht).2.1;exact (Yq h hk).1
theorem xN.doY(h:xN S c D Y S')(hc:c<=60){o:rP}(ho:LQ S' o)(hw:0<=o.gI/\o.gI<=5)(Rn:∀i,aW o.p o.cs i->i<S.nx){Q:PB}(hE:LU Y.pure o Q):
  ∃(T:AS)(Y':cT),(∀R:AV->AS->Prop,ah C1 9 [.ptr Y.b 0 0 27,.agg o.c] S' R=R (.int .i64 0) T)/\xN S (c+1) D Y' T/\Y'.b=Y.b/\Y'.pure=Q/\(∀{X:cT}{P:PB}{bs:List Nat}{rs:List Rec}{c':Nat},vD S c' X P bs rs Y S'->vD S c' X P bs rs Y' T):=by
 obtain⟨PY,rsY,xX,Ek,mO⟩:=h.FI;have qu:=h.FJ;obtain⟨v,T,⟨e,Y',rfl,r1,r2,r3,r4,r5,r6⟩,e9⟩:=(do9 h.y xX.ds.ok (by omega) ho hw (fun i hi Jc=>by have:=h.FK i Jc;have:=Rn i hi;omega)).ex;have hE2:W6 Y o Q:=Qp.2 hE;have Hx:ew Y'.pure:=r5.tQ h.uy (yx h.uy);have hk:=yx (o:=o) h.uy;have vG:=jA rsY;have hz:e=0/\Y'.D.pd.bq<0/\Y'.D.pd.q=1048576:=by
  rcases r5 with⟨q,_⟩|⟨r,Q1,q1,q2,q3,q4,q5,_⟩
  .exact absurd hE2 (q Q)
  .have hrl2:=vf (cX r);obtain⟨a1,a2,a3⟩:=Wk xX.ds h.FL h.Cg (xs:=di (cX r)) (by rw[h.yq];omega);rw[q5]at a1 a2 a3;exact⟨a1,a2,a3.trans h.yq⟩
 obtain⟨rfl,PV,hz3⟩:=hz;have hn:=h.sub.nx;have cQ:∀id,id<S'.nx->Y'.wf id\/Y'.rf id->Y.wf id\/Y.rf id:=fun id hi q=>q.elim (fun q=>.inl (r2.aU id hi q)) fun q=>.inr (r2.Ya id hi q);have hap:∀id,id<S'.nx->¬Y.wf id->¬Y.rf id->¬Y'.wf id/\¬Y'.rf id:=fun id hi a1 a2=>⟨fun q=>a1 (r2.aU id hi q),fun q=>a2 (r2.Ya id hi q)⟩
 obtain⟨hpq,tM⟩:Y'.pure=Q/\Y'.cL=Y.cL+1:=by
  rcases r4 with⟨q,_⟩|⟨_,q1,q2⟩
  .exact absurd rfl q
  .exact⟨Z9 (Qp.1 q1) hE,q2⟩
 refine⟨T,Y',e9,⟨h.iE.agree (fun id hf=>r2.ca id (h.iE.lt hf) (h.apart id hf).1) r2.nx,r1,?_,?_,PV,hz3,by omega,Hx,h.own,fun id hw=>?_,fun id hf=>hap id (h.iE.lt hf) (h.apart id hf).1 (h.apart id hf).2,⟨fun id hi=>(r2.ca id (by omega) fun hw=>by have:=h.FK id hw;omega).trans (h.sub.h id hi),zzj hn r2.nx⟩⟩,r2.b,hpq,fun {X P bs rs c'} hL=>?_⟩
 .rcases xX.done h.FL Ek hk (by omega) r5 with⟨_,q,_⟩|⟨Q1,q1,⟨_,_,q2,P2,gJ,q3,q4,q5,_⟩|⟨q,_⟩|⟨q,_⟩⟩
  .exact absurd rfl q
  .exact⟨P2,gJ,q3,by rw[q2];exact q5,by omega⟩
  .exact absurd q (by decide)
  .exact absurd q (by decide)
 .rcases xX.done h.FL Ek hk (by omega) r5 with⟨_,q,_⟩|⟨Q1,q1,⟨_,q2,_⟩|⟨q,_⟩|⟨q,_⟩⟩
  .exact absurd rfl q
  .exact q2
  .exact absurd q (by decide)
  .exact absurd q (by decide)
 .by_cases hi:id<S'.nx
  .exact h.FK id (r2.aU id hi hw)
  .omega
 .refine⟨hL.at_.Fi (fun id hi hw=>r2.ca id hi ?_) r2.nx,hL.same,hL.aC,hL.tQ,hL.bs,hL.cL,fun id hw=>?_,fun id hr hw=>?_⟩
  .rcases hw with hw|hw
   .exact (hL.wf id hw).2.1
   .exact hL.rf id hw
  .obtain⟨a1,a2,a3⟩:=hL.wf id hw;exact⟨a1,hap id (hL.at_.tj hw) a2 a3⟩
  .exact hL.rf id hr (r2.aU id (hL.at_.rlt hr) hw)
theorem xN.doX(h:xN S c X.D Y S')(hL:vD S c X P bs rs Y S')(m9:X.D.pd.ok)(hc:c<=60){o:rP}(ho:LQ S' o)(hw:0<=o.gI/\o.gI<=5)(Rn:∀i,aW o.p o.cs i->i<S.nx):
  ∃(e:Int)(T:AS)(X':cT),(∀R:AV->AS->Prop,ah C1 9 [.ptr X.b 0 0 27,.agg o.c] S' R=R (.int .i64 e) T)/\xN S c X'.D Y T/\X'.b=X.b/\X'.D.dp=X.D.dp/\bG T X'/\ew X'.pure/\I4 X.D.pd X.pure (W6 X o) e X'.D.pd X'.pure/\((e≠0/\X'.pure=X.pure/\X'.cL=X.cL)\/(e=0/\LU X.pure o X'.pure/\X'.cL=X.cL+1)) /\
   (∀id,X'.wf id->S.nx<=id/\¬Y.wf id/\¬Y.rf id)/\(∀id,X'.rf id->¬Y.wf id)/\(∀id,id<S'.nx->¬X.wf id->T.h.get id=S'.h.get id)/\S'.nx<=T.nx/\(∀id,id<S'.nx->X'.wf id->X.wf id):=by
 have Fy:=hL.cL;obtain⟨v,T,⟨e,X',rfl,r1,r2,r3,r4,r5,r6⟩,e9⟩:=(do9 hL.at_ m9 (by omega) ho hw (fun i hi Jc=>by have:=(hL.wf i Jc).1;have:=Rn i hi;omega)).ex;have hn:=h.sub.nx;have Jc:∀id,X'.wf id->S.nx<=id/\¬Y.wf id/\¬Y.rf id:=fun id hw=>by
  by_cases hi:id<S'.nx
  .exact hL.wf id (r2.aU id hi hw)
  .exact⟨by omega,fun q=>hi (h.y.tj q),fun q=>hi (h.y.rlt q)⟩
 refine⟨e,T,X',e9,⟨r1.iE,h.y.Fi (fun id hi hw=>r2.ca id hi fun q=>?_) r2.nx,h.FI,h.FL,h.Cg,h.yq,h.FJ,h.uy,fun id hf=>(Jc id (.inr (.inl hf))).1,h.FK,fun id hf=>(Jc id (.inr (.inl hf))).2,⟨fun id hi=>(r2.ca id (by omega) fun hw=>by have:=(hL.wf id hw).1;omega).trans (h.sub.h id hi),zzj hn r2.nx⟩⟩,r2.b,r6,r1,r5.tQ hL.tQ (yx hL.tQ),r5,?_,Jc,fun id hr hw=>?_,r2.ca,r2.nx,r2.aU⟩
 .obtain⟨a1,a2,a3⟩:=hL.wf id q;exact hw.elim a2 a3
 .rcases r4 with q|⟨q1,q2,q3⟩
  .exact .inl q
  .exact .inr ⟨q1,Qp.1 q2,q3⟩
 .by_cases hi:id<S'.nx
  .exact hL.rf id (r2.Ya id hi hr) hw
  .exact hi (h.y.tj hw)
end
structure OpL(S:AS)(o:rP)(picks flips:List Nat):Prop where
 op:LQ S o
 kv:Sl S o.kv 1 (Oo picks)
 kb:aE o.kv<=S.nx
 tv:Sl S o.tv 1 (aq flips)
 tb:aE o.tv<=S.nx
 pl:∀p,p∈picks->p<65536
 fl:∀c,c∈flips->c<256
 aU:∀i,aW o.p o.cs i->i<S.nx
section
variable{S S' T:AS}{c l:Nat}{D:Dk}{P:PB}{bs:List Nat}{rs:List Rec}{X Y:cT}{o:rP}{picks flips:List Nat}
theorem V2{P P':PB}{o:rP}(h:LU P o P'):P'.aC=P.aC:=by
 rcases h with⟨_,k,x,_,_,_,_,_,rfl⟩|⟨_,k,_,_,_,_,_,rfl⟩|⟨_,k,x,_,_,_,rfl⟩|⟨_,k,_,_,_,_,rfl⟩|⟨_,k,_,_,_,_,rfl⟩<;>rfl
theorem KE{D:Dk}(h:D.pd.fs.length<=2):D.fs.length<=1048576:=by
 have e:D.pd.fs.length=D.fs.length:=List.length_map _;omega
theorem xN.up(h:xN S c D Y S'):xN S (c+1) D Y S':=by
 obtain⟨PY,rsY,a,b,d⟩:=h.FI;exact⟨h.iE,h.y,⟨PY,rsY,a,b,by omega⟩,h.FL,h.Cg,h.yq,zzf h.FJ,h.uy,h.own,h.FK,h.apart,h.sub⟩
theorem nE.up(h:nE S c l D P bs rs Y S'):nE S (c+1) l D P bs rs Y S':=⟨h.w.up,h.Mj,h.aC,zzf h.FG,zzf h.I9⟩
theorem vD.up(h:vD S c X P bs rs Y S'):vD S (c+1) X P bs rs Y S':=⟨h.at_,h.same,h.aC,h.tQ,h.bs,zzf h.cL,h.wf,h.rf⟩
theorem xN.oN(h:xN S c D Y S')(ho:OpL S o picks flips)(hb:D.pd.Iz)(hl:D.fs.length<=1048576):∃(T:AS)(D':Dk),(∀R:AV->AS->Prop,ah C1 18 [.ptr D.dp 0 0 4,o.kv,o.tv] S' R=R (.int .i64 0) T)/\xN S c D' Y T/\D'.dp=D.dp/\nF D D' S' T/\D'.pd=PD.fj picks flips D.sorted 0 {D.pd with off:=false,bq:=-1}:=by
 have rn:∀{v:AV},aE v<=S.nx->Out D.aU v:=fun {v} hv id e hf=>by have:=h.own id hf;omega
 obtain⟨_,T,⟨rfl,D',d1,d2,d3,d4⟩,e⟩:=(jam h.iE hb hl (ho.kv.toSub h.sub) (rn ho.kb) (ho.tv.toSub h.sub) (rn ho.tb) ho.pl ho.fl).ex;exact⟨T,D',e,h.onD d1 d3,d4,d3,d2⟩
theorem nE.oN(h:nE S c l D P bs rs Y S')(ho:OpL S o picks flips):∃(T:AS)(D':Dk),(∀R:AV->AS->Prop,ah C1 18 [.ptr D.dp 0 0 4,o.kv,o.tv] S' R=R (.int .i64 0) T)/\nE S c l D' P bs rs Y T/\D'.dp=D.dp/\D'.off=false/\D'.pd.bq<0:=by
 obtain⟨n,xX⟩:=h.Mj;obtain⟨T,D',e,hw,hp,_,hd⟩:=h.w.oN ho xX.ds.jfe (KE xX.ds.len);obtain⟨h1,h2,h3,_⟩:=xX.oN ho.fl hd;exact⟨T,D',e,⟨hw,h1,h.aC,h.FG,h.I9⟩,hp,h2,by rw[h3];decide⟩
structure LsT(S:AS)(c l:Nat)(D:Dk)(P:PB)(bs:List Nat)(rs:List Rec)(o:rP)(Y:cT)(S':AS):Prop where
 w:xN S c D Y S'
 Mj:(∃n,yL D.pd P bs rs n)\/(bs=aJ rs/\jC fF rs P/\(∀r,r∈rs->fQ r)/\(∀r,r∈rs->r.sort=5->r.pub<16)/\∃n r P2 Q,fQ r/\DS D.pd (aJ rs++di (cX r)) (aJ rs).length n/\um P r P2/\P2.aC=P.aC/\(r.sort=5->r.pub<16)/\LU Y.pure o Q/\bz P2 Q)
 aC:P.aC=l
 FG:oP P<=c
 I9:rs.length<=c+1
 same:bz P Y.pure
theorem LsT.to(h:LsT S c l D P bs rs o Y S')(hs:Sub S' T):LsT S c l D P bs rs o Y T:=⟨h.w.to hs,h.Mj,h.aC,h.FG,h.I9,h.same⟩
theorem LsT.oN(h:LsT S c l D P bs rs o Y S')(hc:c<=60)(ho:OpL S o picks flips):∃(T:AS)(D':Dk)(P':PB)(Jj:List Nat)(gJ:List Rec),(∀R:AV->AS->Prop,ah C1 18 [.ptr D.dp 0 0 4,o.kv,o.tv] S' R=R (.int .i64 0) T)/\nE S (c+1) l D' P' Jj gJ Y T/\D'.dp=D.dp/\D'.off=false/\D'.pd.bq<0/\nF D D' S' T/\(bz P' Y.pure\/∃Q,LU Y.pure o Q/\bz P' Q):=by
 have mO:=h.I9;have Vd:=h.FG;rcases h.Mj with⟨n,xX⟩|⟨nI,kS,oI,Zn,n,r,P2,Q,t1,t2,t3,t4,t5,t6,t7⟩
 .obtain⟨T,D',e,hw,hp,hv,hd⟩:=h.w.oN ho xX.ds.jfe (KE xX.ds.len);obtain⟨h1,h2,h3,_⟩:=xX.oN ho.fl hd;exact⟨T,D',P,bs,rs,e,⟨hw.up,h1,h.aC,by omega,by omega⟩,hp,h2,by rw[h3];decide,hv,.inl h.same⟩
 .obtain⟨T,D',e,hw,hp,hv,hd⟩:=h.w.oN ho t2.jfe (KE t2.len);obtain⟨⟨b',m,h1⟩,h2,h3,_⟩:=Jx t2 ho.fl oI Zn kS t1 t5 t3 (by omega) hd;have hcq:oP P2<=c+1:=by
   have a1:=Ny t6;have a2:=oO t7;have a3:=oO h.same;omega
  rcases h1 with h1|h1
  .exact⟨T,D',P,b',rs,e,⟨hw.up,⟨m,h1⟩,h.aC,by omega,by omega⟩,hp,h2,by rw[h3];decide,hv,.inl h.same⟩
  .exact⟨T,D',P2,b',rs++[r],e,⟨hw.up,⟨m,h1⟩,by rw[t4];exact h.aC,hcq,by simp;omega⟩,hp,h2,by rw[h3];decide,hv,.inr ⟨Q,t6,t7⟩⟩
theorem nE.do (h : nE S c l X.D P bs rs Y S') (hL : vD S c X P bs rs Y S') (dL : X.D.off = false) (lQ : bz P Y.pure) (hc : c ≤ 60) (ho : OpL S o picks flips) (hw : 0 ≤ o.gI ∧ o.gI ≤ 5) :
  ∃(e:Int)(T:AS)(X':cT),(∀R:AV->AS->Prop,ah C1 9 [.ptr X.b 0 0 27,.agg o.c] S' R=R (.int .i64 e) T)/\X'.b=X.b/\X'.D.dp=X.D.dp/\bG T X'/\(∀id,id<S'.nx->¬X.wf id->T.h.get id=S'.h.get id)/\S'.nx<=T.nx/\(∀id,id<S'.nx->X'.wf id->X.wf id) /\
   ((e=0/\X'.D.off=false/\∃P2 gJ Q,nE S (c+1) l X'.D P2 (aJ gJ) gJ Y T/\vD S (c+1) X' P2 (aJ gJ) gJ Y T/\LU Y.pure o Q/\bz P2 Q) \/
    (e≠0/\X'.pure=X.pure/\X'.D.off=false/\nE S c l X'.D P bs rs Y T/\vD S c X' P bs rs Y T) \/
    (e=8/\X'.pure=X.pure/\LsT S c l X'.D P bs rs o Y T)):=by
 obtain⟨n,xX⟩:=h.Mj;have nI:=hL.bs;subst nI;have mO:=h.I9;have Vd:=h.FG;obtain⟨e,T,X',e9,hW,hb,wC,cJ,Hx,Va,iW,Jc,hrf,mP,Ht,hft⟩:=h.w.doX hL xX.ds.ok hc (ho.op.sub h.w.sub) hw ho.aU;refine⟨e,T,X',e9,hb,wC,cJ,mP,Ht,hft,?_⟩;have hk:=yx (o:=o) hL.tQ;rcases xX.done dL hL.same hk (by omega) Va with⟨q1,q2,q3,q4⟩|⟨Q0,q1,⟨z1,z2,z3,P2,gJ,z4,z5,z6,z7⟩|⟨z1,z2,z3⟩|⟨z1,z2,z3,z4⟩⟩
 ·refine .inr (.inl ⟨q2, q4, by have : X'.D.pd.off = X.D.pd.off := by rw [q3]
                                exact this.trans dL,⟨hW,⟨n,by rw[q3];exact xX⟩,h.aC,h.FG,h.I9⟩,⟨cJ,by rw[q4];exact hL.same,?_,Hx,rfl,?_,Jc,hrf⟩⟩)
  .have:X'.pure.aC=X.pure.aC:=by rw[q4]
   exact Eq.trans this hL.aC
  .rcases iW with⟨_,_,r3⟩|⟨r1,_⟩
   .rw[r3];exact hL.cL
   .exact absurd r1 q2
 .obtain⟨Q,k1,k2⟩:=HV (Qp.1 q1) (hL.same.trans lQ);have h2:bz P2 Q:=z6.symm.trans k2;have hcq:oP P2<=c+1:=by
   have a1:=Ny k1;have a2:=oO h2;have a3:=oO lQ;omega
  refine .inl ⟨z1,z2,P2,gJ,Q,⟨hW.up,⟨n,z4⟩,by rw[z7];exact h.aC,hcq,by omega⟩,⟨cJ,by rw[z3];exact z6,?_,Hx,rfl,?_,Jc,hrf⟩,k1,h2⟩
  .rw[z7,<-hL.aC];have:Q0.aC=X.aC:=V2 (Qp.1 q1);exact (congrArg PB.aC z3).trans this
  .rcases iW with⟨r1,_⟩|⟨_,_,r3⟩
   .exact absurd z1 r1
   .have:=hL.cL;omega
 ·refine .inr (.inl ⟨by rw [z1]; decide, z3, by have : X'.D.pd.off = X.D.pd.off := by rw [z2]
                                                exact this.trans dL,⟨hW,⟨n,by rw[z2];exact xX⟩,h.aC,h.FG,h.I9⟩,⟨cJ,by rw[z3];exact hL.same,?_,Hx,rfl,?_,Jc,hrf⟩⟩)
  .have:X'.pure.aC=X.pure.aC:=by rw[z3]
   exact Eq.trans this hL.aC
  .rcases iW with⟨_,_,r3⟩|⟨r1,_⟩
   .rw[r3];exact hL.cL
   .rw[z1]at r1;exact absurd r1 (by decide)
 .refine .inr (.inr ⟨z1,z3,hW,?_,h.aC,h.FG,h.I9,lQ⟩);rcases z4 with z4|⟨r,P2,y1,y2,y3,y4,y5,y6⟩
  .exact .inl ⟨n,z4⟩
  .obtain⟨Q,k1,k2⟩:=HV (Qp.1 q1) (hL.same.trans lQ);exact .inr ⟨rfl,xX.DM,xX.wr,xX.pub,n,r,P2,Q,y1,y2,y3,y4,y5,k1,y6.symm.trans k2⟩
end
structure jlr(S:AS)(w:AV)(ops:List rP):Prop where
 sl:Sl S w 8 (ops.flatMap rP.c)
 el:∀o,o∈ops->∃picks flips,OpL S o picks flips
section
variable{S T U:AS}{X Y:cT}{c l:Nat}{P:PB}{bs:List Nat}{rs:List Rec}
theorem Eb(h:bG S X):∀Q:AV->AS->Prop,ah C1 14 [.ptr X.b 0 0 27] S Q=Q (.int .u64 X.aC) S:=fun Q=>by
 have sD:=fun Q=>pN h (Q:=Q);have eI:=h.row;unfold cT.c at eI;refine ah.eq (aL (cK _) (cM _ rfl) fn14 rfl ok14 (by simp) fun F hn s0=>?_);simp[s0,aP,sD,eI]
theorem iZ.ZZ{α:Type}{enc:α->List AV}{sz e:Nat}{ft:α->Nat->Prop}{uU:AS->α->Prop}{lo:Nat}{w:AV}{L:List α}(Bz:∀S T a,uU S a->(∀id,ft a id->T.h.get id=S.h.get id)->S.nx<=T.nx->uU T a)
  (h:iZ enc sz e ft uU S lo w L) (hs:∀id,lo<=id->id<S.nx->T.h.get id=S.h.get id) (hn:S.nx<=T.nx):Ql enc sz uU T w L:=
 ⟨h.gw.1.agree (fun id q=>hs id (by have:=h.new;unfold jI at this;omega) (by have:=h.gw.1.old;omega)) hn,fun a ha=>Bz S T a (h.el a ha).1 (fun id q=>hs id ((h.el a ha).2 id q).1 ((h.el a ha).2 id q).2.1) hn⟩
theorem yw{B:Nat}{a b:AV}{f:Nat->Nat}(h:S.h.get B=some (.row (lq a b f) 0 0 false 40)):loadT C1 S 40 (.ptr B 0 0 130)=some (.agg (lq a b f)):=MQ h (eF _ _ _)
theorem eR:(aJ [dF 1]).length<=2056:=by have:=jA [dF 1];simp at this;omega
theorem DZ:dJ (oB 1048576) (qZ fF)=(0,⟨[⟨aM,aq (aJ [dF 1]),(aq (aJ [dF 1])).length⟩],1048576,-1,false⟩):=by
 have e:qZ fF=aq (aJ [dF 1]):=rfl;have hb:(aq (aJ [dF 1])).length<=100000:=by rw[aA];have:=eR;omega
 have ho:Pr (oB 1048576)=1:=rfl;unfold dJ;rw[ho,e];show iV _ [1,2,3,4] _=_;rw[kA,show rY (aq (aJ [dF 1])) 1 (oB 1048576)=_ from jcR,if_pos rfl];rw[kA,show rY (aq (aJ [dF 1])) 2 _=_ from jcS hb,if_pos rfl];rw[kA,show rY (aq (aJ [dF 1])) 3 _=_ from jcO,if_pos rfl];rw[kA,show rY (aq (aJ [dF 1])) 4 _=_ from jcP,if_pos rfl];rfl
theorem Uk:fQ (dF 1):=by
 have:=NW (vI.aC 1) (by decide);exact this _ (List.mem_singleton.2 rfl)
theorem Qj:yL (dJ (oB 1048576) (qZ fF)).2 (fF.cN 1) (aJ [dF 1]) [dF 1] none:=by
 have hw:∀r,r∈[dF 1]->fQ r:=fun r hr=>by rw[zzc]at hr;rw[hr];exact Uk
 have hb:(aq (aJ [dF 1])).length<=100000:=by rw[aA];have:=eR;omega
 rw[DZ];exact⟨⟨by show [_]=_;rw[aA];rfl,jcQ hb,AQ hw,zzd _,fun m hm=>by cases hm⟩,tB hw (by simp),hw,fun r hr hs=>by rw[zzc]at hr;rw[hr]at hs;exact absurd hs (by decide),.cons (.aC rfl (by decide)) (.nil _)⟩
theorem Ug(S:AS):∃(T:AS)(X:cT)(U:AS)(Y:cT),(∀R:AV->AS->Prop,ah C1 7 [] S R=R (.tuple [.ptr X.b 0 0 27,.ptr X.D.dp 0 0 4]) T)/\(∀R:AV->AS->Prop,ah C1 7 [] T R=R (.tuple [.ptr Y.b 0 0 27,.ptr Y.D.dp 0 0 4]) U) /\
  X.D.off=false/\∃P rs,nE S 0 1 X.D P (aJ rs) rs Y U/\vD S 0 X P (aJ rs) rs Y U/\bz P Y.pure:=by
 have hF:(dJ (oB 1048576) (qZ fF)).1=0:=by rw[DZ]
 have hs:=Qj;have hg:ew (fF.cN 1):=vI.aC 1;obtain⟨_,T,⟨X,rfl,b1,b2,b3,b4,b5,b6,b7⟩,e7⟩:=(My S hF).ex;obtain⟨_,U,⟨Y,rfl,d1,d2,d3,d4,d5,d6,d7⟩,e7'⟩:=(My T hF).ex;have hz:(dJ (oB 1048576) (qZ fF)).2.off=false/\(dJ (oB 1048576) (qZ fF)).2.bq=-1/\(dJ (oB 1048576) (qZ fF)).2.q=1048576:=by rw[DZ];exact⟨rfl,rfl,rfl⟩
 have xo:X.D.pd.off=false:=by rw[b2];exact hz.1
 have yo:Y.D.pd.off=false:=by rw[d2];exact hz.1
 have yf:Y.D.pd.bq=-1:=by rw[d2];exact hz.2.1
 have yq:Y.D.pd.q=1048576:=by rw[d2];exact hz.2.2
 have n1:=b5.nx;have sm:bz (fF.cN 1) Y.pure:=by rw[d4];exact bz.refl _
 have hw:xN S 0 X.D Y U:=⟨(b1.toSub d5).iE,d1,⟨fF.cN 1,[dF 1],by rw[d2];exact hs,by rw[d4];exact bz.refl _,zzd _⟩,yo,by rw[yf];decide,yq,by omega,by rw[d4];exact hg,
  fun id hf=>b6 id (.inr (.inl hf)),fun id h=>by have:=d6 id h;omega,fun id hf=>by
   have:=b1.iE.lt hf;exact⟨fun q=>by have:=d6 id q;omega,fun q=>by have:=d7 id q;omega⟩,b5.trans d5⟩
 refine⟨T,X,U,Y,e7,e7',xo,fF.cN 1,[dF 1],⟨hw,⟨none,by rw[b2];exact hs⟩,rfl,by decide,zzd _⟩,⟨b1.toSub d5,by rw[b4];exact bz.refl _,?_,by rw[b4];exact hg,rfl,by omega,fun id q=>?_,fun id q=>?_⟩,sm⟩
 .have:X.pure.aC=1:=by rw[b4];rfl
  exact this
 .have:=b1.tj q;exact⟨b6 id q,fun r=>by have:=d6 id r;omega,fun r=>by have:=d7 id r;omega⟩
 .have:=b1.rlt q;exact fun r=>by have:=d6 id r;omega
variable{S':AS}{D D':Dk}
theorem yL.Jv{d d':PD}{n:Option (List Nat×Nat)}(h:yL d P bs rs n)(e:d'.fs=d.fs)(hq:d'.q<=4194304)(hf:d'.bq<9223372036854775808):yL d' P bs rs n:=
 ⟨⟨e.trans h.ds.fs,⟨by rw[e];exact h.ds.ok.many,by have:=h.ds.ok.used;unfold PD.used at this⊢;rw[e];exact this,hq,hf,by rw[e];exact h.ds.ok.names⟩,h.ds.Iz,h.ds.le,h.ds.nb⟩,h.yU,h.wr,h.pub,h.DM⟩
theorem nE.Jv(h:nE S c l D P bs rs Y S')(hd:aV T D')(he:nF D D' S' T)(e:D'.pd.fs=D.pd.fs)(hq:D'.pd.q<=4194304)(hf:D'.pd.bq<9223372036854775808):nE S c l D' P bs rs Y T:=by
 obtain⟨n,hs⟩:=h.Mj;exact⟨h.w.onD hd he,⟨n,hs.Jv e hq hf⟩,h.aC,h.FG,h.I9⟩
theorem vD.Jv(h:vD S c X P bs rs Y S')(hw:xN S c X.D Y S')(hd:aV T D')(hp:D'.dp=X.D.dp)(he:nF X.D D' S' T):vD S c {X with D:=D'} P bs rs Y T:=by
 obtain⟨h1,h2⟩:=h.at_.onD hd hp he;have hn:=hw.sub.nx;refine⟨h1,h.same,h.aC,h.tQ,h.bs,h.cL,fun id q=>?_,h.rf⟩;by_cases hi:id<S'.nx
 .exact h.wf id (h2.aU id hi q)
 .exact⟨by omega,fun r=>hi (hw.y.tj r),fun r=>hi (hw.y.rlt r)⟩
theorem nE.SH(h:nE S c l D P bs rs Y S'){n:Nat}(hn:n<=4194304):∃(T:AS)(D':Dk),(∀R:AV->AS->Prop,ah C1 19 [.ptr D.dp 0 0 4,.int .i64 n] S' R=R (.int .i64 0) T)/\nE S c l D' P bs rs Y T/\D'.dp=D.dp/\D'.off=D.off/\D'.pd.q=n/\D'.pd.bq=D.pd.bq/\nF D D' S' T /\
  (∀{X:cT},X.D=D->vD S c X P bs rs Y S'->vD S c {X with D:=D'} P bs rs Y T):=by
 obtain⟨m,hs⟩:=h.Mj;obtain⟨_,T,⟨rfl,d1,d2⟩,e⟩:=(Yh h.w.iE hn).ex;exact⟨T,_,e,h.Jv d1 d2 rfl hn hs.ds.ok.bq,rfl,rfl,rfl,rfl,d2,fun hX hL=>by subst hX;exact hL.Jv h.w d1 rfl d2⟩
theorem nE.bq(h:nE S c l D P bs rs Y S'){n:Int}(hn:n<9223372036854775808):∃(T:AS)(D':Dk)(e:Int),(∀R:AV->AS->Prop,ah C1 20 [.ptr D.dp 0 0 4,.int .i64 n] S' R=R (.int .i64 e) T)/\nE S c l D' P bs rs Y T/\D'.dp=D.dp/\D'.off=D.off /\
  (∀{X:cT},X.D=D->vD S c X P bs rs Y S'->vD S c {X with D:=D'} P bs rs Y T):=by
 obtain⟨m,hs⟩:=h.Mj;obtain⟨_,T,⟨rfl,d1,d2⟩,e⟩:=(jer h.w.iE n).ex;have hf:=hs.ds.ok.bq;have hq:=hs.ds.ok.q;have key:(D.lX n).dp=D.dp/\(D.lX n).off=D.off/\(D.lX n).pd.fs=D.pd.fs/\(D.lX n).pd.q=D.pd.q/\(D.lX n).pd.bq<9223372036854775808:=by
  unfold Dk.lX;split
  .exact⟨rfl,rfl,rfl,rfl,hn⟩
  .exact⟨rfl,rfl,rfl,rfl,hf⟩
 obtain⟨q1,q2,q3,q4,q5⟩:=key;exact⟨T,_,_,e,h.Jv d1 d2 q3 (by rw[q4];exact hq) q5,q1,q2,fun hX hL=>by subst hX;exact hL.Jv h.w d1 q1 d2⟩
end
theorem rN.same{P Q R:PB}(h:rN Q R)(hs:bz P Q):rN P R:=by
 obtain⟨a,b,c⟩:=vP hs;unfold rN at *;rw[a,b,c];exact h
section
variable{S S' T:AS}{c l:Nat}{D:Dk}{P:PB}{bs:List Nat}{rs:List Rec}{X Y:cT}{o:rP}{picks flips:List Nat}
theorem nE.again(h:nE S c l D P bs rs Y S')(dL:D.off=false)(hf:D.pd.bq<0)(hl:l<=1000):∃(T:AS)(X:cT)(P':PB)(gJ:List Rec),
  ((∀Q:AV->AS->Prop,ah C1 13 [.ptr D.dp 0 0 4] S' Q=Q (.tuple [.ptr X.b 0 0 27,.int .i64 0]) T) \/
   ∃T1 T2,(∀Q:AV->AS->Prop,ah C1 13 [.ptr D.dp 0 0 4] S' Q=Q (.tuple [.ck,.int .i64 7]) T1)/\(∀Q:AV->AS->Prop,ah C1 19 [.ptr D.dp 0 0 4,.int .i64 4194304] T1 Q=Q (.int .i64 0) T2)/\(∀Q:AV->AS->Prop,ah C1 13 [.ptr D.dp 0 0 4] T2 Q=Q (.tuple [.ptr X.b 0 0 27,.int .i64 0]) T)) /\
  X.D.dp=D.dp/\nF D X.D S' T/\nE S c (l+1) X.D P' (aJ gJ) gJ Y T/\vD S c X P' (aJ gJ) gJ Y T/\bz P P':=by
 obtain⟨v,T,X,e,h1,h2,h3,h4⟩:=h.open dL hl;obtain⟨h3a,h3b⟩:=h3 hf;rcases h4 with⟨rfl,_,P',gJ,a1,a2,_,a3⟩|⟨rfl,b1,b2,b3,b4⟩|⟨rfl,b1,_⟩
 .exact⟨T,X,P',gJ,.inl e,h1,h2,a1,a2,a3⟩
 .obtain⟨T2,D3,Jg,q1,q2,q3,q4,q5,q6,_⟩:=b4.SH (n:=4194304) (zzd _);obtain⟨v,T3,X3,wQ,k1,k2,k3,k4⟩:=q1.open (q3.trans b1) hl;rw[h1]at Jg;rw[q2,h1]at wQ;rcases k4 with⟨rfl,_,P',gJ,a1,a2,_,a3⟩|⟨rfl,d1,d2,d3,d4⟩|⟨rfl,d1,_⟩
  .exact⟨T3,X3,P',gJ,.inr ⟨T,T2,e,Jg,wQ⟩,k1.trans (q2.trans h1),(h2.trans q6).trans k2,a1,a2,a3⟩
  .omega
  .have:=(k3 (by omega)).1;rw[d1]at this;cases this
 .rw[h3a]at b1;cases b1
theorem LsT.back(h:LsT S c l D P bs rs o Y S')(hc:c<=60)(hl:l<=1000)(ho:OpL S o picks flips):∃(T0 T:AS)(X:cT)(P':PB)(gJ:List Rec),
  (∀R:AV->AS->Prop,ah C1 18 [.ptr D.dp 0 0 4,o.kv,o.tv] S' R=R (.int .i64 0) T0) /\
  ((∀Q:AV->AS->Prop,ah C1 13 [.ptr D.dp 0 0 4] T0 Q=Q (.tuple [.ptr X.b 0 0 27,.int .i64 0]) T) \/
   ∃T1 T2,(∀Q:AV->AS->Prop,ah C1 13 [.ptr D.dp 0 0 4] T0 Q=Q (.tuple [.ck,.int .i64 7]) T1)/\(∀Q:AV->AS->Prop,ah C1 19 [.ptr D.dp 0 0 4,.int .i64 4194304] T1 Q=Q (.int .i64 0) T2)/\(∀Q:AV->AS->Prop,ah C1 13 [.ptr D.dp 0 0 4] T2 Q=Q (.tuple [.ptr X.b 0 0 27,.int .i64 0]) T)) /\
  X.D.dp=D.dp/\nF D X.D S' T/\nE S (c+1) (l+1) X.D P' (aJ gJ) gJ Y T/\vD S (c+1) X P' (aJ gJ) gJ Y T/\(bz P' Y.pure\/∃Q,LU Y.pure o Q/\bz P' Q):=by
 obtain⟨T0,D',P1,bs1,rs1,Xs,h1,h2,h3,h4,h5,h6⟩:=h.oN hc ho;obtain⟨T,X,P',gJ,k1,k2,k3,k4,k5,k6⟩:=h1.again h3 h4 hl;rw[h2]at k1;refine⟨T0,T,X,P',gJ,Xs,k1,k2.trans h2,h5.trans k3,k4,k5,?_⟩;rcases h6 with h6|⟨Q,h6,h7⟩
 .exact .inl (k6.symm.trans h6)
 .exact .inr ⟨Q,h6,k6.symm.trans h7⟩
end
noncomputable def flT(cx:Am.Cx)(t:TypeId):Option (List TypeId):=match bN cx t with|some (.struct fs)=>some (fs.toList.map (·.type))|_=>none
section
variable{cx:Am.Cx}
theorem DG{S:AS}{m:Nat}{t:TypeId}{l:List TypeId}{x:List AV}(h:flT cx t=some l)(hx:cf cx S (m+1) t x):sy (aG cx) (cf cx S m) l x:=by
 unfold flT at h;split at h
 .rename_i fs hu;cases h;unfold cf at hx;simp only[hu]at hx;exact hx
 .cases h
theorem chunks{α:Type}{sz:Nat}{enc:α->List AV}{G:α->Prop}:∀(k:Nat)(cells:List AV),cells.length=k*sz->(∀i,i<k->∃a,(cells.drop (i*sz)).take sz=enc a/\G a)->∃l:List α,l.length=k/\cells=l.flatMap enc/\∀a,a∈l->G a
 |0,cells,h,_=>by
  rw[Nat.zero_mul]at h;exact⟨[],rfl,by rw[List.length_eq_zero_iff.1 h];rfl,fun a ha=>by cases ha⟩
 |k+1,cells,h,hc=>by
  obtain⟨a,e,g⟩:=hc 0 (by omega);rw[Nat.succ_mul]at h;obtain⟨l,h1,h2,h3⟩:=chunks (sz:=sz) (enc:=enc) (G:=G) k (cells.drop sz) (by rw[List.length_drop];omega) (fun i hi=>by
   obtain⟨b,e,g⟩:=hc (i+1) (by omega);refine⟨b,?_,g⟩;rw[<-e,List.drop_drop];congr 2;rw[Nat.succ_mul,Nat.add_comm])
  refine⟨a::l,by rw[List.length_cons,h1],?_,fun b hb=>?_⟩
  .rw[zzm,<-h2,<-e,Nat.zero_mul,List.drop_zero,List.take_append_drop]
  .rcases List.mem_cons.1 hb with rfl|hb
   .exact g
   .exact h3 b hb
theorem Co{S:AS}{m:Nat}{t e sz:Nat}{qx:List AV}(hu:bN cx t=some (.slice e))(hs:aG cx e=some sz)(h:cf cx S (m+1) t qx){α:Type}{enc:α->List AV}{G:α->Prop}(hz:∀a,(enc a).length=sz)
  (hel:∀x,cf cx S m e x->∃a,x=enc a/\G a):∃(u:AV)(l:List α),qx=[u]/\Sl S u sz (l.flatMap enc)/\(∀a,a∈l->G a)/\l.length<=maxLen/\∀bs,bytesOf cx e=some bs->l.length*bs<=reachBytes:=by
 unfold cf at h;simp only[hu]at h;rcases h with rfl|⟨id,len,cap,sz',rfl,h1,h2,h3,h4,hb,h5,h6⟩
 .exact⟨_,[],rfl,Sl.nil,fun a ha=>(by cases ha),by simp,fun bs _=>by simp⟩
 .rw[hs]at h1;cases h1;rcases h6 with rfl|⟨cells,ty,g1,g2,g3⟩
  .obtain rfl:len=0:=by omega
   exact⟨_,[],rfl,⟨by simp[isSl,eV],rfl,by simp[sLen],h5⟩,fun a ha=>(by cases ha),by simp,fun bs _=>by simp⟩
  .obtain⟨l,k1,k2,k3⟩:=chunks cap cells g2 fun i hi=>hel _ (g3 i hi);subst k2;refine⟨_,l.take len,rfl,⟨by simp[isSl,eV,h3],?_,by rw[K8 hz,zzg];simp only[sLen];congr 1;omega,h5⟩,fun a ha=>k3 a (List.mem_of_mem_take ha),by rw[zzg];omega,fun bs nI=>zzj (Nat.mul_le_mul_right _ (by rw[zzg];omega)) (hb bs nI)⟩;cases len with
   |zero=>simp[kR]
   |succ len=>
    simp only[kR,dN,g1,bB];rw[if_pos ⟨zzd _,zzd _,by rw[Nat.zero_add];exact Nat.mul_le_mul_right _ h3⟩,List.drop_zero,Ns hz]
theorem jla{S:AS}{m:Nat}{t:TypeId}{qx:List AV}(hu:bN cx t=some (.int .u8))(h:cf cx S (m+1) t qx):∃n:Nat,qx=[.int .u8 n]/\n<256:=by
 unfold cf at h;simp only[hu]at h;obtain⟨n,e,k1,k2⟩:=h;have nH:IntKind.u8.max=255:=rfl;have sR:IntKind.u8.min=0:=rfl;rw[sR]at k1;rw[nH]at k2;exact⟨n.toNat,by rw[e,Int.toNat_of_nonneg k1],by omega⟩
theorem ub{S:AS}{m:Nat}{t:TypeId}{qx:List AV}(hu:bN cx t=some (.int .i64))(h:cf cx S (m+1) t qx):∃n:Int,qx=[.int .i64 n]/\-9223372036854775808<=n/\n<9223372036854775808:=by
 unfold cf at h;simp only[hu]at h;obtain⟨n,e,k1,k2⟩:=h;have nH:IntKind.i64.max=9223372036854775807:=rfl;have sR:IntKind.i64.min=-9223372036854775808:=rfl;rw[sR]at k1;rw[nH]at k2;exact⟨n,e,k1,by omega⟩
theorem WG{S:AS}{m:Nat}{t:TypeId}{qx:List AV}(hu:bN cx t=some (.int .u64))(h:cf cx S (m+1) t qx):∃n:Nat,qx=[.int .u64 n]/\n<18446744073709551616:=by
 unfold cf at h;simp only[hu]at h;obtain⟨n,e,k1,k2⟩:=h;have nH:IntKind.u64.max=18446744073709551615:=rfl;have sR:IntKind.u64.min=0:=rfl;rw[sR]at k1;rw[nH]at k2;exact⟨n.toNat,by rw[e,Int.toNat_of_nonneg k1],by omega⟩
theorem jaI{S:AS}{m:Nat}{t:TypeId}{qx:List AV}(hu:bN cx t=some .bool)(h:cf cx S (m+1) t qx):∃b:Bool,qx=[.bool b]:=by
 unfold cf at h;simp only[hu]at h;exact h
theorem WH{S:AS}{m:Nat}{t:TypeId}{qx:List AV}(hu:bN cx t=some .string)(h:cf cx S (m+1) t qx):∃s:List Nat,qx=[.str s]/\s.length<140737488355328/\∀c,c∈s->c<256:=by
 unfold cf at h;simp only[hu]at h;obtain⟨s,e,k1,k2⟩:=h;have:reachBytes=140737488351232:=rfl;exact⟨s,e,by omega,k2⟩
structure sI(cx:Am.Cx):Prop where
 un2:bN cx 2=some (.int .i64)
 un3:bN cx 3=some (.int .i64)
 un4:bN cx 4=some .bool
 uv:bN cx 9=some .string
 jfD:bN cx 27=some (.int .u64)
 un22:bN cx 22=some (.slice 34)
 jcl:bN cx 29=some (.slice 103)
 un30:bN cx 30=some (.slice 174)
 Ju:bN cx 31=some (.slice 133)
 RS:bN cx 32=some (.slice 5)
 RT:bN cx 101=some (.slice 100)
 XM:aG cx 34=some 8
 Ci:aG cx 103=some 7
 R3:aG cx 174=some 2
 F9:aG cx 100=some 4
 jkO:bytesOf cx 174=some 16
 fl34:flT cx 34=some [3,3,3,27,29,30,31,32]
 jkn:flT cx 103=some [9,3,100,101]
 jko:flT cx 100=some [3,2,9,4]
 jkm:flT cx 174=some [3,27]
 ag22:aN cx 22=some false
 un5:bN cx 5=some (.int .u8)
 jbc:bN cx 133=some (.int .u16)
 sz5:aG cx 5=some 1
 Mb:aG cx 133=some 1
 ag5:aN cx 5=some false
theorem RM(K:sI cx){S:AS}{m:Nat}{x:List AV}(h:cf cx S (m+2) 100 x):∃v:qe,x=cZ v/\tq v:=by
 obtain⟨a,_,rfl,_,h1,b,_,rfl,_,h2,c,_,rfl,_,h3,d,_,rfl,_,h4,rfl⟩:=DG K.jko h;obtain⟨k,rfl,_⟩:=ub K.un3 h1;obtain⟨n,rfl,n1,n2⟩:=ub K.un2 h2;obtain⟨s,rfl,s1,s2⟩:=WH K.uv h3;obtain⟨b,rfl⟩:=jaI K.un4 h4;exact⟨⟨k,n,s,b⟩,rfl,n1,n2,s2⟩
theorem jeY(K:sI cx){S:AS}{m:Nat}{x:List AV}(h:cf cx S (m+4) 103 x):∃c:dH,x=dj c/\gq S c/\cy c:=by
 obtain⟨a,_,rfl,_,h1,b,_,rfl,_,h2,c,_,rfl,_,h3,d,_,rfl,_,h4,rfl⟩:=DG K.jkn h;obtain⟨s,rfl,s1,s2⟩:=WH K.uv h1;obtain⟨k,rfl,_⟩:=ub K.un3 h2;obtain⟨v,rfl,v1⟩:=RM K h3;obtain⟨u,l,rfl,g1,g0,g3,_⟩:=Co (enc:=cZ) (G:=tq) K.RT K.F9 h4 dC (fun x hx=>RM K hx);have qz:maxLen=9223372036854775807:=rfl;exact⟨⟨s,k,v,u,l⟩,rfl,⟨g1,by show l.length<=_;omega⟩,v1,g0,s2⟩
theorem R7(K:sI cx){S:AS}{m:Nat}{x:List AV}(h:cf cx S (m+2) 174 x):∃t:Int×Nat,x=eJ t/\True:=by
 obtain⟨a,_,rfl,_,h1,b,_,rfl,_,h2,rfl⟩:=DG K.jkm h;obtain⟨k,rfl,_⟩:=ub K.un3 h1;obtain⟨n,rfl,_⟩:=WG K.jfD h2;exact⟨(k,n),rfl,trivial⟩
theorem jfo{S:AS}{m:Nat}{t:TypeId}{qx:List AV}(hu:bN cx t=some (.int .u16))(h:cf cx S (m+1) t qx):∃n:Nat,qx=[.int .u16 n]/\n<65536:=by
 unfold cf at h;simp only[hu]at h;obtain⟨n,e,k1,k2⟩:=h;have nH:IntKind.u16.max=65535:=rfl;have sR:IntKind.u16.min=0:=rfl;rw[sR]at k1;rw[nH]at k2;exact⟨n.toNat,by rw[e,Int.toNat_of_nonneg k1],by omega⟩
theorem VP{α:Type}(f:α->AV):∀l:List α,l.flatMap (fun a=>[f a])=l.map f
 |[]=>rfl
 |a::l=>by rw[zzm,VP f l];rfl
theorem jgl(K:sI cx){S:AS}{m:Nat}{x:List AV}(h:cf cx S (m+6) 34 x):∃o:rP,x=o.c/\∃picks flips,OpL S o picks flips:=by
 obtain⟨a,_,rfl,_,h1,b,_,rfl,_,h2,c,_,rfl,_,h3,d,_,rfl,_,h4,e,_,rfl,_,h5,f,_,rfl,_,h6,g,_,rfl,_,h7,i,_,rfl,_,h8,rfl⟩:=DG K.fl34 h;obtain⟨w,rfl,_⟩:=ub K.un3 h1;obtain⟨id,rfl,_⟩:=ub K.un3 h2;obtain⟨pub,rfl,_⟩:=ub K.un3 h3;obtain⟨n,rfl,n1⟩:=WG K.jfD h4;obtain⟨p,cs,rfl,p1,p2,p3,_⟩:=Co (enc:=dj) (G:=fun c=>gq S c/\cy c) K.jcl K.Ci h5 c8 (fun x hx=>jeY K hx);obtain⟨sv,st,rfl,s1,_,_,s3⟩:=Co (enc:=eJ) (G:=fun _=>True) K.un30 K.R3 h6 cd (fun x hx=>R7 K hx);obtain⟨kv,picks,rfl,k1,k2,_,_⟩:=Co (enc:=fun n:Nat=>[AV.int .u16 n]) (G:=fun n=>n<65536) K.Ju K.Mb h7 (fun _=>rfl) (fun x hx=>jfo K.jbc hx);obtain⟨tv,flips,rfl,t1,t2,_,_⟩:=Co (enc:=fun n:Nat=>[AV.int .u8 n]) (G:=fun n=>n<256) K.RS K.sz5 h8 (fun _=>rfl) (fun x hx=>jla K.un5 hx);rw[VP]at k1 t1;have qz:maxLen=9223372036854775807:=rfl;have hb:=s3 16 K.jkO;have hrb:reachBytes=140737488351232:=rfl;have hp:aB S p cs:=⟨p1,fun c hc=>(p2 c hc).1,by show cs.length<=_;omega⟩
 exact⟨⟨w,id,pub,n,p,cs,sv,st,kv,tv⟩,rfl,picks,flips,⟨hp,fun c hc=>(p2 c hc).2,s1,by show st.length*16<=_;omega,n1,⟨k1.cells,aj k1⟩,⟨t1.cells,aj t1⟩⟩,k1,k1.old,t1,t1.old,k2,t2,fun i hf=>aB.aU hp hf⟩
theorem jfn(K:sI cx){S:AS}{m:Nat}{bA:List AV}(h:nY cx S (m+7) [22] bA):∃(v:AV)(ops:List rP),bA=[v]/\jlr S v ops:=by
 obtain⟨a1,r1,rfl,h1,rfl⟩:=h;obtain⟨u,l,rfl,g1,g0,_,_⟩:=Co (G:=fun o=>∃picks flips,OpL S o picks flips) (enc:=rP.c) K.un22 K.XM h1 Kj (fun x hx=>jgl K hx);exact⟨u,l,by simp only[jaJ,K.ag22,Gr],g1,g0⟩
end
theorem jat:sI C1:=by constructor<;>kernel_rfl
end Go.Proofs.YtdknlbnljfdhgaaGreatDoor.bk
