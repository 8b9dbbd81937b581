/-
  slices.Sorted(maps.Keys(m)): all orders of the map, one row.
-/
import Derived.Test.YtgkdgiognhbfjaaGreatDoorPartA
import Derived.Test.YtgkdgiognhbfjaaGreatDoorAmKept
noncomputable section
namespace Go.Proofs.YtgkdgiognhbfjaaGreatDoor.seg
open Go Go.Am
set_option linter.unusedVariables false
set_option linter.unusedSimpArgs false
attribute [local simp] zy aop_range aop_next aop_entry
theorem fn114:C0.fns.get 114=some Tryz.f114:=by kernel_rfl
theorem ok114:codeOk C0 Tryz.f114.ntmps (Tryz.f114.body.getD .skip)=true:=by kernel_rfl
theorem fn96:C0.fns.get 96=some Tryz.f96:=by kernel_rfl
theorem ok96:codeOk C0 Tryz.f96.ntmps (Tryz.f96.body.getD .skip)=true:=by kernel_rfl
theorem fn94:C0.fns.get 94=some Tryz.f94:=by kernel_rfl
theorem ok94:codeOk C0 Tryz.f94.ntmps (Tryz.f94.body.getD .skip)=true:=by kernel_rfl
def cA : Code := Code.region 2
      #[{ dst := some 5, op := Op.assign (Operand.tmp 7), type := 9, pos := "iter.go:51", after := #[],
          guard:=none }]
      false
def cB : Code := (Code.block 1
      (Code.region 3
       #[{ dst := some 8, op := Op.load 69 (Operand.tmp 2), type := 69, pos := "iter.go:52", after := #[],
           guard:=none },
        { dst:=some 9,op:=Op.move (Operand.tmp 5),type:=9,pos:="iter.go:52",after:=#[],
          guard:=none },
        { dst:=some 10,op:=Op.buildSlice 69 1 #[(0,Operand.tmp 9)],type:=69,pos:="iter.go:52",
          after:=#[{ on:=1,ground:=Ground.data }],guard:=none },
        { dst:=some 11,
          op:=
           Op.call
            { callee:=Callee.builtin Builtin.append,args:=#[Operand.tmp 8,Operand.tmp 10],
              argTypes:=#[69,69] },
          type:=69,pos:="iter.go:52",
          after:=#[{ on:=0,ground:=Ground.data },{ on:=2,ground:=Ground.data }],guard:=none },
        { dst:=none,op:=Op.store 69 (Operand.tmp 2) (Operand.tmp 11),type:=0,pos:="iter.go:52",
          after:=
           #[{ on:=3,ground:=Ground.data },{ on:=3,ground:=Ground.chain },
             { on:=0,ground:=Ground.phase },{ on:=1,ground:=Ground.phase },
             { on:=2,ground:=Ground.phase },{ on:=3,ground:=Ground.phase }],
          guard:=none }]
       false))
def fX (e:aX):List Nat:=match e.key with | .str s=>s|_=>[]
def kA (L:List aX):List AV:=L.map fun e=>AV.str (fX e)
def fM (B:Nat) (L:List aX):AV:=match L.length with|0=>.az|k+1=>.slice B k 0 (k+1) (k+1) 1 none
def oF (S:AS) (B:Nat) (L:List aX):Prop:=L=[]∨S.h.get B=some (.row (kA L) 0 (L.length-1) false 9)
section
variable {S:AS}
theorem append_un {cx:Cx} {S:AS} {t u:Nat} {ts:List TypeId} {p:Nat×Nat×Nat} {v x:AV} {d:TypeDesc} {z:Nat} (h:rR cx t=some p) (hu:bm cx u=some d) (hd:Ao d=true) (hz:p.2.1=z+1) :
  aV cx S .append (t :: u :: ts) [v,x]=b8 (cP S p.1 (z+1) p.2.2 v x) 4:=by
 obtain ⟨ht,hs,hb,hz',hp⟩:=fR h;obtain ⟨e,sz,bs⟩:=p;simp only at ht hs hb hz' hz ⊢;subst hz;show (match bm cx t,bm cx u with
   | some (.slice e),some (.int _)=>b8 (appZ cx S e v x) 3
   | some (.slice e),some _=>match aD cx e,bytesOf cx e with
    | some (Nat.succ z),some bs=>cond (gZ cx e (Nat.succ z)) (b8 (cP S e (Nat.succ z) bs v x) 4) (AR.err 13)
    | _,_=>AR.err 5
   | _,_=>AR.err 6)=_
 rw[ht,hu];cases d<;>first|(cases hd;done)|simp only[hs,hb,hz',cond_true]
theorem colV_cells {B:Nat} {L:List aX}:cellsOf (fM B L)=some [fM B L]:=by
 unfold fM;split<;>rfl
theorem app_col {B:Nat} {L:List aX} {e:aX} {id:Nat} (hc:oF S B L) (h0:L=[]→B=S.next) (hr:S.h.get id=some (.row [.str (fX e)] 0 0 false 9)) (hn:L.length<1048576) :
  ∃ T,aV C0 S .append [69,69] [fM B L,.slice id 0 0 1 1 1 (some 1)]=.val (fM B (L++[e])) T∧oF T B (L++[e])∧(∀ i,i≠B→T.h.get i=S.h.get i)∧S.next≤T.next∧(L=[]→T.next=S.next+1):=by
 have iz:∀ v x,aV C0 S .append [69,69] [v,x]=b8 (cP S 9 1 16 v x) 4:=fun v x=>append_un (cx:=C0) (ts:=[]) (p:=(9,1,16)) (z:=0) st69 un69 rfl rfl;have wq:rd S id 0 0 1 1=some [.str (fX e)]:=by rw[df,hr,bR];simp
 have AF:taken S 1 (.slice id 0 0 1 1 1 (some 1))=some (1,[.str (fX e)]):=by
  show (match rd S id 0 0 (Nat.mul 1 1) 1 with|some l=>some (1,l)|none=>none)=_;rw[show Nat.mul 1 1=1 from rfl,wq]
 cases L with
 | nil=>
  obtain rfl:=h0 rfl;refine ⟨⟨S.h.set S.next (.row [.str (fX e)] 0 0 false 9),S.next+1⟩,?_,.inr (aa _ _ _),fun i hi=>ae _ _ hi,Nat.le_succ _,fun _=>rfl⟩;rw[iz];have:cP S 9 1 16 (fM S.next []) (.slice id 0 0 1 1 1 (some 1))=some (grown S 9 1 1 [.str (fX e)]):=by
   unfold cP;rw[AF];show cond (fits 1 16) _ _=_;rw[show fits 1 16=true from by decide];rfl
  rw[this];rfl
 | cons a L=>
  have qb:S.h.get B=some (.row (kA (a :: L)) 0 L.length false 9):=by
   rcases hc with h|h
   ·cases h
   ·exact h
  have hlk:(kA (a :: L)).length=L.length+1:=by simp[kA]
  have hkk:kA (a :: L)++[.str (fX e)]=kA (a :: L++[e]):=by simp[kA]
  refine ⟨⟨S.h.set B (.row (kA (a :: L++[e])) 0 (L.length+1) false 9),S.next⟩,?_,.inr ?_,fun i hi=>ae _ _ hi,Nat.le_refl _,fun h=>by cases h⟩
  ·rw[iz];have hf:fits (L.length+1+1) 16=true:=by
    simp only[List.length_cons] at hn;unfold fits;simp only[bX,Bool.and_eq_true,decide_eq_true_eq];refine ⟨by omega,?_⟩;show (L.length+1+1)*16≤_;omega
   have:cP S 9 1 16 (.slice B L.length 0 (L.length+1) (L.length+1) 1 none) (.slice id 0 0 1 1 1 (some 1))=some (.slice B (L.length+1) 0 (L.length+1+1) (L.length+1+1) 1 none,⟨S.h.set B (.row (kA (a :: L++[e])) 0 (L.length+1) false 9),S.next⟩):=by
    unfold cP;rw[AF];simp only[aT,decide_true,cond_true,qb,bX,Nat.zero_le,Nat.le_refl,Bool.and_self,aA,Nat.add_eq,hf,Bool.not_true,Bool.or_self,cond_false,aS,hlk,Nat.mul_eq,Nat.mul_one,bf,hkk]
   show b8 (cP S 9 1 16 (.slice B L.length 0 (L.length+1) (L.length+1) 1 none) _) 4=_;rw[this];show AR.val _ _=_;unfold fM;simp
  ·show (S.h.set B _).get B=_;rw[aa];simp
theorem round114 {lp xb B:Nat} {F:Fr} {L:List aX} {e:aX} {K:AV→AS→Prop} (hlp:S.h.get lp=some (.cK (.loop .ready none F #[7] cA cB))) (hF:sl F 2=.ptr xb 0 0 1) (hn:F.n=13)
  (hxb:S.h.get xb=some (.row [fM B L] 0 0 false 69)) (hc:oF S B L) (h0:L=[]→B=S.next+1) (h1:L≠[]→B<S.next) (hx:xb<S.next) (hl:lp<S.next) (hlx:lp≠xb) (hBx:B≠xb) (hBl:B≠lp) (hlen:L.length<1048576)
  (hK:∀ T,T.h.get lp=some (.cK (.loop .ready none F #[7] cA cB))→T.h.get xb=some (.row [fM B (L++[e])] 0 0 false 69)→oF T B (L++[e])→B<T.next→S.next≤T.next→(∀ id,id<S.next→id≠lp→id≠xb→id≠B→T.h.get id=S.h.get id)→K (.bool true) T) :
  tw C0 lp [.str (fX e)] S K:=by
 refine roundE_of (F1:=up ⟨F.t,F.n,[]⟩ (some 7) (.str (fX e))) hlp ?_ (by rw[kN];show codeOk C0 F.n cA=true;rw[hn];kernel_rfl) (by rw[kN];show codeOk C0 F.n cB=true;rw[hn];kernel_rfl) ?_
 ·show uk ⟨F.t,F.n,[]⟩ [7] [_]=_;unfold uk;simp[gR,hn,up,show Nat.blt 7 13=true from rfl]
 obtain ⟨G,hG⟩:∃ G:Fr,G=⟨F.t,F.n,[]⟩:=⟨_,rfl⟩
 have g2:sl G 2=.ptr xb 0 0 1:=by rw[hG];exact hF
 rw[←hG];unfold cA;simp;refine ⟨none,F,cA,cB,hlp,?_⟩;obtain ⟨S0,x9⟩:∃ S0:AS,S0=fG S lp (.loop .busy none F #[7] cA cB):=⟨_,rfl⟩
 rw[←x9];have n0:S0.next=S.next:=by rw[x9];rfl
 have lp0:S0.h.get lp=some (.cK (.loop .busy none F #[7] cA cB)):=by rw[x9];exact aa _ _ _
 have o0:∀ id,id≠lp→S0.h.get id=S.h.get id:=fun id h=>by rw[x9];exact ae _ _ h
 clear x9;have xb0:=(o0 xb (Ne.symm hlx)).trans hxb;obtain ⟨S1,cz⟩:∃ S1:AS,S1=⟨S0.h.set S0.next (.row [.str (fX e)] 0 0 false 9),S0.next+1⟩:=⟨_,rfl⟩
 have n1:S1.next=S.next+1:=by rw[cz,←n0]
 have r1:S1.h.get S0.next=some (.row [.str (fX e)] 0 0 false 9):=by rw[cz];exact aa _ _ _
 have o1:∀ id,id≠S.next→S1.h.get id=S0.h.get id:=fun id h=>by rw[cz];exact ae _ _ (by rw[n0];exact h)
 have jn:=cz.symm;clear cz;have hc1:oF S1 B L:=by
  rcases hc with h|h
  ·exact .inl h
  ·by_cases hL:L=[]
   ·exact .inl hL
   ·exact .inr (by have:=h1 hL;rw[o1 _ (by omega),o0 _ hBl];exact h)
 obtain ⟨S2,e2,c2,o2,n2,nz⟩:=app_col (e:=e) hc1 (fun h=>by rw[n1];exact h0 h) r1 hlen;have xb2:S2.h.get xb=some (.row [fM B L] 0 0 false 69):=by rw[o2 _ (Ne.symm hBx),o1 _ (by omega)];exact xb0
 have gp:∀ F:Fr,sl F 9=.str (fX e)→al C0 F S0.next (.buildSlice 69 1 #[(0,.tmp 9)])=some (.slice S0.next 0 0 1 1 1 (some 1),.row [.str (fX e)] 0 0 false 9):=by
  intro F h;exact mT st69 rfl (by rw[aE,h];rfl)
 conv=>arg 2;unfold cB
 simp[g2,xb0,gp,jn,e2,xb2,colV_cells];refine ⟨.busy,none,F,#[7],cA,cB,?_,hK _ ?_ ?_ ?_ ?_ ?_ ?_⟩
 ·rw[if_neg hlx,o2 _ (Ne.symm hBl),o1 _ (by omega)];exact lp0
 ·exact aa _ _ _
 ·show ((S2.h.set xb _).set lp _).get xb=_;rw[ae _ _ (Ne.symm hlx),aa]
 ·rcases c2 with h|h
  ·exact .inl h
  ·refine .inr ?_;show ((S2.h.set xb _).set lp _).get B=_;rw[ae _ _ hBl,ae _ _ hBx];exact h
 ·show B<S2.next
  by_cases hL:L=[]
  ·have:=nz hL;have:=h0 hL;omega
  ·have:=h1 hL;omega
 ·show S.next≤S2.next
  omega
 ·intro id q1 q2 q3 q4;show ((S2.h.set xb _).set lp _).get id=_;rw[ae _ _ q2,ae _ _ q3,o2 _ q4,o1 _ (by omega),o0 _ q2]
def keysH (P:AS) (F:Fr) (lp xb it mi clock B:Nat) (es:List aX) (k:Nat) (F':Fr) (S':AS):Prop:=
 ∃ L R:List aX,(L++R).Perm es∧S'.h.get it=some (.cK (.iter (some mi) clock (L.map (·.born)).reverse clock))∧S'.h.get lp=some (.cK (.loop .ready none F #[7] cA cB))∧S'.h.get xb=some (.row [fM B L] 0 0 false 69)∧oF S' B L ∧
  (L=[]→S'.next=P.next+1)∧(L≠[]→B<S'.next)∧P.next+1≤S'.next∧(∀ id,id<P.next→id≠lp→id≠xb→S'.h.get id=P.h.get id)∧sl F' 0=.obj .El lp∧sl F' 5=.ptr it 0 0 0∧F'.n=14∧F'.ds=[]∧k=R.length
set_option maxRecDepth 20000 in
set_option maxHeartbeats 1000000 in
theorem keys96 {P:AS} {F:Fr} {bx mi clock lp xb:Nat} {es:List aX} (hb:P.h.get bx=some (.row [.map mi] 0 0 false 60)) (hm:P.h.get mi=some (.map es clock)) (hw:l9 es clock) (hk:∀ e,e∈es→e.key=.str (fX e))
  (uX:bx<P.next) (pI:mi<P.next) (hxl:xb<P.next) (hll:lp<P.next) (hlx:lp≠xb) (hlm:mi≠lp) (hxm:mi≠xb) (hF:sl F 2=.ptr xb 0 0 1) (hFn:F.n=13)
  (hlp:P.h.get lp=some (.cK (.loop .ready none F #[7] cA cB))) (hxb:P.h.get xb=some (.row [.az] 0 0 false 69)) (hn:es.length≤1048576) :
  eB C0 96 [.obj .El lp,.ptr bx 0 0 1] P fun v T=>∃ L:List aX,L.Perm es∧T.h.get lp=some (.cK (.loop .ready none F #[7] cA cB))∧T.h.get xb=some (.row [fM (P.next+2) L] 0 0 false 69)∧oF T (P.next+2) L ∧
   (L≠[]→P.next+2<T.next)∧P.next+1≤T.next∧∀ id,id<P.next→id≠lp→id≠xb→T.h.get id=P.h.get id:=by
 have un60:bm C0 60=some (.map 9 101):=by kernel_rfl
 have hn96:Tryz.f96.ntmps=14:=by kernel_rfl
 refine tm (sr _) (ss _ rfl) fn96 rfl ok96 (by simp) fun F1 b7 hd hs=>?_;rw[hn96] at b7;have s0:=hs 0;have s1:=hs 1;clear hs;simp only[List.getElem?_cons_zero,List.getElem?_cons_succ,Option.getD_some] at s0 s1;have e0:=rangeV_map (cx:=C0) (S:=P) un60 hm;simp[s0,s1,hb,e0];refine CR (keysH P F lp xb P.next mi clock (P.next+2) es) es.length ⟨[],es,List.Perm.refl _,aa _ _ _,(ae _ _ (by omega)).trans hlp,(ae _ _ (by omega)).trans hxb,.inl rfl,fun _=>rfl,fun h=>absurd rfl h,Nat.le_refl _,
  fun id h1 _ _=>ae _ _ (by omega),by simp[s0],by simp,by simp[b7],by simp[j9,hd],rfl⟩ ?_
 rintro k F' S' hF' ⟨L,R,hp,hit,hlp',hxb',hc,h0,h1,nz,j5,t0,t5,nY,zd,hkR⟩;clear hF' s0 s1 e0;have eW:S'.h.get mi=some (.map es clock):=by rw[j5 mi pI hlm hxm];exact hm
 obtain ⟨aZ,dv⟩:=CO (S:=S') (id:=P.next) (m:=mi) (seen:=(L.map (·.born)).reverse) hw;have hnv:=nextV_map (l:=0) hit eW;have hpw:(L++R).Pairwise fun a b=>a.born≠b.born:=(hp.pairwise_iff (fun h=>Ne.symm h)).2 hw.2;simp[t5,hnv,runE_many];refine ⟨aZ,fun v T hy=>?_⟩;rcases dv _ hy with ⟨hye,hend⟩|⟨e,he,hes,hye⟩
 ·cases hye;have hR:R=[]:=by
   cases R with
   | nil=>rfl
   | cons r R=>
    exfalso;have hr:=hend r (hp.mem_iff.1 (by simp));simp only[List.mem_reverse,List.mem_map] at hr;obtain ⟨z,hz,hzr⟩:=hr;exact (List.pairwise_append.1 hpw).2.2 z hz r (List.mem_cons_self ..) hzr
  subst hR;rw[List.append_nil] at hp;simp;show jZ C0 Tryz.f96 _ _ (up (up F' _ _) _ _).ds S';rw[j9,j9,zd];exact ⟨rfl,L,hp,hlp',hxb',hc,fun h=>h1 h,nz,j5⟩
 ·unfold Am.vm at hye;cases hye;obtain ⟨R1,R2,rfl⟩:∃ R1 R2,R=R1++e :: R2:=List.append_of_mem (by
   rcases List.mem_append.1 (hp.mem_iff.2 he) with h|h
   ·exact absurd (List.mem_reverse.2 (List.mem_map.2 ⟨e,h,rfl⟩)) hes
   ·exact h)
  obtain ⟨S2,dW⟩:∃ S2:AS,S2=⟨S'.h.set P.next (.cK (.iter (some mi) clock (e.born :: (L.map (·.born)).reverse) clock)),S'.next⟩:=⟨_,rfl⟩
  have n2:S2.next=S'.next:=by rw[dW]
  have i2:S2.h.get P.next=some (.cK (.iter (some mi) clock (e.born :: (L.map (·.born)).reverse) clock)):=by rw[dW];exact aa _ _ _
  have o2:∀ id,id≠P.next→S2.h.get id=S'.h.get id:=fun id h=>by rw[dW];exact ae _ _ h
  have bS2:=dW.symm;clear dW;have hev:=entryV_map (l:=0) i2 ((o2 mi (by omega)).trans eW) hw.2 he rfl;have hke:=hk e he;have hlen:L.length<1048576:=by
   have:=hp.length_eq;simp at this;omega
  have hc2:oF S2 (P.next+2) L:=by
   rcases hc with h|h
   ·exact .inl h
   ·exact .inr ((o2 _ (by omega)).trans h)
  simp[t0,t5,bS2,hev,hke];refine round114 (B:=P.next+2) ((o2 lp (by omega)).trans hlp') hF hFn ((o2 xb (by omega)).trans hxb') hc2 (fun h=>by rw[n2,h0 h]) (fun h=>by rw[n2];exact h1 h) (by omega) (by omega) hlx (by omega) (by omega) hlen ?_;intro T g1 g2 g3 g4 g5 g6;simp[t0,t5];refine ⟨(R1++R2).length,by rw[hkR];simp,L++[e],R1++R2,?_,?_,g1,g2,g3,fun h=>by simp at h,fun _=>g4,by omega,fun id q1 q2 q3=>?_,by simp[t0],by simp[t5],by simp[nY],by simp[j9,zd],rfl⟩
  ·refine List.Perm.trans ?_ hp;simp only[List.append_assoc];refine List.Perm.append_left L ?_;show (e :: (R1++R2)).Perm _;exact List.perm_middle.symm
  ·rw[g6 _ (by omega) (by omega) (by omega) (by omega),i2];simp
  ·rw[g6 id (by omega) q2 q3 (by omega),o2 id (by omega)];exact j5 id q1 q2 q3
set_option maxRecDepth 20000 in
set_option maxHeartbeats 1000000 in
theorem append114 {bx mi clock:Nat} {es:List aX} (hb:S.h.get bx=some (.row [.map mi] 0 0 false 60)) (hm:S.h.get mi=some (.map es clock)) (hw:l9 es clock) (hk:∀ e,e∈es→e.key=.str (fX e))
  (hl:bx<S.next) (pI:mi<S.next) (hn:es.length≤1048576) :
  eB C0 114 [.az,.func (.func 96) [] [.ptr bx 0 0 1]] S fun v T=>∃ L:List aX,L.Perm es∧v=fM (S.next+5) L∧oF T (S.next+5) L∧Sub S T∧(L≠[]→S.next+5<T.next):=by
 refine tm (sr _) (ss _ rfl) fn114 rfl ok114 (by simp) fun F b7 hd hs=>?_;have s0:=hs 0;have s1:=hs 1;clear hs;simp only[List.getElem?_cons_zero,List.getElem?_cons_succ,Option.getD_some] at s0 s1;have hn114:Tryz.f114.ntmps=13:=by kernel_rfl
 rw[hn114] at b7;simp[s0,s1];obtain ⟨G,hG⟩:∃ G:Fr,G=up (up (up F (some 2) (.ptr S.next 0 0 1)) (some 4) .az) (some 6) (.func (.func 96) [] [.ptr bx 0 0 1]):=⟨_,rfl⟩
 have g2:sl G 2=.ptr S.next 0 0 1:=by rw[hG];simp
 have g6:eval G (.tmp 6)=.func (.func 96) [] [.ptr bx 0 0 1]:=by rw[hG];simp
 have gn:G.n=13:=by rw[hG];simp[b7]
 have gd:G.ds=[]:=by rw[hG];simp[j9,hd]
 rw[←hG];clear hG s0 s1;show BB C0 (.tmp 6) #[7] cA cB G _ _;refine ⟨by kernel_rfl,96,[],[.ptr bx 0 0 1],g6,?_⟩;obtain ⟨P,hP⟩:∃ P:AS,P=⟨((S.h.set S.next (.row [.az] 0 0 false 69)).set (S.next+1) (.cK (.ql true))).set (S.next+2) (.cK (.loop .ready none G #[7] cA cB)),S.next+3⟩:=⟨_,rfl⟩
 have nP:P.next=S.next+3:=by rw[hP]
 have pl:P.h.get (S.next+2)=some (.cK (.loop .ready none G #[7] cA cB)):=by rw[hP];exact aa _ _ _
 have pd:P.h.get (S.next+1)=some (.cK (.ql true)):=by rw[hP];exact (ae _ _ (by omega)).trans (aa _ _ _)
 have px:P.h.get S.next=some (.row [.az] 0 0 false 69):=by rw[hP];exact ((ae _ _ (by omega)).trans (ae _ _ (by omega))).trans (aa _ _ _)
 have po:∀ id,id<S.next→P.h.get id=S.h.get id:=fun id h=>by rw[hP];exact ((ae _ _ (by omega)).trans (ae _ _ (by omega))).trans (ae _ _ (by omega))
 have bP:(⟨((S.h.set S.next (.row [.az] 0 0 false 69)).set (S.next+1) (.cK (.ql true))).set (S.next+2) (.cK (.loop .ready none G #[7] cA cB)),S.next+3⟩:AS)=P:=hP.symm;clear hP;show eB C0 96 [.obj .El (S.next+2),.ptr bx 0 0 1] (⟨((S.h.set S.next (.row [.az] 0 0 false 69)).set (S.next+1) (.cK (.ql true))).set (S.next+2) (.cK (.loop .ready none G #[7] cA cB)),S.next+3⟩:AS) _;rw[bP];refine eB.mono (keys96 (F:=G) (xb:=S.next) ((po _ hl).trans hb) ((po _ pI).trans hm) hw hk (by omega) (by omega) (by omega) (by omega) (by omega) (by omega) (by omega) g2 gn pl px hn) ?_;rintro v T ⟨L,hp,q1,q2,q3,q4,q5,q6⟩;rw[nP] at q2 q3 q4 q5 q6;refine .inl ⟨.ready,G,#[7],cA,cB,by simp,q1,?_⟩;generalize hH:(⟨G.t,G.n,_⟩:Fr)=H;generalize hU:fG T _ _=U;have h2:sl H 2=.ptr S.next 0 0 1:=by rw[←hH];exact g2
 have zd:H.ds=[.mark (S.next+1)]:=by rw[←hH,gd]
 have uo:∀ id,id≠S.next+2→U.h.get id=T.h.get id:=fun id h=>by rw[←hU];exact ae _ _ h
 have un:U.next=T.next:=by rw[←hU];rfl
 clear hH hU;have ux:=(uo S.next (by omega)).trans q2;have ud:U.h.get (S.next+1)=some (.cK (.ql true)):=by rw[uo _ (by omega),q6 _ (by omega) (by omega) (by omega)];exact pd
 simp[h2,ux];show jZ C0 Tryz.f114 _ _ (up (up H _ _) _ _).ds U;rw[j9,j9,zd];refine ⟨ud,?_⟩;have mN:jU C0 (up (up H (some 12) (fM (S.next+5) L)) (some 4) (fM (S.next+5) L)) (fG U (S.next+1) (.ql false)) Tryz.f114.results.toList=some [fM (S.next+5) L]:=by
  rw[show Tryz.f114.results.toList=[.tmp 4] from by kernel_rfl,qP,qQ];simp
 show uD (Option.map _ _) _ _;rw[mN];have hnp:bD (fM (S.next+5) L)=false:=by unfold fM;split<;>rfl
 refine ⟨hnp,L,hp,rfl,?_,⟨fun id cY=>?_,?_⟩,fun h=>?_⟩
 ·rcases q3 with h|h
  ·exact .inl h
  ·refine .inr ?_;show (U.h.set (S.next+1) _).get _=_;rw[ae _ _ (by omega),uo _ (by omega)];exact h
 ·show (U.h.set (S.next+1) _).get _=_;rw[ae _ _ (by omega),uo _ (by omega),q6 _ (by omega) (by omega) (by omega)];exact po _ cY
 ·show S.next≤U.next
  omega
 ·show S.next+5<U.next
  have:=q4 h;omega
theorem colAt_num {T:AS} {B:Nat} {L:List aX} (h:oF T B L) (hn:L≠[]→B<T.next):aM T (fM B L) (L.map fX).toArray:=by
 have hk:lF (L.map fX).toArray.toList=kA L:=by simp[lF,kA,Function.comp_def]
 cases L with
 | nil=>exact ⟨Gw.nil,fun id cells low top frz ty hb hr=>by simp[fM,aG] at hb⟩
 | cons e L=>
  have qb:T.h.get B=some (.row (kA (e :: L)) 0 L.length false 9):=by
   rcases h with h|h
   ·cases h
   ·exact h
  have hlk:(kA (e :: L)).length=L.length+1:=by simp[kA]
  refine ⟨?_,fun id cells low top frz ty hb hr=>?_⟩
  ·rw[hk];exact Own.gw (lo:=0) (.inr ⟨B,L.length,0,L.length+1,by simp[fM],Nat.zero_le _,hn (by simp),qb,Nat.zero_le _,by rw[hlk];simp⟩)
  ·have uB:B+1=id+1:=by simpa[fM,aG] using hb
   obtain rfl:B=id:=by omega
   rw[qb] at hr;cases hr;rw[hlk];simp
theorem perm_of {d d':Array (List Nat)} (h:Sort.PermIn 0 d.size d d'):d'.toList.Perm d.toList:=by
 obtain ⟨h1,_,h3⟩:=h;have e1:d.extract 0 d.size=d:=by simp
 have e2:d'.extract 0 d.size=d':=by rw[←h1];simp
 rw[e1,e2] at h3;exact h3
def BJ (a b:List Nat):Bool:=!ns b a
theorem sorted_of {d:Array (List Nat)} (h:Sort.SortedIn aP 0 d.size d):d.toList.Pairwise (fun a b=>BJ a b=true):=by
 rw[List.pairwise_iff_getElem];intro i j hi hj gJ;simp only[Array.length_toList] at hi hj;have:=h i j (Nat.zero_le _) gJ hj;rw[getElem!_pos d i hi,getElem!_pos d j hj] at this;simp only[aP] at this;simp only[Array.getElem_toList,BJ,this,Bool.not_false]
theorem collect94 {bx mi clock:Nat} {es:List aX} (hb:S.h.get bx=some (.row [.map mi] 0 0 false 60)) (hm:S.h.get mi=some (.map es clock)) (hw:l9 es clock) (hk:∀ e,e∈es→e.key=.str (fX e))
  (hl:bx<S.next) (pI:mi<S.next) (hn:es.length≤1048576) :
  eB C0 94 [.func (.func 96) [] [.ptr bx 0 0 1]] S fun v T=>∃ L:List aX,L.Perm es∧v=fM (S.next+5) L∧oF T (S.next+5) L∧Sub S T∧(L≠[]→S.next+5<T.next):=by
 refine tm (sr _) (ss _ rfl) fn94 rfl ok94 (by simp) fun F b7 hd hs=>?_;have s0:=hs 0;clear hs;simp only[List.getElem?_cons_zero,Option.getD_some] at s0;simp[s0,gq];refine eB.mono (append114 hb hm hw hk hl pI hn) ?_;rintro v T ⟨L,h1,rfl,h2⟩;simp;show jZ C0 Tryz.f94 _ _ (Fr.ds _) T;simp only[j9,hd];have mN:∀ F:Fr,sl F 2=fM (S.next+5) L→jU C0 F T Tryz.f94.results.toList=some [fM (S.next+5) L]:=by
  intro F h;rw[show Tryz.f94.results.toList=[.tmp 2] from by kernel_rfl,qP,qQ,h];rfl
 show uD (Option.map _ _) _ _;rw[mN _ (by simp)];have hnp:bD (fM (S.next+5) L)=false:=by unfold fM;split<;>rfl
 exact ⟨hnp,L,h1,rfl,h2⟩
theorem fn62:C0.fns.get 62=some Tryz.f62:=by kernel_rfl
theorem ok62:codeOk C0 Tryz.f62.ntmps (Tryz.f62.body.getD .skip)=true:=by kernel_rfl
theorem sorted62 {bx mi clock:Nat} {es:List aX} (hb:S.h.get bx=some (.row [.map mi] 0 0 false 60)) (hm:S.h.get mi=some (.map es clock)) (hw:l9 es clock) (hk:∀ e,e∈es→e.key=.str (fX e))
  (hl:bx<S.next) (pI:mi<S.next) (hn:es.length≤1048576) :
  eB C0 62 [.func (.func 96) [] [.ptr bx 0 0 1]] S fun v T=>∃ d:Array (List Nat),d.toList.Perm (es.map fX)∧d.toList.Pairwise (fun a b=>BJ a b=true)∧Sub S T ∧
   ((d.size=0∧v=.az)∨(0<d.size∧v=.slice (S.next+5) (d.size-1) 0 d.size d.size 1 none∧(∃ low,low≤d.size-1∧T.h.get (S.next+5)=some (.row (lF d.toList) low (d.size-1) false 9))∧S.next+5<T.next)):=by
 refine tm (sr _) (ss _ rfl) fn62 rfl ok62 (by simp) fun F b7 hd hs=>?_;have s0:=hs 0;clear hs;simp only[List.getElem?_cons_zero,Option.getD_some] at s0;simp[s0,gq];refine eB.mono (collect94 hb hm hw hk hl pI hn) ?_;rintro v T ⟨L,h1,rfl,h2,h3,h4⟩;have hLn:L.length≤1048576:=by rw[h1.length_eq];exact hn
 have hnum:=colAt_num h2 h4;simp[gq];refine eB.mono (sort_sort hnum (by simpa using hLn)).each ?_;rintro r T2 ⟨rfl,d',p1,p2,p3,p4⟩;have eJ:d'.size=L.length:=by have:=p1.1;simpa using this
 simp;show jZ C0 Tryz.f62 _ _ (Fr.ds _) T2;simp only[j9,hd];have mN:∀ F:Fr,sl F 2=fM (S.next+5) L→jU C0 F T2 Tryz.f62.results.toList=some [fM (S.next+5) L]:=by
  intro F h;rw[show Tryz.f62.results.toList=[.tmp 2] from by kernel_rfl,qP,qQ,h];rfl
 show uD (Option.map _ _) _ _;rw[mN _ (by simp)];have hnp:bD (fM (S.next+5) L)=false:=by unfold fM;split<;>rfl
 have hperm:=perm_of p1;have dW:Sub S T2:=⟨fun id cY=>by
  rw[p4.h id (by have:=h3.next;omega) (by unfold fM;split<;>simp[aG];omega)];exact h3.h id cY,Nat.le_trans h3.next p4.next⟩
 refine ⟨hnp,d',hperm.trans (by simpa using h1.map fX),sorted_of (by rw[eJ];simpa using p2),dW,?_⟩;cases L with
 | nil=>exact .inl ⟨Array.eq_empty_of_size_eq_zero eJ,rfl⟩
 | cons e L=>
  refine .inr ⟨by rw[eJ];simp,by rw[eJ];rfl,?_,?_⟩
  ·obtain ⟨g1,g2⟩:=p3.gw;rcases g2 with h|⟨id,g,off,n,aq,cap,q1,q2,q3,cells,low,top,q4,q5,q6⟩
   ·simp[fM] at h
   ·have q1':AV.slice (S.next+5) L.length 0 (L.length+1) (L.length+1) 1 none=.slice id g off n aq 1 cap:=q1;cases q1';have nA:=p3.whole (S.next+5) cells low top false 9 (by simp[fM,aG]) q4;have hr:=g1.rd;have j7:cells=lF d'.toList:=by
     simp only[fM,List.length_cons,jH,df,q4,bR] at hr;rw[if_pos (by omega)] at hr;simp only[Option.some.injEq,List.drop_zero,Nat.mul_one] at hr;rw[←hr,List.take_of_length_le (by rw[nA,eJ];simp)]
    refine ⟨low,?_,?_⟩
    ·rw[eJ];simp;omega
    ·rw[q4,j7,eJ,←q6];simp
  ·have:=h4 (by simp);have:=p4.next
   omega
end
def tI (es:List aX):List (List Nat):=(es.map fX).mergeSort BJ
theorem risen_perm (es:List aX):(tI es).Perm (es.map fX):=List.mergeSort_perm _ _
theorem leS_trans (a b c:List Nat) (h1:BJ a b=true) (h2:BJ b c=true):BJ a c=true:=by
 unfold BJ at *;rcases sd a b with ⟨q1,_,_⟩|⟨_,rfl,_⟩|⟨_,_,q1⟩
 ·rcases sd b c with ⟨q2,_,_⟩|⟨_,rfl,_⟩|⟨_,_,q2⟩
  ·have:=qJ a b c q1 q2;rcases sd a c with ⟨_,_,q3⟩|⟨q3,_,_⟩|⟨q3,_,_⟩
   ·rw[q3];rfl
   ·rw[this] at q3;cases q3
   ·rw[this] at q3;cases q3
  ·exact h1
  ·rw[q2] at h2;cases h2
 ·exact h2
 ·rw[q1] at h1;cases h1
theorem leS_total (a b:List Nat):(BJ a b||BJ b a)=true:=by
 unfold BJ;rcases sd a b with ⟨_,_,q⟩|⟨_,_,q⟩|⟨q,_,_⟩<;>rw[q]<;>simp
theorem leS_anti {a b:List Nat} (h1:BJ a b=true) (h2:BJ b a=true):a=b:=by
 unfold BJ at *;rcases sd a b with ⟨q,_,_⟩|⟨_,q,_⟩|⟨_,_,q⟩
 ·rw[q] at h2;cases h2
 ·exact q
 ·rw[q] at h1;cases h1
theorem risen_pair (es:List aX):(tI es).Pairwise (fun a b=>BJ a b=true):=
 List.pairwise_mergeSort leS_trans leS_total (es.map fX)
theorem Cp {es:List aX} {l:List (List Nat)} (h1:l.Perm (es.map fX)) (h2:l.Pairwise (fun a b=>BJ a b=true)):l=tI es:=
 List.Perm.eq_of_pairwise (le:=fun a b=>BJ a b=true) (fun a b _ _ h1 h2=>leS_anti h1 h2) h2 (risen_pair es) (h1.trans (risen_perm es).symm)
def CH (S:AS) (l:List (List Nat)):AV×AS:=match l with
 | []=>(.az,S)
 | x :: l=>(.slice (S.next+5) l.length 0 (l.length+1) (l.length+1) 1 none,⟨S.h.set (S.next+5) (.row (lF (x :: l)) l.length l.length false 9),S.next+6⟩)
def Q62 (vs:List AV) (S:AS) (es:List aX):Prop:=
 ∃ bx mi clock,vs=[.func (.func 96) [] [.ptr bx 0 0 1]]∧S.h.get bx=some (.row [.map mi] 0 0 false 60)∧S.h.get mi=some (.map es clock)∧l9 es clock∧(∀ e,e∈es→e.key=.str (fX e))∧bx<S.next∧mi<S.next∧es.length≤1048576
theorem Q62.uniq {vs:List AV} {S:AS} {es es':List aX} (h:Q62 vs S es) (h':Q62 vs S es'):es=es':=by
 obtain ⟨bx,mi,clock,rfl,h1,h2,_⟩:=h;obtain ⟨bx',mi',clock',e,zh,jC,_⟩:=h';cases e;rw[h1] at zh;cases zh;rw[h2] at jC;cases jC;rfl
open Classical in
def q62 (vs:List AV) (S:AS):Option (AV×AS):=if h:∃ es,Q62 vs S es then some (CH S (tI h.choose)) else none
theorem q62_of {vs:List AV} {S:AS} {es:List aX} (h:Q62 vs S es):q62 vs S=some (CH S (tI es)):=by
 have hx:∃ es,Q62 vs S es:=⟨es,h⟩
 unfold q62;rw[dif_pos hx,hx.choose_spec.uniq h]
theorem wP:∀ l:List (List Nat),iB (dN 2) (lF l)=true
 | []=>rfl
 | x :: l=>by
  show (dN 2 (.str x)&&iB (dN 2) (lF l))=true;rw[wP l];rfl
theorem prim62 {Λ:LB} (hr:oD Tryz.prog A0) (hp:∀ x,x∈A0.cy→fk Λ Tryz.prog x.1 x.2) (hg:∀ x,x∈A0.fq→kk Λ.w Λ.B x.1 x.2):fk Λ Tryz.prog 62 q62:=by
 refine yJ (A:=A0) hr hp hg fun vs S v S' hq=>?_;have Er:=hq;unfold q62 at Er;split at Er
 case isFalse=>cases Er
 case isTrue h=>
  clear Er;obtain ⟨es,hQ⟩:=h;rw[q62_of hQ] at hq;obtain ⟨bx,mi,clock,rfl,h1,h2,h3,h4,h5,h6,h7⟩:=hQ;have hc:=sorted62 (S:=nr S [bx,mi]) (by rw[kc,if_pos (by simp)];exact h1) (by rw[kc,if_pos (by simp)];exact h2) h3 h4 h5 h6 h7;have nz:(nr S [bx,mi]).next=S.next:=rfl
  have hids:∀ T,Sub (nr S [bx,mi]) T→∀ i,i∈[bx,mi]→T.h.get i=S.h.get i:=by
   intro T hT i hi;have bF:i<S.next:=by
    simp only[List.mem_cons,List.not_mem_nil,or_false] at hi;rcases hi with rfl|rfl<;>assumption
   rw[hT.h i bF,kc,if_pos hi]
  cases hl:tI es with
  | nil=>
   rw[hl] at hq;cases hq;refine ⟨[bx,mi],(.az,none),S.next,rfl,rfl,Nat.le_refl _,(fun i o h=>(by cases h)),hc.mono ?_⟩;rintro v T ⟨d,d1,d2,d3,d4⟩;have hd:=Cp d1 d2;rcases d4 with ⟨_,rfl⟩|⟨jA,_⟩
   ·exact ⟨rfl,hids T d3,d3.next⟩
   ·exfalso;rw[hl] at hd;have:d.size=0:=by rw[←Array.length_toList,hd];rfl
    omega
  | cons x l=>
   rw[hl] at hq;cases hq;refine ⟨[bx,mi],(.slice (S.next+5) l.length 0 (l.length+1) (l.length+1) 1 none,some (S.next+5,.row (lF (x :: l)) l.length l.length false 9)),S.next+6,rfl,rfl,by omega,fun i o h=>?_,hc.mono ?_⟩
   ·cases h;exact ⟨by omega,by omega,_,_,_,rfl,wP _⟩
   rintro v T ⟨d,d1,d2,d3,d4⟩;have hd:=Cp d1 d2;rw[hl] at hd;have eJ:d.size=l.length+1:=by rw[←Array.length_toList,hd];rfl
   rcases d4 with ⟨h0,_⟩|⟨_,rfl,⟨low,w1,w2⟩,w3⟩
   ·omega
   ·rw[nz,eJ] at w2 ⊢;rw[nz] at w3;rw[eJ] at w1;rw[hd] at w2;simp only[Nat.add_sub_cancel] at w1 w2 ⊢;refine ⟨?_,hids T d3,by omega⟩;unfold pG;simp only[bX,w2];rw[decide_eq_true (show S.next≤S.next+5 by omega)];simp only[cond_true,wP,aT,decide_true,w1,Bool.and_self]
end Go.Proofs.YtgkdgiognhbfjaaGreatDoor.seg
namespace Go.Proofs.YtgkdgiognhbfjaaGreatDoor.dk
open Go Go.Am
structure Rc where
 n:Nat
 w:AV
 bs:List Nat
structure Pt where
 name:List Nat
 first:Nat
 w:AV
 rs:List Rc
def Rc.c (r:Rc):List AV:=[.int .u64 r.n,r.w]
def Pt.c (p:Pt):List AV:=[.str p.name,.int .u64 p.first,p.w]
end Go.Proofs.YtgkdgiognhbfjaaGreatDoor.dk
namespace Go.Proofs.YtgkdgiognhbfjaaGreatDoor.nw
open Go Go.Am Go.Proofs.YtgkdgiognhbfjaaGreatDoor.seg Go.Proofs.YtgkdgiognhbfjaaGreatDoor.dk
set_option linter.unusedVariables false
set_option linter.unusedSimpArgs false
attribute [local simp] zy
theorem fn50:C0.fns.get 50=some Tryz.f50:=by kernel_rfl
theorem ok50:codeOk C0 Tryz.f50.ntmps (Tryz.f50.body.getD .skip)=true:=by kernel_rfl
theorem fn84:C0.fns.get 84=some Tryz.f84:=by kernel_rfl
theorem ok84:codeOk C0 Tryz.f84.ntmps (Tryz.f84.body.getD .skip)=true:=by kernel_rfl
theorem fn113:C0.fns.get 113=some Tryz.f113:=by kernel_rfl
theorem ok113:codeOk C0 Tryz.f113.ntmps (Tryz.f113.body.getD .skip)=true:=by kernel_rfl
@[simp] theorem st63:rR C0 63=some (76,3,48):=by kernel_rfl
@[simp] theorem o8:rR C0 37=some (43,2,32):=by kernel_rfl
@[simp] theorem ag76:bp C0 76=some true:=by kernel_rfl
@[simp] theorem sz76:aD C0 76=some 3:=by kernel_rfl
@[simp] theorem ze76:zeroOf C0 76=some (.agg [.str [],.int .u64 0,.az]):=by kernel_rfl
@[simp] theorem fa76_2:fieldAt C0 76 2=some 2:=by kernel_rfl
@[simp] theorem ag37:bp C0 37=some false:=by kernel_rfl
@[simp] theorem sz37:aD C0 37=some 1:=by kernel_rfl
@[simp] theorem ag63:bp C0 63=some false:=by kernel_rfl
@[simp] theorem sz63:aD C0 63=some 1:=by kernel_rfl
@[simp] theorem fa65_2:fieldAt C0 65 2=some 2:=by kernel_rfl
@[simp] theorem fa43_0:fieldAt C0 43 0=some 0:=by kernel_rfl
@[simp] theorem Eg:bp C0 32=some false:=by kernel_rfl
@[simp] theorem sz32:aD C0 32=some 1:=by kernel_rfl
@[simp] theorem ze32:zeroOf C0 32=some (.int .u64 0):=by kernel_rfl
def cA : Code := (Code.region 2
                  #[{ dst := some 4, op := Op.alloc 76, type := 0, pos := "seglog.go:278", after := #[],
                      guard:=none },
                   { dst:=none,op:=Op.store 76 (Operand.tmp 4) (Operand.tmp 12),type:=0,
                     pos:="seglog.go:278",
                     after:=#[{ on:=0,ground:=Ground.data },{ on:=0,ground:=Ground.phase }],
                     guard:=none }]
                  false)
def cB : Code := (Code.block 1
                  ((Code.region 3
                        #[{ dst := some 13, op := Op.fieldAddr 76 (Operand.tmp 4) 2, type := 0, pos := "seglog.go:279",
                            after:=#[],guard:=none },
                         { dst:=some 14,op:=Op.load 37 (Operand.tmp 13),type:=37,pos:="seglog.go:279",
                           after:=#[{ on:=0,ground:=Ground.data }],guard:=none },
                         { dst:=some 15,
                           op:=
                            Op.call
                             { callee:=Callee.builtin Builtin.len,args:=#[Operand.tmp 14],argTypes:=#[37] },
                           type:=3,pos:="seglog.go:279",after:=#[{ on:=1,ground:=Ground.data }],
                           guard:=none },
                         { dst:=some 5,op:=Op.assign (Operand.tmp 15),type:=3,pos:="seglog.go:279",
                           after:=
                            #[{ on:=2,ground:=Ground.data },{ on:=0,ground:=Ground.phase },
                              { on:=1,ground:=Ground.phase },{ on:=2,ground:=Ground.phase }],
                           guard:=none }]
                        false).seq
                   ((Code.region 4
                         #[{ dst := some 16, op := Op.move (Operand.tmp 5), type := 3, pos := "seglog.go:279",
                             after:=#[],guard:=none },
                          { dst:=some 17,
                            op:=Op.binOp BinOp.gtr 3 (Operand.tmp 16) (Operand.const (Value.int IntKind.i64 0)) 3,
                            type:=4,pos:="seglog.go:279",after:=#[{ on:=0,ground:=Ground.data }],
                            guard:=none }]
                         false).seq
                    (Code.cond (Operand.tmp 17)
                     ((Code.region 5
                           #[{ dst := some 18, op := Op.fieldAddr 76 (Operand.tmp 4) 2, type := 0,
                               pos:="seglog.go:280",after:=#[],guard:=none },
                            { dst:=some 19,op:=Op.load 37 (Operand.tmp 18),type:=37,pos:="seglog.go:280",
                              after:=#[{ on:=0,ground:=Ground.data }],guard:=none },
                            { dst:=some 20,op:=Op.move (Operand.tmp 5),type:=3,pos:="seglog.go:280",
                              after:=#[],guard:=none },
                            { dst:=some 21,
                              op:=
                               Op.binOp BinOp.sub 3 (Operand.tmp 20) (Operand.const (Value.int IntKind.i64 1)) 3,
                              type:=3,pos:="seglog.go:280",after:=#[{ on:=2,ground:=Ground.data }],
                              guard:=none },
                            { dst:=some 22,op:=Op.indexAddr 37 (Operand.tmp 19) (Operand.tmp 21),type:=0,
                              pos:="seglog.go:280",
                              after:=#[{ on:=1,ground:=Ground.data },{ on:=3,ground:=Ground.data }],
                              guard:=none },
                            { dst:=some 23,op:=Op.fieldAddr 43 (Operand.tmp 22) 0,type:=0,
                              pos:="seglog.go:280",after:=#[{ on:=4,ground:=Ground.data }],
                              guard:=none },
                            { dst:=some 24,op:=Op.load 32 (Operand.tmp 23),type:=32,pos:="seglog.go:280",
                              after:=#[{ on:=5,ground:=Ground.data }],guard:=none },
                            { dst:=none,op:=Op.store 32 (Operand.tmp 2) (Operand.tmp 24),type:=0,
                              pos:="seglog.go:280",
                              after:=
                               #[{ on:=6,ground:=Ground.data },{ on:=0,ground:=Ground.phase },
                                 { on:=1,ground:=Ground.phase },{ on:=2,ground:=Ground.phase },
                                 { on:=3,ground:=Ground.phase },{ on:=4,ground:=Ground.phase },
                                 { on:=5,ground:=Ground.phase },{ on:=6,ground:=Ground.phase }],
                              guard:=none }]
                           false).seq
                      Code.ret)
                     Code.skip))))
def At (ps:List Pt):Nat:=match (ps.flatMap (·.rs)).getLast? with|some r=>r.n|none=>0
structure NwAt (S:AS) (lp:Nat) (pv:AV) (ps:List Pt):Prop where
 row:∃ a b d e f,S.h.get lp=some (.row [a,b,pv,d,e,f] 0 0 false 65)
 lt:lp<S.next
 sl:Sl S pv 3 (ps.flatMap Pt.c)
 len:ps.length≤1048576
 gk:∀ p,p∈ps→Sl S p.w 2 (p.rs.flatMap Rc.c)∧p.rs.length≤1048576
section
variable {S:AS}
theorem back84 {v:AV} (hv:cellsOf v=some [v]):∀ Q:AV→AS→Prop,ai C0 84 [v] S Q=Q (.func (.func 113) [] [.ptr S.next 0 0 1]) ⟨S.h.set S.next (.row [v] 0 0 false 63),S.next+1⟩:=fun Q=>by
 refine ai.eq (bc (sr _) (ss _ rfl) fn84 rfl ok84 (by simp) fun F hn s0=>?_);simp[s0,hv]
theorem fm2 (x:Rc):x.c.length=2:=rfl
theorem fm3 (x:Pt):x.c.length=3:=rfl
theorem round50 {lo lp xb:Nat} {F:Fr} {p:Pt} {j:Int} {K:AV→AS→Prop} (hlp:S.h.get lp=some (.cK (.loop .ready none F #[11,12] cA cB))) (hF:sl F 2=.ptr xb 0 0 1) (hn:F.n=25) (hx:S.h.get xb=some (.row [.int .u64 0] 0 0 false 32))
  (hxl:xb<S.next) (hll:lp<S.next) (hlx:lp≠xb) (h1:lo≤xb) (h2:lo≤lp) (hs:Sl S p.w 2 (p.rs.flatMap Rc.c)) (hb:aG p.w≤lo) (hl:p.rs.length≤1048576)
  (hK0:p.rs=[]→∀ T,T.h.get lp=some (.cK (.loop .ready none F #[11,12] cA cB))→(∀ id,id<S.next→id≠lp→T.h.get id=S.h.get id)→S.next≤T.next→K (.bool true) T)
  (hK1:∀ r,p.rs.getLast?=some r→∀ T,T.h.get lp=some (.cK (.loop .done (some .ret) F #[11,12] cA cB))→T.h.get xb=some (.row [.int .u64 r.n] 0 0 false 32)→(∀ id,id<S.next→id≠lp→id≠xb→T.h.get id=S.h.get id)→S.next≤T.next→K (.bool false) T) :
  tw C0 lp [.int .i64 j,.agg p.c] S K:=by
 refine roundR_of (F1:=up (up ⟨F.t,F.n,[]⟩ (some 11) (.int .i64 j)) (some 12) (.agg p.c)) hlp ?_ (by rw[kN,kN];show codeOk C0 F.n cA=true;rw[hn];kernel_rfl) (by rw[kN,kN];show codeOk C0 F.n cB=true;rw[hn];kernel_rfl) ?_
 ·show uk ⟨F.t,F.n,[]⟩ [11,12] [_,_]=_;unfold uk;simp[gR,hn,up,show Nat.blt 11 25=true from rfl,show Nat.blt 12 25=true from rfl]
 obtain ⟨G,hG⟩:∃ G:Fr,G=⟨F.t,F.n,[]⟩:=⟨_,rfl⟩
 have g2:sl G 2=.ptr xb 0 0 1:=by rw[hG];exact hF
 have gn:G.n=25:=by rw[hG];exact hn
 rw[←hG];unfold cA;have pc:p.c=[.str p.name,.int .u64 p.first,p.w]:=rfl;simp[pc];have aZ:¬lp=S.next:=by omega
 refine ⟨none,F,cA,cB,by rw[if_neg aZ,if_neg aZ];exact hlp,?_⟩;generalize cz:fG _ lp _=S1;have g1:S1.h.get S.next=some (.row [.str p.name,.int .u64 p.first,p.w] 0 0 false 76):=by rw[←cz];exact (ae _ _ (Ne.symm aZ)).trans (aa _ _ _)
 have n1:S1.next=S.next+1:=by rw[←cz];rfl
 have l1:S1.h.get lp=some (.cK (.loop .busy none F #[11,12] cA cB)):=by rw[←cz];exact aa _ _ _
 have o1:∀ id,id≠lp→id≠S.next→S1.h.get id=S.h.get id:=fun id q1 q2=>by rw[←cz];exact ((ae _ _ q1).trans (ae _ _ q2)).trans (ae _ _ q2)
 clear cz;have mM:Sl S1 p.w 2 (p.rs.flatMap Rc.c):=hs.aY (fun id e=>o1 id (by omega) (by omega)) (by omega);have u1:=hs.sl;have u2:sLen p.w=p.rs.length:=by have:=hs.len;rw[eG fm2] at this;omega
 have x1:=(o1 xb (Ne.symm hlx) (by omega)).trans hx;unfold cB;cases hq:p.rs.getLast? with
 | none=>
  have mP:p.rs=[]:=List.getLast?_eq_none_iff.1 hq;rw[mP] at u2;simp[g2,g1,u1,u2];refine ⟨.busy,none,F,#[11,12],cA,cB,l1,hK0 mP _ (aa _ _ _) (fun id q1 q2=>(ae _ _ q2).trans (o1 id q2 (by omega))) (by show S.next≤S1.next;omega)⟩
 | some r=>
  have jA:p.rs≠[]:=fun e=>by rw[e] at hq;cases hq
  have hlen:0<p.rs.length:=List.length_pos_iff.2 jA;obtain ⟨j,hj⟩:∃ j,j=p.rs.length-1:=⟨_,rfl⟩
  have hjr:p.rs[j]?=some r:=by rw[hj,←List.getLast?_eq_getElem?];exact hq
  have mQ:=fc (cx:=C0) (e:=32) (enc:=Rc.c) (o:=0) mM fm2 (by decide) hjr rfl Eg;have hw:IntKind.i64.wrap ((p.rs.length:Int)-1)=(j:Int):=by rw[IntWalk.i64_in _ (by omega)];omega
  have tM:j<p.rs.length:=by omega
  have hlI:(0:Int)<p.rs.length:=by omega
  have hjlI:(j:Int)<p.rs.length:=by omega
  have AI:isP (fH p.w j)=true:=mL u1 (by rw[u2];exact tM);have f0:eH (fH p.w j) (some 0)=some (jg (fH p.w j) 0):=cf AI;have Ep:vc S1 (.ptr xb 0 0 1) [.int .u64 r.n]=some ⟨S1.h.set xb (.row [.int .u64 r.n] 0 0 false 32),S1.next⟩:=by
   simp only[fP,kr,x1,fm];rw[if_pos ⟨trivial,by simp,trivial⟩];rfl
  simp[g2,g1,u1,u2,jA,hlen,hlI,hw,tM,hjlI,f0,mQ,Ep];refine ⟨.busy,none,F,#[11,12],cA,cB,by rw[if_neg hlx];exact l1,hK1 r hq _ (aa _ _ _) ((ae _ _ (Ne.symm hlx)).trans (aa _ _ _)) (fun id q1 q2 q3=>((ae _ _ q2).trans (ae _ _ q3)).trans (o1 id q2 (by omega))) (by show S.next≤S1.next;omega)⟩
def bwH (P:AS) (lp bx xb:Nat) (F:Fr) (ps:List Pt) (k:Nat) (F':Fr) (S':AS):Prop:=
 (∀ p,p∈ps.drop k→p.rs=[])∧k≤ps.length∧S'.h.get lp=some (.cK (.loop .ready none F #[11,12] cA cB))∧(∀ id,id<P.next→id≠lp→S'.h.get id=P.h.get id)∧P.next≤S'.next∧sl F' 0=.obj .El lp∧sl F' 1=.ptr bx 0 0 1∧sl F' 3=.int .i64 ((k:Int)-1)∧F'.n=19∧F'.ds=[]
def bwQ (P:AS) (lp xb:Nat) (F:Fr) (ps:List Pt) (T:AS):Prop:=
 (∀ id,id<P.next→id≠lp→id≠xb→T.h.get id=P.h.get id)∧P.next≤T.next ∧
   (((∀ p,p∈ps→p.rs=[])∧T.h.get lp=some (.cK (.loop .ready none F #[11,12] cA cB))∧T.h.get xb=some (.row [.int .u64 0] 0 0 false 32)) ∨
    (∃ a p b r,ps=a++p :: b∧(∀ q,q∈b→q.rs=[])∧p.rs.getLast?=some r∧T.h.get lp=some (.cK (.loop .done (some .ret) F #[11,12] cA cB))∧T.h.get xb=some (.row [.int .u64 r.n] 0 0 false 32)))
set_option maxRecDepth 20000 in
theorem back113 {P:AS} {lo lp xb bx:Nat} {F:Fr} {pv:AV} {ps:List Pt} (hlp:P.h.get lp=some (.cK (.loop .ready none F #[11,12] cA cB))) (hF:sl F 2=.ptr xb 0 0 1) (hn:F.n=25) (hx:P.h.get xb=some (.row [.int .u64 0] 0 0 false 32)) (hbx:P.h.get bx=some (.row [pv] 0 0 false 63))
  (hxl:xb<P.next) (hll:lp<P.next) (uX:bx<P.next) (hlx:lp≠xb) (Et:bx≠lp) (h1:lo≤xb) (h2:lo≤lp) (hs:Sl P pv 3 (ps.flatMap Pt.c)) (hpb:aG pv≤lo) (hl:ps.length≤1048576) (hr:∀ p,p∈ps→Sl P p.w 2 (p.rs.flatMap Rc.c)∧aG p.w≤lo∧p.rs.length≤1048576) :
  eB C0 113 [.obj .El lp,.ptr bx 0 0 1] P fun v T=>bwQ P lp xb F ps T:=by
 have nt113:Tryz.f113.ntmps=19:=by kernel_rfl
 have u1:=hs.sl;have u2:sLen pv=ps.length:=by have:=hs.len;rw[eG fm3] at this;omega
 have hw:IntKind.i64.wrap ((ps.length:Int)-1)=(ps.length:Int)-1:=IntWalk.i64_in _ (by omega);refine tm (sr _) (ss _ rfl) fn113 rfl ok113 (by simp) fun F1 b7 hd hs'=>?_;rw[nt113] at b7;have s0:=hs' 0;have s1:=hs' 1;clear hs';simp only[List.getElem?_cons_zero,List.getElem?_cons_succ,Option.getD_some] at s0 s1;simp[s0,s1,hbx,u1,u2,hw];refine CR (bwH P lp bx xb F ps) ps.length ⟨(fun p hp=>by rw[List.drop_length] at hp;cases hp),Nat.le_refl _,hlp,fun _ _ _=>rfl,Nat.le_refl _,by simp[s0],by simp[s1],by simp,by simp[b7],by simp[j9,hd]⟩ ?_;clear s0 s1 b7 hd hw;rintro k F' S' hF' ⟨hem,hk,hlp',j5,nz,s0,s1,s3,b7,hd⟩;clear hF';have hbx':=(j5 bx uX Et).trans hbx;have ma:=(j5 xb hxl (Ne.symm hlx)).trans hx;by_cases h0:k=0
 ·subst h0;have q:¬((0:Int)≤-1):=by omega
  simp[s0,s1,s3];show jZ C0 Tryz.f113 _ _ (Fr.ds _) S';simp only[j9,hd];exact ⟨rfl,fun id q1 q2 q3=>j5 id q1 q2,nz,.inl ⟨fun p hp=>hem p (by simpa using hp),hlp',ma⟩⟩
 ·obtain ⟨i,rfl⟩:∃ i,k=i+1:=⟨k-1,by omega⟩
  have e1:((i+1:Nat):Int)-1=(i:Int):=by omega
  rw[e1] at s3;have uA:i<ps.length:=by omega
  have AL:(i:Int)<ps.length:=by omega
  obtain ⟨p,hp⟩:∃ p,ps[i]?=some p:=⟨_,List.getElem?_eq_getElem uA⟩
  have rU:=List.mem_of_getElem? hp;have ag:∀ id,aG pv=id+1→S'.h.get id=P.h.get id:=fun id e=>j5 id (by omega) (by omega);have hsS:=hs.aY ag nz;have mQ:=eR (cx:=C0) (e:=76) (enc:=Pt.c) hsS fm3 (by decide) hp ag76 sz76;obtain ⟨r1,r2,r3⟩:=hr p rU;have hrS:=r1.aY (T:=S') (fun id e=>j5 id (by omega) (by omega)) nz;have xY:IntKind.i64.wrap ((i:Int)-1)=(i:Int)-1:=IntWalk.i64_in _ (by omega);simp[s0,s1,s3,hbx',u1,u2,uA,AL,mQ];refine round50 (lo:=lo) hlp' hF hn ma (by omega) (by omega) hlx h1 h2 hrS r2 r3 (fun mP T g1 g2 g3=>?_) (fun r hq T g1 g2 g3 g4=>?_)
  ·simp[s0,s1,s3,xY];refine ⟨i,by omega,fun q hq=>?_,by omega,g1,fun id q1 q2=>(g2 id (by omega) q2).trans (j5 id q1 q2),by omega,by simp[s0],by simp[s1],by simp,by simp[b7],by simp[j9,hd]⟩;have e2:ps.drop i=ps[i] :: ps.drop (i+1):=List.drop_eq_getElem_cons uA;rw[e2,(List.getElem?_eq_some_iff.1 hp).2] at hq;rcases List.mem_cons.1 hq with rfl|hq
   ·exact mP
   ·exact hem q hq
  ·simp[s0,s1,s3];show jZ C0 Tryz.f113 _ _ (Fr.ds _) T;simp only[j9,hd];refine ⟨rfl,fun id q1 q2 q3=>(g3 id (by omega) q2 q3).trans (j5 id q1 q2),by omega,.inr ⟨ps.take i,p,ps.drop (i+1),r,?_,hem,hq,g1,g2⟩⟩;have e2:ps.drop i=ps[i] :: ps.drop (i+1):=List.drop_eq_getElem_cons uA;rw[(List.getElem?_eq_some_iff.1 hp).2] at e2;rw[←e2,List.take_append_drop]
theorem res50 {F:Fr} {n:Int} {x:Nat} (h:sl F 2=.ptr x 0 0 1) (hl:S.h.get x=some (.row [.int .u64 n] 0 0 false 32)):jU C0 F S Tryz.f50.results.toList=some [.int .u64 n]:=by
 have e:Tryz.f50.results.toList=[.cell 2 32]:=by kernel_rfl
 rw[e];simp[h,hl]
theorem re {lp:Nat} {pv:AV} {ps:List Pt} (h:NwAt S lp pv ps):eB C0 50 [.ptr lp 0 0 6] S fun v T=>v=.int .u64 (At ps:Nat)∧Sub S T:=by
 obtain ⟨a,b,d,e,f,qb⟩:=h.row;have bF:=h.lt;have nt50:Tryz.f50.ntmps=25:=by kernel_rfl
 refine tm (sr _) (ss _ rfl) fn50 rfl ok50 (by simp) fun F hn hd hs=>?_;rw[nt50] at hn;have s0:=hs 0;clear hs;simp only[List.getElem?_cons_zero,Option.getD_some] at s0;have aZ:¬lp=S.next:=by omega
 obtain ⟨S1,cz⟩:∃ S1:AS,S1=⟨S.h.set S.next (.row [.int .u64 0] 0 0 false 32),S.next+1⟩:=⟨_,rfl⟩
 have n1:S1.next=S.next+1:=by rw[cz]
 have x1:S1.h.get S.next=some (.row [.int .u64 0] 0 0 false 32):=by rw[cz];exact aa _ _ _
 have o1:Sub S S1:=by rw[cz];exact cJ
 have jn:=cz.symm;clear cz;have hrow1:=(o1.h _ bF).trans qb;have e84:=fun Q=>callE_eq (back84 (S:=S1) h.sl.cells) Q;obtain ⟨S2,dW⟩:∃ S2:AS,S2=⟨S1.h.set S1.next (.row [pv] 0 0 false 63),S1.next+1⟩:=⟨_,rfl⟩
 have n2:S2.next=S.next+2:=by rw[dW];show S1.next+1=_;omega
 have b2:S2.h.get S1.next=some (.row [pv] 0 0 false 63):=by rw[dW];exact aa _ _ _
 have o2:Sub S1 S2:=by rw[dW];exact cJ
 rw[←dW] at e84;clear dW;simp[s0,jn,hrow1,gq,e84];generalize hG:up _ (some 10) (AV.func (.func 113) [] [.ptr S1.next 0 0 1])=G;have g2:sl G 2=.ptr S.next 0 0 1:=by rw[←hG];simp
 have g10:eval G (.tmp 10)=.func (.func 113) [] [.ptr S1.next 0 0 1]:=by rw[←hG];simp
 have gn:G.n=25:=by rw[←hG];simp[hn]
 have gd:G.ds=[]:=by rw[←hG];simp[j9,hd]
 clear hG s0;show BB C0 (.tmp 10) #[11,12] cA cB G _ _;refine ⟨by kernel_rfl,113,[],[.ptr S1.next 0 0 1],g10,?_⟩;obtain ⟨P,hP⟩:∃ P:AS,P=⟨(S2.h.set S2.next (.cK (.ql true))).set (S2.next+1) (.cK (.loop .ready none G #[11,12] cA cB)),S2.next+2⟩:=⟨_,rfl⟩
 have nP:P.next=S2.next+2:=by rw[hP]
 have pl:P.h.get (S2.next+1)=some (.cK (.loop .ready none G #[11,12] cA cB)):=by rw[hP];exact aa _ _ _
 have pd:P.h.get S2.next=some (.cK (.ql true)):=by rw[hP];exact (ae _ _ (by omega)).trans (aa _ _ _)
 have po:∀ id,id<S2.next→P.h.get id=S2.h.get id:=fun id h=>by rw[hP];exact (ae _ _ (by omega)).trans (ae _ _ (by omega))
 have bP:(⟨(S2.h.set S2.next (.cK (.ql true))).set (S2.next+1) (.cK (.loop .ready none G #[11,12] cA cB)),S2.next+2⟩:AS)=P:=hP.symm;clear hP;show eB C0 113 [.obj .El (S2.next+1),.ptr S1.next 0 0 1] (⟨(S2.h.set S2.next (.cK (.ql true))).set (S2.next+1) (.cK (.loop .ready none G #[11,12] cA cB)),S2.next+2⟩:AS) _;rw[bP];have sP:Sub S P:=⟨fun id hi=>(po id (by omega)).trans ((o1.trans o2).h id hi),by omega⟩
 refine eB.mono (back113 (lo:=S.next) (F:=G) (xb:=S.next) pl g2 gn ((po _ (by omega)).trans ((o2.h _ (by omega)).trans x1)) ((po _ (by omega)).trans b2) (by omega) (by omega) (by omega) (by omega) (by omega) (Nat.le_refl _) (by omega) (h.sl.toSub sP) h.sl.old h.len (fun p hp=>⟨(h.gk p hp).1.toSub sP,(h.gk p hp).1.old,(h.gk p hp).2⟩)) ?_;rintro v T ⟨q1,q2,q3⟩;rcases q3 with ⟨z1,z2,z3⟩|⟨l1,p,l2,r,z1,z2,z3,z4,z5⟩
 ·refine .inl ⟨.ready,G,#[11,12],cA,cB,by simp,z2,?_⟩;have ji:At ps=0:=by
   have:ps.flatMap (·.rs)=[]:=by
    rw[List.flatMap_eq_nil_iff];exact z1
   unfold At;rw[this];rfl
  rw[ji];generalize hH:(⟨G.t,G.n,_⟩:Fr)=H;generalize hU:fG T _ _=U;have h2:sl H 2=.ptr S.next 0 0 1:=by rw[←hH];exact g2
  have zd:H.ds=[.mark S2.next]:=by rw[←hH,gd]
  have uo:∀ id,id≠S2.next+1→U.h.get id=T.h.get id:=fun id h=>by rw[←hU];exact ae _ _ h
  have un:U.next=T.next:=by rw[←hU];rfl
  clear hH hU;have ux:=(uo S.next (by omega)).trans z3;have ud:U.h.get S2.next=some (.cK (.ql true)):=by rw[uo _ (by omega),q1 _ (by omega) (by omega) (by omega)];exact pd
  simp[h2,ux];show jZ C0 Tryz.f50 _ _ H.ds _;rw[zd];refine ⟨(ae _ _ (by omega)).trans ud,?_⟩;have mQ:(fG (⟨U.h.set S.next (.row [.int .u64 0] 0 0 false 32),U.next⟩:AS) S2.next (.ql false)).h.get S.next=some (.row [.int .u64 0] 0 0 false 32):=((ae _ _ (by omega)).trans (aa _ _ _))
  show uD (Option.map _ _) _ _;rw[res50 h2 mQ];exact ⟨rfl,rfl,⟨fun id hi=>((ae _ _ (by omega)).trans (ae _ _ (by omega))).trans ((uo id (by omega)).trans ((q1 id (by omega) (by omega) (by omega)).trans (sP.h id hi))),by show S.next≤U.next;omega⟩⟩
 ·refine .inr ⟨.done,G,#[11,12],cA,cB,by simp,z4,?_⟩;have ji:At ps=r.n:=by
   have h2:l2.flatMap (·.rs)=[]:=by rw[List.flatMap_eq_nil_iff];exact z2
   have:ps.flatMap (·.rs)=l1.flatMap (·.rs)++p.rs:=by rw[z1,List.flatMap_append,List.flatMap_cons,h2,List.append_nil]
   unfold At;rw[this,List.getLast?_append,z3];rfl
  rw[ji];generalize hH:(⟨G.t,G.n,_⟩:Fr)=H;generalize hU:fG T _ _=U;have h2:sl H 2=.ptr S.next 0 0 1:=by rw[←hH];exact g2
  have zd:H.ds=[.mark S2.next]:=by rw[←hH,gd]
  have uo:∀ id,id≠S2.next+1→U.h.get id=T.h.get id:=fun id h=>by rw[←hU];exact ae _ _ h
  have un:U.next=T.next:=by rw[←hU];rfl
  clear hH hU;have ux:=(uo S.next (by omega)).trans z5;have ud:U.h.get S2.next=some (.cK (.ql true)):=by rw[uo _ (by omega),q1 _ (by omega) (by omega) (by omega)];exact pd
  simp;show jZ C0 Tryz.f50 _ _ H.ds _;rw[zd];refine ⟨ud,?_⟩;have mQ:(fG U S2.next (.ql false)).h.get S.next=some (.row [.int .u64 r.n] 0 0 false 32):=((ae _ _ (by omega)).trans ux)
  show uD (Option.map _ _) _ _;rw[res50 h2 mQ];exact ⟨rfl,rfl,⟨fun id hi=>(ae _ _ (by omega)).trans ((uo id (by omega)).trans ((q1 id (by omega) (by omega) (by omega)).trans (sP.h id hi))),by show S.next≤U.next;omega⟩⟩
theorem callE_both {cx:Am.Cx} {f:FuncId} {vs:List AV} {S:AS} {Q Q':AV→AS→Prop} (h:eB cx f vs S Q) (h':eB cx f vs S Q'):∃ v T,Q v T∧Q' v T:=by
 obtain ⟨n,h⟩:=h;obtain ⟨m,h'⟩:=h';have h1:=(cZ (cx:=cx) (Nat.le_add_right n m) (.fn f) vs S).all h;have h2:=(cZ (cx:=cx) (Nat.le_add_left m n) (.fn f) vs S).all h';cases hc:bt cx (exec cx (n+m)) (.fn f) vs S with
 | err n=>rw[hc] at h1;exact h1.elim
 | ok x xs=>
  rw[hc] at h1 h2;exact ⟨x.1,x.2,h1.1.2,h2.1.2⟩
def Q50 (vs:List AV) (S:AS) (n:Nat):Prop:=∃ lp pv ps,vs=[.ptr lp 0 0 6]∧NwAt S lp pv ps∧n=At ps
theorem Q50.call {vs:List AV} {n:Nat} (h:Q50 vs S n):eB C0 50 vs S fun v T=>v=.int .u64 n∧Sub S T:=by
 obtain ⟨lp,pv,ps,rfl,h1,rfl⟩:=h;exact re h1
theorem Q50.uniq {vs:List AV} {n m:Nat} (h:Q50 vs S n) (h':Q50 vs S m):n=m:=by
 obtain ⟨v,T,⟨e1,_⟩,e2,_⟩:=callE_both h.call h'.call;rw[e1] at e2;injection e2 with _ e3;exact Int.ofNat.inj e3
open Classical in
def q50 (vs:List AV) (S:AS):Option (AV×AS):=if h:∃ n,Q50 vs S n then some (.int .u64 h.choose,S) else none
theorem q50_of {vs:List AV} {n:Nat} (h:Q50 vs S n):q50 vs S=some (.int .u64 n,S):=by
 have hx:∃ n,Q50 vs S n:=⟨n,h⟩
 unfold q50;rw[dif_pos hx,hx.choose_spec.uniq h]
theorem prim50 {Λ:LB} (hr:oD Tryz.prog A0) (hp:∀ x,x∈A0.cy→fk Λ Tryz.prog x.1 x.2) (hg:∀ x,x∈A0.fq→kk Λ.w Λ.B x.1 x.2):fk Λ Tryz.prog 50 q50:=by
 refine yJ (A:=A0) hr hp hg fun vs S v S' hq=>?_;have Er:=hq;unfold q50 at Er;split at Er
 case isFalse=>cases Er
 case isTrue h=>
  clear Er;obtain ⟨n,hQ⟩:=h;rw[q50_of hQ] at hq;cases hq;obtain ⟨lp,pv,ps,rfl,h1,rfl⟩:=hQ;obtain ⟨ids,hids⟩:∃ ids:List Nat,ids=lp :: (aG pv-1) :: ps.map fun p=>aG p.w-1:=⟨_,rfl⟩
  have m1:lp∈ids:=by rw[hids];exact List.mem_cons_self ..
  have m2:∀ id,aG pv=id+1→id∈ids:=fun id e=>by rw[hids,e];exact List.mem_cons_of_mem _ (List.mem_cons_self ..)
  have m3:∀ p,p∈ps→∀ id,aG p.w=id+1→id∈ids:=fun p hp id e=>by
   rw[hids];exact List.mem_cons_of_mem _ (List.mem_cons_of_mem _ (List.mem_map.2 ⟨p,hp,by rw[e];rfl⟩))
  have cg:∀ id,id∈ids→(nr S ids).h.get id=S.h.get id:=fun id hi=>by rw[kc,if_pos hi]
  have h2:NwAt (nr S ids) lp pv ps:=by
   obtain ⟨a,b,d,e,f,hr⟩:=h1.row;exact ⟨⟨a,b,d,e,f,(cg _ m1).trans hr⟩,h1.lt,h1.sl.aY (fun id e=>cg id (m2 id e)) (Nat.le_refl _),h1.len,fun p hp=>⟨(h1.gk p hp).1.aY (fun id e=>cg id (m3 p hp id e)) (Nat.le_refl _),(h1.gk p hp).2⟩⟩
  refine ⟨ids,(.int .u64 (At ps:Nat),none),S.next,rfl,rfl,Nat.le_refl _,(fun i o h=>(by cases h)),(re h2).mono ?_⟩;rintro v T ⟨rfl,hT⟩;refine ⟨rfl,fun i hi=>?_,hT.next⟩;have hl:i<S.next:=by
   have h0:=h1.lt;have hi2:=hi;rw[hids] at hi2;rcases List.mem_cons.1 hi2 with rfl|hi2
   ·exact h0
   ·rcases List.mem_cons.1 hi2 with rfl|hi2
    ·have:=h1.sl.old;omega
    ·obtain ⟨p,hp,rfl⟩:=List.mem_map.1 hi2;have:=(h1.gk p hp).1.old;omega
  exact (hT.h i hl).trans (cg i hi)
end
end Go.Proofs.YtgkdgiognhbfjaaGreatDoor.nw
end
