/-
  A log's Append.
-/
import Derived.Test.YtgkdgiognhbfjaaGreatDoorPartD
namespace Go.Proofs.YtgkdgiognhbfjaaGreatDoor.dk
open Go Go.Am Go.Proofs.YtgkdgiognhbfjaaGreatDoor.seg
set_option linter.unusedVariables false
set_option linter.unusedSimpArgs false
namespace PM
def qw (form:List Nat) (m:PM):Int×PM:=m.mH (m.d.append m.gm.name (aO form))
def push (data:List Nat) (m:PM):PM:={ m with ps:=m.ps.set (m.ps.length-1) { m.gm with rs:=m.gm.rs++[⟨m.next,data⟩] },next:=m.next+1 }
def dh (m:PM):Int×PM:=if 8≤m.gm.rs.length then m.ni else (0,m)
def append (data:List Nat) (m:PM):(Nat×Int)×PM:=
 if m.over then ((0,8),m)
 else if 1500<data.length then ((0,3),m)
 else if 1099511627776<m.next then ((0,1),m)
 else if m.dh.1≠0 then ((0,m.dh.1),m.dh.2)
 else if (bT [qw (fK m.next data)] m.dh.2).1≠0 then ((0,(bT [qw (fK m.next data)] m.dh.2).1),(bT [qw (fK m.next data)] m.dh.2).2)
 else ((m.next,0),(bT [qw (fK m.next data)] m.dh.2).2.push data)
variable {m:PM} {B:Nat}
theorem wf.qw (h:m.wf B) (form:List Nat):(m.qw form).2.wf B:=h.mH (h.d.append _ _)
theorem jF {α:Type} (k:PM→α) (hk:∀ m e,k (PM.iE m e)=k m):∀ {gs:List (PM→Int×PM)} {m:PM},(∀ g,g∈gs→∀ m,k (g m).2=k m)→k (bT gs m).2=k m
 | [],m,_=>rfl
 | g :: gs,m,h=>by
  unfold bT;have h1:=h g (List.mem_cons_self ..) m;split
  ·rw[jF k hk fun g' jJ=>h g' (List.mem_cons_of_mem _ jJ)];exact h1
  ·rw[hk];exact h1
theorem make_next:m.make.2.next=m.next:=by
 unfold make;split
 ·refine jF (fun m=>m.next) (fun _ _=>rfl) fun g hg m=>?_;simp only[List.mem_cons,List.not_mem_nil,or_false] at hg;rcases hg with rfl|rfl<;>rfl
 ·rfl
theorem roll_next:m.ni.2.next=m.next:=jF (fun m=>m.next) (fun _ _=>rfl) fun g hg m=>by
 simp only[List.mem_cons,List.not_mem_nil,or_false] at hg;rcases hg with rfl|rfl
 ·rfl
 ·exact make_next
theorem Co:m.dh.2.next=m.next:=by
 unfold dh;split
 ·exact roll_next
 ·rfl
theorem make_ne (h:m.ps≠[]):m.make.2.ps≠[]:=by
 unfold make;split
 ·unfold bT;split
  ·unfold bT;have e:(PM.uF (bM m.place m.next) (PM.fL (bM m.place m.next) m).2).1=0:=rfl;rw[if_pos e];show m.ps++_≠[];simp
  ·exact h
 ·exact h
theorem roll_ne (h:m.ps≠[]):m.ni.2.ps≠[]:=by
 unfold ni bT;split
 ·unfold bT;have h1:=make_ne (m:=m.ei.2) h;split
  ·exact h1
  ·exact h1
 ·exact h
theorem rollIf_ne (h:m.ps≠[]):m.dh.2.ps≠[]:=by
 unfold dh;split
 ·exact roll_ne h
 ·exact h
theorem wf.dh (h:m.wf B):m.dh.2.wf (B+1):=by
 unfold PM.dh;split
 ·exact h.ni
 ·exact h.mono (Nat.le_succ _)
end PM
theorem PM.one_try {g:PM→Int×PM} {m:PM} (h:(PM.bT [g] m).1=0):(g m).1=0∧(PM.bT [g] m).2=(g m).2:=by
 unfold PM.bT at h ⊢;split at h
 ·rename_i e;rw[if_pos e];exact ⟨e,rfl⟩
 ·rename_i e;exact absurd h e
section
variable {S T:AS} {L:Lg} {B:Nat}
theorem vZ (ne:L.ps≠[]):∃ p,L.ps.getLast?=some p∧L.ps[L.ps.length-1]?=some p∧p∈L.ps:=by
 cases e:L.ps.getLast? with
 | none=>exact absurd (List.getLast?_eq_none_iff.1 e) ne
 | some p=>
  have oV:L.ps[L.ps.length-1]?=some p:=by rw[←List.getLast?_eq_getElem?];exact e
  exact ⟨p,rfl,oV,List.mem_of_getElem? oV⟩
theorem nt40:Tryz.f40.ntmps=14:=by kernel_rfl
set_option maxRecDepth 20000 in
theorem app40 (h:bq S L) (wf:L.m.wf B) (hB:B≤1000000) (ne:L.ps≠[]) {a b:Nat} {v:AV} {form:List Nat} (hc:Cell S L a (.row [.ptr L.lp 0 0 6] 0 0 false 27)) (hb:Cell S L b (.row [v] 0 0 false 31)) (hv:Sl S v 1 (aO form)) (ho:Out L.aI v) (hf:form.length≤1000000):ai C1 40 [.ptr a 0 0 1,.ptr b 0 0 1] S (dE S L (L.m.qw form)):=by
 have hr:=h.row;have ha:=hc.get;have hbg:=hb.get;have hl:=kK wf;obtain ⟨p,hp,oV,hm⟩:=vZ ne;have hw:=pq wf hm;obtain ⟨p1,p2,p3,p4,p5⟩:=h.part oV;have e37:=fun Q=>v8 (Q:=Q) h ne (by omega);obtain ⟨r,T,hL,ec⟩:=(zC h.lQ wf.d (name:=p.name) hw.1 hw.2.1 hv (fun e=>ho _ e (.inr (.inr (.inl rfl)))) (by rw[bK];omega)).ex;have hg:=jL h hL;obtain ⟨rfl,_⟩:=hL;have hs:L.m.qw form=L.m.mH (L.D.pd.append p.name (aO form)):=by unfold PM.qw;rw[rk hp];rfl
 rw[hs];refine bH (dH _) (dL _ rfl) fn40 rfl ok40 (by simp) fun F hn s0 s1=>?_;rw[nt40] at hn;have f0:eH (fH L.pv (L.ps.length-1)) (some 0)=some (jg (fH L.pv (L.ps.length-1)) 0):=cf p1;have wk:=cF hv;simp;refine aF [.r 0 1,.p,.p,.r 0 1,.r 0 0,.e [],.p,.p,.r 0 0,.r 1 0,.e [],.p] (n:=14) (by kernel_rfl) (by simp[hn]) ?_;simp[s0,s1,ha,hbg,hr,bG,e37,p1,p2,f0,ec,wk];exact hg
theorem bu43s (n:Int) (a b c d e f:Nat) (g:Option Nat):mW C1 43 [(0,AV.int .u64 n),(1,.slice a b c d e f g)]=some (.agg [.int .u64 n,.slice a b c d e f g]):=by kernel_rfl
theorem bu43n (n:Int):mW C1 43 [(0,AV.int .u64 n),(1,.az)]=some (.agg [.int .u64 n,.az]):=by kernel_rfl
theorem bu43 {sz:Nat} {cs:List AV} {v:AV} (h:Sl S v sz cs) (n:Int):mW C1 43 [(0,AV.int .u64 n),(1,v)]=some (.agg [.int .u64 n,v]):=by
 rcases h.cases with rfl|⟨a,b,c,d,e,f,rfl⟩
 ·exact bu43n n
 ·exact bu43s ..
theorem mZ.len {P:Nat→Prop} {w:AV} {rs:List Rc} (h:mZ S P w rs):sLen w=rs.length:=by
 have:=h.sl.len;rw[eG (sz:=2) (fun _=>rfl)] at this;omega
def apM (S:AS) (L:Lg) (a b:Nat) (v w:AV) (data form:List Nat) (F':Fr) (S':AS):Prop:=
 ∃ L1,bq S' L1∧L1.m=L.m.dh.2∧aH L L1 S S'∧Cell S' L1 a (.row [.ptr L1.lp 0 0 6] 0 0 false 27)∧Cell S' L1 b (.row [w] 0 0 false 31)∧(Sl S' w 1 (aO form)∧Out L1.aI w)∧(Sl S' v 1 (aO data)∧Out L1.aI v) ∧
  sl F' 1=v∧sl F' 2=.ptr a 0 0 1∧sl F' 7=.ptr b 0 0 1∧F'.n=86∧L.m.dh.1=0
theorem nt10:Tryz.f10.ntmps=86:=by kernel_rfl
def GoneTo2 (S:AS) (L:Lg) (r:(Nat×Int)×PM) (u:AV) (T:AS):Prop:=u=.tuple [.int .u64 r.1.1,.int .i64 r.1.2]∧∃ L',bq T L'∧L'.m=r.2∧aH L L' S T
set_option maxRecDepth 20000 in
theorem append10 (h:bq S L) (wf:L.m.wf B) (hB:B≤900000) (ne:L.ps≠[]) {v:AV} {data:List Nat} (hv:Sl S v 1 (aO data)) (ho:Out L.aI v) (hb:∀ c,c∈data→c<256) (hd:data.length≤1500) (nz:L.next≤1099511627776) :
  ai C1 10 [.ptr L.lp 0 0 6,v] S (GoneTo2 S L (L.m.append data)):=by
 obtain ⟨S1,cz⟩:∃ S1:AS,S1=⟨S.h.set S.next (.row [.ptr L.lp 0 0 6] 0 0 false 27),S.next+1⟩:=⟨_,rfl⟩
 have s1:Sub S S1:=by rw[cz];exact cJ
 have n1:S1.next=S.next+1:=by rw[cz]
 have g1:S1.h.get S.next=some (.row [.ptr L.lp 0 0 6] 0 0 false 27):=by rw[cz];exact aa _ _ _
 have c1:Cell S1 L S.next (.row [.ptr L.lp 0 0 6] 0 0 false 27):=h.cell s1 g1 (Nat.le_refl _) (by omega)
 have jn:=cz.symm;have h1:=h.sub s1;have kW:=fun Q=>lY (Q:=Q) h1;have rT:=h1.row;have kB:L.m.over=L.over:=rfl;have q1:¬(1500<data.length):=by omega
 have q2:¬(1099511627776<L.m.next):=by show ¬(_<L.next);omega
 have hv1:=hv.toSub s1;have wn:=wf.nx;have wn1:1≤L.next:=wn.1
 have hm:gl L.next=true:=by unfold gl;simp;omega
 have hpe:sq L.next data.length=0:=by unfold sq;rw[hm,if_pos rfl,if_neg q1]
 have cv:cellsOf v=some [v]:=bd hv.sl;refine bH (dH _) (dL _ rfl) fn10 rfl ok10 (by simp) fun F hn s0 t1=>?_;rw[nt10] at hn;unfold PM.append;rw[if_neg q1,if_neg q2];cases hov2:L.over with
 | true=>
  rw[hov2] at kW kB;simp only[if_true] at kW;simp[s0,jn,g1,bG,kW,kB];exact ⟨rfl,L,h1,rfl,aH.of s1⟩
 | false=>
  rw[hov2] at kW kB;simp only[Bool.false_eq_true,if_false] at kW;obtain ⟨r,T2,⟨s2,AG⟩,e36⟩:=(put36 (n:=L.next) hv1 (by omega) hb (by omega)).ex;rw[hpe] at AG;rcases AG with ⟨h0,_⟩|⟨_,w,rfl,w1,w2⟩
  ·exact absurd rfl h0
  have b43:=fun n=>bu43 hv n;have q2I:¬((1099511627776:Int)<L.next):=by omega
  obtain ⟨T3,rv⟩:∃ T3:AS,T3=⟨(T2.h.set T2.next (.row [.az] 0 0 false 31)).set T2.next (.row [w] 0 0 false 31),T2.next+1⟩:=⟨_,rfl⟩
  have s3:Sub T2 T3:=by rw[rv];exact kx
  have s13:=s1.trans (s2.trans s3);have c2:Cell T3 L S.next (.row [.ptr L.lp 0 0 6] 0 0 false 27):=c1.fY (aH.of (s2.trans s3))
  have c3:Cell T3 L T2.next (.row [w] 0 0 false 31):=h.cell s13 (by rw[rv];exact aa _ _ _) (by have:=(s1.trans s2).next;omega) (by rw[rv];exact Nat.lt_succ_self _)
  have h3:=h.sub s13;have hr3:=h3.row;obtain ⟨p,hp,oV,rU⟩:=vZ ne;obtain ⟨p1,p2,p3,p4,p5⟩:=h3.part oV;have e37:=fun Q=>v8 (Q:=Q) h3 ne (by have:=kK wf;omega);have f2:eH (fH L.pv (L.ps.length-1)) (some 2)=some (jg (fH L.pv (L.ps.length-1)) 2):=cf p1;have tL:=h3.gk p rU;have pl:=tL.len;have psl:=tL.sl.sl;have bT3:=rv.symm;have c2g:=c2.get;have wsl:=w2.1;have wo:Out L.aI w:=Out.new h (by have:=s1.next;rcases w1 with q|q;exact .inl q;exact .inr (by omega));have nw:∀ id,aG w=id+1→T3.h.get id=T2.h.get id:=fun id e=>by rw[rv];have:=wsl.old;exact (ae _ _ (by omega)).trans (ae _ _ (by omega))
  have wsl3:Sl T3 w 1 (aO (fK L.next data)):=wsl.aY nw (by rw[rv];exact Nat.le_succ _);have hv3:=hv.toSub s13;rw[if_neg (show ¬(L.m.over=true) by rw[kB];decide)];simp[-bA,s0,t1,jn,g1,rT,bG,kW,kB,cv,b43,q2I,e36,bd w2.1.sl,bT3,c2g,hr3,e37,p1,f2,p4,pl,psl];rw[bA];simp[-bA,s0,t1,jn,g1,rT,bG,kW,kB,cv,b43,q2I,e36,bd w2.1.sl,bT3,c2g,hr3,e37,p1,f2,p4,pl,psl];rw[bA];simp[-bA,s0,t1,jn,g1,rT,bG,kW,kB,cv,b43,q2I,e36,bd w2.1.sl,bT3,c2g,hr3,e37,p1,f2,p4,pl,psl];rw[bA];simp[-bA,s0,t1,jn,g1,rT,bG,kW,kB,cv,b43,q2I,e36,bd w2.1.sl,bT3,c2g,hr3,e37,p1,f2,p4,pl,psl];refine iv (apM S L S.next T2.next v w data (fK L.next data)) ?_ ?_
  ·have hrl:L.m.gm.rs.length=p.rs.length:=by rw[rk hp];exact List.length_map ..
   by_cases h8:8≤p.rs.length
   ·have h8I:(8:Int)≤p.rs.length:=by omega
    have hri:L.m.dh=L.m.ni:=by unfold PM.dh;rw[hrl,if_pos h8]
    obtain ⟨r,T4,⟨rfl,L4,q4,q5,q6⟩,e38⟩:=(roll38 h3 wf (by omega) ne hm).ex;have hev:=(aH.of s13:aH L L S T3).trans q6;by_cases h0:L.m.ni.1=0
    ·rw[h0] at e38;simp[h8I,c2g,bG,e38];exact ⟨L4,q4,by rw[q5,hri],hev,Cell.lp (c:=fun x=>.row [.ptr x 0 0 6] 0 0 false 27) c2 q6,c3.fY q6,Sl.fY wsl3 wo q6,Sl.fY hv3 ho q6,by simp[t1],by simp,by simp,by simp[hn],by rw[hri];exact h0⟩
    ·simp[h8I,c2g,bG,e38,h0];rw[hri,if_neg h0];exact ⟨rfl,L4,q4,q5,hev⟩
   ·have h8I:¬((8:Int)≤p.rs.length):=by omega
    have hri:L.m.dh=(0,L.m):=by unfold PM.dh;rw[hrl,if_neg h8]
    simp[h8I];exact ⟨L,h3,by rw[hri],aH.of s13,c2,c3,⟨wsl3,wo⟩,⟨hv3,ho⟩,by simp[t1],by simp,by simp,by simp[hn],by rw[hri]⟩
  clear e36 kW e37 p1 p2 p3 p4 p5 f2 c2g hr3 bT3 h3 nw wsl wsl3 hv3 wo pl psl tL c2 c3 s13 s3 rv T3 rT jn g1 c1 h1 s2 w1 w2 s0 t1 hn;rintro F1 T ⟨L1,h1,hm1,he,c1,c2,⟨wsl,wo⟩,⟨vsl,vo⟩,t1,t2,t7,hn,uy⟩;have wf1:L1.m.wf (B+1):=by rw[hm1];exact wf.dh
  have BI:L1.ps≠[]:=fun e=>by
   have:=PM.rollIf_ne (m:=L.m) (fun e=>ne (List.map_eq_nil_iff.1 e));rw[←hm1] at this;exact this (by show L1.ps.map Pt.p=[];rw[e];rfl)
  have hnx1:L1.next=L.next:=by
   have:L1.m.next=L.m.next:=by rw[hm1];exact PM.Co
   exact this
  obtain ⟨a,ha⟩:∃ a,a=S.next:=⟨_,rfl⟩
  obtain ⟨b,Dj⟩:∃ b,b=T2.next:=⟨_,rfl⟩
  rw[←ha] at c1 t2;rw[←Dj] at c2 t7;have hlp1:L1.lp=L.lp:=he.lp;have gp:∀ (F:Fr) (B:Nat) (x0:Tmp),sl F x0=.func (.func 40) [] [.ptr a 0 0 1,.ptr b 0 0 1]→al C1 F B (.buildSlice 122 1 #[(0,.tmp x0)])=some (.slice B 0 0 1 1 1 (some 1),.row [.func (.func 40) [] [.ptr a 0 0 1,.ptr b 0 0 1]] 0 0 false 45):=fun F B x0 a0=>fresh1 a0;obtain ⟨S4,oe⟩:∃ S4:AS,S4=⟨T.h.set T.next (.row [.func (.func 40) [] [.ptr a 0 0 1,.ptr b 0 0 1]] 0 0 false 45),T.next+1⟩:=⟨_,rfl⟩
  have s4:Sub T S4:=by rw[oe];exact cJ
  have ze:=h1.sub s4;have hvf:Sl S4 (.slice T.next 0 0 1 1 1 (some 1)) 1 [.func (.func 40) [] [.ptr a 0 0 1,.ptr b 0 0 1]]:=by rw[oe];exact oh (fs:=[_]) (by simp)
  have c14:=c1.fY (aH.of s4);have c24:=c2.fY (aH.of s4);obtain ⟨wsl4,wo4⟩:=Sl.fY wsl wo (aH.of s4);have mf:(fK L.next data).length≤1000000:=by
   unfold fK;rw[wL];unfold recB;rw[List.length_append];have:=nQ 9 L.next (by omega);omega
  have ht:=jN (gs:=[PM.qw (fK L.next data)]) ze hvf (Out.new h1 (.inr (by show T.next<T.next+1;omega))) (by simp) (by
   refine eh aH.refl (bG _ rfl) (first:=[]) (app40 ze wf1 (by omega) BI c14 c24 wsl4 wo4 mf) fun h0 U L2 k1 k2 k3=>?_;exact jO k1 k3)
  obtain ⟨r,T5,⟨rfl,L5,q1,q2,q3⟩,e39⟩:=ht.ex;have hev5:=he.trans ((aH.of s4:aH L1 L1 T S4).trans q3);have zB:=oe.symm;have c1g:=c1.get;rw[if_pos uy];have hnm:L.m.next=L.next:=rfl
  rw[hnm,←hm1];simp only[aJ,ks];simp[-bA,t1,t2,t7,c1g,bG,gp,zB,e39];by_cases h0:(PM.bT [PM.qw (fK L.next data)] L1.m).1=0
  ·have mO:=(PM.one_try h0).2;rw[if_pos h0];rw[mO] at q2 ⊢;have wf5:L5.m.wf (B+1):=by rw[q2];exact wf1.qw _
   have gI:L5.ps.map Pt.p=L1.ps.map Pt.p:=by
    have:L5.m.ps=L1.m.ps:=by rw[q2];rfl
    exact this
   have ne5:L5.ps≠[]:=fun e=>BI (by rw[e] at gI;exact List.map_eq_nil_iff.1 gI.symm);have hn5:L5.next=L.next:=by
    have:L5.m.next=L1.m.next:=by rw[q2];rfl
    exact (show L5.next=L1.next from this).trans hnx1
   have c5:=(c14.fY q3).get;rw[←q3.lp] at c5;have hr5:=q1.row;rw[hn5] at hr5;obtain ⟨p5,hp5,hpi5,hpm5⟩:=vZ ne5;obtain ⟨p1,p2,p3,p4,_⟩:=q1.part hpi5;have e37:=fun Q=>v8 (Q:=Q) q1 ne5 (by have:=kK wf5;omega);have tL:=q1.gk p5 hpm5;have eV:=(pq wf5 hpm5).2.2.2.1;have hpl2:p5.rs.length≤B+1:=by rw[show p5.p.rs.length=p5.rs.length from List.length_map ..] at eV;exact eV
   obtain ⟨v6,T6,⟨s6,g6,l6,n6⟩,e42⟩:=(clone42 tL.sl (by rw[tL.len];omega)).ex;obtain ⟨vsl5,vo5⟩:=Sl.fY (Sl.fY vsl vo (aH.of s4)).1 vo q3;have hvl:=vsl5.gX;rw[bK] at hvl;obtain ⟨d7,T7,⟨s7,g7,l7,n7⟩,e35⟩:=(Bc (vsl5.toSub s6) (by rw[hvl];omega)).ex;obtain ⟨T8,hT8⟩:∃ T8:AS,T8=⟨T7.h.set T7.next (.row [.int .u64 L.next,d7] 0 0 false 43),T7.next+1⟩:=⟨_,rfl⟩
   have s8:Sub T7 T8:=by rw[hT8];exact cJ
   have cd7:cellsOf d7=some [d7]:=bd g7.1.sl;have hx8:Sl T8 (.slice T7.next 0 0 1 2 2 (some 1)) 2 [.int .u64 L.next,d7]:=by
    refine ⟨by simp[isSl,ez],?_,by simp[sLen],by simp[aG,hT8]⟩;rw[hT8];simp[jH,df,aa,bR]
   have g8:=g6.aY (T:=T8) (fun id e=>(s7.trans s8).h id (by have:=g6.1.old;omega)) (s7.trans s8).next
   obtain ⟨v9,T9,e9,r1,r2,r3,r4,r5,r6,r7⟩:=ff (cx:=C1) (ts:=[]) (u:=37) (p:=(43,2,32)) o8 un37 rfl g8 hx8 (by rw[l6,tL.len];simp[fits,bX,cu];omega);have hn6:aG v6=0∨T5.next<aG v6:=n6
   have hn7:aG d7=0∨T6.next<aG d7:=n7
   have s58:=s6.trans (s7.trans s8);have s9:Sub T5 T9:=⟨fun id hi=>by
    have hq:=s58.next
    rw[r2 id (by omega) (by rcases hn6 with q|q<;>omega)];exact s58.h id hi,Nat.le_trans s58.next r3⟩
   have hn9:nf T5.next v9:=by
    rcases r6 with q|q
    ·unfold nf;rw[q];exact hn6
    ·exact .inr (by have:=s58.next;omega)
   have h9:=q1.sub s9;have hr9:mZ T9 L5.aI v9 (p5.rs++[⟨L.next,d7,data⟩]):=by
    refine ⟨by rw[List.flatMap_append];exact r1.1,Out.new q1 hn9,fun r hr=>?_⟩;rcases List.mem_append.1 hr with hr|hr
    ·exact (tL.go (fun id hi _=>s9.h id hi) s9.next (fun _ _ h=>h)).data r hr
    ·simp at hr;subst hr;refine ⟨g7.1.aY (fun id e=>?_) (Nat.le_trans s8.next r3),Out.new q1 (by have:=s6.next;rcases hn7 with q|q;exact .inl q;exact .inr (show T5.next<aG d7 by omega))⟩;have:=g7.1.old;have:=g6.1.old;have e:aG d7=id+1:=e;have:=s8.next
     rw[r2 id (by omega) (by rcases hn7 with q|q<;>omega)];exact s8.h id (by omega)
   obtain ⟨T10,e10,k1,k2,k3⟩:=h9.setPart hpi5 hr9;have hr10:=k1.row;have hev10:=(aH.of s9:aH L5 L5 T5 T9).trans k2;have hr10':T10.h.get L5.lp=some (.row [.ptr L5.D.dp 0 0 4,.int .i64 L5.place,L5.pv,.int .u64 L.next,.int .u64 L5.jk,.bool L5.over] 0 0 false 65):=by rw[←hn5];exact hr10
   have Ep:=fun (x:AV)=>set_next (x:=x) hr10';have c10:=((c14.fY q3).fY hev10).get;rw[←q3.lp] at c10;have hw:IntKind.u64.wrap ((L.next:Int)+1)=((L.next+1:Nat):Int):=by rw[show ((L.next:Int)+1)=((L.next+1:Nat):Int) by omega];exact kv (by omega)
   obtain ⟨z,hz⟩:∃ z,z=L.next+1:=⟨_,rfl⟩
   rw[←hz] at hw;obtain ⟨k4,k5⟩:=k1.fld (L':={ L5 with ps:=L5.ps.set (L5.ps.length-1) { p5 with w:=v9,rs:=p5.rs++[⟨L.next,d7,data⟩] },next:=z }) rfl rfl rfl rfl;have hfr9:∀ (F:Fr) (B:Nat) (x:Tmp),sl F x=.agg [.int .u64 L.next,d7]→al C1 F B (.buildSlice 37 1 #[(0,.tmp x)])=some (.slice B 0 0 1 2 2 (some 1),.row [.int .u64 L.next,d7] 0 0 false 43):=by
    intro F B x a0;have:=cL (cx:=C1) (F:=F) (t:=37) (p:=(43,2,32)) (id:=B) (n:=1) (a:=#[(0,.tmp x)]) [[.int .u64 L.next,d7]] o8 rfl (by simp[a0,cellsOf]) (by simp) (by decide);exact this
   have f2:eH (fH L5.pv (L5.ps.length-1)) (some 2)=some (jg (fH L5.pv (L5.ps.length-1)) 2):=cf p1;have b43':=fun n=>bu43 g7.1 n;have bT8:=hT8.symm;have wk6:=cF g6.1;rw[bA];simp[-bA,t1,t2,t7,h0,c5,hr5,bG,e37,p1,f2,p4,e42,e35,b43',hfr9,bT8,e9,e10,bd r1.1.sl,c10,hr10',hw,Ep];refine ⟨rfl,_,k4,?_,(hev5.trans hev10).trans k5⟩;rw[←q2];unfold PM.push;rw[rk hp5];show PM.mk _ _ _ _ _ _=PM.mk _ _ _ _ _ _;congr 1
   ·show (L5.ps.set _ _).map Pt.p=(L5.ps.map Pt.p).set ((L5.ps.map Pt.p).length-1) _;rw[List.map_set,List.length_map];congr 1;show Pt.p _=_;unfold Pt.p;simp only[List.map_append,PP.mk.injEq,true_and];show _++[PR.mk L.next data]=_++[PR.mk L5.next data];rw[hn5]
   ·rw[hz,←hn5];rfl
  ·rw[if_neg h0];rw[bA];simp[h0];exact ⟨rfl,L5,q1,q2,hev5⟩
end
end Go.Proofs.YtgkdgiognhbfjaaGreatDoor.dk
namespace Go.Proofs.YtgkdgiognhbfjaaGreatDoor.dk
open Go Go.Am Go.Proofs.YtgkdgiognhbfjaaGreatDoor.seg
set_option linter.unusedVariables false
set_option linter.unusedSimpArgs false
section
variable {S T:AS} {L:Lg} {B:Nat}
theorem nan74 {n:Nat}:∀ Q:AV→AS→Prop,ai C1 74 [.int .u64 n] S Q=Q (.bool false) S:=fun Q=>by
 refine ai.eq (bc (dH _) (dL _ rfl) fn74 rfl ok74 (by simp) fun F hn s0=>?_);simp[s0]
def yd (n m:Nat):Int:=if n<m then -1 else if m<n then 1 else 0
theorem cmp34 {n m:Nat}:∀ Q:AV→AS→Prop,ai C1 34 [.int .u64 n,.int .u64 m] S Q=Q (.int .i64 (yd n m)) S:=fun Q=>by
 have e1:=nan74 (S:=S) (n:=n);have e2:=nan74 (S:=S) (n:=m);refine ai.eq (bH (dH _) (dL _ rfl) fn34 rfl ok34 (by simp) fun F hn s0 s1=>?_);unfold yd;by_cases h1:n<m
 ·have q1:(n:Int)<m:=by omega
  simp[s0,s1,bG,e1,e2,h1,q1]
 ·have q1:¬((n:Int)<m):=by omega
  by_cases h2:m<n
  ·have q2:(m:Int)<n:=by omega
   simp[s0,s1,bG,e1,e2,h1,q1,h2,q2]
  ·have q2:¬((m:Int)<n):=by omega
   simp[s0,s1,bG,e1,e2,h1,q1,h2,q2]
theorem at33 {n m:Nat} {w:AV} (hw:cellsOf w=some [w]):ai C1 33 [.agg [.int .u64 n,w],.int .u64 m] S fun r T=>r=.int .i64 (yd n m)∧Sub S T:=by
 obtain ⟨S1,cz⟩:∃ S1:AS,S1=⟨S.h.set S.next (.row [.int .u64 n,w] 0 0 false 43),S.next+1⟩:=⟨_,rfl⟩
 have s1:Sub S S1:=by rw[cz];exact cJ
 have g1:S1.h.get S.next=some (.row [.int .u64 n,w] 0 0 false 43):=by rw[cz];exact aa _ _ _
 have e1:=cmp34 (S:=S1) (n:=n) (m:=m);have bS:=cz.symm;refine bH (dH _) (dL _ rfl) fn33 rfl ok33 (by simp) fun F hn s0 t1=>?_;simp[s0,t1,bS,g1,bG,e1];exact s1
def Rise (rs:List Rc):Prop:=rs.Pairwise fun a b=>a.n<b.n
def cutAt (rs:List Rc) (m k:Nat):Prop:=k≤rs.length∧(∀ i r,rs[i]?=some r→i<k→r.n<m)∧(∀ i r,rs[i]?=some r→k≤i→m≤r.n)
theorem DI:∀ {rs:List Rc} {m k:Nat},cutAt rs m k→rs.drop k=rs.dropWhile fun r=>decide (r.n<m)
 | [],m,k,h=>by simp
 | r :: rs,m,0,h=>by
  have:=h.2.2 0 r rfl (Nat.le_refl _);rw[List.dropWhile_cons,if_neg (by simp;omega)];rfl
 | r :: rs,m,k+1,h=>by
  have h0:=h.2.1 0 r rfl (by omega);rw[List.dropWhile_cons,if_pos (by simp;omega)];exact DI ⟨by have:=h.1;simp at this;exact this,fun i x hx hi=>h.2.1 (i+1) x (by simpa using hx) (by omega),fun i x hx hi=>h.2.2 (i+1) x (by simpa using hx) (by omega)⟩
theorem nt32:Tryz.f32.ntmps=49:=by kernel_rfl
def bsH (S:AS) (v:AV) (rs:List Rc) (m:Nat) (k:Nat) (F':Fr) (S':AS):Prop:=
 ∃ lo hi:Nat,Sub S S'∧lo≤hi∧hi≤rs.length∧(∀ i r,rs[i]?=some r→i<lo→r.n<m)∧(∀ i r,rs[i]?=some r→hi≤i→m≤r.n) ∧
  sl F' 0=v∧sl F' 1=.int .u64 m∧sl F' 2=.func (.func 33) [] []∧sl F' 8=.int .i64 rs.length∧sl F' 9=.int .i64 lo∧sl F' 10=.int .i64 hi∧F'.n=49∧k=hi-lo
theorem rise_lt {rs:List Rc} (h:Rise rs) {i j:Nat} {a b:Rc} (hi:rs[i]?=some a) (hj:rs[j]?=some b) (gJ:i<j):a.n<b.n:=by
 obtain ⟨h1,e1⟩:=List.getElem?_eq_some_iff.1 hi;obtain ⟨h2,e2⟩:=List.getElem?_eq_some_iff.1 hj;have:=List.pairwise_iff_getElem.1 h i j h1 h2 gJ;rw[e1,e2] at this;exact this
theorem shr1 (n:Nat) (t:TypeId) (c:Bool):br C1 .shr t c (.int .u64 n) (.int .u64 1)=some (.int .u64 ((n / 2:Nat):Int)):=iS (s:=1) (by decide)
set_option maxRecDepth 20000 in
theorem search32 {P:Nat→Prop} {v:AV} {rs:List Rc} {m:Nat} (hr:mZ S P v rs) (hs:Rise rs) (hl:rs.length≤1000000):ai C1 32 [v,.int .u64 m,.func (.func 33) [] []] S fun r T=>Sub S T∧∃ k b,r=.tuple [.int .i64 (k:Nat),.bool b]∧cutAt rs m k:=by
 have hv:=hr.sl;have u1:=hv.sl;have u2:=hr.len;refine fZ (dH _) (dL _ rfl) fn32 rfl ok32 (by simp) fun F hn s0 s1 s2=>?_;rw[nt32] at hn;simp[s0,s1,s2,u1,u2];refine ay (bsH S v rs m) rs.length ⟨0,rs.length,Sub.refl _,Nat.zero_le _,Nat.le_refl _,fun i r _ h=>absurd h (Nat.not_lt_zero _),fun i r h1 h2=>absurd (List.getElem?_eq_some_iff.1 h1).1 (by omega),by simp[s0],by simp[s1],by simp[s2],by simp[u2],by simp,by simp[u2],by simp[hn],rfl⟩ ?_;clear s0 s1 s2 hn u1;rintro k F' S' b7 ⟨lo,hi,hS,h1,h2,h3,h4,s0,s1,s2,s8,s9,gA,hn,hk⟩;clear b7;have hv':=hv.toSub hS;have u1:=hv'.sl;have hz:∀ x:Rc,x.c.length=2:=fun _=>rfl;by_cases bF:lo<hi
 ·have hltI:(lo:Int)<hi:=by omega
  obtain ⟨mid,hmid⟩:∃ mid,mid=(lo+hi) / 2:=⟨_,rfl⟩
  have hm1:lo≤mid:=by omega
  have uz:mid<hi:=by omega
  have pI:mid<rs.length:=by omega
  obtain ⟨x,hx⟩:∃ x,rs[mid]?=some x:=⟨_,List.getElem?_eq_getElem pI⟩
  have hxm:=List.mem_of_getElem? hx;have mQ:=eR (cx:=C1) (e:=43) (enc:=Rc.c) hv' hz (by decide) hx Bz zQ;have hmlI:(mid:Int)<rs.length:=by omega
  have w1:IntKind.i64.wrap ((lo:Int)+hi)=((lo+hi:Nat):Int):=by rw[IntWalk.i64_in _ (by omega)];omega
  obtain ⟨y,hy⟩:∃ y,y=lo+hi:=⟨_,rfl⟩
  rw[←hy] at w1 hmid;have w2:=kv (n:=y) (by omega);have w3:=fun t c=>shr1 y t c;rw[←hmid] at w3;have w4:IntKind.i64.wrap (mid:Int)=mid:=by rw[IntWalk.i64_in _ (by omega)]
  have w5:IntKind.i64.wrap ((mid:Int)+1)=((mid+1:Nat):Int):=by rw[IntWalk.i64_in _ (by omega)];omega
  obtain ⟨z,En⟩:∃ z,z=mid+1:=⟨_,rfl⟩
  rw[←En] at w5;obtain ⟨r,T,⟨rfl,hT⟩,e33⟩:=(at33 (S:=S') (n:=x.n) (m:=m) (bd (hr.data x hxm).1.sl)).ex;have e33':∀ Q,ai C1 33 [.agg x.c,.int .u64 m] S' Q=Q (.int .i64 (yd x.n m)) T:=e33;by_cases hc:x.n<m
  ·have hcm:yd x.n m=-1:=by unfold yd;rw[if_pos hc]
   rw[hcm] at e33';simp[s0,s1,s2,s8,s9,gA,hltI,w1,w2,w3,w4,w5,pI,hmlI,u1,u2,mQ,bG,e33'];refine ⟨hi-z,by omega,z,hi,hS.trans hT,by omega,h2,fun i r fJ gg=>?_,h4,by simp[s0],by simp[s1],by simp[s2],by simp[s8],by simp,by simp[gA],by simp[hn],rfl⟩;by_cases e:i=mid
   ·subst e;rw[hx] at fJ;cases fJ;exact hc
   ·exact Nat.lt_trans (rise_lt hs fJ hx (by omega)) hc
  ·have hcm:¬(yd x.n m<0):=by unfold yd;rw[if_neg hc];split<;>decide
   simp[s0,s1,s2,s8,s9,gA,hltI,w1,w2,w3,w4,w5,pI,hmlI,u1,u2,mQ,bG,e33',hcm];refine ⟨mid-lo,by omega,lo,mid,hS.trans hT,hm1,by omega,h3,fun i r fJ gg=>?_,by simp[s0],by simp[s1],by simp[s2],by simp[s8],by simp[s9],by simp,by simp[hn],rfl⟩;by_cases e:i=mid
   ·subst e;rw[hx] at fJ;cases fJ;omega
   ·have:=rise_lt hs hx fJ (by omega);omega
 ·have:lo=hi:=by omega
  subst this;have hltI:¬((lo:Int)<lo):=by omega
  by_cases hlen:lo<rs.length
  ·have hlenI:(lo:Int)<rs.length:=by omega
   obtain ⟨x,hx⟩:∃ x,rs[lo]?=some x:=⟨_,List.getElem?_eq_getElem hlen⟩
   have hxm:=List.mem_of_getElem? hx;have mQ:=eR (cx:=C1) (e:=43) (enc:=Rc.c) hv' hz (by decide) hx Bz zQ;obtain ⟨r,T,⟨rfl,hT⟩,e33⟩:=(at33 (S:=S') (n:=x.n) (m:=m) (bd (hr.data x hxm).1.sl)).ex;have e33':∀ Q,ai C1 33 [.agg x.c,.int .u64 m] S' Q=Q (.int .i64 (yd x.n m)) T:=e33;simp[s0,s1,s2,s8,s9,gA,hlen,hlenI,u1,u2,mQ,bG,e33'];refine ⟨hS.trans hT,lo,?_,h2,h3,h4⟩;by_cases e:yd x.n m=0<;>simp[e]
  ·have hlenI:¬((lo:Int)<rs.length):=by omega
   simp[s0,s1,s2,s8,s9,gA,hlen,hlenI];exact ⟨hS,lo,rfl,h2,h3,h4⟩
end
def iV (ps:List PP) (m:Nat):List PR:=ps.flatMap fun p=>p.rs.dropWhile fun r=>decide (r.n<m)
def PM.read (m:PM) (n most:Nat):List PR:=if m.over then [] else (iV m.ps n).take most
section
variable {S T:AS} {L:Lg} {B:Nat}
theorem drop_map {rs:List Rc} {m:Nat}:(rs.dropWhile fun r=>decide (r.n<m)).map Rc.p=(rs.map Rc.p).dropWhile fun r=>decide (r.n<m):=by
 induction rs with
 | nil=>rfl
 | cons r rs ih=>
  rw[List.map_cons,List.dropWhile_cons,List.dropWhile_cons];show _=if decide (r.n<m)=true then _ else _
  split
  ·exact ih
  ·rfl
structure jh (S:AS) (lo:Nat) (w:AV) (rs:List Rc):Prop where
 gw:Gw S w 2 43 (rs.flatMap Rc.c)
 new:nf lo w
 data:∀ r,r∈rs→Sl S r.w 1 (aO r.bs)∧nf lo r.w∧(aG r.w≠aG w∨aG r.w=0)
theorem jh.at {w:AV} {rs:List Rc} (h:jh T S.next w rs) (hL:bq S L):mZ T L.aI w rs:=⟨h.gw.1,Out.new hL h.new,fun r hr=>⟨(h.data r hr).1,Out.new hL (h.data r hr).2.1⟩⟩
theorem nt8:Tryz.f8.ntmps=59:=by kernel_rfl
def rdH (S:AS) (L:Lg) (m most:Nat) (k:Nat) (F':Fr) (S':AS):Prop:=
 ∃ (i:Nat) (w:AV) (rs:List Rc),Sub S S'∧jh S' S.next w rs∧rs.map Rc.p=iV ((L.ps.take i).map Pt.p) m∧rs.length≤most∧sl F' 1=.int .u64 m∧sl F' 2=.int .i64 most∧sl F' 7=w∧sl F' 20=L.pv∧sl F' 21=.int .i64 L.ps.length∧sl F' 22=.int .i64 i∧i≤L.ps.length∧F'.n=59∧k=L.ps.length-i
def riH (S:AS) (L:Lg) (m most i:Nat) (uh:List Rc) (sw:AV) (k:Nat) (F':Fr) (S':AS):Prop:=
 ∃ (j:Nat) (w:AV) (rs:List Rc),Sub S S'∧jh S' S.next w rs∧rs.map Rc.p=iV ((L.ps.take i).map Pt.p) m++(uh.take j).map Rc.p∧rs.length≤most∧sl F' 1=.int .u64 m∧sl F' 2=.int .i64 most∧sl F' 7=w∧sl F' 20=L.pv∧sl F' 21=.int .i64 L.ps.length∧sl F' 22=.int .i64 i ∧
  sl F' 36=sw∧sl F' 37=.int .i64 uh.length∧sl F' 38=.int .i64 j∧j≤uh.length∧F'.n=59∧k=uh.length-j
theorem yI (a b:List PP) (m:Nat):iV (a++b) m=iV a m++iV b m:=by unfold iV;rw[List.flatMap_append]
theorem fresh_push {lo n:Nat} {w d:AV} {rs:List Rc} {bs:List Nat} (h:jh S lo w rs) (hlo:lo≤S.next) (hd:Sl S d 1 (aO bs)) (hn:nf lo d) (hwd:aG d≠aG w∨aG d=0) (hl:rs.length≤1000000) :
  ∃ w' T,aV C1 (⟨S.h.set S.next (.row [.int .u64 n,d] 0 0 false 43),S.next+1⟩:AS) .append [37,37] [w,.slice S.next 0 0 1 2 2 (some 1)]=.val w' T∧jh T lo w' (rs++[⟨n,d,bs⟩])∧(∀ id,id<lo→T.h.get id=S.h.get id)∧S.next≤T.next:=by
 obtain ⟨S1,cz⟩:∃ S1:AS,S1=⟨S.h.set S.next (.row [.int .u64 n,d] 0 0 false 43),S.next+1⟩:=⟨_,rfl⟩
 have s1:Sub S S1:=by rw[cz];exact cJ
 have hx:Sl S1 (.slice S.next 0 0 1 2 2 (some 1)) 2 [.int .u64 n,d]:=by
  refine ⟨by simp[isSl,ez],?_,by simp[sLen],by simp[aG,cz]⟩;rw[cz];simp[jH,df,aa,bR]
 have hwo:=h.gw.1.old;have g1:=h.gw.aY (T:=S1) (fun id e=>s1.h id (by omega)) s1.next
 have hlen:=h.gw.1.len;rw[eG (sz:=2) (fun _=>rfl)] at hlen;obtain ⟨w',T,e,r1,r2,r3,r4,r5,r6,r7⟩:=ff (cx:=C1) (ts:=[]) (u:=37) (p:=(43,2,32)) o8 un37 rfl g1 hx (by simp[fits,bX,cu];omega);rw[cz] at e;have ji:=h.new;have b7:nf lo w':=by
  rcases r6 with q|q
  ·unfold nf;rw[q];exact ji
  ·exact .inr (by have:=s1.next;omega)
 have hk:∀ id,id<S.next→id+1≠aG w→T.h.get id=S.h.get id:=fun id hi aZ=>(r2 id (by have:=s1.next;omega) aZ).trans (s1.h id hi)
 refine ⟨w',T,e,⟨by rw[List.flatMap_append];exact r1,b7,fun r hr=>?_⟩,fun id hi=>hk id (by omega) (by rcases ji with q|q<;>omega),Nat.le_trans s1.next r3⟩;have hsep:∀ u:AV,aG u≤S.next→(aG u≠aG w∨aG u=0)→(aG u≠aG w'∨aG u=0):=fun u h1 h2=>by
  rcases r6 with q|q
  ·rw[q];exact h2
  ·exact .inl (by have:=s1.next;omega)
 have hag:∀ (u:AV) (cs:List AV),Sl S u 1 cs→(aG u≠aG w∨aG u=0)→Sl T u 1 cs:=fun u cs h1 h2=>h1.aY (fun id e=>hk id (by have:=h1.old;omega) (fun e2=>by rcases h2 with q|q<;>omega)) (Nat.le_trans s1.next r3);rcases List.mem_append.1 hr with hr|hr
 ·obtain ⟨a1,a2,a3⟩:=h.data r hr;exact ⟨hag _ _ a1 a3,a2,hsep _ a1.old a3⟩
 ·simp at hr;subst hr;exact ⟨hag _ _ hd hwd,hn,hsep _ hd.old hwd⟩
theorem jh.sub {lo:Nat} {w:AV} {rs:List Rc} (h:jh S lo w rs) (hs:Sub S T):jh T lo w rs:=
 ⟨h.gw.aY (fun id e=>hs.h id (by have:=h.gw.1.old;omega)) hs.next,h.new,fun r hr=>⟨(h.data r hr).1.toSub hs,(h.data r hr).2⟩⟩
theorem jh.nil {lo:Nat}:jh S lo .az []:=⟨Gw.nil,.inl rfl,fun _ h=>by cases h⟩
theorem take_pre {α:Type} {a b:List α} {n:Nat} (h:a.length=n):(a++b).take n=a:=by rw[←h,List.take_left'];rfl
set_option maxRecDepth 20000 in
theorem read8 (h:bq S L) (wf:L.m.wf B) (hB:B≤1000000) (hs:∀ p,p∈L.ps→Rise p.rs) {m most:Nat} (hm:most≤1000000):ai C1 8 [.ptr L.lp 0 0 6,.int .u64 m,.int .i64 most] S fun w T=>Sub S T∧∃ rs,jh T S.next w rs∧rs.map Rc.p=L.m.read m most:=by
 have kW:=fun Q=>lY (Q:=Q) h;have hr:=h.row;have hlp:=kK wf;have eV:=h.um;have mb:=h.parts.1.sl;have kB:L.m.over=L.over:=rfl;refine fZ (dH _) (dL _ rfl) fn8 rfl ok8 (by simp) fun F hn s0 s1 s2=>?_;rw[nt8] at hn;unfold PM.read;cases ho:L.over with
 | true=>
  rw[ho] at kW kB;simp only[if_true] at kW;simp[s0,bG,kW,kB];exact ⟨Sub.refl _,jh.nil⟩
 | false=>
  rw[ho] at kW kB;simp only[Bool.false_eq_true,if_false] at kW;simp[s0,s1,s2,bG,kW,kB,hr,mb,eV];refine ay (rdH S L m most) L.ps.length ⟨0,.az,[],Sub.refl _,jh.nil,rfl,Nat.zero_le _,by simp[s1],by simp[s2],by simp,by simp,by simp[eV],by simp,Nat.zero_le _,by simp[hn],rfl⟩ ?_;clear s0 s1 s2 hn kW;rintro k F' S' b7 ⟨i,w,rs,hS,hf,tL,hlen,t1,t2,t7,t20,t21,t22,hi,hn,hk⟩;clear b7;by_cases gg:i<L.ps.length
  ·have sR:(i:Int)<L.ps.length:=by omega
   have j4:=IntWalk.i64_in ((i:Int)+1) (by omega);obtain ⟨p,hp⟩:∃ p,L.ps[i]?=some p:=⟨_,List.getElem?_eq_getElem gg⟩
   have rU:=List.mem_of_getElem? hp;obtain ⟨p1,p2,p3,p4,p5⟩:=(h.sub hS).part hp;have y9:=h.gk p rU;have hpl2:p.rs.length≤B:=by have:=(pq wf rU).2.2.2.1;rwa [show p.p.rs.length=p.rs.length from List.length_map ..] at this
   obtain ⟨S1,cz⟩:∃ S1:AS,S1=⟨(S'.h.set S'.next (.row [.str [],.int .u64 0,.az] 0 0 false 76)).set S'.next (.row p.c 0 0 false 76),S'.next+1⟩:=⟨_,rfl⟩
   have sS1:Sub S' S1:=by rw[cz];exact kx
   have g1:S1.h.get S'.next=some (.row p.c 0 0 false 76):=by rw[cz];exact aa _ _ _
   have g1':S1.h.get S'.next=some (.row [.str p.name,.int .u64 p.first,p.w] 0 0 false 76):=g1
   have hra1:=y9.go (Q:=L.aI) (fun id hi _=>(hS.trans sS1).h id hi) (hS.trans sS1).next (fun _ _ h=>h)
   obtain ⟨r,T2,⟨sT2,at1,bb,rfl,hcut⟩,e32⟩:=(search32 (m:=m) hra1 (hs p rU) (by omega)).ex;have g2:=(sT2.h _ (by rw[cz];exact Nat.lt_succ_self _)).trans g1';have hra2:=y9.go (Q:=L.aI) (fun id hi _=>(hS.trans (sS1.trans sT2)).h id hi) (hS.trans (sS1.trans sT2)).next (fun _ _ h=>h)
   have hplw:=y9.len;have aW:∀ (F:Fr) (x:Tmp),sl F x=.int .i64 at1→ek C1 F 37 p.w (some (.tmp x)) none none=some (nh p.w at1 p.rs.length):=fun F x a0=>jQ (cx:=C1) (p:=(43,2,32)) (l:=at1) (k:=p.rs.length) o8 y9.sl.sl (by simp[a0]) (by simp[hplw]) hcut.1 (by omega);have Dg:=y9.sl.cut (l:=at1) (k:=p.rs.length) hcut.1 (by omega);have hz:∀ x:Rc,x.c.length=2:=fun _=>rfl;obtain ⟨uh,xZ⟩:∃ uh,uh=p.rs.drop at1:=⟨_,rfl⟩
   have hsl2:uh.length=p.rs.length-at1:=by rw[xZ,List.length_drop]
   rw[oZ hz,←xZ,←hsl2,←eG hz uh,List.take_length] at Dg;obtain ⟨sw,hsw⟩:∃ sw,sw=nh p.w at1 p.rs.length:=⟨_,rfl⟩
   rw[←hsw] at Dg aW;have hswl:sLen sw=uh.length:=by have:=Dg.len;rw[eG hz] at this;omega
   have hswi:=Dg.sl;have bS:=cz.symm;have pc:p.c=[.str p.name,.int .u64 p.first,p.w]:=rfl;rw[pc] at p5 bS;simp[t1,t2,t7,t20,t21,t22,sR,mb,eV,gg,p5,bS,g1',bG,e32,g2,aW,hswl,hswi];have n8:∀ x,x∈uh→x∈p.rs:=fun x hx=>by rw[xZ] at hx;exact List.mem_of_mem_drop hx
   have hselp:uh.map Rc.p=p.p.rs.dropWhile fun r=>decide (r.n<m):=by rw[xZ,DI hcut];exact drop_map
   have hsplit:L.ps.map Pt.p=(L.ps.take i).map Pt.p++p.p :: (L.ps.drop (i+1)).map Pt.p:=by
    have e1:L.ps=L.ps.take i++p :: L.ps.drop (i+1):=by
     have e2:L.ps.drop i=L.ps[i] :: L.ps.drop (i+1):=List.drop_eq_getElem_cons gg;have e3:L.ps[i]=p:=(List.getElem?_eq_some_iff.1 hp).2;rw[e3] at e2;rw[←e2,List.take_append_drop]
    conv=>lhs;rw[e1]
    simp
   have hrl:iV (L.ps.map Pt.p) m=iV ((L.ps.take i).map Pt.p) m++(uh.map Rc.p++iV ((L.ps.drop (i+1)).map Pt.p) m):=by
    rw[hsplit,yI];congr 1;unfold iV;rw[List.flatMap_cons,hselp]
   have hnx1:iV ((L.ps.take (i+1)).map Pt.p) m=iV ((L.ps.take i).map Pt.p) m++uh.map Rc.p:=by
    have e1:L.ps.take (i+1)=L.ps.take i++[p]:=by rw[List.take_add_one,hp];rfl
    rw[e1,List.map_append,yI];congr 1;unfold iV;simp[hselp]
   have hdat:∀ x,x∈uh→Sl S x.w 1 (aO x.bs)∧x.bs.length≤1500:=fun x hx=>⟨(y9.data x (n8 x hx)).1,((pq wf rU).2.2.2.2 x.p (List.mem_map.2 ⟨x,n8 x hx,rfl⟩)).2.2⟩
   refine ay (riH S L m most i uh sw) uh.length ⟨0,w,rs,hS.trans (sS1.trans sT2),hf.sub (sS1.trans sT2),by simpa using tL,hlen,by simp[t1],by simp[t2],by simp[t7],by simp[t20],by simp[t21],by simp[t22],by simp,by simp[hswl],by simp,Nat.zero_le _,by simp[hn],rfl⟩ ?_;clear t1 t2 t7 t20 t21 t22 hn e32 g2 hf tL hlen aW hra1 hra2 g1 g1' bS p1 p2 p3 p4 p5 sS1 sT2 cz hS hselp hsplit;rintro k2 F2 S2 nY ⟨j,w,rs,dW,hf,hrs2,hlen,t1,t2,t7,t20,t21,t22,t36,t37,t38,hj,hn,sQ⟩;clear nY;have u1:=hf.gw.1.sl;have u2:sLen w=rs.length:=by have:=hf.gw.1.len;rw[eG hz] at this;omega
   by_cases hj':j<uh.length
   ·have hjI:(j:Int)<uh.length:=by omega
    have ny:=IntWalk.i64_in ((j:Int)+1) (by omega);obtain ⟨x,hx⟩:∃ x,uh[j]?=some x:=⟨_,List.getElem?_eq_getElem hj'⟩
    have hxm:=List.mem_of_getElem? hx;have mQ:=eR (cx:=C1) (e:=43) (enc:=Rc.c) (Dg.toSub dW) hz (by decide) hx Bz zQ;have xc:x.c=[.int .u64 x.n,x.w]:=rfl;rw[xc] at mQ;obtain ⟨S3,uZ⟩:∃ S3:AS,S3=⟨(S2.h.set S2.next (.row [.int .u64 0,.az] 0 0 false 43)).set S2.next (.row [.int .u64 x.n,x.w] 0 0 false 43),S2.next+1⟩:=⟨_,rfl⟩
    have sS3:Sub S2 S3:=by rw[uZ];exact kx
    have g3:S3.h.get S2.next=some (.row [.int .u64 x.n,x.w] 0 0 false 43):=by rw[uZ];exact aa _ _ _
    have bS3:=uZ.symm;obtain ⟨hxs,hxl⟩:=hdat x hxm;by_cases hfull:most≤rs.length
    ·have hfullI:(most:Int)≤rs.length:=by omega
     simp[t1,t2,t7,t20,t21,t22,t36,t37,t38,hjI,hswl,hswi,hj',mQ,bS3,u1,u2,hfullI,hf.gw.1.np];refine ⟨dW.trans sS3,rs,hf.sub sS3,?_⟩;have e1:L.m.ps=L.ps.map Pt.p:=rfl;rw[e1,hrl];have e2:uh.map Rc.p=(uh.take j).map Rc.p++(uh.drop j).map Rc.p:=by rw[←List.map_append,List.take_append_drop]
     rw[e2,←List.append_assoc,←List.append_assoc,←hrs2,List.append_assoc];exact (take_pre (by rw[List.length_map];omega)).symm
    ·have hfullI:¬((most:Int)≤rs.length):=by omega
     obtain ⟨d4,T4,⟨s4,g4,l4,n4⟩,e35⟩:=(Bc (hxs.toSub (dW.trans sS3)) (by have:=hxs.gX;rw[bK] at this;omega)).ex;have hwo:=hf.gw.1.old;have n3:S3.next=S2.next+1:=by rw[uZ]
     have hn4:aG d4=0∨S3.next<aG d4:=n4
     have hSn:=dW.next
     obtain ⟨w5,T5,e5,f5,k5,q5⟩:=fresh_push (n:=x.n) (hf.sub (sS3.trans s4)) (dW.trans (sS3.trans s4)).next g4.1 (by rcases hn4 with q|q;exact .inl q;exact .inr (by omega)) (by rcases hn4 with q|q;exact .inr q;exact .inl (by omega)) (by omega)
     have g4':=(s4.h _ (by omega)).trans g3;have b43':=fun n=>bu43 g4.1 n;have hfr9:∀ (F:Fr) (B:Nat) (y:Tmp),sl F y=.agg [.int .u64 x.n,d4]→al C1 F B (.buildSlice 37 1 #[(0,.tmp y)])=some (.slice B 0 0 1 2 2 (some 1),.row [.int .u64 x.n,d4] 0 0 false 43):=by
      intro F B y a0;have:=cL (cx:=C1) (F:=F) (t:=37) (p:=(43,2,32)) (id:=B) (n:=1) (a:=#[(0,.tmp y)]) [[.int .u64 x.n,d4]] o8 rfl (by simp[a0,cellsOf]) (by simp) (by decide);exact this
     simp[t1,t2,t7,t20,t21,t22,t36,t37,t38,hjI,hswl,hswi,hj',mQ,bS3,u1,u2,hfullI];refine aF [.p,.p,.r 0 1,.p,.r 0 0,.e [],.p,.e [],.e [],.p] (n:=59) (by kernel_rfl) (by simp[hn]) ?_;simp[t1,t2,t7,t20,t21,t22,t36,t37,t38,g3,g4',bG,e35,b43',hfr9,e5,ny,cF hxs];refine ⟨uh.length-(j+1),by omega,j+1,w5,rs++[⟨x.n,d4,x.bs⟩],⟨fun id cY=>?_,?_⟩,f5,?_,by rw[List.length_append];show _+1≤_;omega,by simp[t1],by simp[t2],by simp,by simp[t20],by simp[t21],by simp[t22],by simp[t36],by simp[t37],by simp,by omega,by simp[hn],rfl⟩
     ·exact (k5 id cY).trans ((dW.trans (sS3.trans s4)).h id cY)
     ·exact Nat.le_trans (dW.trans (sS3.trans s4)).next q5
     ·rw[List.map_append,hrs2,List.take_add_one,hx,List.map_append,List.append_assoc];rfl
   ·have:j=uh.length:=by omega
    subst this;rw[List.take_length] at hrs2;simp[t1,t2,t7,t20,t21,t22,t36,t37,t38,j4];exact ⟨L.ps.length-(i+1),by omega,i+1,w,rs,dW,hf,by rw[hnx1];exact hrs2,hlen,by simp[t1],by simp[t2],by simp[t7],by simp[t20],by simp[t21],by simp,by omega,by simp[hn],rfl⟩
  ·have:i=L.ps.length:=by omega
   subst this;rw[List.take_length] at tL;simp[t1,t2,t7,t20,t21,t22,hf.gw.1.np];refine ⟨hS,rs,hf,?_⟩;rw[tL,List.take_of_length_le];rfl;have:=congrArg List.length tL;rw[List.length_map] at this;show (iV (L.ps.map Pt.p) m).length≤_;omega
end
def PP.below (p:PP) (n:Nat):Bool:=match p.rs.getLast? with|none=>true|some r=>decide (r.n<n)
namespace PM
def kG (before:Nat):Nat→PM→Int×PM
 | 0,m=>(0,m)
 | k+1,m=>if 1<m.ps.length∧m.ja.below before=true then (if m.gr.1=0 then kG before k m.gr.2 else m.gr) else (0,m)
def stops (before:Nat) (m:PM):Prop:=1<m.ps.length∨m.ja.rs.length=0∨m.ja.below before=false∨m.next<before
instance (before:Nat) (m:PM):Decidable (m.stops before):=by unfold stops;infer_instance
def drop (before:Nat) (m:PM):Int×PM:=
 if m.over then (8,m)
 else if (kG before m.ps.length m).1=0 then (if (kG before m.ps.length m).2.stops before then (0,(kG before m.ps.length m).2) else bT [ni,gr] (kG before m.ps.length m).2)
 else kG before m.ps.length m
variable {m:PM} {B:Nat}
theorem drop1_ps (h:m.gr.1=0):m.gr.2.ps=m.ps.tail:=by
 unfold gr bT at h ⊢;split at h
 ·rename_i e;rw[if_pos e];unfold bT;have e2:(tC m.uj.2).1=0:=rfl;rw[if_pos e2];rfl
 ·rename_i e;exact absurd h e
theorem wW:m.gr.2.next=m.next:=jF (fun m=>m.next) (fun _ _=>rfl) fun g hg m=>by
 simp only[List.mem_cons,List.not_mem_nil,or_false] at hg;rcases hg with rfl|rfl<;>rfl
theorem wV (before:Nat):∀ k (m:PM),(kG before k m).2.next=m.next
 | 0,_=>rfl
 | k+1,m=>by
  unfold kG;split
  ·split
   ·rw[wV before k];exact wW
   ·exact wW
  ·rfl
end PM
section
variable {S T:AS} {L:Lg} {B:Nat}
theorem below44 {P:Nat→Prop} {p:Pt} {n:Nat} (hr:mZ S P p.w p.rs) (hl:p.rs.length≤1000000):ai C1 44 [.agg p.c,.int .u64 n] S fun r T=>r=.bool (p.p.below n)∧Sub S T:=by
 obtain ⟨S1,cz⟩:∃ S1:AS,S1=⟨S.h.set S.next (.row [.str p.name,.int .u64 p.first,p.w] 0 0 false 76),S.next+1⟩:=⟨_,rfl⟩
 have s1:Sub S S1:=by rw[cz];exact cJ
 have g1:S1.h.get S.next=some (.row [.str p.name,.int .u64 p.first,p.w] 0 0 false 76):=by rw[cz];exact aa _ _ _
 have bS:=cz.symm;have hz:∀ x:Rc,x.c.length=2:=fun _=>rfl;have u1:=hr.sl.sl;have u2:=hr.len;refine bH (dH _) (dL _ rfl) fn44 rfl ok44 (by simp) fun F hn s0 t1=>?_;have pc:p.c=[.str p.name,.int .u64 p.first,p.w]:=rfl;rw[pc] at s0;have uX:p.p.below n=match p.rs.getLast? with|none=>true|some r=>decide (r.n<n):=by
  unfold PP.below;have:p.p.rs.getLast?=p.rs.getLast?.map Rc.p:=by show (p.rs.map Rc.p).getLast?=_;rw[List.getLast?_map]
  rw[this];cases p.rs.getLast?<;>rfl
 rw[uX];cases hq:p.rs.getLast? with
 | none=>
  have mP:p.rs=[]:=List.getLast?_eq_none_iff.1 hq;rw[mP] at u2;simp[s0,t1,bS,g1,u1,u2];exact s1
 | some r=>
  have jA:p.rs≠[]:=fun e=>by rw[e] at hq;cases hq
  have hlen:0<p.rs.length:=List.length_pos_iff.2 jA;obtain ⟨j,hj⟩:∃ j,j=p.rs.length-1:=⟨_,rfl⟩
  have hjr:p.rs[j]?=some r:=by rw[hj,←List.getLast?_eq_getElem?];exact hq
  have mQ:=fc (cx:=C1) (e:=32) (enc:=Rc.c) (o:=0) (hr.sl.toSub s1) hz (by decide) hjr rfl Eg;have hw:IntKind.i64.wrap ((p.rs.length:Int)-1)=(j:Int):=by rw[IntWalk.i64_in _ (by omega)];omega
  have tM:j<p.rs.length:=by omega
  have hlI:¬((p.rs.length:Int)=0):=by omega
  have hjlI:(j:Int)<p.rs.length:=by omega
  have AI:isP (fH p.w j)=true:=mL u1 (by rw[u2];exact tM);have f0:eH (fH p.w j) (some 0)=some (jg (fH p.w j) 0):=cf AI;by_cases hc:r.n<n
  ·have pJ:(r.n:Int)<n:=by omega
   simp[s0,t1,bS,g1,u1,u2,jA,hlI,hw,tM,hjlI,f0,mQ,hc,pJ];exact s1
  ·have pJ:¬((r.n:Int)<n):=by omega
   simp[s0,t1,bS,g1,u1,u2,jA,hlI,hw,tM,hjlI,f0,mQ,hc,pJ];exact s1
theorem nt14:Tryz.f14.ntmps=76:=by kernel_rfl
theorem head_get (ne:L.ps≠[]):∃ p,L.ps.head?=some p∧L.ps[0]?=some p∧p∈L.ps:=by
 cases e:L.ps with
 | nil=>exact absurd e ne
 | cons p ps=>exact ⟨p,rfl,rfl,List.mem_cons_self ..⟩
def drH (S:AS) (L:Lg) (before B:Nat) (k:Nat) (F':Fr) (S':AS):Prop:=
 ∃ L1,bq S' L1∧aH L L1 S S'∧L1.m.wf B∧L1.ps≠[]∧k=L1.ps.length∧PM.kG before L.ps.length L.m=PM.kG before k L1.m∧sl F' 0=.ptr L1.lp 0 0 6∧sl F' 1=.int .u64 before∧F'.n=76
set_option maxRecDepth 20000 in
theorem drop14 (h:bq S L) (wf:L.m.wf B) (hB:B≤900000) (ne:L.ps≠[]) {before:Nat} (nz:L.next≤1099511627776):ai C1 14 [.ptr L.lp 0 0 6,.int .u64 before] S (dE S L (L.m.drop before)):=by
 have kW:=fun Q=>lY (Q:=Q) h;have kB:L.m.over=L.over:=rfl;refine bH (dH _) (dL _ rfl) fn14 rfl ok14 (by simp) fun F hn s0 t1=>?_;rw[nt14] at hn;unfold PM.drop;cases ho:L.over with
 | true=>
  rw[ho] at kW kB;simp only[if_true] at kW;simp[s0,bG,kW,kB];exact ⟨rfl,L,h,rfl,aH.refl⟩
 | false=>
  rw[ho] at kW kB;simp only[Bool.false_eq_true,if_false] at kW;have pI:L.m.ps.length=L.ps.length:=List.length_map ..;rw[pI];simp[s0,bG,kW,kB];refine ay (drH S L before B) L.ps.length ⟨L,h,aH.refl,wf,ne,rfl,rfl,by simp[s0],by simp[t1],by simp[hn]⟩ ?_;clear s0 t1 hn kW;rintro k F' S' b7 ⟨L1,h1,he,wf1,BI,hk,heq,s0,t1,hn⟩;clear b7;have rT:=h1.row;have eV:=h1.um;have mb:=h1.parts.1.sl;obtain ⟨p,hp,oV,rU⟩:=head_get BI;obtain ⟨p1,p2,p3,p4,p5⟩:=h1.part oV;have y9:=h1.gk p rU;have hpl2:p.rs.length≤B:=by have:=(pq wf1 rU).2.2.2.1;rwa [show p.p.rs.length=p.rs.length from List.length_map ..] at this
  obtain ⟨r,T,⟨rfl,sT⟩,e44⟩:=(below44 (n:=before) y9 (by omega)).ex;have hpc:L1.m.ja=p.p:=headP_m hp;have jA:0<L1.ps.length:=List.length_pos_iff.2 BI;have hml1:L1.m.ps.length=L1.ps.length:=List.length_map ..;obtain ⟨k',hk'⟩:∃ k',k=k'+1:=⟨k-1,by omega⟩
  have iz:PM.kG before k L1.m=if 1<L1.m.ps.length∧L1.m.ja.below before=true then (if L1.m.gr.1=0 then PM.kG before k' L1.m.gr.2 else L1.m.gr) else (0,L1.m):=by rw[hk'];rfl
  rw[hpc,hml1] at iz;by_cases h2:1<L1.ps.length
  ·have h2I:(1:Int)<L1.ps.length:=by omega
   cases hb:p.p.below before with
   | true=>
    rw[hb] at e44;rw[if_pos ⟨h2,hb⟩] at iz;have hT:=h1.sub sT;obtain ⟨r,T5,⟨rfl,L5,q1,q2,q3⟩,e45⟩:=(drop45 hT wf1 (by omega) BI).ex;have hev:=he.trans ((aH.of sT:aH L1 L1 S' T).trans q3);by_cases h0:L1.m.gr.1=0
    ·rw[if_pos h0] at iz;simp[s0,t1,rT,mb,eV,h2I,jA,BI,p1,p5,bG,e44,e45,h0];have gI:L5.ps.map Pt.p=(L1.ps.map Pt.p).tail:=by
      have:L5.m.ps=L1.m.ps.tail:=by rw[q2];exact PM.drop1_ps h0
      exact this
     have hlen5:L5.ps.length=L1.ps.length-1:=by
      have:=congrArg List.length gI;rw[List.length_map,List.length_tail,List.length_map] at this;exact this
     exact ⟨L5.ps.length,by omega,L5,q1,hev,by rw[q2];exact wf1.gr,fun e=>by rw[e] at hlen5;simp at hlen5;omega,rfl,by rw[heq,iz,hlen5,q2];congr 1;omega,by simp[s0,q3.lp],by simp[t1],by simp[hn]⟩
    ·rw[if_neg h0] at iz;simp[s0,t1,rT,mb,eV,h2I,jA,BI,p1,p5,bG,e44,e45,h0];rw[heq,iz,if_neg h0];exact ⟨rfl,L5,q1,q2,hev⟩
   | false=>
    rw[hb] at e44;rw[if_neg (fun e=>by rw[hb] at e;exact absurd e.2 (by decide))] at iz;have nX:(L1.m).stops before:=.inl (by rw[hml1];exact h2);have hT:=h1.sub sT;have hrT:=hT.row;have hslT:=hT.parts.1.sl;simp[s0,t1,rT,mb,eV,h2I,jA,BI,p1,p5,bG,e44,hrT];rw[heq,iz,if_pos rfl,if_pos nX];exact ⟨rfl,L1,hT,rfl,he.trans (aH.of sT)⟩
  ·have h2I:¬((1:Int)<L1.ps.length):=by omega
   rw[if_neg (fun e=>h2 e.1)] at iz;have f2:eH (fH L1.pv 0) (some 2)=some (jg (fH L1.pv 0) 2):=cf p1;have u1:=y9.sl.sl;have u2:=y9.len;have hT:=h1.sub sT;have hrT:=hT.row;have hhl:L1.m.ja.rs.length=p.rs.length:=by rw[hpc];exact List.length_map ..
   by_cases uy:p.rs=[]
   ·have nX:(L1.m).stops before:=.inr (.inl (by rw[hhl,uy];rfl));have hr0l:p.rs.length=0:=by rw[uy];rfl
    have u2':sLen p.w=0:=by rw[u2,uy];rfl
    simp[s0,t1,rT,mb,eV,h2I,jA,BI,p1,p4,f2,u1,u2',bG];rw[heq,iz,if_pos rfl,if_pos nX];exact ⟨rfl,L1,h1,rfl,he⟩
   ·have hr0I:¬((p.rs.length:Int)=0):=by have:=List.length_pos_iff.2 uy;omega
    cases hb:p.p.below before with
    | false=>
     have nX:(L1.m).stops before:=.inr (.inr (.inl (by rw[hpc];exact hb)));rw[hb] at e44;simp[s0,t1,rT,mb,eV,h2I,jA,BI,p1,p4,p5,f2,u1,u2,uy,hr0I,bG,e44];rw[heq,iz,if_pos rfl,if_pos nX];exact ⟨rfl,L1,hT,rfl,he.trans (aH.of sT)⟩
    | true=>
     rw[hb] at e44;have hnx1:L1.next=L.next:=by
      have e1:=PM.wV before L.ps.length L.m;rw[heq,iz] at e1;exact e1
     by_cases hbn:L1.next<before
     ·have hbnI:(L1.next:Int)<before:=by omega
      have nX:(L1.m).stops before:=.inr (.inr (.inr hbn));simp[s0,t1,rT,mb,eV,h2I,jA,BI,p1,p4,p5,f2,u1,u2,uy,hr0I,bG,e44,hrT,hbnI];rw[heq,iz,if_pos rfl,if_pos nX];exact ⟨rfl,L1,hT,rfl,he.trans (aH.of sT)⟩
     ·have hbnI:¬((L1.next:Int)<before):=by omega
      have nX:¬(L1.m).stops before:=by
       rintro (q|q|q|q)
       ·rw[hml1] at q;exact h2 q
       ·rw[hhl] at q;exact uy (List.length_eq_zero_iff.1 q)
       ·rw[hpc,hb] at q;cases q
       ·exact hbn q
      have wn1:1≤L1.next:=wf1.nx.1
      have hm:gl L1.next=true:=by unfold gl;simp;omega
      have gp:∀ (F:Fr) (B:Nat) (x0 x1:Tmp),sl F x0=.func (.func 38) [.ptr L1.lp 0 0 6] []→sl F x1=.func (.func 45) [.ptr L1.lp 0 0 6] [] →
        al C1 F B (.buildSlice 122 2 #[(0,.tmp x0),(1,.tmp x1)])=some (.slice B 0 0 2 2 1 (some 2),.row [.func (.func 38) [.ptr L1.lp 0 0 6] [],.func (.func 45) [.ptr L1.lp 0 0 6] []] 0 0 false 45):=
       fun F B x0 x1 a0 a1=>ta a0 a1
      obtain ⟨S4,oe⟩:∃ S4:AS,S4=⟨T.h.set T.next (.row [.func (.func 38) [.ptr L1.lp 0 0 6] [],.func (.func 45) [.ptr L1.lp 0 0 6] []] 0 0 false 45),T.next+1⟩:=⟨_,rfl⟩
      have s5:Sub T S4:=by rw[oe];exact cJ
      have ze:=hT.sub s5;have hv:Sl S4 (.slice T.next 0 0 2 2 1 (some 2)) 1 [.func (.func 38) [.ptr L1.lp 0 0 6] [],.func (.func 45) [.ptr L1.lp 0 0 6] []]:=by rw[oe];exact oh (fs:=[_,_]) (by simp)
      have ht:=jN (gs:=[PM.ni,PM.gr]) ze hv (Out.new hT (.inr (by show T.next<T.next+1;omega))) (by simp) (by
       refine eh aH.refl (bG _ rfl) (first:=[_]) (cap:=[]) (roll38 ze wf1 (by omega) BI hm) fun h0 U L2 k1 k2 k3=>?_;have wf2:L2.m.wf (B+1):=by rw[k2];exact wf1.ni
       have ne2:L2.ps≠[]:=fun e=>by
        have:=PM.roll_ne (m:=L1.m) (fun e=>BI (List.map_eq_nil_iff.1 e));rw[←k2] at this;exact this (by show L2.ps.map Pt.p=[];rw[e];rfl)
       have e:=drop45 k1 wf2 (by omega) ne2;rw[k3.lp] at e;refine eh k3 (bG _ rfl) (first:=[_]) (cap:=[]) e fun h0 U L3 q1 q2 q3=>?_;exact jO q1 (k3.trans q3))
      obtain ⟨r,T5,⟨rfl,L5,q1,q2,q3⟩,e39⟩:=ht.ex;have zB:=oe.symm;simp[s0,t1,rT,mb,eV,h2I,jA,BI,p1,p4,p5,f2,u1,u2,uy,hr0I,bG,e44,hrT,hbnI,gp,zB,e39];rw[heq,iz,if_pos rfl,if_neg nX];exact ⟨rfl,L5,q1,q2,he.trans ((aH.of (sT.trans s5):aH L1 L1 S' S4).trans q3)⟩
end
end Go.Proofs.YtgkdgiognhbfjaaGreatDoor.dk
namespace Go.Proofs.YtgkdgiognhbfjaaGreatDoor.dk
open Go Go.Am Go.Proofs.YtgkdgiognhbfjaaGreatDoor.seg
set_option linter.unusedVariables false
set_option linter.unusedSimpArgs false
def xW {α:Type} (P:α→Bool) (l:List α):Int:=match l.findIdx? P with|some i=>(i:Int)|none=>-1
theorem idxI_none {α:Type} {P:α→Bool} {l:List α} (h:∀ x,x∈l→P x=false):xW P l=-1:=by
 unfold xW;rw[List.findIdx?_eq_none_iff.2 h]
theorem idxI_at {α:Type} {P:α→Bool} {l:List α} {i:Nat} {x:α} (h:l[i]?=some x) (hp:P x=true) (ha:∀ x,x∈l.take i→P x=false):xW P l=i:=by
 obtain ⟨hi,rfl⟩:=List.getElem?_eq_some_iff.1 h;have:l.findIdx? P=some i:=by
  rw[List.findIdx?_eq_some_iff_getElem];refine ⟨hi,hp,fun j hj=>?_⟩;have:=ha l[j] (List.mem_take_iff_getElem.2 ⟨j,by omega,rfl⟩);simp[this]
 unfold xW;rw[this]
theorem idxI_any {α:Type} {P:α→Bool} {l:List α}:decide (0≤xW P l)=l.any P:=by
 unfold xW;cases h:l.findIdx? P with
 | none=>
  have:=List.findIdx?_eq_none_iff.1 h;have h2:l.any P=false:=by rw[List.any_eq_false];intro x hx;simp[this x hx]
  rw[h2];rfl
 | some i=>
  obtain ⟨hi,hp,_⟩:=List.findIdx?_eq_some_iff_getElem.1 h;have h2:l.any P=true:=List.any_eq_true.2 ⟨l[i],List.getElem_mem hi,hp⟩;rw[h2];simp
theorem take_step {α:Type} {P:α→Bool} {l:List α} {i:Nat} {x:α} (h:l[i]?=some x) (hp:P x=false) (ha:∀ x,x∈l.take i→P x=false):∀ x,x∈l.take (i+1)→P x=false:=by
 obtain ⟨hi,rfl⟩:=List.getElem?_eq_some_iff.1 h;intro y hy;rw[List.take_succ_eq_append_getElem hi] at hy;rcases List.mem_append.1 hy with hy|hy
 ·exact ha y hy
 ·simp at hy;subst hy;exact hp
def idxH {α:Type} (S:AS) (u g:AV) (l:List α) (P:α→Bool) (k:Nat) (F':Fr) (S':AS):Prop:=
 ∃ i:Nat,Sub S S'∧sl F' 0=u∧sl F' 1=g∧sl F' 7=.int .i64 l.length∧sl F' 8=.int .i64 i∧i≤l.length∧k=l.length-i∧∀ x,x∈l.take i→P x=false
theorem idxH_mk {α:Type} {S:AS} {u g:AV} {l:List α} {P:α→Bool} {k:Nat} {F':Fr} {S':AS} (i:Nat) (h1:Sub S S') (h2:sl F' 0=u) (h3:sl F' 1=g) (h4:sl F' 7=.int .i64 l.length) (h5:sl F' 8=.int .i64 i) (h6:i≤l.length) (h7:k=l.length-i) (h8:∀ x,x∈l.take i→P x=false):idxH S u g l P k F' S':=
 ⟨i,h1,h2,h3,h4,h5,h6,h7,h8⟩
theorem idx85 {α:Type} {enc:α→List AV} {S:AS} {u:AV} {l:List α} {f:FuncId} {caps:List AV} {P:α→Bool} (hz:∀ x,(enc x).length=2) (h:Sl S u 2 (l.flatMap enc)) (hb:l.length≤9223372036854775807) (hf:(f == 156||f == 162)=false)
  (hc:∀ T,Sub S T→∀ x,x∈l→ai C1 f (.agg (enc x) :: caps) T fun v T'=>v=.bool (P x)∧Sub T T') :
  ai C1 85 [u,.func (.func f) [] caps] S fun v T=>v=.int .i64 (xW P l)∧Sub S T:=by
 refine bH (dH _) (dL _ rfl) fn85 rfl ok85 (by simp) fun F hn s0 s1=>?_;have u1:=h.sl;have u2:=h.nS hz (by omega);simp[s0,s1,u1,u2];refine ay (idxH S u (.func (.func f) [] caps) l P) l.length (idxH_mk 0 (Sub.refl S) (by simp[s0]) (by simp[s1]) (by simp) (by simp) (Nat.zero_le _) rfl (by simp)) ?_;rintro k F' S' b7 ⟨i,aW,t0,t1,t7,t8,hi,hk,ha⟩;clear b7 s0 s1 hn;by_cases gg:i<l.length
 ·have hx:l[i]?=some l[i]:=List.getElem?_eq_getElem gg;have hl:=eR (cx:=C1) (e:=43) (h.toSub aW) hz (by omega) hx Bz zQ;obtain ⟨v,T',⟨rfl,hs⟩,e⟩:=(hc S' aW l[i] (List.getElem_mem gg)).ex;cases hp:P l[i] with
  | true=>simp[t0,t1,t7,t8,u1,u2,gg,hl,e,hp,bG f hf,aW.trans hs,idxI_at hx hp ha]
  | false=>
   simp[t0,t1,t7,t8,u1,u2,gg,hl,e,hp,bG f hf];exact ⟨l.length-(i+1),by omega,idxH_mk (i+1) (aW.trans hs) (by simp[t0]) (by simp[t1]) (by simp[t7]) (by simp[kZ (show i<9223372036854775807 by omega)]) gg rfl (take_step hx hp ha)⟩
 ·have dv:∀ x,x∈l→P x=false:=fun x hx=>ha x (by rw[List.take_of_length_le (by omega)];exact hx);simp[t7,t8,gg,idxI_none dv,aW]
theorem con51 {α:Type} {enc:α→List AV} {S:AS} {u:AV} {l:List α} {f:FuncId} {caps:List AV} {P:α→Bool} (hz:∀ x,(enc x).length=2) (h:Sl S u 2 (l.flatMap enc)) (hb:l.length≤9223372036854775807) (hf:(f == 156||f == 162)=false)
  (hc:∀ T,Sub S T→∀ x,x∈l→ai C1 f (.agg (enc x) :: caps) T fun v T'=>v=.bool (P x)∧Sub T T') :
  ai C1 51 [u,.func (.func f) [] caps] S fun v T=>v=.bool (l.any P)∧Sub S T:=by
 obtain ⟨v,T,⟨rfl,hs⟩,e⟩:=(idx85 hz h hb hf hc).ex;refine bH (dH _) (dL _ rfl) fn51 rfl ok51 (by simp) fun F hn s0 s1=>?_;simp[s0,s1,e,bG,hs,idxI_any]
theorem get_mid {α:Type} {l m r:List α} {j:Nat}:(l++m++r)[j]?=if j<l.length then l[j]? else if j<l.length+m.length then m[j-l.length]? else r[j-l.length-m.length]?:=by
 rw[List.append_assoc,List.getElem?_append];split
 ·rfl
 ·rename_i h;rw[List.getElem?_append];by_cases h2:j<l.length+m.length
  ·rw[if_pos (by omega),if_pos h2]
  ·rw[if_neg (by omega),if_neg h2]
theorem gw_putw {S:AS} {id g off n aq sz e c:Nat} {cap:Option Nat} {cs new:List AV} (h:Gw S (.slice id g off n aq sz cap) sz e cs) (hn:0<n) (hz:0<sz) (hc:c+new.length≤n*sz) :
  ∃ T,wr S id g (off+c) aq new=some T∧Gw T (.slice id g off n aq sz cap) sz e (cs.take c++new++cs.drop (c+new.length))∧(∀ j,j≠id→T.h.get j=S.h.get j)∧T.next=S.next:=by
 obtain ⟨h1,h2⟩:=h;rcases h2 with e1|⟨uv,g',off',n',lim',xg,e1,hcp,bF,cells,low,top,hg,hl,htq⟩
 ·cases e1
 ·cases e1;subst htq;obtain ⟨id'',g'',off'',n'',lim'',cap'',e2,cells',low',qH,wK,ty',jJ,k1,k2,k3,k4⟩:=jV h1 (k:=0) (by simpa[sLen] using hn);cases e2;rw[hg] at jJ;cases jJ;have hlen:=h1.len;simp only[sLen] at hlen;have jA:0<n*sz:=Nat.mul_pos hn hz;have nA:cs.length≤cells.length-off:=by rw[←k4,List.length_take,List.length_drop];omega
  have hsp:=ej (off+c) cells new (by omega);refine ⟨⟨S.h.set id (.row (cells.take (off+c)++new++cells.drop (off+c+new.length)) g g false e),S.next⟩,?_,⟨⟨h1.sl,?_,?_,h1.old⟩,.inr ⟨id,g,off,n,aq,cap,rfl,hcp,bF,_,g,g,aa _ _ _,Nat.le_refl _,rfl⟩⟩,fun j hj=>ae _ _ hj,rfl⟩
  ·rw[kr,hg,fm,if_pos ⟨rfl,by omega,rfl⟩,hsp]
  ·obtain ⟨m,rfl⟩:∃ m,n=m+1:=⟨n-1,by omega⟩
   simp only[jH,df,aa,bR];rw[if_pos ⟨Nat.le_refl _,Nat.le_refl _,k3⟩];congr 1;rw[←k4];apply List.ext_getElem?;intro j;rw[List.getElem?_take,List.getElem?_drop,get_mid,get_mid];simp only[List.length_take,List.length_drop,List.getElem?_take,List.getElem?_drop];have q1:min (off+c) cells.length=off+c:=by omega
   have q2:min c (min ((m+1)*sz) (cells.length-off))=c:=by omega
   rw[q1,q2];by_cases hj:j<(m+1)*sz
   ·rw[if_pos hj];by_cases hjc:j<c
    ·rw[if_pos (by omega),if_pos (by omega),if_pos hjc,if_pos hjc,if_pos hj]
    ·by_cases hjn:j<c+new.length
     ·rw[if_neg (by omega),if_pos (by omega),if_neg hjc,if_pos hjn];congr 1;omega
     ·rw[if_neg (by omega),if_neg (by omega),if_neg hjc,if_neg hjn,if_pos (by omega)];congr 1;omega
   ·rw[if_neg hj,if_neg (by omega),if_neg (by omega),if_neg (by omega)]
  ·simp only[List.length_append,List.length_take,List.length_drop,sLen];omega
theorem gw_pute {S:AS} {v:AV} {sz e i:Nat} {α:Type} {enc:α→List AV} {L:List α} (h:Gw S v sz e (L.flatMap enc)) (hz:∀ x,(enc x).length=sz) (hp:0<sz) (hi:i<L.length) (y:α) :
  ∃ T,vc S (fH v i) (enc y)=some T∧Gw T v sz e ((L.set i y).flatMap enc)∧(∀ j,j+1≠aG v→T.h.get j=S.h.get j)∧T.next=S.next:=by
 have hl:=h.1.nS hz hp;rcases h.2 with rfl|⟨id,g,off,n,aq,cap,rfl,_⟩
 ·simp[sLen] at hl;omega
 ·simp only[sLen] at hl;have hle:i*sz+sz≤n*sz:=by rw[←Nat.succ_mul];exact Nat.mul_le_mul_right _ (by omega)
  obtain ⟨T,h1,h2,h3,h4⟩:=gw_putw (c:=i*sz) (new:=enc y) h (by omega) hp (by rw[hz];exact hle);rw[hz,←fm_set hz hi] at h2;exact ⟨T,h1,h2,fun j hj=>h3 j (fun e=>hj (by simp[aG,e])),h4⟩
theorem gw_cut0 {S:AS} {v:AV} {sz e k:Nat} {cs:List AV} (h:Gw S v sz e cs) (hc:tW v=true) (hk:k≤sLen v):Gw S (nh v 0 k) sz e (cs.take (k*sz))∧tW (nh v 0 k)=true∧aG (nh v 0 k)=aG v:=by
 have hs:=Sl.cut h.1 (Nat.zero_le k) hk;rw[Nat.zero_mul,List.drop_zero,Nat.sub_zero] at hs;rcases h.2 with rfl|⟨id,g,off,n,aq,cap,rfl,hcp,bF,hr⟩
 ·exact ⟨⟨hs,.inl rfl⟩,rfl,rfl⟩
 ·cases cap with
  | some c=>cases hc
  | none=>exact ⟨⟨hs,.inr ⟨id,g,off+0*sz,k-0,aq,none,rfl,rfl,bF,hr⟩⟩,rfl,rfl⟩
theorem gw_clear {cx:Am.Cx} {S:AS} {t:TypeId} {ts:List TypeId} {p:Nat×Nat×Nat} {v:AV} {i:Nat} {cs:List AV} (ht:rR cx t=some p) (h:Gw S v p.2.1 p.1 cs) (hc:tW v=true) (hi:i≤sLen v) :
  ∃ T M,aV cx S .clear (t :: ts) [nh v i (sLen v)]=.val .undef T∧Gw T v p.2.1 p.1 M∧M.take (i*p.2.1)=cs.take (i*p.2.1)∧(∀ j,j+1≠aG v→T.h.get j=S.h.get j)∧T.next=S.next:=by
 obtain ⟨hu,hs,hb,hzo,hp⟩:=fR ht;obtain ⟨e,sz,bs⟩:=p;simp only at hu hs hb hzo hp h ⊢;rcases id h.2 with rfl|⟨id,g,off,n,aq,cap,rfl,hcp,bF,hr⟩
 ·refine ⟨S,cs,?_,h,rfl,fun _ _=>rfl,rfl⟩;show b8 (qq cx S t .az) 17=_;unfold qq;rw[hu];rfl
 ·cases cap with
  | some c=>cases hc
  | none=>
   simp only[sLen] at hi;show ∃ T M,b8 (qq cx S t (.slice id g (off+i*sz) (n-i) aq sz none)) 17=_∧_;unfold gZ at hzo;split at hzo
   ·rename_i zv hzv;split at hzo
    ·rename_i zc xX;simp only[aT,aS,decide_eq_true_eq] at hzo;unfold qq;rw[hu];by_cases h0:n-i=0
     ·rw[h0];exact ⟨S,cs,rfl,h,rfl,fun _ _=>rfl,rfl⟩
     ·obtain ⟨m,hm⟩:∃ m,n-i=m+1:=⟨n-i-1,by omega⟩
      have hle:i*sz+(m+1)*sz=n*sz:=by rw[←hm,←Nat.add_mul];congr 1;omega
      obtain ⟨T,h1,h2,h3,h4⟩:=gw_putw (c:=i*sz) (new:=fy (m+1) zc) h (by omega) hp (by rw[tJ,hzo];omega);rw[hm];simp only[hs,hzv,xX,aT,aS,hzo,decide_true,Bool.and_self,cond_true,h1];refine ⟨T,_,rfl,h2,?_,fun j hj=>h3 j (fun e=>hj (by simp[aG,e])),h4⟩;have hlen:=h.1.len;simp only[sLen] at hlen;have hle2:i*sz≤cs.length:=by omega
      rw[List.append_assoc,List.take_append_of_le_length (by rw[List.length_take];omega),List.take_take,Nat.min_self]
    ·cases hzo
   ·cases hzo
theorem dB (x:Rc):x.c.length=2:=rfl
def dM {α:Type} (P:α→Bool) (l:List α):List α:=l.filter fun x=>!P x
theorem yX {α:Type} {P:α→Bool} {l:List α} (h:∀ x,x∈l→P x=false):dM P l=l:=by
 unfold dM;rw[List.filter_eq_self];intro x hx;simp[h x hx]
theorem pZ {α:Type} {P:α→Bool} {l:List α} {j:Nat} (h:j<l.length):dM P (l.take (j+1))=dM P (l.take j)++if P l[j]=true then [] else [l[j]]:=by
 unfold dM;rw[List.take_succ_eq_append_getElem h,List.filter_append];congr 1;cases h:P l[j]<;>simp[List.filter,h]
theorem keepF_len {α:Type} {P:α→Bool} {l:List α}:(dM P l).length≤l.length:=List.length_filter_le _ _
theorem idxI_cases {α:Type} (P:α→Bool) (l:List α):(xW P l=-1∧dM P l=l)∨∃ i,xW P l=((i:Nat):Int)∧i<l.length∧dM P (l.take (i+1))=l.take i:=by
 unfold xW;cases h:l.findIdx? P with
 | none=>exact .inl ⟨rfl,yX fun x hx=>by simpa using List.findIdx?_eq_none_iff.1 h x hx⟩
 | some i=>
  obtain ⟨hi,hp,ha⟩:=List.findIdx?_eq_some_iff_getElem.1 h;refine .inr ⟨i,rfl,hi,?_⟩;rw[pZ hi,if_pos hp,List.append_nil];refine yX fun x hx=>?_;obtain ⟨j,hj,rfl⟩:=List.mem_take_iff_getElem.1 hx;have:=ha j (by omega);simpa using this
theorem set_take {α:Type} {M:List α} {i:Nat} {x:α} (h:i<M.length):(M.set i x).take (i+1)=M.take i++[x]:=by
 rw[List.set_eq_take_append_cons_drop,if_pos h];have:M.take i++x :: M.drop (i+1)=(M.take i++[x])++M.drop (i+1):=by simp
 rw[this,List.take_left' (by simp;omega)]
def delH (S:AS) (u g:AV) (l:List Rc) (P:Rc→Bool) (k:Nat) (F':Fr) (S':AS):Prop:=
 ∃ (i j:Nat) (M:List Rc),gf (fun id=>aG u=id+1) S S'∧Gw S' u 2 43 (M.flatMap Rc.c)∧M.length=l.length∧M.take i=dM P (l.take j)∧M.drop j=l.drop j∧sl F' 0=u∧sl F' 1=g∧sl F' 5=.int .i64 i∧sl F' 6=.int .i64 j∧i<j∧j≤l.length∧k=l.length-j
theorem A9 {S:AS} {u g:AV} {l:List Rc} {P:Rc→Bool} {k:Nat} {F':Fr} {S':AS} (i j:Nat) (M:List Rc) (h1:gf (fun id=>aG u=id+1) S S') (h2:Gw S' u 2 43 (M.flatMap Rc.c)) (h3:M.length=l.length) (h4:M.take i=dM P (l.take j)) (h5:M.drop j=l.drop j)
  (h6:sl F' 0=u) (h7:sl F' 1=g) (h8:sl F' 5=.int .i64 i) (h9:sl F' 6=.int .i64 j) (AP:i<j) (Dl:j≤l.length) (h12:k=l.length-j):delH S u g l P k F' S':=
 ⟨i,j,M,h1,h2,h3,h4,h5,h6,h7,h8,h9,AP,Dl,h12⟩
theorem nt52:Tryz.f52.ntmps=42:=by kernel_rfl
set_option maxRecDepth 20000 in
theorem delete52 {S:AS} {u:AV} {l:List Rc} {f:FuncId} {caps:List AV} {P:Rc→Bool} (h:Gw S u 2 43 (l.flatMap Rc.c)) (jB:tW u=true) (hb:l.length≤1048576) (hf:(f == 156||f == 162)=false)
  (hc:∀ T,gf (fun id=>aG u=id+1) S T→∀ x,x∈l→ai C1 f (.agg x.c :: caps) T fun v T'=>v=.bool (P x)∧Sub T T') :
  ai C1 52 [u,.func (.func f) [] caps] S fun v T=>Gw T v 2 43 ((dM P l).flatMap Rc.c)∧tW v=true∧aG v=aG u∧gf (fun id=>aG u=id+1) S T:=by
 obtain ⟨v,T,⟨rfl,hT⟩,e⟩:=(idx85 (f:=f) (caps:=caps) (P:=P) dB h.1 (by omega) hf (fun T hT x hx=>hc T hT.b6 x hx)).ex;refine bH (dH _) (dL _ rfl) fn52 rfl ok52 (by simp) fun F hn s0 s1=>?_;rw[nt52] at hn;have u1:=h.1.sl;have u2:=h.1.nS dB (by omega);have hgT:Gw T u 2 43 (l.flatMap Rc.c):=h.aY (fun id e=>hT.h id (by have:=h.1.old;omega)) hT.next
 have okU:=kL h.1.ok;have npU:=h.1.np;rcases idxI_cases P l with ⟨e1,e2⟩|⟨i,e1,e2,e3⟩
 ·rw[e1] at e;simp[s0,s1,e,bG,okU,npU];exact ⟨by rw[e2];exact hgT,jB,hT.b6⟩
 ·rw[e1] at e;have aZ:¬((i:Int)=-1):=by omega
  have hw:=kZ (i:=i) (by omega);simp[s0,s1,e,bG,aZ,okU,hw];refine ay (delH S u (.func (.func f) [] caps) l P) (l.length-(i+1)) (A9 i (i+1) l hT.b6 hgT rfl e3.symm rfl (by simp[s0]) (by simp[s1]) (by simp) (by simp) (by omega) (by omega) rfl) ?_;clear e e1 e2 e3 aZ hw;rintro k F' S' b7 ⟨i,j,M,hK,hg,hM,hti,hdr,t0,t1,t5,t6,gJ,hj,hk⟩;clear b7 s0 s1 hn;have v1:=hg.1.sl;by_cases hj':j<l.length
  ·have hMj:M[j]?=some l[j]:=by
    have:=congrArg (fun x=>x[0]?) hdr;simp only[List.getElem?_drop,Nat.add_zero] at this;rw[this];exact List.getElem?_eq_getElem hj'
   have hl:=eR (cx:=C1) (e:=43) hg.1 dB (by omega) hMj Bz zQ;have hold:=hg.1.old;have h1:Sub S' ⟨(S'.h.set S'.next (.row [.int .u64 0,.az] 0 0 false 43)).set S'.next (.row (l[j].c) 0 0 false 43),S'.next+1⟩:=⟨fun id cY=>by
    show ((S'.h.set _ _).set _ _).get id=_;rw[ae _ _ (by omega),ae _ _ (by omega)],Nat.le_succ _⟩
   obtain ⟨v,T',⟨rfl,hT'⟩,e⟩:=(hc ⟨(S'.h.set S'.next (.row [.int .u64 0,.az] 0 0 false 43)).set S'.next (.row (l[j].c) 0 0 false 43),S'.next+1⟩ (hK.trans h1.b6) l[j] (List.getElem_mem hj')).ex;have kD:T'.h.get S'.next=some (.row (l[j].c) 0 0 false 43):=by rw[hT'.h _ (Nat.lt_succ_self _)];exact aa _ _ _
   have jJ:Gw T' u 2 43 (M.flatMap Rc.c):=hg.aY (fun id e=>(h1.trans hT').h id (by omega)) (h1.trans hT').next
   have hK':=hK.trans ((h1.trans hT').b6 (A:=fun id=>aG u=id+1));have hw6:=kZ (i:=j) (by omega);have hw5:=kZ (i:=i) (by omega);have hdr':M.drop (j+1)=l.drop (j+1):=by
    have:=congrArg (List.drop 1) hdr;simpa[List.drop_drop] using this
   simp only[Rc.c] at hl e kD;cases hp:P l[j] with
   | true=>
    rw[hp] at e;simp[t0,t1,t5,t6,u1,u2,hj',hl,e,bG f hf,kD];exact ⟨l.length-(j+1),by omega,A9 i (j+1) M hK' jJ hM (by rw[pZ hj',if_pos hp,List.append_nil];exact hti) hdr' (by simp[t0]) (by simp[t1]) (by simp[t5]) (by simp[hw6]) (by omega) hj' rfl⟩
   | false=>
    rw[hp] at e;obtain ⟨W,ew,hgw,hsw,hnw⟩:=gw_pute jJ dB (by omega) (i:=i) (by omega) l[j];simp only[Rc.c] at ew;have uA:i<l.length:=by omega
    simp[t0,t1,t5,t6,u1,u2,hj',uA,hl,e,bG f hf,kD,ew];exact ⟨l.length-(j+1),by omega,A9 (i+1) (j+1) (M.set i l[j]) (hK'.trans ⟨fun id _ ha=>hsw id (fun e=>ha e.symm),by omega⟩) hgw (by rw[List.length_set];exact hM) (by rw[set_take (by omega),hti,pZ hj',hp];rfl) (by rw[List.drop_set_of_lt (by omega)];exact hdr') (by simp[t0]) (by simp[t1]) (by simp[hw5]) (by simp[hw6]) (by omega) hj' rfl⟩
  ·have hje:j=l.length:=by omega
   subst hje;rw[List.take_length] at hti;have hlen:=congrArg List.length hti;rw[List.length_take,Nat.min_eq_left (by omega)] at hlen;obtain ⟨T',N,e,r1,r2,r3,r4⟩:=gw_clear (cx:=C1) (ts:=[]) (i:=i) o8 hg jB (by omega);rw[u2] at e;have uA:i≤l.length:=by omega
   obtain ⟨c1,c2,c3⟩:=gw_cut0 (k:=i) r1 jB (by omega);rw[r2,ry dB,hti] at c1;simp[t0,t1,t5,t6,u1,u2,e,uA,kL c1.1.ok,c1.1.np];exact ⟨c1,c2,c3,hK.trans ⟨fun id _ ha=>r3 id (fun e=>ha e.symm),by omega⟩⟩
def iF (place:Nat):List Nat:=[116,48+place]
theorem uK {p:Nat} (hp:p<4):∀ c,c∈iF p→c<256:=fun c hc=>by
 unfold iF at hc;simp only[List.mem_cons,List.not_mem_nil,or_false] at hc;omega
def aQ (rs:List PR):List Nat:=rs.flatMap fun r=>fK r.n r.bs
namespace PD
theorem zT {f:PF}:∀ {fs:List PF},(fs.map (·.name)).Nodup→f∈fs→((fs.filter fun g=>!(g.name == f.name)).map fun g=>g.bs.length).sum+f.bs.length=(fs.map fun g=>g.bs.length).sum∧(fs.filter fun g=>!(g.name == f.name)).length+1=fs.length
 | [],_,h=>by cases h
 | g :: fs,hd,h=>by
  rw[List.map_cons,List.nodup_cons] at hd;rcases List.mem_cons.1 h with rfl|h'
  ·have h2:fs.filter (fun g=>!(g.name == f.name))=fs:=List.filter_eq_self.2 fun x hx=>by
    have:x.name≠f.name:=fun e=>hd.1 (List.mem_map.2 ⟨x,hx,e⟩);simp[this]
   rw[List.filter_cons,if_neg (by simp),h2];exact ⟨by rw[List.map_cons,List.sum_cons];omega,rfl⟩
  ·have ne:¬g.name=f.name:=fun e=>hd.1 (List.mem_map.2 ⟨f,h',e.symm⟩);obtain ⟨i1,i2⟩:=zT hd.2 h';rw[List.filter_cons,if_pos (by simp[ne])];exact ⟨by rw[List.map_cons,List.sum_cons,List.map_cons,List.sum_cons];omega,by rw[List.length_cons,List.length_cons];omega⟩
theorem ok.rename {d:PD} (h:d.ok) {old name:List Nat} (aZ:old≠name):(d.rename old name).2.ok:=h.on fun d' h1 h2 h3 h0=>by
 cases e:d'.file old with
 | none=>exact h1
 | some f=>
  obtain ⟨hf,tO⟩:=ey e;have hu:=h1.used;have hq:=h1.q;have hm:=h1.many;show (d'.mv f name).ok;unfold PD.mv;cases hx:d'.file name with
  | none=>
   have hh:d'.has name=false:=by unfold PD.has;rw[hx];rfl
   have hnn:¬name∈d'.fs.map (·.name):=fun hm=>by rw[(uY d' name).2 hm] at hh;cases hh
   rw[hh];have sM:((d'.fs++[PF.mk name f.bs f.ef]).map (fun g:PF=>g.name)).Nodup:=by
    rw[List.map_append,List.nodup_append];refine ⟨h1.names,by simp,fun a ha b hb=>?_⟩;simp at hb;subst hb;exact fun e=>hnn (e▸ha)
   obtain ⟨i1,i2⟩:=zT sM (List.mem_append_left _ hf);simp only[List.map_append,List.sum_append,List.length_append] at i1 i2;unfold PD.used at hu;simp only[Bool.false_eq_true,if_false];refine ⟨?_,?_,hq,h1.cH,sM.sublist (List.filter_sublist.map _)⟩
   ·show (List.filter (fun g:PF=>!(g.name == f.name)) (d'.fs++[PF.mk name f.bs f.ef])).length≤512;have i2':(List.filter (fun g:PF=>!(g.name == f.name)) (d'.fs++[PF.mk name f.bs f.ef])).length+1=d'.fs.length+1:=i2;omega
   ·show ((List.filter (fun g:PF=>!(g.name == f.name)) (d'.fs++[PF.mk name f.bs f.ef])).map fun g=>g.bs.length).sum≤d'.q;have i1':((List.filter (fun g:PF=>!(g.name == f.name)) (d'.fs++[PF.mk name f.bs f.ef])).map fun g=>g.bs.length).sum+f.bs.length=(d'.fs.map fun g=>g.bs.length).sum+f.bs.length:=by
     rw[i1];simp
    omega
  | some g=>
   obtain ⟨hg,hgn⟩:=ey hx;have hh:d'.has name=true:=by unfold PD.has;rw[hx];rfl
   rw[hh];have sM:((d'.put ⟨name,f.bs,f.ef⟩).fs.map (·.name)).Nodup:=by rw[sm];exact h1.names
   have hs:=zS (f':=⟨name,f.bs,f.ef⟩) hgn.symm h1.names hg;have hfp:f∈(d'.put ⟨name,f.bs,f.ef⟩).fs:=List.mem_map.2 ⟨f,hf,if_neg (by rw[tO];exact aZ)⟩;obtain ⟨i1,i2⟩:=zT sM hfp;unfold PD.used at hu;have hlen:(d'.put ⟨name,f.bs,f.ef⟩).fs.length=d'.fs.length:=List.length_map ..;simp only[if_true];refine ⟨?_,?_,hq,h1.cH,sM.sublist (List.filter_sublist.map _)⟩
   ·show (List.filter _ _).length≤512;have i2':(List.filter (fun g=>!(g.name == f.name)) (d'.put ⟨name,f.bs,f.ef⟩).fs).length+1=(d'.put ⟨name,f.bs,f.ef⟩).fs.length:=i2;show (List.filter (fun g=>!(g.name == f.name)) (d'.put ⟨name,f.bs,f.ef⟩).fs).length≤512;omega
   ·show ((List.filter (fun g=>!(g.name == f.name)) (d'.put ⟨name,f.bs,f.ef⟩).fs).map fun g=>g.bs.length).sum≤d'.q;have hs':((d'.put ⟨name,f.bs,f.ef⟩).fs.map fun g=>g.bs.length).sum+g.bs.length=(d'.fs.map fun g=>g.bs.length).sum+f.bs.length:=hs;omega
end PD
namespace PM
def rK (name b:List Nat) (m:PM):Int×PM:=if b=[] then (0,m) else m.mH (m.d.append name (aO b))
def pA (name:List Nat) (m:PM):Int×PM:=m.mH (m.d.sync name)
def Ad (old name:List Nat) (m:PM):Int×PM:=m.mH (m.d.rename old name)
def gE (name b:List Nat) (m:PM):Int×PM:=bT [fL (iF m.place),rK (iF m.place) b,pA (iF m.place),Ad (iF m.place) name] m
variable {m:PM} {B:Nat}
theorem wf.rK (h:m.wf B) (name b:List Nat):(m.rK name b).2.wf B:=by
 unfold PM.rK;split
 ·exact h
 ·exact h.mH (h.d.append _ _)
theorem wf.pA (h:m.wf B) (name:List Nat):(m.pA name).2.wf B:=h.mH (h.d.sync _)
theorem wf.Ad (h:m.wf B) {old name:List Nat} (aZ:old≠name):(m.Ad old name).2.wf B:=h.mH (h.d.rename aZ)
theorem wf.gE (h:m.wf B) {name b:List Nat} (aZ:iF m.place≠name):(m.gE name b).2.wf B:=by
 unfold PM.gE;refine h.bT fun g hg m' hm=>?_;simp only[List.mem_cons,List.not_mem_nil,or_false] at hg;rcases hg with rfl|rfl|rfl|rfl
 ·exact hm.fL _
 ·exact hm.rK _ _
 ·exact hm.pA _
 ·exact hm.Ad aZ
end PM
section
variable {S T U:AS} {L:Lg} {B:Nat}
def ng (S:AS) (L:Lg) (r:Int×PM) (u:AV) (T:AS):Prop:=u=.int .i64 r.1∧∃ L',bq T L'∧L'.m=r.2∧aH L L' S T∧L'.pv=L.pv∧L'.ps=L.ps
def FinP (S:AS) (L:Lg) (r:Int×PM) (e:Int) (T:AS) (L':Lg):Prop:=e=r.1∧L'.m=r.2∧bq T L'∧aH L L' S T∧L'.pv=L.pv∧L'.ps=L.ps
theorem tryP_nilP {S0:AS} {L0:Lg} (h:bq S L) (he:aH L0 L S0 S) (e1:L.pv=L0.pv) (e2:L.ps=L0.ps):xz [] S L (FinP S0 L0 (PM.bT [] L.m)):=⟨rfl,rfl,h,he,e1,e2⟩
theorem mg {S0:AS} {L0:Lg} {g:FuncId} {first cap:List AV} {g1:PM→Int×PM} {gs:List (PM→Int×PM)} {l:List AV} (he:aH L0 L S0 S) (e1:L.pv=L0.pv) (e2:L.ps=L0.ps) (hx:C1.exts.get g=none) (hc:ai C1 g (first++cap) S (ng S L (g1 L.m)))
  (k:(g1 L.m).1=0→∀ T L',bq T L'→L'.m=(g1 L.m).2→aH L L' S T→L'.pv=L0.pv→L'.ps=L0.ps→xz l T L' (FinP S0 L0 (PM.bT gs L'.m))):xz (.func (.func g) first cap :: l) S L (FinP S0 L0 (PM.bT (g1 :: gs) L.m)):=by
 refine ⟨g,first,cap,rfl,hx,hc.mono ?_⟩;rintro r T ⟨rfl,L',h1,h2,h3,h4,h5⟩;refine ⟨(g1 L.m).1,L',rfl,h1,h3,?_⟩;by_cases h0:(g1 L.m).1=0
 ·refine .inl ⟨h0,?_⟩;have:=k h0 T L' h1 h2 h3 (h4.trans e1) (h5.trans e2);unfold PM.bT;rw[if_pos h0,←h2];exact this
 ·refine .inr ⟨h0,fun U k1 k2=>?_⟩;unfold PM.bT;rw[if_neg h0];exact ⟨rfl,by rw[turn_m,h2],k1,he.trans (h3.trans k2),h4.trans e1,h5.trans e2⟩
theorem try_goneP {v:AV} {cs:List AV} {gs:List (PM→Int×PM)} (h:bq S L) (hv:Sl S v 1 cs) (ho:Out L.aI v) (hl:cs.length≤1048576) (ht:xz cs S L (FinP S L (PM.bT gs L.m))):ai C1 39 [.ptr L.lp 0 0 6,v] S (ng S L (PM.bT gs L.m)):=
 (try39 h hv ho hl ht).mono fun r T ⟨e,L',e1,e2,e3,e4,e5,e6,e7⟩=>⟨by rw[e1,e2],L',e4,e3,e5,e6,e7⟩
theorem mR (h:bq S L) {r:Int×PD} {u:AV} {T:AS} (hl:Left L.D S r u T):ng S L (L.m.mH r) u T:=by
 obtain ⟨e1,D',h1,h2,h3,h4⟩:=hl;obtain ⟨k1,k2⟩:=h.mH h1 h3 h4;refine ⟨e1,_,k1,?_,k2,rfl,rfl⟩;unfold PM.mH;rw[←h2];rfl
theorem ng.sub {r:Int×PM} {u:AV} (hs:Sub S T) (h:ng T L r u U):ng S L r u U:=by
 obtain ⟨e,L',h1,h2,h3,h4⟩:=h;exact ⟨e,L',h1,h2,(aH.of hs).trans h3,h4⟩
theorem nt86P:Tryz.f86.ntmps=9:=by kernel_rfl
theorem crea86P (h:bq S L) (wf:L.m.wf B) {a b:Nat} {name:List Nat} (hc:Cell S L a (.row [.ptr L.lp 0 0 6] 0 0 false 27)) (hb:Cell S L b (.row [.str name] 0 0 false 9)) (hn:∀ c,c∈name→c<256) (hl:name.length≤1048576):ai C1 86 [.ptr a 0 0 1,.ptr b 0 0 1] S (ng S L (L.m.fL name)):=by
 have hr:=h.row;have ha:=hc.get;have hbg:=hb.get;obtain ⟨r,T,hL,ec⟩:=(zw h.lQ wf.d hn hl).ex;have hg:=mR h hL;obtain ⟨rfl,_⟩:=hL;refine bH (dH _) (dL _ rfl) fn86 rfl ok86 (by simp) fun F hn s0 s1=>?_;rw[nt86P] at hn;simp;refine aF [.r 0 0,.p,.p,.r 0 0,.r 0 0,.e [],.p] (n:=9) (by kernel_rfl) (by simp[hn]) ?_;simp[s0,s1,ha,hbg,hr,bG,ec];exact hg
theorem nt88P:Tryz.f88.ntmps=9:=by kernel_rfl
theorem sync88P (h:bq S L) (wf:L.m.wf B) {a b:Nat} {name:List Nat} (hc:Cell S L a (.row [.ptr L.lp 0 0 6] 0 0 false 27)) (hb:Cell S L b (.row [.str name] 0 0 false 9)) (hn:∀ c,c∈name→c<256) (hl:name.length≤1048576):ai C1 88 [.ptr a 0 0 1,.ptr b 0 0 1] S (ng S L (L.m.pA name)):=by
 have hr:=h.row;have ha:=hc.get;have hbg:=hb.get;obtain ⟨r,T,hL,ec⟩:=(zR h.lQ wf.d hn hl).ex;have hg:=mR h hL;obtain ⟨rfl,_⟩:=hL;refine bH (dH _) (dL _ rfl) fn88 rfl ok88 (by simp) fun F hn s0 s1=>?_;rw[nt88P] at hn;simp;refine aF [.r 0 0,.p,.p,.r 0 0,.r 0 0,.e [],.p] (n:=9) (by kernel_rfl) (by simp[hn]) ?_;simp[s0,s1,ha,hbg,hr,bG,ec];exact hg
theorem nt87:Tryz.f87.ntmps=14:=by kernel_rfl
theorem app87 (h:bq S L) (wf:L.m.wf B) {a b c:Nat} {name bs:List Nat} {v:AV} (hv0:Cell S L c (.row [v] 0 0 false 31)) (hc:Cell S L a (.row [.ptr L.lp 0 0 6] 0 0 false 27)) (hb:Cell S L b (.row [.str name] 0 0 false 9)) (hn:∀ c,c∈name→c<256) (hl:name.length≤1048576)
  (hv:Sl S v 1 (aO bs)) (ho:Out L.aI v) (uX:bs.length≤1000000):ai C1 87 [.ptr c 0 0 1,.ptr a 0 0 1,.ptr b 0 0 1] S (ng S L (L.m.rK name bs)):=by
 have hr:=h.row;have ha:=hc.get;have hbg:=hb.get;have hvg:=hv0.get;have u1:=hv.sl;have u2:=hv.gX;rw[bK] at u2;have wk:=cF hv;refine fZ (dH _) (dL _ rfl) fn87 rfl ok87 (by simp) fun F b7 s0 s1 s2=>?_;rw[nt87] at b7;unfold PM.rK;by_cases h0:bs=[]
 ·rw[if_pos h0];rw[h0] at u2;simp[s0,s1,s2,hvg,u1,u2];exact ⟨rfl,L,h,rfl,aH.refl,rfl,rfl⟩
 ·rw[if_neg h0];have jA:0<bs.length:=List.length_pos_iff.2 h0;have h0I:¬((bs.length:Int)=0):=by omega
  obtain ⟨r,T,hL,ec⟩:=(zC h.lQ wf.d (name:=name) hn hl hv (fun e=>ho _ e (.inr (.inr (.inl rfl)))) (by rw[bK];omega)).ex;have hg:=mR h hL;obtain ⟨rfl,_⟩:=hL;simp[s0,s1,s2,hvg,u1,u2,h0,h0I];refine aF [.r 0 0,.p,.p,.r 0 0,.r 0 0,.r 0 0,.e [],.p] (n:=14) (by kernel_rfl) (by simp[b7]) ?_;simp[s0,s1,s2,ha,hbg,hvg,hr,bG,ec,wk];exact hg
theorem nt89:Tryz.f89.ntmps=12:=by kernel_rfl
theorem ren89 (h:bq S L) (wf:L.m.wf B) {a b c:Nat} {old name:List Nat} {x w:AV} (hc:Cell S L a (.row [.ptr L.lp 0 0 6] 0 0 false 27)) (hb:Cell S L b (.row [.str old] 0 0 false 9)) (hp:Cell S L c (.row [.str name,x,w] 0 0 false 76)) (aZ:old≠name) (ho:∀ c,c∈old→c<256) (Es:old.length≤1048576)
  (hn:∀ c,c∈name→c<256) (hl:name.length≤1048576):ai C1 89 [.ptr a 0 0 1,.ptr b 0 0 1,.ptr c 0 0 3] S (ng S L (L.m.Ad old name)):=by
 have hr:=h.row;have ha:=hc.get;have hbg:=hb.get;have hpg:=hp.get;obtain ⟨r,T,hL,ec⟩:=(rename_pd h.lQ wf.d aZ ho Es hn hl).ex;have hg:=mR h hL;obtain ⟨rfl,_⟩:=hL;refine fZ (dH _) (dL _ rfl) fn89 rfl ok89 (by simp) fun F hn s0 s1 s2=>?_;rw[nt89] at hn;simp;refine aF [.r 0 0,.p,.p,.r 0 0,.r 0 0,.p,.r 0 0,.e [],.p] (n:=12) (by kernel_rfl) (by simp[hn]) ?_;simp[s0,s1,s2,ha,hbg,hpg,hr,bG,ec];exact hg
end
end Go.Proofs.YtgkdgiognhbfjaaGreatDoor.dk
namespace Go.Proofs.YtgkdgiognhbfjaaGreatDoor.dk
open Go Go.Am Go.Proofs.YtgkdgiognhbfjaaGreatDoor.seg
set_option linter.unusedVariables false
set_option linter.unusedSimpArgs false
section
variable {S T U:AS} {L:Lg} {B:Nat}
theorem nt53:Tryz.f53.ntmps=40:=by kernel_rfl
structure RpAt (S:AS) (lp:Nat) (p:Pt) (tmp:List Nat) (a c4 c7 c8:Nat) (v:AV) (bs:List Nat) (T:AS):Prop where
 sub:Sub S T
 ga:T.h.get a=some (.row [.ptr lp 0 0 6] 0 0 false 27)
 g4:T.h.get c4=some (.row [.str p.name,.int .u64 p.first,p.w] 0 0 false 76)
 g7:T.h.get c7=some (.row [.str tmp] 0 0 false 9)
 g8:T.h.get c8=some (.row [v] 0 0 false 31)
 gw:Gw T v 1 5 (aO bs)
 nw:nf (c8+1) v
 lt:c8<T.next
def rpH (S:AS) (lp:Nat) (p:Pt) (tmp:List Nat) (a c4 c7 c8:Nat) (u:AV) (rs:List Rc) (k:Nat) (F':Fr) (S':AS):Prop:=
 ∃ (i:Nat) (v:AV),RpAt S lp p tmp a c4 c7 c8 v (aQ ((rs.take i).map Rc.p)) S'∧sl F' 3=.ptr a 0 0 1∧sl F' 4=.ptr c4 0 0 3∧sl F' 7=.ptr c7 0 0 1∧sl F' 8=.ptr c8 0 0 1∧sl F' 18=u∧sl F' 19=.int .i64 rs.length∧sl F' 20=.int .i64 i∧i≤rs.length∧F'.n=40∧k=rs.length-i
theorem lN {n:Nat} {bs:List Nat} (hn:gl n=true) (hb:bs.length≤1500):(fK n bs).length≤1518:=by
 have:n≤1099511627776:=by unfold gl at hn;simp at hn;exact hn.2
 unfold fK;rw[wL];unfold recB;rw[List.length_append];have:=nQ 9 n (by omega);omega
theorem wN {rs:List Rc} (h:∀ r,r∈rs→gl r.n=true∧r.bs.length≤1500):(aQ (rs.map Rc.p)).length≤1518*rs.length:=by
 induction rs with
 | nil=>simp[aQ]
 | cons r rs ih=>
  have h1:=lN (h r (List.mem_cons_self ..)).1 (h r (List.mem_cons_self ..)).2;have h2:=ih fun x hx=>h x (List.mem_cons_of_mem _ hx);unfold aQ at h2 ⊢;rw[List.map_cons,List.flatMap_cons,List.length_append,List.length_cons];show (fK r.n r.bs).length+_≤_;omega
theorem wO (a b:List PR):aQ (a++b)=aQ a++aQ b:=by unfold aQ;rw[List.flatMap_append]
theorem RpAt.set8 {lp:Nat} {p:Pt} {tmp:List Nat} {a c4 c7 c8:Nat} {v v':AV} {bs bs':List Nat} (h:RpAt S lp p tmp a c4 c7 c8 v bs T) (h4:a<c8∧c4<c8∧c7<c8∧S.next≤c8) (hs:∀ id,id<c8+1→U.h.get id=T.h.get id) (hn:T.next≤U.next) (hg:Gw U v' 1 5 (aO bs')) (hw:nf (c8+1) v') :
  RpAt S lp p tmp a c4 c7 c8 v' bs' ⟨U.h.set c8 (.row [v'] 0 0 false 31),U.next⟩:=by
 have o:∀ id,id<c8→(⟨U.h.set c8 (.row [v'] 0 0 false 31),U.next⟩:AS).h.get id=T.h.get id:=fun id hi=>(ae _ _ (by omega)).trans (hs id (by omega));refine ⟨⟨fun id hi=>(o id (by omega)).trans (h.sub.h id hi),Nat.le_trans h.sub.next hn⟩,(o _ h4.1).trans h.ga,(o _ h4.2.1).trans h.g4,(o _ h4.2.2.1).trans h.g7,aa _ _ _,hg.aY (fun id e=>ae _ _ (fun e2=>by rcases hw with q|q<;>omega)) (Nat.le_refl _),hw,Nat.lt_of_lt_of_le h.lt hn⟩
set_option maxRecDepth 20000 in
theorem repl53 (h:bq S L) (wf:L.m.wf B) (hB:B≤900000) {p:Pt} {u:AV} {rs:List Rc} (hpw:cellsOf p.w=some [p.w]) (hr:mZ S L.aI u rs) (hm:∀ r,r∈rs→gl r.n=true∧r.bs.length≤1500∧∀ c,c∈r.bs→c<256) (hl:rs.length≤600)
  (aZ:iF L.place≠p.name) (hn:∀ c,c∈p.name→c<256) (hnl:p.name.length≤1048576):ai C1 53 [.ptr L.lp 0 0 6,.agg p.c,u] S (ng S L (L.m.gE p.name (aQ (rs.map Rc.p)))):=by
 have pc:p.c=[.str p.name,.int .u64 p.first,p.w]:=rfl;have eV:L.place<4:=wf.pl;obtain ⟨S1,cz⟩:∃ S1:AS,S1=⟨S.h.set S.next (.row [.ptr L.lp 0 0 6] 0 0 false 27),S.next+1⟩:=⟨_,rfl⟩
 have s1:Sub S S1:=by rw[cz];exact cJ
 have n1:S1.next=S.next+1:=by rw[cz]
 have ga1:S1.h.get S.next=some (.row [.ptr L.lp 0 0 6] 0 0 false 27):=by rw[cz];exact aa _ _ _
 have jn:=cz.symm;obtain ⟨S2,dW⟩:∃ S2:AS,S2=⟨S1.h.set S1.next (.row [.str p.name,.int .u64 p.first,p.w] 0 0 false 76),S1.next+1⟩:=⟨_,rfl⟩
 have s2:Sub S1 S2:=by rw[dW];exact cJ
 have n2:S2.next=S.next+2:=by rw[dW];show S1.next+1=_;omega
 have g42:S2.h.get S1.next=some (.row [.str p.name,.int .u64 p.first,p.w] 0 0 false 76):=by rw[dW];exact aa _ _ _
 have bS2:=dW.symm;have ga2:=(s2.h S.next (by omega)).trans ga1;have hr2:=(h.sub (s1.trans s2)).row;obtain ⟨r,T3,⟨rfl,s3⟩,e21⟩:=(zP (S:=S2) (p:=L.place) (by omega)).ex;obtain ⟨tmp,htmp⟩:∃ tmp,tmp=iF L.place:=⟨_,rfl⟩
 have htmp':[116,48+L.place]=tmp:=htmp.symm;rw[htmp'] at e21;obtain ⟨T4,hT4⟩:∃ T4:AS,T4=⟨(T3.h.set T3.next (.row [.str []] 0 0 false 9)).set T3.next (.row [.str tmp] 0 0 false 9),T3.next+1⟩:=⟨_,rfl⟩
 have s4:Sub T3 T4:=by rw[hT4];exact kx
 have n4:T4.next=T3.next+1:=by rw[hT4]
 have g74:T4.h.get T3.next=some (.row [.str tmp] 0 0 false 9):=by rw[hT4];exact aa _ _ _
 have bT4:=hT4.symm;obtain ⟨T5,hT5⟩:∃ T5:AS,T5=⟨T4.h.set T4.next (.row [.az] 0 0 false 31),T4.next+1⟩:=⟨_,rfl⟩
 have s5:Sub T4 T5:=by rw[hT5];exact cJ
 have n5:T5.next=T4.next+1:=by rw[hT5]
 have bT5:=hT5.symm;have hs3n:=s3.next
 have u1:=hr.sl.sl;have u2:=hr.len;have hz:∀ x:Rc,x.c.length=2:=fun _=>rfl;refine fZ (dH _) (dL _ rfl) fn53 rfl ok53 (by simp) fun F b7 t0 t1 t2=>?_;rw[nt53] at b7;rw[pc] at t1;have hpw':cellsOf (.agg [.str p.name,.int .u64 p.first,p.w])=some [.str p.name,.int .u64 p.first,p.w]:=rfl;simp[t0,t1,t2,jn,bS2,ga2,hr2,bG,e21,bT4,bT5,u1,u2];have rp0:RpAt S L.lp p tmp S.next S1.next T3.next T4.next .az (aQ (([]:List Rc).map Rc.p)) T5:=by
  refine ⟨s1.trans (s2.trans (s3.trans (s4.trans s5))),((s3.trans (s4.trans s5)).h _ (by omega)).trans ga2,((s3.trans (s4.trans s5)).h _ (by omega)).trans g42,(s5.h _ (by omega)).trans g74,by rw[hT5];exact aa _ _ _,Gw.nil,.inl rfl,by omega⟩
 refine ay (rpH S L.lp p tmp S.next S1.next T3.next T4.next u rs) rs.length ⟨0,.az,rp0,by simp,by simp,by simp,by simp,by simp[t2],by simp[u2],by simp,Nat.zero_le _,by simp[b7],rfl⟩ ?_;have h4:S.next<T4.next∧S1.next<T4.next∧T3.next<T4.next∧S.next≤T4.next:=by omega
 have hac:S.next≠S1.next:=by omega
 obtain ⟨a,ha⟩:∃ a,a=S.next:=⟨_,rfl⟩
 obtain ⟨c4,hc4⟩:∃ a,a=S1.next:=⟨_,rfl⟩
 obtain ⟨c7,hc7⟩:∃ a,a=T3.next:=⟨_,rfl⟩
 obtain ⟨c8,hc8⟩:∃ a,a=T4.next:=⟨_,rfl⟩
 have ji:S.next≤a∧S.next≤c4∧S.next≤c7:=by omega
 have h4':a<c8∧c4<c8∧c7<c8∧S.next≤c8:=by omega
 rw[←ha,←hc4,←hc7,←hc8];clear rp0 t0 t1 t2 b7 jn bS2 ga2 hr2 e21 bT4 bT5 hT5 n5 s5 hT4 g74 s4 n4 s3 hs3n g42 dW s2 n2 ga1 cz n1 s1 ha hc4 hc7 hc8 h4 hac T5 T4 T3 S2 S1;rintro k F' S' nY ⟨i,v,rp,t3,t4,t7,t8,t18,t19,t20,hi,b7,hk⟩;clear nY;have rs1:=rp.sub;have hrT:=hr.go (Q:=L.aI) (fun id hi _=>rs1.h id hi) rs1.next (fun _ _ h=>h)
 by_cases gg:i<rs.length
 ·have sR:(i:Int)<rs.length:=by omega
  have j4:=IntWalk.i64_in ((i:Int)+1) (by omega);obtain ⟨x,hx⟩:∃ x,rs[i]?=some x:=⟨_,List.getElem?_eq_getElem gg⟩
  have hxm:=List.mem_of_getElem? hx;obtain ⟨m1,m2,m3⟩:=hm x hxm;have mQ:=eR (cx:=C1) (e:=43) (enc:=Rc.c) hrT.sl hz (by decide) hx Bz zQ;have xc:x.c=[.int .u64 x.n,x.w]:=rfl;rw[xc] at mQ;obtain ⟨S3,uZ⟩:∃ S3:AS,S3=⟨(S'.h.set S'.next (.row [.int .u64 0,.az] 0 0 false 43)).set S'.next (.row [.int .u64 x.n,x.w] 0 0 false 43),S'.next+1⟩:=⟨_,rfl⟩
  have sS3:Sub S' S3:=by rw[uZ];exact kx
  have g3:S3.h.get S'.next=some (.row [.int .u64 x.n,x.w] 0 0 false 43):=by rw[uZ];exact aa _ _ _
  have bS3:=uZ.symm;have hxn:x.n<18446744073709551616:=by unfold gl at m1;simp at m1;omega
  obtain ⟨r,T6,⟨s6,AG⟩,e36⟩:=(put36 (n:=x.n) ((hrT.data x hxm).1.toSub sS3) hxn m3 (by omega)).ex;have hpe:sq x.n x.bs.length=0:=by unfold sq;rw[m1,if_pos rfl,if_neg (by omega)]
  rw[hpe] at AG;rcases AG with ⟨q,_⟩|⟨_,w,rfl,w1,w2⟩
  ·exact absurd rfl q
  have s36:=sS3.trans s6;have gv:=rp.gw.aY (T:=T6) (fun id e=>s36.h id (by have:=rp.gw.1.old;omega)) s36.next
  have mf:=lN m1 m2;have jK:=wN (rs:=rs.take i) fun r hr=>⟨(hm r (List.mem_of_mem_take hr)).1,(hm r (List.mem_of_mem_take hr)).2.1⟩
  rw[List.length_take] at jK;have rlt:=rp.lt;have s36n:=s36.next
  obtain ⟨v7,T7,e7,g7,k7,n7,w7,_⟩:=lV (lo:=c8+1) gv w2.1 (by rw[bK,bK];omega) rp.nw (by omega);have g8T:=(s36.h c8 rlt).trans rp.g8;rw[kf] at g7;have g8T7:=(k7 c8 (by omega)).trans g8T;have wk:=cF gv.1;have Ep:vc T7 (.ptr c8 0 0 1) [v7]=some ⟨T7.h.set c8 (.row [v7] 0 0 false 31),T7.next⟩:=by
   simp only[fP,kr,g8T7,fm];rw[if_pos ⟨trivial,by simp,trivial⟩];rfl
  simp[t3,t4,t7,t8,t18,t19,t20,sR,u1,u2,gg,mQ,bS3,g3,bG,e36,cF w2.1,g8T,e7,bd g7.1.sl,Ep,j4];have iJ:aQ ((rs.take (i+1)).map Rc.p)=aQ ((rs.take i).map Rc.p)++fK x.n x.bs:=by
   have:rs.take (i+1)=rs.take i++[x]:=by rw[List.take_add_one,hx];rfl
   rw[this,List.map_append,wO];congr 1;show fK x.n x.bs++[]=_;rw[List.append_nil]
  exact ⟨rs.length-(i+1),by omega,i+1,v7,by rw[iJ];exact rp.set8 h4' (fun id hi=>(k7 id hi).trans (s36.h id (by omega))) (by omega) g7 w7,by simp[t3],by simp[t4],by simp[t7],by simp[t8],by simp[t18],by simp[t19],by simp,by omega,by simp[b7],rfl⟩
 ·have:i=rs.length:=by omega
  subst this;rw[List.take_length] at rp;obtain ⟨bs,hbs⟩:∃ bs,bs=aQ (rs.map Rc.p):=⟨_,rfl⟩
  have uX:=wN fun r hr=>⟨(hm r hr).1,(hm r hr).2.1⟩
  rw [← hbs] at rp uX ⊢;have h1 := h.sub rs1;have rlt := rp.lt;have ca : Cell S' L a (.row [.ptr L.lp 0 0 6] 0 0 false 27) := h.cell rs1 rp.ga (by omega) (by omega);have cp : Cell S' L c4 (.row [.str p.name, .int .u64 p.first, p.w] 0 0 false 76) := h.cell rs1 rp.g4 (by omega) (by omega);have c7' : Cell S' L c7 (.row [.str tmp] 0 0 false 9) := h.cell rs1 rp.g7 (by omega) (by omega);have c8' : Cell S' L c8 (.row [v] 0 0 false 31) := h.cell rs1 rp.g8 (by omega) rlt;have vsl := rp.gw.1;have vo : Out L.aI v := Out.new h (by rcases rp.nw with q | q; exact .inl q; exact .inr (by omega));have gp : ∀ (F : Fr) (B : Nat) (x0 x1 x2 x3 : Tmp), sl F x0 = .func (.func 86) [] [.ptr a 0 0 1, .ptr c7 0 0 1] → sl F x1 = .func (.func 87) [] [.ptr c8 0 0 1, .ptr a 0 0 1, .ptr c7 0 0 1] → sl F x2 = .func (.func 88) [] [.ptr a 0 0 1, .ptr c7 0 0 1] → sl F x3 = .func (.func 89) [] [.ptr a 0 0 1, .ptr c7 0 0 1, .ptr c4 0 0 3] →
    al C1 F B (.buildSlice 122 4 #[(0,.tmp x0),(1,.tmp x1),(2,.tmp x2),(3,.tmp x3)])=some (.slice B 0 0 4 4 1 (some 4),.row [.func (.func 86) [] [.ptr a 0 0 1,.ptr c7 0 0 1],.func (.func 87) [] [.ptr c8 0 0 1,.ptr a 0 0 1,.ptr c7 0 0 1],.func (.func 88) [] [.ptr a 0 0 1,.ptr c7 0 0 1],.func (.func 89) [] [.ptr a 0 0 1,.ptr c7 0 0 1,.ptr c4 0 0 3]] 0 0 false 45):=
   fun F B x0 x1 x2 x3 a0 a1 a2 a3=>fresh4 a0 a1 a2 a3
  obtain ⟨S4,oe⟩:∃ S4:AS,S4=⟨S'.h.set S'.next (.row [.func (.func 86) [] [.ptr a 0 0 1,.ptr c7 0 0 1],.func (.func 87) [] [.ptr c8 0 0 1,.ptr a 0 0 1,.ptr c7 0 0 1],.func (.func 88) [] [.ptr a 0 0 1,.ptr c7 0 0 1],.func (.func 89) [] [.ptr a 0 0 1,.ptr c7 0 0 1,.ptr c4 0 0 3]] 0 0 false 45),S'.next+1⟩:=⟨_,rfl⟩
  have s5:Sub S' S4:=by rw[oe];exact cJ
  have ze:=h1.sub s5;have hv:Sl S4 (.slice S'.next 0 0 4 4 1 (some 4)) 1 [.func (.func 86) [] [.ptr a 0 0 1,.ptr c7 0 0 1],.func (.func 87) [] [.ptr c8 0 0 1,.ptr a 0 0 1,.ptr c7 0 0 1],.func (.func 88) [] [.ptr a 0 0 1,.ptr c7 0 0 1],.func (.func 89) [] [.ptr a 0 0 1,.ptr c7 0 0 1,.ptr c4 0 0 3]]:=by rw[oe];exact oh (fs:=[_,_,_,_]) (by simp)
  have e5:=(aH.of s5:aH L L S' S4)
  have ca:=ca.fY e5;have cp:=cp.fY e5;have c7':=c7'.fY e5;have c8':=c8'.fY e5;obtain ⟨vsl,vo⟩:=Sl.fY vsl vo e5;have xH:(∀ c,c∈tmp→c<256)∧tmp.length≤1048576:=by rw[htmp];exact ⟨uK eV,by show 2≤1048576;decide⟩
  have hmk:L.m.gE p.name bs=PM.bT [PM.fL tmp,PM.rK tmp bs,PM.pA tmp,PM.Ad tmp p.name] L.m:=by
   unfold PM.gE;rw[show L.m.place=L.place from rfl,←htmp]
  have hnet:tmp≠p.name:=by rw[htmp];exact aZ
  have ht:=try_goneP (gs:=[PM.fL tmp,PM.rK tmp bs,PM.pA tmp,PM.Ad tmp p.name]) ze hv (Out.new h1 (.inr (by show S'.next<S'.next+1;omega))) (by simp) (by
   refine mg aH.refl rfl rfl (bG _ rfl) (first:=[]) (crea86P ze wf ca c7' xH.1 xH.2) fun h0 U L2 k1 k2 k3 k4 k5=>?_;have wf2:L2.m.wf B:=by rw[k2];exact wf.fL tmp
   obtain ⟨vsl2,vo2⟩:=Sl.fY vsl vo k3;refine mg k3 k4 k5 (bG _ rfl) (first:=[]) (app87 k1 wf2 (c8'.fY k3) (Cell.lp (c:=fun x=>.row [.ptr x 0 0 6] 0 0 false 27) ca k3) (c7'.fY k3) xH.1 xH.2 vsl2 vo2 (by omega)) fun h0 U L3 q1 q2 q3 q4 q5=>?_;have wf3:L3.m.wf B:=by rw[q2];exact wf2.rK tmp bs
   have k6:=k3.trans q3;refine mg k6 q4 q5 (bG _ rfl) (first:=[]) (sync88P q1 wf3 (Cell.lp (c:=fun x=>.row [.ptr x 0 0 6] 0 0 false 27) ca k6) (c7'.fY k6) xH.1 xH.2) fun h0 U L4 z1 z2 z3 z4 z5=>?_;have wf4:L4.m.wf B:=by rw[z2];exact wf3.pA tmp
   have k7:=k6.trans z3;refine mg k7 z4 z5 (bG _ rfl) (first:=[]) (ren89 z1 wf4 (Cell.lp (c:=fun x=>.row [.ptr x 0 0 6] 0 0 false 27) ca k7) (c7'.fY k7) (cp.fY k7) hnet xH.1 xH.2 hn hnl) fun h0 U L5 y1 y2 y3 y4 y5=>?_;exact tryP_nilP y1 (k7.trans y3) y4 y5)
  obtain ⟨r,T5,hg,e39⟩:=ht.ex;rw[hmk];have jJ:=ng.sub (rs1.trans s5) hg;obtain ⟨rfl,_⟩:=hg;have zB:=oe.symm;simp[t3,t4,t7,t8,t18,t19,t20,rp.ga,bG,gp,zB,e39];exact jJ
end
def xT (l:List Nat):List AV:=l.map fun n:Nat=>AV.int .u64 (n:Int)
theorem CL (l:List Nat):(xT l).length=l.length:=List.length_map ..
theorem CM {l:List Nat} {i:Nat} {n:Nat} (h:l[i]?=some n):(xT l)[i]?=some (AV.int .u64 (n:Int)):=by unfold xT;rw[List.getElem?_map,h];rfl
namespace PM
def eE (m:PM):Nat:=match (m.ps.flatMap (·.rs)).getLast? with|some r=>r.n|none=>0
def goes (W:List Nat) (nw:Nat) (n:Nat):Bool:=decide (n∈W) && !decide (n=nw)
end PM
section
variable {S T U:AS} {L:Lg} {B:Nat}
theorem newest_m (L:Lg):L.m.eE=nw.At L.ps:=by
 unfold PM.eE nw.At;have e:L.m.ps.flatMap (·.rs)=(L.ps.flatMap (·.rs)).map Rc.p:=by
  show (L.ps.map Pt.p).flatMap (fun p:PP=>p.rs)=_;rw[List.flatMap_map,List.map_flatMap];rfl
 rw[e,List.getLast?_map];cases (L.ps.flatMap (·.rs)).getLast?<;>rfl
theorem re (h:bq S L) (wf:L.m.wf B) (hB:B≤1000000):∀ Q:AV→AS→Prop,ai C1 50 [.ptr L.lp 0 0 6] S Q=Q (.int .u64 (L.m.eE:Nat)) S:=fun Q=>by
 have hq:nw.q50 [.ptr L.lp 0 0 6] S=some (.int .u64 (L.m.eE:Nat),S):=nw.q50_of ⟨L.lp,L.pv,L.ps,rfl,⟨⟨_,_,_,_,_,h.row⟩,h.lt,h.parts.1,by have:=kK wf;omega,fun p hp=>⟨(h.gk p hp).sl,by
  have:=(pq wf hp).2.2.2.1;rw[show p.p.rs.length=p.rs.length from List.length_map ..] at this;omega⟩⟩,newest_m L⟩
 exact mV (q:=nw.q50) get50 rfl hq rfl
theorem nt83:Tryz.f83.ntmps=19:=by kernel_rfl
def ixH (S:AS) (v:AV) (l:List Nat) (n:Nat) (k:Nat) (F':Fr) (S':AS):Prop:=
 ∃ i:Nat,S'=S∧(∀ x,x∈l.take i→x≠n)∧sl F' 0=v∧sl F' 1=.int .u64 n∧sl F' 7=.int .i64 l.length∧sl F' 8=.int .i64 i∧i≤l.length∧F'.n=19∧k=l.length-i
theorem index83 {v:AV} {l:List Nat} {n:Nat} (h:Sl S v 1 (xT l)) (hl:l.length≤9223372036854775806):ai C1 83 [v,.int .u64 n] S fun u T=>T=S∧∃ k:Int,u=.int .i64 k∧decide (0≤k)=decide (n∈l):=by
 have u1:=h.sl;have u2:=h.gX;rw[CL] at u2;refine bH (dH _) (dL _ rfl) fn83 rfl ok83 (by simp) fun F hn s0 s1=>?_;rw[nt83] at hn;simp[s0,s1,u1,u2];refine ay (ixH S v l n) l.length ⟨0,rfl,fun x hx=>by simp at hx,by simp[s0],by simp[s1],by simp[u2],by simp,Nat.zero_le _,by simp[hn],rfl⟩ ?_;clear s0 s1 hn;rintro k F' S' b7 ⟨i,rfl,dv,s0,s1,s7,s8,hi,hn,hk⟩;clear b7;by_cases gg:i<l.length
 ·have sR:(i:Int)<l.length:=by omega
  have hw:=kZ (i:=i) (by omega);have hg:l[i]?=some l[i]:=List.getElem?_eq_getElem gg;have mQ:=iY (cx:=C1) (e:=32) h (CM hg) (by simp);by_cases he:l[i]=n
  ·have he':(n:Int)=(l[i]:Int):=by rw[he]
   simp[s0,s1,s7,s8,sR,u1,u2,gg,mQ,he'];have:n∈l:=by rw[←he];exact List.getElem_mem gg
   simp[this]
  ·have he':¬((n:Int)=(l[i]:Int)):=by omega
   simp[s0,s1,s7,s8,sR,u1,u2,gg,mQ,he',hw];refine ⟨l.length-(i+1),by omega,i+1,rfl,fun x hx=>?_,by simp[s0],by simp[s1],by simp[s7],by simp,by omega,by simp[hn],rfl⟩;rw[List.take_succ_eq_append_getElem gg] at hx;rcases List.mem_append.1 hx with hx|hx
   ·exact dv x hx
   ·simp at hx;subst hx;exact he
 ·have:i=l.length:=by omega
  subst this;rw[List.take_length] at dv;simp[s0,s1,s7,s8];exact fun hm=>dv n hm rfl
theorem contains49 {v:AV} {l:List Nat} {n:Nat} (h:Sl S v 1 (xT l)) (hl:l.length≤9223372036854775806):∀ Q:AV→AS→Prop,ai C1 49 [v,.int .u64 n] S Q=Q (.bool (decide (n∈l))) S:=fun Q=>by
 obtain ⟨r,T,⟨rfl,k,rfl,hk⟩,e⟩:=(index83 (n:=n) h hl).ex;refine ai.eq (bH (dH _) (dL _ rfl) fn49 rfl ok49 (by simp) fun F hn s0 s1=>?_);rw[←hk];simp[s0,s1,bG,e]
theorem nt48:Tryz.f48.ntmps=16:=by kernel_rfl
theorem goes48 (h:bq S L) (wf:L.m.wf B) (hB:B≤1000000) {a b:Nat} {v:AV} {W:List Nat} (hc:Cell S L a (.row [.ptr L.lp 0 0 6] 0 0 false 27)) (hb:Cell S L b (.row [v] 0 0 false 33)) (hv:Sl S v 1 (xT W)) (hl:W.length≤9223372036854775806) {n:Nat} {w:AV} (hw:cellsOf w=some [w]) :
  ai C1 48 [.agg [.int .u64 n,w],.ptr b 0 0 1,.ptr a 0 0 1] S fun u T=>u=.bool (PM.goes W L.m.eE n)∧Sub S T:=by
 obtain ⟨S1,cz⟩:∃ S1:AS,S1=⟨S.h.set S.next (.row [.int .u64 n,w] 0 0 false 43),S.next+1⟩:=⟨_,rfl⟩
 have s1:Sub S S1:=by rw[cz];exact cJ
 have g1:S1.h.get S.next=some (.row [.int .u64 n,w] 0 0 false 43):=by rw[cz];exact aa _ _ _
 have bS:=cz.symm;have e49:=contains49 (n:=n) (hv.toSub s1) hl;have e50:=re (h.sub s1) wf hB;have ga:=(s1.h a hc.lt).trans hc.get;have gb:=(s1.h b hb.lt).trans hb.get;have wk:=cF hv;refine fZ (dH _) (dL _ rfl) fn48 rfl ok48 (by simp) fun F hn t0 t1 t2=>?_;rw[nt48] at hn;unfold PM.goes;simp[t0,t1,t2,bS];refine aF [.r 0 0,.p,.r 0 0,.e [],.p,.p,.r 0 1,.r 0 0,.e [],.p,.p,.p] (n:=16) (by kernel_rfl) (by simp[hn]) ?_;obtain ⟨z,hz⟩:∃ z,z=L.m.eE:=⟨_,rfl⟩
 rw[←hz] at e50 ⊢;by_cases hm:n∈W
 ·by_cases he:n=z
  ·have heI:=eq_true (show (n:Int)=z by omega);have he':=eq_true he;simp[t0,t1,t2,g1,ga,gb,bG,e49,e50,wk,hm,he',heI];exact s1
  ·have heI:¬(n:Int)=z:=by omega
   simp[t0,t1,t2,g1,ga,gb,bG,e49,e50,wk,hm,he,heI];exact s1
 ·simp[t0,t1,t2,g1,ga,gb,bG,e49,e50,wk,hm,dI];exact s1
end
end Go.Proofs.YtgkdgiognhbfjaaGreatDoor.dk
namespace Go.Proofs.YtgkdgiognhbfjaaGreatDoor.dk
open Go Go.Am Go.Proofs.YtgkdgiognhbfjaaGreatDoor.seg
set_option linter.unusedVariables false
set_option linter.unusedSimpArgs false
namespace PM
def remN (name:List Nat) (m:PM):Int×PM:=m.mH (m.d.remove name)
def fixT (m:PM):PM:=if aN [m.d.dx,m.d.ar (iF m.place)]=0 then (bT [remN (iF m.place)] m).2 else m
def stays (W:List Nat) (m:PM) (p:PP):List PR:=p.rs.filter fun r=>!goes W m.eE r.n
def nK (W:List Nat):Nat→Nat→Nat→PM→(Nat×Int)×PM
 | 0,_,g,m=>((g,0),m)
 | k+1,i,g,m=>
  if ((m.ps[i]?.getD ⟨[],0,[]⟩).rs.any fun r=>goes W m.eE r.n)=false then nK W k (i+1) g m
  else if (m.gE (m.ps[i]?.getD ⟨[],0,[]⟩).name (aQ (m.stays W (m.ps[i]?.getD ⟨[],0,[]⟩)))).1=0 then
   nK W k (i+1) (g+((m.ps[i]?.getD ⟨[],0,[]⟩).rs.length-(m.stays W (m.ps[i]?.getD ⟨[],0,[]⟩)).length))
    { (m.gE (m.ps[i]?.getD ⟨[],0,[]⟩).name (aQ (m.stays W (m.ps[i]?.getD ⟨[],0,[]⟩)))).2 with ps:=(m.gE (m.ps[i]?.getD ⟨[],0,[]⟩).name (aQ (m.stays W (m.ps[i]?.getD ⟨[],0,[]⟩)))).2.ps.set i { (m.ps[i]?.getD ⟨[],0,[]⟩) with rs:=m.stays W (m.ps[i]?.getD ⟨[],0,[]⟩) } }
  else ((0,(m.gE (m.ps[i]?.getD ⟨[],0,[]⟩).name (aQ (m.stays W (m.ps[i]?.getD ⟨[],0,[]⟩)))).1),(m.gE (m.ps[i]?.getD ⟨[],0,[]⟩).name (aQ (m.stays W (m.ps[i]?.getD ⟨[],0,[]⟩)))).2.fixT)
def rewrite (W:List Nat) (m:PM):(Nat×Int)×PM:=if m.over then ((0,8),m) else if m.sync.1=0 then nK W m.sync.2.ps.length 0 0 m.sync.2 else ((0,m.sync.1),m.sync.2)
variable {m:PM} {B:Nat}
theorem repl_keep {name b:List Nat}:(m.gE name b).2.ps=m.ps∧(m.gE name b).2.place=m.place∧(m.gE name b).2.next=m.next∧(m.gE name b).2.jk=m.jk:=by
 have key:∀ {α:Type} (k:PM→α),(∀ m e,k (PM.iE m e)=k m)→(∀ m r,k (PM.mH m r).2=k m)→k (m.gE name b).2=k m:=fun k h1 h2=>by
  unfold gE;refine jF k h1 fun g hg m=>?_;simp only[List.mem_cons,List.not_mem_nil,or_false] at hg;rcases hg with rfl|rfl|rfl|rfl
  ·exact h2 _ _
  ·unfold rK;split
   ·rfl
   ·exact h2 _ _
  ·exact h2 _ _
  ·exact h2 _ _
 exact ⟨key (·.ps) (fun _ _=>rfl) (fun _ _=>rfl),key (·.place) (fun _ _=>rfl) (fun _ _=>rfl),key (·.next) (fun _ _=>rfl) (fun _ _=>rfl),key (·.jk) (fun _ _=>rfl) (fun _ _=>rfl)⟩
theorem sync_keep:m.sync.2.ps=m.ps∧m.sync.2.place=m.place∧m.sync.2.next=m.next:=by
 have key:∀ {α:Type} (k:PM→α),(∀ m e,k (PM.iE m e)=k m)→(∀ m r,k (PM.mH m r).2=k m)→(∀ m:PM,∀ d,k { m with jk:=d }=k m)→k m.sync.2=k m:=fun k h1 h2 h3=>by
  have e:k (bT [ei] m).2=k m:=jF k h1 fun g hg m=>by
   simp only[List.mem_cons,List.not_mem_nil,or_false] at hg;subst hg;exact h2 _ _
  unfold sync;split
  ·rfl
  ·split
   ·rw[h3];exact e
   ·exact e
 exact ⟨key (·.ps) (fun _ _=>rfl) (fun _ _=>rfl) (fun _ _=>rfl),key (·.place) (fun _ _=>rfl) (fun _ _=>rfl) (fun _ _=>rfl),key (·.next) (fun _ _=>rfl) (fun _ _=>rfl) (fun _ _=>rfl)⟩
theorem wf.sync (h:m.wf B):m.sync.2.wf B:=by
 have h1:(PM.bT [PM.ei] m).2.wf B:=h.bT fun g hg m hm=>by
  simp only[List.mem_cons,List.not_mem_nil,or_false] at hg;subst hg;exact hm.ei
 unfold PM.sync;split
 ·exact h
 ·split
  ·exact ⟨h1.d,h1.pl,h1.nx,by have:=h1.nx.2;show _-1≤_;omega,h1.many,h1.part⟩
  ·exact h1
end PM
section
variable {S T U:AS} {L:Lg} {B:Nat}
theorem clone42c {v:AV} {cs:List AV} (h:Sl S v 2 cs) (hf:sLen v≤1073741824) (h0:sLen v≠0):ai C1 42 [v] S fun v' T=>Sub S T∧Gw T v' 2 43 cs∧sLen v'=sLen v∧nf S.next v'∧tW v'=true:=by
 refine bc (dH _) (dL _ rfl) fn42 rfl ok42 (by simp) fun F hn s0=>?_;have h2:=h.sl;have e0:∀ c,br C1 .eql 37 c v .az=some (.bool (isNil v)):=fun c=>eq_nil (cx:=C1) (t:=37) (c:=c) o8 h2;have mP:isNil v=false:=by
  cases e:isNil v with
  | true=>obtain ⟨rfl,_⟩:=h.isNil e;exact absurd rfl h0
  | false=>rfl
 have hx:Sl (⟨S.h.set S.next (.row [] 0 0 false 43),S.next+1⟩:AS) v 2 cs:=⟨h2,by rw[uO h.old];exact h.rd,h.len,Nat.le_succ_of_le h.old⟩
 have oc:fits (sLen (.slice S.next 0 0 0 0 2 (some 0))+sLen v) 32=true:=by simp[fits,bX,cu];omega
 obtain ⟨v',T,e1,r1,r2,r3,r4,r5,r6,r7⟩:=ff (cx:=C1) (ts:=[]) (p:=(43,2,32)) o8 un37 rfl (Gw.fresh (aa _ _ _) (Nat.lt_succ_self _)) hx oc;rw[List.nil_append] at r1;have aW:Sub S T:=⟨fun id hi=>by rw[r2 id (Nat.lt_succ_of_lt hi) (by simp[aG];omega)];exact ae _ _ (by omega),Nat.le_trans (Nat.le_succ _) r3⟩
 have r4':sLen v'=sLen v:=by rw[r4];simp[cu]
 rw[mP] at e0;have gp:∀ (F:Fr) (B:Nat),al C1 F B (.buildSlice 37 0 #[])=some (.slice B 0 0 0 0 2 (some 0),.row [] 0 0 false 43):=fun F B=>jb (p:=(43,2,32)) o8;simp[s0,e0,e1,gp,r1.1.np];refine ⟨aW,r1,r4',?_,r7 h0⟩;rcases r6 with r6|r6
 ·unfold nf;rw[r6];exact .inr (Nat.lt_succ_self _)
 ·exact .inr (Nat.lt_of_succ_lt r6)
theorem nt54:Tryz.f54.ntmps=12:=by kernel_rfl
theorem rem54 (h:bq S L) (wf:L.m.wf B) {a:Nat} (hc:Cell S L a (.row [.ptr L.lp 0 0 6] 0 0 false 27)):ai C1 54 [.ptr a 0 0 1] S (dE S L (L.m.remN (iF L.place))):=by
 have hr:=h.row;have ha:=hc.get;have eV:L.place<4:=wf.pl;obtain ⟨r,T1,⟨rfl,s1⟩,e21⟩:=(zP (S:=S) (p:=L.place) (by omega)).ex;have h1:=h.sub s1;obtain ⟨r,T,hL,ec⟩:=(yH h1.lQ wf.d (name:=iF L.place) (uK eV) (by show 2≤_;decide)).ex;have hg:=(jL h1 hL).sub s1;obtain ⟨rfl,_⟩:=hL;have htm:iF L.place=[116,48+L.place]:=rfl;have e22:∀ Q,ai C1 22 [.ptr L.D.dp 0 0 4,.str [116,48+L.place]] T1 Q=Q (.int .i64 (L.D.pd.remove (iF L.place)).1) T:=ec;have ha1:=(s1.h a hc.lt).trans ha;have rT:=h1.row;refine bc (dH _) (dL _ rfl) fn54 rfl ok54 (by simp) fun F hn s0=>?_;rw[nt54] at hn;simp;refine aF [.r 0 1,.p,.p,.r 0 1,.r 0 0,.p,.p,.r 0 0,.e [],.e [],.p] (n:=12) (by kernel_rfl) (by simp[hn]) ?_;simp[s0,ha,hr,ha1,rT,bG,e21,e22];exact hg
end
end Go.Proofs.YtgkdgiognhbfjaaGreatDoor.dk
namespace Go.Proofs.YtgkdgiognhbfjaaGreatDoor.dk
open Go Go.Am Go.Proofs.YtgkdgiognhbfjaaGreatDoor.seg
set_option linter.unusedVariables false
set_option linter.unusedSimpArgs false
section
variable {S T U:AS} {L:Lg} {B:Nat}
def GoneTo3 (S:AS) (L:Lg) (r:(Nat×Int)×PM) (u:AV) (T:AS):Prop:=u=.tuple [.int .i64 r.1.1,.int .i64 r.1.2]∧∃ L',bq T L'∧L'.m=r.2∧aH L L' S T
def PM.may (m:PM):Prop:=∀ p,p∈m.ps→p.rs.length≤600∧(∀ r,r∈p.rs→gl r.n=true)∧iF m.place≠p.name
theorem nt16:Tryz.f16.ntmps=91:=by kernel_rfl
def rwH (S:AS) (L:Lg) (W:List Nat) (wv pv:AV) (a b n B:Nat) (res:(Nat×Int)×PM) (k:Nat) (F':Fr) (S':AS):Prop:=
 ∃ (i g:Nat) (L1:Lg),bq S' L1∧aH L L1 S S'∧L1.pv=pv∧L1.ps.length=n∧L1.m.wf B∧L1.m.may∧Cell S' L1 a (.row [.ptr L1.lp 0 0 6] 0 0 false 27)∧Cell S' L1 b (.row [wv] 0 0 false 33)∧(Sl S' wv 1 (xT W)∧Out L1.aI wv) ∧
  res=PM.nK W k i g L1.m∧g≤600*i∧sl F' 2=.ptr a 0 0 1∧sl F' 3=.ptr b 0 0 1∧sl F' 8=.func (.func 48) [] [.ptr b 0 0 1,.ptr a 0 0 1]∧sl F' 9=.int .i64 g∧sl F' 30=pv∧sl F' 31=.int .i64 n∧sl F' 32=.int .i64 i∧i≤n∧F'.n=91∧k=n-i
theorem wf_set {m:PM} {B i:Nat} {p:PP} (h:m.wf B) (hp:p.wf B):({ m with ps:=m.ps.set i p }:PM).wf B:=
 ⟨h.d,h.pl,h.nx,h.jk,by show (m.ps.set i p).length≤B;rw[List.length_set];exact h.many,fun q hq=>by
  rcases List.mem_or_eq_of_mem_set hq with hq|rfl
  ·exact h.part q hq
  ·exact hp⟩
theorem keepF_map (W:List Nat) (z:Nat) (rs:List Rc):(dM (fun x:Rc=>PM.goes W z x.n) rs).map Rc.p=(rs.map Rc.p).filter fun r=>!PM.goes W z r.n:=by
 unfold dM;rw[List.filter_map];rfl
theorem any_map (W:List Nat) (z:Nat) (rs:List Rc):(rs.map Rc.p).any (fun r=>PM.goes W z r.n)=rs.any fun x=>PM.goes W z x.n:=by rw[List.any_map];rfl
set_option maxRecDepth 20000 in
theorem rewrite16 (h:bq S L) (wf:L.m.wf B) (hB:B≤900000) (ne:L.ps≠[]) (hmay:L.m.may) {wv:AV} {W:List Nat} (hv:Sl S wv 1 (xT W)) (ho:Out L.aI wv) (hl:W.length≤9223372036854775806) :
  ai C1 16 [.ptr L.lp 0 0 6,wv] S (GoneTo3 S L (L.m.rewrite W)):=by
 obtain ⟨S1,cz⟩:∃ S1:AS,S1=⟨S.h.set S.next (.row [.ptr L.lp 0 0 6] 0 0 false 27),S.next+1⟩:=⟨_,rfl⟩
 have s1:Sub S S1:=by rw[cz];exact cJ
 have n1:S1.next=S.next+1:=by rw[cz]
 have ga1:S1.h.get S.next=some (.row [.ptr L.lp 0 0 6] 0 0 false 27):=by rw[cz];exact aa _ _ _
 have jn:=cz.symm;obtain ⟨S2,dW⟩:∃ S2:AS,S2=⟨S1.h.set S1.next (.row [wv] 0 0 false 33),S1.next+1⟩:=⟨_,rfl⟩
 have s2:Sub S1 S2:=by rw[dW];exact cJ
 have n2:S2.next=S1.next+1:=by rw[dW]
 have gb2:S2.h.get S1.next=some (.row [wv] 0 0 false 33):=by rw[dW];exact aa _ _ _
 have bS2:=dW.symm;have ga2:=(s2.h S.next (by omega)).trans ga1;have rS:=s1.trans s2;have ca:Cell S2 L S.next (.row [.ptr L.lp 0 0 6] 0 0 false 27):=h.cell rS ga2 (Nat.le_refl _) (by omega)
 have cb:Cell S2 L S1.next (.row [wv] 0 0 false 33):=h.cell rS gb2 (by omega) (by omega)
 obtain ⟨a,ha⟩:∃ a,a=S.next:=⟨_,rfl⟩
 obtain ⟨b,hb⟩:∃ b,b=S1.next:=⟨_,rfl⟩
 have h2:=h.sub rS;have kW:=fun Q=>lY (Q:=Q) h2;have kB:L.m.over=L.over:=rfl;have cwv:=bd hv.sl;refine bH (dH _) (dL _ rfl) fn16 rfl ok16 (by simp) fun F hn t0 t1=>?_;rw[nt16] at hn;unfold PM.rewrite;cases hov2:L.over with
 | true=>
  rw[hov2] at kW kB;simp only[if_true] at kW;simp[t0,t1,jn,bS2,cwv,ga2,bG,kW,kB];exact ⟨rfl,L,h2,rfl,aH.of rS⟩
 | false=>
  rw[hov2] at kW kB;simp only[Bool.false_eq_true,if_false] at kW;obtain ⟨r,T3,⟨rfl,L3,q1,q2,q3⟩,e12⟩:=(sync12 h2 wf (by omega) ne).ex;have hev:=(aH.of rS:aH L L S S2).trans q3;rw[if_neg (show ¬(L.m.over=true) by rw[kB];decide)];by_cases h0:L.m.sync.1=0
  ·rw[if_pos h0];rw[h0] at e12;have ca3:=Cell.lp (c:=fun x=>.row [.ptr x 0 0 6] 0 0 false 27) ca q3;have cb3:=cb.fY q3;have hv3:=Sl.fY (hv.toSub rS) ho q3;have wf3:L3.m.wf B:=by rw[q2];exact wf.sync
   have hk:=PM.sync_keep (m:=L.m);have may3:L3.m.may:=by
    intro p hp;rw[q2] at hp ⊢;rw[hk.1] at hp;have:=hmay p hp;rw[hk.2.1];exact this
   have hr3:=q1.row;have hsl3:=q1.parts.1.sl;have hpl3:=q1.um;have ca3g:=ca3.get;rw[←q2];have pI:L3.m.ps.length=L3.ps.length:=List.length_map ..;rw[pI];simp[t0,t1,jn,bS2,cwv,ga2,bG,kW,e12,ca3g,hr3,hsl3,hpl3];refine ay (rwH S L W wv L3.pv S.next S1.next L3.ps.length B (PM.nK W L3.ps.length 0 0 L3.m)) L3.ps.length ⟨0,0,L3,q1,hev,rfl,rfl,wf3,may3,ca3,cb3,hv3,rfl,by omega,by simp,by simp,by simp,by simp,by simp,by simp[hpl3],by simp,Nat.zero_le _,by simp[hn],by omega⟩ ?_;obtain ⟨pv,hpv⟩:∃ pv,pv=L3.pv:=⟨_,rfl⟩
   obtain ⟨n,hn3⟩:∃ n,n=L3.ps.length:=⟨_,rfl⟩
   obtain ⟨res,mN⟩:∃ res,res=PM.nK W L3.ps.length 0 0 L3.m:=⟨_,rfl⟩
   have hnB:n≤B:=by rw[hn3];exact kK wf3
   rw[←ha,←hb,←hpv,←mN,←hn3];clear mN hn3 hpv ca3g hpl3 hsl3 hr3 may3 wf3 hv3 cb3 ca3 h0 hev q1 q2 q3 e12 kW kB t0 t1 hn pI hk h2 ca cb ga2 bS2 gb2 n2 s2 dW jn ga1 n1 s1 cz rS ha hb hmay wf ne h hv ho;rintro k F' S' b7 ⟨i,g,L1,h1,he,hpv,hlen,wf1,may1,ca,cb,⟨hv,ho⟩,mN,hg,t2,t3,t8,t9,t30,t31,t32,hi,hn,hk⟩;clear b7;by_cases gg:i<n
   ·have sR:(i:Int)<n:=by omega
    have j4:=IntWalk.i64_in ((i:Int)+1) (by omega);obtain ⟨p,hp⟩:∃ p,L1.ps[i]?=some p:=⟨_,List.getElem?_eq_getElem (by omega)⟩
    have rU:=List.mem_of_getElem? hp;obtain ⟨p1,p2,p3,p4,p5⟩:=h1.part hp;rw[hpv] at p1 p2 p3 p4 p5;have mb:=h1.parts.1.sl;have eV:=h1.um;rw[hpv] at mb eV;rw[hlen] at eV;have y9:=h1.gk p rU;have pc:p.c=[.str p.name,.int .u64 p.first,p.w]:=rfl;rw[pc] at p5;obtain ⟨m1,m2,m3⟩:=may1 p.p (List.mem_map.2 ⟨p,rU,rfl⟩);have hpll:p.p.rs.length=p.rs.length:=List.length_map ..;rw[hpll] at m1;have xG:=pq wf1 rU;obtain ⟨X1,hX1⟩:∃ S1:AS,S1=⟨(S'.h.set S'.next (.row [.str [],.int .u64 0,.az] 0 0 false 76)).set S'.next (.row [.str p.name,.int .u64 p.first,p.w] 0 0 false 76),S'.next+1⟩:=⟨_,rfl⟩
    have x1:Sub S' X1:=by rw[hX1];exact kx
    have g1:X1.h.get S'.next=some (.row [.str p.name,.int .u64 p.first,p.w] 0 0 false 76):=by rw[hX1];exact aa _ _ _
    have bX1:=hX1.symm;have hX:=h1.sub x1;have cc:Cell X1 L1 S'.next (.row [.str p.name,.int .u64 p.first,p.w] 0 0 false 76):=h1.cell x1 g1 (Nat.le_refl _) (by rw[hX1];exact Nat.lt_succ_self _)
    have caX:=ca.fY (aH.of x1);have cbX:=cb.fY (aH.of x1);have hvX:=hv.toSub x1;have hraX:=y9.go (Q:=L1.aI) (fun id hi _=>x1.h id hi) x1.next (fun _ _ h=>h)
    obtain ⟨P,hP⟩:∃ P:Rc→Bool,P=fun x=>PM.goes W L1.m.eE x.n:=⟨_,rfl⟩
    have hclo:∀ T,Sub X1 T→∀ x,x∈p.rs→ai C1 48 (.agg x.c :: [.ptr b 0 0 1,.ptr a 0 0 1]) T fun v T'=>v=.bool (P x)∧Sub T T':=fun T hT x hx=>by
     rw[hP];exact goes48 (hX.sub hT) wf1 (by omega) (caX.fY (aH.of hT)) (cbX.fY (aH.of hT)) (hvX.toSub hT) hl (bd (y9.data x hx).1.sl)
    obtain ⟨r,T2,⟨rfl,x2⟩,e51⟩:=(con51 (f:=48) (caps:=[.ptr b 0 0 1,.ptr a 0 0 1]) (P:=P) dB hraX.sl (by omega) rfl hclo).ex;have g2:=(x2.h _ cc.lt).trans g1;have hi2:i+1≤n:=by omega
    obtain ⟨k',hk'⟩:∃ k',k=k'+1:=⟨k-1,by omega⟩
    have iz:PM.nK W k i g L1.m=if (p.p.rs.any fun r=>PM.goes W L1.m.eE r.n)=false then PM.nK W k' (i+1) g L1.m
      else if (L1.m.gE p.p.name (aQ (L1.m.stays W p.p))).1=0 then PM.nK W k' (i+1) (g+(p.p.rs.length-(L1.m.stays W p.p).length)) { (L1.m.gE p.p.name (aQ (L1.m.stays W p.p))).2 with ps:=(L1.m.gE p.p.name (aQ (L1.m.stays W p.p))).2.ps.set i { p.p with rs:=L1.m.stays W p.p } }
      else ((0,(L1.m.gE p.p.name (aQ (L1.m.stays W p.p))).1),(L1.m.gE p.p.name (aQ (L1.m.stays W p.p))).2.fixT):=by
     have oV:L1.m.ps[i]?.getD ⟨[],0,[]⟩=p.p:=by
      show (L1.ps.map Pt.p)[i]?.getD _=_;rw[List.getElem?_map,hp];rfl
     rw[hk'];show (if ((L1.m.ps[i]?.getD ⟨[],0,[]⟩).rs.any _)=false then _ else _)=_;rw[oV]
    have hany:(p.p.rs.any fun r=>PM.goes W L1.m.eE r.n)=p.rs.any P:=by rw[hP];exact any_map W _ _
    rw[hany,hpll] at iz;cases hap:p.rs.any P with
    | false=>
     rw[hap] at e51 iz;rw[if_pos rfl] at iz;simp[t2,t3,t8,t9,t30,t31,t32,sR,mb,eV,gg,p5,bX1,g1,bG,e51,j4];exact ⟨k',by omega,i+1,g,L1,hX.sub x2,he.trans (aH.of (x1.trans x2)),hpv,hlen,wf1,may1,caX.fY (aH.of x2),cbX.fY (aH.of x2),⟨hvX.toSub x2,ho⟩,mN.trans iz,by omega,by simp[t2],by simp[t3],by simp[t8],by simp[t9],by simp[t30],by simp[t31],by simp,by omega,by simp[hn],by omega⟩
    | true=>
     rw[hap] at e51 iz;rw[if_neg (by decide)] at iz;have hne0:p.rs≠[]:=fun e=>by rw[e] at hap;cases hap
     have jA:0<p.rs.length:=List.length_pos_iff.2 hne0;have hplw:=y9.len;have hraT2:=hraX.sl.toSub x2;obtain ⟨v4,T3',⟨y1,y2,y3,y4,y5⟩,e42⟩:=(clone42c hraT2 (by omega) (by omega)).ex;have hn4:aG v4=0∨T2.next<aG v4:=y4
     have x2n:=x2.next
     have kX:∀ T,gf (fun id=>aG v4=id+1) T3' T→Sub X1 T:=fun T hT=>⟨fun id cY=>by
      have:=y1.next
      rw[hT.h id (by omega) (by rcases hn4 with q|q<;>omega)];exact (x2.trans y1).h id cY,Nat.le_trans (x2.trans y1).next hT.next⟩
     obtain ⟨u5,T4,⟨z1,z2,z3,z4⟩,e52⟩:=(delete52 (f:=48) (caps:=[.ptr b 0 0 1,.ptr a 0 0 1]) (P:=P) y2 y5 (by omega) rfl (fun T hT x hx=>hclo T (kX T hT) x hx)).ex;have hX4:=kX T4 z4;have hX4L:=hX.sub hX4;have hou:Out L1.aI u5:=Out.new hX (by unfold nf;rw[z3];rcases hn4 with q|q;exact .inl q;exact .inr (by omega));have hr5:mZ T4 L1.aI u5 (dM P p.rs):=⟨z1.1,hou,fun r hr=>(hraX.go (T:=T4) (Q:=L1.aI) (fun id hi _=>hX4.h id hi) hX4.next (fun _ _ h=>h)).data r ((List.mem_filter.1 hr).1)⟩
     have hkl:(dM P p.rs).length≤p.rs.length:=keepF_len;have gY:L1.m.stays W p.p=(dM P p.rs).map Rc.p:=by rw[hP,keepF_map];rfl
     have hstl:(L1.m.stays W p.p).length=(dM P p.rs).length:=by rw[gY,List.length_map]
     obtain ⟨r,T5,⟨rfl,L5,k1,k2,k3,k4,k5⟩,e53⟩:=(repl53 hX4L wf1 hB (bd y9.sl.sl) hr5 (fun r hr=>by
      have hrm:r∈p.rs:=(List.mem_filter.1 hr).1;have hq:=xG.2.2.2.2 r.p (List.mem_map.2 ⟨r,hrm,rfl⟩);exact ⟨m2 r.p (List.mem_map.2 ⟨r,hrm,rfl⟩),hq.2.2,hq.2.1⟩) (by omega) m3 xG.1 xG.2.1).ex
     rw[pc] at e53;rw[gY] at iz;have hpnm:p.p.name=p.name:=rfl;rw[hpnm] at iz;obtain ⟨RR,hRR⟩:∃ RR,RR=L1.m.gE p.name (aQ ((dM P p.rs).map Rc.p)):=⟨_,rfl⟩
     rw[←hRR] at iz e53 k2;have e5:aH L1 L5 S' T5:=(aH.of (x1.trans hX4):aH L1 L1 S' T4).trans k3;have g4:=(hX4.h _ cc.lt).trans g1;have g3:=(y1.h _ (by have:=cc.lt;omega)).trans g2;have ca5:=Cell.lp (c:=fun x=>.row [.ptr x 0 0 6] 0 0 false 27) (caX.fY (aH.of hX4)) k3;have cb5:=(cbX.fY (aH.of hX4)).fY k3;have hv5:=Sl.fY (hvX.toSub hX4) ho k3;have ga2:=((x2.h _ caX.lt).trans caX.get)
     have ga4:=(hX4.h _ caX.lt).trans caX.get;have wf5:RR.2.wf B:=by rw[hRR];exact wf1.gE m3
     have kC:=PM.repl_keep (m:=L1.m) (name:=p.name) (b:=aQ ((dM P p.rs).map Rc.p));rw[←hRR] at kC;by_cases uy:RR.1=0
     ·rw[if_pos uy] at iz;rw[uy] at e53;have g5:=((cc.fY (aH.of hX4)).fY k3).get;have u5s:=z1.1.sl;have u5l:sLen u5=(dM P p.rs).length:=by have:=z1.1.len;rw[eG dB] at this;omega
      have w1:IntKind.i64.wrap ((p.rs.length:Int)-((dM P p.rs).length:Int))=((p.rs.length-(dM P p.rs).length:Nat):Int):=by rw[IntWalk.i64_in _ (by omega)];omega
      obtain ⟨d,hd⟩:∃ d,d=p.rs.length-(dM P p.rs).length:=⟨_,rfl⟩
      rw[←hd] at w1;have w2:IntKind.i64.wrap ((g:Int)+d)=((g+d:Nat):Int):=by rw[IntWalk.i64_in _ (by omega)];omega
      obtain ⟨g',jJ⟩:∃ g',g'=g+d:=⟨_,rfl⟩
      rw[←jJ] at w2;have hp5:L5.ps[i]?=some p:=by rw[k5];exact hp
      obtain ⟨T6,e6,f1,f2,f3⟩:=k1.setPart hp5 (hr5.fY k3);rw[k4,hpv] at e6;have C9:=k1.row;rw[k4,hpv] at C9;have ca5g:=ca5.get;have sp5:=k1.parts.1.sl;have pl5:=k1.um;rw[k4,hpv] at sp5 pl5;rw[k5,hlen] at pl5;have fp:eH (fH pv i) (some 2)=some (jg (fH pv i) 2):=cf p1;have cu5:=bd u5s;have hpsl:=y9.sl.sl;simp[t2,t3,t8,t9,t30,t31,t32,sR,mb,eV,gg,p5,bX1,g1,bG,e51,g2,e42,e52,ga4,g4,e53,g5,hpsl,hplw,u5s,u5l,w1,w2,ca5g,C9,sp5,pl5,fp,p1,e6,cu5,j4];have hps5:L5.m.ps=L1.m.ps:=by rw[k2];exact kC.1
      have hm6:({ L5 with ps:=L5.ps.set i { p with w:=u5,rs:=dM P p.rs } }:Lg).m={ RR.2 with ps:=RR.2.ps.set i { p.p with rs:=(dM P p.rs).map Rc.p } }:=by
       rw[←k2];show PM.mk _ _ ((L5.ps.set i _).map Pt.p) _ _ _=PM.mk _ _ ((L5.ps.map Pt.p).set i _) _ _ _;rw[List.map_set];rfl
      have hpw:PP.wf B { p.p with rs:=(dM P p.rs).map Rc.p }:=⟨xG.1,xG.2.1,xG.2.2.1,by show ((dM P p.rs).map Rc.p).length≤B;rw[List.length_map];have:=xG.2.2.2.1;rw[hpll] at this;omega,fun r hr=>by
       obtain ⟨x,hx,rfl⟩:=List.mem_map.1 hr;exact xG.2.2.2.2 x.p (List.mem_map.2 ⟨x,(List.mem_filter.1 hx).1,rfl⟩)⟩
      refine ⟨k',by omega,i+1,g',_,f1,he.trans (e5.trans f2),k4.trans hpv,by show (L5.ps.set i _).length=n;rw[List.length_set,k5];exact hlen,by rw[hm6];exact wf_set wf5 hpw,?_,Cell.lp (c:=fun x=>.row [.ptr x 0 0 6] 0 0 false 27) ca5 f2,cb5.fY f2,Sl.fY hv5.1 hv5.2 f2,?_,by omega,by simp[t2],by simp[t3],by simp[t8],by simp,by simp[t30],by simp[t31],by simp,by omega,by simp[hn],by omega⟩
      ·rw[hm6];intro q hq;have hpl':({ RR.2 with ps:=RR.2.ps.set i { p.p with rs:=(dM P p.rs).map Rc.p } }:PM).place=L1.m.place:=kC.2.1;rw[hpl'];rcases List.mem_or_eq_of_mem_set hq with hq|rfl
       ·rw[kC.1] at hq;exact may1 q hq
       ·exact ⟨by show ((dM P p.rs).map Rc.p).length≤600;rw[List.length_map];omega,fun r hr=>by
         obtain ⟨x,hx,rfl⟩:=List.mem_map.1 hr;exact m2 x.p (List.mem_map.2 ⟨x,(List.mem_filter.1 hx).1,rfl⟩),m3⟩
      ·rw[mN,iz,hm6,jJ,hd,List.length_map]
     ·rw[if_neg uy] at iz;rw[mN,iz];have ca5g:=ca5.get;have C9:=k1.row;have hpl5:L5.place=L1.place:=by
       have:L5.m.place=L1.m.place:=by rw[k2];exact kC.2.1
       exact this
      have hplc:L5.place<4:=by have:=wf5.pl;rw[←k2] at this;exact this
      obtain ⟨r,T6,⟨rfl,v6⟩,e21⟩:=(zP (S:=T5) (p:=L5.place) (by omega)).ex;have k6:=k1.sub v6;have wf5':L5.m.wf B:=by rw[k2];exact wf5
      have eJ:=size20 (name:=iF L5.place) k6.lQ (CK wf5'.d) (uK hplc) (by show 2≤_;decide);obtain ⟨r,T7,⟨v7,yZ⟩,e20⟩:=eJ.ex;have e20':∀ Q,ai C1 20 [.ptr L5.D.dp 0 0 4,.str [116,48+L5.place]] T6 Q=Q r T7:=e20;have k7:=k6.sub v7;have ca6:=(v6.h a ca5.lt).trans ca5g;have ca7c:=(ca5.fY (aH.of v6)).fY (aH.of v7);have ca7:=ca7c.get;have hr6:=k6.row;have hr7:=k7.row;have e7:aH L L5 S T7:=he.trans (e5.trans ((aH.of v6:aH L5 L5 T5 T6).trans (aH.of v7)));have hfx:aN [L5.m.d.dx,L5.m.d.ar (iF L5.m.place)]=aN [L5.D.dx,L5.D.ar (iF L5.place)]:=by
       show aN [L5.D.pd.dx,L5.D.pd.ar (iF L5.place)]=_;rw[lE];rfl
      have hfixm:RR.2=L5.m:=k2.symm;rw[hfixm];unfold PM.fixT;rw[hfx];rcases yZ with ⟨q0,rfl⟩|⟨q0,f,hf,rfl⟩
      ·rw[if_neg q0];simp[t2,t3,t8,t9,t30,t31,t32,sR,mb,eV,gg,p5,bX1,g1,bG,e51,g2,e42,e52,ga4,g4,e53,uy];refine aF [.r 0 1,.p,.p,.r 0 1,.r 0 0,.p,.p,.r 0 0,.e [],.e [],.p,.p,.p,.p,.p] (n:=91) (by kernel_rfl) (by simp[hn]) ?_;simp[t2,t3,ca5g,C9,ca6,hr6,bG,e21,e20',q0];exact ⟨rfl,L5,k7,rfl,e7⟩
      ·rw[if_pos q0];have gp:∀ (F:Fr) (B:Nat) (x0:Tmp),sl F x0=.func (.func 54) [] [.ptr a 0 0 1]→al C1 F B (.buildSlice 122 1 #[(0,.tmp x0)])=some (.slice B 0 0 1 1 1 (some 1),.row [.func (.func 54) [] [.ptr a 0 0 1]] 0 0 false 45):=fun F B x0 a0=>fresh1 a0;obtain ⟨S8,hS8⟩:∃ S4:AS,S4=⟨T7.h.set T7.next (.row [.func (.func 54) [] [.ptr a 0 0 1]] 0 0 false 45),T7.next+1⟩:=⟨_,rfl⟩
       have s8:Sub T7 S8:=by rw[hS8];exact cJ
       have hL8:=k7.sub s8;have hvf:Sl S8 (.slice T7.next 0 0 1 1 1 (some 1)) 1 [.func (.func 54) [] [.ptr a 0 0 1]]:=by rw[hS8];exact oh (fs:=[_]) (by simp)
       have ht:=jN (gs:=[PM.remN (iF L5.place)]) hL8 hvf (Out.new k7 (.inr (by show T7.next<T7.next+1;omega))) (by simp) (by
        refine eh aH.refl (bG _ rfl) (first:=[]) (rem54 hL8 wf5' (ca7c.fY (aH.of s8))) fun h0 U L2 k1 k2 k3=>?_;exact jO k1 k3)
       obtain ⟨r,T9,⟨rfl,L9,y1',y2',y3'⟩,e39⟩:=ht.ex;have bS8:=hS8.symm;simp[t2,t3,t8,t9,t30,t31,t32,sR,mb,eV,gg,p5,bX1,g1,bG,e51,g2,e42,e52,ga4,g4,e53,uy];refine aF [.r 0 1,.p,.p,.r 0 1,.r 0 0,.p,.p,.r 0 0,.e [],.e [],.p,.p,.p,.p,.p] (n:=91) (by kernel_rfl) (by simp[hn]) ?_;simp[t2,t3,ca5g,C9,ca6,hr6,bG,e21,e20',q0,ca7,gp,bS8,e39];exact ⟨rfl,L9,y1',y2',e7.trans ((aH.of s8:aH L5 L5 T7 S8).trans y3')⟩
   ·have:i=n:=by omega
    subst this;have hk0:k=0:=by omega
    rw[hk0] at mN;have iz:PM.nK W 0 i g L1.m=((g,0),L1.m):=rfl;rw[iz] at mN;rw[mN];simp[t2,t3,t8,t9,t30,t31,t32];exact ⟨rfl,L1,h1,rfl,he⟩
  ·rw[if_neg h0];simp[t0,t1,jn,bS2,cwv,ga2,bG,kW,e12,h0];exact ⟨rfl,L3,q1,q2,hev⟩
end
def vN (q:Nat):PD:=⟨[],q,-1,false⟩
def mo (place q:Nat):PM:=⟨⟨[⟨bM place 1,[],0⟩],q,-1,false⟩,place,[⟨bM place 1,1,[]⟩],1,0,false⟩
section
variable {S T U:AS} {L:Lg} {D:Dk} {B:Nat}
theorem bu62 (m:Nat) (n:Int):mW C1 62 [(0,AV.map m),(1,AV.int .i64 n),(2,.int .i64 (-1)),(3,.bool false)]=some (.agg [.map m,.int .i64 n,.int .i64 (-1),.bool false]):=by kernel_rfl
theorem new5 {q:Nat} (hq:q≤4194304):ai C1 5 [.int .i64 q] S fun u T=>Sub S T∧∃ D,u=.tuple [.ptr D.dp 0 0 4,.int .i64 0]∧bn T D∧D.pd=vN q∧(∀ id,D.aI id→S.next≤id):=by
 have q1:¬((q:Int)<0):=by omega
 have q2:¬((4194304:Int)<q):=by omega
 refine bc (dH _) (dL _ rfl) fn5 rfl ok5 (by simp) fun F hn s0=>?_;simp[s0,q1,q2,bu62];have hf:∀ id,(⟨S.next+1,S.next,[],q,-1,false⟩:Dk).aI id→S.next≤id:=fun id hf=>by
  rcases hf with e|e|⟨f,hf,_⟩
  ·have e:id=S.next+1:=e;omega
  ·have e:id=S.next:=e;omega
  ·cases hf
 refine ⟨⟨fun id hi=>(ae _ _ (by omega)).trans (ae _ _ (by omega)),by show S.next≤S.next+2;omega⟩,⟨S.next+1,S.next,[],q,-1,false⟩,rfl,?_,rfl,hf⟩;have no:∀ {P:Fl→Prop} (f:Fl),f∈([]:List Fl)→P f:=fun f hf=>(by cases hf)
 exact ⟨aa _ _ _,Nat.lt_succ_self (S.next+1),Nat.lt_succ_of_lt (Nat.lt_succ_self S.next),⟨[],0,(ae _ _ (show S.next≠S.next+1 by omega)).trans (aa _ _ _),rfl,by simp[l9]⟩,no,no,no,List.Pairwise.nil,Nat.succ_ne_self _,no,no,List.Pairwise.nil⟩
theorem bu65 (m:Nat) (p:Int):mW C1 65 [(0,AV.ptr m 0 0 4),(1,AV.int .i64 p),(3,.int .u64 1)]=some (.agg [.ptr m 0 0 4,.int .i64 p,.az,.int .u64 1,.int .u64 0,.bool false]):=by kernel_rfl
def op0H (S:AS) (dp lp:Nat) (k:Nat) (F':Fr) (S':AS):Prop:=S'=S∧sl F' 0=.ptr dp 0 0 4∧sl F' 6=.ptr lp 0 0 6∧sl F' 53=.int .i64 0∧sl F' 54=.int .i64 0∧F'.n=125
def opH (S:AS) (L:Lg) (k:Nat) (F':Fr) (S':AS):Prop:=
 ∃ i:Nat,Sub S S'∧sl F' 0=.ptr L.D.dp 0 0 4∧sl F' 6=.ptr L.lp 0 0 6∧sl F' 97=L.pv∧sl F' 98=.int .i64 L.ps.length∧sl F' 99=.int .i64 i∧i≤L.ps.length∧F'.n=125∧k=L.ps.length-i
set_option maxRecDepth 20000 in
theorem openE (h:bn S D) {q place:Nat} (hD:D.pd=vN q) (hq:q≤4194304) (hp:place<4):ai C1 6 [.ptr D.dp 0 0 4,.int .i64 place] S fun u T=>∃ L,u=.tuple [.ptr L.lp 0 0 6,.int .i64 0]∧bq T L∧L.m=mo place q∧S.next≤T.next∧(∀ id,id<S.next→¬D.aI id→T.h.get id=S.h.get id)∧(∀ id,id<S.next→L.aI id→D.aI id):=by
 have jK:D.fs=[]:=by
  have:D.pd.fs=[]:=by rw[hD];rfl
  exact List.map_eq_nil_iff.1 this
 have wu:D.off=false:=by
  have:D.pd.off=false:=by rw[hD];rfl
  exact this
 have tN:D.cH=-1:=by
  have:D.pd.cH=-1:=by rw[hD];rfl
  exact this
 have hdq:D.q=q:=by
  have:D.pd.q=q:=by rw[hD];rfl
  exact this
 have ok:D.pd.ok:=by rw[hD];exact ⟨by show 0≤512;decide,Nat.zero_le _,hq,by show (-1:Int)<_;decide,List.Pairwise.nil⟩
 obtain ⟨S1,cz⟩:∃ S1:AS,S1=⟨S.h.set S.next (.row [.ptr D.dp 0 0 4,.int .i64 place,.az,.int .u64 1,.int .u64 0,.bool false] 0 0 false 65),S.next+1⟩:=⟨_,rfl⟩
 have s1:Sub S S1:=by rw[cz];exact cJ
 have jn:=cz.symm;obtain ⟨L,hL⟩:∃ L:Lg,L=⟨S.next,place,.az,[],1,0,false,D⟩:=⟨_,rfl⟩
 have h1:bq S1 L:=by
  have no:∀ {P:Pt→Prop} (f:Pt),f∈([]:List Pt)→P f:=fun f hf=>(by cases hf)
  rw[hL];exact ⟨by rw[cz];exact aa _ _ _,by rw[cz];exact Nat.lt_succ_self _,h.sub s1,Gw.nil,no,by show (0:Nat)≠_;omega,fun hf=>by have:=h.lt hf;exact absurd this (Nat.lt_irrefl _),Out.nil⟩
 have AM:∀ id,id<S.next→L.aI id→D.aI id:=fun id hi hf=>by
  rw[hL] at hf;rcases hf with e|e|e
  ·have e:id=S.next:=e;omega
  ·have e:(0:Nat)=id+1:=e;omega
  ·exact e
 obtain ⟨r,T2,⟨rfl,s2⟩,e21⟩:=(zP (S:=S1) (p:=place) (by omega)).ex;have h2:=h1.sub s2;have hLD:L.D=D:=by rw[hL]
 have hLp:L.lp=S.next:=by rw[hL]
 have hd2:=h2.lQ;rw[hLD] at hd2;have eJ:=size20 (name:=iF place) hd2 (CK ok) (uK hp) (by show 2≤_;decide);obtain ⟨r,T3,⟨s3,yZ⟩,e20⟩:=eJ.ex;have hmt:fA (iF place)=true:=by
  have:place=0∨place=1∨place=2∨place=3:=by omega
  rcases this with rfl|rfl|rfl|rfl<;>decide
 have hfi:aN [D.dx,D.ar (iF place)]=6:=by
  unfold Dk.dx Dk.ar Dk.file;rw[wu,hmt,jK];rfl
 rw[hfi] at yZ;rcases yZ with ⟨_,rfl⟩|⟨q0,_⟩
 case inr=>exact absurd q0 (by decide)
 have h3:=h2.sub s3;have BK:=h3.lQ;rw[hLD] at BK;obtain ⟨nv,T4,⟨hnv,s4⟩,e23⟩:=(names23 BK (by rw[jK];decide) wu).ex;have hsorted:D.sorted=[]:=by
  have:D.sorted.length=0:=by unfold Dk.sorted;rw[List.length_mergeSort,List.length_map,jK];rfl
  exact List.length_eq_zero_iff.1 this
 rw[hsorted] at hnv;have nv1:=hnv.sl;have nv2:sLen nv=0:=by rw[hnv.gX];rfl
 have h4:=h3.sub s4;have hr4:=h4.row;have e20':∀ Q,ai C1 20 [.ptr D.dp 0 0 4,.str [116,48+place]] T2 Q=Q (.tuple [.int .i64 0,.int .i64 6]) T3:=e20;have wf4:L.m.wf 1:=by
  rw[hL];exact ⟨ok,hp,⟨Nat.le_refl _,by show 1≤_;decide⟩,by show 0≤_;decide,by show 0≤1;decide,fun p hp=>by cases hp⟩
 have hln:L.next=1:=by rw[hL]
 obtain ⟨r,T5,⟨rfl,L5,q1,q2,q3⟩,e26⟩:=(make26 h4 wf4 (by decide) (by rw[hln];decide)).ex;have hmk:L.m.make=(0,mo place q):=by
  have AJ:L.m=⟨vN q,place,[],1,0,false⟩:=by rw[hL,←hD];rfl
  rw[AJ];have hnm:=sB (p:=place) (n:=1) hp;unfold PM.make;rw[if_pos (show gl 1=true by decide)];unfold PM.bT;have hc:(PM.fL (bM place 1) ⟨vN q,place,[],1,0,false⟩)=(0,⟨⟨[⟨bM place 1,[],0⟩],q,-1,false⟩,place,[],1,0,false⟩):=by
   unfold PM.fL PM.mH;have:(vN q).create (bM place 1)=(0,⟨[⟨bM place 1,[],0⟩],q,-1,false⟩):=by
    unfold PD.create PD.on PD.aL PD.dY kI;rw[hnm];rfl
   show (((vN q).create (bM place 1)).1,(⟨((vN q).create (bM place 1)).2,place,[],1,0,false⟩:PM))=_;rw[this]
  rw[hc];rfl
 rw[hmk] at q2 e26;have hls:L.ps.length=0:=by rw[hL];rfl
 have hplv:L.pv=.az:=by rw[hL]
 have hdp5:L5.D.dp=D.dp:=by rw[q3.dp,hLD]
 have hps5:L5.ps.map Pt.p=[⟨bM place 1,1,[]⟩]:=by
  have:L5.m.ps=(mo place q).ps:=by rw[q2]
  exact this
 obtain ⟨p5,hp5⟩:∃ p,L5.ps=[p]:=by
  cases e:L5.ps with
  | nil=>rw[e] at hps5;cases hps5
  | cons p ps=>
   cases ps with
   | nil=>exact ⟨p,rfl⟩
   | cons a b=>rw[e] at hps5;simp at hps5
 have hl5:L5.ps.length=1:=by rw[hp5];rfl
 have hp5p:p5.p=⟨bM place 1,1,[]⟩:=by rw[hp5] at hps5;simpa using hps5
 have hpn:p5.name=bM place 1:=congrArg PP.name hp5p;have hr5:=q1.row;have hsl5:=q1.parts.1.sl;have hpl5:=q1.um;rw[hl5] at hpl5;have hnx5:L5.next=1:=congrArg PM.next q2
 have hlp5:L5.lp=S.next:=by rw[q3.lp,hLp]
 have C9:=hr5;rw[hdp5,hnx5,hlp5] at C9;rw[hLp,hplv,hLD] at hr4;have e26':∀ Q,ai C1 26 [.ptr S.next 0 0 6] T4 Q=Q (.int .i64 0) T5:=fun Q=>by have:=e26 Q;rw[hLp] at this;exact this
 have b65:=bu65 D.dp place;refine iN (dH _) (dL _ rfl) fn6 rfl ok6 (by simp) fun F hn hs=>?_;have nt6:Tryz.f6.ntmps=125:=by kernel_rfl
 rw[nt6] at hn;have t0:=hs 0;have t1:=hs 1;clear hs;simp only[List.getElem?_cons_zero,List.getElem?_cons_succ,Option.getD_some] at t0 t1;have pp1:¬((place:Int)<0):=by omega
 have pp2:¬((4:Int)≤place):=by omega
 simp[t0,t1,pp1,pp2,b65,jn,bG,e21,e20',e23,nv1,nv2];refine ay (op0H T4 D.dp S.next) 0 ⟨rfl,by simp[t0],by simp,by simp[nv2],by simp,by simp[hn]⟩ ?_;clear t0 t1 hn nv1 nv2 hnv e23;rintro k F' S0 b7 ⟨e0,t0,t6,t53,t54,hn⟩;clear b7;rw[e0];have z0:¬((0:Int)<0):=by decide
 simp[t0,t6,t53,t54,hr4,bG,e26',C9,hsl5,hpl5];refine ay (opH T5 L5) 1 ⟨0,Sub.refl _,by simp[t0,hdp5],by simp[t6,hlp5],by simp,by simp[hpl5,hl5],by simp,by omega,by simp[hn],by omega⟩ ?_;clear t0 t6 t53 t54 hn;rintro k F' S' b7 ⟨i,hS,t0,t6,t97,t98,t99,hi,hn,hk⟩;clear b7;rw[hl5] at t98 hi hk;rw[hdp5] at t0;rw[hlp5] at t6;by_cases hi0:i=0
 ·subst hi0;have h5:=q1.sub hS;obtain ⟨p1,p2,p3,p4,p6⟩:=h5.part (j:=0) (p:=p5) (by rw[hp5];rfl);have pc:p5.c=[.str p5.name,.int .u64 p5.first,p5.w]:=rfl;rw[pc] at p6;obtain ⟨X1,hX1⟩:∃ S1:AS,S1=⟨(S'.h.set S'.next (.row [.str [],.int .u64 0,.az] 0 0 false 76)).set S'.next (.row [.str p5.name,.int .u64 p5.first,p5.w] 0 0 false 76),S'.next+1⟩:=⟨_,rfl⟩
  have x1:Sub S' X1:=by rw[hX1];exact kx
  have g1:X1.h.get S'.next=some (.row [.str p5.name,.int .u64 p5.first,p5.w] 0 0 false 76):=by rw[hX1];exact aa _ _ _
  have bX1:=hX1.symm;have h5x:=h5.sub x1;have hpd5:L5.D.pd.fs=[⟨bM place 1,[],0⟩]:=congrArg (fun m:PM=>m.d.fs) q2;have mf:∀ f,f∈L5.D.fs→f.bs=[]∧f.ef=0:=fun f hf=>by
   have:f.pf∈L5.D.pd.fs:=List.mem_map.2 ⟨f,hf,rfl⟩;rw[hpd5] at this;simp at this;exact ⟨congrArg PF.bs this,congrArg PF.ef this⟩
  obtain ⟨r,T6,⟨s6,hls⟩,e27⟩:=(loose27 (name:=p5.name) h5x.lQ (fun f hf=>by obtain ⟨a,b⟩:=mf f hf;rw[a,b];exact ⟨Nat.zero_le _,Nat.zero_le _⟩) (by rw[hpn];exact rf hp) (by rw[hpn,jI];decide)).ex;have uy:r=.int .i64 0:=by
   rcases hls with ⟨_,e⟩|⟨_,f,hf,e⟩
   ·exact e
   ·obtain ⟨a,b⟩:=mf f (ey hf).1;rw[e,a,b];rfl
  rw[uy,hdp5] at e27;have xG:IntKind.i64.wrap 1=1:=by decide
  simp[t0,t6,t97,t98,t99,hsl5,hpl5,p1,p6,bX1,g1,bG,e27,xG];exact ⟨0,by omega,1,hS.trans (x1.trans s6),by simp[t0,hdp5],by simp[t6,hlp5],by simp[t97],by simp[t98,hl5],by simp,by omega,by simp[hn],by omega⟩
 ·have Eu:i=1:=by omega
  subst Eu;have h5:=q1.sub hS;have hr6:=h5.row;rw[hlp5,hdp5,hnx5] at hr6;have Ep:=fun (x:AV)=>set_dur (x:=x) hr6;have kB:L5.over=false:=congrArg PM.over q2;have hd0:L5.jk=0:=congrArg PM.jk q2;have hw0:IntKind.u64.wrap 0=0:=by decide
  simp[t0,t6,t97,t98,t99,hr6,Ep,hw0];obtain ⟨k1,k2⟩:=h5.fld (L':={ L5 with jk:=0 }) rfl rfl rfl rfl;have hev:aH L L5 S1 S':=(aH.of (s2.trans (s3.trans s4)):aH L L S1 T4).trans (q3.trans (aH.of hS));refine ⟨{ L5 with jk:=0 },hlp5.symm,?_,?_,Nat.le_trans s1.next hev.next,fun id hi hf=>?_,fun id hi hf=>?_⟩
  ·have eT:(⟨S'.h.set S.next (.row [.ptr D.dp 0 0 4,.int .i64 L5.place,L5.pv,.int .u64 1,.int .u64 0,.bool L5.over] 0 0 false 65),S'.next⟩:AS)=⟨S'.h.set L5.lp (.row [.ptr L5.D.dp 0 0 4,.int .i64 L5.place,L5.pv,.int .u64 L5.next,.int .u64 0,.bool L5.over] 0 0 false 65),S'.next⟩:=by rw[hlp5,hdp5,hnx5];rfl
   rw[eT];exact k1
  ·have:({ L5 with jk:=0 }:Lg).m={ L5.m with jk:=0 }:=rfl;rw[this,q2];rfl
  ·rw[if_neg (by omega)];exact (hev.b6 id (by have:=s1.next;omega) (fun e=>hf (AM id hi e))).trans (s1.h id hi)
  ·exact AM id hi (hev.aI id (by have:=s1.next;omega) hf)
end
section
variable {S T U:AS} {L:Lg} {B:Nat}
theorem next9 (h:bq S L):∀ Q:AV→AS→Prop,ai C1 9 [.ptr L.lp 0 0 6] S Q=Q (.int .u64 L.next) S:=fun Q=>by
 have hr:=h.row;refine ai.eq (bc (dH _) (dL _ rfl) fn9 rfl ok9 (by simp) fun F hn s0=>?_);simp[s0,hr]
theorem durable13 (h:bq S L):∀ Q:AV→AS→Prop,ai C1 13 [.ptr L.lp 0 0 6] S Q=Q (.int .u64 L.jk) S:=fun Q=>by
 have hr:=h.row;refine ai.eq (bc (dH _) (dL _ rfl) fn13 rfl ok13 (by simp) fun F hn s0=>?_);simp[s0,hr]
theorem equal11 {v w:AV} {a b:List Nat} (h1:Sl S v 1 (aO a)) (h2:Sl S w 1 (aO b)) (ha:∀ c,c∈a→c<256) (hb:∀ c,c∈b→c<256):∀ Q:AV→AS→Prop,ai C1 11 [v,w] S Q=Q (.bool (decide (a=b))) S:=fun Q=>by
 have tx:=fun (F:Fr) (dst:Option Tmp) (ty:TypeId) (pos:String) (af:Array Edge) (gd:Option (Nat×Bool)) (y:Tmp) (e:sl F y=v)=>lW (cx:=C1) (F:=F) (S:=S) (dst:=dst) (ty:=ty) (pos:=pos) (af:=af) (gd:=gd) (a:=31) (b:=9) h1 ha ((aE F y).trans e) bE31 sT9;have tx2:=fun (F:Fr) (dst:Option Tmp) (ty:TypeId) (pos:String) (af:Array Edge) (gd:Option (Nat×Bool)) (y:Tmp) (e:sl F y=w)=>lW (cx:=C1) (F:=F) (S:=S) (dst:=dst) (ty:=ty) (pos:=pos) (af:=af) (gd:=gd) (a:=31) (b:=9) h2 hb ((aE F y).trans e) bE31 sT9;have hq:xl .eql a b=some (.bool (decide (a=b))):=by
  show some (AV.bool (rW a b))=_;rw[kQ]
 refine ai.eq (bH (dH _) (dL _ rfl) fn11 rfl ok11 (by simp) fun F hn s0 s1=>?_);simp[s0,s1,tx,tx2,hq,bin_str]
instance:DecidableEq PR:=fun a b=>decidable_of_iff (a.n=b.n∧a.bs=b.bs) ⟨fun h=>by cases a;cases b;simp at h;simp[h.1,h.2],fun h=>by rw[h];exact ⟨rfl,rfl⟩⟩
structure kl (S:AS) (w:AV) (rs:List Rc):Prop where
 sl:Sl S w 2 (rs.flatMap Rc.c)
 data:∀ r,r∈rs→Sl S r.w 1 (aO r.bs)∧(∀ c,c∈r.bs→c<256)
theorem kl.sub {w:AV} {rs:List Rc} (h:kl S w rs) (hs:Sub S T):kl T w rs:=⟨h.sl.toSub hs,fun r hr=>⟨(h.data r hr).1.toSub hs,(h.data r hr).2⟩⟩
theorem nt47:Tryz.f47.ntmps=17:=by kernel_rfl
theorem same47 {x y:Rc} (hx:Sl S x.w 1 (aO x.bs)) (hy:Sl S y.w 1 (aO y.bs)) (bx:∀ c,c∈x.bs→c<256) (by':∀ c,c∈y.bs→c<256):ai C1 47 [.agg x.c,.agg y.c] S fun u T=>u=.bool (decide (x.p=y.p))∧Sub S T:=by
 have xc:x.c=[.int .u64 x.n,x.w]:=rfl;have yc:y.c=[.int .u64 y.n,y.w]:=rfl;obtain ⟨S1,cz⟩:∃ S1:AS,S1=⟨S.h.set S.next (.row [.int .u64 x.n,x.w] 0 0 false 43),S.next+1⟩:=⟨_,rfl⟩
 have s1:Sub S S1:=by rw[cz];exact cJ
 have n1:S1.next=S.next+1:=by rw[cz]
 have g1:S1.h.get S.next=some (.row [.int .u64 x.n,x.w] 0 0 false 43):=by rw[cz];exact aa _ _ _
 have jn:=cz.symm;obtain ⟨S2,dW⟩:∃ S2:AS,S2=⟨S1.h.set S1.next (.row [.int .u64 y.n,y.w] 0 0 false 43),S1.next+1⟩:=⟨_,rfl⟩
 have s2:Sub S1 S2:=by rw[dW];exact cJ
 have g2:S2.h.get S1.next=some (.row [.int .u64 y.n,y.w] 0 0 false 43):=by rw[dW];exact aa _ _ _
 have bS2:=dW.symm;have g1':=(s2.h S.next (by omega)).trans g1;have e11:=equal11 (hx.toSub (s1.trans s2)) (hy.toSub (s1.trans s2)) bx by'
 have hd:decide (x.p=y.p)=(decide (x.n=y.n)&&decide (x.bs=y.bs)):=by
  unfold Rc.p;by_cases q1:x.n=y.n<;>by_cases q2:x.bs=y.bs<;>simp[q1,q2]
 rw[hd];refine bH (dH _) (dL _ rfl) fn47 rfl ok47 (by simp) fun F hn s0 t1=>?_;rw[nt47] at hn;rw[xc] at s0;rw[yc] at t1;by_cases hq:x.n=y.n
 ·rw[←hq] at t1 bS2 g2 ⊢;simp[s0,t1,jn,bS2,g1',g2,bG,e11];exact s1.trans s2
 ·have hqI:¬(x.n:Int)=y.n:=by omega
  simp[s0,t1,jn,bS2,g1',g2,bG,hqI,hq];exact s1.trans s2
theorem nt46:Tryz.f46.ntmps=32:=by kernel_rfl
def sameH (S:AS) (v w:AV) (xs ys:List Rc) (k:Nat) (F':Fr) (S':AS):Prop:=
 ∃ i:Nat,Sub S S'∧(xs.take i).map Rc.p=(ys.take i).map Rc.p∧sl F' 0=v∧sl F' 1=w∧sl F' 2=.func (.func 47) [] []∧sl F' 15=v∧sl F' 16=.int .i64 xs.length∧sl F' 17=.int .i64 i∧i≤xs.length∧F'.n=32∧k=xs.length-i
set_option maxRecDepth 20000 in
theorem eqf46 {v w:AV} {xs ys:List Rc} (h1:kl S v xs) (h2:kl S w ys) (hl:xs.length≤1073741824):ai C1 46 [v,w,.func (.func 47) [] []] S fun u T=>u=.bool (decide (xs.map Rc.p=ys.map Rc.p))∧Sub S T:=by
 have u1:=h1.sl.sl;have u2:sLen v=xs.length:=by have:=h1.sl.len;rw[eG dB] at this;omega
 have v1:=h2.sl.sl;have v2:sLen w=ys.length:=by have:=h2.sl.len;rw[eG dB] at this;omega
 refine fZ (dH _) (dL _ rfl) fn46 rfl ok46 (by simp) fun F hn s0 t1 t2=>?_;rw[nt46] at hn;by_cases hlen:xs.length=ys.length
 ·have hlI:=eq_true (show (xs.length:Int)=ys.length by omega);simp[s0,t1,t2,u1,u2,v1,v2,hlI];refine ay (sameH S v w xs ys) xs.length ⟨0,Sub.refl _,by simp,by simp[s0],by simp[t1],by simp[t2],by simp[s0],by simp[u2],by simp,Nat.zero_le _,by simp[hn],rfl⟩ ?_;clear s0 t1 t2 hn hlI;rintro k F' S' b7 ⟨i,hS,heq,s0,s1,s2,s15,vy,s17,hi,hn,hk⟩;clear b7;have zh:=h1.sub hS;have jC:=h2.sub hS;by_cases gg:i<xs.length
  ·have sR:(i:Int)<xs.length:=by omega
   have hib:i<ys.length:=by omega
   have hibI:(i:Int)<ys.length:=by omega
   have hw:=IntWalk.i64_in ((i:Int)+1) (by omega);obtain ⟨x,hx⟩:∃ x,xs[i]?=some x:=⟨_,List.getElem?_eq_getElem gg⟩
   obtain ⟨y,hy⟩:∃ y,ys[i]?=some y:=⟨_,List.getElem?_eq_getElem hib⟩
   have xm:=List.mem_of_getElem? hx;have ym:=List.mem_of_getElem? hy;have lx:=eR (cx:=C1) (e:=43) (enc:=Rc.c) zh.sl dB (by decide) hx Bz zQ;have xc:x.c=[.int .u64 x.n,x.w]:=rfl;have yc:y.c=[.int .u64 y.n,y.w]:=rfl;rw[xc] at lx;obtain ⟨S3,uZ⟩:∃ S3:AS,S3=⟨(S'.h.set S'.next (.row [.int .u64 0,.az] 0 0 false 43)).set S'.next (.row [.int .u64 x.n,x.w] 0 0 false 43),S'.next+1⟩:=⟨_,rfl⟩
   have sS3:Sub S' S3:=by rw[uZ];exact kx
   have n3:S3.next=S'.next+1:=by rw[uZ]
   have g3:S3.h.get S'.next=some (.row [.int .u64 x.n,x.w] 0 0 false 43):=by rw[uZ];exact aa _ _ _
   have bS3:=uZ.symm;have ly:=eR (cx:=C1) (e:=43) (enc:=Rc.c) (jC.sub sS3).sl dB (by decide) hy Bz zQ;rw[yc] at ly;obtain ⟨S4,oe⟩:∃ S4:AS,S4=⟨(S3.h.set S3.next (.row [.int .u64 0,.az] 0 0 false 43)).set S3.next (.row [.int .u64 y.n,y.w] 0 0 false 43),S3.next+1⟩:=⟨_,rfl⟩
   have sS4:Sub S3 S4:=by rw[oe];exact kx
   have g4:S4.h.get S3.next=some (.row [.int .u64 y.n,y.w] 0 0 false 43):=by rw[oe];exact aa _ _ _
   have zB:=oe.symm;have g3':=(sS4.h S'.next (by omega)).trans g3;have s34:=sS3.trans sS4;obtain ⟨r,T,⟨rfl,hT⟩,e47⟩:=(same47 (S:=S4) ((zh.data x xm).1.toSub s34) ((jC.data y ym).1.toSub s34) (zh.data x xm).2 (jC.data y ym).2).ex;rw[xc,yc] at e47;have tx:xs.take (i+1)=xs.take i++[x]:=by rw[List.take_add_one,hx];rfl
   have ty:ys.take (i+1)=ys.take i++[y]:=by rw[List.take_add_one,hy];rfl
   by_cases hp:x.p=y.p
   ·have fi:=eq_true hp;rw[decide_eq_true hp] at e47;simp[s0,s1,s2,s15,vy,s17,sR,u1,u2,v1,v2,gg,hib,hibI,lx,bS3,ly,zB,g3',g4,bG,e47,hw];exact ⟨xs.length-(i+1),by omega,i+1,hS.trans (s34.trans hT),by rw[tx,ty,List.map_append,List.map_append,heq];simp[hp],by simp[s0],by simp[s1],by simp[s2],by simp[s15],by simp[vy],by simp,by omega,by simp[hn],rfl⟩
   ·rw[decide_eq_false hp] at e47;have aZ:¬(xs.map Rc.p=ys.map Rc.p):=fun e=>hp (by
     have:=congrArg (fun l=>l[i]?) e;simp only[List.getElem?_map,hx,hy,Option.map_some,Option.some.injEq] at this;exact this)
    simp[s0,s1,s2,s15,vy,s17,sR,u1,u2,v1,v2,gg,hib,hibI,lx,bS3,ly,zB,g3',g4,bG,e47,hw];exact ⟨aZ,hS.trans (s34.trans hT)⟩
  ·have:i=xs.length:=by omega
   subst this;rw[List.take_length,hlen,List.take_length] at heq;simp[s0,s1,s2,s15,vy,s17];exact ⟨heq,hS⟩
 ·have hlI:=eq_false (show ¬(xs.length:Int)=ys.length by omega);have aZ:¬(xs.map Rc.p=ys.map Rc.p):=fun e=>hlen (by have:=congrArg List.length e;rwa [List.length_map,List.length_map] at this);simp[s0,t1,t2,u1,u2,v1,v2,hlI];exact ⟨aZ,Sub.refl _⟩
theorem same15 {v w:AV} {xs ys:List Rc} (h1:kl S v xs) (h2:kl S w ys) (hl:xs.length≤1073741824):ai C1 15 [v,w] S fun u T=>u=.bool (decide (xs.map Rc.p=ys.map Rc.p))∧Sub S T:=by
 obtain ⟨r,T,⟨rfl,hT⟩,e⟩:=(eqf46 h1 h2 hl).ex;refine bH (dH _) (dL _ rfl) fn15 rfl ok15 (by simp) fun F hn s0 t1=>?_;simp[s0,t1,bG,e,hT]
end
end Go.Proofs.YtgkdgiognhbfjaaGreatDoor.dk
