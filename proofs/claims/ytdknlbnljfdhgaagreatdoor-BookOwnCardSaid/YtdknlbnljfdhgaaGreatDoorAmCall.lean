/-
  The abstract machine against the model: calls, whole; code.
-/
import Derived.Test.YtdknlbnljfdhgaaGreatDoorAmLeave
import Derived.Test.YtdknlbnljfdhgaaGreatDoorAmSame
namespace Go.Am
open Go
variable {Λ:LB}
def PostOk (Λ:LB) (ρ:aI) (S:AS) (w:World) (fW:Ending→World→Prop) (r:AV×AS):Prop:=
 ∀ ρ' e w',fT ρ' r.1 e→R Λ ρ' r.2 w'→Kp ρ S w ρ' r.2 w'→fW e w'
theorem fnF_ok {P:Program} {cx:Cx} (az:cX Λ P cx) {n:Nat} (hc:ng Λ P cx n) {ρ:aI} {f:FuncId} {as:List AV} {S:AS} {w:World} {args:Array Value} {fW:Ending→World→Prop}
  (h:(Ey cx (exec cx n) f as S).cY (PostOk Λ ρ S w fW)) (hR:R Λ ρ S w) (hl:au ρ as args.toList):TgtOk P ρ args w fW (.fn f):=by
 unfold Ey at h;cases hq:cx.bG.get f with
 | some q=>
  rw[hq] at h;simp only[] at h;cases hr:q as S with
  | none=>rw[hr] at h;exact h.elim
  | some r=>
   rw[hr] at h;obtain ⟨v,S'⟩:=r;obtain ⟨Eh,xC⟩:=az.bG f q hq ρ as S w args v S' hR hl hr;refine ⟨Eh,xC.mono fun e w' he=>?_⟩;obtain ⟨x,ρ',rfl,e2,e3,e4⟩:=he;exact h.1 ρ' _ w' (fT.of e2) e3 e4
 | none=>
 rw[hq] at h;simp only[] at h;cases hf:cx.fns.get f with
 | none=>rw[hf] at h;exact h.elim
 | some fn=>
  rw[hf] at h;simp only[] at h;have Eh:=az.fns f fn hf;cases hb:fn.body with
  | none=>rw[hb] at h;exact h.elim
  | some c=>
   rw[hb] at h;simp only[] at h;refine ⟨⟨fn,Eh,by rw[hb];rfl⟩,callsIn_wide.1 (callsIn_of_wp_marks (n:=0) Eh hb trivial ?_)⟩;refine hc none c _ ρ _ S w _ (.inl rfl) hR (zQ hl fn.ntmps) ?_;refine (aj.all_bind h).mono fun o ho ρ' e a' w' k0 h1 h2 h3=>?_;cases he:o.ex with
   | exit id=>rw[he] at ho;exact ho.elim
   | goto l=>rw[he] at ho;exact ho.elim
   | normal=>
    rw[he] at ho k0;cases k0;exact tr az hc o.F.ds a'.defers ρ' o.S .ret _ w' h1 h2.srel h2.defers rfl (ho.mono fun r hr ρ'' e vQ j0 j1 j2=>hr ρ'' e vQ j0 j1 (h3.trans j2))
   | ret=>
    rw[he] at ho k0;cases k0;exact tr az hc o.F.ds a'.defers ρ' o.S .ret _ w' h1 h2.srel h2.defers rfl (ho.mono fun r hr ρ'' e vQ j0 j1 j2=>hr ρ'' e vQ j0 j1 (h3.trans j2))
   | dN v=>
    rw[he] at ho k0;obtain ⟨x,rfl,hx⟩:=k0;exact tr az hc o.F.ds a'.defers ρ' o.S (.dN v) _ w' h1 h2.srel h2.defers ⟨x,rfl,hx⟩ (ho.mono fun r hr ρ'' e vQ j0 j1 j2=>hr ρ'' e vQ j0 j1 (h3.trans j2))
theorem cut_get (S:AS):∀ (ids:List Nat) (t:T bE) (i:Nat),(List.foldl (fun t id=>match S.h.get id with|some o=>t.set id o|none=>t) t ids).get i=if i∈ids∧S.h.get i≠none then S.h.get i else t.get i
 | [],t,i=>by simp
 | id :: ids,t,i=>by
  rw[List.foldl_cons,cut_get S ids];by_cases h:i∈ids∧S.h.get i≠none
  ·rw[if_pos h,if_pos ⟨by simp[h.1],h.2⟩]
  ·rw[if_neg h];by_cases hi:i=id
   ·subst hi;cases ho:S.h.get i with
    | none=>rw[if_neg (by simp)]
    | some o=>rw[if_pos (by simp)];exact aa _ _ _
   ·rw[if_neg (by
     rintro ⟨h1,h2⟩;rcases List.mem_cons.1 h1 with h3|h3
     ·exact hi h3
     ·exact h ⟨h3,h2⟩)]
    cases S.h.get id with
    | none=>rfl
    | some o=>exact ae _ _ hi
theorem mo (S:AS) (ids:List Nat) (i:Nat):(oI S ids).h.get i=if i∈ids then S.h.get i else none:=by
 show (List.foldl (fun t id=>match S.h.get id with|some o=>t.set id o|none=>t) T.leaf ids).get i=_;rw[cut_get,dz];by_cases h:i∈ids
 ·rw[if_pos h];cases ho:S.h.get i with
  | none=>simp
  | some o=>simp[h]
 ·rw[if_neg (fun e=>h e.1),if_neg h]
theorem fL {S:AS} {ids:List Nat} {i:Nat} {o:bE} (h:(oI S ids).h.get i=some o):i∈ids∧S.h.get i=some o:=by
 rw[mo] at h;by_cases hi:i∈ids
 ·rw[if_pos hi] at h;exact ⟨hi,h⟩
 ·rw[if_neg hi] at h;cases h
theorem Cp.cut {ρ:aI} {S:AS} {ids:List Nat} {b:Nat} (h:Cp ρ (oI S ids) b):Cp ρ S b:=by
 obtain ⟨i,o,g,pl,ho,hz,hp,e⟩:=h;exact ⟨i,o,g,pl,(fL ho).2,hz,hp,e⟩
theorem sG.cut {ρ:aI} {S:AS} {ids:List Nat} {b:Nat} (h:sG ρ (oI S ids) b):sG ρ S b:=by
 obtain ⟨i,o,g,pl,ho,hp,e⟩:=h;exact ⟨i,o,g,pl,(fL ho).2,hp,e⟩
theorem R.cut {ρ:aI} {S:AS} {w:World} (h:R Λ ρ S w) (ids:List Nat):R Λ ρ (oI S ids) w:=
 ⟨fun i o ho=>h.fi i o (fL ho).2,fun i o ho=>h.sM i o (fL ho).2,h.fresh,fun i c l t f y ho=>h.mI i c l t f y (fL ho).2,fun i o g pl ho=>h.lt i o g pl (fL ho).2,
  fun i j o oj g gj pl pM gO ho qP=>h.apart i j o oj g gj pl pM gO (fL ho).2 (fL qP).2,h.start,fun b hb=>let ⟨a,c,d⟩:=h.base b hb;⟨a,c,fun hm=>d (Cp.cut hm)⟩⟩
theorem stayed_get {S:AS} {ids:List Nat} {r:AV×AS} (h:qE S ids r=true) {i:Nat} (hi:i∈ids):r.2.h.get i=S.h.get i:=by
 unfold qE at h;rw[fS,List.all_eq_true] at h;have:=h i hi;cases h1:S.h.get i with
 | none=>
  cases h2:r.2.h.get i with
  | none=>rfl
  | some b=>rw[h1,h2] at this;cases this
 | some a=>
  cases h2:r.2.h.get i with
  | none=>rw[h1,h2] at this;cases this
  | some b=>rw[h1,h2] at this;rw[CY this]
theorem keep_ok {ρ ρ':aI} {S:AS} {w w':World} {ids:List Nat} {r:AV×AS} {k:AV×Option (Nat×bE)} {e:Ending} (hR:R Λ ρ S w) (hk:qh S r=some k) (yw:∀ i,i∈ids→r.2.h.get i=S.h.get i)
  (h0:fT ρ' r.1 e) (h1:R Λ ρ' r.2 w') (h2:Kp ρ (oI S ids) w ρ' r.2 w') :
  ∃ ρ'',fT ρ'' k.1 e∧R Λ ρ'' (fe S r.2.next k.2) w'∧Kp ρ S w ρ'' (fe S r.2.next k.2) w':=by
 obtain ⟨N,hN⟩:∃ N:Nat→Nat→Prop,∃ _:∀ i g,Decidable (N i g),(k.1=r.1∧∀ i g,N i g→S.next≤i) ∧
   ((k.2=none∧eF 3 r.1=true∧∀ i g,¬N i g)∨∃ id g off len ay sz cap cells low frz ty,r.1=.slice id g off len ay sz cap∧k.2=some (id,.row cells g g frz ty)∧S.next≤id ∧
    r.2.h.get id=some (.row cells low g frz ty)∧low≤g∧iX (eF 2) cells=true∧∀ i j,N i j↔i=id∧j=g):=by
  unfold qh at hk;split at hk
  ·rename_i id g off len ay sz cap hv;rw[cn] at hk;by_cases ck:S.next≤id
   ·rw[decide_eq_true ck] at hk;simp only[cond_true] at hk;split at hk
    ·rename_i cells low top frz ty dI;cases pz:(iX (eF 2) cells&&Nat.beq g top&&Nat.ble low top) with
     | false=>rw[pz] at hk;cases hk
     | true=>
      rw[pz] at hk;cases hk;simp only[Bool.and_eq_true,bf,cn,decide_eq_true_eq] at pz;obtain ⟨⟨f1,rfl⟩,f3⟩:=pz;exact ⟨fun i j=>i=id∧j=g,fun i j=>inferInstance,⟨rfl,fun i j gO=>by rw[gO.1];exact ck⟩,.inr ⟨id,g,off,len,ay,sz,cap,cells,low,frz,ty,hv,rfl,ck,dI,f3,f1,fun i j=>Iff.rfl⟩⟩
    ·cases hk
   ·rw[decide_eq_false ck] at hk;cases hk
  ·rename_i cN;cases pz:eF 3 r.1 with
   | false=>rw[pz] at hk;cases hk
   | true=>
    rw[pz] at hk;cases hk;exact ⟨fun _ _=>False,fun i j=>inferInstance,⟨rfl,fun i g h=>h.elim⟩,.inl ⟨rfl,rfl,fun i g h=>h⟩⟩
 obtain ⟨hdec,⟨hkv,hNge⟩,hkind⟩:=hN
 let ρ'':aI:=fun i g=>if i<S.next then ρ' i g else if N i g then ρ' i g else none
 have old:∀ i g,i<S.next→ρ'' i g=ρ' i g:=fun i g hi=>if_pos hi
 have new:∀ i g,S.next≤i→ρ'' i g=if N i g then ρ' i g else none:=fun i g hi=>if_neg (Nat.not_lt.2 hi)
 have sub:∀ i g pl,ρ'' i g=some pl→ρ' i g=some pl:=by
  intro i g pl h;by_cases hi:i<S.next
  ·rw[old i g hi] at h;exact h
  ·rw[new i g (Nat.not_lt.1 hi)] at h;split at h
   ·exact h
   ·cases h
 have hx:Ext ρ ρ'':=by
  intro i g pl lf;have hi:i<S.next:=by
   rcases Nat.lt_or_ge i S.next with hh|hh
   ·exact hh
   ·rw[hR.fresh i g hh] at lf;cases lf
  rw[old i g hi];exact h2.ext i g pl lf
 have away:∀ i,i∉ids→i<S.next→∀ g,ρ' i g=ρ i g:=fun i hi bK g=>(h2.nE i g bK (by rw[mo,if_neg hi])).1
 have notWrt:∀ i o g pl,i∉ids→S.h.get i=some o→ρ i g=some pl→¬Cp ρ (oI S ids) pl.b:=by
  rintro i o g pl hi ho hp ⟨j,oj,gj,pM,qP,hz,rm,e⟩;obtain ⟨c1,c2⟩:=fL qP;exact (hR.apart j i oj o gj g pM pl (fun e=>hi (e▸c1)) c2 ho rm hp).elim (fun h=>h e) (fun h=>hz h.1)
 have heap:∀ i o g pl,i∉ids→S.h.get i=some o→ρ i g=some pl→w'.heap[pl.b]?=w.heap[pl.b]?:=fun i o g pl hi ho hp=>h2.bH pl.b (hR.lt i o g pl ho hp) (notWrt i o g pl hi ho hp);have objOld:∀ i o,S.h.get i=some o→rh ρ'' w' i o:=by
  intro i o ho;have bK:=hR.sM i o ho;by_cases hi:i∈ids
  ·exact rh.restrict hx h2.ext (fun g=>old i g bK) (hR.fi i o ho) (h1.fi i o (by rw[yw i hi];exact ho))
  ·exact (hR.fi i o ho).bH hx fun g pl hp=>heap i o g pl hi ho hp
 have getO:∀ i,i<S.next→(fe S r.2.next k.2).h.get i=S.h.get i:=by
  intro i hi;rcases hkind with ⟨e,_⟩|⟨id,g,off,len,ay,sz,cap,cells,low,frz,ty,_,e,ck,_⟩
  ·rw[e];rfl
  ·rw[e];exact ae _ _ (by omega)
 have nx:(fe S r.2.next k.2).next=r.2.next:=by
  cases k.2 with
  | none=>rfl
  | some x=>rfl
 have nle:S.next≤r.2.next:=h2.next
 have lC:∀ i o,(fe S r.2.next k.2).h.get i=some o→(i<S.next∧S.h.get i=some o)∨(S.next≤i∧∃ g cells low frz ty,o=.row cells g g frz ty∧r.2.h.get i=some (.row cells low g frz ty)∧low≤g∧iX (eF 2) cells=true∧∀ j,N i j↔j=g):=by
  intro i o ho;rcases hkind with ⟨e,_,_⟩|⟨id,g,off,len,ay,sz,cap,cells,low,frz,ty,_,e,ck,e2,e3,e4,e5⟩
  ·rw[e] at ho;exact .inl ⟨hR.sM i o ho,ho⟩
  ·rw[e] at ho;by_cases hi:i=id
   ·subst hi;have iU:(S.h.set i (bE.row cells g g frz ty)).get i=some o:=ho;rw[aa] at iU;cases iU;exact .inr ⟨ck,g,cells,low,frz,ty,rfl,e2,e3,e4,fun j=>by rw[e5];simp⟩
   ·have iU:(S.h.set id (bE.row cells g g frz ty)).get i=some o:=ho;rw[ae _ _ hi] at iU;exact .inl ⟨hR.sM i o iU,iU⟩
 have inR2:∀ i o,(fe S r.2.next k.2).h.get i=some o→(i∈ids∨S.next≤i)→∃ o',r.2.h.get i=some o':=by
  intro i o ho hi;rcases lC i o ho with ⟨bK,hS⟩|⟨_,g,cells,low,frz,ty,_,e,_⟩
  ·rcases hi with hi|hi
   ·exact ⟨o,by rw[yw i hi];exact hS⟩
   ·omega
  ·exact ⟨_,e⟩
 have mineR:∀ b,sG ρ'' (fe S r.2.next k.2) b→sG ρ S b∨sG ρ' r.2 b:=by
  rintro b ⟨i,o,g,pl,ho,hp,rfl⟩;by_cases hi:i∈ids∨S.next≤i
  ·obtain ⟨o',iU⟩:=inR2 i o ho hi;exact .inr ⟨i,o',g,pl,iU,sub i g pl hp,rfl⟩
  ·rcases lC i o ho with ⟨bK,hS⟩|⟨nJ,_⟩
   ·have gK:=sub i g pl hp;rw[away i (fun e=>hi (.inl e)) bK] at gK;exact .inl ⟨i,o,g,pl,hS,gK,rfl⟩
   ·exact absurd (.inr nJ) hi
 have mineS:∀ b,sG ρ'' (fe S r.2.next k.2) b→sG ρ S b∨w.heap.size≤b:=by
  intro b hb;rcases mineR b hb with h|h
  ·exact .inl h
  ·rcases h2.wW b h with h3|h3
   ·exact .inl h3.cut
   ·exact .inr h3
 have thaw:∀ i o o',(fe S r.2.next k.2).h.get i=some o→r.2.h.get i=some o'→(i∈ids∨S.next≤i)→Cb o'→Cb o:=by
  intro i o o' ho iU hi hf;rcases lC i o ho with ⟨bK,hS⟩|⟨_,g,cells,low,frz,ty,rfl,e,hle,_⟩
  ·rcases hi with hi|hi
   ·rw[yw i hi,hS] at iU;cases iU;exact hf
   ·omega
  ·rw[e] at iU;cases iU;obtain ⟨c,l,t,y,he⟩:=hf;cases he;exact ⟨cells,g-1,g,ty,by rw[show g-1+1=g by omega]⟩
 have wrtR:∀ b,Cp ρ'' (fe S r.2.next k.2) b→Cp ρ S b∨Cp ρ' r.2 b:=by
  rintro b ⟨i,o,g,pl,ho,hz,hp,rfl⟩;by_cases hi:i∈ids∨S.next≤i
  ·obtain ⟨o',iU⟩:=inR2 i o ho hi;exact .inr ⟨i,o',g,pl,iU,fun hf=>hz (thaw i o o' ho iU hi hf),sub i g pl hp,rfl⟩
  ·rcases lC i o ho with ⟨bK,hS⟩|⟨nJ,_⟩
   ·have gK:=sub i g pl hp;rw[away i (fun e=>hi (.inl e)) bK] at gK;exact .inl ⟨i,o,g,pl,hS,hz,gK,rfl⟩
   ·exact absurd (.inr nJ) hi
 have wrtS:∀ b,Cp ρ'' (fe S r.2.next k.2) b→Cp ρ S b∨w.heap.size≤b:=by
  intro b hb;rcases wrtR b hb with h|h
  ·exact .inl h
  ·rcases h2.wrt b h with h3|h3
   ·exact .inl h3.cut
   ·exact .inr h3
 refine ⟨ρ'',?_,⟨?_,?_,?_,?_,?_,?_,h1.start,?_⟩,⟨hx,h2.os,h2.tape,h2.output,h2.size,fun b hb hm=>h2.bH b hb (fun h=>hm h.cut),mineS,wrtS,by rw[nx];exact nle,fun id g hi hn=>?_⟩⟩
 ·-- the value
  rw[hkv];rcases h0.cases with ⟨hnp,x,rfl,hv⟩|⟨u,x,hu,_,_⟩
  ·refine fT.of ?_;rcases hkind with ⟨_,pz,_⟩|⟨id,g,off,len,ay,sz,cap,cells,low,frz,ty,e,_,ck,_,_,_,e5⟩
   ·exact sd 3 r.1 x ρ' ρ'' pz hv
   ·rw[e] at hv ⊢;simp only[ah] at hv ⊢;obtain ⟨pl,c,p1,rest⟩:=hv;exact ⟨pl,c,by rw[new id g ck,if_pos ((e5 id g).2 ⟨rfl,rfl⟩)];exact p1,rest⟩
  ·exfalso;rcases hkind with ⟨_,pz,_⟩|⟨_,_,_,_,_,_,_,_,_,_,_,e,_⟩
   ·rw[hu] at pz;simp[eF] at pz
   ·rw[hu] at e;cases e
 ·-- objects
  intro i o ho;rcases lC i o ho with ⟨bK,hS⟩|⟨nJ,g,cells,low,frz,ty,rfl,e,e3,e4,e5⟩
  ·exact objOld i o hS
  ·obtain ⟨a1,a2,a3⟩:=h1.fi i _ e;refine ⟨Nat.le_refl _,fun j j1 j2=>?_,fun j j' p q b1 b2 b3 b4 hp hq _=>?_⟩
   ·obtain rfl:j=g:=by omega
    obtain ⟨pl,C,fr,q1,q2,q3,q4,q5,q6,q7,q8,q9⟩:=a2 j e3 (Nat.le_refl _);refine ⟨pl,C,fr,by rw[new i j nJ,if_pos ((e5 j).2 rfl)];exact q1,q2,q3,q4,q5,fun n hn=>?_,q7,q8,q9⟩;obtain ⟨y,u,s1,s2,s3,s4⟩:=q6 n hn;refine ⟨y,u,s1,s2,?_,s4⟩;have hf:eF 2 y=true:=by
     have gen:∀ (l:List AV) (n:Nat) (y:AV),iX (eF 2) l=true→l[n]?=some y→eF 2 y=true:=by
      intro l
      induction l with
      | nil=>intro n y _ h;simp at h
      | cons z l ih=>
       intro n y h hy;simp only[iX,Bool.and_eq_true] at h;cases n with
       | zero=>simp at hy;subst hy;exact h.1
       | succ n=>exact ih n y h.2 (by simpa using hy)
     exact gen cells n y e4 s1
    exact sd 2 y u ρ' ρ'' hf s3
   ·obtain rfl:j=g:=by omega
    obtain rfl:j'=j:=by omega
    rw[hp] at hq;cases hq;rfl
 ·intro i o ho;rw[nx];rcases lC i o ho with ⟨bK,_⟩|⟨_,g,cells,low,frz,ty,rfl,e,_⟩
  ·omega
  ·exact h1.sM i _ e
 ·intro i g hi;rw[nx] at hi;have nJ:S.next≤i:=Nat.le_trans nle hi
  rw[new i g nJ];split
  ·exact h1.fresh i g hi
  ·rfl
 ·intro i c l t f y ho g hg;rcases lC i _ ho with ⟨bK,hS⟩|⟨nJ,g',cells,low,frz,ty,e,e2,_,_,e5⟩
  ·rw[old i g bK];by_cases hi:i∈ids
   ·exact h1.mI i c l t f y (by rw[yw i hi];exact hS) g hg
   ·rw[away i hi bK];exact hR.mI i c l t f y hS g hg
  ·cases e;rw[new i g nJ,if_neg (fun h=>by have:=(e5 g).1 h;omega)]
 ·intro i o g pl ho hp;by_cases hi:i∈ids∨S.next≤i
  ·obtain ⟨o',iU⟩:=inR2 i o ho hi;exact h1.lt i o' g pl iU (sub i g pl hp)
  ·rcases lC i o ho with ⟨bK,hS⟩|⟨nJ,_⟩
   ·have gK:=sub i g pl hp;rw[away i (fun e=>hi (.inl e)) bK] at gK;exact Nat.lt_of_lt_of_le (hR.lt i o g pl hS gK) h2.size
   ·exact absurd (.inr nJ) hi
 ·intro i j o oj g gj pl pM gO ho qP hp rm;have side:∀ (i j:Nat) (o oj:bE) (g gj:Nat) (pl pM:Pl),i≠j→(fe S r.2.next k.2).h.get i=some o→(fe S r.2.next k.2).h.get j=some oj→ρ'' i g=some pl→ρ'' j gj=some pM→¬(i∈ids∨S.next≤i)→pl.b≠pM.b∨(Cb o∧Cb oj):=by
   intro i j o oj g gj pl pM gO ho qP hp rm hi;rcases lC i o ho with ⟨bK,hS⟩|⟨nJ,_⟩
   ·have gK:=sub i g pl hp;rw[away i (fun e=>hi (.inl e)) bK] at gK;have hpb:=hR.lt i o g pl hS gK;by_cases hj:j∈ids∨S.next≤j
    ·obtain ⟨o',iU⟩:=inR2 j oj qP hj;by_cases hfj:Cb oj
     ·by_cases hfo:Cb o
      ·exact .inr ⟨hfo,hfj⟩
      ·rcases h2.wW pM.b ⟨j,o',gj,pM,iU,sub j gj pM rm,rfl⟩ with ⟨j2,o2,g2,pl2,nu,pQ,e2⟩|h3
       ·obtain ⟨c1,c2⟩:=fL nu;rcases hR.apart i j2 o o2 g g2 pl pl2 (fun e=>hi (.inl (e▸c1))) hS c2 gK pQ with h4|h4
        ·exact .inl (by rw[←e2];exact h4)
        ·exact absurd h4.1 hfo
       ·exact .inl (by omega)
     ·rcases h2.wrt pM.b ⟨j,o',gj,pM,iU,fun hf=>hfj (thaw j oj o' qP iU hj hf),sub j gj pM rm,rfl⟩ with h3|h3
      ·refine .inl fun hb=>notWrt i o g pl (fun e=>hi (.inl e)) hS gK ?_;rw[hb];exact h3
      ·exact .inl (by omega)
    ·rcases lC j oj qP with ⟨hltj,hSj⟩|⟨nJ,_⟩
     ·have hpj':=sub j gj pM rm;rw[away j (fun e=>hj (.inl e)) hltj] at hpj';exact hR.apart i j o oj g gj pl pM gO hS hSj gK hpj'
     ·exact absurd (.inr nJ) hj
   ·exact absurd (.inr nJ) hi
  by_cases hi:i∈ids∨S.next≤i
  ·by_cases hj:j∈ids∨S.next≤j
   ·obtain ⟨o',iU⟩:=inR2 i o ho hi;obtain ⟨oj',hoj'⟩:=inR2 j oj qP hj;rcases h1.apart i j o' oj' g gj pl pM gO iU hoj' (sub i g pl hp) (sub j gj pM rm) with h4|h4
    ·exact .inl h4
    ·exact .inr ⟨thaw i o o' ho iU hi h4.1,thaw j oj oj' qP hoj' hj h4.2⟩
   ·rcases side j i oj o gj g pM pl (Ne.symm gO) qP ho rm hp hj with h4|h4
    ·exact .inl fun e=>h4 e.symm
    ·exact .inr ⟨h4.2,h4.1⟩
  ·exact side i j o oj g gj pl pM gO ho qP hp rm hi
 ·intro b hB;obtain ⟨d1,d2,d3⟩:=h1.base b hB;refine ⟨d1,d2,fun hm=>?_⟩;rcases wrtR b hm with h|h
  ·exact (hR.base b hB).2.2 h
  ·exact d3 h
 ·have dY:(oI S ids).h.get id=none:=by
   rw[mo];split
   ·exact hn
   ·rfl
  refine ⟨by rw[old id g hi];exact (h2.nE id g hi dY).1,by rw[getO id hi];exact hn⟩
theorem pureF_ok {P:Program} {cx:Cx} (az:cX Λ P cx) {n:Nat} (hc:ng Λ P cx n) {ρ:aI} {f:FuncId} {as:List AV} {S:AS} {w:World} {args:Array Value} {fW:Ending→World→Prop}
  (h:(oc cx (exec cx n) f as S).cY (PostOk Λ ρ S w fW)) (hR:R Λ ρ S w) (hl:au ρ as args.toList):TgtOk P ρ args w fW (.fn f):=by
 unfold oc at h;cases hq:cx.fQ.get f with
 | none=>rw[hq] at h;exact fnF_ok az hc h hR hl
 | some u=>
  rw[hq] at h;simp only[] at h;generalize (List.rec (motive:=fun _=>List Nat) [] (fun x _ r=>fh (AW S 4 x) r) as:List Nat)=ids at h;refine fnF_ok az hc (S:=oI S ids) ?_ (hR.cut ids) hl;generalize Ey cx (exec cx n) f as (oI S ids)=res at h;unfold Dp at h;cases res with
  | err n=>exact h
  | ok x xs=>
   simp only[] at h;cases hk:qh S x with
   | none=>rw[hk] at h;exact h.elim
   | some k=>
    rw[hk] at h;simp only[] at h;cases c1:(qE S ids x&&eY (qE S ids) xs) with
    | false=>rw[c1] at h;exact h.elim
    | true=>
    cases c2:eY (fun y:AV×AS=>Nat.beq y.2.next x.2.next) xs with
    | false=>rw[c1,c2] at h;exact h.elim
    | true=>
    cases c3:eY (keptAs S k) xs with
    | false=>rw[c1,c2,c3] at h;exact h.elim
    | true=>
    rw[c1,c2,c3] at h;have hp:=h.1;simp only[Bool.and_eq_true,fS,List.all_eq_true] at c1 c2 c3;have one:∀ (y:AV×AS) (k':AV×Option (Nat×bE)),qh S y=some k'→qE S ids y=true→y.2.next=x.2.next→k'=k→PostOk Λ ρ (oI S ids) w fW y:=by
     rintro y k' e1 e2 e3 rfl ρ' e w' j0 j1 j2;obtain ⟨ρ'',t1,t2,t3⟩:=keep_ok hR e1 (fun i hi=>stayed_get e2 hi) j0 j1 j2;rw[e3] at t2 t3;exact hp ρ'' e w' t1 t2 t3
    refine ⟨one x k hk c1.1 rfl rfl,fun y hy=>?_⟩;have h3:=c3 y hy;unfold keptAs at h3;cases hk':qh S y with
    | none=>rw[hk'] at h3;cases h3
    | some k'=>
     rw[hk'] at h3;refine one y k' hk' (c1.2 y hy) (by simpa[bf] using c2 y hy) ?_;unfold sameK2 at h3;rw[Bool.and_eq_true] at h3;obtain ⟨s1,s2⟩:=h3;obtain ⟨v,q⟩:=k;obtain ⟨v',q'⟩:=k';simp only at s1 s2;rw[lN _ _ _ s1];cases q with
     | none=>cases q' with
      | none=>rfl
      | some _=>cases s2
     | some a=>cases q' with
      | none=>cases s2
      | some b=>
       simp only[Bool.and_eq_true,bf,decide_eq_true_eq] at s2;obtain ⟨i,o⟩:=a;obtain ⟨j,o'⟩:=b;simp only at s2;rw[s2.1,CY s2.2]
theorem oK {P:Program} {cx:Cx} (az:cX Λ P cx) {n:Nat} (hc:ng Λ P cx n):ym Λ P (bq cx (exec cx n)):=by
 intro ρ t as S w args fW h hR hl;cases t with
 | fn f=>exact pureF_ok az hc h hR hl
 | round id=>exact roundF_ok hc h hR hl
theorem tg (a b:Code):cl (.seq a b)=(cl a&&cl b):=by
 show cond (cl a) (cl b) false=_;cases cl a<;>rfl
theorem plain_find:∀ (c:Code) (l:Nat) (rest:Code),cl c=true→findLabel c l=some rest→cl rest=true:=by
 intro c
 induction c with
 | seq a b Bo vy=>
  intro l rest hp h;rw[tg,Bool.and_eq_true] at hp;rw[findLabel] at h;cases ha:findLabel a l with
  | some r=>
   rw[ha] at h;cases h;rw[tg,Bo l r hp.1 ha,hp.2];rfl
  | none=>
   rw[ha] at h;exact vy l rest hp.2 h
 | label l'=>
  intro l rest _ h;rw[findLabel] at h;split at h
  ·cases h;rfl
  ·cases h
 | skip=>intro l rest _ h;rw[findLabel] at h<;>first|cases h|(intros;intro e;cases e)
 | ret=>intro l rest _ h;rw[findLabel] at h<;>first|cases h|(intros;intro e;cases e)
 | exit id=>intro l rest _ h;rw[findLabel] at h<;>first|cases h|(intros;intro e;cases e)
 | region id ops d=>intro l rest _ h;rw[findLabel] at h<;>first|cases h|(intros;intro e;cases e)
 | cond x a b _ _=>intro l rest _ h;rw[findLabel] at h<;>first|cases h|(intros;intro e;cases e)
 | block id b _=>intro l rest _ h;rw[findLabel] at h<;>first|cases h|(intros;intro e;cases e)
 | loop b _=>intro l rest _ h;rw[findLabel] at h<;>first|cases h|(intros;intro e;cases e)
 | rangeFunc f p x y _ _=>intro l rest _ h;rw[findLabel] at h<;>first|cases h|(intros;intro e;cases e)
 | scope b _=>intro l rest _ h;rw[findLabel] at h<;>first|cases h|(intros;intro e;cases e)
 | goto t=>intro l rest _ h;rw[findLabel] at h<;>first|cases h|(intros;intro e;cases e)
 | refuse s=>intro l rest _ h;rw[findLabel] at h<;>first|cases h|(intros;intro e;cases e)
section
variable {P:Program} {b:Frame} {a:Act} {k:List Item} {cs:List Frame} {w:World}
theorem CI {c:Code}:step P (lone (b.atR a (.code (.scope c) :: k)) cs w)=.next (lone (b.atR a (.code c :: .inScope c :: k)) cs w):=
 step_lone_go (by simp[stepG,stepG.exec,Frame.atR])
theorem yD {c:Code}:step P (lone (b.atR a (.inScope c :: k)) cs w)=.next (lone (b.atR a k) cs w):=
 step_lone_go (by simp[stepG,stepG.exec,Frame.atR])
end
def Ca (ro:Option Nat) (P:Program) (body:Code) (Q:Exit→Act→World→Prop) (c:Code) (a:Act) (w:World):Prop:=
 ∀ (b:Frame) (k:List Item) (cs:List Frame),b.roundOf=ro →
  ∃ e a' w',Q e a' w'∧ArrivesIn (Machine.fenced P (GF ro)) P (lone (b.atR a (.code c :: .inScope body :: k)) cs w) b k cs e a' w'
theorem wpIn_scope {ro:Option Nat} {P:Program} {body:Code} {Q:Exit→Act→World→Prop} {a:Act} {w:World} (h:Ca ro P body Q body a w):(Code.scope body).wpIn (GF ro) 0 P Q a w:=by
 intro b k cs hro hb hr;rw[GF_round] at hro;obtain ⟨e,a',w',hq,fV⟩:=h b k cs hro;exact ⟨e,a',w',hq,.of_steps (.one (fenced_calm hb hr rfl) CI) fV⟩
theorem scopeF_ok {P:Program} {cx:Cx} {n:Nat} (hc:ng Λ P cx n) {ro:Option Nat} {body:Code} (hp:ro=none∨cl body=true) {Q:Exit→Act→World→Prop} :
  ∀ (m:Nat) (c:Code) (ρ:aI) (F:Fr) (S:AS) (w:World) (a:Act),(ro=none∨cl c=true)→R Λ ρ S w→eh ρ F a →
  (jf (exec cx n) body m c F S).cY (iw Λ ρ S w Q)→Ca ro P body Q c a w:=by
 intro m
 induction m with
 | zero=>intro c ρ F S w a _ _ _ h;exact h.elim
 | succ m ih=>
  intro c ρ F S w a hpc hR hF h;have h':(aj.bind (exec cx n c F S) fun o=>match o.ex with
   | .goto l=>match findLabel body l with
    | some rest=>jf (exec cx n) body m rest o.F o.S
    | none=>.ok o []
   | _=>.ok o []).cY (iw Λ ρ S w Q):=h
  have key:=hc ro c (fun e a' w'=>match e with
   | .goto l=>match findLabel body l with
    | some rest=>Ca ro P body Q rest a' w'
    | none=>Q (.goto l) a' w'
   | e=>Q e a' w') ρ F S w a hpc hR hF ((aj.all_bind h').mono fun o ho ρ' e a' w' h0 h1 h2 h3=>by
    cases he:o.ex with
    | goto l=>
     rw[he] at ho h0;cases h0;simp only[] at ho ⊢;cases pz:findLabel body l with
     | none=>rw[pz] at ho;exact ho.1 ρ' (.goto l) a' w' (by rw[he];rfl) h1 h2 h3
     | some rest=>
      rw[pz] at ho;exact ih rest ρ' o.F o.S w' a' (hp.imp id fun hb=>plain_find body l rest hb pz) h1 h2 (ho.mono fun q hq=>hq.trans h3)
    | normal=>rw[he] at ho h0;cases h0;exact ho.1 ρ' .normal a' w' (by rw[he];rfl) h1 h2 h3
    | ret=>rw[he] at ho h0;cases h0;exact ho.1 ρ' .ret a' w' (by rw[he];rfl) h1 h2 h3
    | exit i=>rw[he] at ho h0;cases h0;exact ho.1 ρ' (.exit i) a' w' (by rw[he];rfl) h1 h2 h3
    | dN v=>rw[he] at ho h0;obtain ⟨x,rfl,hx⟩:=h0;exact ho.1 ρ' _ a' w' (by rw[he];exact ⟨x,rfl,hx⟩) h1 h2 h3)
  intro b k cs hro;obtain ⟨e,a₁,w₁,hq,fV⟩:=key b (.inScope body :: k) cs (by rw[GF_round];exact hro) (Av ro _) (GF_room ro _);cases e with
  | normal=>exact ⟨.normal,a₁,w₁,hq,StepsIn.trans fV (.one (fenced_calm (n:=0) (Av ro _) (GF_room ro _) rfl) yD)⟩
  | exit id=>exact ⟨.exit id,a₁,w₁,hq,fun k' hk=>fV.1 k' (by simp[exitTo,hk]),fun hr hk=>fV.2 hr (by simp[exitTo,hk])⟩
  | goto l=>
   simp only[] at hq;cases pz:findLabel body l with
   | some rest=>
    rw[pz] at hq;have hg:gotoIn l (.inScope body :: k)=some (.code rest :: .inScope body :: k):=by simp[gotoIn,pz]
    obtain ⟨e₂,a₂,w₂,hq₂,harr₂⟩:=hq b k cs hro;exact ⟨e₂,a₂,w₂,hq₂,.of_steps (fV.1 _ hg) harr₂⟩
   | none=>
    rw[pz] at hq;have hg:gotoIn l (.inScope body :: k)=gotoIn l k:=by simp[gotoIn,pz]
    exact ⟨.goto l,a₁,w₁,hq,fun k' hk=>fV.1 k' (by rw[hg];exact hk),fun hr hk=>fV.2 hr (by rw[hg];exact hk)⟩
  | ret=>exact ⟨_,a₁,w₁,hq,fV⟩
  | panic ch=>exact ⟨_,a₁,w₁,hq,fV⟩
  | outgrown=>exact ⟨_,a₁,w₁,hq,fV⟩
theorem rangeF_ok {P:Program} {cx:Cx} (az:cX Λ P cx) {n:Nat} (hc:ng Λ P cx n) {x:Operand} {ps:Array Tmp} {c d:Code} {Q:Exit→Act→World→Prop} {ρ:aI} {F:Fr} {S:AS} {w:World} {a:Act}
  (hR:R Λ ρ S w) (hF:eh ρ F a) (h:(jF cx (exec cx n) x ps c d F S).cY (iw Λ ρ S w Q)):(Code.rangeFunc x ps c d).wpIn (GF none) 0 P Q a w:=by
 unfold jF at h;cases lf:(cl c&&cl d) with
 | false=>rw[lf] at h;exact h.elim
 | true=>
 rw[lf] at h;rw[Bool.and_eq_true] at lf;simp only[cond_true] at h;split at h
 ·rename_i g first captured he
  have hf:=hF.eval x;rw[he] at hf;simp only[ah] at hf;obtain ⟨p,q,e,hp,hq⟩:=hf;have g1:iT (.deferred (some [])) w (w.alloc (.deferred (some []))):=⟨⟨rfl,rfl,rfl⟩,rfl⟩
  obtain ⟨ρ1,pl1,a1,a2,a3,a4,a5⟩:=hR.Be (x:=.sq true) g1 rfl;refine wpIn_rangeFunc (F:=GF none) fun fn _=>?_;have g2:iT (.loop { state:=.ready,pending:=none,fn:=fn,tmps:=a.tmps,params:=ps,assign:=c,body:=d,defers:=w.heap.size }) (w.alloc (.deferred (some [])))
   ((w.alloc (.deferred (some []))).alloc (.loop { state:=.ready,pending:=none,fn:=fn,tmps:=a.tmps,params:=ps,assign:=c,body:=d,defers:=w.heap.size })):=⟨⟨rfl,rfl,rfl⟩,rfl⟩
  obtain ⟨ρ2,pl2,b1,b2,b3,b4,b5⟩:=a4.Be (x:=.loop .ready none F ps c d) g2 ⟨fn,a.tmps,w.heap.size,rfl,⟨fun t=>(hF.slot t).mono a5.ext _ _,hF.size⟩,lf.1,lf.2⟩;have hk:=a5.trans b5;have gp:(w.alloc (.deferred (some []))).heap.size=w.heap.size+1:=g1.size;have hb2:pl2.b=w.heap.size+1:=by rw[b2,gp]
  have hK:=oK az hc;have dh:au ρ2 (fh first (.obj .yld (Nat.succ S.next) :: captured)) (p ++ #[Value.func (.yield pl2.b) #[] #[]]++q).toList:=by
   rw[bw];simp only[Array.toList_append,List.append_assoc];exact (hp.mono hk.ext).append (au.cons (by simp only[ah];exact ⟨pl2,b1,rfl⟩) (hq.mono hk.ext))
  have hh:=hK ρ2 (.fn g) _ _ _ (p ++ #[Value.func (.yield pl2.b) #[] #[]]++q) (rangePost (GF none) 0 P pl2.b Q { a with defers:=[{ target:=.collected w.heap.size,args:=#[] }]++a.defers }) ((aj.all_bind h).mono fun r hr ρ' e' w' r0 r1 r2=>?_) b4 dh
  ·obtain ⟨⟨gn,hgn,hgb⟩,xC⟩:=hh;refine ⟨pl2.b,_,_,⟨.fn (.func g) q,p ++ #[Value.func (.yield pl2.b) #[] #[]]⟩,_,g,_,_,(by rw[hb2];exact run_enterLoop_outer fn a.tmps ps c d),?_,fun _ _=>trivial,az.enters g gn hgn hgb _ _,fun hd=>yn none hd,xV (ro:=none) xC⟩;simp only[resolve,e,Deferred.ofValue,List.map_toArray,List.map_cons,List.map_nil];rfl
  ·-- behind the call
   have hF2:eh ρ' ⟨F.t,F.n,.mark S.next :: F.ds⟩ { a with defers:=[{ target:=.collected w.heap.size,args:=#[] }]++a.defers }:=
    ⟨fun t=>(hF.slot t).mono (hk.trans r2).ext _ _,hF.size,_,a.defers,rfl,⟨pl1,(b5.trans r2).ext _ _ _ a1,by rw[a2]⟩,hF.defers.mono (hk.trans r2).ext⟩
   have fk:(lQ (exec cx n) (Nat.succ S.next) ⟨F.t,F.n,.mark S.next :: F.ds⟩ r).cY (iw Λ ρ S w Q):=hr;unfold lQ at fk;rcases r0.cases with ⟨hnp,v,rfl,hv⟩|⟨u,v,hu,rfl,hv⟩
   ·rw[wO hnp] at fk;have pQ:=r2.ext _ _ _ b1;split at fk
    ·exact fk.elim
    ·rename_i st j F' Ce x' y' hnb ho;obtain ⟨fn',tmps',d',f1,_⟩:=rR r1 pQ ho;obtain ⟨t1,t2⟩:=r1.AM (st':=.exhausted) (j':=j) pQ ho f1;have hkk:=(hk.trans r2).trans t2;refine ⟨j,_,run_endLoop f1 (by
      show st≠.busy;intro est;subst est;exact hnb rfl),?_⟩
     cases j with
     | none=>exact fk.1 ρ' .normal _ _ rfl t1 hF2 hkk
     | some cj=>exact hc none cj Q ρ' _ _ _ _ (.inl rfl) t1 hF2 (fk.mono fun o hq=>hq.trans hkk)
    ·exact fk.elim
   ·rw[hu,wN] at fk;exact fk.1 ρ' _ _ w' ⟨v,rfl,hv⟩ r1 hF2 (hk.trans r2)
 ·exact h.elim
theorem BG {P:Program} {cx:Cx} (az:cX Λ P cx) (hd:DrawnOk Λ P cx):∀ n,ng Λ P cx n∧LoopOk Λ P cx n:=by
 intro n
 induction n with
 | zero=>exact ⟨fun ro c Q ρ F S w a _ _ _ h=>h.elim,fun ro c Q ρ F S w a _ _ _ h=>h.elim⟩
 | succ n ih=>
  obtain ⟨ic,il⟩:=ih;have hK:=oK az ic;have loop:LoopOk Λ P cx (n+1):=by
   intro ro b Q ρ F S w a hp hR hF h;rw[roundsIn_succ];have h':(aj.bind (exec cx n b F S) fun o=>match o.ex with
    | .normal=>exec cx n (.loop b) o.F o.S
    | _=>.ok o []).cY (iw Λ ρ S w Q):=h
   refine ic ro b _ ρ F S w a hp hR hF ((aj.all_bind h').mono fun o ho ρ' e a' w' h0 h1 h2 h3=>?_);cases he:o.ex with
   | normal=>
    rw[he] at ho h0;cases h0;exact il ro b Q ρ' o.F o.S w' a' hp h1 h2 (ho.mono fun q hq=>hq.trans h3)
   | exit i=>rw[he] at ho h0;cases h0;exact ho.1 ρ' (.exit i) a' w' (by rw[he];rfl) h1 h2 h3
   | ret=>rw[he] at ho h0;cases h0;exact ho.1 ρ' .ret a' w' (by rw[he];rfl) h1 h2 h3
   | goto l=>rw[he] at ho h0;cases h0;exact ho.1 ρ' (.goto l) a' w' (by rw[he];rfl) h1 h2 h3
   | dN v=>rw[he] at ho h0;obtain ⟨x,rfl,hx⟩:=h0;exact ho.1 ρ' _ a' w' (by rw[he];exact ⟨x,rfl,hx⟩) h1 h2 h3
  refine ⟨?_,loop⟩;intro ro c Q ρ F S w a hp hR hF h;cases c with
  | skip=>exact wpIn_skip (h.1 ρ .normal a w rfl hR hF (Kp.refl _ _ _))
  | ret=>exact wpIn_ret (h.1 ρ .ret a w rfl hR hF (Kp.refl _ _ _))
  | exit id=>exact wpIn_exit (h.1 ρ (.exit id) a w rfl hR hF (Kp.refl _ _ _))
  | region id ops draw=>
   cases draw with
   | false=>
    refine wpIn_region ?_;have h':(aj.bind (bA cx (bq cx (exec cx n)) ops.toList ops.toList F S) fun r=>match r.1 with
     | none=>(.ok ⟨.normal,r.2.1,r.2.2⟩ []:aj Out)
     | some v=>.ok ⟨.dN v,r.2.1,r.2.2⟩ []).cY (iw Λ ρ S w Q):=h
    have:=runOps_wp (ro:=ro) az hK (ops:=ops) hp (Q:=Q) ops.toList 0 ρ F S w a rfl hR hF ((aj.all_bind h').mono fun r hr ρ' e a' w' h0 h1 h2 h3=>by
     obtain ⟨pv,F',S'⟩:=r;cases pv with
     | none=>exact hr.1 ρ' e a' w' h0 h1 h2 h3
     | some v=>exact hr.1 ρ' e a' w' h0 h1 h2 h3)
    rw[List.range_eq_range'];simpa using this
   | true=>
    have h':(aj.bind (cC cx (bq cx (exec cx n)) ops.toList F S) fun r=>match r.1 with
     | none=>(.ok ⟨.normal,r.2.1,r.2.2⟩ []:aj Out)
     | some v=>.ok ⟨.dN v,r.2.1,r.2.2⟩ []).cY (iw Λ ρ S w Q):=h
    exact hd ro _ hK ops id Q ρ F S w a hR hF ((aj.all_bind h').mono fun r hr ρ' e a' w' h0 h1 h2 h3=>by
     obtain ⟨pv,F',S'⟩:=r;cases pv with
     | none=>exact hr.1 ρ' e a' w' h0 h1 h2 h3
     | some v=>exact hr.1 ρ' e a' w' h0 h1 h2 h3)
  | seq x y=>
   have pQ:(ro=none∨cl x=true)∧(ro=none∨cl y=true):=by
    rcases hp with hp|hp
    ·exact ⟨.inl hp,.inl hp⟩
    ·rw[tg,Bool.and_eq_true] at hp;exact ⟨.inr hp.1,.inr hp.2⟩
   have h':(aj.bind (exec cx n x F S) fun o=>match o.ex with
    | .normal=>exec cx n y o.F o.S
    | _=>.ok o []).cY (iw Λ ρ S w Q):=h
   refine wpIn_seq (ic ro x _ ρ F S w a pQ.1 hR hF ((aj.all_bind h').mono fun o ho ρ' e a' w' h0 h1 h2 h3=>?_));cases he:o.ex with
   | normal=>
    rw[he] at ho h0;cases h0;exact ic ro y Q ρ' o.F o.S w' a' pQ.2 h1 h2 (ho.mono fun q hq=>hq.trans h3)
   | exit i=>rw[he] at ho h0;cases h0;exact ho.1 ρ' (.exit i) a' w' (by rw[he];rfl) h1 h2 h3
   | ret=>rw[he] at ho h0;cases h0;exact ho.1 ρ' .ret a' w' (by rw[he];rfl) h1 h2 h3
   | goto l=>rw[he] at ho h0;cases h0;exact ho.1 ρ' (.goto l) a' w' (by rw[he];rfl) h1 h2 h3
   | dN v=>rw[he] at ho h0;obtain ⟨z,rfl,hx⟩:=h0;exact ho.1 ρ' _ a' w' (by rw[he];exact ⟨z,rfl,hx⟩) h1 h2 h3
  | cond x y z=>
   have pQ:(ro=none∨cl y=true)∧(ro=none∨cl z=true):=by
    rcases hp with hp|hp
    ·exact ⟨.inl hp,.inl hp⟩
    ·have gK:cond (cl y) (cl z) false=true:=hp;cases hy:cl y with
     | false=>rw[hy] at gK;cases gK
     | true=>rw[hy] at gK;exact ⟨.inr rfl,.inr gK⟩
   have h':(match eval F x with
    | .bool true=>exec cx n y F S
    | .bool false=>exec cx n z F S
    | _=>.err 3001).cY (iw Λ ρ S w Q):=h
   have hx:=hF.eval x;split at h'
   ·rename_i he;rw[he] at hx;exact wpIn_cond_true (by simpa[ah] using hx) (ic ro y Q ρ F S w a pQ.1 hR hF h')
   ·rename_i he;rw[he] at hx;exact wpIn_cond_false (by simpa[ah] using hx) (ic ro z Q ρ F S w a pQ.2 hR hF h')
   ·exact h'.elim
  | block id b=>
   have h':(aj.bind (exec cx n b F S) fun o=>match o.ex with
    | .exit j=>cond (Nat.beq j id) (.ok ⟨.normal,o.F,o.S⟩ []) (.ok o [])
    | _=>.ok o []).cY (iw Λ ρ S w Q):=h
   refine wpIn_block (ic ro b _ ρ F S w a hp hR hF ((aj.all_bind h').mono fun o ho ρ' e a' w' h0 h1 h2 h3=>?_));cases he:o.ex with
   | normal=>rw[he] at ho h0;cases h0;exact ho.1 ρ' .normal a' w' (by rw[he];rfl) h1 h2 h3
   | ret=>rw[he] at ho h0;cases h0;exact ho.1 ρ' .ret a' w' (by rw[he];rfl) h1 h2 h3
   | goto l=>rw[he] at ho h0;cases h0;exact ho.1 ρ' (.goto l) a' w' (by rw[he];rfl) h1 h2 h3
   | dN v=>rw[he] at ho h0;obtain ⟨z,rfl,hx⟩:=h0;exact ho.1 ρ' _ a' w' (by rw[he];exact ⟨z,rfl,hx⟩) h1 h2 h3
   | exit j=>
    rw[he] at ho h0;cases h0;simp only[bf] at ho;show Exit.inBlock id Q (.exit j) a' w';by_cases hj:j=id
    ·rw[decide_eq_true hj] at ho;simp only[Exit.inBlock,if_pos hj];exact ho.1 ρ' .normal a' w' rfl h1 h2 h3
    ·rw[decide_eq_false hj] at ho;simp only[Exit.inBlock,if_neg hj];exact ho.1 ρ' (.exit j) a' w' (by rw[he];rfl) h1 h2 h3
  | loop b=>exact wpIn_loop_rounds (n+1) (loop ro b Q ρ F S w a hp hR hF h)
  | rangeFunc f p x y=>
   rcases hp with rfl|hp
   ·exact rangeF_ok az ic hR hF h
   ·cases hp
  | scope b=>exact wpIn_scope (scopeF_ok (body:=b) ic hp n b ρ F S w a hp hR hF h)
  | label l=>exact wpIn_label (h.1 ρ .normal a w rfl hR hF (Kp.refl _ _ _))
  | goto l=>exact wpIn_goto (h.1 ρ (.goto l) a w rfl hR hF (Kp.refl _ _ _))
  | refuse s=>exact (h:False).elim
end Go.Am
