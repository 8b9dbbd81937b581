/-
  The abstract machine against the model: deferred calls, recover.
-/
import Derived.Test.YthklfandhmkpiaaGreatDoorAmWp
open List renaming range'->zza
namespace Go.Am
open Go
variable{Λ:LB}
def iD(ρ:bf):Md->FrameMode->Prop
 | .ret,u=>u=.returning
 | .eQ v,u=>∃x,u=.panicking [{v:=x,recovered:=false}]/\aq ρ v x
 | .got v,u=>∃x,u=.panicking [{v:=x,recovered:=true}]/\aq ρ v x
theorem iD.mono{ρ ρ':bf}(h:Ext ρ ρ'){m:Md}{u:FrameMode}(r:iD ρ m u):iD ρ' m u:=by
 cases m with
 |ret=>exact r
 |eQ v=>obtain⟨x,e,k⟩:=r;exact⟨x,e,k.mono h _ _⟩
 |got v=>obtain⟨x,e,k⟩:=r;exact⟨x,e,k.mono h _ _⟩
theorem BV{F:Fence}{n:Nat}{P:Program}{Q:Exit->Act->List Frame->World->Prop}{a:Act}{cs:List Frame}{w:World}{id:Nat}{c:Code}
  (h:c.wpSIn F n P (fun e a' cs' w'=>match e with | .exit j=>if j=id then Q .normal a' cs' w' else Q (.exit j) a' cs' w'|e=>Q e a' cs' w') a cs w):(Code.block id c).wpSIn F n P Q a cs w:=by
 intro b k hb hr hF vD;have i0:(lone (b.atR a (.code (.block id c)::k)) cs w).fenced P F:=fenced_calm hF vD rfl;obtain⟨e,a₁,cs₁,w₁,hl,hq,fG⟩:=h b (.inBlock id::k) hb hr hF vD;have hroom':F.room (cs₁.length+1+n):=hl▸vD;cases e with
 |normal=>exact⟨.normal,a₁,cs₁,w₁,hl,hq,.head i0 stepR_block (StepsIn.trans fG (.one (fenced_calm hF hroom' rfl) stepR_inBlock))⟩
 |exit vA=>
  by_cases cw:vA=id
  .simp only[cw,if_true]at hq;exact⟨.normal,a₁,cs₁,w₁,hl,hq,.head i0 stepR_block (fG.1 k (by simp[exitTo,cw]))⟩
  .simp only[cw,if_false]at hq;have this:(id==vA)=false:=by simp;exact fun h=>cw h.symm
   have hx:exitTo vA (.inBlock id::k)=exitTo vA k:=by simp[exitTo,this]
   exact⟨.exit vA,a₁,cs₁,w₁,hl,hq,fun k' hk=>.head i0 stepR_block (fG.1 k' (by rw[hx];exact hk)),
    fun ij hk=>let ⟨k₁,h1,h2⟩:=fG.2 ij (by rw[hx];exact hk);⟨k₁,h1,.head i0 stepR_block h2⟩⟩
 |goto l=>
  have hx:gotoIn l (.inBlock id::k)=gotoIn l k:=by simp[gotoIn]
  exact⟨_,a₁,cs₁,w₁,hl,hq,fun k' hk=>.head i0 stepR_block (fG.1 k' (by rw[hx];exact hk)),
   fun ij hk=>let ⟨k₁,h1,h2⟩:=fG.2 ij (by rw[hx];exact hk);⟨k₁,h1,.head i0 stepR_block h2⟩⟩
 |ret=>exact⟨_,a₁,cs₁,w₁,hl,hq,.of_steps (.one i0 stepR_block) fG⟩
 |panic ch=>exact⟨_,a₁,cs₁,w₁,hl,hq,.of_steps (.one i0 stepR_block) fG⟩
 |outgrown=>exact⟨_,a₁,cs₁,w₁,hl,hq,.of_steps (.one i0 stepR_block) fG⟩
theorem wO{F:Fence}{n:Nat}{P:Program}{ops:Array Oper}{Q:Exit->Act->List Frame->World->Prop}{i:Nat}{rest:List Nat}{a:Act}{cs:List Frame}{w:World}{o:Oper}(ho:ops[i]?=some o):
  wpOpsSIn F n P ops Q (i::rest) a cs w=((∀f,o.about P w a.eval=some f->F.fn f) /\
   if Region.wanted o (yielded ops a.tmps) then
    match (execOp a.eval o).run P w with
    | .ok .recover w'=>
     match recoverD cs with
     |some (v,cs')=>wpOpsSIn F n P ops Q rest (a.put o.dst v) cs' w'
     |none=>wpOpsSIn F n P ops Q rest (a.put o.dst .nilIface) cs w'
    | .ok (.value v) w'=>wpOpsSIn F n P ops Q rest (a.put o.dst v) cs w'
    | .ok .skip w'=>wpOpsSIn F n P ops Q rest (a.put o.dst undef) cs w'
    | .halt (.panic v) w'=>Q (.panic [{v,recovered:=false}]) a cs w'
    |_=>False
   else wpOpsSIn F n P ops Q rest (a.put o.dst undef) cs w):=by
 simp only[wpOpsSIn,ho];rfl
def nG(Λ:LB)(ρ:bf)(S:AS)(w:World)(c₀:Frame)(cs:List Frame)(Q:Exit->Act->List Frame->World->Prop)(o:EJ):Prop:=
 ∀ρ' e a' u w',ExTo ρ' o.ex e->iD ρ' o.m u->R Λ ρ' o.S w'->eA ρ' o.F a'->Kp ρ S w ρ' o.S w'->Q e a' ({c₀ with mode:=u}::cs) w'
theorem nG.trans{ρ ρ':bf}{S S':AS}{w w':World}{c₀:Frame}{cs:List Frame}{Q:Exit->Act->List Frame->World->Prop}{o:EJ}(hk:Kp ρ S w ρ' S' w')(h:nG Λ ρ S w c₀ cs Q o):nG Λ ρ' S' w' c₀ cs Q o:=
 fun ρ'' e a u ux h0 hm h1 h2 h3=>h ρ'' e a u ux h0 hm h1 h2 (hk.trans h3)
theorem recV_rel{ρ:bf}{m:Md}{u:FrameMode}(h:iD ρ m u)(c₀:Frame)(cs:List Frame):
  (∃x u',recoverD ({c₀ with mode:=u}::cs)=some (x,{c₀ with mode:=u'}::cs)/\aq ρ (uX m).1 x/\iD ρ (uX m).2 u') \/
  (recoverD ({c₀ with mode:=u}::cs)=none/\(uX m).1=.bS/\(uX m).2=m):=by
 cases m with
 |ret=>simp only[iD]at h;subst h;exact .inr ⟨rfl,rfl,rfl⟩
 |eQ v=>
  obtain⟨x,rfl,hx⟩:=h;exact .inl ⟨x,.panicking [{v:=x,recovered:=true}],rfl,hx,x,rfl,hx⟩
 |got v=>
  obtain⟨x,rfl,hx⟩:=h;exact .inr ⟨rfl,rfl,rfl⟩
theorem FC{P:Program}{cx:Cx}(aI:cU Λ P cx){ops:Array Oper}{c₀:Frame}{cs:List Frame}{Q:Exit->Act->List Frame->World->Prop}:
  ∀(l:List Oper)(i:Nat)(ρ:bf)(F:Fr)(S:AS)(m:Md)(u:FrameMode)(w:World)(a:Act),ops.toList.drop i=l->R Λ ρ S w->eA ρ F a->iD ρ m u ->
  (iR cx noK ops.toList l F S m).iQ (nG Λ ρ S w c₀ cs Q) ->
  wpOpsSIn Fence.wide 0 P ops Q (zza i l.length) a ({c₀ with mode:=u}::cs) w:=by
 intro l
 induction l with
 |nil=>intro i ρ F S m u w a _ hR hF hm h;exact h.1 ρ _ a u w rfl hm hR hF (Kp.refl _ _ _)
 |cons o l ih=>
  intro i ρ F S m u w a hd hR hF hm h;have hio:ops[i]?=some o:=by
   rw[<-Array.getElem?_toList];have:(ops.toList.drop i)[0]?=some o:=by rw[hd];rfl
   rwa [List.getElem?_drop,Nat.add_zero]at this
  have hdl:ops.toList.drop (i+1)=l:=by
   rw[<-List.drop_drop,hd];rfl
  rw[List.length_cons,List.range'_succ,wO hio];refine⟨fun f _=>trivial,?_⟩;have hun:iR cx noK ops.toList (o::l) F S m=(match dW o with
   |some _=>.err 1011
   |none=>cond (dq o)
    (match wanted ops.toList F o with
    |some true=>iR cx noK ops.toList l (bw F o.dst (uX m).1) S (uX m).2
    |some false=>iR cx noK ops.toList l (bw F o.dst .undef) S m
    |none=>.err 1012)
    (aC.bind (one cx noK ops.toList o F S) fun r=>cond r.1 (.ok ⟨.eQ r.2.1,F,r.2.2,m⟩ []) (iR cx noK ops.toList l (bw F o.dst r.2.1) r.2.2 m))):=rfl
  rw[hun]at h;cases hdf:dW o with
  |some c=>rw[hdf]at h;exact h.elim
  |none=>
   rw[hdf]at h;simp only[]at h;cases hrec:dq o with
   |true=>
    rw[hrec]at h;simp only[cond_true]at h;cases hw:wanted ops.toList F o with
    |none=>rw[hw]at h;exact h.elim
    |some b=>
     rw[hw]at h;rw[lO hF hw];cases b with
     |false=>
      simp only[Bool.false_eq_true,if_false];exact ih (i+1) ρ _ _ m u w _ hdl hR (hF.put o.dst (eE ρ)) hm h
     |true=>
      simp only[if_true];have py:(execOp a.eval o).run P w=.ok .recover w:=by
       unfold dq at hrec;split at hrec
       .rename_i xs lG nN;unfold execOp;rw[nN];rfl
       .cases hrec
      rw[py];simp only[]at h⊢;rcases recV_rel hm c₀ cs with⟨x,u',e1,e2,e3⟩|⟨e1,e2,e3⟩
      .rw[e1];exact ih (i+1) ρ _ _ _ u' w _ hdl hR (hF.put o.dst e2) e3 h
      .rw[e1];rw[e2,e3]at h;exact ih (i+1) ρ _ _ m u w _ hdl hR (hF.put o.dst (by simp[aq])) hm h
   |false=>
    rw[hrec]at h;simp only[cond_false]at h;have h1:=aC.all_bind h;unfold one at h1;cases hw:wanted ops.toList F o with
    |none=>rw[hw]at h1;exact h1.elim
    |some b=>
     rw[hw]at h1;rw[lO hF hw];cases b with
     |false=>
      simp only[Bool.false_eq_true,if_false];exact ih (i+1) ρ _ _ m u w _ hdl hR (hF.put o.dst (eE ρ)) hm h1.1
     |true=>
      simp only[if_true]at h1⊢;have val:∀(v:AV)(S':AS),cB Λ P ρ S w (execOp a.eval o) v S'->(iR cx noK ops.toList l (bw F o.dst v) S' m).iQ (nG Λ ρ S w c₀ cs Q) ->
        (match (execOp a.eval o).run P w with
        | .ok .recover w'=>
         match recoverD ({c₀ with mode:=u}::cs)with
         |some (v,cs')=>wpOpsSIn Fence.wide 0 P ops Q (zza (i+1) l.length) (a.put o.dst v) cs' w'
         |none=>wpOpsSIn Fence.wide 0 P ops Q (zza (i+1) l.length) (a.put o.dst .nilIface) ({c₀ with mode:=u}::cs) w'
        | .ok (.value v) w'=>wpOpsSIn Fence.wide 0 P ops Q (zza (i+1) l.length) (a.put o.dst v) ({c₀ with mode:=u}::cs) w'
        | .ok .skip w'=>wpOpsSIn Fence.wide 0 P ops Q (zza (i+1) l.length) (a.put o.dst undef) ({c₀ with mode:=u}::cs) w'
        | .halt (.panic v) w'=>Q (.panic [{v,recovered:=false}]) a ({c₀ with mode:=u}::cs) w'
        |_=>False):=by
       rintro v S' ⟨nx,x,ρ',w',r1,r2,r3,r4,r5⟩ h2;rw[r1];have go:∀z,z=x->wpOpsSIn Fence.wide 0 P ops Q (zza (i+1) l.length) (a.put o.dst z) ({c₀ with mode:=u}::cs) w':=by
        rintro z rfl;exact ih (i+1) ρ' _ _ m u w' _ hdl r4 ((hF.mono r5.ext).put o.dst r3) (hm.mono r5.ext) (h2.mono fun q hq=>hq.trans r5)
       cases nx<;>simp only[Ax,Option.some.injEq,reduceCtorEq]at r2
       .exact go _ r2
       .exact go _ r2
      cases nN:bE cx F S o with
      |err n=>rw[nN]at h1;exact h1.elim
      |val v S'=>
       rw[nN]at h1;exact val v S' (zE aI hR hF nN) h1.1
      |enter f as S'=>rw[nN]at h1;exact h1.elim
      |round id as S'=>rw[nN]at h1;exact h1.elim
      |eQ v S'=>
       rw[nN]at h1;obtain⟨rfl,_,x,r1,r2⟩:=aop_pan (P:=P) (w:=w) hF nN;rw[r1];exact h1.1.1 ρ _ a u w ⟨x,rfl,r2⟩ hm hR hF (Kp.refl _ _ _)
      |many lm=>
       rw[nN]at h1;cases lm with
       |nil=>exact h1.elim
       |cons y ys=>
        obtain⟨r,hr,hs⟩:=EA (P:=P) hR hF nN (by simp);refine val r.1 r.2 hs ?_;cases hr with
        |head=>exact h1.1
        |tail _ hr=>exact h1.2 (valR r) (List.mem_map.2 ⟨r,hr,rfl⟩)
theorem execS_ok{P:Program}{cx:Cx}(aI:cU Λ P cx){n:Nat}(hc:nA Λ P cx n){c₀:Frame}{cs:List Frame}:
  ∀(c:Code)(Q:Exit->Act->List Frame->World->Prop)(ρ:bf)(F:Fr)(S:AS)(m:Md)(u:FrameMode)(w:World)(a:Act),R Λ ρ S w->eA ρ F a->iD ρ m u ->
  (ir cx (exec cx n) c F S m).iQ (nG Λ ρ S w c₀ cs Q)->c.wpSIn Fence.wide 0 P Q a ({c₀ with mode:=u}::cs) w:=by
 have base:∀(c:Code)(Q:Exit->Act->List Frame->World->Prop)(ρ:bf)(F:Fr)(S:AS)(m:Md)(u:FrameMode)(w:World)(a:Act),R Λ ρ S w->eA ρ F a->iD ρ m u ->
   (aC.bind (exec cx n c F S) fun o=>.ok (o.at m) []).iQ (nG Λ ρ S w c₀ cs Q)->c.wpSIn Fence.wide 0 P Q a ({c₀ with mode:=u}::cs) w:=by
  intro c Q ρ F S m u w a hR hF hm h;refine wpSIn_of_wpIn rfl (hc none c _ ρ F S w a (.inl rfl) hR hF ((aC.all_bind h).mono fun o ho ρ' e a' w' h0 h1 h2 h3=>?_));exact ho.1 ρ' e a' u w' h0 (hm.mono h3.ext) h1 h2 h3
 intro c
 induction c with
 |skip=>intro Q ρ F S m u w a hR hF hm h;exact wpSIn_of_wpIn rfl (wpIn_skip (h.1 ρ _ a u w rfl hm hR hF (Kp.refl _ _ _)))
 |ret=>intro Q ρ F S m u w a hR hF hm h;exact wpSIn_of_wpIn rfl (wpIn_ret (h.1 ρ _ a u w rfl hm hR hF (Kp.refl _ _ _)))
 |exit id=>intro Q ρ F S m u w a hR hF hm h;exact wpSIn_of_wpIn rfl (wpIn_exit (h.1 ρ _ a u w rfl hm hR hF (Kp.refl _ _ _)))
 |region id ops draw=>
  intro Q ρ F S m u w a hR hF hm h;have h':(cond (ops.toList.any dq) (cond draw (.err 2200) (iR cx noK ops.toList ops.toList F S m)) (aC.bind (exec cx n (.region id ops draw) F S) fun o=>.ok (o.at m) [])).iQ (nG Λ ρ S w c₀ cs Q):=h;cases hr:ops.toList.any dq with
  |false=>rw[hr]at h';exact base _ Q ρ F S m u w a hR hF hm h'
  |true=>
   rw[hr]at h';cases draw with
   |true=>exact h'.elim
   |false=>
    refine wpSIn_region ?_;have:=FC aI (c₀:=c₀) (cs:=cs) (Q:=Q) ops.toList 0 ρ F S m u w a rfl hR hF hm h';rw[List.range_eq_range'];simpa using this
 |seq x y ihx ihy=>
  intro Q ρ F S m u w a hR hF hm h;have h':(aC.bind (ir cx (exec cx n) x F S m) fun o=>match o.ex with
   | .normal=>ir cx (exec cx n) y o.F o.S o.m
   |_=>.ok o []).iQ (nG Λ ρ S w c₀ cs Q):=h
  refine wpSIn_seq (ihx _ ρ F S m u w a hR hF hm ((aC.all_bind h').mono fun o ho ρ' e a' u' w' h0 gf h1 h2 h3=>?_));cases he:o.ex with
  |normal=>
   rw[he]at ho h0;cases h0;exact ihy Q ρ' o.F o.S o.m u' w' a' h1 h2 gf (ho.mono fun q hq=>hq.trans h3)
  |exit id=>rw[he]at ho;have:=ho.1 ρ' e a' u' w' (by rw[he]at h0⊢;exact h0) gf h1 h2 h3;rw[he]at h0;cases h0;exact this
  |ret=>rw[he]at ho;have:=ho.1 ρ' e a' u' w' (by rw[he]at h0⊢;exact h0) gf h1 h2 h3;rw[he]at h0;cases h0;exact this
  |goto l=>rw[he]at ho;have:=ho.1 ρ' e a' u' w' (by rw[he]at h0⊢;exact h0) gf h1 h2 h3;rw[he]at h0;cases h0;exact this
  |eQ v=>rw[he]at ho;have:=ho.1 ρ' e a' u' w' (by rw[he]at h0⊢;exact h0) gf h1 h2 h3;rw[he]at h0;obtain⟨x,rfl,_⟩:=h0;exact this
 |cond x y z ihy ihz=>
  intro Q ρ F S m u w a hR hF hm h;have h':(match eval F x with
   | .bool true=>ir cx (exec cx n) y F S m
   | .bool false=>ir cx (exec cx n) z F S m
   |_=>.err 2201).iQ (nG Λ ρ S w c₀ cs Q):=h
  have hx:=hF.eval x;split at h'
  .rename_i he;rw[he]at hx;exact wpSIn_cond (t:=true) (by simpa[aq]using hx) (ihy Q ρ F S m u w a hR hF hm h')
  .rename_i he;rw[he]at hx;exact wpSIn_cond (t:=false) (by simpa[aq]using hx) (ihz Q ρ F S m u w a hR hF hm h')
  .exact h'.elim
 |block id b Dl=>
  intro Q ρ F S m u w a hR hF hm h;have h':(aC.bind (ir cx (exec cx n) b F S m) fun o=>match o.ex with
   | .exit j=>cond (Nat.beq j id) (.ok ⟨.normal,o.F,o.S,o.m⟩ []) (.ok o [])
   |_=>.ok o []).iQ (nG Λ ρ S w c₀ cs Q):=h
  refine BV (Dl _ ρ F S m u w a hR hF hm ((aC.all_bind h').mono fun o ho ρ' e a' u' w' h0 gf h1 h2 h3=>?_));cases he:o.ex with
  |normal=>rw[he]at ho;have:=ho.1 ρ' e a' u' w' (by rw[he]at h0⊢;exact h0) gf h1 h2 h3;rw[he]at h0;cases h0;exact this
  |ret=>rw[he]at ho;have:=ho.1 ρ' e a' u' w' (by rw[he]at h0⊢;exact h0) gf h1 h2 h3;rw[he]at h0;cases h0;exact this
  |goto l=>rw[he]at ho;have:=ho.1 ρ' e a' u' w' (by rw[he]at h0⊢;exact h0) gf h1 h2 h3;rw[he]at h0;cases h0;exact this
  |eQ v=>rw[he]at ho;have:=ho.1 ρ' e a' u' w' (by rw[he]at h0⊢;exact h0) gf h1 h2 h3;rw[he]at h0;obtain⟨x,rfl,_⟩:=h0;exact this
  |exit j=>
   rw[he]at ho;simp only[bC]at ho;have h0':=h0;rw[he]at h0';cases h0';show if j=id then _ else _
   by_cases hj:j=id
   .rw[decide_eq_true hj]at ho;rw[if_pos hj];exact ho.1 ρ' .normal a' u' w' rfl gf h1 h2 h3
   .rw[decide_eq_false hj]at ho;rw[if_neg hj];exact ho.1 ρ' (.exit j) a' u' w' h0 gf h1 h2 h3
 |loop b _=>
  intro Q ρ F S m u w a hR hF hm h;have h':(cond (sD b) (.err 2202) (aC.bind (exec cx n (.loop b) F S) fun o=>.ok (o.at m) [])).iQ (nG Λ ρ S w c₀ cs Q):=h;cases hr:sD b with
  |true=>rw[hr]at h';exact h'.elim
  |false=>rw[hr]at h';exact base _ Q ρ F S m u w a hR hF hm h'
 |rangeFunc f p x y _ _=>intro Q ρ F S m u w a hR hF hm h;exact (h:False).elim
 |scope b _=>intro Q ρ F S m u w a hR hF hm h;exact (h:False).elim
 |label l=>intro Q ρ F S m u w a hR hF hm h;exact (h:False).elim
 |goto l=>intro Q ρ F S m u w a hR hF hm h;exact (h:False).elim
 |refuse s=>intro Q ρ F S m u w a hR hF hm h;exact (h:False).elim
theorem sk{P:Program}{cx:Cx}(aI:cU Λ P cx){n:Nat}(hc:nA Λ P cx n){fn:Func}{F:Fr}{tmps:Array Value}{fS:Ending->World->Prop}:
  ∀(ds:List wJ)(l:List Deferred)(ρ:bf)(S:AS)(m:Md)(u:FrameMode)(w:World),R Λ ρ S w->wG ρ F tmps->tH ρ ds l->iD ρ m u ->
  (gL cx (exec cx n) fn F ds m S).iQ (fun r=>∀ρ' e w',hJ ρ' r.1 e->R Λ ρ' r.2 w'->Kp ρ S w ρ' r.2 w'->fS e w')->LeavesInM Fence.wide 0 P fn tmps fS l u w:=by
 intro ds
 induction ds with
 |nil=>
  intro l ρ S m u w hR hF hds hm h;simp only[tH]at hds;subst hds;cases m with
  |ret=>
   simp only[iD]at hm;subst hm;have h':(match di cx fn F S with
    |some v=>(.ok (v,S) []:aC (AV×AS))
    |none=>.err 2001).iQ (fun r=>∀ρ' e w',hJ ρ' r.1 e->R Λ ρ' r.2 w'->Kp ρ S w ρ' r.2 w'->fS e w'):=h
   cases hv:di cx fn F S with
   |none=>rw[hv]at h';exact h'.elim
   |some v=>
    rw[hv]at h';obtain⟨x,r1,r2⟩:=mQ (P:=P) aI hR hF hv;exact⟨x,r1,h'.1 ρ _ w (hJ.of r2) hR (Kp.refl _ _ _)⟩
  |eQ v=>
   obtain⟨x,rfl,hx⟩:=hm;exact h.1 ρ _ w ⟨x,rfl,hx⟩ hR (Kp.refl _ _ _)
  |got v=>exact (h:False).elim
 |cons d ds ih=>
  intro l ρ S m u w hR hF hds hm h;obtain⟨y,ys,rfl,hd,hds'⟩:=hds;have hu:u≠.run:=by
   cases m with
   |ret=>simp only[iD]at hm;subst hm;intro e;cases e
   |eQ v=>obtain⟨x,rfl,_⟩:=hm;intro e;cases e
   |got v=>obtain⟨x,rfl,_⟩:=hm;intro e;cases e
  refine⟨hu,?_⟩;cases d with
  |mark id=>
   left;obtain⟨pl,p1,p2⟩:=hd;have h':(match S.h.get id with
    |some (.nR (.dfr true))=>gL cx (exec cx n) fn F ds m (tJ S id (.dfr false))
    |_=>.err 2011).iQ (fun r=>∀ρ' e w',hJ ρ' r.1 e->R Λ ρ' r.2 w'->Kp ρ S w ρ' r.2 w'->fS e w'):=h
   split at h'
   .rename_i ho;obtain⟨dT,o,q1,q2,q3,q4⟩:=hR.ja id _ ho;rw[p1]at q1;cases q1;have q3':o=.deferred (some []):=q3;subst q3';obtain⟨b1,b2⟩:=u4 w (o:=.deferred none) q2;obtain⟨t1,t2⟩:=hR.setOth (x:=.dfr false) ho (by intro a b c d t e;cases e) p1 b1 b2 rfl q4;exact⟨pl.b,_,p2,run_takeDeferred q2,ih ys ρ _ m u _ t1 hF hds' hm (h'.mono fun r hr ρ' e w' k0 k1 k2=>hr ρ' e w' k0 k1 (t2.trans k2))⟩
   .exact h'.elim
  |call g as captured=>
   right;obtain⟨cap,p1,p2,p3⟩:=hd;refine⟨fun hh=>by simp[Fence.wide]at hh,?_⟩;have h':(match cx.fns.get g with
    |some gn=>match gn.body with
     |some c=>aC.bind (ir cx (exec cx n) c (ou (gR as captured) gn.ntmps) S m) fun o=>match o.F.ds with
      |[]=>match kR o.ex o.m with
       |some m'=>match o.ex with
        | .eQ _=>gL cx (exec cx n) fn F ds m' o.S
        |_=>match di cx gn o.F o.S with
         |some _=>gL cx (exec cx n) fn F ds m' o.S
         |none=>.err 2012
       |none=>.err 2013
      |_=>.err 2014
     |none=>.err 2015
    |none=>.err 2016).iQ (fun r=>∀ρ' e w',hJ ρ' r.1 e->R Λ ρ' r.2 w'->Kp ρ S w ρ' r.2 w'->fS e w'):=h
   cases hg:cx.fns.get g with
   |none=>rw[hg]at h';exact h'.elim
   |some gn=>
    rw[hg]at h';simp only[]at h';have hgn:=aI.fns g gn hg;cases hb:gn.body with
    |none=>rw[hb]at h';exact h'.elim
    |some c=>
     rw[hb]at h';simp only[]at h';have hen:=aI.enters g gn hgn (by rw[hb];rfl) (y.args++cap) w;refine⟨.func g,cap,g,y.args++cap,p1,?_,fun _ _=>trivial,callsDIn_of_wpSIn hgn hb trivial fun c₀ cs hmode=>?_⟩
     .rw[p1];exact hen
     .have ni:c₀={c₀ with mode:=u}:=by subst hmode;rfl
      rw[ni];have hl:aD ρ (gR as captured) (y.args++cap).toList:=by
       rw[cA,Array.toList_append];exact p2.append p3
      refine execS_ok aI hc (c₀:=c₀) (cs:=cs) c _ ρ _ S m u w _ hR (yY hl gn.ntmps) hm ((aC.all_bind h').mono fun o ho ρ' e a' u' w' k0 km k1 k2 k3=>?_);cases hds2:o.F.ds with
      |cons _ _=>rw[hds2]at ho;exact ho.elim
      |nil=>
       rw[hds2]at ho;simp only[]at ho;have hdf:a'.defers=[]:=by
        have:=k2.defers;rw[hds2]at this;exact this
       cases jJ:kR o.ex o.m with
       |none=>rw[jJ]at ho;exact ho.elim
       |some m'=>
        rw[jJ]at ho;simp only[]at ho;have go:∀u2,iD ρ' m' u2->(gL cx (exec cx n) fn F ds m' o.S).iQ (fun r=>∀ρ' e w',hJ ρ' r.1 e->R Λ ρ' r.2 w'->Kp ρ S w ρ' r.2 w'->fS e w')->LeavesInM Fence.wide 0 P fn tmps fS ys u2 w':=by
         intro u2 hm2 kL;exact ih ys ρ' _ m' u2 w' k1 (hF.mono k3.ext) (hds'.mono k3.ext) hm2 (kL.mono fun r hr ρ'' e ux j0 j1 j2=>hr ρ'' e ux j0 j1 (k3.trans j2))
        have ret:(∃v,(results gn a'.tmps).run P w'=.ok v w')->(gL cx (exec cx n) fn F ds m' o.S).iQ (fun r=>∀ρ' e w',hJ ρ' r.1 e->R Λ ρ' r.2 w'->Kp ρ S w ρ' r.2 w'->fS e w')->iD ρ' m' (Go.settle u') ->
          a'.defers=[]/\∃u'',({c₀ with mode:=u'}::cs:List Frame)={ ({c₀ with mode:=u}:Frame)with mode:=u''}::cs/\∃v,(results gn a'.tmps).run P w'=.ok v w'/\LeavesInM Fence.wide 0 P fn tmps fS ys (Go.settle u'') w':=by
         rintro⟨v,hv⟩ kL hm2;exact⟨hdf,u',rfl,v,hv,go _ hm2 kL⟩
        have settles:∀(b:Bool),o.ex=(if b then Ex.normal else Ex.ret)->iD ρ' m' (Go.settle u'):=by
         intro b hb;rw[hb]at jJ;cases hom:o.m with
         |ret=>rw[hom]at jJ km;simp only[iD]at km;subst km;cases b<;>(cases jJ;exact rfl)
         |eQ v=>rw[hom]at jJ km;obtain⟨x,rfl,hx⟩:=km;cases b<;>(cases jJ;exact⟨x,rfl,hx⟩)
         |got v=>rw[hom]at jJ km;obtain⟨x,rfl,hx⟩:=km;cases b<;>(cases jJ;exact rfl)
        cases hex:o.ex with
        |normal=>
         rw[hex]at ho k0;cases k0;simp only[]at ho;cases hv:di cx gn o.F o.S with
         |none=>rw[hv]at ho;exact ho.elim
         |some v=>
          rw[hv]at ho;obtain⟨x,r1,_⟩:=mQ (P:=P) aI k1 k2.srel hv;exact ret ⟨x,r1⟩ ho (settles true hex)
        |ret=>
         rw[hex]at ho k0;cases k0;simp only[]at ho;cases hv:di cx gn o.F o.S with
         |none=>rw[hv]at ho;exact ho.elim
         |some v=>
          rw[hv]at ho;obtain⟨x,r1,_⟩:=mQ (P:=P) aI k1 k2.srel hv;exact ret ⟨x,r1⟩ ho (settles false hex)
        |exit i=>rw[hex]at jJ;cases hom:o.m<;>rw[hom]at jJ<;>cases jJ
        |goto l=>rw[hex]at jJ;cases hom:o.m<;>rw[hom]at jJ<;>cases jJ
        |eQ v=>
         rw[hex]at ho k0;obtain⟨x,rfl,hx⟩:=k0;rw[hex]at jJ;cases hom:o.m with
         |ret=>
          rw[hom]at jJ km;simp only[iD]at km;subst km;cases jJ;exact⟨hdf,.returning,rfl,go _ ⟨x,rfl,hx⟩ ho⟩
         |eQ v'=>rw[hom]at jJ;cases jJ
         |got v'=>rw[hom]at jJ;cases jJ
end Go.Am
