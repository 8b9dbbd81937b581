/-
  The abstract machine against the model: deferred calls, recover.
-/
import Derived.Test.YtdknlbnljfdhgaaGreatDoorAmCode
namespace Go.Am
open Go
variable{Λ:LB}
def jt(ρ:aO):Md->FrameMode->Prop
 | .ret,u=>u=.returning
 | .dP v,u=>∃x,u=.panicking [{v:=x,recovered:=false}]/\ah ρ v x
 | .got v,u=>∃x,u=.panicking [{v:=x,recovered:=true}]/\ah ρ v x
theorem jt.mono{ρ ρ':aO}(h:Ext ρ ρ'){m:Md}{u:FrameMode}(r:jt ρ m u):jt ρ' m u:=by
 cases m with
 |ret=>exact r
 |dP v=>obtain⟨x,e,k⟩:=r;exact⟨x,e,k.mono h _ _⟩
 |got v=>obtain⟨x,e,k⟩:=r;exact⟨x,e,k.mono h _ _⟩
theorem C4{F:Fence}{n:Nat}{P:Program}{Q:Exit->Act->List Frame->World->Prop}{a:Act}{cs:List Frame}{w:World}{id:Nat}{c:Code}
  (h:c.wpSIn F n P (fun e a' cs' w'=>match e with | .exit j=>if j=id then Q .normal a' cs' w' else Q (.exit j) a' cs' w'|e=>Q e a' cs' w') a cs w):(Code.block id c).wpSIn F n P Q a cs w:=by
 intro b k hb hr hF Ab;have i0:(lone (b.atR a (.code (.block id c)::k)) cs w).fenced P F:=fenced_calm hF Ab rfl;obtain⟨e,a₁,cs₁,w₁,hl,hq,fM⟩:=h b (.inBlock id::k) hb hr hF Ab;have hroom':F.room (cs₁.length+1+n):=hl▸Ab;cases e with
 |normal=>exact⟨.normal,a₁,cs₁,w₁,hl,hq,.head i0 stepR_block (StepsIn.trans fM (.one (fenced_calm hF hroom' rfl) stepR_inBlock))⟩
 |exit id'=>
  by_cases bY:id'=id
  .simp only[bY,if_true]at hq;exact⟨.normal,a₁,cs₁,w₁,hl,hq,.head i0 stepR_block (fM.1 k (by simp[exitTo,bY]))⟩
  .simp only[bY,if_false]at hq;have this:(id==id')=false:=by simp;exact fun h=>bY h.symm
   have hx:exitTo id' (.inBlock id::k)=exitTo id' k:=by simp[exitTo,this]
   exact⟨.exit id',a₁,cs₁,w₁,hl,hq,fun k' hk=>.head i0 stepR_block (fM.1 k' (by rw[hx];exact hk)),
    fun eS hk=>let ⟨k₁,h1,h2⟩:=fM.2 eS (by rw[hx];exact hk);⟨k₁,h1,.head i0 stepR_block h2⟩⟩
 |goto l=>
  have hx:gotoIn l (.inBlock id::k)=gotoIn l k:=by simp[gotoIn]
  exact⟨_,a₁,cs₁,w₁,hl,hq,fun k' hk=>.head i0 stepR_block (fM.1 k' (by rw[hx];exact hk)),
   fun eS hk=>let ⟨k₁,h1,h2⟩:=fM.2 eS (by rw[hx];exact hk);⟨k₁,h1,.head i0 stepR_block h2⟩⟩
 |ret=>exact⟨_,a₁,cs₁,w₁,hl,hq,.of_steps (.one i0 stepR_block) fM⟩
 |panic ch=>exact⟨_,a₁,cs₁,w₁,hl,hq,.of_steps (.one i0 stepR_block) fM⟩
 |outgrown=>exact⟨_,a₁,cs₁,w₁,hl,hq,.of_steps (.one i0 stepR_block) fM⟩
theorem yx{F:Fence}{n:Nat}{P:Program}{ops:Array Oper}{Q:Exit->Act->List Frame->World->Prop}{i:Nat}{rest:List Nat}{a:Act}{cs:List Frame}{w:World}{o:Oper}(ho:ops[i]?=some o):
  wpOpsSIn F n P ops Q (i::rest) a cs w=((∀f,o.about P w a.eval=some f->F.fn f) /\
   if Region.wanted o (yielded ops a.tmps) then
    match (execOp a.eval o).run P w with
    | .ok .recover w'=>
     match recoverD cs with
     |some (v,cs')=>wpOpsSIn F n P ops Q rest (a.put o.dst v) cs' w'
     |none=>wpOpsSIn F n P ops Q rest (a.put o.dst .nilIface) cs w'
    | .ok (.value v) w'=>wpOpsSIn F n P ops Q rest (a.put o.dst v) cs w'
    | .ok .skip w'=>wpOpsSIn F n P ops Q rest (a.put o.dst undef) cs w'
    | .halt (.panic v) w'=>Q (.panic [{v,recovered:=false}]) a cs w'
    |_=>False
   else wpOpsSIn F n P ops Q rest (a.put o.dst undef) cs w):=by
 simp only[wpOpsSIn,ho];rfl
def ou(Λ:LB)(ρ:aO)(S:AS)(w:World)(c₀:Frame)(cs:List Frame)(Q:Exit->Act->List Frame->World->Prop)(o:zq):Prop:=
 ∀ρ' e a' u w',ExTo ρ' o.ex e->jt ρ' o.m u->R Λ ρ' o.S w'->dT ρ' o.F a'->Kp ρ S w ρ' o.S w'->Q e a' ({c₀ with mode:=u}::cs) w'
theorem ou.trans{ρ ρ':aO}{S S':AS}{w w':World}{c₀:Frame}{cs:List Frame}{Q:Exit->Act->List Frame->World->Prop}{o:zq}(hk:Kp ρ S w ρ' S' w')(h:ou Λ ρ S w c₀ cs Q o):ou Λ ρ' S' w' c₀ cs Q o:=
 fun ρ'' e a u vY h0 hm h1 h2 h3=>h ρ'' e a u vY h0 hm h1 h2 (hk.trans h3)
theorem recV_rel{ρ:aO}{m:Md}{u:FrameMode}(h:jt ρ m u)(c₀:Frame)(cs:List Frame):
  (∃x u',recoverD ({c₀ with mode:=u}::cs)=some (x,{c₀ with mode:=u'}::cs)/\ah ρ (DQ m).1 x/\jt ρ (DQ m).2 u') \/
  (recoverD ({c₀ with mode:=u}::cs)=none/\(DQ m).1=.bH/\(DQ m).2=m):=by
 cases m with
 |ret=>simp only[jt]at h;subst h;exact .inr ⟨rfl,rfl,rfl⟩
 |dP v=>
  obtain⟨x,rfl,hx⟩:=h;exact .inl ⟨x,.panicking [{v:=x,recovered:=true}],rfl,hx,x,rfl,hx⟩
 |got v=>
  obtain⟨x,rfl,hx⟩:=h;exact .inr ⟨rfl,rfl,rfl⟩
theorem runOpsS_wp{P:Program}{cx:Cx}(aC:dq Λ P cx){ops:Array Oper}{c₀:Frame}{cs:List Frame}{Q:Exit->Act->List Frame->World->Prop}:
  ∀(l:List Oper)(i:Nat)(ρ:aO)(F:Fr)(S:AS)(m:Md)(u:FrameMode)(w:World)(a:Act),ops.toList.drop i=l->R Λ ρ S w->dT ρ F a->jt ρ m u ->
  (eE cx By ops.toList l F S m).jK (ou Λ ρ S w c₀ cs Q) ->
  wpOpsSIn Fence.wide 0 P ops Q (List.range' i l.length) a ({c₀ with mode:=u}::cs) w:=by
 intro l
 induction l with
 |nil=>intro i ρ F S m u w a _ hR hF hm h;exact h.1 ρ _ a u w rfl hm hR hF (Kp.refl _ _ _)
 |cons o l ih=>
  intro i ρ F S m u w a hd hR hF hm h;have hio:ops[i]?=some o:=by
   rw[<-Array.getElem?_toList];have:(ops.toList.drop i)[0]?=some o:=by rw[hd];rfl
   rwa [List.getElem?_drop,Nat.add_zero]at this
  have xw:ops.toList.drop (i+1)=l:=by
   rw[<-List.drop_drop,hd];rfl
  rw[List.length_cons,List.range'_succ,yx hio];refine⟨fun f _=>trivial,?_⟩;have vI:eE cx By ops.toList (o::l) F S m=(match cM o with
   |some _=>.err 1011
   |none=>cond (bu o)
    (match wanted ops.toList F o with
    |some true=>eE cx By ops.toList l (bG F o.dst (DQ m).1) S (DQ m).2
    |some false=>eE cx By ops.toList l (bG F o.dst .undef) S m
    |none=>.err 1012)
    (av.bind (one cx By ops.toList o F S) fun r=>cond r.1 (.ok ⟨.dP r.2.1,F,r.2.2,m⟩ []) (eE cx By ops.toList l (bG F o.dst r.2.1) r.2.2 m))):=rfl
  rw[vI]at h;cases BT:cM o with
  |some c=>rw[BT]at h;exact h.elim
  |none=>
   rw[BT]at h;simp only[]at h;cases sJ:bu o with
   |true=>
    rw[sJ]at h;simp only[cond_true]at h;cases hw:wanted ops.toList F o with
    |none=>rw[hw]at h;exact h.elim
    |some b=>
     rw[hw]at h;rw[mC hF hw];cases b with
     |false=>
      simp only[Bool.false_eq_true,if_false];exact ih (i+1) ρ _ _ m u w _ xw hR (hF.put o.dst (ez ρ)) hm h
     |true=>
      simp only[if_true];have oB:(execOp a.eval o).run P w=.ok .recover w:=by
       unfold bu at sJ;split at sJ
       .rename_i xs mr mo;unfold execOp;rw[mo];rfl
       .cases sJ
      rw[oB];simp only[]at h⊢;rcases recV_rel hm c₀ cs with⟨x,u',e1,e2,e3⟩|⟨e1,e2,e3⟩
      .rw[e1];exact ih (i+1) ρ _ _ _ u' w _ xw hR (hF.put o.dst e2) e3 h
      .rw[e1];rw[e2,e3]at h;exact ih (i+1) ρ _ _ m u w _ xw hR (hF.put o.dst (by simp[ah])) hm h
   |false=>
    rw[sJ]at h;simp only[cond_false]at h;have h1:=av.all_bind h;unfold one at h1;cases hw:wanted ops.toList F o with
    |none=>rw[hw]at h1;exact h1.elim
    |some b=>
     rw[hw]at h1;rw[mC hF hw];cases b with
     |false=>
      simp only[Bool.false_eq_true,if_false];exact ih (i+1) ρ _ _ m u w _ xw hR (hF.put o.dst (ez ρ)) hm h1.1
     |true=>
      simp only[if_true]at h1⊢;have val:∀(v:AV)(S':AS),cz Λ P ρ S w (execOp a.eval o) v S'->(eE cx By ops.toList l (bG F o.dst v) S' m).jK (ou Λ ρ S w c₀ cs Q) ->
        (match (execOp a.eval o).run P w with
        | .ok .recover w'=>
         match recoverD ({c₀ with mode:=u}::cs)with
         |some (v,cs')=>wpOpsSIn Fence.wide 0 P ops Q (List.range' (i+1) l.length) (a.put o.dst v) cs' w'
         |none=>wpOpsSIn Fence.wide 0 P ops Q (List.range' (i+1) l.length) (a.put o.dst .nilIface) ({c₀ with mode:=u}::cs) w'
        | .ok (.value v) w'=>wpOpsSIn Fence.wide 0 P ops Q (List.range' (i+1) l.length) (a.put o.dst v) ({c₀ with mode:=u}::cs) w'
        | .ok .skip w'=>wpOpsSIn Fence.wide 0 P ops Q (List.range' (i+1) l.length) (a.put o.dst undef) ({c₀ with mode:=u}::cs) w'
        | .halt (.panic v) w'=>Q (.panic [{v,recovered:=false}]) a ({c₀ with mode:=u}::cs) w'
        |_=>False):=by
       rintro v S' ⟨nx,x,ρ',w',r1,r2,r3,r4,r5⟩ h2;rw[r1];have go:∀z,z=x->wpOpsSIn Fence.wide 0 P ops Q (List.range' (i+1) l.length) (a.put o.dst z) ({c₀ with mode:=u}::cs) w':=by
        rintro z rfl;exact ih (i+1) ρ' _ _ m u w' _ xw r4 ((hF.mono r5.ext).put o.dst r3) (hm.mono r5.ext) (h2.mono fun q hq=>hq.trans r5)
       cases nx<;>simp only[Bz,Option.some.injEq,reduceCtorEq]at r2
       .exact go _ r2
       .exact go _ r2
      cases mo:bj cx F S o with
      |err n=>rw[mo]at h1;exact h1.elim
      |val v S'=>
       rw[mo]at h1;exact val v S' (AA aC hR hF mo) h1.1
      |enter f as S'=>rw[mo]at h1;exact h1.elim
      |round id as S'=>rw[mo]at h1;exact h1.elim
      |dP v S'=>
       rw[mo]at h1;obtain⟨rfl,_,x,r1,r2⟩:=aop_pan (P:=P) (w:=w) hF mo;rw[r1];exact h1.1.1 ρ _ a u w ⟨x,rfl,r2⟩ hm hR hF (Kp.refl _ _ _)
      |many lm=>
       rw[mo]at h1;cases lm with
       |nil=>exact h1.elim
       |cons y ys=>
        obtain⟨r,hr,hs⟩:=FQ (P:=P) hR hF mo (by simp);refine val r.1 r.2 hs ?_;cases hr with
        |head=>exact h1.1
        |tail _ hr=>exact h1.2 (valR r) (List.mem_map.2 ⟨r,hr,rfl⟩)
theorem execS_ok{P:Program}{cx:Cx}(aC:dq Λ P cx){n:Nat}(hc:od Λ P cx n){c₀:Frame}{cs:List Frame}:
  ∀(c:Code)(Q:Exit->Act->List Frame->World->Prop)(ρ:aO)(F:Fr)(S:AS)(m:Md)(u:FrameMode)(w:World)(a:Act),R Λ ρ S w->dT ρ F a->jt ρ m u ->
  (dR cx (exec cx n) c F S m).jK (ou Λ ρ S w c₀ cs Q)->c.wpSIn Fence.wide 0 P Q a ({c₀ with mode:=u}::cs) w:=by
 have base:∀(c:Code)(Q:Exit->Act->List Frame->World->Prop)(ρ:aO)(F:Fr)(S:AS)(m:Md)(u:FrameMode)(w:World)(a:Act),R Λ ρ S w->dT ρ F a->jt ρ m u ->
   (av.bind (exec cx n c F S) fun o=>.ok (o.at m) []).jK (ou Λ ρ S w c₀ cs Q)->c.wpSIn Fence.wide 0 P Q a ({c₀ with mode:=u}::cs) w:=by
  intro c Q ρ F S m u w a hR hF hm h;refine wpSIn_of_wpIn rfl (hc none c _ ρ F S w a (.inl rfl) hR hF ((av.all_bind h).mono fun o ho ρ' e a' w' h0 h1 h2 h3=>?_));exact ho.1 ρ' e a' u w' h0 (hm.mono h3.ext) h1 h2 h3
 intro c
 induction c with
 |skip=>intro Q ρ F S m u w a hR hF hm h;exact wpSIn_of_wpIn rfl (wpIn_skip (h.1 ρ _ a u w rfl hm hR hF (Kp.refl _ _ _)))
 |ret=>intro Q ρ F S m u w a hR hF hm h;exact wpSIn_of_wpIn rfl (wpIn_ret (h.1 ρ _ a u w rfl hm hR hF (Kp.refl _ _ _)))
 |exit id=>intro Q ρ F S m u w a hR hF hm h;exact wpSIn_of_wpIn rfl (wpIn_exit (h.1 ρ _ a u w rfl hm hR hF (Kp.refl _ _ _)))
 |region id ops draw=>
  intro Q ρ F S m u w a hR hF hm h;have h':(cond (ops.toList.any bu) (cond draw (.err 2200) (eE cx By ops.toList ops.toList F S m)) (av.bind (exec cx n (.region id ops draw) F S) fun o=>.ok (o.at m) [])).jK (ou Λ ρ S w c₀ cs Q):=h;cases hr:ops.toList.any bu with
  |false=>rw[hr]at h';exact base _ Q ρ F S m u w a hR hF hm h'
  |true=>
   rw[hr]at h';cases draw with
   |true=>exact h'.elim
   |false=>
    refine wpSIn_region ?_;have:=runOpsS_wp aC (c₀:=c₀) (cs:=cs) (Q:=Q) ops.toList 0 ρ F S m u w a rfl hR hF hm h';rw[List.range_eq_range'];simpa using this
 |seq x y ihx ihy=>
  intro Q ρ F S m u w a hR hF hm h;have h':(av.bind (dR cx (exec cx n) x F S m) fun o=>match o.ex with
   | .normal=>dR cx (exec cx n) y o.F o.S o.m
   |_=>.ok o []).jK (ou Λ ρ S w c₀ cs Q):=h
  refine wpSIn_seq (ihx _ ρ F S m u w a hR hF hm ((av.all_bind h').mono fun o ho ρ' e a' u' w' h0 gN h1 h2 h3=>?_));cases he:o.ex with
  |normal=>
   rw[he]at ho h0;cases h0;exact ihy Q ρ' o.F o.S o.m u' w' a' h1 h2 gN (ho.mono fun q hq=>hq.trans h3)
  |exit id=>rw[he]at ho;have:=ho.1 ρ' e a' u' w' (by rw[he]at h0⊢;exact h0) gN h1 h2 h3;rw[he]at h0;cases h0;exact this
  |ret=>rw[he]at ho;have:=ho.1 ρ' e a' u' w' (by rw[he]at h0⊢;exact h0) gN h1 h2 h3;rw[he]at h0;cases h0;exact this
  |goto l=>rw[he]at ho;have:=ho.1 ρ' e a' u' w' (by rw[he]at h0⊢;exact h0) gN h1 h2 h3;rw[he]at h0;cases h0;exact this
  |dP v=>rw[he]at ho;have:=ho.1 ρ' e a' u' w' (by rw[he]at h0⊢;exact h0) gN h1 h2 h3;rw[he]at h0;obtain⟨x,rfl,_⟩:=h0;exact this
 |cond x y z ihy ihz=>
  intro Q ρ F S m u w a hR hF hm h;have h':(match eval F x with
   | .bool true=>dR cx (exec cx n) y F S m
   | .bool false=>dR cx (exec cx n) z F S m
   |_=>.err 2201).jK (ou Λ ρ S w c₀ cs Q):=h
  have hx:=hF.eval x;split at h'
  .rename_i he;rw[he]at hx;exact wpSIn_cond (t:=true) (by simpa[ah]using hx) (ihy Q ρ F S m u w a hR hF hm h')
  .rename_i he;rw[he]at hx;exact wpSIn_cond (t:=false) (by simpa[ah]using hx) (ihz Q ρ F S m u w a hR hF hm h')
  .exact h'.elim
 |block id b uS=>
  intro Q ρ F S m u w a hR hF hm h;have h':(av.bind (dR cx (exec cx n) b F S m) fun o=>match o.ex with
   | .exit j=>cond (Nat.beq j id) (.ok ⟨.normal,o.F,o.S,o.m⟩ []) (.ok o [])
   |_=>.ok o []).jK (ou Λ ρ S w c₀ cs Q):=h
  refine C4 (uS _ ρ F S m u w a hR hF hm ((av.all_bind h').mono fun o ho ρ' e a' u' w' h0 gN h1 h2 h3=>?_));cases he:o.ex with
  |normal=>rw[he]at ho;have:=ho.1 ρ' e a' u' w' (by rw[he]at h0⊢;exact h0) gN h1 h2 h3;rw[he]at h0;cases h0;exact this
  |ret=>rw[he]at ho;have:=ho.1 ρ' e a' u' w' (by rw[he]at h0⊢;exact h0) gN h1 h2 h3;rw[he]at h0;cases h0;exact this
  |goto l=>rw[he]at ho;have:=ho.1 ρ' e a' u' w' (by rw[he]at h0⊢;exact h0) gN h1 h2 h3;rw[he]at h0;cases h0;exact this
  |dP v=>rw[he]at ho;have:=ho.1 ρ' e a' u' w' (by rw[he]at h0⊢;exact h0) gN h1 h2 h3;rw[he]at h0;obtain⟨x,rfl,_⟩:=h0;exact this
  |exit j=>
   rw[he]at ho;simp only[bF]at ho;have h0':=h0;rw[he]at h0';cases h0';show if j=id then _ else _
   by_cases hj:j=id
   .rw[decide_eq_true hj]at ho;rw[if_pos hj];exact ho.1 ρ' .normal a' u' w' rfl gN h1 h2 h3
   .rw[decide_eq_false hj]at ho;rw[if_neg hj];exact ho.1 ρ' (.exit j) a' u' w' h0 gN h1 h2 h3
 |loop b _=>
  intro Q ρ F S m u w a hR hF hm h;have h':(cond (uf b) (.err 2202) (av.bind (exec cx n (.loop b) F S) fun o=>.ok (o.at m) [])).jK (ou Λ ρ S w c₀ cs Q):=h;cases hr:uf b with
  |true=>rw[hr]at h';exact h'.elim
  |false=>rw[hr]at h';exact base _ Q ρ F S m u w a hR hF hm h'
 |rangeFunc f p x y _ _=>intro Q ρ F S m u w a hR hF hm h;exact (h:False).elim
 |scope b _=>intro Q ρ F S m u w a hR hF hm h;exact (h:False).elim
 |label l=>intro Q ρ F S m u w a hR hF hm h;exact (h:False).elim
 |goto l=>intro Q ρ F S m u w a hR hF hm h;exact (h:False).elim
 |refuse s=>intro Q ρ F S m u w a hR hF hm h;exact (h:False).elim
theorem tV{P:Program}{cx:Cx}(aC:dq Λ P cx){n:Nat}(hc:od Λ P cx n){fn:Func}{F:Fr}{tmps:Array Value}{fZ:Ending->World->Prop}:
  ∀(ds:List sa)(l:List Deferred)(ρ:aO)(S:AS)(m:Md)(u:FrameMode)(w:World),R Λ ρ S w->ye ρ F tmps->ve ρ ds l->jt ρ m u ->
  (ei cx (exec cx n) fn F ds m S).jK (fun r=>∀ρ' e w',iK ρ' r.1 e->R Λ ρ' r.2 w'->Kp ρ S w ρ' r.2 w'->fZ e w')->LeavesInM Fence.wide 0 P fn tmps fZ l u w:=by
 intro ds
 induction ds with
 |nil=>
  intro l ρ S m u w hR hF qv hm h;simp only[ve]at qv;subst qv;cases m with
  |ret=>
   simp only[jt]at hm;subst hm;have h':(match b9 cx fn F S with
    |some v=>(.ok (v,S) []:av (AV×AS))
    |none=>.err 2001).jK (fun r=>∀ρ' e w',iK ρ' r.1 e->R Λ ρ' r.2 w'->Kp ρ S w ρ' r.2 w'->fZ e w'):=h
   cases hv:b9 cx fn F S with
   |none=>rw[hv]at h';exact h'.elim
   |some v=>
    rw[hv]at h';obtain⟨x,r1,r2⟩:=nz (P:=P) aC hR hF hv;exact⟨x,r1,h'.1 ρ _ w (iK.of r2) hR (Kp.refl _ _ _)⟩
  |dP v=>
   obtain⟨x,rfl,hx⟩:=hm;exact h.1 ρ _ w ⟨x,rfl,hx⟩ hR (Kp.refl _ _ _)
  |got v=>exact (h:False).elim
 |cons d ds ih=>
  intro l ρ S m u w hR hF qv hm h;obtain⟨y,ys,rfl,hd,hds'⟩:=qv;have hu:u≠.run:=by
   cases m with
   |ret=>simp only[jt]at hm;subst hm;intro e;cases e
   |dP v=>obtain⟨x,rfl,_⟩:=hm;intro e;cases e
   |got v=>obtain⟨x,rfl,_⟩:=hm;intro e;cases e
  refine⟨hu,?_⟩;cases d with
  |mark id=>
   left;obtain⟨pl,p1,p2⟩:=hd;have h':(match S.h.get id with
    |some (.jk (.yw true))=>ei cx (exec cx n) fn F ds m (lh S id (.yw false))
    |_=>.err 2011).jK (fun r=>∀ρ' e w',iK ρ' r.1 e->R Λ ρ' r.2 w'->Kp ρ S w ρ' r.2 w'->fZ e w'):=h
   split at h'
   .rename_i ho;obtain⟨dK,o,q1,q2,q3,q4⟩:=hR.iM id _ ho;rw[p1]at q1;cases q1;have q3':o=.deferred (some []):=q3;subst q3';obtain⟨b1,b2⟩:=wH w (o:=.deferred none) q2;obtain⟨t1,t2⟩:=hR.setOth (x:=.yw false) ho (by intro a b c d t e;cases e) p1 b1 b2 rfl q4;exact⟨pl.b,_,p2,run_takeDeferred q2,ih ys ρ _ m u _ t1 hF hds' hm (h'.mono fun r hr ρ' e w' k0 k1 k2=>hr ρ' e w' k0 k1 (t2.trans k2))⟩
   .exact h'.elim
  |call g as captured=>
   right;obtain⟨cap,p1,p2,p3⟩:=hd;refine⟨fun hh=>by simp[Fence.wide]at hh,?_⟩;have h':(match cx.fns.get g with
    |some gn=>match gn.body with
     |some c=>av.bind (dR cx (exec cx n) c (kB (fH as captured) gn.ntmps) S m) fun o=>match o.F.ds with
      |[]=>match nu o.ex o.m with
       |some m'=>match o.ex with
        | .dP _=>ei cx (exec cx n) fn F ds m' o.S
        |_=>match b9 cx gn o.F o.S with
         |some _=>ei cx (exec cx n) fn F ds m' o.S
         |none=>.err 2012
       |none=>.err 2013
      |_=>.err 2014
     |none=>.err 2015
    |none=>.err 2016).jK (fun r=>∀ρ' e w',iK ρ' r.1 e->R Λ ρ' r.2 w'->Kp ρ S w ρ' r.2 w'->fZ e w'):=h
   cases hg:cx.fns.get g with
   |none=>rw[hg]at h';exact h'.elim
   |some gn=>
    rw[hg]at h';simp only[]at h';have hgn:=aC.fns g gn hg;cases hb:gn.body with
    |none=>rw[hb]at h';exact h'.elim
    |some c=>
     rw[hb]at h';simp only[]at h';have hen:=aC.enters g gn hgn (by rw[hb];rfl) (y.args++cap) w;refine⟨.func g,cap,g,y.args++cap,p1,?_,fun _ _=>trivial,callsDIn_of_wpSIn hgn hb trivial fun c₀ cs hmode=>?_⟩
     .rw[p1];exact hen
     .have pG:c₀={c₀ with mode:=u}:=by subst hmode;rfl
      rw[pG];have hl:au ρ (fH as captured) (y.args++cap).toList:=by
       rw[bz,Array.toList_append];exact p2.append p3
      refine execS_ok aC hc (c₀:=c₀) (cs:=cs) c _ ρ _ S m u w _ hR (zY hl gn.ntmps) hm ((av.all_bind h').mono fun o ho ρ' e a' u' w' k0 km k1 k2 k3=>?_);cases hds2:o.F.ds with
      |cons _ _=>rw[hds2]at ho;exact ho.elim
      |nil=>
       rw[hds2]at ho;simp only[]at ho;have BT:a'.defers=[]:=by
        have:=k2.defers;rw[hds2]at this;exact this
       cases fy:nu o.ex o.m with
       |none=>rw[fy]at ho;exact ho.elim
       |some m'=>
        rw[fy]at ho;simp only[]at ho;have go:∀u2,jt ρ' m' u2->(ei cx (exec cx n) fn F ds m' o.S).jK (fun r=>∀ρ' e w',iK ρ' r.1 e->R Λ ρ' r.2 w'->Kp ρ S w ρ' r.2 w'->fZ e w')->LeavesInM Fence.wide 0 P fn tmps fZ ys u2 w':=by
         intro u2 CP jW;exact ih ys ρ' _ m' u2 w' k1 (hF.mono k3.ext) (hds'.mono k3.ext) CP (jW.mono fun r hr ρ'' e vY j0 j1 j2=>hr ρ'' e vY j0 j1 (k3.trans j2))
        have ret:(∃v,(results gn a'.tmps).run P w'=.ok v w')->(ei cx (exec cx n) fn F ds m' o.S).jK (fun r=>∀ρ' e w',iK ρ' r.1 e->R Λ ρ' r.2 w'->Kp ρ S w ρ' r.2 w'->fZ e w')->jt ρ' m' (Go.settle u') ->
          a'.defers=[]/\∃u'',({c₀ with mode:=u'}::cs:List Frame)={ ({c₀ with mode:=u}:Frame)with mode:=u''}::cs/\∃v,(results gn a'.tmps).run P w'=.ok v w'/\LeavesInM Fence.wide 0 P fn tmps fZ ys (Go.settle u'') w':=by
         rintro⟨v,hv⟩ jW CP;exact⟨BT,u',rfl,v,hv,go _ CP jW⟩
        have settles:∀(b:Bool),o.ex=(if b then Ex.normal else Ex.ret)->jt ρ' m' (Go.settle u'):=by
         intro b hb;rw[hb]at fy;cases hom:o.m with
         |ret=>rw[hom]at fy km;simp only[jt]at km;subst km;cases b<;>(cases fy;exact rfl)
         |dP v=>rw[hom]at fy km;obtain⟨x,rfl,hx⟩:=km;cases b<;>(cases fy;exact⟨x,rfl,hx⟩)
         |got v=>rw[hom]at fy km;obtain⟨x,rfl,hx⟩:=km;cases b<;>(cases fy;exact rfl)
        cases hex:o.ex with
        |normal=>
         rw[hex]at ho k0;cases k0;simp only[]at ho;cases hv:b9 cx gn o.F o.S with
         |none=>rw[hv]at ho;exact ho.elim
         |some v=>
          rw[hv]at ho;obtain⟨x,r1,_⟩:=nz (P:=P) aC k1 k2.srel hv;exact ret ⟨x,r1⟩ ho (settles true hex)
        |ret=>
         rw[hex]at ho k0;cases k0;simp only[]at ho;cases hv:b9 cx gn o.F o.S with
         |none=>rw[hv]at ho;exact ho.elim
         |some v=>
          rw[hv]at ho;obtain⟨x,r1,_⟩:=nz (P:=P) aC k1 k2.srel hv;exact ret ⟨x,r1⟩ ho (settles false hex)
        |exit i=>rw[hex]at fy;cases hom:o.m<;>rw[hom]at fy<;>cases fy
        |goto l=>rw[hex]at fy;cases hom:o.m<;>rw[hom]at fy<;>cases fy
        |dP v=>
         rw[hex]at ho k0;obtain⟨x,rfl,hx⟩:=k0;rw[hex]at fy;cases hom:o.m with
         |ret=>
          rw[hom]at fy km;simp only[jt]at km;subst km;cases fy;exact⟨BT,.returning,rfl,go _ ⟨x,rfl,hx⟩ ho⟩
         |dP v'=>rw[hom]at fy;cases fy
         |got v'=>rw[hom]at fy;cases fy
end Go.Am
