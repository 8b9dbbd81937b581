/-
  The abstract machine against the model: deferred calls, recover.
-/
import Derived.Test.YtdknlbnljfdhgaaGreatDoorAmCode
open List renaming range'->zza
namespace Go.Am
open Go
variable{Λ:LB}
def kh(ρ:aY):Md->FrameMode->Prop
 | .ret,u=>u=.returning
 | .eO v,u=>∃x,u=.panicking [{v:=x,recovered:=false}]/\ai ρ v x
 | .Vq v,u=>∃x,u=.panicking [{v:=x,recovered:=true}]/\ai ρ v x
theorem kh.mono{ρ ρ':aY}(h:Ext ρ ρ'){m:Md}{u:FrameMode}(r:kh ρ m u):kh ρ' m u:=by
 cases m with
 |ret=>exact r
 |eO v=>obtain⟨x,e,k⟩:=r;exact⟨x,e,k.mono h _ _⟩
 |Vq v=>obtain⟨x,e,k⟩:=r;exact⟨x,e,k.mono h _ _⟩
theorem FN{F:Fence}{n:Nat}{P:Program}{Q:Exit->Act->List Frame->World->Prop}{a:Act}{cs:List Frame}{w:World}{id:Nat}{c:Code}
  (h:c.wpSIn F n P (fun e a' Jh w'=>match e with | .exit j=>if j=id then Q .normal a' Jh w' else Q (.exit j) a' Jh w'|e=>Q e a' Jh w') a cs w):(Code.block id c).wpSIn F n P Q a cs w:=by
 intro b k hb hr hF CR;have i0:(lone (b.atR a (.code (.block id c)::k)) cs w).fenced P F:=fenced_calm hF CR rfl;obtain⟨e,a₁,cs₁,w₁,hl,hq,gK⟩:=h b (.inBlock id::k) hb hr hF CR;have jdO:F.room (cs₁.length+1+n):=hl▸CR;cases e with
 |normal=>exact⟨.normal,a₁,cs₁,w₁,hl,hq,.head i0 stepR_block (StepsIn.trans gK (.one (fenced_calm hF jdO rfl) stepR_inBlock))⟩
 |exit MV=>
  by_cases cD:MV=id
  .simp only[cD,if_true]at hq;exact⟨.normal,a₁,cs₁,w₁,hl,hq,.head i0 stepR_block (gK.1 k (by simp[exitTo,cD]))⟩
  .simp only[cD,if_false]at hq;have this:(id==MV)=false:=by simp;exact fun h=>cD h.symm
   have hx:exitTo MV (.inBlock id::k)=exitTo MV k:=by simp[exitTo,this]
   exact⟨.exit MV,a₁,cs₁,w₁,hl,hq,fun k' hk=>.head i0 stepR_block (gK.1 k' (by rw[hx];exact hk)),
    fun fi hk=>let ⟨k₁,h1,h2⟩:=gK.2 fi (by rw[hx];exact hk);⟨k₁,h1,.head i0 stepR_block h2⟩⟩
 |goto l=>
  have hx:gotoIn l (.inBlock id::k)=gotoIn l k:=by simp[gotoIn]
  exact⟨_,a₁,cs₁,w₁,hl,hq,fun k' hk=>.head i0 stepR_block (gK.1 k' (by rw[hx];exact hk)),
   fun fi hk=>let ⟨k₁,h1,h2⟩:=gK.2 fi (by rw[hx];exact hk);⟨k₁,h1,.head i0 stepR_block h2⟩⟩
 |ret=>exact⟨_,a₁,cs₁,w₁,hl,hq,.of_steps (.one i0 stepR_block) gK⟩
 |panic ch=>exact⟨_,a₁,cs₁,w₁,hl,hq,.of_steps (.one i0 stepR_block) gK⟩
 |outgrown=>exact⟨_,a₁,cs₁,w₁,hl,hq,.of_steps (.one i0 stepR_block) gK⟩
theorem Bv{F:Fence}{n:Nat}{P:Program}{ops:Array Oper}{Q:Exit->Act->List Frame->World->Prop}{i:Nat}{rest:List Nat}{a:Act}{cs:List Frame}{w:World}{o:Oper}(ho:ops[i]?=some o):
  wpOpsSIn F n P ops Q (i::rest) a cs w=((∀f,o.about P w a.eval=some f->F.fn f) /\
   if Region.wanted o (yielded ops a.tmps) then
    match (execOp a.eval o).run P w with
    | .ok .recover w'=>
     match recoverD cs with
     |some (v,Jh)=>wpOpsSIn F n P ops Q rest (a.put o.dst v) Jh w'
     |none=>wpOpsSIn F n P ops Q rest (a.put o.dst .nilIface) cs w'
    | .ok (.value v) w'=>wpOpsSIn F n P ops Q rest (a.put o.dst v) cs w'
    | .ok .skip w'=>wpOpsSIn F n P ops Q rest (a.put o.dst undef) cs w'
    | .halt (.panic v) w'=>Q (.panic [{v,recovered:=false}]) a cs w'
    |_=>False
   else wpOpsSIn F n P ops Q rest (a.put o.dst undef) cs w):=by
 simp only[wpOpsSIn,ho];rfl
def qp(Λ:LB)(ρ:aY)(S:AS)(w:World)(c₀:Frame)(cs:List Frame)(Q:Exit->Act->List Frame->World->Prop)(o:Cd):Prop:=
 ∀ρ' e a' u w',W5 ρ' o.ex e->kh ρ' o.m u->R Λ ρ' o.S w'->eY ρ' o.F a'->Kp ρ S w ρ' o.S w'->Q e a' ({c₀ with mode:=u}::cs) w'
theorem qp.trans{ρ ρ':aY}{S S':AS}{w w':World}{c₀:Frame}{cs:List Frame}{Q:Exit->Act->List Frame->World->Prop}{o:Cd}(hk:Kp ρ S w ρ' S' w')(h:qp Λ ρ S w c₀ cs Q o):qp Λ ρ' S' w' c₀ cs Q o:=
 fun ρ'' e a u yO h0 hm h1 h2 h3=>h ρ'' e a u yO h0 hm h1 h2 (hk.trans h3)
theorem SA{ρ:aY}{m:Md}{u:FrameMode}(h:kh ρ m u)(c₀:Frame)(cs:List Frame):
  (∃x u',recoverD ({c₀ with mode:=u}::cs)=some (x,{c₀ with mode:=u'}::cs)/\ai ρ (GL m).1 x/\kh ρ (GL m).2 u') \/
  (recoverD ({c₀ with mode:=u}::cs)=none/\(GL m).1=.bR/\(GL m).2=m):=by
 cases m with
 |ret=>simp only[kh]at h;subst h;exact .inr ⟨rfl,rfl,rfl⟩
 |eO v=>
  obtain⟨x,rfl,hx⟩:=h;exact .inl ⟨x,.panicking [{v:=x,recovered:=true}],rfl,hx,x,rfl,hx⟩
 |Vq v=>
  obtain⟨x,rfl,hx⟩:=h;exact .inr ⟨rfl,rfl,rfl⟩
theorem JU{P:Program}{cx:Cx}(aF:dQ Λ P cx){ops:Array Oper}{c₀:Frame}{cs:List Frame}{Q:Exit->Act->List Frame->World->Prop}:
  ∀(l:List Oper)(i:Nat)(ρ:aY)(F:Fr)(S:AS)(m:Md)(u:FrameMode)(w:World)(a:Act),ops.toList.drop i=l->R Λ ρ S w->eY ρ F a->kh ρ m u ->
  (fp cx DX ops.toList l F S m).kQ (qp Λ ρ S w c₀ cs Q) ->
  wpOpsSIn Fence.wide 0 P ops Q (zza i l.length) a ({c₀ with mode:=u}::cs) w:=by
 intro l
 induction l with
 |nil=>intro i ρ F S m u w a _ hR hF hm h;exact h.1 ρ _ a u w rfl hm hR hF (Kp.refl _ _ _)
 |cons o l ih=>
  intro i ρ F S m u w a hd hR hF hm h;have Rs:ops[i]?=some o:=by
   rw[<-Array.getElem?_toList];have:(ops.toList.drop i)[0]?=some o:=by rw[hd];rfl
   rwa [List.getElem?_drop,Nat.add_zero]at this
  have Al:ops.toList.drop (i+1)=l:=by
   rw[<-List.drop_drop,hd];rfl
  rw[List.length_cons,List.range'_succ,Bv Rs];refine⟨fun f _=>trivial,?_⟩;have yB:fp cx DX ops.toList (o::l) F S m=(match dc o with
   |some _=>.err 1011
   |none=>cond (bI o)
    (match wanted ops.toList F o with
    |some true=>fp cx DX ops.toList l (bQ F o.dst (GL m).1) S (GL m).2
    |some false=>fp cx DX ops.toList l (bQ F o.dst .undef) S m
    |none=>.err 1012)
    (az.bind (one cx DX ops.toList o F S) fun r=>cond r.1 (.ok ⟨.eO r.2.1,F,r.2.2,m⟩ []) (fp cx DX ops.toList l (bQ F o.dst r.2.1) r.2.2 m))):=rfl
  rw[yB]at h;cases Et:dc o with
  |some c=>rw[Et]at h;exact h.elim
  |none=>
   rw[Et]at h;simp only[]at h;cases tM:bI o with
   |true=>
    rw[tM]at h;simp only[cond_true]at h;cases hw:wanted ops.toList F o with
    |none=>rw[hw]at h;exact h.elim
    |some b=>
     rw[hw]at h;rw[nX hF hw];cases b with
     |false=>
      simp only[Bool.false_eq_true,if_false];exact ih (i+1) ρ _ _ m u w _ Al hR (hF.put o.dst (fm ρ)) hm h
     |true=>
      simp only[if_true];have qv:(execOp a.eval o).run P w=.ok .recover w:=by
       unfold bI at tM;split at tM
       .rename_i xs nN jR;unfold execOp;rw[jR];rfl
       .cases tM
      rw[qv];simp only[]at h⊢;rcases SA hm c₀ cs with⟨x,u',e1,e2,e3⟩|⟨e1,e2,e3⟩
      .rw[e1];exact ih (i+1) ρ _ _ _ u' w _ Al hR (hF.put o.dst e2) e3 h
      .rw[e1];rw[e2,e3]at h;exact ih (i+1) ρ _ _ m u w _ Al hR (hF.put o.dst (by simp[ai])) hm h
   |false=>
    rw[tM]at h;simp only[cond_false]at h;have h1:=az.all_bind h;unfold one at h1;cases hw:wanted ops.toList F o with
    |none=>rw[hw]at h1;exact h1.elim
    |some b=>
     rw[hw]at h1;rw[nX hF hw];cases b with
     |false=>
      simp only[Bool.false_eq_true,if_false];exact ih (i+1) ρ _ _ m u w _ Al hR (hF.put o.dst (fm ρ)) hm h1.1
     |true=>
      simp only[if_true]at h1⊢;have val:∀(v:AV)(S':AS),cU Λ P ρ S w (execOp a.eval o) v S'->(fp cx DX ops.toList l (bQ F o.dst v) S' m).kQ (qp Λ ρ S w c₀ cs Q) ->
        (match (execOp a.eval o).run P w with
        | .ok .recover w'=>
         match recoverD ({c₀ with mode:=u}::cs)with
         |some (v,Jh)=>wpOpsSIn Fence.wide 0 P ops Q (zza (i+1) l.length) (a.put o.dst v) Jh w'
         |none=>wpOpsSIn Fence.wide 0 P ops Q (zza (i+1) l.length) (a.put o.dst .nilIface) ({c₀ with mode:=u}::cs) w'
        | .ok (.value v) w'=>wpOpsSIn Fence.wide 0 P ops Q (zza (i+1) l.length) (a.put o.dst v) ({c₀ with mode:=u}::cs) w'
        | .ok .skip w'=>wpOpsSIn Fence.wide 0 P ops Q (zza (i+1) l.length) (a.put o.dst undef) ({c₀ with mode:=u}::cs) w'
        | .halt (.panic v) w'=>Q (.panic [{v,recovered:=false}]) a ({c₀ with mode:=u}::cs) w'
        |_=>False):=by
       rintro v S' ⟨nx,x,ρ',w',r1,r2,r3,r4,r5⟩ h2;rw[r1];have go:∀z,z=x->wpOpsSIn Fence.wide 0 P ops Q (zza (i+1) l.length) (a.put o.dst z) ({c₀ with mode:=u}::cs) w':=by
        rintro z rfl;exact ih (i+1) ρ' _ _ m u w' _ Al r4 ((hF.mono r5.ext).put o.dst r3) (hm.mono r5.ext) (h2.mono fun q hq=>hq.trans r5)
       cases nx<;>simp only[DY,Option.some.injEq,reduceCtorEq]at r2
       .exact go _ r2
       .exact go _ r2
      cases jR:bF cx F S o with
      |err n=>rw[jR]at h1;exact h1.elim
      |val v S'=>
       rw[jR]at h1;exact val v S' (Df aF hR hF jR) h1.1
      |enter f as S'=>rw[jR]at h1;exact h1.elim
      |round id as S'=>rw[jR]at h1;exact h1.elim
      |eO v S'=>
       rw[jR]at h1;obtain⟨rfl,_,x,r1,r2⟩:=NT (P:=P) (w:=w) hF jR;rw[r1];exact h1.1.1 ρ _ a u w ⟨x,rfl,r2⟩ hm hR hF (Kp.refl _ _ _)
      |many lm=>
       rw[jR]at h1;cases lm with
       |nil=>exact h1.elim
       |cons y ys=>
        obtain⟨r,hr,hs⟩:=IL (P:=P) hR hF jR (by simp);refine val r.1 r.2 hs ?_;cases hr with
        |head=>exact h1.1
        |tail _ hr=>exact h1.2 (XF r) (List.mem_map.2 ⟨r,hr,rfl⟩)
theorem VW{P:Program}{cx:Cx}(aF:dQ Λ P cx){n:Nat}(hc:qf Λ P cx n){c₀:Frame}{cs:List Frame}:
  ∀(c:Code)(Q:Exit->Act->List Frame->World->Prop)(ρ:aY)(F:Fr)(S:AS)(m:Md)(u:FrameMode)(w:World)(a:Act),R Λ ρ S w->eY ρ F a->kh ρ m u ->
  (eS cx (exec cx n) c F S m).kQ (qp Λ ρ S w c₀ cs Q)->c.wpSIn Fence.wide 0 P Q a ({c₀ with mode:=u}::cs) w:=by
 have base:∀(c:Code)(Q:Exit->Act->List Frame->World->Prop)(ρ:aY)(F:Fr)(S:AS)(m:Md)(u:FrameMode)(w:World)(a:Act),R Λ ρ S w->eY ρ F a->kh ρ m u ->
   (az.bind (exec cx n c F S) fun o=>.ok (o.at m) []).kQ (qp Λ ρ S w c₀ cs Q)->c.wpSIn Fence.wide 0 P Q a ({c₀ with mode:=u}::cs) w:=by
  intro c Q ρ F S m u w a hR hF hm h;refine wpSIn_of_wpIn rfl (hc none c _ ρ F S w a (.inl rfl) hR hF ((az.all_bind h).mono fun o ho ρ' e a' w' h0 h1 h2 h3=>?_));exact ho.1 ρ' e a' u w' h0 (hm.mono h3.ext) h1 h2 h3
 intro c
 induction c with
 |skip=>intro Q ρ F S m u w a hR hF hm h;exact wpSIn_of_wpIn rfl (wpIn_skip (h.1 ρ _ a u w rfl hm hR hF (Kp.refl _ _ _)))
 |ret=>intro Q ρ F S m u w a hR hF hm h;exact wpSIn_of_wpIn rfl (wpIn_ret (h.1 ρ _ a u w rfl hm hR hF (Kp.refl _ _ _)))
 |exit id=>intro Q ρ F S m u w a hR hF hm h;exact wpSIn_of_wpIn rfl (wpIn_exit (h.1 ρ _ a u w rfl hm hR hF (Kp.refl _ _ _)))
 |region id ops draw=>
  intro Q ρ F S m u w a hR hF hm h;have h':(cond (ops.toList.any bI) (cond draw (.err 2200) (fp cx DX ops.toList ops.toList F S m)) (az.bind (exec cx n (.region id ops draw) F S) fun o=>.ok (o.at m) [])).kQ (qp Λ ρ S w c₀ cs Q):=h;cases hr:ops.toList.any bI with
  |false=>rw[hr]at h';exact base _ Q ρ F S m u w a hR hF hm h'
  |true=>
   rw[hr]at h';cases draw with
   |true=>exact h'.elim
   |false=>
    refine wpSIn_region ?_;have:=JU aF (c₀:=c₀) (cs:=cs) (Q:=Q) ops.toList 0 ρ F S m u w a rfl hR hF hm h';rw[List.range_eq_range'];simpa using this
 |seq x y ihx ihy=>
  intro Q ρ F S m u w a hR hF hm h;have h':(az.bind (eS cx (exec cx n) x F S m) fun o=>match o.ex with
   | .normal=>eS cx (exec cx n) y o.F o.S o.m
   |_=>.ok o []).kQ (qp Λ ρ S w c₀ cs Q):=h
  refine wpSIn_seq (ihx _ ρ F S m u w a hR hF hm ((az.all_bind h').mono fun o ho ρ' e a' u' w' h0 iR h1 h2 h3=>?_));cases he:o.ex with
  |normal=>
   rw[he]at ho h0;cases h0;exact ihy Q ρ' o.F o.S o.m u' w' a' h1 h2 iR (ho.mono fun q hq=>hq.trans h3)
  |exit id=>rw[he]at ho;have:=ho.1 ρ' e a' u' w' (by rw[he]at h0⊢;exact h0) iR h1 h2 h3;rw[he]at h0;cases h0;exact this
  |ret=>rw[he]at ho;have:=ho.1 ρ' e a' u' w' (by rw[he]at h0⊢;exact h0) iR h1 h2 h3;rw[he]at h0;cases h0;exact this
  |goto l=>rw[he]at ho;have:=ho.1 ρ' e a' u' w' (by rw[he]at h0⊢;exact h0) iR h1 h2 h3;rw[he]at h0;cases h0;exact this
  |eO v=>rw[he]at ho;have:=ho.1 ρ' e a' u' w' (by rw[he]at h0⊢;exact h0) iR h1 h2 h3;rw[he]at h0;obtain⟨x,rfl,_⟩:=h0;exact this
 |cond x y z ihy ihz=>
  intro Q ρ F S m u w a hR hF hm h;have h':(match eval F x with
   | .bool true=>eS cx (exec cx n) y F S m
   | .bool false=>eS cx (exec cx n) z F S m
   |_=>.err 2201).kQ (qp Λ ρ S w c₀ cs Q):=h
  have hx:=hF.eval x;split at h'
  .rename_i he;rw[he]at hx;exact wpSIn_cond (t:=true) (by simpa[ai]using hx) (ihy Q ρ F S m u w a hR hF hm h')
  .rename_i he;rw[he]at hx;exact wpSIn_cond (t:=false) (by simpa[ai]using hx) (ihz Q ρ F S m u w a hR hF hm h')
  .exact h'.elim
 |block id b xu=>
  intro Q ρ F S m u w a hR hF hm h;have h':(az.bind (eS cx (exec cx n) b F S m) fun o=>match o.ex with
   | .exit j=>cond (Nat.beq j id) (.ok ⟨.normal,o.F,o.S,o.m⟩ []) (.ok o [])
   |_=>.ok o []).kQ (qp Λ ρ S w c₀ cs Q):=h
  refine FN (xu _ ρ F S m u w a hR hF hm ((az.all_bind h').mono fun o ho ρ' e a' u' w' h0 iR h1 h2 h3=>?_));cases he:o.ex with
  |normal=>rw[he]at ho;have:=ho.1 ρ' e a' u' w' (by rw[he]at h0⊢;exact h0) iR h1 h2 h3;rw[he]at h0;cases h0;exact this
  |ret=>rw[he]at ho;have:=ho.1 ρ' e a' u' w' (by rw[he]at h0⊢;exact h0) iR h1 h2 h3;rw[he]at h0;cases h0;exact this
  |goto l=>rw[he]at ho;have:=ho.1 ρ' e a' u' w' (by rw[he]at h0⊢;exact h0) iR h1 h2 h3;rw[he]at h0;cases h0;exact this
  |eO v=>rw[he]at ho;have:=ho.1 ρ' e a' u' w' (by rw[he]at h0⊢;exact h0) iR h1 h2 h3;rw[he]at h0;obtain⟨x,rfl,_⟩:=h0;exact this
  |exit j=>
   rw[he]at ho;simp only[bO]at ho;have h0':=h0;rw[he]at h0';cases h0';show if j=id then _ else _
   by_cases hj:j=id
   .rw[decide_eq_true hj]at ho;rw[if_pos hj];exact ho.1 ρ' .normal a' u' w' rfl iR h1 h2 h3
   .rw[decide_eq_false hj]at ho;rw[if_neg hj];exact ho.1 ρ' (.exit j) a' u' w' h0 iR h1 h2 h3
 |loop b _=>
  intro Q ρ F S m u w a hR hF hm h;have h':(cond (wE b) (.err 2202) (az.bind (exec cx n (.loop b) F S) fun o=>.ok (o.at m) [])).kQ (qp Λ ρ S w c₀ cs Q):=h;cases hr:wE b with
  |true=>rw[hr]at h';exact h'.elim
  |false=>rw[hr]at h';exact base _ Q ρ F S m u w a hR hF hm h'
 |rangeFunc f p x y _ _=>intro Q ρ F S m u w a hR hF hm h;exact (h:False).elim
 |scope b _=>intro Q ρ F S m u w a hR hF hm h;exact (h:False).elim
 |label l=>intro Q ρ F S m u w a hR hF hm h;exact (h:False).elim
 |goto l=>intro Q ρ F S m u w a hR hF hm h;exact (h:False).elim
 |refuse s=>intro Q ρ F S m u w a hR hF hm h;exact (h:False).elim
theorem wj{P:Program}{cx:Cx}(aF:dQ Λ P cx){n:Nat}(hc:qf Λ P cx n){fn:Func}{F:Fr}{tmps:Array Value}{ij:Ending->World->Prop}:
  ∀(ds:List ur)(l:List Deferred)(ρ:aY)(S:AS)(m:Md)(u:FrameMode)(w:World),R Λ ρ S w->Bd ρ F tmps->xP ρ ds l->kh ρ m u ->
  (fh cx (exec cx n) fn F ds m S).kQ (fun r=>∀ρ' e w',jB ρ' r.1 e->R Λ ρ' r.2 w'->Kp ρ S w ρ' r.2 w'->ij e w')->LeavesInM Fence.wide 0 P fn tmps ij l u w:=by
 intro ds
 induction ds with
 |nil=>
  intro l ρ S m u w hR hF sq hm h;simp only[xP]at sq;subst sq;cases m with
  |ret=>
   simp only[kh]at hm;subst hm;have h':(match cC cx fn F S with
    |some v=>(.ok (v,S) []:az (AV×AS))
    |none=>.err 2001).kQ (fun r=>∀ρ' e w',jB ρ' r.1 e->R Λ ρ' r.2 w'->Kp ρ S w ρ' r.2 w'->ij e w'):=h
   cases hv:cC cx fn F S with
   |none=>rw[hv]at h';exact h'.elim
   |some v=>
    rw[hv]at h';obtain⟨x,r1,r2⟩:=pC (P:=P) aF hR hF hv;exact⟨x,r1,h'.1 ρ _ w (jB.of r2) hR (Kp.refl _ _ _)⟩
  |eO v=>
   obtain⟨x,rfl,hx⟩:=hm;exact h.1 ρ _ w ⟨x,rfl,hx⟩ hR (Kp.refl _ _ _)
  |Vq v=>exact (h:False).elim
 |cons d ds ih=>
  intro l ρ S m u w hR hF sq hm h;obtain⟨y,ys,rfl,hd,jiN⟩:=sq;have hu:u≠.run:=by
   cases m with
   |ret=>simp only[kh]at hm;subst hm;intro e;cases e
   |eO v=>obtain⟨x,rfl,_⟩:=hm;intro e;cases e
   |Vq v=>obtain⟨x,rfl,_⟩:=hm;intro e;cases e
  refine⟨hu,?_⟩;cases d with
  |mark id=>
   left;obtain⟨pl,p1,p2⟩:=hd;have h':(match S.h.get id with
    |some (.j6 (.Bt true))=>fh cx (exec cx n) fn F ds m (mB S id (.Bt false))
    |_=>.err 2011).kQ (fun r=>∀ρ' e w',jB ρ' r.1 e->R Λ ρ' r.2 w'->Kp ρ S w ρ' r.2 w'->ij e w'):=h
   split at h'
   .rename_i ho;obtain⟨eA,o,q1,q2,q3,q4⟩:=hR.jE id _ ho;rw[p1]at q1;cases q1;have q3':o=.deferred (some []):=q3;subst q3';obtain⟨b1,b2⟩:=zy w (o:=.deferred none) q2;obtain⟨t1,t2⟩:=hR.Sf (x:=.Bt false) ho (by intro a b c d t e;cases e) p1 b1 b2 rfl q4;exact⟨pl.b,_,p2,run_takeDeferred q2,ih ys ρ _ m u _ t1 hF jiN hm (h'.mono fun r hr ρ' e w' k0 k1 k2=>hr ρ' e w' k0 k1 (t2.trans k2))⟩
   .exact h'.elim
  |call g as captured=>
   right;obtain⟨cap,p1,p2,p3⟩:=hd;refine⟨fun hh=>by simp[Fence.wide]at hh,?_⟩;have h':(match cx.fns.get g with
    |some gn=>match gn.body with
     |some c=>az.bind (eS cx (exec cx n) c (lP (gC as captured) gn.ntmps) S m) fun o=>match o.F.ds with
      |[]=>match pz o.ex o.m with
       |some m'=>match o.ex with
        | .eO _=>fh cx (exec cx n) fn F ds m' o.S
        |_=>match cC cx gn o.F o.S with
         |some _=>fh cx (exec cx n) fn F ds m' o.S
         |none=>.err 2012
       |none=>.err 2013
      |_=>.err 2014
     |none=>.err 2015
    |none=>.err 2016).kQ (fun r=>∀ρ' e w',jB ρ' r.1 e->R Λ ρ' r.2 w'->Kp ρ S w ρ' r.2 w'->ij e w'):=h
   cases hg:cx.fns.get g with
   |none=>rw[hg]at h';exact h'.elim
   |some gn=>
    rw[hg]at h';simp only[]at h';have hgn:=aF.fns g gn hg;cases hb:gn.body with
    |none=>rw[hb]at h';exact h'.elim
    |some c=>
     rw[hb]at h';simp only[]at h';have hen:=aF.enters g gn hgn (by rw[hb];rfl) (y.args++cap) w;refine⟨.func g,cap,g,y.args++cap,p1,?_,fun _ _=>trivial,callsDIn_of_wpSIn hgn hb trivial fun c₀ cs jiy=>?_⟩
     .rw[p1];exact hen
     .have pP:c₀={c₀ with mode:=u}:=by subst jiy;rfl
      rw[pP];have hl:ay ρ (gC as captured) (y.args++cap).toList:=by
       rw[bJ,Array.toList_append];exact p2.append p3
      refine VW aF hc (c₀:=c₀) (cs:=cs) c _ ρ _ S m u w _ hR (CN hl gn.ntmps) hm ((az.all_bind h').mono fun o ho ρ' e a' u' w' k0 km k1 k2 k3=>?_);cases jee:o.F.ds with
      |cons _ _=>rw[jee]at ho;exact ho.elim
      |nil=>
       rw[jee]at ho;simp only[]at ho;have Et:a'.defers=[]:=by
        have:=k2.defers;rw[jee]at this;exact this
       cases fI:pz o.ex o.m with
       |none=>rw[fI]at ho;exact ho.elim
       |some m'=>
        rw[fI]at ho;simp only[]at ho;have go:∀u2,kh ρ' m' u2->(fh cx (exec cx n) fn F ds m' o.S).kQ (fun r=>∀ρ' e w',jB ρ' r.1 e->R Λ ρ' r.2 w'->Kp ρ S w ρ' r.2 w'->ij e w')->LeavesInM Fence.wide 0 P fn tmps ij ys u2 w':=by
         intro u2 FA lr;exact ih ys ρ' _ m' u2 w' k1 (hF.mono k3.ext) (jiN.mono k3.ext) FA (lr.mono fun r hr ρ'' e yO j0 j1 j2=>hr ρ'' e yO j0 j1 (k3.trans j2))
        have ret:(∃v,(results gn a'.tmps).run P w'=.ok v w')->(fh cx (exec cx n) fn F ds m' o.S).kQ (fun r=>∀ρ' e w',jB ρ' r.1 e->R Λ ρ' r.2 w'->Kp ρ S w ρ' r.2 w'->ij e w')->kh ρ' m' (Go.settle u') ->
          a'.defers=[]/\∃u'',({c₀ with mode:=u'}::cs:List Frame)={ ({c₀ with mode:=u}:Frame)with mode:=u''}::cs/\∃v,(results gn a'.tmps).run P w'=.ok v w'/\LeavesInM Fence.wide 0 P fn tmps ij ys (Go.settle u'') w':=by
         rintro⟨v,hv⟩ lr FA;exact⟨Et,u',rfl,v,hv,go _ FA lr⟩
        have Mi:∀(b:Bool),o.ex=(if b then Ex.normal else Ex.ret)->kh ρ' m' (Go.settle u'):=by
         intro b hb;rw[hb]at fI;cases UM:o.m with
         |ret=>rw[UM]at fI km;simp only[kh]at km;subst km;cases b<;>(cases fI;exact rfl)
         |eO v=>rw[UM]at fI km;obtain⟨x,rfl,hx⟩:=km;cases b<;>(cases fI;exact⟨x,rfl,hx⟩)
         |Vq v=>rw[UM]at fI km;obtain⟨x,rfl,hx⟩:=km;cases b<;>(cases fI;exact rfl)
        cases hex:o.ex with
        |normal=>
         rw[hex]at ho k0;cases k0;simp only[]at ho;cases hv:cC cx gn o.F o.S with
         |none=>rw[hv]at ho;exact ho.elim
         |some v=>
          rw[hv]at ho;obtain⟨x,r1,_⟩:=pC (P:=P) aF k1 k2.R9 hv;exact ret ⟨x,r1⟩ ho (Mi true hex)
        |ret=>
         rw[hex]at ho k0;cases k0;simp only[]at ho;cases hv:cC cx gn o.F o.S with
         |none=>rw[hv]at ho;exact ho.elim
         |some v=>
          rw[hv]at ho;obtain⟨x,r1,_⟩:=pC (P:=P) aF k1 k2.R9 hv;exact ret ⟨x,r1⟩ ho (Mi false hex)
        |exit i=>rw[hex]at fI;cases UM:o.m<;>rw[UM]at fI<;>cases fI
        |goto l=>rw[hex]at fI;cases UM:o.m<;>rw[UM]at fI<;>cases fI
        |eO v=>
         rw[hex]at ho k0;obtain⟨x,rfl,hx⟩:=k0;rw[hex]at fI;cases UM:o.m with
         |ret=>
          rw[UM]at fI km;simp only[kh]at km;subst km;cases fI;exact⟨Et,.returning,rfl,go _ ⟨x,rfl,hx⟩ ho⟩
         |eO v'=>rw[UM]at fI;cases fI
         |Vq v'=>rw[UM]at fI;cases fI
end Go.Am
