/-
  The abstract machine: deferred calls, made in the logic of one outcome.
-/
import Derived.Test.YtdknlbnljfdhgaaGreatDoorAmWide
open Bool renaming and_eq_true->zza
set_option linter.unusedVariables false
set_option linter.unusedSimpArgs false
namespace Go.Am
open Go
def pL(cx:Cx)(ops:List Oper):List Oper->Fr->AS->(Fr->AS->Prop)->Prop
 |[],F,S,Q=>Q F S
 |o::l,F,S,Q=>dc o=none/\cond (bI o)
  (match bj ops F o.guard with
   |some true=>pL cx ops l (up F o.dst .bR) S Q
   |some false=>pL cx ops l (up F o.dst .undef) S Q
   |none=>False)
  (match bj ops F o.guard with
   |some true=>match bF cx F S o with
    | .val v S'=>pL cx ops l (up F o.dst v) S' Q
    |_=>False
   |some false=>pL cx ops l (up F o.dst .undef) S Q
   |none=>False)
def wpS(cx:Cx):Code->Fr->AS->(Ex->Fr->AS->Prop)->Prop
 | .skip,F,S,Q=>Q .normal F S
 | .ret,F,S,Q=>Q .ret F S
 | .exit id,F,S,Q=>Q (.exit id) F S
 | .region id ops draw,F,S,Q=>cond (ops.toList.any bI) (draw=false/\pL cx ops.toList ops.toList F S (Q .normal)) (mc cx (.region id ops draw) F S Q)
 | .seq a b,F,S,Q=>wpS cx a F S (ke (fun F' S'=>wpS cx b F' S' Q) Q)
 | .cond x a b,F,S,Q=>iH (eval F x) (wpS cx a F S Q) (wpS cx b F S Q)
 | .block id b,F,S,Q=>wpS cx b F S (jZ id Q)
 |_,_,_,_=>False
theorem Mw{cx:Cx}{ops:List Oper}:∀{l:List Oper}{F:Fr}{S:AS}{Q:Fr->AS->Prop},AD F.n l=true->pL cx ops l F S Q ->
  (fp cx DX ops l F S .ret).One fun o=>o.ex=.normal/\o.m=.ret/\Q o.F o.S/\Fx F o.F
 |[],F,S,Q,_,h=>⟨_,rfl,rfl,rfl,h,Fx.refl F⟩
 |o::l,F,S,Q,hd,h=>by
  have j7:(BT F.n o&&AD F.n l)=true:=hd;rw[zza]at j7;have yB:fp cx DX ops (o::l) F S .ret=(match dc o with
   |some _=>.err 1011
   |none=>cond (bI o)
    (match wanted ops F o with
    |some true=>fp cx DX ops l (bQ F o.dst .bR) S .ret
    |some false=>fp cx DX ops l (bQ F o.dst .undef) S .ret
    |none=>.err 1012)
    (az.bind (one cx DX ops o F S) fun r=>cond r.1 (.ok ⟨.eO r.2.1,F,r.2.2,.ret⟩ []) (fp cx DX ops l (bQ F o.dst r.2.1) r.2.2 .ret))):=rfl
  have h0:dc o=none/\cond (bI o)
   (match bj ops F o.guard with
    |some true=>pL cx ops l (up F o.dst .bR) S Q
    |some false=>pL cx ops l (up F o.dst .undef) S Q
    |none=>False)
   (match bj ops F o.guard with
    |some true=>match bF cx F S o with
     | .val v S'=>pL cx ops l (up F o.dst v) S' Q
     |_=>False
    |some false=>pL cx ops l (up F o.dst .undef) S Q
    |none=>False):=h
  obtain⟨h1,h2⟩:=h0;rw[yB,h1];simp only[];have fin:∀{v:AV}{S':AS},pL cx ops l (up F o.dst v) S' Q->(fp cx DX ops l (bQ F o.dst v) S' .ret).One fun o=>o.ex=.normal/\o.m=.ret/\Q o.F o.S/\Fx F o.F:=fun h=>by
   rw[pI _ j7.1];exact (Mw (l:=l) (by rw[nc];exact j7.2) h).mono fun r hr=>⟨hr.1,hr.2.1,hr.2.2.1,hr.2.2.2.MA⟩
  cases hr:bI o with
  |true=>
   rw[hr,cond_true]at h2;rw[cond_true];simp only[iU];cases hw:bj ops F o.guard with
   |none=>rw[hw]at h2;exact h2.elim
   |some b=>
    rw[hw]at h2;cases b with
    |true=>exact fin h2
    |false=>exact fin h2
  |false=>
   rw[hr,cond_false]at h2;rw[cond_false];unfold one;simp only[iU];cases hw:bj ops F o.guard with
   |none=>rw[hw]at h2;exact h2.elim
   |some b=>
    rw[hw]at h2;cases b with
    |true=>
     simp only[]at h2⊢;cases ha:bF cx F S o with
     |val v S'=>rw[ha]at h2;exact az.One.bind ⟨_,rfl,fin h2⟩
     |enter f as S'=>rw[ha]at h2;exact h2.elim
     |err n=>rw[ha]at h2;exact h2.elim
     |round f as S'=>rw[ha]at h2;exact h2.elim
     |eO v S'=>rw[ha]at h2;exact h2.elim
     |many l=>rw[ha]at h2;exact h2.elim
    |false=>exact az.One.bind ⟨_,rfl,fin h2⟩
theorem pS{cx:Cx}{n m:Nat}(h:n<=m)(c:Code)(F:Fr)(S:AS)(k:Md):az.Le (eS cx (exec cx n) c F S k) (eS cx (exec cx m) c F S k):=HS (fun c F S=>cP h c F S) c F S k
theorem jcf{cx:Cx}:∀(c:Code){F:Fr}{S:AS}{Q:Ex->Fr->AS->Prop},codeOk cx F.n c=true->wpS cx c F S Q->∃n,(eS cx (exec cx n) c F S .ret).One fun o=>Q o.ex o.F o.S/\o.m=.ret/\Fx F o.F:=by
 intro c
 induction c with
 |skip=>intro F S Q _ h;exact⟨0,_,rfl,h,rfl,Fx.refl F⟩
 |ret=>intro F S Q _ h;exact⟨0,_,rfl,h,rfl,Fx.refl F⟩
 |exit id=>intro F S Q _ h;exact⟨0,_,rfl,h,rfl,Fx.refl F⟩
 |region id ops draw=>
  intro F S Q hc h;have h0:cond (ops.toList.any bI) (draw=false/\pL cx ops.toList ops.toList F S (Q .normal)) (mc cx (.region id ops draw) F S Q):=h;have e:∀n,eS cx (exec cx n) (.region id ops draw) F S .ret=cond (ops.toList.any bI) (cond draw (.err 2200) (fp cx DX ops.toList ops.toList F S .ret)) (az.bind (exec cx n (.region id ops draw) F S) fun o=>.ok (o.at .ret) []):=fun n=>rfl;cases hr:ops.toList.any bI with
  |true=>
   rw[hr,cond_true]at h0;obtain⟨rfl,h1⟩:=h0;refine⟨0,?_⟩;rw[e,hr,cond_true,cond_false];exact (Mw hc h1).mono fun o ho=>⟨by rw[ho.1];exact ho.2.2.1,ho.2.1,ho.2.2.2⟩
  |false=>
   rw[hr,cond_false]at h0;obtain⟨n,h1⟩:=Jo _ hc h0;refine⟨n,?_⟩;rw[e,hr,cond_false];exact az.One.bind (h1.mono fun o ho=>⟨_,rfl,ho.1,rfl,ho.2⟩)
 |seq a b Ef xu=>
  intro F S Q hc h;have jF:(codeOk cx F.n a&&codeOk cx F.n b)=true:=hc;rw[zza]at jF;obtain⟨n,o,h1,h2,hm,h3⟩:=Ef jF.1 (show wpS cx a F S (ke (fun F' S'=>wpS cx b F' S' Q) Q) from h);obtain⟨ex,F2,S2,m2⟩:=o;have h3:Fx F F2:=h3;have hm:m2=.ret:=hm;subst hm;have h4:∃m,((match ex with | .normal=>eS cx (exec cx m) b F2 S2 .ret|_=>.ok ⟨ex,F2,S2,.ret⟩ []):az Cd).One fun o=>Q o.ex o.F o.S/\o.m=.ret/\Fx F o.F:=by
   cases ex with
   |normal=>
    obtain⟨m,h5⟩:=xu (F:=F2) (S:=S2) (Q:=Q) (by rw[h3.1];exact jF.2) h2;exact⟨m,h5.mono fun o ho=>⟨ho.1,ho.2.1,h3.trans ho.2.2⟩⟩
   |exit id=>exact⟨0,_,rfl,h2,rfl,h3⟩
   |ret=>exact⟨0,_,rfl,h2,rfl,h3⟩
   |goto l=>exact⟨0,_,rfl,h2,rfl,h3⟩
   |eO v=>exact⟨0,_,rfl,h2,rfl,h3⟩
  obtain⟨m,h4⟩:=h4;refine⟨n+m,?_⟩;show (az.bind (eS cx (exec cx (n+m)) a F S .ret) fun o=>match o.ex with | .normal=>eS cx (exec cx (n+m)) b o.F o.S o.m|_=>.ok o []).One _;refine az.One.bind ⟨⟨ex,F2,S2,.ret⟩,pS (Nat.le_add_right n m) a F S .ret _ _ h1,?_⟩;cases ex with
  |normal=>exact (pS (Nat.le_add_left m n) b F2 S2 .ret).one h4
  |goto l=>exact h4
  |eO v=>exact h4
  |exit id=>exact h4
  |ret=>exact h4
 |cond x a b Ef xu=>
  intro F S Q hc h;have jF:(codeOk cx F.n a&&codeOk cx F.n b)=true:=hc;rw[zza]at jF;have h0:iH (eval F x) (wpS cx a F S Q) (wpS cx b F S Q):=h;have e:∀n,eS cx (exec cx n) (.cond x a b) F S .ret=(match eval F x with
   | .bool true=>eS cx (exec cx n) a F S .ret
   | .bool false=>eS cx (exec cx n) b F S .ret
   |_=>.err 2201):=fun n=>rfl
  unfold iH at h0;split at h0
  .rename_i t ht;cases t with
   |true=>obtain⟨n,h1⟩:=Ef jF.1 (h0.1 rfl);exact⟨n,by rw[e,ht];exact h1⟩
   |false=>obtain⟨n,h1⟩:=xu jF.2 (h0.2 rfl);exact⟨n,by rw[e,ht];exact h1⟩
  .exact h0.elim
 |block id b ih=>
  intro F S Q hc h;obtain⟨n,o,h1,h2,hm,h3⟩:=ih (F:=F) hc (show wpS cx b F S (jZ id Q) from h);refine⟨n,?_⟩;show (az.bind (eS cx (exec cx n) b F S .ret) fun o=>match o.ex with
   | .exit j=>cond (Nat.beq j id) (.ok ⟨.normal,o.F,o.S,o.m⟩ []) (.ok o [])
   |_=>.ok o []).One _
  refine az.One.bind ⟨o,h1,?_⟩;obtain⟨ex,F2,S2,m2⟩:=o;have hm:m2=.ret:=hm;subst hm;cases ex with
  |exit j=>
   have h2:(if j=id then Q .normal F2 S2 else Q (.exit j) F2 S2):=h2;show (cond (Nat.beq j id) (.ok ⟨.normal,F2,S2,.ret⟩ []) (.ok ⟨.exit j,F2,S2,.ret⟩ []):az Cd).One _;by_cases hj:j=id
   .rw[if_pos hj]at h2;rw[show Nat.beq j id=true from by rw[hj];exact Nat.beq_refl id];exact⟨_,rfl,h2,rfl,h3⟩
   .rw[if_neg hj]at h2;rw[show Nat.beq j id=false from by cases hb:Nat.beq j id with|false=>rfl|true=>exact absurd (Nat.eq_of_beq_eq_true hb) hj];exact⟨_,rfl,h2,rfl,h3⟩
  |normal=>exact⟨_,rfl,h2,rfl,h3⟩
  |ret=>exact⟨_,rfl,h2,rfl,h3⟩
  |goto l=>exact⟨_,rfl,h2,rfl,h3⟩
  |eO v=>exact⟨_,rfl,h2,rfl,h3⟩
 |loop b _=>intro F S Q _ h;exact (show False from h).elim
 |rangeFunc x p a b _ _=>intro F S Q _ h;exact (show False from h).elim
 |scope b _=>intro F S Q _ h;exact (show False from h).elim
 |label l=>intro F S Q _ h;exact (show False from h).elim
 |goto l=>intro F S Q _ h;exact (show False from h).elim
 |refuse w=>intro F S Q _ h;exact (show False from h).elim
def Dz(cx:Cx)(gn:Func)(K:AS->Prop):Ex->Fr->AS->Prop
 | .exit _,_,_=>False
 | .goto _,_,_=>False
 | .eO _,_,_=>False
 |_,F,S=>(∃v,cC cx gn F S=some v)/\K S
section
variable{cx:Cx}{ops l:List Oper}{o:Oper}{F:Fr}{S:AS}{K:AV->AS->Prop}{Q:Ex->Fr->AS->Prop}{R:Fr->AS->Prop}
def jeU(o:Option Call)(a:Prop)(b:Call->Prop):Prop:=match o with|none=>a|some c=>b c
theorem Qu{a:Prop}{b:Call->Prop}:jeU none a b=a:=rfl
theorem Qt{c:Call}{a:Prop}{b:Call->Prop}:jeU (some c) a b=b c:=rfl
theorem jfW{n:Nat}{ds:List ur}{t:Nat}:sl ⟨F.t,n,ds⟩ t=sl F t:=rfl
theorem Js:bj ops F none=some true:=rfl
theorem wpS_seq{a b:Code}:wpS cx (.seq a b) F S Q=wpS cx a F S (ke (fun F' S'=>wpS cx b F' S' Q) Q):=rfl
theorem wpS_cond{x:Operand}{a b:Code}:wpS cx (.cond x a b) F S Q=iH (eval F x) (wpS cx a F S Q) (wpS cx b F S Q):=rfl
theorem N9{id:Nat}{b:Code}:wpS cx (.block id b) F S Q=wpS cx b F S (jZ id Q):=rfl
theorem wpS_region{id:Nat}{l:List Oper}{d:Bool}:wpS cx (.region id l.toArray d) F S Q=cond (l.any bI) (d=false/\pL cx l l F S (Q .normal)) (mc cx (.region id l.toArray d) F S Q):=rfl
theorem RB:wpS cx .skip F S Q=Q .normal F S:=rfl
theorem XB:wpS cx .ret F S Q=Q .ret F S:=rfl
theorem RC{id:Nat}:wpS cx (.exit id) F S Q=Q (.exit id) F S:=rfl
theorem zh{gn:Func}{H:AS->Prop}:Dz cx gn H .normal F S=((∃v,cC cx gn F S=some v)/\H S):=rfl
theorem Gu{gn:Func}{H:AS->Prop}:Dz cx gn H .ret F S=((∃v,cC cx gn F S=some v)/\H S):=rfl
end
attribute [simp] jfW dc bI Qu Qt Js wpS_seq wpS_cond N9 wpS_region RB XB RC zh Gu
end Go.Am
