/-
  The abstract machine: more fuel gives the same answer.
-/
import Derived.Test.YtdknlbnljfdhgaaGreatDoorAmTop
namespace Go.Am
open Go
set_option linter.unusedSimpArgs false
set_option linter.unusedVariables false
def av.Le{α:Type}(r r':av α):Prop:=∀x xs,r=.ok x xs->r'=.ok x xs
theorem av.Le.refl{α:Type}(r:av α):av.Le r r:=fun _ _ h=>h
theorem av.Le.trans{α:Type}{a b c:av α}(h:av.Le a b)(k:av.Le b c):av.Le a c:=fun x xs e=>k x xs (h x xs e)
theorem av.Le.err{α:Type}(n:Nat)(r:av α):av.Le (.err n) r:=fun _ _ h=>by cases h
theorem av.Le.app{α:Type}{a a' b b':av α}(h:av.Le a a')(k:av.Le b b'):av.Le (av.app a b) (av.app a' b'):=by
 intro x xs e;cases a with
 |err n=>cases e
 |ok y ys=>
  cases b with
  |err n=>cases e
  |ok z zs=>
   have h1:=h y ys rfl;have h2:=k z zs rfl;subst h1 h2;exact e
theorem av.Le.bind{α β:Type}{r r':av α}{f f':α->av β}(h:av.Le r r')(k:∀x,av.Le (f x) (f' x)):av.Le (av.bind r f) (av.bind r' f'):=by
 cases r with
 |err n=>exact .err _ _
 |ok x xs=>
  have h1:=h x xs rfl;subst h1;cases xs with
  |nil=>exact k x
  |cons y ys=>
   have e:∀g:α->av β,av.bind (.ok x (y::ys)) g=av.app (g x) (List.rec (motive:=fun _=>α->av β) (fun y=>g y) (fun z _ ih y=>av.app (g y) (ih z)) ys y):=fun g=>rfl;rw[e,e];refine .app (k x) ?_;clear e h
   induction ys generalizing y with
   |nil=>exact k y
   |cons z zs ih=>exact .app (k y) (ih z)
theorem av.Le.yD{α:Type}{r r':av α}(h:av.Le r r'):av.Le (av.yD r) (av.yD r'):=by
 cases r with
 |err n=>exact .err _ _
 |ok x xs=>rw[h x xs rfl];exact .refl _
def KLe(K K':eW):Prop:=∀f as S,av.Le (K f as S) (K' f as S)
theorem one_le{cx:Cx}{K K':eW}(h:KLe K K')(ops:List Oper)(o:Oper)(F:Fr)(S:AS):av.Le (one cx K ops o F S) (one cx K' ops o F S):=by
 unfold one;split
 .split
  .exact .refl _
  .exact .bind (h _ _ _) fun _=>.refl _
  .exact .bind (h _ _ _) fun _=>.refl _
  .exact .refl _
  .exact .refl _
  .exact .refl _
 .exact .refl _
 .exact .refl _
theorem cond_le{α:Type}{b:Bool}{p k k':av α}(h:av.Le k k'):av.Le (cond b p k) (cond b p k'):=by
 cases b<;>first|exact h|exact .refl _
theorem notPan_le{α:Type}{v:AV}{p:AV->av α}{k k':av α}(h:av.Le k k'):av.Le (rD v p k) (rD v p k'):=by
 cases v<;>first|exact h|exact .refl _
theorem kS{cx:Cx}{K K':eW}(h:KLe K K')(ops:List Oper):∀(l:List Oper)(F:Fr)(S:AS),av.Le (cY cx K ops l F S) (cY cx K' ops l F S)
 |[],F,S=>.refl _
 |o::l,F,S=>by
  show av.Le (match cM o with
   |none=>av.bind (one cx K ops o F S) fun r=>cond r.1 (.ok (some r.2.1,F,r.2.2) []) (cY cx K ops l (bG F o.dst r.2.1) r.2.2)
   |some c=>match wanted ops F o with
    |some true=>match gM F c with
     |some d=>cY cx K ops l (bG ⟨F.t,F.n,d::F.ds⟩ o.dst .undef) S
     |none=>.err 1009
    |some false=>cY cx K ops l (bG F o.dst .undef) S
    |none=>.err 1010) (match cM o with
   |none=>av.bind (one cx K' ops o F S) fun r=>cond r.1 (.ok (some r.2.1,F,r.2.2) []) (cY cx K' ops l (bG F o.dst r.2.1) r.2.2)
   |some c=>match wanted ops F o with
    |some true=>match gM F c with
     |some d=>cY cx K' ops l (bG ⟨F.t,F.n,d::F.ds⟩ o.dst .undef) S
     |none=>.err 1009
    |some false=>cY cx K' ops l (bG F o.dst .undef) S
    |none=>.err 1010)
  split
  .exact .bind (one_le h ops o F S) fun r=>cond_le (kS h ops l _ _)
  .split
   .split
    .exact kS h ops l _ _
    .exact .refl _
   .exact kS h ops l _ _
   .exact .refl _
theorem ik{cx:Cx}{K K':eW}(h:KLe K K')(ops:List Oper):∀(l:List Row)(F:Fr)(S:AS)(ps:List ey)(sn:List AS)(id:Nat),av.Le (cL cx K ops l F S ps sn id) (cL cx K' ops l F S ps sn id)
 |[],F,S,ps,sn,id=>.refl _
 |r::l,F,S,ps,sn,id=>by
  have e:∀K,cL cx K ops (r::l) F S ps sn id=(match r.cls with
   | .fresh=>match wanted ops F r.o with
    |some true=>match aA cx F id r.o.op with
     |some (v,x)=>cL cx K ops l (bG F r.o.dst v) S (⟨r.i,id,x⟩::ps) sn (Nat.succ id)
     |none=>.err 1001
    |some false=>cL cx K ops l (bG F r.o.dst .undef) S ps sn id
    |none=>.err 1002
   | .yV=>
    av.bind (av.yD (one cx K ops r.o F (bf (fun p=>bit r.dL p.i) ps S))) fun q=>cond q.1 (cond (ew (fun q=>bit q.dL r.i) l) (.ok (some (r.i,q.2.1,q.2.2),F,S,S::sn) []) (.err 1007)) (cL cx K ops l (bG F r.o.dst q.2.1) q.2.2 (jE (fun p=>!bit r.dL p.i) ps) (S::sn) id)
   |_=>match fG cx ops F S r.o with
    |some v=>cL cx K ops l (bG F r.o.dst v) S ps sn id
    |none=>.err 1006):=fun K=>rfl
  rw[e,e];cases r.cls with
  |fresh=>
   simp only[];split
   .split
    .exact ik h ops l _ _ _ _ _
    .exact .refl _
   .exact ik h ops l _ _ _ _ _
   .exact .refl _
  |yV=>exact .bind (.yD (one_le h ops _ _ _)) fun q=>cond_le (ik h ops l _ _ _ _ _)
  |pure=>
   simp only[];split
   .exact ik h ops l _ _ _ _ _
   .exact .refl _
  |read=>
   simp only[];split
   .exact ik h ops l _ _ _ _ _
   .exact .refl _
theorem DG{cx:Cx}{K K':eW}(h:KLe K K')(ops:List Oper)(F:Fr)(S:AS):av.Le (fb cx K ops F S) (fb cx K' ops F S):=by
 unfold fb;simp only[];cases ir ops (settle (dx cx ops))with
 |false=>exact .refl _
 |true=>
  simp only[cond_true];exact .bind (ik h ops _ _ _ _ _ _) fun r=>.refl _
theorem av.Le.code{ih qW:Code->Fr->AS->av Out}(h:∀c F S,av.Le (ih c F S) (qW c F S)){m:Md}{c:Code}{F:Fr}{S:AS}:av.Le (av.bind (ih c F S) fun o=>(.ok (o.at m) []:av zq)) (av.bind (qW c F S) fun o=>.ok (o.at m) []):=.bind (h c F S) fun _=>.refl _
theorem E0{cx:Cx}{ih qW:Code->Fr->AS->av Out}(h:∀c F S,av.Le (ih c F S) (qW c F S)):∀(c:Code)(F:Fr)(S:AS)(m:Md),av.Le (dR cx ih c F S m) (dR cx qW c F S m):=by
 intro c
 induction c with
 |region id ops draw=>
  intro F S m;show av.Le (cond (ops.toList.any bu) (cond draw (.err 2200) (eE cx By ops.toList ops.toList F S m)) (av.bind (ih (.region id ops draw) F S) fun o=>.ok (o.at m) []))
   (cond (ops.toList.any bu) (cond draw (.err 2200) (eE cx By ops.toList ops.toList F S m)) (av.bind (qW (.region id ops draw) F S) fun o=>.ok (o.at m) []))
  cases ops.toList.any bu with
  |true=>exact .refl _
  |false=>exact .code h
 |seq x y ihx ihy=>
  intro F S m;show av.Le (av.bind (dR cx ih x F S m) fun o=>match o.ex with
   | .normal=>dR cx ih y o.F o.S o.m
   |_=>.ok o []) (av.bind (dR cx qW x F S m) fun o=>match o.ex with
   | .normal=>dR cx qW y o.F o.S o.m
   |_=>.ok o [])
  refine .bind (ihx F S m) fun o=>?_;cases o.ex<;>first|exact ihy _ _ _|exact .refl _
 |cond x y z ihy ihz=>
  intro F S m;show av.Le (match eval F x with
   | .bool true=>dR cx ih y F S m
   | .bool false=>dR cx ih z F S m
   |_=>.err 2201) (match eval F x with
   | .bool true=>dR cx qW y F S m
   | .bool false=>dR cx qW z F S m
   |_=>.err 2201)
  split
  .exact ihy _ _ _
  .exact ihz _ _ _
  .exact .refl _
 |block id b uS=>intro F S m;exact .bind (uS F S m) fun _=>.refl _
 |loop b _=>
  intro F S m;show av.Le (cond (uf b) (.err 2202) (av.bind (ih (.loop b) F S) fun o=>.ok (o.at m) [])) (cond (uf b) (.err 2202) (av.bind (qW (.loop b) F S) fun o=>.ok (o.at m) []));cases uf b with
  |true=>exact .refl _
  |false=>exact .code h
 |_=>intros;exact .refl _
theorem gz{cx:Cx}{ih qW:Code->Fr->AS->av Out}(h:∀c F S,av.Le (ih c F S) (qW c F S))(fn:Func)(F:Fr):∀(ds:List sa)(m:Md)(S:AS),av.Le (ei cx ih fn F ds m S) (ei cx qW fn F ds m S)
 |[],m,S=>.refl _
 |d::ds,m,S=>by
  have e:∀ih,ei cx ih fn F (d::ds) m S=(match d with
   | .mark id=>match S.h.get id with
    |some (.jk (.yw true))=>ei cx ih fn F ds m (lh S id (.yw false))
    |_=>.err 2011
   | .call g as captured=>match cx.fns.get g with
    |some gn=>match gn.body with
     |some c=>av.bind (dR cx ih c (kB (fH as captured) gn.ntmps) S m) fun o=>match o.F.ds with
      |[]=>match nu o.ex o.m with
       |some m'=>match o.ex with
        | .dP _=>ei cx ih fn F ds m' o.S
        |_=>match b9 cx gn o.F o.S with
         |some _=>ei cx ih fn F ds m' o.S
         |none=>.err 2012
       |none=>.err 2013
      |_=>.err 2014
     |none=>.err 2015
    |none=>.err 2016):=fun ih=>rfl
  rw[e,e];split
  .split
   .exact gz h fn F ds _ _
   .exact .refl _
  .split
   .split
    .refine .bind (E0 h _ _ _ _) fun o=>?_;split
     .split
      .split
       .exact gz h fn F ds _ _
       .split
        .exact gz h fn F ds _ _
        .exact .refl _
      .exact .refl _
     .exact .refl _
    .exact .refl _
   .exact .refl _
theorem fnF_le{cx:Cx}{ih qW:Code->Fr->AS->av Out}(h:∀c F S,av.Le (ih c F S) (qW c F S))(f:FuncId)(as:List AV)(S:AS):av.Le (fnF cx ih f as S) (fnF cx qW f as S):=by
 unfold fnF;split
 .exact .refl _
 .split
  .split
   .refine .bind (h _ _ _) fun o=>?_;split
    .exact .refl _
    .exact .refl _
    .exact gz h _ _ _ _ _
    .exact gz h _ _ _ _ _
   .exact .refl _
  .exact .refl _
theorem roundF_le{ih qW:Code->Fr->AS->av Out}(h:∀c F S,av.Le (ih c F S) (qW c F S))(id:Nat)(as:List AV)(S:AS):av.Le (oR ih id as S) (oR qW id as S):=by
 unfold oR;split
 .split
  .refine .bind (h _ _ _) fun o=>?_;split
   .split
    .exact .bind (h _ _ _) fun _=>.refl _
    .exact .refl _
   .exact .refl _
  .exact .refl _
 .exact .refl _
theorem xR{cx:Cx}{ih qW:Code->Fr->AS->av Out}(h:∀c F S,av.Le (ih c F S) (qW c F S)):KLe (cy cx ih) (cy cx qW):=by
 intro t as S;cases t with
 |round id=>exact roundF_le h id as S
 |fn f=>
  show av.Le (qQ cx ih f as S) (qQ cx qW f as S);unfold qQ;cases cx.jS.get f with
  |none=>exact fnF_le h f as S
  |some u=>exact .err _ _
theorem scopeF_le{ih qW:Code->Fr->AS->av Out}(h:∀c F S,av.Le (ih c F S) (qW c F S))(b:Code):∀(n:Nat)(c:Code)(F:Fr)(S:AS),av.Le (oP ih b n c F S) (oP qW b (n+1) c F S):=by
 intro n
 induction n with
 |zero=>intro c F S;exact .err _ _
 |succ n rec=>
  intro c F S;show av.Le (av.bind (ih c F S) fun o=>match o.ex with
   | .goto l=>match findLabel b l with
    |some rest=>oP ih b n rest o.F o.S
    |none=>.ok o []
   |_=>.ok o []) (av.bind (qW c F S) fun o=>match o.ex with
   | .goto l=>match findLabel b l with
    |some rest=>oP qW b (n+1) rest o.F o.S
    |none=>.ok o []
   |_=>.ok o [])
  refine .bind (h _ _ _) fun o=>?_;split
  .split
   .exact rec _ _ _
   .exact .refl _
  .exact .refl _
theorem rangeF_le{cx:Cx}{ih qW:Code->Fr->AS->av Out}(h:∀c F S,av.Le (ih c F S) (qW c F S))(x:Operand)(ps:Array Tmp)(a b:Code)(F:Fr)(S:AS):av.Le (pe cx ih x ps a b F S) (pe cx qW x ps a b F S):=by
 unfold pe;cases (cP a&&cP b)with
 |false=>exact .refl _
 |true=>
  simp only[cond_true];split
  .refine .bind (xR h _ _ _) fun r=>?_;unfold pg;refine notPan_le ?_;split
   .exact .refl _
   .split
    .exact .refl _
    .exact h _ _ _
   .exact .refl _
  .exact .refl _
theorem exec_le{cx:Cx}:∀(n:Nat)(c:Code)(F:Fr)(S:AS),av.Le (exec cx n c F S) (exec cx (n+1) c F S):=by
 intro n
 induction n with
 |zero=>intro c F S;exact .err _ _
 |succ n ih=>
  intro c F S;have hK:=xR (cx:=cx) ih;cases c with
  |skip=>exact .refl _
  |ret=>exact .refl _
  |exit id=>exact .refl _
  |region id ops draw=>
   cases draw with
   |false=>
    show av.Le (av.bind (cY cx (cy cx (exec cx n)) ops.toList ops.toList F S) _) (av.bind (cY cx (cy cx (exec cx (n+1))) ops.toList ops.toList F S) _);exact .bind (kS hK _ _ _ _) fun r=>.refl _
   |true=>
    show av.Le (av.bind (fb cx (cy cx (exec cx n)) ops.toList F S) _) (av.bind (fb cx (cy cx (exec cx (n+1))) ops.toList F S) _);exact .bind (DG hK _ _ _) fun r=>.refl _
  |seq x y=>
   show av.Le (av.bind (exec cx n x F S) fun o=>match o.ex with
    | .normal=>exec cx n y o.F o.S
    |_=>.ok o []) (av.bind (exec cx (n+1) x F S) fun o=>match o.ex with
    | .normal=>exec cx (n+1) y o.F o.S
    |_=>.ok o [])
   refine .bind (ih _ _ _) fun o=>?_;cases o.ex<;>first|exact ih _ _ _|exact .refl _
  |cond x y z=>
   show av.Le (match eval F x with
    | .bool true=>exec cx n y F S
    | .bool false=>exec cx n z F S
    |_=>.err 3001) (match eval F x with
    | .bool true=>exec cx (n+1) y F S
    | .bool false=>exec cx (n+1) z F S
    |_=>.err 3001)
   split
   .exact ih _ _ _
   .exact ih _ _ _
   .exact .refl _
  |block id b=>
   exact .bind (ih b F S) fun o=>.refl _
  |loop b=>
   show av.Le (av.bind (exec cx n b F S) fun o=>match o.ex with
    | .normal=>exec cx n (.loop b) o.F o.S
    |_=>.ok o []) (av.bind (exec cx (n+1) b F S) fun o=>match o.ex with
    | .normal=>exec cx (n+1) (.loop b) o.F o.S
    |_=>.ok o [])
   refine .bind (ih _ _ _) fun o=>?_;cases o.ex<;>first|exact ih _ _ _|exact .refl _
  |rangeFunc f p x y=>exact rangeF_le ih f p x y F S
  |scope b=>exact scopeF_le ih b n b F S
  |label l=>exact .refl _
  |goto l=>exact .refl _
  |refuse s=>exact .refl _
theorem cr{cx:Cx}{n m:Nat}(h:n<=m)(c:Code)(F:Fr)(S:AS):av.Le (exec cx n c F S) (exec cx m c F S):=by
 induction h with
 |refl=>exact .refl _
 |step _ ih=>exact ih.trans (exec_le _ c F S)
theorem gC{cx:Cx}{n m:Nat}(h:n<=m):KLe (cy cx (exec cx n)) (cy cx (exec cx m)):=xR fun c F S=>cr h c F S
end Go.Am
