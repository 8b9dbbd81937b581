/-
  The abstract machine: more fuel gives the same answer.
-/
import Derived.Test.YthklfandhmkpiaaGreatDoorAmTop
set_option linter.unusedVariables false
set_option linter.unusedSimpArgs false
namespace Go.Am
open Go
def aC.Le{α:Type}(r r':aC α):Prop:=∀x xs,r=.ok x xs->r'=.ok x xs
theorem aC.Le.refl{α:Type}(r:aC α):aC.Le r r:=fun _ _ h=>h
theorem aC.Le.trans{α:Type}{a b c:aC α}(h:aC.Le a b)(k:aC.Le b c):aC.Le a c:=fun x xs e=>k x xs (h x xs e)
theorem aC.Le.err{α:Type}(n:Nat)(r:aC α):aC.Le (.err n) r:=fun _ _ h=>by cases h
theorem aC.Le.app{α:Type}{a a' b b':aC α}(h:aC.Le a a')(k:aC.Le b b'):aC.Le (aC.app a b) (aC.app a' b'):=by
 intro x xs e;cases a with
 |err n=>cases e
 |ok y ys=>
  cases b with
  |err n=>cases e
  |ok z zs=>
   have h1:=h y ys rfl;have h2:=k z zs rfl;subst h1 h2;exact e
theorem aC.Le.bind{α β:Type}{r r':aC α}{f f':α->aC β}(h:aC.Le r r')(k:∀x,aC.Le (f x) (f' x)):aC.Le (aC.bind r f) (aC.bind r' f'):=by
 cases r with
 |err n=>exact .err _ _
 |ok x xs=>
  have h1:=h x xs rfl;subst h1;cases xs with
  |nil=>exact k x
  |cons y ys=>
   have e:∀g:α->aC β,aC.bind (.ok x (y::ys)) g=aC.app (g x) (List.rec (motive:=fun _=>α->aC β) (fun y=>g y) (fun z _ ih y=>aC.app (g y) (ih z)) ys y):=fun g=>rfl;rw[e,e];refine .app (k x) ?_;clear e h
   induction ys generalizing y with
   |nil=>exact k y
   |cons z zs ih=>exact .app (k y) (ih z)
theorem aC.Le.tI{α:Type}{r r':aC α}(h:aC.Le r r'):aC.Le (aC.tI r) (aC.tI r'):=by
 cases r with
 |err n=>exact .err _ _
 |ok x xs=>rw[h x xs rfl];exact .refl _
def KLe(K K':bO):Prop:=∀f as S,aC.Le (K f as S) (K' f as S)
theorem one_le{cx:Cx}{K K':bO}(h:KLe K K')(ops:List Oper)(o:Oper)(F:Fr)(S:AS):aC.Le (one cx K ops o F S) (one cx K' ops o F S):=by
 unfold one;split
 .split
  .exact .refl _
  .exact .bind (h _ _ _) fun _=>.refl _
  .exact .bind (h _ _ _) fun _=>.refl _
  .exact .refl _
  .exact .refl _
  .exact .refl _
 .exact .refl _
 .exact .refl _
theorem cond_le{α:Type}{b:Bool}{p k k':aC α}(h:aC.Le k k'):aC.Le (cond b p k) (cond b p k'):=by
 cases b<;>first|exact h|exact .refl _
theorem notPan_le{α:Type}{v:AV}{p:AV->aC α}{k k':aC α}(h:aC.Le k k'):aC.Le (mW v p k) (mW v p k'):=by
 cases v<;>first|exact h|exact .refl _
theorem lW{cx:Cx}{K K':bO}(h:KLe K K')(ops:List Oper):∀(l:List Oper)(F:Fr)(S:AS),aC.Le (cP cx K ops l F S) (cP cx K' ops l F S)
 |[],F,S=>.refl _
 |o::l,F,S=>by
  show aC.Le (match dW o with
   |none=>aC.bind (one cx K ops o F S) fun r=>cond r.1 (.ok (some r.2.1,F,r.2.2) []) (cP cx K ops l (bw F o.dst r.2.1) r.2.2)
   |some c=>match wanted ops F o with
    |some true=>match lE F c with
     |some d=>cP cx K ops l (bw ⟨F.t,F.n,d::F.ds⟩ o.dst .undef) S
     |none=>.err 1009
    |some false=>cP cx K ops l (bw F o.dst .undef) S
    |none=>.err 1010) (match dW o with
   |none=>aC.bind (one cx K' ops o F S) fun r=>cond r.1 (.ok (some r.2.1,F,r.2.2) []) (cP cx K' ops l (bw F o.dst r.2.1) r.2.2)
   |some c=>match wanted ops F o with
    |some true=>match lE F c with
     |some d=>cP cx K' ops l (bw ⟨F.t,F.n,d::F.ds⟩ o.dst .undef) S
     |none=>.err 1009
    |some false=>cP cx K' ops l (bw F o.dst .undef) S
    |none=>.err 1010)
  split
  .exact .bind (one_le h ops o F S) fun r=>cond_le (lW h ops l _ _)
  .split
   .split
    .exact lW h ops l _ _
    .exact .refl _
   .exact lW h ops l _ _
   .exact .refl _
theorem gE{cx:Cx}{K K':bO}(h:KLe K K')(ops:List Oper):∀(l:List Row)(F:Fr)(S:AS)(ps:List dD)(sn:List AS)(id:Nat),aC.Le (bz cx K ops l F S ps sn id) (bz cx K' ops l F S ps sn id)
 |[],F,S,ps,sn,id=>.refl _
 |r::l,F,S,ps,sn,id=>by
  have e:∀K,bz cx K ops (r::l) F S ps sn id=(match r.cls with
   | .fresh=>match wanted ops F r.o with
    |some true=>match aO cx F id r.o.op with
     |some (v,x)=>bz cx K ops l (bw F r.o.dst v) S (⟨r.i,id,x⟩::ps) sn (Nat.succ id)
     |none=>.err 1001
    |some false=>bz cx K ops l (bw F r.o.dst .undef) S ps sn id
    |none=>.err 1002
   | .vU=>
    aC.bind (aC.tI (one cx K ops r.o F (bB (fun p=>bit r.dy p.i) ps S))) fun q=>cond q.1 (cond (gS (fun q=>bit q.dy r.i) l) (.ok (some (r.i,q.2.1,q.2.2),F,S,S::sn) []) (.err 1007)) (bz cx K ops l (bw F r.o.dst q.2.1) q.2.2 (gr (fun p=>!bit r.dy p.i) ps) (S::sn) id)
   |_=>match fa cx ops F S r.o with
    |some v=>bz cx K ops l (bw F r.o.dst v) S ps sn id
    |none=>.err 1006):=fun K=>rfl
  rw[e,e];cases r.cls with
  |fresh=>
   simp only[];split
   .split
    .exact gE h ops l _ _ _ _ _
    .exact .refl _
   .exact gE h ops l _ _ _ _ _
   .exact .refl _
  |vU=>exact .bind (.tI (one_le h ops _ _ _)) fun q=>cond_le (gE h ops l _ _ _ _ _)
  |pure=>
   simp only[];split
   .exact gE h ops l _ _ _ _ _
   .exact .refl _
  |read=>
   simp only[];split
   .exact gE h ops l _ _ _ _ _
   .exact .refl _
theorem Cw{cx:Cx}{K K':bO}(h:KLe K K')(ops:List Oper)(F:Fr)(S:AS):aC.Le (eg cx K ops F S) (eg cx K' ops F S):=by
 unfold eg;simp only[];cases gp ops (settle (dw cx ops))with
 |false=>exact .refl _
 |true=>
  simp only[cond_true];exact .bind (gE h ops _ _ _ _ _ _) fun r=>.refl _
theorem aC.Le.code{ih pL:Code->Fr->AS->aC Out}(h:∀c F S,aC.Le (ih c F S) (pL c F S)){m:Md}{c:Code}{F:Fr}{S:AS}:aC.Le (aC.bind (ih c F S) fun o=>(.ok (o.at m) []:aC EJ)) (aC.bind (pL c F S) fun o=>.ok (o.at m) []):=.bind (h c F S) fun _=>.refl _
theorem execS_le{cx:Cx}{ih pL:Code->Fr->AS->aC Out}(h:∀c F S,aC.Le (ih c F S) (pL c F S)):∀(c:Code)(F:Fr)(S:AS)(m:Md),aC.Le (ir cx ih c F S m) (ir cx pL c F S m):=by
 intro c
 induction c with
 |region id ops draw=>
  intro F S m;show aC.Le (cond (ops.toList.any dq) (cond draw (.err 2200) (iR cx noK ops.toList ops.toList F S m)) (aC.bind (ih (.region id ops draw) F S) fun o=>.ok (o.at m) []))
   (cond (ops.toList.any dq) (cond draw (.err 2200) (iR cx noK ops.toList ops.toList F S m)) (aC.bind (pL (.region id ops draw) F S) fun o=>.ok (o.at m) []))
  cases ops.toList.any dq with
  |true=>exact .refl _
  |false=>exact .code h
 |seq x y ihx ihy=>
  intro F S m;show aC.Le (aC.bind (ir cx ih x F S m) fun o=>match o.ex with
   | .normal=>ir cx ih y o.F o.S o.m
   |_=>.ok o []) (aC.bind (ir cx pL x F S m) fun o=>match o.ex with
   | .normal=>ir cx pL y o.F o.S o.m
   |_=>.ok o [])
  refine .bind (ihx F S m) fun o=>?_;cases o.ex<;>first|exact ihy _ _ _|exact .refl _
 |cond x y z ihy ihz=>
  intro F S m;show aC.Le (match eval F x with
   | .bool true=>ir cx ih y F S m
   | .bool false=>ir cx ih z F S m
   |_=>.err 2201) (match eval F x with
   | .bool true=>ir cx pL y F S m
   | .bool false=>ir cx pL z F S m
   |_=>.err 2201)
  split
  .exact ihy _ _ _
  .exact ihz _ _ _
  .exact .refl _
 |block id b Dl=>intro F S m;exact .bind (Dl F S m) fun _=>.refl _
 |loop b _=>
  intro F S m;show aC.Le (cond (sD b) (.err 2202) (aC.bind (ih (.loop b) F S) fun o=>.ok (o.at m) [])) (cond (sD b) (.err 2202) (aC.bind (pL (.loop b) F S) fun o=>.ok (o.at m) []));cases sD b with
  |true=>exact .refl _
  |false=>exact .code h
 |_=>intros;exact .refl _
theorem mi{cx:Cx}{ih pL:Code->Fr->AS->aC Out}(h:∀c F S,aC.Le (ih c F S) (pL c F S))(fn:Func)(F:Fr):∀(ds:List wJ)(m:Md)(S:AS),aC.Le (gL cx ih fn F ds m S) (gL cx pL fn F ds m S)
 |[],m,S=>.refl _
 |d::ds,m,S=>by
  have e:∀ih,gL cx ih fn F (d::ds) m S=(match d with
   | .mark id=>match S.h.get id with
    |some (.nR (.dfr true))=>gL cx ih fn F ds m (tJ S id (.dfr false))
    |_=>.err 2011
   | .call g as captured=>match cx.fns.get g with
    |some gn=>match gn.body with
     |some c=>aC.bind (ir cx ih c (ou (gR as captured) gn.ntmps) S m) fun o=>match o.F.ds with
      |[]=>match kR o.ex o.m with
       |some m'=>match o.ex with
        | .eQ _=>gL cx ih fn F ds m' o.S
        |_=>match di cx gn o.F o.S with
         |some _=>gL cx ih fn F ds m' o.S
         |none=>.err 2012
       |none=>.err 2013
      |_=>.err 2014
     |none=>.err 2015
    |none=>.err 2016):=fun ih=>rfl
  rw[e,e];split
  .split
   .exact mi h fn F ds _ _
   .exact .refl _
  .split
   .split
    .refine .bind (execS_le h _ _ _ _) fun o=>?_;split
     .split
      .split
       .exact mi h fn F ds _ _
       .split
        .exact mi h fn F ds _ _
        .exact .refl _
      .exact .refl _
     .exact .refl _
    .exact .refl _
   .exact .refl _
theorem fnF_le{cx:Cx}{ih pL:Code->Fr->AS->aC Out}(h:∀c F S,aC.Le (ih c F S) (pL c F S))(f:FuncId)(as:List AV)(S:AS):aC.Le (fnF cx ih f as S) (fnF cx pL f as S):=by
 unfold fnF;split
 .exact .refl _
 .split
  .split
   .refine .bind (h _ _ _) fun o=>?_;split
    .exact .refl _
    .exact .refl _
    .exact mi h _ _ _ _ _
    .exact mi h _ _ _ _ _
   .exact .refl _
  .exact .refl _
theorem roundF_le{ih pL:Code->Fr->AS->aC Out}(h:∀c F S,aC.Le (ih c F S) (pL c F S))(id:Nat)(as:List AV)(S:AS):aC.Le (rS ih id as S) (rS pL id as S):=by
 unfold rS;split
 .split
  .refine .bind (h _ _ _) fun o=>?_;split
   .split
    .exact .bind (h _ _ _) fun _=>.refl _
    .exact .refl _
   .exact .refl _
  .exact .refl _
 .exact .refl _
theorem v8{cx:Cx}{ih pL:Code->Fr->AS->aC Out}(h:∀c F S,aC.Le (ih c F S) (pL c F S)):KLe (cD cx ih) (cD cx pL):=by
 intro t as S;cases t with
 |round id=>exact roundF_le h id as S
 |fn f=>
  show aC.Le (tf cx ih f as S) (tf cx pL f as S);unfold tf;cases cx.kU.get f with
  |none=>exact fnF_le h f as S
  |some u=>exact .err _ _
theorem scopeF_le{ih pL:Code->Fr->AS->aC Out}(h:∀c F S,aC.Le (ih c F S) (pL c F S))(b:Code):∀(n:Nat)(c:Code)(F:Fr)(S:AS),aC.Le (mO ih b n c F S) (mO pL b (n+1) c F S):=by
 intro n
 induction n with
 |zero=>intro c F S;exact .err _ _
 |succ n rec=>
  intro c F S;show aC.Le (aC.bind (ih c F S) fun o=>match o.ex with
   | .goto l=>match findLabel b l with
    |some rest=>mO ih b n rest o.F o.S
    |none=>.ok o []
   |_=>.ok o []) (aC.bind (pL c F S) fun o=>match o.ex with
   | .goto l=>match findLabel b l with
    |some rest=>mO pL b (n+1) rest o.F o.S
    |none=>.ok o []
   |_=>.ok o [])
  refine .bind (h _ _ _) fun o=>?_;split
  .split
   .exact rec _ _ _
   .exact .refl _
  .exact .refl _
theorem rangeF_le{cx:Cx}{ih pL:Code->Fr->AS->aC Out}(h:∀c F S,aC.Le (ih c F S) (pL c F S))(x:Operand)(ps:Array Tmp)(a b:Code)(F:Fr)(S:AS):aC.Le (qb cx ih x ps a b F S) (qb cx pL x ps a b F S):=by
 unfold qb;cases (cW a&&cW b)with
 |false=>exact .refl _
 |true=>
  simp only[cond_true];split
  .refine .bind (v8 h _ _ _) fun r=>?_;unfold qO;refine notPan_le ?_;split
   .exact .refl _
   .split
    .exact .refl _
    .exact h _ _ _
   .exact .refl _
  .exact .refl _
theorem exec_le{cx:Cx}:∀(n:Nat)(c:Code)(F:Fr)(S:AS),aC.Le (exec cx n c F S) (exec cx (n+1) c F S):=by
 intro n
 induction n with
 |zero=>intro c F S;exact .err _ _
 |succ n ih=>
  intro c F S;have hK:=v8 (cx:=cx) ih;cases c with
  |skip=>exact .refl _
  |ret=>exact .refl _
  |exit id=>exact .refl _
  |region id ops draw=>
   cases draw with
   |false=>
    show aC.Le (aC.bind (cP cx (cD cx (exec cx n)) ops.toList ops.toList F S) _) (aC.bind (cP cx (cD cx (exec cx (n+1))) ops.toList ops.toList F S) _);exact .bind (lW hK _ _ _ _) fun r=>.refl _
   |true=>
    show aC.Le (aC.bind (eg cx (cD cx (exec cx n)) ops.toList F S) _) (aC.bind (eg cx (cD cx (exec cx (n+1))) ops.toList F S) _);exact .bind (Cw hK _ _ _) fun r=>.refl _
  |seq x y=>
   show aC.Le (aC.bind (exec cx n x F S) fun o=>match o.ex with
    | .normal=>exec cx n y o.F o.S
    |_=>.ok o []) (aC.bind (exec cx (n+1) x F S) fun o=>match o.ex with
    | .normal=>exec cx (n+1) y o.F o.S
    |_=>.ok o [])
   refine .bind (ih _ _ _) fun o=>?_;cases o.ex<;>first|exact ih _ _ _|exact .refl _
  |cond x y z=>
   show aC.Le (match eval F x with
    | .bool true=>exec cx n y F S
    | .bool false=>exec cx n z F S
    |_=>.err 3001) (match eval F x with
    | .bool true=>exec cx (n+1) y F S
    | .bool false=>exec cx (n+1) z F S
    |_=>.err 3001)
   split
   .exact ih _ _ _
   .exact ih _ _ _
   .exact .refl _
  |block id b=>
   exact .bind (ih b F S) fun o=>.refl _
  |loop b=>
   show aC.Le (aC.bind (exec cx n b F S) fun o=>match o.ex with
    | .normal=>exec cx n (.loop b) o.F o.S
    |_=>.ok o []) (aC.bind (exec cx (n+1) b F S) fun o=>match o.ex with
    | .normal=>exec cx (n+1) (.loop b) o.F o.S
    |_=>.ok o [])
   refine .bind (ih _ _ _) fun o=>?_;cases o.ex<;>first|exact ih _ _ _|exact .refl _
  |rangeFunc f p x y=>exact rangeF_le ih f p x y F S
  |scope b=>exact scopeF_le ih b n b F S
  |label l=>exact .refl _
  |goto l=>exact .refl _
  |refuse s=>exact .refl _
theorem jR{cx:Cx}{n m:Nat}(h:n<=m)(c:Code)(F:Fr)(S:AS):aC.Le (exec cx n c F S) (exec cx m c F S):=by
 induction h with
 |refl=>exact .refl _
 |step _ ih=>exact ih.trans (exec_le _ c F S)
theorem jS{cx:Cx}{n m:Nat}(h:n<=m):KLe (cD cx (exec cx n)) (cD cx (exec cx m)):=v8 fun c F S=>jR h c F S
end Go.Am
