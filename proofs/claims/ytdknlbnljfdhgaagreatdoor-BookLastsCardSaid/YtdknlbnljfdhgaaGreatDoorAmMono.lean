/-
  The abstract machine: more fuel gives the same answer.
-/
import Derived.Test.YtdknlbnljfdhgaaGreatDoorAmTop
set_option linter.unusedVariables false
set_option linter.unusedSimpArgs false
namespace Go.Am
open Go
def az.Le{α:Type}(r r':az α):Prop:=∀x xs,r=.ok x xs->r'=.ok x xs
theorem az.Le.refl{α:Type}(r:az α):az.Le r r:=fun _ _ h=>h
theorem az.Le.trans{α:Type}{a b c:az α}(h:az.Le a b)(k:az.Le b c):az.Le a c:=fun x xs e=>k x xs (h x xs e)
theorem az.Le.err{α:Type}(n:Nat)(r:az α):az.Le (.err n) r:=fun _ _ h=>by cases h
theorem az.Le.app{α:Type}{a a' b b':az α}(h:az.Le a a')(k:az.Le b b'):az.Le (az.app a b) (az.app a' b'):=by
 intro x xs e;cases a with
 |err n=>cases e
 |ok y ys=>
  cases b with
  |err n=>cases e
  |ok z zs=>
   have h1:=h y ys rfl;have h2:=k z zs rfl;subst h1 h2;exact e
theorem az.Le.bind{α β:Type}{r r':az α}{f f':α->az β}(h:az.Le r r')(k:∀x,az.Le (f x) (f' x)):az.Le (az.bind r f) (az.bind r' f'):=by
 cases r with
 |err n=>exact .err _ _
 |ok x xs=>
  have h1:=h x xs rfl;subst h1;cases xs with
  |nil=>exact k x
  |cons y ys=>
   have e:∀g:α->az β,az.bind (.ok x (y::ys)) g=az.app (g x) (List.rec (motive:=fun _=>α->az β) (fun y=>g y) (fun z _ ih y=>az.app (g y) (ih z)) ys y):=fun g=>rfl;rw[e,e];refine .app (k x) ?_;clear e h
   induction ys generalizing y with
   |nil=>exact k y
   |cons z zs ih=>exact .app (k y) (ih z)
theorem az.Le.BA{α:Type}{r r':az α}(h:az.Le r r'):az.Le (az.BA r) (az.BA r'):=by
 cases r with
 |err n=>exact .err _ _
 |ok x xs=>rw[h x xs rfl];exact .refl _
def KLe(K K':fK):Prop:=∀f as S,az.Le (K f as S) (K' f as S)
theorem one_le{cx:Cx}{K K':fK}(h:KLe K K')(ops:List Oper)(o:Oper)(F:Fr)(S:AS):az.Le (one cx K ops o F S) (one cx K' ops o F S):=by
 unfold one;split
 .split
  .exact .refl _
  .exact .bind (h _ _ _) fun _=>.refl _
  .exact .bind (h _ _ _) fun _=>.refl _
  .exact .refl _
  .exact .refl _
  .exact .refl _
 .exact .refl _
 .exact .refl _
theorem ND{α:Type}{b:Bool}{p k k':az α}(h:az.Le k k'):az.Le (cond b p k) (cond b p k'):=by
 cases b<;>first|exact h|exact .refl _
theorem Pv{α:Type}{v:AV}{p:AV->az α}{k k':az α}(h:az.Le k k'):az.Le (tJ v p k) (tJ v p k'):=by
 cases v<;>first|exact h|exact .refl _
theorem mg{cx:Cx}{K K':fK}(h:KLe K K')(ops:List Oper):∀(l:List Oper)(F:Fr)(S:AS),az.Le (dz cx K ops l F S) (dz cx K' ops l F S)
 |[],F,S=>.refl _
 |o::l,F,S=>by
  show az.Le (match dc o with
   |none=>az.bind (one cx K ops o F S) fun r=>cond r.1 (.ok (some r.2.1,F,r.2.2) []) (dz cx K ops l (bQ F o.dst r.2.1) r.2.2)
   |some c=>match wanted ops F o with
    |some true=>match iM F c with
     |some d=>dz cx K ops l (bQ ⟨F.t,F.n,d::F.ds⟩ o.dst .undef) S
     |none=>.err 1009
    |some false=>dz cx K ops l (bQ F o.dst .undef) S
    |none=>.err 1010) (match dc o with
   |none=>az.bind (one cx K' ops o F S) fun r=>cond r.1 (.ok (some r.2.1,F,r.2.2) []) (dz cx K' ops l (bQ F o.dst r.2.1) r.2.2)
   |some c=>match wanted ops F o with
    |some true=>match iM F c with
     |some d=>dz cx K' ops l (bQ ⟨F.t,F.n,d::F.ds⟩ o.dst .undef) S
     |none=>.err 1009
    |some false=>dz cx K' ops l (bQ F o.dst .undef) S
    |none=>.err 1010)
  split
  .exact .bind (one_le h ops o F S) fun r=>ND (mg h ops l _ _)
  .split
   .split
    .exact mg h ops l _ _
    .exact .refl _
   .exact mg h ops l _ _
   .exact .refl _
theorem jc{cx:Cx}{K K':fK}(h:KLe K K')(ops:List Oper):∀(l:List Row)(F:Fr)(S:AS)(ps:List fk)(sn:List AS)(id:Nat),az.Le (db cx K ops l F S ps sn id) (db cx K' ops l F S ps sn id)
 |[],F,S,ps,sn,id=>.refl _
 |r::l,F,S,ps,sn,id=>by
  have e:∀K,db cx K ops (r::l) F S ps sn id=(match r.cls with
   | .fresh=>match wanted ops F r.o with
    |some true=>match aD cx F id r.o.op with
     |some (v,x)=>db cx K ops l (bQ F r.o.dst v) S (⟨r.i,id,x⟩::ps) sn (Nat.succ id)
     |none=>.err 1001
    |some false=>db cx K ops l (bQ F r.o.dst .undef) S ps sn id
    |none=>.err 1002
   | .BS=>
    az.bind (az.BA (one cx K ops r.o F (bE (fun p=>bit r.eG p.i) ps S))) fun q=>cond q.1 (cond (js (fun q=>bit q.eG r.i) l) (.ok (some (r.i,q.2.1,q.2.2),F,S,S::sn) []) (.err 1007)) (db cx K ops l (bQ F r.o.dst q.2.1) q.2.2 (kH (fun p=>!bit r.eG p.i) ps) (S::sn) id)
   |_=>match gy cx ops F S r.o with
    |some v=>db cx K ops l (bQ F r.o.dst v) S ps sn id
    |none=>.err 1006):=fun K=>rfl
  rw[e,e];cases r.cls with
  |fresh=>
   simp only[];split
   .split
    .exact jc h ops l _ _ _ _ _
    .exact .refl _
   .exact jc h ops l _ _ _ _ _
   .exact .refl _
  |BS=>exact .bind (.BA (one_le h ops _ _ _)) fun q=>ND (jc h ops l _ _ _ _ _)
  |pure=>
   simp only[];split
   .exact jc h ops l _ _ _ _ _
   .exact .refl _
  |read=>
   simp only[];split
   .exact jc h ops l _ _ _ _ _
   .exact .refl _
theorem GB{cx:Cx}{K K':fK}(h:KLe K K')(ops:List Oper)(F:Fr)(S:AS):az.Le (fM cx K ops F S) (fM cx K' ops F S):=by
 unfold fM;simp only[];cases jf ops (settle (dW cx ops))with
 |false=>exact .refl _
 |true=>
  simp only[cond_true];exact .bind (jc h ops _ _ _ _ _ _) fun r=>.refl _
theorem az.Le.code{ih te:Code->Fr->AS->az Out}(h:∀c F S,az.Le (ih c F S) (te c F S)){m:Md}{c:Code}{F:Fr}{S:AS}:az.Le (az.bind (ih c F S) fun o=>(.ok (o.at m) []:az Cd)) (az.bind (te c F S) fun o=>.ok (o.at m) []):=.bind (h c F S) fun _=>.refl _
theorem HS{cx:Cx}{ih te:Code->Fr->AS->az Out}(h:∀c F S,az.Le (ih c F S) (te c F S)):∀(c:Code)(F:Fr)(S:AS)(m:Md),az.Le (eS cx ih c F S m) (eS cx te c F S m):=by
 intro c
 induction c with
 |region id ops draw=>
  intro F S m;show az.Le (cond (ops.toList.any bI) (cond draw (.err 2200) (fp cx DX ops.toList ops.toList F S m)) (az.bind (ih (.region id ops draw) F S) fun o=>.ok (o.at m) []))
   (cond (ops.toList.any bI) (cond draw (.err 2200) (fp cx DX ops.toList ops.toList F S m)) (az.bind (te (.region id ops draw) F S) fun o=>.ok (o.at m) []))
  cases ops.toList.any bI with
  |true=>exact .refl _
  |false=>exact .code h
 |seq x y ihx ihy=>
  intro F S m;show az.Le (az.bind (eS cx ih x F S m) fun o=>match o.ex with
   | .normal=>eS cx ih y o.F o.S o.m
   |_=>.ok o []) (az.bind (eS cx te x F S m) fun o=>match o.ex with
   | .normal=>eS cx te y o.F o.S o.m
   |_=>.ok o [])
  refine .bind (ihx F S m) fun o=>?_;cases o.ex<;>first|exact ihy _ _ _|exact .refl _
 |cond x y z ihy ihz=>
  intro F S m;show az.Le (match eval F x with
   | .bool true=>eS cx ih y F S m
   | .bool false=>eS cx ih z F S m
   |_=>.err 2201) (match eval F x with
   | .bool true=>eS cx te y F S m
   | .bool false=>eS cx te z F S m
   |_=>.err 2201)
  split
  .exact ihy _ _ _
  .exact ihz _ _ _
  .exact .refl _
 |block id b xu=>intro F S m;exact .bind (xu F S m) fun _=>.refl _
 |loop b _=>
  intro F S m;show az.Le (cond (wE b) (.err 2202) (az.bind (ih (.loop b) F S) fun o=>.ok (o.at m) [])) (cond (wE b) (.err 2202) (az.bind (te (.loop b) F S) fun o=>.ok (o.at m) []));cases wE b with
  |true=>exact .refl _
  |false=>exact .code h
 |_=>intros;exact .refl _
theorem iz{cx:Cx}{ih te:Code->Fr->AS->az Out}(h:∀c F S,az.Le (ih c F S) (te c F S))(fn:Func)(F:Fr):∀(ds:List ur)(m:Md)(S:AS),az.Le (fh cx ih fn F ds m S) (fh cx te fn F ds m S)
 |[],m,S=>.refl _
 |d::ds,m,S=>by
  have e:∀ih,fh cx ih fn F (d::ds) m S=(match d with
   | .mark id=>match S.h.get id with
    |some (.j6 (.Bt true))=>fh cx ih fn F ds m (mB S id (.Bt false))
    |_=>.err 2011
   | .call g as captured=>match cx.fns.get g with
    |some gn=>match gn.body with
     |some c=>az.bind (eS cx ih c (lP (gC as captured) gn.ntmps) S m) fun o=>match o.F.ds with
      |[]=>match pz o.ex o.m with
       |some m'=>match o.ex with
        | .eO _=>fh cx ih fn F ds m' o.S
        |_=>match cC cx gn o.F o.S with
         |some _=>fh cx ih fn F ds m' o.S
         |none=>.err 2012
       |none=>.err 2013
      |_=>.err 2014
     |none=>.err 2015
    |none=>.err 2016):=fun ih=>rfl
  rw[e,e];split
  .split
   .exact iz h fn F ds _ _
   .exact .refl _
  .split
   .split
    .refine .bind (HS h _ _ _ _) fun o=>?_;split
     .split
      .split
       .exact iz h fn F ds _ _
       .split
        .exact iz h fn F ds _ _
        .exact .refl _
      .exact .refl _
     .exact .refl _
    .exact .refl _
   .exact .refl _
theorem jez{cx:Cx}{ih te:Code->Fr->AS->az Out}(h:∀c F S,az.Le (ih c F S) (te c F S))(f:FuncId)(as:List AV)(S:AS):az.Le (Xo cx ih f as S) (Xo cx te f as S):=by
 unfold Xo;split
 .exact .refl _
 .split
  .split
   .refine .bind (h _ _ _) fun o=>?_;split
    .exact .refl _
    .exact .refl _
    .exact iz h _ _ _ _ _
    .exact iz h _ _ _ _ _
   .exact .refl _
  .exact .refl _
theorem OX{ih te:Code->Fr->AS->az Out}(h:∀c F S,az.Le (ih c F S) (te c F S))(id:Nat)(as:List AV)(S:AS):az.Le (qM ih id as S) (qM te id as S):=by
 unfold qM;split
 .split
  .refine .bind (h _ _ _) fun o=>?_;split
   .split
    .exact .bind (h _ _ _) fun _=>.refl _
    .exact .refl _
   .exact .refl _
  .exact .refl _
 .exact .refl _
theorem AN{cx:Cx}{ih te:Code->Fr->AS->az Out}(h:∀c F S,az.Le (ih c F S) (te c F S)):KLe (cS cx ih) (cS cx te):=by
 intro t as S;cases t with
 |round id=>exact OX h id as S
 |fn f=>
  show az.Le (sY cx ih f as S) (sY cx te f as S);unfold sY;cases cx.kZ.get f with
  |none=>exact jez h f as S
  |some u=>exact .err _ _
theorem OM{ih te:Code->Fr->AS->az Out}(h:∀c F S,az.Le (ih c F S) (te c F S))(b:Code):∀(n:Nat)(c:Code)(F:Fr)(S:AS),az.Le (qK ih b n c F S) (qK te b (n+1) c F S):=by
 intro n
 induction n with
 |zero=>intro c F S;exact .err _ _
 |succ n rec=>
  intro c F S;show az.Le (az.bind (ih c F S) fun o=>match o.ex with
   | .goto l=>match findLabel b l with
    |some rest=>qK ih b n rest o.F o.S
    |none=>.ok o []
   |_=>.ok o []) (az.bind (te c F S) fun o=>match o.ex with
   | .goto l=>match findLabel b l with
    |some rest=>qK te b (n+1) rest o.F o.S
    |none=>.ok o []
   |_=>.ok o [])
  refine .bind (h _ _ _) fun o=>?_;split
  .split
   .exact rec _ _ _
   .exact .refl _
  .exact .refl _
theorem O9{cx:Cx}{ih te:Code->Fr->AS->az Out}(h:∀c F S,az.Le (ih c F S) (te c F S))(x:Operand)(ps:Array Tmp)(a b:Code)(F:Fr)(S:AS):az.Le (qR cx ih x ps a b F S) (qR cx te x ps a b F S):=by
 unfold qR;cases (df a&&df b)with
 |false=>exact .refl _
 |true=>
  simp only[cond_true];split
  .refine .bind (AN h _ _ _) fun r=>?_;unfold qT;refine Pv ?_;split
   .exact .refl _
   .split
    .exact .refl _
    .exact h _ _ _
   .exact .refl _
  .exact .refl _
theorem Z3{cx:Cx}:∀(n:Nat)(c:Code)(F:Fr)(S:AS),az.Le (exec cx n c F S) (exec cx (n+1) c F S):=by
 intro n
 induction n with
 |zero=>intro c F S;exact .err _ _
 |succ n ih=>
  intro c F S;have hK:=AN (cx:=cx) ih;cases c with
  |skip=>exact .refl _
  |ret=>exact .refl _
  |exit id=>exact .refl _
  |region id ops draw=>
   cases draw with
   |false=>
    show az.Le (az.bind (dz cx (cS cx (exec cx n)) ops.toList ops.toList F S) _) (az.bind (dz cx (cS cx (exec cx (n+1))) ops.toList ops.toList F S) _);exact .bind (mg hK _ _ _ _) fun r=>.refl _
   |true=>
    show az.Le (az.bind (fM cx (cS cx (exec cx n)) ops.toList F S) _) (az.bind (fM cx (cS cx (exec cx (n+1))) ops.toList F S) _);exact .bind (GB hK _ _ _) fun r=>.refl _
  |seq x y=>
   show az.Le (az.bind (exec cx n x F S) fun o=>match o.ex with
    | .normal=>exec cx n y o.F o.S
    |_=>.ok o []) (az.bind (exec cx (n+1) x F S) fun o=>match o.ex with
    | .normal=>exec cx (n+1) y o.F o.S
    |_=>.ok o [])
   refine .bind (ih _ _ _) fun o=>?_;cases o.ex<;>first|exact ih _ _ _|exact .refl _
  |cond x y z=>
   show az.Le (match eval F x with
    | .bool true=>exec cx n y F S
    | .bool false=>exec cx n z F S
    |_=>.err 3001) (match eval F x with
    | .bool true=>exec cx (n+1) y F S
    | .bool false=>exec cx (n+1) z F S
    |_=>.err 3001)
   split
   .exact ih _ _ _
   .exact ih _ _ _
   .exact .refl _
  |block id b=>
   exact .bind (ih b F S) fun o=>.refl _
  |loop b=>
   show az.Le (az.bind (exec cx n b F S) fun o=>match o.ex with
    | .normal=>exec cx n (.loop b) o.F o.S
    |_=>.ok o []) (az.bind (exec cx (n+1) b F S) fun o=>match o.ex with
    | .normal=>exec cx (n+1) (.loop b) o.F o.S
    |_=>.ok o [])
   refine .bind (ih _ _ _) fun o=>?_;cases o.ex<;>first|exact ih _ _ _|exact .refl _
  |rangeFunc f p x y=>exact O9 ih f p x y F S
  |scope b=>exact OM ih b n b F S
  |label l=>exact .refl _
  |goto l=>exact .refl _
  |refuse s=>exact .refl _
theorem cP{cx:Cx}{n m:Nat}(h:n<=m)(c:Code)(F:Fr)(S:AS):az.Le (exec cx n c F S) (exec cx m c F S):=by
 induction h with
 |refl=>exact .refl _
 |step _ ih=>exact ih.trans (Z3 _ c F S)
theorem iF{cx:Cx}{n m:Nat}(h:n<=m):KLe (cS cx (exec cx n)) (cS cx (exec cx m)):=AN fun c F S=>cP h c F S
end Go.Am
