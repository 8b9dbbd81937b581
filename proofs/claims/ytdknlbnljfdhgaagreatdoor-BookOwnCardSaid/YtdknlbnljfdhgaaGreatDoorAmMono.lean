/-
  The abstract machine: more fuel gives the same answer.
-/
import Derived.Test.YtdknlbnljfdhgaaGreatDoorAmFast
namespace Go.Am
open Go
def aj.Le {α:Type} (r r':aj α):Prop:=∀ x xs,r=.ok x xs→r'=.ok x xs
theorem aj.Le.refl {α:Type} (r:aj α):aj.Le r r:=fun _ _ h=>h
theorem aj.Le.trans {α:Type} {a b c:aj α} (h:aj.Le a b) (k:aj.Le b c):aj.Le a c:=fun x xs e=>k x xs (h x xs e)
theorem aj.Le.err {α:Type} (n:Nat) (r:aj α):aj.Le (.err n) r:=fun _ _ h=>by cases h
theorem aj.Le.app {α:Type} {a a' b b':aj α} (h:aj.Le a a') (k:aj.Le b b'):aj.Le (aj.app a b) (aj.app a' b'):=by
 intro x xs e;cases a with
 | err n=>cases e
 | ok y ys=>
  cases b with
  | err n=>cases e
  | ok z zs=>
   have h1:=h y ys rfl;have h2:=k z zs rfl;subst h1 h2;exact e
theorem aj.Le.bind {α β:Type} {r r':aj α} {f f':α→aj β} (h:aj.Le r r') (k:∀ x,aj.Le (f x) (f' x)):aj.Le (aj.bind r f) (aj.bind r' f'):=by
 cases r with
 | err n=>exact .err _ _
 | ok x xs=>
  have h1:=h x xs rfl;subst h1;cases xs with
  | nil=>exact k x
  | cons y ys=>
   have e:∀ g:α→aj β,aj.bind (.ok x (y :: ys)) g=aj.app (g x) (List.rec (motive:=fun _=>α→aj β) (fun y=>g y) (fun z _ ih y=>aj.app (g y) (ih z)) ys y):=fun g=>rfl;rw[e,e];refine .app (k x) ?_;clear e h
   induction ys generalizing y with
   | nil=>exact k y
   | cons z zs ih=>exact .app (k y) (ih z)
theorem aj.Le.sV {α:Type} {r r':aj α} (h:aj.Le r r'):aj.Le (aj.sV r) (aj.sV r'):=by
 cases r with
 | err n=>exact .err _ _
 | ok x xs=>rw[h x xs rfl];exact .refl _
def KLe (K K':bg):Prop:=∀ f as S,aj.Le (K f as S) (K' f as S)
theorem one_le {cx:Cx} {K K':bg} (h:KLe K K') (ops:List Oper) (o:Oper) (F:Fr) (S:AS):aj.Le (one cx K ops o F S) (one cx K' ops o F S):=by
 unfold one;split
 ·split
  ·exact .refl _
  ·exact .bind (h _ _ _) fun _=>.refl _
  ·exact .bind (h _ _ _) fun _=>.refl _
  ·exact .refl _
  ·exact .refl _
  ·exact .refl _
 ·exact .refl _
 ·exact .refl _
theorem vH {α:Type} {b:Bool} {p k k':aj α} (h:aj.Le k k'):aj.Le (cond b p k) (cond b p k'):=by
 cases b<;>first|exact h|exact .refl _
theorem zJ {α:Type} {v:AV} {p:AV→aj α} {k k':aj α} (h:aj.Le k k'):aj.Le (lu v p k) (lu v p k'):=by
 cases v<;>first|exact h|exact .refl _
theorem iA {cx:Cx} {K K':bg} (h:KLe K K') (ops:List Oper):∀ (l:List Oper) (F:Fr) (S:AS),aj.Le (bA cx K ops l F S) (bA cx K' ops l F S)
 | [],F,S=>.refl _
 | o :: l,F,S=>by
  show aj.Le (match dG o with
   | none=>aj.bind (one cx K ops o F S) fun r=>cond r.1 (.ok (some r.2.1,F,r.2.2) []) (bA cx K ops l (aO F o.dst r.2.1) r.2.2)
   | some c=>match wanted ops F o with
    | some true=>match kK F c with
     | some d=>bA cx K ops l (aO ⟨F.t,F.n,d :: F.ds⟩ o.dst .undef) S
     | none=>.err 1009
    | some false=>bA cx K ops l (aO F o.dst .undef) S
    | none=>.err 1010) (match dG o with
   | none=>aj.bind (one cx K' ops o F S) fun r=>cond r.1 (.ok (some r.2.1,F,r.2.2) []) (bA cx K' ops l (aO F o.dst r.2.1) r.2.2)
   | some c=>match wanted ops F o with
    | some true=>match kK F c with
     | some d=>bA cx K' ops l (aO ⟨F.t,F.n,d :: F.ds⟩ o.dst .undef) S
     | none=>.err 1009
    | some false=>bA cx K' ops l (aO F o.dst .undef) S
    | none=>.err 1010)
  split
  ·exact .bind (one_le h ops o F S) fun r=>vH (iA h ops l _ _)
  ·split
   ·split
    ·exact iA h ops l _ _
    ·exact .refl _
   ·exact iA h ops l _ _
   ·exact .refl _
theorem ie {cx:Cx} {K K':bg} (h:KLe K K') (ops:List Oper):∀ (l:List Row) (F:Fr) (S:AS) (ps:List da) (sn:List AS) (id:Nat),aj.Le (aL cx K ops l F S ps sn id) (aL cx K' ops l F S ps sn id)
 | [],F,S,ps,sn,id=>.refl _
 | r :: l,F,S,ps,sn,id=>by
  have e:∀ K,aL cx K ops (r :: l) F S ps sn id=(match r.cls with
   | .fresh=>match wanted ops F r.o with
    | some true=>match aC cx F id r.o.op with
     | some (v,x)=>aL cx K ops l (aO F r.o.dst v) S (⟨r.i,id,x⟩ :: ps) sn (Nat.succ id)
     | none=>.err 1001
    | some false=>aL cx K ops l (aO F r.o.dst .undef) S ps sn id
    | none=>.err 1002
   | .vG=>
    aj.bind (aj.sV (one cx K ops r.o F (aX (fun p=>bit r.c7 p.i) ps S))) fun q=>cond q.1 (cond (eY (fun q=>bit q.c7 r.i) l) (.ok (some (r.i,q.2.1,q.2.2),F,S,S :: sn) []) (.err 1007)) (aL cx K ops l (aO F r.o.dst q.2.1) q.2.2 (fN (fun p=>!bit r.c7 p.i) ps) (S :: sn) id)
   | _=>match ej cx ops F S r.o with
    | some v=>aL cx K ops l (aO F r.o.dst v) S ps sn id
    | none=>.err 1006):=fun K=>rfl
  rw[e,e];cases r.cls with
  | fresh=>
   simp only[];split
   ·split
    ·exact ie h ops l _ _ _ _ _
    ·exact .refl _
   ·exact ie h ops l _ _ _ _ _
   ·exact .refl _
  | vG=>exact .bind (.sV (one_le h ops _ _ _)) fun q=>vH (ie h ops l _ _ _ _ _)
  | pure=>
   simp only[];split
   ·exact ie h ops l _ _ _ _ _
   ·exact .refl _
  | read=>
   simp only[];split
   ·exact ie h ops l _ _ _ _ _
   ·exact .refl _
theorem uv {cx:Cx} {K K':bg} (h:KLe K K') (ops:List Oper) (F:Fr) (S:AS):aj.Le (cC cx K ops F S) (cC cx K' ops F S):=by
 unfold cC;simp only[];cases gH ops (settle (cT cx ops)) with
 | false=>exact .refl _
 | true=>
  simp only[cond_true];exact .bind (ie h ops _ _ _ _ _ _) fun r=>.refl _
theorem aj.Le.code {ih jB:Code→Fr→AS→aj Out} (h:∀ c F S,aj.Le (ih c F S) (jB c F S)) {m:Md} {c:Code} {F:Fr} {S:AS}:aj.Le (aj.bind (ih c F S) fun o=>(.ok (o.at m) []:aj SOut)) (aj.bind (jB c F S) fun o=>.ok (o.at m) []):=.bind (h c F S) fun _=>.refl _
theorem execS_le {cx:Cx} {ih jB:Code→Fr→AS→aj Out} (h:∀ c F S,aj.Le (ih c F S) (jB c F S)):∀ (c:Code) (F:Fr) (S:AS) (m:Md),aj.Le (iQ cx ih c F S m) (iQ cx jB c F S m):=by
 intro c
 induction c with
 | region id ops draw=>
  intro F S m;show aj.Le (cond (ops.toList.any ff) (cond draw (.err 2200) (jt cx noK ops.toList ops.toList F S m)) (aj.bind (ih (.region id ops draw) F S) fun o=>.ok (o.at m) []))
   (cond (ops.toList.any ff) (cond draw (.err 2200) (jt cx noK ops.toList ops.toList F S m)) (aj.bind (jB (.region id ops draw) F S) fun o=>.ok (o.at m) []))
  cases ops.toList.any ff with
  | true=>exact .refl _
  | false=>exact .code h
 | seq x y ihx ihy=>
  intro F S m;show aj.Le (aj.bind (iQ cx ih x F S m) fun o=>match o.ex with
   | .normal=>iQ cx ih y o.F o.S o.m
   | _=>.ok o []) (aj.bind (iQ cx jB x F S m) fun o=>match o.ex with
   | .normal=>iQ cx jB y o.F o.S o.m
   | _=>.ok o [])
  refine .bind (ihx F S m) fun o=>?_;cases o.ex<;>first|exact ihy _ _ _|exact .refl _
 | cond x y z ihy ihz=>
  intro F S m;show aj.Le (match eval F x with
   | .bool true=>iQ cx ih y F S m
   | .bool false=>iQ cx ih z F S m
   | _=>.err 2201) (match eval F x with
   | .bool true=>iQ cx jB y F S m
   | .bool false=>iQ cx jB z F S m
   | _=>.err 2201)
  split
  ·exact ihy _ _ _
  ·exact ihz _ _ _
  ·exact .refl _
 | block id b vy=>intro F S m;exact .bind (vy F S m) fun _=>.refl _
 | loop b _=>
  intro F S m;show aj.Le (cond (tF b) (.err 2202) (aj.bind (ih (.loop b) F S) fun o=>.ok (o.at m) [])) (cond (tF b) (.err 2202) (aj.bind (jB (.loop b) F S) fun o=>.ok (o.at m) []));cases tF b with
  | true=>exact .refl _
  | false=>exact .code h
 | _=>intros;exact .refl _
theorem lY {cx:Cx} {ih jB:Code→Fr→AS→aj Out} (h:∀ c F S,aj.Le (ih c F S) (jB c F S)) (fn:Func) (F:Fr):∀ (ds:List vf) (m:Md) (S:AS),aj.Le (fc cx ih fn F ds m S) (fc cx jB fn F ds m S)
 | [],m,S=>.refl _
 | d :: ds,m,S=>by
  have e:∀ ih,fc cx ih fn F (d :: ds) m S=(match d with
   | .mark id=>match S.h.get id with
    | some (.dO (.sq true))=>fc cx ih fn F ds m (jy S id (.sq false))
    | _=>.err 2011
   | .call g as captured=>match cx.fns.get g with
    | some gn=>match gn.body with
     | some c=>aj.bind (iQ cx ih c (kZ (fh as captured) gn.ntmps) S m) fun o=>match o.F.ds with
      | []=>match vk o.ex o.m with
       | some m'=>match o.ex with
        | .dN _=>fc cx ih fn F ds m' o.S
        | _=>match cZ cx gn o.F o.S with
         | some _=>fc cx ih fn F ds m' o.S
         | none=>.err 2012
       | none=>.err 2013
      | _=>.err 2014
     | none=>.err 2015
    | none=>.err 2016):=fun ih=>rfl
  rw[e,e];split
  ·split
   ·exact lY h fn F ds _ _
   ·exact .refl _
  ·split
   ·split
    ·refine .bind (execS_le h _ _ _ _) fun o=>?_;split
     ·split
      ·split
       ·exact lY h fn F ds _ _
       ·split
        ·exact lY h fn F ds _ _
        ·exact .refl _
      ·exact .refl _
     ·exact .refl _
    ·exact .refl _
   ·exact .refl _
theorem fnF_le {cx:Cx} {ih jB:Code→Fr→AS→aj Out} (h:∀ c F S,aj.Le (ih c F S) (jB c F S)) (f:FuncId) (as:List AV) (S:AS):aj.Le (Ey cx ih f as S) (Ey cx jB f as S):=by
 unfold Ey;split
 ·exact .refl _
 ·split
  ·split
   ·refine .bind (h _ _ _) fun o=>?_;split
    ·exact .refl _
    ·exact .refl _
    ·exact lY h _ _ _ _ _
    ·exact lY h _ _ _ _ _
   ·exact .refl _
  ·exact .refl _
theorem Dn {S:AS} {ids:List Nat} {r r':aj (AV×AS)} (h:aj.Le r r'):aj.Le (Dp S ids r) (Dp S ids r'):=by
 cases r with
 | err n=>exact .err _ _
 | ok x xs=>rw[h x xs rfl];exact .refl _
theorem zA {ih jB:Code→Fr→AS→aj Out} (h:∀ c F S,aj.Le (ih c F S) (jB c F S)) (id:Nat) (as:List AV) (S:AS):aj.Le (nY ih id as S) (nY jB id as S):=by
 unfold nY;split
 ·split
  ·refine .bind (h _ _ _) fun o=>?_;split
   ·split
    ·exact .bind (h _ _ _) fun _=>.refl _
    ·exact .refl _
   ·exact .refl _
  ·exact .refl _
 ·exact .refl _
theorem xW {cx:Cx} {ih jB:Code→Fr→AS→aj Out} (h:∀ c F S,aj.Le (ih c F S) (jB c F S)):KLe (bq cx ih) (bq cx jB):=by
 intro t as S;cases t with
 | round id=>exact zA h id as S
 | fn f=>
  show aj.Le (oc cx ih f as S) (oc cx jB f as S);unfold oc;cases cx.fQ.get f with
  | none=>exact fnF_le h f as S
  | some u=>exact Dn (fnF_le h f as _)
theorem scopeF_le {ih jB:Code→Fr→AS→aj Out} (h:∀ c F S,aj.Le (ih c F S) (jB c F S)) (b:Code):∀ (n:Nat) (c:Code) (F:Fr) (S:AS),aj.Le (jf ih b n c F S) (jf jB b (n+1) c F S):=by
 intro n
 induction n with
 | zero=>intro c F S;exact .err _ _
 | succ n rec=>
  intro c F S;show aj.Le (aj.bind (ih c F S) fun o=>match o.ex with
   | .goto l=>match findLabel b l with
    | some rest=>jf ih b n rest o.F o.S
    | none=>.ok o []
   | _=>.ok o []) (aj.bind (jB c F S) fun o=>match o.ex with
   | .goto l=>match findLabel b l with
    | some rest=>jf jB b (n+1) rest o.F o.S
    | none=>.ok o []
   | _=>.ok o [])
  refine .bind (h _ _ _) fun o=>?_;split
  ·split
   ·exact rec _ _ _
   ·exact .refl _
  ·exact .refl _
theorem rangeF_le {cx:Cx} {ih jB:Code→Fr→AS→aj Out} (h:∀ c F S,aj.Le (ih c F S) (jB c F S)) (x:Operand) (ps:Array Tmp) (a b:Code) (F:Fr) (S:AS):aj.Le (jF cx ih x ps a b F S) (jF cx jB x ps a b F S):=by
 unfold jF;cases (cl a&&cl b) with
 | false=>exact .refl _
 | true=>
  simp only[cond_true];split
  ·refine .bind (xW h _ _ _) fun r=>?_;unfold lQ;refine zJ ?_;split
   ·exact .refl _
   ·split
    ·exact .refl _
    ·exact h _ _ _
   ·exact .refl _
  ·exact .refl _
theorem exec_le {cx:Cx}:∀ (n:Nat) (c:Code) (F:Fr) (S:AS),aj.Le (exec cx n c F S) (exec cx (n+1) c F S):=by
 intro n
 induction n with
 | zero=>intro c F S;exact .err _ _
 | succ n ih=>
  intro c F S;have hK:=xW (cx:=cx) ih;cases c with
  | skip=>exact .refl _
  | ret=>exact .refl _
  | exit id=>exact .refl _
  | region id ops draw=>
   cases draw with
   | false=>
    show aj.Le (aj.bind (bA cx (bq cx (exec cx n)) ops.toList ops.toList F S) _) (aj.bind (bA cx (bq cx (exec cx (n+1))) ops.toList ops.toList F S) _);exact .bind (iA hK _ _ _ _) fun r=>.refl _
   | true=>
    show aj.Le (aj.bind (cC cx (bq cx (exec cx n)) ops.toList F S) _) (aj.bind (cC cx (bq cx (exec cx (n+1))) ops.toList F S) _);exact .bind (uv hK _ _ _) fun r=>.refl _
  | seq x y=>
   show aj.Le (aj.bind (exec cx n x F S) fun o=>match o.ex with
    | .normal=>exec cx n y o.F o.S
    | _=>.ok o []) (aj.bind (exec cx (n+1) x F S) fun o=>match o.ex with
    | .normal=>exec cx (n+1) y o.F o.S
    | _=>.ok o [])
   refine .bind (ih _ _ _) fun o=>?_;cases o.ex<;>first|exact ih _ _ _|exact .refl _
  | cond x y z=>
   show aj.Le (match eval F x with
    | .bool true=>exec cx n y F S
    | .bool false=>exec cx n z F S
    | _=>.err 3001) (match eval F x with
    | .bool true=>exec cx (n+1) y F S
    | .bool false=>exec cx (n+1) z F S
    | _=>.err 3001)
   split
   ·exact ih _ _ _
   ·exact ih _ _ _
   ·exact .refl _
  | block id b=>
   exact .bind (ih b F S) fun o=>.refl _
  | loop b=>
   show aj.Le (aj.bind (exec cx n b F S) fun o=>match o.ex with
    | .normal=>exec cx n (.loop b) o.F o.S
    | _=>.ok o []) (aj.bind (exec cx (n+1) b F S) fun o=>match o.ex with
    | .normal=>exec cx (n+1) (.loop b) o.F o.S
    | _=>.ok o [])
   refine .bind (ih _ _ _) fun o=>?_;cases o.ex<;>first|exact ih _ _ _|exact .refl _
  | rangeFunc f p x y=>exact rangeF_le ih f p x y F S
  | scope b=>exact scopeF_le ih b n b F S
  | label l=>exact .refl _
  | goto l=>exact .refl _
  | refuse s=>exact .refl _
theorem jl {cx:Cx} {n m:Nat} (h:n≤m) (c:Code) (F:Fr) (S:AS):aj.Le (exec cx n c F S) (exec cx m c F S):=by
 induction h with
 | refl=>exact .refl _
 | step _ ih=>exact ih.trans (exec_le _ c F S)
theorem eB {cx:Cx} {n m:Nat} (h:n≤m):KLe (bq cx (exec cx n)) (bq cx (exec cx m)):=xW fun c F S=>jl h c F S
theorem aj.Le.all {α:Type} {r r':aj α} (h:aj.Le r r') {p:α→Prop} (k:r.cY p):r'.cY p:=by
 cases r with
 | err n=>exact k.elim
 | ok x xs=>rw[h x xs rfl];exact k
end Go.Am
