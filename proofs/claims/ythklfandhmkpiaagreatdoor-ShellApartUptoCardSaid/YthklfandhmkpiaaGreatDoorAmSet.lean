/-
  The abstract machine: deferred calls, made in the logic of one outcome.
-/
import Derived.Test.YthklfandhmkpiaaGreatDoorAmWide
set_option linter.unusedVariables false
set_option linter.unusedSimpArgs false
namespace Go.Am
open Go
def opsR(cx:Cx)(ops:List Oper):List Oper->Fr->AS->Md->(Fr->AS->Md->Prop)->Prop
 |[],F,S,m,Q=>Q F S m
 |o::l,F,S,m,Q=>dW o=none/\cond (dq o)
  (match bQ ops F o.guard with
   |some true=>opsR cx ops l (up F o.dst (uX m).1) S (uX m).2 Q
   |some false=>opsR cx ops l (up F o.dst .undef) S m Q
   |none=>False)
  (match bQ ops F o.guard with
   |some true=>match bE cx F S o with
    | .val v S'=>opsR cx ops l (up F o.dst v) S' m Q
    |_=>False
   |some false=>opsR cx ops l (up F o.dst .undef) S m Q
   |none=>False)
def thenS(R:Fr->AS->Md->Prop)(Q:Ex->Fr->AS->Md->Prop):Ex->Fr->AS->Md->Prop
 | .normal,F,S,m=>R F S m
 |e,F,S,m=>Q e F S m
def we(id:Nat)(Q:Ex->Fr->AS->Md->Prop):Ex->Fr->AS->Md->Prop
 | .exit j,F,S,m=>if j=id then Q .normal F S m else Q (.exit j) F S m
 |e,F,S,m=>Q e F S m
def wpS(cx:Cx):Code->Fr->AS->Md->(Ex->Fr->AS->Md->Prop)->Prop
 | .skip,F,S,m,Q=>Q .normal F S m
 | .ret,F,S,m,Q=>Q .ret F S m
 | .exit id,F,S,m,Q=>Q (.exit id) F S m
 | .region id ops draw,F,S,m,Q=>cond (ops.toList.any dq) (draw=false/\opsR cx ops.toList ops.toList F S m (Q .normal)) (kE cx (.region id ops draw) F S fun e F S=>Q e F S m)
 | .seq a b,F,S,m,Q=>wpS cx a F S m (thenS (fun F' S' m'=>wpS cx b F' S' m' Q) Q)
 | .cond x a b,F,S,m,Q=>jE (eval F x) (wpS cx a F S m Q) (wpS cx b F S m Q)
 | .block id b,F,S,m,Q=>wpS cx b F S m (we id Q)
 |_,_,_,_,_=>False
def settleP(cx:Cx)(gn:Func)(K:Md->AS->Prop)(e:Ex)(F:Fr)(S:AS)(m:Md):Prop:=match e with
 | .exit _=>False
 | .goto _=>False
 | .eQ _=>False
 |_=>(∃v,di cx gn F S=some v)/\∃m',kR e m=some m'/\K m' S
section
variable{cx:Cx}{ops l:List Oper}{o:Oper}{F:Fr}{S:AS}{m:Md}{K:AV->AS->Prop}{Q:Ex->Fr->AS->Md->Prop}{R:Fr->AS->Md->Prop}
def defK(o:Option Call)(a:Prop)(b:Call->Prop):Prop:=match o with|none=>a|some c=>b c
theorem defK_none{a:Prop}{b:Call->Prop}:defK none a b=a:=rfl
theorem defK_some{c:Call}{a:Prop}{b:Call->Prop}:defK (some c) a b=b c:=rfl
theorem sl_ds{n:Nat}{ds:List wJ}{t:Nat}:sl ⟨F.t,n,ds⟩ t=sl F t:=rfl
theorem Fa:bQ ops F none=some true:=rfl
theorem wpS_seq{a b:Code}:wpS cx (.seq a b) F S m Q=wpS cx a F S m (thenS (fun F' S' m'=>wpS cx b F' S' m' Q) Q):=rfl
theorem wpS_cond{x:Operand}{a b:Code}:wpS cx (.cond x a b) F S m Q=jE (eval F x) (wpS cx a F S m Q) (wpS cx b F S m Q):=rfl
theorem wpS_block{id:Nat}{b:Code}:wpS cx (.block id b) F S m Q=wpS cx b F S m (we id Q):=rfl
theorem wpS_region{id:Nat}{l:List Oper}{d:Bool}:wpS cx (.region id l.toArray d) F S m Q=cond (l.any dq) (d=false/\opsR cx l l F S m (Q .normal)) (kE cx (.region id l.toArray d) F S fun e F S=>Q e F S m):=rfl
theorem wpS_skip:wpS cx .skip F S m Q=Q .normal F S m:=rfl
theorem wpS_ret:wpS cx .ret F S m Q=Q .ret F S m:=rfl
theorem wpS_exit{id:Nat}:wpS cx (.exit id) F S m Q=Q (.exit id) F S m:=rfl
theorem Aa:thenS R Q .normal F S m=R F S m:=rfl
theorem thenS_ret:thenS R Q .ret F S m=Q .ret F S m:=rfl
theorem Fg{id:Nat}:thenS R Q (.exit id) F S m=Q (.exit id) F S m:=rfl
theorem xM{id:Nat}:we id Q .normal F S m=Q .normal F S m:=rfl
theorem blockS_ret{id:Nat}:we id Q .ret F S m=Q .ret F S m:=rfl
theorem Em{id j:Nat}:we id Q (.exit j) F S m=if j=id then Q .normal F S m else Q (.exit j) F S m:=rfl
theorem uM{gn:Func}{H:Md->AS->Prop}:settleP cx gn H .normal F S m=((∃v,di cx gn F S=some v)/\∃m',kR .normal m=some m'/\H m' S):=rfl
theorem Cq{gn:Func}{H:Md->AS->Prop}:settleP cx gn H .ret F S m=((∃v,di cx gn F S=some v)/\∃m',kR .ret m=some m'/\H m' S):=rfl
end
attribute [simp] sl_ds dW dq defK_none defK_some Fa wpS_seq wpS_cond wpS_block wpS_region wpS_skip wpS_ret wpS_exit Aa thenS_ret Fg xM blockS_ret Em uM Cq kR uX
end Go.Am
