/-
  The abstract machine: plain facts on its tries, lists and numbers.
-/
import Derived.Test.YtdknlbnljfdhgaaGreatDoorAmExec
namespace Go.Am
open Go
section
variable{α:Type}
theorem xW(m:Nat):Nat.beq (Nat.mod m 2) 0=decide (m%2=0):=by
 show Nat.beq (m%2) 0=_;by_cases h:m%2=0
 .rw[h];rfl
 .have h1:m%2=1:=by omega
  rw[h1];rfl
theorem fD(n:Nat):(T.leaf:T α).get n=none:=rfl
theorem mq(l r:T α)(v:Option α):(T.node l v r).get 0=v:=rfl
theorem dn(m:Nat)(l r:T α)(v:Option α):(T.node l v r).get (m+1)=if m%2=0 then l.get (m / 2) else r.get (m / 2):=by
 show @Bool.rec (fun _=>Option α) (r.get (m / 2)) (l.get (m / 2)) (Nat.beq (Nat.mod m 2) 0)=_;rw[xW];by_cases h:m%2=0
 .rw[if_pos h,decide_eq_true h]
 .rw[if_neg h,decide_eq_false h]
theorem mkF_zero(f:Nat)(x:Option α):T.mkF (f+1) 0 x=.node .leaf x .leaf:=rfl
theorem mkF_succ(f m:Nat)(x:Option α):T.mkF (f+1) (m+1) x=if m%2=0 then .node (T.mkF f (m / 2) x) none .leaf else .node .leaf none (T.mkF f (m / 2) x):=by
 show @Bool.rec (fun _=>T α) (.node .leaf none (T.mkF f (m / 2) x)) (.node (T.mkF f (m / 2) x) none .leaf) (Nat.beq (Nat.mod m 2) 0)=_;rw[xW];by_cases h:m%2=0
 .rw[if_pos h,decide_eq_true h]
 .rw[if_neg h,decide_eq_false h]
theorem get_mkF:∀(f n m:Nat)(x:Option α),n<f->(T.mkF f n x).get m=if m=n then x else none:=by
 intro f
 induction f with
 |zero=>intro n m x h;omega
 |succ f ih=>
  intro n m x hn;cases n with
  |zero=>
   rw[mkF_zero];cases m with
   |zero=>rfl
   |succ m=>rw[dn,fD,ite_self,if_neg (by omega)]
  |succ n=>
   rw[mkF_succ];cases m with
   |zero=>split<;>rw[mq,if_neg (by omega)]
   |succ m=>
    by_cases h:n%2=0
    .rw[if_pos h,dn];by_cases h':m%2=0
     .rw[if_pos h',ih (n / 2) (m / 2) x (by omega)];by_cases e:m=n
      .subst e;simp
      .rw[if_neg (by omega),if_neg (by omega)]
     .rw[if_neg h',fD,if_neg (by omega)]
    .rw[if_neg h,dn];by_cases h':m%2=0
     .rw[if_pos h',fD,if_neg (by omega)]
     .rw[if_neg h',ih (n / 2) (m / 2) x (by omega)];by_cases e:m=n
      .subst e;simp
      .rw[if_neg (by omega),if_neg (by omega)]
theorem put_leaf(n:Nat)(x:Option α):(T.leaf:T α).put n x=T.mkF (n+1) n x:=rfl
theorem yF(l r:T α)(v x:Option α):(T.node l v r).put 0 x=.node l x r:=rfl
theorem yG(m:Nat)(l r:T α)(v x:Option α):(T.node l v r).put (m+1) x=if m%2=0 then .node (l.put (m / 2) x) v r else .node l v (r.put (m / 2) x):=by
 show @Bool.rec (fun _=>T α) (.node l v (r.put (m / 2) x)) (.node (l.put (m / 2) x) v r) (Nat.beq (Nat.mod m 2) 0)=_;rw[xW];by_cases h:m%2=0
 .rw[if_pos h,decide_eq_true h]
 .rw[if_neg h,decide_eq_false h]
theorem get_put(t:T α)(n m:Nat)(x:Option α):(t.put n x).get m=if m=n then x else t.get m:=by
 induction t generalizing n m with
 |leaf=>rw[put_leaf,get_mkF _ _ _ _ (by omega)];rfl
 |node l v r xi ihr=>
  cases n with
  |zero=>
   rw[yF];cases m with
   |zero=>rfl
   |succ m=>rw[dn,dn,if_neg (by omega:¬m+1=0)]
  |succ n=>
   rw[yG];cases m with
   |zero=>split<;>rw[mq,mq,if_neg (by omega)]
   |succ m=>
    by_cases h:n%2=0
    .rw[if_pos h,dn,dn];by_cases h':m%2=0
     .rw[if_pos h',if_pos h',xi (n / 2) (m / 2)];by_cases e:m=n
      .subst e;simp
      .rw[if_neg (by omega),if_neg (by omega)]
     .rw[if_neg h',if_neg h',if_neg (by omega)]
    .rw[if_neg h,dn,dn];by_cases h':m%2=0
     .rw[if_pos h',if_pos h',if_neg (by omega)]
     .rw[if_neg h',if_neg h',ihr (n / 2) (m / 2)];by_cases e:m=n
      .subst e;simp
      .rw[if_neg (by omega),if_neg (by omega)]
theorem vO(t:T α)(n m:Nat)(x:α):(t.set n x).get m=if m=n then some x else t.get m:=get_put t n m _
theorem aa(t:T α)(n:Nat)(x:α):(t.set n x).get n=some x:=by rw[vO,if_pos rfl]
theorem ae(t:T α){n m:Nat}(x:α)(h:m≠n):(t.set n x).get m=t.get m:=by rw[vO,if_neg h]
theorem vP:∀(l:List α)(i:Nat)(t:T α)(m:Nat),
  (T.ofL l i t).get m=if i<=m/\m<i+l.length then l[m-i]? else t.get m:=by
 intro l
 induction l with
 |nil=>intro i t m;simp[T.ofL];omega
 |cons x l ih=>
  intro i t m;show (T.ofL l (i+1) (T.set t i x)).get m=_;rw[ih,vO];by_cases h:i+1<=m/\m<i+1+l.length
  .rw[if_pos h,if_pos (by simp;omega)];obtain⟨k,rfl⟩:∃k,m=i+1+k:=⟨m-(i+1),by omega⟩
   have e1:i+1+k-(i+1)=k:=by omega
   have e2:i+1+k-i=k+1:=by omega
   rw[e1,e2];simp
  .rw[if_neg h];by_cases e:m=i
   .subst e;simp
   .rw[if_neg e,if_neg (by simp;omega)]
theorem iw(n:Nat):∀(l:List α),nth n l=l[n]?:=by
 induction n with
 |zero=>intro l;cases l<;>rfl
 |succ n ih=>intro l;cases l with
  |nil=>rfl
  |cons x t=>exact (ih t).trans (by simp)
theorem ct(n:Nat):∀(l:List α),takeN n l=l.take n:=by
 induction n with
 |zero=>intro l;cases l<;>rfl
 |succ n ih=>intro l;cases l with
  |nil=>rfl
  |cons x t=>simpa[takeN]using ih t
theorem ca(n:Nat):∀(l:List α),mb n l=l.drop n:=by
 induction n with
 |zero=>intro l;rfl
 |succ n ih=>intro l;cases l with
  |nil=>rfl
  |cons x t=>simpa[mb]using ih t
theorem bJ:∀(l:List α),eG l=l.length:=by
 intro l;induction l with
 |nil=>rfl
 |cons x t ih=>simpa[eG]using ih
theorem bz:∀(l m:List α),fH l m=l++m:=by
 intro l m;induction l with
 |nil=>rfl
 |cons x t ih=>simpa[fH]using ih
theorem gu{β:Type}(f:α->β):∀(l:List α),mS f l=l.map f:=by
 intro l;induction l with
 |nil=>rfl
 |cons x t ih=>simpa[mS]using ih
theorem setNth_eq(n:Nat):∀(l:List α)(x:α),ry n l x=l.set n x:=by
 induction n with
 |zero=>intro l x;cases l<;>rfl
 |succ n ih=>intro l x;cases l with
  |nil=>rfl
  |cons y t=>simpa[ry]using ih t x
theorem gm(off:Nat):∀(l new:List α),off<=l.length->cT off l new=l.take off++new++l.drop (off+new.length):=by
 induction off with
 |zero=>intro l new h;show List.append new (mb new.length l)=_;rw[ca];simp
 |succ n ih=>intro l new h;cases l with
  |nil=>simp at h
  |cons y t=>
   have:=ih t new (by simpa using h);show y::cT n t new=_;rw[this];have e:n+1+new.length=(n+new.length)+1:=by omega
   simp[e]
theorem qU(off:Nat)(l new:List α)(h:off+new.length<=l.length):(cT off l new).length=l.length:=by
 rw[gm off l new (by omega)];simp;omega
theorem oq(off:Nat)(l new:List α)(h:off+new.length<=l.length)(i:Nat):
  (cT off l new)[i]?=if off<=i/\i<off+new.length then new[i-off]? else l[i]?:=by
 rw[gm off l new (by omega)];by_cases h1:i<off
 .rw[if_neg (by omega),List.append_assoc,List.getElem?_append_left (by simp;omega),List.getElem?_take];simp[h1]
 .by_cases h2:i<off+new.length
  .rw[if_pos (by omega),List.append_assoc,List.getElem?_append_right (by simp;omega),List.getElem?_append_left (by simp;omega)];congr 1;simp;omega
  .rw[if_neg (by omega),List.getElem?_append_right (by simp;omega),List.getElem?_drop];congr 1;simp;omega
theorem jN(p:α->Bool):∀(l:List α),ew p l=l.all p:=by
 intro l;induction l with
 |nil=>rfl
 |cons x t ih=>show cond (p x) (ew p t) false=_;rw[ih];cases h:p x<;>simp[h]
theorem nL(p:α->Bool):∀(l:List α),jE p l=l.filter p:=by
 intro l;induction l with
 |nil=>rfl
 |cons x t ih=>show cond (p x) (x::jE p t) (jE p t)=_;rw[ih];cases h:p x<;>simp[h]
end
theorem memN_eq(n:Nat):∀(l:List Nat),yJ n l=l.contains n:=by
 intro l;induction l with
 |nil=>rfl
 |cons m t ih=>
  simp only[yJ]at *;simp only[ih,List.contains_cons];by_cases h:n=m
  .subst h;simp
  .have:Nat.beq n m=false:=by
    cases hb:Nat.beq n m with
    |false=>rfl
    |true=>exact absurd (Nat.eq_of_beq_eq_true hb) h
   simp[this,h]
theorem bF{a b:Nat}:Nat.beq a b=decide (a=b):=by
 by_cases h:a=b
 .subst h;simp
 .have:Nat.beq a b=false:=by
   cases hb:Nat.beq a b with
   |false=>rfl
   |true=>exact absurd (Nat.eq_of_beq_eq_true hb) h
  simp[this,h]
theorem cH{a b:Nat}:Nat.ble a b=decide (a<=b):=by
 by_cases h:a<=b
 .simp[h,Nat.ble_eq]
 .have:Nat.ble a b=false:=by
   cases hb:Nat.ble a b with
   |false=>rfl
   |true=>exact absurd (Nat.le_of_ble_eq_true hb) h
  simp[this,h]
theorem gH{a b:Nat}:Nat.blt a b=decide (a<b):=by
 show Nat.ble (a+1) b=_;rw[cH];rfl
theorem aN{α:Type}(n:Nat)(k:Nat->α):fS n k=k n:=by cases n<;>rfl
theorem dG{α:Type}(n:Int)(k:Int->α):jd n k=k n:=by
 cases n<;>simp only[jd,aN]
theorem gK(a b:Int):yU a b=decide (a=b):=by
 cases a<;>cases b<;>simp[yU,bF,Int.ofNat_inj]
theorem lC(a b:Int):ltI a b=decide (a<b):=by
 cases a<;>cases b<;>simp[ltI,gH]<;>omega
theorem cR(j k:IntKind):ej j k=decide (j=k):=by cases j<;>cases k<;>rfl
theorem kj:∀(a b:List Nat),re a b=decide (a=b):=by
 intro a;induction a with
 |nil=>intro b;cases b<;>simp[re]
 |cons x t ih=>intro b;cases b with
  |nil=>simp[re]
  |cons y u=>
   show cond (Nat.beq x y) (re t u) false=_;rw[bF,ih u];by_cases h:x=y<;>simp[h]
end Go.Am
