/-
  The abstract machine: plain facts on its tries, lists and numbers.
-/
import Derived.Test.YtdknlbnljfdhgaaGreatDoorAmExec
open Nat renaming beq->zza
open List renaming getElem?_append_right->zzb,getElem?_append_left->zzc
namespace Go.Am
open Go
section
variable{α:Type}
theorem AX(m:Nat):zza (Nat.mod m 2) 0=decide (m%2=0):=by
 show zza (m%2) 0=_;by_cases h:m%2=0
 .rw[h];rfl
 .have h1:m%2=1:=by omega
  rw[h1];rfl
theorem gm(n:Nat):(T.leaf:T α).get n=none:=rfl
theorem nJ(l r:T α)(v:Option α):(T.node l v r).get 0=v:=rfl
theorem dP(m:Nat)(l r:T α)(v:Option α):(T.node l v r).get (m+1)=if m%2=0 then l.get (m / 2) else r.get (m / 2):=by
 show @Bool.rec (fun _=>Option α) (r.get (m / 2)) (l.get (m / 2)) (zza (Nat.mod m 2) 0)=_;rw[AX];by_cases h:m%2=0
 .rw[if_pos h,decide_eq_true h]
 .rw[if_neg h,decide_eq_false h]
theorem Ub(f:Nat)(x:Option α):T.YZ (f+1) 0 x=.node .leaf x .leaf:=rfl
theorem Uc(f m:Nat)(x:Option α):T.YZ (f+1) (m+1) x=if m%2=0 then .node (T.YZ f (m / 2) x) none .leaf else .node .leaf none (T.YZ f (m / 2) x):=by
 show @Bool.rec (fun _=>T α) (.node .leaf none (T.YZ f (m / 2) x)) (.node (T.YZ f (m / 2) x) none .leaf) (zza (Nat.mod m 2) 0)=_;rw[AX];by_cases h:m%2=0
 .rw[if_pos h,decide_eq_true h]
 .rw[if_neg h,decide_eq_false h]
theorem ZN:∀(f n m:Nat)(x:Option α),n<f->(T.YZ f n x).get m=if m=n then x else none:=by
 intro f
 induction f with
 |zero=>intro n m x h;omega
 |succ f ih=>
  intro n m x hn;cases n with
  |zero=>
   rw[Ub];cases m with
   |zero=>rfl
   |succ m=>rw[dP,gm,ite_self,if_neg (by omega)]
  |succ n=>
   rw[Uc];cases m with
   |zero=>split<;>rw[nJ,if_neg (by omega)]
   |succ m=>
    by_cases h:n%2=0
    .rw[if_pos h,dP];by_cases h':m%2=0
     .rw[if_pos h',ih (n / 2) (m / 2) x (by omega)];by_cases e:m=n
      .subst e;simp
      .rw[if_neg (by omega),if_neg (by omega)]
     .rw[if_neg h',gm,if_neg (by omega)]
    .rw[if_neg h,dP];by_cases h':m%2=0
     .rw[if_pos h',gm,if_neg (by omega)]
     .rw[if_neg h',ih (n / 2) (m / 2) x (by omega)];by_cases e:m=n
      .subst e;simp
      .rw[if_neg (by omega),if_neg (by omega)]
theorem SJ(n:Nat)(x:Option α):(T.leaf:T α).put n x=T.YZ (n+1) n x:=rfl
theorem BC(l r:T α)(v x:Option α):(T.node l v r).put 0 x=.node l x r:=rfl
theorem BD(m:Nat)(l r:T α)(v x:Option α):(T.node l v r).put (m+1) x=if m%2=0 then .node (l.put (m / 2) x) v r else .node l v (r.put (m / 2) x):=by
 show @Bool.rec (fun _=>T α) (.node l v (r.put (m / 2) x)) (.node (l.put (m / 2) x) v r) (zza (Nat.mod m 2) 0)=_;rw[AX];by_cases h:m%2=0
 .rw[if_pos h,decide_eq_true h]
 .rw[if_neg h,decide_eq_false h]
theorem ZM(t:T α)(n m:Nat)(x:Option α):(t.put n x).get m=if m=n then x else t.get m:=by
 induction t generalizing n m with
 |leaf=>rw[SJ,ZN _ _ _ _ (by omega)];rfl
 |node l v r zY ihr=>
  cases n with
  |zero=>
   rw[BC];cases m with
   |zero=>rfl
   |succ m=>rw[dP,dP,if_neg (by omega:¬m+1=0)]
  |succ n=>
   rw[BD];cases m with
   |zero=>split<;>rw[nJ,nJ,if_neg (by omega)]
   |succ m=>
    by_cases h:n%2=0
    .rw[if_pos h,dP,dP];by_cases h':m%2=0
     .rw[if_pos h',if_pos h',zY (n / 2) (m / 2)];by_cases e:m=n
      .subst e;simp
      .rw[if_neg (by omega),if_neg (by omega)]
     .rw[if_neg h',if_neg h',if_neg (by omega)]
    .rw[if_neg h,dP,dP];by_cases h':m%2=0
     .rw[if_pos h',if_pos h',if_neg (by omega)]
     .rw[if_neg h',if_neg h',ihr (n / 2) (m / 2)];by_cases e:m=n
      .subst e;simp
      .rw[if_neg (by omega),if_neg (by omega)]
theorem yG(t:T α)(n m:Nat)(x:α):(t.set n x).get m=if m=n then some x else t.get m:=ZM t n m _
theorem aa(t:T α)(n:Nat)(x:α):(t.set n x).get n=some x:=by rw[yG,if_pos rfl]
theorem ae(t:T α){n m:Nat}(x:α)(h:m≠n):(t.set n x).get m=t.get m:=by rw[yG,if_neg h]
theorem yH:∀(l:List α)(i:Nat)(t:T α)(m:Nat),
  (T.YI l i t).get m=if i<=m/\m<i+l.length then l[m-i]? else t.get m:=by
 intro l
 induction l with
 |nil=>intro i t m;simp[T.YI];omega
 |cons x l ih=>
  intro i t m;show (T.YI l (i+1) (T.set t i x)).get m=_;rw[ih,yG];by_cases h:i+1<=m/\m<i+1+l.length
  .rw[if_pos h,if_pos (by simp;omega)];obtain⟨k,rfl⟩:∃k,m=i+1+k:=⟨m-(i+1),by omega⟩
   have e1:i+1+k-(i+1)=k:=by omega
   have e2:i+1+k-i=k+1:=by omega
   rw[e1,e2];simp
  .rw[if_neg h];by_cases e:m=i
   .subst e;simp
   .rw[if_neg e,if_neg (by simp;omega)]
theorem ji(n:Nat):∀(l:List α),nth n l=l[n]?:=by
 induction n with
 |zero=>intro l;cases l<;>rfl
 |succ n ih=>intro l;cases l with
  |nil=>rfl
  |cons x t=>exact (ih t).trans (by simp)
theorem cR(n:Nat):∀(l:List α),takeN n l=l.take n:=by
 induction n with
 |zero=>intro l;cases l<;>rfl
 |succ n ih=>intro l;cases l with
  |nil=>rfl
  |cons x t=>simpa[takeN]using ih t
theorem cF(n:Nat):∀(l:List α),lT n l=l.drop n:=by
 induction n with
 |zero=>intro l;rfl
 |succ n ih=>intro l;cases l with
  |nil=>rfl
  |cons x t=>simpa[lT]using ih t
theorem bX:∀(l:List α),fw l=l.length:=by
 intro l;induction l with
 |nil=>rfl
 |cons x t ih=>simpa[fw]using ih
theorem bJ:∀(l m:List α),gC l m=l++m:=by
 intro l m;induction l with
 |nil=>rfl
 |cons x t ih=>simpa[gC]using ih
theorem iw{β:Type}(f:α->β):∀(l:List α),oD f l=l.map f:=by
 intro l;induction l with
 |nil=>rfl
 |cons x t ih=>simpa[oD]using ih
theorem OI(n:Nat):∀(l:List α)(x:α),tF n l x=l.set n x:=by
 induction n with
 |zero=>intro l x;cases l<;>rfl
 |succ n ih=>intro l x;cases l with
  |nil=>rfl
  |cons y t=>simpa[tF]using ih t x
theorem iu(off:Nat):∀(l new:List α),off<=l.length->dq off l new=l.take off++new++l.drop (off+new.length):=by
 induction off with
 |zero=>intro l new h;show List.append new (lT new.length l)=_;rw[cF];simp
 |succ n ih=>intro l new h;cases l with
  |nil=>simp at h
  |cons y t=>
   have:=ih t new (by simpa using h);show y::dq n t new=_;rw[this];have e:n+1+new.length=(n+new.length)+1:=by omega
   simp[e]
theorem ta(off:Nat)(l new:List α)(h:off+new.length<=l.length):(dq off l new).length=l.length:=by
 rw[iu off l new (by omega)];simp;omega
theorem qk(off:Nat)(l new:List α)(h:off+new.length<=l.length)(i:Nat):
  (dq off l new)[i]?=if off<=i/\i<off+new.length then new[i-off]? else l[i]?:=by
 rw[iu off l new (by omega)];by_cases h1:i<off
 .rw[if_neg (by omega),List.append_assoc,zzc (by simp;omega),List.getElem?_take];simp[h1]
 .by_cases h2:i<off+new.length
  .rw[if_pos (by omega),List.append_assoc,zzb (by simp;omega),zzc (by simp;omega)];congr 1;simp;omega
  .rw[if_neg (by omega),zzb (by simp;omega),List.getElem?_drop];congr 1;simp;omega
theorem kV(p:α->Bool):∀(l:List α),js p l=l.all p:=by
 intro l;induction l with
 |nil=>rfl
 |cons x t ih=>show cond (p x) (js p t) false=_;rw[ih];cases h:p x<;>simp[h]
theorem pR(p:α->Bool):∀(l:List α),kH p l=l.filter p:=by
 intro l;induction l with
 |nil=>rfl
 |cons x t ih=>show cond (p x) (x::kH p t) (kH p t)=_;rw[ih];cases h:p x<;>simp[h]
end
theorem Y1(n:Nat):∀(l:List Nat),BG n l=l.contains n:=by
 intro l;induction l with
 |nil=>rfl
 |cons m t ih=>
  simp only[BG]at *;simp only[ih,List.contains_cons];by_cases h:n=m
  .subst h;simp
  .have:zza n m=false:=by
    cases hb:zza n m with
    |false=>rfl
    |true=>exact absurd (Nat.eq_of_beq_eq_true hb) h
   simp[this,h]
theorem bO{a b:Nat}:zza a b=decide (a=b):=by
 by_cases h:a=b
 .subst h;simp
 .have:zza a b=false:=by
   cases hb:zza a b with
   |false=>rfl
   |true=>exact absurd (Nat.eq_of_beq_eq_true hb) h
  simp[this,h]
theorem cY{a b:Nat}:Nat.ble a b=decide (a<=b):=by
 by_cases h:a<=b
 .simp[h,Nat.ble_eq]
 .have:Nat.ble a b=false:=by
   cases hb:Nat.ble a b with
   |false=>rfl
   |true=>exact absurd (Nat.le_of_ble_eq_true hb) h
  simp[this,h]
theorem iJ{a b:Nat}:Nat.blt a b=decide (a<b):=by
 show Nat.ble (a+1) b=_;rw[cY];rfl
theorem aQ{α:Type}(n:Nat)(k:Nat->α):gP n k=k n:=by cases n<;>rfl
theorem dM{α:Type}(n:Int)(k:Int->α):jW n k=k n:=by
 cases n<;>simp only[jW,aQ]
theorem gz(a b:Int):Bs a b=decide (a=b):=by
 cases a<;>cases b<;>simp[Bs,bO,Int.ofNat_inj]
theorem mL(a b:Int):ML a b=decide (a<b):=by
 cases a<;>cases b<;>simp[ML,iJ]<;>omega
theorem dn(j k:IntKind):eE j k=decide (j=k):=by cases j<;>cases k<;>rfl
theorem lK:∀(a b:List Nat),tV a b=decide (a=b):=by
 intro a;induction a with
 |nil=>intro b;cases b<;>simp[tV]
 |cons x t ih=>intro b;cases b with
  |nil=>simp[tV]
  |cons y u=>
   show cond (zza x y) (tV t u) false=_;rw[bO,ih u];by_cases h:x=y<;>simp[h]
end Go.Am
