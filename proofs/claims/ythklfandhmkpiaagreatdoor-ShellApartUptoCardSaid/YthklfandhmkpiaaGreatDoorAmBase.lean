/-
  The abstract machine: plain facts on its tries, lists and numbers.
-/
import Derived.Test.YthklfandhmkpiaaGreatDoorAmExec
open Nat renaming beq->zza
open List renaming getElem?_append_right->zzb,getElem?_append_left->zzc
namespace Go.Am
open Go
section
variable{α:Type}
theorem wj(m:Nat):zza (Nat.mod m 2) 0=decide (m%2=0):=by
 show zza (m%2) 0=_;by_cases h:m%2=0
 .rw[h];rfl
 .have h1:m%2=1:=by omega
  rw[h1];rfl
theorem fj(n:Nat):(T.leaf:T α).get n=none:=rfl
theorem lB(l r:T α)(v:Option α):(T.node l v r).get 0=v:=rfl
theorem dz(m:Nat)(l r:T α)(v:Option α):(T.node l v r).get (m+1)=if m%2=0 then l.get (m / 2) else r.get (m / 2):=by
 show @Bool.rec (fun _=>Option α) (r.get (m / 2)) (l.get (m / 2)) (zza (Nat.mod m 2) 0)=_;rw[wj];by_cases h:m%2=0
 .rw[if_pos h,decide_eq_true h]
 .rw[if_neg h,decide_eq_false h]
theorem mkF_zero(f:Nat)(x:Option α):T.mkF (f+1) 0 x=.node .leaf x .leaf:=rfl
theorem mkF_succ(f m:Nat)(x:Option α):T.mkF (f+1) (m+1) x=if m%2=0 then .node (T.mkF f (m / 2) x) none .leaf else .node .leaf none (T.mkF f (m / 2) x):=by
 show @Bool.rec (fun _=>T α) (.node .leaf none (T.mkF f (m / 2) x)) (.node (T.mkF f (m / 2) x) none .leaf) (zza (Nat.mod m 2) 0)=_;rw[wj];by_cases h:m%2=0
 .rw[if_pos h,decide_eq_true h]
 .rw[if_neg h,decide_eq_false h]
theorem get_mkF:∀(f n m:Nat)(x:Option α),n<f->(T.mkF f n x).get m=if m=n then x else none:=by
 intro f
 induction f with
 |zero=>intro n m x h;omega
 |succ f ih=>
  intro n m x hn;cases n with
  |zero=>
   rw[mkF_zero];cases m with
   |zero=>rfl
   |succ m=>rw[dz,fj,ite_self,if_neg (by omega)]
  |succ n=>
   rw[mkF_succ];cases m with
   |zero=>split<;>rw[lB,if_neg (by omega)]
   |succ m=>
    by_cases h:n%2=0
    .rw[if_pos h,dz];by_cases h':m%2=0
     .rw[if_pos h',ih (n / 2) (m / 2) x (by omega)];by_cases e:m=n
      .subst e;simp
      .rw[if_neg (by omega),if_neg (by omega)]
     .rw[if_neg h',fj,if_neg (by omega)]
    .rw[if_neg h,dz];by_cases h':m%2=0
     .rw[if_pos h',fj,if_neg (by omega)]
     .rw[if_neg h',ih (n / 2) (m / 2) x (by omega)];by_cases e:m=n
      .subst e;simp
      .rw[if_neg (by omega),if_neg (by omega)]
theorem put_leaf(n:Nat)(x:Option α):(T.leaf:T α).put n x=T.mkF (n+1) n x:=rfl
theorem wS(l r:T α)(v x:Option α):(T.node l v r).put 0 x=.node l x r:=rfl
theorem wT(m:Nat)(l r:T α)(v x:Option α):(T.node l v r).put (m+1) x=if m%2=0 then .node (l.put (m / 2) x) v r else .node l v (r.put (m / 2) x):=by
 show @Bool.rec (fun _=>T α) (.node l v (r.put (m / 2) x)) (.node (l.put (m / 2) x) v r) (zza (Nat.mod m 2) 0)=_;rw[wj];by_cases h:m%2=0
 .rw[if_pos h,decide_eq_true h]
 .rw[if_neg h,decide_eq_false h]
theorem get_put(t:T α)(n m:Nat)(x:Option α):(t.put n x).get m=if m=n then x else t.get m:=by
 induction t generalizing n m with
 |leaf=>rw[put_leaf,get_mkF _ _ _ _ (by omega)];rfl
 |node l v r w9 ihr=>
  cases n with
  |zero=>
   rw[wS];cases m with
   |zero=>rfl
   |succ m=>rw[dz,dz,if_neg (by omega:¬m+1=0)]
  |succ n=>
   rw[wT];cases m with
   |zero=>split<;>rw[lB,lB,if_neg (by omega)]
   |succ m=>
    by_cases h:n%2=0
    .rw[if_pos h,dz,dz];by_cases h':m%2=0
     .rw[if_pos h',if_pos h',w9 (n / 2) (m / 2)];by_cases e:m=n
      .subst e;simp
      .rw[if_neg (by omega),if_neg (by omega)]
     .rw[if_neg h',if_neg h',if_neg (by omega)]
    .rw[if_neg h,dz,dz];by_cases h':m%2=0
     .rw[if_pos h',if_pos h',if_neg (by omega)]
     .rw[if_neg h',if_neg h',ihr (n / 2) (m / 2)];by_cases e:m=n
      .subst e;simp
      .rw[if_neg (by omega),if_neg (by omega)]
theorem uh(t:T α)(n m:Nat)(x:α):(t.set n x).get m=if m=n then some x else t.get m:=get_put t n m _
theorem get_set_same(t:T α)(n:Nat)(x:α):(t.set n x).get n=some x:=by rw[uh,if_pos rfl]
theorem ah(t:T α){n m:Nat}(x:α)(h:m≠n):(t.set n x).get m=t.get m:=by rw[uh,if_neg h]
theorem ui:∀(l:List α)(i:Nat)(t:T α)(m:Nat),
  (T.ofL l i t).get m=if i<=m/\m<i+l.length then l[m-i]? else t.get m:=by
 intro l
 induction l with
 |nil=>intro i t m;simp[T.ofL];omega
 |cons x l ih=>
  intro i t m;show (T.ofL l (i+1) (T.set t i x)).get m=_;rw[ih,uh];by_cases h:i+1<=m/\m<i+1+l.length
  .rw[if_pos h,if_pos (by simp;omega)];obtain⟨k,rfl⟩:∃k,m=i+1+k:=⟨m-(i+1),by omega⟩
   have e1:i+1+k-(i+1)=k:=by omega
   have e2:i+1+k-i=k+1:=by omega
   rw[e1,e2];simp
  .rw[if_neg h];by_cases e:m=i
   .subst e;simp
   .rw[if_neg e,if_neg (by simp;omega)]
theorem gq(n:Nat):∀(l:List α),nth n l=l[n]?:=by
 induction n with
 |zero=>intro l;cases l<;>rfl
 |succ n ih=>intro l;cases l with
  |nil=>rfl
  |cons x t=>exact (ih t).trans (by simp)
theorem cK(n:Nat):∀(l:List α),takeN n l=l.take n:=by
 induction n with
 |zero=>intro l;cases l<;>rfl
 |succ n ih=>intro l;cases l with
  |nil=>rfl
  |cons x t=>simpa[takeN]using ih t
theorem cY(n:Nat):∀(l:List α),kZ n l=l.drop n:=by
 induction n with
 |zero=>intro l;rfl
 |succ n ih=>intro l;cases l with
  |nil=>rfl
  |cons x t=>simpa[kZ]using ih t
theorem bL:∀(l:List α),dN l=l.length:=by
 intro l;induction l with
 |nil=>rfl
 |cons x t ih=>simpa[dN]using ih
theorem cA:∀(l m:List α),gR l m=l++m:=by
 intro l m;induction l with
 |nil=>rfl
 |cons x t ih=>simpa[gR]using ih
theorem fZ{β:Type}(f:α->β):∀(l:List α),jt f l=l.map f:=by
 intro l;induction l with
 |nil=>rfl
 |cons x t ih=>simpa[jt]using ih
theorem setNth_eq(n:Nat):∀(l:List α)(x:α),Fy n l x=l.set n x:=by
 induction n with
 |zero=>intro l x;cases l<;>rfl
 |succ n ih=>intro l x;cases l with
  |nil=>rfl
  |cons y t=>simpa[Fy]using ih t x
theorem iG(off:Nat):∀(l new:List α),off<=l.length->ec off l new=l.take off++new++l.drop (off+new.length):=by
 induction off with
 |zero=>intro l new h;show List.append new (kZ new.length l)=_;rw[cY];simp
 |succ n ih=>intro l new h;cases l with
  |nil=>simp at h
  |cons y t=>
   have:=ih t new (by simpa using h);show y::ec n t new=_;rw[this];have e:n+1+new.length=(n+new.length)+1:=by omega
   simp[e]
theorem pH(off:Nat)(l new:List α)(h:off+new.length<=l.length):(ec off l new).length=l.length:=by
 rw[iG off l new (by omega)];simp;omega
theorem nE(off:Nat)(l new:List α)(h:off+new.length<=l.length)(i:Nat):
  (ec off l new)[i]?=if off<=i/\i<off+new.length then new[i-off]? else l[i]?:=by
 rw[iG off l new (by omega)];by_cases h1:i<off
 .rw[if_neg (by omega),List.append_assoc,zzc (by simp;omega),List.getElem?_take];simp[h1]
 .by_cases h2:i<off+new.length
  .rw[if_pos (by omega),List.append_assoc,zzb (by simp;omega),zzc (by simp;omega)];congr 1;simp;omega
  .rw[if_neg (by omega),zzb (by simp;omega),List.getElem?_drop];congr 1;simp;omega
theorem iU(p:α->Bool):∀(l:List α),gS p l=l.all p:=by
 intro l;induction l with
 |nil=>rfl
 |cons x t ih=>show cond (p x) (gS p t) false=_;rw[ih];cases h:p x<;>simp[h]
theorem nj(p:α->Bool):∀(l:List α),gr p l=l.filter p:=by
 intro l;induction l with
 |nil=>rfl
 |cons x t ih=>show cond (p x) (x::gr p t) (gr p t)=_;rw[ih];cases h:p x<;>simp[h]
end
theorem memN_eq(n:Nat):∀(l:List Nat),wX n l=l.contains n:=by
 intro l;induction l with
 |nil=>rfl
 |cons m t ih=>
  simp only[wX]at *;simp only[ih,List.contains_cons];by_cases h:n=m
  .subst h;simp
  .have:zza n m=false:=by
    cases hb:zza n m with
    |false=>rfl
    |true=>exact absurd (Nat.eq_of_beq_eq_true hb) h
   simp[this,h]
theorem bC{a b:Nat}:zza a b=decide (a=b):=by
 by_cases h:a=b
 .subst h;simp
 .have:zza a b=false:=by
   cases hb:zza a b with
   |false=>rfl
   |true=>exact absurd (Nat.eq_of_beq_eq_true hb) h
  simp[this,h]
theorem cG{a b:Nat}:Nat.ble a b=decide (a<=b):=by
 by_cases h:a<=b
 .simp[h,Nat.ble_eq]
 .have:Nat.ble a b=false:=by
   cases hb:Nat.ble a b with
   |false=>rfl
   |true=>exact absurd (Nat.le_of_ble_eq_true hb) h
  simp[this,h]
theorem gJ{a b:Nat}:Nat.blt a b=decide (a<b):=by
 show Nat.ble (a+1) b=_;rw[cG];rfl
theorem aQ{α:Type}(n:Nat)(k:Nat->α):dS n k=k n:=by cases n<;>rfl
theorem eG{α:Type}(n:Int)(k:Int->α):ju n k=k n:=by
 cases n<;>simp only[ju,aQ]
theorem cQ(a b:Int):pP a b=decide (a=b):=by
 cases a<;>cases b<;>simp[pP,bC,Int.ofNat_inj]
theorem kf(a b:Int):ltI a b=decide (a<b):=by
 cases a<;>cases b<;>simp[ltI,gJ]<;>omega
theorem cL(j k:IntKind):iO j k=decide (j=k):=by cases j<;>cases k<;>rfl
theorem aZ:∀(a b:List Nat),ph a b=decide (a=b):=by
 intro a;induction a with
 |nil=>intro b;cases b<;>simp[ph]
 |cons x t ih=>intro b;cases b with
  |nil=>simp[ph]
  |cons y u=>
   show cond (zza x y) (ph t u) false=_;rw[bC,ih u];by_cases h:x=y<;>simp[h]
end Go.Am
