/-
  The abstract machine: values that are the same; values that hold no address; objects through fewer places.
-/
import Derived.Test.YtdknlbnljfdhgaaGreatDoorAmMem
open Nat renaming beq->zza
namespace Go.Am
open Go
variable{Λ:LB}
theorem OO:∀(n:Nat)(x y:AV),fL n x y=true->x=y:=by
 intro n
 induction n with
 |zero=>intro x y h;cases h
 |succ n ih=>
  have lists:∀(a b:List AV),(List.rec (motive:=fun _=>List AV->Bool) (fun b=>List.casesOn (motive:=fun _=>Bool) b true fun _ _=>false)
    (fun x _ zY b=>List.casesOn (motive:=fun _=>Bool) b false fun y t=>cond (fL n x y) (zY t) false) a) b=true->a=b:=by
   intro a
   induction a with
   |nil=>intro b h;cases b with
    |nil=>rfl
    |cons _ _=>cases h
   |cons x a Ef=>
    intro b h;cases b with
    |nil=>cases h
    |cons y b=>
     have h':cond (fL n x y) ((List.rec (motive:=fun _=>List AV->Bool) (fun b=>List.casesOn (motive:=fun _=>Bool) b true fun _ _=>false)
      (fun x _ zY b=>List.casesOn (motive:=fun _=>Bool) b false fun y t=>cond (fL n x y) (zY t) false) a) b) false=true:=h
     cases hxy:fL n x y with
     |false=>rw[hxy]at h';cases h'
     |true=>
      rw[hxy]at h';rw[ih x y hxy,Ef b h']
  have yB:∀x y:AV,fL (n+1) x y=(match x,y with
   | .bool a,.bool b=>cond a b (!b)
   | .int j a,.int k b=>eE j k&&Bs a b
   | .str a,.str b=>tV a b
   | .ck,.ck=>true
   | .ptr a b c d,.ptr e f g h=>zza a e&&zza b f&&zza c g&&zza d h
   | .ar,.ar=>true
   | .slice a b c d e f none,.slice a' b' c' d' e' f' none=>zza a a'&&zza b b'&&zza c c'&&zza d d'&&zza e e'&&zza f f'
   | .slice a b c d e f (some g),.slice a' b' c' d' e' f' (some g')=>zza a a'&&zza b b'&&zza c c'&&zza d d'&&zza e e'&&zza f f'&&zza g g'
   | .j8,.j8=>true
   | .map a,.map b=>zza a b
   | .func (.func f) a b,.func (.func g) c d=>zza f g&&(List.rec (motive:=fun _=>List AV->Bool) (fun b=>List.casesOn (motive:=fun _=>Bool) b true fun _ _=>false)
    (fun x _ zY b=>List.casesOn (motive:=fun _=>Bool) b false fun y t=>cond (fL n x y) (zY t) false) a) c&&(List.rec (motive:=fun _=>List AV->Bool) (fun b=>List.casesOn (motive:=fun _=>Bool) b true fun _ _=>false)
    (fun x _ zY b=>List.casesOn (motive:=fun _=>Bool) b false fun y t=>cond (fL n x y) (zY t) false) b) d
   | .obj .LZ a,.obj .LZ b=>zza a b
   | .obj .chan a,.obj .chan b=>zza a b
   | .eQ,.eQ=>true
   | .bR,.bR=>true
   | .iface t v,.iface u w=>zza t u&&fL n v w
   | .agg a,.agg b=>(List.rec (motive:=fun _=>List AV->Bool) (fun b=>List.casesOn (motive:=fun _=>Bool) b true fun _ _=>false)
    (fun x _ zY b=>List.casesOn (motive:=fun _=>Bool) b false fun y t=>cond (fL n x y) (zY t) false) a) b
   | .tuple a,.tuple b=>(List.rec (motive:=fun _=>List AV->Bool) (fun b=>List.casesOn (motive:=fun _=>Bool) b true fun _ _=>false)
    (fun x _ zY b=>List.casesOn (motive:=fun _=>Bool) b false fun y t=>cond (fL n x y) (zY t) false) a) b
   |_,_=>false):=fun x y=>rfl
  intro x y h;rw[yB]at h;split at h
  all_goals try (cases h;done)
  all_goals try rfl
  all_goals try simp only[Bool.and_eq_true,bO,decide_eq_true_eq,gz,lK,dn]at h
  .rename_i a b;cases a<;>cases b<;>simp_all
  .obtain⟨rfl,rfl⟩:=h;rfl
  .subst h;rfl
  .obtain⟨⟨⟨rfl,rfl⟩,rfl⟩,rfl⟩:=h;rfl
  .obtain⟨⟨⟨⟨⟨rfl,rfl⟩,rfl⟩,rfl⟩,rfl⟩,rfl⟩:=h;rfl
  .obtain⟨⟨⟨⟨⟨⟨rfl,rfl⟩,rfl⟩,rfl⟩,rfl⟩,rfl⟩,rfl⟩:=h;rfl
  .subst h;rfl
  .obtain⟨⟨rfl,h1⟩,h2⟩:=h;rw[lists _ _ h1,lists _ _ h2]
  .subst h;rfl
  .subst h;rfl
  .obtain⟨rfl,h2⟩:=h;rw[ih _ _ h2]
  .rw[lists _ _ h]
  .rw[lists _ _ h]
theorem VR:∀(n:Nat)(v:AV)(x:Value)(ρ ρ':aY),Au n v=true->ai ρ v x->ai ρ' v x:=by
 intro n
 induction n with
 |zero=>intro v x ρ ρ' h;cases h
 |succ n ih=>
  intro v x ρ ρ' h hv;have lst:∀(l:List AV)(ys:List Value),HL (Au n) l=true->ay ρ l ys->ay ρ' l ys:=by
   intro l
   induction l with
   |nil=>intro ys _ h;simpa[ay]using h
   |cons a l zY=>
    intro ys hf h;simp only[HL,Bool.and_eq_true]at hf;simp only[ay]at h;obtain⟨y,t,rfl,p,q⟩:=h;exact ay.cons (ih a y ρ ρ' hf.1 p) (zY t hf.2 q)
  cases v<;>simp only[Au,Bool.false_eq_true]at h<;>(try (simp only[ai]at hv⊢;exact hv))
  .simp only[ai]at hv⊢;obtain⟨y,e,p⟩:=hv;exact⟨y,e,ih _ _ _ _ h p⟩
  .simp only[ai]at hv⊢;obtain⟨a,e,p,q⟩:=hv;exact⟨a,e,lst _ _ h p,q⟩
  .simp only[ai]at hv⊢;obtain⟨a,e,p⟩:=hv;exact⟨a,e,lst _ _ h p⟩
mutual
theorem ai.restrict{ρ ρ1 ρ':aY}(h1:Ext ρ ρ1)(h2:Ext ρ ρ'):∀(x:AV)(v0 v:Value),ai ρ x v0->ai ρ' x v->ai ρ1 x v
 | .top,_,_,_,_=>by simp[ai]
 | .bool b,_,v,_,hv=>by simpa[ai]using hv
 | .int k n,_,v,_,hv=>by simpa[ai]using hv
 | .str s,_,v,_,hv=>by simpa[ai]using hv
 | .ck,_,v,_,hv=>by simpa[ai]using hv
 | .ptr id g off lim,_,v,h0,hv=>by
  simp only[ai]at *;obtain⟨pl,a,b,c⟩:=h0;obtain⟨eA,a',b',c'⟩:=hv;rw[h2 _ _ _ a]at a';cases a';exact⟨pl,h1 _ _ _ a,b',c'⟩
 | .wH g off,_,v,_,hv=>by simpa[ai]using hv
 | .ar,_,v,_,hv=>by simpa[ai]using hv
 | .slice id g off len lim sz cap,_,v,h0,hv=>by
  simp only[ai]at *;obtain⟨pl,c,a,_⟩:=h0;obtain⟨eA,c',a',rest⟩:=hv;rw[h2 _ _ _ a]at a';cases a';exact⟨pl,c',h1 _ _ _ a,rest⟩
 | .j8,_,v,_,hv=>by simpa[ai]using hv
 | .map id,_,v,h0,hv=>by
  simp only[ai]at *;obtain⟨pl,a,b⟩:=h0;obtain⟨eA,a',b'⟩:=hv;rw[h2 _ _ _ a]at a';cases a';exact⟨pl,h1 _ _ _ a,b'⟩
 | .func fn f c,_,v,h0,hv=>by
  simp only[ai]at *;obtain⟨a,b,e,p,q⟩:=h0;obtain⟨a',b',e',p',q'⟩:=hv;exact⟨a',b',e',ay.restrict h1 h2 f _ _ p p',ay.restrict h1 h2 c _ _ q q'⟩
 | .eQ,_,v,_,hv=>by simpa[ai]using hv
 | .bR,_,v,_,hv=>by simpa[ai]using hv
 | .iface t x,_,v,h0,hv=>by
  simp only[ai]at *;obtain⟨y,e,p⟩:=h0;obtain⟨y',e',p'⟩:=hv;exact⟨y',e',ai.restrict h1 h2 x _ _ p p'⟩
 | .agg cs,_,v,h0,hv=>by
  simp only[ai]at *;obtain⟨a,e,p,q⟩:=h0;obtain⟨a',e',p',q'⟩:=hv;exact⟨a',e',ay.restrict h1 h2 cs _ _ p p',q'⟩
 | .tuple vs,_,v,h0,hv=>by
  simp only[ai]at *;obtain⟨a,e,p⟩:=h0;obtain⟨a',e',p'⟩:=hv;exact⟨a',e',ay.restrict h1 h2 vs _ _ p p'⟩
 | .obj k id,_,v,h0,hv=>by
  simp only[ai]at *;obtain⟨pl,a,b⟩:=h0;obtain⟨eA,a',b'⟩:=hv;rw[h2 _ _ _ a]at a';cases a';exact⟨pl,h1 _ _ _ a,b'⟩
 | .T7,_,v,_,hv=>by simpa[ai]using hv
 | .eO _,_,_,h0,_=>by simp only[ai]at h0
theorem ay.restrict{ρ ρ1 ρ':aY}(h1:Ext ρ ρ1)(h2:Ext ρ ρ'):∀(xs:List AV)(l0 l:List Value),ay ρ xs l0->ay ρ' xs l->ay ρ1 xs l
 |[],_,l,_,hl=>by simpa[ay]using hl
 |x::xs,_,l,h0,hl=>by
  simp only[ay]at *;obtain⟨y,ys,e,p,q⟩:=h0;obtain⟨y',ys',e',p',q'⟩:=hl;exact⟨y',ys',e',ai.restrict h1 h2 x _ _ p p',ay.restrict h1 h2 xs _ _ q q'⟩
end
theorem kO.restrict{ρ ρ1 ρ':aY}(h1:Ext ρ ρ1)(h2:Ext ρ ρ'){x:LW}{o0 o:Obj}(h0:kO ρ x o0)(h:kO ρ' x o):kO ρ1 x o:=by
 cases x with
 |iter m since seen last=>
  cases m with
  |none=>exact h
  |some m=>
   obtain⟨pl,sn,r1,r2,r3⟩:=h;obtain⟨SP,sn0,q1,_,_⟩:=h0;have:=h2 _ _ _ q1;rw[r1]at this;cases this;exact⟨pl,sn,h1 _ _ _ q1,r2,r3⟩
 |Sc s pos=>exact h
 |loop st j F ps a b=>
  obtain⟨fn,tmps,d,r1,r2,r3⟩:=h;obtain⟨fn0,jmo,d0,q1,q2,_⟩:=h0;exact⟨fn,tmps,d,r1,⟨fun t=>ai.restrict h1 h2 _ _ _ (q2.slot t) (r2.slot t),r2.size⟩,r3⟩
 |Bt op=>exact h
 |chan cap buf=>
  obtain⟨B,s,r,r1,r2⟩:=h;obtain⟨B0,s0,r0,q1,q2⟩:=h0;exact⟨B,s,r,r1,ay.restrict h1 h2 _ _ _ q2 r2⟩
theorem xe.restrict{ρ ρ1 ρ':aY}(h1:Ext ρ ρ1)(h2:Ext ρ ρ'){w w':World}{id:Nat}{o:dR}(cD:∀g,ρ1 id g=ρ' id g)(h0:xe ρ w id o)(h:xe ρ' w' id o):xe ρ1 w' id o:=by
 cases o with
 |row cells low top frz ty=>
  obtain⟨a1,a2,a3⟩:=h;obtain⟨b1,b2,b3⟩:=h0;refine⟨a1,fun g g1 g2=>?_,fun g k p p' c1 c2 c3 c4 e1 e2=>?_⟩
  .obtain⟨pl,C,fr,q1,q2,q3,q4,q5,q6,q7,q8,q9⟩:=a2 g g1 g2;obtain⟨SP,C0,fr0,r1,r2,r3,r4,r5,r6,r7,r8,r9⟩:=b2 g g1 g2;have e0:=h2 id g SP r1;rw[q1]at e0;cases e0;refine⟨pl,C,fr,by rw[cD];exact q1,q2,q3,q4,q5,fun i hi=>?_,q7,q8,q9⟩;obtain⟨y,u,s1,s2,s3,s4⟩:=q6 i hi;obtain⟨y0,u0,t1,t2,t3,t4⟩:=r6 i hi;rw[s1]at t1;cases t1;exact⟨y,u,s1,s2,ai.restrict h1 h2 _ _ _ t3 s3,s4⟩
  .rw[cD]at e1 e2;exact a3 g k p p' c1 c2 c3 c4 e1 e2
 |map es clock=>
  obtain⟨pl,ES,q1,q2,q3⟩:=h;obtain⟨SP,ES0,r1,r2,r3⟩:=h0;refine⟨pl,ES,by rw[cD];exact q1,q2,q3.1,fun i e m he hm=>?_⟩;obtain⟨s1,s2,s3⟩:=q3.2 i e m he hm;have KV:i<es.length:=by
   rcases Nat.lt_or_ge i es.length with hh|hh
   .exact hh
   .rw[List.getElem?_eq_none hh]at he;cases he
  obtain⟨m0,CS⟩:∃m0,ES0.toList[i]?=some m0:=⟨_,List.getElem?_eq_getElem (by rw[<-r3.1];exact KV)⟩
  obtain⟨t1,t2,t3⟩:=r3.2 i e m0 he CS;exact⟨ai.restrict h1 h2 _ _ _ t1 s1,ai.restrict h1 h2 _ _ _ t2 s2,s3⟩
 |j6 x=>
  obtain⟨pl,o,q1,q2,q3,q4⟩:=h;obtain⟨SP,o0,r1,r2,r3,r4⟩:=h0;exact⟨pl,o,by rw[cD];exact q1,q2,kO.restrict h1 h2 r3 q3,q4⟩
end Go.Am
