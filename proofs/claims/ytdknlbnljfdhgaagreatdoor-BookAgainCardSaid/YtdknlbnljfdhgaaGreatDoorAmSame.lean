/-
  The abstract machine: values that are the same; values that hold no address; objects through fewer places.
-/
import Derived.Test.YtdknlbnljfdhgaaGreatDoorAmMem
namespace Go.Am
open Go
variable{Λ:LB}
theorem sameVF_eq:∀(n:Nat)(x y:AV),fa n x y=true->x=y:=by
 intro n
 induction n with
 |zero=>intro x y h;cases h
 |succ n ih=>
  have lists:∀(a b:List AV),(List.rec (motive:=fun _=>List AV->Bool) (fun b=>List.casesOn (motive:=fun _=>Bool) b true fun _ _=>false)
    (fun x _ xi b=>List.casesOn (motive:=fun _=>Bool) b false fun y t=>cond (fa n x y) (xi t) false) a) b=true->a=b:=by
   intro a
   induction a with
   |nil=>intro b h;cases b with
    |nil=>rfl
    |cons _ _=>cases h
   |cons x a BG=>
    intro b h;cases b with
    |nil=>cases h
    |cons y b=>
     have h':cond (fa n x y) ((List.rec (motive:=fun _=>List AV->Bool) (fun b=>List.casesOn (motive:=fun _=>Bool) b true fun _ _=>false)
      (fun x _ xi b=>List.casesOn (motive:=fun _=>Bool) b false fun y t=>cond (fa n x y) (xi t) false) a) b) false=true:=h
     cases hxy:fa n x y with
     |false=>rw[hxy]at h';cases h'
     |true=>
      rw[hxy]at h';rw[ih x y hxy,BG b h']
  have vI:∀x y:AV,fa (n+1) x y=(match x,y with
   | .bool a,.bool b=>cond a b (!b)
   | .int j a,.int k b=>ej j k&&yU a b
   | .str a,.str b=>re a b
   | .bM,.bM=>true
   | .ptr a b c d,.ptr e f g h=>Nat.beq a e&&Nat.beq b f&&Nat.beq c g&&Nat.beq d h
   | .aq,.aq=>true
   | .slice a b c d e f none,.slice a' b' c' d' e' f' none=>Nat.beq a a'&&Nat.beq b b'&&Nat.beq c c'&&Nat.beq d d'&&Nat.beq e e'&&Nat.beq f f'
   | .slice a b c d e f (some g),.slice a' b' c' d' e' f' (some g')=>Nat.beq a a'&&Nat.beq b b'&&Nat.beq c c'&&Nat.beq d d'&&Nat.beq e e'&&Nat.beq f f'&&Nat.beq g g'
   | .jl,.jl=>true
   | .map a,.map b=>Nat.beq a b
   | .func (.func f) a b,.func (.func g) c d=>Nat.beq f g&&(List.rec (motive:=fun _=>List AV->Bool) (fun b=>List.casesOn (motive:=fun _=>Bool) b true fun _ _=>false)
    (fun x _ xi b=>List.casesOn (motive:=fun _=>Bool) b false fun y t=>cond (fa n x y) (xi t) false) a) c&&(List.rec (motive:=fun _=>List AV->Bool) (fun b=>List.casesOn (motive:=fun _=>Bool) b true fun _ _=>false)
    (fun x _ xi b=>List.casesOn (motive:=fun _=>Bool) b false fun y t=>cond (fa n x y) (xi t) false) b) d
   | .obj .yld a,.obj .yld b=>Nat.beq a b
   | .obj .chan a,.obj .chan b=>Nat.beq a b
   | .kM,.kM=>true
   | .bH,.bH=>true
   | .iface t v,.iface u w=>Nat.beq t u&&fa n v w
   | .agg a,.agg b=>(List.rec (motive:=fun _=>List AV->Bool) (fun b=>List.casesOn (motive:=fun _=>Bool) b true fun _ _=>false)
    (fun x _ xi b=>List.casesOn (motive:=fun _=>Bool) b false fun y t=>cond (fa n x y) (xi t) false) a) b
   | .tuple a,.tuple b=>(List.rec (motive:=fun _=>List AV->Bool) (fun b=>List.casesOn (motive:=fun _=>Bool) b true fun _ _=>false)
    (fun x _ xi b=>List.casesOn (motive:=fun _=>Bool) b false fun y t=>cond (fa n x y) (xi t) false) a) b
   |_,_=>false):=fun x y=>rfl
  intro x y h;rw[vI]at h;split at h
  all_goals try (cases h;done)
  all_goals try rfl
  all_goals try simp only[Bool.and_eq_true,bF,decide_eq_true_eq,gK,kj,cR]at h
  .rename_i a b;cases a<;>cases b<;>simp_all
  .obtain⟨rfl,rfl⟩:=h;rfl
  .subst h;rfl
  .obtain⟨⟨⟨rfl,rfl⟩,rfl⟩,rfl⟩:=h;rfl
  .obtain⟨⟨⟨⟨⟨rfl,rfl⟩,rfl⟩,rfl⟩,rfl⟩,rfl⟩:=h;rfl
  .obtain⟨⟨⟨⟨⟨⟨rfl,rfl⟩,rfl⟩,rfl⟩,rfl⟩,rfl⟩,rfl⟩:=h;rfl
  .subst h;rfl
  .obtain⟨⟨rfl,h1⟩,h2⟩:=h;rw[lists _ _ h1,lists _ _ h2]
  .subst h;rfl
  .subst h;rfl
  .obtain⟨rfl,h2⟩:=h;rw[ih _ _ h2]
  .rw[lists _ _ h]
  .rw[lists _ _ h]
theorem flat_rel:∀(n:Nat)(v:AV)(x:Value)(ρ ρ':aO),xG n v=true->ah ρ v x->ah ρ' v x:=by
 intro n
 induction n with
 |zero=>intro v x ρ ρ' h;cases h
 |succ n ih=>
  intro v x ρ ρ' h hv;have lst:∀(l:List AV)(ys:List Value),EV (xG n) l=true->au ρ l ys->au ρ' l ys:=by
   intro l
   induction l with
   |nil=>intro ys _ h;simpa[au]using h
   |cons a l xi=>
    intro ys hf h;simp only[EV,Bool.and_eq_true]at hf;simp only[au]at h;obtain⟨y,t,rfl,p,q⟩:=h;exact au.cons (ih a y ρ ρ' hf.1 p) (xi t hf.2 q)
  cases v<;>simp only[xG,Bool.false_eq_true]at h<;>(try (simp only[ah]at hv⊢;exact hv))
  .simp only[ah]at hv⊢;obtain⟨y,e,p⟩:=hv;exact⟨y,e,ih _ _ _ _ h p⟩
  .simp only[ah]at hv⊢;obtain⟨a,e,p,q⟩:=hv;exact⟨a,e,lst _ _ h p,q⟩
  .simp only[ah]at hv⊢;obtain⟨a,e,p⟩:=hv;exact⟨a,e,lst _ _ h p⟩
mutual
theorem ah.restrict{ρ ρ1 ρ':aO}(h1:Ext ρ ρ1)(h2:Ext ρ ρ'):∀(x:AV)(v0 v:Value),ah ρ x v0->ah ρ' x v->ah ρ1 x v
 | .top,_,_,_,_=>by simp[ah]
 | .bool b,_,v,_,hv=>by simpa[ah]using hv
 | .int k n,_,v,_,hv=>by simpa[ah]using hv
 | .str s,_,v,_,hv=>by simpa[ah]using hv
 | .bM,_,v,_,hv=>by simpa[ah]using hv
 | .ptr id g off lim,_,v,h0,hv=>by
  simp only[ah]at *;obtain⟨pl,a,b,c⟩:=h0;obtain⟨dK,a',b',c'⟩:=hv;rw[h2 _ _ _ a]at a';cases a';exact⟨pl,h1 _ _ _ a,b',c'⟩
 | .uh g off,_,v,_,hv=>by simpa[ah]using hv
 | .aq,_,v,_,hv=>by simpa[ah]using hv
 | .slice id g off len lim sz cap,_,v,h0,hv=>by
  simp only[ah]at *;obtain⟨pl,c,a,_⟩:=h0;obtain⟨dK,c',a',rest⟩:=hv;rw[h2 _ _ _ a]at a';cases a';exact⟨pl,c',h1 _ _ _ a,rest⟩
 | .jl,_,v,_,hv=>by simpa[ah]using hv
 | .map id,_,v,h0,hv=>by
  simp only[ah]at *;obtain⟨pl,a,b⟩:=h0;obtain⟨dK,a',b'⟩:=hv;rw[h2 _ _ _ a]at a';cases a';exact⟨pl,h1 _ _ _ a,b'⟩
 | .func fn f c,_,v,h0,hv=>by
  simp only[ah]at *;obtain⟨a,b,e,p,q⟩:=h0;obtain⟨a',b',e',p',q'⟩:=hv;exact⟨a',b',e',au.restrict h1 h2 f _ _ p p',au.restrict h1 h2 c _ _ q q'⟩
 | .kM,_,v,_,hv=>by simpa[ah]using hv
 | .bH,_,v,_,hv=>by simpa[ah]using hv
 | .iface t x,_,v,h0,hv=>by
  simp only[ah]at *;obtain⟨y,e,p⟩:=h0;obtain⟨y',e',p'⟩:=hv;exact⟨y',e',ah.restrict h1 h2 x _ _ p p'⟩
 | .agg cs,_,v,h0,hv=>by
  simp only[ah]at *;obtain⟨a,e,p,q⟩:=h0;obtain⟨a',e',p',q'⟩:=hv;exact⟨a',e',au.restrict h1 h2 cs _ _ p p',q'⟩
 | .tuple vs,_,v,h0,hv=>by
  simp only[ah]at *;obtain⟨a,e,p⟩:=h0;obtain⟨a',e',p'⟩:=hv;exact⟨a',e',au.restrict h1 h2 vs _ _ p p'⟩
 | .obj k id,_,v,h0,hv=>by
  simp only[ah]at *;obtain⟨pl,a,b⟩:=h0;obtain⟨dK,a',b'⟩:=hv;rw[h2 _ _ _ a]at a';cases a';exact⟨pl,h1 _ _ _ a,b'⟩
 | .nilc,_,v,_,hv=>by simpa[ah]using hv
 | .dP _,_,_,h0,_=>by simp only[ah]at h0
theorem au.restrict{ρ ρ1 ρ':aO}(h1:Ext ρ ρ1)(h2:Ext ρ ρ'):∀(xs:List AV)(l0 l:List Value),au ρ xs l0->au ρ' xs l->au ρ1 xs l
 |[],_,l,_,hl=>by simpa[au]using hl
 |x::xs,_,l,h0,hl=>by
  simp only[au]at *;obtain⟨y,ys,e,p,q⟩:=h0;obtain⟨y',ys',e',p',q'⟩:=hl;exact⟨y',ys',e',ah.restrict h1 h2 x _ _ p p',au.restrict h1 h2 xs _ _ q q'⟩
end
theorem jI.restrict{ρ ρ1 ρ':aO}(h1:Ext ρ ρ1)(h2:Ext ρ ρ'){x:AOth}{o0 o:Obj}(h0:jI ρ x o0)(h:jI ρ' x o):jI ρ1 x o:=by
 cases x with
 |iter m since seen last=>
  cases m with
  |none=>exact h
  |some m=>
   obtain⟨pl,sn,r1,r2,r3⟩:=h;obtain⟨pl0,sn0,q1,_,_⟩:=h0;have:=h2 _ _ _ q1;rw[r1]at this;cases this;exact⟨pl,sn,h1 _ _ _ q1,r2,r3⟩
 |siter s pos=>exact h
 |loop st j F ps a b=>
  obtain⟨fn,tmps,d,r1,r2,r3⟩:=h;obtain⟨fn0,tmps0,d0,q1,q2,_⟩:=h0;exact⟨fn,tmps,d,r1,⟨fun t=>ah.restrict h1 h2 _ _ _ (q2.slot t) (r2.slot t),r2.size⟩,r3⟩
 |yw op=>exact h
 |chan cap buf=>
  obtain⟨B,s,r,r1,r2⟩:=h;obtain⟨B0,s0,r0,q1,q2⟩:=h0;exact⟨B,s,r,r1,au.restrict h1 h2 _ _ _ q2 r2⟩
theorem uI.restrict{ρ ρ1 ρ':aO}(h1:Ext ρ ρ1)(h2:Ext ρ ρ'){w w':World}{id:Nat}{o:dr}(bY:∀g,ρ1 id g=ρ' id g)(h0:uI ρ w id o)(h:uI ρ' w' id o):uI ρ1 w' id o:=by
 cases o with
 |row cells low top frz ty=>
  obtain⟨a1,a2,a3⟩:=h;obtain⟨b1,b2,b3⟩:=h0;refine⟨a1,fun g g1 g2=>?_,fun g k p p' c1 c2 c3 c4 e1 e2=>?_⟩
  .obtain⟨pl,C,fr,q1,q2,q3,q4,q5,q6,q7,q8,q9⟩:=a2 g g1 g2;obtain⟨pl0,C0,fr0,r1,r2,r3,r4,r5,r6,r7,r8,r9⟩:=b2 g g1 g2;have e0:=h2 id g pl0 r1;rw[q1]at e0;cases e0;refine⟨pl,C,fr,by rw[bY];exact q1,q2,q3,q4,q5,fun i hi=>?_,q7,q8,q9⟩;obtain⟨y,u,s1,s2,s3,s4⟩:=q6 i hi;obtain⟨y0,u0,t1,t2,t3,t4⟩:=r6 i hi;rw[s1]at t1;cases t1;exact⟨y,u,s1,s2,ah.restrict h1 h2 _ _ _ t3 s3,s4⟩
  .rw[bY]at e1 e2;exact a3 g k p p' c1 c2 c3 c4 e1 e2
 |map es clock=>
  obtain⟨pl,ES,q1,q2,q3⟩:=h;obtain⟨pl0,ES0,r1,r2,r3⟩:=h0;refine⟨pl,ES,by rw[bY];exact q1,q2,q3.1,fun i e m he hm=>?_⟩;obtain⟨s1,s2,s3⟩:=q3.2 i e m he hm;have hil:i<es.length:=by
   rcases Nat.lt_or_ge i es.length with hh|hh
   .exact hh
   .rw[List.getElem?_eq_none hh]at he;cases he
  obtain⟨m0,hm0⟩:∃m0,ES0.toList[i]?=some m0:=⟨_,List.getElem?_eq_getElem (by rw[<-r3.1];exact hil)⟩
  obtain⟨t1,t2,t3⟩:=r3.2 i e m0 he hm0;exact⟨ah.restrict h1 h2 _ _ _ t1 s1,ah.restrict h1 h2 _ _ _ t2 s2,s3⟩
 |jk x=>
  obtain⟨pl,o,q1,q2,q3,q4⟩:=h;obtain⟨pl0,o0,r1,r2,r3,r4⟩:=h0;exact⟨pl,o,by rw[bY];exact q1,q2,jI.restrict h1 h2 r3 q3,q4⟩
end Go.Am
