/-
  The abstract machine: values that are the same; values that hold no address; objects through fewer places.
-/
import Derived.Test.YthklfandhmkpiaaGreatDoorAmRel
open Nat renaming beq->zza
namespace Go.Am
open Go
variable{Λ:LB}
theorem sameVF_eq:∀(n:Nat)(x y:AV),eO n x y=true->x=y:=by
 intro n
 induction n with
 |zero=>intro x y h;cases h
 |succ n ih=>
  have lists:∀(a b:List AV),(List.rec (motive:=fun _=>List AV->Bool) (fun b=>List.casesOn (motive:=fun _=>Bool) b true fun _ _=>false)
    (fun x _ w9 b=>List.casesOn (motive:=fun _=>Bool) b false fun y t=>cond (eO n x y) (w9 t) false) a) b=true->a=b:=by
   intro a
   induction a with
   |nil=>intro b h;cases b with
    |nil=>rfl
    |cons _ _=>cases h
   |cons x a iha=>
    intro b h;cases b with
    |nil=>cases h
    |cons y b=>
     have h':cond (eO n x y) ((List.rec (motive:=fun _=>List AV->Bool) (fun b=>List.casesOn (motive:=fun _=>Bool) b true fun _ _=>false)
      (fun x _ w9 b=>List.casesOn (motive:=fun _=>Bool) b false fun y t=>cond (eO n x y) (w9 t) false) a) b) false=true:=h
     cases hxy:eO n x y with
     |false=>rw[hxy]at h';cases h'
     |true=>
      rw[hxy]at h';rw[ih x y hxy,iha b h']
  have hun:∀x y:AV,eO (n+1) x y=(match x,y with
   | .bool a,.bool b=>cond a b (!b)
   | .int j a,.int k b=>iO j k&&pP a b
   | .str a,.str b=>ph a b
   | .cT,.cT=>true
   | .ptr a b c d,.ptr e f g h=>zza a e&&zza b f&&zza c g&&zza d h
   | .ar,.ar=>true
   | .slice a b c d e f none,.slice a' b' c' d' e' f' none=>zza a a'&&zza b b'&&zza c c'&&zza d d'&&zza e e'&&zza f f'
   | .slice a b c d e f (some g),.slice a' b' c' d' e' f' (some g')=>zza a a'&&zza b b'&&zza c c'&&zza d d'&&zza e e'&&zza f f'&&zza g g'
   | .jb,.jb=>true
   | .map a,.map b=>zza a b
   | .func (.func f) a b,.func (.func g) c d=>zza f g&&(List.rec (motive:=fun _=>List AV->Bool) (fun b=>List.casesOn (motive:=fun _=>Bool) b true fun _ _=>false)
    (fun x _ w9 b=>List.casesOn (motive:=fun _=>Bool) b false fun y t=>cond (eO n x y) (w9 t) false) a) c&&(List.rec (motive:=fun _=>List AV->Bool) (fun b=>List.casesOn (motive:=fun _=>Bool) b true fun _ _=>false)
    (fun x _ w9 b=>List.casesOn (motive:=fun _=>Bool) b false fun y t=>cond (eO n x y) (w9 t) false) b) d
   | .obj .yld a,.obj .yld b=>zza a b
   | .obj .chan a,.obj .chan b=>zza a b
   | .obj .sym a,.obj .sym b=>zza a b
   | .kI,.kI=>true
   | .bS,.bS=>true
   | .iface t v,.iface u w=>zza t u&&eO n v w
   | .agg a,.agg b=>(List.rec (motive:=fun _=>List AV->Bool) (fun b=>List.casesOn (motive:=fun _=>Bool) b true fun _ _=>false)
    (fun x _ w9 b=>List.casesOn (motive:=fun _=>Bool) b false fun y t=>cond (eO n x y) (w9 t) false) a) b
   | .tuple a,.tuple b=>(List.rec (motive:=fun _=>List AV->Bool) (fun b=>List.casesOn (motive:=fun _=>Bool) b true fun _ _=>false)
    (fun x _ w9 b=>List.casesOn (motive:=fun _=>Bool) b false fun y t=>cond (eO n x y) (w9 t) false) a) b
   |_,_=>false):=fun x y=>rfl
  intro x y h;rw[hun]at h;split at h
  all_goals try (cases h;done)
  all_goals try rfl
  all_goals try simp only[Bool.and_eq_true,bC,decide_eq_true_eq,cQ,aZ,cL]at h
  .rename_i a b;cases a<;>cases b<;>simp_all
  .obtain⟨rfl,rfl⟩:=h;rfl
  .subst h;rfl
  .obtain⟨⟨⟨rfl,rfl⟩,rfl⟩,rfl⟩:=h;rfl
  .obtain⟨⟨⟨⟨⟨rfl,rfl⟩,rfl⟩,rfl⟩,rfl⟩,rfl⟩:=h;rfl
  .obtain⟨⟨⟨⟨⟨⟨rfl,rfl⟩,rfl⟩,rfl⟩,rfl⟩,rfl⟩,rfl⟩:=h;rfl
  .subst h;rfl
  .obtain⟨⟨rfl,h1⟩,h2⟩:=h;rw[lists _ _ h1,lists _ _ h2]
  .subst h;rfl
  .subst h;rfl
  .subst h;rfl
  .obtain⟨rfl,h2⟩:=h;rw[ih _ _ h2]
  .rw[lists _ _ h]
  .rw[lists _ _ h]
end Go.Am
