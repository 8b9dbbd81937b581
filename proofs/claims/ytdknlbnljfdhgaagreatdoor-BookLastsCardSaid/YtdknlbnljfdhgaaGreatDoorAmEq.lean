/-
  The abstract machine against the model: strings, comparison, parts.
-/
import Derived.Test.YtdknlbnljfdhgaaGreatDoorAmPure
import Derived.Laws.Strings2
import Derived.ChangeKeysEq
open Go.Result renaming andThen_ok->zza
open Go.Sem renaming run_bind->zzb
open Option.some renaming injEq->zzc
namespace Go.Am
open Go
variable{Λ:LB}
theorem str_inj{a b:ByteArray}(h:a.data.toList.map UInt8.toNat=b.data.toList.map UInt8.toNat):a.data.toList=b.data.toList:=by
 have inj:∀(l m:List UInt8),l.map UInt8.toNat=m.map UInt8.toNat->l=m:=by
  intro l;induction l with
  |nil=>intro m hm;cases m<;>simp_all
  |cons x l ih=>
   intro m hm;cases m with
   |nil=>simp at hm
   |cons y m=>
    simp only[List.map_cons,List.cons.injEq]at hm;rw[ih m hm.2,UInt8.toNat_inj.1 hm.1]
 exact inj _ _ h
theorem wP{a b:ByteArray}{s t:List Nat}(ha:a.data.toList.map UInt8.toNat=s)(hb:b.data.toList.map UInt8.toNat=t):
  (a.toList==b.toList)=tV s t:=by
 rw[ByteArray.toList_eq,ByteArray.toList_eq,lK,<-ha,<-hb];by_cases h:a.data.toList=b.data.toList
 .rw[h];simp
 .have h':¬a.data.toList.map UInt8.toNat=b.data.toList.map UInt8.toNat:=fun e=>h (str_inj e);rw[decide_eq_false h'];simpa using h
theorem PH:∀(l m:List UInt8),Op.bytesLess l m=Jb (l.map UInt8.toNat) (m.map UInt8.toNat):=by
 intro l;induction l with
 |nil=>intro m;cases m<;>rfl
 |cons x l ih=>
  intro m;cases m with
  |nil=>rfl
  |cons y m=>
   show (x<y||(x==y&&Op.bytesLess l m))=cond (Nat.blt x.toNat y.toNat) true (cond (Nat.beq x.toNat y.toNat) (Jb (l.map UInt8.toNat) (m.map UInt8.toNat)) false);rw[<-ih m,iJ,bO];have e1:decide (x<y)=decide (x.toNat<y.toNat):=by simp[UInt8.lt_iff_toNat_lt]
   have e2:(x==y)=decide (x.toNat=y.toNat):=by
    by_cases h:x=y
    .subst h;simp
    .have:¬x.toNat=y.toNat:=fun e=>h (UInt8.toNat_inj.1 e);simp[h,this]
   rw[e1,e2];cases decide (x.toNat<y.toNat)<;>cases decide (x.toNat=y.toNat)<;>rfl
theorem Ea{a b:ByteArray}{s t:List Nat}(ha:a.data.toList.map UInt8.toNat=s)(hb:b.data.toList.map UInt8.toNat=t):
  Op.bytesLess a.toList b.toList=Jb s t:=by
 rw[ByteArray.toList_eq,ByteArray.toList_eq,PH,ha,hb]
theorem CH:∀(s t:List Nat),(Jb s t||tV s t)=!Jb t s:=by
 intro s;induction s with
 |nil=>intro t;cases t<;>rfl
 |cons x s ih=>
  intro t;cases t with
  |nil=>rfl
  |cons y t=>
   show (cond (Nat.blt x y) true (cond (Nat.beq x y) (Jb s t) false)||cond (Nat.beq x y) (tV s t) false)=!cond (Nat.blt y x) true (cond (Nat.beq y x) (Jb t s) false);rw[iJ,iJ,bO,bO];rcases Nat.lt_trichotomy x y with h|h|h
   .rw[decide_eq_true h,decide_eq_false (by omega:¬y<x),decide_eq_false (by omega:¬y=x)];rfl
   .subst h;rw[decide_eq_false (by omega:¬x<x)];simpa using ih t
   .rw[decide_eq_false (by omega:¬x<y),decide_eq_true h,decide_eq_false (by omega:¬x=y)];rfl
theorem oh{a:ByteArray}{s:List Nat}(ha:a.data.toList.map UInt8.toNat=s):a.size=s.length:=by
 rw[<-ha,List.length_map];rfl
theorem BF{a b:Nat}(h:a.add b<=4611686018427387904):¬(((a+b:Nat):Int) > 9223372036854775807):=by
 have:a+b<=4611686018427387904:=h;omega
theorem Wv{P:Program}{op:BinOp}{a b:ByteArray}{s t:List Nat}{v:AV}(h:B3 op s t=some v)
  (ha:a.data.toList.map UInt8.toNat=s) (hb:b.data.toList.map UInt8.toNat=t) (w:World) :
  ∃x,(Op.stringOp op a b).run P w=.ok x w/\∀ρ,ai ρ v x:=by
 cases op
 case add=>
  have h:cond (Nat.ble (Nat.add (fw s) (fw t)) 4611686018427387904) (some (AV.str (gC s t))) none=some v:=h;rw[cY,bX,bX,bJ]at h;by_cases hc:s.length.add t.length<=4611686018427387904
  .rw[decide_eq_true hc]at h;cases h;refine⟨.string (a++b),?_,fun ρ=>?_⟩
   .have hm:¬(((a.size+b.size:Nat):Int) > IntKind.i64.max):=by
     have h0:IntKind.i64.max=9223372036854775807:=rfl;rw[h0,oh ha,oh hb];exact BF hc
    show (if ((a.size+b.size:Nat):Int) > IntKind.i64.max then unsupported _ else pure (.string (a++b)):Sem Value).run P w=_;rw[if_neg hm];rfl
   .simp only[ai];exact⟨a++b,rfl,by rw[<-ha,<-hb];simp[ByteArray.data_append]⟩
  .rw[decide_eq_false hc]at h;cases h
 case eql=>cases h;exact⟨_,rfl,fun ρ=>by simp only[ai,wP ha hb]⟩
 case neq=>cases h;exact⟨_,rfl,fun ρ=>by simp only[ai,wP ha hb]⟩
 case lss=>cases h;exact⟨_,rfl,fun ρ=>by simp only[ai,Ea ha hb]⟩
 case leq=>cases h;exact⟨_,rfl,fun ρ=>by simp only[ai,Ea ha hb,wP ha hb,CH]⟩
 case gtr=>cases h;exact⟨_,rfl,fun ρ=>by simp only[ai,Ea ha hb,wP ha hb,CH,Bool.not_not]⟩
 case geq=>cases h;exact⟨_,rfl,fun ρ=>by simp only[ai,Ea ha hb]⟩
 all_goals cases h
theorem ov{P:Program}{cx:Cx}(aF:dQ Λ P cx){ρ:aY}{t:TypeId}{cs:List AV}{a:Array Value}{off:Nat}{v:AV}
  (h:partOf cx t cs off=some v) (hr:ay ρ cs a.toList) (h1:∀x,x∈a.toList->x.oneCell'=true) (w:World) :
  ∃x,(part t a off).run P w=.ok x w/\ai ρ v x:=by
 unfold partOf at h;cases ha:aN cx t with
 |none=>simp[ha]at h
 |some b=>
  cases b with
  |true=>
   simp only[ha]at h;cases hs:aG cx t with
   |none=>simp[hs]at h
   |some n=>
    simp only[hs,zzc,cR,cF]at h;subst h;refine⟨.agg (a.extract off (off+n)),by simp[part,rV aF ha,fg aF hs],?_⟩;simp only[ai];have e:(a.extract off (off+n)).toList=(a.toList.drop off).take n:=by
     rw[Array.toList_extract,List.extract_eq_take_drop];congr 1;omega
    refine⟨_,rfl,by rw[e];exact (hr.drop off).take n,fun x hx=>?_⟩;rw[e]at hx;exact h1 x (List.mem_of_mem_drop (List.mem_of_mem_take hx))
  |false=>
   simp only[ha,ji]at h;obtain⟨x,hx,hv⟩:=hr.get h;refine⟨x,?_,hv⟩;have oH:a[off]?=some x:=by simpa using hx
   simp[part,rV aF ha,oH]
theorem EH{P:Program}{cx:Cx}(aF:dQ Λ P cx){ρ:aY}{d:Nat}{eq:TypeId->AV->AV->Option Bool}
  (heq:∀t x y r x' y',eq t x y=some r->ai ρ x x'->ai ρ y y'->∀w,(Op.equalIn d t x' y').run P w=.ok r w)
  {xs ys:List AV} {a b:Array Value} (hx:ay ρ xs a.toList) (UA:∀x,x∈a.toList->x.oneCell'=true)
  (hy:ay ρ ys b.toList) (Uy:∀x,x∈b.toList->x.oneCell'=true) :
  ∀(fs:List Field)(r:Bool),(∀f,f∈fs->f.name ≠ "_")->eqFields eq cx xs ys fs=some r->∀w,(Op.eqFields d a b fs).run P w=.ok r w:=by
 intro fs
 induction fs with
 |nil=>intro r _ h w;simp only[eqFields,zzc]at h;subst h;rfl
 |cons f fs ih=>
  intro r hn h w;have h':(match partOf cx f.type xs f.offset,partOf cx f.type ys f.offset with
   |some a,some b=>match eq f.type a b with
    |some true=>eqFields eq cx xs ys fs
    |r=>r
   |_,_=>none)=some r:=h
  cases hp:partOf cx f.type xs f.offset with
  |none=>simp[hp]at h'
  |some u=>
   cases hq:partOf cx f.type ys f.offset with
   |none=>simp[hp,hq]at h'
   |some v=>
    simp only[hp,hq]at h';obtain⟨u',r1,v1⟩:=ov aF hp hx UA w;obtain⟨v',r2,v2⟩:=ov aF hq hy Uy w;simp only[Op.eqFields,if_pos (hn f (by simp)),zzb,r1,r2,zza];cases he:eq f.type u v with
    |none=>simp[he]at h'
    |some b=>
     rw[heq _ _ _ _ _ _ he v1 v2 w];cases b with
     |true=>simp only[he]at h';simpa using ih r (fun g hg=>hn g (by simp[hg])) h' w
     |false=>simp only[he,zzc]at h';subst h';simp
theorem HU{P:Program}{cx:Cx}(aF:dQ Λ P cx){ρ:aY}{d e z:Nat}{eq:AV->AV->Option Bool}
  (heq:∀x y r x' y',eq x y=some r->ai ρ x x'->ai ρ y y'->∀w,(Op.equalIn d e x' y').run P w=.ok r w)
  {xs ys:List AV} {a b:Array Value} (hx:ay ρ xs a.toList) (UA:∀x,x∈a.toList->x.oneCell'=true)
  (hy:ay ρ ys b.toList) (Uy:∀x,x∈b.toList->x.oneCell'=true) :
  ∀(n i:Nat)(r:Bool),nq eq cx e z xs ys n i=some r->∀w,(Op.eqItems d e z a b (List.range' i n)).run P w=.ok r w:=by
 intro n
 induction n with
 |zero=>intro i r h w;cases h;rfl
 |succ n ih=>
  intro i r h w;have h':(match partOf cx e xs (i*z),partOf cx e ys (i*z)with
   |some a,some b=>match eq a b with
    |some true=>nq eq cx e z xs ys n (i+1)
    |r=>r
   |_,_=>none)=some r:=h
  cases hp:partOf cx e xs (i*z)with
  |none=>simp[hp]at h'
  |some u=>
   cases hq:partOf cx e ys (i*z)with
   |none=>simp[hp,hq]at h'
   |some v=>
    simp only[hp,hq]at h';obtain⟨u',r1,v1⟩:=ov aF hp hx UA w;obtain⟨v',r2,v2⟩:=ov aF hq hy Uy w;rw[List.range'_succ];simp only[Op.eqItems,zzb,r1,r2,zza];cases he:eq u v with
    |none=>simp[he]at h'
    |some b=>
     rw[heq _ _ _ _ _ he v1 v2 w];cases b with
     |true=>simp only[he]at h';simpa using ih (i+1) r h' w
     |false=>simp only[he,zzc]at h';subst h';simp
theorem Z8{P:Program}{cx:Cx}(aF:dQ Λ P cx){ρ:aY}:∀(n d:Nat)(t:TypeId)(x y:AV)(r:Bool)(x' y':Value),n<=d->vj cx n t x y=some r->ai ρ x x'->ai ρ y y' ->
  ∀w,(Op.equalIn d t x' y').run P w=.ok r w:=by
 intro n
 induction n with
 |zero=>intro d t x y r x' y' _ h;cases h
 |succ n ih=>
  intro d t x y r x' y' hd h hx hy w;obtain⟨d,rfl⟩:∃k,d=k+1:=⟨d-1,by omega⟩
  have fI:vj cx (n+1) t x y=(match bN cx t with
   |none=>none
   |some d=>jo cx (vj cx n) t d x y):=rfl
  rw[fI]at h;cases hu:bN cx t with
  |none=>rw[hu]at h;cases h
  |some td=>
   have si:=aH aF hu w;rw[hu]at h;simp only[]at h;unfold jo at h;split at h<;>(try simp only[ai]at hx hy)
   ·-- int
    subst hx hy;rw[dn,gz]at h;rename_i j a k b;by_cases hk:j=k
    .rw[decide_eq_true hk]at h;simp only[cond_true,zzc]at h;subst hk h;simp only[Op.equalIn,zzb,si,zza];simp;rfl
    .rw[decide_eq_false hk]at h;cases h
   .subst hx hy;cases h;simp only[Op.equalIn,zzb,si,zza];rfl
   .obtain⟨b1,rfl,e1⟩:=hx;obtain⟨b2,rfl,e2⟩:=hy;cases h;simp only[Op.equalIn,zzb,si,zza,Sem.run_pure];rw[beq_toListBytes,wP e1 e2]
   .subst hx hy;cases h;simp only[Op.equalIn,zzb,si,zza];rfl
   .obtain⟨pl,_,_,rfl⟩:=hy;subst hx;cases h;simp only[Op.equalIn,zzb,si,zza];rfl
   .obtain⟨pl,_,_,rfl⟩:=hx;subst hy;cases h;simp only[Op.equalIn,zzb,si,zza];rfl
   .rename_i e i g o l1 j g' o' l2;obtain⟨pl,p1,_,rfl⟩:=hx;obtain⟨eA,p2,_,rfl⟩:=hy;cases hs:aG cx e with
    |none=>simp[hs]at h
    |some sz=>
     simp only[hs,bO]at h;cases hc:(decide (i=j)&&decide (g=g')&&decide (o=o'))with
     |false=>simp[hc]at h
     |true=>
      simp only[hc,cond_true,zzc]at h;simp only[Bool.and_eq_true,decide_eq_true_eq]at hc;obtain⟨⟨rfl,rfl⟩,rfl⟩:=hc;rw[p1]at p2;cases p2;subst h;simp only[Op.equalIn,zzb,si,zza,fg aF hs,sameAddr];simp
   .subst hx hy;cases h;simp only[Op.equalIn,zzb,si,zza];rfl
   .subst hx;cases h;obtain⟨pl,c,_,_,_,_,_,hh⟩:=hy;rcases hh with⟨rfl,_⟩|⟨_,_,_,a,rfl⟩<;>(simp only[Op.equalIn,zzb,si,zza];rfl)
   .subst hy;cases h;obtain⟨pl,c,_,_,_,_,_,hh⟩:=hx;rcases hh with⟨rfl,_⟩|⟨_,_,_,a,rfl⟩<;>(simp only[Op.equalIn,zzb,si,zza];rfl)
   .subst hx hy;cases h;simp only[Op.equalIn,zzb,si,zza];rfl
   .obtain⟨pl,_,rfl⟩:=hy;subst hx;cases h;simp only[Op.equalIn,zzb,si,zza];rfl
   .obtain⟨pl,_,rfl⟩:=hx;subst hy;cases h;simp only[Op.equalIn,zzb,si,zza];rfl
   .subst hx hy;cases h;simp only[Op.equalIn,zzb,si,zza];rfl
   .obtain⟨_,_,rfl,_⟩:=hy;subst hx;cases h;simp only[Op.equalIn,zzb,si,zza];rfl
   .obtain⟨_,_,rfl,_⟩:=hx;subst hy;cases h;simp only[Op.equalIn,zzb,si,zza];rfl
   .subst hx hy;cases h;simp only[Op.equalIn,zzb,si,zza];rfl
   .obtain⟨_,rfl,_⟩:=hy;subst hx;cases h;simp only[Op.equalIn,zzb,si,zza];rfl
   .obtain⟨_,rfl,_⟩:=hx;subst hy;cases h;simp only[Op.equalIn,zzb,si,zza];rfl
   .rename_i ms tx a ty b;obtain⟨a',rfl,ha⟩:=hx;obtain⟨b',rfl,hb⟩:=hy;rw[bO]at h;by_cases ht:tx=ty
    .rw[decide_eq_true ht]at h;subst ht;simp only[cond_true]at h;cases hi:cx.mf.get tx with
     |none=>simp[hi]at h
     |some i=>
      simp only[hi]at h;cases Rv:i.comparable with
      |false=>simp[Rv]at h
      |true=>
       simp only[Rv,cond_true]at h;simp only[Op.equalIn,zzb,si,zza,ne_eq,not_true_eq_false,if_false];rw[qL aF hi];simp only[zza,Rv,Bool.not_true,Bool.false_eq_true,if_false];exact ih d _ _ _ _ _ _ (by omega) h ha hb w
    .rw[decide_eq_false ht]at h;cases h;simp only[Op.equalIn,zzb,si,zza];simp[ht]
   .rename_i fs xs ys;obtain⟨a,rfl,ha,ha1⟩:=hx;obtain⟨b,rfl,hb,tP⟩:=hy;cases he:cx.eqs.get t with
    |none=>simp[he]at h
    |some u=>
     simp only[he]at h;obtain⟨fI,hgd,M5⟩:=aF.stood t (by rw[he];simp);have nj:P.fieldsOf t=fs:=by simp[Program.fieldsOf,dK aF hu]
     rw[run_equalIn_struct w d t a b (by rw[nj];exact dK aF hu) fI];rw[nj]at M5⊢;exact EH aF (fun t x y r x' y' hh h1 h2 w=>ih d t x y r x' y' (by omega) hh h1 h2 w) ha ha1 hb tP fs.toList r M5 h w
   .rename_i m e xs ys;obtain⟨a,rfl,ha,ha1⟩:=hx;obtain⟨b,rfl,hb,tP⟩:=hy;cases he:cx.eqs.get t with
    |none=>simp[he]at h
    |some u=>
     simp only[he]at h;cases hi:cx.mf.get e with
     |none=>simp[aG,hi]at h
     |some i=>
      have hz:aG cx e=some i.size:=by unfold aG;rw[hi]
      have hc:P.cellsOf e=i.size:=by unfold Program.cellsOf;rw[aF.mf e i hi];rfl
      simp only[hz]at h;rw[run_equalIn_array w d a b (dK aF hu) (aF.mf e i hi),hc,List.range_eq_range'];exact HU aF (fun x y r x' y' hh h1 h2 w=>ih d e x y r x' y' (by omega) hh h1 h2 w) ha ha1 hb tP m 0 r h w
   .cases h
end Go.Am
