/-
  The abstract machine against the model: what reckons alone.
-/
import Derived.Test.YthklfandhmkpiaaGreatDoorAmRun
import Derived.IntWalk
import Derived.Laws.Strings2
import Derived.ChangeKeysEq
open Go.Result renaming andThen_ok->zza
open Go.Sem renaming run_bind->zzb
open Option.some renaming injEq->zzc
namespace Go.Am
open Go
theorem inR_nat(k:IntKind)(m:Nat):inR k (m:Int)=decide (m<half k):=gJ
theorem Dk{k:IntKind}{n:Int}(h:inR k n=true):k.wrap n=n:=by
 cases n with
 |ofNat m=>
  have hm:m<half k:=of_decide_eq_true ((inR_nat k m).symm.trans h);cases k
  .exact IntWalk.i8_in _ (by simp only[half]at hm;simp only[Int.ofNat_eq_natCast];omega)
  .exact IntWalk.i16_in _ (by simp only[half]at hm;simp only[Int.ofNat_eq_natCast];omega)
  .exact IntWalk.i32_in _ (by simp only[half]at hm;simp only[Int.ofNat_eq_natCast];omega)
  .exact IntWalk.i64_in _ (by simp only[half]at hm;simp only[Int.ofNat_eq_natCast];omega)
  .exact IntWalk.u8_in _ (by simp only[half]at hm;simp only[Int.ofNat_eq_natCast];omega)
  .exact IntWalk.u16_in _ (by simp only[half]at hm;simp only[Int.ofNat_eq_natCast];omega)
  .exact IntWalk.u32_in _ (by simp only[half]at hm;simp only[Int.ofNat_eq_natCast];omega)
  .exact IntWalk.u64_in _ (by simp only[half]at hm;simp only[Int.ofNat_eq_natCast];omega)
 |negSucc m=>
  have hm:sgn k=true/\m<half k:=by
   have h':cond (sgn k) (Nat.blt m (half k)) false=true:=h;cases hs:sgn k with
   |false=>rw[hs]at h';cases h'
   |true=>rw[hs]at h';exact⟨rfl,of_decide_eq_true (gJ.symm.trans h')⟩
  obtain⟨hs,hm⟩:=hm;cases k
  .exact IntWalk.i8_in _ (by simp only[half]at hm;omega)
  .exact IntWalk.i16_in _ (by simp only[half]at hm;omega)
  .exact IntWalk.i32_in _ (by simp only[half]at hm;omega)
  .exact IntWalk.i64_in _ (by simp only[half]at hm;omega)
  all_goals cases hs
theorem BU(k:IntKind)(n:Int):wrapF k n=k.wrap n:=by
 unfold wrapF;cases h:inR k n with
 |true=>exact (Dk h).symm
 |false=>rfl
theorem iM(k:IntKind)(n:Int):mkI k n=.int k (k.wrap n):=by rw[mkI,eG,BU]
theorem half_bits(k:IntKind):half k<=2 ^ k.bits:=by cases k<;>decide
theorem half_pow(k:IntKind):∃m,half k=2 ^ m:=by
 cases k
 .exact⟨7,rfl⟩
 .exact⟨15,rfl⟩
 .exact⟨31,rfl⟩
 .exact⟨63,rfl⟩
 .exact⟨8,rfl⟩
 .exact⟨16,rfl⟩
 .exact⟨32,rfl⟩
 .exact⟨64,rfl⟩
theorem jx(w a:Nat)(h:a<2 ^ w):(BitVec.ofInt w (a:Int)).toNat=a:=by
 rw[BitVec.ofInt_natCast,BitVec.toNat_ofNat,Nat.mod_eq_of_lt h]
theorem oH{P:Program}{op:BinOp}{k:IntKind}{x y:Int}(nN:op=.and\/op=.or\/op=.xor\/op=.andNot)(w:World):
  (Op.intBits op k x y).run P w=.ok (.int k (wg op k x y)) w:=by
 rcases nN with rfl|rfl|rfl|rfl<;>rfl
theorem jk{op:BinOp}{k:IntKind}{x y:Int}(nN:op=.and\/op=.or\/op=.xor\/op=.andNot):lg op k x y=.int k (wg op k x y):=by
 have gen:op≠.andNot->∀a b:Nat,x=(a:Int)->y=(b:Int)->a<half k->b<half k->(oV op a b:Int)=wg op k x y:=by
  intro cl a b hx hy ha hb;subst hx hy;obtain⟨m,hm⟩:=half_pow k;have h2:=half_bits k;have hn:oV op a b<half k:=by
   rcases nN with rfl|rfl|rfl|rfl
   .exact Nat.lt_of_le_of_lt Nat.and_le_left ha
   .rw[hm];exact Nat.or_lt_two_pow (hm▸ha) (hm▸hb)
   .rw[hm];exact Nat.xor_lt_two_pow (hm▸ha) (hm▸hb)
   .exact absurd rfl cl
  have hw:k.wrap (oV op a b:Int)=oV op a b:=Dk ((inR_nat _ _).trans (decide_eq_true hn));rw[<-hw];rcases nN with rfl|rfl|rfl|rfl
  .show _=k.wrap _;rw[BitVec.toNat_and,jx _ a (by omega),jx _ b (by omega)];rfl
  .show _=k.wrap _;rw[BitVec.toNat_or,jx _ a (by omega),jx _ b (by omega)];rfl
  .show _=k.wrap _;rw[BitVec.toNat_xor,jx _ a (by omega),jx _ b (by omega)];rfl
  .exact absurd rfl cl
 unfold lg;split
 .simp only[eG]
 .rename_i a b cl;simp only[gJ,aQ,eG];cases hc:(decide (a<half k)&&decide (b<half k))with
  |false=>rfl
  |true=>
   simp only[Bool.and_eq_true,decide_eq_true_eq]at hc;have:=gen cl a b rfl rfl hc.1 hc.2;simp only[cond_true];rw[<-this];rfl
 .simp only[eG]
theorem binI_run{P:Program}{op:BinOp}{k:IntKind}{a b:Int}{v:AV}(h:pB op k a b=some v)(hs:op≠.shl)(hs':op≠.shr)(w:World):
  ∃x,(binOp op 0 (.int k a) (.int k b)).run P w=.ok x w/\∀ρ,aq ρ v x:=by
 cases op<;>simp only[pB,zzc]at h
 case add=>subst h;exact⟨_,by simp[binOp,Op.intArith];rfl,fun ρ=>by rw[iM];simp only[aq];rfl⟩
 case sub=>subst h;exact⟨_,by simp[binOp,Op.intArith];rfl,fun ρ=>by rw[iM];simp only[aq];rfl⟩
 case mul=>subst h;exact⟨_,by simp[binOp,Op.intArith];rfl,fun ρ=>by rw[iM];simp only[aq];rfl⟩
 case quo=>
  rw[cQ]at h;by_cases hb:b=0
  .subst hb;simp at h
  .have:decide (b=Int.ofNat 0)=false:=by simpa using hb
   rw[this]at h;simp only[cond_false,zzc]at h;subst h;exact⟨_,by simp[binOp,Op.intDiv,hb];rfl,fun ρ=>by simp[iM,aq]⟩
 case rem=>
  rw[cQ]at h;by_cases hb:b=0
  .subst hb;simp at h
  .have:decide (b=Int.ofNat 0)=false:=by simpa using hb
   rw[this]at h;simp only[cond_false,zzc]at h;subst h;exact⟨_,by simp[binOp,Op.intDiv,hb];rfl,fun ρ=>by simp[eG,aq]⟩
 case eql=>subst h;exact⟨_,by simp[binOp,Op.intCmp];rfl,fun ρ=>by simp[cQ,aq];rfl⟩
 case neq=>subst h;exact⟨_,by simp[binOp,Op.intCmp];rfl,fun ρ=>by simp[cQ,aq];rfl⟩
 case lss=>subst h;exact⟨_,by simp[binOp,Op.intCmp];rfl,fun ρ=>by simp[kf,aq]⟩
 case leq=>subst h;exact⟨_,by simp[binOp,Op.intCmp];rfl,fun ρ=>by simp[kf,aq,<-decide_not,Int.not_lt]⟩
 case gtr=>subst h;exact⟨_,by simp[binOp,Op.intCmp];rfl,fun ρ=>by simp[kf,aq]⟩
 case geq=>subst h;exact⟨_,by simp[binOp,Op.intCmp];rfl,fun ρ=>by simp[kf,aq,<-decide_not,Int.not_lt]⟩
 case and=>subst h;exact⟨_,by simp only[binOp,ne_eq,not_true_eq_false,if_false];exact oH (by simp) w,fun ρ=>by rw[jk (by simp)];simp only[aq]⟩
 case or=>subst h;exact⟨_,by simp only[binOp,ne_eq,not_true_eq_false,if_false];exact oH (by simp) w,fun ρ=>by rw[jk (by simp)];simp only[aq]⟩
 case xor=>subst h;exact⟨_,by simp only[binOp,ne_eq,not_true_eq_false,if_false];exact oH (by simp) w,fun ρ=>by rw[jk (by simp)];simp only[aq]⟩
 case andNot=>subst h;exact⟨_,by simp only[binOp,ne_eq,not_true_eq_false,if_false];exact oH (by simp) w,fun ρ=>by rw[jk (by simp)];simp only[aq]⟩
 case shl=>exact absurd rfl hs
 case shr=>exact absurd rfl hs'
end Go.Am
namespace Go.Am
open Go
variable{Λ:LB}
theorem str_inj{a b:ByteArray}(h:a.data.toList.map UInt8.toNat=b.data.toList.map UInt8.toNat):a.data.toList=b.data.toList:=by
 have inj:∀(l m:List UInt8),l.map UInt8.toNat=m.map UInt8.toNat->l=m:=by
  intro l;induction l with
  |nil=>intro m hm;cases m<;>simp_all
  |cons x l ih=>
   intro m hm;cases m with
   |nil=>simp at hm
   |cons y m=>
    simp only[List.map_cons,List.cons.injEq]at hm;rw[ih m hm.2,UInt8.toNat_inj.1 hm.1]
 exact inj _ _ h
theorem sK{a b:ByteArray}{s t:List Nat}(ha:a.data.toList.map UInt8.toNat=s)(hb:b.data.toList.map UInt8.toNat=t):
  (a.toList==b.toList)=ph s t:=by
 rw[ByteArray.toList_eq,ByteArray.toList_eq,aZ,<-ha,<-hb];by_cases h:a.data.toList=b.data.toList
 .rw[h];simp
 .have h':¬a.data.toList.map UInt8.toNat=b.data.toList.map UInt8.toNat:=fun e=>h (str_inj e);rw[decide_eq_false h'];simpa using h
theorem ltS_bytes:∀(l m:List UInt8),Op.bytesLess l m=nK (l.map UInt8.toNat) (m.map UInt8.toNat):=by
 intro l;induction l with
 |nil=>intro m;cases m<;>rfl
 |cons x l ih=>
  intro m;cases m with
  |nil=>rfl
  |cons y m=>
   show (x<y||(x==y&&Op.bytesLess l m))=cond (Nat.blt x.toNat y.toNat) true (cond (Nat.beq x.toNat y.toNat) (nK (l.map UInt8.toNat) (m.map UInt8.toNat)) false);rw[<-ih m,gJ,bC];have e1:decide (x<y)=decide (x.toNat<y.toNat):=by simp[UInt8.lt_iff_toNat_lt]
   have e2:(x==y)=decide (x.toNat=y.toNat):=by
    by_cases h:x=y
    .subst h;simp
    .have:¬x.toNat=y.toNat:=fun e=>h (UInt8.toNat_inj.1 e);simp[h,this]
   rw[e1,e2];cases decide (x.toNat<y.toNat)<;>cases decide (x.toNat=y.toNat)<;>rfl
theorem AB{a b:ByteArray}{s t:List Nat}(ha:a.data.toList.map UInt8.toNat=s)(hb:b.data.toList.map UInt8.toNat=t):
  Op.bytesLess a.toList b.toList=nK s t:=by
 rw[ByteArray.toList_eq,ByteArray.toList_eq,ltS_bytes,ha,hb]
theorem yR:∀(s t:List Nat),(nK s t||ph s t)=!nK t s:=by
 intro s;induction s with
 |nil=>intro t;cases t<;>rfl
 |cons x s ih=>
  intro t;cases t with
  |nil=>rfl
  |cons y t=>
   show (cond (Nat.blt x y) true (cond (Nat.beq x y) (nK s t) false)||cond (Nat.beq x y) (ph s t) false)=!cond (Nat.blt y x) true (cond (Nat.beq y x) (nK t s) false);rw[gJ,gJ,bC,bC];rcases Nat.lt_trichotomy x y with h|h|h
   .rw[decide_eq_true h,decide_eq_false (by omega:¬y<x),decide_eq_false (by omega:¬y=x)];rfl
   .subst h;rw[decide_eq_false (by omega:¬x<x)];simpa using ih t
   .rw[decide_eq_false (by omega:¬x<y),decide_eq_true h,decide_eq_false (by omega:¬x=y)];rfl
theorem lU{a:ByteArray}{s:List Nat}(ha:a.data.toList.map UInt8.toNat=s):a.size=s.length:=by
 rw[<-ha,List.length_map];rfl
theorem wW{a b:Nat}(h:a.add b<=4611686018427387904):¬(((a+b:Nat):Int) > 9223372036854775807):=by
 have:a+b<=4611686018427387904:=h;omega
theorem binS_run{P:Program}{op:BinOp}{a b:ByteArray}{s t:List Nat}{v:AV}(h:wh op s t=some v)
  (ha:a.data.toList.map UInt8.toNat=s) (hb:b.data.toList.map UInt8.toNat=t) (w:World) :
  ∃x,(Op.stringOp op a b).run P w=.ok x w/\∀ρ,aq ρ v x:=by
 cases op
 case add=>
  have h:cond (Nat.ble (Nat.add (dN s) (dN t)) 4611686018427387904) (some (AV.str (gR s t))) none=some v:=h;rw[cG,bL,bL,cA]at h;by_cases hc:s.length.add t.length<=4611686018427387904
  .rw[decide_eq_true hc]at h;cases h;refine⟨.string (a++b),?_,fun ρ=>?_⟩
   .have hm:¬(((a.size+b.size:Nat):Int) > IntKind.i64.max):=by
     have h0:IntKind.i64.max=9223372036854775807:=rfl;rw[h0,lU ha,lU hb];exact wW hc
    show (if ((a.size+b.size:Nat):Int) > IntKind.i64.max then unsupported _ else pure (.string (a++b)):Sem Value).run P w=_;rw[if_neg hm];rfl
   .simp only[aq];exact⟨a++b,rfl,by rw[<-ha,<-hb];simp[ByteArray.data_append]⟩
  .rw[decide_eq_false hc]at h;cases h
 case eql=>cases h;exact⟨_,rfl,fun ρ=>by simp only[aq,sK ha hb]⟩
 case neq=>cases h;exact⟨_,rfl,fun ρ=>by simp only[aq,sK ha hb]⟩
 case lss=>cases h;exact⟨_,rfl,fun ρ=>by simp only[aq,AB ha hb]⟩
 case leq=>cases h;exact⟨_,rfl,fun ρ=>by simp only[aq,AB ha hb,sK ha hb,yR]⟩
 case gtr=>cases h;exact⟨_,rfl,fun ρ=>by simp only[aq,AB ha hb,sK ha hb,yR,Bool.not_not]⟩
 case geq=>cases h;exact⟨_,rfl,fun ρ=>by simp only[aq,AB ha hb]⟩
 all_goals cases h
theorem mg{P:Program}{cx:Cx}(aI:cU Λ P cx){ρ:bf}{t:TypeId}{cs:List AV}{a:Array Value}{off:Nat}{v:AV}
  (h:partOf cx t cs off=some v) (hr:aD ρ cs a.toList) (h1:∀x,x∈a.toList->x.oneCell'=true) (w:World) :
  ∃x,(part t a off).run P w=.ok x w/\aq ρ v x:=by
 unfold partOf at h;cases ha:aX cx t with
 |none=>simp[ha]at h
 |some b=>
  cases b with
  |true=>
   simp only[ha]at h;cases hs:aH cx t with
   |none=>simp[hs]at h
   |some n=>
    simp only[hs,zzc,cK,cY]at h;subst h;refine⟨.agg (a.extract off (off+n)),by simp[part,kS aI ha,ef aI hs],?_⟩;simp only[aq];have e:(a.extract off (off+n)).toList=(a.toList.drop off).take n:=by
     rw[Array.toList_extract,List.extract_eq_take_drop];congr 1;omega
    refine⟨_,rfl,by rw[e];exact (hr.drop off).take n,fun x hx=>?_⟩;rw[e]at hx;exact h1 x (List.mem_of_mem_drop (List.mem_of_mem_take hx))
  |false=>
   simp only[ha,gq]at h;obtain⟨x,hx,hv⟩:=hr.get h;refine⟨x,?_,hv⟩;have kJ:a[off]?=some x:=by simpa using hx
   simp[part,kS aI ha,kJ]
theorem Ba{P:Program}{cx:Cx}(aI:cU Λ P cx){ρ:bf}{d:Nat}{eq:TypeId->AV->AV->Option Bool}
  (heq:∀t x y r x' y',eq t x y=some r->aq ρ x x'->aq ρ y y'->∀w,(Op.equalIn d t x' y').run P w=.ok r w)
  {xs ys:List AV} {a b:Array Value} (hx:aD ρ xs a.toList) (Dn:∀x,x∈a.toList->x.oneCell'=true)
  (hy:aD ρ ys b.toList) (y0:∀x,x∈b.toList->x.oneCell'=true) :
  ∀(fs:List Field)(r:Bool),(∀f,f∈fs->f.name ≠ "_")->eqFields eq cx xs ys fs=some r->∀w,(Op.eqFields d a b fs).run P w=.ok r w:=by
 intro fs
 induction fs with
 |nil=>intro r _ h w;simp only[eqFields,zzc]at h;subst h;rfl
 |cons f fs ih=>
  intro r hn h w;have h':(match partOf cx f.type xs f.offset,partOf cx f.type ys f.offset with
   |some a,some b=>match eq f.type a b with
    |some true=>eqFields eq cx xs ys fs
    |r=>r
   |_,_=>none)=some r:=h
  cases hp:partOf cx f.type xs f.offset with
  |none=>simp[hp]at h'
  |some u=>
   cases hq:partOf cx f.type ys f.offset with
   |none=>simp[hp,hq]at h'
   |some v=>
    simp only[hp,hq]at h';obtain⟨u',r1,v1⟩:=mg aI hp hx Dn w;obtain⟨v',r2,v2⟩:=mg aI hq hy y0 w;simp only[Op.eqFields,if_pos (hn f (by simp)),zzb,r1,r2,zza];cases he:eq f.type u v with
    |none=>simp[he]at h'
    |some b=>
     rw[heq _ _ _ _ _ _ he v1 v2 w];cases b with
     |true=>simp only[he]at h';simpa using ih r (fun g hg=>hn g (by simp[hg])) h' w
     |false=>simp only[he,zzc]at h';subst h';simp
theorem DT{P:Program}{cx:Cx}(aI:cU Λ P cx){ρ:bf}{d e z:Nat}{eq:AV->AV->Option Bool}
  (heq:∀x y r x' y',eq x y=some r->aq ρ x x'->aq ρ y y'->∀w,(Op.equalIn d e x' y').run P w=.ok r w)
  {xs ys:List AV} {a b:Array Value} (hx:aD ρ xs a.toList) (Dn:∀x,x∈a.toList->x.oneCell'=true)
  (hy:aD ρ ys b.toList) (y0:∀x,x∈b.toList->x.oneCell'=true) :
  ∀(n i:Nat)(r:Bool),Bb eq cx e z xs ys n i=some r->∀w,(Op.eqItems d e z a b (List.range' i n)).run P w=.ok r w:=by
 intro n
 induction n with
 |zero=>intro i r h w;cases h;rfl
 |succ n ih=>
  intro i r h w;have h':(match partOf cx e xs (i*z),partOf cx e ys (i*z)with
   |some a,some b=>match eq a b with
    |some true=>Bb eq cx e z xs ys n (i+1)
    |r=>r
   |_,_=>none)=some r:=h
  cases hp:partOf cx e xs (i*z)with
  |none=>simp[hp]at h'
  |some u=>
   cases hq:partOf cx e ys (i*z)with
   |none=>simp[hp,hq]at h'
   |some v=>
    simp only[hp,hq]at h';obtain⟨u',r1,v1⟩:=mg aI hp hx Dn w;obtain⟨v',r2,v2⟩:=mg aI hq hy y0 w;rw[List.range'_succ];simp only[Op.eqItems,zzb,r1,r2,zza];cases he:eq u v with
    |none=>simp[he]at h'
    |some b=>
     rw[heq _ _ _ _ _ he v1 v2 w];cases b with
     |true=>simp only[he]at h';simpa using ih (i+1) r h' w
     |false=>simp only[he,zzc]at h';subst h';simp
theorem eqT_run{P:Program}{cx:Cx}(aI:cU Λ P cx){ρ:bf}:∀(n d:Nat)(t:TypeId)(x y:AV)(r:Bool)(x' y':Value),n<=d->tA cx n t x y=some r->aq ρ x x'->aq ρ y y' ->
  ∀w,(Op.equalIn d t x' y').run P w=.ok r w:=by
 intro n
 induction n with
 |zero=>intro d t x y r x' y' _ h;cases h
 |succ n ih=>
  intro d t x y r x' y' hd h hx hy w;obtain⟨d,rfl⟩:∃k,d=k+1:=⟨d-1,by omega⟩
  have jJ:tA cx (n+1) t x y=(match bJ cx t with
   |none=>none
   |some d=>gP cx (tA cx n) t d x y):=rfl
  rw[jJ]at h;cases hu:bJ cx t with
  |none=>rw[hu]at h;cases h
  |some td=>
   have oy:=aP aI hu w;rw[hu]at h;simp only[]at h;unfold gP at h;split at h<;>(try simp only[aq]at hx hy)
   ·-- int
    subst hx hy;rw[cL,cQ]at h;rename_i j a k b;by_cases hk:j=k
    .rw[decide_eq_true hk]at h;simp only[cond_true,zzc]at h;subst hk h;simp only[Op.equalIn,zzb,oy,zza];simp;rfl
    .rw[decide_eq_false hk]at h;cases h
   ·-- a symbol
    obtain⟨pl,p1,rfl⟩:=hx;obtain⟨dT,p2,rfl⟩:=hy;rename_i i j;rw[bC]at h;by_cases hk:i=j
    .subst hk;rw[p1]at p2;cases p2;rw[decide_eq_true rfl]at h;simp only[cond_true,zzc]at h;subst h;simp only[Op.equalIn,OK.val,zzb,oy,zza];simp
    .rw[decide_eq_false hk]at h;cases h
   .subst hx hy;cases h;simp only[Op.equalIn,zzb,oy,zza];rfl
   .obtain⟨b1,rfl,e1⟩:=hx;obtain⟨b2,rfl,e2⟩:=hy;cases h;simp only[Op.equalIn,zzb,oy,zza,Sem.run_pure];rw[beq_toListBytes,sK e1 e2]
   .subst hx hy;cases h;simp only[Op.equalIn,zzb,oy,zza];rfl
   .obtain⟨pl,_,_,rfl⟩:=hy;subst hx;cases h;simp only[Op.equalIn,zzb,oy,zza];rfl
   .obtain⟨pl,_,_,rfl⟩:=hx;subst hy;cases h;simp only[Op.equalIn,zzb,oy,zza];rfl
   .rename_i e i g o l1 j g' o' l2;obtain⟨pl,p1,_,rfl⟩:=hx;obtain⟨dT,p2,_,rfl⟩:=hy;cases hs:aH cx e with
    |none=>simp[hs]at h
    |some sz=>
     simp only[hs,bC]at h;cases hc:(decide (i=j)&&decide (g=g')&&decide (o=o'))with
     |false=>simp[hc]at h
     |true=>
      simp only[hc,cond_true,zzc]at h;simp only[Bool.and_eq_true,decide_eq_true_eq]at hc;obtain⟨⟨rfl,rfl⟩,rfl⟩:=hc;rw[p1]at p2;cases p2;subst h;simp only[Op.equalIn,zzb,oy,zza,ef aI hs,sameAddr];simp
   .subst hx hy;cases h;simp only[Op.equalIn,zzb,oy,zza];rfl
   .subst hx;cases h;obtain⟨pl,c,_,_,_,_,_,hh⟩:=hy;rcases hh with⟨rfl,_⟩|⟨_,_,_,a,rfl⟩<;>(simp only[Op.equalIn,zzb,oy,zza];rfl)
   .subst hy;cases h;obtain⟨pl,c,_,_,_,_,_,hh⟩:=hx;rcases hh with⟨rfl,_⟩|⟨_,_,_,a,rfl⟩<;>(simp only[Op.equalIn,zzb,oy,zza];rfl)
   .subst hx hy;cases h;simp only[Op.equalIn,zzb,oy,zza];rfl
   .obtain⟨pl,_,rfl⟩:=hy;subst hx;cases h;simp only[Op.equalIn,zzb,oy,zza];rfl
   .obtain⟨pl,_,rfl⟩:=hx;subst hy;cases h;simp only[Op.equalIn,zzb,oy,zza];rfl
   .subst hx hy;cases h;simp only[Op.equalIn,zzb,oy,zza];rfl
   .obtain⟨_,_,rfl,_⟩:=hy;subst hx;cases h;simp only[Op.equalIn,zzb,oy,zza];rfl
   .obtain⟨_,_,rfl,_⟩:=hx;subst hy;cases h;simp only[Op.equalIn,zzb,oy,zza];rfl
   .subst hx hy;cases h;simp only[Op.equalIn,zzb,oy,zza];rfl
   .obtain⟨_,rfl,_⟩:=hy;subst hx;cases h;simp only[Op.equalIn,zzb,oy,zza];rfl
   .obtain⟨_,rfl,_⟩:=hx;subst hy;cases h;simp only[Op.equalIn,zzb,oy,zza];rfl
   .rename_i ms tx a ty b;obtain⟨a',rfl,ha⟩:=hx;obtain⟨b',rfl,hb⟩:=hy;rw[bC]at h;by_cases ht:tx=ty
    .rw[decide_eq_true ht]at h;subst ht;simp only[cond_true]at h;cases hi:cx.jU.get tx with
     |none=>simp[hi]at h
     |some i=>
      simp only[hi]at h;cases hcm:i.comparable with
      |false=>simp[hcm]at h
      |true=>
       simp only[hcm,cond_true]at h;simp only[Op.equalIn,zzb,oy,zza,ne_eq,not_true_eq_false,if_false];rw[oe aI hi];simp only[zza,hcm,Bool.not_true,Bool.false_eq_true,if_false];exact ih d _ _ _ _ _ _ (by omega) h ha hb w
    .rw[decide_eq_false ht]at h;cases h;simp only[Op.equalIn,zzb,oy,zza];simp[ht]
   .rename_i fs xs ys;obtain⟨a,rfl,ha,ha1⟩:=hx;obtain⟨b,rfl,hb,pd⟩:=hy;cases he:cx.eqs.get t with
    |none=>simp[he]at h
    |some u=>
     simp only[he]at h;obtain⟨jJ,hgd,hnm⟩:=aI.stood t (by rw[he];simp);have hfs:P.fieldsOf t=fs:=by simp[Program.fieldsOf,cJ aI hu]
     rw[run_equalIn_struct w d t a b (by rw[hfs];exact cJ aI hu) jJ];rw[hfs]at hnm⊢;exact Ba aI (fun t x y r x' y' hh h1 h2 w=>ih d t x y r x' y' (by omega) hh h1 h2 w) ha ha1 hb pd fs.toList r hnm h w
   .rename_i m e xs ys;obtain⟨a,rfl,ha,ha1⟩:=hx;obtain⟨b,rfl,hb,pd⟩:=hy;cases he:cx.eqs.get t with
    |none=>simp[he]at h
    |some u=>
     simp only[he]at h;cases hi:cx.jU.get e with
     |none=>simp[aH,hi]at h
     |some i=>
      have hz:aH cx e=some i.size:=by unfold aH;rw[hi]
      have hc:P.cellsOf e=i.size:=by unfold Program.cellsOf;rw[aI.jU e i hi];rfl
      simp only[hz]at h;rw[run_equalIn_array w d a b (cJ aI hu) (aI.jU e i hi),hc,List.range_eq_range'];exact DT aI (fun x y r x' y' hh h1 h2 w=>ih d e x y r x' y' (by omega) hh h1 h2 w) ha ha1 hb pd m 0 r h w
   .cases h
end Go.Am
