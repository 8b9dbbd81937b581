/-
  The abstract machine against the model: what reckons alone.
-/
import Derived.Test.YtdknlbnljfdhgaaGreatDoorAmRun
import Derived.IntWalk
open Option.some renaming injEq->zza
namespace Go.Am
open Go
theorem MS(k:IntKind)(m:Nat):inR k (m:Int)=decide (m<half k):=iJ
theorem Hk{k:IntKind}{n:Int}(h:inR k n=true):k.wrap n=n:=by
 cases n with
 |ofNat m=>
  have hm:m<half k:=of_decide_eq_true ((MS k m).symm.trans h);cases k
  .exact IntWalk.i8_in _ (by simp only[half]at hm;simp only[Int.ofNat_eq_natCast];omega)
  .exact IntWalk.i16_in _ (by simp only[half]at hm;simp only[Int.ofNat_eq_natCast];omega)
  .exact IntWalk.i32_in _ (by simp only[half]at hm;simp only[Int.ofNat_eq_natCast];omega)
  .exact IntWalk.i64_in _ (by simp only[half]at hm;simp only[Int.ofNat_eq_natCast];omega)
  .exact IntWalk.u8_in _ (by simp only[half]at hm;simp only[Int.ofNat_eq_natCast];omega)
  .exact IntWalk.u16_in _ (by simp only[half]at hm;simp only[Int.ofNat_eq_natCast];omega)
  .exact IntWalk.u32_in _ (by simp only[half]at hm;simp only[Int.ofNat_eq_natCast];omega)
  .exact IntWalk.u64_in _ (by simp only[half]at hm;simp only[Int.ofNat_eq_natCast];omega)
 |negSucc m=>
  have hm:sgn k=true/\m<half k:=by
   have h':cond (sgn k) (Nat.blt m (half k)) false=true:=h;cases hs:sgn k with
   |false=>rw[hs]at h';cases h'
   |true=>rw[hs]at h';exact⟨rfl,of_decide_eq_true (iJ.symm.trans h')⟩
  obtain⟨hs,hm⟩:=hm;cases k
  .exact IntWalk.i8_in _ (by simp only[half]at hm;omega)
  .exact IntWalk.i16_in _ (by simp only[half]at hm;omega)
  .exact IntWalk.i32_in _ (by simp only[half]at hm;omega)
  .exact IntWalk.i64_in _ (by simp only[half]at hm;omega)
  all_goals cases hs
theorem FM(k:IntKind)(n:Int):Rz k n=k.wrap n:=by
 unfold Rz;cases h:inR k n with
 |true=>exact (Hk h).symm
 |false=>rfl
theorem jj(k:IntKind)(n:Int):Kw k n=.int k (k.wrap n):=by rw[Kw,dM,FM]
theorem Qa(k:IntKind):half k<=2 ^ k.bits:=by cases k<;>decide
theorem Vl(k:IntKind):∃m,half k=2 ^ m:=by
 cases k
 .exact⟨7,rfl⟩
 .exact⟨15,rfl⟩
 .exact⟨31,rfl⟩
 .exact⟨63,rfl⟩
 .exact⟨8,rfl⟩
 .exact⟨16,rfl⟩
 .exact⟨32,rfl⟩
 .exact⟨64,rfl⟩
theorem lM(w a:Nat)(h:a<2 ^ w):(BitVec.ofInt w (a:Int)).toNat=a:=by
 rw[BitVec.ofInt_natCast,BitVec.toNat_ofNat,Nat.mod_eq_of_lt h]
theorem rI{P:Program}{op:BinOp}{k:IntKind}{x y:Int}(jR:op=.and\/op=.or\/op=.xor\/op=.andNot)(w:World):
  (Op.intBits op k x y).run P w=.ok (.int k (tm op k x y)) w:=by
 rcases jR with rfl|rfl|rfl|rfl<;>rfl
theorem j4{op:BinOp}{k:IntKind}{x y:Int}(jR:op=.and\/op=.or\/op=.xor\/op=.andNot):fP op k x y=.int k (tm op k x y):=by
 have gen:op≠.andNot->∀a b:Nat,x=(a:Int)->y=(b:Int)->a<half k->b<half k->(sa op a b:Int)=tm op k x y:=by
  intro ct a b hx hy ha hb;subst hx hy;obtain⟨m,hm⟩:=Vl k;have h2:=Qa k;have hn:sa op a b<half k:=by
   rcases jR with rfl|rfl|rfl|rfl
   .exact Nat.lt_of_le_of_lt Nat.and_le_left ha
   .rw[hm];exact Nat.or_lt_two_pow (hm▸ha) (hm▸hb)
   .rw[hm];exact Nat.xor_lt_two_pow (hm▸ha) (hm▸hb)
   .exact absurd rfl ct
  have hw:k.wrap (sa op a b:Int)=sa op a b:=Hk ((MS _ _).trans (decide_eq_true hn));rw[<-hw];rcases jR with rfl|rfl|rfl|rfl
  .show _=k.wrap _;rw[BitVec.toNat_and,lM _ a (by omega),lM _ b (by omega)];rfl
  .show _=k.wrap _;rw[BitVec.toNat_or,lM _ a (by omega),lM _ b (by omega)];rfl
  .show _=k.wrap _;rw[BitVec.toNat_xor,lM _ a (by omega),lM _ b (by omega)];rfl
  .exact absurd rfl ct
 unfold fP;split
 .simp only[dM]
 .rename_i a b ct;simp only[iJ,aQ,dM];cases hc:(decide (a<half k)&&decide (b<half k))with
  |false=>rfl
  |true=>
   simp only[Bool.and_eq_true,decide_eq_true_eq]at hc;have:=gen ct a b rfl rfl hc.1 hc.2;simp only[cond_true];rw[<-this];rfl
 .simp only[dM]
theorem WA{P:Program}{op:BinOp}{k:IntKind}{a b:Int}{v:AV}(h:qw op k a b=some v)(hs:op≠.shl)(m8:op≠.shr)(w:World):
  ∃x,(binOp op 0 (.int k a) (.int k b)).run P w=.ok x w/\∀ρ,ai ρ v x:=by
 cases op<;>simp only[qw,zza]at h
 case add=>subst h;exact⟨_,by simp[binOp,Op.intArith];rfl,fun ρ=>by rw[jj];simp only[ai];rfl⟩
 case sub=>subst h;exact⟨_,by simp[binOp,Op.intArith];rfl,fun ρ=>by rw[jj];simp only[ai];rfl⟩
 case mul=>subst h;exact⟨_,by simp[binOp,Op.intArith];rfl,fun ρ=>by rw[jj];simp only[ai];rfl⟩
 case quo=>
  rw[gz]at h;by_cases hb:b=0
  .subst hb;simp at h
  .have:decide (b=Int.ofNat 0)=false:=by simpa using hb
   rw[this]at h;simp only[cond_false,zza]at h;subst h;exact⟨_,by simp[binOp,Op.intDiv,hb];rfl,fun ρ=>by simp[jj,ai]⟩
 case rem=>
  rw[gz]at h;by_cases hb:b=0
  .subst hb;simp at h
  .have:decide (b=Int.ofNat 0)=false:=by simpa using hb
   rw[this]at h;simp only[cond_false,zza]at h;subst h;exact⟨_,by simp[binOp,Op.intDiv,hb];rfl,fun ρ=>by simp[dM,ai]⟩
 case eql=>subst h;exact⟨_,by simp[binOp,Op.intCmp];rfl,fun ρ=>by simp[gz,ai];rfl⟩
 case neq=>subst h;exact⟨_,by simp[binOp,Op.intCmp];rfl,fun ρ=>by simp[gz,ai];rfl⟩
 case lss=>subst h;exact⟨_,by simp[binOp,Op.intCmp];rfl,fun ρ=>by simp[mL,ai]⟩
 case leq=>subst h;exact⟨_,by simp[binOp,Op.intCmp];rfl,fun ρ=>by simp[mL,ai,<-decide_not,Int.not_lt]⟩
 case gtr=>subst h;exact⟨_,by simp[binOp,Op.intCmp];rfl,fun ρ=>by simp[mL,ai]⟩
 case geq=>subst h;exact⟨_,by simp[binOp,Op.intCmp];rfl,fun ρ=>by simp[mL,ai,<-decide_not,Int.not_lt]⟩
 case and=>subst h;exact⟨_,by simp only[binOp,ne_eq,not_true_eq_false,if_false];exact rI (by simp) w,fun ρ=>by rw[j4 (by simp)];simp only[ai]⟩
 case or=>subst h;exact⟨_,by simp only[binOp,ne_eq,not_true_eq_false,if_false];exact rI (by simp) w,fun ρ=>by rw[j4 (by simp)];simp only[ai]⟩
 case xor=>subst h;exact⟨_,by simp only[binOp,ne_eq,not_true_eq_false,if_false];exact rI (by simp) w,fun ρ=>by rw[j4 (by simp)];simp only[ai]⟩
 case andNot=>subst h;exact⟨_,by simp only[binOp,ne_eq,not_true_eq_false,if_false];exact rI (by simp) w,fun ρ=>by rw[j4 (by simp)];simp only[ai]⟩
 case shl=>exact absurd rfl hs
 case shr=>exact absurd rfl m8
end Go.Am
