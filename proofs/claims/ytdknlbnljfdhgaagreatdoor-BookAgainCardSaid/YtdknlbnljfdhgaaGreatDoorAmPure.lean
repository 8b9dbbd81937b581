/-
  The abstract machine against the model: what reckons alone.
-/
import Derived.Test.YtdknlbnljfdhgaaGreatDoorAmRun
import Derived.IntWalk
namespace Go.Am
open Go
theorem inR_nat(k:IntKind)(m:Nat):inR k (m:Int)=decide (m<half k):=gH
theorem Ey{k:IntKind}{n:Int}(h:inR k n=true):k.wrap n=n:=by
 cases n with
 |ofNat m=>
  have hm:m<half k:=of_decide_eq_true ((inR_nat k m).symm.trans h);cases k
  .exact IntWalk.i8_in _ (by simp only[half]at hm;simp only[Int.ofNat_eq_natCast];omega)
  .exact IntWalk.i16_in _ (by simp only[half]at hm;simp only[Int.ofNat_eq_natCast];omega)
  .exact IntWalk.i32_in _ (by simp only[half]at hm;simp only[Int.ofNat_eq_natCast];omega)
  .exact IntWalk.i64_in _ (by simp only[half]at hm;simp only[Int.ofNat_eq_natCast];omega)
  .exact IntWalk.u8_in _ (by simp only[half]at hm;simp only[Int.ofNat_eq_natCast];omega)
  .exact IntWalk.u16_in _ (by simp only[half]at hm;simp only[Int.ofNat_eq_natCast];omega)
  .exact IntWalk.u32_in _ (by simp only[half]at hm;simp only[Int.ofNat_eq_natCast];omega)
  .exact IntWalk.u64_in _ (by simp only[half]at hm;simp only[Int.ofNat_eq_natCast];omega)
 |negSucc m=>
  have hm:sgn k=true/\m<half k:=by
   have h':cond (sgn k) (Nat.blt m (half k)) false=true:=h;cases hs:sgn k with
   |false=>rw[hs]at h';cases h'
   |true=>rw[hs]at h';exact⟨rfl,of_decide_eq_true (gH.symm.trans h')⟩
  obtain⟨hs,hm⟩:=hm;cases k
  .exact IntWalk.i8_in _ (by simp only[half]at hm;omega)
  .exact IntWalk.i16_in _ (by simp only[half]at hm;omega)
  .exact IntWalk.i32_in _ (by simp only[half]at hm;omega)
  .exact IntWalk.i64_in _ (by simp only[half]at hm;omega)
  all_goals cases hs
theorem C2(k:IntKind)(n:Int):wrapF k n=k.wrap n:=by
 unfold wrapF;cases h:inR k n with
 |true=>exact (Ey h).symm
 |false=>rfl
theorem iy(k:IntKind)(n:Int):mkI k n=.int k (k.wrap n):=by rw[mkI,dG,C2]
theorem half_bits(k:IntKind):half k<=2 ^ k.bits:=by cases k<;>decide
theorem half_pow(k:IntKind):∃m,half k=2 ^ m:=by
 cases k
 .exact⟨7,rfl⟩
 .exact⟨15,rfl⟩
 .exact⟨31,rfl⟩
 .exact⟨63,rfl⟩
 .exact⟨8,rfl⟩
 .exact⟨16,rfl⟩
 .exact⟨32,rfl⟩
 .exact⟨64,rfl⟩
theorem kr(w a:Nat)(h:a<2 ^ w):(BitVec.ofInt w (a:Int)).toNat=a:=by
 rw[BitVec.ofInt_natCast,BitVec.toNat_ofNat,Nat.mod_eq_of_lt h]
theorem pO{P:Program}{op:BinOp}{k:IntKind}{x y:Int}(mo:op=.and\/op=.or\/op=.xor\/op=.andNot)(w:World):
  (Op.intBits op k x y).run P w=.ok (.int k (rh op k x y)) w:=by
 rcases mo with rfl|rfl|rfl|rfl<;>rfl
theorem ji{op:BinOp}{k:IntKind}{x y:Int}(mo:op=.and\/op=.or\/op=.xor\/op=.andNot):fk op k x y=.int k (rh op k x y):=by
 have gen:op≠.andNot->∀a b:Nat,x=(a:Int)->y=(b:Int)->a<half k->b<half k->(qg op a b:Int)=rh op k x y:=by
  intro cS a b hx hy ha hb;subst hx hy;obtain⟨m,hm⟩:=half_pow k;have h2:=half_bits k;have hn:qg op a b<half k:=by
   rcases mo with rfl|rfl|rfl|rfl
   .exact Nat.lt_of_le_of_lt Nat.and_le_left ha
   .rw[hm];exact Nat.or_lt_two_pow (hm▸ha) (hm▸hb)
   .rw[hm];exact Nat.xor_lt_two_pow (hm▸ha) (hm▸hb)
   .exact absurd rfl cS
  have hw:k.wrap (qg op a b:Int)=qg op a b:=Ey ((inR_nat _ _).trans (decide_eq_true hn));rw[<-hw];rcases mo with rfl|rfl|rfl|rfl
  .show _=k.wrap _;rw[BitVec.toNat_and,kr _ a (by omega),kr _ b (by omega)];rfl
  .show _=k.wrap _;rw[BitVec.toNat_or,kr _ a (by omega),kr _ b (by omega)];rfl
  .show _=k.wrap _;rw[BitVec.toNat_xor,kr _ a (by omega),kr _ b (by omega)];rfl
  .exact absurd rfl cS
 unfold fk;split
 .simp only[dG]
 .rename_i a b cS;simp only[gH,aN,dG];cases hc:(decide (a<half k)&&decide (b<half k))with
  |false=>rfl
  |true=>
   simp only[Bool.and_eq_true,decide_eq_true_eq]at hc;have:=gen cS a b rfl rfl hc.1 hc.2;simp only[cond_true];rw[<-this];rfl
 .simp only[dG]
theorem binI_run{P:Program}{op:BinOp}{k:IntKind}{a b:Int}{v:AV}(h:qN op k a b=some v)(hs:op≠.shl)(lN:op≠.shr)(w:World):
  ∃x,(binOp op 0 (.int k a) (.int k b)).run P w=.ok x w/\∀ρ,ah ρ v x:=by
 cases op<;>simp only[qN,Option.some.injEq]at h
 case add=>subst h;exact⟨_,by simp[binOp,Op.intArith];rfl,fun ρ=>by rw[iy];simp only[ah];rfl⟩
 case sub=>subst h;exact⟨_,by simp[binOp,Op.intArith];rfl,fun ρ=>by rw[iy];simp only[ah];rfl⟩
 case mul=>subst h;exact⟨_,by simp[binOp,Op.intArith];rfl,fun ρ=>by rw[iy];simp only[ah];rfl⟩
 case quo=>
  rw[gK]at h;by_cases hb:b=0
  .subst hb;simp at h
  .have:decide (b=Int.ofNat 0)=false:=by simpa using hb
   rw[this]at h;simp only[cond_false,Option.some.injEq]at h;subst h;exact⟨_,by simp[binOp,Op.intDiv,hb];rfl,fun ρ=>by simp[iy,ah]⟩
 case rem=>
  rw[gK]at h;by_cases hb:b=0
  .subst hb;simp at h
  .have:decide (b=Int.ofNat 0)=false:=by simpa using hb
   rw[this]at h;simp only[cond_false,Option.some.injEq]at h;subst h;exact⟨_,by simp[binOp,Op.intDiv,hb];rfl,fun ρ=>by simp[dG,ah]⟩
 case eql=>subst h;exact⟨_,by simp[binOp,Op.intCmp];rfl,fun ρ=>by simp[gK,ah];rfl⟩
 case neq=>subst h;exact⟨_,by simp[binOp,Op.intCmp];rfl,fun ρ=>by simp[gK,ah];rfl⟩
 case lss=>subst h;exact⟨_,by simp[binOp,Op.intCmp];rfl,fun ρ=>by simp[lC,ah]⟩
 case leq=>subst h;exact⟨_,by simp[binOp,Op.intCmp];rfl,fun ρ=>by simp[lC,ah,<-decide_not,Int.not_lt]⟩
 case gtr=>subst h;exact⟨_,by simp[binOp,Op.intCmp];rfl,fun ρ=>by simp[lC,ah]⟩
 case geq=>subst h;exact⟨_,by simp[binOp,Op.intCmp];rfl,fun ρ=>by simp[lC,ah,<-decide_not,Int.not_lt]⟩
 case and=>subst h;exact⟨_,by simp only[binOp,ne_eq,not_true_eq_false,if_false];exact pO (by simp) w,fun ρ=>by rw[ji (by simp)];simp only[ah]⟩
 case or=>subst h;exact⟨_,by simp only[binOp,ne_eq,not_true_eq_false,if_false];exact pO (by simp) w,fun ρ=>by rw[ji (by simp)];simp only[ah]⟩
 case xor=>subst h;exact⟨_,by simp only[binOp,ne_eq,not_true_eq_false,if_false];exact pO (by simp) w,fun ρ=>by rw[ji (by simp)];simp only[ah]⟩
 case andNot=>subst h;exact⟨_,by simp only[binOp,ne_eq,not_true_eq_false,if_false];exact pO (by simp) w,fun ρ=>by rw[ji (by simp)];simp only[ah]⟩
 case shl=>exact absurd rfl hs
 case shr=>exact absurd rfl lN
end Go.Am
