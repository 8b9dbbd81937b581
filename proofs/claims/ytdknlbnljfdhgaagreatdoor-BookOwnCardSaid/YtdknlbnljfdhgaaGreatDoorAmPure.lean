/-
  The abstract machine against the model: what reckons alone.
-/
import Derived.Test.YtdknlbnljfdhgaaGreatDoorAmRun
import Derived.IntWalk
namespace Go.Am
open Go
theorem inR_nat (k:IntKind) (m:Nat):inR k (m:Int)=decide (m<half k):=gI
theorem D0 {k:IntKind} {n:Int} (h:inR k n=true):k.wrap n=n:=by
 cases n with
 | ofNat m=>
  have hm:m<half k:=of_decide_eq_true ((inR_nat k m).symm.trans h);cases k
  ·exact IntWalk.i8_in _ (by simp only[half] at hm;simp only[Int.ofNat_eq_natCast];omega)
  ·exact IntWalk.i16_in _ (by simp only[half] at hm;simp only[Int.ofNat_eq_natCast];omega)
  ·exact IntWalk.i32_in _ (by simp only[half] at hm;simp only[Int.ofNat_eq_natCast];omega)
  ·exact IntWalk.i64_in _ (by simp only[half] at hm;simp only[Int.ofNat_eq_natCast];omega)
  ·exact IntWalk.u8_in _ (by simp only[half] at hm;simp only[Int.ofNat_eq_natCast];omega)
  ·exact IntWalk.u16_in _ (by simp only[half] at hm;simp only[Int.ofNat_eq_natCast];omega)
  ·exact IntWalk.u32_in _ (by simp only[half] at hm;simp only[Int.ofNat_eq_natCast];omega)
  ·exact IntWalk.u64_in _ (by simp only[half] at hm;simp only[Int.ofNat_eq_natCast];omega)
 | negSucc m=>
  have hm:sgn k=true∧m<half k:=by
   have h':cond (sgn k) (Nat.blt m (half k)) false=true:=h;cases hs:sgn k with
   | false=>rw[hs] at h';cases h'
   | true=>rw[hs] at h';exact ⟨rfl,of_decide_eq_true (gI.symm.trans h')⟩
  obtain ⟨hs,hm⟩:=hm;cases k
  ·exact IntWalk.i8_in _ (by simp only[half] at hm;omega)
  ·exact IntWalk.i16_in _ (by simp only[half] at hm;omega)
  ·exact IntWalk.i32_in _ (by simp only[half] at hm;omega)
  ·exact IntWalk.i64_in _ (by simp only[half] at hm;omega)
  all_goals cases hs
theorem Cr (k:IntKind) (n:Int):wrapF k n=k.wrap n:=by
 unfold wrapF;cases h:inR k n with
 | true=>exact (D0 h).symm
 | false=>rfl
theorem iq (k:IntKind) (n:Int):mkI k n=.int k (k.wrap n):=by rw[mkI,cS,Cr]
theorem half_bits (k:IntKind):half k≤2 ^ k.bits:=by cases k<;>decide
theorem half_pow (k:IntKind):∃ m,half k=2 ^ m:=by
 cases k
 ·exact ⟨7,rfl⟩
 ·exact ⟨15,rfl⟩
 ·exact ⟨31,rfl⟩
 ·exact ⟨63,rfl⟩
 ·exact ⟨8,rfl⟩
 ·exact ⟨16,rfl⟩
 ·exact ⟨32,rfl⟩
 ·exact ⟨64,rfl⟩
theorem jL (w a:Nat) (h:a<2 ^ w):(BitVec.ofInt w (a:Int)).toNat=a:=by
 rw[BitVec.ofInt_natCast,BitVec.toNat_ofNat,Nat.mod_eq_of_lt h]
theorem oN {P:Program} {op:BinOp} {k:IntKind} {x y:Int} (nI:op=.and∨op=.or∨op=.xor∨op=.andNot) (w:World) :
  (Op.intBits op k x y).run P w=.ok (.int k (nz op k x y)) w:=by
 rcases nI with rfl|rfl|rfl|rfl<;>rfl
theorem my {op:BinOp} {k:IntKind} {x y:Int} (nI:op=.and∨op=.or∨op=.xor∨op=.andNot):fF op k x y=.int k (nz op k x y):=by
 have gen:op≠.andNot→∀ a b:Nat,x=(a:Int)→y=(b:Int)→a<half k→b<half k→(pe op a b:Int)=nz op k x y:=by
  intro cN a b hx hy ha hb;subst hx hy;obtain ⟨m,hm⟩:=half_pow k;have h2:=half_bits k;have hn:pe op a b<half k:=by
   rcases nI with rfl|rfl|rfl|rfl
   ·exact Nat.lt_of_le_of_lt Nat.and_le_left ha
   ·rw[hm];exact Nat.or_lt_two_pow (hm▸ha) (hm▸hb)
   ·rw[hm];exact Nat.xor_lt_two_pow (hm▸ha) (hm▸hb)
   ·exact absurd rfl cN
  have hw:k.wrap (pe op a b:Int)=pe op a b:=D0 ((inR_nat _ _).trans (decide_eq_true hn));rw[←hw];rcases nI with rfl|rfl|rfl|rfl
  ·show _=k.wrap _;rw[BitVec.toNat_and,jL _ a (by omega),jL _ b (by omega)];rfl
  ·show _=k.wrap _;rw[BitVec.toNat_or,jL _ a (by omega),jL _ b (by omega)];rfl
  ·show _=k.wrap _;rw[BitVec.toNat_xor,jL _ a (by omega),jL _ b (by omega)];rfl
  ·exact absurd rfl cN
 unfold fF;split
 ·simp only[cS]
 ·rename_i a b cN;simp only[gI,aH,cS];cases hc:(decide (a<half k)&&decide (b<half k)) with
  | false=>rfl
  | true=>
   simp only[Bool.and_eq_true,decide_eq_true_eq] at hc;have:=gen cN a b rfl rfl hc.1 hc.2;simp only[cond_true];rw[←this];rfl
 ·simp only[cS]
theorem binI_run {P:Program} {op:BinOp} {k:IntKind} {a b:Int} {v:AV} (h:pU op k a b=some v) (hs:op≠.shl) (kR:op≠.shr) (w:World) :
  ∃ x,(binOp op 0 (.int k a) (.int k b)).run P w=.ok x w∧∀ ρ,ah ρ v x:=by
 cases op<;>simp only[pU,Option.some.injEq] at h
 case add=>subst h;exact ⟨_,by simp[binOp,Op.intArith];rfl,fun ρ=>by rw[iq];simp only[ah];rfl⟩
 case sub=>subst h;exact ⟨_,by simp[binOp,Op.intArith];rfl,fun ρ=>by rw[iq];simp only[ah];rfl⟩
 case mul=>subst h;exact ⟨_,by simp[binOp,Op.intArith];rfl,fun ρ=>by rw[iq];simp only[ah];rfl⟩
 case quo=>
  rw[gN] at h;by_cases hb:b=0
  ·subst hb;simp at h
  ·have:decide (b=Int.ofNat 0)=false:=by simpa using hb
   rw[this] at h;simp only[cond_false,Option.some.injEq] at h;subst h;exact ⟨_,by simp[binOp,Op.intDiv,hb];rfl,fun ρ=>by simp[iq,ah]⟩
 case rem=>
  rw[gN] at h;by_cases hb:b=0
  ·subst hb;simp at h
  ·have:decide (b=Int.ofNat 0)=false:=by simpa using hb
   rw[this] at h;simp only[cond_false,Option.some.injEq] at h;subst h;exact ⟨_,by simp[binOp,Op.intDiv,hb];rfl,fun ρ=>by simp[cS,ah]⟩
 case eql=>subst h;exact ⟨_,by simp[binOp,Op.intCmp];rfl,fun ρ=>by simp[gN,ah];rfl⟩
 case neq=>subst h;exact ⟨_,by simp[binOp,Op.intCmp];rfl,fun ρ=>by simp[gN,ah];rfl⟩
 case lss=>subst h;exact ⟨_,by simp[binOp,Op.intCmp];rfl,fun ρ=>by simp[kD,ah]⟩
 case leq=>subst h;exact ⟨_,by simp[binOp,Op.intCmp];rfl,fun ρ=>by simp[kD,ah,←decide_not,Int.not_lt]⟩
 case gtr=>subst h;exact ⟨_,by simp[binOp,Op.intCmp];rfl,fun ρ=>by simp[kD,ah]⟩
 case geq=>subst h;exact ⟨_,by simp[binOp,Op.intCmp];rfl,fun ρ=>by simp[kD,ah,←decide_not,Int.not_lt]⟩
 case and=>subst h;exact ⟨_,by simp only[binOp,ne_eq,not_true_eq_false,if_false];exact oN (by simp) w,fun ρ=>by rw[my (by simp)];simp only[ah]⟩
 case or=>subst h;exact ⟨_,by simp only[binOp,ne_eq,not_true_eq_false,if_false];exact oN (by simp) w,fun ρ=>by rw[my (by simp)];simp only[ah]⟩
 case xor=>subst h;exact ⟨_,by simp only[binOp,ne_eq,not_true_eq_false,if_false];exact oN (by simp) w,fun ρ=>by rw[my (by simp)];simp only[ah]⟩
 case andNot=>subst h;exact ⟨_,by simp only[binOp,ne_eq,not_true_eq_false,if_false];exact oN (by simp) w,fun ρ=>by rw[my (by simp)];simp only[ah]⟩
 case shl=>exact absurd rfl hs
 case shr=>exact absurd rfl kR
end Go.Am
