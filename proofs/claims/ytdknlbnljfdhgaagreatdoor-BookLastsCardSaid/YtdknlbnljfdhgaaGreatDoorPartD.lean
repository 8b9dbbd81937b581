/-
  The facts of types and functions that a book's walk wants.
-/
import Derived.Test.YtdknlbnljfdhgaaGreatDoorPartC
open List renaming length_append->zza,getElem?_cons_zero->zzb,append_assoc->zzc,getElem?_cons_succ->zzd,getElem?_eq_getElem->zzg,getElem_mem->zzm,mem_of_mem_take->zzn,take_length->zzp,length_take->zzq
open Nat renaming lt_of_lt_of_le->zze,mul_le_mul_right->zzi,lt_succ_self->zzj,le_refl->zzk,le_trans->zzl,zero_le->zzr
open Option renaming getD_some->zzf,map_some->zzo
open Bool renaming and_eq_true->zzh
set_option linter.unusedVariables false
set_option linter.unusedSimpArgs false
set_option maxRecDepth 20000
noncomputable section
namespace Go.Proofs.YtdknlbnljfdhgaaGreatDoor.bk
open Go Go.Am Go.Proofs.YtdknlbnljfdhgaaGreatDoor.dk
theorem ok3:okF C1 Tryz.f3=true:=by kernel_rfl
@[simp] theorem st22:qh C1 22=some (34,8,128):=by kernel_rfl
@[simp] theorem jlf:aN C1 34=some true:=by kernel_rfl
@[simp] theorem XM:aG C1 34=some 8:=by kernel_rfl
@[simp] theorem ze34:zeroOf C1 34=some (.agg [.int .i64 0,.int .i64 0,.int .i64 0,.int .u64 0,.ar,.ar,.ar,.ar])/\fieldAt C1 34 0=some 0:=by and_intros<;>kernel_rfl
@[simp] theorem ag3:aN C1 3=some false:=by kernel_rfl
@[simp] theorem sz3:aG C1 3=some 1:=by kernel_rfl
@[simp] theorem sz40:aG C1 40=some 130:=by kernel_rfl
@[simp] theorem ag40:aN C1 40=some true:=by kernel_rfl
@[simp] theorem jmd:fieldAt C1 34 1=some 1/\fieldAt C1 34 2=some 2/\fieldAt C1 40 2=some 2:=by and_intros<;>kernel_rfl
@[simp] theorem ag27:aN C1 27=some false:=by kernel_rfl
@[simp] theorem jmc:fieldAt C1 34 3=some 3/\fieldAt C1 40 1=some 1/\fieldAt C1 40 0=some 0:=by and_intros<;>kernel_rfl
@[simp] theorem ag35:aN C1 35=some false:=by kernel_rfl
@[simp] theorem sz38:aG C1 38=some 128:=by kernel_rfl
theorem fn7:C1.fns.get 7=some Tryz.f7:=by kernel_rfl
theorem ok7:okF C1 Tryz.f7=true:=by kernel_rfl
theorem fn8:C1.fns.get 8=some Tryz.f8:=by kernel_rfl
theorem ok8:okF C1 Tryz.f8=true:=by kernel_rfl
theorem fn9:C1.fns.get 9=some Tryz.f9:=by kernel_rfl
theorem ok9:okF C1 Tryz.f9=true:=by kernel_rfl
@[simp] theorem jmb:fieldAt C1 34 4=some 4:=by kernel_rfl
@[simp] theorem jlh:aN C1 29=some false:=by kernel_rfl
@[simp] theorem jma:fieldAt C1 34 5=some 5/\aN C1 30=some false/\aG C1 30=some 1:=by and_intros<;>kernel_rfl
theorem jkl:C1.fns.get 10=some Tryz.f10:=by kernel_rfl
theorem jhq:okF C1 Tryz.f10=true:=by kernel_rfl
@[simp] theorem jfS:qh C1 35=some (50,3,56):=by kernel_rfl
@[simp] theorem ag36:aN C1 36=some false:=by kernel_rfl
@[simp] theorem jfR:qh C1 36=some (98,4,48):=by kernel_rfl
@[simp] theorem ag38:aN C1 38=some true:=by kernel_rfl
@[simp] theorem jlY:fieldAt C1 50 0=some 0/\fieldAt C1 50 2=some 2:=by and_intros<;>kernel_rfl
@[simp] theorem jle:aN C1 48=some false:=by kernel_rfl
@[simp] theorem jlX:fieldAt C1 50 1=some 1:=by kernel_rfl
@[simp] theorem jft:aN C1 98=some true:=by kernel_rfl
@[simp] theorem jcn:aG C1 98=some 4:=by kernel_rfl
@[simp] theorem ze98:zeroOf C1 98=some (.agg [.int .i64 0,.int .u64 0,.bool false,.ar])/\fieldAt C1 98 0=some 0/\fieldAt C1 98 1=some 1/\fieldAt C1 98 2=some 2:=by and_intros<;>kernel_rfl
@[simp] theorem ag4:aN C1 4=some false:=by kernel_rfl
@[simp] theorem sz4:aG C1 4=some 1:=by kernel_rfl
@[simp] theorem jlS:fieldAt C1 98 3=some 3:=by kernel_rfl
@[simp] theorem un35:bN C1 35=some (.slice 50):=by kernel_rfl
theorem fn13:C1.fns.get 13=some Tryz.f13:=by kernel_rfl
theorem ok13:okF C1 Tryz.f13=true:=by kernel_rfl
@[simp] theorem jbi:qh C1 111=some (32,1,24):=by kernel_rfl
@[simp] theorem jlg:aN C1 32=some false:=by kernel_rfl
@[simp] theorem sz32:aG C1 32=some 1:=by kernel_rfl
@[simp] theorem jfM:aG C1 115=some 7:=by kernel_rfl
@[simp] theorem jmk:zeroOf C1 115=some (.agg [.int .i64 0,.int .i64 0,.int .i64 0,.int .u64 0,.bool false,.ar,.ar])/\fieldAt C1 110 1=some 1:=by and_intros<;>kernel_rfl
@[simp] theorem jll:aN C1 115=some true:=by kernel_rfl
@[simp] theorem jlC:fieldAt C1 108 0=some 0/\fieldAt C1 110 2=some 26:=by and_intros<;>kernel_rfl
theorem fn38:C1.fns.get 38=some Tryz.f38:=by kernel_rfl
theorem ok38:okF C1 Tryz.f38=true:=by kernel_rfl
@[simp] theorem jlB:fieldAt C1 108 1=some 1:=by kernel_rfl
@[simp] theorem jbY:aN C1 105=some true:=by kernel_rfl
@[simp] theorem jbg:aG C1 105=some 8:=by kernel_rfl
@[simp] theorem jmw:SN C1 104=true/\fieldAt C1 166 0=some 0:=by and_intros<;>kernel_rfl
theorem fn39:C1.fns.get 39=some Tryz.f39:=by kernel_rfl
theorem ok39:okF C1 Tryz.f39=true:=by kernel_rfl
@[simp] theorem jlA:fieldAt C1 108 2=some 9/\aN C1 106=some true/\aG C1 106=some 16:=by and_intros<;>kernel_rfl
@[simp] theorem un36:bN C1 36=some (.slice 98):=by kernel_rfl
theorem fn40:C1.fns.get 40=some Tryz.f40:=by kernel_rfl
theorem ok40:okF C1 Tryz.f40=true:=by kernel_rfl
theorem jeG:C1.fns.get 41=some Tryz.f41:=by kernel_rfl
theorem jdg:okF C1 Tryz.f41=true:=by kernel_rfl
theorem fn42:C1.fns.get 42=some Tryz.f42:=by kernel_rfl
theorem ok42:okF C1 Tryz.f42=true:=by kernel_rfl
theorem fn43:C1.fns.get 43=some Tryz.f43:=by kernel_rfl
theorem ok43:okF C1 Tryz.f43=true:=by kernel_rfl
@[simp] theorem st30:qh C1 30=some (174,2,16):=by kernel_rfl
@[simp] theorem jlj:aN C1 174=some true:=by kernel_rfl
@[simp] theorem R3:aG C1 174=some 2:=by kernel_rfl
@[simp] theorem XP:qh C1 48=some (52,2,16):=by kernel_rfl
@[simp] theorem jfC:bN C1 48=some (.slice 52):=by kernel_rfl
theorem fn44:C1.fns.get 44=some Tryz.f44:=by kernel_rfl
theorem ok44:okF C1 Tryz.f44=true:=by kernel_rfl
theorem fn45:C1.fns.get 45=some Tryz.f45:=by kernel_rfl
theorem ok45:okF C1 Tryz.f45=true:=by kernel_rfl
theorem fn46:C1.fns.get 46=some Tryz.f46:=by kernel_rfl
theorem ok46:okF C1 Tryz.f46=true:=by kernel_rfl
theorem fn47:C1.fns.get 47=some Tryz.f47:=by kernel_rfl
theorem ok47:okF C1 Tryz.f47=true:=by kernel_rfl
@[simp] theorem jaP:aN C1 52=some true:=by kernel_rfl
@[simp] theorem XL:aG C1 52=some 2:=by kernel_rfl
theorem fn48:C1.fns.get 48=some Tryz.f48:=by kernel_rfl
theorem ok48:okF C1 Tryz.f48=true:=by kernel_rfl
theorem VB:C1.fns.get 51=some Tryz.f51:=by kernel_rfl
theorem Tu:okF C1 Tryz.f51=true:=by kernel_rfl
@[simp] theorem jmJ:aN C1 121=some false/\aG C1 121=some 1/\fieldAt C1 115 1=some 1:=by and_intros<;>kernel_rfl
@[simp] theorem jfN:aG C1 104=some 1:=by kernel_rfl
@[simp] theorem jml:zeroOf C1 104=some (.ck)/\fieldAt C1 115 3=some 3/\fieldAt C1 115 0=some 0:=by and_intros<;>kernel_rfl
@[simp] theorem jlm:aN C1 104=some false:=by kernel_rfl
@[simp] theorem jly:fieldAt C1 115 5=some 5/\fieldAt C1 115 6=some 6/\fieldAt C1 115 4=some 4/\fieldAt C1 115 2=some 2:=by and_intros<;>kernel_rfl
theorem fn52:C1.fns.get 52=some Tryz.f52:=by kernel_rfl
theorem ok52:okF C1 Tryz.f52=true:=by kernel_rfl
@[simp] theorem ze32:zeroOf C1 32=some (.ar):=by kernel_rfl
@[simp] theorem jbh:qh C1 189=some (115,7,88):=by kernel_rfl
@[simp] theorem tD:qh C1 32=some (5,1,1):=by kernel_rfl
@[simp] theorem RS:bN C1 32=some (.slice 5):=by kernel_rfl
@[simp] theorem Cl:qh C1 193=some (122,1,8):=by kernel_rfl
@[simp] theorem jli:aN C1 24=some false:=by kernel_rfl
@[simp] theorem jfK:aG C1 24=some 1:=by kernel_rfl
@[simp] theorem jbX:aN C1 122=some false:=by kernel_rfl
theorem fn53:C1.fns.get 53=some Tryz.f53:=by kernel_rfl
theorem ok53:okF C1 Tryz.f53=true:=by kernel_rfl
@[simp] theorem pt23:SN C1 23=true:=by kernel_rfl
@[simp] theorem jlz:fieldAt C1 110 0=some 0:=by kernel_rfl
@[simp] theorem jfT:qh C1 29=some (103,7,88):=by kernel_rfl
theorem fn88:C1.fns.get 88=some Tryz.f88:=by kernel_rfl
theorem ok88:okF C1 Tryz.f88=true:=by kernel_rfl
@[simp] theorem jlx:fieldAt C1 166 1=some 3:=by kernel_rfl
@[simp] theorem Ud:KA C1 164=some ((.int .i64),.int .u64 0):=by kernel_rfl
theorem fn89:C1.fns.get 89=some Tryz.f89:=by kernel_rfl
theorem ok89:okF C1 Tryz.f89=true:=by kernel_rfl
theorem jeD:C1.fns.get 90=some Tryz.f90:=by kernel_rfl
theorem jdd:okF C1 Tryz.f90=true:=by kernel_rfl
theorem jeC:C1.fns.get 91=some Tryz.f91:=by kernel_rfl
theorem jdc:okF C1 Tryz.f91=true:=by kernel_rfl
theorem jeB:C1.fns.get 92=some Tryz.f92:=by kernel_rfl
theorem jdb:okF C1 Tryz.f92=true:=by kernel_rfl
theorem jjo:C1.fns.get 94=some Tryz.f94:=by kernel_rfl
theorem jgt:okF C1 Tryz.f94=true:=by kernel_rfl
theorem jjn:C1.fns.get 95=some Tryz.f95:=by kernel_rfl
theorem jgs:okF C1 Tryz.f95=true:=by kernel_rfl
@[simp] theorem NZ:aN C1 103=some true:=by kernel_rfl
@[simp] theorem Ci:aG C1 103=some 7:=by kernel_rfl
theorem jki:C1.fns.get 104=some Tryz.f104:=by kernel_rfl
theorem jhn:okF C1 Tryz.f104=true:=by kernel_rfl
theorem jkh:C1.fns.get 105=some Tryz.f105:=by kernel_rfl
theorem jhm:okF C1 Tryz.f105=true:=by kernel_rfl
theorem jkg:C1.fns.get 106=some Tryz.f106:=by kernel_rfl
theorem jhl:okF C1 Tryz.f106=true:=by kernel_rfl
theorem jkf:C1.fns.get 107=some Tryz.f107:=by kernel_rfl
theorem jhk:okF C1 Tryz.f107=true:=by kernel_rfl
theorem jke:C1.fns.get 108=some Tryz.f108:=by kernel_rfl
theorem jhj:okF C1 Tryz.f108=true:=by kernel_rfl
theorem VM:C1.fns.get 109=some Tryz.f109:=by kernel_rfl
theorem TF:okF C1 Tryz.f109=true:=by kernel_rfl
theorem VL:C1.fns.get 110=some Tryz.f110:=by kernel_rfl
theorem TE:okF C1 Tryz.f110=true:=by kernel_rfl
@[simp] theorem jfE:bN C1 189=some (.slice 115):=by kernel_rfl
@[simp] theorem jmv:qh C1 235=some (3,1,8):=by kernel_rfl
theorem VK:C1.fns.get 112=some Tryz.f112:=by kernel_rfl
theorem TD:okF C1 Tryz.f112=true:=by kernel_rfl
theorem jkc:C1.fns.get 113=some Tryz.f113:=by kernel_rfl
theorem jhh:okF C1 Tryz.f113=true:=by kernel_rfl
theorem jbS:C1.fns.get 114=some Tryz.f114:=by kernel_rfl
theorem jbt:okF C1 Tryz.f114=true:=by kernel_rfl
theorem jkb:C1.fns.get 115=some Tryz.f115:=by kernel_rfl
theorem jhg:okF C1 Tryz.f115=true:=by kernel_rfl
theorem jbR:C1.fns.get 117=some Tryz.f117:=by kernel_rfl
theorem jbs:okF C1 Tryz.f117=true:=by kernel_rfl
theorem jjU:C1.fns.get 147=some Tryz.f147:=by kernel_rfl
theorem jgZ:okF C1 Tryz.f147=true:=by kernel_rfl
@[simp] theorem Z1:fieldAt C1 103 0=some 0:=by kernel_rfl
@[simp] theorem ag9:aN C1 9=some false:=by kernel_rfl
@[simp] theorem sz9:aG C1 9=some 1:=by kernel_rfl
@[simp] theorem Z0:fieldAt C1 103 1=some 1:=by kernel_rfl
@[simp] theorem WX:aN C1 100=some true:=by kernel_rfl
@[simp] theorem F9:aG C1 100=some 4:=by kernel_rfl
@[simp] theorem jbj:qh C1 101=some (100,4,40):=by kernel_rfl
theorem VH:C1.fns.get 156=some Tryz.f156:=by kernel_rfl
theorem TA:okF C1 Tryz.f156=true:=by kernel_rfl
theorem HK:C1.fns.get 158=some Tryz.f158:=by kernel_rfl
theorem G3:okF C1 Tryz.f158=true:=by kernel_rfl
theorem VG:C1.fns.get 159=some Tryz.f159:=by kernel_rfl
theorem Tz:okF C1 Tryz.f159=true:=by kernel_rfl
theorem jjL:C1.fns.get 160=some Tryz.f160:=by kernel_rfl
theorem jgQ:okF C1 Tryz.f160=true:=by kernel_rfl
theorem jjH:C1.fns.get 187=some Tryz.f187:=by kernel_rfl
theorem jgM:okF C1 Tryz.f187=true:=by kernel_rfl
theorem jbO:C1.fns.get 195=some Tryz.f195:=by kernel_rfl
theorem jbp:okF C1 Tryz.f195=true:=by kernel_rfl
@[simp] theorem jlv:fieldAt C1 300 0=some 0:=by kernel_rfl
theorem jjD:C1.fns.get 196=some Tryz.f196:=by kernel_rfl
theorem jgI:okF C1 Tryz.f196=true:=by kernel_rfl
@[simp] theorem jmm:zeroOf C1 103=some (.agg [.str [],.int .i64 0,.int .i64 0,.int .i64 0,.str [],.bool false,.ar]):=by kernel_rfl
theorem jjC:C1.fns.get 197=some Tryz.f197:=by kernel_rfl
theorem jgH:okF C1 Tryz.f197=true:=by kernel_rfl
theorem jjB:C1.fns.get 198=some Tryz.f198:=by kernel_rfl
theorem jgG:okF C1 Tryz.f198=true:=by kernel_rfl
theorem jjz:C1.fns.get 234=some Tryz.f234:=by kernel_rfl
theorem jgE:okF C1 Tryz.f234=true:=by kernel_rfl
theorem jjv:C1.fns.get 240=some Tryz.f240:=by kernel_rfl
theorem jgA:okF C1 Tryz.f240=true:=by kernel_rfl
theorem jju:C1.fns.get 241=some Tryz.f241:=by kernel_rfl
theorem jgz:okF C1 Tryz.f241=true:=by kernel_rfl
theorem jjr:C1.fns.get 263=some Tryz.f263:=by kernel_rfl
theorem jgw:okF C1 Tryz.f263=true:=by kernel_rfl
theorem jbN:C1.fns.get 264=some Tryz.f264:=by kernel_rfl
theorem jbo:okF C1 Tryz.f264=true:=by kernel_rfl
theorem jjp:C1.fns.get 280=some Tryz.f280:=by kernel_rfl
theorem jgu:okF C1 Tryz.f280=true:=by kernel_rfl
@[simp] theorem jmg:ny C1 2 27=some .u64/\wW C1 38=some (8,16)/\wW C1 37=some (16,1)/\wW C1 105=some (8,1)/\wW C1 106=some (4,4):=by and_intros<;>kernel_rfl
open Go.Proofs.YtdknlbnljfdhgaaGreatDoor.mod (qe cZ dC dH dj c8 gq aB dE nG kF zj)
theorem Ds(n:Int):0<=IntKind.u64.wrap n/\IntKind.u64.wrap n<18446744073709551616:=by
 simp[IntKind.wrap,IntKind.bits,IntKind.signed];omega
theorem Ua(k:IntKind)(n:Int):Kw k n=.int k (k.wrap n):=by
 unfold Kw;rw[dM,FM]
def uN(n:Int):Nat:=(IntKind.u64.wrap n).toNat
theorem fS(n:Int):uN n<18446744073709551616:=by have:=Ds n;unfold uN;omega
theorem mw(n:Int):IntKind.u64.wrap n=(uN n:Int):=by have:=Ds n;unfold uN;omega
theorem pj{n:Nat}(h:n<18446744073709551616):uN n=n:=by
 unfold uN;rw[show IntKind.u64.wrap (n:Int)=(n:Int) by simp[IntKind.wrap,IntKind.bits,IntKind.signed];omega];rfl
def qt(n:Int):Nat:=match fP .xor .u64 (uN (Int.mul n 2)) (uN (if n<0 then -1 else 0))with | .int _ m=>m.toNat|_=>0
theorem Wr(a b:Nat)(ha:a<18446744073709551616)(hb:b<18446744073709551616):∃m:Nat,m<18446744073709551616/\fP .xor .u64 a b=.int .u64 m:=by
 show ∃m:Nat,m<18446744073709551616/\cond (Nat.blt a (half .u64)&&Nat.blt b (half .u64)) (gP (Nat.xor a b) fun n=>AV.int .u64 (Int.ofNat n)) (jW (tm .xor .u64 a b) fun n=>AV.int .u64 n)=AV.int .u64 m;cases (Nat.blt a (half .u64)&&Nat.blt b (half .u64))with
 |true=>exact⟨a ^^^ b,Nat.xor_lt_two_pow (n:=64) ha hb,by rw[cond_true,aQ];rfl⟩
 |false=>
  have h:=Ds (((BitVec.ofInt 64 a) ^^^ (BitVec.ofInt 64 b)).toNat:Int);refine⟨(IntKind.u64.wrap (((BitVec.ofInt 64 a) ^^^ (BitVec.ofInt 64 b)).toNat:Int)).toNat,by omega,?_⟩;rw[cond_false,dM,Int.toNat_of_nonneg h.1];rfl
theorem nR(n:Int):qt n<18446744073709551616/\fP .xor .u64 (uN (Int.mul n 2)) (uN (if n<0 then -1 else 0))=.int .u64 (qt n):=by
 obtain⟨m,h1,h2⟩:=Wr _ _ (fS (Int.mul n 2)) (fS (if n<0 then -1 else 0));have e:qt n=m:=by unfold qt;rw[h2];rfl
 rw[e];exact⟨h1,h2⟩
theorem Jl(n:Int):IntKind.u64.wrap (Int.mul (IntKind.u64.wrap n) 2)=IntKind.u64.wrap (Int.mul n 2):=by
 show IntKind.u64.wrap (IntKind.u64.wrap n*2)=IntKind.u64.wrap (n*2);simp only[IntKind.wrap,IntKind.bits,IntKind.signed];simp;omega
theorem jfX{n:Int}(h1:-9223372036854775808<=n)(h2:n<9223372036854775808):Int.fdiv n 9223372036854775808=if n<0 then -1 else 0:=by
 rw[Int.fdiv_eq_ediv_of_nonneg _ (by decide)];by_cases h:n<0
 .rw[if_pos h];omega
 .rw[if_neg h];omega
section
variable{S T:AS}{lo:Nat}
theorem jcb{n:Int}(h1:-9223372036854775808<=n)(h2:n<9223372036854775808):∀Q:AV->AS->Prop,ah C1 280 [.int .i64 n] S Q=Q (.int .u64 (qt n)) S:=fun Q=>by
 have e1:∀c t,aZ C1 .shl t c (.int .u64 (IntKind.u64.wrap n)) (.int .u64 1)=some (.int .u64 (uN (Int.mul n 2))):=fun c t=>by
  show some (Kw .u64 (Int.mul (IntKind.u64.wrap n) (.ofNat (Nat.pow 2 (Nat.min 1 IntKind.u64.bits)))))=_;have:Nat.pow 2 (Nat.min 1 IntKind.u64.bits)=2:=by decide
  rw[this,Ua];show some (AV.int .u64 (IntKind.u64.wrap (Int.mul (IntKind.u64.wrap n) 2)))=_;rw[Jl,mw]
 have e2:∀c t,aZ C1 .shr t c (.int .i64 n) (.int .u64 63)=some (.int .i64 (if n<0 then -1 else 0)):=fun c t=>by
  show some (jW (Int.fdiv n (.ofNat (Nat.pow 2 (Nat.min 63 IntKind.i64.bits)))) fun n=>AV.int .i64 n)=_;rw[dM];have:Nat.pow 2 (Nat.min 63 IntKind.i64.bits)=9223372036854775808:=by decide
  rw[this];show some (AV.int .i64 (Int.fdiv n 9223372036854775808))=_;rw[jfX h1 h2]
 have e3:∀c t,aZ C1 .xor t c (.int .u64 (uN (Int.mul n 2))) (.int .u64 (uN (if n<0 then -1 else 0)))=some (.int .u64 (qt n)):=fun c t=>by
  show cond (eE .u64 .u64) (some (fP .xor .u64 (uN (Int.mul n 2)) (uN (if n<0 then -1 else 0)))) none=_;rw[(nR n).2];rfl
 have e4:=mw (if n<0 then -1 else 0);obtain⟨z,hz⟩:∃z:Int,z=if n<0 then -1 else 0:=⟨_,rfl⟩
 rw[<-hz]at e2 e3 e4;obtain⟨a,ha⟩:∃a,a=uN (Int.mul n 2):=⟨_,rfl⟩
 rw[<-ha]at e1 e3;clear hz ha;refine ah.eq (aL (cK _) (cM _ rfl) jjp rfl jgu (by simp) fun F hn s0=>?_);simp[s0,e1,e2,e3,e4]
theorem jdD{b:AV}{bs:List Nat}{n:Int}(h:Sl S b 1 (aq bs))(hl:bs.length<=1000000)(h1:-9223372036854775808<=n)(h2:n<9223372036854775808):
  ah C1 263 [b,.int .i64 n] S fun r T=>Sub S T/\jI S.nx r/\Gw T r 1 5 (aq (bs++bu (qt n))):=by
 have e1:=jcb (S:=S) h1 h2;obtain⟨r,T,h1,e2⟩:=(G5 (n:=qt n) h hl (nR n).1).ex;refine bt (cK _) (cM _ rfl) jjr rfl jgw (by simp) fun F hn s0 s1=>?_;simp[s0,s1,e1,e2,aP,h1.2.2.1.np];exact h1
def iK(s:List Nat):List Nat:=bu s.length++s
theorem Is{b s:AV}{cs ds:List Nat}(h:Sl S b 1 (aq cs))(hs:Sl S s 1 (aq ds))(hl:cs.length<=900000)(hd:ds.length<=90000):
  ah C1 160 [b,s] S fun r T=>Sub S T/\jI S.nx r/\Gw T r 1 5 (aq (cs++iK ds)):=by
 have BJ:=hs.eR;rw[aA]at BJ;have hnb:(bu ds.length).length<=10:=lf 9 _ (by omega);obtain⟨r,T,⟨hT,g1,g2⟩,e1⟩:=(G5 (n:=ds.length) h (by omega) (by omega)).ex;obtain⟨v',V,e2,r1,r2,r3,r4,r5⟩:=sH g2 (hs.toSub hT) (by rw[aA,aA,zza];omega) g1 hT.nx;rw[ig]at r1;have hw:=gD (n:=ds.length) (by omega);refine bt (cK _) (cM _ rfl) jjL rfl jgQ (by simp) fun F hn s0 s1=>?_;have u1:=hs.sl;simp[s0,s1,u1,BJ,hw,e1,e2,aP,r1.1.np,aj g2.1];refine⟨⟨fun id cD=>(r2 id cD).trans (hT.h id cD),zzl hT.nx r3⟩,r4,?_⟩;unfold iK;rw[<-zzc];exact r1
structure ng(lo:Nat)(S:AS)(w:Nat)(bs:List Nat):Prop where
 ex:∃v,S.h.get w=some (.row [v] 0 0 false 300)/\Gw S v 1 5 (aq bs)/\aE v≠w+1/\jI lo v
 lt:w<S.nx
 le:lo<=S.nx
theorem Jm{w:Nat}{bs:List Nat}{v':AV}{Jj:List Nat}(h:ng lo S w bs)(hT:Sub S T)(hb:jI S.nx v')(hg:Gw T v' 1 5 (aq Jj)):
  ng lo ⟨T.h.set w (.row [v'] 0 0 false 300),T.nx⟩ w Jj/\de (fun id=>id=w) S ⟨T.h.set w (.row [v'] 0 0 false 300),T.nx⟩:=by
 have h2:=h.lt;have h3:=hT.nx;unfold jI at hb;refine⟨⟨⟨v',aa _ _ _,hg.agree (fun id e=>ae _ _ (by omega)) (zzk _),by omega,by have:=h.le;unfold jI;omega⟩,by show w<T.nx;omega,by have:=h.le;show lo<=T.nx;omega⟩,⟨fun id cD ha=>?_,h3⟩⟩;show (T.h.set w _).get id=_;rw[ae _ _ ha];exact hT.h id cD
theorem ng.sub{w:Nat}{bs:List Nat}(h:ng lo S w bs)(hs:Sub S T):ng lo T w bs:=by
 obtain⟨⟨v,h1,h2,h4,h5⟩,h7,h8⟩:=h;exact⟨⟨v,by rw[hs.h _ h7];exact h1,h2.agree (fun id e=>hs.h id (by have:=h2.1.old;omega)) hs.nx,h4,h5⟩,zze h7 hs.nx,zzl h8 hs.nx⟩
theorem vY{w n:Nat}{bs:List Nat}(h:ng lo S w bs)(hm:bs.length<=800000)(hn:n<18446744073709551616):ah C1 197 [.ptr w 0 0 1,.int .u64 n] S fun r T=>ng lo T w (bs++bu n)/\de (fun id=>id=w) S T:=by
 obtain⟨⟨v,h1,h2,h4,_⟩,h7,_⟩:=id h;obtain⟨r,T,⟨hT,g1,g2⟩,e1⟩:=(G5 (n:=n) h2.1 (by omega) hn).ex;have fin:=Jm h hT g1 g2;have hw:T.h.get w=some (.row [v] 0 0 false 300):=by rw[hT.h w h7];exact h1
 refine bt (cK _) (cM _ rfl) jjC rfl jgH (by simp) fun F hn s0 s1=>?_;simp[s0,s1,h1,e1,aP,hw,aj h2.1,g2.1.np,g2.1.cells];exact fin
end
def Lu(cx:Am.Cx)(s d:TypeId):Option Nat:=match bN cx s,bN cx d with
 |some _,some (.slice e)=>match bN cx e with|some (.int .u8)=>some e|_=>none
 |_,_=>none
def strOf:AV->Option (List Nat) | .str l=>some l|_=>none
@[simp] theorem Ov(l:List Nat):strOf (.str l)=some l:=rfl
@[simp] theorem Q4{cx:Am.Cx}{F:Fr}{S:AS}{dst:Option Tmp}{ty:TypeId}{pos:String}{af:Array Edge}{gd:Option (Nat×Bool)}{s d:TypeId}{x:Tmp}{v:AV}{l:List Nat}{e:Nat}
  (hx:sl F x=v) (h:Lu cx s d=some e) (hv:strOf v=some l):bF cx F S ⟨dst,.convert s d (.tmp x),ty,pos,af,gd⟩=.val (.slice S.nx 0 0 l.length l.length 1 none) ⟨S.h.set S.nx (.row (aq l) 0 0 true e),S.nx+1⟩:=by
 unfold strOf at hv;split at hv
 .cases hv;unfold Lu at h;split at h
  .rename_i d1 e' h1 h2;split at h
   .rename_i h3;cases h;unfold bF;simp only[aI,hx,h1,h2,h3];have hm:oD (fun n=>AV.int .u8 (.ofNat n)) l=aq l:=by
     unfold aq;rw[iw];rfl
    rw[hm]
   .cases h
  .cases h
 .cases hv
@[simp] theorem bt9:Lu C1 9 32=some 5:=by kernel_rfl
section
variable{S T:AS}{lo:Nat}
theorem Sa(l:List Nat):Sl ⟨S.h.set S.nx (.row (aq l) 0 0 true 5),S.nx+1⟩ (.slice S.nx 0 0 l.length l.length 1 none) 1 (aq l):=by
 refine⟨by simp[isSl,eV],?_,by simp[sLen,aA],by simp[aE]⟩;cases l with
 |nil=>simp[kR,aq]
 |cons x l=>
  simp[kR,dN,aa,bB,aq];rw[List.take_of_length_le (by simp)]
theorem L9{w:Nat}{bs s:List Nat}(h:ng lo S w bs)(hm:bs.length<=800000)(hs:s.length<=1000):ah C1 240 [.ptr w 0 0 1,.str s] S fun r T=>ng lo T w (bs++iK s)/\de (fun id=>id=w) S T:=by
 obtain⟨⟨v,h1,h2,h4,_⟩,h7,_⟩:=id h;have jl:Sub S ⟨S.h.set S.nx (.row (aq s) 0 0 true 5),S.nx+1⟩:=seg.cq;obtain⟨r,T,⟨hT,g1,g2⟩,e1⟩:=(Is (h2.1.toSub jl) (Sa s) (by omega) (by omega)).ex;have hT':=jl.trans hT;have fin:=Jm h hT' (by have h:S.nx+1<=T.nx:=hT.nx;rcases g1 with h|h;exact .inl h;exact .inr (Nat.lt_of_succ_lt h)) g2;have hw:T.h.get w=some (.row [v] 0 0 false 300):=by rw[hT'.h w h7];exact h1
 refine bt (cK _) (cM _ rfl) jjv rfl jgA (by simp) fun F hn s0 s1=>?_;simp[s0,s1,h1,e1,aP,hw,aj h2.1,g2.1.np,g2.1.cells];exact fin
def CZ(b:Bool):List Nat:=bu (if b then 1 else 0)
theorem ZY{w:Nat}{bs:List Nat}(b:Bool)(h:ng lo S w bs)(hm:bs.length<=800000):ah C1 264 [.ptr w 0 0 1,.bool b] S fun r T=>ng lo T w (bs++CZ b)/\de (fun id=>id=w) S T:=by
 cases b with
 |true=>
  obtain⟨r,T,h1,e1⟩:=(vY (n:=1) h hm (by omega)).ex;refine bt (cK _) (cM _ rfl) jbN rfl jbo (by simp) fun F hn s0 s1=>?_;simp only[Int.ofNat_one,Int.cast_ofNat_Int]at e1;simp[s0,s1,e1,aP];exact h1
 |false=>
  obtain⟨r,T,h1,e1⟩:=(vY (n:=0) h hm (by omega)).ex;refine bt (cK _) (cM _ rfl) jbN rfl jbo (by simp) fun F hn s0 s1=>?_;simp only[Int.ofNat_zero,Int.cast_ofNat_Int]at e1;simp[s0,s1,e1,aP];exact h1
def AW(a:qe):List Nat:=if a.kind=1 then bu (qt a.num) else if a.kind=2 then iK a.str else if a.kind=3 then CZ a.bool else []
def dS(a:qe):List Nat:=bu (uN a.kind)++AW a
def Bb(a:qe):Prop:=-9223372036854775808<=a.num/\a.num<9223372036854775808/\a.str.length<=32
theorem jhu:Tryz.f241.ntmps=35:=by kernel_rfl
theorem FQ{w:Nat}{bs:List Nat}(a:qe)(h:ng lo S w bs)(hm:bs.length<=700000)(ha:Bb a):ah C1 241 [.ptr w 0 0 1,.agg (cZ a)] S fun r T=>ng lo T w (bs++dS a)/\de (fun id=>id=w) S T:=by
 have bC:Sub S ⟨S.h.set S.nx (.row (cZ a) 0 0 false 100),S.nx+1⟩:=seg.cq;have h1:=h.sub bC;have hk:=fS a.kind;obtain⟨r,T,⟨g1,g2⟩,e1⟩:=(vY (n:=uN a.kind) h1 (by omega) hk).ex;rw[<-mw]at e1;have hnb:(bu (uN a.kind)).length<=10:=lf 9 _ (by omega);have cQ:=h.lt;have hK:de (fun id=>id=w) S T:=(bC.ca).trans g2;have HB:S.nx+1<=T.nx:=g2.nx;have g0:T.h.get S.nx=some (.row (cZ a) 0 0 false 100):=by rw[g2.h _ (zzj _) (by omega)];exact aa _ _ _
 obtain⟨⟨v,q1,q2,q3,_⟩,q5,_⟩:=id g1;have c1:¬w=S.nx:=by omega
 obtain⟨n1,n2,n3⟩:=ha;simp only[cZ]at g0 h1;unfold dS AW;rw[<-zzc];refine cG (cK _) (cM _ rfl) jju rfl jgz (by simp) fun F hn m8=>?_;rw[jhu]at hn;have s0:=m8 0;have s1:=m8 1;clear m8;simp only[zzb,zzd,zzf,cZ]at s0 s1;by_cases k1:a.kind=1
 .obtain⟨r,U,⟨hU,p1,p2⟩,e2⟩:=(jdD (n:=a.num) q2.1 (by rw[zza];omega) n1 n2).ex;have fin:=Jm g1 hU p1 p2;have hw:U.h.get w=some (.row [v] 0 0 false 300):=by rw[hU.h w q5];exact q1
  have Qe:U.h.get S.nx=some (.row [.int .i64 a.kind,.int .i64 a.num,.str a.str,.bool a.bool] 0 0 false 100):=by rw[hU.h _ (by omega)];exact g0
  simp only[cZ]at e1;rw[k1]at e1 s1 g0 fin;simp only[k1]at Qe;simp[s0,s1,e1,g0,k1,hn,aP];refine cu [.p,.p,.p,.p,.r 0 0,.p,.r 0 0,.e [],.p,.p,.e []] (n:=35) (by kernel_rfl) (by simp[hn]) ?_;simp[s0,s1,q1,g0,e2,hw,aP,aj q2.1,aj p2.1,p2.1.np,p2.1.cells];rw[zzc]at fin;exact⟨fin.1,hK.trans fin.2⟩
 .by_cases k2:a.kind=2
  .obtain⟨r,U,⟨p1,p2⟩,e2⟩:=(L9 (s:=a.str) g1 (by rw[zza];omega) (by omega)).ex;simp only[cZ]at e1;rw[k2]at e1 s1 g0 p1;simp[s0,s1,e1,e2,g0,k2,hn,aP];rw[zzc]at p1;exact⟨p1,hK.trans p2⟩
  .by_cases k3:a.kind=3
   .obtain⟨r,U,⟨p1,p2⟩,e2⟩:=(ZY a.bool g1 (by rw[zza];omega)).ex;simp only[cZ]at e1;rw[k3]at e1 s1 g0 p1;simp[s0,s1,e1,e2,g0,k3,hn,aP];rw[zzc]at p1;exact⟨p1,hK.trans p2⟩
   .simp only[cZ]at e1;simp[s0,s1,e1,g0,k1,k2,k3,hn,aP];exact⟨g1,hK⟩
end
def gY(c:dH):List Nat:=iK c.name++bu (uN c.op)++(if c.op=1 then [] else if c.op=9 then bu c.bA.length++c.bA.flatMap dS else dS c.val)
def fa(cs:List dH):List Nat:=bu cs.length++cs.flatMap gY
def jfw(c:dH):Prop:=Bb c.val/\∀v,v∈c.bA->Bb v
def uq(c:dH):Prop:=c.name.length<=16/\c.bA.length<=6/\jfw c
theorem cO(n:Nat)(h:n<18446744073709551616):(bu n).length<=10:=lf 9 _ (by omega)
theorem VT(b:Bool):(CZ b).length<=10:=cO _ (by cases b<;>decide)
theorem rj{s:List Nat}{k:Nat}(h:s.length<=k)(hk:k<=100000):(iK s).length<=10+k:=by
 have:=cO s.length (by omega);unfold iK;rw[zza];omega
theorem kj{a:qe}(h:Bb a):(dS a).length<=52:=by
 have h1:=cO _ (fS a.kind);have h2:=cO _ (nR a.num).1;have h3:=rj (s:=a.str) h.2.2 (by omega);have h4:=VT a.bool;unfold dS AW;rw[zza];split
 .omega
 .split
  .omega
  .split
   .omega
   .simp;omega
theorem dZ{α:Type}{f:α->List Nat}{k:Nat}:∀{l:List α},(∀a,a∈l->(f a).length<=k)->(l.flatMap f).length<=l.length*k
 |[],_=>by simp
 |a::l,h=>by
  have h1:=h a (List.mem_cons_self ..);have h2:=dZ (f:=f) (k:=k) (l:=l) fun b hb=>h b (List.mem_cons_of_mem _ hb);rw[List.flatMap_cons,zza,List.length_cons,Nat.succ_mul];omega
theorem wS{c:dH}(h:uq c):(gY c).length<=400:=by
 obtain⟨h1,h2,h3,h4⟩:=h;have k1:=rj (s:=c.name) h1 (by omega);have k2:=cO _ (fS c.op);have k3:=kj h3;have k4:=cO c.bA.length (by omega);have k5:=dZ (f:=dS) (k:=52) fun v hv=>kj (h4 v hv);have k6:c.bA.length*52<=6*52:=zzi _ h2;unfold gY;rw[zza,zza];split
 .simp;omega
 .split
  .rw[zza];omega
  .omega
theorem Cv{cs:List dH}(h6:cs.length<=6)(h:∀c,c∈cs->uq c):(fa cs).length<=2410:=by
 have k4:=cO cs.length (by omega);have k5:=dZ (f:=gY) (k:=400) fun v hv=>wS (h v hv);have k6:cs.length*400<=6*400:=zzi _ h6;unfold fa;rw[zza];omega
theorem ky{α:Type}{f:α->List Nat}{l:List α}{i:Nat}(h:i<l.length):(l.take (i+1)).flatMap f=(l.take i).flatMap f++f l[i]:=by
 rw[List.take_succ_eq_append_getElem h,List.flatMap_append];simp
section
variable{S T:AS}{lo:Nat}
theorem jhw:Tryz.f198.ntmps=42:=by kernel_rfl
def jkJ(lo:Nat)(S:AS)(w:Nat)(bs:List Nat)(u:AV)(l:List qe)(k:Nat)(F':Fr)(S':AS):Prop:=
 ∃i:Nat,ng lo S' w (bs++(l.take i).flatMap dS)/\de (fun id=>id=w) S S'/\sl F' 0=.ptr w 0 0 1/\sl F' 32=u/\sl F' 33=.int .i64 l.length/\sl F' 34=.int .i64 i/\i<=l.length/\F'.n=42/\k=l.length-i
theorem NF{w:Nat}{bs:List Nat}{u:AV}{l:List qe}{k:Nat}{F':Fr}(i:Nat)(h1:ng lo T w (bs++(l.take i).flatMap dS))(h2:de (fun id=>id=w) S T)(h3:sl F' 0=.ptr w 0 0 1)(h4:sl F' 32=u)(h5:sl F' 33=.int .i64 l.length)(h6:sl F' 34=.int .i64 i)(h7:i<=l.length)(h8:F'.n=42)(h9:k=l.length-i):jkJ lo S w bs u l k F' T:=
 ⟨i,h1,h2,h3,h4,h5,h6,h7,h8,h9⟩
theorem Sl.Hi{w sz:Nat}{u:AV}{cs:List AV}(h:Sl S u sz cs)(hk:de (fun id=>id=w) S T)(hw:aE u≠w+1):Sl T u sz cs:=
 h.agree (fun id e=>hk.h id (by have:=h.old;omega) (by omega)) hk.nx
theorem BV{w:Nat}{bs:List Nat}{c:dH}(h:ng lo S w bs)(hm:bs.length<=600000)(hc:gq S c)(hw:aE c.lW≠w+1)(hf:uq c):ah C1 198 [.ptr w 0 0 1,.agg (dj c)] S fun r T=>ng lo T w (bs++gY c)/\de (fun id=>id=w) S T:=by
 obtain⟨f1,f2,f3,f4⟩:=hf;have bC:Sub S ⟨S.h.set S.nx (.row (dj c) 0 0 false 103),S.nx+1⟩:=seg.cq;have cQ:=h.lt;have k1:=rj (s:=c.name) f1 (by omega);have k2:=cO _ (fS c.op);obtain⟨r,T,⟨g1,g2⟩,e1⟩:=(L9 (s:=c.name) (h.sub bC) (by omega) (by omega)).ex;obtain⟨r,T2,⟨g3,g4⟩,e2⟩:=(vY (n:=uN c.op) g1 (by rw[zza];omega) (fS _)).ex;rw[<-mw]at e2;have HB:S.nx+1<=T.nx:=g2.nx;have ZH:=g4.nx;have b0:T.h.get S.nx=some (.row (dj c) 0 0 false 103):=by rw[g2.h _ (zzj _) (by omega)];exact aa _ _ _
 have b1:T2.h.get S.nx=some (.row (dj c) 0 0 false 103):=by rw[g4.h _ (by omega) (by omega)];exact b0
 have hK:de (fun id=>id=w) S T2:=((bC.ca).trans g2).trans g4;have u1:=hc.sl.sl;have u2:=hc.sl.aO dC (by omega);have uk:=aj hc.sl;have uc:=hc.sl.cells;unfold gY;simp only[dj]at b0 b1 e1;refine cG (cK _) (cM _ rfl) jjB rfl jgG (by simp) fun F hn m8=>?_;rw[jhw]at hn;have s0:=m8 0;have s1:=m8 1;clear m8;simp only[zzb,zzd,zzf,dj]at s0 s1;by_cases o1:c.op=1
 .rw[o1]at b0 b1 e1 e2 s1 g3;simp[s0,s1,e1,e2,b0,b1,uc,aP,o1];rw[zzc]at g3;exact⟨g3,hK⟩
 by_cases o9:c.op=9
 .rw[o9]at b0 b1 e1 e2 s1 g3;have k3:=cO c.bA.length (by omega);obtain⟨r,T3,⟨g5,g6⟩,e3⟩:=(vY (n:=c.bA.length) g3 (by rw[zza,zza];rw[o9]at k2;omega) (by omega)).ex;have oI:=gD (n:=c.bA.length) (by omega);have b2:=(g6.h S.nx (by omega) (by omega)).trans b1;have hK3:=hK.trans g6;have hT3n:=g6.nx;obtain⟨bs2,Vh⟩:∃bs2,bs2=bs++iK c.name++bu (uN 9)++bu c.bA.length:=⟨_,rfl⟩
  rw[<-Vh]at g5;have hb2l:bs2.length<=600100:=by rw[Vh];simp only[zza];rw[o9]at k2;omega
  have Na:bs++(iK c.name++bu (uN 9)++(bu c.bA.length++c.bA.flatMap dS))=bs2++c.bA.flatMap dS:=by rw[Vh];simp only[zzc]
  simp[s0,s1,e1,e2,e3,b0,b1,b2,u1,u2,uc,uk,oI,aP,o9];simp only[<-zzc];rw[show bs++iK c.name++bu (uN 9)++bu c.bA.length=bs2 from Vh.symm];refine aT (jkJ lo S w bs2 c.lW c.bA) c.bA.length (NF 0 (by simpa using g5) hK3 (by simp[s0]) (by simp) (by simp) (by simp) (zzr _) (by simp[hn]) rfl) ?_;clear g3 g4 g5 g6 hK b0 b1 b2 e1 e2 e3 g1 g2 ZH HB s0 s1 hn Vh Na hK3 hT3n;rintro k F' S'-⟨i,q1,q2,t0,t32,t33,t34,hi,hn,En⟩;by_cases dh:i<c.bA.length
  .have hx:c.bA[i]?=some c.bA[i]:=zzg dh;have huS:=Sl.Hi hc.sl q2 hw;have rr:=dB (cx:=C1) (e:=100) huS dC (by omega) hx WX F9;have Zr:=q1.lt;have hZ:Sub S' ⟨(S'.h.set S'.nx (.row [.int .i64 0,.int .i64 0,.str [],.bool false] 0 0 false 100)).set S'.nx (.row (cZ c.bA[i]) 0 0 false 100),S'.nx+1⟩:=seg.gF;have qz:=dZ (f:=dS) (k:=52) (l:=c.bA.take i) fun v hv=>kj (f4 v (zzn hv));have jiz:(c.bA.take i).length*52<=6*52:=zzi _ (by rw[zzq];omega);obtain⟨r,V,⟨p1,p2⟩,e3⟩:=(FQ c.bA[i] (q1.sub hZ) (by rw[zza];omega) (f4 _ (zzm dh))).ex;rw[zzc,<-ky dh]at p1;have hK2:de (fun id=>id=w) S V:=(q2.trans hZ.ca).trans p2;have lH:=cp (i:=i) (by omega);simp only[cZ]at rr e3;simp[t0,t32,t33,t34,u1,u2,dh,rr,e3,aP,lH];exact⟨c.bA.length-(i+1),by omega,NF (i+1) p1 hK2 (by simp[t0]) (by simp[t32]) (by simp[t33]) (by simp) dh (by simp[hn]) rfl⟩
  .have:i=c.bA.length:=by omega
   subst this;rw[zzp]at q1;simp[t0,t32,t33,t34];exact⟨q1,q2⟩
 .obtain⟨r,T3,⟨g5,g6⟩,e3⟩:=(FQ c.val g3 (by simp only[zza];omega) f3).ex;simp only[cZ]at e3;simp[s0,s1,e1,e2,e3,b0,b1,uc,aP,o1,o9];simp only[zzc]at g5;exact⟨g5,hK.trans g6⟩
end
open Go.Proofs.YtdknlbnljfdhgaaGreatDoor.mod (gG zeroV jP)
def tq(v:qe):Prop:=-9223372036854775808<=v.num/\v.num<9223372036854775808/\∀c,c∈v.str->c<256
def cy(c:dH):Prop:=tq c.val/\(∀v,v∈c.bA->tq v)/\∀x,x∈c.name->x<256
theorem zk{a b:qe}(h:gG a b=true):a.str=b.str:=by
 unfold gG at h;simp only[zzh,lK,decide_eq_true_eq]at h;exact h.2.2.1
theorem sc{v:qe}(h:kF v=true)(hn:tq v):Bb v:=by
 refine⟨hn.1,hn.2.1,?_⟩;unfold kF at h;split at h
 .rw[zk h];simp
 .split at h
  .simp only[zzh,decide_eq_true_eq]at h;exact h.2
  .split at h
   .rw[zk h];simp
   .cases h
theorem FH{v:qe}(h:gG v zeroV=true)(hn:tq v):Bb v:=⟨hn.1,hn.2.1,by rw[zk h];show ([]:List Nat).length<=32;simp⟩
theorem MJ{c:dH}(h:nG c=true)(hn:cy c):uq c:=by
 have no:c.bA.length=0->∀v,v∈c.bA->Bb v:=fun e v hv=>by rw[List.length_eq_zero_iff.1 e]at hv;cases hv
 unfold nG at h;split at h
 .cases h
 .split at h
  .cases h
  .rename_i h1 h2;refine⟨by omega,?_⟩;split at h
   .simp only[zzh,decide_eq_true_eq]at h;exact⟨by omega,FH h.1 hn.1,no h.2⟩
   .split at h
    .simp only[zzh,decide_eq_true_eq]at h;exact⟨by omega,sc h.1 hn.1,no h.2⟩
    .split at h
     .simp only[zzh,decide_eq_true_eq]at h;exact⟨by omega,sc h.1 hn.1,no h.2.2⟩
     .split at h
      .simp only[zzh,decide_eq_true_eq]at h;refine⟨h.2.2.1,FH h.1 hn.1,fun v hv=>?_⟩;have h3:=h.2.2.2;unfold zj at h3;have h4:(c.bA.any fun v=>!kF v)=false:=by simpa using h3
       rw[List.any_eq_false]at h4;have h5:=h4 v hv;exact sc (by simpa using h5) (hn.2.1 v hv)
      .cases h
theorem rh{cs:List dH}(h:dE cs=true):cs.length<=6:=by
 unfold dE at h;simp only[zzh,decide_eq_true_eq]at h;exact h.1
theorem zO{cs:List dH}(h:dE cs=true):∀c,c∈cs->nG c=true:=by
 unfold dE at h;simp only[zzh]at h;have h2:(cs.any fun c=>!nG c)=false:=by simpa using h.2
 rw[List.any_eq_false]at h2;intro c hc;simpa using h2 c hc
theorem mK{cs:List dH}(h:dE cs=true)(hn:∀c,c∈cs->cy c):cs.length<=6/\∀c,c∈cs->uq c:=
 ⟨rh h,fun c hc=>MJ (zO h c hc) (hn c hc)⟩
section
variable{S T:AS}{lo:Nat}
theorem aB.Hi{w:Nat}{p:AV}{cs:List dH}(h:aB S p cs)(hk:de (fun id=>id=w) S T)(hw:aE p≠w+1)(hc:∀c,c∈cs->aE c.lW≠w+1):aB T p cs:=
 ⟨Sl.Hi h.sl hk hw,fun c hm=>⟨Sl.Hi (h.BW c hm).sl hk (hc c hm),(h.BW c hm).le⟩,h.le⟩
theorem jhx:Tryz.f196.ntmps=20:=by kernel_rfl
def jgf(lo:Nat)(S:AS)(w:Nat)(bs:List Nat)(u:AV)(l:List dH)(k:Nat)(F':Fr)(S':AS):Prop:=
 ∃i:Nat,ng lo S' w (bs++(l.take i).flatMap gY)/\de (fun id=>id=w) S S'/\sl F' 0=.ptr w 0 0 1/\sl F' 10=u/\sl F' 11=.int .i64 l.length/\sl F' 12=.int .i64 i/\i<=l.length/\F'.n=20/\k=l.length-i
theorem Mq{w:Nat}{bs:List Nat}{u:AV}{l:List dH}{k:Nat}{F':Fr}(i:Nat)(h1:ng lo T w (bs++(l.take i).flatMap gY))(h2:de (fun id=>id=w) S T)(h3:sl F' 0=.ptr w 0 0 1)(h4:sl F' 10=u)(h5:sl F' 11=.int .i64 l.length)(h6:sl F' 12=.int .i64 i)(h7:i<=l.length)(h8:F'.n=20)(h9:k=l.length-i):jgf lo S w bs u l k F' T:=
 ⟨i,h1,h2,h3,h4,h5,h6,h7,h8,h9⟩
theorem jcJ{w b:Nat}{p:AV}{cs:List dH}(h:ng lo S w [])(hb:S.h.get b=some (.row [p] 0 0 false 29))(sT:b<S.nx)(hbw:b≠w)(hp:aB S p cs)(hpw:aE p≠w+1)(Nd:∀c,c∈cs->aE c.lW≠w+1)(h6:cs.length<=6)(hf:∀c,c∈cs->uq c):
  ah C1 196 [.ptr w 0 0 1,.ptr b 0 0 1] S fun r T=>ng lo T w (fa cs)/\de (fun id=>id=w) S T:=by
 obtain⟨r,T,⟨g1,g2⟩,e1⟩:=(vY (n:=cs.length) h (by simp) (by omega)).ex;have cQ:=h.lt;have HB:=g2.nx;have b1:T.h.get b=some (.row [p] 0 0 false 29):=(g2.h b sT hbw).trans hb;have u1:=hp.sl.sl;have u2:=hp.sl.aO c8 (by omega);have uk:=aj hp.sl;have oI:=gD (n:=cs.length) (by omega);have k4:=cO cs.length (by omega);unfold fa;refine bt (cK _) (cM _ rfl) jjD rfl jgI (by simp) fun F hn s0 s1=>?_;rw[jhx]at hn;simp[s0,s1,hb,b1,e1,u1,u2,uk,oI,aP];refine aT (jgf lo S w (bu cs.length) p cs) cs.length (Mq 0 (by simpa using g1) g2 (by simp[s0]) (by simp) (by simp) (by simp) (zzr _) (by simp[hn]) rfl) ?_;clear g1 g2 b1 e1 HB s0 s1 hn;rintro k F' S'-⟨i,q1,q2,t0,t10,t11,t12,hi,hn,En⟩;by_cases dh:i<cs.length
 .have hx:cs[i]?=some cs[i]:=zzg dh;have hm:=zzm dh;have hpS:=aB.Hi hp q2 hpw Nd;have rr:=dB (cx:=C1) (e:=103) hpS.sl c8 (by omega) hx NZ Ci;have Zr:=q1.lt;have hZ:Sub S' ⟨(S'.h.set S'.nx (.row [.str [],.int .i64 0,.int .i64 0,.int .i64 0,.str [],.bool false,.ar] 0 0 false 103)).set S'.nx (.row (dj cs[i]) 0 0 false 103),S'.nx+1⟩:=seg.gF;have qz:=dZ (f:=gY) (k:=400) (l:=cs.take i) fun v hv=>wS (hf v (zzn hv));have jiz:(cs.take i).length*400<=6*400:=zzi _ (by rw[zzq];omega);obtain⟨r,V,⟨p1,p2⟩,e3⟩:=(BV (c:=cs[i]) (q1.sub hZ) (by rw[zza];omega) ((hpS.BW _ hm).sub hZ) (Nd _ hm) (hf _ hm)).ex;rw[zzc,<-ky dh]at p1;have hK2:de (fun id=>id=w) S V:=(q2.trans hZ.ca).trans p2;have lH:=cp (i:=i) (by omega);have uc:=(hp.BW _ hm).sl.cells;simp only[dj]at rr e3;simp[t0,t10,t11,t12,u1,u2,dh,rr,e3,aP,lH,uc];exact⟨cs.length-(i+1),by omega,Mq (i+1) p1 hK2 (by simp[t0]) (by simp[t10]) (by simp[t11]) (by simp) dh (by simp[hn]) rfl⟩
 .have:i=cs.length:=by omega
  subst this;rw[zzp]at q1;simp[t0,t10,t11,t12];exact⟨q1,q2⟩
theorem jff(id g o n l z:Nat)(c:Option Nat):dr C1 300 [(0,.slice id g o n l z c)]=some (.agg [.slice id g o n l z c]):=by kernel_rfl
theorem yZ{o o':dR}:Sub S ⟨(S.h.set S.nx o).set (S.nx+1) o',S.nx+2⟩:=seg.cq.set _ _ (Nat.le_succ _) _ (Nat.le_succ _)
theorem Ka{p:AV}{cs:List dH}(hp:aB S p cs):aE p<=S.nx/\∀c,c∈cs->aE c.lW<=S.nx:=⟨hp.sl.old,fun c hc=>(hp.BW c hc).sl.old⟩
theorem ZU{b:Nat}{p:AV}{cs:List dH}(t:Bool)(hb:S.h.get b=some (.row [p] 0 0 false 29))(sT:b<S.nx)(hp:aB S p cs)(ht:t=true->cs.length<=6/\∀c,c∈cs->uq c):
  ah C1 195 [.bool t,.func (.func 196) [] [.ptr b 0 0 1]] S fun r T=>∃v,r=.tuple [v,.int .i64 (if t then 0 else 30)]/\Gw T v 1 5 (aq (if t then fa cs else []))/\jI S.nx v/\Sub S T:=by
 cases t with
 |false=>
  refine bt (cK _) (cM _ rfl) jbO rfl jbp (by simp) fun F hn s0 s1=>?_;simp[s0,s1];exact⟨by simpa[aq]using (Gw.nil (S:=S) (sz:=1) (e:=5)),.inl rfl,Sub.refl S⟩
 |true=>
  obtain⟨k1,k2⟩:=ht rfl;have h1:Sub S ⟨(S.h.set S.nx (.row [] 0 0 false 5)).set (S.nx+1) (.row [.slice S.nx 0 0 0 0 1 (some 0)] 0 0 false 300),S.nx+2⟩:=yZ;obtain⟨o1,o2⟩:=Ka hp;have hW:ng S.nx ⟨(S.h.set S.nx (.row [] 0 0 false 5)).set (S.nx+1) (.row [.slice S.nx 0 0 0 0 1 (some 0)] 0 0 false 300),S.nx+2⟩ (S.nx+1) []:=by
   refine⟨⟨_,aa _ _ _,Gw.fresh ?_ (by show S.nx<S.nx+2;omega),by simp[aE],.inr (by simp[aE])⟩,by show S.nx+1<S.nx+2;omega,Nat.le_add_right _ _⟩;show ((S.h.set _ _).set _ _).get _=_;rw[ae _ _ (by omega)];exact aa _ _ _
  obtain⟨r,T,⟨⟨⟨v,q1,q2,q3,hN⟩,q5,_⟩,q6⟩,e1⟩:=(jcJ hW (by rw[h1.h _ sT];exact hb) (by show b<S.nx+2;omega) (by omega) (hp.sub h1) (by omega) (fun c hc=>by have:=o2 c hc;omega) k1 k2).ex;have hT:Sub S T:=⟨fun id cD=>(q6.h id (by show id<S.nx+2;omega) (by omega)).trans (h1.h id cD),zzl h1.nx q6.nx⟩
  refine bt (cK _) (cM _ rfl) jbO rfl jbp (by simp) fun F hn s0 s1=>?_;simp[s0,s1,rA tE,jff,e1,aP,q1,aj q2.1,q2.1.np];exact⟨q2,hN,hT⟩
end
open Go.Proofs.YtdknlbnljfdhgaaGreatDoor.mod (eJ cd)
def iX(cs:List dH):List Nat:=if dE cs then fa cs else []
section
variable{S T:AS}{lo:Nat}
theorem zx{p:AV}{cs:List dH}(hp:aB S p cs)(hn:∀c,c∈cs->cy c):ah C1 156 [p] S fun r T=>∃v,r=.tuple [v,.int .i64 (if dE cs then 0 else 30)]/\Gw T v 1 5 (aq (iX cs))/\jI S.nx v/\Sub S T:=by
 have h1:Sub S ⟨S.h.set S.nx (.row [p] 0 0 false 29),S.nx+1⟩:=seg.cq;obtain⟨r,T,⟨rfl,hT⟩,e1⟩:=(Rh (jP (hp.sub h1))).ex;have g:T.h.get S.nx=some (.row [p] 0 0 false 29):=by rw[hT.h _ (zzj _)];exact aa _ _ _
 obtain⟨r,T2,⟨v,rfl,q1,q2,q3⟩,e2⟩:=(ZU (dE cs) g hT.nx (hp.sub (h1.trans hT)) (fun h=>mK h hn)).ex;refine aL (cK _) (cM _ rfl) VH rfl TA (by simp) fun F hn s0=>?_;simp[s0,e1,e2,aP,aj hp.sl,hp.sl.cells,aj q1.1,q1.1.np];refine⟨q1,?_,(h1.trans hT).trans q3⟩;have:=(h1.trans hT).nx;unfold jI at q2⊢;omega
structure Bi(lo:Nat)(S:AS)(w:Nat)(bs:List Nat):Prop where
 ex:∃v,S.h.get w=some (.row [v] 0 0 false 32)/\Gw S v 1 5 (aq bs)/\aE v≠w+1/\jI lo v
 lt:w<S.nx
 le:lo<=S.nx
theorem Wn{w:Nat}{bs:List Nat}{v':AV}{Jj:List Nat}(h:Bi lo S w bs)(hT:Sub S T)(hb:jI S.nx v')(hg:Gw T v' 1 5 (aq Jj)):
  Bi lo ⟨T.h.set w (.row [v'] 0 0 false 32),T.nx⟩ w Jj/\de (fun id=>id=w) S ⟨T.h.set w (.row [v'] 0 0 false 32),T.nx⟩:=by
 have h2:=h.lt;have h3:=hT.nx;unfold jI at hb;refine⟨⟨⟨v',aa _ _ _,hg.agree (fun id e=>ae _ _ (by omega)) (zzk _),by omega,by have:=h.le;unfold jI;omega⟩,by show w<T.nx;omega,by have:=h.le;show lo<=T.nx;omega⟩,⟨fun id cD ha=>?_,h3⟩⟩;show (T.h.set w _).get id=_;rw[ae _ _ ha];exact hT.h id cD
theorem Bi.sub{w:Nat}{bs:List Nat}(h:Bi lo S w bs)(hs:Sub S T):Bi lo T w bs:=by
 obtain⟨⟨v,h1,h2,h4,h5⟩,h7,h8⟩:=h;exact⟨⟨v,by rw[hs.h _ h7];exact h1,h2.agree (fun id e=>hs.h id (by have:=h2.1.old;omega)) hs.nx,h4,h5⟩,zze h7 hs.nx,zzl h8 hs.nx⟩
theorem jdi{w n:Nat}{bs:List Nat}(h:Bi lo S w bs)(hm:bs.length<=800000)(hn:n<18446744073709551616):ah C1 158 [.int .u64 n,.ptr w 0 0 1] S fun r T=>Bi lo T w (bs++bu n)/\de (fun id=>id=w) S T:=by
 obtain⟨⟨v,h1,h2,h4,_⟩,h7,_⟩:=id h;obtain⟨r,T,⟨hT,g1,g2⟩,e1⟩:=(G5 (n:=n) h2.1 (by omega) hn).ex;have fin:=Wn h hT g1 g2;have hw:T.h.get w=some (.row [v] 0 0 false 32):=by rw[hT.h w h7];exact h1
 refine bt (cK _) (cM _ rfl) HK rfl G3 (by simp) fun F hn s0 s1=>?_;simp[s0,s1,h1,e1,aP,hw,aj h2.1,g2.1.np,g2.1.cells];exact fin
structure Rec where
 sort:Int
 id:Int
 pub:Int
 n:Nat
 there:Bool
 p:AV
 cs:List dH
 sv:AV
 st:List (Int×Nat)
def Rec.c(r:Rec):List AV:=[.int .i64 r.sort,.int .i64 r.id,.int .i64 r.pub,.int .u64 r.n,.bool r.there,r.p,r.sv]
theorem pF(r:Rec):r.c.length=7:=rfl
structure da(S:AS)(r:Rec):Prop where
 pred:aB S r.p r.cs
 sl:Sl S r.sv 2 (r.st.flatMap eJ)
 num:∀c,c∈r.cs->cy c
 n:r.n<18446744073709551616
 Fu:∀t,t∈r.st->t.2<18446744073709551616
 len:r.st.length<=9223372036854775807
theorem da.sub{r:Rec}(h:da S r)(hs:Sub S T):da T r:=⟨h.pred.sub hs,h.sl.toSub hs,h.num,h.n,h.Fu,h.len⟩
def fB(t:Int×Nat):List Nat:=bu (uN t.1)++bu t.2
def xr(r:Rec):List Nat:=
 if r.sort=1 then bu r.n
 else if r.sort=2 then bu (uN r.id)++iK (iX r.cs)++bu r.st.length++r.st.flatMap fB
 else if r.sort=3 then bu (uN r.id)
 else if r.sort=4 then bu (uN r.id)++bu r.n++(if r.there then bu 1++iK (iX r.cs) else bu 0)
 else if r.sort=5 then bu (uN r.id)++bu (uN r.pub)++bu r.n
 else []
def cX(r:Rec):List Nat:=bu (uN r.sort)++xr r
theorem wK{cs:List dH}(hn:∀c,c∈cs->cy c):(iX cs).length<=2410:=by
 unfold iX;cases h:dE cs with
 |false=>simp
 |true=>
  obtain⟨h1,h2⟩:=mK h hn;simpa using Cv h1 h2
theorem ZV{w rb:Nat}{bs:List Nat}{r:Rec}(h:Bi lo S w bs)(hm:bs.length<=800000)(hr:S.h.get rb=some (.row r.c 0 0 false 115))(mO:rb<S.nx)(cJ:da S r):
  ah C1 159 [.ptr rb 0 0 7,.ptr w 0 0 1] S fun x T=>Bi lo T w (bs++iK (iX r.cs))/\de (fun id=>id=w) S T:=by
 obtain⟨⟨v,h1,h2,h4,_⟩,h7,_⟩:=id h;obtain⟨x,T,⟨f,rfl,q1,q2,q3⟩,e1⟩:=(zx cJ.pred cJ.num).ex;have hl:=wK cJ.num;obtain⟨x,U,⟨hU,g1,g2⟩,e2⟩:=(Is (h2.1.toSub q3) q1.1 (by omega) (by omega)).ex;have Nm:=q3.trans hU;have hN:jI S.nx x:=by have:=q3.nx;unfold jI at g1⊢;omega
 have fin:=Wn h Nm hN g2;have hw:U.h.get w=some (.row [v] 0 0 false 32):=by rw[Nm.h w h7];exact h1
 have hwT:T.h.get w=some (.row [v] 0 0 false 32):=by rw[q3.h w h7];exact h1
 have UK:=aj cJ.pred.sl;unfold Rec.c at hr;refine bt (cK _) (cM _ rfl) VG rfl Tz (by simp) fun F hn s0 s1=>?_;simp[s0,s1,hr,h1,e1,e2,aP,hw,hwT,UK,aj h2.1,aj q1.1,q1.1.np,g2.1.np,g2.1.cells];exact fin
end
structure Ce(S:AS)(r:Rec)(b:Nat)(bs:List Nat)(T:AS):Prop where
 bx:Bi S.nx T b bs
 row:T.h.get S.nx=some (.row r.c 0 0 false 115)
 sub:Sub S T
 lt:S.nx<b
 at_:da T r
section
variable{S T:AS}{lo:Nat}
theorem Ce.ca{U:AS}{r:Rec}{b:Nat}{bs Jj:List Nat}(h:Ce S r b bs T)(hk:de (fun id=>id=b) T U)(hb:Bi S.nx U b Jj)(h0:da S r):Ce S r b Jj U:=
 have hs:Sub S U:=⟨fun id hi=>(hk.h id (by have:=h.sub.nx;omega) (by have:=h.lt;omega)).trans (h.sub.h id hi),zzl h.sub.nx hk.nx⟩
 ⟨hb,(hk.h _ (by have:=h.lt;have:=h.bx.lt;omega) (by have:=h.lt;omega)).trans h.row,hs,h.lt,h0.sub hs⟩
theorem Ce.jht{r:Rec}{b n:Nat}{bs:List Nat}(h:Ce S r b bs T)(h0:da S r)(hm:bs.length<=700000)(hn:n<18446744073709551616):
  ∃x U,(∀Q:AV->AS->Prop,ah C1 158 [.int .u64 n,.ptr b 0 0 1] T Q=Q x U)/\Ce S r b (bs++bu n) U/\de (fun id=>id=b) T U:=by
 obtain⟨x,U,⟨h1,h2⟩,e⟩:=(jdi h.bx (by omega) hn).ex;exact⟨x,U,e,h.ca h2 h1 h0,h2⟩
theorem Ce.num{r:Rec}{b n:Nat}{bs:List Nat}(h:Ce S r b bs T)(h0:da S r)(hm:bs.length<=700000)(hn:n<18446744073709551616):
  ∃x U,(∀Q:AV->AS->Prop,ah C1 158 [.int .u64 n,.ptr b 0 0 1] T Q=Q x U)/\Ce S r b (bs++bu n) U:=by
 obtain⟨x,U,e,h1,_⟩:=h.jht h0 hm hn;exact⟨x,U,e,h1⟩
theorem Ce.form{r:Rec}{b:Nat}{bs:List Nat}(h:Ce S r b bs T)(h0:da S r)(hm:bs.length<=700000):
  ∃x U,(∀Q:AV->AS->Prop,ah C1 159 [.ptr S.nx 0 0 7,.ptr b 0 0 1] T Q=Q x U)/\Ce S r b (bs++iK (iX r.cs)) U:=by
 obtain⟨x,U,⟨h1,h2⟩,e⟩:=(ZV h.bx (by omega) h.row (by have:=h.lt;have:=h.bx.lt;omega) h.at_).ex;exact⟨x,U,e,h.ca h2 h1 h0⟩
theorem Ce.box{r:Rec}{b:Nat}{bs:List Nat}(h:Ce S r b bs T):∃v,T.h.get b=some (.row [v] 0 0 false 32)/\Sub S T/\jI S.nx v/\Gw T v 1 5 (aq bs):=by
 obtain⟨⟨v,h1,h2,h4,h5⟩,h7,h8⟩:=h.bx;exact⟨v,h1,h.sub,h5,h2⟩
theorem jhM:Tryz.f104.ntmps=98:=by kernel_rfl
def jgb(S:AS)(r:Rec)(b:Nat)(bs:List Nat)(k:Nat)(F':Fr)(S':AS):Prop:=
 ∃i:Nat,Ce S r b (bs++(r.st.take i).flatMap fB) S'/\sl F' 1=.ptr S.nx 0 0 7/\sl F' 3=.ptr b 0 0 1/\sl F' 4=.func (.func 158) [] [.ptr b 0 0 1]/\sl F' 38=r.sv/\sl F' 39=.int .i64 r.st.length/\sl F' 40=.int .i64 i/\i<=r.st.length/\F'.n=98/\k=r.st.length-i
theorem Mm{r:Rec}{b:Nat}{bs:List Nat}{k:Nat}{F':Fr}(i:Nat)(h1:Ce S r b (bs++(r.st.take i).flatMap fB) T)(h2:sl F' 1=.ptr S.nx 0 0 7)(h3:sl F' 3=.ptr b 0 0 1)(h4:sl F' 4=.func (.func 158) [] [.ptr b 0 0 1])(h5:sl F' 38=r.sv)(h6:sl F' 39=.int .i64 r.st.length)(h7:sl F' 40=.int .i64 i)(h8:i<=r.st.length)(h9:F'.n=98)(Ez:k=r.st.length-i):jgb S r b bs k F' T:=
 ⟨i,h1,h2,h3,h4,h5,h6,h7,h8,h9,Ez⟩
theorem tC{t:Int×Nat}(h:t.2<18446744073709551616):(fB t).length<=20:=by
 have h1:=cO _ (fS t.1);have h2:=cO _ h;unfold fB;rw[zza];omega
theorem AP{r:Rec}(cJ:da S r)(hs8:r.st.length<=8):ah C1 104 [.agg r.c] S fun v T=>Sub S T/\jI S.nx v/\Gw T v 1 5 (aq (cX r)):=by
 have h1:Sub S ⟨S.h.set S.nx (.row r.c 0 0 false 115),S.nx+1⟩:=seg.cq;have hk:=fS r.sort;obtain⟨v,T,⟨hT,w1,w2⟩,e1⟩:=(G5 (S:=⟨S.h.set S.nx (.row r.c 0 0 false 115),S.nx+1⟩) (b:=.ar) (cs:=[]) (n:=uN r.sort) (by simpa[aq]using Sl.nil) (by simp) hk).ex;rw[<-mw]at e1;rw[List.nil_append]at w2;have HB:S.nx+1<=T.nx:=hT.nx;have b0:T.h.get S.nx=some (.row r.c 0 0 false 115):=by rw[hT.h _ (zzj _)];exact aa _ _ _
 obtain⟨T2,iC⟩:∃T2:AS,T2=⟨(T.h.set T.nx (.row [.ar] 0 0 false 32)).set T.nx (.row [v] 0 0 false 32),T.nx+1⟩:=⟨_,rfl⟩
 have m7:Sub T T2:=by rw[iC];exact seg.gF
 have m0:Ce S r T.nx (bu (uN r.sort)) T2:=by
  have hST:Sub S T2:=(h1.trans hT).trans m7;have hold:=w2.1.old;refine⟨⟨⟨v,by rw[iC];exact aa _ _ _,w2.agree (fun id e=>m7.h id (by omega)) m7.nx,by omega,by unfold jI at w1⊢;simp only at w1;omega⟩,by rw[iC];exact zzj _,hST.nx⟩,(m7.h _ (by omega)).trans b0,hST,by omega,cJ.sub hST⟩
 have QP:=iC.symm;have nb:=cO _ hk;have b2:=m0.row;obtain⟨b,hb⟩:∃b,b=T.nx:=⟨_,rfl⟩
 rw[<-hb]at m0 QP;clear iC;have k1:=aj cJ.pred.sl;have k2:=aj cJ.sl;have k3:=cJ.pred.sl.cells;have k4:=cJ.sl.cells;have kv:=aj w2.1;have kc:=w2.1.cells;have kp:=w2.1.np;unfold cX xr;unfold Rec.c at b0 b2 e1;refine cG (cK _) (cM _ rfl) jki rfl jhn (by simp) fun F hn m8=>?_;rw[jhM]at hn;have s0:=m8 0;clear m8;simp only[zzb,zzf,Rec.c]at s0;by_cases o1:r.sort=1
 .obtain⟨x,U,e2,m1⟩:=m0.num cJ (by omega) cJ.n;obtain⟨u,g0,g1,g2,g3⟩:=m1.box;rw[o1]at b0 b2 e1 s0 g3;simp[s0,e1,aP,b0,<-hb,QP,b2,o1,kv,kc,kp,e2,g0,g3.1.np,aj g3.1];exact⟨g1,g2,g3⟩
 by_cases o3:r.sort=3
 .obtain⟨x,U,e2,m1⟩:=m0.num (n:=uN r.id) cJ (by omega) (fS _);rw[<-mw]at e2;obtain⟨u,g0,g1,g2,g3⟩:=m1.box;rw[o3]at b0 b2 e1 s0 g3;simp[s0,e1,aP,b0,<-hb,QP,b2,o3,kv,kc,kp,e2,g0,g3.1.np,aj g3.1];exact⟨g1,g2,g3⟩
 by_cases o5:r.sort=5
 .have ni:=cO _ (fS r.id);have np:=cO _ (fS r.pub);obtain⟨x,U,e2,m1⟩:=m0.num (n:=uN r.id) cJ (by omega) (fS _);obtain⟨x2,U2,e3,m2⟩:=m1.num (n:=uN r.pub) cJ (by rw[zza];omega) (fS _);obtain⟨x3,U3,e4,m3⟩:=m2.num (n:=r.n) cJ (by rw[zza,zza];omega) cJ.n;rw[<-mw]at e2 e3;obtain⟨u,g0,g1,g2,g3⟩:=m3.box;have c1:=m1.row;have c2:=m2.row;unfold Rec.c at c1 c2;rw[o5]at b0 b2 e1 s0 g3 c1 c2;simp[s0,e1,aP,b0,<-hb,QP,b2,o5,kv,kc,kp,e2,e3,e4,c1,c2,g0,g3.1.np,aj g3.1];simp only[zzc]at g3;exact⟨g1,g2,g3⟩
 by_cases o4:r.sort=4
 .have ni:=cO _ (fS r.id);have nn:=cO _ cJ.n;obtain⟨x,U,e2,m1⟩:=m0.num (n:=uN r.id) cJ (by omega) (fS _);obtain⟨x2,U2,e3,m2⟩:=m1.num (n:=r.n) cJ (by rw[zza];omega) cJ.n;rw[<-mw]at e2;have c1:=m1.row;have c2:=m2.row;unfold Rec.c at c1 c2;cases ht:r.there with
  |false=>
   obtain⟨x3,U3,e4,m3⟩:=m2.num (n:=0) cJ (by rw[zza,zza];omega) (by decide);simp only[Int.ofNat_zero,Int.cast_ofNat_Int]at e4;obtain⟨u,g0,g1,g2,g3⟩:=m3.box;rw[o4]at b0 b2 e1 s0 g3 c1 c2;rw[ht]at b0 b2 e1 s0 c1 c2;simp[s0,e1,aP,b0,<-hb,QP,b2,o4,kv,kc,kp,e2,e3,e4,c1,c2,g0,g3.1.np,aj g3.1];simp only[zzc]at g3;exact⟨g1,g2,g3⟩
  |true=>
   have n1:(bu 1).length<=10:=cO _ (by decide);obtain⟨x3,U3,e4,m3⟩:=m2.num (n:=1) cJ (by rw[zza,zza];omega) (by decide);simp only[Int.ofNat_one,Int.cast_ofNat_Int]at e4;obtain⟨x4,U4,e5,m4⟩:=m3.form cJ (by simp only[zza];omega);obtain⟨u,g0,g1,g2,g3⟩:=m4.box;rw[o4]at b0 b2 e1 s0 g3 c1 c2;rw[ht]at b0 b2 e1 s0 c1 c2;simp[s0,e1,aP,b0,<-hb,QP,b2,o4,kv,kc,kp,e2,e3,e4,e5,c1,c2,g0,g3.1.np,aj g3.1];simp only[zzc]at g3;exact⟨g1,g2,g3⟩
 by_cases o2:r.sort=2
 .have ni:=cO _ (fS r.id);have nl:(iK (iX r.cs)).length<=10+2410:=rj (wK cJ.num) (by omega);have ns:=cO r.st.length (by omega);obtain⟨x,U,e2,m1⟩:=m0.num (n:=uN r.id) cJ (by omega) (fS _);rw[<-mw]at e2;obtain⟨x2,U2,e3,m2⟩:=m1.form cJ (by rw[zza];omega);obtain⟨x3,U3,e4,m3⟩:=m2.num (n:=r.st.length) cJ (by simp only[zza];omega) (by omega);have c1:=m1.row;have c2:=m2.row;have c3:=m3.row;unfold Rec.c at c1 c2 c3;have u1:=cJ.sl.sl;have u2:=cJ.sl.aO cd (by omega);have oI:=gD (n:=r.st.length) (by omega);obtain⟨bs,nI⟩:∃bs,bs=bu (uN 2)++bu (uN r.id)++iK (iX r.cs)++bu r.st.length:=⟨_,rfl⟩
  rw[o2]at m3 b0 b2 e1 s0 c1 c2 c3 nb;rw[<-nI]at m3;have sT:bs.length<=3000:=by rw[nI];simp only[zza];omega
  have Na:bu (uN 2)++(bu (uN r.id)++iK (iX r.cs)++bu r.st.length++r.st.flatMap fB)=bs++r.st.flatMap fB:=by rw[nI];simp only[zzc]
  simp[-zzc,s0,e1,aP,b0,<-hb,QP,b2,o2,kv,kc,kp,e2,e3,e4,c1,c2,c3,u1,u2,k2,oI];rw[Na];refine aT (jgb S r b bs) r.st.length (Mm 0 (by simpa using m3) (by simp) (by simp) (by simp) (by simp) (by simp) (by simp) (zzr _) (by simp[hn]) rfl) ?_;clear m3 m2 m1 m0 b0 b2 e1 e2 e3 e4 c1 c2 c3 s0 hn nI Na QP hb m7 w1 w2 hT HB h1 kv kc kp;rintro k F' S'-⟨i,q1,t1,t3,t4,t38,t39,t40,hi,hn,En⟩;by_cases dh:i<r.st.length
  .have hx:r.st[i]?=some r.st[i]:=zzg dh;have fI:=cJ.Fu _ (zzm dh);have rr:=dB (cx:=C1) (e:=52) q1.at_.sl cd (by omega) hx jaP XL;have Zr:=q1.bx.lt;have hZ:Sub S' ⟨(S'.h.set S'.nx (.row [.int .i64 0,.int .u64 0] 0 0 false 52)).set S'.nx (.row (eJ r.st[i]) 0 0 false 52),S'.nx+1⟩:=seg.gF;have qz:=dZ (f:=fB) (k:=20) (l:=r.st.take i) fun t ht=>tC (cJ.Fu t (zzn ht));have jiz:(r.st.take i).length*20<=8*20:=zzi _ (by rw[zzq];omega);have q2:Ce S r b (bs++(r.st.take i).flatMap fB) ⟨(S'.h.set S'.nx (.row [.int .i64 0,.int .u64 0] 0 0 false 52)).set S'.nx (.row (eJ r.st[i]) 0 0 false 52),S'.nx+1⟩:=
    ⟨q1.bx.sub hZ,(hZ.h _ (by have:=q1.lt;omega)).trans q1.row,q1.sub.trans hZ,q1.lt,q1.at_.sub hZ⟩
   have nt1:=cO _ (fS r.st[i].1);obtain⟨x5,V,e5,m5,z5⟩:=q2.jht (n:=uN r.st[i].1) cJ (by rw[zza];omega) (fS _);rw[<-mw]at e5;obtain⟨x6,W,e6,m6⟩:=m5.num (n:=r.st[i].2) cJ (by simp only[zza];omega) fI;have d1:V.h.get S'.nx=some (.row (eJ r.st[i]) 0 0 false 52):=by rw[z5.h _ (zzj _) (by omega)];exact aa _ _ _
   rw[zzc,zzc]at m6;have he:(r.st.take i).flatMap fB++(bu (uN r.st[i].1)++bu r.st[i].2)=(r.st.take (i+1)).flatMap fB:=by rw[ky dh];rfl
   rw[he]at m6;have lH:=cp (i:=i) (by omega);simp only[eJ]at rr e5 d1;simp[t1,t3,t4,t38,t39,t40,u1,u2,dh,rr,e5,e6,d1,aP,lH];exact⟨r.st.length-(i+1),by omega,Mm (i+1) m6 (by simp[t1]) (by simp[t3]) (by simp[t4]) (by simp[t38]) (by simp[t39]) (by simp) dh (by simp[hn]) rfl⟩
  .have:i=r.st.length:=by omega
   subst this;rw[zzp]at q1;obtain⟨u,g0,g1,g2,g3⟩:=q1.box;simp[t1,t3,t4,t38,t39,t40,g0,g3.1.np,aj g3.1];exact⟨g1,g2,g3⟩
 .obtain⟨u,g0,g1,g2,g3⟩:=m0.box;simp[s0,e1,aP,b0,<-hb,QP,b2,o1,o2,o3,o4,o5,kv,kc,kp,g0,g3.1.np,aj g3.1];exact⟨g1,g2,g3⟩
end
open Go.Proofs.YtdknlbnljfdhgaaGreatDoor.mod (bare rC dg gl kE mh ej aW)
structure iQ where
 cs:List dH
 st:List (Int×Nat)
 cur:List (Int×Nat)
structure IY where
 k:Int
 fy:Nat
 there:Bool
 cs:List dH
structure PB where
 aC:Nat
 au:Nat->Option iQ
 bg:Nat->IY
structure dv where
 s:Nat
 p:AV
 ks:List dH
 sv:AV
 st:List (Int×Nat)
 m:Nat
 cur:List (Int×Nat)
def dv.c(x:dv)(id:Int):List AV:=[.int .i64 id,x.p,x.sv,.map x.m]
def dv.pure(x:dv):iQ:=⟨x.ks.map bare,x.st,x.cur⟩
def dv.ro(x:dv)(id:Nat):Prop:=id=x.s\/aW x.p x.ks id\/aE x.sv=id+1
structure iS where
 k:Int
 fy:Nat
 there:Bool
 p:AV
 ks:List dH
def iS.pure(a:iS):IY:=⟨a.k,a.fy,a.there,a.ks.map bare⟩
structure cT where
 b:Nat
 D:Dk
 aC:Nat
 au:Nat->Option dv
 bg:Nat->iS
 cL:Nat
def cT.pure(X:cT):PB:=⟨X.aC,fun i=>(X.au i).map dv.pure,fun i=>(X.bg i).pure⟩
def pX:Option dv->AV|none=>.ck|some x=>.ptr x.s 0 0 4
def cT.c(X:cT):List AV:=[.ptr X.D.dp 0 0 4,.int .u64 X.aC,pX (X.au 0),pX (X.au 1),pX (X.au 2),pX (X.au 3),pX (X.au 4),pX (X.au 5),pX (X.au 6),pX (X.au 7),
 .int .i64 (X.bg 0).k,.int .u64 (X.bg 0).fy,.bool (X.bg 0).there,(X.bg 0).p,.int .i64 (X.bg 1).k,.int .u64 (X.bg 1).fy,.bool (X.bg 1).there,(X.bg 1).p,
 .int .i64 (X.bg 2).k,.int .u64 (X.bg 2).fy,.bool (X.bg 2).there,(X.bg 2).p,.int .i64 (X.bg 3).k,.int .u64 (X.bg 3).fy,.bool (X.bg 3).there,(X.bg 3).p,.int .i64 X.cL]
def cT.wf(X:cT)(id:Nat):Prop:=id=X.b\/X.D.aU id\/∃i x,i<8/\X.au i=some x/\id=x.m
def cT.rf(X:cT)(id:Nat):Prop:=(∃i x,i<8/\X.au i=some x/\x.ro id)\/∃i,i<4/\aW (X.bg i).p (X.bg i).ks id
structure Be(S:AS)(p:AV)(ks:List dH):Prop where
 at_:aB S p ks
 may:dE ks=true
 num:∀c,c∈ks->cy c
structure IX(S:AS)(i:Nat)(x:dv):Prop where
 lt:x.s<S.nx
 row:S.h.get x.s=some (.row (x.c i) 0 0 false 166)
 pred:Be S x.p x.ks
 sl:Sl S x.sv 2 (x.st.flatMap eJ)
 Fu:∀t,t∈x.st->1<=t.2/\t.2<18446744073709551616
 sl8:x.st.length<=8
 mlt:x.m<S.nx
 map:Fo S x.m (fun n:Int=>AV.int .i64 n) (rC x.cur)
 jaj:∀t,t∈x.cur->t.2<18446744073709551616
structure bG(S:AS)(X:cT):Prop where
 row:S.h.get X.b=some (.row X.c 0 0 false 110)
 lt:X.b<S.nx
 iE:aV S X.D
 sub:∀i x,i<8->X.au i=some x->IX S i x
 ad:∀i,i<4->Be S (X.bg i).p (X.bg i).ks/\(X.bg i).fy<=1099511627776
 bD:¬X.D.aU X.b
 mD:∀i x,i<8->X.au i=some x->¬X.D.aU x.m/\x.m≠X.b
 mm:∀i j x y,i<8->j<8->i≠j->X.au i=some x->X.au j=some y->x.m≠y.m
 Ri:∀i x,i<8->X.au i=some x->∀id,x.ro id->¬X.wf id
 Sq:∀i,i<4->∀id,aW (X.bg i).p (X.bg i).ks id->¬X.wf id
 aC:X.aC<18446744073709551616
structure eZ(X X':cT)(S T:AS):Prop where
 ca:∀id,id<S.nx->¬X.wf id->T.h.get id=S.h.get id
 nx:S.nx<=T.nx
 aU:∀id,id<S.nx->X'.wf id->X.wf id
 b:X'.b=X.b
 Ya:∀id,id<S.nx->X'.rf id->X.rf id
section
variable{S T U:AS}{X X' X'':cT}
theorem eZ.refl:eZ X X S S:=⟨fun _ _ _=>rfl,zzk _,fun _ _ h=>h,rfl,fun _ _ h=>h⟩
theorem eZ.trans(h:eZ X X' S T)(k:eZ X' X'' T U):eZ X X'' S U:=
 ⟨fun id h1 h2=>by rw[k.ca id (zze h1 h.nx) (fun h3=>h2 (h.aU id h1 h3))];exact h.ca id h1 h2,zzl h.nx k.nx,fun id h1 h2=>h.aU id h1 (k.aU id (zze h1 h.nx) h2),k.b.trans h.b,fun id h1 h2=>h.Ya id h1 (k.Ya id (zze h1 h.nx) h2)⟩
theorem eZ.of(h:Sub S T):eZ X X S T:=⟨fun id h1 _=>h.h id h1,h.nx,fun _ _ h=>h,rfl,fun _ _ h=>h⟩
theorem aB.agree{p:AV}{ks:List dH}(h:aB S p ks)(hs:∀id,aW p ks id->T.h.get id=S.h.get id)(hn:S.nx<=T.nx):aB T p ks:=
 ⟨h.sl.agree (fun id e=>hs id (.inl e)) hn,fun c hc=>⟨(h.BW c hc).sl.agree (fun id e=>hs id (.inr ⟨c,hc,e⟩)) hn,(h.BW c hc).le⟩,h.le⟩
theorem aB.aU{p:AV}{ks:List dH}(h:aB S p ks){id:Nat}(hf:aW p ks id):id<S.nx:=by
 rcases hf with e|⟨c,hc,e⟩
 .have:=h.sl.old;omega
 .have:=(h.BW c hc).sl.old;omega
theorem Be.agree{p:AV}{ks:List dH}(h:Be S p ks)(hs:∀id,aW p ks id->T.h.get id=S.h.get id)(hn:S.nx<=T.nx):Be T p ks:=⟨aB.agree h.at_ hs hn,h.may,h.num⟩
theorem IX.aU{i:Nat}{x:dv}(h:IX S i x){id:Nat}(hf:x.ro id):id<S.nx:=by
 rcases hf with e|e|e
 .rw[e];exact h.lt
 .exact aB.aU h.pred.at_ e
 .have:=h.sl.old;omega
theorem IX.agree{i:Nat}{x:dv}(h:IX S i x)(hs:∀id,x.ro id->T.h.get id=S.h.get id)(hm:T.h.get x.m=S.h.get x.m)(hn:S.nx<=T.nx):IX T i x where
 lt:=zze h.lt hn
 row:=(hs _ (.inl rfl)).trans h.row
 pred:=h.pred.agree (fun id e=>hs id (.inr (.inl e))) hn
 sl:=h.sl.agree (fun id e=>hs id (.inr (.inr e))) hn
 Fu:=h.Fu
 sl8:=h.sl8
 mlt:=zze h.mlt hn
 map:=h.map.agree hm
 jaj:=h.jaj
theorem bG.tj(h:bG S X){id:Nat}(hf:X.wf id):id<S.nx:=by
 rcases hf with rfl|hf|⟨i,x,hi,hx,rfl⟩
 .exact h.lt
 .exact h.iE.lt hf
 .exact (h.sub i x hi hx).mlt
theorem bG.agree(h:bG S X)(hs:∀id,id<S.nx->T.h.get id=S.h.get id)(hn:S.nx<=T.nx):bG T X where
 row:=(hs _ h.lt).trans h.row
 lt:=zze h.lt hn
 iE:=h.iE.agree (fun id e=>hs id (h.iE.lt e)) hn
 sub i x hi hx:=(h.sub i x hi hx).agree (fun id e=>hs id ((h.sub i x hi hx).aU e)) (hs _ (h.sub i x hi hx).mlt) hn
 ad i hi:=⟨(h.ad i hi).1.agree (fun id e=>hs id (aB.aU (h.ad i hi).1.at_ e)) hn,(h.ad i hi).2⟩
 bD:=h.bD
 mD:=h.mD
 mm:=h.mm
 Ri:=h.Ri
 Sq:=h.Sq
 aC:=h.aC
theorem bG.Fi(h:bG S X)(hs:∀id,id<S.nx->X.wf id\/X.rf id->T.h.get id=S.h.get id)(hn:S.nx<=T.nx):bG T X where
 row:=(hs _ h.lt (.inl (.inl rfl))).trans h.row
 lt:=zze h.lt hn
 iE:=h.iE.agree (fun id e=>hs id (h.iE.lt e) (.inl (.inr (.inl e)))) hn
 sub i x hi hx:=(h.sub i x hi hx).agree (fun id e=>hs id ((h.sub i x hi hx).aU e) (.inr (.inl ⟨i,x,hi,hx,e⟩))) (hs _ (h.sub i x hi hx).mlt (.inl (.inr (.inr ⟨i,x,hi,hx,rfl⟩)))) hn
 ad i hi:=⟨(h.ad i hi).1.agree (fun id e=>hs id (aB.aU (h.ad i hi).1.at_ e) (.inr (.inr ⟨i,hi,e⟩))) hn,(h.ad i hi).2⟩
 bD:=h.bD
 mD:=h.mD
 mm:=h.mm
 Ri:=h.Ri
 Sq:=h.Sq
 aC:=h.aC
theorem bG.rlt(h:bG S X){id:Nat}(hf:X.rf id):id<S.nx:=by
 rcases hf with⟨i,x,hi,hx,e⟩|⟨i,hi,e⟩
 .exact (h.sub i x hi hx).aU e
 .exact aB.aU (h.ad i hi).1.at_ e
theorem bG.toSub(h:bG S X)(hs:Sub S T):bG T X:=h.agree hs.h hs.nx
theorem bG.onD(h:bG S X){D':Dk}(hd:aV T D')(hp:D'.dp=X.D.dp)(he:nF X.D D' S T):bG T {X with D:=D'}/\eZ X {X with D:=D'} S T:=by
 have hf:∀id,id<S.nx->({X with D:=D'}:cT).wf id->X.wf id:=fun id hi hf=>by
  rcases hf with e|e|e
  .exact .inl e
  .exact .inr (.inl (he.aU id hi e))
  .exact .inr (.inr e)
 have hk:∀id,id<S.nx->¬X.wf id->T.h.get id=S.h.get id:=fun id hi hn=>he.ca id hi (fun e=>hn (.inr (.inl e)));have hm:∀i x,i<8->X.au i=some x->T.h.get x.m=S.h.get x.m:=fun i x hi hx=>he.ca _ (h.sub i x hi hx).mlt (h.mD i x hi hx).1;refine⟨⟨?_,zze h.lt he.nx,hd,fun i x hi hx=>(h.sub i x hi hx).agree (fun id e=>hk id ((h.sub i x hi hx).aU e) (h.Ri i x hi hx id e)) (hm i x hi hx) he.nx,
  fun i hi=>⟨(h.ad i hi).1.agree (fun id e=>hk id (aB.aU (h.ad i hi).1.at_ e) (h.Sq i hi id e)) he.nx,(h.ad i hi).2⟩,fun e=>h.bD (he.aU _ h.lt e),fun i x hi hx=>⟨fun e=>(h.mD i x hi hx).1 (he.aU _ (h.sub i x hi hx).mlt e),(h.mD i x hi hx).2⟩,h.mm,
  fun i x hi hx id e hw=>h.Ri i x hi hx id e (hf id ((h.sub i x hi hx).aU e) hw),fun i hi id e hw=>h.Sq i hi id e (hf id (aB.aU (h.ad i hi).1.at_ e) hw),h.aC⟩,⟨hk,he.nx,hf,rfl,fun _ _ h=>h⟩⟩
 show T.h.get X.b=_;rw[he.ca _ h.lt h.bD];have:=h.row;unfold cT.c at this⊢;rw[<-hp]at this;exact this
theorem bG.own(h:bG S X){X':cT}(e1:X'.b=X.b)(e2:X'.D=X.D)(hs:∀id,id<S.nx->id≠X.b->T.h.get id=S.h.get id)(hxn:S.nx<=T.nx)
  (hr:T.h.get X.b=some (.row X'.c 0 0 false 110)) (M7:X'.aC<18446744073709551616)
  (aR:∀i x,i<8->X'.au i=some x->X.au i=some x\/(IX T i x/\S.nx<=x.m/\(∀id,x.ro id->S.nx<=id/\id≠x.m)/\∀j y,j<8->j≠i->X'.au j=some y->X.au j=some y))
  (had:∀i,i<4->X'.bg i=X.bg i\/(Be T (X'.bg i).p (X'.bg i).ks/\(X'.bg i).fy<=1099511627776/\(∀id,aW (X'.bg i).p (X'.bg i).ks id->S.nx<=id/\∀j y,j<8->X'.au j=some y->id≠y.m))) :
  bG T X'/\eZ X X' S T:=by
 have hf:∀id,id<S.nx->X'.wf id->X.wf id:=fun id hi hf=>by
  rcases hf with e|e|⟨i,x,Zv,hx,e⟩
  .exact .inl (e.trans e1)
  .rw[e2]at e;exact .inr (.inl e)
  .rcases aR i x Zv hx with h1|⟨_,h2,_⟩
   .exact .inr (.inr ⟨i,x,Zv,h1,e⟩)
   .omega
 have hk:∀id,id<S.nx->¬X.wf id->T.h.get id=S.h.get id:=fun id hi hn=>hs id hi (fun e=>hn (.inl e));have M0:∀id,id<S.nx->X'.rf id->X.rf id:=fun id hi hf=>by
  rcases hf with⟨i,x,Zv,hx,e⟩|⟨i,hi4,e⟩
  .rcases aR i x Zv hx with h1|⟨_,_,h3,_⟩
   .exact .inl ⟨i,x,Zv,h1,e⟩
   .have:=(h3 id e).1;omega
  .rcases had i hi4 with h1|⟨_,_,h3⟩
   .rw[h1]at e;exact .inr ⟨i,hi4,e⟩
   .have:=(h3 id e).1;omega
 have hdk:∀id,X.D.aU id->T.h.get id=S.h.get id:=fun id e=>hs id (h.iE.lt e) (fun e2=>h.bD (e2▸e));have old:∀i x,i<8->X.au i=some x->IX T i x:=fun i x hi hx=>(h.sub i x hi hx).agree (fun id e=>hk id ((h.sub i x hi hx).aU e) (h.Ri i x hi hx id e)) (hs _ (h.sub i x hi hx).mlt (h.mD i x hi hx).2) hxn;refine⟨⟨by rw[e1];exact hr,by rw[e1];exact zze h.lt hxn,by rw[e2];exact h.iE.agree hdk hxn,fun i x hi hx=>?_,fun i hi=>?_,by rw[e1,e2];exact h.bD,fun i x hi hx=>?_,fun i j x y hi hj sj hx hy=>?_,fun i x hi hx id e hw=>?_,fun i hi id e hw=>?_,M7⟩,⟨hk,hxn,hf,e1,M0⟩⟩
 .rcases aR i x hi hx with h1|⟨h1,_⟩
  .exact old i x hi h1
  .exact h1
 .rcases had i hi with h1|⟨h1,h2,_⟩
  .rw[h1];exact⟨(h.ad i hi).1.agree (fun id e=>hk id (aB.aU (h.ad i hi).1.at_ e) (h.Sq i hi id e)) hxn,(h.ad i hi).2⟩
  .exact⟨h1,h2⟩
 .rw[e1,e2];rcases aR i x hi hx with h1|⟨_,h2,_⟩
  .exact h.mD i x hi h1
  .exact⟨fun e=>by have:=h.iE.lt e;omega,by have:=h.lt;omega⟩
 .rcases aR i x hi hx with h1|⟨_,h2,_,h4⟩
  .rcases aR j y hj hy with k1|⟨_,k2,_,k4⟩
   .exact h.mm i j x y hi hj sj h1 k1
   .have:=(h.sub i x hi h1).mlt;omega
  .have k1:=h4 j y hj (Ne.symm sj) hy;have:=(h.sub j y hj k1).mlt;omega
 .rcases aR i x hi hx with h1|⟨_,h2,h3,h4⟩
  .exact h.Ri i x hi h1 id e (hf id ((h.sub i x hi h1).aU e) hw)
  .obtain⟨h5,h6⟩:=h3 id e;rcases hw with w|w|⟨j,y,hj,hy,w⟩
   .rw[e1]at w;have:=h.lt;omega
   .rw[e2]at w;have:=h.iE.lt w;omega
   .by_cases wB:j=i
    .subst wB;rw[hx]at hy;cases hy;exact h6 w
    .have:=(h.sub j y hj (h4 j y hj wB hy)).mlt;omega
 .rcases had i hi with h1|⟨_,_,h3⟩
  .rw[h1]at e;exact h.Sq i hi id e (hf id (aB.aU (h.ad i hi).1.at_ e) hw)
  .obtain⟨h5,h6⟩:=h3 id e;rcases hw with w|w|⟨j,y,hj,hy,w⟩
   .rw[e1]at w;have:=h.lt;omega
   .rw[e2]at w;have:=h.iE.lt w;omega
   .exact h6 j y hj hy w
theorem bG.ackd(h:bG S X){i:Nat}{x:dv}(hi:i<8)(hx:X.au i=some x){cur:List (Int×Nat)}(hs:∀id,id≠x.m->T.h.get id=S.h.get id)(hn:S.nx<=T.nx)
  (hm:Fo T x.m (fun n:Int=>AV.int .i64 n) (rC cur)) (hc:∀t,t∈cur->t.2<18446744073709551616) :
  bG T {X with au:=fun j=>if j=i then some {x with cur:=cur} else X.au j}/\eZ X {X with au:=fun j=>if j=i then some {x with cur:=cur} else X.au j} S T:=by
 obtain⟨X',Xm⟩:∃X':cT,X'={X with au:=fun j=>if j=i then some {x with cur:=cur} else X.au j}:=⟨_,rfl⟩
 rw[<-Xm];have eb:X'.b=X.b:=by rw[Xm]
 have eD:X'.D=X.D:=by rw[Xm]
 have ea:X'.bg=X.bg:=by rw[Xm]
 have el:X'.aC=X.aC:=by rw[Xm]
 have es:∀j y,X'.au j=some y->∃z,X.au j=some z/\y.s=z.s/\y.p=z.p/\y.ks=z.ks/\y.sv=z.sv/\y.st=z.st/\y.m=z.m/\(j≠i->y=z)/\(j=i->y={x with cur:=cur}):=fun j y e=>by
  rw[Xm]at e;simp only at e;split at e
  .rename_i hj;subst hj;cases e;exact⟨x,hx,rfl,rfl,rfl,rfl,rfl,rfl,fun e=>absurd rfl e,fun _=>rfl⟩
  .rename_i hj;exact⟨y,e,rfl,rfl,rfl,rfl,rfl,rfl,fun _=>rfl,fun e2=>absurd e2 hj⟩
 have ep:∀j,pX (X'.au j)=pX (X.au j):=fun j=>by
  rw[Xm];show pX (if j=i then _ else _)=_;split
  .rename_i hj;subst hj;rw[hx];rfl
  .rfl
 have ec:X'.c=X.c:=by unfold cT.c;rw[eD,el,ea,ep,ep,ep,ep,ep,ep,ep,ep,Xm]
 have hf:∀id,X'.wf id->X.wf id:=fun id hf=>by
  rcases hf with e|e|⟨j,y,hj,hy,e⟩
  .exact .inl (e.trans eb)
  .rw[eD]at e;exact .inr (.inl e)
  .obtain⟨z,h1,h2,h3,h4,h5,h6,h7,_⟩:=es j y hy;exact .inr (.inr ⟨j,z,hj,h1,by rw[e,h7]⟩)
 have hwm:X.wf x.m:=.inr (.inr ⟨i,x,hi,hx,rfl⟩);have hk:∀id,¬X.wf id->T.h.get id=S.h.get id:=fun id hn=>hs id (fun e=>hn (e▸hwm));have ro_:∀(j:Nat)(y z:dv),y.s=z.s->y.p=z.p->y.ks=z.ks->y.sv=z.sv->∀id,y.ro id->z.ro id:=fun j y z e1 e2 e3 e4 id hr=>by
  unfold dv.ro at hr⊢;rw[e1,e2,e3,e4]at hr;exact hr
 have M0:∀id,id<S.nx->X'.rf id->X.rf id:=fun id _ hf=>by
  rcases hf with⟨j,y,hj,hy,e⟩|⟨j,hj,e⟩
  .obtain⟨z,h1,h2,h3,h4,h5,h6,h7,_⟩:=es j y hy;exact .inl ⟨j,z,hj,h1,ro_ j y z h2 h3 h4 h5 id e⟩
  .rw[ea]at e;exact .inr ⟨j,hj,e⟩
 refine⟨⟨by rw[eb,ec,hs _ (fun e=>(h.mD i x hi hx).2 e.symm)];exact h.row,by rw[eb];exact zze h.lt hn,by rw[eD];exact h.iE.agree (fun id e=>hs id (fun e2=>(h.mD i x hi hx).1 (e2▸e))) hn,fun j y hj hy=>?_,fun j hj=>?_,by rw[eb,eD];exact h.bD,fun j y hj hy=>?_,fun j k y z hj En hjk hy hz=>?_,fun j y hj hy id e hw=>?_,fun j hj id e hw=>?_,by rw[el];exact h.aC⟩,⟨fun id _ hn=>hk id hn,hn,fun id _ hw=>hf id hw,eb,M0⟩⟩
 .obtain⟨z,h1,h2,h3,h4,h5,h6,h7,h8,h9⟩:=es j y hy;by_cases wB:j=i
  .subst wB;rw[hx]at h1;cases h1;rw[h9 rfl];have q:=h.sub j x hj hx;have qr:∀id,x.ro id->T.h.get id=S.h.get id:=fun id e=>hk id (h.Ri j x hj hx id e);exact⟨zze q.lt hn,(qr _ (.inl rfl)).trans q.row,q.pred.agree (fun id e=>qr id (.inr (.inl e))) hn,q.sl.agree (fun id e=>qr id (.inr (.inr e))) hn,q.Fu,q.sl8,zze q.mlt hn,hm,hc⟩
  .rw[h8 wB];exact (h.sub j z hj h1).agree (fun id e=>hk id (h.Ri j z hj h1 id e)) (hs _ (fun e=>h.mm j i z x hj hi wB h1 hx e)) hn
 .rw[ea];exact⟨(h.ad j hj).1.agree (fun id e=>hk id (h.Sq j hj id e)) hn,(h.ad j hj).2⟩
 .obtain⟨z,h1,h2,h3,h4,h5,h6,h7,_⟩:=es j y hy;rw[eb,eD,h7];exact h.mD j z hj h1
 .obtain⟨y',h1,_,_,_,_,_,h7,_⟩:=es j y hy;obtain⟨z',k1,_,_,_,_,_,k7,_⟩:=es k z hz;rw[h7,k7];exact h.mm j k y' z' hj En hjk h1 k1
 .obtain⟨z,h1,h2,h3,h4,h5,h6,h7,_⟩:=es j y hy;exact h.Ri j z hj h1 id (ro_ j y z h2 h3 h4 h5 id e) (hf id hw)
 .rw[ea]at e;exact h.Sq j hj id e (hf id hw)
end
open Go.Proofs.YtdknlbnljfdhgaaGreatDoor.mod (gM tL wx)
theorem lt8{n:Nat}(h:n<8):n=0\/n=1\/n=2\/n=3\/n=4\/n=5\/n=6\/n=7:=by omega
theorem lt4{n:Nat}(h:n<4):n=0\/n=1\/n=2\/n=3:=by omega
theorem Kk{o:Option dv}:okW (pX o)=true:=by cases o<;>rfl
theorem TY{o:Option dv}:bL (pX o)=false:=by cases o<;>rfl
theorem Ii{o:Option dv}:cellsOf (pX o)=some [pX o]:=by cases o<;>rfl
def jL{α:Type}(st:Nat->Option α)(id:Int):Option α:=if id<0 then none else if 8<=id then none else st id.toNat
theorem my{α:Type}(st:Nat->Option α){n:Nat}(h:n<8):jL st n=st n:=by unfold jL;rw[if_neg (by omega),if_neg (by omega)];rfl
theorem vM{α:Type}{st:Nat->Option α}{id:Int}{x:α}(h:jL st id=some x):∃n:Nat,id=n/\n<8/\st n=some x:=by
 unfold jL at h;split at h
 .cases h
 .split at h
  .cases h
  .exact⟨id.toNat,by omega,by omega,h⟩
section
variable{S T:AS}{X:cT}
theorem pN(h:bG S X){Q:AV->AS->Prop}:ah C1 53 [.ptr X.b 0 0 27] S Q=Q (.bool false) S:=by
 have hr:=h.row;unfold cT.c at hr;refine ah.eq (aL (cK _) (cM _ rfl) fn53 rfl ok53 (by simp) fun F hn s0=>?_);simp[s0,hr]
theorem uD(h:bG S X)(id:Int){Q:AV->AS->Prop}:ah C1 89 [.ptr X.b 0 1 27,.int .i64 id] S Q=Q (pX (jL X.au id)) S:=by
 have hr:=h.row;unfold cT.c at hr;refine ah.eq (bt (cK _) (cM _ rfl) fn89 rfl ok89 (by simp) fun F hn s0 s1=>?_);by_cases h0:id<0
 .simp[s0,s1,h0,jL,pX]
 by_cases h8:8<=id
 .simp[s0,s1,h0,h8,jL,pX]
 .obtain⟨n,rfl⟩:∃n:Nat,id=n:=⟨id.toNat,by omega⟩
  have lI:n<8:=by omega
  rcases lt8 lI with rfl|rfl|rfl|rfl|rfl|rfl|rfl|rfl<;>simp[s0,s1,hr,TY,Kk,jL]
def fb(n:Nat):Bool:=decide (1<=n/\n<=1099511627776)
theorem ow{n:Nat}:∀Q:AV->AS->Prop,ah C1 90 [.int .u64 n] S Q=Q (.bool (fb n)) S:=fun Q=>by
 refine ah.eq (aL (cK _) (cM _ rfl) jeD rfl jdd (by simp) fun F hn s0=>?_);unfold fb;by_cases h1:1<=n
 .have q1:(1:Int)<=n:=by omega
  by_cases h2:n<=1099511627776
  .have q2:(n:Int)<=1099511627776:=by omega
   simp[s0,h1,h2,q1,q2]
  .have q2:¬((n:Int)<=1099511627776):=by omega
   simp[s0,h1,h2,q1,q2]
 .have q1:¬((1:Int)<=n):=by omega
  simp[s0,h1,q1]
theorem HM{α:Type}{P:α->Bool}:∀l:List α,l.find? P=(match l.findIdx? P with|some i=>l[i]?|none=>none)
 |[]=>rfl
 |a::l=>by
  have ih:=HM (P:=P) l;cases h:P a with
  |true=>simp[List.find?_cons,List.findIdx?_cons,h]
  |false=>
   simp only[List.find?_cons,List.findIdx?_cons,h];rw[ih];cases l.findIdx? P<;>simp
def y9(st:List (Int×Nat))(pub:Int):Nat:=match st.find? (fun t=>decide (t.1=pub))with|some t=>t.2-1|none=>0
def jH(x:iQ)(pub:Int):Nat:=match dg x.cur pub with|some n=>n|none=>y9 x.st pub
def ja(o:Option iQ)(pub:Int):Nat:=match o with|none=>0|some x=>jH x pub
theorem jeW{pb:Nat}{pub:Int}{t:Int×Nat}(hb:S.h.get pb=some (.row [.int .i64 pub] 0 0 false 3))(hl:pb<S.nx):
  ah mod.C0 142 [.agg (eJ t),.ptr pb 0 0 1] S fun v T=>v=.bool (decide (t.1=pub))/\Sub S T:=by
 have f142:mod.C0.fns.get 142=some Tryz.f142:=by kernel_rfl
 have k142:okF mod.C0 Tryz.f142=true:=by kernel_rfl
 have a0:fieldAt mod.C0 52 0=some 0:=by kernel_rfl
 have a3:aN mod.C0 3=some false:=by kernel_rfl
 have z3:aG mod.C0 3=some 1:=by kernel_rfl
 have a52:aN mod.C0 52=some true:=by kernel_rfl
 refine cG (mod.Cs _) (mod.Bj _ rfl) f142 rfl k142 (by simp) fun F hn hs=>?_;have s0:=hs 0;have s1:=hs 1;clear hs;simp only[zzb,zzd,zzf,eJ]at s0 s1;have ct:¬pb=S.nx:=by omega
 simp[s0,s1,hb,a0,a3,z3,a52,ct];exact seg.cq
theorem nt88:Tryz.f88.ntmps=46:=by kernel_rfl
theorem AG(h:bG S X)(id pub:Int):ah C1 88 [.ptr X.b 0 1 27,.int .i64 id,.int .i64 pub] S fun r T=>r=.int .u64 (ja ((jL X.au id).map dv.pure) pub:Nat)/\Sub S T:=by
 obtain⟨S1,bC⟩:∃S1:AS,S1=⟨S.h.set S.nx (.row [.int .i64 pub] 0 0 false 3),S.nx+1⟩:=⟨_,rfl⟩
 have h1:Sub S S1:=by rw[bC];exact seg.cq
 have b1:S1.h.get S.nx=some (.row [.int .i64 pub] 0 0 false 3):=by rw[bC];exact aa _ _ _
 have n1:S.nx<S1.nx:=by rw[bC];exact zzj _
 have bS:=bC.symm;have hX:=h.toSub h1;have jG:=fun Q=>uD hX id (Q:=Q);clear bC;refine tW (cK _) (cM _ rfl) fn88 rfl ok88 (by simp) fun F hn s0 s1 s2=>?_;rw[nt88]at hn;cases fI:jL X.au id with
 |none=>
  rw[fI]at jG;simp only[pX]at jG;simp[s0,s1,s2,bS,jG,aP,ja];exact h1
 |some x=>
  obtain⟨n,rfl,lI,hx⟩:=vM fI;have q:=hX.sub n x lI hx;have eI:=q.row;unfold dv.c at eI;rw[fI]at jG;simp only[pX]at jG;have lk:=sd (cx:=C1) (t:=164) (k:=pub) (ok:=true) Ud (KI .i64 .i64) (q.map.mp q.mlt);rw[kE]at lk;obtain⟨r,T,⟨rfl,hT⟩,e⟩:=(Rh (wx (enc:=eJ) (l:=x.st) (f:=142) (caps:=[.ptr S.nx 0 0 1]) (P:=fun t=>decide (t.1=pub)) cd q.sl (by have:=q.sl8;omega) rfl (fun T hT t ht=>jeW ((hT.h _ n1).trans b1) (zze n1 hT.nx)))).ex;unfold ja jH y9;simp only[zzo,dv.pure];cases hg:dg x.cur pub with
  |some m=>
   rw[hg]at lk;simp at lk;simp[s0,s1,s2,bS,jG,aP,hn];refine od (n:=46) (by kernel_rfl) (by simp[hn]) ?_;simp[s0,s1,s2,eI,b1,lk,aP];exact h1
  |none=>
   rw[hg]at lk;simp at lk;rw[HM];simp[s0,s1,s2,bS,jG,aP,hn];refine od (n:=46) (by kernel_rfl) (by simp[hn]) ?_;have UI:=(hT.h x.s q.lt).trans eI;have u1:=q.sl.sl;have u2:=q.sl.aO cd (by omega);have uk:=aj q.sl;unfold tL at e;cases hi:x.st.findIdx? (fun t=>decide (t.1=pub))with
   |none=>
    rw[hi]at e;simp at e;simp[s0,s1,s2,eI,b1,lk,aP,e,uk];exact h1.trans hT
   |some i=>
    rw[hi]at e;simp at e;obtain⟨KV,_,_⟩:=List.findIdx?_eq_some_iff_getElem.1 hi;have hgx:x.st[i]?=some x.st[i]:=zzg KV;have BJ:=(q.sl.toSub hT)
    have BP:=iy (cx:=C1) (e:=27) (o:=1) (enc:=eJ) BJ cd (by decide) hgx (y:=.int .u64 x.st[i].2) rfl ag27;have p1:=uZ (k:=i) u1 (by omega);have f1:lJ (nh x.sv i) (some 1)=some (ug (nh x.sv i) 1):=fY p1;have hst1:=q.Fu _ (zzm KV);have hw:IntKind.u64.wrap ((x.st[i].2:Int)-1)=((x.st[i].2-1:Nat):Int):=by rw[show ((x.st[i].2:Int)-1)=((x.st[i].2-1:Nat):Int) by omega];exact gD (by omega)
    have hi0:(0:Int)<=i:=by omega
    have kT:(i:Int)<x.st.length:=by omega
    simp[s0,s1,s2,eI,b1,lk,aP,e,uk,UI,u1,u2,KV,kT,hi0,f1,BP,hgx,hw];exact h1.trans hT
theorem Wc(h:bG S X)(id pub:Int):ah C1 40 [.ptr X.b 0 0 27,.int .i64 id,.int .i64 pub] S fun r T=>r=.int .u64 (ja ((jL X.au id).map dv.pure) pub:Nat)/\Sub S T:=by
 have e1:=fun Q=>pN h (Q:=Q);obtain⟨r,T,⟨rfl,hT⟩,e2⟩:=(AG h id pub).ex;have hr:=h.row;unfold cT.c at hr;refine tW (cK _) (cM _ rfl) fn40 rfl ok40 (by simp) fun F hn s0 s1 s2=>?_;simp[s0,s1,s2,e1,e2,aP,hr,hT]
end
def Tq(t:Int×Nat):Bool:=decide (0<=t.1)&&(decide (t.1<256)&&(decide (1<=t.2)&&decide (t.2<=1099511627777)))
def okP(st:List (Int×Nat))(i:Nat)(t:Int×Nat):Bool:=match i with|0=>true|j+1=>match st[j]? with|some u=>decide (u.1<t.1)|none=>true
def Ja(st:List (Int×Nat))(i:Nat):Bool:=match st[i]? with|some t=>Tq t&&okP st i t|none=>true
def fN(st:List (Int×Nat)):Bool:=(List.range st.length).all (Ja st)&&decide (st.length<=8)
theorem GG{st:List (Int×Nat)}{i:Nat}(hi:i<st.length)(h:Ja st i=false):fN st=false:=by
 unfold fN;have:(List.range st.length).all (Ja st)=false:=by
  rw[List.all_eq_false];exact⟨i,List.mem_range.2 hi,by rw[h];decide⟩
 rw[this];rfl
theorem OY{st:List (Int×Nat)}(h:∀i,i<st.length->Ja st i=true):fN st=decide (st.length<=8):=by
 unfold fN;have:(List.range st.length).all (Ja st)=true:=List.all_eq_true.2 fun i hi=>h i (List.mem_range.1 hi);rw[this];rfl
theorem uH{st:List (Int×Nat)}(h:fN st=true):st.length<=8/\∀t,t∈st->1<=t.2/\t.2<18446744073709551616:=by
 unfold fN at h;rw[zzh]at h;refine⟨by simpa using h.2,fun t ht=>?_⟩;obtain⟨i,hi,rfl⟩:=List.getElem_of_mem ht;have h1:=List.all_eq_true.1 h.1 i (List.mem_range.2 hi);unfold Ja at h1;rw[zzg hi]at h1;unfold Tq at h1;simp only[zzh,decide_eq_true_eq]at h1;omega
section
variable{S T:AS}
theorem jdm:Tryz.f92.ntmps=49:=by kernel_rfl
def jfZ(S:AS)(v:AV)(st:List (Int×Nat))(k:Nat)(F':Fr)(S':AS):Prop:=
 ∃i:Nat,Sub S S'/\(∀j,j<i->Ja st j=true)/\sl F' 0=v/\sl F' 5=v/\sl F' 6=.int .i64 st.length/\sl F' 7=.int .i64 i/\i<=st.length/\F'.n=49/\k=st.length-i
theorem DF{v:AV}{st:List (Int×Nat)}{k:Nat}{F':Fr}(i:Nat)(h1:Sub S T)(h2:∀j,j<i->Ja st j=true)(h3:sl F' 0=v)(h4:sl F' 5=v)(h5:sl F' 6=.int .i64 st.length)(h6:sl F' 7=.int .i64 i)(h7:i<=st.length)(h8:F'.n=49)(h9:k=st.length-i):jfZ S v st k F' T:=
 ⟨i,h1,h2,h3,h4,h5,h6,h7,h8,h9⟩
theorem Ml{v:AV}{st:List (Int×Nat)}(h:Sl S v 2 (st.flatMap eJ))(hb:st.length<=9223372036854775806):ah C1 92 [v] S fun r T=>r=.bool (fN st)/\Sub S T:=by
 have u1:=h.sl;have u2:=h.aO cd (by omega);have uk:=aj h;have uo:=h.ok;refine aL (cK _) (cM _ rfl) jeB rfl jdb (by simp) fun F hn s0=>?_;rw[jdm]at hn;simp[s0,u1,u2];refine aT (jfZ S v st) st.length (DF 0 (Sub.refl S) (fun j hj=>by omega) (by simp[s0]) (by simp[s0]) (by simp) (by simp) (zzr _) (by simp[hn]) rfl) ?_;clear s0 hn;rintro k F' S'-⟨i,hS,m9,t0,t5,t6,t7,hi,hn,hk⟩;by_cases dh:i<st.length
 .obtain⟨t,hx⟩:∃t,st[i]?=some t:=⟨_,zzg dh⟩
  have rr:=dB (cx:=C1) (e:=52) (h.toSub hS) cd (by omega) hx jaP XL;have hZ:Sub S' ⟨(S'.h.set S'.nx (.row [.int .i64 0,.int .u64 0] 0 0 false 52)).set S'.nx (.row (eJ t) 0 0 false 52),S'.nx+1⟩:=seg.gF;have lH:=cp (i:=i) (by omega);have kT:(i:Int)<st.length:=by omega
  have hSZ:=h.toSub (hS.trans hZ);have osi:Ja st i=(Tq t&&okP st i t):=by unfold Ja;rw[hx]
  simp only[eJ]at rr hSZ hZ;have noT:Tq t=false->fN st=false:=fun e=>GG dh (by rw[osi,e];rfl);simp[t0,t5,t6,t7,u1,u2,dh,kT,rr];refine od (n:=49) (by kernel_rfl) (by simp[hn]) ?_;by_cases c1:t.1<0
  .have e:=noT (by unfold Tq;rw[decide_eq_false (by omega)];rfl);simp[t0,t5,t6,t7,u1,u2,dh,kT,rr,c1,e];exact hS.trans hZ
  by_cases c2:256<=t.1
  .have e:=noT (by unfold Tq;rw[decide_eq_false (show ¬t.1<256 by omega)];simp);simp[t0,t5,t6,t7,u1,u2,dh,kT,rr,c1,c2,e];exact hS.trans hZ
  by_cases c3:t.2<1
  .have c3I:(t.2:Int)<1:=by omega
   have e:=noT (by unfold Tq;rw[decide_eq_false (show ¬1<=t.2 by omega)];simp);simp[t0,t5,t6,t7,u1,u2,dh,kT,rr,c1,c2,c3,c3I,e];exact hS.trans hZ
  by_cases c4:1099511627777<t.2
  .have c3I:¬(t.2:Int)<1:=by omega
   have Xu:(1099511627777:Int)<t.2:=by omega
   have e:=noT (by unfold Tq;rw[decide_eq_false (show ¬t.2<=1099511627777 by omega)];simp);simp[t0,t5,t6,t7,u1,u2,dh,kT,rr,c1,c2,c3,c3I,c4,Xu,e];exact hS.trans hZ
  have c3I:¬(t.2:Int)<1:=by omega
  have Xu:¬(1099511627777:Int)<t.2:=by omega
  have eT:Tq t=true:=by unfold Tq;rw[decide_eq_true (show 0<=t.1 by omega),decide_eq_true (show t.1<256 by omega),decide_eq_true (show 1<=t.2 by omega),decide_eq_true (show t.2<=1099511627777 by omega)];rfl
  by_cases c5:i=0
  .subst c5;have xW:IntKind.i64.wrap 1=1:=by decide
   have e:Ja st 0=true:=by rw[osi,eT];rfl
   simp[t0,t5,t6,t7,u1,u2,dh,kT,rr,c1,c2,c3,c3I,c4,Xu,xW];exact⟨st.length-1,by omega,DF 1 (hS.trans hZ) (fun j hj=>by
    obtain rfl:j=0:=by omega
    exact e) (by simp[t0]) (by simp[t5]) (by simp[t6]) (by simp) (by omega) (by simp[hn]) rfl⟩
  obtain⟨j,rfl⟩:∃j,i=j+1:=⟨i-1,by omega⟩
  obtain⟨u,hu⟩:∃u,st[j]?=some u:=⟨_,zzg (by omega)⟩
  have BP:=iy (cx:=C1) (e:=3) (o:=0) (enc:=eJ) hSZ cd (by decide) hu (y:=.int .i64 u.1) rfl ag3;have p1:=uZ (k:=j) u1 (by omega);have f1:lJ (nh v j) (some 0)=some (ug (nh v j) 0):=fY p1;obtain⟨i,sj⟩:∃i,i=j+1:=⟨_,rfl⟩
  rw[<-sj]at t7 dh kT rr lH osi c5 hk hi m9⊢;have aR:IntKind.i64.wrap ((i:Int)-1)=(j:Int):=by rw[IntWalk.i64_in _ (by omega)];omega
  have yD:(j:Int)<st.length:=by omega
  have hjl:j<st.length:=by omega
  have i0:(0:Int)<i:=by omega
  have i0n:0<i:=by omega
  have eP:okP st i t=decide (u.1<t.1):=by rw[sj];show (match st[j]? with|some u=>decide (u.1<t.1)|none=>true)=_;rw[hu]
  by_cases c6:t.1<=u.1
  .have e:fN st=false:=GG dh (by rw[osi,eP,decide_eq_false (by omega)];simp);simp[t0,t5,t6,t7,u1,u2,dh,kT,rr,c1,c2,c3,c3I,c4,Xu,i0,i0n,aR,yD,hjl,f1,BP,uo,zF,c6,e];exact hS.trans hZ
  .have e:Ja st i=true:=by rw[osi,eT,eP,decide_eq_true (by omega)];rfl
   simp[t0,t5,t6,t7,u1,u2,dh,kT,rr,c1,c2,c3,c3I,c4,Xu,i0,i0n,aR,yD,hjl,f1,BP,uo,zF,c6,lH];refine⟨st.length-(i+1),by omega,DF (i+1) (hS.trans hZ) (fun k hk=>?_) (by simp[t0]) (by simp[t5]) (by simp[t6]) (by simp) (by omega) (by simp[hn]) rfl⟩;by_cases hki:k=i
   .rw[hki];exact e
   .exact m9 k (by omega)
 .have:i=st.length:=by omega
  subst this;have e:=OY m9;have hle:decide ((st.length:Int)<=8)=decide (st.length<=8):=decide_eq_decide.2 (by omega);simp[t0,t5,t6,t7,u1,u2,e,hle,hS]
end
structure vE(S:AS)(X:cT)(r:Rec)(T:AS):Prop where
 sub:Sub S T
 lt:S.nx+2<T.nx
 bs:T.h.get S.nx=some (.row [.ptr X.b 0 1 27] 0 0 false 121)
 br:T.h.get (S.nx+1)=some (.row r.c 0 0 false 115)
 bx:T.h.get (S.nx+2)=some (.row [pX (jL X.au r.id)] 0 0 false 104)
section
variable{S T:AS}{X:cT}{r:Rec}
theorem vE.more{U:AS}(h:vE S X r T)(hs:Sub T U):vE S X r U:=
 ⟨h.sub.trans hs,by have:=h.lt;have:=hs.nx;omega,(hs.h _ (by have:=h.lt;omega)).trans h.bs,(hs.h _ (by have:=h.lt;omega)).trans h.br,(hs.h _ (by have:=h.lt;omega)).trans h.bx⟩
def Ji(S:AS)(X:cT)(r:Rec):AS:=⟨(((S.h.set S.nx (.row [.ptr X.b 0 1 27] 0 0 false 121)).set (S.nx+1) (.row r.c 0 0 false 115)).set (S.nx+2) (.row [.ck] 0 0 false 104)).set (S.nx+2) (.row [pX (jL X.au r.id)] 0 0 false 104),S.nx+3⟩
theorem oS:vE S X r (Ji S X r):=by
 refine⟨⟨fun id hi=>?_,by show S.nx<=S.nx+3;omega⟩,by show S.nx+2<S.nx+3;omega,?_,?_,aa _ _ _⟩
 .show (((_:T dR).set _ _).set _ _).get id=_;rw[ae _ _ (by omega),ae _ _ (by omega),ae _ _ (by omega),ae _ _ (by omega)]
 .show (((_:T dR).set _ _).set _ _).get _=_;rw[ae _ _ (by omega),ae _ _ (by omega),ae _ _ (by omega),aa]
 .show (((_:T dR).set _ _).set _ _).get _=_;rw[ae _ _ (by omega),ae _ _ (by omega),aa]
def jr(S:AS)(X:cT)(r:Rec):AS:=⟨(S.h.set S.nx (.row [.ptr X.b 0 1 27] 0 0 false 121)).set (S.nx+1) (.row r.c 0 0 false 115),S.nx+2⟩
theorem rF:Sub S (jr S X r):=yZ
theorem TS:Tryz.f51.ntmps=136:=by kernel_rfl
theorem jag(h:bG S X)(cJ:da S r)(e2:r.sort=2)(cD:0<=r.id/\r.id<8)(lR:jL X.au r.id=none)(hm:dE r.cs=true)(hr:fN r.st=true):
  ah C1 51 [.ptr X.b 0 1 27,.agg r.c] S fun v T=>v=.func (.func 106) [] [.ptr (S.nx+1) 0 0 7,.ptr S.nx 0 0 1]/\vE S X r T:=by
 have hB:=oS (S:=S) (X:=X) (r:=r);have jG:=fun Q=>uD (h.toSub (rF (X:=X) (r:=r))) r.id (Q:=Q);have iN:(⟨(S.h.set S.nx (.row [.ptr X.b 0 1 27] 0 0 false 121)).set (S.nx+1) (.row r.c 0 0 false 115),S.nx+2⟩:AS)=jr S X r:=rfl;have n2:(jr S X r).nx=S.nx+2:=rfl;have tS:(jr S X r).h.get (S.nx+1)=some (.row r.c 0 0 false 115):=aa _ _ _;have HD:(jr S X r).h.get S.nx=some (.row [.ptr X.b 0 1 27] 0 0 false 121):=(ae _ _ (by omega)).trans (aa _ _ _);have nQ:(⟨((jr S X r).h.set (S.nx+2) (.row [.ck] 0 0 false 104)).set (S.nx+2) (.row [pX (jL X.au r.id)] 0 0 false 104),S.nx+3⟩:AS)=Ji S X r:=rfl;have ux:=ow (S:=Ji S X r) (n:=r.n);have gr:=hB.br;have gx:=hB.bx;have Ev:=cJ.sub hB.sub;obtain⟨v,T,⟨rfl,hT⟩,xE⟩:=(Rh (jP Ev.pred)).ex;obtain⟨v,U,⟨rfl,hU⟩,Xq⟩:=(Ml ((Ev.sub hT).sl) (by have:=(uH hr).1;omega)).ex;rw[hm]at xE;rw[hr]at Xq;have gr1:=(hB.more hT).br;have k1:=aj cJ.pred.sl;have k2:=aj cJ.sl;have k3:=cJ.pred.sl.cells;have k4:=cJ.sl.cells;have oJ:=(hB.more hT).more hU;obtain⟨S2,dD⟩:∃S2,S2=jr S X r:=⟨_,rfl⟩
 obtain⟨S3,l7⟩:∃S3,S3=Ji S X r:=⟨_,rfl⟩
 rw[<-dD]at jG iN n2 tS HD nQ;rw[<-l7]at nQ ux gr gx xE;rw[lR]at jG nQ gx;simp only[pX]at jG nQ gx;unfold Rec.c at iN tS gr gr1;rw[e2]at iN tS gr gr1;refine cG (cK _) (cM _ rfl) VB rfl Tu (by simp) fun F hn hs=>?_;rw[TS]at hn;have s0:=hs 0;have s1:=hs 1;clear hs;simp only[zzb,zzd,zzf,Rec.c,e2]at s0 s1;have i1:¬r.id<0:=by omega
 have i2:=cD.1;have i3:=cD.2;cases Zp:fb r.n with
 |true=>
  rw[Zp]at ux;simp[s0,s1,aP,iN,n2,tS,HD,jG,nQ,gr,gx,ux,i1,i2,i3,k1,k2,k3,k4,xE,Xq,gr1];exact oJ
 |false=>
  rw[Zp]at ux;simp[s0,s1,aP,iN,n2,tS,HD,jG,nQ,gr,gx,ux,i1,i2,i3,k1,k2,k3,k4,xE,Xq,gr1];exact oJ
theorem jaf(h:bG S X)(cJ:da S r)(e2:r.sort=3){x:dv}(lR:jL X.au r.id=some x):
  ah C1 51 [.ptr X.b 0 1 27,.agg r.c] S fun v T=>v=.func (.func 107) [] [.ptr S.nx 0 0 1,.ptr (S.nx+1) 0 0 7]/\vE S X r T:=by
 have hB:=oS (S:=S) (X:=X) (r:=r);have jG:=fun Q=>uD (h.toSub (rF (X:=X) (r:=r))) r.id (Q:=Q);have iN:(⟨(S.h.set S.nx (.row [.ptr X.b 0 1 27] 0 0 false 121)).set (S.nx+1) (.row r.c 0 0 false 115),S.nx+2⟩:AS)=jr S X r:=rfl;have n2:(jr S X r).nx=S.nx+2:=rfl;have tS:(jr S X r).h.get (S.nx+1)=some (.row r.c 0 0 false 115):=aa _ _ _;have HD:(jr S X r).h.get S.nx=some (.row [.ptr X.b 0 1 27] 0 0 false 121):=(ae _ _ (by omega)).trans (aa _ _ _);have nQ:(⟨((jr S X r).h.set (S.nx+2) (.row [.ck] 0 0 false 104)).set (S.nx+2) (.row [pX (jL X.au r.id)] 0 0 false 104),S.nx+3⟩:AS)=Ji S X r:=rfl;have ux:=ow (S:=Ji S X r) (n:=r.n);have gr:=hB.br;have gx:=hB.bx;have gs:=hB.bs;have Ev:=cJ.sub hB.sub;have Nl:=h.toSub hB.sub;have k1:=aj cJ.pred.sl;have k2:=aj cJ.sl;have k3:=cJ.pred.sl.cells;have k4:=cJ.sl.cells;obtain⟨S2,dD⟩:∃S2,S2=jr S X r:=⟨_,rfl⟩
 obtain⟨S3,l7⟩:∃S3,S3=Ji S X r:=⟨_,rfl⟩
 rw[<-dD]at jG iN n2 tS HD nQ;rw[<-l7]at nQ ux gr gx gs Nl hB Ev;rw[lR]at jG nQ gx;simp only[pX]at jG nQ gx;unfold Rec.c at iN tS gr;rw[e2]at iN tS gr;refine cG (cK _) (cM _ rfl) VB rfl Tu (by simp) fun F hn hs=>?_;rw[TS]at hn;have s0:=hs 0;have s1:=hs 1;clear hs;simp only[zzb,zzd,zzf,Rec.c,e2]at s0 s1;cases Zp:fb r.n with
 |true=>
  rw[Zp]at ux;simp[s0,s1,aP,iN,n2,tS,HD,jG,nQ,gr,gx,ux,k1,k2,k3,k4];exact hB
 |false=>
  rw[Zp]at ux;simp[s0,s1,aP,iN,n2,tS,HD,jG,nQ,gr,gx,ux,k1,k2,k3,k4];exact hB
theorem jah(h:bG S X)(cJ:da S r)(e2:r.sort=4){k:Nat}(hk:r.id=k)(tN:k<4)(qy:fb r.n=true)(hv:(X.bg k).fy<r.n)(hm:r.there=true->dE r.cs=true):
  ah C1 51 [.ptr X.b 0 1 27,.agg r.c] S fun v T=>v=.func (.func 108) [] [.ptr (S.nx+1) 0 0 7,.ptr S.nx 0 0 1]/\vE S X r T:=by
 have hB:=oS (S:=S) (X:=X) (r:=r);have jG:=fun Q=>uD (h.toSub (rF (X:=X) (r:=r))) r.id (Q:=Q);have iN:(⟨(S.h.set S.nx (.row [.ptr X.b 0 1 27] 0 0 false 121)).set (S.nx+1) (.row r.c 0 0 false 115),S.nx+2⟩:AS)=jr S X r:=rfl;have n2:(jr S X r).nx=S.nx+2:=rfl;have tS:(jr S X r).h.get (S.nx+1)=some (.row r.c 0 0 false 115):=aa _ _ _;have HD:(jr S X r).h.get S.nx=some (.row [.ptr X.b 0 1 27] 0 0 false 121):=(ae _ _ (by omega)).trans (aa _ _ _);have nQ:(⟨((jr S X r).h.set (S.nx+2) (.row [.ck] 0 0 false 104)).set (S.nx+2) (.row [pX (jL X.au r.id)] 0 0 false 104),S.nx+3⟩:AS)=Ji S X r:=rfl;have ux:=ow (S:=Ji S X r) (n:=r.n);have gr:=hB.br;have gx:=hB.bx;have gs:=hB.bs;have Ev:=cJ.sub hB.sub;have Nl:=h.toSub hB.sub;have k1:=aj cJ.pred.sl;have k2:=aj cJ.sl;have k3:=cJ.pred.sl.cells;have k4:=cJ.sl.cells;obtain⟨S2,dD⟩:∃S2,S2=jr S X r:=⟨_,rfl⟩
 obtain⟨S3,l7⟩:∃S3,S3=Ji S X r:=⟨_,rfl⟩
 rw[<-dD]at jG iN n2 tS HD nQ;rw[<-l7]at nQ ux gr gx gs Nl hB Ev;obtain⟨px,Zm⟩:∃px,px=pX (jL X.au r.id):=⟨_,rfl⟩
 have o1:okW px=true:=by rw[Zm];exact Kk
 have o2:bL px=false:=by rw[Zm];exact TY
 have o3:cellsOf px=some [px]:=by rw[Zm];exact Ii
 rw[<-Zm]at jG nQ gx;have eI:=Nl.row;unfold cT.c at eI;obtain⟨v,T,⟨rfl,hT⟩,xE⟩:=(Rh (jP Ev.pred)).ex;have hBT:=hB.more hT;unfold Rec.c at iN tS gr;rw[e2]at iN tS gr;rw[qy]at ux;refine cG (cK _) (cM _ rfl) VB rfl Tu (by simp) fun F hn hs=>?_;rw[TS]at hn;have s0:=hs 0;have s1:=hs 1;clear hs;simp only[zzb,zzd,zzf,Rec.c,e2]at s0 s1;have KN:((X.bg k).fy:Int)<r.n:=by omega
 cases ht:r.there with
 |false=>
  rw[ht]at iN tS gr s1;rcases lt4 tN with rfl|rfl|rfl|rfl
  all_goals
   simp at hk;rw[hk]at iN tS gr s1 jG;simp[s0,s1,aP,iN,n2,tS,HD,jG,nQ,gr,gx,ux,k1,k2,k3,k4,o1,o2,o3];refine cu [.p,.r 0 0,.p,.p,.p,.r 0 0,.p,.p,.p,.p,.r 0 0,.p,.p,.p,.p,.r 0 0,.r 0 0,.p,.r 0 0,.p,.p,.p,.p,.r 0 0,.p,.p,.p,.p,.r 0 0,.p,.p,.p,.r 0 0,.e [],.p,.p,.p] (n:=136) (by kernel_rfl) (by simp[hn]) ?_;simp[s0,s1,aP,gr,gs,eI,KN,hv];exact hB
 |true=>
  have xE:=xE;rw[hm ht]at xE;rw[ht]at iN tS gr s1;rcases lt4 tN with rfl|rfl|rfl|rfl
  all_goals
   simp at hk;rw[hk]at iN tS gr s1 jG;simp[s0,s1,aP,iN,n2,tS,HD,jG,nQ,gr,gx,ux,k1,k2,k3,k4,o1,o2,o3];refine cu [.p,.r 0 0,.p,.p,.p,.r 0 0,.p,.p,.p,.p,.r 0 0,.p,.p,.p,.p,.r 0 0,.r 0 0,.p,.r 0 0,.p,.p,.p,.p,.r 0 0,.p,.p,.p,.p,.r 0 0,.p,.p,.p,.r 0 0,.e [],.p,.p,.p] (n:=136) (by kernel_rfl) (by simp[hn]) ?_;simp[s0,s1,aP,gr,gs,eI,KN,hv,xE,k1];exact hBT
theorem jae(h:bG S X)(cJ:da S r)(e2:r.sort=5){x:dv}(lR:jL X.au r.id=some x)(qy:fb r.n=true)(hp:0<=r.pub/\r.pub<256)(hv:jH x.pure r.pub<r.n):
  ah C1 51 [.ptr X.b 0 1 27,.agg r.c] S fun v T=>v=.func (.func 109) [] [.ptr (S.nx+1) 0 0 7,.ptr (S.nx+2) 0 0 1]/\vE S X r T:=by
 have hB:=oS (S:=S) (X:=X) (r:=r);have jG:=fun Q=>uD (h.toSub (rF (X:=X) (r:=r))) r.id (Q:=Q);have iN:(⟨(S.h.set S.nx (.row [.ptr X.b 0 1 27] 0 0 false 121)).set (S.nx+1) (.row r.c 0 0 false 115),S.nx+2⟩:AS)=jr S X r:=rfl;have n2:(jr S X r).nx=S.nx+2:=rfl;have tS:(jr S X r).h.get (S.nx+1)=some (.row r.c 0 0 false 115):=aa _ _ _;have HD:(jr S X r).h.get S.nx=some (.row [.ptr X.b 0 1 27] 0 0 false 121):=(ae _ _ (by omega)).trans (aa _ _ _);have nQ:(⟨((jr S X r).h.set (S.nx+2) (.row [.ck] 0 0 false 104)).set (S.nx+2) (.row [pX (jL X.au r.id)] 0 0 false 104),S.nx+3⟩:AS)=Ji S X r:=rfl;have ux:=ow (S:=Ji S X r) (n:=r.n);have gr:=hB.br;have gx:=hB.bx;have gs:=hB.bs;have Ev:=cJ.sub hB.sub;have Nl:=h.toSub hB.sub;have k1:=aj cJ.pred.sl;have k2:=aj cJ.sl;have k3:=cJ.pred.sl.cells;have k4:=cJ.sl.cells;obtain⟨S2,dD⟩:∃S2,S2=jr S X r:=⟨_,rfl⟩
 obtain⟨S3,l7⟩:∃S3,S3=Ji S X r:=⟨_,rfl⟩
 rw[<-dD]at jG iN n2 tS HD nQ;rw[<-l7]at nQ ux gr gx gs Nl hB Ev;obtain⟨v,T,⟨rfl,hT⟩,e88⟩:=(AG Nl r.id r.pub).ex;have hBT:=hB.more hT;rw[lR]at jG nQ gx e88;simp only[pX]at jG nQ gx;have ecn:ja (Option.map dv.pure (some x)) r.pub=jH x.pure r.pub:=rfl;have grT:=hBT.br;have gsT:=hBT.bs;have gxT:=hBT.bx;rw[lR]at gxT;simp only[pX]at gxT;unfold Rec.c at grT;rw[e2]at grT;rw[ecn]at e88;unfold Rec.c at iN tS gr;rw[e2]at iN tS gr;rw[qy]at ux;have KN:((jH x.pure r.pub:Nat):Int)<r.n:=by omega
 obtain⟨c,hc⟩:∃c,c=jH x.pure r.pub:=⟨_,rfl⟩
 rw[<-hc]at e88 hv KN;refine cG (cK _) (cM _ rfl) VB rfl Tu (by simp) fun F hn hs=>?_;rw[TS]at hn;have s0:=hs 0;have s1:=hs 1;clear hs;simp only[zzb,zzd,zzf,Rec.c,e2]at s0 s1;have p0:=hp.1;have p1:=hp.2;simp[s0,s1,aP,iN,n2,tS,HD,jG,nQ,gr,gx,ux,k1,k2,k3,k4];refine cu [.p,.r 0 0,.p,.p,.p,.r 0 0,.p,.p,.p,.p,.r 0 0,.p,.p,.p,.p,.r 0 0,.r 0 0,.p,.r 0 0,.p,.p,.p,.p,.r 0 0,.p,.p,.p,.p,.r 0 0,.p,.p,.p,.r 0 0,.e [],.p,.p,.p] (n:=136) (by kernel_rfl) (by simp[hn]) ?_;simp[s0,s1,aP,gr,gs,gx];refine cu [.p,.r 0 0,.p,.p,.r 0 0,.p,.p,.p,.p,.r 0 0,.p,.p,.p,.p,.r 0 0,.p,.p,.p,.p,.r 0 1,.r 0 0,.p,.r 0 0,.p,.r 0 0,.e [],.p,.p,.p] (n:=136) (by kernel_rfl) (by simp[hn]) ?_;simp[s0,s1,aP,gr,gs,gx,grT,gsT,gxT,p0,p1,e88,hv,KN];exact hBT
end
open Go.Proofs.YtdknlbnljfdhgaaGreatDoor.mod (lg)
def cT.aK(X:cT)(n:Nat)(o:Option dv):cT:={X with au:=fun j=>if j=n then o else X.au j}
def cT.dV(X:cT)(k:Nat)(a:iS):cT:={X with bg:=fun j=>if j=k then a else X.bg j}
theorem Se(X:cT){n:Nat}(hn:n<8)(o:Option dv):(X.aK n o).c=dq (2+n) X.c [pX o]:=by
 rcases lt8 hn with rfl|rfl|rfl|rfl|rfl|rfl|rfl|rfl<;>rfl
theorem XY(X:cT){k:Nat}(hk:k<4)(a:iS):(X.dV k a).c=dq (10+k*4) X.c [.int .i64 a.k,.int .u64 a.fy,.bool a.there,a.p]:=by
 rcases lt4 hk with rfl|rfl|rfl|rfl<;>rfl
section
variable{S T:AS}{X:cT}{r:Rec}
theorem RA(h:bG S X){n:Nat}(hn:n<8)(o:Option dv):xQ S (.ptr X.b 0 (2+n) 27) [pX o]=some ⟨S.h.set X.b (.row (X.aK n o).c 0 0 false 110),S.nx⟩:=by
 simp only[eC,iT,h.row,dO];rw[if_pos ⟨trivial,by simp;omega,trivial⟩,Se X hn]
theorem jfx(h:bG S X){k:Nat}(hk:k<4)(a:iS):xQ S (.ptr X.b 0 (10+k*4) 27) [.int .i64 a.k,.int .u64 a.fy,.bool a.there,a.p]=some ⟨S.h.set X.b (.row (X.dV k a).c 0 0 false 110),S.nx⟩:=by
 simp only[eC,iT,h.row,dO];rw[if_pos ⟨trivial,by simp;omega,trivial⟩,XY X hk]
theorem mJ{ks wq:List dH}(h:wq.map bare=ks.map bare):dE wq=dE ks:=by
 have e1:∀l:List dH,dE l=dE (l.map bare):=fun l=>by
  unfold dE;rw[List.length_map,List.any_map];rfl
 rw[e1,h,<-e1]
theorem mG{ks wq:List dH}(h:wq.map bare=ks.map bare)(hn:∀c,c∈ks->cy c):∀c,c∈wq->cy c:=fun c hc=>by
 have h1:bare c∈ks.map bare:=by rw[<-h];exact List.mem_map.2 ⟨c,hc,rfl⟩
 obtain⟨d,hd,e⟩:=List.mem_map.1 h1;have h2:=hn d hd;have e1:c.val=d.val:=by have:=congrArg dH.val e;exact this.symm
 have e2:c.bA=d.bA:=by have:=congrArg dH.bA e;exact this.symm
 have e3:c.name=d.name:=by have:=congrArg dH.name e;exact this.symm
 unfold cy at h2⊢;rw[e1,e2,e3];exact h2
theorem jkQ{k n:Int}{t:Bool}{q:AV}(h:isSl 7 q=true):dr C1 98 [(0,.int .i64 k),(1,.int .u64 n),(2,.bool t),(3,q)]=some (.agg [.int .i64 k,.int .u64 n,.bool t,q]):=by
 cases q<;>first|(simp[isSl]at h;done)|kernel_rfl
theorem jbU{k:Int}{q v:AV}(h:isSl 7 q=true)(hv:isSl 2 v=true):dr C1 50 [(0,.int .i64 k),(1,q),(2,v)]=some (.agg [.int .i64 k,q,v]):=by
 cases q<;>first|(simp[isSl]at h;done)|(cases v<;>first|(simp[isSl]at hv;done)|kernel_rfl)
theorem jfh{k:Int}{q v:AV}{m:Nat}(h:isSl 7 q=true)(hv:isSl 2 v=true):dr C1 166 [(0,.agg [.int .i64 k,q,v]),(1,.map m)]=some (.agg [.int .i64 k,q,v,.map m]):=by
 cases q<;>first|(simp[isSl]at h;done)|(cases v<;>first|(simp[isSl]at hv;done)|kernel_rfl)
theorem jeP(h:bG S X){sb rb n:Nat}(hs:S.h.get sb=some (.row [.ptr X.b 0 1 27] 0 0 false 121))(hr:S.h.get rb=some (.row r.c 0 0 false 115))(cD:r.id=n)(lI:n<8):
  ah C1 107 [.ptr sb 0 0 1,.ptr rb 0 0 7] S fun _ T=>bG T (X.aK n none)/\eZ X (X.aK n none) S T:=by
 have hw:=RA h lI none;have eI:=h.row;unfold Rec.c at hr;rw[cD]at hr;have hnI:(n:Int)<8:=by omega
 have fin:bG ⟨S.h.set X.b (.row (X.aK n none).c 0 0 false 110),S.nx⟩ (X.aK n none)/\eZ X (X.aK n none) S ⟨S.h.set X.b (.row (X.aK n none).c 0 0 false 110),S.nx⟩:=by
  refine h.own rfl rfl (fun id _ hi=>ae _ _ hi) (zzk _) (aa _ _ _) h.aC (fun i x hi hx=>.inl ?_) (fun i hi=>.inl rfl);have hx:(if i=n then none else X.au i)=some x:=hx;split at hx
  .cases hx
  .exact hx
 refine cG (cK _) (cM _ rfl) jkf rfl jhk (by simp) fun F hn m8=>?_;have nt:Tryz.f107.ntmps=8:=by kernel_rfl
 rw[nt]at hn;have s0:=m8 0;have s1:=m8 1;clear m8;simp only[zzb,zzd,zzf]at s0 s1;simp only[pX]at hw;simp;refine cu [.r 0 0,.p,.r 0 0,.p,.p,.p,.e []] (n:=8) (by kernel_rfl) (by simp[hn]) ?_;simp[s0,s1,hs,hr,hnI,lI,hw];exact fin
theorem jeO(h:bG S X){sb rb k:Nat}(hs:S.h.get sb=some (.row [.ptr X.b 0 1 27] 0 0 false 121))(BJ:sb<S.nx)(hr:S.h.get rb=some (.row r.c 0 0 false 115))(mO:rb<S.nx)(cD:r.id=k)(tN:k<4)(cJ:da S r)(hm:dE r.cs=true)(hv:r.n<=1099511627776):
  ah C1 108 [.ptr rb 0 0 7,.ptr sb 0 0 1] S fun _ T=>∃a:iS,a.pure=⟨k,r.n,r.there,r.cs.map bare⟩/\bG T (X.dV k a)/\eZ X (X.dV k a) S T:=by
 obtain⟨h6,mQ⟩:=mK hm cJ.num;obtain⟨q,T,⟨wq,hq,hb,hT,kG⟩,e86⟩:=(Rh (mod.vq cJ.pred h6 (fun c hc=>(mQ c hc).2.1))).ex;have hX:=h.toSub hT;obtain⟨a,ha⟩:∃a:iS,a=⟨k,r.n,r.there,q,wq⟩:=⟨_,rfl⟩
 have hw:xQ T (.ptr X.b 0 (10+k*4) 27) [.int .i64 k,.int .u64 r.n,.bool r.there,q]=some ⟨T.h.set X.b (.row (X.dV k a).c 0 0 false 110),T.nx⟩:=by
  have:=jfx hX tN a;rw[ha]at this⊢;exact this
 obtain⟨U,hU⟩:∃U:AS,U=⟨T.h.set X.b (.row (X.dV k a).c 0 0 false 110),T.nx⟩:=⟨_,rfl⟩
 rw[<-hU]at hw;have hsT:=(hT.h _ BJ).trans hs;have UI:=(hT.h _ mO).trans hr;have fin:bG ⟨T.h.set X.b (.row (X.dV k a).c 0 0 false 110),T.nx⟩ (X.dV k a)/\eZ X (X.dV k a) S ⟨T.h.set X.b (.row (X.dV k a).c 0 0 false 110),T.nx⟩:=by
  have cQ:=h.lt;refine h.own rfl rfl (fun id Ep hi=>(ae _ _ hi).trans (hT.h id Ep)) hT.nx (aa _ _ _) h.aC (fun i x hi hx=>.inl hx) (fun i hi=>?_);show (if i=k then a else X.bg i)=X.bg i\/_;by_cases hik:i=k
  .right;show Be _ (if i=k then a else X.bg i).p _/\_;have e:(X.dV k a).bg i=a:=if_pos hik;rw[e,if_pos hik];have ep:a.p=q:=by rw[ha]
   have ek:a.ks=wq:=by rw[ha]
   have ev:a.fy=r.n:=by rw[ha]
   rw[ep,ek,ev];refine⟨⟨aB.agree hq (fun id e=>ae _ _ (by have:=kG id e;omega)) (zzk _),by rw[mJ hb];exact hm,mG hb cJ.num⟩,hv,fun id e=>⟨kG id e,fun j y hj hy=>?_⟩⟩;have:=(h.sub j y hj hy).mlt;have:=kG id e;omega
  .left;exact if_neg hik
 rw[<-hU]at fin;unfold Rec.c at hr UI;rw[cD]at hr UI;have hkI:(k:Int)<4:=by omega
 have k1:=aj cJ.pred.sl;have k2:=aj hq.sl;have k3:=hq.sl.cells;have k4:=hq.sl.np;refine cG (cK _) (cM _ rfl) jke rfl jhj (by simp) fun F hn m8=>?_;have nt:Tryz.f108.ntmps=18:=by kernel_rfl
 rw[nt]at hn;have s0:=m8 0;have s1:=m8 1;clear m8;simp only[zzb,zzd,zzf]at s0 s1;simp;refine cu [.r 0 1,.p,.r 0 1,.p,.r 0 1,.p,.r 0 1,.p,.r 0 1,.p,.r 0 0,.e [],.p,.p,.p,.p,.e []] (n:=18) (by kernel_rfl) (by simp[hn]) ?_;simp[s0,s1,hs,hr,hsT,UI,aP,e86,k1,k2,k3,k4,hkI,tN,hw,jkQ hq.sl.sl];exact⟨a,by rw[ha];show (⟨_,_,_,wq.map bare⟩:IY)=_;rw[hb],fin.1,fin.2⟩
theorem jeQ(h:bG S X){sb rb n:Nat}(hs:S.h.get sb=some (.row [.ptr X.b 0 1 27] 0 0 false 121))(BJ:sb<S.nx)(hr:S.h.get rb=some (.row r.c 0 0 false 115))(mO:rb<S.nx)(cD:r.id=n)(lI:n<8)(cJ:da S r)(hm:dE r.cs=true)(hrt:fN r.st=true):
  ah C1 106 [.ptr rb 0 0 7,.ptr sb 0 0 1] S fun _ T=>∃x:dv,x.pure=⟨r.cs.map bare,r.st,[]⟩/\bG T (X.aK n (some x))/\eZ X (X.aK n (some x)) S T:=by
 obtain⟨h6,mQ⟩:=mK hm cJ.num;obtain⟨hl8,fI⟩:=uH hrt;have h0:Sub S (⟨S.h,S.nx+1⟩:AS):=⟨fun _ _=>rfl,Nat.le_succ _⟩
 have cJ:=cJ.sub h0;obtain⟨q,T,⟨wq,hq,hb,hT0,kG⟩,e86⟩:=(Rh (mod.vq cJ.pred h6 (fun c hc=>(mQ c hc).2.1))).ex;have hT:=h0.trans hT0;have hslT:=cJ.sl.toSub hT0;have u2:=cJ.sl.aO cd (by omega);obtain⟨v,V,⟨hV,hv,_,MW,hvb⟩,e87⟩:=(Rh (mod.NK hslT (by rw[u2];omega))).ex;have hTV:=hT.trans hV;have hsT:=(hT.h _ BJ).trans hs;have UI:=(hT.h _ mO).trans hr;have hsV:=(hTV.h _ BJ).trans hs;have hrV:=(hTV.h _ mO).trans hr;have k1:=aj cJ.pred.sl;have k2:=aj hq.sl;have k3:=hq.sl.cells;have k4:=hq.sl.np;have k5:=aj cJ.sl;have k6:=aj hv;have k7:=hv.cells;have k8:=hv.np;obtain⟨x,hx⟩:∃x:dv,x=⟨V.nx,q,wq,v,r.st,S.nx,[]⟩:=⟨_,rfl⟩
 obtain⟨W,hW⟩:∃W:AS,W=⟨(V.h.set S.nx (.map [] 0)).set V.nx (.row [.int .i64 n,q,v,.map S.nx] 0 0 false 166),V.nx+1⟩:=⟨_,rfl⟩
 have hTVn:=hTV.nx;have hT0n:S.nx+1<=T.nx:=hT0.nx;have hVn:=hV.nx;have hSW:Sub S W:=by
  rw[hW];exact⟨fun id hi=>(ae _ _ (by omega)).trans ((ae _ _ (by omega)).trans (hTV.h id hi)),by show S.nx<=V.nx+1;omega⟩
 have wm:W.h.get S.nx=some (.map [] 0):=by rw[hW];exact (ae _ _ (by omega)).trans (aa _ _ _)
 have wr:W.h.get V.nx=some (.row [.int .i64 n,q,v,.map S.nx] 0 0 false 166):=by rw[hW];exact aa _ _ _
 have wn:W.nx=V.nx+1:=by rw[hW]
 have wo:∀id,id<V.nx->id≠S.nx->W.h.get id=V.h.get id:=fun id h1 h2=>by rw[hW];exact (ae _ _ (by omega)).trans (ae _ _ h2)
 have bW:=hW.symm;clear hW;have hXW:=h.toSub hSW;have oI:=RA hXW lI (some x);have ex:pX (some x)=.ptr V.nx 0 0 4:=by rw[hx];rfl
 rw[ex]at oI;obtain⟨U,hU⟩:∃U:AS,U=⟨W.h.set X.b (.row (X.aK n (some x)).c 0 0 false 110),W.nx⟩:=⟨_,rfl⟩
 rw[<-hU]at oI;have cQ:=h.lt;have fin:bG U (X.aK n (some x))/\eZ X (X.aK n (some x)) S U:=by
  have uo:∀id,id≠X.b->U.h.get id=W.h.get id:=fun id hi=>by rw[hU];exact ae _ _ hi
  have un:U.nx=W.nx:=by rw[hU]
  have jmz:=hq.sl.old;have jmy:=hv.old;refine h.own rfl rfl (fun id Ep hi=>(uo id hi).trans (hSW.h id Ep)) (by rw[un];exact hSW.nx) (by rw[hU];exact aa _ _ _) h.aC (fun i y hi hy=>?_) (fun i hi=>.inl rfl);have hy:(if i=n then some x else X.au i)=some y:=hy;by_cases FC:i=n
  .rw[if_pos FC]at hy;obtain rfl:x=y:=Option.some.inj hy;subst FC;right;have e1:x.s=V.nx:=by rw[hx]
   have e2:x.p=q:=by rw[hx]
   have e3:x.ks=wq:=by rw[hx]
   have e4:x.sv=v:=by rw[hx]
   have e5:x.m=S.nx:=by rw[hx]
   have e6:x.st=r.st:=by rw[hx]
   have e7:x.cur=[]:=by rw[hx]
   have agq:∀id,aW q wq id->U.h.get id=T.h.get id:=fun id e=>by
    have h1:S.nx+1<=id:=kG id e;have h2:=aB.aU hq e;rw[uo id (by omega),wo id (by omega) (by omega)];exact hV.h id h2
   have hvn:∀id,aE v=id+1->T.nx<=id:=fun id e=>by omega
   refine⟨⟨by rw[e1,un,wn];omega,?_,⟨?_,by rw[e3,mJ hb];exact hm,by rw[e3];exact mG hb cJ.num⟩,?_,by rw[e6];exact fI,by rw[e6];exact hl8,by rw[e5,un,wn];omega,?_,by rw[e7];exact fun t ht=>by cases ht⟩,by rw[e5];exact zzk _,fun id e=>?_,fun j y hj wB hy=>?_⟩
   .rw[e1,uo _ (by omega),wr];unfold dv.c;rw[e2,e4,e5]
   .rw[e2,e3];exact aB.agree hq agq (by rw[un,wn];omega)
   .rw[e4,e6];exact hv.agree (fun id e=>by rw[uo id (by have:=hvn id e;omega),wo id (by omega) (by have:=hvn id e;omega)]) (by rw[un,wn];omega)
   .rw[e5,e7];exact⟨[],0,(uo _ (by omega)).trans wm,rfl,⟨(fun _ h=>(by cases h)),List.Pairwise.nil⟩⟩
   .rw[e5];rcases e with e|e|e
    .rw[e,e1];omega
    .rw[e2,e3]at e;have h1:S.nx+1<=id:=kG id e;omega
    .rw[e4]at e;have:=hvn id e;omega
   .have hy:(if j=i then some x else X.au j)=some y:=hy;rw[if_neg wB]at hy;exact hy
  .rw[if_neg FC]at hy;exact .inl hy
 have hsW:=(hSW.h _ BJ).trans hs;have hrW:=(hSW.h _ mO).trans hr;clear wm wr wo;unfold Rec.c at hr UI hrV hrW;rw[cD]at hr UI hrV hrW;have hnI:(n:Int)<8:=by omega
 refine cG (cK _) (cM _ rfl) jkg rfl jhl (by simp) fun F hn m8=>?_;have nt:Tryz.f106.ntmps=20:=by kernel_rfl
 rw[nt]at hn;have s0:=m8 0;have s1:=m8 1;clear m8;simp only[zzb,zzd,zzf]at s0 s1;simp;refine cu [.r 0 3,.p,.r 0 3,.p,.r 0 2,.p,.r 0 0,.e [],.p,.r 1 0,.e [],.p,.f,.p,.e [12],.p,.p,.p,.e [12]] (n:=20) (by kernel_rfl) (by simp[hn]) ?_;simp[s0,s1,hs,hr,hsT,UI,hsV,hrV,aP,e86,e87,k1,k2,k3,k4,k5,k6,k7,k8,hnI,lI,jbU hq.sl.sl hv.sl,jfh hq.sl.sl hv.sl,bW,hsW,hrW,oI];exact⟨x,by rw[hx];show (⟨wq.map bare,_,_⟩:iQ)=_;rw[hb],fin.1,fin.2⟩
theorem jeN(h:bG S X){rb xb n:Nat}{x:dv}(hr:S.h.get rb=some (.row r.c 0 0 false 115))(hx:S.h.get xb=some (.row [.ptr x.s 0 0 4] 0 0 false 104))(lI:n<8)(hsx:X.au n=some x)(hr64:r.n<18446744073709551616):
  ah C1 109 [.ptr rb 0 0 7,.ptr xb 0 0 1] S fun _ T=>bG T (X.aK n (some {x with cur:=gl x.cur r.pub r.n}))/\eZ X (X.aK n (some {x with cur:=gl x.cur r.pub r.n})) S T:=by
 have q:=h.sub n x lI hsx;obtain⟨T,e1,h1,h2,h3⟩:=tz (cx:=C1) (t:=164) (k:=r.pub) (v:=.int .u64 r.n) Ud (KI .i64 .i64) q.map;rw[mh]at h1;have fin:=h.ackd (T:=T) lI hsx h2 (by omega) h1 (fun t ht=>by
  rcases lg ht with e|e
  .rw[e];exact hr64
  .exact q.jaj t e)
 have eI:=q.row;unfold dv.c at eI;unfold Rec.c at hr;refine cG (cK _) (cM _ rfl) VM rfl TF (by simp) fun F hn m8=>?_;have nt:Tryz.f109.ntmps=10:=by kernel_rfl
 rw[nt]at hn;have s0:=m8 0;have s1:=m8 1;clear m8;simp only[zzb,zzd,zzf]at s0 s1;simp;refine cu [.r 0 0,.p,.p,.r 0 0,.p,.r 0 0,.p,.r 0 0,.e []] (n:=10) (by kernel_rfl) (by simp[hn]) ?_;simp[s0,s1,hr,hx,eI,e1];exact fin
end
def mZ(l:List Nat):Prop:=∀c,c∈l->c<256
theorem mZ.app{a b:List Nat}(h:mZ a)(k:mZ b):mZ (a++b):=fun c hc=>by
 rcases List.mem_append.1 hc with hc|hc
 .exact h c hc
 .exact k c hc
theorem mZ.nil:mZ []:=fun c hc=>by cases hc
theorem dG(n:Nat):mZ (bu n):=YK n
theorem yI{s:List Nat}(h:mZ s):mZ (iK s):=(dG _).app h
theorem rE{α:Type}{f:α->List Nat}{l:List α}(h:∀a,a∈l->mZ (f a)):mZ (l.flatMap f):=fun c hc=>by
 obtain⟨a,ha,hc⟩:=List.mem_flatMap.1 hc;exact h a ha c hc
theorem Db{a:qe}(h:tq a):mZ (dS a):=by
 unfold dS AW;refine (dG _).app ?_;split
 .exact dG _
 .split
  .exact yI h.2.2
  .split
   .exact dG _
   .exact mZ.nil
theorem Ix{c:dH}(h:cy c):mZ (gY c):=by
 unfold gY;refine ((yI h.2.2).app (dG _)).app ?_;split
 .exact mZ.nil
 .split
  .exact (dG _).app (rE fun v hv=>Db (h.2.1 v hv))
  .exact Db h.1
theorem Iw{cs:List dH}(h:∀c,c∈cs->cy c):mZ (iX cs):=by
 unfold iX fa;split
 .exact (dG _).app (rE fun c hc=>Ix (h c hc))
 .exact mZ.nil
theorem nz{r:Rec}(h:∀c,c∈r.cs->cy c):mZ (cX r):=by
 unfold cX xr;refine (dG _).app ?_;split
 .exact dG _
 .split
  .exact (((dG _).app (yI (Iw h))).app (dG _)).app (rE fun t ht=>(dG _).app (dG _))
  .split
   .exact dG _
   .split
    .refine ((dG _).app (dG _)).app ?_;split
     .exact (dG _).app (yI (Iw h))
     .exact dG _
    .split
     .exact ((dG _).app (dG _)).app (dG _)
     .exact mZ.nil
theorem qO(r:Rec):1<=(cX r).length:=by
 unfold cX;rw[zza];have:=TR (uN r.sort);omega
def di(r:List Nat):List Nat:=if r.length<=2048 then As r else []
section
variable{S T:AS}
theorem Vt{v:AV}{r:List Nat}(h:Sl S v 1 (aq r))(hb:mZ r)(h1:1<=r.length)(hl:r.length<=1000000):ah C1 111 [v] S fun u T=>∃w e,u=.tuple [w,.int .i64 e]/\Sub S T/\jI S.nx w/\Gw T w 1 5 (aq (di r)):=by
 by_cases h2:r.length<=2048
 .refine (jgg h hb h1 h2).mono ?_;rintro u T ⟨w,rfl,k1,k2,k3⟩;refine⟨w,0,rfl,k1,k2,?_⟩;unfold di;rw[if_pos h2];exact k3
 .have FB:=aA r;have u1:=h.sl;have u2:=h.eR;rw[FB]at u2;have q1:¬(r=[]):=fun e=>by rw[e]at h1;exact absurd h1 (by decide)
  have q2:((2048:Int)<r.length):=by omega
  unfold di;rw[if_neg h2];refine aL (cK _) (cM _ rfl) ZX rfl YH (by simp) fun F hn s0=>?_;simp[s0,u1,u2,q1,q2];exact⟨Sub.refl S,.inl rfl,by simpa[aq]using (Gw.nil (S:=S) (sz:=1) (e:=5))⟩
end
def PB.aK(P:PB)(n:Nat)(o:Option iQ):PB:={P with au:=fun j=>if j=n then o else P.au j}
def PB.dV(P:PB)(k:Nat)(a:IY):PB:={P with bg:=fun j=>if j=k then a else P.bg j}
theorem qU(X:cT)(n:Nat)(o:Option dv):(X.aK n o).pure=X.pure.aK n (o.map dv.pure):=by
 have e:(fun i=>(((if i=n then o else X.au i):Option dv).map dv.pure))=fun i=>if i=n then o.map dv.pure else (X.au i).map dv.pure:=by
  funext i;split<;>rfl
 show (⟨X.aC,fun i=>((if i=n then o else X.au i):Option dv).map dv.pure,_⟩:PB)=⟨_,_,_⟩;rw[e];rfl
theorem J7(X:cT)(k:Nat)(a:iS):(X.dV k a).pure=X.pure.dV k a.pure:=by
 have e:(fun i=>((if i=k then a else X.bg i):iS).pure)=fun i=>if i=k then a.pure else (X.bg i).pure:=by
  funext i;split<;>rfl
 show (⟨X.aC,_,fun i=>((if i=k then a else X.bg i):iS).pure⟩:PB)=⟨_,_,_⟩;rw[e];rfl
def oR(d:PD)(bs:List AV):Int×PD:=if (d.append [98,111,111,107] bs).1=0 then (d.append [98,111,111,107] bs).2.sync [98,111,111,107] else d.append [98,111,111,107] bs
def jlt(X X1:cT):Prop:=X1.au=X.au/\X1.bg=X.bg/\X1.aC=X.aC/\X1.b=X.b/\X1.cL=X.cL
def LV(S:AS)(X:cT)(r:Rec)(P':PB):Prop:=∀(T:AS)(X1:cT),bG T X1->jlt X X1->da T r->∃g caps U,(∀Q:AV->AS->Prop,ah C1 51 [.ptr X1.b 0 1 27,.agg r.c] T Q=Q (.func (.func g) [] caps) U)/\C1.exts.get g=none/\Sub T U /\
 ∃w Y X2,(∀Q:AV->AS->Prop,ah C1 g caps U Q=Q w Y)/\bG Y X2/\eZ X1 X2 U Y/\X2.pure=P'/\X2.D=X1.D/\X2.cL=X1.cL
section
variable{S T:AS}{X:cT}{r:Rec}
theorem oF{X1:cT}(h:jlt X X1):X1.pure=X.pure:=by
 obtain⟨h1,h2,h3,_,_⟩:=h;unfold cT.pure;rw[h1,h2,h3]
theorem H8(e2:r.sort=2){n:Nat}(cD:r.id=n)(lI:n<8)(lR:X.au n=none)(hm:dE r.cs=true)(hr:fN r.st=true):LV S X r (X.pure.aK n (some ⟨r.cs.map bare,r.st,[]⟩)):=fun T X1 hX hL cJ=>by
 have qy:jL X1.au r.id=none:=by rw[cD,my _ lI,hL.1];exact lR
 obtain⟨v,U,⟨rfl,hB⟩,e1⟩:=(jag hX cJ e2 ⟨by omega,by omega⟩ qy hm hr).ex;have ZF:=hX.toSub hB.sub;have cQ:=hB.lt;obtain⟨w,Y,⟨x,hx,h1,h2⟩,e⟩:=(jeQ ZF hB.bs (by omega) hB.br (by omega) cD lI (cJ.sub hB.sub) hm hr).ex;refine⟨_,_,U,e1,aP _ rfl,hB.sub,w,Y,_,e,h1,h2,?_,rfl,rfl⟩;rw[qU,oF hL,zzo,hx]
theorem Qs(e2:r.sort=3){n:Nat}(cD:r.id=n)(lI:n<8){x:dv}(hx:X.au n=some x):LV S X r (X.pure.aK n none):=fun T X1 hX hL cJ=>by
 have qy:jL X1.au r.id=some x:=by rw[cD,my _ lI,hL.1];exact hx
 obtain⟨v,U,⟨rfl,hB⟩,e1⟩:=(jaf hX cJ e2 qy).ex;have ZF:=hX.toSub hB.sub;have cQ:=hB.lt;obtain⟨w,Y,⟨h1,h2⟩,e⟩:=(jeP ZF hB.bs hB.br cD lI).ex;refine⟨_,_,U,e1,aP _ rfl,hB.sub,w,Y,_,e,h1,h2,?_,rfl,rfl⟩;rw[qU,oF hL,Option.map_none]
theorem jac(e2:r.sort=4){k:Nat}(cD:r.id=k)(tN:k<4)(qy:fb r.n=true)(hv:(X.bg k).fy<r.n)(hm:dE r.cs=true):LV S X r (X.pure.dV k ⟨k,r.n,r.there,r.cs.map bare⟩):=fun T X1 hX hL cJ=>by
 obtain⟨v,U,⟨rfl,hB⟩,e1⟩:=(jah hX cJ e2 cD tN qy (by rw[hL.2.1];exact hv) (fun _=>hm)).ex;have ZF:=hX.toSub hB.sub;have cQ:=hB.lt;have hn2:r.n<=1099511627776:=by unfold fb at qy;simp at qy;exact qy.2
 obtain⟨w,Y,⟨a,ha,h1,h2⟩,e⟩:=(jeO ZF hB.bs (by omega) hB.br (by omega) cD tN (cJ.sub hB.sub) hm hn2).ex;refine⟨_,_,U,e1,aP _ rfl,hB.sub,w,Y,_,e,h1,h2,?_,rfl,rfl⟩;rw[J7,oF hL,ha]
theorem V6(e2:r.sort=5){n:Nat}(cD:r.id=n)(lI:n<8){x:dv}(hx:X.au n=some x)(qy:fb r.n=true)(hp:0<=r.pub/\r.pub<256)(hv:jH x.pure r.pub<r.n):LV S X r (X.pure.aK n (some ⟨x.ks.map bare,x.st,gl x.cur r.pub r.n⟩)):=fun T X1 hX hL cJ=>by
 have UA:X1.au n=some x:=by rw[hL.1];exact hx
 have jl:jL X1.au r.id=some x:=by rw[cD,my _ lI];exact UA
 obtain⟨v,U,⟨rfl,hB⟩,e1⟩:=(jae hX cJ e2 jl qy hp hv).ex;have ZF:=hX.toSub hB.sub;have cQ:=hB.lt;have hbx:=hB.bx;rw[jl]at hbx;obtain⟨w,Y,⟨h1,h2⟩,e⟩:=(jeN ZF hB.br hbx lI UA cJ.n).ex;refine⟨_,_,U,e1,aP _ rfl,hB.sub,w,Y,_,e,h1,h2,?_,rfl,rfl⟩;rw[qU,oF hL,zzo];rfl
theorem L0(h:bG S X)(n:Nat):xQ S (.ptr X.b 0 26 27) [.int .i64 n]=some ⟨S.h.set X.b (.row ({X with cL:=n}:cT).c 0 0 false 110),S.nx⟩:=by
 simp only[eC,iT,h.row,dO];rw[if_pos ⟨trivial,by simp,trivial⟩];rfl
theorem NR(h:bG S X)(n:Nat):bG ⟨S.h.set X.b (.row ({X with cL:=n}:cT).c 0 0 false 110),S.nx⟩ {X with cL:=n}/\eZ X {X with cL:=n} S ⟨S.h.set X.b (.row ({X with cL:=n}:cT).c 0 0 false 110),S.nx⟩:=
 h.own rfl rfl (fun id _ hi=>ae _ _ hi) (zzk _) (aa _ _ _) h.aC (fun i x hi hx=>.inl hx) (fun i hi=>.inl rfl)
def xd(X:cT)(r:Rec):Prop:=∀id,(aW r.p r.cs id\/aE r.sv=id+1)->¬X.wf id
theorem da.evo{X':cT}(h:da S r)(ho:xd X r)(he:eZ X X' S T):da T r:=
 have hp:∀id,aW r.p r.cs id->T.h.get id=S.h.get id:=fun id e=>he.ca id (aB.aU h.pred e) (ho id (.inl e))
 ⟨aB.agree h.pred hp he.nx,h.sl.agree (fun id e=>he.ca id (by have:=h.sl.old;omega) (ho id (.inr e))) he.nx,h.num,h.n,h.Fu,h.len⟩
theorem GM{r:Rec}(h:∀c,c∈r.cs->cy c)(hn:r.n<18446744073709551616)(hs:∀t,t∈r.st->t.2<18446744073709551616)(h8:r.st.length<=8):(cX r).length<=3000:=by
 have a1:=cO _ (fS r.sort);have a2:=cO _ (fS r.id);have a3:=cO _ (fS r.pub);have a4:=cO _ hn;have a5:(iK (iX r.cs)).length<=10+2410:=rj (wK h) (by omega);have a6:=cO r.st.length (by omega);have a7:=dZ (f:=fB) (k:=20) (l:=r.st) fun t ht=>tC (hs t ht);have a8:r.st.length*20<=8*20:=zzi _ h8;have b1:=cO 1 (by decide);have b0:=cO 0 (by decide);unfold cX xr;rw[zza];split
 .omega
 .split
  .simp only[zza];omega
  .split
   .omega
   .split
    .split<;>simp only[zza]<;>omega
    .split
     .simp only[zza];omega
     .simp;omega
theorem vf(r:List Nat):(di r).length<=2056:=by
 unfold di;split
 .rw[pQ];omega
 .simp
theorem HF{r:List Nat}(h:mZ r):mZ (di r):=by
 unfold di;split
 .exact Qg h
 .exact mZ.nil
theorem nt91:Tryz.f91.ntmps=82:=by kernel_rfl
theorem Wl(h:bG S X)(cJ:da S r)(ho:xd X r)(CW:X.cL<64)(ok:X.D.pd.ok)(hs8:r.st.length<=8){P':PB}(hd:LV S X r P'):
  ah C1 91 [.ptr X.b 0 0 27,.agg r.c] S fun v T=>∃(e:Int)(X':cT),v=.int .i64 e/\bG T X'/\eZ X X' S T/\X'.D.pd.ok/\((e≠0/\X'.pure=X.pure/\X'.cL=X.cL)\/(e=0/\X'.pure=P'/\X'.cL=X.cL+1))/\oR X.D.pd (aq (di (cX r)))=(e,X'.D.pd)/\X'.D.dp=X.D.dp:=by
 obtain⟨S1,bC⟩:∃S1:AS,S1=⟨S.h.set S.nx (.row r.c 0 0 false 115),S.nx+1⟩:=⟨_,rfl⟩
 have s1:Sub S S1:=by rw[bC];exact seg.cq
 have g1:S1.h.get S.nx=some (.row r.c 0 0 false 115):=by rw[bC];exact aa _ _ _
 have n1:S1.nx=S.nx+1:=by rw[bC]
 have fR:=bC.symm;clear bC;have hX1:=h.toSub s1;obtain⟨fv,T1,⟨t1,w1,gw1⟩,H0⟩:=(AP (cJ.sub s1) hs8).ex;have sT:=GM cJ.num cJ.n cJ.Fu hs8;obtain⟨x,T2,⟨w,e,rfl,t2,w2,gw2⟩,jeT⟩:=(Vt gw1.1 (nz cJ.num) (qO r) (by omega)).ex;have s2:=(s1.trans t1).trans t2;have hX2:=h.toSub s2;have vG:=vf (cX r);have hdlt:=h.iE.C8;have t1n:=t1.nx;obtain⟨x,T3,⟨rfl,D3,d1,d2,d3,d4⟩,e25⟩:=(De (D:=X.D) hX2.iE ok (name:=[98,111,111,107]) (by decide) (by decide) gw2.1 (by unfold jI at w2;omega) (by rw[aA];omega)).ex;obtain⟨Nl,v3⟩:=hX2.onD d1 d3 d4;have ok3:D3.pd.ok:=by rw[d2];exact ok.append _ _
 obtain⟨e3,he3⟩:∃e3,e3=(X.D.pd.append [98,111,111,107] (aq (di (cX r)))).1:=⟨_,rfl⟩
 rw[<-he3]at e25;have g2:=((t1.trans t2).h _ (by omega)).trans g1;have eI:=h.row;have Ac:=hX1.row;have jbH:=hX2.row;have k1:=aj cJ.pred.sl;have k2:=aj cJ.sl;have k3:=cJ.pred.sl.cells;have k4:=cJ.sl.cells;have v03:eZ X {X with D:=D3} S T3:=(eZ.of s2).trans v3;unfold cT.c at eI Ac jbH;have gg2:=g2;unfold Rec.c at fR g1 g2 H0;have jjd:¬(64:Int)<=X.cL:=by omega
 refine cG (cK _) (cM _ rfl) jeC rfl jdc (by simp) fun F hn m8=>?_;rw[nt91]at hn;have s0:=m8 0;have xq:=m8 1;clear m8;simp only[zzb,zzd,zzf,Rec.c]at s0 xq;simp[-cz,s0,xq,k3,k4,fR,Ac,jjd];rw[cz];simp[-cz,s0,xq,k1,k2,k3,k4,fR,g1,Ac,jjd,aP,H0,jeT,gw1.1.np,aj gw1.1,gw2.1.np,aj gw2.1,jbH,e25];rw[cz];by_cases z3:e3=0
 case neg=>
  simp[s0,z3];refine⟨_,Nl,v03,ok3,⟨rfl,rfl⟩,?_,d3⟩;unfold oR;rw[<-he3,if_neg z3,he3];show X.D.pd.append _ _=(_,D3.pd);rw[d2]
 rw[z3]at e25;obtain⟨x,T4,⟨rfl,D4,f1,f2,f3,f4⟩,e26⟩:=(Mc (D:=D3) d1 ok3 (name:=[98,111,111,107]) (by decide) (by decide)).ex;obtain⟨hX4,v4⟩:=Nl.onD f1 f3 f4;have ok4:D4.pd.ok:=by rw[f2];exact ok3.sync _
 obtain⟨e4,he4⟩:∃e4,e4=(D3.pd.sync [98,111,111,107]).1:=⟨_,rfl⟩
 rw[<-he4]at e26;have v04:eZ X {X with D:=D4} S T4:=v03.trans v4;have Ve:oR X.D.pd (aq (di (cX r)))=D3.pd.sync [98,111,111,107]:=by
  unfold oR;rw[<-he3,if_pos z3,<-d2]
 have UH:=Nl.row;have Ab:=hX4.row;unfold cT.c at UH Ab;simp only[]at UH Ab;have hb4:T4.h.get S.nx=some (.row r.c 0 0 false 115):=by
  have q0:¬X.wf S.nx:=fun e=>by have:=h.tj e;omega
  have q1:S.nx<T2.nx:=by have:=s2.nx;have:=t2.nx;omega
  have q3:T3.h.get S.nx=T2.h.get S.nx:=v3.ca _ q1 q0;have q4:T4.h.get S.nx=T3.h.get S.nx:=v4.ca _ (by have:=v3.nx;omega) (fun e=>q0 (v3.aU _ q1 e));rw[q4,q3];exact gg2
 have qA:({X with D:=D4}:cT).b=X.b:=rfl;simp[-cz,s0,z3,UH,aP,e26];rw[cz];by_cases z4:e4=0
 case neg=>
  simp[s0,z4];refine⟨_,hX4,v04,ok4,⟨rfl,rfl⟩,?_,f3.trans d3⟩;rw[Ve,he4];show D3.pd.sync _=(_,D4.pd);rw[f2]
 obtain⟨g,caps,U,e51,xg,hU,w',Y,X5,eg,hX5,v5,p5,D5,r5⟩:=hd T4 {X with D:=D4} hX4 ⟨rfl,rfl,rfl,rfl,rfl⟩ (cJ.evo ho v04);have v05:eZ X X5 S Y:=v04.trans ((eZ.of hU).trans v5);have hb5:=v05.b;have r5':X5.cL=X.cL:=r5;have hw6:=L0 hX5 (X.cL+1);obtain⟨hX6,v6⟩:=NR hX5 (X.cL+1);obtain⟨Z,hZ⟩:∃Z:AS,Z=⟨Y.h.set X5.b (.row ({X5 with cL:=X.cL+1}:cT).c 0 0 false 110),Y.nx⟩:=⟨_,rfl⟩
 rw[<-hZ]at hw6 hX6 v6;have MY:=hX5.row;unfold cT.c at MY;rw[hb5]at MY hw6;rw[r5']at MY;have xW:=cp (i:=X.cL) (by omega);unfold Rec.c at hb4 e51;have fin:∃X':cT,bG Z X'/\eZ X X' S Z/\X'.D.pd.ok/\(X'.pure=P'/\X'.cL=X.cL+1)/\oR X.D.pd (aq (di (cX r)))=(0,X'.D.pd)/\X'.D.dp=X.D.dp:=⟨_,hX6,v05.trans v6,by show X5.D.pd.ok;rw[D5];exact ok4,⟨p5,rfl⟩,by
  rw[Ve];show _=(0,X5.D.pd);rw[D5];show _=(0,D4.pd);rw[f2,<-z4,he4],by
  show X5.D.dp=X.D.dp;rw[D5];exact f3.trans d3⟩
 simp[s0,z4];refine cu [.p,.p,.p,.r 0 0,.e [],.e []] (n:=82) (by kernel_rfl) (by simp[hn]) ?_;simp[s0,Ab,hb4,k1,k2,aP,e51,xg,eg,MY,xW];rw[hZ]at fin;simpa[cT.c,hb5]using fin
end
end Go.Proofs.YtdknlbnljfdhgaaGreatDoor.bk
end
