/-
  The order of values.
-/
import Derived.Test.YthklfandhmkpiaaGreatDoorPartA
import Derived.Test.YthklfandhmkpiaaGreatDoorPartE
import Derived.Test.YthklfandhmkpiaaGreatDoorPartD
open List renaming length_cons->zza,append_assoc->zzb,cons_append->zzc,mem_cons_of_mem->zzd,length_nil->zze,length_append->zzf,mem_cons_self->zzg,nil_append->zzh,flatMap_cons->zzi,getElem?_eq_getElem->zzk,getElem?_map->zzn,take_length->zzo,map_cons->zzs,take_succ_eq_append_getElem->zzt,length_take->zzu,getElem?_cons_zero->zzv,take_of_length_le->zzw
open List.cons renaming injEq->zzj
open Bool renaming and_eq_true->zzl
open Nat renaming le_refl->zzm,lt_succ_self->zzp,le_trans->zzq,zero_le->zzr
set_option linter.unusedVariables false
set_option linter.unusedSimpArgs false
set_option maxRecDepth 20000
noncomputable section
namespace Go.Proofs.YthklfandhmkpiaaGreatDoor.mod
open Go Go.Am
theorem fn193:C0.fns.get 221=some Tryz.f221:=by kernel_rfl
theorem ok193:okF C0 Tryz.f221=true:=by kernel_rfl
theorem fn194:C0.fns.get 248=some Tryz.f248:=by kernel_rfl
theorem ok194:okF C0 Tryz.f248=true:=by kernel_rfl
theorem fn195:C0.fns.get 220=some Tryz.f220:=by kernel_rfl
theorem ok195:okF C0 Tryz.f220=true:=by kernel_rfl
theorem fn196:C0.fns.get 257=some Tryz.f257:=by kernel_rfl
theorem ok196:okF C0 Tryz.f257=true:=by kernel_rfl
theorem fn214:C0.fns.get 246=some Tryz.f246:=by kernel_rfl
theorem ok214:okF C0 Tryz.f246=true:=by kernel_rfl
theorem fn215:C0.fns.get 258=some Tryz.f258:=by kernel_rfl
theorem ok215:okF C0 Tryz.f258=true:=by kernel_rfl
theorem fn216:C0.fns.get 245=some Tryz.f245:=by kernel_rfl
theorem ok216:okF C0 Tryz.f245=true:=by kernel_rfl
theorem fn161:C0.fns.get 247=some Tryz.f247:=by kernel_rfl
theorem ok161:okF C0 Tryz.f247=true:=by kernel_rfl
def CH(b:Bool):Int:=cond b 1 0
theorem rank(b:Bool)(S:AS):az C0 257 [.bool b] S fun v T=>v=.int .i64 (CH b)/\T=S:=by
 refine bD (dL _) (dF _ rfl) fn196 rfl ok196 (by simp) fun F hn s0=>?_;cases b<;>simp[s0,CH]
def xH(a b:Int):Int:=if a<b then -1 else if b<a then 1 else 0
def cmpS(a b:List Nat):Int:=cond (nK a b) (-1) (cond (ph a b) 0 1)
theorem nan214(a:Int){S:AS}{Q:AV->AS->Prop}:az C0 246 [.int .i64 a] S Q=Q (.bool false) S:=by
 refine az.eq (bD (dL _) (dF _ rfl) fn214 rfl ok214 (by simp) fun F hn s0=>?_);simp[s0]
theorem nan215(a:Int){S:AS}{Q:AV->AS->Prop}:az C0 258 [.int .i64 a] S Q=Q (.bool false) S:=by
 refine az.eq (bD (dL _) (dF _ rfl) fn215 rfl ok215 (by simp) fun F hn s0=>?_);simp[s0]
theorem Bm(a b:Int){S:AS}{Q:AV->AS->Prop}:az C0 221 [.int .i64 a,.int .i64 b] S Q=Q (.int .i64 (xH a b)) S:=by
 refine az.eq (bu (dL _) (dF _ rfl) fn193 rfl ok193 (by simp) fun F hn s0 s1=>?_);unfold xH;by_cases h1:a<b
 .simp[s0,s1,h1,aK,nan214]
 by_cases h2:b<a
 .simp[s0,s1,h1,h2,aK,nan214]
 simp[s0,s1,h1,h2,aK,nan214]
theorem cmp194(a b:Int){S:AS}{Q:AV->AS->Prop}:az C0 248 [.int .i64 a,.int .i64 b] S Q=Q (.int .i64 (xH a b)) S:=by
 refine az.eq (bu (dL _) (dF _ rfl) fn194 rfl ok194 (by simp) fun F hn s0 s1=>?_);unfold xH;by_cases h1:a<b
 .simp[s0,s1,h1,aK,nan215]
 by_cases h2:b<a
 .simp[s0,s1,h1,h2,aK,nan215]
 simp[s0,s1,h1,h2,aK,nan215]
theorem cmp216(a b:List Nat){S:AS}{Q:AV->AS->Prop}:az C0 245 [.str a,.str b] S Q=Q (.int .i64 (cmpS a b)) S:=by
 refine az.eq (bu (dL _) (dF _ rfl) fn216 rfl ok216 (by simp) fun F hn s0 s1=>?_);unfold cmpS;cases h1:nK a b<;>cases h2:ph a b<;>simp[s0,s1,DP,h1,h2]
theorem Bl(a b:List Nat){S:AS}{Q:AV->AS->Prop}:az C0 220 [.str a,.str b] S Q=Q (.int .i64 (cmpS a b)) S:=by
 refine az.eq (bu (dL _) (dF _ rfl) fn195 rfl ok195 (by simp) fun F hn s0 s1=>?_);simp[s0,s1,aK,cmp216]
def cmpV(a b:kH):Int:=
 if a.kind≠b.kind then xH a.kind b.kind else if a.kind=1 then xH a.num b.num else if a.kind=2 then cmpS a.str b.str else if a.kind=3 then xH (CH a.bool) (CH b.bool) else 0
theorem nt161:Tryz.f247.ntmps=43:=by kernel_rfl
theorem compare(a b:kH)(S:AS):az C0 247 [.agg (bq a),.agg (bq b)] S fun r T=>r=.int .i64 (cmpV a b)/\Sub S T:=by
 obtain⟨v,T,⟨rfl,hT⟩,e⟩:=(has a ⟨(S.h.set S.nx (.row (bq a) 0 0 false 92)).set (S.nx+1) (.row (bq b) 0 0 false 92),S.nx+2⟩).ex;have kW:Sub S T:=Sub.trans pY hT;have g0:T.h.get (S.nx+1)=some (.row (bq b) 0 0 false 92):=by
  rw[hT.h _ (zzp _)];exact get_set_same _ _ _
 refine ej (dL _) (dF _ rfl) fn161 rfl ok161 (by simp) fun F hn hs=>?_;rw[nt161]at hn;have s0:=hs 0;have s1:=hs 1;clear hs;obtain⟨ak,an,ax,ab⟩:=a;obtain⟨bk,bn,bx,bb⟩:=b;simp only[zzv,List.getElem?_cons_succ,Option.getD_some,bq,AU]at s0 s1 e g0;unfold cmpV;by_cases hk:ak=bk
 .subst hk;by_cases h1:ak=1
  .subst h1;simp[s0,s1,aK,e,g0,cmp194,kW]
  by_cases h2:ak=2
  .subst h2;simp at e;simp[s0,s1,aK,e,g0,Bl,kW]
  by_cases h3:ak=3
  .subst h3;simp at e;obtain⟨r1,T1,⟨rfl,rfl⟩,e1⟩:=(rank ab T).ex;obtain⟨r2,T2,⟨rfl,rfl⟩,e2⟩:=(rank bb T1).ex;simp[s0,s1,aK,e,g0,hn];refine bg [.p,.e [],.p,.r 1 0,.e [],.e [],.p] (n:=43) (by kernel_rfl) (by simp[hn]) ?_;simp[s0,s1,aK,e,e1,e2,g0,Bm,kW]
  .simp[h1,h2,h3]at e;simp[s0,s1,h1,h2,h3,aK,e,g0,kW]
 .simp[s0,s1,hk,aK,Bm,pY]
end Go.Proofs.YthklfandhmkpiaaGreatDoor.mod
namespace Go.Proofs.YthklfandhmkpiaaGreatDoor.sh
open Go Go.Am
theorem zf50:C0.fns.get 50=some Tryz.f50:=by kernel_rfl
theorem zo50:okF C0 Tryz.f50=true:=by kernel_rfl
@[simp] theorem z_ag74:aX C0 74=some true:=by kernel_rfl
@[simp] theorem z_sz74:aH C0 74=some 15:=by kernel_rfl
@[simp] theorem z_ze74:zeroOf C0 74=some (.agg [.int .i64 0,.int .i64 0,.int .i64 0,.int .i64 0,.int .i64 0,.int .u64 0,.ar,.str [],.ar,.int .i64 0,.int .i64 0,.int .i64 0,.ar,.ar,.ar])/\fieldAt C0 74 0=some 0/\fieldAt C0 74 1=some 1/\fieldAt C0 74 2=some 2/\fieldAt C0 74 6=some 6/\fieldAt C0 74 7=some 7/\fieldAt C0 74 3=some 3/\fieldAt C0 74 9=some 12/\fieldAt C0 74 4=some 4/\fieldAt C0 74 5=some 5:=by and_intros<;>kernel_rfl
@[simp] theorem z_fa74_8:fieldAt C0 74 8=some 9/\aX C0 45=some true/\aH C0 45=some 3/\fieldAt C0 45 0=some 0/\fieldAt C0 45 1=some 1/\fieldAt C0 45 2=some 2/\fieldAt C0 74 10=some 13/\aX C0 47=some false/\aH C0 47=some 1/\fieldAt C0 74 11=some 14:=by and_intros<;>kernel_rfl
@[simp] theorem z_st47:n9 C0 47=some (112,1,2):=by kernel_rfl
@[simp] theorem qw:aX C0 112=some false:=by kernel_rfl
@[simp] theorem z_cv112_3:kq C0 112 3=some .i64:=by kernel_rfl
theorem zf52:C0.fns.get 52=some Tryz.f52:=by kernel_rfl
theorem zo52:okF C0 Tryz.f52=true:=by kernel_rfl
theorem zf25:C0.fns.get 25=some Tryz.f25:=by kernel_rfl
theorem zo25:okF C0 Tryz.f25=true:=by kernel_rfl
theorem zf24:C0.fns.get 24=some Tryz.f24:=by kernel_rfl
theorem zo24:okF C0 Tryz.f24=true:=by kernel_rfl
@[simp] theorem z_st26:n9 C0 26=some (74,15,208):=by kernel_rfl
theorem zf8:C0.fns.get 8=some Tryz.f8:=by kernel_rfl
theorem zo8:okF C0 Tryz.f8=true:=by kernel_rfl
theorem zf55:C0.fns.get 55=some Tryz.f55:=by kernel_rfl
theorem zo55:okF C0 Tryz.f55=true:=by kernel_rfl
theorem zf108:C0.fns.get 108=some Tryz.f108:=by kernel_rfl
theorem zo108:okF C0 Tryz.f108=true:=by kernel_rfl
theorem zf100:C0.fns.get 100=some Tryz.f100:=by kernel_rfl
theorem zo100:okF C0 Tryz.f100=true:=by kernel_rfl
theorem zf101:C0.fns.get 101=some Tryz.f101:=by kernel_rfl
theorem zo101:okF C0 Tryz.f101=true:=by kernel_rfl
theorem zf98:C0.fns.get 98=some Tryz.f98:=by kernel_rfl
theorem zo98:okF C0 Tryz.f98=true:=by kernel_rfl
theorem zf134:C0.fns.get 134=some Tryz.f134:=by kernel_rfl
theorem zo134:okF C0 Tryz.f134=true:=by kernel_rfl
theorem zf182:C0.fns.get 182=some Tryz.f182:=by kernel_rfl
theorem zo182:okF C0 Tryz.f182=true:=by kernel_rfl
theorem zf183:C0.fns.get 183=some Tryz.f183:=by kernel_rfl
theorem zo183:okF C0 Tryz.f183=true:=by kernel_rfl
@[simp] theorem z_ag51:aX C0 51=some false:=by kernel_rfl
theorem zf222:C0.fns.get 222=some Tryz.f222:=by kernel_rfl
theorem zo222:okF C0 Tryz.f222=true:=by kernel_rfl
theorem zf223:C0.fns.get 223=some Tryz.f223:=by kernel_rfl
theorem zo223:okF C0 Tryz.f223=true:=by kernel_rfl
theorem zf219:C0.fns.get 219=some Tryz.f219:=by kernel_rfl
theorem zo219:okF C0 Tryz.f219=true:=by kernel_rfl
theorem zf9:C0.fns.get 9=some Tryz.f9:=by kernel_rfl
theorem zo9:okF C0 Tryz.f9=true:=by kernel_rfl
@[simp] theorem z_st22:n9 C0 22=some (50,15,208):=by kernel_rfl
@[simp] theorem z_ag50:aX C0 50=some true:=by kernel_rfl
@[simp] theorem z_sz50:aH C0 50=some 15:=by kernel_rfl
@[simp] theorem z_ze50:zeroOf C0 50=some (.agg [.int .i64 0,.int .i64 0,.int .i64 0,.int .i64 0,.int .i64 0,.int .u64 0,.ar,.str [],.ar,.int .i64 0,.int .i64 0,.int .i64 0,.ar,.ar,.ar])/\fieldAt C0 50 0=some 0/\fieldAt C0 50 1=some 1/\fieldAt C0 50 2=some 2/\fieldAt C0 50 3=some 3/\fieldAt C0 50 4=some 4/\fieldAt C0 50 5=some 5/\fieldAt C0 50 6=some 6/\fieldAt C0 50 7=some 7/\fieldAt C0 50 8=some 9:=by and_intros<;>kernel_rfl
@[simp] theorem z_fa50_10:fieldAt C0 50 10=some 13/\fieldAt C0 50 11=some 14/\fieldAt C0 50 9=some 12:=by and_intros<;>kernel_rfl
@[simp] theorem z_un26:bJ C0 26=some (.slice 74):=by kernel_rfl
theorem zf16:C0.fns.get 16=some Tryz.f16:=by kernel_rfl
theorem zo16:okF C0 Tryz.f16=true:=by kernel_rfl
theorem zf17:C0.fns.get 17=some Tryz.f17:=by kernel_rfl
theorem zo17:okF C0 Tryz.f17=true:=by kernel_rfl
@[simp] theorem zP:n9 C0 58=some (54,5,72):=by kernel_rfl
@[simp] theorem z_fa54_0:fieldAt C0 54 0=some 0/\fieldAt C0 54 1=some 1/\fieldAt C0 54 2=some 2/\aH C0 111=some 4/\zeroOf C0 111=some (.agg [.int .i64 0,.int .i64 0,.int .u64 0,.ar])/\fieldAt C0 54 3=some 3/\aH C0 51=some 1/\fieldAt C0 54 4=some 4:=by and_intros<;>kernel_rfl
@[simp] theorem z_ag52:aX C0 52=some false:=by kernel_rfl
@[simp] theorem z_sz52:aH C0 52=some 1:=by kernel_rfl
@[simp] theorem E4:n9 C0 52=some (117,12,136):=by kernel_rfl
@[simp] theorem zQ:aX C0 117=some true:=by kernel_rfl
@[simp] theorem zN:aH C0 117=some 12:=by kernel_rfl
@[simp] theorem z_ze117:zeroOf C0 117=some (.agg [.int .i64 0,.int .i64 0,.int .i64 0,.int .i64 0,.int .u64 0,.int .u64 0,.int .u64 0,.str [],.ar,.int .u64 0,.int .u64 0,.ar])/\fieldAt C0 111 3=some 3/\aX C0 109=some false/\aH C0 109=some 1/\fieldAt C0 117 0=some 0/\fieldAt C0 117 1=some 1/\fieldAt C0 117 2=some 2/\fieldAt C0 117 3=some 3/\fieldAt C0 117 4=some 4/\fieldAt C0 117 5=some 5:=by and_intros<;>kernel_rfl
@[simp] theorem z_fa115_0:fieldAt C0 115 0=some 0/\aX C0 102=some true/\aH C0 102=some 4/\fieldAt C0 115 1=some 4/\aX C0 100=some true/\aH C0 100=some 2/\fieldAt C0 117 6=some 11:=by and_intros<;>kernel_rfl
@[simp] theorem z_st109:n9 C0 109=some (108,13,144):=by kernel_rfl
@[simp] theorem z_un109:bJ C0 109=some (.slice 108):=by kernel_rfl
@[simp] theorem z_ag111:aX C0 111=some true:=by kernel_rfl
@[simp] theorem z_st56:n9 C0 56=some (111,4,48):=by kernel_rfl
@[simp] theorem z_un56:bJ C0 56=some (.slice 111):=by kernel_rfl
theorem zf20:C0.fns.get 20=some Tryz.f20:=by kernel_rfl
theorem zo20:okF C0 Tryz.f20=true:=by kernel_rfl
@[simp] theorem z_un58:bJ C0 58=some (.slice 54):=by kernel_rfl
theorem zf37:C0.fns.get 37=some Tryz.f37:=by kernel_rfl
theorem zo37:okF C0 Tryz.f37=true:=by kernel_rfl
@[simp] theorem z_ag54:aX C0 54=some true:=by kernel_rfl
@[simp] theorem z_sz54:aH C0 54=some 5:=by kernel_rfl
@[simp] theorem z_ze54:zeroOf C0 54=some (.agg [.int .i64 0,.int .i64 0,.int .u64 0,.ar,.ar])/\fieldAt C0 111 0=some 0/\fieldAt C0 111 1=some 1/\fieldAt C0 111 2=some 2:=by and_intros<;>kernel_rfl
@[simp] theorem zR:aX C0 108=some true:=by kernel_rfl
@[simp] theorem zO:aH C0 108=some 13:=by kernel_rfl
@[simp] theorem z_ze108:zeroOf C0 108=some (.agg [.int .i64 0,.int .i64 0,.int .i64 0,.int .i64 0,.int .i64 0,.int .u64 0,.int .u64 0,.int .u64 0,.str [],.ar,.int .u64 0,.int .u64 0,.ar])/\fieldAt C0 108 0=some 0:=by and_intros<;>kernel_rfl
@[simp] theorem z_un51:bJ C0 51=some (.slice 3):=by kernel_rfl
@[simp] theorem z_fa108_1:fieldAt C0 108 1=some 1:=by kernel_rfl
@[simp] theorem z_ag106:aX C0 106=some true:=by kernel_rfl
@[simp] theorem z_sz106:aH C0 106=some 12:=by kernel_rfl
@[simp] theorem z_st180:n9 C0 180=some (106,12,136):=by kernel_rfl
@[simp] theorem z_un52:bJ C0 52=some (.slice 117):=by kernel_rfl
theorem zf90:C0.fns.get 90=some Tryz.f90:=by kernel_rfl
theorem zo90:okF C0 Tryz.f90=true:=by kernel_rfl
@[simp] theorem z_ze106:zeroOf C0 106=some (.agg [.int .i64 0,.int .i64 0,.int .i64 0,.int .i64 0,.int .u64 0,.int .u64 0,.int .u64 0,.str [],.ar,.int .u64 0,.int .u64 0,.ar])/\fieldAt C0 106 0=some 0/\fieldAt C0 106 1=some 1/\fieldAt C0 106 2=some 2/\fieldAt C0 106 3=some 3/\fieldAt C0 106 4=some 4/\fieldAt C0 106 5=some 5/\fieldAt C0 104 0=some 0/\fieldAt C0 104 1=some 4/\fieldAt C0 106 6=some 11:=by and_intros<;>kernel_rfl
theorem zf18:C0.fns.get 18=some Tryz.f18:=by kernel_rfl
theorem zo18:okF C0 Tryz.f18=true:=by kernel_rfl
theorem zf34:C0.fns.get 34=some Tryz.f34:=by kernel_rfl
theorem zo34:okF C0 Tryz.f34=true:=by kernel_rfl
theorem zf35:C0.fns.get 35=some Tryz.f35:=by kernel_rfl
theorem zo35:okF C0 Tryz.f35=true:=by kernel_rfl
theorem zf88:C0.fns.get 88=some Tryz.f88:=by kernel_rfl
theorem zo88:okF C0 Tryz.f88=true:=by kernel_rfl
@[simp] theorem z_ag104:aX C0 104=some true/\aH C0 104=some 6/\zeroOf C0 104=some (.agg [.int .u64 0,.int .u64 0,.str [],.ar,.int .u64 0,.int .u64 0])/\fieldAt C0 100 0=some 0/\fieldAt C0 100 1=some 1/\fieldAt C0 102 0=some 0/\fieldAt C0 102 1=some 1/\fieldAt C0 102 2=some 2:=by and_intros<;>kernel_rfl
theorem zf19:C0.fns.get 19=some Tryz.f19:=by kernel_rfl
theorem zo19:okF C0 Tryz.f19=true:=by kernel_rfl
theorem zf36:C0.fns.get 36=some Tryz.f36:=by kernel_rfl
theorem zo36:okF C0 Tryz.f36=true:=by kernel_rfl
theorem zf89:C0.fns.get 89=some Tryz.f89:=by kernel_rfl
theorem zo89:okF C0 Tryz.f89=true:=by kernel_rfl
theorem zf4:C0.fns.get 4=some Tryz.f4:=by kernel_rfl
theorem zo4:okF C0 Tryz.f4=true:=by kernel_rfl
theorem zf48:C0.fns.get 48=some Tryz.f48:=by kernel_rfl
theorem zo48:okF C0 Tryz.f48=true:=by kernel_rfl
open Go.Proofs.YthklfandhmkpiaaGreatDoor.dk
open Go.Proofs.YthklfandhmkpiaaGreatDoor.val (cN uq dc Cm)
theorem fn144:C0.fns.get 144=some Tryz.f144:=by kernel_rfl
theorem ok144:okF C0 Tryz.f144=true:=by kernel_rfl
theorem nt144:Tryz.f144.ntmps=25:=by kernel_rfl
theorem fn186:C0.fns.get 186=some Tryz.f186:=by kernel_rfl
theorem ok186:okF C0 Tryz.f186=true:=by kernel_rfl
theorem nt186:Tryz.f186.ntmps=30:=by kernel_rfl
theorem Eg(S:AS):aY C0 S .cap [48] [.ar]=.val (.int .i64 0) S:=by kernel_rfl
theorem copy_nil(S:AS)(id n:Nat):aY C0 S .copy [48,48] [.slice id 0 0 0 n 1 none,.ar]=.val (.int .i64 0) S:=by kernel_rfl
section
variable{S:AS}
theorem noz_run{n:Nat}(h1:1<=n)(h2:n<=281474976710656):extM (.mX 5) S [.int .i64 (n:Int)]=some (.slice S.nx 0 0 n n 1 none,⟨S.h.set S.nx (.row (fD n [.top]) 0 0 false 5),S.nx+1⟩):=by
 show cond (Nat.ble 1 n&&Nat.ble n 281474976710656) (some (dS n fun n=>(AV.slice S.nx 0 0 n n 1 none,(⟨S.h.set S.nx (.row (fD n [.top]) 0 0 false 5),Nat.succ S.nx⟩:AS)))) none=_;rw[aQ];have e1:Nat.ble 1 n=true:=by rw[cG];simp[h1]
 have e2:Nat.ble n 281474976710656=true:=by rw[cG];simp[h2]
 rw[e1,e2];rfl
theorem grow186{b n:Nat}{p:AV}(hb:S.h.get b=some (.row [p,.ar] 0 0 false 136))(hl:b<S.nx)(h1:1<=n)(h2:n<=281474976710656):
  az C0 186 [.ptr b 0 0 2,.int .i64 (n:Int)] S fun r T=>r=.tuple []/\T.h.get b=some (.row [p,.slice S.nx 0 0 0 n 1 none] 0 0 false 136)/\T.h.get S.nx=some (.row (fD n [.top]) 0 0 false 5)/\(∀id,id≠b->id<S.nx->T.h.get id=S.h.get id)/\T.nx=S.nx+1:=by
 have xi:=noz_run (S:=S) h1 h2;have hw:=IntWalk.i64_in (n:Int) (by omega);have w0:IntKind.i64.wrap 0=0:=by decide
 refine bu (dL _) (dF _ rfl) fn186 rfl ok186 (by simp) fun F hn s0 s1=>?_;rw[nt186]at hn;generalize fD n [AV.top]=row at xi;have hg:(⟨S.h.set S.nx (.row row 0 0 false 5),S.nx+1⟩:AS).h.get b=some (.row [p,.ar] 0 0 false 136):=by
  show (S.h.set S.nx _).get b=_;rw[ah _ _ (by omega)];exact hb
 have sv:∀(F:Fr),sl F 18=.int .i64 0->fL C0 F 48 (.slice S.nx 0 0 n n 1 none) none (some (.tmp 18)) none=some (.slice S.nx 0 0 0 n 1 none):=fun F h=>by
  rw[uI (cx:=C0) (F:=F) (v:=.slice S.nx 0 0 n n 1 none) (lo:=none) (hi:=some (.tmp 18)) (l:=0) (k:=0) Cm (by simp) (by simp) (by simp[h]) (zzm _) (zzr _)];rfl
 refine bg [.p,.p,.p,.r 0 0,.p,.p,.p,.p,.e [],.p,.p,.p,.r 1 0,.r 1 0,.p,.p] (n:=30) (by kernel_rfl) (by simp[hn]) ?_;simp[s0,s1,hb,exNoz,xi,hw,hg,Eg,w0,sv,copy_nil];exact⟨by omega,fun id e1 e2=>by rw[if_neg e1,if_neg (by omega)]⟩
theorem grow144{b n:Nat}(h:cN S b .ar [])(h1:1<=n)(h2:n<=281474976710656):
  az C0 144 [.ptr b 0 0 2,.int .i64 (n:Int)] S fun r T=>r=.tuple []/\∃v,cN T b v []/\(∀id,id≠b->id<S.nx->T.h.get id=S.h.get id)/\S.nx<=T.nx/\S.nx<aV v:=by
 obtain⟨r,S1,⟨rfl,g1,g2,g3⟩,e1⟩:=(uq h).ex;obtain⟨r,T,⟨rfl,q1,q2,q3,q4⟩,e2⟩:=(grow186 g1 (by rw[g3];exact h.lt) h1 h2).ex;refine bu (dL _) (dF _ rfl) fn144 rfl ok144 (by simp) fun F hn s0 s1=>?_;rw[nt144]at hn;have xf:¬((n:Int)<0):=by omega
 have hpos:(0:Int)<n:=by omega
 have hpos':0<n:=h1;simp[s0,s1,e1,aK,xf];refine iZ (n:=25) (by kernel_rfl) (by simp[hn]) ?_;simp[s0,s1,g1,e2,aK,hpos,hpos',Eg,show IntKind.i64.wrap 0=0 by decide];have pd:S1.nx=S.nx:=g3;have hbl:=h.lt;refine⟨_,⟨by omega,⟨_,q1,.inr rfl⟩,⟨⟨by simp[isSl,eS],by simp[lY,bH],by simp[sLen,bH],by simp[aV];omega⟩,.inr ⟨S1.nx,0,0,0,n,none,rfl,rfl,by omega,_,0,0,q2,zzm _,rfl⟩⟩,by simp[aV];omega⟩,fun id e1 e2=>(q3 id e1 (by omega)).trans (g2 id e1),by omega,by simp[aV];omega⟩
end
open Go.Proofs.YthklfandhmkpiaaGreatDoor.val (ff fJ pV)
theorem zn108:Tryz.f108.ntmps=75:=by kernel_rfl
def dE(l:List (List Nat)):List AV:=l.map AV.str
theorem ie(l:List (List Nat)):(dE l).length=l.length:=by simp[dE]
theorem qB{l:List (List Nat)}{i:Nat}{t:List Nat}(h:l[i]?=some t):(dE l)[i]?=some (.str t):=by unfold dE;rw[zzn,h];rfl
def hY(l:List (List Nat)):Nat:=(l.map List.length).sum
theorem yl{l:List (List Nat)}{i:Nat}{t:List Nat}(h:l[i]?=some t):hY (l.take (i+1))=hY (l.take i)+t.length:=by
 have hi:=(List.getElem?_eq_some_iff.1 h).1;have e:l[i]=t:=(List.getElem?_eq_some_iff.1 h).2;unfold hY;rw[zzt hi,e];simp
theorem sumL_le(l:List (List Nat))(i:Nat):hY (l.take i)<=hY l:=by
 have h:hY l=hY (l.take i)+hY (l.drop i):=by
  unfold hY;rw[<-List.sum_append,<-List.map_append,List.take_append_drop]
 omega
def cg(l:List (List Nat)):List Nat:=l.flatMap fun t=>32::t
theorem Ep{l:List (List Nat)}{i:Nat}{t:List Nat}(h:l[i]?=some t):cg (l.take (i+1))=cg (l.take i)++32::t:=by
 have hi:=(List.getElem?_eq_some_iff.1 h).1;have e:l[i]=t:=(List.getElem?_eq_some_iff.1 h).2;unfold cg;rw[zzt hi,e,List.flatMap_append];simp
theorem eU(l:List (List Nat)):(cg l).length=hY l+l.length:=by
 induction l with
 |nil=>rfl
 |cons t l ih=>
  unfold cg hY at *;rw[zzi,zzf,ih];simp;omega
section
variable{S:AS}
def lenH(S:AS)(u:AV)(l:List (List Nat))(k:Nat)(F':Fr)(S':AS):Prop:=
 ∃i:Nat,S'=S/\sl F' 0=u/\sl F' 1=.str [32]/\sl F' 39=u/\sl F' 40=.int .i64 l.length/\sl F' 41=.int .i64 i/\sl F' 5=.int .i64 ((l.length-1+hY (l.take i):Nat):Int)/\i<=l.length/\F'.n=75/\k=l.length-i
theorem lenH_mk{u:AV}{l:List (List Nat)}{k:Nat}{F':Fr}{S':AS}(i:Nat)(h1:S'=S)(h2:sl F' 0=u)(h3:sl F' 1=.str [32])(h4:sl F' 39=u)(h5:sl F' 40=.int .i64 l.length)(h6:sl F' 41=.int .i64 i)(h7:sl F' 5=.int .i64 ((l.length-1+hY (l.take i):Nat):Int))(h8:i<=l.length)(h9:F'.n=75)(cM:k=l.length-i):lenH S u l k F' S':=
 ⟨i,h1,h2,h3,h4,h5,h6,h7,h8,h9,cM⟩
def addH(S:AS)(b:Nat)(w:AV)(t0:List Nat)(l:List (List Nat))(k:Nat)(F':Fr)(S':AS):Prop:=
 ∃(i:Nat)(v:AV),cN S' b v (t0++cg (l.take i))/\Sub S S'/\S.nx<aV v/\sl F' 1=.str [32]/\sl F' 8=.ptr b 0 0 2/\sl F' 63=w/\sl F' 64=.int .i64 l.length/\sl F' 65=.int .i64 i/\i<=l.length/\F'.n=75/\k=l.length-i
theorem addH_mk{b:Nat}{w:AV}{t0:List Nat}{l:List (List Nat)}{k:Nat}{F':Fr}{S':AS}(i:Nat)(v:AV)(h1:cN S' b v (t0++cg (l.take i)))(h2:Sub S S')(h3:S.nx<aV v)(h4:sl F' 1=.str [32])(h5:sl F' 8=.ptr b 0 0 2)(h6:sl F' 63=w)(h7:sl F' 64=.int .i64 l.length)(h8:sl F' 65=.int .i64 i)(h9:i<=l.length)(cM:F'.n=75)(fC:k=l.length-i):addH S b w t0 l k F' S':=
 ⟨i,v,h1,h2,h3,h4,h5,h6,h7,h8,h9,cM,fC⟩
theorem join108{u:AV}{t0:List Nat}{l:List (List Nat)}(hu:Sl S u 1 (dE (t0::l)))(hb:∀t,t∈t0::l->∀c,c∈t->c<256)(h2:t0.length+hY l+l.length<=10000000000000):
  az C0 108 [u,.str [32]] S fun r T=>r=.str (t0++cg l)/\Sub S T:=by
 have u1:=hu.sl;have u2:=hu.gx;rw[ie]at u2;have uk:=aj hu;have l0:=dV (cx:=C0) (e:=9) (k:=0) hu (qB (l:=t0::l) (t:=t0) rfl) ag9;refine bu (dL _) (dF _ rfl) zf108 rfl zo108 (by simp) fun F hn s0 s1=>?_;rw[zn108]at hn;rw[zza]at u2;by_cases hl0:l.length=0
 .obtain rfl:=List.length_eq_zero_iff.1 hl0;simp[s0,s1,u1,u2,uk,l0];exact⟨rfl,Sub.refl _⟩
 obtain⟨m,hm⟩:∃m,m=l.length:=⟨_,rfl⟩
 rw[<-hm]at u2 h2 hl0;have c0:¬((m:Int)+1=0):=by omega
 have c1:¬((m:Int)+1=1):=by omega
 have c2:¬((m:Int)=0):=by omega
 have w1:=IntWalk.i64_in (m:Int) (by omega);obtain⟨q,hq⟩:∃q:Nat,9223372036854775807 / m=q:=⟨_,rfl⟩
 have hq1:1<q:=by rw[<-hq,Nat.lt_div_iff_mul_lt (by omega)];omega
 have hq2:q<9223372036854775808:=by rw[<-hq];exact Nat.lt_of_le_of_lt (Nat.div_le_self _ _) (by omega)
 have hqi:(9223372036854775807:Int).tdiv (m:Int)=(q:Int):=by rw[<-hq];rfl
 have w2:=IntWalk.i64_in (q:Int) (by omega);have c3:¬((q:Int)<=1):=by omega
 have c4:¬(q<=1):=by omega
 simp[s0,s1,u1,u2,uk,l0,c0,c1,c2,hl0,w1,hqi,w2,c3,c4,cI pV];have hL:(t0::l).length=m+1:=by rw[zza,hm]
 obtain⟨L,hLe⟩:∃L,L=t0::l:=⟨_,rfl⟩
 rw[<-hLe]at hu hL hb;have hsum:hY L<=10000000000000:=by rw[hLe];simp only[hY,zzs,List.sum_cons]at h2⊢;omega
 have hm0:hY (L.take 0)=0:=by simp[hY]
 refine aW (lenH S u L) (m+1) (lenH_mk 0 rfl (by simp[s0]) (by simp[s1]) (by simp) (by simp[hL]) (by simp) (by simp[hL,show hY []=0 from rfl]) (zzr _) (by simp[hn]) (by rw[hL];rfl)) ?_;clear s0 s1 hn;rintro k F' S'-⟨i,rfl,s0,s1,s39,s40,s41,s5,hi,hn,hk⟩;by_cases ck:i<L.length
 .obtain⟨t,hx⟩:∃t,L[i]?=some t:=⟨_,zzk ck⟩
  have ld:=dV (cx:=C0) (e:=9) hu (qB hx) ag9;have kj:=yl hx;have hle:=sumL_le L (i+1);obtain⟨z,hz⟩:∃z,z=L.length-1+hY (L.take i):=⟨_,rfl⟩
  rw[<-hz]at s5;have hz2:z+t.length<=20000000000000:=by omega
  have w1:=IntWalk.i64_in (9223372036854775807-(z:Int)) (by omega);have w2:=IntWalk.i64_in ((z:Int)+t.length) (by omega);have w3:=IntWalk.i64_in ((i:Int)+1) (by omega);have c1:¬(9223372036854775807-(z:Int)<t.length):=by omega
  have u3:sLen u=L.length:=by omega
  simp[s0,s1,s39,s40,s41,s5,ck,u1,u3,uk,ld,cI pV,w1,w2,w3,c1];exact⟨L.length-(i+1),by omega,lenH_mk (i+1) rfl (by simp[s0]) (by simp[s1]) (by simp[s39]) (by simp[s40]) (by simp) (by simp;omega) ck (by simp[hn]) rfl⟩
 .obtain rfl:i=L.length:=by omega
  rw[zzo]at s5;obtain⟨z,hz⟩:∃z,z=L.length-1+hY L:=⟨_,rfl⟩
  rw[<-hz]at s5;have hA:Sub S' ⟨S'.h.set S'.nx (.row [.cT,.ar] 0 0 false 136),S'.nx+1⟩:=dc;have h0:cN ⟨S'.h.set S'.nx (.row [.cT,.ar] 0 0 false 136),S'.nx+1⟩ S'.nx .ar []:=⟨zzp _,⟨_,get_set_same _ _ _,.inl rfl⟩,Gw.nil,by simp[aV]⟩
  obtain⟨r,S1,⟨rfl,v1,b1,k1,n1,m1⟩,e1⟩:=(grow144 (n:=z) h0 (by omega) (by omega)).ex;have dZ:Sub S' S1:=⟨fun id cw=>(k1 id (by omega) (by show id<S'.nx+1;omega)).trans (hA.h id cw),zzq hA.nx n1⟩
  have m1':S'.nx<aV v1:=by have:S'.nx+1<aV v1:=m1;omega
  have ht0:t0.length<=10000000000000:=by omega
  obtain⟨r,S2,⟨rfl,v2,b2,k2,n2,m2⟩,e2⟩:=(ff b1 t0 (by simp;omega)).ex;have pO:Sub S' S2:=⟨fun id cw=>(k2 id (by have:=dZ.nx;omega) (by omega) (by omega)).trans (dZ.h id cw),zzq dZ.nx n2⟩
  have m2':S'.nx<aV v2:=by have:=dZ.nx;omega
  have hw:Sl S' (uE u 1 (m+1)) 1 (dE l):=by
   have:=hu.cut (l:=1) (k:=m+1) (by omega) (by omega);have e:((dE L).drop (1*1)).take ((m+1-1)*1)=dE l:=by
    rw[hLe];show (dE l).take ((m+1-1)*1)=dE l;exact zzw (by rw[ie,hm];omega)
   rw[e]at this;exact this
  obtain⟨w,hwe⟩:∃w,w=uE u 1 (m+1):=⟨_,rfl⟩
  rw[<-hwe]at hw;have w1:=hw.sl;have w2:=hw.gx;rw[ie,<-hm]at w2;have wk:=aj hw;have l1:=dV (cx:=C0) (e:=9) (k:=0) (hu.toSub dZ) (qB (l:=L) (t:=t0) (by rw[hLe];rfl)) ag9;simp[s0,s1,s39,s40,s41,s5,e1,e2,aK,l1,u1,u2,uk,l0,<-hwe,w1,w2,wk];have hbl:(cg (l.take 0))=[]:=by simp[cg]
  refine aW (addH S' S'.nx w t0 l) m (addH_mk 0 v2 (by rw[hbl];simpa using b2) pO m2' (by simp[s1]) (by simp) (by simp) (by simp[hm]) (by simp) (zzr _) (by simp[hn]) (by omega)) ?_;have lb:∀t,t∈l->∀c,c∈t->c<256:=fun t ht=>hb t (by rw[hLe];exact zzd _ ht);have lt0:∀c,c∈t0->c<256:=hb t0 (by rw[hLe];exact zzg ..);have hlen:=eU l;have qe:hY l<=10000000000000:=by omega
  clear s0 s1 s39 s40 s41 s5 hn e1 e2 b1 b2 k1 k2 n1 n2 m1 m2 m1' m2' h0 l1 dZ pO ck hi u1 u2 hbl;rintro k F' T-⟨i,v,hB,hT,hv,s1,s8,s63,s64,s65,hi,hn,hk⟩;have AY:=hT.nx;by_cases ck:i<l.length
  .obtain⟨t,hx⟩:∃t,l[i]?=some t:=⟨_,zzk ck⟩
   have ld:=dV (cx:=C0) (e:=9) (hw.toSub hT) (qB hx) ag9;have kj:=Ep hx;have hle:=sumL_le l (i+1);have jJ:=yl hx;have hbt:=eU (l.take i);have htl:(l.take i).length<=m:=by rw[zzu];omega
   have tN:(t0++cg (l.take i)).length<=30000000000000:=by rw[zzf,hbt];omega
   obtain⟨r,T1,⟨rfl,w1',c1,k1,n1,m1⟩,e1⟩:=(ff hB [32] (by simp only[zza,zze];omega)).ex;have rn:Sub S' T1:=⟨fun id cw=>(k1 id (by omega) (by omega) (by omega)).trans (hT.h id cw),zzq AY n1⟩
   obtain⟨r,T2,⟨rfl,w2',c2',k2,n2,m2⟩,e2⟩:=(ff c1 t (by simp only[zzf,zza,zze]at tN⊢;omega)).ex;have kW:Sub S' T2:=⟨fun id cw=>(k2 id (by omega) (by omega) (by omega)).trans (rn.h id cw),zzq rn.nx n2⟩
   have w3:=IntWalk.i64_in ((i:Int)+1) (by omega);have BO:i<m:=by omega
   have c2'':cN T2 S'.nx w2' (t0++cg (l.take (i+1))):=by rw[kj];simpa using c2'
   simp[s1,s8,s63,s64,s65,ck,BO,<-hm,w1,w2,wk,ld,e1,e2,aK,w3];exact⟨l.length-(i+1),by omega,addH_mk (i+1) w2' c2'' kW (by omega) (by simp[s1]) (by simp[s8]) (by simp[s63]) (by simp[s64]) (by simp) ck (by simp[hn]) rfl⟩
  .obtain rfl:i=l.length:=by omega
   rw[zzo]at hB;have jQ:∀c,c∈t0++cg l->c<256:=fun c hc=>by
    rcases List.mem_append.1 hc with h|h
    .exact lt0 c h
    .unfold cg at h;obtain⟨t,ht,h⟩:=List.mem_flatMap.1 h;rcases List.mem_cons.1 h with h|h
     .omega
     .exact lb t ht c h
   have cl:t0++cg l≠[]:=fun e=>by
    have:=congrArg List.length e;rw[zzf,hlen,zze]at this;omega
   obtain⟨r,T1,⟨rfl,k1,n1⟩,e1⟩:=(fJ hB jQ cl (by rw[zzf,hlen];omega)).ex;have rn:Sub S' T1:=⟨fun id cw=>(k1 id (by omega)).trans (hT.h id cw),by omega⟩
   simp[s1,s8,s63,s64,s65,<-hm,e1,aK];exact rn
end
open Go.Proofs.YthklfandhmkpiaaGreatDoor.val (bK q1 fF bP aU rL nV cZ parI qT)
open Go.Proofs.YthklfandhmkpiaaGreatDoor.bk
open Go.Proofs.YthklfandhmkpiaaGreatDoor.mod (kH gY iw lq dR Cr gv zeroV)
theorem decN_inj{a b:Nat}(h:bP a=bP b):a=b:=by rw[<-nV a,h,nV]
theorem fmtN_inj{a b:Int}(h1:-9223372036854775808<=a)(h2:a<9223372036854775808)(h3:-9223372036854775808<=b)(h4:b<9223372036854775808)(h:aU a=aU b):a=b:=by
 have e1:=qT h1 h2;rw[h,qT h3 h4]at e1;exact (Option.some.inj e1).symm
theorem mr(n:Int):∀c,c∈aU n->c=45\/(48<=c/\c<=57):=fun c hc=>by
 unfold aU at hc;split at hc
 .rcases List.mem_cons.1 hc with h|h
  .exact .inl h
  .exact .inr (cZ _ c h)
 .exact .inr (cZ _ c hc)
theorem mf{P:Nat->Prop}:∀{a b r s:List Nat},(∀c,c∈a->P c)->(∀c,c∈b->P c)->(∀c,r.head?=some c->¬P c)->(∀c,s.head?=some c->¬P c)->a++r=b++s->a=b/\r=s
 |[],[],r,s,_,_,_,_,h=>⟨rfl,h⟩
 |[],y::b,r,s,_,hb,hr,_,h=>by
  have h':r=y::(b++s):=h;exact absurd (hb y (zzg ..)) (hr y (by rw[h'];rfl))
 |x::a,[],r,s,ha,_,_,hs,h=>by
  have h':s=x::(a++r):=h.symm;exact absurd (ha x (zzg ..)) (hs x (by rw[h'];rfl))
 |x::a,y::b,r,s,ha,hb,hr,hs,h=>by
  rw[zzc,zzc]at h;obtain⟨h1,h2⟩:=List.cons.inj h;obtain⟨h3,h4⟩:=mf (fun c hc=>ha c (zzd _ hc)) (fun c hc=>hb c (zzd _ hc)) hr hs h2;exact⟨by rw[h1,h3],h4⟩
theorem DA{a b:Nat}(ha:a<16)(hb:b<16)(h:fF a=fF b):a=b:=by
 unfold fF at h;split at h<;>split at h<;>omega
theorem q1_ne(c:Nat):∃x l,q1 c=x::l/\x≠34:=by
 unfold q1;split
 .exact⟨_,_,rfl,by decide⟩
 .split
  .exact⟨_,_,rfl,by decide⟩
  .rename_i h;exact⟨_,_,rfl,fun e=>h (.inl e)⟩
theorem CJ(c:Nat):((c<32\/126<c)/\q1 c=[92,120,fF (c / 16),fF (c%16)])\/((c=34\/c=92)/\q1 c=[92,c])\/(c≠34/\c≠92/\q1 c=[c]):=by
 unfold q1;by_cases h1:c<32\/126<c
 .exact .inl ⟨h1,if_pos h1⟩
 .rw[if_neg h1];by_cases h2:c=34\/c=92
  .exact .inr (.inl ⟨h2,if_pos h2⟩)
  .exact .inr (.inr ⟨fun e=>h2 (.inl e),fun e=>h2 (.inr e),if_neg h2⟩)
theorem q1_free{x y:Nat}{r s:List Nat}(hx:x<256)(hy:y<256)(h:q1 x++r=q1 y++s):x=y/\r=s:=by
 rcases CJ x with⟨a1,a2⟩|⟨a1,a2⟩|⟨a0,a1,a2⟩<;>rcases CJ y with⟨b1,b2⟩|⟨b1,b2⟩|⟨b0,b1,b2⟩<;>rw[a2,b2]at h<;>simp only[zzc,zzh,zzj,true_and]at h
 .obtain⟨h1,h2,h3⟩:=h;have e1:=DA (by omega) (by omega) h1;have e2:=DA (by omega) (by omega) h2;exact⟨by omega,h3⟩
 .omega
 .omega
 .omega
 .exact h
 .omega
 .omega
 .omega
 .exact h
theorem te:∀{a b r s:List Nat},(∀c,c∈a->c<256)->(∀c,c∈b->c<256)->a.flatMap q1++34::r=b.flatMap q1++34::s->a=b/\r=s
 |[],[],r,s,_,_,h=>⟨rfl,by simpa using h⟩
 |[],y::b,r,s,_,hb,h=>by
  obtain⟨x,l,e,hx⟩:=q1_ne y;rw[zzi,e]at h;simp only[List.flatMap_nil,zzh,zzc,zzj]at h;exact absurd h.1.symm hx
 |x::a,[],r,s,_,hb,h=>by
  obtain⟨y,l,e,hx⟩:=q1_ne x;rw[zzi,e]at h;simp only[List.flatMap_nil,zzh,zzc,zzj]at h;exact absurd h.1 hx
 |x::a,y::b,r,s,ha,hb,h=>by
  rw[zzi,zzi,zzb,zzb]at h;obtain⟨h1,h2⟩:=q1_free (ha x (zzg ..)) (hb y (zzg ..)) h;obtain⟨h3,h4⟩:=te (fun c hc=>ha c (zzd _ hc)) (fun c hc=>hb c (zzd _ hc)) h2;exact⟨by rw[h1,h3],h4⟩
theorem FI{a b r s:List Nat}(ha:∀c,c∈a->c<256)(hb:∀c,c∈b->c<256)(h:bK a++r=bK b++s):a=b/\r=s:=by
 unfold bK at h;simp only[zzc,zzb,zzh,zzj,true_and]at h;exact te ha hb h
theorem iL(n:Nat):∀{m:Nat}{r s:List Nat},eJ n++r=eJ m++s->n=m/\r=s:=by
 induction n using Nat.strongRecOn with
 |_ n ih=>
  intro m r s h;by_cases h1:n<128<;>by_cases h2:m<128
  .rw[eJ,if_pos h1,eJ,if_pos h2]at h;simpa using h
  .rw[eJ,if_pos h1,eJ,if_neg h2]at h;simp only[zzc,zzh,zzj]at h;omega
  .rw[eJ.eq_1 n,if_neg h1,eJ.eq_1 m,if_pos h2]at h;simp only[zzc,zzh,zzj]at h;omega
  .rw[eJ.eq_1 n,if_neg h1,eJ.eq_1 m,if_neg h2]at h;simp only[zzc,zzh,zzj]at h;obtain⟨h3,h4⟩:=h;obtain⟨h5,h6⟩:=ih (n / 128) (by omega) h4;exact⟨by omega,h6⟩
theorem yX{a b r s:List Nat}(h:rf a++r=rf b++s):a=b/\r=s:=by
 unfold rf at h;rw[zzb,zzb]at h;obtain⟨h1,h2⟩:=iL _ h;exact List.append_inj h2 h1
theorem flagB_free{a b:Bool}{r s:List Nat}(h:zj a++r=zj b++s):a=b/\r=s:=by
 obtain⟨h1,h2⟩:=iL _ h;exact⟨by cases a<;>cases b<;>first|rfl|exact absurd h1 (by decide),h2⟩
theorem tQ{n:Int}(h1:0<=n)(h2:n<9223372036854775808):pT n=(2*n).toNat:=by
 unfold pT;rw[if_neg (by omega),jk (by simp)];have e0:((uN 0:Nat):Int)=0:=by rw[<-sX];rfl
 have e1:((uN (Int.mul n 2):Nat):Int)=2*n:=by
  rw[<-sX];show IntKind.u64.wrap (n*2)=_;simp only[IntKind.wrap,IntKind.bits,IntKind.signed];simp;omega
 show (IntKind.u64.wrap ((BitVec.ofInt 64 ((uN (Int.mul n 2):Nat):Int) ^^^ BitVec.ofInt 64 ((uN 0:Nat):Int)).toNat:Int)).toNat=_;rw[e0,e1];have:BitVec.ofInt 64 0=0#64:=by decide
 rw[this,BitVec.xor_zero,BitVec.toNat_ofInt];simp only[IntKind.wrap,IntKind.bits,IntKind.signed];simp;omega
theorem tS{n:Int}(h1:-9223372036854775808<=n)(h2:n<0):pT n=(-2*n-1).toNat:=by
 unfold pT;rw[if_pos h2,jk (by simp)];have e0:((uN (-1):Nat):Int)=18446744073709551615:=by rw[<-sX];decide
 have e1:((uN (Int.mul n 2):Nat):Int)=18446744073709551616+2*n:=by
  rw[<-sX];show IntKind.u64.wrap (n*2)=_;simp only[IntKind.wrap,IntKind.bits,IntKind.signed];simp;omega
 show (IntKind.u64.wrap ((BitVec.ofInt 64 ((uN (Int.mul n 2):Nat):Int) ^^^ BitVec.ofInt 64 ((uN (-1):Nat):Int)).toNat:Int)).toNat=_;rw[e0,e1];have:BitVec.ofInt 64 18446744073709551615=BitVec.allOnes 64:=by decide
 rw[this,BitVec.xor_allOnes,BitVec.toNat_not,BitVec.toNat_ofInt];simp only[IntKind.wrap,IntKind.bits,IntKind.signed];simp;omega
theorem zig_inj{a b:Int}(h1:-9223372036854775808<=a)(h2:a<9223372036854775808)(h3:-9223372036854775808<=b)(h4:b<9223372036854775808)(h:pT a=pT b):a=b:=by
 by_cases ha:a<0<;>by_cases hb:b<0
 .rw[tS h1 ha,tS h3 hb]at h;omega
 .rw[tS h1 ha,tQ (by omega) h4]at h;omega
 .rw[tQ (by omega) h2,tS h3 hb]at h;omega
 .rw[tQ (by omega) h2,tQ (by omega) h4]at h;omega
theorem lV(a b:kH):gv a b=true↔a=b:=by
 obtain⟨ak,an,ax,ab⟩:=a;obtain⟨bk,bn,bx,bb⟩:=b;unfold gv;simp[aZ]
theorem qx{n:Int}(h1:0<=n)(h2:n<100):(uN n:Int)=n:=by
 have:n=((n.toNat:Nat):Int):=by omega
 rw[this,uN_nat (by omega)]
theorem yO{a:kH}(h:dR a=true):(a.kind=1/\a.str=[]/\a.bool=false)\/(a.kind=2/\a.num=0/\a.bool=false)\/(a.kind=3/\a.num=0/\a.str=[]):=by
 unfold dR at h;split at h
 .rename_i h1;have:=(lV _ _).1 h;exact .inl ⟨h1,by rw[this],by rw[this]⟩
 .split at h
  .rename_i h1;simp only[zzl]at h;have:=(lV _ _).1 h.1;exact .inr (.inl ⟨h1,by rw[this],by rw[this]⟩)
  .split at h
   .rename_i h1;have:=(lV _ _).1 h;exact .inr (.inr ⟨h1,by rw[this],by rw[this]⟩)
   .cases h
theorem sV{a b:kH}{r s:List Nat}(ha:dR a=true)(hb:dR b=true)(na:oP a)(nb:oP b)(h:gm a++r=gm b++s):a=b/\r=s:=by
 unfold gm at h;rw[zzb,zzb]at h;obtain⟨h1,h2⟩:=iL _ h;obtain⟨ak,an,ax,ab⟩:=a;obtain⟨bk,bn,bx,bb⟩:=b;have hka:=yO ha;have hkb:=yO hb;simp only at h1 h2 hka hkb;have e1:((uN ak:Nat):Int)=ak:=qx (by omega) (by omega);have e2:((uN bk:Nat):Int)=bk:=qx (by omega) (by omega);have hk:ak=bk:=by rw[<-e1,<-e2,h1]
 subst hk;unfold El at h2;simp only at h2;rcases hka with⟨k1,k2,k3⟩|⟨k1,k2,k3⟩|⟨k1,k2,k3⟩
 .rcases hkb with⟨j1,j2,j3⟩|⟨j1,j2,j3⟩|⟨j1,j2,j3⟩
  .subst k1 k2 k3 j2 j3;simp only[if_true]at h2;obtain⟨h3,h4⟩:=iL _ h2;have:=zig_inj na.1 na.2.1 nb.1 nb.2.1 h3;exact⟨by rw[show an=bn from this],h4⟩
  .omega
  .omega
 .rcases hkb with⟨j1,j2,j3⟩|⟨j1,j2,j3⟩|⟨j1,j2,j3⟩
  .omega
  .subst k1 k2 k3 j2 j3;simp only[show ¬(2:Int)=1 by decide,if_true,if_false]at h2;obtain⟨h3,h4⟩:=yX h2;exact⟨by rw[h3],h4⟩
  .omega
 .rcases hkb with⟨j1,j2,j3⟩|⟨j1,j2,j3⟩|⟨j1,j2,j3⟩
  .omega
  .omega
  .subst k1 k2 k3 j2 j3;simp only[show ¬(3:Int)=1 by decide,show ¬(3:Int)=2 by decide,if_true,if_false]at h2;obtain⟨h3,h4⟩:=flagB_free h2;exact⟨by rw[h3],h4⟩
inductive All2{α:Type}(R:α->α->Prop):List α->List α->Prop
 |nil:All2 R [] []
 |cons {a b:α} {l m:List α}:R a b->All2 R l m->All2 R (a::l) (b::m)
theorem sH{α:Type}{f:α->List Nat}{P:α->Prop}{R:α->α->Prop}(hf:∀{x y:α}{r s:List Nat},P x->P y->f x++r=f y++s->R x y/\r=s):
  ∀{l m:List α}{r s:List Nat},(∀x,x∈l->P x)->(∀x,x∈m->P x)->l.length=m.length->l.flatMap f++r=m.flatMap f++s->All2 R l m/\r=s
 |[],[],r,s,_,_,_,h=>⟨.nil,by simpa using h⟩
 |[],y::m,r,s,_,_,hl,_=>by cases hl
 |x::l,[],r,s,_,_,hl,_=>by cases hl
 |x::l,y::m,r,s,h1,h2,hl,h=>by
  rw[zzi,zzi,zzb,zzb]at h;obtain⟨h3,h4⟩:=hf (h1 x (zzg ..)) (h2 y (zzg ..)) h;obtain⟨h5,h6⟩:=sH hf (fun c hc=>h1 c (zzd _ hc)) (fun c hc=>h2 c (zzd _ hc)) (by simpa using hl) h4;exact⟨.cons h3 h5,h6⟩
theorem vQ{α:Type}:∀{l m:List α},All2 (fun x y=>x=y) l m->l=m
 |_,_,.nil=>rfl
 |_,_,.cons h t=>by rw[h,vQ t]
theorem tq{α β:Type}{f:α->β}:∀{l m:List α},All2 (fun x y=>f x=f y) l m->l.map f=m.map f
 |_,_,.nil=>rfl
 |_,_,.cons h t=>by rw[zzs,zzs,h,tq t]
def cz(c:gY):List Nat×Int×kH×List kH:=(c.name,c.op,c.val,c.cF)
theorem mayC_op{c:gY}(h:lq c=true):(c.op=1/\c.val=zeroV/\c.cF=[])\/(2<=c.op/\c.op<=8/\dR c.val=true/\c.cF=[])\/(c.op=9/\c.val=zeroV/\∀v,v∈c.cF->dR v=true):=by
 unfold lq at h;split at h
 .cases h
 .split at h
  .cases h
  .split at h
   .rename_i h1;simp only[zzl,decide_eq_true_eq]at h;exact .inl ⟨h1,(lV _ _).1 h.1,List.length_eq_zero_iff.1 h.2⟩
   .split at h
    .rename_i h1;simp only[zzl,decide_eq_true_eq]at h;exact .inr (.inl ⟨h1.1,by omega,h.1,List.length_eq_zero_iff.1 h.2⟩)
    .split at h
     .rename_i h1;simp only[zzl,decide_eq_true_eq]at h;exact .inr (.inl ⟨by omega,by omega,h.1,List.length_eq_zero_iff.1 h.2.2⟩)
     .split at h
      .rename_i h1;simp only[zzl,decide_eq_true_eq]at h;refine .inr (.inr ⟨h1,(lV _ _).1 h.1,fun v hv=>?_⟩);have h3:=h.2.2.2;unfold Cr at h3;have h4:(c.cF.any fun v=>!dR v)=false:=by simpa using h3
       rw[List.any_eq_false]at h4;simpa using h4 v hv
      .cases h
theorem consB_free{c d:gY}{r s:List Nat}(hc:lq c=true)(hd:lq d=true)(nc:eW c)(nd:eW d)(h:ji c++r=ji d++s):cz c=cz d/\r=s:=by
 unfold ji at h;simp only[zzb]at h;obtain⟨h1,h2⟩:=yX h;obtain⟨h3,h4⟩:=iL _ h2;have kc:=mayC_op hc;have kd:=mayC_op hd;have ho:c.op=d.op:=by
  have e1:((uN c.op:Nat):Int)=c.op:=qx (by omega) (by omega);have e2:((uN d.op:Nat):Int)=d.op:=qx (by omega) (by omega);rw[<-e1,<-e2,h3]
 unfold cz;rcases kc with⟨k1,k2,k3⟩|⟨k1,k1',k2,k3⟩|⟨k1,k2,k3⟩
 .rcases kd with⟨j1,j2,j3⟩|⟨j1,j1',j2,j3⟩|⟨j1,j2,j3⟩
  .rw[if_pos k1,if_pos j1]at h4;exact⟨by rw[h1,ho,k2,k3,j2,j3],by simpa using h4⟩
  .omega
  .omega
 .rcases kd with⟨j1,j2,j3⟩|⟨j1,j1',j2,j3⟩|⟨j1,j2,j3⟩
  .omega
  .rw[if_neg (by omega),if_neg (by omega),if_neg (by omega),if_neg (by omega)]at h4;obtain⟨h5,h6⟩:=sV k2 j2 nc.1 nd.1 h4;exact⟨by rw[h1,ho,h5,k3,j3],h6⟩
  .omega
 .rcases kd with⟨j1,j2,j3⟩|⟨j1,j1',j2,j3⟩|⟨j1,j2,j3⟩
  .omega
  .omega
  .rw[if_neg (by omega),if_pos k1,if_neg (by omega),if_pos j1,zzb,zzb]at h4;obtain⟨h5,h6⟩:=iL _ h4;obtain⟨h7,h8⟩:=sH (P:=fun v=>dR v=true/\oP v) (R:=fun x y=>x=y) (fun hx hy he=>sV hx.1 hy.1 hx.2 hy.2 he) (fun v hv=>⟨k3 v hv,nc.2.1 v hv⟩) (fun v hv=>⟨j3 v hv,nd.2.1 v hv⟩) h5 h6;exact⟨by rw[h1,ho,k2,j2,vQ h7],h8⟩
theorem predB_inj{cs ds:List gY}(hc:iw cs=true)(hd:iw ds=true)(nc:∀c,c∈cs->eW c)(nd:∀c,c∈ds->eW c)(h:pF cs=pF ds):cs.map cz=ds.map cz:=by
 unfold pF at h;obtain⟨h1,h2⟩:=iL _ h;exact tq (sH (r:=[]) (s:=[]) (P:=fun c=>lq c=true/\eW c) (R:=fun x y=>cz x=cz y) (fun hx hy he=>consB_free hx.1 hy.1 hx.2 hy.2 he) (fun v hv=>⟨vj hc v hv,nc v hv⟩) (fun v hv=>⟨vj hd v hv,nd v hv⟩) h1 (by simpa using h2)).1
theorem formP_inj{cs ds:List gY}(hc:iw cs=true)(hd:iw ds=true)(nc:∀c,c∈cs->eW c)(nd:∀c,c∈ds->eW c)(h:gy cs=gy ds):cs.map cz=ds.map cz:=by
 unfold gy at h;rw[if_pos hc,if_pos hd]at h;exact predB_inj hc hd nc nd h
theorem consB_bare{c d:gY}(h:cz c=cz d):ji c=ji d/\lq c=lq d:=by
 obtain⟨cn,co,cv,cx,cs⟩:=c;obtain⟨dn,d_o,dv,dx,ds⟩:=d;unfold cz at h;simp only[Prod.mk.injEq]at h;obtain⟨rfl,rfl,rfl,rfl⟩:=h;exact⟨rfl,rfl⟩
theorem C5:∀{cs ds:List gY},cs.map cz=ds.map cz->cs.flatMap ji=ds.flatMap ji/\(cs.any fun c=>!lq c)=(ds.any fun c=>!lq c)/\cs.length=ds.length
 |[],[],_=>⟨rfl,rfl,rfl⟩
 |[],_::_,h=>by cases h
 |_::_,[],h=>by cases h
 |c::cs,d::ds,h=>by
  simp only[zzs,zzj]at h;obtain⟨h1,h2,h3⟩:=C5 h.2;obtain⟨h4,h5⟩:=consB_bare h.1;refine⟨by rw[zzi,zzi,h1,h4],?_,by rw[zza,zza,h3]⟩;rw[List.any_cons,List.any_cons,h5,h2]
theorem formP_bare{cs ds:List gY}(h:cs.map cz=ds.map cz):gy cs=gy ds/\iw cs=iw ds:=by
 obtain⟨h1,h2,h3⟩:=C5 h;have h4:iw cs=iw ds:=by unfold iw;rw[h2,h3]
 unfold gy pF;rw[h4,h1,h3];exact⟨rfl,rfl⟩
end Go.Proofs.YthklfandhmkpiaaGreatDoor.sh
namespace Go.Proofs.YthklfandhmkpiaaGreatDoor.val
open Go Go.Am Go.Proofs.YthklfandhmkpiaaGreatDoor.sh
def cutAt:Bool->Bool->List Nat->Option Nat
 |_,_,[]=>none
 |q,m,c::s=>if m then (cutAt q false s).map (· + 1) else if q=true/\c=92 then (cutAt q true s).map (· + 1) else if c=34 then (cutAt (!q) false s).map (· + 1) else if c=32/\q=false then some 0 else (cutAt q false s).map (· + 1)
def part(s:List Nat):List Nat×List Nat:=match cutAt false false s with|some i=>(s.take i,s.drop (i+1))|none=>(s,[])
theorem rz(q:Bool)(c:Nat)(s:List Nat):cutAt q true (c::s)=(cutAt q false s).map (· + 1):=by simp[cutAt]
theorem Bi{c:Nat}(h1:c≠34)(h2:c≠92)(s:List Nat):cutAt true false (c::s)=(cutAt true false s).map (· + 1):=by simp[cutAt,h1,h2]
theorem cutAt_p{c:Nat}(h1:c≠34)(h2:c≠32)(s:List Nat):cutAt false false (c::s)=(cutAt false false s).map (· + 1):=by simp[cutAt,h1,h2]
theorem D5(s:List Nat):cutAt true false (92::s)=(cutAt true true s).map (· + 1):=by simp[cutAt]
theorem cutAt_open(s:List Nat):cutAt false false (34::s)=(cutAt true false s).map (· + 1):=by simp[cutAt]
theorem D4(s:List Nat):cutAt true false (34::s)=(cutAt false false s).map (· + 1):=by simp[cutAt]
theorem D6(s:List Nat):cutAt false false (32::s)=some 0:=by simp[cutAt]
theorem iS(o:Option Nat)(a b:Nat):(o.map (· + a)).map (· + b)=o.map (· + (a+b)):=by cases o<;>simp[Nat.add_assoc]
theorem vH{d:Nat}(h:d<16):(48<=fF d/\fF d<=57)\/(97<=fF d/\fF d<=102):=by unfold fF;split<;>omega
theorem scan_q1{c:Nat}(hc:c<256)(s:List Nat):cutAt true false (q1 c++s)=(cutAt true false s).map (· + (q1 c).length):=by
 unfold q1;by_cases h1:c<32\/126<c
 .rw[if_pos h1];have a1:=vH (d:=c / 16) (by omega);have a2:=vH (d:=c%16) (by omega);simp only[zzc,zzh,zza,zze];rw[D5,rz,Bi (by omega) (by omega),Bi (by omega) (by omega),iS,iS,iS]
 .rw[if_neg h1];by_cases h2:c=34\/c=92
  .rw[if_pos h2];simp only[zzc,zzh,zza,zze];rw[D5,rz,iS]
  .rw[if_neg h2];simp only[zzc,zzh,zza,zze];rw[Bi (by omega) (by omega)]
theorem yA:∀{t:List Nat},(∀c,c∈t->c<256)->∀(s:List Nat),cutAt true false (t.flatMap q1++s)=(cutAt true false s).map (· + (t.flatMap q1).length)
 |[],_,s=>by simp
 |c::t,h,s=>by
  rw[zzi,zzb,scan_q1 (h c (zzg ..)),yA (fun d hd=>h d (zzd _ hd)),iS,zzf];congr 1;funext x;omega
theorem uO{t:List Nat}(h:∀c,c∈t->c<256)(s:List Nat):cutAt false false (bK t++s)=(cutAt false false s).map (· + (bK t).length):=by
 unfold bK;simp only[zzc,zzb,zzh];rw[cutAt_open,yA h,D4,iS,iS];simp only[zza,zzf,zze];congr 1;funext x;omega
theorem p9:∀{t:List Nat},(∀c,c∈t->c≠34/\c≠32)->∀(s:List Nat),cutAt false false (t++s)=(cutAt false false s).map (· + t.length)
 |[],_,s=>by simp
 |c::t,h,s=>by
  have hc:=h c (zzg ..);rw[zzc,cutAt_p hc.1 hc.2,p9 (fun d hd=>h d (zzd _ hd)),iS,zza]
theorem txt_kind{v:kC}(hv:va v)(hm:dR v=true):(jI v=bK v.s/\v.k=2)\/((∀c,c∈jI v->c≠34/\c≠32/\c≠61)/\jI v≠[]/\v.k≠2):=by
 unfold jI;by_cases h1:v.k=1
 .right;rw[if_pos h1];unfold aU;split
  .refine⟨fun c hc=>?_,by simp,by omega⟩;rcases List.mem_cons.1 hc with h|h
   .omega
   .have:=cZ _ c h;omega
  .exact⟨fun c hc=>by have:=cZ _ c hc;omega,Bg _,by omega⟩
 .rw[if_neg h1];by_cases h3:v.k=3
  .right;rw[if_pos h3];cases v.b<;>refine⟨fun c hc=>?_,by simp[nW,lC],by omega⟩<;>simp[nW,lC]at hc<;>omega
  .left;rw[if_neg h3];refine⟨rfl,?_⟩;unfold dR at hm;rw[if_neg h1]at hm;by_cases h2:v.k=2
   .exact h2
   .rw[if_neg h2]at hm;simp at hm;exact absurd hm.1 h3
theorem scan_txt{v:kC}(hv:va v)(hm:dR v=true)(s:List Nat):cutAt false false (jI v++s)=(cutAt false false s).map (· + (jI v).length):=by
 rcases txt_kind hv hm with⟨h,_⟩|⟨h,_⟩
 .rw[h];exact uO hv.1 s
 .exact p9 (fun c hc=>⟨(h c hc).1,(h c hc).2.1⟩) s
theorem qc{s:List Nat}(h:jC s=true):∀c,c∈s->c≠34/\c≠32/\c≠61:=fun c hc=>by
 have:=(jc h).2.2 c hc;unfold Et at this;simp at this;omega
def wm(a:fU):List Nat:=a.name++61::jI a.val
theorem attT_eq(a:fU):nQ a=32::wm a:=by unfold nQ wm;simp
theorem scan_att{a:fU}(hn:jC a.name=true)(hv:va a.val)(hm:dR a.val=true)(s:List Nat):cutAt false false (wm a++s)=(cutAt false false s).map (· + (wm a).length):=by
 unfold wm;rw[zzb,zzc,p9 (fun c hc=>⟨(qc hn c hc).1,(qc hn c hc).2.1⟩),cutAt_p (by decide) (by decide),scan_txt hv hm,iS,iS];simp only[zzf,zza];congr 1;funext x;omega
theorem part_end{t:List Nat}(h:cutAt false false t=none):part t=(t,[]):=by unfold part;rw[h]
theorem oU{t s:List Nat}(h:∀s,cutAt false false (t++s)=(cutAt false false s).map (· + t.length)):part t=(t,[])/\part (t++32::s)=(t,s):=by
 refine⟨part_end (by have:=h [];rw[List.append_nil]at this;rw[this];rfl),?_⟩;unfold part;rw[h,D6];simp
def cutS(c:Nat)(s:List Nat):List Nat×List Nat:=match s.findIdx? (fun x=>decide (x=c))with|some i=>(s.take i,s.drop (i+1))|none=>(s,[])
theorem cutS_at{c:Nat}{a b:List Nat}(h:∀x,x∈a->x≠c):cutS c (a++c::b)=(a,b):=by
 have:(a++c::b).findIdx? (fun x=>decide (x=c))=some a.length:=by
  rw[List.findIdx?_eq_some_iff_getElem];refine⟨by simp,by simp,fun j hj=>?_⟩;have hx:(a++c::b)[j]'(by simp;omega)=a[j]:=List.getElem_append_left hj;rw[hx];simpa using h _ (List.getElem_mem hj)
 unfold cutS;rw[this];simp
def vl:Nat->List Nat->List fU->List fU×Bool
 |0,_,acc=>(acc,true)
 |n+1,r,acc=>if r=[] then (acc,true) else match rY (cutS 61 (part r).1).2 with
  |some v=>vl n (part r).2 (acc++[⟨(cutS 61 (part r).1).1,v⟩])
  |none=>(acc++[⟨(cutS 61 (part r).1).1,zeroV⟩],false)
def parseE(s:List Nat):Option (List Nat×List fU):=match rY (part s).1 with
 |none=>none
 |some kv=>if (vl 9 (part s).2 []).2=true/\cH kv.s (vl 9 (part s).2 []).1=some s then some (kv.s,(vl 9 (part s).2 []).1) else none
def n5:List fU->List Nat
 |[]=>[]
 |a::l=>wm a++l.flatMap nQ
theorem C7:∀{l:List fU}{n:Nat}{acc:List fU},(∀a,a∈l->jC a.name=true/\dR a.val=true/\va a.val)->l.length<=n->vl n (n5 l) acc=(acc++l,true)
 |[],n,acc,_,_=>by cases n<;>simp[vl,n5]
 |a::l,0,acc,_,h=>by simp at h
 |a::l,n+1,acc,h,hl=>by
  obtain⟨hn,hm,hv⟩:=h a (zzg ..);have hp:part (n5 (a::l))=(wm a,n5 l):=by
   have hs:=scan_att hn hv hm;cases l with
   |nil=>simpa[n5]using (oU (s:=[]) hs).1
   |cons b l=>
    have:=(oU (s:=wm b++l.flatMap nQ) hs).2;simpa[n5,attT_eq]using this
  have hc:cutS 61 (wm a)=(a.name,jI a.val):=cutS_at fun x hx=>(qc hn x hx).2.2;have ht:rY (jI a.val)=some a.val:=u7 hv (by unfold lQ;rw[hm];rfl);have cl:n5 (a::l)≠[]:=by unfold n5 wm;simp
  rw[vl,if_neg cl,hp];simp only[hc,ht];rw[C7 (fun b hb=>h b (zzd _ hb)) (by simp at hl;exact hl)];simp
def okE(key:List Nat)(l:List fU):Prop:=(∀c,c∈key->c<256)/\∀a,a∈l->CT a
theorem DQ{key:List Nat}{l:List fU}{s:List Nat}(h:cH key l=some s):gl key l=true/\s=fl key l:=by
 unfold cH at h;split at h
 .rename_i hm;cases h;exact⟨hm,rfl⟩
 .cases h
theorem ot{key:List Nat}{l:List fU}(hm:gl key l=true)(ho:okE key l):∀a,a∈l->jC a.name=true/\dR a.val=true/\va a.val:=fun a ha=>by
 obtain⟨i,hi,rfl⟩:=List.getElem_of_mem ha;obtain⟨h1,h2⟩:=C2 (jh hm).1 (zzk hi);exact⟨h1,h2,(ho.2 _ ha).2.2⟩
theorem word_read{key:List Nat}(hk:∀c,c∈key->c<256)(h:key.length<=16):rY (bK key)=some ⟨2,0,key,false⟩:=u7 (word_ok hk) (yc h)
theorem rZ{key:List Nat}{l:List fU}{s:List Nat}(ho:okE key l)(h:cH key l=some s):parseE s=some (key,l):=by
 obtain⟨hm,rfl⟩:=DQ h;obtain⟨_,hk,hl⟩:=jh hm;have hp:part (fl key l)=(bK key,n5 l):=by
  have hs:=uO ho.1;unfold fl;cases l with
  |nil=>simpa[n5]using (oU (s:=[]) hs).1
  |cons b l=>
   have:=(oU (s:=wm b++l.flatMap nQ) hs).2;simpa[n5,attT_eq]using this
 unfold parseE;rw[hp];simp only[word_read ho.1 hk];rw[C7 (ot hm ho) (by omega)];simp only[zzh];rw[if_pos ⟨trivial,h⟩]
end Go.Proofs.YthklfandhmkpiaaGreatDoor.val
namespace Go.Proofs.YthklfandhmkpiaaGreatDoor.sh
open Go Go.Am Go.Proofs.YthklfandhmkpiaaGreatDoor.dk
open Go.Proofs.YthklfandhmkpiaaGreatDoor.val (bK q1 bP aU cZ fU cH fl gl okE rZ fF nQ jI ot jc)
open Go.Proofs.YthklfandhmkpiaaGreatDoor.bk (eW gy mq)
open Go.Proofs.YthklfandhmkpiaaGreatDoor.mod (kH gY iw)
def pq(n:Int):Prop:=-9223372036854775808<=n/\n<9223372036854775808
inductive Tok where
 |num (n:Int)|nat (n:Nat)|at_ (p:Int) (n:Nat)|word (b:List Nat)|said (key:List Nat) (l:List fU)|lit (s:List Nat)
def Tok.text:Tok->List Nat
 | .num n=>aU n | .nat n=>bP n | .at_ p n=>aU p++64::bP n | .word b=>bK b | .said k l=>(cH k l).getD [] | .lit s=>s
def Tok.ok:Tok->Prop
 | .num n=>pq n | .nat n=>n<18446744073709551616 | .at_ p n=>pq p/\n<18446744073709551616 | .word b=>∀c,c∈b->c<256 | .said k l=>okE k l/\gl k l=true | .lit s=>∀c,c∈s->97<=c
def Tok.k:Tok->Nat | .num _=>0 | .nat _=>1 | .at_ _ _=>2 | .word _=>3 | .said _ _=>4 | .lit _=>5
def ea(l:List Tok):List Nat:=l.flatMap fun t=>32::t.text
theorem said_inj{a b:List Nat}{l m:List fU}(h1:okE a l/\gl a l=true)(h2:okE b m/\gl b m=true)(h:(cH a l).getD []=(cH b m).getD []):a=b/\l=m:=by
 obtain⟨o1,m1⟩:=h1;obtain⟨o2,m2⟩:=h2;have e1:cH a l=some ((cH a l).getD []):=by unfold cH;rw[if_pos m1];rfl
 have e2:cH b m=some ((cH a l).getD []):=by rw[h];unfold cH;rw[if_pos m2];rfl
 have p1:=rZ o1 e1;have p2:=rZ o2 e2;rw[p1]at p2;simp at p2;exact p2
def EndC(r:List Nat):Prop:=∀c,r.head?=some c->c=32\/c=10
theorem CW{a b:Int}{r s:List Nat}(ha:pq a)(hb:pq b)(hr:∀c,r.head?=some c->c=32\/c=10\/c=64)(hs:∀c,s.head?=some c->c=32\/c=10\/c=64)(h:aU a++r=aU b++s):a=b/\r=s:=by
 obtain⟨h1,h2⟩:=mf (P:=fun c=>c=45\/(48<=c/\c<=57)) (mr a) (mr b) (fun c hc=>by have:=hr c hc;omega) (fun c hc=>by have:=hs c hc;omega) h;exact⟨fmtN_inj ha.1 ha.2 hb.1 hb.2 h1,h2⟩
theorem CY{a b:Nat}{r s:List Nat}(hr:EndC r)(hs:EndC s)(h:bP a++r=bP b++s):a=b/\r=s:=by
 obtain⟨h1,h2⟩:=mf (P:=fun c=>48<=c/\c<=57) (cZ a) (cZ b) (fun c hc=>by have:=hr c hc;omega) (fun c hc=>by have:=hs c hc;omega) h;exact⟨decN_inj h1,h2⟩
theorem nY{t u:Tok}{r s:List Nat}(hk:t.k=u.k)(h4:t.k≠4)(ht:t.ok)(hu:u.ok)(hr:EndC r)(hs:EndC s)(h:t.text++r=u.text++s):t=u/\r=s:=by
 cases t<;>cases u<;>simp only[Tok.k]at hk h4<;>first|omega|skip
 .obtain⟨h1,h2⟩:=CW ht hu (fun c hc=>by have:=hr c hc;omega) (fun c hc=>by have:=hs c hc;omega) h;exact⟨by rw[h1],h2⟩
 .obtain⟨h1,h2⟩:=CY hr hs h;exact⟨by rw[h1],h2⟩
 .simp only[Tok.text,zzb,zzc]at h;obtain⟨h1,h2⟩:=CW ht.1 hu.1 (fun c hc=>by simp at hc;omega) (fun c hc=>by simp at hc;omega) h;obtain⟨h3,h4⟩:=CY hr hs (List.cons.inj h2).2;exact⟨by rw[h1,h3],h4⟩
 .obtain⟨h1,h2⟩:=FI ht hu h;exact⟨by rw[h1],h2⟩
 .obtain⟨h1,h2⟩:=mf (P:=fun c=>97<=c) ht hu (fun c hc=>by have:=hr c hc;omega) (fun c hc=>by have:=hs c hc;omega) h;exact⟨by rw[h1],h2⟩
theorem q1_low(c:Nat):∀x,x∈q1 c->x≠10:=fun x hx=>by
 unfold q1 at hx;split at hx
 .simp at hx;have h1:∀d,fF d≠10:=fun d=>by unfold fF;split<;>omega
  rcases hx with h|h|h|h
  .omega
  .omega
  .rw[h];exact h1 _
  .rw[h];exact h1 _
 .split at hx
  .simp at hx;omega
  .simp at hx;omega
theorem yD(s:List Nat):∀x,x∈bK s->x≠10:=fun x hx=>by
 unfold bK at hx;simp at hx;rcases hx with h|h|h
 .omega
 .obtain⟨c,_,h⟩:=h;exact q1_low c x h
 .omega
theorem Cu{k:List Nat}{l:List fU}(h:okE k l/\gl k l=true):∀x,x∈(cH k l).getD []->x≠10:=fun x hx=>by
 have e1:cH k l=some (fl k l):=by unfold cH;rw[if_pos h.2]
 rw[e1]at hx;have hx:x∈fl k l:=hx;unfold fl at hx;rcases List.mem_append.1 hx with h1|h1
 .exact yD k x h1
 .obtain⟨a,ha,h2⟩:=List.mem_flatMap.1 h1;obtain⟨n1,n2,n3⟩:=ot h.2 h.1 a ha;unfold nQ at h2;rcases List.mem_append.1 h2 with h3|h3
  .rcases List.mem_cons.1 h3 with h4|h4
   .omega
   .have:=(jc n1).2.2 x h4;intro hx;subst hx
    revert this
    decide
  .rcases List.mem_cons.1 h3 with h4|h4
   .omega
   .unfold jI at h4;split at h4
    .have:=mr _ x h4;omega
    .split at h4
     .split at h4
      .simp[val.nW]at h4;omega
      .simp[val.lC]at h4;omega
     .exact yD _ x h4
def Fits:(Nat->Nat)->List Tok->Prop
 |_,[]=>True
 |s,t::l=>t.k=s 0/\t.ok/\(t.k=4->l=[])/\Fits (fun i=>s (i+1)) l
theorem eF(l:List Tok)(r:List Nat):EndC (ea l++10::r):=fun c hc=>by
 cases l with
 |nil=>simp[ea]at hc;omega
 |cons t l=>simp[ea]at hc;omega
theorem lP:∀{s:Nat->Nat}{l m:List Tok}{r t:List Nat},Fits s l->Fits s m->ea l++10::r=ea m++10::t->l=m/\r=t
 |_,[],[],r,t,_,_,h=>by simpa[ea]using h
 |_,[],y::m,r,t,_,_,h=>by simp[ea]at h
 |_,x::l,[],r,t,_,_,h=>by simp[ea]at h
 |s,x::l,y::m,r,t,h1,h2,h=>by
  obtain⟨a1,a2,a3,a4⟩:=h1;obtain⟨b1,b2,b3,b4⟩:=h2;have h':x.text++(ea l++10::r)=y.text++(ea m++10::t):=by simpa[ea]using h
  by_cases hx:x.k=4
  .have e1:=a3 hx;have e2:=b3 (by rw[b1,<-a1];exact hx);subst e1 e2;have hy:y.k=4:=by rw[b1,<-a1];exact hx
   cases x<;>simp only[Tok.k]at hx<;>first|omega|skip
   cases y<;>simp only[Tok.k]at hy<;>first|omega|skip
   obtain⟨h3,h6⟩:=mf (P:=fun c=>c≠10) (Cu a2) (Cu b2) (fun c hc=>by simp[ea]at hc;omega) (fun c hc=>by simp[ea]at hc;omega) h';obtain⟨h4,h5⟩:=said_inj a2 b2 h3;rw[h4,h5];simpa[ea]using h6
  .obtain⟨h3,h4⟩:=nY (by rw[a1,b1]) hx a2 b2 (eF l r) (eF m t) h';obtain⟨h5,h6⟩:=lP a4 b4 h4;rw[h3,h5];exact⟨rfl,h6⟩
theorem vT{α:Type}{f:α->Tok}{k:Nat}(hk:∀x,(f x).k=k)(h4:k≠4):∀{l:List α}{s:Nat->Nat},(∀i,s i=k)->(∀x,x∈l->(f x).ok)->Fits s (l.map f)
 |[],_,_,_=>trivial
 |x::l,s,hs,ho=>⟨by rw[hk,hs],ho x (zzg ..),fun e=>by rw[hk]at e;exact absurd e h4,vT hk h4 (fun i=>hs _) fun y hy=>ho y (zzd _ hy)⟩
theorem mj{k:Int}(h:cd k≠[]):1<=k/\k<=16:=by
 unfold cd at h;by_cases h1:1<=k/\k<=16
 .exact h1
 .exfalso;apply h
  repeat rw[if_neg (by omega)]
theorem pJ:∀i,i<17->∀c,c∈cd (i:Nat)->97<=c:=by decide
theorem kname_inj0:∀i,i<17->∀j,j<17->cd (i:Nat)=cd (j:Nat)->cd (i:Nat)≠[]->i=j:=by decide
theorem vt{a b:Int}{r s:List Nat}(ha:cd a≠[])(hb:cd b≠[])(hr:EndC r)(hs:EndC s)(h:cd a++r=cd b++s):a=b/\r=s:=by
 obtain⟨a1,a2⟩:=mj ha;obtain⟨b1,b2⟩:=mj hb;obtain⟨i,rfl⟩:∃i:Nat,a=i:=⟨a.toNat,by omega⟩
 obtain⟨j,rfl⟩:∃j:Nat,b=j:=⟨b.toNat,by omega⟩
 obtain⟨h1,h2⟩:=mf (P:=fun c=>97<=c) (pJ i (by omega)) (pJ j (by omega)) (fun c hc=>by have:=hr c hc;omega) (fun c hc=>by have:=hs c hc;omega) h;exact⟨by rw[kname_inj0 i (by omega) j (by omega) h1 ha],h2⟩
structure Ev where
 kind:Int
 au:Int
 place:Int
 id:Int
 fh:Int
 n:Nat
 cs:List gY
 key:List Nat
 aR:List fU
 aS:List (Int×Nat)
 BQ:Int
 bytes:Int
 count:Int
 bX:List Nat
 eH:List Nat
def Ev.fu(e:Ev):List Tok:=
 if e.kind=1 then [.num e.au,.num e.place,.word (gy e.cs)]
 else if e.kind=2\/e.kind=8 then [.num e.au,.num e.place]
 else if e.kind=3 then [.num e.au,.num e.place,.said e.key e.aR]
 else if e.kind=4 then .num e.au::.num e.id::.word (gy e.cs)::e.aS.map fun s=>.at_ s.1 s.2
 else if e.kind=5 then [.num e.au,.num e.id]
 else if e.kind=6 then [.num e.au,.num e.id,.num e.fh,.nat e.n]
 else if e.kind=7 then [.num e.au,.num e.place,.num e.BQ,.num e.bytes,.num e.count]
 else if 10<=e.kind/\e.kind<=13 then [.nat e.n]
 else if e.kind=14 then .num e.au::.word e.eH::e.bX.map fun (p:Nat)=>Tok.num (p:Int)
 else if e.kind=15\/e.kind=16 then [.num e.au,.nat e.n]
 else [.num e.au]
def Ev.text(e:Ev):List Nat:=cd e.kind++ea e.fu++[10]
def Ev.bare(e:Ev):Ev:=
 {kind:=e.kind,au:=if 10<=e.kind/\e.kind<=13 then 0 else e.au,
   place:=if e.kind=1\/e.kind=2\/e.kind=8\/e.kind=3\/e.kind=7 then e.place else 0,
   id:=if e.kind=4\/e.kind=5\/e.kind=6 then e.id else 0,
   fh:=if e.kind=6 then e.fh else 0,
   n:=if e.kind=6\/(10<=e.kind/\e.kind<=13)\/e.kind=15\/e.kind=16 then e.n else 0,
   cs:=if e.kind=1\/e.kind=4 then e.cs else [],
   key:=if e.kind=3 then e.key else [],aR:=if e.kind=3 then e.aR else [],
   aS:=if e.kind=4 then e.aS else [],
   BQ:=if e.kind=7 then e.BQ else 0,bytes:=if e.kind=7 then e.bytes else 0,count:=if e.kind=7 then e.count else 0,
   bX:=if e.kind=14 then e.bX else [],eH:=if e.kind=14 then e.eH else []}
structure Ev.E3(e:Ev):Prop where
 kind:pq e.kind
 au:pq e.au
 place:pq e.place
 id:pq e.id
 fh:pq e.fh
 n:e.n<18446744073709551616
 cs:∀c,c∈e.cs->eW c
 ev:okE e.key e.aR
 aS:∀s,s∈e.aS->pq s.1/\s.2<18446744073709551616
 BQ:pq e.BQ
 bytes:pq e.bytes
 count:pq e.count
 bX:∀p,p∈e.bX->p<65536
 eH:∀c,c∈e.eH->c<256
structure Ev.nS(e:Ev):Prop where
 name:cd e.kind≠[]
 bare:e.bare=e
 cs:iw e.cs=true
 ev:gl e.key e.aR=true
def Ev.same(a b:Ev):Prop:=a.kind=b.kind/\a.au=b.au/\a.place=b.place/\a.id=b.id/\a.fh=b.fh/\a.n=b.n/\a.cs.map cz=b.cs.map cz/\a.key=b.key/\a.aR=b.aR/\a.aS=b.aS/\a.BQ=b.BQ/\a.bytes=b.bytes/\a.count=b.count/\a.bX=b.bX/\a.eH=b.eH
def Cp(k:Int)(i:Nat):Nat:=
 if k=1 then (if i=2 then 3 else 0) else if k=3 then (if i=2 then 4 else 0) else if k=4 then (if i=0\/i=1 then 0 else if i=2 then 3 else 2)
 else if k=6 then (if i=3 then 1 else 0) else if 10<=k/\k<=13 then 1 else if k=14 then (if i=1 then 3 else 0) else if k=15\/k=16 then (if i=1 then 1 else 0) else 0
theorem Dm{p:Nat}(h:p<65536):pq (p:Int):=⟨by omega,by omega⟩
theorem Cb{e:Ev}(hr:e.E3)(hm:e.nS):Fits (Cp e.kind) e.fu:=by
 obtain⟨k1,k2⟩:=mj hm.name;have hb:=hr.au;have hp:=hr.place;have hi:=hr.id;have hpb:=hr.fh;have hn:=hr.n;have hc:=mq hr.cs;unfold Ev.fu;split
 .rename_i h;rw[h];exact⟨rfl,hb,fun h=>(by cases h),rfl,hp,fun h=>(by cases h),rfl,hc,fun h=>(by cases h),trivial⟩
 split
 .rename_i h;rcases h with h|h<;>rw[h]<;>exact⟨rfl,hb,fun h=>(by cases h),rfl,hp,fun h=>(by cases h),trivial⟩
 split
 .rename_i h;rw[h];exact⟨rfl,hb,fun h=>(by cases h),rfl,hp,fun h=>(by cases h),rfl,⟨hr.ev,hm.ev⟩,fun _=>rfl,trivial⟩
 split
 .rename_i h;rw[h];refine⟨rfl,hb,fun h=>(by cases h),rfl,hi,fun h=>(by cases h),rfl,hc,fun h=>(by cases h),vT (f:=fun s:Int×Nat=>Tok.at_ s.1 s.2) (k:=2) (fun _=>rfl) (by decide) (fun i=>?_) fun x hx=>hr.aS x hx⟩;show Cp 4 (i+1+1+1)=2;unfold Cp;rw[if_neg (by decide),if_neg (by decide),if_pos rfl,if_neg (by omega),if_neg (by omega)]
 split
 .rename_i h;rw[h];exact⟨rfl,hb,fun h=>(by cases h),rfl,hi,fun h=>(by cases h),trivial⟩
 split
 .rename_i h;rw[h];exact⟨rfl,hb,fun h=>(by cases h),rfl,hi,fun h=>(by cases h),rfl,hpb,fun h=>(by cases h),rfl,hn,fun h=>(by cases h),trivial⟩
 split
 .rename_i h;rw[h];exact⟨rfl,hb,fun h=>(by cases h),rfl,hp,fun h=>(by cases h),rfl,hr.BQ,fun h=>(by cases h),rfl,hr.bytes,fun h=>(by cases h),rfl,hr.count,fun h=>(by cases h),trivial⟩
 split
 .rename_i h;have:Cp e.kind 0=1:=by unfold Cp;rw[if_neg (by omega),if_neg (by omega),if_neg (by omega),if_neg (by omega),if_pos h]
  exact⟨this.symm,hn,fun h=>(by cases h),trivial⟩
 split
 .rename_i h;rw[h];refine⟨rfl,hb,fun h=>(by cases h),rfl,hr.eH,fun h=>(by cases h),vT (f:=fun (p:Nat)=>Tok.num (p:Int)) (k:=0) (fun _=>rfl) (by decide) (fun i=>?_) fun x hx=>Dm (hr.bX x hx)⟩;show Cp 14 (i+1+1)=0;unfold Cp;rw[if_neg (by decide),if_neg (by decide),if_neg (by decide),if_neg (by decide),if_neg (by decide),if_pos rfl,if_neg (by omega)]
 split
 .rename_i h;rcases h with h|h<;>rw[h]<;>exact⟨rfl,hb,fun h=>(by cases h),rfl,hn,fun h=>(by cases h),trivial⟩
 .have:Cp e.kind 0=0:=by
   have:e.kind=9:=by omega
   rw[this];rfl
  exact⟨this.symm,hb,fun h=>(by cases h),trivial⟩
open Go.Proofs.YthklfandhmkpiaaGreatDoor.val (ew)
open Go.Proofs.YthklfandhmkpiaaGreatDoor.mod (df)
structure cy where
 e:Ev
 pv:AV
 av:AV
 sv:AV
 kv:AV
 tv:AV
def cy.c(x:cy):List AV:=[.int .i64 x.e.kind,.int .i64 x.e.au,.int .i64 x.e.place,.int .i64 x.e.id,.int .i64 x.e.fh,.int .u64 x.e.n,x.pv,.str x.e.key,x.av,.int .i64 x.e.BQ,.int .i64 x.e.bytes,.int .i64 x.e.count,x.sv,x.kv,x.tv]
theorem cy.dm(x:cy):x.c.length=15:=rfl
def iy(s:Int×Nat):List AV:=[.int .i64 s.1,.int .u64 s.2]
theorem eK(s:Int×Nat):(iy s).length=2:=rfl
def tg(l:List Nat):List AV:=l.map fun (n:Nat)=>AV.int .u16 (n:Int)
theorem rX(l:List Nat):(tg l).length=l.length:=by simp[tg]
structure jz(S:AS)(x:cy):Prop where
 pred:df S x.pv x.e.cs
 aR:ew S x.av x.e.aR
 aS:Sl S x.sv 2 (x.e.aS.flatMap iy)
 bX:Sl S x.kv 1 (tg x.e.bX)
 eH:Sl S x.tv 1 (bH x.e.eH)
 dK:x.e.E3
 sl:x.e.aS.length<=1048576
 pl:x.e.bX.length<=1048576
 tl:x.e.eH.length<=1048576
theorem jz.sub{S T:AS}{x:cy}(h:jz S x)(k:Sub S T):jz T x:=⟨h.pred.sub k,h.aR.sub k,h.aS.toSub k,h.bX.toSub k,h.eH.toSub k,h.dK,h.sl,h.pl,h.tl⟩
def cy.bare(x:cy):cy:=
 {e:=x.e.bare,pv:=if x.e.kind=1\/x.e.kind=4 then x.pv else .ar,av:=if x.e.kind=3 then x.av else .ar,sv:=if x.e.kind=4 then x.sv else .ar,kv:=if x.e.kind=14 then x.kv else .ar,tv:=if x.e.kind=14 then x.tv else .ar}
theorem ti:pq 0:=⟨by decide,by decide⟩
theorem jz.bare{S:AS}{x:cy}(h:jz S x):jz S x.bare:=by
 have r:=h.dK;unfold cy.bare Ev.bare;constructor
 .simp only;split
  .exact h.pred
  .exact⟨Sl.nil,fun c hc=>by (cases hc),by simp⟩
 .simp only;split
  .exact h.aR
  .exact⟨Sl.nil,by simp,fun c hc=>by (cases hc)⟩
 .simp only;split
  .exact h.aS
  .exact Sl.nil
 .simp only;split
  .exact h.bX
  .exact Sl.nil
 .simp only;split
  .exact h.eH
  .exact Sl.nil
 .constructor<;>simp only
  .exact r.kind
  .split;exact ti;exact r.au
  .split;exact r.place;exact ti
  .split;exact r.id;exact ti
  .split;exact r.fh;exact ti
  .split;exact r.n;decide
  .split
   .exact r.cs
   .intro c hc;cases hc
  .refine⟨?_,?_⟩
   .split
    .exact r.ev.1
    .intro c hc;cases hc
   .split
    .exact r.ev.2
    .intro c hc;cases hc
  .split
   .exact r.aS
   .intro c hc;cases hc
  .split;exact r.BQ;exact ti
  .split;exact r.bytes;exact ti
  .split;exact r.count;exact ti
  .split
   .exact r.bX
   .intro c hc;cases hc
  .split
   .exact r.eH
   .intro c hc;cases hc
 .simp only;split;exact h.sl;simp
 .simp only;split;exact h.pl;simp
 .simp only;split;exact h.tl;simp
theorem kA{S:AS}{v:AV}{ts us:List (List Nat)}{n:Nat}(hg:Gw S v 1 9 (dE ts))(hl:ts.length+us.length<=1000000000)(hn:us.length=n+1):
  ∃v' T,aY C0 ⟨S.h.set S.nx (.row (dE us) 0 0 false 9),S.nx+1⟩ .append [86,86] [v,.slice S.nx 0 0 (n+1) (n+1) 1 (some (n+1))]=.val v' T/\Gw T v' 1 9 (dE (ts++us))/\(∀id,id<S.nx->aV v≠id+1->T.h.get id=S.h.get id)/\S.nx<=T.nx/\(aV v'=aV v\/S.nx<aV v'):=by
 have hold:=hg.1.old;have hlen:=hg.1.gx;rw[ie]at hlen;have hx:Sl (⟨S.h.set S.nx (.row (dE us) 0 0 false 9),S.nx+1⟩:AS) (.slice S.nx 0 0 (n+1) (n+1) 1 (some (n+1))) 1 (dE us):=by
  refine⟨by simp[isSl,eS],?_,by simp[sLen,ie,hn],by simp[aV]⟩;show rd _ _ _ _ ((n+1)*1) (n+1)=_;rw[dP,get_set_same,cr,if_pos ⟨zzm _,zzm _,by omega⟩,List.drop_zero,zzw (by rw[ie,hn];omega)]
 have hgT:Gw (⟨S.h.set S.nx (.row (dE us) 0 0 false 9),S.nx+1⟩:AS) v 1 9 (dE ts):=hg.cE (fun id e=>ah _ _ (by omega)) (Nat.le_succ _);obtain⟨v',V,e2,r1,r2,r3,r4,r5,r6,r7⟩:=dr (cx:=C0) (ts:=[]) (t:=86) (u:=86) (p:=(9,1,16)) dh un69 rfl hgT hx (by rw[hlen];simp[sLen,fits,cG];omega);simp only at r1;refine⟨v',V,e2,by unfold dE at r1⊢;rw[List.map_append];exact r1,fun id h1 h2=>(r2 id (by show id<S.nx+1;omega) (fun e=>h2 e.symm)).trans (ah _ _ (by omega)),by have:S.nx+1<=V.nx:=r3;omega,?_⟩;rcases r6 with h|h
 .exact .inl h
 .exact .inr (by have:S.nx+1<aV v':=h;omega)
open Go.Proofs.YthklfandhmkpiaaGreatDoor.val (pV)
section
variable{S:AS}
theorem si{u:AV}{t0:List Nat}{l:List (List Nat)}(hu:Sl S u 1 (dE (t0::l)))(hb:∀t,t∈t0::l->∀c,c∈t->c<256)(h2:t0.length+hY l+l.length<=10000000000000):
  az C0 55 [u] S fun r T=>r=.str (t0++cg l++[10])/\Sub S T:=by
 have u1:=hu.sl;have uk:=aj hu;obtain⟨r,T,⟨rfl,hT⟩,e⟩:=(join108 hu hb h2).ex;refine bD (dL _) (dF _ rfl) zf55 rfl zo55 (by simp) fun F hn s0=>?_;have hl:(t0++cg l).length+1<=4611686018427387904:=by rw[zzf,eU];omega
 have ad:=Go.Proofs.YthklfandhmkpiaaGreatDoor.val.po (t0++cg l) [10] hl;simp[s0,u1,uk,e,aK,hT,ad]
end
open Go.Proofs.YthklfandhmkpiaaGreatDoor.val (dc)
theorem zn50:Tryz.f50.ntmps=221:=by kernel_rfl
theorem jj(k b:Int):eT C0 74 [(0,.int .i64 k),(1,.int .i64 b)]=some (.agg [.int .i64 k,.int .i64 b,.int .i64 0,.int .i64 0,.int .i64 0,.int .u64 0,.ar,.str [],.ar,.int .i64 0,.int .i64 0,.int .i64 0,.ar,.ar,.ar]):=by kernel_rfl
def dQ:List AV:=[.int .i64 0,.int .i64 0,.int .i64 0,.int .i64 0,.int .i64 0,.int .u64 0,.ar,.str [],.ar,.int .i64 0,.int .i64 0,.int .i64 0,.ar,.ar,.ar]
theorem mz{u:Nat}(h:u<18446744073709551616):(bP u).length<=20:=by
 rw[Go.Proofs.YthklfandhmkpiaaGreatDoor.val.rv];exact Go.Proofs.YthklfandhmkpiaaGreatDoor.val.gK 19 u (by omega)
theorem vR{n:Int}(h:pq n):(aU n).length<=21:=by
 have h1:=h.1;have h2:=h.2;unfold aU;split
 .have:=mz (u:=n.natAbs) (by omega);rw[zza];omega
 .have:=mz (u:=n.toNat) (by omega);omega
section
variable{S T:AS}
theorem xR{v:AV}{ts:List (List Nat)}(t1:List Nat)(hg:Gw S v 1 9 (dE ts))(hl:ts.length<=900000000):
  ∃v' T,aY C0 ⟨S.h.set S.nx (.row [.str t1] 0 0 false 9),S.nx+1⟩ .append [86,86] [v,.slice S.nx 0 0 1 1 1 (some 1)]=.val v' T/\Gw T v' 1 9 (dE (ts++[t1]))/\(∀id,id<S.nx->aV v≠id+1->T.h.get id=S.h.get id)/\S.nx<=T.nx/\(aV v'=aV v\/S.nx<aV v'):=
 kA (us:=[t1]) (n:=0) hg (by simp only[zza,zze];omega) rfl
theorem app2{v:AV}{ts:List (List Nat)}(t1 t2:List Nat)(hg:Gw S v 1 9 (dE ts))(hl:ts.length<=900000000):
  ∃v' T,aY C0 ⟨S.h.set S.nx (.row [.str t1,.str t2] 0 0 false 9),S.nx+1⟩ .append [86,86] [v,.slice S.nx 0 0 2 2 1 (some 2)]=.val v' T/\Gw T v' 1 9 (dE (ts++[t1,t2]))/\(∀id,id<S.nx->aV v≠id+1->T.h.get id=S.h.get id)/\S.nx<=T.nx/\(aV v'=aV v\/S.nx<aV v'):=
 kA (us:=[t1,t2]) (n:=1) hg (by simp only[zza,zze];omega) rfl
theorem app3{v:AV}{ts:List (List Nat)}(t1 t2 t3:List Nat)(hg:Gw S v 1 9 (dE ts))(hl:ts.length<=900000000):
  ∃v' T,aY C0 ⟨S.h.set S.nx (.row [.str t1,.str t2,.str t3] 0 0 false 9),S.nx+1⟩ .append [86,86] [v,.slice S.nx 0 0 3 3 1 (some 3)]=.val v' T/\Gw T v' 1 9 (dE (ts++[t1,t2,t3]))/\(∀id,id<S.nx->aV v≠id+1->T.h.get id=S.h.get id)/\S.nx<=T.nx/\(aV v'=aV v\/S.nx<aV v'):=
 kA (us:=[t1,t2,t3]) (n:=2) hg (by simp only[zza,zze];omega) rfl
theorem app4{v:AV}{ts:List (List Nat)}(t1 t2 t3 t4:List Nat)(hg:Gw S v 1 9 (dE ts))(hl:ts.length<=900000000):
  ∃v' T,aY C0 ⟨S.h.set S.nx (.row [.str t1,.str t2,.str t3,.str t4] 0 0 false 9),S.nx+1⟩ .append [86,86] [v,.slice S.nx 0 0 4 4 1 (some 4)]=.val v' T/\Gw T v' 1 9 (dE (ts++[t1,t2,t3,t4]))/\(∀id,id<S.nx->aV v≠id+1->T.h.get id=S.h.get id)/\S.nx<=T.nx/\(aV v'=aV v\/S.nx<aV v'):=
 kA (us:=[t1,t2,t3,t4]) (n:=3) hg (by simp only[zza,zze];omega) rfl
theorem fv2{F:Fr}{id:Nat}{a b:Tmp}{t1 t2:List Nat}(h1:sl F a=.str t1)(h2:sl F b=.str t2):aO C0 F id (.buildSlice 86 2 #[(0,.tmp a),(1,.tmp b)])=some (.slice id 0 0 2 2 1 (some 2),.row [.str t1,.str t2] 0 0 false 9):=by
 have:=bA (cx:=C0) (F:=F) (t:=86) (p:=(9,1,16)) (id:=id) (n:=2) (a:=#[(0,.tmp a),(1,.tmp b)]) [[.str t1],[.str t2]] dh rfl (by simp[aA,h1,h2,cellsOf]) (by simp) (by decide);simpa using this
theorem fv3{F:Fr}{id:Nat}{a b c:Tmp}{t1 t2 t3:List Nat}(h1:sl F a=.str t1)(h2:sl F b=.str t2)(h3:sl F c=.str t3):aO C0 F id (.buildSlice 86 3 #[(0,.tmp a),(1,.tmp b),(2,.tmp c)])=some (.slice id 0 0 3 3 1 (some 3),.row [.str t1,.str t2,.str t3] 0 0 false 9):=by
 have:=bA (cx:=C0) (F:=F) (t:=86) (p:=(9,1,16)) (id:=id) (n:=3) (a:=#[(0,.tmp a),(1,.tmp b),(2,.tmp c)]) [[.str t1],[.str t2],[.str t3]] dh rfl (by simp[aA,h1,h2,h3,cellsOf]) (by simp) (by decide);simpa using this
theorem fv4{F:Fr}{id:Nat}{a b c d:Tmp}{t1 t2 t3 t4:List Nat}(h1:sl F a=.str t1)(h2:sl F b=.str t2)(h3:sl F c=.str t3)(h4:sl F d=.str t4):aO C0 F id (.buildSlice 86 4 #[(0,.tmp a),(1,.tmp b),(2,.tmp c),(3,.tmp d)])=some (.slice id 0 0 4 4 1 (some 4),.row [.str t1,.str t2,.str t3,.str t4] 0 0 false 9):=by
 have:=bA (cx:=C0) (F:=F) (t:=86) (p:=(9,1,16)) (id:=id) (n:=4) (a:=#[(0,.tmp a),(1,.tmp b),(2,.tmp c),(3,.tmp d)]) [[.str t1],[.str t2],[.str t3],[.str t4]] dh rfl (by simp[aA,h1,h2,h3,h4,cellsOf]) (by simp) (by decide);simpa using this
theorem gw_one{t:List Nat}:Gw (⟨T.h.set T.nx (.row [.str t] 0 0 false 9),T.nx+1⟩:AS) (.slice T.nx 0 0 1 1 1 (some 1)) 1 9 (dE [t]):=by
 refine⟨⟨by simp[isSl,eS],?_,by simp[sLen,dE],by simp[aV]⟩,.inr ⟨T.nx,0,0,1,1,some 1,rfl,rfl,zzp _,_,0,0,get_set_same _ _ _,zzm _,rfl⟩⟩;show rd _ _ _ _ (1*1) 1=_;rw[dP,get_set_same,cr,if_pos ⟨zzm _,zzm _,by omega⟩];rfl
structure PM(S:AS)(x:cy)(cs:List AV)(ts:List (List Nat))(v:AV)(T:AS):Prop where
 sub:Sub S T
 b1:T.h.get S.nx=some (.row x.c 0 0 false 74)
 b3:T.h.get (S.nx+1)=some (.row dQ 0 0 false 74)
 b4:T.h.get (S.nx+2)=some (.row cs 0 0 false 74)
 lt:S.nx+3<=T.nx
 gw:Gw T v 1 9 (dE ts)
 bn:S.nx+3<aV v
structure FM(S:AS)(v:AV)(F:Fr):Prop where
 s5:sl F 5=v
 s1:sl F 1=.ptr S.nx 0 0 15
 s3:sl F 3=.ptr (S.nx+1) 0 0 15
 s4:sl F 4=.ptr (S.nx+2) 0 0 15
 n:F.n=221
def PF(S:AS)(x:cy)(cs:List AV)(ts:List (List Nat))(F:Fr)(T:AS):Prop:=∃v,PM S x cs ts v T/\FM S v F
theorem PM.to{x:cy}{cs:List AV}{ts:List (List Nat)}{v:AV}{W:AS}(h:PM S x cs ts v T)(k:Sub T W):PM S x cs ts v W:=
 ⟨h.sub.trans k,(k.h _ (by have:=h.lt;omega)).trans h.b1,(k.h _ (by have:=h.lt;omega)).trans h.b3,(k.h _ (by have:=h.lt;omega)).trans h.b4,zzq h.lt k.nx,h.gw.cE (fun id e=>k.h id (by have:=h.gw.1.old;omega)) k.nx,h.bn⟩
theorem PM.put{x:cy}{cs cs':List AV}{ts:List (List Nat)}{v:AV}{W:AS}(h:PM S x cs ts v T)(hn:W.nx=T.nx)(hk:∀id,id≠S.nx+2->W.h.get id=T.h.get id)(hc:W.h.get (S.nx+2)=some (.row cs' 0 0 false 74)):PM S x cs' ts v W:=
 ⟨⟨fun id cw=>(hk id (by omega)).trans (h.sub.h id cw),by have:=h.sub.nx;omega⟩,(hk _ (by omega)).trans h.b1,(hk _ (by omega)).trans h.b3,hc,by have:=h.lt;omega,h.gw.cE (fun id e=>hk id (by have:=h.bn;omega)) (by omega),h.bn⟩
theorem PM.app{x:cy}{cs:List AV}{ts us:List (List Nat)}{v v':AV}{W:AS}(h:PM S x cs ts v T)(h1:Gw W v' 1 9 (dE (ts++us)))(h2:∀id,id<T.nx->aV v≠id+1->W.h.get id=T.h.get id)(h3:T.nx<=W.nx)(h4:aV v'=aV v\/T.nx<aV v'):PM S x cs (ts++us) v' W:=by
 have hl:=h.lt;have hb:=h.bn;have hs:=h.sub.nx;exact⟨⟨fun id cw=>(h2 id (by omega) (by omega)).trans (h.sub.h id cw),by omega⟩,(h2 _ (by omega) (by omega)).trans h.b1,(h2 _ (by omega) (by omega)).trans h.b3,(h2 _ (by omega) (by omega)).trans h.b4,by omega,h1,by omega⟩
theorem PM.new{x:cy}{cs:List AV}{ts:List (List Nat)}{v:AV}(h:PM S x cs ts v T)(t:List Nat):PM S x cs [t] (.slice T.nx 0 0 1 1 1 (some 1)) ⟨T.h.set T.nx (.row [.str t] 0 0 false 9),T.nx+1⟩:=by
 have k:Sub T ⟨T.h.set T.nx (.row [.str t] 0 0 false 9),T.nx+1⟩:=dc;have:=h.to k;have hl:=h.lt;exact⟨this.sub,this.b1,this.b3,this.b4,this.lt,gw_one,by simp[aV];omega⟩
theorem PF.mk'{x:cy}{cs:List AV}{ts:List (List Nat)}{F:Fr}{v:AV}(h:PM S x cs ts v T)(h5:sl F 5=v)(h1:sl F 1=.ptr S.nx 0 0 15)(h3:sl F 3=.ptr (S.nx+1) 0 0 15)(h4:sl F 4=.ptr (S.nx+2) 0 0 15)(hn:F.n=221):PF S x cs ts F T:=⟨v,h,h5,h1,h3,h4,hn⟩
def LM(S:AS)(x:cy)(cs:List AV)(base:List (List Nat))(l:List (List Nat))(a b c:Tmp)(w:AV)(k:Nat)(F:Fr)(T:AS):Prop:=
 ∃i:Nat,PF S x cs (base++l.take i) F T/\sl F a=w/\sl F b=.int .i64 l.length/\sl F c=.int .i64 i/\i<=l.length/\k=l.length-i
theorem LM_mk{x:cy}{cs:List AV}{base l:List (List Nat)}{a b c:Tmp}{w:AV}{k:Nat}{F:Fr}(i:Nat)(h:PF S x cs (base++l.take i) F T)(ha:sl F a=w)(hb:sl F b=.int .i64 l.length)(hc:sl F c=.int .i64 i)(hi:i<=l.length)(hk:k=l.length-i):LM S x cs base l a b c w k F T:=
 ⟨i,h,ha,hb,hc,hi,hk⟩
theorem PM.fin{x y:cy}{cs:List AV}{ts us:List (List Nat)}{v:AV}{W:AS}(h:PM S x cs ts v T)(hc:cs=y.c)(ht:ts=us)(hn:W.nx=T.nx)(hk:∀id,id≠S.nx+1->W.h.get id=T.h.get id):Sub S W/\∃v',(v=v'/\cs=y.c)/\Sl W v' 1 (dE us):=by
 subst hc ht;exact⟨⟨fun id cw=>(hk id (by omega)).trans (h.sub.h id cw),by have:=h.sub.nx;omega⟩,v,⟨rfl,rfl⟩,(h.gw.cE (fun id e=>hk id (by have:=h.bn;omega)) (by omega)).1⟩
set_option maxHeartbeats 4000000 in
theorem parts50{x:cy}(hx:jz S x):az C0 50 [.agg x.c] S fun r T=>Sub S T/\∃v,r=.tuple [v,.agg x.bare.c]/\Sl T v 1 (dE (x.e.fu.map Tok.text)):=by
 have r:=hx.dK;have db:=aj hx.pred.sl;have bm:=aj hx.aR.sl;have cS:=aj hx.aS;have cX:=aj hx.bX;have dB:=hx.aR.sl.ok;have dC:=hx.aR.sl.base;have da:=aj hx.eH;have lJ:=hx.pred.sl.cells;have iv:=hx.aR.sl.cells;have lk:=hx.aS.cells;have lK:=hx.bX.cells;have lH:=hx.eH.cells;obtain⟨S3,hS3⟩:∃S3:AS,S3=⟨(((S.h.set S.nx (.row x.c 0 0 false 74)).set (S.nx+1) (.row dQ 0 0 false 74)).set (S.nx+2) (.row dQ 0 0 false 74)).set (S.nx+2) (.row [.int .i64 x.e.kind,.int .i64 x.e.au,.int .i64 0,.int .i64 0,.int .i64 0,.int .u64 0,.ar,.str [],.ar,.int .i64 0,.int .i64 0,.int .i64 0,.ar,.ar,.ar] 0 0 false 74),S.nx+1+2⟩:=⟨_,rfl⟩
 have g1:S3.h.get S.nx=some (.row x.c 0 0 false 74):=by rw[hS3];show (T.set _ _ _).get _=_;rw[ah _ _ (by omega),ah _ _ (by omega),ah _ _ (by omega),get_set_same]
 have g3:S3.h.get (S.nx+1)=some (.row dQ 0 0 false 74):=by rw[hS3];show (T.set _ _ _).get _=_;rw[ah _ _ (by omega),ah _ _ (by omega),get_set_same]
 have g4:S3.h.get (S.nx+2)=some (.row [.int .i64 x.e.kind,.int .i64 x.e.au,.int .i64 0,.int .i64 0,.int .i64 0,.int .u64 0,.ar,.str [],.ar,.int .i64 0,.int .i64 0,.int .i64 0,.ar,.ar,.ar] 0 0 false 74):=by rw[hS3];exact get_set_same _ _ _
 have hS:Sub S S3:=by
  rw[hS3];exact⟨fun id cw=>by show (T.set _ _ _).get _=_;rw[ah _ _ (by omega),ah _ _ (by omega),ah _ _ (by omega),ah _ _ (by omega)],by show S.nx<=S.nx+1+2;omega⟩
 have nS3:S3.nx=S.nx+3:=by rw[hS3]
 have lN:=hS3.symm;clear hS3;obtain⟨_,T1,⟨rfl,rn⟩,e1⟩:=(gk (S:=S3) r.au.1 r.au.2).ex;have n1:=rn.nx;have hA:Sub T1 ⟨T1.h.set T1.nx (.row [.str (aU x.e.au)] 0 0 false 9),T1.nx+1⟩:=dc;obtain⟨T2,kW⟩:∃T2:AS,T2=⟨T1.h.set T1.nx (.row [.str (aU x.e.au)] 0 0 false 9),T1.nx+1⟩:=⟨_,rfl⟩
 have gw2:Gw T2 (.slice T1.nx 0 0 1 1 1 (some 1)) 1 9 (dE [aU x.e.au]):=by rw[kW];exact gw_one
 rw[<-kW]at hA;have n2:T2.nx=T1.nx+1:=by rw[kW]
 have tD:=kW.symm;clear kW;have hB:=rn.trans hA;have pD:PM S x [.int .i64 x.e.kind,.int .i64 x.e.au,.int .i64 0,.int .i64 0,.int .i64 0,.int .u64 0,.ar,.str [],.ar,.int .i64 0,.int .i64 0,.int .i64 0,.ar,.ar,.ar] [aU x.e.au] (.slice T1.nx 0 0 1 1 1 (some 1)) T2:=
  ⟨hS.trans hB,(hB.h _ (by omega)).trans g1,(hB.h _ (by omega)).trans g3,(hB.h _ (by omega)).trans g4,by omega,gw2,by simp[aV];omega⟩
 simp only[cy.c,dQ]at lN;have lI:=pD.b1;have lZ:=pD.b4;have kl:=g1;simp only[cy.c]at lI kl;refine ej (dL _) (dF _ rfl) zf50 rfl zo50 (by simp) fun F hn hs=>?_;rw[zn50]at hn;have s0:=hs 0;clear hs;simp only[zzv,Option.getD_some,cy.c]at s0;by_cases k1:x.e.kind=1
 .rw[k1]at lN lI lZ kl s0 pD;simp[s0,jj,lN,e1,aK,tD,aB dh,kl,lI,lZ,db,dB,dC,bm,cS,cX,da,lJ,iv,lk,lK,lH];refine aJ (PF S x [.int .i64 1,.int .i64 x.e.au,.int .i64 x.e.place,.int .i64 0,.int .i64 0,.int .u64 0,x.pv,.str [],.ar,.int .i64 0,.int .i64 0,.int .i64 0,.ar,.ar,.ar] [aU x.e.au]) ?_ ?_
  .refine bg [.p,.r 0 0,.p,.r 0 1,.p,.e [],.p,.e []] (n:=221) (by kernel_rfl) (by simp[hn]) ?_;simp[s0,jj,lN,e1,aK,tD,aB dh,kl,lI,lZ,db,dB,dC,bm,cS,cX,da,lJ,iv,lk,lK,lH];exact PF.mk' (pD.put rfl (fun id e=>by simp[ah _ _ e,e]) (get_set_same _ _ _)) (by simp) (by simp) (by simp) (by simp) (by simp[hn])
  .rintro G T ⟨v,cu,h8,h9,cM,fC,jK⟩;obtain⟨_,V1,⟨rfl,iA⟩,c1⟩:=(gk (S:=T) r.place.1 r.place.2).ex;have jf:=iA;obtain⟨_,V2,⟨rfl,vL⟩,c2⟩:=(ask94 (hx.pred.sub (cu.sub.trans jf)) r.cs).ex;have qv:=jf.trans vL;obtain⟨v2,W,a1,a2,a3,a4,a5⟩:=app2 (aU x.e.place) (jO x.e.cs) (cu.to qv).gw (by simp);have fk:=(cu.to qv).app a2 a3 a4 a5;have jN:=cu.b1;simp only[cy.c]at jN;have fA:=((cu.to jf).b1)
   simp only[cy.c]at fA;have nv:=((cu.to qv).b1)
   simp only[cy.c]at nv;simp[h8,h9,cM,fC,jN,fA,nv,c1,c2,aK,fv2,a1,aj cu.gw.1,aj a2.1,db,dB,dC,bm,cS,cX,da,lJ,iv,lk,lK,lH];refine aJ (PF S x [.int .i64 1,.int .i64 x.e.au,.int .i64 x.e.place,.int .i64 0,.int .i64 0,.int .u64 0,x.pv,.str [],.ar,.int .i64 0,.int .i64 0,.int .i64 0,.ar,.ar,.ar] [aU x.e.au,aU x.e.place,jO x.e.cs]) ?_ ?_
   .refine bg [.p,.p,.r 0 0,.e [],.p,.r 1 0,.e [],.e [],.e [],.p] (n:=221) (by kernel_rfl) (by simp[jK]) ?_;simp[h8,h9,cM,fC,jN,fA,nv,c1,c2,aK,fv2,a1,aj cu.gw.1,aj a2.1,db,dB,dC,bm,cS,cX,da,lJ,iv,lk,lK,lH];exact PF.mk' fk (by simp) (by simp[h9]) (by simp[cM]) (by simp[fC]) (by simp[jK])
   .rintro G T ⟨v,cu,h8,h9,cM,fC,jK⟩;simp[h8,h9,cM,fC];refine bg [.p,.r 0 0,.p,.e []] (n:=221) (by kernel_rfl) (by simp[jK]) ?_;have ky:=cu.b3;simp only[dQ]at ky;simp[h8,h9,cM,fC,cu.b4,ky,aj cu.gw.1,cu.gw.1.cells,db,dB,dC,bm,cS,cX,da];exact PM.fin (y:=x.bare) cu (by simp[cy.bare,Ev.bare,cy.c,k1]) (by simp[Ev.fu,k1,Tok.text,jO]) rfl (fun id e=>ah _ _ e)
 have m1:=k1;clear k1;by_cases k1:x.e.kind=2
 .rw[k1]at lN lI lZ kl s0 pD;obtain⟨T,nO⟩:∃T3:AS,T3=⟨T2.h.set (S.nx+2) (.row [.int .i64 2,.int .i64 x.e.au,.int .i64 x.e.place,.int .i64 0,.int .i64 0,.int .u64 0,.ar,.str [],.ar,.int .i64 0,.int .i64 0,.int .i64 0,.ar,.ar,.ar] 0 0 false 74),T2.nx⟩:=⟨_,rfl⟩
  have cu:PM S x [.int .i64 2,.int .i64 x.e.au,.int .i64 x.e.place,.int .i64 0,.int .i64 0,.int .u64 0,.ar,.str [],.ar,.int .i64 0,.int .i64 0,.int .i64 0,.ar,.ar,.ar] [aU x.e.au] (.slice T1.nx 0 0 1 1 1 (some 1)) T:=pD.put (by rw[nO]) (fun id e=>by rw[nO];exact ah _ _ e) (by rw[nO];exact get_set_same _ _ _);have bT3:=nO.symm;clear nO;obtain⟨_,V1,⟨rfl,iA⟩,c1⟩:=(gk (S:=T) r.place.1 r.place.2).ex;have jf:=iA;obtain⟨v2,W,a1,a2,a3,a4,a5⟩:=xR (aU x.e.place) (cu.to jf).gw (by simp);have fk:=(cu.to jf).app a2 a3 a4 a5;have jN:=cu.b1;simp only[cy.c]at jN;have fA:=((cu.to jf).b1)
  simp only[cy.c]at fA;simp[s0,jj,lN,e1,aK,tD,aB dh,kl,lI,lZ,db,dB,dC,bm,cS,cX,da,lJ,iv,lk,lK,lH,bT3,jN,fA,c1,aK,aB dh,a1,aj cu.gw.1,aj a2.1,db,dB,dC,bm,cS,cX,da,lJ,iv,lk,lK,lH];refine bg [.p,.r 0 0,.p,.e []] (n:=221) (by kernel_rfl) (by simp[hn]) ?_;have ky:=fk.b3;have BB:=fk.b4;simp only[dQ]at ky;simp[BB,ky,aj fk.gw.1,fk.gw.1.cells,db,dB,dC,bm,cS,cX,da];exact PM.fin (y:=x.bare) fk (by simp[cy.bare,Ev.bare,cy.c,k1]) (by simp[Ev.fu,k1,Tok.text,jO]) rfl (fun id e=>ah _ _ e)
 have m2:=k1;clear k1;by_cases k1:x.e.kind=8
 .rw[k1]at lN lI lZ kl s0 pD;obtain⟨T,nO⟩:∃T3:AS,T3=⟨T2.h.set (S.nx+2) (.row [.int .i64 8,.int .i64 x.e.au,.int .i64 x.e.place,.int .i64 0,.int .i64 0,.int .u64 0,.ar,.str [],.ar,.int .i64 0,.int .i64 0,.int .i64 0,.ar,.ar,.ar] 0 0 false 74),T2.nx⟩:=⟨_,rfl⟩
  have cu:PM S x [.int .i64 8,.int .i64 x.e.au,.int .i64 x.e.place,.int .i64 0,.int .i64 0,.int .u64 0,.ar,.str [],.ar,.int .i64 0,.int .i64 0,.int .i64 0,.ar,.ar,.ar] [aU x.e.au] (.slice T1.nx 0 0 1 1 1 (some 1)) T:=pD.put (by rw[nO]) (fun id e=>by rw[nO];exact ah _ _ e) (by rw[nO];exact get_set_same _ _ _);have bT3:=nO.symm;clear nO;obtain⟨_,V1,⟨rfl,iA⟩,c1⟩:=(gk (S:=T) r.place.1 r.place.2).ex;have jf:=iA;obtain⟨v2,W,a1,a2,a3,a4,a5⟩:=xR (aU x.e.place) (cu.to jf).gw (by simp);have fk:=(cu.to jf).app a2 a3 a4 a5;have jN:=cu.b1;simp only[cy.c]at jN;have fA:=((cu.to jf).b1)
  simp only[cy.c]at fA;simp[s0,jj,lN,e1,aK,tD,aB dh,kl,lI,lZ,db,dB,dC,bm,cS,cX,da,lJ,iv,lk,lK,lH,bT3,jN,fA,c1,aK,aB dh,a1,aj cu.gw.1,aj a2.1,db,dB,dC,bm,cS,cX,da,lJ,iv,lk,lK,lH];refine bg [.p,.r 0 0,.p,.e []] (n:=221) (by kernel_rfl) (by simp[hn]) ?_;have ky:=fk.b3;have BB:=fk.b4;simp only[dQ]at ky;simp[BB,ky,aj fk.gw.1,fk.gw.1.cells,db,dB,dC,bm,cS,cX,da];exact PM.fin (y:=x.bare) fk (by simp[cy.bare,Ev.bare,cy.c,k1]) (by simp[Ev.fu,k1,Tok.text,jO]) rfl (fun id e=>ah _ _ e)
 have m8:=k1;clear k1;by_cases k1:x.e.kind=3
 .rw[k1]at lN lI lZ kl s0 pD;simp[s0,jj,lN,e1,aK,tD,aB dh,kl,lI,lZ,db,dB,dC,bm,cS,cX,da,lJ,iv,lk,lK,lH];refine aJ (PF S x [.int .i64 3,.int .i64 x.e.au,.int .i64 x.e.place,.int .i64 0,.int .i64 0,.int .u64 0,.ar,.str x.e.key,x.av,.int .i64 0,.int .i64 0,.int .i64 0,.ar,.ar,.ar] [aU x.e.au]) ?_ ?_
  .refine bg [.p,.r 0 0,.p,.r 0 1,.p,.e [],.p,.e []] (n:=221) (by kernel_rfl) (by simp[hn]) ?_;simp[s0,jj,lN,e1,aK,tD,aB dh,kl,lI,lZ,db,dB,dC,bm,cS,cX,da,lJ,iv,lk,lK,lH];refine⟨by rcases hx.aR.sl.cases with h|⟨_,_,_,_,_,_,h⟩<;>rw[h],?_⟩;exact PF.mk' (pD.put rfl (fun id e=>by simp[ah _ _ e,e]) (get_set_same _ _ _)) (by simp) (by simp) (by simp) (by simp) (by simp[hn])
  .rintro G T ⟨v,cu,h8,h9,cM,fC,jK⟩;obtain⟨_,V1,⟨rfl,iA⟩,c1⟩:=(gk (S:=T) r.place.1 r.place.2).ex;have jf:=iA;obtain⟨_,V2,⟨rfl,vL⟩,c2⟩:=(said95 (key:=x.e.key) (hx.aR.sub (cu.sub.trans jf)) r.ev.1).ex;have qv:=jf.trans vL;obtain⟨v2,W,a1,a2,a3,a4,a5⟩:=app2 (aU x.e.place) ((cH x.e.key x.e.aR).getD []) (cu.to qv).gw (by simp);have fk:=(cu.to qv).app a2 a3 a4 a5;have jN:=cu.b1;simp only[cy.c]at jN;have fA:=((cu.to jf).b1)
   simp only[cy.c]at fA;have nv:=((cu.to qv).b1)
   simp only[cy.c]at nv;simp[h8,h9,cM,fC,jN,fA,nv,c1,c2,aK,fv2,a1,aj cu.gw.1,aj a2.1,db,dB,dC,bm,cS,cX,da,lJ,iv,lk,lK,lH];refine aJ (PF S x [.int .i64 3,.int .i64 x.e.au,.int .i64 x.e.place,.int .i64 0,.int .i64 0,.int .u64 0,.ar,.str x.e.key,x.av,.int .i64 0,.int .i64 0,.int .i64 0,.ar,.ar,.ar] [aU x.e.au,aU x.e.place,(cH x.e.key x.e.aR).getD []]) ?_ ?_
   .refine bg [.p,.p,.r 0 0,.e [],.p,.r 1 0,.e [],.e [],.e [],.p] (n:=221) (by kernel_rfl) (by simp[jK]) ?_;simp[h8,h9,cM,fC,jN,fA,nv,c1,c2,aK,fv2,a1,aj cu.gw.1,aj a2.1,db,dB,dC,bm,cS,cX,da,lJ,iv,lk,lK,lH];refine⟨by rcases hx.aR.sl.cases with h|⟨_,_,_,_,_,_,h⟩<;>rw[h],?_⟩;exact PF.mk' fk (by simp) (by simp[h9]) (by simp[cM]) (by simp[fC]) (by simp[jK])
   .rintro G T ⟨v,cu,h8,h9,cM,fC,jK⟩;simp[h8,h9,cM,fC];refine bg [.p,.r 0 0,.p,.e []] (n:=221) (by kernel_rfl) (by simp[jK]) ?_;have ky:=cu.b3;simp only[dQ]at ky;simp[h8,h9,cM,fC,cu.b4,ky,aj cu.gw.1,cu.gw.1.cells,db,dB,dC,bm,cS,cX,da];exact PM.fin (y:=x.bare) cu (by simp[cy.bare,Ev.bare,cy.c,k1]) (by simp[Ev.fu,k1,Tok.text,jO]) rfl (fun id e=>ah _ _ e)
 have m3:=k1;clear k1;by_cases k1:x.e.kind=5
 .rw[k1]at lN lI lZ kl s0 pD;obtain⟨T,nO⟩:∃T3:AS,T3=⟨T2.h.set (S.nx+2) (.row [.int .i64 5,.int .i64 x.e.au,.int .i64 0,.int .i64 x.e.id,.int .i64 0,.int .u64 0,.ar,.str [],.ar,.int .i64 0,.int .i64 0,.int .i64 0,.ar,.ar,.ar] 0 0 false 74),T2.nx⟩:=⟨_,rfl⟩
  have cu:PM S x [.int .i64 5,.int .i64 x.e.au,.int .i64 0,.int .i64 x.e.id,.int .i64 0,.int .u64 0,.ar,.str [],.ar,.int .i64 0,.int .i64 0,.int .i64 0,.ar,.ar,.ar] [aU x.e.au] (.slice T1.nx 0 0 1 1 1 (some 1)) T:=pD.put (by rw[nO]) (fun id e=>by rw[nO];exact ah _ _ e) (by rw[nO];exact get_set_same _ _ _);have bT3:=nO.symm;clear nO;obtain⟨_,V1,⟨rfl,iA⟩,c1⟩:=(gk (S:=T) r.id.1 r.id.2).ex;have jf:=iA;obtain⟨v2,W,a1,a2,a3,a4,a5⟩:=xR (aU x.e.id) (cu.to jf).gw (by simp);have fk:=(cu.to jf).app a2 a3 a4 a5;have jN:=cu.b1;simp only[cy.c]at jN;have fA:=((cu.to jf).b1)
  simp only[cy.c]at fA;simp[s0,jj,lN,e1,aK,tD,aB dh,kl,lI,lZ,db,dB,dC,bm,cS,cX,da,lJ,iv,lk,lK,lH,bT3,jN,fA,c1,aK,aB dh,a1,aj cu.gw.1,aj a2.1,db,dB,dC,bm,cS,cX,da,lJ,iv,lk,lK,lH];refine bg [.p,.r 0 0,.p,.e []] (n:=221) (by kernel_rfl) (by simp[hn]) ?_;have ky:=fk.b3;have BB:=fk.b4;simp only[dQ]at ky;simp[BB,ky,aj fk.gw.1,fk.gw.1.cells,db,dB,dC,bm,cS,cX,da];exact PM.fin (y:=x.bare) fk (by simp[cy.bare,Ev.bare,cy.c,k1]) (by simp[Ev.fu,k1,Tok.text,jO]) rfl (fun id e=>ah _ _ e)
 have m5:=k1;clear k1;by_cases k1:x.e.kind=6
 .rw[k1]at lN lI lZ kl s0 pD;simp[s0,jj,lN,e1,aK,tD,aB dh,kl,lI,lZ,db,dB,dC,bm,cS,cX,da,lJ,iv,lk,lK,lH];refine aJ (PF S x [.int .i64 6,.int .i64 x.e.au,.int .i64 0,.int .i64 x.e.id,.int .i64 x.e.fh,.int .u64 x.e.n,.ar,.str [],.ar,.int .i64 0,.int .i64 0,.int .i64 0,.ar,.ar,.ar] [aU x.e.au]) ?_ ?_
  .refine bg [.p,.r 0 0,.p,.r 0 1,.p,.r 0 2,.p,.e [],.p,.e [],.p,.e []] (n:=221) (by kernel_rfl) (by simp[hn]) ?_;simp[s0,jj,lN,e1,aK,tD,aB dh,kl,lI,lZ,db,dB,dC,bm,cS,cX,da,lJ,iv,lk,lK,lH];exact PF.mk' (pD.put rfl (fun id e=>by simp[ah _ _ e,e]) (get_set_same _ _ _)) (by simp) (by simp) (by simp) (by simp) (by simp[hn])
  .rintro G T ⟨v,cu,h8,h9,cM,fC,jK⟩;obtain⟨_,V1,⟨rfl,iA⟩,c1⟩:=(gk (S:=T) r.id.1 r.id.2).ex;have jf:=iA;obtain⟨_,V2,⟨rfl,vL⟩,c2⟩:=(gk (S:=V1) r.fh.1 r.fh.2).ex;have qv:=jf.trans vL;obtain⟨_,V3,⟨rfl,AX⟩,c3⟩:=(ka (S:=V2) r.n).ex;have hW3:=qv.trans AX;obtain⟨v2,W,a1,a2,a3,a4,a5⟩:=app3 (aU x.e.id) (aU x.e.fh) (bP x.e.n) (cu.to hW3).gw (by simp);have fk:=(cu.to hW3).app a2 a3 a4 a5;have jN:=cu.b1;simp only[cy.c]at jN;have fA:=((cu.to jf).b1)
   simp only[cy.c]at fA;have nv:=((cu.to qv).b1)
   simp only[cy.c]at nv;have b1c3:=((cu.to hW3).b1)
   simp only[cy.c]at b1c3;simp[h8,h9,cM,fC,jN,fA,nv,b1c3,c1,c2,c3,aK,fv3,a1,aj cu.gw.1,aj a2.1,db,dB,dC,bm,cS,cX,da,lJ,iv,lk,lK,lH];refine aJ (PF S x [.int .i64 6,.int .i64 x.e.au,.int .i64 0,.int .i64 x.e.id,.int .i64 x.e.fh,.int .u64 x.e.n,.ar,.str [],.ar,.int .i64 0,.int .i64 0,.int .i64 0,.ar,.ar,.ar] [aU x.e.au,aU x.e.id,aU x.e.fh,bP x.e.n]) ?_ ?_
   .refine bg [.p,.p,.r 0 0,.e [],.p,.r 1 0,.e [],.p,.r 2 0,.e [],.e [],.e [],.p] (n:=221) (by kernel_rfl) (by simp[jK]) ?_;simp[h8,h9,cM,fC,jN,fA,nv,b1c3,c1,c2,c3,aK,fv3,a1,aj cu.gw.1,aj a2.1,db,dB,dC,bm,cS,cX,da,lJ,iv,lk,lK,lH];exact PF.mk' fk (by simp) (by simp[h9]) (by simp[cM]) (by simp[fC]) (by simp[jK])
   .rintro G T ⟨v,cu,h8,h9,cM,fC,jK⟩;simp[h8,h9,cM,fC];refine bg [.p,.r 0 0,.p,.e []] (n:=221) (by kernel_rfl) (by simp[jK]) ?_;have ky:=cu.b3;simp only[dQ]at ky;simp[h8,h9,cM,fC,cu.b4,ky,aj cu.gw.1,cu.gw.1.cells,db,dB,dC,bm,cS,cX,da];exact PM.fin (y:=x.bare) cu (by simp[cy.bare,Ev.bare,cy.c,k1]) (by simp[Ev.fu,k1,Tok.text,jO]) rfl (fun id e=>ah _ _ e)
 have m6:=k1;clear k1;by_cases k1:x.e.kind=7
 .rw[k1]at lN lI lZ kl s0 pD;simp[s0,jj,lN,e1,aK,tD,aB dh,kl,lI,lZ,db,dB,dC,bm,cS,cX,da,lJ,iv,lk,lK,lH];refine aJ (PF S x [.int .i64 7,.int .i64 x.e.au,.int .i64 x.e.place,.int .i64 0,.int .i64 0,.int .u64 0,.ar,.str [],.ar,.int .i64 x.e.BQ,.int .i64 x.e.bytes,.int .i64 x.e.count,.ar,.ar,.ar] [aU x.e.au]) ?_ ?_
  .refine bg [.p,.r 0 0,.p,.r 0 1,.p,.e [],.p,.e []] (n:=221) (by kernel_rfl) (by simp[hn]) ?_;simp[s0,jj,lN,e1,aK,tD,aB dh,kl,lI,lZ,db,dB,dC,bm,cS,cX,da,lJ,iv,lk,lK,lH];exact PF.mk' (pD.put rfl (fun id e=>by simp[ah _ _ e,e]) (get_set_same _ _ _)) (by simp) (by simp) (by simp) (by simp) (by simp[hn])
  .rintro G T ⟨v,cu,h8,h9,cM,fC,jK⟩;obtain⟨_,V1,⟨rfl,iA⟩,c1⟩:=(gk (S:=T) r.place.1 r.place.2).ex;have jf:=iA;obtain⟨_,V2,⟨rfl,vL⟩,c2⟩:=(gk (S:=V1) r.BQ.1 r.BQ.2).ex;have qv:=jf.trans vL;obtain⟨_,V3,⟨rfl,AX⟩,c3⟩:=(gk (S:=V2) r.bytes.1 r.bytes.2).ex;have hW3:=qv.trans AX;obtain⟨_,V4,⟨rfl,hV4⟩,c4⟩:=(gk (S:=V3) r.count.1 r.count.2).ex;have hW4:=hW3.trans hV4;obtain⟨v2,W,a1,a2,a3,a4,a5⟩:=app4 (aU x.e.place) (aU x.e.BQ) (aU x.e.bytes) (aU x.e.count) (cu.to hW4).gw (by simp);have fk:=(cu.to hW4).app a2 a3 a4 a5;have jN:=cu.b1;simp only[cy.c]at jN;have fA:=((cu.to jf).b1)
   simp only[cy.c]at fA;have nv:=((cu.to qv).b1)
   simp only[cy.c]at nv;have b1c3:=((cu.to hW3).b1)
   simp only[cy.c]at b1c3;have b1c4:=((cu.to hW4).b1)
   simp only[cy.c]at b1c4;simp[h8,h9,cM,fC,jN,fA,nv,b1c3,b1c4,c1,c2,c3,c4,aK,fv4,a1,aj cu.gw.1,aj a2.1,db,dB,dC,bm,cS,cX,da,lJ,iv,lk,lK,lH];refine aJ (PF S x [.int .i64 7,.int .i64 x.e.au,.int .i64 x.e.place,.int .i64 0,.int .i64 0,.int .u64 0,.ar,.str [],.ar,.int .i64 x.e.BQ,.int .i64 x.e.bytes,.int .i64 x.e.count,.ar,.ar,.ar] [aU x.e.au,aU x.e.place,aU x.e.BQ,aU x.e.bytes,aU x.e.count]) ?_ ?_
   .refine bg [.p,.p,.r 0 0,.e [],.p,.p,.r 1 0,.e [],.p,.p,.r 2 0,.e [],.p,.p,.r 3 0,.e [],.e [],.e [],.p] (n:=221) (by kernel_rfl) (by simp[jK]) ?_;simp[h8,h9,cM,fC,jN,fA,nv,b1c3,b1c4,c1,c2,c3,c4,aK,fv4,a1,aj cu.gw.1,aj a2.1,db,dB,dC,bm,cS,cX,da,lJ,iv,lk,lK,lH];exact PF.mk' fk (by simp) (by simp[h9]) (by simp[cM]) (by simp[fC]) (by simp[jK])
   .rintro G T ⟨v,cu,h8,h9,cM,fC,jK⟩;simp[h8,h9,cM,fC];refine bg [.p,.r 0 0,.p,.e []] (n:=221) (by kernel_rfl) (by simp[jK]) ?_;have ky:=cu.b3;simp only[dQ]at ky;simp[h8,h9,cM,fC,cu.b4,ky,aj cu.gw.1,cu.gw.1.cells,db,dB,dC,bm,cS,cX,da];exact PM.fin (y:=x.bare) cu (by simp[cy.bare,Ev.bare,cy.c,k1]) (by simp[Ev.fu,k1,Tok.text,jO]) rfl (fun id e=>ah _ _ e)
 have m7:=k1;clear k1;by_cases k1:x.e.kind=10
 .rw[k1]at lN lI lZ kl s0 pD;simp[s0,jj,lN,e1,aK,tD,aB dh,kl,lI,lZ,db,dB,dC,bm,cS,cX,da,lJ,iv,lk,lK,lH];refine aJ (PF S x [.int .i64 10,.int .i64 0,.int .i64 0,.int .i64 0,.int .i64 0,.int .u64 x.e.n,.ar,.str [],.ar,.int .i64 0,.int .i64 0,.int .i64 0,.ar,.ar,.ar] [aU x.e.au]) ?_ ?_
  .refine bg [.p,.r 0 1,.p,.e [],.p,.e []] (n:=221) (by kernel_rfl) (by simp[hn]) ?_;simp[s0,jj,lN,e1,aK,tD,aB dh,kl,lI,lZ,db,dB,dC,bm,cS,cX,da,lJ,iv,lk,lK,lH];exact PF.mk' (pD.put rfl (fun id e=>by simp[ah _ _ e,e]) (get_set_same _ _ _)) (by simp) (by simp) (by simp) (by simp) (by simp[hn])
  .rintro G T ⟨v,cu,h8,h9,cM,fC,jK⟩;obtain⟨_,V1,⟨rfl,iA⟩,c1⟩:=(ka (S:=T) r.n).ex;have PM1:=cu.to iA;have jN:=cu.b1;have b1d:=PM1.b1;simp only[cy.c]at jN b1d;obtain⟨W,hW⟩:∃W:AS,W=⟨V1.h.set V1.nx (.row [.str (bP x.e.n)] 0 0 false 9),V1.nx+1⟩:=⟨_,rfl⟩
   have fk:=PM1.new (bP x.e.n);rw[<-hW]at fk;have bW:=hW.symm;clear hW;simp[h8,h9,cM,fC,jN,b1d,c1,aK,aB dh,bW];refine bg [.p,.r 0 0,.p,.e []] (n:=221) (by kernel_rfl) (by simp[jK]) ?_;have ky:=fk.b3;have BB:=fk.b4;simp only[dQ]at ky;simp[h8,h9,cM,fC,BB,ky,aj fk.gw.1,fk.gw.1.cells,db,dB,dC,bm,cS,cX,da];exact PM.fin (y:=x.bare) fk (by simp[cy.bare,Ev.bare,cy.c,k1]) (by simp[Ev.fu,k1,Tok.text,jO]) rfl (fun id e=>ah _ _ e)
 have m10:=k1;clear k1;by_cases k1:x.e.kind=11
 .rw[k1]at lN lI lZ kl s0 pD;simp[s0,jj,lN,e1,aK,tD,aB dh,kl,lI,lZ,db,dB,dC,bm,cS,cX,da,lJ,iv,lk,lK,lH];refine aJ (PF S x [.int .i64 11,.int .i64 0,.int .i64 0,.int .i64 0,.int .i64 0,.int .u64 x.e.n,.ar,.str [],.ar,.int .i64 0,.int .i64 0,.int .i64 0,.ar,.ar,.ar] [aU x.e.au]) ?_ ?_
  .refine bg [.p,.r 0 1,.p,.e [],.p,.e []] (n:=221) (by kernel_rfl) (by simp[hn]) ?_;simp[s0,jj,lN,e1,aK,tD,aB dh,kl,lI,lZ,db,dB,dC,bm,cS,cX,da,lJ,iv,lk,lK,lH];exact PF.mk' (pD.put rfl (fun id e=>by simp[ah _ _ e,e]) (get_set_same _ _ _)) (by simp) (by simp) (by simp) (by simp) (by simp[hn])
  .rintro G T ⟨v,cu,h8,h9,cM,fC,jK⟩;obtain⟨_,V1,⟨rfl,iA⟩,c1⟩:=(ka (S:=T) r.n).ex;have PM1:=cu.to iA;have jN:=cu.b1;have b1d:=PM1.b1;simp only[cy.c]at jN b1d;obtain⟨W,hW⟩:∃W:AS,W=⟨V1.h.set V1.nx (.row [.str (bP x.e.n)] 0 0 false 9),V1.nx+1⟩:=⟨_,rfl⟩
   have fk:=PM1.new (bP x.e.n);rw[<-hW]at fk;have bW:=hW.symm;clear hW;simp[h8,h9,cM,fC,jN,b1d,c1,aK,aB dh,bW];refine bg [.p,.r 0 0,.p,.e []] (n:=221) (by kernel_rfl) (by simp[jK]) ?_;have ky:=fk.b3;have BB:=fk.b4;simp only[dQ]at ky;simp[h8,h9,cM,fC,BB,ky,aj fk.gw.1,fk.gw.1.cells,db,dB,dC,bm,cS,cX,da];exact PM.fin (y:=x.bare) fk (by simp[cy.bare,Ev.bare,cy.c,k1]) (by simp[Ev.fu,k1,Tok.text,jO]) rfl (fun id e=>ah _ _ e)
 have m11:=k1;clear k1;by_cases k1:x.e.kind=12
 .rw[k1]at lN lI lZ kl s0 pD;simp[s0,jj,lN,e1,aK,tD,aB dh,kl,lI,lZ,db,dB,dC,bm,cS,cX,da,lJ,iv,lk,lK,lH];refine aJ (PF S x [.int .i64 12,.int .i64 0,.int .i64 0,.int .i64 0,.int .i64 0,.int .u64 x.e.n,.ar,.str [],.ar,.int .i64 0,.int .i64 0,.int .i64 0,.ar,.ar,.ar] [aU x.e.au]) ?_ ?_
  .refine bg [.p,.r 0 1,.p,.e [],.p,.e []] (n:=221) (by kernel_rfl) (by simp[hn]) ?_;simp[s0,jj,lN,e1,aK,tD,aB dh,kl,lI,lZ,db,dB,dC,bm,cS,cX,da,lJ,iv,lk,lK,lH];exact PF.mk' (pD.put rfl (fun id e=>by simp[ah _ _ e,e]) (get_set_same _ _ _)) (by simp) (by simp) (by simp) (by simp) (by simp[hn])
  .rintro G T ⟨v,cu,h8,h9,cM,fC,jK⟩;obtain⟨_,V1,⟨rfl,iA⟩,c1⟩:=(ka (S:=T) r.n).ex;have PM1:=cu.to iA;have jN:=cu.b1;have b1d:=PM1.b1;simp only[cy.c]at jN b1d;obtain⟨W,hW⟩:∃W:AS,W=⟨V1.h.set V1.nx (.row [.str (bP x.e.n)] 0 0 false 9),V1.nx+1⟩:=⟨_,rfl⟩
   have fk:=PM1.new (bP x.e.n);rw[<-hW]at fk;have bW:=hW.symm;clear hW;simp[h8,h9,cM,fC,jN,b1d,c1,aK,aB dh,bW];refine bg [.p,.r 0 0,.p,.e []] (n:=221) (by kernel_rfl) (by simp[jK]) ?_;have ky:=fk.b3;have BB:=fk.b4;simp only[dQ]at ky;simp[h8,h9,cM,fC,BB,ky,aj fk.gw.1,fk.gw.1.cells,db,dB,dC,bm,cS,cX,da];exact PM.fin (y:=x.bare) fk (by simp[cy.bare,Ev.bare,cy.c,k1]) (by simp[Ev.fu,k1,Tok.text,jO]) rfl (fun id e=>ah _ _ e)
 have m12:=k1;clear k1;by_cases k1:x.e.kind=13
 .rw[k1]at lN lI lZ kl s0 pD;simp[s0,jj,lN,e1,aK,tD,aB dh,kl,lI,lZ,db,dB,dC,bm,cS,cX,da,lJ,iv,lk,lK,lH];refine aJ (PF S x [.int .i64 13,.int .i64 0,.int .i64 0,.int .i64 0,.int .i64 0,.int .u64 x.e.n,.ar,.str [],.ar,.int .i64 0,.int .i64 0,.int .i64 0,.ar,.ar,.ar] [aU x.e.au]) ?_ ?_
  .refine bg [.p,.r 0 1,.p,.e [],.p,.e []] (n:=221) (by kernel_rfl) (by simp[hn]) ?_;simp[s0,jj,lN,e1,aK,tD,aB dh,kl,lI,lZ,db,dB,dC,bm,cS,cX,da,lJ,iv,lk,lK,lH];exact PF.mk' (pD.put rfl (fun id e=>by simp[ah _ _ e,e]) (get_set_same _ _ _)) (by simp) (by simp) (by simp) (by simp) (by simp[hn])
  .rintro G T ⟨v,cu,h8,h9,cM,fC,jK⟩;obtain⟨_,V1,⟨rfl,iA⟩,c1⟩:=(ka (S:=T) r.n).ex;have PM1:=cu.to iA;have jN:=cu.b1;have b1d:=PM1.b1;simp only[cy.c]at jN b1d;obtain⟨W,hW⟩:∃W:AS,W=⟨V1.h.set V1.nx (.row [.str (bP x.e.n)] 0 0 false 9),V1.nx+1⟩:=⟨_,rfl⟩
   have fk:=PM1.new (bP x.e.n);rw[<-hW]at fk;have bW:=hW.symm;clear hW;simp[h8,h9,cM,fC,jN,b1d,c1,aK,aB dh,bW];refine bg [.p,.r 0 0,.p,.e []] (n:=221) (by kernel_rfl) (by simp[jK]) ?_;have ky:=fk.b3;have BB:=fk.b4;simp only[dQ]at ky;simp[h8,h9,cM,fC,BB,ky,aj fk.gw.1,fk.gw.1.cells,db,dB,dC,bm,cS,cX,da];exact PM.fin (y:=x.bare) fk (by simp[cy.bare,Ev.bare,cy.c,k1]) (by simp[Ev.fu,k1,Tok.text,jO]) rfl (fun id e=>ah _ _ e)
 have m13:=k1;clear k1;by_cases k1:x.e.kind=15
 .rw[k1]at lN lI lZ kl s0 pD;obtain⟨T,nO⟩:∃T3:AS,T3=⟨T2.h.set (S.nx+2) (.row [.int .i64 15,.int .i64 x.e.au,.int .i64 0,.int .i64 0,.int .i64 0,.int .u64 x.e.n,.ar,.str [],.ar,.int .i64 0,.int .i64 0,.int .i64 0,.ar,.ar,.ar] 0 0 false 74),T2.nx⟩:=⟨_,rfl⟩
  have cu:PM S x [.int .i64 15,.int .i64 x.e.au,.int .i64 0,.int .i64 0,.int .i64 0,.int .u64 x.e.n,.ar,.str [],.ar,.int .i64 0,.int .i64 0,.int .i64 0,.ar,.ar,.ar] [aU x.e.au] (.slice T1.nx 0 0 1 1 1 (some 1)) T:=pD.put (by rw[nO]) (fun id e=>by rw[nO];exact ah _ _ e) (by rw[nO];exact get_set_same _ _ _);have bT3:=nO.symm;clear nO;obtain⟨_,V1,⟨rfl,iA⟩,c1⟩:=(ka (S:=T) r.n).ex;have jf:=iA;obtain⟨v2,W,a1,a2,a3,a4,a5⟩:=xR (bP x.e.n) (cu.to jf).gw (by simp);have fk:=(cu.to jf).app a2 a3 a4 a5;have jN:=cu.b1;simp only[cy.c]at jN;have fA:=((cu.to jf).b1)
  simp only[cy.c]at fA;simp[s0,jj,lN,e1,aK,tD,aB dh,kl,lI,lZ,db,dB,dC,bm,cS,cX,da,lJ,iv,lk,lK,lH,bT3,jN,fA,c1,aK,aB dh,a1,aj cu.gw.1,aj a2.1,db,dB,dC,bm,cS,cX,da,lJ,iv,lk,lK,lH];refine bg [.p,.r 0 0,.p,.e []] (n:=221) (by kernel_rfl) (by simp[hn]) ?_;have ky:=fk.b3;have BB:=fk.b4;simp only[dQ]at ky;simp[BB,ky,aj fk.gw.1,fk.gw.1.cells,db,dB,dC,bm,cS,cX,da];exact PM.fin (y:=x.bare) fk (by simp[cy.bare,Ev.bare,cy.c,k1]) (by simp[Ev.fu,k1,Tok.text,jO]) rfl (fun id e=>ah _ _ e)
 have m15:=k1;clear k1;by_cases k1:x.e.kind=16
 .rw[k1]at lN lI lZ kl s0 pD;obtain⟨T,nO⟩:∃T3:AS,T3=⟨T2.h.set (S.nx+2) (.row [.int .i64 16,.int .i64 x.e.au,.int .i64 0,.int .i64 0,.int .i64 0,.int .u64 x.e.n,.ar,.str [],.ar,.int .i64 0,.int .i64 0,.int .i64 0,.ar,.ar,.ar] 0 0 false 74),T2.nx⟩:=⟨_,rfl⟩
  have cu:PM S x [.int .i64 16,.int .i64 x.e.au,.int .i64 0,.int .i64 0,.int .i64 0,.int .u64 x.e.n,.ar,.str [],.ar,.int .i64 0,.int .i64 0,.int .i64 0,.ar,.ar,.ar] [aU x.e.au] (.slice T1.nx 0 0 1 1 1 (some 1)) T:=pD.put (by rw[nO]) (fun id e=>by rw[nO];exact ah _ _ e) (by rw[nO];exact get_set_same _ _ _);have bT3:=nO.symm;clear nO;obtain⟨_,V1,⟨rfl,iA⟩,c1⟩:=(ka (S:=T) r.n).ex;have jf:=iA;obtain⟨v2,W,a1,a2,a3,a4,a5⟩:=xR (bP x.e.n) (cu.to jf).gw (by simp);have fk:=(cu.to jf).app a2 a3 a4 a5;have jN:=cu.b1;simp only[cy.c]at jN;have fA:=((cu.to jf).b1)
  simp only[cy.c]at fA;simp[s0,jj,lN,e1,aK,tD,aB dh,kl,lI,lZ,db,dB,dC,bm,cS,cX,da,lJ,iv,lk,lK,lH,bT3,jN,fA,c1,aK,aB dh,a1,aj cu.gw.1,aj a2.1,db,dB,dC,bm,cS,cX,da,lJ,iv,lk,lK,lH];refine bg [.p,.r 0 0,.p,.e []] (n:=221) (by kernel_rfl) (by simp[hn]) ?_;have ky:=fk.b3;have BB:=fk.b4;simp only[dQ]at ky;simp[BB,ky,aj fk.gw.1,fk.gw.1.cells,db,dB,dC,bm,cS,cX,da];exact PM.fin (y:=x.bare) fk (by simp[cy.bare,Ev.bare,cy.c,k1]) (by simp[Ev.fu,k1,Tok.text,jO]) rfl (fun id e=>ah _ _ e)
 have m16:=k1;clear k1;by_cases k1:x.e.kind=14
 .rw[k1]at lN lI lZ kl s0 pD;simp[s0,jj,lN,e1,aK,tD,aB dh,kl,lI,lZ,db,dB,dC,bm,cS,cX,da,lJ,iv,lk,lK,lH];refine aJ (PF S x [.int .i64 14,.int .i64 x.e.au,.int .i64 0,.int .i64 0,.int .i64 0,.int .u64 0,.ar,.str [],.ar,.int .i64 0,.int .i64 0,.int .i64 0,.ar,x.kv,x.tv] [aU x.e.au]) ?_ ?_
  .refine bg [.p,.r 0 0,.p,.r 0 1,.p,.e [],.p,.e []] (n:=221) (by kernel_rfl) (by simp[hn]) ?_;simp[s0,jj,lN,e1,aK,tD,aB dh,kl,lI,lZ,db,dB,dC,bm,cS,cX,da,lJ,iv,lk,lK,lH];exact PF.mk' (pD.put rfl (fun id e=>by simp[ah _ _ e,e]) (get_set_same _ _ _)) (by simp) (by simp) (by simp) (by simp) (by simp[hn])
  .rintro G T ⟨v,cu,h8,h9,cM,fC,jK⟩;obtain⟨_,V1,⟨rfl,iA⟩,c1⟩:=(word96 (hx.eH.toSub cu.sub) r.eH (by have:=hx.tl;omega)).ex;have c1:∀Q:AV->AS->Prop,az C0 96 [x.tv] T Q=Q (.str (bK x.e.eH)) V1:=c1;have jf:=iA;obtain⟨v2,W,a1,a2,a3,a4,a5⟩:=xR (bK x.e.eH) (cu.to jf).gw (by simp);have fk:=(cu.to jf).app a2 a3 a4 a5;have jN:=cu.b1;simp only[cy.c]at jN;have fA:=((cu.to jf).b1)
   simp only[cy.c]at fA;have u1:=hx.bX.sl;have u2:=hx.bX.gx;rw[rX]at u2;have b1w:=fk.b1;simp only[cy.c]at b1w;obtain⟨l,hl⟩:∃l:List (List Nat),l=x.e.bX.map fun (p:Nat)=>aU (p:Int):=⟨_,rfl⟩
   have AP:l.length=x.e.bX.length:=by rw[hl,List.length_map]
   simp[h8,h9,cM,fC,jN,fA,c1,aK,aB dh,a1,aj cu.gw.1,aj a2.1,db,dB,dC,bm,cS,cX,da,lJ,iv,lk,lK,lH,b1w,u1,u2];refine aW (LM S x [.int .i64 14,.int .i64 x.e.au,.int .i64 0,.int .i64 0,.int .i64 0,.int .u64 0,.ar,.str [],.ar,.int .i64 0,.int .i64 0,.int .i64 0,.ar,x.kv,x.tv] [aU x.e.au,bK x.e.eH] l 194 195 196 x.kv) x.e.bX.length ?_ ?_
   .exact LM_mk 0 (PF.mk' (v:=v2) (by simpa using fk) (by simp) (by simp[h9]) (by simp[cM]) (by simp[fC]) (by simp[jK])) (by simp) (by simp[AP]) (by simp) (zzr _) (by rw[AP];rfl)
   rintro k F' T-⟨i,⟨v,cu,h8,h9,cM,fC,jK⟩,ha,hb,hc,hi,hk⟩;rw[AP]at hb hi hk;by_cases ck:i<x.e.bX.length
   .obtain⟨p,hp⟩:∃p,x.e.bX[i]?=some p:=⟨_,zzk ck⟩
    have hpb:=r.bX p (List.mem_of_getElem? hp);have ld:=dV (cx:=C0) (e:=112) (k:=i) (x:=.int .u16 (p:Int)) (hx.bX.toSub cu.sub) (by unfold tg;rw[zzn,hp];rfl) qw;have kj:l.take (i+1)=l.take i++[aU (p:Int)]:=by
     rw[List.take_add_one,hl,zzn,hp];rfl
    have oZ:=hx.pl;have hlen:([aU x.e.au,bK x.e.eH]++l.take i).length<=900000000:=by simp only[zzf,zza,zze,zzu];omega
    obtain⟨_,V1,⟨rfl,iA⟩,c1⟩:=(gk (S:=T) (n:=(p:Int)) (by omega) (by omega)).ex;obtain⟨v2,W,a1,a2,a3,a4,a5⟩:=xR (aU (p:Int)) (cu.to iA).gw hlen;have fk:=(cu.to iA).app a2 a3 a4 a5;rw[zzb,<-kj]at fk;have w1:=IntWalk.i64_in ((i:Int)+1) (by omega);have w2:=IntWalk.i64_in (p:Int) (by omega);simp[h8,h9,cM,fC,ha,hb,hc,ck,u1,u2,cX,ld,c1,aK,aB dh,a1,aj cu.gw.1,aj a2.1,w1,w2];exact⟨x.e.bX.length-(i+1),by omega,LM_mk (i+1) (PF.mk' fk (by simp) (by simp[h9]) (by simp[cM]) (by simp[fC]) (by simp[jK])) (by simp[ha]) (by simp[hb,AP]) (by simp) (by omega) (by omega)⟩
   .obtain rfl:i=x.e.bX.length:=by omega
    rw[<-AP,zzo,hl]at cu;rw[<-AP]at hc;simp[h8,h9,cM,fC,ha,hb,hc,AP];refine bg [.p,.r 0 0,.p,.e []] (n:=221) (by kernel_rfl) (by simp[jK]) ?_;have ky:=cu.b3;simp only[dQ]at ky;simp[h8,h9,cM,fC,cu.b4,ky,aj cu.gw.1,cu.gw.1.cells,db,bm,cS,cX,da];exact PM.fin (y:=x.bare) cu (by simp[cy.bare,Ev.bare,cy.c,k1]) (by simp[Ev.fu,k1,Tok.text,jO,Function.comp_def]) rfl (fun id e=>ah _ _ e)
 have m14:=k1;clear k1;by_cases k1:x.e.kind=4
 .rw[k1]at lN lI lZ kl s0 pD;simp[s0,jj,lN,e1,aK,tD,aB dh,kl,lI,lZ,db,dB,dC,bm,cS,cX,da,lJ,iv,lk,lK,lH];refine aJ (PF S x [.int .i64 4,.int .i64 x.e.au,.int .i64 0,.int .i64 x.e.id,.int .i64 0,.int .u64 0,x.pv,.str [],.ar,.int .i64 0,.int .i64 0,.int .i64 0,x.sv,.ar,.ar] [aU x.e.au]) ?_ ?_
  .refine bg [.p,.r 0 0,.p,.r 0 1,.p,.r 0 2,.p,.e [],.p,.e [],.p,.e []] (n:=221) (by kernel_rfl) (by simp[hn]) ?_;simp[s0,jj,lN,e1,aK,tD,aB dh,kl,lI,lZ,db,dB,dC,bm,cS,cX,da,lJ,iv,lk,lK,lH];exact PF.mk' (pD.put rfl (fun id e=>by simp[ah _ _ e,e]) (get_set_same _ _ _)) (by simp) (by simp) (by simp) (by simp) (by simp[hn])
  .rintro G T ⟨v,cu,h8,h9,cM,fC,jK⟩;obtain⟨_,V1,⟨rfl,iA⟩,c1⟩:=(gk (S:=T) r.id.1 r.id.2).ex;have jf:=iA;obtain⟨_,V2,⟨rfl,vL⟩,c2⟩:=(ask94 (hx.pred.sub (cu.sub.trans jf)) r.cs).ex;have qv:=jf.trans vL;obtain⟨v2,W,a1,a2,a3,a4,a5⟩:=app2 (aU x.e.id) (jO x.e.cs) (cu.to qv).gw (by simp);have fk:=(cu.to qv).app a2 a3 a4 a5;have jN:=cu.b1;simp only[cy.c]at jN;have fA:=((cu.to jf).b1)
   simp only[cy.c]at fA;have nv:=((cu.to qv).b1)
   simp only[cy.c]at nv;simp[h8,h9,cM,fC,jN,fA,nv,c1,c2,aK,fv2,a1,aj cu.gw.1,aj a2.1,db,dB,dC,bm,cS,cX,da,lJ,iv,lk,lK,lH];refine aJ (PF S x [.int .i64 4,.int .i64 x.e.au,.int .i64 0,.int .i64 x.e.id,.int .i64 0,.int .u64 0,x.pv,.str [],.ar,.int .i64 0,.int .i64 0,.int .i64 0,x.sv,.ar,.ar] [aU x.e.au,aU x.e.id,jO x.e.cs]) ?_ ?_
   .refine bg [.p,.p,.r 0 0,.e [],.p,.r 1 0,.e [],.e [],.e [],.p] (n:=221) (by kernel_rfl) (by simp[jK]) ?_;simp[h8,h9,cM,fC,jN,fA,nv,c1,c2,aK,fv2,a1,aj cu.gw.1,aj a2.1,db,dB,dC,bm,cS,cX,da,lJ,iv,lk,lK,lH];exact PF.mk' fk (by simp) (by simp[h9]) (by simp[cM]) (by simp[fC]) (by simp[jK])
   .rintro G T ⟨v,cu,h8,h9,cM,fC,jK⟩;have u1:=hx.aS.sl;have u2:=hx.aS.bj eK (by omega);have b1w:=cu.b1;simp only[cy.c]at b1w;obtain⟨l,hl⟩:∃l:List (List Nat),l=x.e.aS.map fun (t:Int×Nat)=>(aU t.1++64::bP t.2):=⟨_,rfl⟩
    have AP:l.length=x.e.aS.length:=by rw[hl,List.length_map]
    simp[h8,h9,cM,fC,b1w,u1,u2,cS,lk];refine aW (LM S x [.int .i64 4,.int .i64 x.e.au,.int .i64 0,.int .i64 x.e.id,.int .i64 0,.int .u64 0,x.pv,.str [],.ar,.int .i64 0,.int .i64 0,.int .i64 0,x.sv,.ar,.ar] [aU x.e.au,aU x.e.id,jO x.e.cs] l 88 89 90 x.sv) x.e.aS.length ?_ ?_
    .exact LM_mk 0 (PF.mk' (v:=v) (by simpa using cu) (by simp[h8]) (by simp[h9]) (by simp[cM]) (by simp[fC]) (by simp[jK])) (by simp) (by simp[AP]) (by simp) (zzr _) (by rw[AP];rfl)
    rintro k F' T-⟨i,⟨v,cu,h8,h9,cM,fC,jK⟩,ha,hb,hc,hi,hk⟩;rw[AP]at hb hi hk;by_cases ck:i<x.e.aS.length
    .obtain⟨t,hp⟩:∃t,x.e.aS[i]?=some t:=⟨_,zzk ck⟩
     have hpb:=r.aS t (List.mem_of_getElem? hp);have ld:=bh (cx:=C0) (e:=77) (hx.aS.toSub cu.sub) eK (by omega) hp Go.Proofs.YthklfandhmkpiaaGreatDoor.mod.ag132 Go.Proofs.YthklfandhmkpiaaGreatDoor.mod.sz132;have kj:l.take (i+1)=l.take i++[(aU t.1++64::bP t.2)]:=by
      rw[List.take_add_one,hl,zzn,hp];rfl
     have oZ:=hx.sl;have hlen:([aU x.e.au,aU x.e.id,jO x.e.cs]++l.take i).length<=900000000:=by simp only[zzf,zza,zze,zzu];omega
     obtain⟨Z,hZ⟩:∃Z:AS,Z=⟨(T.h.set T.nx (.row [.int .i64 0,.int .u64 0] 0 0 false 77)).set T.nx (.row (iy t) 0 0 false 77),T.nx+1⟩:=⟨_,rfl⟩
     have hTZ:Sub T Z:=by rw[hZ];exact Go.Proofs.YthklfandhmkpiaaGreatDoor.mod.eb
     have z7:Z.h.get T.nx=some (.row (iy t) 0 0 false 77):=by rw[hZ];exact get_set_same _ _ _
     have zn:T.nx<Z.nx:=by rw[hZ];exact zzp _
     have bZ:=hZ.symm;clear hZ;obtain⟨_,V1,⟨rfl,iA⟩,c1⟩:=(gk (S:=Z) hpb.1.1 hpb.1.2).ex;obtain⟨_,V2,⟨rfl,vL⟩,c2⟩:=(ka (S:=V1) hpb.2).ex;have z7a:=(iA.h _ zn).trans z7;have z7b:=(vL.h _ (Nat.lt_of_lt_of_le zn iA.nx)).trans z7a;have PM1:=((cu.to hTZ).to iA).to vL;obtain⟨v2,W,a1,a2,a3,a4,a5⟩:=xR (aU t.1++64::bP t.2) PM1.gw hlen;have fk:=PM1.app a2 a3 a4 a5;rw[zzb,<-kj]at fk;have w1:=IntWalk.i64_in ((i:Int)+1) (by omega);have lf:=vR hpb.1;have ln:=mz hpb.2;have ad1:=Go.Proofs.YthklfandhmkpiaaGreatDoor.val.po (aU t.1) [64] (by simp only[zza,zze];omega);have ad2:=Go.Proofs.YthklfandhmkpiaaGreatDoor.val.po (aU t.1++[64]) (bP t.2) (by simp only[zzf,zza,zze];omega);rw[show aU t.1++[64]++bP t.2=aU t.1++64::bP t.2 by simp]at ad2;simp only[iy]at bZ z7 z7a z7b ld;simp[h8,h9,cM,fC,ha,hb,hc,ck,u1,u2,cS,ld,bZ];refine aJ (fun F T=>PF S x [.int .i64 4,.int .i64 x.e.au,.int .i64 0,.int .i64 x.e.id,.int .i64 0,.int .u64 0,x.pv,.str [],.ar,.int .i64 0,.int .i64 0,.int .i64 0,x.sv,.ar,.ar] ([aU x.e.au,aU x.e.id,jO x.e.cs]++l.take (i+1)) F T/\sl F 88=x.sv/\sl F 89=.int .i64 (x.e.aS.length:Int)/\sl F 90=.int .i64 (i:Int)) ?_ ?_
     .refine bg [.p,.p,.r 0 0,.e [],.p,.p,.r 1 0,.e [],.p,.e [],.e [],.p] (n:=221) (by kernel_rfl) (by simp[jK]) ?_;simp[h8,h9,cM,fC,ha,hb,hc,z7,z7a,z7b,c1,c2,aK,ad1,ad2,aB dh,a1,aj cu.gw.1,aj a2.1];exact PF.mk' fk (by simp) (by simp[h9]) (by simp[cM]) (by simp[fC]) (by simp[jK])
     .rintro G T' ⟨⟨v,cu,h8,h9,cM,fC,jK⟩,ha,hb,hc⟩;simp[ha,hb,hc,w1];exact⟨x.e.aS.length-(i+1),by omega,LM_mk (i+1) (PF.mk' cu (by simp[h8]) (by simp[h9]) (by simp[cM]) (by simp[fC]) (by simp[jK])) (by simp[ha]) (by simp[hb,AP]) (by simp) (by omega) (by omega)⟩
    .obtain rfl:i=x.e.aS.length:=by omega
     rw[<-AP,zzo,hl]at cu;rw[<-AP]at hc;simp[h8,h9,cM,fC,ha,hb,hc,AP];refine bg [.p,.r 0 0,.p,.e []] (n:=221) (by kernel_rfl) (by simp[jK]) ?_;have ky:=cu.b3;simp only[dQ]at ky;simp[h8,h9,cM,fC,cu.b4,ky,aj cu.gw.1,cu.gw.1.cells,db,bm,cS,cX,da];exact PM.fin (y:=x.bare) cu (by simp[cy.bare,Ev.bare,cy.c,k1]) (by simp[Ev.fu,k1,Tok.text,jO,Function.comp_def]) rfl (fun id e=>ah _ _ e)
 have m4:=k1;clear k1;have m17:¬(10<=x.e.kind/\x.e.kind<=13):=by omega
 have fk:=pD;simp[s0,jj,lN,e1,aK,tD,aB dh,kl,lI,lZ,db,dB,dC,bm,cS,cX,da,lJ,iv,lk,lK,lH,m1,m2,m8,m3,m4,m5,m6,m7,m10,m11,m12,m13,m14,m15,m16];refine bg [.p,.r 0 0,.p,.e []] (n:=221) (by kernel_rfl) (by simp[hn]) ?_;have ky:=fk.b3;have BB:=fk.b4;simp only[dQ]at ky;simp[BB,ky,aj fk.gw.1,fk.gw.1.cells,db,dB,dC,bm,cS,cX,da];exact PM.fin (y:=x.bare) fk (by simp[cy.bare,Ev.bare,cy.c,m1,m2,m8,m3,m4,m5,m6,m7,m10,m11,m12,m13,m14,m15,m16,m17]) (by simp[Ev.fu,m1,m2,m8,m3,m4,m5,m6,m7,m10,m11,m12,m13,m14,m15,m16,m17,Tok.text,jO]) rfl (fun id e=>ah _ _ e)
end
end Go.Proofs.YthklfandhmkpiaaGreatDoor.sh
end
