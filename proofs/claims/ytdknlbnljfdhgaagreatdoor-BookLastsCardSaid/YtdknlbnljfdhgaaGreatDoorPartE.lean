/-
  The facts of types and functions that the reading of a book wants.
-/
import Derived.Test.YtdknlbnljfdhgaaGreatDoorPartD
import Derived.Test.YtdknlbnljfdhgaaGreatDoorAmOne
import Derived.Test.YtdknlbnljfdhgaaGreatDoorAmIter
open List renaming length_append->zza,append_assoc->zzb,length_drop->zzc,getElem?_cons_zero->zzd,getElem?_cons_succ->zze,append_nil->zzg,take_of_length_le->zzl,flatMap_cons->zzm,mem_of_mem_drop->zzn,not_mem_nil->zzo,length_take->zzp,flatMap_nil->zzq,nil_append->zzt,take_succ_eq_append_getElem->zzu,map_append->zzv,drop_eq_getElem_cons->zzw,length_map->zzx,flatMap_append->zzy,mem_singleton->zqa,take_length->zqc,getElem_mem->zqd,drop_length->zqe,length->zqf,drop_zero->zqh,getElem?_eq_getElem->zqi,map_drop->zqj
open Nat renaming mul_le_mul_right->zzf,mul_one->zzh,le_refl->zzi,or_lt_two_pow->zzk,zero_le->zzs,min->zzz,and_two_pow_sub_one_eq_mod->zqb,pow->zqg
open Option renaming getD_some->zzj
open Bool renaming and_eq_true->zzr
set_option linter.unusedVariables false
set_option linter.unusedSimpArgs false
set_option maxRecDepth 20000
namespace Go.Proofs.YtdknlbnljfdhgaaGreatDoor.bk
open Go Go.Am Go.Proofs.YtdknlbnljfdhgaaGreatDoor.dk
theorem fn14:C1.fns.get 14=some Tryz.f14:=by kernel_rfl
theorem ok14:okF C1 Tryz.f14=true:=by kernel_rfl
theorem jjI:C1.fns.get 18=some Tryz.f18:=by kernel_rfl
theorem jgN:okF C1 Tryz.f18=true:=by kernel_rfl
@[simp] theorem tE:qh C1 31=some (133,1,2):=by kernel_rfl
@[simp] theorem jbW:aN C1 133=some false:=by kernel_rfl
@[simp] theorem Mb:aG C1 133=some 1:=by kernel_rfl
@[simp] theorem jlK:ny C1 133 3=some .i64:=by kernel_rfl
theorem jjA:C1.fns.get 20=some Tryz.f20:=by kernel_rfl
theorem jgF:okF C1 Tryz.f20=true:=by kernel_rfl
theorem fn49:C1.fns.get 49=some Tryz.f49:=by kernel_rfl
theorem ok49:okF C1 Tryz.f49=true:=by kernel_rfl
@[simp] theorem jmu:aG C1 111=some 1/\zeroOf C1 111=some (.ar):=by and_intros<;>kernel_rfl
@[simp] theorem ze3:zeroOf C1 3=some (.int .i64 0):=by kernel_rfl
@[simp] theorem jmK:aN C1 111=some false:=by kernel_rfl
@[simp] theorem jfF:bN C1 111=some (.slice 32):=by kernel_rfl
theorem jeF:C1.fns.get 57=some Tryz.f57:=by kernel_rfl
theorem jdf:okF C1 Tryz.f57=true:=by kernel_rfl
theorem fn50:C1.fns.get 50=some Tryz.f50:=by kernel_rfl
theorem ok50:okF C1 Tryz.f50=true:=by kernel_rfl
@[simp] theorem jms:aG C1 180=some 1/\zeroOf C1 180=some (.ck):=by and_intros<;>kernel_rfl
@[simp] theorem ze4:zeroOf C1 4=some (.bool false):=by kernel_rfl
@[simp] theorem jeV:ny C1 27 3=some .i64:=by kernel_rfl
@[simp] theorem jmH:aN C1 180=some false:=by kernel_rfl
theorem jjm:C1.fns.get 96=some Tryz.f96:=by kernel_rfl
theorem jgr:okF C1 Tryz.f96=true:=by kernel_rfl
@[simp] theorem jmr:aG C1 188=some 1/\zeroOf C1 188=some (.eQ):=by and_intros<;>kernel_rfl
theorem jjl:C1.fns.get 97=some Tryz.f97:=by kernel_rfl
theorem jgq:okF C1 Tryz.f97=true:=by kernel_rfl
theorem jjk:C1.fns.get 98=some Tryz.f98:=by kernel_rfl
theorem jgp:okF C1 Tryz.f98=true:=by kernel_rfl
theorem jeA:C1.fns.get 99=some Tryz.f99:=by kernel_rfl
theorem jda:okF C1 Tryz.f99=true:=by kernel_rfl
@[simp] theorem ze42:zeroOf C1 42=some (.int .i64 0)/\SN C1 180=true/\fieldAt C1 224 1=some 1/\fieldAt C1 224 0=some 0/\ny C1 5 27=some .u64:=by and_intros<;>kernel_rfl
theorem VO:C1.fns.get 100=some Tryz.f100:=by kernel_rfl
theorem TH:okF C1 Tryz.f100=true:=by kernel_rfl
theorem VN:C1.fns.get 101=some Tryz.f101:=by kernel_rfl
theorem TG:okF C1 Tryz.f101=true:=by kernel_rfl
theorem jkk:C1.fns.get 102=some Tryz.f102:=by kernel_rfl
theorem jhp:okF C1 Tryz.f102=true:=by kernel_rfl
theorem jkj:C1.fns.get 103=some Tryz.f103:=by kernel_rfl
theorem jho:okF C1 Tryz.f103=true:=by kernel_rfl
theorem jjT:C1.fns.get 148=some Tryz.f148:=by kernel_rfl
theorem jgY:okF C1 Tryz.f148=true:=by kernel_rfl
@[simp] theorem jlI:ny C1 219 2=some .i64:=by kernel_rfl
theorem jjS:C1.fns.get 149=some Tryz.f149:=by kernel_rfl
theorem jgX:okF C1 Tryz.f149=true:=by kernel_rfl
theorem jjR:C1.fns.get 150=some Tryz.f150:=by kernel_rfl
theorem jgW:okF C1 Tryz.f150=true:=by kernel_rfl
theorem jjQ:C1.fns.get 151=some Tryz.f151:=by kernel_rfl
theorem jgV:okF C1 Tryz.f151=true:=by kernel_rfl
@[simp] theorem jmG:aN C1 188=some false:=by kernel_rfl
theorem jbQ:C1.fns.get 152=some Tryz.f152:=by kernel_rfl
theorem jbr:okF C1 Tryz.f152=true:=by kernel_rfl
theorem jjP:C1.fns.get 153=some Tryz.f153:=by kernel_rfl
theorem jgU:okF C1 Tryz.f153=true:=by kernel_rfl
theorem jjO:C1.fns.get 154=some Tryz.f154:=by kernel_rfl
theorem jgT:okF C1 Tryz.f154=true:=by kernel_rfl
@[simp] theorem ze29:zeroOf C1 29=some (.ar):=by kernel_rfl
theorem jjN:C1.fns.get 155=some Tryz.f155:=by kernel_rfl
theorem jgS:okF C1 Tryz.f155=true:=by kernel_rfl
@[simp] theorem jmE:aN C1 230=some true/\aG C1 230=some 1:=by and_intros<;>kernel_rfl
theorem jjG:C1.fns.get 188=some Tryz.f188:=by kernel_rfl
theorem jgL:okF C1 Tryz.f188=true:=by kernel_rfl
theorem jbP:C1.fns.get 189=some Tryz.f189:=by kernel_rfl
theorem jbq:okF C1 Tryz.f189=true:=by kernel_rfl
theorem VF:C1.fns.get 190=some Tryz.f190:=by kernel_rfl
theorem Ty:okF C1 Tryz.f190=true:=by kernel_rfl
theorem VE:C1.fns.get 191=some Tryz.f191:=by kernel_rfl
theorem Tx:okF C1 Tryz.f191=true:=by kernel_rfl
theorem VD:C1.fns.get 192=some Tryz.f192:=by kernel_rfl
theorem Tw:okF C1 Tryz.f192=true:=by kernel_rfl
theorem jjF:C1.fns.get 193=some Tryz.f193:=by kernel_rfl
theorem jgK:okF C1 Tryz.f193=true:=by kernel_rfl
@[simp] theorem jcl:bN C1 29=some (.slice 103):=by kernel_rfl
theorem jjE:C1.fns.get 194=some Tryz.f194:=by kernel_rfl
theorem jgJ:okF C1 Tryz.f194=true:=by kernel_rfl
theorem jjy:C1.fns.get 236=some Tryz.f236:=by kernel_rfl
theorem jgD:okF C1 Tryz.f236=true:=by kernel_rfl
@[simp] theorem jlw:fieldAt C1 230 0=some 0:=by kernel_rfl
theorem jjx:C1.fns.get 237=some Tryz.f237:=by kernel_rfl
theorem jgC:okF C1 Tryz.f237=true:=by kernel_rfl
theorem jjw:C1.fns.get 238=some Tryz.f238:=by kernel_rfl
theorem jgB:okF C1 Tryz.f238=true:=by kernel_rfl
@[simp] theorem RT:bN C1 101=some (.slice 100):=by kernel_rfl
theorem VC:C1.fns.get 239=some Tryz.f239:=by kernel_rfl
theorem Tv:okF C1 Tryz.f239=true:=by kernel_rfl
theorem jjt:C1.fns.get 261=some Tryz.f261:=by kernel_rfl
theorem jgy:okF C1 Tryz.f261=true:=by kernel_rfl
theorem jjs:C1.fns.get 262=some Tryz.f262:=by kernel_rfl
theorem jgx:okF C1 Tryz.f262=true:=by kernel_rfl
theorem jjq:C1.fns.get 279=some Tryz.f279:=by kernel_rfl
theorem jgv:okF C1 Tryz.f279=true:=by kernel_rfl
@[simp] theorem jmh:ny C1 27 2=some .i64:=by kernel_rfl
section
variable{S T:AS}
def EE(n:Nat):Nat:=if 1<=n/\n<=2048 then n+8 else 0
theorem XW{v:AV}{cs:List AV}(h:Sl S v 1 cs)(hl:cs.length<=1073741824):∀Q:AV->AS->Prop,ah C1 152 [v] S Q=Q (.int .i64 (EE cs.length:Nat)) S:=fun Q=>by
 have u1:=h.sl;have u2:=h.eR;refine ah.eq (aL (cK _) (cM _ rfl) jbQ rfl jbr (by simp) fun F hn s0=>?_);obtain⟨n,Zp⟩:∃n,n=cs.length:=⟨_,rfl⟩
 rw[<-Zp]at u2 hl⊢;unfold EE;by_cases h1:1<=n
 .have h1I:(1:Int)<=n:=by omega
  by_cases h2:n<=2048
  .have h2I:(n:Int)<=2048:=by omega
   have xW:=IntWalk.i64_in (4+(n:Int)) (by omega);have xV:=IntWalk.i64_in (4+(n:Int)+4) (by omega);have hw3:=IntWalk.i64_in ((n:Int)+8) (by omega);have he:4+(n:Int)+4=((n+8:Nat):Int):=by omega
   rw[if_pos ⟨h1,h2⟩];simp[s0,u1,u2,h1,h1I,h2,h2I,xW,xV,he,hw3]
  .have h2I:¬((n:Int)<=2048):=by omega
   rw[if_neg (fun e=>h2 e.2)];simp[s0,u1,u2,h1,h1I,h2,h2I]
 .have h1I:¬((1:Int)<=n):=by omega
  rw[if_neg (fun e=>h1 e.1)];simp[s0,u1,u2,h1,h1I]
def KH(a b c d:Nat):Nat:=a ||| (b*256) ||| (c*65536) ||| (d*16777216)
theorem ml{cx:Am.Cx}{t:TypeId}{c:Bool}{n s:Nat}(hs:n*2 ^ s<4294967296):aZ cx .shl t c (.int .u32 n) (.int .u64 s)=some (.int .u32 ((n*2 ^ s:Nat):Int)):=by
 have h1:aZ cx .shl t c (.int .u32 n) (.int .u64 s)=some (Kw .u32 (Int.mul n (.ofNat (zqg 2 (zzz s IntKind.u32.bits))))):=rfl;rw[h1,jj];have sR:zzz s IntKind.u32.bits=zzz s 32:=rfl;by_cases h:s<=32
 .have h2:zzz s 32=s:=Nat.min_eq_left h;rw[sR,h2];have h3:Int.mul (n:Int) (.ofNat (zqg 2 s))=((n*2 ^ s:Nat):Int):=rfl;rw[h3,gE hs]
 .have hn:n=0:=by
   rcases Nat.eq_zero_or_pos n with e|e
   .exact e
   .exfalso;have h5:2 ^ 32<=2 ^ s:=Nat.pow_le_pow_right (by decide) (by omega);have h6:1*2 ^ s<=n*2 ^ s:=zzf _ e;omega
  subst hn;have h3:Int.mul ((0:Nat):Int) (.ofNat (zqg 2 (zzz s IntKind.u32.bits)))=0:=Int.zero_mul _;rw[h3,Nat.zero_mul];rfl
theorem jhF:Tryz.f149.ntmps=25:=by kernel_rfl
theorem jdj{v:AV}{a b c d:Nat}{l:List Nat}(h:Sl S v 1 (aq (a::b::c::d::l)))(ha:a<256)(hb:b<256)(hc:c<256)(hd:d<256):∀Q:AV->AS->Prop,ah C1 149 [v] S Q=Q (.int .u32 (KH a b c d:Nat)) S:=fun Q=>by
 have u1:=h.sl;have u2:=h.eR;have u2:sLen v=l.length+4:=by rw[u2,aA];rfl
 have i0:0<l.length+4:=by omega
 have i1:1<l.length+4:=by omega
 have i2:2<l.length+4:=by omega
 have i3:3<l.length+4:=by omega
 have hl:∀(i y:Nat),(a::b::c::d::l)[i]?=some y->loadT C1 S 5 (nh v i)=some (.int .u8 (y:Int)):=fun i y hy=>fu (cx:=C1) (e:=5) h (show (aq (a::b::c::d::l))[i]?=some (.int .u8 (y:Int)) by unfold aq;rw[List.getElem?_map,hy];rfl) (by simp);have l0:=hl 0 a rfl;have l1:=hl 1 b rfl;have l2:=hl 2 c rfl;have l3:=hl 3 d rfl;have wa:IntKind.u32.wrap (a:Int)=a:=gE (by omega);have wb:IntKind.u32.wrap (b:Int)=b:=gE (by omega);have wc:IntKind.u32.wrap (c:Int)=c:=gE (by omega);have wd:IntKind.u32.wrap (d:Int)=d:=gE (by omega);have x8:∀(t:TypeId)(q:Bool),aZ C1 .shl t q (.int .u32 b) (.int .u64 8)=some (.int .u32 ((b*2 ^ 8:Nat):Int)):=fun t q=>ml (cx:=C1) (t:=t) (c:=q) (n:=b) (s:=8) (by omega);have x16:∀(t:TypeId)(q:Bool),aZ C1 .shl t q (.int .u32 c) (.int .u64 16)=some (.int .u32 ((c*2 ^ 16:Nat):Int)):=fun t q=>ml (cx:=C1) (t:=t) (c:=q) (n:=c) (s:=16) (by omega);have x24:∀(t:TypeId)(q:Bool),aZ C1 .shl t q (.int .u32 d) (.int .u64 24)=some (.int .u32 ((d*2 ^ 24:Nat):Int)):=fun t q=>ml (cx:=C1) (t:=t) (c:=q) (n:=d) (s:=24) (by omega);have o1l:a ||| b*2 ^ 8<4294967296:=zzk (n:=32) (by omega) (by omega);have o2l:a ||| b*2 ^ 8 ||| c*2 ^ 16<4294967296:=zzk (n:=32) o1l (by omega);have o1:=fun (t:TypeId) (q:Bool)=>oY (cx:=C1) (t:=t) (c:=q) (a:=a) (b:=b*2 ^ 8) (by omega) (by omega);have o2:=fun (t:TypeId) (q:Bool)=>oY (cx:=C1) (t:=t) (c:=q) (b:=c*2 ^ 16) o1l (by omega);have o3:=fun (t:TypeId) (q:Bool)=>oY (cx:=C1) (t:=t) (c:=q) (b:=d*2 ^ 24) o2l (by omega);have hle:KH a b c d=a ||| b*2 ^ 8 ||| c*2 ^ 16 ||| d*2 ^ 24:=rfl;rw[hle];obtain⟨B,hB⟩:∃B,B=b*2 ^ 8:=⟨_,rfl⟩
 obtain⟨C,hC⟩:∃C,C=c*2 ^ 16:=⟨_,rfl⟩
 obtain⟨D,hD⟩:∃D,D=d*2 ^ 24:=⟨_,rfl⟩
 obtain⟨z,hz⟩:∃z,z=l.length+4:=⟨_,rfl⟩
 rw[<-hB]at x8 o1 o2 o3⊢;rw[<-hC]at x16 o2 o3⊢;rw[<-hD]at x24 o3⊢;rw[<-hz]at u2 i0 i1 i2 i3;clear hB hC hD hz o1l o2l hle;have i1':=eq_true i1;have i2':=eq_true i2;have i3':=eq_true i3;have j1:(1:Int)<z:=by omega
 have j2:(2:Int)<z:=by omega
 have j3:(3:Int)<z:=by omega
 refine ah.eq (aL (cK _) (cM _ rfl) jjS rfl jgX (by simp) fun F hn s0=>?_);rw[jhF]at hn;simp[s0];refine cu [.p,.p,.r 0 0,.p,.p,.p,.r 0 0,.p,.p,.p,.p,.p,.r 0 0,.p,.p,.p,.p,.p,.r 0 0,.p,.p,.p,.p] (n:=25) (by kernel_rfl) (by simp[hn]) ?_;simp[s0,u1,u2,l0,l1,l2,l3,i0,i1',i2',i3',j1,j2,j3,wa,wb,wc,wd,x8,x16,x24,o1,o2,o3]
theorem jhA:Tryz.f188.ntmps=25:=by kernel_rfl
theorem jdh{v:AV}{a b c d:Nat}{l:List Nat}(h:Sl S v 1 (aq (a::b::c::d::l)))(ha:a<256)(hb:b<256)(hc:c<256)(hd:d<256):∀Q:AV->AS->Prop,ah C1 188 [v] S Q=Q (.int .u32 (KH a b c d:Nat)) S:=fun Q=>by
 have u1:=h.sl;have u2:=h.eR;have u2:sLen v=l.length+4:=by rw[u2,aA];rfl
 have i0:0<l.length+4:=by omega
 have i1:1<l.length+4:=by omega
 have i2:2<l.length+4:=by omega
 have i3:3<l.length+4:=by omega
 have hl:∀(i y:Nat),(a::b::c::d::l)[i]?=some y->loadT C1 S 5 (nh v i)=some (.int .u8 (y:Int)):=fun i y hy=>fu (cx:=C1) (e:=5) h (show (aq (a::b::c::d::l))[i]?=some (.int .u8 (y:Int)) by unfold aq;rw[List.getElem?_map,hy];rfl) (by simp);have l0:=hl 0 a rfl;have l1:=hl 1 b rfl;have l2:=hl 2 c rfl;have l3:=hl 3 d rfl;have wa:IntKind.u32.wrap (a:Int)=a:=gE (by omega);have wb:IntKind.u32.wrap (b:Int)=b:=gE (by omega);have wc:IntKind.u32.wrap (c:Int)=c:=gE (by omega);have wd:IntKind.u32.wrap (d:Int)=d:=gE (by omega);have x8:∀(t:TypeId)(q:Bool),aZ C1 .shl t q (.int .u32 b) (.int .u64 8)=some (.int .u32 ((b*2 ^ 8:Nat):Int)):=fun t q=>ml (cx:=C1) (t:=t) (c:=q) (n:=b) (s:=8) (by omega);have x16:∀(t:TypeId)(q:Bool),aZ C1 .shl t q (.int .u32 c) (.int .u64 16)=some (.int .u32 ((c*2 ^ 16:Nat):Int)):=fun t q=>ml (cx:=C1) (t:=t) (c:=q) (n:=c) (s:=16) (by omega);have x24:∀(t:TypeId)(q:Bool),aZ C1 .shl t q (.int .u32 d) (.int .u64 24)=some (.int .u32 ((d*2 ^ 24:Nat):Int)):=fun t q=>ml (cx:=C1) (t:=t) (c:=q) (n:=d) (s:=24) (by omega);have o1l:a ||| b*2 ^ 8<4294967296:=zzk (n:=32) (by omega) (by omega);have o2l:a ||| b*2 ^ 8 ||| c*2 ^ 16<4294967296:=zzk (n:=32) o1l (by omega);have o1:=fun (t:TypeId) (q:Bool)=>oY (cx:=C1) (t:=t) (c:=q) (a:=a) (b:=b*2 ^ 8) (by omega) (by omega);have o2:=fun (t:TypeId) (q:Bool)=>oY (cx:=C1) (t:=t) (c:=q) (b:=c*2 ^ 16) o1l (by omega);have o3:=fun (t:TypeId) (q:Bool)=>oY (cx:=C1) (t:=t) (c:=q) (b:=d*2 ^ 24) o2l (by omega);have hle:KH a b c d=a ||| b*2 ^ 8 ||| c*2 ^ 16 ||| d*2 ^ 24:=rfl;rw[hle];obtain⟨B,hB⟩:∃B,B=b*2 ^ 8:=⟨_,rfl⟩
 obtain⟨C,hC⟩:∃C,C=c*2 ^ 16:=⟨_,rfl⟩
 obtain⟨D,hD⟩:∃D,D=d*2 ^ 24:=⟨_,rfl⟩
 obtain⟨z,hz⟩:∃z,z=l.length+4:=⟨_,rfl⟩
 rw[<-hB]at x8 o1 o2 o3⊢;rw[<-hC]at x16 o2 o3⊢;rw[<-hD]at x24 o3⊢;rw[<-hz]at u2 i0 i1 i2 i3;clear hB hC hD hz o1l o2l hle;have i1':=eq_true i1;have i2':=eq_true i2;have i3':=eq_true i3;have j1:(1:Int)<z:=by omega
 have j2:(2:Int)<z:=by omega
 have j3:(3:Int)<z:=by omega
 refine ah.eq (aL (cK _) (cM _ rfl) jjG rfl jgL (by simp) fun F hn s0=>?_);rw[jhA]at hn;simp[s0];refine cu [.p,.p,.r 0 0,.p,.p,.p,.r 0 0,.p,.p,.p,.p,.p,.r 0 0,.p,.p,.p,.p,.p,.r 0 0,.p,.p,.p,.p] (n:=25) (by kernel_rfl) (by simp[hn]) ?_;simp[s0,u1,u2,l0,l1,l2,l3,i0,i1',i2',i3',j1,j2,j3,wa,wb,wc,wd,x8,x16,x24,o1,o2,o3]
theorem XJ{v:AV}{bs:List Nat}{a b c d:Nat}(h:Sl S v 1 (aq (bs++[a,b,c,d])))(hb:∀x,x∈bs->x<256)(ha:a<256)(sU:b<256)(hc:c<256)(hd:d<256)(hl:bs.length<=1000000):
  ah C1 150 [v] S fun r T=>Sub S T/\((KH a b c d≠jY bs/\r=.tuple [.ar,.int .i64 5])\/(KH a b c d=jY bs/\∃w,r=.tuple [w,.int .i64 0]/\Gw T w 1 5 (aq bs)/\jI S.nx w)):=by
 have u1:=h.sl;have u2:=h.eR;have u2:sLen v=bs.length+4:=by rw[u2,aA,zza];rfl
 obtain⟨n,Br⟩:∃n,n=bs.length:=⟨_,rfl⟩
 obtain⟨cw,Nd⟩:∃cw,cw=kX v n (n+4):=⟨_,rfl⟩
 obtain⟨dw,hdw⟩:∃dw,dw=kX v 0 n:=⟨_,rfl⟩
 have jl:∀(F:Fr)(x:Tmp),sl F x=.int .i64 n->dT C1 F 32 v (some (.tmp x)) none none=some cw:=fun F x a0=>by
  rw[Nd];exact dx (cx:=C1) (p:=(5,1,1)) (l:=n) (k:=n+4) tD u1 (by simp[a0]) (by rw[kI,u2,Br]) (by omega) (by omega)
 have m7:∀(F:Fr)(x:Tmp),sl F x=.int .i64 n->dT C1 F 32 v none (some (.tmp x)) none=some dw:=fun F x a0=>by
  rw[hdw];exact dx (cx:=C1) (p:=(5,1,1)) (l:=0) (k:=n) tD u1 (by simp) (by simp[a0]) (zzs _) (by omega)
 have c1:=h.cut (l:=n) (k:=n+4) (by omega) (by omega);have c2:=h.cut (l:=0) (k:=n) (by omega) (by omega);rw[<-Nd]at c1;rw[<-hdw]at c2;have e1:((aq (bs++[a,b,c,d])).drop (n*1)).take ((n+4-n)*1)=aq (a::b::c::d::[]):=by
  rw[zzh,zzh,show n+4-n=4 by omega,<-ig,List.drop_left' (by rw[aA,Br])];rfl
 have e2:((aq (bs++[a,b,c,d])).drop (0*1)).take ((n-0)*1)=aq bs:=by
  rw[Nat.zero_mul,zqh,zzh,Nat.sub_zero,<-ig,List.take_left' (by rw[aA,Br])]
 rw[e1]at c1;rw[e2]at c2;have jky:=jdh c1 ha sU hc hd;obtain⟨r,T,⟨rfl,hT⟩,jkC⟩:=(JA (S:=S) c2 hb (by omega)).ex;have c2T:=c2.toSub hT;have Al:sLen dw=n:=by have:=c2T.eR;rw[aA]at this;omega
 have El:n<=1000000:=by omega
 obtain⟨w',U,eU,g1,g2,g3,g4,g5,g6,g7⟩:=fo (cx:=C1) (ts:=[]) (u:=32) (p:=(5,1,1)) (S:=T) (t:=32) (v:=.ar) tD RS rfl Gw.nil c2T (by rw[Al];simp[fits,cY,sLen];omega);have hU:Sub T U:=⟨fun id hi=>g2 id hi (by simp[aE]),g3⟩
 have Rq:jI S.nx w':=by
  have:=hT.nx;rcases g6 with q|q
  .exact .inl (by rw[q];rfl)
  .exact .inr (by omega)
 have xW:=IntWalk.i64_in (n:Int) (by omega);have UG:((n+4:Nat):Int)-4=(n:Int):=by omega
 have u2I:sLen v=n+4:=by rw[u2,Br]
 obtain⟨z,hz⟩:∃z,z=n+4:=⟨_,rfl⟩
 rw[<-hz]at u2I UG;have qy:¬((n:Int)<0):=by omega
 have k1:=aj c1;have k2:=aj c2;have jhE:Tryz.f150.ntmps=25:=by kernel_rfl
 have np:bL w'=false:=by have:=g1.1.sl;cases w'<;>first|rfl|(simp[isSl]at this)
 refine aL (cK _) (cM _ rfl) jjR rfl jgW (by simp) fun F hn s0=>?_;rw[jhE]at hn;simp[-cz,s0,u1,u2I,UG,xW,qy];rw[cz];simp[-cz,s0,u1,u2I,UG,xW,qy];refine cu [.p,.p,.p,.e [],.p,.p,.p,.e [],.p,.p] (n:=25) (by kernel_rfl) (by simp[hn]) ?_;by_cases he:KH a b c d=jY bs
 .have heI:=eq_true (show ((KH a b c d:Nat):Int)=((jY bs:Nat):Int) by omega);simp[s0,u1,u2I,UG,xW,qy,jl,m7,aP,jky,jkC,k1,k2,he,heI,eU,np];exact⟨hT.trans hU,g1,Rq⟩
 .have heI:¬((KH a b c d:Nat):Int)=((jY bs:Nat):Int):=by omega
  simp[s0,u1,u2I,UG,xW,qy,jl,m7,aP,jky,jkC,k1,k2,he,heI];exact hT
end
structure eh(S:AS)(p B:Nat)(bs:List Nat):Prop where
 ex:∃v,S.h.get p=some (.row [v,.bool true] 0 0 false 224)/\Sl S v 1 (aq bs)/\aE v=B
 lt:p<S.nx
 ne:B≠p+1
section
variable{S T:AS}{B:Nat}
theorem eh.sub{p:Nat}{bs:List Nat}(h:eh S p B bs)(hs:Sub S T):eh T p B bs:=by
 obtain⟨⟨v,h1,h2,h3⟩,h4,h5⟩:=h;exact⟨⟨v,(hs.h p h4).trans h1,h2.toSub hs,h3⟩,Nat.lt_of_lt_of_le h4 hs.nx,h5⟩
theorem eh.le{p:Nat}{bs:List Nat}(h:eh S p B bs):B<=S.nx:=by
 obtain⟨v,h1,h2,h3⟩:=h.ex;rw[<-h3];exact h2.old
theorem eh.agree{p:Nat}{bs:List Nat}(h:eh S p B bs)(hs:∀id,id=p\/B=id+1->T.h.get id=S.h.get id)(hn:S.nx<=T.nx):eh T p B bs:=by
 obtain⟨⟨v,h1,h2,h3⟩,h4,h5⟩:=h;exact⟨⟨v,(hs p (.inl rfl)).trans h1,h2.agree (fun id e=>hs id (.inr (h3▸e))) hn,h3⟩,Nat.lt_of_lt_of_le h4 hn,h5⟩
theorem AK{b:AV}{bs:List AV}(hb:Sl S b 1 bs)(hl:bs.length<=1073741824):ah C1 57 [b] S fun r T=>Gw T r 1 5 bs/\Sub S T/\jI S.nx r:=by
 have u1:=hb.sl;have u2:=hb.eR;have st:=tD;refine aL (cK _) (cM _ rfl) jeF rfl jdf (by simp) fun F hn s0=>?_;rcases hb.cases with K0|⟨id,g,off,n,lim,cap,K0⟩
 .subst K0;have:bs=[]:=List.length_eq_zero_iff.1 (by rw[<-u2];rfl);subst this;simp[s0];exact⟨Gw.nil,Sub.refl S,.inl rfl⟩
 .subst K0;have jJ:∀(F:Fr)(B:Nat),aD C1 F B (.buildSlice 32 0 #[])=some (.slice B 0 0 0 0 1 (some 0),.row [] 0 0 false 5):=fun F B=>by
   have:=cg (cx:=C1) (F:=F) (t:=32) (p:=(5,1,1)) (id:=B) (n:=0) (a:=#[]) [] tD rfl (by simp) (by simp) (by decide);exact this
  obtain⟨S1,bC⟩:∃S1:AS,S1=⟨S.h.set S.nx (.row [] 0 0 false 5),S.nx+1⟩:=⟨_,rfl⟩
  have jl:Sub S S1:=by rw[bC];exact seg.cq
  have g1:S1.h.get S.nx=some (.row [] 0 0 false 5):=by rw[bC];exact aa _ _ _
  have hgw:Gw S1 (.slice S.nx 0 0 0 0 1 (some 0)) 1 5 []:=
   ⟨⟨by simp[isSl,eV],by simp[kR],by simp[sLen],by simp[aE,bC]⟩,.inr ⟨S.nx,0,0,0,0,some 0,rfl,by simp[Ip],by rw[bC];exact Nat.lt_succ_self _,[],0,0,g1,zzi _,rfl⟩⟩
  obtain⟨w',T,a1,a2,a3,a4,a5,a6,a7,a8⟩:=uf (cx:=C1) (ts:=[]) (p:=(5,1,1)) (x:=.slice id g off n lim 1 cap) (ds:=bs) tD RS rfl hgw (qF (hb.toSub jl)) (by simp[u2]) (by rw[u2];simp[sLen,fits,cY];omega);have fR:=bC.symm;have e1:∀c,aZ C1 .eql 32 c (.slice id g off n lim 1 cap) .ar=some (.bool false):=fun c=>by
   have:=eq_nil (cx:=C1) (t:=32) (c:=c) tD u1;simpa[isNil]using this
  have np:bL w'=false:=by
   have:=a2.1.sl;cases w'<;>first|rfl|(simp[isSl]at this)
  simp[s0,jJ,fR,a1,e1,np];have Rq:jI S.nx w':=by
   rcases a7 with q|q
   .exact .inr (by rw[q];show S.nx<S.nx+1;omega)
   .exact .inr (by have:=jl.nx;omega)
  exact⟨a2,⟨fun id hi=>(a3 id (by rw[bC];show id<S.nx+1;omega) (by simp[aE];omega)).trans (jl.h id hi),Nat.le_trans jl.nx a4⟩,Rq⟩
theorem jkS{v:AV}(h:isSl 1 v=true):dr C1 224 [(0,v),(1,.bool true)]=some (.agg [v,.bool true]):=by
 cases v<;>first|(simp[isSl]at h;done)|kernel_rfl
theorem jbx{b:AV}{bs:List Nat}(h:Sl S b 1 (aq bs))(hl:bs.length<=1073741824):ah C1 97 [b] S fun r T=>Sub S T/\∃p B,r=.ptr p 0 0 2/\eh T p B bs/\S.nx<=p/\(B=0\/S.nx<B):=by
 obtain⟨w,T,⟨h0,h2,h3⟩,x9⟩:=(AK h (by rw[aA];exact hl)).ex;have h1:=h0.1;obtain⟨T1,iD⟩:∃T1:AS,T1=⟨T.h.set T.nx (.row [w,.bool true] 0 0 false 224),T.nx+1⟩:=⟨_,rfl⟩
 have s1:Sub T T1:=by rw[iD];exact seg.cq
 have g1:T1.h.get T.nx=some (.row [w,.bool true] 0 0 false 224):=by rw[iD];exact aa _ _ _
 have n1:T1.nx=T.nx+1:=by rw[iD]
 have Bu:=iD.symm;clear iD;have h1o:=h1.old;have h2n:=h2.nx;refine aL (cK _) (cM _ rfl) jjl rfl jgq (by simp) fun F hn s0=>?_;simp[s0,aP,x9,h1.np,aj h1,jkS h1.sl,Bu];exact⟨h2.trans s1,aE w,⟨⟨w,g1,h1.toSub s1,rfl⟩,by omega,by omega⟩,h2n,h3⟩
variable{B0:Nat}
theorem Yo{a m i:Nat}(ha:a<128 ^ i):a ||| (m*128 ^ i)=a+m*128 ^ i:=by
 have e:128 ^ i=2 ^ (7*i):=by rw[Nat.pow_mul]
 rw[e]at ha⊢;rw[Nat.or_comm,<-Nat.shiftLeft_eq,<-Nat.shiftLeft_add_eq_or_of_lt ha,Nat.add_comm]
theorem Ha(n i:Nat):n%128 ^ i+(n / 128 ^ i%128)*128 ^ i=n%128 ^ (i+1):=by
 rw[Nat.pow_succ,Nat.mod_mul,Nat.mul_comm (128 ^ i)]
theorem H9(n i:Nat):n / 128 ^ i / 128=n / 128 ^ (i+1):=by
 rw[Nat.div_div_eq_div_mul,Nat.pow_succ]
theorem mH{n:Nat}(h:n<128):bu n=[n]:=by rw[bu,if_pos h]
theorem oy{n:Nat}(h:¬n<128):bu n=(n%128+128)::bu (n / 128):=by rw[bu,if_neg h]
theorem Ly{cx:Am.Cx}{t:TypeId}{c:Bool}{a:Nat}(ha:a<256):aZ cx .and t c (.int .u8 a) (.int .u8 127)=some (.int .u8 ((a%128:Nat):Int)):=by
 show cond (eE .u8 .u8) (some (fP .and .u8 (a:Nat) ((127:Nat):Int))) none=_;rw[dk.bits_nat (.inl rfl) P8 ha (by decide),eu];have:a &&& 127=a%128:=zqb a 7;show some (AV.int .u8 ((a &&& 127:Nat):Int))=_;rw[this]
theorem Wt{cx:Am.Cx}{t:TypeId}{c:Bool}{a b:Nat}(ha:a<18446744073709551616)(hb:b<18446744073709551616):aZ cx .or t c (.int .u64 a) (.int .u64 b)=some (.int .u64 ((a ||| b:Nat):Int)):=by
 show cond (eE .u64 .u64) (some (fP .or .u64 a b)) none=_;rw[dk.bits_nat (.inr (.inl rfl)) jdZ ha hb,eu];rfl
theorem QM{cx:Am.Cx}{t:TypeId}{c:Bool}{n s:Nat}(h63:s<=63)(hs:n*2 ^ s<18446744073709551616):aZ cx .shl t c (.int .u64 n) (.int .i64 s)=some (.int .u64 ((n*2 ^ s:Nat):Int)):=by
 have h1:aZ cx .shl t c (.int .u64 n) (.int .i64 s)=some (Kw .u64 (Int.mul n (.ofNat (zqg 2 (zzz s IntKind.u64.bits))))):=rfl;rw[h1,jj];have sR:zzz s IntKind.u64.bits=s:=Nat.min_eq_left (show s<=64 by omega);rw[sR];have h3:Int.mul (n:Int) (.ofNat (zqg 2 s))=((n*2 ^ s:Nat):Int):=rfl;rw[h3,gD hs]
def YJ(S1:AS)(b0 p n lim B:Nat)(rest:List Nat)(d:ur)(k:Nat)(F':Fr)(S':AS):Prop:=
 ∃(i:Nat)(v:AV),de (fun id=>id=p) S1 S'/\S'.h.get p=some (.row [v,.bool true] 0 0 false 224)/\Sl S' v 1 (aq (bu (n / 128 ^ i)++rest))/\aE v=b0/\sl F' 0=.ptr p 0 0 2/\sl F' 1=.int .u64 lim/\sl F' 4=.int .u64 (n%128 ^ i:Nat)/\sl F' 5=.ptr B 0 0 1/\sl F' 6=.int .i64 i /\
  F'.ds=[d]/\F'.n=72/\i<=9/\(0<i->1<=n / 128 ^ i)/\k=9-i
theorem DT{S1:AS}{b0 p n lim B:Nat}{rest:List Nat}{d:ur}{k:Nat}{F':Fr}(i:Nat)(v:AV)(h1:de (fun id=>id=p) S1 T)(h2:T.h.get p=some (.row [v,.bool true] 0 0 false 224))(h3:Sl T v 1 (aq (bu (n / 128 ^ i)++rest)))(h4:aE v=b0)(h5:sl F' 0=.ptr p 0 0 2)(h6:sl F' 1=.int .u64 lim)(h7:sl F' 4=.int .u64 (n%128 ^ i:Nat))(h8:sl F' 5=.ptr B 0 0 1)(h9:sl F' 6=.int .i64 i)
  (Ez:F'.ds=[d]) (Vo:F'.n=72) (h12:i<=9) (h13:0<i->1<=n / 128 ^ i) (h14:k=9-i):YJ S1 b0 p n lim B rest d k F' T:=⟨i,v,h1,h2,h3,h4,h5,h6,h7,h8,h9,Ez,Vo,h12,h13,h14⟩
theorem yz{fn:Func}{F:Fr}{Q:AV->AS->Prop}{p B:Nat}{v:AV}(he:S.h.get B=some (.row [.int .i64 0] 0 0 false 42))(h:lG C1 fn F Q [] S):lG C1 fn F Q [.call 153 [.ptr p 0 0 2,v,.ptr B 0 0 1] []] S:=by
 refine⟨Tryz.f153,_,jjP,rfl,jgU,by simp[bJ],fun F2 hn2 m7=>?_⟩;have v0:=m7 0;have v2:=m7 2;clear m7;simp only[bJ,zzg,zzd,zze,zzj]at v0 v2;simp[v0,v2,he];exact⟨⟨.tuple [],by kernel_rfl⟩,h⟩
theorem Sw{F:Fr}{x:AV}{e:Int}{B:Nat}(h:sl F 4=x)(hx:okW x=true)(h5:sl F 5=.ptr B 0 0 1)(hl:S.h.get B=some (.row [.int .i64 e] 0 0 false 42)):lD C1 F S Tryz.f99.results.toList=some [x,.int .i64 e]:=by
 have e:Tryz.f99.results.toList=[.tmp 4,.cell 5 42]:=by kernel_rfl
 rw[e];simp[h,h5,hl,hx]
theorem rH{v:AV}{l h:Nat}:aE (kX v l h)=aE v:=by
 cases v<;>first|rfl|(rename_i c;cases c<;>first|rfl|(simp only[kX,EL,aQ];cases Nat.beq _ l<;>rfl))
theorem jdl:Tryz.f99.ntmps=72:=by kernel_rfl
theorem MC{p n lim:Nat}{rest:List Nat}(h:eh S p B0 (bu n++rest))(hn:n<18446744073709551616)(hl:n<=lim)(P4:lim<18446744073709551616):
  ah C1 99 [.ptr p 0 0 2,.int .u64 lim] S fun r T=>r=.tuple [.int .u64 n,.int .i64 0]/\eh T p B0 rest/\de (fun id=>id=p) S T:=by
 obtain⟨⟨v,h1,h2,h3⟩,h4,h5⟩:=h;have u1:=h2.sl;obtain⟨S1,bC⟩:∃S1:AS,S1=⟨S.h.set S.nx (.row [.int .i64 0] 0 0 false 42),S.nx+1⟩:=⟨_,rfl⟩
 have s1:Sub S S1:=by rw[bC];exact seg.cq
 have g1:S1.h.get S.nx=some (.row [.int .i64 0] 0 0 false 42):=by rw[bC];exact aa _ _ _
 have Rp:=(s1.h p h4).trans h1;have n1:S1.nx=S.nx+1:=by rw[bC]
 have fR:=bC.symm;clear bC;refine Az (cK _) (cM _ rfl) jeA rfl jda (by simp) fun F rq sq hs=>?_;rw[jdl]at rq;have t0:=hs 0;have t1:=hs 1;clear hs;simp only[zzd,zze,zzj]at t0 t1;simp[t0,t1,fR,Rp,aj h2];refine⟨.call 153 [.ptr p 0 0 2,v,.ptr S.nx 0 0 1] [],by simp[iM,yJ,bJ,t0],?_⟩;refine rR.gen <| aT (YJ S1 (aE v) p n lim S.nx rest (.call 153 [.ptr p 0 0 2,v,.ptr S.nx 0 0 1] [])) 9 (DT 0 v ⟨fun _ _ _=>rfl,zzi _⟩ Rp (by simpa using h2.toSub s1) rfl (by simp[t0]) (by simp[t1]) (by simp[Nat.mod_one]) (by simp) (by simp) (by simp[nu,sq]) (by simp[rq]) (by omega) (by omega) rfl) ?_;clear t0 t1 rq sq fR;rintro k F' S'-⟨i,w,q1,q2,q3,q4,t0,t1,t4,t5,t6,sq,rq,hi9,Ep,hk⟩;have w1:=q3.sl;have w2:=q3.eR;rw[aA]at w2;obtain⟨m,hm⟩:∃m,m=n / 128 ^ i:=⟨_,rfl⟩
 rw[<-hm]at q3 w2;obtain⟨c,ms,hc,hc8⟩:∃c ms,bu m=c::ms/\c<256:=by
  by_cases h:m<128
  .exact⟨m,[],mH h,by omega⟩
  .exact⟨_,_,oy h,by have:=Nat.mod_lt m (show 0<128 by decide);omega⟩
 rw[hc]at q3 w2;have Xh:loadT C1 S' 5 (nh w 0)=some (.int .u8 c):=fu q3 rfl ag5;have w2':sLen w=(ms++rest).length+1:=by rw[w2];rfl
 obtain⟨L,hL⟩:∃L,L=(ms++rest).length:=⟨_,rfl⟩
 rw[<-hL]at w2';have hLI:¬((L:Int)+1=0):=by omega
 have jl:∀F:Fr,dT C1 F 32 w (some (.const (.int .i64 1))) none none=some (kX w 1 (L+1)):=fun F=>
  dx (cx:=C1) (p:=(5,1,1)) (l:=1) (k:=L+1) tD w1 (by simp) (by rw[kI,w2']) (by omega) (by omega)
 have c1:=q3.cut (l:=1) (k:=L+1) (by omega) (by omega);obtain⟨u,hu⟩:∃u,u=kX w 1 (L+1):=⟨_,rfl⟩
 rw[<-hu]at c1;simp only[<-hu]at jl;obtain⟨S2,dD⟩:∃S2:AS,S2=⟨S'.h.set p (.row [u,.bool true] 0 0 false 224),S'.nx⟩:=⟨_,rfl⟩
 have g2:S2.h.get p=some (.row [u,.bool true] 0 0 false 224):=by rw[dD];exact aa _ _ _
 have iN:=dD.symm;have h7:=IntWalk.i64_in (7*(i:Int)) (by omega);obtain⟨e,he⟩:∃e,e=c%128:=⟨_,rfl⟩
 have hel:e<128:=by have:=Nat.mod_lt c (show 0<128 by decide);omega
 have hand:∀(t:TypeId)(b:Bool),aZ C1 .and t b (.int .u8 c) (.int .u8 127)=some (.int .u8 e):=fun t b=>by rw[he];exact Ly hc8
 have hwc:IntKind.u64.wrap (e:Int)=e:=gD (by omega);have hem:e=m%128:=by
  rw[he];by_cases h:m<128
  .rw[mH h]at hc;cases hc;rfl
  .rw[oy h]at hc;cases hc;omega
 have jim:2 ^ (7*i)=128 ^ i:=by rw[Nat.pow_mul]
 have hle:e*128 ^ i<18446744073709551616:=by
  have h1:e<=m:=by rw[hem];exact Nat.mod_le _ _
  have h2:e*128 ^ i<=m*128 ^ i:=zzf _ h1;have h3:m*128 ^ i<=n:=by rw[hm];exact Nat.div_mul_le_self _ _
  omega
 obtain⟨x,hx⟩:∃x,x=e*128 ^ i:=⟨_,rfl⟩
 have Bq:∀(t:TypeId)(b:Bool),aZ C1 .shl t b (.int .u64 e) (.int .i64 (7*(i:Int)))=some (.int .u64 x):=fun t b=>by
  have:=QM (cx:=C1) (t:=t) (c:=b) (n:=e) (s:=7*i) (by omega) (by rw[jim];exact hle);rw[jim,<-hx]at this;rw[<-this];rfl
 obtain⟨y,hy⟩:∃y,y=n%128 ^ i:=⟨_,rfl⟩
 rw[<-hy]at t4;obtain⟨z,hz⟩:∃z,z=n%128 ^ (i+1):=⟨_,rfl⟩
 have hor:∀(t:TypeId)(b:Bool),aZ C1 .or t b (.int .u64 y) (.int .u64 x)=some (.int .u64 z):=fun t b=>by
  have Uy:y<128 ^ i:=by rw[hy];exact Nat.mod_lt _ (Nat.pow_pos (by decide))
  have hyn:y<18446744073709551616:=by rw[hy];have:=Nat.mod_le n (128 ^ i);omega
  rw[Wt hyn (by rw[hx];exact hle),hx,Yo Uy,hy,hem,hm,Ha,<-hz]
 have hm9:i=9->m=1:=fun h=>by
  have h1:=Ep (by omega);rw[<-hm]at h1;rw[h]at hm;have:(128:Nat) ^ 9=9223372036854775808:=by decide
  rw[this]at hm;omega
 have hc9:i=9->c=1:=fun h=>by
  have h1:=hm9 h;rw[h1,mH (by decide)]at hc;cases hc;rfl
 have pP:0<i->c≠0:=fun Vp=>by
  have:=Ep Vp;rw[<-hm]at this;by_cases h:m<128
  .rw[mH h]at hc;cases hc;omega
  .rw[oy h]at hc;cases hc;omega
 have q9:∀b,decide (i=9)=b->decide ((i:Int)=9)=b:=fun b hb=>by rw[<-hb];exact decide_eq_decide.2 (by omega)
 have c9:i=9->¬(1:Int)<c:=fun h=>by rw[hc9 h];decide
 have jbe:∀(P:Prop),((i=9/\¬(1:Int)<c)->P)->((¬i=9/\i=0)->P)->((¬i=9/\0<i/\¬(c:Int)=0)->P)->P:=fun P h1 h2 h3=>by
  by_cases h9:i=9
  .exact h1 ⟨h9,c9 h9⟩
  .by_cases h0:i=0
   .exact h2 ⟨h9,h0⟩
   .exact h3 ⟨h9,by omega,by have:=pP (by omega);omega⟩
 by_cases cQ:c<128
 .have P3:(c:Int)<128:=by omega
  have hmc:m<128/\ms=[]/\c=m:=by
   by_cases h:m<128
   .rw[mH h]at hc;cases hc;exact⟨h,rfl,rfl⟩
   .rw[oy h]at hc;cases hc;omega
  have hzn:z=n:=by
   rw[hz,<-Ha,<-hm,Nat.mod_eq_of_lt hmc.1,hm];rw[Nat.mul_comm];exact Nat.mod_add_div n (128 ^ i)
  have hlz:¬lim<z:=by omega
  have jdV:¬(lim:Int)<z:=by omega
  have nI:aq (ms++rest)=aq rest:=by rw[hmc.2.1,zzt]
  have e0:S2.h.get S.nx=some (.row [.int .i64 0] 0 0 false 42):=by
   rw[dD];exact (ae _ _ (by omega)).trans ((q1.h _ (by omega) (by omega)).trans g1)
  obtain⟨S3,l7⟩:∃S3:AS,S3=⟨S2.h.set S.nx (.row [.int .i64 0] 0 0 false 42),S2.nx⟩:=⟨_,rfl⟩
  have e3:S3.h.get S.nx=some (.row [.int .i64 0] 0 0 false 42):=by rw[l7];exact aa _ _ _
  have o3:∀id,id≠p->id<S.nx->S3.h.get id=S.h.get id:=fun id h1 h2=>by
   rw[l7];refine (ae _ _ (by omega)).trans ?_;rw[dD];exact (ae _ _ h1).trans ((q1.h id (by omega) h1).trans (s1.h id h2))
  have hn3:S3.nx=S'.nx:=by rw[l7,dD]
  have hqn:=q1.nx;have Ng:((aq (c::ms++rest)).drop (1*1)).take ((L+1-1)*1)=aq rest:=by
   rw[hmc.2.1,zzh,zzh,List.cons_append,zzt];show (aq rest).take _=_;rw[zzl];rw[aA,hL,hmc.2.1,zzt];omega
  rw[Ng]at c1;have hbu:aE u=aE v:=by rw[hu,rH];exact q4
  have hvo:=h2.old;have fin:eh S3 p B0 rest/\de (fun id=>id=p) S S3:=by
   refine⟨⟨⟨u,?_,?_,by omega⟩,by omega,h5⟩,⟨fun id h1 h2=>o3 id h2 h1,by omega⟩⟩
   .rw[l7];exact (ae _ _ (by omega)).trans g2
   .refine c1.agree (fun id e=>?_) (by omega);have hw:=q3.old;rw[l7];refine (ae _ _ (by omega)).trans ?_;rw[dD];exact ae _ _ (by omega)
  have nQ:=l7.symm;clear l7;refine jbe _ ?_ ?_ ?_
  .rintro⟨h9,h1⟩;have ZK:=eq_true (show (i:Int)=9 by omega);have Vp:=eq_true (show 0<i by omega);have ZL:=eq_true (show (0:Int)<i by omega);have hc0':¬(c:Int)=0:=by rw[hc9 h9];decide
   have hcN:¬c=0:=by rw[hc9 h9];decide
   have h1N:¬1<c:=by rw[hc9 h9];decide
   have ZJ:=eq_true h9;simp[t0,t1,t4,t5,t6,q2,w1,w2',hLI,Xh,jl,q3.ok,aj q3,c1.cells,aj c1,iN,hand,h7,ZJ,ZK,Vp,ZL,h1,h1N,hc0',hcN,hwc,Bq,hor,cQ,P3,hlz,jdV,e0,nQ];simp only[nu,sq];refine yz e3 ?_;rw[jk,Sw (x:=.int .u64 z) (by simp[t4]) rfl (by simp[t5]) e3];rw[hzn];simp;exact fin
  .rintro⟨h9,h0⟩;have ZK:=eq_false (show ¬(i:Int)=9 by omega);have Vp:=eq_false (show ¬0<i by omega);have ZL:=eq_false (show ¬(0:Int)<i by omega);have ZJ:=eq_false h9;simp[t0,t1,t4,t5,t6,q2,w1,w2',hLI,Xh,jl,q3.ok,aj q3,c1.cells,aj c1,iN,hand,h7,ZJ,ZK,Vp,ZL,hwc,Bq,hor,cQ,P3,hlz,jdV,e0,nQ];simp only[nu,sq];refine yz e3 ?_;rw[jk,Sw (x:=.int .u64 z) (by simp[t4]) rfl (by simp[t5]) e3];rw[hzn];simp;exact fin
  .rintro⟨h9,h0,hcI⟩;have ZK:=eq_false (show ¬(i:Int)=9 by omega);have Vp:=eq_true h0;have ZL:=eq_true (show (0:Int)<i by omega);have hcN:¬c=0:=by omega
   have ZJ:=eq_false h9;simp[t0,t1,t4,t5,t6,q2,w1,w2',hLI,Xh,jl,q3.ok,aj q3,c1.cells,aj c1,iN,hand,h7,ZJ,ZK,Vp,ZL,hcI,hcN,hwc,Bq,hor,cQ,P3,hlz,jdV,e0,nQ];simp only[nu,sq];refine yz e3 ?_;rw[jk,Sw (x:=.int .u64 z) (by simp[t4]) rfl (by simp[t5]) e3];rw[hzn];simp;exact fin
 .have P3:¬(c:Int)<128:=by omega
  have h128:¬m<128:=fun h=>by rw[mH h]at hc;cases hc;omega
  have hmt:ms=bu (n / 128 ^ (i+1)):=by
   rw[oy h128]at hc;cases hc;rw[<-H9,hm]
  have Zv:i<9:=by
   rcases Nat.lt_or_ge i 9 with h|h
   .exact h
   .have:=hm9 (by omega);omega
  have lH:=cp (i:=i) (by omega);have hbu:aE u=aE v:=by rw[hu,rH];exact q4
  have hvo:=h2.old;have Ng:((aq (c::ms++rest)).drop (1*1)).take ((L+1-1)*1)=aq (ms++rest):=by
   rw[zzh,zzh,List.cons_append];show (aq (ms++rest)).take _=_;rw[zzl];rw[aA,hL];omega
  rw[Ng]at c1;have c2:Sl S2 u 1 (aq (bu (n / 128 ^ (i+1))++rest)):=by
   rw[<-hmt,dD];exact c1.agree (fun id e=>ae _ _ (by omega)) (zzi _)
  have xZ:de (fun id=>id=p) S1 S2:=by
   rw[dD];exact⟨fun id h1 h2=>(ae _ _ h2).trans (q1.h id h1 h2),q1.nx⟩
  have h1i:0<i+1->1<=n / 128 ^ (i+1):=fun _=>by
   rw[<-H9,<-hm];omega
  clear hm9 hc9 pP c9 Ep;refine jbe _ ?_ ?_ ?_
  .rintro⟨h9,h1⟩;omega
  .rintro⟨h9,h0⟩;have ZK:=eq_false (show ¬(i:Int)=9 by omega);have Vp:=eq_false (show ¬0<i by omega);have ZL:=eq_false (show ¬(0:Int)<i by omega);have ZJ:=eq_false h9;simp[t0,t1,t4,t5,t6,q2,w1,w2',hLI,Xh,jl,q3.ok,aj q3,c1.cells,aj c1,iN,hand,h7,ZJ,ZK,Vp,ZL,hwc,Bq,hor,cQ,P3,lH];exact⟨9-(i+1),by omega,DT (i+1) u xZ g2 c2 hbu (by simp[t0]) (by simp[t1]) (by simp[hz]) (by simp[t5]) (by simp) (by simp[nu,sq]) (by simp[rq]) (by omega) h1i rfl⟩
  .rintro⟨h9,h0,hcI⟩;have ZK:=eq_false (show ¬(i:Int)=9 by omega);have Vp:=eq_true h0;have ZL:=eq_true (show (0:Int)<i by omega);have hcN:¬c=0:=by omega
   have ZJ:=eq_false h9;simp[t0,t1,t4,t5,t6,q2,w1,w2',hLI,Xh,jl,q3.ok,aj q3,c1.cells,aj c1,iN,hand,h7,ZJ,ZK,Vp,ZL,hcI,hcN,hwc,Bq,hor,cQ,P3,lH];exact⟨9-(i+1),by omega,DT (i+1) u xZ g2 c2 hbu (by simp[t0]) (by simp[t1]) (by simp[hz]) (by simp[t5]) (by simp) (by simp[nu,sq]) (by simp[rq]) (by omega) h1i rfl⟩
end
theorem Xx{n:Int}(h1:0<=n)(h2:n<9223372036854775808):qt n=(2*n).toNat:=by
 unfold qt;rw[if_neg (by omega),j4 (by simp)];have e0:((uN 0:Nat):Int)=0:=by rw[<-mw];rfl
 have e1:((uN (Int.mul n 2):Nat):Int)=2*n:=by
  rw[<-mw];show IntKind.u64.wrap (n*2)=_;simp only[IntKind.wrap,IntKind.bits,IntKind.signed];simp;omega
 show (IntKind.u64.wrap ((BitVec.ofInt 64 ((uN (Int.mul n 2):Nat):Int) ^^^ BitVec.ofInt 64 ((uN 0:Nat):Int)).toNat:Int)).toNat=_;rw[e0,e1];have:BitVec.ofInt 64 0=0#64:=by decide
 rw[this,BitVec.xor_zero,BitVec.toNat_ofInt];simp only[IntKind.wrap,IntKind.bits,IntKind.signed];simp;omega
theorem Xy{n:Int}(h1:-9223372036854775808<=n)(h2:n<0):qt n=(-2*n-1).toNat:=by
 unfold qt;rw[if_pos h2,j4 (by simp)];have e0:((uN (-1):Nat):Int)=18446744073709551615:=by rw[<-mw];decide
 have e1:((uN (Int.mul n 2):Nat):Int)=18446744073709551616+2*n:=by
  rw[<-mw];show IntKind.u64.wrap (n*2)=_;simp only[IntKind.wrap,IntKind.bits,IntKind.signed];simp;omega
 show (IntKind.u64.wrap ((BitVec.ofInt 64 ((uN (Int.mul n 2):Nat):Int) ^^^ BitVec.ofInt 64 ((uN (-1):Nat):Int)).toNat:Int)).toNat=_;rw[e0,e1];have:BitVec.ofInt 64 18446744073709551615=BitVec.allOnes 64:=by decide
 rw[this,BitVec.xor_allOnes,BitVec.toNat_not,BitVec.toNat_ofInt];simp only[IntKind.wrap,IntKind.bits,IntKind.signed];simp;omega
section
variable{S T:AS}
theorem jcc{n:Int}(h1:-9223372036854775808<=n)(h2:n<9223372036854775808):∀Q:AV->AS->Prop,ah C1 279 [.int .u64 (qt n)] S Q=Q (.int .i64 n) S:=fun Q=>by
 obtain⟨z,hz⟩:∃z,z=qt n:=⟨_,rfl⟩
 have Hn:(n<0->(z:Int)=-2*n-1)/\(0<=n->(z:Int)=2*n):=by
  rw[hz];refine⟨fun h=>?_,fun h=>?_⟩
  .rw[Xy h1 h];omega
  .rw[Xx h h2];omega
 rw[<-hz];have Zd:z<18446744073709551616:=by rw[hz];exact (nR n).1
 clear hz;have e1:∀c t,aZ C1 .shr t c (.int .u64 z) (.int .u64 1)=some (.int .u64 ((z / 2:Nat):Int)):=fun c t=>by
  show some (jW (Int.fdiv z (.ofNat (zqg 2 (zzz 1 IntKind.u64.bits)))) fun n=>AV.int .u64 n)=_;rw[dM];have:zqg 2 (zzz 1 IntKind.u64.bits)=2:=by decide
  rw[this,Int.fdiv_eq_ediv_of_nonneg _ (by decide)];rfl
 have e2:∀c t,aZ C1 .and t c (.int .u64 z) (.int .u64 1)=some (.int .u64 ((z%2:Nat):Int)):=fun c t=>by
  show cond (eE .u64 .u64) (some (fP .and .u64 (z:Nat) ((1:Nat):Int))) none=_;rw[dk.bits_nat (.inl rfl) jdZ Zd (by decide),eu];have:z &&& 1=z%2:=zqb z 1;show some (AV.int .u64 ((z &&& 1:Nat):Int))=_;rw[this]
 have w1:IntKind.i64.wrap ((z / 2:Nat):Int)=((z / 2:Nat):Int):=IntWalk.i64_in _ (by omega);have w2:IntKind.i64.wrap ((z%2:Nat):Int)=((z%2:Nat):Int):=IntWalk.i64_in _ (by omega);have w3:IntKind.i64.wrap (-((z%2:Nat):Int))=-((z%2:Nat):Int):=IntWalk.i64_in _ (by omega);have e3:∀c t,aZ C1 .xor t c (.int .i64 ((z / 2:Nat):Int)) (.int .i64 (-((z%2:Nat):Int)))=some (.int .i64 n):=fun c t=>by
  show cond (eE .i64 .i64) (some (fP .xor .i64 ((z / 2:Nat):Int) (-((z%2:Nat):Int)))) none=_;rw[j4 (by simp),eu];show some (AV.int .i64 (IntKind.i64.wrap ((BitVec.ofInt 64 ((z / 2:Nat):Int) ^^^ BitVec.ofInt 64 (-((z%2:Nat):Int))).toNat:Int)))=_;by_cases h:n<0
  .have h3:=Hn.1 h;have a1:z%2=1:=by omega
   have a2:((z / 2:Nat):Int)=-n-1:=by omega
   rw[a1,a2];have:BitVec.ofInt 64 (-((1:Nat):Int))=BitVec.allOnes 64:=by decide
   rw[this,BitVec.xor_allOnes,BitVec.toNat_not,BitVec.toNat_ofInt];congr 2;simp only[IntKind.wrap,IntKind.bits,IntKind.signed];simp;omega
  .have h3:=Hn.2 (by omega);have a1:z%2=0:=by omega
   have a2:((z / 2:Nat):Int)=n:=by omega
   rw[a1,a2];have:BitVec.ofInt 64 (-((0:Nat):Int))=0#64:=by decide
   rw[this,BitVec.xor_zero,BitVec.toNat_ofInt];congr 2;simp only[IntKind.wrap,IntKind.bits,IntKind.signed];simp;omega
 obtain⟨a,ha⟩:∃a,a=z / 2:=⟨_,rfl⟩
 obtain⟨b,hb⟩:∃b,b=z%2:=⟨_,rfl⟩
 rw[<-ha]at e1 w1 e3;rw[<-hb]at e2 w2 w3 e3;refine ah.eq (aL (cK _) (cM _ rfl) jjq rfl jgv (by simp) fun F hn s0=>?_);simp[s0,e1,e2,e3,w1,w2,w3]
theorem VZ{v w:AV}{a b:List Nat}(h1:Sl S v 1 (aq a))(h2:Sl S w 1 (aq b))(ha:∀c,c∈a->c<256)(hb:∀c,c∈b->c<256):∀Q:AV->AS->Prop,ah C1 191 [v,w] S Q=Q (.bool (decide (a=b))) S:=fun Q=>by
 have tx:=fun (F:Fr) (dst:Option Tmp) (ty:TypeId) (pos:String) (af:Array Edge) (gd:Option (Nat×Bool)) (y:Tmp) (e:sl F y=v)=>ly (cx:=C1) (F:=F) (S:=S) (dst:=dst) (ty:=ty) (pos:=pos) (af:=af) (gd:=gd) (a:=32) (b:=9) h1 ha ((aI F y).trans e) IE OP;have tx2:=fun (F:Fr) (dst:Option Tmp) (ty:TypeId) (pos:String) (af:Array Edge) (gd:Option (Nat×Bool)) (y:Tmp) (e:sl F y=w)=>ly (cx:=C1) (F:=F) (S:=S) (dst:=dst) (ty:=ty) (pos:=pos) (af:=af) (gd:=gd) (a:=32) (b:=9) h2 hb ((aI F y).trans e) IE OP;have hq:B3 .eql a b=some (.bool (decide (a=b))):=by
  show some (AV.bool (tV a b))=_;rw[lK]
 refine ah.eq (bt (cK _) (cM _ rfl) VE rfl Tx (by simp) fun F hn s0 s1=>?_);simp[s0,s1,tx,tx2,hq,E5]
variable{B:Nat}
theorem eh.row{p:Nat}{bs:List Nat}(h:eh S p B bs):∃v,S.h.get p=some (.row [v,.bool true] 0 0 false 224)/\Sl S v 1 (aq bs)/\aE v=B:=h.ex
theorem jdE{p:Nat}{n:Int}{rest:List Nat}(h:eh S p B (bu (qt n)++rest))(h1:-9223372036854775808<=n)(h2:n<9223372036854775808):
  ah C1 262 [.ptr p 0 0 2] S fun r T=>r=.tuple [.int .i64 n,.int .i64 0]/\eh T p B rest/\de (fun id=>id=p) S T:=by
 have hz:=(nR n).1;obtain⟨r,T,⟨rfl,q1,q2⟩,e1⟩:=(MC (lim:=18446744073709551615) h hz (by omega) (by decide)).ex;have e2:=jcc (S:=T) h1 h2;have Rw:∀Q:AV->AS->Prop,ah C1 99 [.ptr p 0 0 2,.int .u64 18446744073709551615] S Q=Q (.tuple [.int .u64 (qt n),.int .i64 0]) T:=e1;refine aL (cK _) (cM _ rfl) jjs rfl jgx (by simp) fun F hn s0=>?_;simp[s0,aP,Rw,e2];exact⟨q1,q2⟩
theorem Y7{p:Nat}{bs:List Nat}(h:eh S p B bs):∀Q:AV->AS->Prop,ah C1 103 [.ptr p 0 0 2] S Q=Q (.int .i64 bs.length) S:=fun Q=>by
 obtain⟨v,h1,h2,h3⟩:=h.row;have u1:=h2.sl;have u2:=h2.eR;rw[aA]at u2;refine ah.eq (aL (cK _) (cM _ rfl) jkj rfl jho (by simp) fun F hn s0=>?_);simp[s0,h1,u1,u2]
theorem TU:Tryz.f101.ntmps=60:=by kernel_rfl
theorem jcE{F:Fr}{x:AV}{e:Int}{b:Nat}(h:sl F 4=x)(hx:okW x=true)(h5:sl F 5=.ptr b 0 0 1)(hl:S.h.get b=some (.row [.int .i64 e] 0 0 false 42)):lD C1 F S Tryz.f101.results.toList=some [x,.int .i64 e]:=by
 have e:Tryz.f101.results.toList=[.tmp 4,.cell 5 42]:=by kernel_rfl
 rw[e];simp[h,h5,hl,hx]
theorem It{p most:Nat}{s rest:List Nat}(h:eh S p B (iK s++rest))(hl:s.length<=most)(hm:most<=1000000)(mO:rest.length<=1073741824):
  ah C1 101 [.ptr p 0 0 2,.int .i64 most] S fun r T=>∃w,r=.tuple [w,.int .i64 0]/\Sl T w 1 (aq s)/\eh T p B rest/\de (fun id=>id=p) S T:=by
 obtain⟨S1,bC⟩:∃S1:AS,S1=⟨S.h.set S.nx (.row [.int .i64 0] 0 0 false 42),S.nx+1⟩:=⟨_,rfl⟩
 have s1:Sub S S1:=by rw[bC];exact seg.cq
 have g1:S1.h.get S.nx=some (.row [.int .i64 0] 0 0 false 42):=by rw[bC];exact aa _ _ _
 have n1:S1.nx=S.nx+1:=by rw[bC]
 have fR:=bC.symm;clear bC;have cQ:=h.lt;have Xe:eh S1 p B (bu s.length++(s++rest)):=by
  have:=h.sub s1;unfold iK at this
  rwa [zzb]at this
 obtain⟨v0,p0,p1,p2⟩:=Xe.row;have p1o:=p1.old;have ct:=h.ne;have hBl:=h.le;obtain⟨r,T,⟨rfl,q1,q2⟩,e1⟩:=(MC (lim:=most) Xe (by omega) hl (by omega)).ex;have q2n:=q2.nx;have gT:T.h.get S.nx=some (.row [.int .i64 0] 0 0 false 42):=(q2.h _ (by omega) (by omega)).trans g1;obtain⟨v,a1,a2,a3⟩:=q1.row;have u1:=a2.sl;have u2:=a2.eR;rw[aA,zza]at u2;obtain⟨n,Br⟩:∃n,n=s.length:=⟨_,rfl⟩
 obtain⟨L,hL⟩:∃L,L=n+rest.length:=⟨_,rfl⟩
 have u2L:sLen v=L:=by omega
 obtain⟨T1,iD⟩:∃T1:AS,T1=⟨T.h.set S.nx (.row [.int .i64 0] 0 0 false 42),T.nx⟩:=⟨_,rfl⟩
 have o1:∀id,T1.h.get id=T.h.get id:=fun id=>by
  rw[iD];by_cases hi:id=S.nx
  .rw[hi];exact (aa _ _ _).trans gT.symm
  .exact ae _ _ hi
 have nT1:T1.nx=T.nx:=by rw[iD]
 have Bu:=iD.symm;clear iD;have a1':=(o1 p).trans a1;have gT1:=(o1 S.nx).trans gT;have a2':Sl T1 v 1 (aq (s++rest)):=a2.agree (fun id _=>o1 id) (by omega);have c1:=a2'.cut (l:=0) (k:=n) (zzs _) (by omega);have c2:=a2'.cut (l:=n) (k:=L) (by omega) (by omega);have d1:((aq (s++rest)).drop (0*1)).take ((n-0)*1)=aq s:=by
  rw[Nat.zero_mul,zqh,zzh,Nat.sub_zero,<-ig,List.take_left' (by rw[aA,Br])]
 have d2:((aq (s++rest)).drop (n*1)).take ((L-n)*1)=aq rest:=by
  rw[zzh,zzh,<-ig,List.drop_left' (by rw[aA,Br]),zzl (by rw[aA];omega)]
 rw[d1]at c1;rw[d2]at c2;have b1:aE (kX v 0 n)=aE v:=rH;have b2:aE (kX v n L)=aE v:=rH;obtain⟨cw,Nd⟩:∃cw,cw=kX v 0 n:=⟨_,rfl⟩
 obtain⟨dw,hdw⟩:∃dw,dw=kX v n L:=⟨_,rfl⟩
 have jl:∀(F:Fr)(x:Tmp),sl F x=.int .u64 n->dT C1 F 32 v none (some (.tmp x)) none=some cw:=fun F x a0=>by
  rw[Nd];exact dx (cx:=C1) (p:=(5,1,1)) (l:=0) (k:=n) tD u1 (by simp) (by simp[a0]) (zzs _) (by omega)
 have m7:∀(F:Fr)(x:Tmp),sl F x=.int .u64 n->dT C1 F 32 v (some (.tmp x)) none none=some dw:=fun F x a0=>by
  rw[hdw];exact dx (cx:=C1) (p:=(5,1,1)) (l:=n) (k:=L) tD u1 (by simp[a0]) (by rw[kI,u2L]) (by omega) (by omega)
 rw[<-Nd]at c1 b1;rw[<-hdw]at c2 b2;obtain⟨w,T2,⟨w1,w2,w3⟩,x9⟩:=(AK c1 (by rw[aA];omega)).ex;have w2n:=w2.nx;obtain⟨T3,tg⟩:∃T3:AS,T3=⟨T2.h.set p (.row [dw,.bool true] 0 0 false 224),T2.nx⟩:=⟨_,rfl⟩
 have N1:=(w2.h p (by omega)).trans a1';have g3:T3.h.get p=some (.row [dw,.bool true] 0 0 false 224):=by rw[tg];exact aa _ _ _
 have bT3:=tg.symm;have hbw:aE w≠p+1:=by unfold jI at w3;omega
 have fin:Sl T3 w 1 (aq s)/\eh T3 p B rest/\de (fun id=>id=p) S T3:=by
  rw[tg];refine⟨w1.1.agree (fun id e=>ae _ _ (by omega)) (zzi _),⟨⟨dw,aa _ _ _,?_,by omega⟩,by show p<T2.nx;omega,ct⟩,⟨fun id h1 h2=>?_,by show S.nx<=T2.nx;omega⟩⟩
  .refine c2.agree (fun id e=>(ae _ _ (by omega)).trans (w2.h id ?_)) w2n;have:=a2.old;omega
  .show (T2.h.set p _).get id=_;rw[ae _ _ h2,w2.h id (by omega),o1,q2.h id (by omega) h2];exact s1.h id h1
 have gB:T3.h.get S.nx=some (.row [.int .i64 0] 0 0 false 42):=by
  rw[tg];refine (ae _ _ (by omega)).trans ?_;rw[w2.h _ (by omega),o1];exact gT
 obtain⟨U,hU⟩:∃U:AS,U=⟨T3.h.set S.nx (.row [.int .i64 0] 0 0 false 42),T3.nx⟩:=⟨_,rfl⟩
 have oU:∀id,U.h.get id=T3.h.get id:=fun id=>by
  rw[hU];by_cases hi:id=S.nx
  .rw[hi];exact (aa _ _ _).trans gB.symm
  .exact ae _ _ hi
 have nU:U.nx=T3.nx:=by rw[hU]
 have bU:=hU.symm;have gU:=(oU S.nx).trans gB;have fin2:Sl U w 1 (aq s)/\eh U p B rest/\de (fun id=>id=p) S U:=by
  obtain⟨f1,f2,f6⟩:=fin;exact⟨f1.agree (fun id _=>oU id) (by omega),f2.agree (fun id _=>oU id) (by omega),⟨fun id h1 h2=>(oU id).trans (f6.h id h1 h2),by have:=f6.nx;omega⟩⟩
 clear tg hU;have hwm:=gD (n:=most) (by omega);have hwL:=gD (n:=L) (by omega);have hmI:¬(most:Int)<0:=by omega
 have Bq:¬L<n:=by omega
 have hshI:¬(L:Int)<n:=by omega
 rw[<-Br]at e1;refine Az (cK _) (cM _ rfl) VN rfl TG (by simp) fun F rq sq hs=>?_;rw[TU]at rq;have t0:=hs 0;have t1:=hs 1;clear hs;simp only[zzd,zze,zzj]at t0 t1;simp[t0,t1,fR,p0,aj p1,hmI,aP,hwm];refine⟨.call 153 [.ptr p 0 0 2,v0,.ptr S.nx 0 0 1] [],by simp[iM,yJ,bJ,t0],?_⟩;simp[t0,t1,e1,aP,hwm,Bu,gT,gT1,a1',u1,u2L,hwL,Bq,hshI];refine cu [.p,.p,.p,.p,.r 0 0,.p,.p,.e [],.p,.p,.p,.r 1 0,.p,.p,.p,.p,.p,.e []] (n:=60) (by kernel_rfl) (by simp[rq]) ?_;simp[t0,t1,aP,a1',jl,m7,aj a2',aj c1,x9,N1,aj w1.1,w1.1.np,c2.cells,bT3,gB,bU];simp only[nu,sq];refine yz gU ?_;rw[jk,jcE (x:=w) (by simp) (aj w1.1) (by simp) gU];simp[w1.1.np];exact fin2
end
open Go.Proofs.YtdknlbnljfdhgaaGreatDoor.mod (qe cZ dC dH dj c8 gq aB dE nG kF zj gG zeroV jP eJ cd)
section
variable{S T:AS}{B:Nat}
theorem D7:∀Q:AV->AS->Prop,ah C1 261 [.int .i64 0] S Q=Q (.tuple []) S:=fun Q=>by
 refine ah.eq (aL (cK _) (cM _ rfl) jjt rfl jgy (by simp) fun F hn s0=>?_);simp[s0]
theorem DU{p n lim:Nat}{rest:List Nat}(h:eh S p B (bu n++rest))(hn:n<18446744073709551616)(hl:n<=lim)(P4:lim<18446744073709551616):
  ah C1 236 [.agg [.ptr p 0 0 2],.int .u64 lim] S fun r T=>r=.int .u64 n/\eh T p B rest/\de (fun id=>id=p) S T:=by
 obtain⟨S1,bC⟩:∃S1:AS,S1=⟨S.h.set S.nx (.row [.ptr p 0 0 2] 0 0 false 230),S.nx+1⟩:=⟨_,rfl⟩
 have s1:Sub S S1:=by rw[bC];exact seg.cq
 have g1:S1.h.get S.nx=some (.row [.ptr p 0 0 2] 0 0 false 230):=by rw[bC];exact aa _ _ _
 have fR:=bC.symm;clear bC;obtain⟨r,T,⟨rfl,q1,q2⟩,e1⟩:=(MC (h.sub s1) hn hl P4).ex;have e2:=D7 (S:=T);refine bt (cK _) (cM _ rfl) jjy rfl jgD (by simp) fun F hn t0 t1=>?_;simp[t0,t1,fR,g1,aP,e1,e2];exact⟨q1,s1.ca.trans q2⟩
theorem Ma{p most:Nat}{s rest:List Nat}(h:eh S p B (iK s++rest))(hb:∀c,c∈s->c<256)(hl:s.length<=most)(hm:most<=1000000)(mO:rest.length<=1073741824):
  ah C1 237 [.agg [.ptr p 0 0 2],.int .i64 most] S fun r T=>r=.str s/\eh T p B rest/\de (fun id=>id=p) S T:=by
 obtain⟨S1,bC⟩:∃S1:AS,S1=⟨S.h.set S.nx (.row [.ptr p 0 0 2] 0 0 false 230),S.nx+1⟩:=⟨_,rfl⟩
 have s1:Sub S S1:=by rw[bC];exact seg.cq
 have g1:S1.h.get S.nx=some (.row [.ptr p 0 0 2] 0 0 false 230):=by rw[bC];exact aa _ _ _
 have fR:=bC.symm;clear bC;obtain⟨r,T,⟨w,rfl,w1,q1,q2⟩,e1⟩:=(It (h.sub s1) hl hm mO).ex;have e2:=D7 (S:=T);have tx:=fun (F:Fr) (dst:Option Tmp) (ty:TypeId) (pos:String) (af:Array Edge) (gd:Option (Nat×Bool)) (y:Tmp) (e:sl F y=w)=>ly (cx:=C1) (F:=F) (S:=T) (dst:=dst) (ty:=ty) (pos:=pos) (af:=af) (gd:=gd) (a:=32) (b:=9) w1 hb ((aI F y).trans e) IE OP;refine bt (cK _) (cM _ rfl) jjx rfl jgC (by simp) fun F hn t0 t1=>?_;simp[t0,t1,fR,g1,aP,e1,e2,aj w1,w1.np,tx];exact⟨q1,s1.ca.trans q2⟩
end
theorem uG{a b:qe}(h:gG a b=true):a=b:=by
 unfold gG at h;simp only[zzr,lK,decide_eq_true_eq,beq_iff_eq]at h;obtain⟨h1,h2,h3,h4⟩:=h;cases a;cases b;simp only at h1 h2 h3 h4;subst h1 h2 h3 h4;rfl
theorem wh{v:qe}(h:kF v=true):(∃n,v=⟨1,n,[],false⟩)\/(∃s,v=⟨2,0,s,false⟩/\s.length<=32)\/(∃b,v=⟨3,0,[],b⟩):=by
 unfold kF at h;split at h
 .exact .inl ⟨_,uG h⟩
 .split at h
  .simp only[zzr,decide_eq_true_eq]at h;exact .inr (.inl ⟨_,uG h.1,h.2⟩)
  .split at h
   .exact .inr (.inr ⟨_,uG h⟩)
   .cases h
section
variable{S T:AS}{B:Nat}
theorem zW{A:Nat->Prop}{S T U:AS}(h:Sub S T)(k:de A T U):de A S U:=h.ca.trans k
theorem FR{p:Nat}{v:qe}{rest:List Nat}(h:eh S p B (dS v++rest))(hv:kF v=true)(hn:tq v)(mO:rest.length<=1073741824):
  ah C1 239 [.agg [.ptr p 0 0 2]] S fun r T=>r=.agg (cZ v)/\eh T p B rest/\de (fun id=>id=p) S T:=by
 have cQ:=h.lt;obtain⟨S1,bC⟩:∃S1:AS,S1=⟨S.h.set S.nx (.row [.ptr p 0 0 2] 0 0 false 230),S.nx+1⟩:=⟨_,rfl⟩
 have s1:Sub S S1:=by rw[bC];exact seg.cq
 have g1:S1.h.get S.nx=some (.row [.ptr p 0 0 2] 0 0 false 230):=by rw[bC];exact aa _ _ _
 have n1:S1.nx=S.nx+1:=by rw[bC]
 have fR:=bC.symm;clear bC;obtain⟨S2,dD⟩:∃S2:AS,S2=⟨S1.h.set S1.nx (.row [.int .i64 0,.int .i64 0,.str [],.bool false] 0 0 false 100),S1.nx+1⟩:=⟨_,rfl⟩
 have s2:Sub S1 S2:=by rw[dD];exact seg.cq
 have r2:S2.h.get S1.nx=some (.row [.int .i64 0,.int .i64 0,.str [],.bool false] 0 0 false 100):=by rw[dD];exact aa _ _ _
 have n2:S2.nx=S1.nx+1:=by rw[dD]
 have iN:=dD.symm;clear dD;have g2:=(s2.h _ (by omega)).trans g1;have h2:=(h.sub s1).sub s2;unfold dS at h2;rw[zzb]at h2;obtain⟨k,hk⟩:∃k:Nat,k=uN v.kind:=⟨_,rfl⟩
 rw[<-hk]at h2;have hk3:k<=3/\v.kind=k:=by
  rcases wh hv with⟨n,rfl⟩|⟨s,rfl,_⟩|⟨b,rfl⟩
  .exact⟨by rw[hk];show uN ((1:Nat):Int)<=3;rw[pj (by omega)];omega,by rw[hk];show (1:Int)=(uN ((1:Nat):Int):Nat);rw[pj (by omega)];rfl⟩
  .exact⟨by rw[hk];show uN ((2:Nat):Int)<=3;rw[pj (by omega)];omega,by rw[hk];show (2:Int)=(uN ((2:Nat):Int):Nat);rw[pj (by omega)];rfl⟩
  .exact⟨by rw[hk];show uN ((3:Nat):Int)<=3;rw[pj (by omega)];omega,by rw[hk];show (3:Int)=(uN ((3:Nat):Int):Nat);rw[pj (by omega)];rfl⟩
 obtain⟨r,T,⟨rfl,q1,q2⟩,e1⟩:=(DU (lim:=3) h2 (by omega) hk3.1 (by decide)).ex;have Rw:∀Q:AV->AS->Prop,ah C1 236 [.agg [.ptr p 0 0 2],.int .u64 3] S2 Q=Q (.int .u64 k) T:=e1;have q2n:=q2.nx;have Rm:IntKind.i64.wrap (k:Int)=k:=IntWalk.i64_in _ (by omega);have Xv:dr C1 100 [(0,.int .i64 (k:Int))]=some (.agg [.int .i64 k,.int .i64 0,.str [],.bool false]):=by kernel_rfl
 have gT:=(q2.h _ (by omega) (by omega)).trans g2;have rT:=(q2.h _ (by omega) (by omega)).trans r2;obtain⟨T1,iD⟩:∃T1:AS,T1=⟨(T.h.set T.nx (.row [.int .i64 0,.int .i64 0,.str [],.bool false] 0 0 false 100)).set T.nx (.row [.int .i64 k,.int .i64 0,.str [],.bool false] 0 0 false 100),T.nx+1⟩:=⟨_,rfl⟩
 have t1:Sub T T1:=by rw[iD];exact seg.gF
 have v1:T1.h.get T.nx=some (.row [.int .i64 k,.int .i64 0,.str [],.bool false] 0 0 false 100):=by rw[iD];exact aa _ _ _
 have nT1:T1.nx=T.nx+1:=by rw[iD]
 have Bu := iD.symm;clear iD;have q1' := q1.sub t1;have gT1 := (t1.h _ (by omega)).trans gT;have rT1 := (t1.h _ (by omega)).trans rT;have jhU : de (fun id => id = p) S T1 := (zW (s1.trans s2) q2).trans t1.ca;have hB := h.le;have fin : ∀ (U : AS) (cs : List AV), eh U p B rest → de (fun id => id = p) T1 U →
   ∃U1 U2:AS,(⟨U.h.set T.nx (.row cs 0 0 false 100),U.nx⟩:AS)=U1/\U1.h.get T.nx=some (.row cs 0 0 false 100)/\U1.h.get S1.nx=some (.row [.int .i64 0,.int .i64 0,.str [],.bool false] 0 0 false 100) /\
    (⟨U1.h.set S1.nx (.row cs 0 0 false 100),U1.nx⟩:AS)=U2/\U2.h.get S1.nx=some (.row cs 0 0 false 100)/\eh U2 p B rest/\de (fun id=>id=p) S U2:=fun U cs a1 a2=>by
  have a2n:=a2.nx;have ag:∀id,id<S.nx->((U.h.set T.nx (.row cs 0 0 false 100)).set S1.nx (.row cs 0 0 false 100)).get id=U.h.get id:=fun id cD=>(ae _ _ (by omega)).trans (ae _ _ (by omega));refine⟨_,_,rfl,aa _ _ _,(ae _ _ (by omega)).trans ((a2.h _ (by omega) (by omega)).trans rT1),rfl,aa _ _ _,a1.agree (fun id e=>ag id (by rcases e with e|e<;>omega)) (zzi _),⟨fun id h1 h2=>(ag id h1).trans ((jhU.trans a2).h id h1 h2),(jhU.trans a2).nx⟩⟩
 have gv:∀U:AS,de (fun id=>id=p) T1 U->U.h.get T.nx=some (.row [.int .i64 k,.int .i64 0,.str [],.bool false] 0 0 false 100):=fun U hU=>(hU.h _ (by omega) (by omega)).trans v1;clear h2;rcases wh hv with⟨n,rfl⟩|⟨s,rfl,hs32⟩|⟨b,rfl⟩
 .obtain rfl:k=1:=by have:=hk3.2;simp only at this;omega
  simp only[Int.ofNat_one,Int.cast_ofNat_Int]at Rw Bu v1 Xv Rm gv;obtain⟨r,U,⟨rfl,u1,u2⟩,e2⟩:=(jdE (n:=n) (rest:=rest) (by simpa[AW]using q1') hn.1 hn.2.1).ex;have e3:=D7 (S:=U);have gU:=gv U u2;obtain⟨U1,U2,b1,K2,r1,b2,r2',f1,f2⟩:=fin U [.int .i64 1,.int .i64 n,.str [],.bool false] u1 u2;refine aL (cK _) (cM _ rfl) VC rfl Tv (by simp) fun F rq t0=>?_;simp[t0,fR,iN,g2,aP,Rw,Rm,Xv,Bu,v1,gT1,e2,e3,gU,b1,K2,r1,b2,r2'];exact⟨rfl,f1,f2⟩
 .obtain rfl:k=2:=by have:=hk3.2;simp only at this;omega
  have Rw:∀Q:AV->AS->Prop,ah C1 236 [.agg [.ptr p 0 0 2],.int .u64 3] S2 Q=Q (.int .u64 2) T:=Rw;have Bu:(⟨(T.h.set T.nx (.row [.int .i64 0,.int .i64 0,.str [],.bool false] 0 0 false 100)).set T.nx (.row [.int .i64 2,.int .i64 0,.str [],.bool false] 0 0 false 100),T.nx+1⟩:AS)=T1:=Bu;have v1:T1.h.get T.nx=some (.row [.int .i64 2,.int .i64 0,.str [],.bool false] 0 0 false 100):=v1;have Xv:dr C1 100 [(0,.int .i64 2)]=some (.agg [.int .i64 2,.int .i64 0,.str [],.bool false]):=Xv;have Rm:IntKind.i64.wrap 2=2:=Rm;obtain⟨r,U,⟨rfl,u1,u2⟩,e2⟩:=(Ma (most:=32) (s:=s) (rest:=rest) (by simpa[AW]using q1') hn.2.2 hs32 (by decide) mO).ex;have gU:U.h.get T.nx=some (.row [.int .i64 2,.int .i64 0,.str [],.bool false] 0 0 false 100):=gv U u2;obtain⟨U1,U2,b1,K2,r1,b2,r2',f1,f2⟩:=fin U [.int .i64 2,.int .i64 0,.str s,.bool false] u1 u2;have e2:∀Q:AV->AS->Prop,ah C1 237 [.agg [.ptr p 0 0 2],.int .i64 32] T1 Q=Q (.str s) U:=e2;refine aL (cK _) (cM _ rfl) VC rfl Tv (by simp) fun F rq t0=>?_;simp[t0,fR,iN,g2,aP,Rw,Rm,Xv,Bu,v1,gT1,e2,gU,b1,K2,r1,b2,r2'];exact⟨rfl,f1,f2⟩
 .obtain rfl:k=3:=by have:=hk3.2;simp only at this;omega
  have Rw:∀Q:AV->AS->Prop,ah C1 236 [.agg [.ptr p 0 0 2],.int .u64 3] S2 Q=Q (.int .u64 3) T:=Rw;have Bu:(⟨(T.h.set T.nx (.row [.int .i64 0,.int .i64 0,.str [],.bool false] 0 0 false 100)).set T.nx (.row [.int .i64 3,.int .i64 0,.str [],.bool false] 0 0 false 100),T.nx+1⟩:AS)=T1:=Bu;have v1:T1.h.get T.nx=some (.row [.int .i64 3,.int .i64 0,.str [],.bool false] 0 0 false 100):=v1;have Xv:dr C1 100 [(0,.int .i64 3)]=some (.agg [.int .i64 3,.int .i64 0,.str [],.bool false]):=Xv;have Rm:IntKind.i64.wrap 3=3:=Rm;obtain⟨m,hm⟩:∃m:Nat,m=if b then 1 else 0:=⟨_,rfl⟩
  have hm1:m<=1:=by rw[hm];split<;>omega
  obtain⟨r,U,⟨rfl,u1,u2⟩,e2⟩:=(DU (lim:=1) (n:=m) (rest:=rest) (by simpa[AW,CZ,hm]using q1') (by omega) hm1 (by decide)).ex;have gU:U.h.get T.nx=some (.row [.int .i64 3,.int .i64 0,.str [],.bool false] 0 0 false 100):=gv U u2;obtain⟨U1,U2,b1,K2,r1,b2,r2',f1,f2⟩:=fin U [.int .i64 3,.int .i64 0,.str [],.bool b] u1 u2;have hmb:decide ((m:Int)=1)=b:=by rw[hm];cases b<;>rfl
  have hmb':decide (m=1)=b:=by rw[hm];cases b<;>rfl
  have e2:∀Q:AV->AS->Prop,ah C1 236 [.agg [.ptr p 0 0 2],.int .u64 1] T1 Q=Q (.int .u64 m) U:=e2;refine aL (cK _) (cM _ rfl) VC rfl Tv (by simp) fun F rq t0=>?_;simp[t0,fR,iN,g2,aP,Rw,Rm,Xv,Bu,v1,gT1,e2,gU,hmb,hmb',b1,K2,r1,b2,r2'];exact⟨rfl,f1,f2⟩
def jfJ(g n:Nat)(caps:List AV)(I:Nat->AS->Prop)(k:Nat)(F':Fr)(S':AS):Prop:=∃i:Nat,I i S'/\sl F' 2=.func (.func g) [] caps/\sl F' 8=.int .u64 n/\sl F' 9=.int .u64 i/\i<=n/\k=n-i
theorem L8{g n:Nat}{caps:List AV}{I:Nat->AS->Prop}{k:Nat}{F':Fr}(i:Nat)(h1:I i T)(h2:sl F' 2=.func (.func g) [] caps)(h3:sl F' 8=.int .u64 n)(h4:sl F' 9=.int .u64 i)(h5:i<=n)(h6:k=n-i):jfJ g n caps I k F' T:=⟨i,h1,h2,h3,h4,h5,h6⟩
theorem FZ{p n most g:Nat}{caps:List AV}{bs:List Nat}(h:eh S p B (bu n++bs))(hl:n<=most)(hm:most<1000000)(hx:C1.exts.get g=none)(I:Nat->AS->Prop)
  (h0:∀T,eh T p B bs->de (fun id=>id=p) S T->I 0 T) (hs:∀k T,k<n->I k T->ah C1 g caps T fun _ U=>I (k+1) U) :
  ah C1 192 [.agg [.ptr p 0 0 2],.int .u64 most,.func (.func g) [] caps] S fun _ U=>I n U:=by
 obtain⟨S1,bC⟩:∃S1:AS,S1=⟨S.h.set S.nx (.row [.ptr p 0 0 2] 0 0 false 230),S.nx+1⟩:=⟨_,rfl⟩
 have s1:Sub S S1:=by rw[bC];exact seg.cq
 have g1:S1.h.get S.nx=some (.row [.ptr p 0 0 2] 0 0 false 230):=by rw[bC];exact aa _ _ _
 have fR:=bC.symm;clear bC;obtain⟨r,T,⟨rfl,q1,q2⟩,e1⟩:=(DU (h.sub s1) (by omega) hl (by omega)).ex;have hI0:=h0 T q1 (s1.ca.trans q2);refine tW (cK _) (cM _ rfl) VD rfl Tw (by simp) fun F hn t0 t1 t2=>?_;simp[t0,t1,t2,fR,g1,aP,e1];refine aT (jfJ g n caps I) n (L8 0 hI0 (by simp[t2]) (by simp) (by simp) (zzs _) rfl) ?_;clear t0 t1 t2 hI0;rintro k F' S'-⟨i,hI,t2,t8,t9,hi,hk⟩;by_cases FC:i<n
 .obtain⟨v,U,hU,e⟩:=(hs i S' FC hI).ex;have hinI:(i:Int)<n:=by omega
  have hw:IntKind.u64.wrap ((i:Int)+1)=((i+1:Nat):Int):=gD (n:=i+1) (by omega);simp[t2,t8,t9,FC,hinI,hx,e,hw];exact⟨n-(i+1),by omega,L8 (i+1) hU (by simp[t2]) (by simp[t8]) (by simp) FC rfl⟩
 .have:i=n:=by omega
  subst this;simp[t2,t8,t9];exact hI
end
open Go.Proofs.YtdknlbnljfdhgaaGreatDoor.mod (bare)
section
variable{S T:AS}{B:Nat}
structure jaQ(S0:AS)(b1 b3 p B:Nat)(name:List Nat)(op:Int)(vs:List qe)(rest:List Nat)(k:Nat)(S:AS):Prop where
 ex:∃v,S.h.get b3=some (.row [.str name,.int .i64 op,.int .i64 0,.int .i64 0,.str [],.bool false,v] 0 0 false 103)/\Gw S v 4 100 ((vs.take k).flatMap cZ)/\(aE v=0\/S0.nx<aE v)
 b1:S.h.get b1=some (.row [.ptr p 0 0 2] 0 0 false 230)
 rd:eh S p B ((vs.drop k).flatMap dS++rest)
 kp:de (fun id=>id=p\/id=b3) S0 S
theorem jhv:Tryz.f238.ntmps=9:=by kernel_rfl
theorem jcA{S0:AS}{b1 b3 p k:Nat}{name:List Nat}{op:Int}{vs:List qe}{rest:List Nat}(h:jaQ S0 b1 b3 p B name op vs rest k S)(hk:k<vs.length)(h6:vs.length<=6)(hm:∀v,v∈vs->kF v=true)(hn:∀v,v∈vs->tq v)
  (tP:b1<S0.nx) (Xl:b3<S0.nx) (jen:b1≠b3) (h1p:b1≠p) (h3p:b3≠p) (hB3:B≠b3+1) (hB:B<=S0.nx) (hp:p<S0.nx) (mO:rest.length<=1000000) :
  ah C1 238 [.ptr b3 0 0 7,.ptr b1 0 0 1] S fun _ T=>jaQ S0 b1 b3 p B name op vs rest (k+1) T:=by
 obtain⟨⟨v,g3,gv,hvb⟩,g1,hr,KU⟩:=h;have M8:=KU.nx;have hx:vs[k]?=some vs[k]:=zqi hk;have u9:=zqd hk;have hd:vs.drop k=vs[k]::vs.drop (k+1):=zzw hk;have fi:eh S p B (dS vs[k]++((vs.drop (k+1)).flatMap dS++rest)):=by rw[hd,zzm,zzb]at hr;exact hr
 have vG:=dZ (f:=dS) (k:=52) (l:=vs.drop (k+1)) fun v hv=>kj (sc (hm v (zzn hv)) (hn v (zzn hv)));have jiM:(vs.drop (k+1)).length*52<=6*52:=zzf _ (by rw[zzc];omega);obtain⟨r,T,⟨rfl,q1,q2⟩,e1⟩:=(FR fi (hm _ u9) (hn _ u9) (by rw[zza];omega)).ex;have q2n:=q2.nx;have hvo:=gv.1.old;have g3T:=(q2.h _ (by omega) h3p).trans g3;have gvT:Gw T v 4 100 ((vs.take k).flatMap cZ):=gv.agree (fun id e=>q2.h id (by omega) (by omega)) q2n;have MW:sLen v=k:=by
  have:=gv.1.aO dC (by omega);rw[this,zzp];omega
 obtain⟨T1,iD⟩:∃T1:AS,T1=⟨T.h.set T.nx (.row (cZ vs[k]) 0 0 false 100),T.nx+1⟩:=⟨_,rfl⟩
 have t1:Sub T T1:=by rw[iD];exact seg.cq
 have x1:T1.h.get T.nx=some (.row (cZ vs[k]) 0 0 false 100):=by rw[iD];exact aa _ _ _
 have nT1:T1.nx=T.nx+1:=by rw[iD]
 have Bu:=iD.symm;clear iD;have Ey:Sl T1 (.slice T.nx 0 0 1 4 4 (some 1)) 4 (cZ vs[k]):=
  ⟨by simp[isSl,eV],by simp[kR,dN,x1,bB];rfl,by simp[sLen,dC],by simp[aE,nT1]⟩
 obtain⟨v',U,eU,gU,oU,nU,lU,_,bU,_⟩:=fo (cx:=C1) (S:=T1) (t:=101) (u:=101) (ts:=[]) (p:=(100,4,40)) (v:=v) (x:=.slice T.nx 0 0 1 4 4 (some 1)) jbj RT rfl (gvT.agree (fun id e=>t1.h id (by have:=gvT.1.old;omega)) t1.nx) Ey (by rw[MW];simp[fits,cY,sLen];omega);have he:(vs.take k).flatMap cZ++cZ vs[k]=(vs.take (k+1)).flatMap cZ:=by rw[zzu hk,zzy,zzm,zzq,zzg]
 rw[he]at gU;have jJ:∀(F:Fr)(D:Nat)(y:Tmp),sl F y=.agg (cZ vs[k])->aD C1 F D (.buildSlice 101 1 #[(0,.tmp y)])=some (.slice D 0 0 1 4 4 (some 1),.row (cZ vs[k]) 0 0 false 100):=fun F D y a0=>by
  have:=cg (cx:=C1) (F:=F) (t:=101) (p:=(100,4,40)) (id:=D) (n:=1) (a:=#[(0,.tmp y)]) [cZ vs[k]] jbj rfl (by simp[a0,cellsOf]) (by simp[dC]) (by decide);rw[this];simp
 have g3U:U.h.get b3=some (.row [.str name,.int .i64 op,.int .i64 0,.int .i64 0,.str [],.bool false,v] 0 0 false 103):=by
  rw[oU _ (by omega) (by omega),t1.h _ (by omega)];exact g3T
 obtain⟨V,hV⟩:∃V:AS,V=⟨U.h.set b3 (.row [.str name,.int .i64 op,.int .i64 0,.int .i64 0,.str [],.bool false,v'] 0 0 false 103),U.nx⟩:=⟨_,rfl⟩
 have bV:=hV.symm;have oV:∀id,id≠b3->V.h.get id=U.h.get id:=fun id e=>by rw[hV];exact ae _ _ e
 have vV:V.h.get b3=some (.row [.str name,.int .i64 op,.int .i64 0,.int .i64 0,.str [],.bool false,v'] 0 0 false 103):=by rw[hV];exact aa _ _ _
 have nV:V.nx=U.nx:=by rw[hV]
 clear hV;have og:∀id,id<S.nx->id≠p->id≠b3->id+1≠aE v->V.h.get id=S.h.get id:=fun id h1 h2 h3 h4=>by
  rw[oV _ h3,oU _ (by omega) h4,t1.h _ (by omega)];exact q2.h _ h1 h2
 have fin:jaQ S0 b1 b3 p B name op vs rest (k+1) V:=by
  refine⟨⟨v',vV,gU.agree (fun id e=>oV id (by omega)) (by omega),by omega⟩,(og _ (by omega) h1p jen (by omega)).trans g1,q1.agree (fun id e=>?_) (by omega),⟨fun id h1 h2=>?_,by omega⟩⟩
  .rcases e with e|e
   .rw[oV _ (by omega),oU _ (by omega) (by omega),t1.h _ (by omega)]
   .rw[oV _ (by omega),oU _ (by omega) (by omega),t1.h _ (by omega)]
  .refine (og id (by omega) (fun e=>h2 (.inl e)) (fun e=>h2 (.inr e)) (by omega)).trans (KU.h id h1 h2)
 have ZO:=(t1.h _ (by omega)).trans g3T;have k1:=aj gv.1;have k2:=aj gvT.1;simp only[cZ]at Bu jJ e1;refine cG (cK _) (cM _ rfl) jjw rfl jgB (by simp) fun F fX hs=>?_;rw[jhv]at fX;have t0:=hs 0;have t1':=hs 1;clear hs;simp only[zzd,zze,zzj]at t0 t1';simp;refine cu [.p,.r 0 2,.r 0 0,.e [],.e [],.e [],.p,.e []] (n:=9) (by kernel_rfl) (by simp[fX]) ?_;simp[t0,t1',g3,g1,aP,e1,k1,k2,g3T,ZO,jJ,Bu,eU,gU.1.np,aj gU.1,g3U,gU.1.cells,bV];exact fin
end
theorem mu{n:Int}(h1:0<=n)(h2:n<256):((uN n:Nat):Int)=n:=by
 rw[<-mw];simp only[IntKind.wrap,IntKind.bits,IntKind.signed];simp;omega
theorem zP{c:dH}(h:nG c=true):c.name.length<=16/\((c.op=1/\c.val=zeroV/\c.bA=[])\/(2<=c.op/\c.op<=8/\kF c.val=true/\c.bA=[])\/(c.op=9/\c.val=zeroV/\c.bA.length<=6/\∀v,v∈c.bA->kF v=true)):=by
 unfold nG at h;split at h
 .cases h
 .split at h
  .cases h
  .rename_i h1 h2;refine⟨by omega,?_⟩;split at h
   .rename_i h3;simp only[zzr,decide_eq_true_eq]at h;exact .inl ⟨h3,uG h.1,List.length_eq_zero_iff.1 h.2⟩
   .split at h
    .rename_i h3;simp only[zzr,decide_eq_true_eq]at h;exact .inr (.inl ⟨h3.1,by omega,h.1,List.length_eq_zero_iff.1 h.2⟩)
    .split at h
     .rename_i h3;simp only[zzr,decide_eq_true_eq]at h;exact .inr (.inl ⟨by omega,by omega,h.1,List.length_eq_zero_iff.1 h.2.2⟩)
     .split at h
      .rename_i h3;simp only[zzr,decide_eq_true_eq]at h;refine .inr (.inr ⟨h3,uG h.1,h.2.2.1,fun v hv=>?_⟩);have h3:=h.2.2.2;unfold zj at h3;have h4:(c.bA.any fun v=>!kF v)=false:=by simpa using h3
       rw[List.any_eq_false]at h4;simpa using h4 v hv
      .cases h
section
variable{S T:AS}{B:Nat}
theorem jfk(s:List Nat)(n:Int):dr C1 103 [(0,.str s),(1,.int .i64 n)]=some (.agg [.str s,.int .i64 n,.int .i64 0,.int .i64 0,.str [],.bool false,.ar]):=by kernel_rfl
theorem jhy:Tryz.f194.ntmps=23:=by kernel_rfl
theorem jan{p:Nat}{c:dH}{rest:List Nat}(h:eh S p B (gY c++rest))(hc:nG c=true)(hn:cy c)(mO:rest.length<=1000000):
  ah C1 194 [.agg [.ptr p 0 0 2]] S fun r T=>∃c',r=.agg (dj c')/\bare c'=bare c/\gq T c'/\jI S.nx c'.lW/\eh T p B rest/\de (fun id=>id=p) S T:=by
 have cQ:=h.lt;have hB:=h.le;obtain⟨jix,mR⟩:=zP hc;obtain⟨S1,bC⟩:∃S1:AS,S1=⟨S.h.set S.nx (.row [.ptr p 0 0 2] 0 0 false 230),S.nx+1⟩:=⟨_,rfl⟩
 have s1:Sub S S1:=by rw[bC];exact seg.cq
 have g1:S1.h.get S.nx=some (.row [.ptr p 0 0 2] 0 0 false 230):=by rw[bC];exact aa _ _ _
 have n1:S1.nx=S.nx+1:=by rw[bC]
 have fR:=bC.symm;clear bC;obtain⟨zc,Bn⟩:∃zc:List AV,zc=[.str [],.int .i64 0,.int .i64 0,.int .i64 0,.str [],.bool false,.ar]:=⟨_,rfl⟩
 obtain⟨S2,dD⟩:∃S2:AS,S2=⟨S1.h.set S1.nx (.row zc 0 0 false 103),S1.nx+1⟩:=⟨_,rfl⟩
 have s2:Sub S1 S2:=by rw[dD];exact seg.cq
 have r2:S2.h.get S1.nx=some (.row zc 0 0 false 103):=by rw[dD];exact aa _ _ _
 have n2:S2.nx=S1.nx+1:=by rw[dD]
 have iN:=dD.symm;clear dD;have g2:=(s2.h _ (by omega)).trans g1;have h2:=(h.sub s1).sub s2;rw[Bn]at iN;obtain⟨S3,l7⟩:∃S3:AS,S3=⟨S2.h,S2.nx+1⟩:=⟨_,rfl⟩
 have s3:Sub S2 S3:=by rw[l7];exact⟨fun _ _=>rfl,Nat.le_succ _⟩
 have n3:S3.nx=S2.nx+1:=by rw[l7]
 have nQ:=l7.symm;clear l7;have h3:=h2.sub s3;have g3:=(s3.h _ (by omega)).trans g2;have jR:1<=c.op/\c.op<=9:=by rcases mR with⟨h,_⟩|⟨h,h',_⟩|⟨h,_⟩<;>omega
 obtain⟨k,hk⟩:∃k:Nat,k=uN c.op:=⟨_,rfl⟩
 have jdX:(k:Int)=c.op:=by rw[hk];exact mu (by omega) (by omega)
 obtain⟨more,xw⟩:∃more,more=(if c.op=1 then [] else if c.op=9 then bu c.bA.length++c.bA.flatMap dS else dS c.val):=⟨_,rfl⟩
 have hcB:gY c++rest=iK c.name++(bu k++(more++rest)):=by
  unfold gY;rw[<-hk,<-xw,zzb,zzb]
 rw[hcB]at h3;have qz:more.length<=1000:=by
  rw[xw];split
  .simp
  .split
   .rename_i h9;rcases mR with⟨h,_⟩|⟨h,h',_⟩|⟨_,_,h6,hm6⟩
    .omega
    .omega
    .have vG:=dZ (f:=dS) (k:=52) (l:=c.bA) fun v hv=>kj (sc (hm6 v hv) (hn.2.1 v hv));have h7:c.bA.length*52<=6*52:=zzf _ h6;have h8:=cO c.bA.length (by omega);rw[zza];omega
   .rcases mR with⟨h,_⟩|⟨h,h',hv,_⟩|⟨h,_⟩
    .contradiction
    .have:=kj (sc hv hn.1);omega
    .contradiction
 have hnk:=cO k (by omega);obtain⟨r,T,⟨rfl,q1,q2⟩,e1⟩:=(Ma (most:=16) h3 hn.2.2 jix (by decide) (by simp only[zza];omega)).ex;have q2n:=q2.nx;have gT:=(q2.h _ (by omega) (by omega)).trans g3;obtain⟨r,T2,⟨rfl,q3,q4⟩,e2⟩:=(DU (lim:=9) q1 (by omega) (by omega) (by decide)).ex;have q4n:=q4.nx;have gT2:=(q4.h _ (by omega) (by omega)).trans gT;have rT2:=(q4.h _ (by omega) (by omega)).trans ((q2.h _ (by omega) (by omega)).trans ((s3.h _ (by omega)).trans r2));have e1:∀Q:AV->AS->Prop,ah C1 237 [.agg [.ptr p 0 0 2],.int .i64 16] S3 Q=Q (.str c.name) T:=e1;have e2:∀Q:AV->AS->Prop,ah C1 236 [.agg [.ptr p 0 0 2],.int .u64 9] T Q=Q (.int .u64 k) T2:=e2;have Rm:IntKind.i64.wrap (k:Int)=k:=IntWalk.i64_in _ (by omega);have sT:=jfk c.name k;obtain⟨b3,Xl⟩:∃b3,b3=S2.nx:=⟨_,rfl⟩
 rw[<-Xl]at nQ;obtain⟨T3,tg⟩:∃T3:AS,T3=⟨(T2.h.set b3 (.row [.str [],.int .i64 0,.int .i64 0,.int .i64 0,.str [],.bool false,.ar] 0 0 false 103)).set b3 (.row [.str c.name,.int .i64 k,.int .i64 0,.int .i64 0,.str [],.bool false,.ar] 0 0 false 103),T2.nx⟩:=⟨_,rfl⟩
 have bT3:=tg.symm;have o3:∀id,id≠b3->T3.h.get id=T2.h.get id:=fun id e=>by rw[tg];exact (ae _ _ e).trans (ae _ _ e)
 have v3:T3.h.get b3=some (.row [.str c.name,.int .i64 k,.int .i64 0,.int .i64 0,.str [],.bool false,.ar] 0 0 false 103):=by rw[tg];exact aa _ _ _
 have nT3:T3.nx=T2.nx:=by rw[tg]
 clear tg;have gT3:=(o3 _ (by omega)).trans gT2;have rT3:=(o3 _ (by omega)).trans rT2;have q5:eh T3 p B (more++rest):=q3.agree (fun id e=>o3 id (by rcases e with e|e<;>omega)) (by omega);have kT3:de (fun id=>id=p) S T3:=by
  have k0:=zW ((s1.trans s2).trans s3) (q2.trans q4);exact⟨fun id h1 h2=>(o3 id (by omega)).trans (k0.h id h1 h2),by omega⟩
 have fin:∀(U:AS)(c':dH),eh U p B rest->de (fun id=>id=p\/id=b3) T3 U->U.h.get b3=some (.row (dj c') 0 0 false 103)->gq U c'->(aE c'.lW=0\/T3.nx<aE c'.lW) ->
   U.h.get S1.nx=some (.row [.str [],.int .i64 0,.int .i64 0,.int .i64 0,.str [],.bool false,.ar] 0 0 false 103)/\∃W:AS,(⟨U.h.set S1.nx (.row (dj c') 0 0 false 103),U.nx⟩:AS)=W/\W.h.get S1.nx=some (.row (dj c') 0 0 false 103)/\gq W c'/\jI S.nx c'.lW/\eh W p B rest/\de (fun id=>id=p) S W:=fun U c' a1 a2 a3 a4 a5=>by
  have a2n:=a2.nx;have ag:∀id,id≠S1.nx->(U.h.set S1.nx (.row (dj c') 0 0 false 103)).get id=U.h.get id:=fun id cD=>ae _ _ cD;refine⟨by rw[<-Bn];exact (a2.h _ (by omega) (by omega)).trans rT3,_,rfl,aa _ _ _,⟨a4.sl.agree (fun id e=>ag id (by omega)) (zzi _),a4.le⟩,by unfold jI;omega,a1.agree (fun id e=>ag id (by rcases e with e|e<;>omega)) (zzi _),⟨fun id h1 h2=>?_,?_⟩⟩
  .exact (ag id (by omega)).trans ((a2.h id (by have:=kT3.nx;omega) (by omega)).trans (kT3.h id h1 h2))
  .have:=kT3.nx;show S.nx<=U.nx;omega
 have mk:∀(U W:AS)(c':dH),bare c'=bare c->gq W c'/\jI S.nx c'.lW/\eh W p B rest/\de (fun id=>id=p) S W->∃c'',dj c'=dj c''/\bare c''=bare c/\gq W c''/\jI S.nx c''.lW/\eh W p B rest/\de (fun id=>id=p) S W:=fun U W c' hb h=>⟨c',rfl,hb,h⟩
 have jlR:(0:Nat)<k/\k<10:=by omega
 refine aL (cK _) (cM _ rfl) jjE rfl jgJ (by simp) fun F rq t0=>?_;rw[jhy]at rq;simp[t0,fR,iN,g2];refine cu [.r 0 0,.e [],.r 1 0,.e [],.p,.p,.f,.e [6]] (n:=23) (by kernel_rfl) (by simp[rq]) ?_;simp[t0,fR,iN,g2,aP,nQ,g3,e1,gT,e2,Rm,sT,<-Xl,bT3];rcases mR with⟨c1,c2,c3⟩|⟨c1,c1',c2,c3⟩|⟨c1,c2,c6,cm⟩
 .have Xi:=eq_true (show (k:Int)=1 by omega);have UW:=eq_true (show k=1 by omega);rw[if_pos c1]at xw;rw[xw,zzt]at q5;obtain⟨rU,W,bW,gW,fW⟩:=fin T3 ⟨c.name,k,zeroV,.ar,[]⟩ q5 ⟨fun _ _ _=>rfl,zzi _⟩ v3 ⟨Sl.nil,by simp⟩ (.inl rfl);simp only[dj,zeroV]at bW gW;simp[t0,v3,Xi,UW,rU,bW,gW];exact mk T3 W ⟨c.name,k,zeroV,.ar,[]⟩ (by rw[jdX];unfold bare;rw[c2,c3]) fW
 .have Xi:=eq_false (show ¬(k:Int)=1 by omega);have UW:=eq_false (show ¬k=1 by omega);have hk9:=eq_false (show ¬(k:Int)=9 by omega);have jdY:=eq_false (show ¬k=9 by omega);rw[if_neg (by omega),if_neg (by omega)]at xw;rw[xw]at q5;obtain⟨r,U,⟨rfl,u1,u2⟩,e3⟩:=(FR q5 c2 hn.1 (by omega)).ex;have u2n:=u2.nx;have vU:=(u2.h _ (by omega) (by omega)).trans v3;obtain⟨U1,Jf⟩:∃U1:AS,U1=⟨U.h.set b3 (.row (dj ⟨c.name,k,c.val,.ar,[]⟩) 0 0 false 103),U.nx⟩:=⟨_,rfl⟩
  have oU:∀id,id≠b3->U1.h.get id=U.h.get id:=fun id e=>by rw[Jf];exact ae _ _ e
  have vU1:U1.h.get b3=some (.row (dj ⟨c.name,k,c.val,.ar,[]⟩) 0 0 false 103):=by rw[Jf];exact aa _ _ _
  have nU1:U1.nx=U.nx:=by rw[Jf]
  have bU1:=Jf.symm;clear Jf;obtain⟨rU,W,bW,gW,fW⟩:=fin U1 ⟨c.name,k,c.val,.ar,[]⟩ (u1.agree (fun id e=>oU id (by rcases e with e|e<;>omega)) (by omega)) ⟨fun id h1 h2=>(oU id (fun e=>h2 (.inr e))).trans (u2.h id h1 (fun e=>h2 (.inl e))),by omega⟩ vU1 ⟨Sl.nil,by simp⟩ (.inl rfl);simp only[dj,cZ]at bW gW bU1 vU1 e3;simp[t0,v3,Xi,UW,hk9,jdY,gT3,aP,e3,vU,bU1,vU1,rU,bW,gW];exact mk T3 W ⟨c.name,k,c.val,.ar,[]⟩ (by rw[jdX];unfold bare;rw[c3]) fW
 .have Xi:=eq_false (show ¬(k:Int)=1 by omega);have UW:=eq_false (show ¬k=1 by omega);have hk9:=eq_true (show (k:Int)=9 by omega);have jdY:=eq_true (show k=9 by omega);rw[if_neg (by omega),if_pos c1]at xw;rw[xw,zzb]at q5;have M8:=kT3.nx;obtain⟨v,U,hI,e3⟩:=(FZ (n:=c.bA.length) (most:=6) (g:=238) (caps:=[.ptr b3 0 0 7,.ptr S.nx 0 0 1]) (bs:=c.bA.flatMap dS++rest) q5 c6 (by decide) (aP _ rfl) (jaQ T3 S.nx b3 p B c.name k c.bA rest)
   (fun U h1 h2=>⟨⟨.ar,(h2.h _ (by omega) (by omega)).trans v3,Gw.nil,.inl rfl⟩,(h2.h _ (by omega) (by omega)).trans gT3,by simpa using h1,⟨fun id a b=>h2.h id a (fun e=>b (.inl e)),h2.nx⟩⟩)
   (fun j U hj hI=>jcA hI hj c6 cm hn.2.1 (by omega) (by omega) (by omega) (by omega) (by omega) (by omega) (by omega) (by omega) mO)).ex
  obtain⟨⟨w,w1,w2,w3⟩,w4,w5,w6⟩:=hI;rw[zqc]at w2;rw[zqe,zzq,zzt]at w5;obtain⟨rU,W,bW,gW,fW⟩:=fin U ⟨c.name,k,zeroV,w,c.bA⟩ w5 w6 w1 ⟨w2.1,by show c.bA.length<=_;omega⟩ w3;simp only[dj,zeroV]at bW gW;have e3:∀Q:AV->AS->Prop,ah C1 192 [.agg [.ptr p 0 0 2],.int .u64 6,.func (.func 238) [] [.ptr b3 0 0 7,.ptr S.nx 0 0 1]] T3 Q=Q v U:=e3;simp[t0,v3,Xi,UW,hk9,jdY,gT3,aP,e3,w1,rU,aj w2.1,bW,gW];exact mk T3 W ⟨c.name,k,zeroV,w,c.bA⟩ (by rw[jdX];unfold bare;rw[c2]) fW
end
open Go.Proofs.YtdknlbnljfdhgaaGreatDoor.mod (aW)
section
variable{S T:AS}{B:Nat}
structure jaR(S0:AS)(b1 b3 p B:Nat)(cs:List dH)(rest:List Nat)(k:Nat)(S:AS):Prop where
 ex:∃(v:AV)(ks:List dH),S.h.get b3=some (.row [v] 0 0 false 29)/\Gw S v 7 103 (ks.flatMap dj)/\(aE v=0\/S0.nx<aE v)/\ks.map bare=(cs.take k).map bare/\∀c,c∈ks->gq S c/\(aE c.lW=0\/(S0.nx<aE c.lW/\aE c.lW≠aE v))
 b1:S.h.get b1=some (.row [.ptr p 0 0 2] 0 0 false 230)
 rd:eh S p B ((cs.drop k).flatMap gY++rest)
 kp:de (fun id=>id=p\/id=b3) S0 S
theorem Wf{c:dH}(hc:nG c=true)(hn:cy c):(gY c).length<=400:=wS (MJ hc hn)
theorem jhz:Tryz.f193.ntmps=7:=by kernel_rfl
theorem jcN{S0:AS}{b1 b3 p k:Nat}{cs:List dH}{rest:List Nat}(h:jaR S0 b1 b3 p B cs rest k S)(hk:k<cs.length)(h6:cs.length<=6)(hm:∀v,v∈cs->nG v=true)(hn:∀v,v∈cs->cy v)
  (tP:b1<S0.nx) (Xl:b3<S0.nx) (jen:b1≠b3) (h1p:b1≠p) (h3p:b3≠p) (hB3:B≠b3+1) (hB:B<=S0.nx) (hp:p<S0.nx) (mO:rest.length<=100000) :
  ah C1 193 [.ptr b3 0 0 1,.ptr b1 0 0 1] S fun _ T=>jaR S0 b1 b3 p B cs rest (k+1) T:=by
 obtain⟨⟨v,ks,g3,gv,hvb,BQ,KY⟩,g1,hr,KU⟩:=h;have M8:=KU.nx;have u9:=zqd hk;have hd:cs.drop k=cs[k]::cs.drop (k+1):=zzw hk;have fi:eh S p B (gY cs[k]++((cs.drop (k+1)).flatMap gY++rest)):=by rw[hd,zzm,zzb]at hr;exact hr
 have vG:=dZ (f:=gY) (k:=400) (l:=cs.drop (k+1)) fun v hv=>Wf (hm v (zzn hv)) (hn v (zzn hv));have jiM:(cs.drop (k+1)).length*400<=6*400:=zzf _ (by rw[zzc];omega);obtain⟨r,T,⟨c',rfl,jiT,m9,kG,q1,q2⟩,e1⟩:=(jan fi (hm _ u9) (hn _ u9) (by rw[zza];omega)).ex;have q2n:=q2.nx;have hvo:=gv.1.old;have Hv:ks.length=k:=by have:=congrArg zqf BQ;simp at this;omega
 have g3T:=(q2.h _ (by omega) h3p).trans g3;have gvT:Gw T v 7 103 (ks.flatMap dj):=gv.agree (fun id e=>q2.h id (by omega) (by omega)) q2n;have MW:sLen v=k:=by
  have:=gv.1.aO c8 (by omega);rw[this,Hv]
 obtain⟨T1,iD⟩:∃T1:AS,T1=⟨T.h.set T.nx (.row (dj c') 0 0 false 103),T.nx+1⟩:=⟨_,rfl⟩
 have t1:Sub T T1:=by rw[iD];exact seg.cq
 have x1:T1.h.get T.nx=some (.row (dj c') 0 0 false 103):=by rw[iD];exact aa _ _ _
 have nT1:T1.nx=T.nx+1:=by rw[iD]
 have Bu:=iD.symm;clear iD;have Ey:Sl T1 (.slice T.nx 0 0 1 7 7 (some 1)) 7 (dj c'):=
  ⟨by simp[isSl,eV],by simp[kR,dN,x1,bB];rfl,by simp[sLen,c8],by simp[aE,nT1]⟩
 obtain⟨v',U,eU,gU,oU,nU,lU,_,bU,_⟩:=fo (cx:=C1) (S:=T1) (t:=29) (u:=29) (ts:=[]) (p:=(103,7,88)) (v:=v) (x:=.slice T.nx 0 0 1 7 7 (some 1)) jfT jcl rfl (gvT.agree (fun id e=>t1.h id (by have:=gvT.1.old;omega)) t1.nx) Ey (by rw[MW];simp[fits,cY,sLen];omega);have he:ks.flatMap dj++dj c'=(ks++[c']).flatMap dj:=by rw[zzy,zzm,zzq,zzg]
 rw[he]at gU;have jJ:∀(F:Fr)(D:Nat)(y:Tmp),sl F y=.agg (dj c')->aD C1 F D (.buildSlice 29 1 #[(0,.tmp y)])=some (.slice D 0 0 1 7 7 (some 1),.row (dj c') 0 0 false 103):=fun F D y a0=>by
  have:=cg (cx:=C1) (F:=F) (t:=29) (p:=(103,7,88)) (id:=D) (n:=1) (a:=#[(0,.tmp y)]) [dj c'] jfT rfl (by simp[a0,cellsOf]) (by simp[c8]) (by decide);rw[this];simp
 have ZO:=(t1.h _ (by omega)).trans g3T;have g3U:U.h.get b3=some (.row [v] 0 0 false 29):=by
  rw[oU _ (by omega) (by omega)];exact ZO
 obtain⟨V,hV⟩:∃V:AS,V=⟨U.h.set b3 (.row [v'] 0 0 false 29),U.nx⟩:=⟨_,rfl⟩
 have bV:=hV.symm;have oV:∀id,id≠b3->V.h.get id=U.h.get id:=fun id e=>by rw[hV];exact ae _ _ e
 have vV:V.h.get b3=some (.row [v'] 0 0 false 29):=by rw[hV];exact aa _ _ _
 have nV:V.nx=U.nx:=by rw[hV]
 clear hV;have ogT:∀id,id<T.nx->id≠b3->id+1≠aE v->V.h.get id=T.h.get id:=fun id h1 h3 h4=>by
  rw[oV _ h3,oU _ (by omega) h4,t1.h _ h1]
 have og:∀id,id<S.nx->id≠p->id≠b3->id+1≠aE v->V.h.get id=S.h.get id:=fun id h1 h2 h3 h4=>by
  rw[ogT _ (by omega) h3 h4];exact q2.h _ h1 h2
 have fin:jaR S0 b1 b3 p B cs rest (k+1) V:=by
  refine⟨⟨v',ks++[c'],vV,gU.agree (fun id e=>oV id (by omega)) (by omega),by omega,?_,fun c hc=>?_⟩,(og _ (by omega) h1p jen (by omega)).trans g1,q1.agree (fun id e=>?_) (by omega),⟨fun id h1 h2=>?_,by omega⟩⟩
  .rw[zzv,BQ,zzu hk,zzv];show _++[bare c']=_++[bare cs[k]];rw[jiT]
  .rcases List.mem_append.1 hc with hc|hc
   .obtain⟨a1,a2⟩:=KY c hc;have a3:=a1.sl.old;exact⟨⟨a1.sl.agree (fun id e=>og id (by omega) (by omega) (by omega) (by omega)) (by omega),a1.le⟩,by omega⟩
   .rw[zqa]at hc;subst hc;have a3:=m9.sl.old;unfold jI at kG;exact⟨⟨m9.sl.agree (fun id e=>ogT id (by omega) (by omega) (by omega)) (by omega),m9.le⟩,by omega⟩
  .rcases e with e|e
   .rw[ogT _ (by omega) (by omega) (by omega)]
   .rw[ogT _ (by omega) (by omega) (by omega)]
  .refine (og id (by omega) (fun e=>h2 (.inl e)) (fun e=>h2 (.inr e)) (by omega)).trans (KU.h id h1 h2)
 have k1:=aj gv.1;have k2:=aj gvT.1;have k3:=m9.sl.cells;have k4:=aj m9.sl;simp only[dj]at Bu jJ e1;refine cG (cK _) (cM _ rfl) jjF rfl jgK (by simp) fun F fX hs=>?_;rw[jhz]at fX;have t0:=hs 0;have t1':=hs 1;clear hs;simp only[zzd,zze,zzj]at t0 t1';simp;refine cu [.r 0 2,.r 0 0,.e [],.e [],.e [],.e []] (n:=7) (by kernel_rfl) (by simp[fX]) ?_;simp[t0,t1',g3,g1,aP,e1,k1,k2,k3,k4,g3T,ZO,jJ,Bu,eU,gU.1.np,aj gU.1,g3U,gU.1.cells,bV];exact fin
theorem Yk{p:Nat}{cs:List dH}{rest:List Nat}(h:eh S p B (fa cs++rest))(hc:dE cs=true)(hn:∀c,c∈cs->cy c)(mO:rest.length<=100000):
  ah C1 155 [.agg [.ptr p 0 0 2]] S fun r T=>∃ks,aB T r ks/\ks.map bare=cs.map bare/\(∀id,aW r ks id->S.nx<=id)/\eh T p B rest/\de (fun id=>id=p) S T:=by
 have h6:=rh hc;have hm:=zO hc;have cQ:=h.lt;have hB:=h.le;obtain⟨S1,bC⟩:∃S1:AS,S1=⟨S.h.set S.nx (.row [.ptr p 0 0 2] 0 0 false 230),S.nx+1⟩:=⟨_,rfl⟩
 have s1:Sub S S1:=by rw[bC];exact seg.cq
 have g1:S1.h.get S.nx=some (.row [.ptr p 0 0 2] 0 0 false 230):=by rw[bC];exact aa _ _ _
 have n1:S1.nx=S.nx+1:=by rw[bC]
 have fR:=bC.symm;clear bC;obtain⟨S2,dD⟩:∃S2:AS,S2=⟨S1.h.set S1.nx (.row [.ar] 0 0 false 29),S1.nx+1⟩:=⟨_,rfl⟩
 have s2:Sub S1 S2:=by rw[dD];exact seg.cq
 have r2:S2.h.get S1.nx=some (.row [.ar] 0 0 false 29):=by rw[dD];exact aa _ _ _
 have n2:S2.nx=S1.nx+1:=by rw[dD]
 have iN := dD.symm;clear dD;have g2 := (s2.h _ (by omega)).trans g1;have h2 := (h.sub s1).sub s2;unfold fa at h2;rw [zzb] at h2;obtain ⟨u, U, hI, e3⟩ := (FZ (n := cs.length) (most := 6) (g := 193) (caps := [.ptr S1.nx 0 0 1, .ptr S.nx 0 0 1]) (bs := cs.flatMap gY ++ rest) h2 h6 (by decide) (aP _ rfl) (jaR S2 S.nx S1.nx p B cs rest)
   (fun U h1 h2=>⟨⟨.ar,[],(h2.h _ (by omega) (by omega)).trans r2,Gw.nil,.inl rfl,rfl,fun c hc=>by cases hc⟩,(h2.h _ (by omega) (by omega)).trans g2,by simpa using h1,⟨fun id a b=>h2.h id a (fun e=>b (.inl e)),h2.nx⟩⟩)
   (fun j U hj hI=>jcN hI hj h6 hm hn (by omega) (by omega) (by omega) (by omega) (by omega) (by omega) (by omega) (by omega) mO)).ex
 obtain⟨⟨v,ks,g3,gv,hvb,BQ,KY⟩,_,hr,KU⟩:=hI;rw[zqc]at BQ;rw[zqe,zzq,zzt]at hr;have e3:∀Q:AV->AS->Prop,ah C1 192 [.agg [.ptr p 0 0 2],.int .u64 6,.func (.func 193) [] [.ptr S1.nx 0 0 1,.ptr S.nx 0 0 1]] S2 Q=Q u U:=e3;have M8:=KU.nx;refine aL (cK _) (cM _ rfl) jjN rfl jgS (by simp) fun F rq t0=>?_;simp[t0,fR,iN,g2,aP,e3,g3,aj gv.1,gv.1.np];have Hv:ks.length=cs.length:=by have:=congrArg zqf BQ;simpa using this
 refine⟨ks,⟨gv.1,fun c hc=>(KY c hc).1,by omega⟩,BQ,fun id e=>?_,hr,⟨fun id h1 h2=>?_,by omega⟩⟩
 .rcases e with e|⟨c,hc,e⟩
  .omega
  .have:=(KY c hc).2;omega
 .rw[KU.h id (by omega) (by omega),s2.h _ (by omega),s1.h _ h1]
end
theorem zA(cs:List dH):fa (cs.map bare)=fa cs:=by
 unfold fa;rw[zzx,List.flatMap_map];rfl
theorem GS{ks cs:List dH}(h:ks.map bare=cs.map bare):fa ks=fa cs:=by rw[<-zA ks,h,zA]
theorem Iv{cs:List dH}(h:∀c,c∈cs->cy c):mZ (fa cs):=(dG _).app (rE fun c hc=>Ix (h c hc))
section
variable{S T:AS}{B:Nat}
theorem jeM:aZ C1 .eql 20 true .bR .bR=some (.bool true):=by kernel_rfl
theorem jaG{fn:Func}{F:Fr}{Q:AV->AS->Prop}{x e:AV}(h:lG C1 fn F Q [] S):lG C1 fn F Q [.call 190 [] [x,e]] S:=by
 refine⟨Tryz.f190,_,VF,rfl,Ty,by simp[bJ],fun F2 hn2 m7=>?_⟩;clear m7;simp;rw[Cz rfl rfl];simp[jeM];exact⟨⟨.tuple [],by kernel_rfl⟩,h⟩
theorem jfg(p:Nat):dr C1 230 [(0,.ptr p 0 0 2)]=some (.agg [.ptr p 0 0 2]):=by kernel_rfl
theorem jcD{F:Fr}{a b:Nat}{x:AV}{e:Int}(h6:sl F 6=.ptr a 0 0 1)(h7:sl F 7=.ptr b 0 0 1)(ha:S.h.get a=some (.row [x] 0 0 false 29))(hb:S.h.get b=some (.row [.int .i64 e] 0 0 false 42))(hx:okW x=true):lD C1 F S Tryz.f154.results.toList=some [x,.int .i64 e]:=by
 have e:Tryz.f154.results.toList=[.cell 6 29,.cell 7 42]:=by kernel_rfl
 rw[e];simp[h6,h7,ha,hb,hx]
theorem jhC:Tryz.f154.ntmps=33:=by kernel_rfl
theorem RY{b:AV}{cs:List dH}(hb:Sl S b 1 (aq (fa cs)))(hc:dE cs=true)(hn:∀c,c∈cs->cy c):
  ah C1 154 [b,.func (.func 155) [] [],.func (.func 156) [] []] S fun r T=>∃v ks,r=.tuple [v,.int .i64 0]/\aB T v ks/\ks.map bare=cs.map bare/\(∀id,aW v ks id->S.nx<=id)/\Sub S T:=by
 have kS:(fa cs).length<=2410:=by
  obtain⟨h1,h2⟩:=mK hc hn;exact Cv h1 h2
 obtain⟨S1,bC⟩:∃S1:AS,S1=⟨S.h.set S.nx (.row [.ar] 0 0 false 29),S.nx+1⟩:=⟨_,rfl⟩
 have s1:Sub S S1:=by rw[bC];exact seg.cq
 have g1:S1.h.get S.nx=some (.row [.ar] 0 0 false 29):=by rw[bC];exact aa _ _ _
 have n1:S1.nx=S.nx+1:=by rw[bC]
 have fR:=bC.symm;clear bC;obtain⟨S2,dD⟩:∃S2:AS,S2=⟨S1.h.set S1.nx (.row [.int .i64 0] 0 0 false 42),S1.nx+1⟩:=⟨_,rfl⟩
 have s2:Sub S1 S2:=by rw[dD];exact seg.cq
 have r2:S2.h.get S1.nx=some (.row [.int .i64 0] 0 0 false 42):=by rw[dD];exact aa _ _ _
 have n2:S2.nx=S1.nx+1:=by rw[dD]
 have iN:=dD.symm;clear dD;have g2:=(s2.h _ (by omega)).trans g1;obtain⟨r,T,⟨hT,p,B,rfl,q1,q2,q3⟩,e97⟩:=(jbx ((hb.toSub s1).toSub s2) (by omega)).ex;have HB:=hT.nx;obtain⟨v,T2,⟨ks,hv,BQ,gN,_,xZ⟩,e155⟩:=(Yk (rest:=[]) (by rw[zzg];exact q1) hc hn (by simp)).ex;have hk2n:=xZ.nx;have hvo:=hv.sl.old;have gT:=(hT.h _ (by omega)).trans g2;have rT:=(hT.h _ (by omega)).trans r2;have gT2:=(xZ.h _ (by omega) (by omega)).trans gT;have rT2:=(xZ.h _ (by omega) (by omega)).trans rT;obtain⟨T3,tg⟩:∃T3:AS,T3=⟨T2.h.set S.nx (.row [v] 0 0 false 29),T2.nx⟩:=⟨_,rfl⟩
 have o3:∀id,id≠S.nx->T3.h.get id=T2.h.get id:=fun id e=>by rw[tg];exact ae _ _ e
 have v3:T3.h.get S.nx=some (.row [v] 0 0 false 29):=by rw[tg];exact aa _ _ _
 have n3:T3.nx=T2.nx:=by rw[tg]
 have bT3:=tg.symm;clear tg;have r3:=(o3 _ (by omega)).trans rT2;have hv3:aB T3 v ks:=aB.agree hv (fun id e=>o3 id (by have:=gN id e;omega)) (by omega);have M8:∀c,c∈ks->cy c:=mG BQ hn;have hkm:dE ks=true:=by rw[mJ BQ];exact hc
 obtain⟨r,T4,⟨w,rfl,w1,w2,w3⟩,jkz⟩:=(zx hv3 M8).ex;have hfp:iX ks=fa cs:=by unfold iX;rw[if_pos hkm,GS BQ]
 rw[hkm,if_pos rfl]at jkz;rw[hfp]at w1;have hbo:=hb.old;have sK:de (fun id=>id=p) S T2:=zW ((s1.trans s2).trans hT) xZ;have hbT:∀id,id<S.nx->T3.h.get id=S.h.get id:=fun id hi=>(o3 id (by omega)).trans (sK.h id hi (by omega));have hb4:Sl T4 b 1 (aq (fa cs)):=(hb.agree (T:=T3) (fun id e=>hbT id (by omega)) (by omega)).toSub w3;have jkt:=VZ (S:=T4) w1.1 hb4 (Iv hn) (Iv hn);rw[decide_eq_true rfl]at jkt;have v4:=(w3.h _ (by omega)).trans v3;have r4:=(w3.h _ (by omega)).trans r3;have w3n:=w3.nx;obtain⟨T5,hT5⟩:∃T5:AS,T5=⟨T4.h.set S.nx (.row [v] 0 0 false 29),T4.nx⟩:=⟨_,rfl⟩
 have bT5:=hT5.symm;have o5:∀id,T5.h.get id=T4.h.get id:=fun id=>by
  rw[hT5];by_cases hi:id=S.nx
  .rw[hi];exact (aa _ _ _).trans v4.symm
  .exact ae _ _ hi
 have n5:T5.nx=T4.nx:=by rw[hT5]
 clear hT5;have v5:=(o5 S.nx).trans v4;have r5:=(o5 S1.nx).trans r4;obtain⟨T6,ZG⟩:∃T6:AS,T6=⟨T5.h.set S1.nx (.row [.int .i64 0] 0 0 false 42),T5.nx⟩:=⟨_,rfl⟩
 have bT6:=ZG.symm;have o6:∀id,T6.h.get id=T5.h.get id:=fun id=>by
  rw[ZG];by_cases hi:id=S1.nx
  .rw[hi];exact (aa _ _ _).trans r5.symm
  .exact ae _ _ hi
 have n6:T6.nx=T5.nx:=by rw[ZG]
 clear ZG;have v6:=(o6 S.nx).trans v5;have r6:=(o6 S1.nx).trans r5;have fin:aB T6 v ks/\Sub S T6:=by
  refine⟨aB.agree hv3 (fun id e=>?_) (by omega),⟨fun id hi=>?_,by omega⟩⟩
  .rw[o6,o5];exact w3.h id (by have:=aB.aU hv3 e;omega)
  .rw[o6,o5,w3.h id (by omega)];exact hbT id hi
 have k1:=aj hb;have k2:=aj hv.sl;have k3:=hv.sl.cells;have k4:=aj w1.1;refine Az (cK _) (cM _ rfl) jjO rfl jgT (by simp) fun F rq sq hs=>?_;rw[jhC]at rq;have t0:=hs 0;have t1:=hs 1;have t2:=hs 2;clear hs;simp only[zzd,zze,zzj]at t0 t1 t2;simp[t0,t1,t2,fR,iN];refine⟨.call 190 [] [.ptr S.nx 0 0 1,.ptr S1.nx 0 0 1],by simp[iM,yJ,bJ],?_⟩;simp[t0,t1,t2,aP,e97,jfg,e155,gT2,bT3,k1,k2,k3,k4,v3,jkz,jkt,v4,bT5,r5,bT6];simp only[nu,sq];refine jaG ?_;rw[jk,jcD (by simp) (by simp) v6 r6 k2];simp;exact⟨ks,fin.1,BQ,fun id e=>by have:=gN id e;omega,fin.2⟩
theorem XK{b:AV}{cs:List dH}(hb:Sl S b 1 (aq (fa cs)))(hc:dE cs=true)(hn:∀c,c∈cs->cy c):
  ah C1 102 [b] S fun r T=>∃v ks,r=.tuple [v,.int .i64 0]/\aB T v ks/\ks.map bare=cs.map bare/\(∀id,aW v ks id->S.nx<=id)/\Sub S T:=by
 obtain⟨r,T,⟨v,ks,rfl,h1,h2,h3,h4⟩,e⟩:=(RY hb hc hn).ex;have k1:=aj h1.sl;refine aL (cK _) (cM _ rfl) jkk rfl jhp (by simp) fun F rq t0=>?_;simp[t0,aP,e,k1];exact⟨ks,h1,h2,h3,h4⟩
structure ui(S0:AS)(bp bo bx p B:Nat)(c:List AV)(bs:List Nat)(S:AS):Prop where
 gp:S.h.get bp=some (.row [.ptr p 0 0 2] 0 0 false 180)
 go:S.h.get bo=some (.row [.bool true] 0 0 false 4)
 gx:S.h.get bx=some (.row c 0 0 false 115)
 rd:eh S p B bs
 kp:de (fun id=>id=p\/id=bx) S0 S
 lp:bp<S0.nx
 lo:bo<S0.nx
 lx:bx<S0.nx
 pp:bp≠p
 op:bo≠p
 xp:bx≠p
 po:bp≠bo
 px:bp≠bx
 ox:bo≠bx
 Bp:B≠bp+1
 Bo:B≠bo+1
 Bx:B≠bx+1
 pl:p<S0.nx
 Bl:B<=S0.nx
section
variable{S0:AS}{bp bo bx p:Nat}{c c':List AV}{bs Jj:List Nat}
theorem ui.jbM(h:ui S0 bp bo bx p B c bs S)(hk:de (fun id=>id=p) S T)(hr:eh T p B Jj):ui S0 bp bo bx p B c Jj T:=by
 have hn:=h.kp.nx;exact⟨(hk.h _ (by have:=h.lp;omega) h.pp).trans h.gp,(hk.h _ (by have:=h.lo;omega) h.op).trans h.go,(hk.h _ (by have:=h.lx;omega) h.xp).trans h.gx,hr,h.kp.trans ⟨fun id a b=>hk.h id a (fun e=>b (.inl e)),hk.nx⟩,
  h.lp,h.lo,h.lx,h.pp,h.op,h.xp,h.po,h.px,h.ox,h.Bp,h.Bo,h.Bx,h.pl,h.Bl⟩
theorem ui.put(h:ui S0 bp bo bx p B c bs S):ui S0 bp bo bx p B c' bs ⟨S.h.set bx (.row c' 0 0 false 115),S.nx⟩:=by
 have ag:∀id,id≠bx->(S.h.set bx (.row c' 0 0 false 115)).get id=S.h.get id:=fun id e=>ae _ _ e;exact⟨(ag _ h.px).trans h.gp,(ag _ h.ox).trans h.go,aa _ _ _,h.rd.agree (fun id e=>ag id (by have:=h.xp;have:=h.Bx;rcases e with e|e<;>omega)) (zzi _),⟨fun id a b=>(ag id (fun e=>b (.inr e))).trans (h.kp.h id a b),h.kp.nx⟩,
  h.lp,h.lo,h.lx,h.pp,h.op,h.xp,h.po,h.px,h.ox,h.Bp,h.Bo,h.Bx,h.pl,h.Bl⟩
theorem jbw{n:Nat}{rest:List Nat}(hp:S.h.get bp=some (.row [.ptr p 0 0 2] 0 0 false 180))(ho:S.h.get bo=some (.row [.bool true] 0 0 false 4))(h:eh S p B (bu n++rest))(PZ:bo<S.nx)(jR:bo≠p)(hB:B≠bo+1)(hl:n<=1099511627777):
  ah C1 98 [.ptr bp 0 0 1,.ptr bo 0 0 1] S fun r T=>r=.int .u64 n/\eh T p B rest/\de (fun id=>id=p) S T:=by
 obtain⟨r,T,⟨rfl,q1,q2⟩,e⟩:=(MC (lim:=1099511627777) h (by omega) hl (by decide)).ex;have e:∀Q:AV->AS->Prop,ah C1 99 [.ptr p 0 0 2,.int .u64 1099511627777] S Q=Q (.tuple [.int .u64 n,.int .i64 0]) T:=e;have hoT:=(q2.h _ PZ jR).trans ho;obtain⟨U,hU⟩:∃U:AS,U=⟨T.h.set bo (.row [.bool true] 0 0 false 4),T.nx⟩:=⟨_,rfl⟩
 have bU:=hU.symm;have oU:∀id,U.h.get id=T.h.get id:=fun id=>by
  rw[hU];by_cases hi:id=bo
  .rw[hi];exact (aa _ _ _).trans hoT.symm
  .exact ae _ _ hi
 have nU:U.nx=T.nx:=by rw[hU]
 clear hU;have fin:eh U p B rest/\de (fun id=>id=p) S U:=⟨q1.agree (fun id _=>oU id) (by omega),⟨fun id a b=>(oU id).trans (q2.h id a b),by have:=q2.nx;omega⟩⟩
 refine bt (cK _) (cM _ rfl) jjk rfl jgp (by simp) fun F rq t0 t1=>?_;simp[t0,t1,hp,aP,e,hoT,bU];exact fin
theorem ZW{cs:List dH}{rest:List Nat}(hp:S.h.get bp=some (.row [.ptr p 0 0 2] 0 0 false 180))(ho:S.h.get bo=some (.row [.bool true] 0 0 false 4))(h:eh S p B (iK (fa cs)++rest))(PZ:bo<S.nx)(jR:bo≠p)(hB:B≠bo+1)
  (hc:dE cs=true) (hn:∀c,c∈cs->cy c) (h48:(fa cs).length<=2048) (mO:rest.length<=1000000) :
  ah C1 100 [.ptr bp 0 0 1,.ptr bo 0 0 1] S fun v T=>∃ks,aB T v ks/\ks.map bare=cs.map bare/\(∀id,aW v ks id->S.nx<=id)/\eh T p B rest/\de (fun id=>id=p) S T:=by
 obtain⟨r,T,⟨w,rfl,w1,q1,q2⟩,e⟩:=(It (most:=2048) h h48 (by decide) (by omega)).ex;have e:∀Q:AV->AS->Prop,ah C1 101 [.ptr p 0 0 2,.int .i64 2048] S Q=Q (.tuple [w,.int .i64 0]) T:=e;have hoT:=(q2.h _ PZ jR).trans ho;have q2n:=q2.nx;obtain⟨r,T2,⟨v,ks,rfl,v1,v2,v3,v4⟩,e2⟩:=(XK w1 hc hn).ex;have v4n:=v4.nx;have jiv:=(v4.h _ (by omega)).trans hoT;obtain⟨U,hU⟩:∃U:AS,U=⟨T2.h.set bo (.row [.bool true] 0 0 false 4),T2.nx⟩:=⟨_,rfl⟩
 have bU:=hU.symm;have oU:∀id,U.h.get id=T2.h.get id:=fun id=>by
  rw[hU];by_cases hi:id=bo
  .rw[hi];exact (aa _ _ _).trans jiv.symm
  .exact ae _ _ hi
 have nU:U.nx=T2.nx:=by rw[hU]
 clear hU;have fin:aB U v ks/\ks.map bare=cs.map bare/\(∀id,aW v ks id->S.nx<=id)/\eh U p B rest/\de (fun id=>id=p) S U:=
  ⟨aB.agree v1 (fun id _=>oU id) (by omega),v2,fun id e=>by have:=v3 id e;omega,(q1.sub v4).agree (fun id _=>oU id) (by omega),⟨fun id a b=>(oU id).trans ((q2.trans v4.ca).h id a b),by omega⟩⟩
 have k1:=aj w1;have k2:=aj v1.sl;refine bt (cK _) (cM _ rfl) VO rfl TH (by simp) fun F rq t0 t1=>?_;simp[t0,t1,hp,aP,e,e2,k1,k2,jiv,bU,v1.sl.np];exact⟨ks,fin⟩
theorem ui.num{n:Nat}(h:ui S0 bp bo bx p B c (bu n++bs) S)(hl:n<=1099511627777):∃U,(∀Q:AV->AS->Prop,ah C1 98 [.ptr bp 0 0 1,.ptr bo 0 0 1] S Q=Q (.int .u64 n) U)/\ui S0 bp bo bx p B c bs U/\de (fun id=>id=p) S U:=by
 obtain⟨r,U,⟨rfl,h1,h2⟩,e⟩:=(jbw h.gp h.go h.rd (by have:=h.lo;have:=h.kp.nx;omega) h.op h.Bo hl).ex;exact⟨U,e,h.jbM h2 h1,h2⟩
theorem ui.form{cs:List dH}(h:ui S0 bp bo bx p B c (iK (fa cs)++bs) S)(hc:dE cs=true)(hn:∀c,c∈cs->cy c)(h48:(fa cs).length<=2048)(mO:bs.length<=1000000):
  ∃v ks U,(∀Q:AV->AS->Prop,ah C1 100 [.ptr bp 0 0 1,.ptr bo 0 0 1] S Q=Q v U)/\aB U v ks/\ks.map bare=cs.map bare/\(∀id,aW v ks id->S.nx<=id)/\ui S0 bp bo bx p B c bs U/\de (fun id=>id=p) S U:=by
 obtain⟨v,U,⟨ks,h1,h2,h3,h4,h5⟩,e⟩:=(ZW h.gp h.go h.rd (by have:=h.lo;have:=h.kp.nx;omega) h.op h.Bo hc hn h48 mO).ex;exact⟨v,ks,U,e,h1,h2,h3,h.jbM h5 h4,h5⟩
end
end
theorem oz{n:Nat}(h:n<128):(bu n).length=1:=by rw[mH h];rfl
theorem Ch{v:qe}(hv:kF v=true)(hn:tq v):(dS v).length<=34:=by
 have hz:=cO _ (nR v.num).1;rcases wh hv with⟨n,rfl⟩|⟨s,rfl,hs⟩|⟨b,rfl⟩
 .show (bu (uN ((1:Nat):Int))++bu (qt n)).length<=34;rw[pj (by omega),zza,oz (by omega)];simp only at hz;omega
 .show (bu (uN ((2:Nat):Int))++iK s).length<=34;unfold iK;rw[pj (by omega),zza,zza,oz (by omega),oz (by omega)];omega
 .show (bu (uN ((3:Nat):Int))++CZ b).length<=34;unfold CZ;rw[pj (by omega),zza,oz (by omega),oz (by cases b<;>decide)];omega
theorem QA{c:dH}(hc:nG c=true)(hn:cy c):(gY c).length<=223:=by
 obtain⟨h1,mR⟩:=zP hc;have jR:1<=c.op/\c.op<=9:=by rcases mR with⟨h,_⟩|⟨h,h',_⟩|⟨h,_⟩<;>omega
 have hk:=mu (n:=c.op) (by omega) (by omega);have k1:=oz (n:=uN c.op) (by omega);have k2:(iK c.name).length<=17:=by
  unfold iK;rw[zza,oz (by omega)];omega
 unfold gY;rw[zza,zza,k1];rcases mR with⟨h,_⟩|⟨h,h',hv,_⟩|⟨h,_,h6,hm⟩
 .rw[if_pos h];simp;omega
 .rw[if_neg (by omega),if_neg (by omega)];have:=Ch hv hn.1;omega
 .rw[if_neg (by omega),if_pos h];have vG:=dZ (f:=dS) (k:=34) (l:=c.bA) fun v hv=>Ch (hm v hv) (hn.2.1 v hv);have h7:c.bA.length*34<=6*34:=zzf _ h6;rw[zza,oz (by omega)];omega
theorem tH{cs:List dH}(hc:dE cs=true)(hn:∀c,c∈cs->cy c):(fa cs).length<=1339:=by
 have h6:=rh hc;have vG:=dZ (f:=gY) (k:=223) (l:=cs) fun c hv=>QA (zO hc c hv) (hn c hv);have h7:cs.length*223<=6*223:=zzf _ h6;unfold fa;rw[zza,oz (by omega)];omega
structure Eqv(r r':Rec):Prop where
 sort:r'.sort=r.sort
 id:r'.id=r.id
 pub:r'.pub=r.pub
 n:r'.n=r.n
 there:r'.there=r.there
 cs:r'.cs.map bare=r.cs.map bare
 st:r'.st=r.st
theorem Vz{ks cs:List dH}(h:ks.map bare=cs.map bare):iX ks=iX cs:=by
 unfold iX;rw[mJ h,GS h]
theorem Mn{r r':Rec}(h:Eqv r r'):cX r'=cX r:=by
 unfold cX xr;rw[h.sort,h.id,h.pub,h.n,h.there,h.st,Vz h.cs]
structure fQ(r:Rec):Prop where
 n:r.n<=1099511627777
 may:dE r.cs=true
 num:∀c,c∈r.cs->cy c
 st8:r.st.length<=8
 Fu:∀t,t∈r.st->0<=t.1/\t.1<256/\t.2<=1099511627777
 id:0<=r.id/\r.id<256
 pub:0<=r.pub/\r.pub<256
 case:(r.sort=1/\r.id=0/\r.pub=0/\r.there=false/\r.cs=[]/\r.st=[])\/(r.sort=2/\r.pub=0/\r.n=0/\r.there=false)\/(r.sort=3/\r.pub=0/\r.n=0/\r.there=false/\r.cs=[]/\r.st=[]) \/
  (r.sort=4/\r.pub=0/\r.st=[]/\(r.there=false->r.cs=[]))\/(r.sort=5/\r.there=false/\r.cs=[]/\r.st=[])
theorem wJ{cs:List dH}(h:dE cs=true):iX cs=fa cs:=by unfold iX;rw[if_pos h]
theorem jbv{n:Nat}(h:n<=1099511627777):(bu n).length<=6:=lf 5 _ (by omega)
theorem PM{cs:List dH}(hc:dE cs=true)(hn:∀c,c∈cs->cy c):(iK (fa cs)).length<=1341:=by
 have h1:=tH hc hn;have h2:(bu (fa cs).length).length<=2:=lf 1 _ (by omega);unfold iK;rw[zza];omega
theorem oq{r:Rec}(h:fQ r):(cX r).length<=1500:=by
 have a1:(bu (uN r.sort)).length<=10:=cO _ (fS _);have a2:(bu (uN r.id)).length<=10:=cO _ (fS _);have a3:(bu (uN r.pub)).length<=10:=cO _ (fS _);have a4:=jbv h.n;have a5:=PM h.may h.num;have a6:=oz (n:=r.st.length) (by have:=h.st8;omega);have a7:=dZ (f:=fB) (k:=8) (l:=r.st) fun t ht=>by
  obtain⟨h1,h2,h3⟩:=h.Fu t ht;have e1:=mu (n:=t.1) h1 h2;have e2:(bu (uN t.1)).length<=2:=lf 1 _ (by omega);have e3:=jbv h3;unfold fB;rw[zza];omega
 have a8:r.st.length*8<=8*8:=zzf _ h.st8;have b1:=oz (n:=1) (by decide);have b0:=oz (n:=0) (by decide);unfold cX xr;rw[wJ h.may,zza];split
 .omega
 .split
  .simp only[zza];omega
  .split
   .omega
   .split
    .split<;>simp only[zza]<;>omega
    .split
     .simp only[zza];omega
     .simp;omega
def Ec:List Nat->Nat
 |a::b::c::d::_=>KH a b c d
 |_=>0
def eB(bs:List Nat):Option (List Nat):=
 if bs.length<4 then none
 else if Ec bs<1\/2048<Ec bs\/bs.length<4+Ec bs+4 then none
 else if Ec ((bs.drop (4+Ec bs)).take 4)=jY (bs.take (4+Ec bs)) then some ((bs.take (4+Ec bs)).drop 4) else none
theorem rZ{bs r:List Nat}(h:eB bs=some r):1<=r.length/\r.length<=2048/\r.length+8<=bs.length/\r=(bs.take (4+r.length)).drop 4:=by
 unfold eB at h;split at h
 .cases h
 .split at h
  .cases h
  .split at h
   .rename_i h1 h2 h3;cases h;have e:((bs.take (4+Ec bs)).drop 4).length=Ec bs:=by
     rw[zzc,zzp];omega
    rw[e];exact⟨by omega,by omega,by omega,rfl⟩
   .cases h
def pw:Nat->List Nat->List (List Nat)
 |0,_=>[]
 |k+1,bs=>match eB bs with
  |some r=>r::pw k (bs.drop (r.length+8))
  |none=>[]
theorem Gq{k m:Nat}{bs:List Nat}(h:bs.length<k)(h':bs.length<m):pw k bs=pw m bs:=by
 induction k generalizing m bs with
 |zero=>omega
 |succ k ih=>
  cases m with
  |zero=>omega
  |succ m=>
   unfold pw;cases hn:eB bs with
   |none=>rfl
   |some r=>
    have:=rZ hn;simp only[];rw[ih (bs:=bs.drop (r.length+8)) (m:=m) (by rw[zzc];omega) (by rw[zzc];omega)]
def iI(bs:List Nat):List (List Nat):=pw (bs.length+1) bs
theorem qH{bs r:List Nat}(h:eB bs=some r):iI bs=r::iI (bs.drop (r.length+8)):=by
 have h1:=rZ h;unfold iI;rw[pw,h];simp only[];rw[Gq (m:=(bs.drop (r.length+8)).length+1) (by rw[zzc];omega) (by omega)]
theorem qI{bs:List Nat}(h:eB bs=none):iI bs=[]:=by
 unfold iI;rw[pw,h]
section
variable{S T:AS}
theorem Np{bs:List Nat}(h:4<=bs.length):∃a b c d l,bs=a::b::c::d::l:=by
 match bs,h with
 |a::b::c::d::l,_=>exact⟨a,b,c,d,l,rfl⟩
theorem YL{v:AV}{bs:List Nat}(h:Sl S v 1 (aq bs))(hb:mZ bs)(h4:4<=bs.length):∀Q:AV->AS->Prop,ah C1 149 [v] S Q=Q (.int .u32 (Ec bs:Nat)) S:=by
 obtain⟨a,b,c,d,l,rfl⟩:=Np h4;exact jdj h (hb _ (by simp)) (hb _ (by simp)) (hb _ (by simp)) (hb _ (by simp))
theorem jdB{bs:List Nat}(hb:mZ bs):Ec bs<4294967296:=by
 unfold Ec;split
 .rename_i a b c d l;have ha:=hb a (by simp);have sU:=hb b (by simp);have hc:=hb c (by simp);have hd:=hb d (by simp);unfold KH;exact zzk (n:=32) (zzk (zzk (by omega) (by omega)) (by omega)) (by omega)
 .decide
theorem RZ{v:AV}{bs:List Nat}{n:Nat}(h:Sl S v 1 (aq bs))(hb:mZ bs)(hn:bs.length=n+4)(hl:n<=1000000):
  ah C1 150 [v] S fun r T=>Sub S T/\((Ec (bs.drop n)≠jY (bs.take n)/\r=.tuple [.ar,.int .i64 5])\/(Ec (bs.drop n)=jY (bs.take n)/\∃w,r=.tuple [w,.int .i64 0]/\Gw T w 1 5 (aq (bs.take n))/\jI S.nx w)):=by
 have hd:(bs.drop n).length=4:=by rw[zzc];omega
 obtain⟨a,b,c,d,l,e⟩:=Np (bs:=bs.drop n) (by omega);have Xh:l=[]:=by
  have:=congrArg zqf e;rw[hd]at this;simp only[List.length_cons]at this;exact List.length_eq_zero_iff.1 (by omega)
 subst Xh;have nI:bs=bs.take n++[a,b,c,d]:=by rw[<-e,List.take_append_drop]
 have hm:∀x,x∈[a,b,c,d]->x<256:=fun x hx=>hb x (by rw[nI];exact List.mem_append_right _ hx);have h':Sl S v 1 (aq (bs.take n++[a,b,c,d])):=by rw[<-nI];exact h
 have:=XJ h' (fun x hx=>hb x (List.mem_of_mem_take hx)) (hm a (by simp)) (hm b (by simp)) (hm c (by simp)) (hm d (by simp)) (by rw[zzp];omega);rw[e];exact this
theorem jhG:Tryz.f148.ntmps=48:=by kernel_rfl
theorem YV{bb ba at_:Nat}{b:AV}{bs:List Nat}(hb:S.h.get bb=some (.row [b] 0 0 false 32))(ha:S.h.get ba=some (.row [.int .i64 at_] 0 0 false 3))(nI:Sl S b 1 (aq bs))(KZ:mZ bs)(Nj:at_<=bs.length)(hl:bs.length<=1048576)(sT:bb<S.nx)(lr:ba<S.nx):
  ah C1 148 [.ptr bb 0 0 1,.ptr ba 0 0 1] S fun r T=>Sub S T/\((eB (bs.drop at_)=none/\r=.ar)\/(∃rec,eB (bs.drop at_)=some rec/\Sl T r 1 (aq rec)/\isNil r=false/\jI S.nx r)):=by
 have u1:=nI.sl;have u2:=nI.eR;rw[aA]at u2;obtain⟨L,hL⟩:∃L,L=bs.length:=⟨_,rfl⟩
 rw[<-hL]at u2 Nj hl;have kb:=aj nI;obtain⟨ds,sq⟩:∃ds,ds=bs.drop at_:=⟨_,rfl⟩
 have Al:ds.length=L-at_:=by rw[sq,zzc,hL]
 have hdb:mZ ds:=fun c hc=>KZ c (by rw[sq]at hc;exact zzn hc);have hwd:IntKind.i64.wrap ((L:Int)-at_)=(L:Int)-at_:=IntWalk.i64_in _ (by omega);rw[<-sq];refine bt (cK _) (cM _ rfl) jjT rfl jgY (by simp) fun F hn s0 s1=>?_;rw[jhG]at hn;by_cases c4:ds.length<4
 .have Br:eB ds=none:=by unfold eB;rw[if_pos c4]
  have Xu:(L:Int)-at_<4:=by omega
  simp[s0,s1,hb,ha,u1,u2,hwd,Xu,Br];exact Sub.refl S
 have Xu:¬(L:Int)-at_<4:=by omega
 have c1:=nI.cut (l:=at_) (k:=L) (by omega) (by omega);have d1:((aq bs).drop (at_*1)).take ((L-at_)*1)=aq ds:=by
  rw[zzh,zzh,sq];unfold aq;rw[<-zqj,zzl (by rw[zzx,zzc];omega)]
 rw[d1]at c1;obtain⟨cw,Nd⟩:∃cw,cw=kX b at_ L:=⟨_,rfl⟩
 have jl:∀(F:Fr)(x:Tmp),sl F x=.int .i64 at_->dT C1 F 32 b (some (.tmp x)) none none=some cw:=fun F x a0=>by
  rw[Nd];exact dx (cx:=C1) (p:=(5,1,1)) (l:=at_) (k:=L) tD u1 (by simp[a0]) (by rw[kI,u2]) (by omega) (by omega)
 rw[<-Nd]at c1;have jkB:=YL c1 hdb (by omega);have hle:=jdB hdb;obtain⟨n,Br⟩:∃n,n=Ec ds:=⟨_,rfl⟩
 rw[<-Br]at jkB hle;have hwn:IntKind.i64.wrap (n:Int)=n:=IntWalk.i64_in _ (by omega);have hw4:IntKind.i64.wrap (4+(n:Int))=4+(n:Int):=IntWalk.i64_in _ (by omega);have hw8:IntKind.i64.wrap (4+(n:Int)+4)=4+(n:Int)+4:=IntWalk.i64_in _ (by omega);have kc:=aj c1;simp[-cz,s0,s1,hb,ha,u1,u2,hwd,Xu];rw[cz];simp[-cz,s0,s1,hb,ha,u1,u2,hwd,Xu,jl,kb,kc,jkB,aP,hwn];have c4n:¬ds.length<4:=c4;by_cases cn:n<1\/2048<n\/ds.length<4+n+4
 .have qy:eB ds=none:=by unfold eB;rw[if_neg c4,<-Br,if_pos cn]
  rw[qy];rcases Nat.lt_or_ge n 1 with a1|a1
  .have b1:=eq_true (show (n:Int)<1 by omega);have b1N:=eq_true a1;have b1Z:=eq_true (show n=0 by omega);simp[s0,s1,hb,ha,u1,u2,hwd,b1,b1N,b1Z];exact Sub.refl S
  .have b1:=eq_false (show ¬(n:Int)<1 by omega);have b1N:=eq_false (show ¬n<1 by omega);have b1Z:=eq_false (show ¬n=0 by omega);rcases Nat.lt_or_ge 2048 n with a2|a2
   .have b2:=eq_true (show (2048:Int)<n by omega);have b2N:=eq_true a2;simp[s0,s1,hb,ha,u1,u2,hwd,b1,b1N,b1Z,b2,b2N];exact Sub.refl S
   .have b2:=eq_false (show ¬(2048:Int)<n by omega);have b2N:=eq_false (show ¬2048<n by omega);have b3:=eq_true (show (L:Int)-at_<4+(n:Int)+4 by omega);simp[s0,s1,hb,ha,u1,u2,hwd,b1,b1N,b1Z,b2,b2N,b3,kb,hw4,hw8];exact Sub.refl S
 have b1:=eq_false (show ¬(n:Int)<1 by omega);have b1N:=eq_false (show ¬n<1 by omega);have b1Z:=eq_false (show ¬n=0 by omega);have b2:=eq_false (show ¬(2048:Int)<n by omega);have b2N:=eq_false (show ¬2048<n by omega);have b3:=eq_false (show ¬(L:Int)-at_<4+(n:Int)+4 by omega);obtain⟨e,he⟩:∃e,e=at_+4+n+4:=⟨_,rfl⟩
 have we1:IntKind.i64.wrap ((at_:Int)+4)=(at_:Int)+4:=IntWalk.i64_in _ (by omega);have we2:IntKind.i64.wrap ((at_:Int)+4+n)=(at_:Int)+4+n:=IntWalk.i64_in _ (by omega);have we3:IntKind.i64.wrap ((at_:Int)+4+n+4)=(e:Int):=by rw[IntWalk.i64_in _ (by omega)];omega
 have c2:=nI.cut (l:=at_) (k:=e) (by omega) (by omega);have d2:((aq bs).drop (at_*1)).take ((e-at_)*1)=aq (ds.take (4+n+4)):=by
  rw[zzh,zzh,sq];unfold aq;rw[<-zqj,<-List.map_take];congr 2;omega
 rw[d2]at c2;obtain⟨dw,hdw⟩:∃dw,dw=kX b at_ e:=⟨_,rfl⟩
 have m7:∀(F:Fr)(x y:Tmp),sl F x=.int .i64 at_->sl F y=.int .i64 e->dT C1 F 32 b (some (.tmp x)) (some (.tmp y)) none=some dw:=fun F x y a0 a1=>by
  rw[hdw];exact dx (cx:=C1) (p:=(5,1,1)) (l:=at_) (k:=e) tD u1 (by simp[a0]) (by simp[a1]) (by omega) (by omega)
 rw[<-hdw]at c2;have kd:=aj c2;have vG:(ds.take (4+n+4)).length=4+n+4:=by rw[zzp];omega
 obtain⟨r,T,⟨hT,mR⟩,jkA⟩:=(RZ (n:=4+n) c2 (fun c hc=>hdb c (List.mem_of_mem_take hc)) vG (by omega)).ex;have k1:(ds.take (4+n+4)).drop (4+n)=(ds.drop (4+n)).take 4:=by rw[List.drop_take];congr 1;omega
 have k2:(ds.take (4+n+4)).take (4+n)=ds.take (4+n):=by rw[List.take_take];congr 1;omega
 rw[k1,k2]at mR;rcases mR with⟨ct,rfl⟩|⟨heq,w,rfl,hw,kG⟩
 .have qy:eB ds=none:=by unfold eB;rw[if_neg c4,<-Br,if_neg cn,if_neg ct]
  rw[qy];simp[s0,s1,hb,ha,u1,u2,hwd,b1,b1N,b1Z,b2,b2N,b3,kb,kd,hw4,hw8,we1,we2,we3,m7,aP,jkA];exact hT
 .have qy:eB ds=some ((ds.take (4+n)).drop 4):=by unfold eB;rw[if_neg c4,<-Br,if_neg cn,if_pos heq]
  have KP:(ds.take (4+n)).length=4+n:=by rw[zzp];omega
  have v1:=hw.1.sl;have v2:=hw.1.eR;rw[aA,KP]at v2;have c3:=hw.1.cut (l:=4) (k:=4+n) (by omega) (by omega);have d3:((aq (ds.take (4+n))).drop (4*1)).take ((4+n-4)*1)=aq ((ds.take (4+n)).drop 4):=by
   rw[zzh,zzh];unfold aq;rw[<-zqj,zzl (by rw[zzx,zzc,KP];omega)]
  rw[d3]at c3;have hb4:aE (kX w 4 (4+n))=aE w:=rH;have BJ:=Ge (l:=4) (k:=4+n) hw.1 (by omega) (by omega);obtain⟨x,hx⟩:∃x,x=kX w 4 (4+n):=⟨_,rfl⟩
  have Hq:∀(F:Fr),dT C1 F 32 w (some (.const (.int .i64 4))) none none=some x:=fun F=>by
   rw[hx];exact dx (cx:=C1) (p:=(5,1,1)) (l:=4) (k:=4+n) tD v1 (by simp[eval_const,DR,fH]) (by rw[kI,v2]) (by omega) (by omega)
  rw[<-hx]at c3 hb4 BJ;have hxn:isNil x=false:=c3.notNil (by
   intro h0;have:=congrArg zqf h0;rw[aA,zzc,KP]at this;simp at this;omega)
  rw[qy];have kw:=aj hw.1;have kx:=aj c3;simp[s0,s1,hb,ha,u1,u2,hwd,b1,b1N,b1Z,b2,b2N,b3,kb,kd,hw4,hw8,we1,we2,we3,m7,aP,jkA,kw,Hq,kx,c3.np];exact⟨hT,c3,hxn,by unfold jI at kG⊢;rw[hb4];exact kG⟩
structure W4(S:AS)(b:AV)(bb ba bn at_:Nat):Prop where
 gb:S.h.get bb=some (.row [b] 0 0 false 32)
 ga:S.h.get ba=some (.row [.int .i64 at_] 0 0 false 3)
 gn:S.h.get bn=some (.row [.func (.func 148) [] [.ptr bb 0 0 1,.ptr ba 0 0 1]] 0 0 false 188)
theorem Vy{b:AV}{bs:List AV}(hb:Sl S b 1 bs):ah C1 96 [b] S fun r T=>∃bb ba bn,r=.func (.func 151) [] [.ptr bn 0 0 1,.ptr ba 0 0 1]/\Sub S T/\W4 T b bb ba bn 0/\S.nx<=bb/\bb<ba/\ba<bn/\bn<T.nx:=by
 obtain⟨S1,bC⟩:∃S1:AS,S1=⟨S.h.set S.nx (.row [b] 0 0 false 32),S.nx+1⟩:=⟨_,rfl⟩
 have s1:Sub S S1:=by rw[bC];exact seg.cq
 have g1:S1.h.get S.nx=some (.row [b] 0 0 false 32):=by rw[bC];exact aa _ _ _
 have n1:S1.nx=S.nx+1:=by rw[bC]
 have fR:=bC.symm;clear bC;obtain⟨S2,dD⟩:∃S2:AS,S2=⟨(S1.h.set S1.nx (.row [.int .i64 0] 0 0 false 3)).set S1.nx (.row [.int .i64 0] 0 0 false 3),S1.nx+1⟩:=⟨_,rfl⟩
 have s2:Sub S1 S2:=by rw[dD];exact seg.gF
 have g2:S2.h.get S1.nx=some (.row [.int .i64 0] 0 0 false 3):=by rw[dD];exact aa _ _ _
 have n2:S2.nx=S1.nx+1:=by rw[dD]
 have iN:=dD.symm;clear dD;obtain⟨S3,l7⟩:∃S3:AS,S3=⟨(S2.h.set S2.nx (.row [.eQ] 0 0 false 188)).set S2.nx (.row [.func (.func 148) [] [.ptr S.nx 0 0 1,.ptr S1.nx 0 0 1]] 0 0 false 188),S2.nx+1⟩:=⟨_,rfl⟩
 have s3:Sub S2 S3:=by rw[l7];exact seg.gF
 have g3:S3.h.get S2.nx=some (.row [.func (.func 148) [] [.ptr S.nx 0 0 1,.ptr S1.nx 0 0 1]] 0 0 false 188):=by rw[l7];exact aa _ _ _
 have n3:S3.nx=S2.nx+1:=by rw[l7]
 have nQ:=l7.symm;clear l7;have kb:=aj hb;have e:ah C1 96 [b] S fun r T=>r=.func (.func 151) [] [.ptr S2.nx 0 0 1,.ptr S1.nx 0 0 1]/\T=S3:=by
  refine aL (cK _) (cM _ rfl) jjm rfl jgr (by simp) fun F hn s0=>?_;simp[s0,hb.cells,kb,fR,iN,nQ]
 refine e.mono ?_;rintro r T ⟨rfl,rfl⟩;exact⟨S.nx,S1.nx,S2.nx,rfl,(s1.trans s2).trans s3,⟨(s3.h _ (by omega)).trans ((s2.h _ (by omega)).trans g1),(s3.h _ (by omega)).trans g2,g3⟩,zzi _,by omega,by omega,by omega⟩
theorem W4.agree{b:AV}{bb ba bn at_:Nat}(h:W4 S b bb ba bn at_)(h1:T.h.get bb=S.h.get bb)(h2:T.h.get ba=S.h.get ba)(h3:T.h.get bn=S.h.get bn):W4 T b bb ba bn at_:=⟨h1.trans h.gb,h2.trans h.ga,h3.trans h.gn⟩
structure Ra(b:AV)(bs:List Nat)(bb ba bn lo:Nat)(I:Nat->AS->Prop)(at_:Nat)(S:AS):Prop where
 m:W4 S b bb ba bn at_
 sl:Sl S b 1 (aq bs)
 le:at_<=bs.length
 i:I at_ S
 lo:lo<=S.nx
def Bef(I:Nat->AS->Prop)(at_ ba:Nat)(w:AV)(S:AS):Prop:=∃A0:AS,I at_ A0/\(aE w=0\/A0.nx<aE w)/\∀id,id<A0.nx->id≠ba->S.h.get id=A0.h.get id
def jgh(b:AV)(bs:List Nat)(lp bb ba bn lo:Nat)(I:Nat->AS->Prop)(k:Nat)(F':Fr)(S':AS):Prop:=
 ∃at_,Ra b bs bb ba bn lo I at_ S'/\sl F' 0=.obj .LZ lp/\sl F' 1=.ptr bn 0 0 1/\sl F' 2=.ptr ba 0 0 1/\F'.n=20/\F'.ds=[]/\k=bs.length-at_ /\
  ((eB (bs.drop at_)=none/\sl F' 4=.ar)\/∃rec w,eB (bs.drop at_)=some rec/\sl F' 4=w/\Sl S' w 1 (aq rec)/\isNil w=false/\(aE w=0\/lo<aE w)/\Bef I at_ ba w S')
theorem Ms{b:AV}{bs:List Nat}{lp bb ba bn lo:Nat}{I:Nat->AS->Prop}{k:Nat}{F':Fr}(at_:Nat)(h1:Ra b bs bb ba bn lo I at_ T)(h2:sl F' 0=.obj .LZ lp)(h3:sl F' 1=.ptr bn 0 0 1)(h4:sl F' 2=.ptr ba 0 0 1)(h5:F'.n=20)(h6:F'.ds=[])(h7:k=bs.length-at_)
  (h8:(eB (bs.drop at_)=none/\sl F' 4=.ar)\/∃rec w,eB (bs.drop at_)=some rec/\sl F' 4=w/\Sl T w 1 (aq rec)/\isNil w=false/\(aE w=0\/lo<aE w)/\Bef I at_ ba w T):jgh b bs lp bb ba bn lo I k F' T:=⟨at_,h1,h2,h3,h4,h5,h6,h7,h8⟩
theorem jhD:Tryz.f151.ntmps=20:=by kernel_rfl
attribute [local simp] QF
theorem Yi{lp bb ba bn lo:Nat}{b:AV}{bs:List Nat}(I:Nat->AS->Prop)(h0:Ra b bs bb ba bn lo I 0 S)(KZ:mZ bs)(hl:bs.length<=1048576)(qA:bb<ba)(hban:ba<bn)(hbn:bn<lo)(hbo:aE b<=lo)(hba:aE b≠ba+1)
  (Bz:∀at_ S T,I at_ S->lo<=S.nx->(∀id,id<S.nx->id≠ba->T.h.get id=S.h.get id)->S.nx<=T.nx->I at_ T)
  (round:∀at_ rec w S,eB (bs.drop at_)=some rec->I at_ S->lo<=S.nx->Sl S w 1 (aq rec)->isNil w=false->(aE w=0\/lo<aE w)->Bef I at_ ba w S->rO C1 lp [.int .i64 (at_+rec.length+8:Nat),w] S fun v T=>v=.bool true/\I (at_+rec.length+8) T/\S.nx<=T.nx/\(∀id,id<lo->id=bb\/id=ba\/id=bn\/aE b=id+1->T.h.get id=S.h.get id)) :
  ah C1 151 [.obj .LZ lp,.ptr bn 0 0 1,.ptr ba 0 0 1] S fun _ T=>∃at_,I at_ T/\eB (bs.drop at_)=none/\lo<=T.nx:=by
 have nxt:∀at_ S,Ra b bs bb ba bn lo I at_ S->∃r T,Ra b bs bb ba bn lo I at_ T/\(∀Q:AV->AS->Prop,ah C1 148 [.ptr bb 0 0 1,.ptr ba 0 0 1] S Q=Q r T)/\okW r=true/\bL r=false/\((eB (bs.drop at_)=none/\r=.ar)\/∃rec,eB (bs.drop at_)=some rec/\Sl T r 1 (aq rec)/\isNil r=false/\(aE r=0\/lo<aE r)/\Bef I at_ ba r T):=fun at_ S h=>by
  obtain⟨h1,h2,h3,h4,h5⟩:=h;obtain⟨r,T,⟨hT,hc⟩,e⟩:=(YV h1.gb h1.ga h2 KZ h3 hl (by omega) (by omega)).ex;have hn:=hT.nx;refine⟨r,T,⟨h1.agree (hT.h _ (by omega)) (hT.h _ (by omega)) (hT.h _ (by omega)),h2.toSub hT,h3,Bz _ _ _ h4 h5 (fun id hi _=>hT.h id hi) hn,by omega⟩,e,?_,?_,?_⟩
  .rcases hc with⟨_,rfl⟩|⟨rec,_,q,_⟩
   .rfl
   .exact aj q
  .rcases hc with⟨_,rfl⟩|⟨rec,_,q,_⟩
   .rfl
   .exact q.np
  .rcases hc with⟨q1,q2⟩|⟨rec,q1,q2,q3,q4⟩
   .exact .inl ⟨q1,q2⟩
   .exact .inr ⟨rec,q1,q2,q3,by unfold jI at q4;omega,S,h4,q4,fun id hi _=>hT.h id hi⟩
 obtain⟨r0,T0,hI0,e0,k0,np0,pP⟩:=nxt 0 S h0;have gn0:=h0.m.gn;refine Az (cK _) (cM _ rfl) jjQ rfl jgV (by simp) fun F hn hd hs=>?_;rw[jhD]at hn;have s0:=hs 0;have s1:=hs 1;have s2:=hs 2;clear hs;simp only[zzd,zze,zzj]at s0 s1 s2;simp[s0,s1,s2,gn0,aP,e0,k0,np0];refine Ui (jgh b bs lp bb ba bn lo I) bs.length (Ms 0 hI0 (by simp[s0]) (by simp[s1]) (by simp[s2]) (by simp[hn]) (by simp[nu,hd]) rfl ?_) ?_
 .rcases pP with⟨q1,q2⟩|⟨rec,q1,q2,q3,q4,q5⟩
  .exact .inl ⟨q1,by simp[q2]⟩
  .exact .inr ⟨rec,r0,q1,by simp,q2,q3,q4,q5⟩
 clear s0 s1 s2 hn hd gn0 e0 k0 np0 pP hI0;rintro k F' S'-⟨at_,hI,t0,t1,t2,hn,hd,hk,mR⟩;rcases mR with⟨q1,t4⟩|⟨rec,w,q1,t4,q2,q3,q4,A0,q5,q6,q7⟩
 .simp[t0,t1,t2,t4];simp only[nu,hd];rw[jk];have iW:∀(F:Fr),lD C1 F S' Tryz.f151.results.toList=some []:=fun F=>by
   have e:Tryz.f151.results.toList=[]:=by kernel_rfl
   rw[e];rfl
  rw[iW];exact⟨rfl,at_,hI.i,q1,hI.lo⟩
 .have u1:=q2.sl;have kw:=aj q2;have Em:=rZ q1;rw[zzc]at Em;have hle:=hI.le;obtain⟨e,he⟩:∃e,e=at_+rec.length+8:=⟨_,rfl⟩
  have jaa:=XW q2 (by rw[aA];omega);rw[aA]at jaa;have nj:EE rec.length=rec.length+8:=by unfold EE;rw[if_pos ⟨Em.1,Em.2.1⟩]
  rw[nj]at jaa;have hwe:IntKind.i64.wrap ((at_:Int)+((rec.length+8:Nat):Int))=(e:Int):=by rw[IntWalk.i64_in _ (by omega)];omega
  obtain⟨m,hm⟩:∃m,m=rec.length+8:=⟨_,rfl⟩
  rw[<-hm]at jaa hwe;obtain⟨g1,g2,g3⟩:=hI.m;obtain⟨V,hV⟩:∃V:AS,V=⟨S'.h.set ba (.row [.int .i64 e] 0 0 false 3),S'.nx⟩:=⟨_,rfl⟩
  have oV:∀id,id≠ba->V.h.get id=S'.h.get id:=fun id h=>by rw[hV];exact ae _ _ h
  have gV:V.h.get ba=some (.row [.int .i64 e] 0 0 false 3):=by rw[hV];exact aa _ _ _
  have nV:V.nx=S'.nx:=by rw[hV]
  have bV:=hV.symm;clear hV;have rr:=hI.lo;have wV:Sl V w 1 (aq rec):=q2.agree (fun id h=>oV id (by omega)) (by omega);have ct:aZ C1 .neq 32 true w .ar=some (.bool true):=by
   have:=ne_nil (cx:=C1) (t:=32) (c:=true) tD u1;rw[q3]at this;exact this
  have xv:=round at_ rec w V q1 (Bz _ _ _ hI.i rr (fun id _ h=>oV id h) (by omega)) (by omega) wV q3 q4 ⟨A0,q5,q6,fun id h1 h2=>(oV id h2).trans (q7 id h1 h2)⟩;rw[<-he]at xv;simp[t0,t1,t2,t4,ct];refine cu [.r 0 1,.p,.e [],.p,.e []] (n:=20) (by kernel_rfl) (by simp[hn]) ?_;simp[t0,t1,t2,t4,g2,aP,kw,jaa,hwe,bV,gV];refine rO.mono xv ?_;rintro v X ⟨rfl,x1,x2,x3⟩;have hX:Ra b bs bb ba bn lo I e X:=by
   refine⟨⟨(x3 _ (by omega) (.inl rfl)).trans ((oV _ (by omega)).trans g1),(x3 _ (by omega) (.inr (.inl rfl))).trans gV,(x3 _ (by omega) (.inr (.inr (.inl rfl)))).trans ((oV _ (by omega)).trans g3)⟩,hI.sl.agree (fun id h=>?_) (by omega),by omega,x1,by omega⟩;rw[x3 id (by omega) (.inr (.inr (.inr h))),oV id (by omega)]
  obtain⟨r1,Y,hY,e1,k1,np1,Ng⟩:=nxt e X hX;have gn1:=hX.m.gn;simp[t0,t1,t2,gn1,aP,e1,k1,np1];refine⟨bs.length-e,by omega,Ms e hY (by simp[t0]) (by simp[t1]) (by simp[t2]) (by simp[hn]) (by simp[nu,hd]) rfl ?_⟩;rcases Ng with⟨z1,z2⟩|⟨rec',z1,z2,z3,z4,z5⟩
  .exact .inl ⟨z1,by simp[z2]⟩
  .exact .inr ⟨rec',r1,z1,by simp,z2,z3,z4,z5⟩
structure I3(S:AS)(lo:Nat)(l:AV)(ps:List (AV×List Nat)):Prop where
 gw:Gw S l 1 32 (ps.map (·.1))
 el:∀q,q∈ps->Sl S q.1 1 (aq q.2)/\(aE q.1=0\/(lo<aE q.1/\aE q.1≠aE l))
 nl:aE l=0\/lo<aE l
theorem I3.agree{lo:Nat}{l:AV}{ps:List (AV×List Nat)}(h:I3 S lo l ps)(hs:∀id,lo<=id->id<S.nx->T.h.get id=S.h.get id)(hn:S.nx<=T.nx):I3 T lo l ps:=
 ⟨h.gw.agree (fun id e=>hs id (by have:=h.nl;omega) (by have:=h.gw.1.old;omega)) hn,fun q hq=>⟨(h.el q hq).1.agree (fun id e=>hs id (by have:=(h.el q hq).2;omega) (by have:=(h.el q hq).1.old;omega)) hn,(h.el q hq).2⟩,h.nl⟩
def splI(S0:AS)(bl bw lp bd lo:Nat)(G:Fr)(cA cB:Code)(bs:List Nat)(at_:Nat)(S':AS):Prop:=
 ∃(l:AV)(ps:List (AV×List Nat)),S'.h.get bl=some (.row [l] 0 0 false 111)/\(∃n:Int,S'.h.get bw=some (.row [.int .i64 n] 0 0 false 3))/\I3 S' lo l ps/\ps.map (·.2)++iI (bs.drop at_)=iI bs /\
   S'.h.get lp=some (.j6 (.loop .ready none G #[10,11] cA cB))/\S'.h.get bd=some (.j6 (.Bt true))/\Sub S0 S'/\(∀q,q∈ps->1<=q.2.length)/\(ps.map fun q=>q.2.length+8).sum=at_/\lo<=S'.nx
theorem nt49:Tryz.f49.ntmps=19:=by kernel_rfl
theorem ZQ{ps:List (AV×List Nat)}(h:∀q,q∈ps->1<=q.2.length):ps.length<=(ps.map fun q=>q.2.length+8).sum:=by
 induction ps with
 |nil=>simp
 |cons q ps ih=>
  have:=ih fun x hx=>h x (List.mem_cons_of_mem _ hx);simp;omega
theorem jga{F:Fr}{l:AV}{n:Int}(h2:sl F 2=l)(h3:sl F 3=.int .i64 n)(hl:okW l=true):lD C1 F S Tryz.f49.results.toList=some [l,.int .i64 n]:=by
 have e:Tryz.f49.results.toList=[.tmp 2,.tmp 3]:=by kernel_rfl
 rw[e];simp[h2,h3,hl]
theorem XQ{b:AV}{bs:List Nat}(hb:Sl S b 1 (aq bs))(KZ:mZ bs)(hl:bs.length<=1000000):ah C1 49 [b] S fun r T=>Sub S T/\∃l ps n,r=.tuple [l,.int .i64 n]/\I3 T S.nx l ps/\ps.map (·.2)=iI bs:=by
 obtain⟨S1,bC⟩:∃S1:AS,S1=⟨S.h.set S.nx (.row [.ar] 0 0 false 111),S.nx+1⟩:=⟨_,rfl⟩
 have s1:Sub S S1:=by rw[bC];exact seg.cq
 have g1:S1.h.get S.nx=some (.row [.ar] 0 0 false 111):=by rw[bC];exact aa _ _ _
 have n1:S1.nx=S.nx+1:=by rw[bC]
 have fR:=bC.symm;clear bC;obtain⟨S2,dD⟩:∃S2:AS,S2=⟨(S1.h.set S1.nx (.row [.int .i64 0] 0 0 false 3)).set S1.nx (.row [.int .i64 0] 0 0 false 3),S1.nx+1⟩:=⟨_,rfl⟩
 have s2:Sub S1 S2:=by rw[dD];exact seg.gF
 have g2:S2.h.get S1.nx=some (.row [.int .i64 0] 0 0 false 3):=by rw[dD];exact aa _ _ _
 have n2:S2.nx=S1.nx+1:=by rw[dD]
 have iN:=dD.symm;clear dD;have Eu:=(hb.toSub s1).toSub s2;obtain⟨r,T,⟨bb,ba,bn,rfl,hT,hM,m1,m2,m3,m4⟩,e96⟩:=(Vy Eu).ex;have HB:=hT.nx;have kb:=aj hb;have hbo:=hb.old;refine Az (cK _) (cM _ rfl) fn49 rfl ok49 (by simp) fun F hn hd hs=>?_;rw[nt49]at hn;have s0:=hs 0;clear hs;simp only[zzd,zze,zzj]at s0;simp[s0,fR,iN,aP,e96,kb];refine O7 fun cA cB hA hB=>?_;generalize hG:up _ (some 9) (AV.func (.func 151) [] _)=G;have h4:sl G 4=.ptr S.nx 0 0 1:=by rw[<-hG];simp
 have h5:sl G 5=.ptr S1.nx 0 0 1:=by rw[<-hG];simp
 have h9:eval G (.tmp 9)=.func (.func 151) [] [.ptr bn 0 0 1,.ptr ba 0 0 1]:=by rw[<-hG];simp
 have gn:G.n=19:=by rw[<-hG];simp[hn]
 have gd:G.ds=[]:=by rw[<-hG];simp[nu,hd]
 clear hG s0 hn hd;refine⟨by rw[hA,hB];kernel_rfl,151,[],[.ptr bn 0 0 1,.ptr ba 0 0 1],h9,?_⟩;obtain⟨P,hP⟩:∃P:AS,P=⟨(T.h.set T.nx (.j6 (.Bt true))).set (T.nx+1) (.j6 (.loop .ready none G #[10,11] cA cB)),T.nx+2⟩:=⟨_,rfl⟩
 have nP:P.nx=T.nx+2:=by rw[hP]
 have pl:P.h.get (T.nx+1)=some (.j6 (.loop .ready none G #[10,11] cA cB)):=by rw[hP];exact aa _ _ _
 have pd:P.h.get T.nx=some (.j6 (.Bt true)):=by rw[hP];exact (ae _ _ (by omega)).trans (aa _ _ _)
 have po:∀id,id<T.nx->P.h.get id=T.h.get id:=fun id h=>by rw[hP];exact (ae _ _ (by omega)).trans (ae _ _ (by omega))
 have bP:(⟨(T.h.set T.nx (.j6 (.Bt true))).set (T.nx+1) (.j6 (.loop .ready none G #[10,11] cA cB)),T.nx+2⟩:AS)=P:=hP.symm;clear hP;show ah C1 151 [.obj .LZ (T.nx+1),.ptr bn 0 0 1,.ptr ba 0 0 1] (⟨(T.h.set T.nx (.j6 (.Bt true))).set (T.nx+1) (.j6 (.loop .ready none G #[10,11] cA cB)),T.nx+2⟩:AS) _;rw[bP];have x1:=(po S.nx (by omega)).trans ((hT.h _ (by omega)).trans ((s2.h _ (by omega)).trans g1));have x2:=(po S1.nx (by omega)).trans ((hT.h _ (by omega)).trans g2);have sP:Sub S P:=⟨fun id hi=>by rw[po id (by omega),hT.h id (by omega),s2.h id (by omega),s1.h id hi],by omega⟩
 have e0:iI (bs.drop 0)=iI bs:=by rw[zqh]
 refine ah.mono (Yi (lo:=P.nx) (splI S S.nx S1.nx (T.nx+1) T.nx P.nx G cA cB bs)
  ⟨hM.agree (po _ (by omega)) (po _ (by omega)) (po _ (by omega)),hb.toSub sP,zzs _,⟨.ar,[],x1,⟨0,x2⟩,⟨Gw.nil,(fun q hq=>(zzo hq).elim),.inl rfl⟩,e0,pl,pd,sP,(fun q hq=>(zzo hq).elim),rfl,zzi _⟩,zzi _⟩ KZ (by omega) (by omega) (by omega) (by omega) (by omega) (by omega) ?_ ?_) ?_
 .rintro at_ A B' ⟨l,ps,a1,⟨n,a2⟩,a3,a4,a5,a6,a7,a8,a9,a10⟩ rr hag UQ;exact⟨l,ps,(hag _ (by omega) (by omega)).trans a1,⟨n,(hag _ (by omega) (by omega)).trans a2⟩,a3.agree (fun id h1 h2=>hag id h2 (by omega)) UQ,a4,(hag _ (by omega) (by omega)).trans a5,(hag _ (by omega) (by omega)).trans a6,⟨fun id hi=>(hag id (by have:=a7.nx;omega) (by omega)).trans (a7.h id hi),by omega⟩,a8,a9,by omega⟩
 .rintro at_ rec w A tM ⟨l,ps,a1,⟨n,a2⟩,a3,a4,a5,a6,a7,a8,a9,a10⟩ rr hw hwn hwb ⟨A0,⟨l0,_,c1,_,c3,_,_,_,_,_,_,c10⟩,d2,d3⟩;have hll0:l0=l:=by
   have:=(d3 S.nx (by omega) (by omega)).trans c1;rw[a1]at this;simp only[Option.some.injEq,dR.row.injEq,List.cons.injEq]at this;exact this.1.1.symm
  have hl0o:=c3.gw.1.old;rw[hll0]at hl0o;have Em:=rZ tM;rw[zzc]at Em;have kS:=ZQ a8;have Xg:sLen l=ps.length:=by have:=a3.gw.1.eR;rwa [zzx]at this
  obtain⟨e,he⟩:∃e,e=at_+rec.length+8:=⟨_,rfl⟩
  rw[<-he];obtain⟨G0,hG0⟩:∃G0:Fr,G0=⟨G.t,G.n,[]⟩:=⟨_,rfl⟩
  have y4:sl G0 4=.ptr S.nx 0 0 1:=by rw[hG0];exact h4
  have y5:sl G0 5=.ptr S1.nx 0 0 1:=by rw[hG0];exact h5
  have yn:G0.n=19:=by rw[hG0];exact gn
  refine OV (F1:=up (up G0 (some 10) (.int .i64 e)) (some 11) w) a5 ?_ (by rw[nc,nc,yn,hA];kernel_rfl) (by rw[nc,nc,yn,hB];kernel_rfl) ?_
  .rw[<-hG0];show DJ G0 [10,11] [_,_]=_;unfold DJ;simp[kC,yn,up,show Nat.blt 10 19=true from rfl,show Nat.blt 11 19=true from rfl]
  have kw:=aj hw;rw[hA];simp[kw];refine⟨none,G,cA,cB,by rw[hA,hB];rw[hA,hB]at a5;exact a5,?_⟩;generalize Xn:mB A _ _=A1;have oA1:∀id,id≠T.nx+1->A1.h.get id=A.h.get id:=fun id h=>by rw[<-Xn];exact ae _ _ h
  have lA1:A1.h.get (T.nx+1)=some (.j6 (.loop .busy none G #[10,11] cA cB)):=by rw[<-Xn];exact aa _ _ _
  have nA1:A1.nx=A.nx:=by rw[<-Xn];rfl
  clear Xn;have f3:=a3.agree (T:=A1) (fun id h1 h2=>oA1 id (by omega)) (by omega);have f1:=(oA1 S.nx (by omega)).trans a1;have f2:=(oA1 S1.nx (by omega)).trans a2;have xW:Sl A1 w 1 (aq rec):=hw.agree (fun id h=>oA1 id (by omega)) (by omega);obtain⟨A2,hA2⟩:∃A2:AS,A2=⟨A1.h.set A1.nx (.row [w] 0 0 false 32),A1.nx+1⟩:=⟨_,rfl⟩
  have s2':Sub A1 A2:=by rw[hA2];exact seg.cq
  have z2:A2.h.get A1.nx=some (.row [w] 0 0 false 32):=by rw[hA2];exact aa _ _ _
  have nA2:A2.nx=A1.nx+1:=by rw[hA2]
  have bA2:=hA2.symm;clear hA2;have f3':=f3.agree (T:=A2) (fun id h1 h2=>s2'.h id h2) s2'.nx;have Ey:Sl A2 (.slice A1.nx 0 0 1 1 1 (some 1)) 1 [w]:=⟨by simp[isSl,eV],by simp[kR,dN,z2,bB],by simp[sLen],by simp[aE,nA2]⟩
  obtain⟨l',A3,e3,g3,o3,n3,l3,_,b3,_⟩:=fo (cx:=C1) (S:=A2) (t:=111) (u:=111) (ts:=[]) (p:=(32,1,24)) (v:=l) (x:=.slice A1.nx 0 0 1 1 1 (some 1)) jbi jfF rfl f3'.gw Ey (by rw[Xg];simp[fits,cY,sLen];omega);have El:=a3.nl;have hlo':=a3.gw.1.old;obtain⟨A4,hA4⟩:∃A4:AS,A4=⟨A3.h.set S.nx (.row [l'] 0 0 false 111),A3.nx⟩:=⟨_,rfl⟩
  have o4:∀id,id≠S.nx->A4.h.get id=A3.h.get id:=fun id h=>by rw[hA4];exact ae _ _ h
  have z4:A4.h.get S.nx=some (.row [l'] 0 0 false 111):=by rw[hA4];exact aa _ _ _
  have n4:A4.nx=A3.nx:=by rw[hA4]
  have bA4:=hA4.symm;clear hA4;have r3:A3.h.get S.nx=some (.row [l] 0 0 false 111):=by rw[o3 _ (by omega) (by omega),s2'.h _ (by omega)];exact f1
  have r4:A4.h.get S1.nx=some (.row [.int .i64 n] 0 0 false 3):=by rw[o4 _ (by omega),o3 _ (by omega) (by omega),s2'.h _ (by omega)];exact f2
  obtain⟨A5,hA5⟩:∃A5:AS,A5=⟨A4.h.set S1.nx (.row [.int .i64 e] 0 0 false 3),A4.nx⟩:=⟨_,rfl⟩
  have o5:∀id,id≠S1.nx->A5.h.get id=A4.h.get id:=fun id h=>by rw[hA5];exact ae _ _ h
  have z5:A5.h.get S1.nx=some (.row [.int .i64 e] 0 0 false 3):=by rw[hA5];exact aa _ _ _
  have n5:A5.nx=A4.nx:=by rw[hA5]
  have bA5:=hA5.symm;clear hA5;have og:∀id,id≠S.nx->id≠S1.nx->id≠T.nx+1->id<A.nx->id+1≠aE l->A5.h.get id=A.h.get id:=fun id h1 h2 h3 h4 h5=>by
   rw[o5 _ h2,o4 _ h1,o3 _ (by omega) h5,s2'.h _ (by omega),oA1 _ h3]
  have jJ:∀(F:Fr)(D:Nat)(y:Tmp),sl F y=w->aD C1 F D (.buildSlice 111 1 #[(0,.tmp y)])=some (.slice D 0 0 1 1 1 (some 1),.row [w] 0 0 false 32):=fun F D y a0=>by
   have:=cg (cx:=C1) (F:=F) (t:=111) (p:=(32,1,24)) (id:=D) (n:=1) (a:=#[(0,.tmp y)]) [[w]] jbi rfl (by simp[a0,hw.cells]) (by simp) (by decide);rw[this];simp
  have kl:=aj a3.gw.1;have kl':=aj g3.1;rw[hB];simp[y4,y5,f1,kl,kw,jJ,bA2,e3,g3.1.np,kl',r3,g3.1.cells,bA4,r4,bA5];have lA5:A5.h.get (T.nx+1)=some (.j6 (.loop .busy none G #[10,11] cA cB)):=by
   rw[o5 _ (by omega),o4 _ (by omega),o3 _ (by omega) (by omega),s2'.h _ (by omega)];exact lA1
  refine⟨.busy,none,G,#[10,11],cA,cB,by rw[hA,hB];rw[hA,hB]at lA5;exact lA5,?_⟩;rw[<-hA,<-hB];generalize hZ:mB A5 _ _=Z;have oZ:∀id,id≠T.nx+1->Z.h.get id=A5.h.get id:=fun id h=>by rw[<-hZ];exact ae _ _ h
  have lZ:Z.h.get (T.nx+1)=some (.j6 (.loop .ready none G #[10,11] cA cB)):=by rw[<-hZ];exact aa _ _ _
  have nZ:Z.nx=A5.nx:=by rw[<-hZ];rfl
  clear hZ;refine⟨⟨l',ps++[(w,rec)],(oZ _ (by omega)).trans ((o5 _ (by omega)).trans z4),⟨e,(oZ _ (by omega)).trans z5⟩,⟨?_,fun q hq=>?_,by omega⟩,?_,lZ,(oZ _ (by omega)).trans ((og _ (by omega) (by omega) (by omega) (by omega) (by omega)).trans a6),⟨fun id hi=>?_,by omega⟩,fun q hq=>?_,?_,by omega⟩,by omega,fun id h1 h2=>?_⟩
  .rw[zzv];exact g3.agree (fun id h=>by rw[oZ _ (by omega),o5 _ (by omega),o4 _ (by omega)]) (by omega)
  .rcases List.mem_append.1 hq with hq|hq
   .obtain⟨b1,b2⟩:=a3.el q hq;have b3':=b1.old;refine⟨b1.agree (fun id h=>?_) (by omega),by omega⟩;rw[oZ _ (by omega)];exact og _ (by omega) (by omega) (by omega) (by omega) (by omega)
   .rw[zqa]at hq;subst hq;have b3':=hw.old;refine⟨hw.agree (fun id h=>?_) (by omega),show aE w=0\/(P.nx<aE w/\aE w≠aE l') by omega⟩;rw[oZ _ (by omega)];exact og _ (by omega) (by omega) (by omega) (by omega) (by omega)
  .rw[zzv,zzb,he,<-a4,qH tM,List.drop_drop];show _++([rec]++_)=_;rw[List.singleton_append,Nat.add_assoc]
  .rw[oZ _ (by omega),og id (by omega) (by omega) (by omega) (by have:=a7.nx;omega) (by omega)];exact a7.h id hi
  .rcases List.mem_append.1 hq with hq|hq
   .exact a8 q hq
   .rw[zqa]at hq;subst hq;exact Em.1
  .rw[zzv,List.sum_append,a9,he];simp;omega
  .rw[oZ _ (by omega)];refine og _ (by omega) (by omega) (by omega) (by omega) (by omega)
 .rintro v X ⟨at_,⟨l,ps,a1,⟨n,a2⟩,a3,a4,a5,a6,a7,a8,a9,a10⟩,UR,_⟩;refine .inl ⟨.ready,G,#[10,11],cA,cB,by simp,a5,?_⟩;generalize hH:(⟨G.t,G.n,_⟩:Fr)=H;generalize hU:mB X _ _=U;have k4:sl H 4=.ptr S.nx 0 0 1:=by rw[<-hH];exact h4
  have k5:sl H 5=.ptr S1.nx 0 0 1:=by rw[<-hH];exact h5
  have kn:H.n=19:=by rw[<-hH];exact gn
  have kds:H.ds=[.mark T.nx]:=by rw[<-hH,gd]
  have oU:∀id,id≠T.nx+1->U.h.get id=X.h.get id:=fun id h=>by rw[<-hU];exact ae _ _ h
  have nU:U.nx=X.nx:=by rw[<-hU];rfl
  clear hH hU;have u1:=(oU S.nx (by omega)).trans a1;have u2:=(oU S1.nx (by omega)).trans a2;have ud:=(oU T.nx (by omega)).trans a6;have kl:=aj a3.gw.1;simp;refine od (n:=19) (by kernel_rfl) (by simp[kn]) ?_;simp[k4,k5,u1,u2,kl];refine⟨a3.gw.1.ok,?_⟩;simp only[nu,kds];refine⟨ud,?_⟩;generalize hW:mB U _ _=W;have oW:∀id,id≠T.nx->W.h.get id=U.h.get id:=fun id h=>by rw[<-hW];exact ae _ _ h
  have nW:W.nx=U.nx:=by rw[<-hW];rfl
  clear hW;rw[jk,jga (l:=l) (n:=n) (by simp) (by simp) kl];simp;have og:∀id,id≠T.nx->id≠T.nx+1->W.h.get id=X.h.get id:=fun id h1 h2=>(oW id h1).trans (oU id h2);refine⟨⟨fun id hi=>(og id (by omega) (by omega)).trans (a7.h id hi),by have:=a7.nx;omega⟩,ps,?_,?_⟩
  .have h1:=a3.agree (T:=W) (fun id h1 h2=>og id (by omega) (by omega)) (by omega);exact⟨h1.gw,fun q hq=>⟨(h1.el q hq).1,by have:=(h1.el q hq).2;omega⟩,by have:=h1.nl;omega⟩
  .rw[qI UR,zzg]at a4;exact a4
variable{B:Nat}
def Ry:List AV:=[.int .i64 0,.int .i64 0,.int .i64 0,.int .u64 0,.bool false,.ar,.ar]
theorem jfi(k:Int):dr C1 115 [(0,.int .i64 k)]=some (.agg [.int .i64 k,.int .i64 0,.int .i64 0,.int .u64 0,.bool false,.ar,.ar]):=by kernel_rfl
structure Got(lo:Nat)(r r':Rec)(S:AS):Prop where
 eq:Eqv r r'
 at_:da S r'
 aU:∀id,aW r'.p r'.cs id\/aE r'.sv=id+1->lo<=id
theorem Got.agree{lo:Nat}{r r':Rec}(h:Got lo r r' S)(hs:∀id,lo<=id->id<S.nx->T.h.get id=S.h.get id)(hn:S.nx<=T.nx):Got lo r r' T:=
 ⟨h.eq,⟨aB.agree h.at_.pred (fun id e=>hs id (h.aU id (.inl e)) (aB.aU h.at_.pred e)) hn,h.at_.sl.agree (fun id e=>hs id (h.aU id (.inr e)) (by have:=h.at_.sl.old;omega)) hn,h.at_.num,h.at_.n,h.at_.Fu,h.at_.len⟩,h.aU⟩
def jgj(S U1:AS)(b:AV)(b2 bp bo bx p B:Nat)(r:Rec)(F':Fr)(S':AS):Prop:=
 ∃r',ui U1 bp bo bx p B r'.c [] S'/\Got U1.nx r r' S'/\sl F' 0=b/\sl F' 2=.ptr b2 0 0 7/\sl F' 4=.ptr bp 0 0 1/\sl F' 5=.ptr bo 0 0 1/\sl F' 8=.ptr bx 0 0 7/\F'.n=109
theorem rX{U1:AS}{b:AV}{b2 bp bo bx p:Nat}{r:Rec}{F':Fr}(r':Rec)(h1:ui U1 bp bo bx p B r'.c [] T)(h2:Got U1.nx r r' T)(h3:sl F' 0=b)(h4:sl F' 2=.ptr b2 0 0 7)(h5:sl F' 4=.ptr bp 0 0 1)(h6:sl F' 5=.ptr bo 0 0 1)(h7:sl F' 8=.ptr bx 0 0 7)(h8:F'.n=109):jgj S U1 b b2 bp bo bx p B r F' T:=
 ⟨r',h1,h2,h3,h4,h5,h6,h7,h8⟩
theorem Yc{k id pub:Int}{n:Nat}{th:Bool}(h:n<18446744073709551616):da S ⟨k,id,pub,n,th,.ar,[],.ar,[]⟩:=
 ⟨⟨Sl.nil,(fun c hc=>(zzo hc).elim),zzs _⟩,Sl.nil,(fun c hc=>(zzo hc).elim),h,(fun t ht=>(zzo ht).elim),zzs _⟩
theorem yF{lo:Nat}{r:Rec}{k id pub:Int}{n:Nat}{th:Bool}(h:n<18446744073709551616)(e1:k=r.sort)(e2:id=r.id)(e3:pub=r.pub)(e4:n=r.n)(e5:th=r.there)(e6:r.cs=[])(e7:r.st=[]):Got lo r ⟨k,id,pub,n,th,.ar,[],.ar,[]⟩ S:=
 ⟨⟨e1,e2,e3,e4,e5,by rw[e6],by rw[e7]⟩,Yc h,fun id e=>by
  rcases e with (e|⟨c,hc,_⟩)|e
  .exact absurd e (by show ¬(0=_+1);omega)
  .cases hc
  .exact absurd e (by show ¬(0=_+1);omega)⟩
theorem ui.below{S0:AS}{bp bo bx p:Nat}{c:List AV}{bs:List Nat}(h:ui S0 bp bo bx p B c bs S)(hs:∀id,id<S0.nx->T.h.get id=S.h.get id)(hn:S.nx<=T.nx):ui S0 bp bo bx p B c bs T:=by
 have h1:=h.pl;have h2:=h.Bl;exact⟨(hs _ h.lp).trans h.gp,(hs _ h.lo).trans h.go,(hs _ h.lx).trans h.gx,h.rd.agree (fun id e=>hs id (by rcases e with e|e<;>omega)) hn,⟨fun id a b=>(hs id a).trans (h.kp.h id a b),Nat.le_trans h.kp.nx hn⟩,
  h.lp,h.lo,h.lx,h.pp,h.op,h.xp,h.po,h.px,h.ox,h.Bp,h.Bo,h.Bx,h.pl,h.Bl⟩
def jfP(U1 V:AS)(b v:AV)(ks:List dH)(b2 bp bo bx p B ki k:Nat)(r:Rec)(m:Nat)(F':Fr)(S':AS):Prop:=
 ∃(j:Nat)(w:AV),ui U1 bp bo bx p B [.int .i64 k,.int .i64 ki,.int .i64 0,.int .u64 0,.bool false,v,w] ((r.st.drop j).flatMap fB) S'/\Gw S' w 2 52 ((r.st.take j).flatMap eJ)/\(aE w=0\/V.nx<aE w)/\aB S' v ks/\V.nx<=S'.nx /\
  sl F' 0=b/\sl F' 2=.ptr b2 0 0 7/\sl F' 4=.ptr bp 0 0 1/\sl F' 5=.ptr bo 0 0 1/\sl F' 6=.func (.func 98) [] [.ptr bp 0 0 1,.ptr bo 0 0 1]/\sl F' 8=.ptr bx 0 0 7/\sl F' 9=.int .u64 (r.st.length-j:Nat)/\F'.n=109/\j<=r.st.length/\m=r.st.length-j
theorem Mf{U1 V:AS}{b v:AV}{ks:List dH}{b2 bp bo bx p ki k:Nat}{r:Rec}{m:Nat}{F':Fr}(j:Nat)(w:AV)(h1:ui U1 bp bo bx p B [.int .i64 k,.int .i64 ki,.int .i64 0,.int .u64 0,.bool false,v,w] ((r.st.drop j).flatMap fB) T)(h2:Gw T w 2 52 ((r.st.take j).flatMap eJ))(h3:aE w=0\/V.nx<aE w)(h4:aB T v ks)(h5:V.nx<=T.nx)
  (h6:sl F' 0=b) (h7:sl F' 2=.ptr b2 0 0 7) (h8:sl F' 4=.ptr bp 0 0 1) (h9:sl F' 5=.ptr bo 0 0 1) (Ez:sl F' 6=.func (.func 98) [] [.ptr bp 0 0 1,.ptr bo 0 0 1]) (Vo:sl F' 8=.ptr bx 0 0 7) (h12:sl F' 9=.int .u64 (r.st.length-j:Nat)) (h13:F'.n=109) (h14:j<=r.st.length) (h15:m=r.st.length-j):jfP U1 V b v ks b2 bp bo bx p B ki k r m F' T:=
 ⟨j,w,h1,h2,h3,h4,h5,h6,h7,h8,h9,Ez,Vo,h12,h13,h14,h15⟩
theorem nt50:Tryz.f50.ntmps=109:=by kernel_rfl
theorem SV{b:AV}{r:Rec}(hb:Sl S b 1 (aq (cX r)))(hr:fQ r):
  ah C1 50 [b] S fun v T=>∃r',v=.tuple [.agg r'.c,.bool true]/\Got S.nx r r' T/\Sub S T:=by
 have hlen:=oq hr;obtain⟨b2,Eu⟩:∃b2,b2=S.nx:=⟨_,rfl⟩
 obtain⟨S1,bC⟩:∃S1:AS,S1=⟨S.h.set b2 (.row [.int .i64 0,.int .i64 0,.int .i64 0,.int .u64 0,.bool false,.ar,.ar] 0 0 false 115),b2+1⟩:=⟨_,rfl⟩
 have s1:Sub S S1:=by rw[bC,Eu];exact seg.cq
 have g1:S1.h.get b2=some (.row Ry 0 0 false 115):=by rw[bC];exact aa _ _ _
 have n1:S1.nx=b2+1:=by rw[bC]
 have fR:=bC.symm;clear bC;obtain⟨u,T,⟨hT,p,B,rfl,q1,q2,q3⟩,e97⟩:=(jbx (hb.toSub s1) (by omega)).ex;have HB:=hT.nx;have q1l:=q1.lt;have q1B:=q1.le;obtain⟨bp,hbp⟩:∃bp,bp=T.nx:=⟨_,rfl⟩
 obtain⟨T1,iD⟩:∃T1:AS,T1=⟨(T.h.set bp (.row [.ck] 0 0 false 180)).set bp (.row [.ptr p 0 0 2] 0 0 false 180),bp+1⟩:=⟨_,rfl⟩
 have t1:Sub T T1:=by rw[iD,hbp];exact seg.gF
 have gp1:T1.h.get bp=some (.row [.ptr p 0 0 2] 0 0 false 180):=by rw[iD];exact aa _ _ _
 have nT1:T1.nx=bp+1:=by rw[iD]
 have Bu:=iD.symm;clear iD;obtain⟨bo,hbo⟩:∃bo,bo=T1.nx:=⟨_,rfl⟩
 obtain⟨T2,iC⟩:∃T2:AS,T2=⟨(T1.h.set bo (.row [.bool false] 0 0 false 4)).set bo (.row [.bool true] 0 0 false 4),bo+1⟩:=⟨_,rfl⟩
 have t2:Sub T1 T2:=by rw[iC,hbo];exact seg.gF
 have go2:T2.h.get bo=some (.row [.bool true] 0 0 false 4):=by rw[iC];exact aa _ _ _
 have nT2:T2.nx=bo+1:=by rw[iC]
 have QP:=iC.symm;clear iC;have gp2:=(t2.h _ (by omega)).trans gp1;have q2':=(q1.sub t1).sub t2;unfold cX at q2';obtain⟨k,hk⟩:∃k,k=uN r.sort:=⟨_,rfl⟩
 rw[<-hk]at q2';have jbG:1<=r.sort/\r.sort<=5:=by rcases hr.case with h|h|h|h|h<;>have:=h.1<;>omega
 have BQ:(k:Int)=r.sort:=by rw[hk];exact mu (by omega) (by omega)
 obtain⟨v,U,⟨rfl,u1,u2⟩,e98⟩:=(jbw gp2 go2 q2' (by omega) (by omega) (by omega) (by omega)).ex;have u2n:=u2.nx;obtain⟨bx,hbx⟩:∃bx,bx=U.nx:=⟨_,rfl⟩
 obtain⟨U1,Jf⟩:∃U1:AS,U1=⟨(U.h.set bx (.row [.int .i64 0,.int .i64 0,.int .i64 0,.int .u64 0,.bool false,.ar,.ar] 0 0 false 115)).set bx (.row [.int .i64 k,.int .i64 0,.int .i64 0,.int .u64 0,.bool false,.ar,.ar] 0 0 false 115),bx+1⟩:=⟨_,rfl⟩
 have s5:Sub U U1:=by rw[Jf,hbx];exact seg.gF
 have gx1:U1.h.get bx=some (.row [.int .i64 k,.int .i64 0,.int .i64 0,.int .u64 0,.bool false,.ar,.ar] 0 0 false 115):=by rw[Jf];exact aa _ _ _
 have nU1:U1.nx=bx+1:=by rw[Jf]
 have bU1:=Jf.symm;clear Jf;have Rm:IntKind.i64.wrap (k:Int)=k:=IntWalk.i64_in _ (by omega);have vX:ui U1 bp bo bx p B [.int .i64 k,.int .i64 0,.int .i64 0,.int .u64 0,.bool false,.ar,.ar] (xr r) U1:=
  ⟨(s5.h _ (by omega)).trans ((u2.h _ (by omega) (by omega)).trans gp2),(s5.h _ (by omega)).trans ((u2.h _ (by omega) (by omega)).trans go2),gx1,u1.sub s5,⟨fun _ _ _=>rfl,zzi _⟩,
   by omega,by omega,by omega,by omega,by omega,by omega,by omega,by omega,by omega,by omega,by omega,by omega,by omega,by omega⟩
 have gb2:U1.h.get b2=some (.row Ry 0 0 false 115):=by
  rw[s5.h _ (by omega),u2.h _ (by omega) (by omega),t2.h _ (by omega),t1.h _ (by omega),hT.h _ (by omega)];exact g1
 have Nm:∀id,id<S.nx->U1.h.get id=S.h.get id:=fun id hi=>by
  rw[s5.h _ (by omega),u2.h _ (by omega) (by omega),t2.h _ (by omega),t1.h _ (by omega),hT.h _ (by omega),s1.h _ hi]
 have hbo':=hb.old;have kb:=aj hb;refine aL (cK _) (cM _ rfl) fn50 rfl ok50 (by simp) fun F rq t0=>?_;rw[nt50]at rq;simp[-mb,t0,<-Eu,fR,aP,e97,<-hbp,Bu,<-hbo,QP,e98,Rm,jfi,<-hbx,bU1,gx1];refine nK (jgj S U1 b b2 bp bo bx p B r) ?_ ?_
 .obtain⟨ki,hki⟩:∃ki,ki=uN r.id:=⟨_,rfl⟩
  obtain⟨kp,KU⟩:∃kp,kp=uN r.pub:=⟨_,rfl⟩
  have UU:(ki:Int)=r.id:=by rw[hki];exact mu hr.id.1 hr.id.2
  have hkp':(kp:Int)=r.pub:=by rw[KU];exact mu hr.pub.1 hr.pub.2
  have hki2:=hr.id;have hkp2:=hr.pub;have hrn:=hr.n;have lH:IntKind.i64.wrap (ki:Int)=ki:=IntWalk.i64_in _ (by omega);have hwp:IntKind.i64.wrap (kp:Int)=kp:=IntWalk.i64_in _ (by omega);unfold xr at vX;rw[<-hki,<-KU]at vX;rcases hr.case with⟨c1,c2,c3,c4,c5,c6⟩|⟨c1,c2,c3,c4⟩|⟨c1,c2,c3,c4,c5,c6⟩|⟨c1,c2,c3,c4⟩|⟨c1,c2,c3,c4⟩
  .rw[if_pos c1]at vX;have f1:=eq_true (show (k:Int)=1 by omega);have Xp:=eq_true (show k=1 by omega);obtain⟨U2,e2,p2,k2⟩:=ui.num (n:=r.n) (bs:=[]) (by rw[zzg];exact vX) hr.n;have gx2:=p2.gx;simp[t0,gx1,f1,Xp,aP,e2,gx2];exact rX ⟨k,0,0,r.n,false,.ar,[],.ar,[]⟩ p2.put (yF (by omega) BQ c2.symm c3.symm rfl c4.symm c5 c6) (by simp[t0]) (by simp) (by simp) (by simp) (by simp) (by simp[rq])
  .rw[if_neg (by omega),if_pos c1,wJ hr.may,zzb,zzb]at vX;have f1:=eq_false (show ¬(k:Int)=1 by omega);have Xp:=eq_false (show ¬k=1 by omega);have f2:=eq_true (show (k:Int)=2 by omega);have f2N:=eq_true (show k=2 by omega);have kS:=tH hr.may hr.num;have hst8:=hr.st8;have nst:=oz (n:=r.st.length) (by omega);have vG:=dZ (f:=fB) (k:=20) (l:=r.st) fun t ht=>tC (by have:=hr.Fu t ht;omega);have jiM:r.st.length*20<=8*20:=zzf _ hst8;obtain⟨U2,e2,p2,k2⟩:=vX.num (by omega);obtain⟨v,ks,U3,e3,v1,v2,v3,p3,k3⟩:=p2.form hr.may hr.num (by omega) (by rw[zza];omega);have gx3:=p3.gx;have kv:=aj v1.sl;obtain⟨V,hV⟩:∃V:AS,V=⟨(U3.h.set bx (.row [.int .i64 k,.int .i64 ki,.int .i64 0,.int .u64 0,.bool false,.ar,.ar] 0 0 false 115)).set bx (.row [.int .i64 k,.int .i64 ki,.int .i64 0,.int .u64 0,.bool false,v,.ar] 0 0 false 115),U3.nx⟩:=⟨_,rfl⟩
   have pV:ui U1 bp bo bx p B [.int .i64 k,.int .i64 ki,.int .i64 0,.int .u64 0,.bool false,v,.ar] (bu r.st.length++r.st.flatMap fB) V:=by rw[hV];exact p3.put.put
   have oV:∀id,id≠bx->V.h.get id=U3.h.get id:=fun id e=>by rw[hV];exact (ae _ _ e).trans (ae _ _ e)
   have nV:V.nx=U3.nx:=by rw[hV]
   have bV:=hV.symm;clear hV;have hlx:=pV.lx;have hVn:=pV.kp.nx;have hk2n:=p2.kp.nx;have vV:aB V v ks:=aB.agree v1 (fun id e=>oV id (by have:=v3 id e;omega)) (by omega);obtain⟨U4,e4,p4,k4⟩:=pV.num (by omega);have e4:∀Q:AV->AS->Prop,ah C1 98 [.ptr bp 0 0 1,.ptr bo 0 0 1] V Q=Q (.int .u64 r.st.length) U4:=e4;have k4n:=k4.nx;have hpl':=p4.pl;have v4:aB U4 v ks:=aB.agree vV (fun id e=>k4.h id (aB.aU vV e) (by have:=v3 id e;omega)) k4n;have vlt:∀id,aW v ks id->id<V.nx:=fun id e=>aB.aU vV e;have sR:bh C1 U4 .min [27,27] [.int .u64 r.st.length,.int .u64 9]=.val (.int .u64 r.st.length) U4:=by rw[MH,if_neg (by omega)]
   simp[t0,gx1,f1,Xp,f2,f2N,aP,e2,e3,lH,gx3,kv,v1.sl.np,v1.sl.cells,bV,e4,sR];refine aT (jfP U1 V b v ks b2 bp bo bx p B ki k r) r.st.length (Mf 0 .ar p4 Gw.nil (.inl rfl) v4 (by omega) (by simp[t0]) (by simp) (by simp) (by simp) (by simp) (by simp) (by simp) (by simp[rq]) (zzs _) rfl) ?_;clear p4 e4 sR v4 k4 k4n t0 rq e2 e3 gx3 bV;rintro m F' S'-⟨j,w,q1,q2,q3,q4,q5,t0,t2,t4,t5,t6,t8,t9,rq,hj,hm⟩;have gxS:=q1.gx;have goS:=q1.go;obtain⟨L,hL⟩:∃L,L=r.st.length-j:=⟨_,rfl⟩
   rw[<-hL]at t9;by_cases hj':j<r.st.length
   case neg=>
    obtain rfl:j=r.st.length:=by omega
    have hL0:L=0:=by omega
    rw[zqe,zzq]at q1;rw[zqc]at q2;rw[hL0]at t9;simp[t0,t2,t4,t5,t6,t8,t9];refine rX ⟨k,ki,0,0,false,v,ks,w,r.st⟩ q1 ⟨⟨BQ,UU,c2.symm,c3.symm,c4.symm,v2,rfl⟩,⟨q4,q2.1,mG v2 hr.num,by show (0:Nat)<18446744073709551616;decide,fun t ht=>by have:=hr.Fu t ht;show t.2<_;omega,by show r.st.length<=_;omega⟩,fun id e=>?_⟩ (by simp[t0]) (by simp[t2]) (by simp[t4]) (by simp[t5]) (by simp[t8]) (by simp[rq]);rcases e with e|e
    .have:=v3 id e;omega
    .have e:aE w=id+1:=e;omega
   have hLI:(0:Int)<L:=by omega
   have hLN:0<L:=by omega
   have hx:r.st[j]?=some r.st[j]:=zqi hj';obtain⟨Zj,ht2,ht3⟩:=hr.Fu _ (zqd hj');have hd:r.st.drop j=r.st[j]::r.st.drop (j+1):=zzw hj';rw[hd,zzm]at q1;obtain⟨t,ht⟩:∃t,t=r.st[j]:=⟨_,rfl⟩
   rw[<-ht]at q1 Zj ht2 ht3;unfold fB at q1;rw[zzb]at q1;obtain⟨kt,hkt⟩:∃kt,kt=uN t.1:=⟨_,rfl⟩
   have hkt':(kt:Int)=t.1:=by rw[hkt];exact mu Zj ht2
   rw[<-hkt]at q1;obtain⟨U5,e5,p5,k5⟩:=q1.num (by omega);obtain⟨U6,e6,p6,k6⟩:=p5.num ht3;have k56:=k5.trans k6;have k56n:=k56.nx;have k5n:=k5.nx;have hqo:=q2.1.old;have jio:=q1.pl;have q2':Gw U6 w 2 52 ((r.st.take j).flatMap eJ):=q2.agree (fun id e=>k56.h id (by omega) (by omega)) k56n;have PX:sLen w=j:=by
    have:=q2.1.aO cd (by omega);rw[this,zzp];omega
   have hwt:IntKind.i64.wrap (kt:Int)=kt:=IntWalk.i64_in _ (by omega);obtain⟨U7,hU7⟩:∃U7:AS,U7=⟨U6.h.set U6.nx (.row [.int .i64 kt,.int .u64 t.2] 0 0 false 52),U6.nx+1⟩:=⟨_,rfl⟩
   have s7:Sub U6 U7:=by rw[hU7];exact seg.cq
   have x7:U7.h.get U6.nx=some (.row [.int .i64 kt,.int .u64 t.2] 0 0 false 52):=by rw[hU7];exact aa _ _ _
   have n7:U7.nx=U6.nx+1:=by rw[hU7]
   have bU7:=hU7.symm;clear hU7;have henc:eJ t=[.int .i64 kt,.int .u64 t.2]:=by unfold eJ;rw[hkt']
   have Ey:Sl U7 (.slice U6.nx 0 0 1 2 2 (some 1)) 2 (eJ t):=
    ⟨by simp[isSl,eV],by rw[henc];simp[kR,dN,x7,bB],by simp[sLen,cd],by simp[aE,n7]⟩
   obtain⟨w',U8,e8,g8,o8,n8,l8,_,b8,_⟩:=fo (cx:=C1) (S:=U7) (t:=48) (u:=48) (ts:=[]) (p:=(52,2,16)) (v:=w) (x:=.slice U6.nx 0 0 1 2 2 (some 1)) XP jfC rfl (q2'.agree (fun id e=>s7.h id (by omega)) s7.nx) Ey (by rw[PX];simp[fits,cY,sLen];omega);have he:(r.st.take j).flatMap eJ++eJ t=(r.st.take (j+1)).flatMap eJ:=by rw[zzu hj',zzy,zzm,zzq,zzg,<-ht]
   rw[he]at g8;have jJ:∀(F:Fr)(D:Nat)(y:Tmp),sl F y=.agg [.int .i64 kt,.int .u64 t.2]->aD C1 F D (.buildSlice 48 1 #[(0,.tmp y)])=some (.slice D 0 0 1 2 2 (some 1),.row [.int .i64 kt,.int .u64 t.2] 0 0 false 52):=fun F D y a0=>by
    have:=cg (cx:=C1) (F:=F) (t:=48) (p:=(52,2,16)) (id:=D) (n:=1) (a:=#[(0,.tmp y)]) [[.int .i64 kt,.int .u64 t.2]] XP rfl (by simp[a0,cellsOf]) (by simp) (by decide);rw[this];simp
   have hb52:dr C1 52 [(0,.int .i64 kt),(1,.int .u64 t.2)]=some (.agg [.int .i64 kt,.int .u64 t.2]):=by kernel_rfl
   have p8:ui U1 bp bo bx p B [.int .i64 k,.int .i64 ki,.int .i64 0,.int .u64 0,.bool false,v,w] ((r.st.drop (j+1)).flatMap fB) U8:=by
    have hk6:=p6.kp.nx;exact p6.below (fun id h=>(o8 id (by omega) (by omega)).trans (s7.h id (by omega))) (by omega)
   have gx5:=p5.gx;have gx6:=p6.gx;have gx7:=(s7.h _ (by have:=p6.lx;have:=p6.kp.nx;omega)).trans gx6;have gx8:=p8.gx;obtain⟨U9,hU9⟩:∃U9:AS,U9=⟨U8.h.set bx (.row [.int .i64 k,.int .i64 ki,.int .i64 0,.int .u64 0,.bool false,v,w'] 0 0 false 115),U8.nx⟩:=⟨_,rfl⟩
   have p9:ui U1 bp bo bx p B [.int .i64 k,.int .i64 ki,.int .i64 0,.int .u64 0,.bool false,v,w'] ((r.st.drop (j+1)).flatMap fB) U9:=by rw[hU9];exact p8.put
   have o9:∀id,id≠bx->U9.h.get id=U8.h.get id:=fun id e=>by rw[hU9];exact ae _ _ e
   have n9:U9.nx=U8.nx:=by rw[hU9]
   have bU9:=hU9.symm;clear hU9;have v9:aB U9 v ks:=by
    refine aB.agree q4 (fun id e=>?_) (by omega);have h1:=vlt id e;have h2:=v3 id e;rw[o9 _ (by omega),o8 _ (by omega) (by omega),s7.h _ (by omega),k56.h id (by omega) (by omega)]
   have k1:=aj q2.1;have k2':=aj g8.1;have xW:IntKind.u64.wrap ((L:Int)-1)=((L-1:Nat):Int):=by
    have:=gD (n:=L-1) (by omega);rw[show (L:Int)-1=((L-1:Nat):Int) by omega];exact this
   simp[t0,t2,t4,t5,t6,t8,t9,hLI,hLN,goS,aP,e5,hwt];refine cu [.p,.r 0 2,.p,.p,.e [],.p,.e [],.e [],.p,.e []] (n:=109) (by kernel_rfl) (by simp[rq]) ?_;simp[t0,t2,t4,t5,t6,t8,t9,aP,gx5,gx6,gx7,gx8,e6,hb52,jJ,bU7,e8,k1,k2',g8.1.np,g8.1.cells,bU9,xW];have hL1:L-1=r.st.length-(j+1):=by omega
   exact⟨r.st.length-(j+1),by omega,Mf (j+1) w' p9 (g8.agree (fun id e=>o9 id (by omega)) (by omega)) (by omega) v9 (by omega) (by simp[t0]) (by simp[t2]) (by simp[t4]) (by simp[t5]) (by simp[t6]) (by simp[t8]) (by simp[hL1]) (by simp[rq]) hj' rfl⟩
  .rw[if_neg (by omega),if_neg (by omega),if_pos c1]at vX;have f1:=eq_false (show ¬(k:Int)=1 by omega);have Xp:=eq_false (show ¬k=1 by omega);have f2:=eq_false (show ¬(k:Int)=2 by omega);have f2N:=eq_false (show ¬k=2 by omega);have f3:=eq_true (show (k:Int)=3 by omega);have f3N:=eq_true (show k=3 by omega);obtain⟨U2,e2,p2,k2⟩:=ui.num (n:=ki) (bs:=[]) (by rw[zzg];exact vX) (by omega);have gx2:=p2.gx;simp[t0,gx1,f1,Xp,f2,f2N,f3,f3N,aP,e2,lH,gx2];exact rX ⟨k,ki,0,0,false,.ar,[],.ar,[]⟩ p2.put (yF (by omega) BQ UU c2.symm c3.symm c4.symm c5 c6) (by simp[t0]) (by simp) (by simp) (by simp) (by simp) (by simp[rq])
  .rw[if_neg (by omega),if_neg (by omega),if_neg (by omega),if_pos c1,zzb]at vX;have f1:=eq_false (show ¬(k:Int)=1 by omega);have Xp:=eq_false (show ¬k=1 by omega);have f2:=eq_false (show ¬(k:Int)=2 by omega);have f2N:=eq_false (show ¬k=2 by omega);have f3:=eq_false (show ¬(k:Int)=3 by omega);have f3N:=eq_false (show ¬k=3 by omega);have f4:=eq_true (show (k:Int)=4 by omega);have f4N:=eq_true (show k=4 by omega);obtain⟨U2,e2,p2,k2⟩:=vX.num (by omega);obtain⟨U3,e3,p3,k3⟩:=p2.num hr.n;have gx3:=p3.gx;obtain⟨V,hV⟩:∃V:AS,V=⟨(U3.h.set bx (.row [.int .i64 k,.int .i64 ki,.int .i64 0,.int .u64 0,.bool false,.ar,.ar] 0 0 false 115)).set bx (.row [.int .i64 k,.int .i64 ki,.int .i64 0,.int .u64 r.n,.bool false,.ar,.ar] 0 0 false 115),U3.nx⟩:=⟨_,rfl⟩
   have pV:ui U1 bp bo bx p B [.int .i64 k,.int .i64 ki,.int .i64 0,.int .u64 r.n,.bool false,.ar,.ar] (if r.there then bu 1++iK (iX r.cs) else bu 0) V:=by rw[hV];exact p3.put.put
   have bV:=hV.symm;clear hV;cases ht:r.there with
   |false=>
    rw[ht,if_neg (by decide)]at pV;obtain⟨U4,e4,p4,k4⟩:=ui.num (n:=0) (bs:=[]) (by rw[zzg];exact pV) (by omega);have e4:∀Q:AV->AS->Prop,ah C1 98 [.ptr bp 0 0 1,.ptr bo 0 0 1] V Q=Q (.int .u64 0) U4:=e4;have gx4:=p4.gx;simp[t0,gx1,f1,Xp,f2,f2N,f3,f3N,f4,f4N,aP,e2,e3,lH,gx3,bV,e4,gx4];exact rX ⟨k,ki,0,r.n,false,.ar,[],.ar,[]⟩ p4.put (yF (by omega) BQ UU c2.symm rfl ht.symm (c4 ht) c3) (by simp[t0]) (by simp) (by simp) (by simp) (by simp) (by simp[rq])
   |true=>
    rw[ht,if_pos rfl,wJ hr.may]at pV;obtain⟨U4,e4,p4,k4⟩:=ui.num (n:=1) pV (by omega);have e4:∀Q:AV->AS->Prop,ah C1 98 [.ptr bp 0 0 1,.ptr bo 0 0 1] V Q=Q (.int .u64 1) U4:=e4;have gx4:=p4.gx;obtain⟨W,hW⟩:∃W:AS,W=⟨U4.h.set bx (.row [.int .i64 k,.int .i64 ki,.int .i64 0,.int .u64 r.n,.bool true,.ar,.ar] 0 0 false 115),U4.nx⟩:=⟨_,rfl⟩
    have pW:ui U1 bp bo bx p B [.int .i64 k,.int .i64 ki,.int .i64 0,.int .u64 r.n,.bool true,.ar,.ar] (iK (fa r.cs)) W:=by rw[hW];exact p4.put
    have bW:=hW.symm;have gW:=pW.gx;clear hW;obtain⟨v,ks,U5,e5,v1,v2,v3,p5,k5⟩:=ui.form (bs:=[]) (by rw[zzg];exact pW) hr.may hr.num (by have:=tH hr.may hr.num;omega) (by simp);have gx5:=p5.gx;have kv:=aj v1.sl;have hWn:=pW.kp.nx;simp[t0,gx1,f1,Xp,f2,f2N,f3,f3N,f4,f4N,aP,e2,e3,lH,gx3,bV,e4,gx4,bW,gW,e5,kv,v1.sl.np,v1.sl.cells,gx5];have hpar:=p5.put (c':=(⟨k,ki,0,r.n,true,v,ks,.ar,[]⟩:Rec).c);refine rX ⟨k,ki,0,r.n,true,v,ks,.ar,[]⟩ hpar ⟨⟨BQ,UU,c2.symm,rfl,ht.symm,v2,c3.symm⟩,⟨?_,Sl.nil,mG v2 hr.num,by show r.n<_;omega,(fun t ht=>(zzo ht).elim),zzs _⟩,fun id e=>?_⟩ (by simp[t0]) (by simp) (by simp) (by simp) (by simp) (by simp[rq])
    .exact aB.agree v1 (fun id e=>ae _ _ (by have:=v3 id e;have:=pW.lx;omega)) (zzi _)
    .rcases e with e|e
     .have:=v3 id e;omega
     .exact absurd e (by show ¬(0=_+1);omega)
  .rw[if_neg (by omega),if_neg (by omega),if_neg (by omega),if_neg (by omega),if_pos c1,zzb]at vX;have f1:=eq_false (show ¬(k:Int)=1 by omega);have Xp:=eq_false (show ¬k=1 by omega);have f2:=eq_false (show ¬(k:Int)=2 by omega);have f2N:=eq_false (show ¬k=2 by omega);have f3:=eq_false (show ¬(k:Int)=3 by omega);have f3N:=eq_false (show ¬k=3 by omega);have f4:=eq_false (show ¬(k:Int)=4 by omega);have f4N:=eq_false (show ¬k=4 by omega);have f5:=eq_true (show (k:Int)=5 by omega);have f5N:=eq_true (show k=5 by omega);obtain⟨U2,e2,p2,k2⟩:=vX.num (by omega);obtain⟨U3,e3,p3,k3⟩:=p2.num (by omega);obtain⟨U4,e4,p4,k4⟩:=ui.num (n:=r.n) (bs:=[]) (by rw[zzg];exact p3) hr.n;have gx4:=p4.gx;simp[t0,gx1,f1,Xp,f2,f2N,f3,f3N,f4,f4N,f5,f5N,aP,e2,e3,e4,lH,hwp,gx4];exact rX ⟨k,ki,kp,r.n,false,.ar,[],.ar,[]⟩ p4.put.put.put (yF (by omega) BQ UU hkp' rfl c2.symm c3 c4) (by simp[t0]) (by simp) (by simp) (by simp) (by simp) (by simp[rq])
 .rintro F' S' ⟨r',h1,h2,t0,t2,t4,t5,t8,hn⟩;clear rq vX;have M8:=h1.kp.nx;have e103:∀Q:AV->AS->Prop,ah C1 103 [.ptr p 0 0 2] S' Q=Q (.int .i64 0) S':=Y7 h1.rd;obtain⟨w,W,⟨w1,w2,w3⟩,H0⟩:=(AP h2.at_ (by rw[h2.eq.st];exact hr.st8)).ex;rw[Mn h2.eq]at w3;have gx':=h1.gx;have go':=h1.go;have gp':=h1.gp;have hSS:∀id,id<S.nx->S'.h.get id=S.h.get id:=fun id hi=>(h1.kp.h id (by omega) (by omega)).trans (Nm id hi);have b2S:=(h1.kp.h b2 (by omega) (by omega)).trans gb2;have b2W:=(w1.h _ (by omega)).trans b2S;have hbS:Sl S' b 1 (aq (cX r)):=hb.agree (T:=S') (fun id e=>hSS id (by omega)) (by omega);have hbW:Sl W b 1 (aq (cX r)):=hbS.toSub w1;have KZ:=nz hr.num;have tx:=fun (F:Fr) (dst:Option Tmp) (ty:TypeId) (pos:String) (af:Array Edge) (gd:Option (Nat×Bool)) (y:Tmp) (e:sl F y=w)=>ly (cx:=C1) (F:=F) (S:=W) (dst:=dst) (ty:=ty) (pos:=pos) (af:=af) (gd:=gd) (a:=32) (b:=9) w3.1 KZ ((aI F y).trans e) IE OP;have tx2:=fun (F:Fr) (dst:Option Tmp) (ty:TypeId) (pos:String) (af:Array Edge) (gd:Option (Nat×Bool)) (y:Tmp) (e:sl F y=b)=>ly (cx:=C1) (F:=F) (S:=W) (dst:=dst) (ty:=ty) (pos:=pos) (af:=af) (gd:=gd) (a:=32) (b:=9) hbW KZ ((aI F y).trans e) IE OP;have hq:B3 .eql (cX r) (cX r)=some (.bool true):=by
   show some (AV.bool (tV _ _))=_;rw[lK,decide_eq_true rfl]
  have gxW:=(w1.h _ (by have:=h1.lx;omega)).trans gx';have goW:=(w1.h _ (by have:=h1.lo;omega)).trans go';have gpW:=(w1.h _ (by have:=h1.lp;omega)).trans gp';obtain⟨Z,hZ⟩:∃Z:AS,Z=⟨W.h.set b2 (.row r'.c 0 0 false 115),W.nx⟩:=⟨_,rfl⟩
  have bZ:=hZ.symm;have oZ:∀id,id≠b2->Z.h.get id=W.h.get id:=fun id e=>by rw[hZ];exact ae _ _ e
  have nZ:Z.nx=W.nx:=by rw[hZ]
  have gZ:Z.h.get b2=some (.row r'.c 0 0 false 115):=by rw[hZ];exact aa _ _ _
  clear hZ;have w1n:=w1.nx;have fin:Got S.nx r r' Z/\Sub S Z:=by
   refine⟨⟨h2.eq,(h2.agree (T:=Z) (fun id vH rz=>?_) (by omega)).at_,fun id e=>by have:=h2.aU id e;omega⟩,⟨fun id hi=>?_,by omega⟩⟩
   .rw[oZ _ (by omega),w1.h _ rz]
   .rw[oZ _ (by omega),w1.h _ (by omega),hSS id hi]
  have hwo:b2+1≠aE w:=by unfold jI at w2;omega
  have wZ:Sl Z w 1 (aq (cX r)):=w3.1.agree (fun id e=>oZ id (by omega)) (by omega);have bZ':Sl Z b 1 (aq (cX r)):=hbW.agree (fun id e=>oZ id (by omega)) (by omega);have tx3:=fun (F:Fr) (dst:Option Tmp) (ty:TypeId) (pos:String) (af:Array Edge) (gd:Option (Nat×Bool)) (y:Tmp) (e:sl F y=w)=>ly (cx:=C1) (F:=F) (S:=Z) (dst:=dst) (ty:=ty) (pos:=pos) (af:=af) (gd:=gd) (a:=32) (b:=9) wZ KZ ((aI F y).trans e) IE OP;have tx4:=fun (F:Fr) (dst:Option Tmp) (ty:TypeId) (pos:String) (af:Array Edge) (gd:Option (Nat×Bool)) (y:Tmp) (e:sl F y=b)=>ly (cx:=C1) (F:=F) (S:=Z) (dst:=dst) (ty:=ty) (pos:=pos) (af:=af) (gd:=gd) (a:=32) (b:=9) bZ' KZ ((aI F y).trans e) IE OP;have tx5:=fun (F:Fr) (dst:Option Tmp) (ty:TypeId) (pos:String) (af:Array Edge) (gd:Option (Nat×Bool)) (y:Tmp) (e:sl F y=b)=>ly (cx:=C1) (F:=F) (S:=S') (dst:=dst) (ty:=ty) (pos:=pos) (af:=af) (gd:=gd) (a:=32) (b:=9) hbS KZ ((aI F y).trans e) IE OP;have kb1:=h2.at_.pred.sl.base;have kb2:=h2.at_.sl.base;unfold kg at kb1 kb2;have k1:=aj h2.at_.pred.sl;have k2:=aj h2.at_.sl;have k3:=h2.at_.pred.sl.cells;have k4:=h2.at_.sl.cells;have k5:=aj w3.1;simp only[Rec.c]at gx' gxW H0 bZ gZ;unfold Ry at b2W b2S;simp[iA,t0,t2,t4,t5,t8];refine cu [.r 0 2,.r 0 0,.p,.r 0 0,.e [],.p,.p,.p,.r 0 0,.e [],.r 0 1,.p,.r 1 1,.p,.p,.e [],.p] (n:=109) (by kernel_rfl) (by simp[hn]) ?_;simp[t0,t2,t4,t5,t8,gx',go',gp',aP,e103,H0,k1,k2,k3,k4,k5,kb,w3.1.np,tx,tx2,hq,E5,gxW,goW,gpW,b2W,bZ,gZ,kb1,kb2,tx3,tx4,tx5];rw[<-Eu]at fin;exact⟨r',rfl,fin⟩
end
end Go.Proofs.YtdknlbnljfdhgaaGreatDoor.bk
