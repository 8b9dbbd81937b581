/-
  The facts of types and functions that the reading of a book wants.
-/
import Derived.Test.YtdknlbnljfdhgaaGreatDoorPartD
import Derived.Test.YtdknlbnljfdhgaaGreatDoorAmOne
import Derived.Test.YtdknlbnljfdhgaaGreatDoorAmIter
namespace Go.Proofs.YtdknlbnljfdhgaaGreatDoor.bk
open Go Go.Am Go.Proofs.YtdknlbnljfdhgaaGreatDoor.dk
set_option linter.unusedVariables false
set_option linter.unusedSimpArgs false
theorem fn14:C1.fns.get 14=some Tryz.f14:=by kernel_rfl
theorem ok14:codeOk C1 Tryz.f14.ntmps (Tryz.f14.body.getD .skip)=true:=by kernel_rfl
theorem fn15:C1.fns.get 15=some Tryz.f15:=by kernel_rfl
theorem ok15:codeOk C1 Tryz.f15.ntmps (Tryz.f15.body.getD .skip)=true:=by kernel_rfl
@[simp] theorem sq:oz C1 31=some (133,1,2):=by kernel_rfl
@[simp] theorem ag133:aG C1 133=some false:=by kernel_rfl
@[simp] theorem sz133:aE C1 133=some 1:=by kernel_rfl
@[simp] theorem cv133_3:jY C1 133 3=some .i64:=by kernel_rfl
theorem fn20:C1.fns.get 20=some Tryz.f20:=by kernel_rfl
theorem ok20:codeOk C1 Tryz.f20.ntmps (Tryz.f20.body.getD .skip)=true:=by kernel_rfl
theorem fn49:C1.fns.get 49=some Tryz.f49:=by kernel_rfl
theorem ok49:codeOk C1 Tryz.f49.ntmps (Tryz.f49.body.getD .skip)=true:=by kernel_rfl
@[simp] theorem sz111:aE C1 111=some 1:=by kernel_rfl
@[simp] theorem ze111:zeroOf C1 111=some (.aq):=by kernel_rfl
@[simp] theorem ze3:zeroOf C1 3=some (.int .i64 0):=by kernel_rfl
@[simp] theorem ag111:aG C1 111=some false:=by kernel_rfl
@[simp] theorem un111:bC C1 111=some (.slice 32):=by kernel_rfl
theorem fn57:C1.fns.get 57=some Tryz.f57:=by kernel_rfl
theorem ok57:codeOk C1 Tryz.f57.ntmps (Tryz.f57.body.getD .skip)=true:=by kernel_rfl
theorem fn50:C1.fns.get 50=some Tryz.f50:=by kernel_rfl
theorem ok50:codeOk C1 Tryz.f50.ntmps (Tryz.f50.body.getD .skip)=true:=by kernel_rfl
@[simp] theorem sz180:aE C1 180=some 1:=by kernel_rfl
@[simp] theorem ze180:zeroOf C1 180=some (.bM):=by kernel_rfl
@[simp] theorem ze4:zeroOf C1 4=some (.bool false):=by kernel_rfl
@[simp] theorem cv27_3:jY C1 27 3=some .i64:=by kernel_rfl
@[simp] theorem ag180:aG C1 180=some false:=by kernel_rfl
theorem fn96:C1.fns.get 96=some Tryz.f96:=by kernel_rfl
theorem ok96:codeOk C1 Tryz.f96.ntmps (Tryz.f96.body.getD .skip)=true:=by kernel_rfl
@[simp] theorem sz188:aE C1 188=some 1:=by kernel_rfl
@[simp] theorem ze188:zeroOf C1 188=some (.kM):=by kernel_rfl
theorem fn97:C1.fns.get 97=some Tryz.f97:=by kernel_rfl
theorem ok97:codeOk C1 Tryz.f97.ntmps (Tryz.f97.body.getD .skip)=true:=by kernel_rfl
theorem fn98:C1.fns.get 98=some Tryz.f98:=by kernel_rfl
theorem ok98:codeOk C1 Tryz.f98.ntmps (Tryz.f98.body.getD .skip)=true:=by kernel_rfl
theorem fn99:C1.fns.get 99=some Tryz.f99:=by kernel_rfl
theorem ok99:codeOk C1 Tryz.f99.ntmps (Tryz.f99.body.getD .skip)=true:=by kernel_rfl
@[simp] theorem ze42:zeroOf C1 42=some (.int .i64 0):=by kernel_rfl
@[simp] theorem pt180:ptT C1 180=true:=by kernel_rfl
@[simp] theorem fa224_1:fieldAt C1 224 1=some 1:=by kernel_rfl
@[simp] theorem fa224_0:fieldAt C1 224 0=some 0:=by kernel_rfl
@[simp] theorem cv5_27:jY C1 5 27=some .u64:=by kernel_rfl
theorem fn100:C1.fns.get 100=some Tryz.f100:=by kernel_rfl
theorem ok100:codeOk C1 Tryz.f100.ntmps (Tryz.f100.body.getD .skip)=true:=by kernel_rfl
theorem fn101:C1.fns.get 101=some Tryz.f101:=by kernel_rfl
theorem ok101:codeOk C1 Tryz.f101.ntmps (Tryz.f101.body.getD .skip)=true:=by kernel_rfl
theorem fn102:C1.fns.get 102=some Tryz.f102:=by kernel_rfl
theorem ok102:codeOk C1 Tryz.f102.ntmps (Tryz.f102.body.getD .skip)=true:=by kernel_rfl
theorem fn103:C1.fns.get 103=some Tryz.f103:=by kernel_rfl
theorem ok103:codeOk C1 Tryz.f103.ntmps (Tryz.f103.body.getD .skip)=true:=by kernel_rfl
theorem fn148:C1.fns.get 148=some Tryz.f148:=by kernel_rfl
theorem ok148:codeOk C1 Tryz.f148.ntmps (Tryz.f148.body.getD .skip)=true:=by kernel_rfl
@[simp] theorem cv219_2:jY C1 219 2=some .i64:=by kernel_rfl
theorem fn149:C1.fns.get 149=some Tryz.f149:=by kernel_rfl
theorem ok149:codeOk C1 Tryz.f149.ntmps (Tryz.f149.body.getD .skip)=true:=by kernel_rfl
theorem fn150:C1.fns.get 150=some Tryz.f150:=by kernel_rfl
theorem ok150:codeOk C1 Tryz.f150.ntmps (Tryz.f150.body.getD .skip)=true:=by kernel_rfl
theorem fn151:C1.fns.get 151=some Tryz.f151:=by kernel_rfl
theorem ok151:codeOk C1 Tryz.f151.ntmps (Tryz.f151.body.getD .skip)=true:=by kernel_rfl
@[simp] theorem ag188:aG C1 188=some false:=by kernel_rfl
theorem fn152:C1.fns.get 152=some Tryz.f152:=by kernel_rfl
theorem ok152:codeOk C1 Tryz.f152.ntmps (Tryz.f152.body.getD .skip)=true:=by kernel_rfl
theorem fn153:C1.fns.get 153=some Tryz.f153:=by kernel_rfl
theorem ok153:codeOk C1 Tryz.f153.ntmps (Tryz.f153.body.getD .skip)=true:=by kernel_rfl
theorem fn154:C1.fns.get 154=some Tryz.f154:=by kernel_rfl
theorem ok154:codeOk C1 Tryz.f154.ntmps (Tryz.f154.body.getD .skip)=true:=by kernel_rfl
@[simp] theorem ze29:zeroOf C1 29=some (.aq):=by kernel_rfl
@[simp] theorem conc263:vm C1 263=true:=by kernel_rfl
theorem fn155:C1.fns.get 155=some Tryz.f155:=by kernel_rfl
theorem ok155:codeOk C1 Tryz.f155.ntmps (Tryz.f155.body.getD .skip)=true:=by kernel_rfl
@[simp] theorem ag230:aG C1 230=some true:=by kernel_rfl
@[simp] theorem sz230:aE C1 230=some 1:=by kernel_rfl
theorem fn188:C1.fns.get 188=some Tryz.f188:=by kernel_rfl
theorem ok188:codeOk C1 Tryz.f188.ntmps (Tryz.f188.body.getD .skip)=true:=by kernel_rfl
theorem fn189:C1.fns.get 189=some Tryz.f189:=by kernel_rfl
theorem ok189:codeOk C1 Tryz.f189.ntmps (Tryz.f189.body.getD .skip)=true:=by kernel_rfl
theorem fn190:C1.fns.get 190=some Tryz.f190:=by kernel_rfl
theorem ok190:codeOk C1 Tryz.f190.ntmps (Tryz.f190.body.getD .skip)=true:=by kernel_rfl
@[simp] theorem ze263:zeroOf C1 263=some (.agg []):=by kernel_rfl
theorem fn191:C1.fns.get 191=some Tryz.f191:=by kernel_rfl
theorem ok191:codeOk C1 Tryz.f191.ntmps (Tryz.f191.body.getD .skip)=true:=by kernel_rfl
theorem fn192:C1.fns.get 192=some Tryz.f192:=by kernel_rfl
theorem ok192:codeOk C1 Tryz.f192.ntmps (Tryz.f192.body.getD .skip)=true:=by kernel_rfl
theorem fn193:C1.fns.get 193=some Tryz.f193:=by kernel_rfl
theorem ok193:codeOk C1 Tryz.f193.ntmps (Tryz.f193.body.getD .skip)=true:=by kernel_rfl
@[simp] theorem un29:bC C1 29=some (.slice 103):=by kernel_rfl
theorem fn194:C1.fns.get 194=some Tryz.f194:=by kernel_rfl
theorem ok194:codeOk C1 Tryz.f194.ntmps (Tryz.f194.body.getD .skip)=true:=by kernel_rfl
theorem fn236:C1.fns.get 236=some Tryz.f236:=by kernel_rfl
theorem ok236:codeOk C1 Tryz.f236.ntmps (Tryz.f236.body.getD .skip)=true:=by kernel_rfl
@[simp] theorem fa230_0:fieldAt C1 230 0=some 0:=by kernel_rfl
theorem fn237:C1.fns.get 237=some Tryz.f237:=by kernel_rfl
theorem ok237:codeOk C1 Tryz.f237.ntmps (Tryz.f237.body.getD .skip)=true:=by kernel_rfl
theorem fn238:C1.fns.get 238=some Tryz.f238:=by kernel_rfl
theorem ok238:codeOk C1 Tryz.f238.ntmps (Tryz.f238.body.getD .skip)=true:=by kernel_rfl
@[simp] theorem un101:bC C1 101=some (.slice 100):=by kernel_rfl
theorem fn239:C1.fns.get 239=some Tryz.f239:=by kernel_rfl
theorem ok239:codeOk C1 Tryz.f239.ntmps (Tryz.f239.body.getD .skip)=true:=by kernel_rfl
theorem fn261:C1.fns.get 261=some Tryz.f261:=by kernel_rfl
theorem ok261:codeOk C1 Tryz.f261.ntmps (Tryz.f261.body.getD .skip)=true:=by kernel_rfl
theorem fn262:C1.fns.get 262=some Tryz.f262:=by kernel_rfl
theorem ok262:codeOk C1 Tryz.f262.ntmps (Tryz.f262.body.getD .skip)=true:=by kernel_rfl
theorem fn279:C1.fns.get 279=some Tryz.f279:=by kernel_rfl
theorem ok279:codeOk C1 Tryz.f279.ntmps (Tryz.f279.body.getD .skip)=true:=by kernel_rfl
@[simp] theorem cv27_2:jY C1 27 2=some .i64:=by kernel_rfl
section
variable{S T:AS}
def B4(n:Nat):Nat:=if 1<=n/\n<=2048 then n+8 else 0
theorem size152{v:AV}{cs:List AV}(h:Sl S v 1 cs)(hl:cs.length<=1073741824):∀Q:AV->AS->Prop,ai C1 152 [v] S Q=Q (.int .i64 (B4 cs.length:Nat)) S:=fun Q=>by
 have u1:=h.sl;have u2:=h.fC;refine ai.eq (aK (cD _) (cG _ rfl) fn152 rfl ok152 (by simp) fun F hn s0=>?_);obtain⟨n,hnn⟩:∃n,n=cs.length:=⟨_,rfl⟩
 rw[<-hnn]at u2 hl⊢;unfold B4;by_cases h1:1<=n
 .have h1I:(1:Int)<=n:=by omega
  by_cases h2:n<=2048
  .have h2I:(n:Int)<=2048:=by omega
   have xj:=IntWalk.i64_in (4+(n:Int)) (by omega);have BJ:=IntWalk.i64_in (4+(n:Int)+4) (by omega);have hw3:=IntWalk.i64_in ((n:Int)+8) (by omega);have he:4+(n:Int)+4=((n+8:Nat):Int):=by omega
   rw[if_pos ⟨h1,h2⟩];simp[s0,u1,u2,h1,h1I,h2,h2I,xj,BJ,he,hw3]
  .have h2I:¬((n:Int)<=2048):=by omega
   rw[if_neg (fun e=>h2 e.2)];simp[s0,u1,u2,h1,h1I,h2,h2I]
 .have h1I:¬((1:Int)<=n):=by omega
  rw[if_neg (fun e=>h1 e.1)];simp[s0,u1,u2,h1,h1I]
def leN(a b c d:Nat):Nat:=a ||| (b*256) ||| (c*65536) ||| (d*16777216)
theorem kV{cx:Am.Cx}{t:TypeId}{c:Bool}{n s:Nat}(hs:n*2 ^ s<4294967296):aS cx .shl t c (.int .u32 n) (.int .u64 s)=some (.int .u32 ((n*2 ^ s:Nat):Int)):=by
 have h1:aS cx .shl t c (.int .u32 n) (.int .u64 s)=some (mkI .u32 (Int.mul n (.ofNat (Nat.pow 2 (Nat.min s IntKind.u32.bits))))):=rfl;rw[h1,iy];have sN:Nat.min s IntKind.u32.bits=Nat.min s 32:=rfl;by_cases h:s<=32
 .have h2:Nat.min s 32=s:=Nat.min_eq_left h;rw[sN,h2];have h3:Int.mul (n:Int) (.ofNat (Nat.pow 2 s))=((n*2 ^ s:Nat):Int):=rfl;rw[h3,fI hs]
 .have hn:n=0:=by
   rcases Nat.eq_zero_or_pos n with e|e
   .exact e
   .exfalso;have h5:2 ^ 32<=2 ^ s:=Nat.pow_le_pow_right (by decide) (by omega);have h6:1*2 ^ s<=n*2 ^ s:=Nat.mul_le_mul_right _ e;omega
  subst hn;have h3:Int.mul ((0:Nat):Int) (.ofNat (Nat.pow 2 (Nat.min s IntKind.u32.bits)))=0:=Int.zero_mul _;rw[h3,Nat.zero_mul];rfl
theorem nt149:Tryz.f149.ntmps=25:=by kernel_rfl
set_option maxRecDepth 20000 in
theorem num149{v:AV}{a b c d:Nat}{l:List Nat}(h:Sl S v 1 (az (a::b::c::d::l)))(ha:a<256)(hb:b<256)(hc:c<256)(hd:d<256):∀Q:AV->AS->Prop,ai C1 149 [v] S Q=Q (.int .u32 (leN a b c d:Nat)) S:=fun Q=>by
 have u1:=h.sl;have u2:=h.fC;have u2:sLen v=l.length+4:=by rw[u2,aD];rfl
 have i0:0<l.length+4:=by omega
 have i1:1<l.length+4:=by omega
 have i2:2<l.length+4:=by omega
 have i3:3<l.length+4:=by omega
 have hl:∀(i y:Nat),(a::b::c::d::l)[i]?=some y->loadT C1 S 5 (j5 v i)=some (.int .u8 (y:Int)):=fun i y hy=>fQ (cx:=C1) (e:=5) h (show (az (a::b::c::d::l))[i]?=some (.int .u8 (y:Int)) by unfold az;rw[List.getElem?_map,hy];rfl) (by simp);have l0:=hl 0 a rfl;have l1:=hl 1 b rfl;have l2:=hl 2 c rfl;have l3:=hl 3 d rfl;have wa:IntKind.u32.wrap (a:Int)=a:=fI (by omega);have wb:IntKind.u32.wrap (b:Int)=b:=fI (by omega);have wc:IntKind.u32.wrap (c:Int)=c:=fI (by omega);have wd:IntKind.u32.wrap (d:Int)=d:=fI (by omega);have x8:∀(t:TypeId)(q:Bool),aS C1 .shl t q (.int .u32 b) (.int .u64 8)=some (.int .u32 ((b*2 ^ 8:Nat):Int)):=fun t q=>kV (cx:=C1) (t:=t) (c:=q) (n:=b) (s:=8) (by omega);have x16:∀(t:TypeId)(q:Bool),aS C1 .shl t q (.int .u32 c) (.int .u64 16)=some (.int .u32 ((c*2 ^ 16:Nat):Int)):=fun t q=>kV (cx:=C1) (t:=t) (c:=q) (n:=c) (s:=16) (by omega);have x24:∀(t:TypeId)(q:Bool),aS C1 .shl t q (.int .u32 d) (.int .u64 24)=some (.int .u32 ((d*2 ^ 24:Nat):Int)):=fun t q=>kV (cx:=C1) (t:=t) (c:=q) (n:=d) (s:=24) (by omega);have o1l:a ||| b*2 ^ 8<4294967296:=Nat.or_lt_two_pow (n:=32) (by omega) (by omega);have o2l:a ||| b*2 ^ 8 ||| c*2 ^ 16<4294967296:=Nat.or_lt_two_pow (n:=32) o1l (by omega);have o1:=fun (t:TypeId) (q:Bool)=>m9 (cx:=C1) (t:=t) (c:=q) (a:=a) (b:=b*2 ^ 8) (by omega) (by omega);have o2:=fun (t:TypeId) (q:Bool)=>m9 (cx:=C1) (t:=t) (c:=q) (b:=c*2 ^ 16) o1l (by omega);have o3:=fun (t:TypeId) (q:Bool)=>m9 (cx:=C1) (t:=t) (c:=q) (b:=d*2 ^ 24) o2l (by omega);have hle:leN a b c d=a ||| b*2 ^ 8 ||| c*2 ^ 16 ||| d*2 ^ 24:=rfl;rw[hle];obtain⟨B,hB⟩:∃B,B=b*2 ^ 8:=⟨_,rfl⟩
 obtain⟨C,hC⟩:∃C,C=c*2 ^ 16:=⟨_,rfl⟩
 obtain⟨D,hD⟩:∃D,D=d*2 ^ 24:=⟨_,rfl⟩
 obtain⟨z,hz⟩:∃z,z=l.length+4:=⟨_,rfl⟩
 rw[<-hB]at x8 o1 o2 o3⊢;rw[<-hC]at x16 o2 o3⊢;rw[<-hD]at x24 o3⊢;rw[<-hz]at u2 i0 i1 i2 i3;clear hB hC hD hz o1l o2l hle;have i1':=eq_true i1;have i2':=eq_true i2;have i3':=eq_true i3;have j1:(1:Int)<z:=by omega
 have j2:(2:Int)<z:=by omega
 have j3:(3:Int)<z:=by omega
 refine ai.eq (aK (cD _) (cG _ rfl) fn149 rfl ok149 (by simp) fun F hn s0=>?_);rw[nt149]at hn;simp[s0];refine cO [.p,.p,.r 0 0,.p,.p,.p,.r 0 0,.p,.p,.p,.p,.p,.r 0 0,.p,.p,.p,.p,.p,.r 0 0,.p,.p,.p,.p] (n:=25) (by kernel_rfl) (by simp[hn]) ?_;simp[s0,u1,u2,l0,l1,l2,l3,i0,i1',i2',i3',j1,j2,j3,wa,wb,wc,wd,x8,x16,x24,o1,o2,o3]
theorem nt188:Tryz.f188.ntmps=25:=by kernel_rfl
set_option maxRecDepth 20000 in
theorem num188{v:AV}{a b c d:Nat}{l:List Nat}(h:Sl S v 1 (az (a::b::c::d::l)))(ha:a<256)(hb:b<256)(hc:c<256)(hd:d<256):∀Q:AV->AS->Prop,ai C1 188 [v] S Q=Q (.int .u32 (leN a b c d:Nat)) S:=fun Q=>by
 have u1:=h.sl;have u2:=h.fC;have u2:sLen v=l.length+4:=by rw[u2,aD];rfl
 have i0:0<l.length+4:=by omega
 have i1:1<l.length+4:=by omega
 have i2:2<l.length+4:=by omega
 have i3:3<l.length+4:=by omega
 have hl:∀(i y:Nat),(a::b::c::d::l)[i]?=some y->loadT C1 S 5 (j5 v i)=some (.int .u8 (y:Int)):=fun i y hy=>fQ (cx:=C1) (e:=5) h (show (az (a::b::c::d::l))[i]?=some (.int .u8 (y:Int)) by unfold az;rw[List.getElem?_map,hy];rfl) (by simp);have l0:=hl 0 a rfl;have l1:=hl 1 b rfl;have l2:=hl 2 c rfl;have l3:=hl 3 d rfl;have wa:IntKind.u32.wrap (a:Int)=a:=fI (by omega);have wb:IntKind.u32.wrap (b:Int)=b:=fI (by omega);have wc:IntKind.u32.wrap (c:Int)=c:=fI (by omega);have wd:IntKind.u32.wrap (d:Int)=d:=fI (by omega);have x8:∀(t:TypeId)(q:Bool),aS C1 .shl t q (.int .u32 b) (.int .u64 8)=some (.int .u32 ((b*2 ^ 8:Nat):Int)):=fun t q=>kV (cx:=C1) (t:=t) (c:=q) (n:=b) (s:=8) (by omega);have x16:∀(t:TypeId)(q:Bool),aS C1 .shl t q (.int .u32 c) (.int .u64 16)=some (.int .u32 ((c*2 ^ 16:Nat):Int)):=fun t q=>kV (cx:=C1) (t:=t) (c:=q) (n:=c) (s:=16) (by omega);have x24:∀(t:TypeId)(q:Bool),aS C1 .shl t q (.int .u32 d) (.int .u64 24)=some (.int .u32 ((d*2 ^ 24:Nat):Int)):=fun t q=>kV (cx:=C1) (t:=t) (c:=q) (n:=d) (s:=24) (by omega);have o1l:a ||| b*2 ^ 8<4294967296:=Nat.or_lt_two_pow (n:=32) (by omega) (by omega);have o2l:a ||| b*2 ^ 8 ||| c*2 ^ 16<4294967296:=Nat.or_lt_two_pow (n:=32) o1l (by omega);have o1:=fun (t:TypeId) (q:Bool)=>m9 (cx:=C1) (t:=t) (c:=q) (a:=a) (b:=b*2 ^ 8) (by omega) (by omega);have o2:=fun (t:TypeId) (q:Bool)=>m9 (cx:=C1) (t:=t) (c:=q) (b:=c*2 ^ 16) o1l (by omega);have o3:=fun (t:TypeId) (q:Bool)=>m9 (cx:=C1) (t:=t) (c:=q) (b:=d*2 ^ 24) o2l (by omega);have hle:leN a b c d=a ||| b*2 ^ 8 ||| c*2 ^ 16 ||| d*2 ^ 24:=rfl;rw[hle];obtain⟨B,hB⟩:∃B,B=b*2 ^ 8:=⟨_,rfl⟩
 obtain⟨C,hC⟩:∃C,C=c*2 ^ 16:=⟨_,rfl⟩
 obtain⟨D,hD⟩:∃D,D=d*2 ^ 24:=⟨_,rfl⟩
 obtain⟨z,hz⟩:∃z,z=l.length+4:=⟨_,rfl⟩
 rw[<-hB]at x8 o1 o2 o3⊢;rw[<-hC]at x16 o2 o3⊢;rw[<-hD]at x24 o3⊢;rw[<-hz]at u2 i0 i1 i2 i3;clear hB hC hD hz o1l o2l hle;have i1':=eq_true i1;have i2':=eq_true i2;have i3':=eq_true i3;have j1:(1:Int)<z:=by omega
 have j2:(2:Int)<z:=by omega
 have j3:(3:Int)<z:=by omega
 refine ai.eq (aK (cD _) (cG _ rfl) fn188 rfl ok188 (by simp) fun F hn s0=>?_);rw[nt188]at hn;simp[s0];refine cO [.p,.p,.r 0 0,.p,.p,.p,.r 0 0,.p,.p,.p,.p,.p,.r 0 0,.p,.p,.p,.p,.p,.r 0 0,.p,.p,.p,.p] (n:=25) (by kernel_rfl) (by simp[hn]) ?_;simp[s0,u1,u2,l0,l1,l2,l3,i0,i1',i2',i3',j1,j2,j3,wa,wb,wc,wd,x8,x16,x24,o1,o2,o3]
theorem take150{v:AV}{bs:List Nat}{a b c d:Nat}(h:Sl S v 1 (az (bs++[a,b,c,d])))(hb:∀x,x∈bs->x<256)(ha:a<256)(sQ:b<256)(hc:c<256)(hd:d<256)(hl:bs.length<=1000000):
  ai C1 150 [v] S fun r T=>Sub S T/\((leN a b c d≠jX bs/\r=.tuple [.aq,.int .i64 5])\/(leN a b c d=jX bs/\∃w,r=.tuple [w,.int .i64 0]/\Gw T w 1 5 (az bs)/\iS S.next w)):=by
 have u1:=h.sl;have u2:=h.fC;have u2:sLen v=bs.length+4:=by rw[u2,aD,List.length_append];rfl
 obtain⟨n,yv⟩:∃n,n=bs.length:=⟨_,rfl⟩
 obtain⟨cw,hcw⟩:∃cw,cw=j8 v n (n+4):=⟨_,rfl⟩
 obtain⟨dw,hdw⟩:∃dw,dw=j8 v 0 n:=⟨_,rfl⟩
 have gA:∀(F:Fr)(x:Tmp),sl F x=.int .i64 n->eK C1 F 32 v (some (.tmp x)) none none=some cw:=fun F x a0=>by
  rw[hcw];exact fm (cx:=C1) (p:=(5,1,1)) (l:=n) (k:=n+4) ru u1 (by simp[a0]) (by rw[jF,u2,yv]) (by omega) (by omega)
 have lE:∀(F:Fr)(x:Tmp),sl F x=.int .i64 n->eK C1 F 32 v none (some (.tmp x)) none=some dw:=fun F x a0=>by
  rw[hdw];exact fm (cx:=C1) (p:=(5,1,1)) (l:=0) (k:=n) ru u1 (by simp) (by simp[a0]) (Nat.zero_le _) (by omega)
 have c1:=h.cut (l:=n) (k:=n+4) (by omega) (by omega);have c2:=h.cut (l:=0) (k:=n) (by omega) (by omega);rw[<-hcw]at c1;rw[<-hdw]at c2;have e1:((az (bs++[a,b,c,d])).drop (n*1)).take ((n+4-n)*1)=az (a::b::c::d::[]):=by
  rw[Nat.mul_one,Nat.mul_one,show n+4-n=4 by omega,<-fE,List.drop_left' (by rw[aD,yv])];rfl
 have e2:((az (bs++[a,b,c,d])).drop (0*1)).take ((n-0)*1)=az bs:=by
  rw[Nat.zero_mul,List.drop_zero,Nat.mul_one,Nat.sub_zero,<-fE,List.take_left' (by rw[aD,yv])]
 rw[e1]at c1;rw[e2]at c2;have e157:=num188 c1 ha sQ hc hd;obtain⟨r,T,⟨rfl,hT⟩,e126⟩:=(sum126 (S:=S) c2 hb (by omega)).ex;have c2T:=c2.toSub hT;have xw:sLen dw=n:=by have:=c2T.fC;rw[aD]at this;omega
 have yu:n<=1000000:=by omega
 obtain⟨w',U,eU,g1,g2,g3,g4,g5,g6,g7⟩:=eB (cx:=C1) (ts:=[]) (u:=32) (p:=(5,1,1)) (S:=T) (t:=32) (v:=.aq) ru un32 rfl Gw.nil c2T (by rw[xw];simp[fits,cH,sLen];omega);have hU:Sub T U:=⟨fun id hi=>g2 id hi (by simp[aB]),g3⟩
 have hnw:iS S.next w':=by
  have:=hT.next
  rcases g6 with q|q
  .exact .inl (by rw[q];rfl)
  .exact .inr (by omega)
 have xj:=IntWalk.i64_in (n:Int) (by omega);have hsb:((n+4:Nat):Int)-4=(n:Int):=by omega
 have u2I:sLen v=n+4:=by rw[u2,yv]
 obtain⟨z,hz⟩:∃z,z=n+4:=⟨_,rfl⟩
 rw[<-hz]at u2I hsb;have oE:¬((n:Int)<0):=by omega
 have k1:=aj c1;have k2:=aj c2;have nt150:Tryz.f150.ntmps=25:=by kernel_rfl
 have np:bE w'=false:=by have:=g1.1.sl;cases w'<;>first|rfl|(simp[isSl]at this)
 refine aK (cD _) (cG _ rfl) fn150 rfl ok150 (by simp) fun F hn s0=>?_;rw[nt150]at hn;simp[-eZ,s0,u1,u2I,hsb,xj,oE];rw[eZ];simp[-eZ,s0,u1,u2I,hsb,xj,oE];refine cO [.p,.p,.p,.e [],.p,.p,.p,.e [],.p,.p] (n:=25) (by kernel_rfl) (by simp[hn]) ?_;by_cases he:leN a b c d=jX bs
 .have heI:=eq_true (show ((leN a b c d:Nat):Int)=((jX bs:Nat):Int) by omega);simp[s0,u1,u2I,hsb,xj,oE,gA,lE,aR,e157,e126,k1,k2,he,heI,eU,np];exact⟨hT.trans hU,g1,hnw⟩
 .have heI:¬((leN a b c d:Nat):Int)=((jX bs:Nat):Int):=by omega
  simp[s0,u1,u2I,hsb,xj,oE,gA,lE,aR,e157,e126,k1,k2,he,heI];exact hT
end
structure dD(S:AS)(p B:Nat)(bs:List Nat):Prop where
 ex:∃v,S.h.get p=some (.row [v,.bool true] 0 0 false 224)/\Sl S v 1 (az bs)/\aB v=B
 lt:p<S.next
 ne:B≠p+1
section
variable{S T:AS}{B:Nat}
theorem dD.sub{p:Nat}{bs:List Nat}(h:dD S p B bs)(hs:Sub S T):dD T p B bs:=by
 obtain⟨⟨v,h1,h2,h3⟩,h4,h5⟩:=h;exact⟨⟨v,(hs.h p h4).trans h1,h2.toSub hs,h3⟩,Nat.lt_of_lt_of_le h4 hs.next,h5⟩
theorem dD.le{p:Nat}{bs:List Nat}(h:dD S p B bs):B<=S.next:=by
 obtain⟨v,h1,h2,h3⟩:=h.ex;rw[<-h3];exact h2.old
theorem dD.agree{p:Nat}{bs:List Nat}(h:dD S p B bs)(hs:∀id,id=p\/B=id+1->T.h.get id=S.h.get id)(hn:S.next<=T.next):dD T p B bs:=by
 obtain⟨⟨v,h1,h2,h3⟩,h4,h5⟩:=h;exact⟨⟨v,(hs p (.inl rfl)).trans h1,h2.agree (fun id e=>hs id (.inr (h3▸e))) hn,h3⟩,Nat.lt_of_lt_of_le h4 hn,h5⟩
theorem Fj{b:AV}{bs:List AV}(hb:Sl S b 1 bs)(hl:bs.length<=1073741824):ai C1 57 [b] S fun r T=>Gw T r 1 5 bs/\Sub S T/\iS S.next r:=by
 have u1:=hb.sl;have u2:=hb.fC;have st:=ru;refine aK (cD _) (cG _ rfl) fn57 rfl ok57 (by simp) fun F hn s0=>?_;rcases hb.cases with hb0|⟨id,g,off,n,lim,cap,hb0⟩
 .subst hb0;have:bs=[]:=List.length_eq_zero_iff.1 (by rw[<-u2];rfl);subst this;simp[s0];exact⟨Gw.nil,Sub.refl S,.inl rfl⟩
 .subst hb0;have iY:∀(F:Fr)(B:Nat),aA C1 F B (.buildSlice 32 0 #[])=some (.slice B 0 0 0 0 1 (some 0),.row [] 0 0 false 5):=fun F B=>by
   have:=ck (cx:=C1) (F:=F) (t:=32) (p:=(5,1,1)) (id:=B) (n:=0) (a:=#[]) [] ru rfl (by simp) (by simp) (by decide);exact this
  obtain⟨S1,bI⟩:∃S1:AS,S1=⟨S.h.set S.next (.row [] 0 0 false 5),S.next+1⟩:=⟨_,rfl⟩
  have gA:Sub S S1:=by rw[bI];exact seg.cf
  have g1:S1.h.get S.next=some (.row [] 0 0 false 5):=by rw[bI];exact aa _ _ _
  have hgw:Gw S1 (.slice S.next 0 0 0 0 1 (some 0)) 1 5 []:=
   ⟨⟨by simp[isSl,eu],by simp[jR],by simp[sLen],by simp[aB,bI]⟩,.inr ⟨S.next,0,0,0,0,some 0,rfl,by simp[Fu],by rw[bI];exact Nat.lt_succ_self _,[],0,0,g1,Nat.le_refl _,rfl⟩⟩
  obtain⟨w',T,a1,a2,a3,a4,a5,a6,a7,a8⟩:=rW (cx:=C1) (ts:=[]) (p:=(5,1,1)) (x:=.slice id g off n lim 1 cap) (ds:=bs) ru un32 rfl hgw (oK (hb.toSub gA)) (by simp[u2]) (by rw[u2];simp[sLen,fits,cH];omega);have fN:=bI.symm;have e1:∀c,aS C1 .eql 32 c (.slice id g off n lim 1 cap) .aq=some (.bool false):=fun c=>by
   have:=eq_nil (cx:=C1) (t:=32) (c:=c) ru u1;simpa[isNil]using this
  have np:bE w'=false:=by
   have:=a2.1.sl;cases w'<;>first|rfl|(simp[isSl]at this)
  simp[s0,iY,fN,a1,e1,np];have hnw:iS S.next w':=by
   rcases a7 with q|q
   .exact .inr (by rw[q];show S.next<S.next+1;omega)
   .exact .inr (by have:=gA.next;omega)
  exact⟨a2,⟨fun id hi=>(a3 id (by rw[bI];show id<S.next+1;omega) (by simp[aB];omega)).trans (gA.h id hi),Nat.le_trans gA.next a4⟩,hnw⟩
theorem bl224{v:AV}(h:isSl 1 v=true):cU C1 224 [(0,v),(1,.bool true)]=some (.agg [v,.bool true]):=by
 cases v<;>first|(simp[isSl]at h;done)|kernel_rfl
theorem new97{b:AV}{bs:List Nat}(h:Sl S b 1 (az bs))(hl:bs.length<=1073741824):ai C1 97 [b] S fun r T=>Sub S T/\∃p B,r=.ptr p 0 0 2/\dD T p B bs/\S.next<=p/\(B=0\/S.next<B):=by
 obtain⟨w,T,⟨h0,h2,h3⟩,yW⟩:=(Fj h (by rw[aD];exact hl)).ex;have h1:=h0.1;obtain⟨T1,iP⟩:∃T1:AS,T1=⟨T.h.set T.next (.row [w,.bool true] 0 0 false 224),T.next+1⟩:=⟨_,rfl⟩
 have s1:Sub T T1:=by rw[iP];exact seg.cf
 have g1:T1.h.get T.next=some (.row [w,.bool true] 0 0 false 224):=by rw[iP];exact aa _ _ _
 have n1:T1.next=T.next+1:=by rw[iP]
 have Ay:=iP.symm;clear iP;have h1o:=h1.old;have h2n:=h2.next
 refine aK (cD _) (cG _ rfl) fn97 rfl ok97 (by simp) fun F hn s0=>?_;simp[s0,aR,yW,h1.np,aj h1,bl224 h1.sl,Ay];exact⟨h2.trans s1,aB w,⟨⟨w,g1,h1.toSub s1,rfl⟩,by omega,by omega⟩,h2n,h3⟩
end
section
variable{S T:AS}{B0:Nat}
theorem or_step{a m i:Nat}(ha:a<128 ^ i):a ||| (m*128 ^ i)=a+m*128 ^ i:=by
 have e:128 ^ i=2 ^ (7*i):=by rw[Nat.pow_mul]
 rw[e]at ha⊢;rw[Nat.or_comm,<-Nat.shiftLeft_eq,<-Nat.shiftLeft_add_eq_or_of_lt ha,Nat.add_comm]
theorem Ek(n i:Nat):n%128 ^ i+(n / 128 ^ i%128)*128 ^ i=n%128 ^ (i+1):=by
 rw[Nat.pow_succ,Nat.mod_mul,Nat.mul_comm (128 ^ i)]
theorem Fa(n i:Nat):n / 128 ^ i / 128=n / 128 ^ (i+1):=by
 rw[Nat.div_div_eq_div_mul,Nat.pow_succ]
theorem ly{n:Nat}(h:n<128):aV n=[n]:=by rw[aV,if_pos h]
theorem mP{n:Nat}(h:¬n<128):aV n=(n%128+128)::aV (n / 128):=by rw[aV,if_neg h]
theorem bin_and127{cx:Am.Cx}{t:TypeId}{c:Bool}{a:Nat}(ha:a<256):aS cx .and t c (.int .u8 a) (.int .u8 127)=some (.int .u8 ((a%128:Nat):Int)):=by
 show cond (ej .u8 .u8) (some (fk .and .u8 (a:Nat) ((127:Nat):Int))) none=_;rw[dk.bits_nat (.inl rfl) hk8 ha (by decide),eA];have:a &&& 127=a%128:=Nat.and_two_pow_sub_one_eq_mod a 7;show some (AV.int .u8 ((a &&& 127:Nat):Int))=_;rw[this]
theorem bin_or64{cx:Am.Cx}{t:TypeId}{c:Bool}{a b:Nat}(ha:a<18446744073709551616)(hb:b<18446744073709551616):aS cx .or t c (.int .u64 a) (.int .u64 b)=some (.int .u64 ((a ||| b:Nat):Int)):=by
 show cond (ej .u64 .u64) (some (fk .or .u64 a b)) none=_;rw[dk.bits_nat (.inr (.inl rfl)) hk64 ha hb,eA];rfl
theorem bin_shl64{cx:Am.Cx}{t:TypeId}{c:Bool}{n s:Nat}(h63:s<=63)(hs:n*2 ^ s<18446744073709551616):aS cx .shl t c (.int .u64 n) (.int .i64 s)=some (.int .u64 ((n*2 ^ s:Nat):Int)):=by
 have h1:aS cx .shl t c (.int .u64 n) (.int .i64 s)=some (mkI .u64 (Int.mul n (.ofNat (Nat.pow 2 (Nat.min s IntKind.u64.bits))))):=rfl;rw[h1,iy];have sN:Nat.min s IntKind.u64.bits=s:=Nat.min_eq_left (show s<=64 by omega);rw[sN];have h3:Int.mul (n:Int) (.ofNat (Nat.pow 2 s))=((n*2 ^ s:Nat):Int):=rfl;rw[h3,eC hs]
def numH(S1:AS)(b0 p n lim B:Nat)(rest:List Nat)(d:sa)(k:Nat)(F':Fr)(S':AS):Prop:=
 ∃(i:Nat)(v:AV),cN (fun id=>id=p) S1 S'/\S'.h.get p=some (.row [v,.bool true] 0 0 false 224)/\Sl S' v 1 (az (aV (n / 128 ^ i)++rest))/\aB v=b0/\sl F' 0=.ptr p 0 0 2/\sl F' 1=.int .u64 lim/\sl F' 4=.int .u64 (n%128 ^ i:Nat)/\sl F' 5=.ptr B 0 0 1/\sl F' 6=.int .i64 i /\
  F'.ds=[d]/\F'.n=72/\i<=9/\(0<i->1<=n / 128 ^ i)/\k=9-i
theorem Bt{S1:AS}{b0 p n lim B:Nat}{rest:List Nat}{d:sa}{k:Nat}{F':Fr}(i:Nat)(v:AV)(h1:cN (fun id=>id=p) S1 T)(h2:T.h.get p=some (.row [v,.bool true] 0 0 false 224))(h3:Sl T v 1 (az (aV (n / 128 ^ i)++rest)))(h4:aB v=b0)(h5:sl F' 0=.ptr p 0 0 2)(h6:sl F' 1=.int .u64 lim)(h7:sl F' 4=.int .u64 (n%128 ^ i:Nat))(h8:sl F' 5=.ptr B 0 0 1)(h9:sl F' 6=.int .i64 i)
  (BX:F'.ds=[d]) (h11:F'.n=72) (h12:i<=9) (h13:0<i->1<=n / 128 ^ i) (h14:k=9-i):numH S1 b0 p n lim B rest d k F' T:=⟨i,v,h1,h2,h3,h4,h5,h6,h7,h8,h9,BX,h11,h12,h13,h14⟩
theorem vG{fn:Func}{F:Fr}{Q:AV->AS->Prop}{p B:Nat}{v:AV}(he:S.h.get B=some (.row [.int .i64 0] 0 0 false 42))(h:kg C1 fn F Q [] S):kg C1 fn F Q [.call 153 [.ptr p 0 0 2,v,.ptr B 0 0 1] []] S:=by
 refine⟨Tryz.f153,_,fn153,rfl,ok153,by simp[bz],fun F2 hn2 lE=>?_⟩;have v0:=lE 0;have v2:=lE 2;clear lE;simp only[bz,List.append_nil,List.getElem?_cons_zero,List.getElem?_cons_succ,Option.getD_some]at v0 v2;simp[v0,v2,he];exact⟨⟨.tuple [],by kernel_rfl⟩,h⟩
theorem res99{F:Fr}{x:AV}{e:Int}{B:Nat}(h:sl F 4=x)(hx:okW x=true)(h5:sl F 5=.ptr B 0 0 1)(hl:S.h.get B=some (.row [.int .i64 e] 0 0 false 42)):j9 C1 F S Tryz.f99.results.toList=some [x,.int .i64 e]:=by
 have e:Tryz.f99.results.toList=[.tmp 4,.cell 5 42]:=by kernel_rfl
 rw[e];simp[h,h5,hl,hx]
theorem pN{v:AV}{l h:Nat}:aB (j8 v l h)=aB v:=by
 cases v<;>first|rfl|(rename_i c;cases c<;>first|rfl|(simp only[j8,Ca,aN];cases Nat.beq _ l<;>rfl))
theorem nt99:Tryz.f99.ntmps=72:=by kernel_rfl
set_option maxRecDepth 20000 in
theorem num99{p n lim:Nat}{rest:List Nat}(h:dD S p B0 (aV n++rest))(hn:n<18446744073709551616)(hl:n<=lim)(hlim:lim<18446744073709551616):
  ai C1 99 [.ptr p 0 0 2,.int .u64 lim] S fun r T=>r=.tuple [.int .u64 n,.int .i64 0]/\dD T p B0 rest/\cN (fun id=>id=p) S T:=by
 obtain⟨⟨v,h1,h2,h3⟩,h4,h5⟩:=h;have u1:=h2.sl;obtain⟨S1,bI⟩:∃S1:AS,S1=⟨S.h.set S.next (.row [.int .i64 0] 0 0 false 42),S.next+1⟩:=⟨_,rfl⟩
 have s1:Sub S S1:=by rw[bI];exact seg.cf
 have g1:S1.h.get S.next=some (.row [.int .i64 0] 0 0 false 42):=by rw[bI];exact aa _ _ _
 have hp1:=(s1.h p h4).trans h1;have n1:S1.next=S.next+1:=by rw[bI]
 have fN:=bI.symm;clear bI;refine xK (cD _) (cG _ rfl) fn99 rfl ok99 (by simp) fun F pB qv hs=>?_;rw[nt99]at pB;have t0:=hs 0;have t1:=hs 1;clear hs;simp only[List.getElem?_cons_zero,List.getElem?_cons_succ,Option.getD_some]at t0 t1;simp[t0,t1,fN,hp1,aj h2];refine⟨.call 153 [.ptr p 0 0 2,v,.ptr S.next 0 0 1] [],by simp[gM,vR,bz,t0],?_⟩;refine pU.gen <| aH (numH S1 (aB v) p n lim S.next rest (.call 153 [.ptr p 0 0 2,v,.ptr S.next 0 0 1] [])) 9 (Bt 0 v ⟨fun _ _ _=>rfl,Nat.le_refl _⟩ hp1 (by simpa using h2.toSub s1) rfl (by simp[t0]) (by simp[t1]) (by simp[Nat.mod_one]) (by simp) (by simp) (by simp[ma,qv]) (by simp[pB]) (by omega) (by omega) rfl) ?_;clear t0 t1 pB qv fN;rintro k F' S'-⟨i,w,q1,q2,q3,q4,t0,t1,t4,t5,t6,qv,pB,hi9,BP,hk⟩;have w1:=q3.sl;have w2:=q3.fC;rw[aD]at w2;obtain⟨m,hm⟩:∃m,m=n / 128 ^ i:=⟨_,rfl⟩
 rw[<-hm]at q3 w2;obtain⟨c,ms,hc,hc8⟩:∃c ms,aV m=c::ms/\c<256:=by
  by_cases h:m<128
  .exact⟨m,[],ly h,by omega⟩
  .exact⟨_,_,mP h,by have:=Nat.mod_lt m (show 0<128 by decide);omega⟩
 rw[hc]at q3 w2;have hl0:loadT C1 S' 5 (j5 w 0)=some (.int .u8 c):=fQ q3 rfl ag5;have w2':sLen w=(ms++rest).length+1:=by rw[w2];rfl
 obtain⟨L,hL⟩:∃L,L=(ms++rest).length:=⟨_,rfl⟩
 rw[<-hL]at w2';have hLI:¬((L:Int)+1=0):=by omega
 have gA:∀F:Fr,eK C1 F 32 w (some (.const (.int .i64 1))) none none=some (j8 w 1 (L+1)):=fun F=>
  fm (cx:=C1) (p:=(5,1,1)) (l:=1) (k:=L+1) ru w1 (by simp) (by rw[jF,w2']) (by omega) (by omega)
 have c1:=q3.cut (l:=1) (k:=L+1) (by omega) (by omega);obtain⟨u,hu⟩:∃u,u=j8 w 1 (L+1):=⟨_,rfl⟩
 rw[<-hu]at c1;simp only[<-hu]at gA;obtain⟨S2,c7⟩:∃S2:AS,S2=⟨S'.h.set p (.row [u,.bool true] 0 0 false 224),S'.next⟩:=⟨_,rfl⟩
 have g2:S2.h.get p=some (.row [u,.bool true] 0 0 false 224):=by rw[c7];exact aa _ _ _
 have iJ:=c7.symm;have h7:=IntWalk.i64_in (7*(i:Int)) (by omega);obtain⟨e,he⟩:∃e,e=c%128:=⟨_,rfl⟩
 have hel:e<128:=by have:=Nat.mod_lt c (show 0<128 by decide);omega
 have hand:∀(t:TypeId)(b:Bool),aS C1 .and t b (.int .u8 c) (.int .u8 127)=some (.int .u8 e):=fun t b=>by rw[he];exact bin_and127 hc8
 have hwc:IntKind.u64.wrap (e:Int)=e:=eC (by omega);have hem:e=m%128:=by
  rw[he];by_cases h:m<128
  .rw[ly h]at hc;cases hc;rfl
  .rw[mP h]at hc;cases hc;omega
 have hpow:2 ^ (7*i)=128 ^ i:=by rw[Nat.pow_mul]
 have hle:e*128 ^ i<18446744073709551616:=by
  have h1:e<=m:=by rw[hem];exact Nat.mod_le _ _
  have h2:e*128 ^ i<=m*128 ^ i:=Nat.mul_le_mul_right _ h1;have h3:m*128 ^ i<=n:=by rw[hm];exact Nat.div_mul_le_self _ _
  omega
 obtain⟨x,hx⟩:∃x,x=e*128 ^ i:=⟨_,rfl⟩
 have yr:∀(t:TypeId)(b:Bool),aS C1 .shl t b (.int .u64 e) (.int .i64 (7*(i:Int)))=some (.int .u64 x):=fun t b=>by
  have:=bin_shl64 (cx:=C1) (t:=t) (c:=b) (n:=e) (s:=7*i) (by omega) (by rw[hpow];exact hle);rw[hpow,<-hx]at this;rw[<-this];rfl
 obtain⟨y,hy⟩:∃y,y=n%128 ^ i:=⟨_,rfl⟩
 rw[<-hy]at t4;obtain⟨z,hz⟩:∃z,z=n%128 ^ (i+1):=⟨_,rfl⟩
 have hor:∀(t:TypeId)(b:Bool),aS C1 .or t b (.int .u64 y) (.int .u64 x)=some (.int .u64 z):=fun t b=>by
  have hy1:y<128 ^ i:=by rw[hy];exact Nat.mod_lt _ (Nat.pow_pos (by decide))
  have hyn:y<18446744073709551616:=by rw[hy];have:=Nat.mod_le n (128 ^ i);omega
  rw[bin_or64 hyn (by rw[hx];exact hle),hx,or_step hy1,hy,hem,hm,Ek,<-hz]
 have hm9:i=9->m=1:=fun h=>by
  have h1:=BP (by omega);rw[<-hm]at h1;rw[h]at hm;have:(128:Nat) ^ 9=9223372036854775808:=by decide
  rw[this]at hm;omega
 have hc9:i=9->c=1:=fun h=>by
  have h1:=hm9 h;rw[h1,ly (by decide)]at hc;cases hc;rfl
 have pG:0<i->c≠0:=fun h0N=>by
  have:=BP h0N;rw[<-hm]at this;by_cases h:m<128
  .rw[ly h]at hc;cases hc;omega
  .rw[mP h]at hc;cases hc;omega
 have q9:∀b,decide (i=9)=b->decide ((i:Int)=9)=b:=fun b hb=>by rw[<-hb];exact decide_eq_decide.2 (by omega)
 have c9:i=9->¬(1:Int)<c:=fun h=>by rw[hc9 h];decide
 have tests:∀(P:Prop),((i=9/\¬(1:Int)<c)->P)->((¬i=9/\i=0)->P)->((¬i=9/\0<i/\¬(c:Int)=0)->P)->P:=fun P h1 h2 h3=>by
  by_cases h9:i=9
  .exact h1 ⟨h9,c9 h9⟩
  .by_cases h0:i=0
   .exact h2 ⟨h9,h0⟩
   .exact h3 ⟨h9,by omega,by have:=pG (by omega);omega⟩
 by_cases cq:c<128
 .have hltI:(c:Int)<128:=by omega
  have hmc:m<128/\ms=[]/\c=m:=by
   by_cases h:m<128
   .rw[ly h]at hc;cases hc;exact⟨h,rfl,rfl⟩
   .rw[mP h]at hc;cases hc;omega
  have hzn:z=n:=by
   rw[hz,<-Ek,<-hm,Nat.mod_eq_of_lt hmc.1,hm];rw[Nat.mul_comm];exact Nat.mod_add_div n (128 ^ i)
  have hlz:¬lim<z:=by omega
  have hlzI:¬(lim:Int)<z:=by omega
  have oo:az (ms++rest)=az rest:=by rw[hmc.2.1,List.nil_append]
  have e0:S2.h.get S.next=some (.row [.int .i64 0] 0 0 false 42):=by
   rw[c7];exact (ae _ _ (by omega)).trans ((q1.h _ (by omega) (by omega)).trans g1)
  obtain⟨S3,kO⟩:∃S3:AS,S3=⟨S2.h.set S.next (.row [.int .i64 0] 0 0 false 42),S2.next⟩:=⟨_,rfl⟩
  have e3:S3.h.get S.next=some (.row [.int .i64 0] 0 0 false 42):=by rw[kO];exact aa _ _ _
  have o3:∀id,id≠p->id<S.next->S3.h.get id=S.h.get id:=fun id h1 h2=>by
   rw[kO];refine (ae _ _ (by omega)).trans ?_;rw[c7];exact (ae _ _ h1).trans ((q1.h id (by omega) h1).trans (s1.h id h2))
  have hn3:S3.next=S'.next:=by rw[kO,c7]
  have hqn:=q1.next
  have hc1:((az (c::ms++rest)).drop (1*1)).take ((L+1-1)*1)=az rest:=by
   rw[hmc.2.1,Nat.mul_one,Nat.mul_one,List.cons_append,List.nil_append];show (az rest).take _=_;rw[List.take_of_length_le];rw[aD,hL,hmc.2.1,List.nil_append];omega
  rw[hc1]at c1;have hbu:aB u=aB v:=by rw[hu,pN];exact q4
  have hvo:=h2.old;have fin:dD S3 p B0 rest/\cN (fun id=>id=p) S S3:=by
   refine⟨⟨⟨u,?_,?_,by omega⟩,by omega,h5⟩,⟨fun id h1 h2=>o3 id h2 h1,by omega⟩⟩
   .rw[kO];exact (ae _ _ (by omega)).trans g2
   .refine c1.agree (fun id e=>?_) (by omega);have hw:=q3.old;rw[kO];refine (ae _ _ (by omega)).trans ?_;rw[c7];exact ae _ _ (by omega)
  have my:=kO.symm;clear kO;refine tests _ ?_ ?_ ?_
  .rintro⟨h9,h1⟩;have h9I:=eq_true (show (i:Int)=9 by omega);have h0N:=eq_true (show 0<i by omega);have h0I:=eq_true (show (0:Int)<i by omega);have hc0':¬(c:Int)=0:=by rw[hc9 h9];decide
   have hcN:¬c=0:=by rw[hc9 h9];decide
   have h1N:¬1<c:=by rw[hc9 h9];decide
   have h9T:=eq_true h9;simp[t0,t1,t4,t5,t6,q2,w1,w2',hLI,hl0,gA,q3.ok,aj q3,c1.cells,aj c1,iJ,hand,h7,h9T,h9I,h0N,h0I,h1,h1N,hc0',hcN,hwc,yr,hor,cq,hltI,hlz,hlzI,e0,my];simp only[ma,qv];refine vG e3 ?_;rw[iz,res99 (x:=.int .u64 z) (by simp[t4]) rfl (by simp[t5]) e3];rw[hzn];simp;exact fin
  .rintro⟨h9,h0⟩;have h9I:=eq_false (show ¬(i:Int)=9 by omega);have h0N:=eq_false (show ¬0<i by omega);have h0I:=eq_false (show ¬(0:Int)<i by omega);have h9T:=eq_false h9;simp[t0,t1,t4,t5,t6,q2,w1,w2',hLI,hl0,gA,q3.ok,aj q3,c1.cells,aj c1,iJ,hand,h7,h9T,h9I,h0N,h0I,hwc,yr,hor,cq,hltI,hlz,hlzI,e0,my];simp only[ma,qv];refine vG e3 ?_;rw[iz,res99 (x:=.int .u64 z) (by simp[t4]) rfl (by simp[t5]) e3];rw[hzn];simp;exact fin
  .rintro⟨h9,h0,hcI⟩;have h9I:=eq_false (show ¬(i:Int)=9 by omega);have h0N:=eq_true h0;have h0I:=eq_true (show (0:Int)<i by omega);have hcN:¬c=0:=by omega
   have h9T:=eq_false h9;simp[t0,t1,t4,t5,t6,q2,w1,w2',hLI,hl0,gA,q3.ok,aj q3,c1.cells,aj c1,iJ,hand,h7,h9T,h9I,h0N,h0I,hcI,hcN,hwc,yr,hor,cq,hltI,hlz,hlzI,e0,my];simp only[ma,qv];refine vG e3 ?_;rw[iz,res99 (x:=.int .u64 z) (by simp[t4]) rfl (by simp[t5]) e3];rw[hzn];simp;exact fin
 .have hltI:¬(c:Int)<128:=by omega
  have h128:¬m<128:=fun h=>by rw[ly h]at hc;cases hc;omega
  have hmt:ms=aV (n / 128 ^ (i+1)):=by
   rw[mP h128]at hc;cases hc;rw[<-Fa,hm]
  have hi8:i<9:=by
   rcases Nat.lt_or_ge i 9 with h|h
   .exact h
   .have:=hm9 (by omega);omega
  have kh:=aW (i:=i) (by omega);have hbu:aB u=aB v:=by rw[hu,pN];exact q4
  have hvo:=h2.old;have hc1:((az (c::ms++rest)).drop (1*1)).take ((L+1-1)*1)=az (ms++rest):=by
   rw[Nat.mul_one,Nat.mul_one,List.cons_append];show (az (ms++rest)).take _=_;rw[List.take_of_length_le];rw[aD,hL];omega
  rw[hc1]at c1;have c2:Sl S2 u 1 (az (aV (n / 128 ^ (i+1))++rest)):=by
   rw[<-hmt,c7];exact c1.agree (fun id e=>ae _ _ (by omega)) (Nat.le_refl _)
  have vl:cN (fun id=>id=p) S1 S2:=by
   rw[c7];exact⟨fun id h1 h2=>(ae _ _ h2).trans (q1.h id h1 h2),q1.next⟩
  have h1i:0<i+1->1<=n / 128 ^ (i+1):=fun _=>by
   rw[<-Fa,<-hm];omega
  clear hm9 hc9 pG c9 BP;refine tests _ ?_ ?_ ?_
  .rintro⟨h9,h1⟩;omega
  .rintro⟨h9,h0⟩;have h9I:=eq_false (show ¬(i:Int)=9 by omega);have h0N:=eq_false (show ¬0<i by omega);have h0I:=eq_false (show ¬(0:Int)<i by omega);have h9T:=eq_false h9;simp[t0,t1,t4,t5,t6,q2,w1,w2',hLI,hl0,gA,q3.ok,aj q3,c1.cells,aj c1,iJ,hand,h7,h9T,h9I,h0N,h0I,hwc,yr,hor,cq,hltI,kh];exact⟨9-(i+1),by omega,Bt (i+1) u vl g2 c2 hbu (by simp[t0]) (by simp[t1]) (by simp[hz]) (by simp[t5]) (by simp) (by simp[ma,qv]) (by simp[pB]) (by omega) h1i rfl⟩
  .rintro⟨h9,h0,hcI⟩;have h9I:=eq_false (show ¬(i:Int)=9 by omega);have h0N:=eq_true h0;have h0I:=eq_true (show (0:Int)<i by omega);have hcN:¬c=0:=by omega
   have h9T:=eq_false h9;simp[t0,t1,t4,t5,t6,q2,w1,w2',hLI,hl0,gA,q3.ok,aj q3,c1.cells,aj c1,iJ,hand,h7,h9T,h9I,h0N,h0I,hcI,hcN,hwc,yr,hor,cq,hltI,kh];exact⟨9-(i+1),by omega,Bt (i+1) u vl g2 c2 hbu (by simp[t0]) (by simp[t1]) (by simp[hz]) (by simp[t5]) (by simp) (by simp[ma,qv]) (by simp[pB]) (by omega) h1i rfl⟩
end
theorem zig_pos{n:Int}(h1:0<=n)(h2:n<9223372036854775808):oy n=(2*n).toNat:=by
 unfold oy;rw[if_neg (by omega),ji (by simp)];have e0:((uN 0:Nat):Int)=0:=by rw[<-kZ];rfl
 have e1:((uN (Int.mul n 2):Nat):Int)=2*n:=by
  rw[<-kZ];show IntKind.u64.wrap (n*2)=_;simp only[IntKind.wrap,IntKind.bits,IntKind.signed];simp;omega
 show (IntKind.u64.wrap ((BitVec.ofInt 64 ((uN (Int.mul n 2):Nat):Int) ^^^ BitVec.ofInt 64 ((uN 0:Nat):Int)).toNat:Int)).toNat=_;rw[e0,e1];have:BitVec.ofInt 64 0=0#64:=by decide
 rw[this,BitVec.xor_zero,BitVec.toNat_ofInt];simp only[IntKind.wrap,IntKind.bits,IntKind.signed];simp;omega
theorem zig_neg{n:Int}(h1:-9223372036854775808<=n)(h2:n<0):oy n=(-2*n-1).toNat:=by
 unfold oy;rw[if_pos h2,ji (by simp)];have e0:((uN (-1):Nat):Int)=18446744073709551615:=by rw[<-kZ];decide
 have e1:((uN (Int.mul n 2):Nat):Int)=18446744073709551616+2*n:=by
  rw[<-kZ];show IntKind.u64.wrap (n*2)=_;simp only[IntKind.wrap,IntKind.bits,IntKind.signed];simp;omega
 show (IntKind.u64.wrap ((BitVec.ofInt 64 ((uN (Int.mul n 2):Nat):Int) ^^^ BitVec.ofInt 64 ((uN (-1):Nat):Int)).toNat:Int)).toNat=_;rw[e0,e1];have:BitVec.ofInt 64 18446744073709551615=BitVec.allOnes 64:=by decide
 rw[this,BitVec.xor_allOnes,BitVec.toNat_not,BitVec.toNat_ofInt];simp only[IntKind.wrap,IntKind.bits,IntKind.signed];simp;omega
section
variable{S T:AS}
theorem zag279{n:Int}(h1:-9223372036854775808<=n)(h2:n<9223372036854775808):∀Q:AV->AS->Prop,ai C1 279 [.int .u64 (oy n)] S Q=Q (.int .i64 n) S:=fun Q=>by
 obtain⟨z,hz⟩:∃z,z=oy n:=⟨_,rfl⟩
 have EB:(n<0->(z:Int)=-2*n-1)/\(0<=n->(z:Int)=2*n):=by
  rw[hz];refine⟨fun h=>?_,fun h=>?_⟩
  .rw[zig_neg h1 h];omega
  .rw[zig_pos h h2];omega
 rw[<-hz];have hzl:z<18446744073709551616:=by rw[hz];exact (mz n).1
 clear hz;have e1:∀c t,aS C1 .shr t c (.int .u64 z) (.int .u64 1)=some (.int .u64 ((z / 2:Nat):Int)):=fun c t=>by
  show some (jd (Int.fdiv z (.ofNat (Nat.pow 2 (Nat.min 1 IntKind.u64.bits)))) fun n=>AV.int .u64 n)=_;rw[dG];have:Nat.pow 2 (Nat.min 1 IntKind.u64.bits)=2:=by decide
  rw[this,Int.fdiv_eq_ediv_of_nonneg _ (by decide)];rfl
 have e2:∀c t,aS C1 .and t c (.int .u64 z) (.int .u64 1)=some (.int .u64 ((z%2:Nat):Int)):=fun c t=>by
  show cond (ej .u64 .u64) (some (fk .and .u64 (z:Nat) ((1:Nat):Int))) none=_;rw[dk.bits_nat (.inl rfl) hk64 hzl (by decide),eA];have:z &&& 1=z%2:=Nat.and_two_pow_sub_one_eq_mod z 1;show some (AV.int .u64 ((z &&& 1:Nat):Int))=_;rw[this]
 have w1:IntKind.i64.wrap ((z / 2:Nat):Int)=((z / 2:Nat):Int):=IntWalk.i64_in _ (by omega);have w2:IntKind.i64.wrap ((z%2:Nat):Int)=((z%2:Nat):Int):=IntWalk.i64_in _ (by omega);have w3:IntKind.i64.wrap (-((z%2:Nat):Int))=-((z%2:Nat):Int):=IntWalk.i64_in _ (by omega);have e3:∀c t,aS C1 .xor t c (.int .i64 ((z / 2:Nat):Int)) (.int .i64 (-((z%2:Nat):Int)))=some (.int .i64 n):=fun c t=>by
  show cond (ej .i64 .i64) (some (fk .xor .i64 ((z / 2:Nat):Int) (-((z%2:Nat):Int)))) none=_;rw[ji (by simp),eA];show some (AV.int .i64 (IntKind.i64.wrap ((BitVec.ofInt 64 ((z / 2:Nat):Int) ^^^ BitVec.ofInt 64 (-((z%2:Nat):Int))).toNat:Int)))=_;by_cases h:n<0
  .have h3:=EB.1 h;have a1:z%2=1:=by omega
   have a2:((z / 2:Nat):Int)=-n-1:=by omega
   rw[a1,a2];have:BitVec.ofInt 64 (-((1:Nat):Int))=BitVec.allOnes 64:=by decide
   rw[this,BitVec.xor_allOnes,BitVec.toNat_not,BitVec.toNat_ofInt];congr 2;simp only[IntKind.wrap,IntKind.bits,IntKind.signed];simp;omega
  .have h3:=EB.2 (by omega);have a1:z%2=0:=by omega
   have a2:((z / 2:Nat):Int)=n:=by omega
   rw[a1,a2];have:BitVec.ofInt 64 (-((0:Nat):Int))=0#64:=by decide
   rw[this,BitVec.xor_zero,BitVec.toNat_ofInt];congr 2;simp only[IntKind.wrap,IntKind.bits,IntKind.signed];simp;omega
 obtain⟨a,ha⟩:∃a,a=z / 2:=⟨_,rfl⟩
 obtain⟨b,hb⟩:∃b,b=z%2:=⟨_,rfl⟩
 rw[<-ha]at e1 w1 e3;rw[<-hb]at e2 w2 w3 e3;refine ai.eq (aK (cD _) (cG _ rfl) fn279 rfl ok279 (by simp) fun F hn s0=>?_);simp[s0,e1,e2,e3,w1,w2,w3]
theorem equal191{v w:AV}{a b:List Nat}(h1:Sl S v 1 (az a))(h2:Sl S w 1 (az b))(ha:∀c,c∈a->c<256)(hb:∀c,c∈b->c<256):∀Q:AV->AS->Prop,ai C1 191 [v,w] S Q=Q (.bool (decide (a=b))) S:=fun Q=>by
 have tx:=fun (F:Fr) (dst:Option Tmp) (ty:TypeId) (pos:String) (af:Array Edge) (gd:Option (Nat×Bool)) (y:Tmp) (e:sl F y=v)=>jZ (cx:=C1) (F:=F) (S:=S) (dst:=dst) (ty:=ty) (pos:=pos) (af:=af) (gd:=gd) (a:=32) (b:=9) h1 ha ((aJ F y).trans e) FJ sT9;have tx2:=fun (F:Fr) (dst:Option Tmp) (ty:TypeId) (pos:String) (af:Array Edge) (gd:Option (Nat×Bool)) (y:Tmp) (e:sl F y=w)=>jZ (cx:=C1) (F:=F) (S:=S) (dst:=dst) (ty:=ty) (pos:=pos) (af:=af) (gd:=gd) (a:=32) (b:=9) h2 hb ((aJ F y).trans e) FJ sT9;have hq:zd .eql a b=some (.bool (decide (a=b))):=by
  show some (AV.bool (re a b))=_;rw[kj]
 refine ai.eq (aX (cD _) (cG _ rfl) fn191 rfl ok191 (by simp) fun F hn s0 s1=>?_);simp[s0,s1,tx,tx2,hq,Cq]
end
section
variable{S T:AS}{B:Nat}
theorem dD.row{p:Nat}{bs:List Nat}(h:dD S p B bs):∃v,S.h.get p=some (.row [v,.bool true] 0 0 false 224)/\Sl S v 1 (az bs)/\aB v=B:=h.ex
theorem int262{p:Nat}{n:Int}{rest:List Nat}(h:dD S p B (aV (oy n)++rest))(h1:-9223372036854775808<=n)(h2:n<9223372036854775808):
  ai C1 262 [.ptr p 0 0 2] S fun r T=>r=.tuple [.int .i64 n,.int .i64 0]/\dD T p B rest/\cN (fun id=>id=p) S T:=by
 have hz:=(mz n).1;obtain⟨r,T,⟨rfl,q1,q2⟩,e1⟩:=(num99 (lim:=18446744073709551615) h hz (by omega) (by decide)).ex;have e2:=zag279 (S:=T) h1 h2;have e1':∀Q:AV->AS->Prop,ai C1 99 [.ptr p 0 0 2,.int .u64 18446744073709551615] S Q=Q (.tuple [.int .u64 (oy n),.int .i64 0]) T:=e1;refine aK (cD _) (cG _ rfl) fn262 rfl ok262 (by simp) fun F hn s0=>?_;simp[s0,aR,e1',e2];exact⟨q1,q2⟩
theorem left103{p:Nat}{bs:List Nat}(h:dD S p B bs):∀Q:AV->AS->Prop,ai C1 103 [.ptr p 0 0 2] S Q=Q (.int .i64 bs.length) S:=fun Q=>by
 obtain⟨v,h1,h2,h3⟩:=h.row;have u1:=h2.sl;have u2:=h2.fC;rw[aD]at u2;refine ai.eq (aK (cD _) (cG _ rfl) fn103 rfl ok103 (by simp) fun F hn s0=>?_);simp[s0,h1,u1,u2]
theorem nt101:Tryz.f101.ntmps=60:=by kernel_rfl
theorem res101{F:Fr}{x:AV}{e:Int}{b:Nat}(h:sl F 4=x)(hx:okW x=true)(h5:sl F 5=.ptr b 0 0 1)(hl:S.h.get b=some (.row [.int .i64 e] 0 0 false 42)):j9 C1 F S Tryz.f101.results.toList=some [x,.int .i64 e]:=by
 have e:Tryz.f101.results.toList=[.tmp 4,.cell 5 42]:=by kernel_rfl
 rw[e];simp[h,h5,hl,hx]
set_option maxRecDepth 20000 in
theorem Fz{p most:Nat}{s rest:List Nat}(h:dD S p B (gI s++rest))(hl:s.length<=most)(hm:most<=1000000)(ml:rest.length<=1073741824):
  ai C1 101 [.ptr p 0 0 2,.int .i64 most] S fun r T=>∃w,r=.tuple [w,.int .i64 0]/\Sl T w 1 (az s)/\dD T p B rest/\cN (fun id=>id=p) S T:=by
 obtain⟨S1,bI⟩:∃S1:AS,S1=⟨S.h.set S.next (.row [.int .i64 0] 0 0 false 42),S.next+1⟩:=⟨_,rfl⟩
 have s1:Sub S S1:=by rw[bI];exact seg.cf
 have g1:S1.h.get S.next=some (.row [.int .i64 0] 0 0 false 42):=by rw[bI];exact aa _ _ _
 have n1:S1.next=S.next+1:=by rw[bI]
 have fN:=bI.symm;clear bI;have cq:=h.lt;have hr1:dD S1 p B (aV s.length++(s++rest)):=by
  have:=h.sub s1;unfold gI at this
  rwa [List.append_assoc]at this
 obtain⟨v0,p0,p1,p2⟩:=hr1.row;have p1o:=p1.old;have cS:=h.ne;have hBl:=h.le;obtain⟨r,T,⟨rfl,q1,q2⟩,e1⟩:=(num99 (lim:=most) hr1 (by omega) hl (by omega)).ex;have q2n:=q2.next
 have gT:T.h.get S.next=some (.row [.int .i64 0] 0 0 false 42):=(q2.h _ (by omega) (by omega)).trans g1
 obtain⟨v,a1,a2,a3⟩:=q1.row;have u1:=a2.sl;have u2:=a2.fC;rw[aD,List.length_append]at u2;obtain⟨n,yv⟩:∃n,n=s.length:=⟨_,rfl⟩
 obtain⟨L,hL⟩:∃L,L=n+rest.length:=⟨_,rfl⟩
 have u2L:sLen v=L:=by omega
 obtain⟨T1,iP⟩:∃T1:AS,T1=⟨T.h.set S.next (.row [.int .i64 0] 0 0 false 42),T.next⟩:=⟨_,rfl⟩
 have o1:∀id,T1.h.get id=T.h.get id:=fun id=>by
  rw[iP];by_cases hi:id=S.next
  .rw[hi];exact (aa _ _ _).trans gT.symm
  .exact ae _ _ hi
 have nT1:T1.next=T.next:=by rw[iP]
 have Ay:=iP.symm;clear iP;have a1':=(o1 p).trans a1;have gT1:=(o1 S.next).trans gT;have a2':Sl T1 v 1 (az (s++rest)):=a2.agree (fun id _=>o1 id) (by omega);have c1:=a2'.cut (l:=0) (k:=n) (Nat.zero_le _) (by omega);have c2:=a2'.cut (l:=n) (k:=L) (by omega) (by omega);have d1:((az (s++rest)).drop (0*1)).take ((n-0)*1)=az s:=by
  rw[Nat.zero_mul,List.drop_zero,Nat.mul_one,Nat.sub_zero,<-fE,List.take_left' (by rw[aD,yv])]
 have d2:((az (s++rest)).drop (n*1)).take ((L-n)*1)=az rest:=by
  rw[Nat.mul_one,Nat.mul_one,<-fE,List.drop_left' (by rw[aD,yv]),List.take_of_length_le (by rw[aD];omega)]
 rw[d1]at c1;rw[d2]at c2;have b1:aB (j8 v 0 n)=aB v:=pN;have b2:aB (j8 v n L)=aB v:=pN;obtain⟨cw,hcw⟩:∃cw,cw=j8 v 0 n:=⟨_,rfl⟩
 obtain⟨dw,hdw⟩:∃dw,dw=j8 v n L:=⟨_,rfl⟩
 have gA:∀(F:Fr)(x:Tmp),sl F x=.int .u64 n->eK C1 F 32 v none (some (.tmp x)) none=some cw:=fun F x a0=>by
  rw[hcw];exact fm (cx:=C1) (p:=(5,1,1)) (l:=0) (k:=n) ru u1 (by simp) (by simp[a0]) (Nat.zero_le _) (by omega)
 have lE:∀(F:Fr)(x:Tmp),sl F x=.int .u64 n->eK C1 F 32 v (some (.tmp x)) none none=some dw:=fun F x a0=>by
  rw[hdw];exact fm (cx:=C1) (p:=(5,1,1)) (l:=n) (k:=L) ru u1 (by simp[a0]) (by rw[jF,u2L]) (by omega) (by omega)
 rw[<-hcw]at c1 b1;rw[<-hdw]at c2 b2;obtain⟨w,T2,⟨w1,w2,w3⟩,yW⟩:=(Fj c1 (by rw[aD];omega)).ex;have w2n:=w2.next
 obtain⟨T3,uV⟩:∃T3:AS,T3=⟨T2.h.set p (.row [dw,.bool true] 0 0 false 224),T2.next⟩:=⟨_,rfl⟩
 have a12:=(w2.h p (by omega)).trans a1';have g3:T3.h.get p=some (.row [dw,.bool true] 0 0 false 224):=by rw[uV];exact aa _ _ _
 have bT3:=uV.symm;have hbw:aB w≠p+1:=by unfold iS at w3;omega
 have fin:Sl T3 w 1 (az s)/\dD T3 p B rest/\cN (fun id=>id=p) S T3:=by
  rw[uV];refine⟨w1.1.agree (fun id e=>ae _ _ (by omega)) (Nat.le_refl _),⟨⟨dw,aa _ _ _,?_,by omega⟩,by show p<T2.next;omega,cS⟩,⟨fun id h1 h2=>?_,by show S.next<=T2.next;omega⟩⟩
  .refine c2.agree (fun id e=>(ae _ _ (by omega)).trans (w2.h id ?_)) w2n;have:=a2.old;omega
  .show (T2.h.set p _).get id=_;rw[ae _ _ h2,w2.h id (by omega),o1,q2.h id (by omega) h2];exact s1.h id h1
 have gB:T3.h.get S.next=some (.row [.int .i64 0] 0 0 false 42):=by
  rw[uV];refine (ae _ _ (by omega)).trans ?_;rw[w2.h _ (by omega),o1];exact gT
 obtain⟨U,hU⟩:∃U:AS,U=⟨T3.h.set S.next (.row [.int .i64 0] 0 0 false 42),T3.next⟩:=⟨_,rfl⟩
 have oU:∀id,U.h.get id=T3.h.get id:=fun id=>by
  rw[hU];by_cases hi:id=S.next
  .rw[hi];exact (aa _ _ _).trans gB.symm
  .exact ae _ _ hi
 have nU:U.next=T3.next:=by rw[hU]
 have bU:=hU.symm;have gU:=(oU S.next).trans gB;have fin2:Sl U w 1 (az s)/\dD U p B rest/\cN (fun id=>id=p) S U:=by
  obtain⟨f1,f2,f6⟩:=fin;exact⟨f1.agree (fun id _=>oU id) (by omega),f2.agree (fun id _=>oU id) (by omega),⟨fun id h1 h2=>(oU id).trans (f6.h id h1 h2),by have:=f6.next;omega⟩⟩
 clear uV hU;have hwm:=eC (n:=most) (by omega);have hwL:=eC (n:=L) (by omega);have hmI:¬(most:Int)<0:=by omega
 have yr:¬L<n:=by omega
 have hshI:¬(L:Int)<n:=by omega
 rw[<-yv]at e1;refine xK (cD _) (cG _ rfl) fn101 rfl ok101 (by simp) fun F pB qv hs=>?_;rw[nt101]at pB;have t0:=hs 0;have t1:=hs 1;clear hs;simp only[List.getElem?_cons_zero,List.getElem?_cons_succ,Option.getD_some]at t0 t1;simp[t0,t1,fN,p0,aj p1,hmI,aR,hwm];refine⟨.call 153 [.ptr p 0 0 2,v0,.ptr S.next 0 0 1] [],by simp[gM,vR,bz,t0],?_⟩;simp[t0,t1,e1,aR,hwm,Ay,gT,gT1,a1',u1,u2L,hwL,yr,hshI];refine cO [.p,.p,.p,.p,.r 0 0,.p,.p,.e [],.p,.p,.p,.r 1 0,.p,.p,.p,.p,.p,.e []] (n:=60) (by kernel_rfl) (by simp[pB]) ?_;simp[t0,t1,aR,a1',gA,lE,aj a2',aj c1,yW,a12,aj w1.1,w1.1.np,c2.cells,bT3,gB,bU];simp only[ma,qv];refine vG gU ?_;rw[iz,res101 (x:=w) (by simp) (aj w1.1) (by simp) gU];simp[w1.1.np];exact fin2
end
open Go.Proofs.YtdknlbnljfdhgaaGreatDoor.mod (Val encV encV_len Con encC encC_len ConOk PredAt mayP mayC mayV setB sameB zeroV mayPred encT encT_len)
section
variable{S T:AS}{B:Nat}
theorem BB:∀Q:AV->AS->Prop,ai C1 261 [.int .i64 0] S Q=Q (.tuple []) S:=fun Q=>by
 refine ai.eq (aK (cD _) (cG _ rfl) fn261 rfl ok261 (by simp) fun F hn s0=>?_);simp[s0]
theorem Bu{p n lim:Nat}{rest:List Nat}(h:dD S p B (aV n++rest))(hn:n<18446744073709551616)(hl:n<=lim)(hlim:lim<18446744073709551616):
  ai C1 236 [.agg [.ptr p 0 0 2],.int .u64 lim] S fun r T=>r=.int .u64 n/\dD T p B rest/\cN (fun id=>id=p) S T:=by
 obtain⟨S1,bI⟩:∃S1:AS,S1=⟨S.h.set S.next (.row [.ptr p 0 0 2] 0 0 false 230),S.next+1⟩:=⟨_,rfl⟩
 have s1:Sub S S1:=by rw[bI];exact seg.cf
 have g1:S1.h.get S.next=some (.row [.ptr p 0 0 2] 0 0 false 230):=by rw[bI];exact aa _ _ _
 have fN:=bI.symm;clear bI;obtain⟨r,T,⟨rfl,q1,q2⟩,e1⟩:=(num99 (h.sub s1) hn hl hlim).ex;have e2:=BB (S:=T);refine aX (cD _) (cG _ rfl) fn236 rfl ok236 (by simp) fun F hn t0 t1=>?_;simp[t0,t1,fN,g1,aR,e1,e2];exact⟨q1,s1.cg.trans q2⟩
theorem text237{p most:Nat}{s rest:List Nat}(h:dD S p B (gI s++rest))(hb:∀c,c∈s->c<256)(hl:s.length<=most)(hm:most<=1000000)(ml:rest.length<=1073741824):
  ai C1 237 [.agg [.ptr p 0 0 2],.int .i64 most] S fun r T=>r=.str s/\dD T p B rest/\cN (fun id=>id=p) S T:=by
 obtain⟨S1,bI⟩:∃S1:AS,S1=⟨S.h.set S.next (.row [.ptr p 0 0 2] 0 0 false 230),S.next+1⟩:=⟨_,rfl⟩
 have s1:Sub S S1:=by rw[bI];exact seg.cf
 have g1:S1.h.get S.next=some (.row [.ptr p 0 0 2] 0 0 false 230):=by rw[bI];exact aa _ _ _
 have fN:=bI.symm;clear bI;obtain⟨r,T,⟨w,rfl,w1,q1,q2⟩,e1⟩:=(Fz (h.sub s1) hl hm ml).ex;have e2:=BB (S:=T);have tx:=fun (F:Fr) (dst:Option Tmp) (ty:TypeId) (pos:String) (af:Array Edge) (gd:Option (Nat×Bool)) (y:Tmp) (e:sl F y=w)=>jZ (cx:=C1) (F:=F) (S:=T) (dst:=dst) (ty:=ty) (pos:=pos) (af:=af) (gd:=gd) (a:=32) (b:=9) w1 hb ((aJ F y).trans e) FJ sT9;refine aX (cD _) (cG _ rfl) fn237 rfl ok237 (by simp) fun F hn t0 t1=>?_;simp[t0,t1,fN,g1,aR,e1,e2,aj w1,w1.np,tx];exact⟨q1,s1.cg.trans q2⟩
end
open Go.Proofs.YtdknlbnljfdhgaaGreatDoor.mod (Val encV encV_len Con encC encC_len ConOk PredAt mayP mayC mayV setB sameB zeroV mayPred encT encT_len)
theorem sr{a b:Val}(h:sameB a b=true):a=b:=by
 unfold sameB at h;simp only[Bool.and_eq_true,kj,decide_eq_true_eq,beq_iff_eq]at h;obtain⟨h1,h2,h3,h4⟩:=h;cases a;cases b;simp only at h1 h2 h3 h4;subst h1 h2 h3 h4;rfl
theorem tT{v:Val}(h:mayV v=true):(∃n,v=⟨1,n,[],false⟩)\/(∃s,v=⟨2,0,s,false⟩/\s.length<=32)\/(∃b,v=⟨3,0,[],b⟩):=by
 unfold mayV at h;split at h
 .exact .inl ⟨_,sr h⟩
 .split at h
  .simp only[Bool.and_eq_true,decide_eq_true_eq]at h;exact .inr (.inl ⟨_,sr h.1,h.2⟩)
  .split at h
   .exact .inr (.inr ⟨_,sr h⟩)
   .cases h
section
variable{S T:AS}{B:Nat}
theorem xf{A:Nat->Prop}{S T U:AS}(h:Sub S T)(k:cN A T U):cN A S U:=h.cg.trans k
set_option maxRecDepth 20000 in
theorem C8{p:Nat}{v:Val}{rest:List Nat}(h:dD S p B (dv v++rest))(hv:mayV v=true)(hn:rk v)(ml:rest.length<=1073741824):
  ai C1 239 [.agg [.ptr p 0 0 2]] S fun r T=>r=.agg (encV v)/\dD T p B rest/\cN (fun id=>id=p) S T:=by
 have cq:=h.lt;obtain⟨S1,bI⟩:∃S1:AS,S1=⟨S.h.set S.next (.row [.ptr p 0 0 2] 0 0 false 230),S.next+1⟩:=⟨_,rfl⟩
 have s1:Sub S S1:=by rw[bI];exact seg.cf
 have g1:S1.h.get S.next=some (.row [.ptr p 0 0 2] 0 0 false 230):=by rw[bI];exact aa _ _ _
 have n1:S1.next=S.next+1:=by rw[bI]
 have fN:=bI.symm;clear bI;obtain⟨S2,c7⟩:∃S2:AS,S2=⟨S1.h.set S1.next (.row [.int .i64 0,.int .i64 0,.str [],.bool false] 0 0 false 100),S1.next+1⟩:=⟨_,rfl⟩
 have s2:Sub S1 S2:=by rw[c7];exact seg.cf
 have r2:S2.h.get S1.next=some (.row [.int .i64 0,.int .i64 0,.str [],.bool false] 0 0 false 100):=by rw[c7];exact aa _ _ _
 have n2:S2.next=S1.next+1:=by rw[c7]
 have iJ:=c7.symm;clear c7;have g2:=(s2.h _ (by omega)).trans g1;have h2:=(h.sub s1).sub s2;unfold dv at h2;rw[List.append_assoc]at h2;obtain⟨k,hk⟩:∃k:Nat,k=uN v.kind:=⟨_,rfl⟩
 rw[<-hk]at h2;have hk3:k<=3/\v.kind=k:=by
  rcases tT hv with⟨n,rfl⟩|⟨s,rfl,_⟩|⟨b,rfl⟩
  .exact⟨by rw[hk];show uN ((1:Nat):Int)<=3;rw[nj (by omega)];omega,by rw[hk];show (1:Int)=(uN ((1:Nat):Int):Nat);rw[nj (by omega)];rfl⟩
  .exact⟨by rw[hk];show uN ((2:Nat):Int)<=3;rw[nj (by omega)];omega,by rw[hk];show (2:Int)=(uN ((2:Nat):Int):Nat);rw[nj (by omega)];rfl⟩
  .exact⟨by rw[hk];show uN ((3:Nat):Int)<=3;rw[nj (by omega)];omega,by rw[hk];show (3:Int)=(uN ((3:Nat):Int):Nat);rw[nj (by omega)];rfl⟩
 obtain⟨r,T,⟨rfl,q1,q2⟩,e1⟩:=(Bu (lim:=3) h2 (by omega) hk3.1 (by decide)).ex;have e1':∀Q:AV->AS->Prop,ai C1 236 [.agg [.ptr p 0 0 2],.int .u64 3] S2 Q=Q (.int .u64 k) T:=e1;have q2n:=q2.next
 have hwk:IntKind.i64.wrap (k:Int)=k:=IntWalk.i64_in _ (by omega);have bld:cU C1 100 [(0,.int .i64 (k:Int))]=some (.agg [.int .i64 k,.int .i64 0,.str [],.bool false]):=by kernel_rfl
 have gT:=(q2.h _ (by omega) (by omega)).trans g2;have rT:=(q2.h _ (by omega) (by omega)).trans r2;obtain⟨T1,iP⟩:∃T1:AS,T1=⟨(T.h.set T.next (.row [.int .i64 0,.int .i64 0,.str [],.bool false] 0 0 false 100)).set T.next (.row [.int .i64 k,.int .i64 0,.str [],.bool false] 0 0 false 100),T.next+1⟩:=⟨_,rfl⟩
 have t1:Sub T T1:=by rw[iP];exact seg.fO
 have v1:T1.h.get T.next=some (.row [.int .i64 k,.int .i64 0,.str [],.bool false] 0 0 false 100):=by rw[iP];exact aa _ _ _
 have nT1:T1.next=T.next+1:=by rw[iP]
 have Ay := iP.symm;clear iP;have q1' := q1.sub t1;have gT1 := (t1.h _ (by omega)).trans gT;have rT1 := (t1.h _ (by omega)).trans rT;have kST1 : cN (fun id => id = p) S T1 := (xf (s1.trans s2) q2).trans t1.cg;have hB := h.le;have fin : ∀ (U : AS) (cs : List AV), dD U p B rest → cN (fun id => id = p) T1 U →
   ∃U1 U2:AS,(⟨U.h.set T.next (.row cs 0 0 false 100),U.next⟩:AS)=U1/\U1.h.get T.next=some (.row cs 0 0 false 100)/\U1.h.get S1.next=some (.row [.int .i64 0,.int .i64 0,.str [],.bool false] 0 0 false 100) /\
    (⟨U1.h.set S1.next (.row cs 0 0 false 100),U1.next⟩:AS)=U2/\U2.h.get S1.next=some (.row cs 0 0 false 100)/\dD U2 p B rest/\cN (fun id=>id=p) S U2:=fun U cs a1 a2=>by
  have a2n:=a2.next
  have ag:∀id,id<S.next->((U.h.set T.next (.row cs 0 0 false 100)).set S1.next (.row cs 0 0 false 100)).get id=U.h.get id:=fun id bY=>(ae _ _ (by omega)).trans (ae _ _ (by omega))
  refine⟨_,_,rfl,aa _ _ _,(ae _ _ (by omega)).trans ((a2.h _ (by omega) (by omega)).trans rT1),rfl,aa _ _ _,a1.agree (fun id e=>ag id (by rcases e with e|e<;>omega)) (Nat.le_refl _),⟨fun id h1 h2=>(ag id h1).trans ((kST1.trans a2).h id h1 h2),(kST1.trans a2).next⟩⟩
 have gv:∀U:AS,cN (fun id=>id=p) T1 U->U.h.get T.next=some (.row [.int .i64 k,.int .i64 0,.str [],.bool false] 0 0 false 100):=fun U hU=>(hU.h _ (by omega) (by omega)).trans v1
 clear h2;rcases tT hv with⟨n,rfl⟩|⟨s,rfl,hs32⟩|⟨b,rfl⟩
 .obtain rfl:k=1:=by have:=hk3.2;simp only at this;omega
  simp only[Int.ofNat_one,Int.cast_ofNat_Int]at e1' Ay v1 bld hwk gv;obtain⟨r,U,⟨rfl,u1,u2⟩,e2⟩:=(int262 (n:=n) (rest:=rest) (by simpa[xV]using q1') hn.1 hn.2.1).ex;have e3:=BB (S:=U);have gU:=gv U u2;obtain⟨U1,U2,b1,g1',r1,b2,r2',f1,f2⟩:=fin U [.int .i64 1,.int .i64 n,.str [],.bool false] u1 u2;refine aK (cD _) (cG _ rfl) fn239 rfl ok239 (by simp) fun F pB t0=>?_;simp[t0,fN,iJ,g2,aR,e1',hwk,bld,Ay,v1,gT1,e2,e3,gU,b1,g1',r1,b2,r2'];exact⟨rfl,f1,f2⟩
 .obtain rfl:k=2:=by have:=hk3.2;simp only at this;omega
  have e1':∀Q:AV->AS->Prop,ai C1 236 [.agg [.ptr p 0 0 2],.int .u64 3] S2 Q=Q (.int .u64 2) T:=e1';have Ay:(⟨(T.h.set T.next (.row [.int .i64 0,.int .i64 0,.str [],.bool false] 0 0 false 100)).set T.next (.row [.int .i64 2,.int .i64 0,.str [],.bool false] 0 0 false 100),T.next+1⟩:AS)=T1:=Ay;have v1:T1.h.get T.next=some (.row [.int .i64 2,.int .i64 0,.str [],.bool false] 0 0 false 100):=v1
  have bld:cU C1 100 [(0,.int .i64 2)]=some (.agg [.int .i64 2,.int .i64 0,.str [],.bool false]):=bld;have hwk:IntKind.i64.wrap 2=2:=hwk;obtain⟨r,U,⟨rfl,u1,u2⟩,e2⟩:=(text237 (most:=32) (s:=s) (rest:=rest) (by simpa[xV]using q1') hn.2.2 hs32 (by decide) ml).ex;have gU:U.h.get T.next=some (.row [.int .i64 2,.int .i64 0,.str [],.bool false] 0 0 false 100):=gv U u2
  obtain⟨U1,U2,b1,g1',r1,b2,r2',f1,f2⟩:=fin U [.int .i64 2,.int .i64 0,.str s,.bool false] u1 u2;have e2:∀Q:AV->AS->Prop,ai C1 237 [.agg [.ptr p 0 0 2],.int .i64 32] T1 Q=Q (.str s) U:=e2;refine aK (cD _) (cG _ rfl) fn239 rfl ok239 (by simp) fun F pB t0=>?_;simp[t0,fN,iJ,g2,aR,e1',hwk,bld,Ay,v1,gT1,e2,gU,b1,g1',r1,b2,r2'];exact⟨rfl,f1,f2⟩
 .obtain rfl:k=3:=by have:=hk3.2;simp only at this;omega
  have e1':∀Q:AV->AS->Prop,ai C1 236 [.agg [.ptr p 0 0 2],.int .u64 3] S2 Q=Q (.int .u64 3) T:=e1';have Ay:(⟨(T.h.set T.next (.row [.int .i64 0,.int .i64 0,.str [],.bool false] 0 0 false 100)).set T.next (.row [.int .i64 3,.int .i64 0,.str [],.bool false] 0 0 false 100),T.next+1⟩:AS)=T1:=Ay;have v1:T1.h.get T.next=some (.row [.int .i64 3,.int .i64 0,.str [],.bool false] 0 0 false 100):=v1
  have bld:cU C1 100 [(0,.int .i64 3)]=some (.agg [.int .i64 3,.int .i64 0,.str [],.bool false]):=bld;have hwk:IntKind.i64.wrap 3=3:=hwk;obtain⟨m,hm⟩:∃m:Nat,m=if b then 1 else 0:=⟨_,rfl⟩
  have hm1:m<=1:=by rw[hm];split<;>omega
  obtain⟨r,U,⟨rfl,u1,u2⟩,e2⟩:=(Bu (lim:=1) (n:=m) (rest:=rest) (by simpa[xV,Ak,hm]using q1') (by omega) hm1 (by decide)).ex;have gU:U.h.get T.next=some (.row [.int .i64 3,.int .i64 0,.str [],.bool false] 0 0 false 100):=gv U u2
  obtain⟨U1,U2,b1,g1',r1,b2,r2',f1,f2⟩:=fin U [.int .i64 3,.int .i64 0,.str [],.bool b] u1 u2;have hmb:decide ((m:Int)=1)=b:=by rw[hm];cases b<;>rfl
  have hmb':decide (m=1)=b:=by rw[hm];cases b<;>rfl
  have e2:∀Q:AV->AS->Prop,ai C1 236 [.agg [.ptr p 0 0 2],.int .u64 1] T1 Q=Q (.int .u64 m) U:=e2;refine aK (cD _) (cG _ rfl) fn239 rfl ok239 (by simp) fun F pB t0=>?_;simp[t0,fN,iJ,g2,aR,e1',hwk,bld,Ay,v1,gT1,e2,gU,hmb,hmb',b1,g1',r1,b2,r2'];exact⟨rfl,f1,f2⟩
end
open Go.Proofs.YtdknlbnljfdhgaaGreatDoor.mod (Val encV encV_len Con encC encC_len ConOk PredAt mayP mayC mayV setB sameB zeroV mayPred encT encT_len)
section
variable{S T:AS}{B:Nat}
def timH(g n:Nat)(caps:List AV)(I:Nat->AS->Prop)(k:Nat)(F':Fr)(S':AS):Prop:=∃i:Nat,I i S'/\sl F' 2=.func (.func g) [] caps/\sl F' 8=.int .u64 n/\sl F' 9=.int .u64 i/\i<=n/\k=n-i
theorem timH_mk{g n:Nat}{caps:List AV}{I:Nat->AS->Prop}{k:Nat}{F':Fr}(i:Nat)(h1:I i T)(h2:sl F' 2=.func (.func g) [] caps)(h3:sl F' 8=.int .u64 n)(h4:sl F' 9=.int .u64 i)(h5:i<=n)(h6:k=n-i):timH g n caps I k F' T:=⟨i,h1,h2,h3,h4,h5,h6⟩
theorem De{p n most g:Nat}{caps:List AV}{bs:List Nat}(h:dD S p B (aV n++bs))(hl:n<=most)(hm:most<1000000)(hx:C1.exts.get g=none)(I:Nat->AS->Prop)
  (h0:∀T,dD T p B bs->cN (fun id=>id=p) S T->I 0 T) (hs:∀k T,k<n->I k T->ai C1 g caps T fun _ U=>I (k+1) U) :
  ai C1 192 [.agg [.ptr p 0 0 2],.int .u64 most,.func (.func g) [] caps] S fun _ U=>I n U:=by
 obtain⟨S1,bI⟩:∃S1:AS,S1=⟨S.h.set S.next (.row [.ptr p 0 0 2] 0 0 false 230),S.next+1⟩:=⟨_,rfl⟩
 have s1:Sub S S1:=by rw[bI];exact seg.cf
 have g1:S1.h.get S.next=some (.row [.ptr p 0 0 2] 0 0 false 230):=by rw[bI];exact aa _ _ _
 have fN:=bI.symm;clear bI;obtain⟨r,T,⟨rfl,q1,q2⟩,e1⟩:=(Bu (h.sub s1) (by omega) hl (by omega)).ex;have hI0:=h0 T q1 (s1.cg.trans q2);refine uy (cD _) (cG _ rfl) fn192 rfl ok192 (by simp) fun F hn t0 t1 t2=>?_;simp[t0,t1,t2,fN,g1,aR,e1];refine aH (timH g n caps I) n (timH_mk 0 hI0 (by simp[t2]) (by simp) (by simp) (Nat.zero_le _) rfl) ?_;clear t0 t1 t2 hI0;rintro k F' S'-⟨i,hI,t2,t8,t9,hi,hk⟩;by_cases CR:i<n
 .obtain⟨v,U,hU,e⟩:=(hs i S' CR hI).ex;have hinI:(i:Int)<n:=by omega
  have hw:IntKind.u64.wrap ((i:Int)+1)=((i+1:Nat):Int):=eC (n:=i+1) (by omega);simp[t2,t8,t9,CR,hinI,hx,e,hw];exact⟨n-(i+1),by omega,timH_mk (i+1) hU (by simp[t2]) (by simp[t8]) (by simp) CR rfl⟩
 .have:i=n:=by omega
  subst this;simp[t2,t8,t9];exact hI
end
open Go.Proofs.YtdknlbnljfdhgaaGreatDoor.mod (Val encV encV_len Con encC encC_len ConOk PredAt mayP mayC mayV setB sameB zeroV mayPred encT encT_len bare)
section
variable{S T:AS}{B:Nat}
structure SetI(S0:AS)(b1 b3 p B:Nat)(name:List Nat)(op:Int)(vs:List Val)(rest:List Nat)(k:Nat)(S:AS):Prop where
 ex:∃v,S.h.get b3=some (.row [.str name,.int .i64 op,.int .i64 0,.int .i64 0,.str [],.bool false,v] 0 0 false 103)/\Gw S v 4 100 ((vs.take k).flatMap encV)/\(aB v=0\/S0.next<aB v)
 b1:S.h.get b1=some (.row [.ptr p 0 0 2] 0 0 false 230)
 rd:dD S p B ((vs.drop k).flatMap dv++rest)
 kp:cN (fun id=>id=p\/id=b3) S0 S
theorem nt238:Tryz.f238.ntmps=9:=by kernel_rfl
theorem set238{S0:AS}{b1 b3 p k:Nat}{name:List Nat}{op:Int}{vs:List Val}{rest:List Nat}(h:SetI S0 b1 b3 p B name op vs rest k S)(hk:k<vs.length)(h6:vs.length<=6)(hm:∀v,v∈vs->mayV v=true)(hn:∀v,v∈vs->rk v)
  (yR:b1<S0.next) (hb3:b3<S0.next) (hb13:b1≠b3) (h1p:b1≠p) (h3p:b3≠p) (hB3:B≠b3+1) (hB:B<=S0.next) (hp:p<S0.next) (ml:rest.length<=1000000) :
  ai C1 238 [.ptr b3 0 0 7,.ptr b1 0 0 1] S fun _ T=>SetI S0 b1 b3 p B name op vs rest (k+1) T:=by
 obtain⟨⟨v,g3,gv,hvb⟩,g1,hr,hkp⟩:=h;have hkn:=hkp.next
 have hx:vs[k]?=some vs[k]:=List.getElem?_eq_getElem hk;have vj:=List.getElem_mem hk;have hd:vs.drop k=vs[k]::vs.drop (k+1):=List.drop_eq_getElem_cons hk;have eS:dD S p B (dv vs[k]++((vs.drop (k+1)).flatMap dv++rest)):=by rw[hd,List.flatMap_cons,List.append_assoc]at hr;exact hr
 have ub:=dB (f:=dv) (k:=52) (l:=vs.drop (k+1)) fun v hv=>ju (qh (hm v (List.mem_of_mem_drop hv)) (hn v (List.mem_of_mem_drop hv)));have hfl2:(vs.drop (k+1)).length*52<=6*52:=Nat.mul_le_mul_right _ (by rw[List.length_drop];omega);obtain⟨r,T,⟨rfl,q1,q2⟩,e1⟩:=(C8 eS (hm _ vj) (hn _ vj) (by rw[List.length_append];omega)).ex;have q2n:=q2.next
 have hvo:=gv.1.old;have g3T:=(q2.h _ (by omega) h3p).trans g3;have gvT:Gw T v 4 100 ((vs.take k).flatMap encV):=gv.agree (fun id e=>q2.h id (by omega) (by omega)) q2n;have hvl:sLen v=k:=by
  have:=gv.1.aM encV_len (by omega);rw[this,List.length_take];omega
 obtain⟨T1,iP⟩:∃T1:AS,T1=⟨T.h.set T.next (.row (encV vs[k]) 0 0 false 100),T.next+1⟩:=⟨_,rfl⟩
 have t1:Sub T T1:=by rw[iP];exact seg.cf
 have x1:T1.h.get T.next=some (.row (encV vs[k]) 0 0 false 100):=by rw[iP];exact aa _ _ _
 have nT1:T1.next=T.next+1:=by rw[iP]
 have Ay:=iP.symm;clear iP;have yS:Sl T1 (.slice T.next 0 0 1 4 4 (some 1)) 4 (encV vs[k]):=
  ⟨by simp[isSl,eu],by simp[jR,dJ,x1,bt];rfl,by simp[sLen,encV_len],by simp[aB,nT1]⟩
 obtain⟨v',U,eU,gU,oU,nU,lU,_,bU,_⟩:=eB (cx:=C1) (S:=T1) (t:=101) (u:=101) (ts:=[]) (p:=(100,4,40)) (v:=v) (x:=.slice T.next 0 0 1 4 4 (some 1)) st101 un101 rfl (gvT.agree (fun id e=>t1.h id (by have:=gvT.1.old;omega)) t1.next) yS (by rw[hvl];simp[fits,cH,sLen];omega);have he:(vs.take k).flatMap encV++encV vs[k]=(vs.take (k+1)).flatMap encV:=by rw[List.take_succ_eq_append_getElem hk,List.flatMap_append,List.flatMap_cons,List.flatMap_nil,List.append_nil]
 rw[he]at gU;have iY:∀(F:Fr)(D:Nat)(y:Tmp),sl F y=.agg (encV vs[k])->aA C1 F D (.buildSlice 101 1 #[(0,.tmp y)])=some (.slice D 0 0 1 4 4 (some 1),.row (encV vs[k]) 0 0 false 100):=fun F D y a0=>by
  have:=ck (cx:=C1) (F:=F) (t:=101) (p:=(100,4,40)) (id:=D) (n:=1) (a:=#[(0,.tmp y)]) [encV vs[k]] st101 rfl (by simp[a0,cellsOf]) (by simp[encV_len]) (by decide);rw[this];simp
 have g3U:U.h.get b3=some (.row [.str name,.int .i64 op,.int .i64 0,.int .i64 0,.str [],.bool false,v] 0 0 false 103):=by
  rw[oU _ (by omega) (by omega),t1.h _ (by omega)];exact g3T
 obtain⟨V,hV⟩:∃V:AS,V=⟨U.h.set b3 (.row [.str name,.int .i64 op,.int .i64 0,.int .i64 0,.str [],.bool false,v'] 0 0 false 103),U.next⟩:=⟨_,rfl⟩
 have bV:=hV.symm;have oV:∀id,id≠b3->V.h.get id=U.h.get id:=fun id e=>by rw[hV];exact ae _ _ e
 have vV:V.h.get b3=some (.row [.str name,.int .i64 op,.int .i64 0,.int .i64 0,.str [],.bool false,v'] 0 0 false 103):=by rw[hV];exact aa _ _ _
 have nV:V.next=U.next:=by rw[hV]
 clear hV;have og:∀id,id<S.next->id≠p->id≠b3->id+1≠aB v->V.h.get id=S.h.get id:=fun id h1 h2 h3 h4=>by
  rw[oV _ h3,oU _ (by omega) h4,t1.h _ (by omega)];exact q2.h _ h1 h2
 have fin:SetI S0 b1 b3 p B name op vs rest (k+1) V:=by
  refine⟨⟨v',vV,gU.agree (fun id e=>oV id (by omega)) (by omega),by omega⟩,(og _ (by omega) h1p hb13 (by omega)).trans g1,q1.agree (fun id e=>?_) (by omega),⟨fun id h1 h2=>?_,by omega⟩⟩
  .rcases e with e|e
   .rw[oV _ (by omega),oU _ (by omega) (by omega),t1.h _ (by omega)]
   .rw[oV _ (by omega),oU _ (by omega) (by omega),t1.h _ (by omega)]
  .refine (og id (by omega) (fun e=>h2 (.inl e)) (fun e=>h2 (.inr e)) (by omega)).trans (hkp.h id h1 h2)
 have g3T1:=(t1.h _ (by omega)).trans g3T;have k1:=aj gv.1;have k2:=aj gvT.1;simp only[encV]at Ay iY e1;refine cl (cD _) (cG _ rfl) fn238 rfl ok238 (by simp) fun F fL hs=>?_;rw[nt238]at fL;have t0:=hs 0;have t1':=hs 1;clear hs;simp only[List.getElem?_cons_zero,List.getElem?_cons_succ,Option.getD_some]at t0 t1';simp;refine cO [.p,.r 0 2,.r 0 0,.e [],.e [],.e [],.p,.e []] (n:=9) (by kernel_rfl) (by simp[fL]) ?_;simp[t0,t1',g3,g1,aR,e1,k1,k2,g3T,g3T1,iY,Ay,eU,gU.1.np,aj gU.1,g3U,gU.1.cells,bV];exact fin
end
open Go.Proofs.YtdknlbnljfdhgaaGreatDoor.mod (Val encV encV_len Con encC encC_len ConOk PredAt mayP mayC mayV setB sameB zeroV mayPred encT encT_len bare)
theorem kY{n:Int}(h1:0<=n)(h2:n<256):((uN n:Nat):Int)=n:=by
 rw[<-kZ];simp only[IntKind.wrap,IntKind.bits,IntKind.signed];simp;omega
theorem wX{c:Con}(h:mayC c=true):c.name.length<=16/\((c.op=1/\c.val=zeroV/\c.aY=[])\/(2<=c.op/\c.op<=8/\mayV c.val=true/\c.aY=[])\/(c.op=9/\c.val=zeroV/\c.aY.length<=6/\∀v,v∈c.aY->mayV v=true)):=by
 unfold mayC at h;split at h
 .cases h
 .split at h
  .cases h
  .rename_i h1 h2;refine⟨by omega,?_⟩;split at h
   .rename_i h3;simp only[Bool.and_eq_true,decide_eq_true_eq]at h;exact .inl ⟨h3,sr h.1,List.length_eq_zero_iff.1 h.2⟩
   .split at h
    .rename_i h3;simp only[Bool.and_eq_true,decide_eq_true_eq]at h;exact .inr (.inl ⟨h3.1,by omega,h.1,List.length_eq_zero_iff.1 h.2⟩)
    .split at h
     .rename_i h3;simp only[Bool.and_eq_true,decide_eq_true_eq]at h;exact .inr (.inl ⟨by omega,by omega,h.1,List.length_eq_zero_iff.1 h.2.2⟩)
     .split at h
      .rename_i h3;simp only[Bool.and_eq_true,decide_eq_true_eq]at h;refine .inr (.inr ⟨h3,sr h.1,h.2.2.1,fun v hv=>?_⟩);have h3:=h.2.2.2;unfold setB at h3;have h4:(c.aY.any fun v=>!mayV v)=false:=by simpa using h3
       rw[List.any_eq_false]at h4;simpa using h4 v hv
      .cases h
section
variable{S T:AS}{B:Nat}
theorem bld103(s:List Nat)(n:Int):cU C1 103 [(0,.str s),(1,.int .i64 n)]=some (.agg [.str s,.int .i64 n,.int .i64 0,.int .i64 0,.str [],.bool false,.aq]):=by kernel_rfl
theorem nt194:Tryz.f194.ntmps=23:=by kernel_rfl
set_option maxRecDepth 20000 in
theorem cons194{p:Nat}{c:Con}{rest:List Nat}(h:dD S p B (fX c++rest))(hc:mayC c=true)(hn:bX c)(ml:rest.length<=1000000):
  ai C1 194 [.agg [.ptr p 0 0 2]] S fun r T=>∃c',r=.agg (encC c')/\bare c'=bare c/\ConOk T c'/\iS S.next c'.kJ/\dD T p B rest/\cN (fun id=>id=p) S T:=by
 have cq:=h.lt;have hB:=h.le;obtain⟨hname,om⟩:=wX hc;obtain⟨S1,bI⟩:∃S1:AS,S1=⟨S.h.set S.next (.row [.ptr p 0 0 2] 0 0 false 230),S.next+1⟩:=⟨_,rfl⟩
 have s1:Sub S S1:=by rw[bI];exact seg.cf
 have g1:S1.h.get S.next=some (.row [.ptr p 0 0 2] 0 0 false 230):=by rw[bI];exact aa _ _ _
 have n1:S1.next=S.next+1:=by rw[bI]
 have fN:=bI.symm;clear bI;obtain⟨zc,yq⟩:∃zc:List AV,zc=[.str [],.int .i64 0,.int .i64 0,.int .i64 0,.str [],.bool false,.aq]:=⟨_,rfl⟩
 obtain⟨S2,c7⟩:∃S2:AS,S2=⟨S1.h.set S1.next (.row zc 0 0 false 103),S1.next+1⟩:=⟨_,rfl⟩
 have s2:Sub S1 S2:=by rw[c7];exact seg.cf
 have r2:S2.h.get S1.next=some (.row zc 0 0 false 103):=by rw[c7];exact aa _ _ _
 have n2:S2.next=S1.next+1:=by rw[c7]
 have iJ:=c7.symm;clear c7;have g2:=(s2.h _ (by omega)).trans g1;have h2:=(h.sub s1).sub s2;rw[yq]at iJ;obtain⟨S3,kO⟩:∃S3:AS,S3=⟨S2.h,S2.next+1⟩:=⟨_,rfl⟩
 have s3:Sub S2 S3:=by rw[kO];exact⟨fun _ _=>rfl,Nat.le_succ _⟩
 have n3:S3.next=S2.next+1:=by rw[kO]
 have my:=kO.symm;clear kO;have h3:=h2.sub s3;have g3:=(s3.h _ (by omega)).trans g2;have mo:1<=c.op/\c.op<=9:=by rcases om with⟨h,_⟩|⟨h,h',_⟩|⟨h,_⟩<;>omega
 obtain⟨k,hk⟩:∃k:Nat,k=uN c.op:=⟨_,rfl⟩
 have hkop:(k:Int)=c.op:=by rw[hk];exact kY (by omega) (by omega)
 obtain⟨more,uT⟩:∃more,more=(if c.op=1 then [] else if c.op=9 then aV c.aY.length++c.aY.flatMap dv else dv c.val):=⟨_,rfl⟩
 have hcB:fX c++rest=gI c.name++(aV k++(more++rest)):=by
  unfold fX;rw[<-hk,<-uT,List.append_assoc,List.append_assoc]
 rw[hcB]at h3;have se:more.length<=1000:=by
  rw[uT];split
  .simp
  .split
   .rename_i h9;rcases om with⟨h,_⟩|⟨h,h',_⟩|⟨_,_,h6,hm6⟩
    .omega
    .omega
    .have ub:=dB (f:=dv) (k:=52) (l:=c.aY) fun v hv=>ju (qh (hm6 v hv) (hn.2.1 v hv));have h7:c.aY.length*52<=6*52:=Nat.mul_le_mul_right _ h6;have h8:=cp c.aY.length (by omega);rw[List.length_append];omega
   .rcases om with⟨h,_⟩|⟨h,h',hv,_⟩|⟨h,_⟩
    .contradiction
    .have:=ju (qh hv hn.1);omega
    .contradiction
 have hnk:=cp k (by omega);obtain⟨r,T,⟨rfl,q1,q2⟩,e1⟩:=(text237 (most:=16) h3 hn.2.2 hname (by decide) (by simp only[List.length_append];omega)).ex;have q2n:=q2.next
 have gT:=(q2.h _ (by omega) (by omega)).trans g3;obtain⟨r,T2,⟨rfl,q3,q4⟩,e2⟩:=(Bu (lim:=9) q1 (by omega) (by omega) (by decide)).ex;have q4n:=q4.next
 have gT2:=(q4.h _ (by omega) (by omega)).trans gT;have rT2:=(q4.h _ (by omega) (by omega)).trans ((q2.h _ (by omega) (by omega)).trans ((s3.h _ (by omega)).trans r2));have e1:∀Q:AV->AS->Prop,ai C1 237 [.agg [.ptr p 0 0 2],.int .i64 16] S3 Q=Q (.str c.name) T:=e1;have e2:∀Q:AV->AS->Prop,ai C1 236 [.agg [.ptr p 0 0 2],.int .u64 9] T Q=Q (.int .u64 k) T2:=e2;have hwk:IntKind.i64.wrap (k:Int)=k:=IntWalk.i64_in _ (by omega);have tz:=bld103 c.name k;obtain⟨b3,hb3⟩:∃b3,b3=S2.next:=⟨_,rfl⟩
 rw[<-hb3]at my;obtain⟨T3,uV⟩:∃T3:AS,T3=⟨(T2.h.set b3 (.row [.str [],.int .i64 0,.int .i64 0,.int .i64 0,.str [],.bool false,.aq] 0 0 false 103)).set b3 (.row [.str c.name,.int .i64 k,.int .i64 0,.int .i64 0,.str [],.bool false,.aq] 0 0 false 103),T2.next⟩:=⟨_,rfl⟩
 have bT3:=uV.symm;have o3:∀id,id≠b3->T3.h.get id=T2.h.get id:=fun id e=>by rw[uV];exact (ae _ _ e).trans (ae _ _ e)
 have v3:T3.h.get b3=some (.row [.str c.name,.int .i64 k,.int .i64 0,.int .i64 0,.str [],.bool false,.aq] 0 0 false 103):=by rw[uV];exact aa _ _ _
 have nT3:T3.next=T2.next:=by rw[uV]
 clear uV;have gT3:=(o3 _ (by omega)).trans gT2;have rT3:=(o3 _ (by omega)).trans rT2;have q5:dD T3 p B (more++rest):=q3.agree (fun id e=>o3 id (by rcases e with e|e<;>omega)) (by omega);have kT3:cN (fun id=>id=p) S T3:=by
  have k0:=xf ((s1.trans s2).trans s3) (q2.trans q4);exact⟨fun id h1 h2=>(o3 id (by omega)).trans (k0.h id h1 h2),by omega⟩
 have fin:∀(U:AS)(c':Con),dD U p B rest->cN (fun id=>id=p\/id=b3) T3 U->U.h.get b3=some (.row (encC c') 0 0 false 103)->ConOk U c'->(aB c'.kJ=0\/T3.next<aB c'.kJ) ->
   U.h.get S1.next=some (.row [.str [],.int .i64 0,.int .i64 0,.int .i64 0,.str [],.bool false,.aq] 0 0 false 103)/\∃W:AS,(⟨U.h.set S1.next (.row (encC c') 0 0 false 103),U.next⟩:AS)=W/\W.h.get S1.next=some (.row (encC c') 0 0 false 103)/\ConOk W c'/\iS S.next c'.kJ/\dD W p B rest/\cN (fun id=>id=p) S W:=fun U c' a1 a2 a3 a4 a5=>by
  have a2n:=a2.next
  have ag:∀id,id≠S1.next->(U.h.set S1.next (.row (encC c') 0 0 false 103)).get id=U.h.get id:=fun id bY=>ae _ _ bY
  refine⟨by rw[<-yq];exact (a2.h _ (by omega) (by omega)).trans rT3,_,rfl,aa _ _ _,⟨a4.sl.agree (fun id e=>ag id (by omega)) (Nat.le_refl _),a4.le⟩,by unfold iS;omega,a1.agree (fun id e=>ag id (by rcases e with e|e<;>omega)) (Nat.le_refl _),⟨fun id h1 h2=>?_,?_⟩⟩
  .exact (ag id (by omega)).trans ((a2.h id (by have:=kT3.next;omega) (by omega)).trans (kT3.h id h1 h2))
  .have:=kT3.next
   show S.next<=U.next
   omega
 have mk:∀(U W:AS)(c':Con),bare c'=bare c->ConOk W c'/\iS S.next c'.kJ/\dD W p B rest/\cN (fun id=>id=p) S W->∃c'',encC c'=encC c''/\bare c''=bare c/\ConOk W c''/\iS S.next c''.kJ/\dD W p B rest/\cN (fun id=>id=p) S W:=fun U W c' hb h=>⟨c',rfl,hb,h⟩
 have hsmall:(0:Nat)<k/\k<10:=by omega
 refine aK (cD _) (cG _ rfl) fn194 rfl ok194 (by simp) fun F pB t0=>?_;rw[nt194]at pB;simp[t0,fN,iJ,g2];refine cO [.r 0 0,.e [],.r 1 0,.e [],.p,.p,.f,.e [6]] (n:=23) (by kernel_rfl) (by simp[pB]) ?_;simp[t0,fN,iJ,g2,aR,my,g3,e1,gT,e2,hwk,tz,<-hb3,bT3];rcases om with⟨c1,c2,c3⟩|⟨c1,c1',c2,c3⟩|⟨c1,c2,c6,cm⟩
 .have hk1:=eq_true (show (k:Int)=1 by omega);have hk1N:=eq_true (show k=1 by omega);rw[if_pos c1]at uT;rw[uT,List.nil_append]at q5;obtain⟨rU,W,bW,gW,fW⟩:=fin T3 ⟨c.name,k,zeroV,.aq,[]⟩ q5 ⟨fun _ _ _=>rfl,Nat.le_refl _⟩ v3 ⟨Sl.nil,by simp⟩ (.inl rfl);simp only[encC,zeroV]at bW gW;simp[t0,v3,hk1,hk1N,rU,bW,gW];exact mk T3 W ⟨c.name,k,zeroV,.aq,[]⟩ (by rw[hkop];unfold bare;rw[c2,c3]) fW
 .have hk1:=eq_false (show ¬(k:Int)=1 by omega);have hk1N:=eq_false (show ¬k=1 by omega);have hk9:=eq_false (show ¬(k:Int)=9 by omega);have hk9N:=eq_false (show ¬k=9 by omega);rw[if_neg (by omega),if_neg (by omega)]at uT;rw[uT]at q5;obtain⟨r,U,⟨rfl,u1,u2⟩,e3⟩:=(C8 q5 c2 hn.1 (by omega)).ex;have u2n:=u2.next
  have vU:=(u2.h _ (by omega) (by omega)).trans v3;obtain⟨U1,hU1⟩:∃U1:AS,U1=⟨U.h.set b3 (.row (encC ⟨c.name,k,c.val,.aq,[]⟩) 0 0 false 103),U.next⟩:=⟨_,rfl⟩
  have oU:∀id,id≠b3->U1.h.get id=U.h.get id:=fun id e=>by rw[hU1];exact ae _ _ e
  have vU1:U1.h.get b3=some (.row (encC ⟨c.name,k,c.val,.aq,[]⟩) 0 0 false 103):=by rw[hU1];exact aa _ _ _
  have nU1:U1.next=U.next:=by rw[hU1]
  have bU1:=hU1.symm;clear hU1;obtain⟨rU,W,bW,gW,fW⟩:=fin U1 ⟨c.name,k,c.val,.aq,[]⟩ (u1.agree (fun id e=>oU id (by rcases e with e|e<;>omega)) (by omega)) ⟨fun id h1 h2=>(oU id (fun e=>h2 (.inr e))).trans (u2.h id h1 (fun e=>h2 (.inl e))),by omega⟩ vU1 ⟨Sl.nil,by simp⟩ (.inl rfl);simp only[encC,encV]at bW gW bU1 vU1 e3;simp[t0,v3,hk1,hk1N,hk9,hk9N,gT3,aR,e3,vU,bU1,vU1,rU,bW,gW];exact mk T3 W ⟨c.name,k,c.val,.aq,[]⟩ (by rw[hkop];unfold bare;rw[c3]) fW
 .have hk1:=eq_false (show ¬(k:Int)=1 by omega);have hk1N:=eq_false (show ¬k=1 by omega);have hk9:=eq_true (show (k:Int)=9 by omega);have hk9N:=eq_true (show k=9 by omega);rw[if_neg (by omega),if_pos c1]at uT;rw[uT,List.append_assoc]at q5;have hkn:=kT3.next
  obtain⟨v,U,hI,e3⟩:=(De (n:=c.aY.length) (most:=6) (g:=238) (caps:=[.ptr b3 0 0 7,.ptr S.next 0 0 1]) (bs:=c.aY.flatMap dv++rest) q5 c6 (by decide) (aR _ rfl) (SetI T3 S.next b3 p B c.name k c.aY rest)
   (fun U h1 h2=>⟨⟨.aq,(h2.h _ (by omega) (by omega)).trans v3,Gw.nil,.inl rfl⟩,(h2.h _ (by omega) (by omega)).trans gT3,by simpa using h1,⟨fun id a b=>h2.h id a (fun e=>b (.inl e)),h2.next⟩⟩)
   (fun j U hj hI=>set238 hI hj c6 cm hn.2.1 (by omega) (by omega) (by omega) (by omega) (by omega) (by omega) (by omega) (by omega) ml)).ex
  obtain⟨⟨w,w1,w2,w3⟩,w4,w5,w6⟩:=hI;rw[List.take_length]at w2;rw[List.drop_length,List.flatMap_nil,List.nil_append]at w5;obtain⟨rU,W,bW,gW,fW⟩:=fin U ⟨c.name,k,zeroV,w,c.aY⟩ w5 w6 w1 ⟨w2.1,by show c.aY.length<=_;omega⟩ w3;simp only[encC,zeroV]at bW gW;have e3:∀Q:AV->AS->Prop,ai C1 192 [.agg [.ptr p 0 0 2],.int .u64 6,.func (.func 238) [] [.ptr b3 0 0 7,.ptr S.next 0 0 1]] T3 Q=Q v U:=e3;simp[t0,v3,hk1,hk1N,hk9,hk9N,gT3,aR,e3,w1,rU,aj w2.1,bW,gW];exact mk T3 W ⟨c.name,k,zeroV,w,c.aY⟩ (by rw[hkop];unfold bare;rw[c2]) fW
end
open Go.Proofs.YtdknlbnljfdhgaaGreatDoor.mod (Val encV encV_len Con encC encC_len ConOk PredAt mayP mayC mayV setB sameB zeroV mayPred encT encT_len bare predFoot)
section
variable{S T:AS}{B:Nat}
structure PreI(S0:AS)(b1 b3 p B:Nat)(cs:List Con)(rest:List Nat)(k:Nat)(S:AS):Prop where
 ex:∃(v:AV)(ks:List Con),S.h.get b3=some (.row [v] 0 0 false 29)/\Gw S v 7 103 (ks.flatMap encC)/\(aB v=0\/S0.next<aB v)/\ks.map bare=(cs.take k).map bare/\∀c,c∈ks->ConOk S c/\(aB c.kJ=0\/(S0.next<aB c.kJ/\aB c.kJ≠aB v))
 b1:S.h.get b1=some (.row [.ptr p 0 0 2] 0 0 false 230)
 rd:dD S p B ((cs.drop k).flatMap fX++rest)
 kp:cN (fun id=>id=p\/id=b3) S0 S
theorem consB_le{c:Con}(hc:mayC c=true)(hn:bX c):(fX c).length<=400:=uA (may_fit hc hn)
theorem nt193:Tryz.f193.ntmps=7:=by kernel_rfl
theorem pre193{S0:AS}{b1 b3 p k:Nat}{cs:List Con}{rest:List Nat}(h:PreI S0 b1 b3 p B cs rest k S)(hk:k<cs.length)(h6:cs.length<=6)(hm:∀v,v∈cs->mayC v=true)(hn:∀v,v∈cs->bX v)
  (yR:b1<S0.next) (hb3:b3<S0.next) (hb13:b1≠b3) (h1p:b1≠p) (h3p:b3≠p) (hB3:B≠b3+1) (hB:B<=S0.next) (hp:p<S0.next) (ml:rest.length<=100000) :
  ai C1 193 [.ptr b3 0 0 1,.ptr b1 0 0 1] S fun _ T=>PreI S0 b1 b3 p B cs rest (k+1) T:=by
 obtain⟨⟨v,ks,g3,gv,hvb,yP,hcs⟩,g1,hr,hkp⟩:=h;have hkn:=hkp.next
 have vj:=List.getElem_mem hk;have hd:cs.drop k=cs[k]::cs.drop (k+1):=List.drop_eq_getElem_cons hk;have eS:dD S p B (fX cs[k]++((cs.drop (k+1)).flatMap fX++rest)):=by rw[hd,List.flatMap_cons,List.append_assoc]at hr;exact hr
 have ub:=dB (f:=fX) (k:=400) (l:=cs.drop (k+1)) fun v hv=>consB_le (hm v (List.mem_of_mem_drop hv)) (hn v (List.mem_of_mem_drop hv));have hfl2:(cs.drop (k+1)).length*400<=6*400:=Nat.mul_le_mul_right _ (by rw[List.length_drop];omega);obtain⟨r,T,⟨c',rfl,hbare,l7,jB,q1,q2⟩,e1⟩:=(cons194 eS (hm _ vj) (hn _ vj) (by rw[List.length_append];omega)).ex;have q2n:=q2.next
 have hvo:=gv.1.old;have vk:ks.length=k:=by have:=congrArg List.length yP;simp at this;omega
 have g3T:=(q2.h _ (by omega) h3p).trans g3;have gvT:Gw T v 7 103 (ks.flatMap encC):=gv.agree (fun id e=>q2.h id (by omega) (by omega)) q2n;have hvl:sLen v=k:=by
  have:=gv.1.aM encC_len (by omega);rw[this,vk]
 obtain⟨T1,iP⟩:∃T1:AS,T1=⟨T.h.set T.next (.row (encC c') 0 0 false 103),T.next+1⟩:=⟨_,rfl⟩
 have t1:Sub T T1:=by rw[iP];exact seg.cf
 have x1:T1.h.get T.next=some (.row (encC c') 0 0 false 103):=by rw[iP];exact aa _ _ _
 have nT1:T1.next=T.next+1:=by rw[iP]
 have Ay:=iP.symm;clear iP;have yS:Sl T1 (.slice T.next 0 0 1 7 7 (some 1)) 7 (encC c'):=
  ⟨by simp[isSl,eu],by simp[jR,dJ,x1,bt];rfl,by simp[sLen,encC_len],by simp[aB,nT1]⟩
 obtain⟨v',U,eU,gU,oU,nU,lU,_,bU,_⟩:=eB (cx:=C1) (S:=T1) (t:=29) (u:=29) (ts:=[]) (p:=(103,7,88)) (v:=v) (x:=.slice T.next 0 0 1 7 7 (some 1)) st29 un29 rfl (gvT.agree (fun id e=>t1.h id (by have:=gvT.1.old;omega)) t1.next) yS (by rw[hvl];simp[fits,cH,sLen];omega);have he:ks.flatMap encC++encC c'=(ks++[c']).flatMap encC:=by rw[List.flatMap_append,List.flatMap_cons,List.flatMap_nil,List.append_nil]
 rw[he]at gU;have iY:∀(F:Fr)(D:Nat)(y:Tmp),sl F y=.agg (encC c')->aA C1 F D (.buildSlice 29 1 #[(0,.tmp y)])=some (.slice D 0 0 1 7 7 (some 1),.row (encC c') 0 0 false 103):=fun F D y a0=>by
  have:=ck (cx:=C1) (F:=F) (t:=29) (p:=(103,7,88)) (id:=D) (n:=1) (a:=#[(0,.tmp y)]) [encC c'] st29 rfl (by simp[a0,cellsOf]) (by simp[encC_len]) (by decide);rw[this];simp
 have g3T1:=(t1.h _ (by omega)).trans g3T;have g3U:U.h.get b3=some (.row [v] 0 0 false 29):=by
  rw[oU _ (by omega) (by omega)];exact g3T1
 obtain⟨V,hV⟩:∃V:AS,V=⟨U.h.set b3 (.row [v'] 0 0 false 29),U.next⟩:=⟨_,rfl⟩
 have bV:=hV.symm;have oV:∀id,id≠b3->V.h.get id=U.h.get id:=fun id e=>by rw[hV];exact ae _ _ e
 have vV:V.h.get b3=some (.row [v'] 0 0 false 29):=by rw[hV];exact aa _ _ _
 have nV:V.next=U.next:=by rw[hV]
 clear hV;have ogT:∀id,id<T.next->id≠b3->id+1≠aB v->V.h.get id=T.h.get id:=fun id h1 h3 h4=>by
  rw[oV _ h3,oU _ (by omega) h4,t1.h _ h1]
 have og:∀id,id<S.next->id≠p->id≠b3->id+1≠aB v->V.h.get id=S.h.get id:=fun id h1 h2 h3 h4=>by
  rw[ogT _ (by omega) h3 h4];exact q2.h _ h1 h2
 have fin:PreI S0 b1 b3 p B cs rest (k+1) V:=by
  refine⟨⟨v',ks++[c'],vV,gU.agree (fun id e=>oV id (by omega)) (by omega),by omega,?_,fun c hc=>?_⟩,(og _ (by omega) h1p hb13 (by omega)).trans g1,q1.agree (fun id e=>?_) (by omega),⟨fun id h1 h2=>?_,by omega⟩⟩
  .rw[List.map_append,yP,List.take_succ_eq_append_getElem hk,List.map_append];show _++[bare c']=_++[bare cs[k]];rw[hbare]
  .rcases List.mem_append.1 hc with hc|hc
   .obtain⟨a1,a2⟩:=hcs c hc;have a3:=a1.sl.old;exact⟨⟨a1.sl.agree (fun id e=>og id (by omega) (by omega) (by omega) (by omega)) (by omega),a1.le⟩,by omega⟩
   .rw[List.mem_singleton]at hc;subst hc;have a3:=l7.sl.old;unfold iS at jB;exact⟨⟨l7.sl.agree (fun id e=>ogT id (by omega) (by omega) (by omega)) (by omega),l7.le⟩,by omega⟩
  .rcases e with e|e
   .rw[ogT _ (by omega) (by omega) (by omega)]
   .rw[ogT _ (by omega) (by omega) (by omega)]
  .refine (og id (by omega) (fun e=>h2 (.inl e)) (fun e=>h2 (.inr e)) (by omega)).trans (hkp.h id h1 h2)
 have k1:=aj gv.1;have k2:=aj gvT.1;have k3:=l7.sl.cells;have k4:=aj l7.sl;simp only[encC]at Ay iY e1;refine cl (cD _) (cG _ rfl) fn193 rfl ok193 (by simp) fun F fL hs=>?_;rw[nt193]at fL;have t0:=hs 0;have t1':=hs 1;clear hs;simp only[List.getElem?_cons_zero,List.getElem?_cons_succ,Option.getD_some]at t0 t1';simp;refine cO [.r 0 2,.r 0 0,.e [],.e [],.e [],.e []] (n:=7) (by kernel_rfl) (by simp[fL]) ?_;simp[t0,t1',g3,g1,aR,e1,k1,k2,k3,k4,g3T,g3T1,iY,Ay,eU,gU.1.np,aj gU.1,g3U,gU.1.cells,bV];exact fin
theorem pred155{p:Nat}{cs:List Con}{rest:List Nat}(h:dD S p B (dW cs++rest))(hc:mayP cs=true)(hn:∀c,c∈cs->bX c)(ml:rest.length<=100000):
  ai C1 155 [.agg [.ptr p 0 0 2]] S fun r T=>∃ks,PredAt T r ks/\ks.map bare=cs.map bare/\(∀id,predFoot r ks id->S.next<=id)/\dD T p B rest/\cN (fun id=>id=p) S T:=by
 have h6:=pw hc;have hm:=wW hc;have cq:=h.lt;have hB:=h.le;obtain⟨S1,bI⟩:∃S1:AS,S1=⟨S.h.set S.next (.row [.ptr p 0 0 2] 0 0 false 230),S.next+1⟩:=⟨_,rfl⟩
 have s1:Sub S S1:=by rw[bI];exact seg.cf
 have g1:S1.h.get S.next=some (.row [.ptr p 0 0 2] 0 0 false 230):=by rw[bI];exact aa _ _ _
 have n1:S1.next=S.next+1:=by rw[bI]
 have fN:=bI.symm;clear bI;obtain⟨S2,c7⟩:∃S2:AS,S2=⟨S1.h.set S1.next (.row [.aq] 0 0 false 29),S1.next+1⟩:=⟨_,rfl⟩
 have s2:Sub S1 S2:=by rw[c7];exact seg.cf
 have r2:S2.h.get S1.next=some (.row [.aq] 0 0 false 29):=by rw[c7];exact aa _ _ _
 have n2:S2.next=S1.next+1:=by rw[c7]
 have iJ := c7.symm;clear c7;have g2 := (s2.h _ (by omega)).trans g1;have h2 := (h.sub s1).sub s2;unfold dW at h2;rw [List.append_assoc] at h2;obtain ⟨u, U, hI, e3⟩ := (De (n := cs.length) (most := 6) (g := 193) (caps := [.ptr S1.next 0 0 1, .ptr S.next 0 0 1]) (bs := cs.flatMap fX ++ rest) h2 h6 (by decide) (aR _ rfl) (PreI S2 S.next S1.next p B cs rest)
   (fun U h1 h2=>⟨⟨.aq,[],(h2.h _ (by omega) (by omega)).trans r2,Gw.nil,.inl rfl,rfl,fun c hc=>by cases hc⟩,(h2.h _ (by omega) (by omega)).trans g2,by simpa using h1,⟨fun id a b=>h2.h id a (fun e=>b (.inl e)),h2.next⟩⟩)
   (fun j U hj hI=>pre193 hI hj h6 hm hn (by omega) (by omega) (by omega) (by omega) (by omega) (by omega) (by omega) (by omega) ml)).ex
 obtain⟨⟨v,ks,g3,gv,hvb,yP,hcs⟩,_,hr,hkp⟩:=hI;rw[List.take_length]at yP;rw[List.drop_length,List.flatMap_nil,List.nil_append]at hr;have e3:∀Q:AV->AS->Prop,ai C1 192 [.agg [.ptr p 0 0 2],.int .u64 6,.func (.func 193) [] [.ptr S1.next 0 0 1,.ptr S.next 0 0 1]] S2 Q=Q u U:=e3;have hkn:=hkp.next
 refine aK (cD _) (cG _ rfl) fn155 rfl ok155 (by simp) fun F pB t0=>?_;simp[t0,fN,iJ,g2,aR,e3,g3,aj gv.1,gv.1.np];have vk:ks.length=cs.length:=by have:=congrArg List.length yP;simpa using this
 refine⟨ks,⟨gv.1,fun c hc=>(hcs c hc).1,by omega⟩,yP,fun id e=>?_,hr,⟨fun id h1 h2=>?_,by omega⟩⟩
 .rcases e with e|⟨c,hc,e⟩
  .omega
  .have:=(hcs c hc).2;omega
 .rw[hkp.h id (by omega) (by omega),s2.h _ (by omega),s1.h _ h1]
end
open Go.Proofs.YtdknlbnljfdhgaaGreatDoor.mod (Val encV encV_len Con encC encC_len ConOk PredAt mayP mayC mayV setB sameB zeroV mayPred encT encT_len bare predFoot)
theorem wJ(cs:List Con):dW (cs.map bare)=dW cs:=by
 unfold dW;rw[List.length_map,List.flatMap_map];rfl
theorem DY{ks cs:List Con}(h:ks.map bare=cs.map bare):dW ks=dW cs:=by rw[<-wJ ks,h,wJ]
theorem FB{cs:List Con}(h:∀c,c∈cs->bX c):qD (dW cs):=(df _).app (pK fun c hc=>FD (h c hc))
section
variable{S T:AS}{B:Nat}
theorem eq_nif:aS C1 .eql 20 true .bH .bH=some (.bool true):=by kernel_rfl
theorem back190{fn:Func}{F:Fr}{Q:AV->AS->Prop}{x e:AV}(h:kg C1 fn F Q [] S):kg C1 fn F Q [.call 190 [] [x,e]] S:=by
 refine⟨Tryz.f190,_,fn190,rfl,ok190,by simp[bz],fun F2 hn2 lE=>?_⟩;clear lE;simp;rw[zL rfl rfl];simp[eq_nif];exact⟨⟨.tuple [],by kernel_rfl⟩,h⟩
theorem bld230(p:Nat):cU C1 230 [(0,.ptr p 0 0 2)]=some (.agg [.ptr p 0 0 2]):=by kernel_rfl
theorem res154{F:Fr}{a b:Nat}{x:AV}{e:Int}(h6:sl F 6=.ptr a 0 0 1)(h7:sl F 7=.ptr b 0 0 1)(ha:S.h.get a=some (.row [x] 0 0 false 29))(hb:S.h.get b=some (.row [.int .i64 e] 0 0 false 42))(hx:okW x=true):j9 C1 F S Tryz.f154.results.toList=some [x,.int .i64 e]:=by
 have e:Tryz.f154.results.toList=[.cell 6 29,.cell 7 42]:=by kernel_rfl
 rw[e];simp[h6,h7,ha,hb,hx]
theorem nt154:Tryz.f154.ntmps=33:=by kernel_rfl
set_option maxRecDepth 20000 in
theorem taken154{b:AV}{cs:List Con}(hb:Sl S b 1 (az (dW cs)))(hc:mayP cs=true)(hn:∀c,c∈cs->bX c):
  ai C1 154 [b,.func (.func 155) [] [],.func (.func 156) [] []] S fun r T=>∃v ks,r=.tuple [v,.int .i64 0]/\PredAt T v ks/\ks.map bare=cs.map bare/\(∀id,predFoot v ks id->S.next<=id)/\Sub S T:=by
 have lV:(dW cs).length<=2410:=by
  obtain⟨h1,h2⟩:=lB hc hn;exact zI h1 h2
 obtain⟨S1,bI⟩:∃S1:AS,S1=⟨S.h.set S.next (.row [.aq] 0 0 false 29),S.next+1⟩:=⟨_,rfl⟩
 have s1:Sub S S1:=by rw[bI];exact seg.cf
 have g1:S1.h.get S.next=some (.row [.aq] 0 0 false 29):=by rw[bI];exact aa _ _ _
 have n1:S1.next=S.next+1:=by rw[bI]
 have fN:=bI.symm;clear bI;obtain⟨S2,c7⟩:∃S2:AS,S2=⟨S1.h.set S1.next (.row [.int .i64 0] 0 0 false 42),S1.next+1⟩:=⟨_,rfl⟩
 have s2:Sub S1 S2:=by rw[c7];exact seg.cf
 have r2:S2.h.get S1.next=some (.row [.int .i64 0] 0 0 false 42):=by rw[c7];exact aa _ _ _
 have n2:S2.next=S1.next+1:=by rw[c7]
 have iJ:=c7.symm;clear c7;have g2:=(s2.h _ (by omega)).trans g1;obtain⟨r,T,⟨hT,p,B,rfl,q1,q2,q3⟩,e97⟩:=(new97 ((hb.toSub s1).toSub s2) (by omega)).ex;have BW:=hT.next
 obtain⟨v,T2,⟨ks,hv,yP,iZ,_,vl⟩,e155⟩:=(pred155 (rest:=[]) (by rw[List.append_nil];exact q1) hc hn (by simp)).ex;have hk2n:=vl.next
 have hvo:=hv.sl.old;have gT:=(hT.h _ (by omega)).trans g2;have rT:=(hT.h _ (by omega)).trans r2;have gT2:=(vl.h _ (by omega) (by omega)).trans gT;have rT2:=(vl.h _ (by omega) (by omega)).trans rT;obtain⟨T3,uV⟩:∃T3:AS,T3=⟨T2.h.set S.next (.row [v] 0 0 false 29),T2.next⟩:=⟨_,rfl⟩
 have o3:∀id,id≠S.next->T3.h.get id=T2.h.get id:=fun id e=>by rw[uV];exact ae _ _ e
 have v3:T3.h.get S.next=some (.row [v] 0 0 false 29):=by rw[uV];exact aa _ _ _
 have n3:T3.next=T2.next:=by rw[uV]
 have bT3:=uV.symm;clear uV;have r3:=(o3 _ (by omega)).trans rT2;have hv3:PredAt T3 v ks:=PredAt.agree hv (fun id e=>o3 id (by have:=iZ id e;omega)) (by omega);have hkn:∀c,c∈ks->bX c:=lu yP hn;have hkm:mayP ks=true:=by rw[lA yP];exact hc
 obtain⟨r,T4,⟨w,rfl,w1,w2,w3⟩,e156⟩:=(wG hv3 hkn).ex;have hfp:gQ ks=dW cs:=by unfold gQ;rw[if_pos hkm,DY yP]
 rw[hkm,if_pos rfl]at e156;rw[hfp]at w1;have hbo:=hb.old;have sK:cN (fun id=>id=p) S T2:=xf ((s1.trans s2).trans hT) vl;have hbT:∀id,id<S.next->T3.h.get id=S.h.get id:=fun id hi=>(o3 id (by omega)).trans (sK.h id hi (by omega))
 have hb4:Sl T4 b 1 (az (dW cs)):=(hb.agree (T:=T3) (fun id e=>hbT id (by omega)) (by omega)).toSub w3;have e191:=equal191 (S:=T4) w1.1 hb4 (FB hn) (FB hn);rw[decide_eq_true rfl]at e191;have v4:=(w3.h _ (by omega)).trans v3;have r4:=(w3.h _ (by omega)).trans r3;have w3n:=w3.next
 obtain⟨T5,hT5⟩:∃T5:AS,T5=⟨T4.h.set S.next (.row [v] 0 0 false 29),T4.next⟩:=⟨_,rfl⟩
 have bT5:=hT5.symm;have o5:∀id,T5.h.get id=T4.h.get id:=fun id=>by
  rw[hT5];by_cases hi:id=S.next
  .rw[hi];exact (aa _ _ _).trans v4.symm
  .exact ae _ _ hi
 have n5:T5.next=T4.next:=by rw[hT5]
 clear hT5;have v5:=(o5 S.next).trans v4;have r5:=(o5 S1.next).trans r4;obtain⟨T6,hT6⟩:∃T6:AS,T6=⟨T5.h.set S1.next (.row [.int .i64 0] 0 0 false 42),T5.next⟩:=⟨_,rfl⟩
 have bT6:=hT6.symm;have o6:∀id,T6.h.get id=T5.h.get id:=fun id=>by
  rw[hT6];by_cases hi:id=S1.next
  .rw[hi];exact (aa _ _ _).trans r5.symm
  .exact ae _ _ hi
 have n6:T6.next=T5.next:=by rw[hT6]
 clear hT6;have v6:=(o6 S.next).trans v5;have r6:=(o6 S1.next).trans r5;have fin:PredAt T6 v ks/\Sub S T6:=by
  refine⟨PredAt.agree hv3 (fun id e=>?_) (by omega),⟨fun id hi=>?_,by omega⟩⟩
  .rw[o6,o5];exact w3.h id (by have:=PredAt.bB hv3 e;omega)
  .rw[o6,o5,w3.h id (by omega)];exact hbT id hi
 have k1:=aj hb;have k2:=aj hv.sl;have k3:=hv.sl.cells;have k4:=aj w1.1;refine xK (cD _) (cG _ rfl) fn154 rfl ok154 (by simp) fun F pB qv hs=>?_;rw[nt154]at pB;have t0:=hs 0;have t1:=hs 1;have t2:=hs 2;clear hs;simp only[List.getElem?_cons_zero,List.getElem?_cons_succ,Option.getD_some]at t0 t1 t2;simp[t0,t1,t2,fN,iJ];refine⟨.call 190 [] [.ptr S.next 0 0 1,.ptr S1.next 0 0 1],by simp[gM,vR,bz],?_⟩;simp[t0,t1,t2,aR,e97,bld230,e155,gT2,bT3,k1,k2,k3,k4,v3,e156,e191,v4,bT5,r5,bT6];simp only[ma,qv];refine back190 ?_;rw[iz,res154 (by simp) (by simp) v6 r6 k2];simp;exact⟨ks,fin.1,yP,fun id e=>by have:=iZ id e;omega,fin.2⟩
end
open Go.Proofs.YtdknlbnljfdhgaaGreatDoor.mod (Val encV encV_len Con encC encC_len ConOk PredAt mayP mayC mayV setB sameB zeroV mayPred encT encT_len bare predFoot)
section
variable{S T:AS}{B:Nat}
theorem take102{b:AV}{cs:List Con}(hb:Sl S b 1 (az (dW cs)))(hc:mayP cs=true)(hn:∀c,c∈cs->bX c):
  ai C1 102 [b] S fun r T=>∃v ks,r=.tuple [v,.int .i64 0]/\PredAt T v ks/\ks.map bare=cs.map bare/\(∀id,predFoot v ks id->S.next<=id)/\Sub S T:=by
 obtain⟨r,T,⟨v,ks,rfl,h1,h2,h3,h4⟩,e⟩:=(taken154 hb hc hn).ex;have k1:=aj h1.sl;refine aK (cD _) (cG _ rfl) fn102 rfl ok102 (by simp) fun F pB t0=>?_;simp[t0,aR,e,k1];exact⟨ks,h1,h2,h3,h4⟩
structure rX(S0:AS)(bp bo bx p B:Nat)(c:List AV)(bs:List Nat)(S:AS):Prop where
 gp:S.h.get bp=some (.row [.ptr p 0 0 2] 0 0 false 180)
 go:S.h.get bo=some (.row [.bool true] 0 0 false 4)
 gx:S.h.get bx=some (.row c 0 0 false 115)
 rd:dD S p B bs
 kp:cN (fun id=>id=p\/id=bx) S0 S
 lp:bp<S0.next
 lo:bo<S0.next
 lx:bx<S0.next
 pp:bp≠p
 op:bo≠p
 xp:bx≠p
 po:bp≠bo
 px:bp≠bx
 ox:bo≠bx
 Bp:B≠bp+1
 Bo:B≠bo+1
 Bx:B≠bx+1
 pl:p<S0.next
 Bl:B<=S0.next
section
variable{S0:AS}{bp bo bx p:Nat}{c c':List AV}{bs bs':List Nat}
theorem rX.go_on(h:rX S0 bp bo bx p B c bs S)(hk:cN (fun id=>id=p) S T)(hr:dD T p B bs'):rX S0 bp bo bx p B c bs' T:=by
 have hn:=h.kp.next
 exact⟨(hk.h _ (by have:=h.lp;omega) h.pp).trans h.gp,(hk.h _ (by have:=h.lo;omega) h.op).trans h.go,(hk.h _ (by have:=h.lx;omega) h.xp).trans h.gx,hr,h.kp.trans ⟨fun id a b=>hk.h id a (fun e=>b (.inl e)),hk.next⟩,
  h.lp,h.lo,h.lx,h.pp,h.op,h.xp,h.po,h.px,h.ox,h.Bp,h.Bo,h.Bx,h.pl,h.Bl⟩
theorem rX.put(h:rX S0 bp bo bx p B c bs S):rX S0 bp bo bx p B c' bs ⟨S.h.set bx (.row c' 0 0 false 115),S.next⟩:=by
 have ag:∀id,id≠bx->(S.h.set bx (.row c' 0 0 false 115)).get id=S.h.get id:=fun id e=>ae _ _ e;exact⟨(ag _ h.px).trans h.gp,(ag _ h.ox).trans h.go,aa _ _ _,h.rd.agree (fun id e=>ag id (by have:=h.xp;have:=h.Bx;rcases e with e|e<;>omega)) (Nat.le_refl _),⟨fun id a b=>(ag id (fun e=>b (.inr e))).trans (h.kp.h id a b),h.kp.next⟩,
  h.lp,h.lo,h.lx,h.pp,h.op,h.xp,h.po,h.px,h.ox,h.Bp,h.Bo,h.Bx,h.pl,h.Bl⟩
theorem num98{n:Nat}{rest:List Nat}(hp:S.h.get bp=some (.row [.ptr p 0 0 2] 0 0 false 180))(ho:S.h.get bo=some (.row [.bool true] 0 0 false 4))(h:dD S p B (aV n++rest))(hol:bo<S.next)(mo:bo≠p)(hB:B≠bo+1)(hl:n<=1099511627777):
  ai C1 98 [.ptr bp 0 0 1,.ptr bo 0 0 1] S fun r T=>r=.int .u64 n/\dD T p B rest/\cN (fun id=>id=p) S T:=by
 obtain⟨r,T,⟨rfl,q1,q2⟩,e⟩:=(num99 (lim:=1099511627777) h (by omega) hl (by decide)).ex;have e:∀Q:AV->AS->Prop,ai C1 99 [.ptr p 0 0 2,.int .u64 1099511627777] S Q=Q (.tuple [.int .u64 n,.int .i64 0]) T:=e;have hoT:=(q2.h _ hol mo).trans ho;obtain⟨U,hU⟩:∃U:AS,U=⟨T.h.set bo (.row [.bool true] 0 0 false 4),T.next⟩:=⟨_,rfl⟩
 have bU:=hU.symm;have oU:∀id,U.h.get id=T.h.get id:=fun id=>by
  rw[hU];by_cases hi:id=bo
  .rw[hi];exact (aa _ _ _).trans hoT.symm
  .exact ae _ _ hi
 have nU:U.next=T.next:=by rw[hU]
 clear hU;have fin:dD U p B rest/\cN (fun id=>id=p) S U:=⟨q1.agree (fun id _=>oU id) (by omega),⟨fun id a b=>(oU id).trans (q2.h id a b),by have:=q2.next;omega⟩⟩
 refine aX (cD _) (cG _ rfl) fn98 rfl ok98 (by simp) fun F pB t0 t1=>?_;simp[t0,t1,hp,aR,e,hoT,bU];exact fin
theorem form100{cs:List Con}{rest:List Nat}(hp:S.h.get bp=some (.row [.ptr p 0 0 2] 0 0 false 180))(ho:S.h.get bo=some (.row [.bool true] 0 0 false 4))(h:dD S p B (gI (dW cs)++rest))(hol:bo<S.next)(mo:bo≠p)(hB:B≠bo+1)
  (hc:mayP cs=true) (hn:∀c,c∈cs->bX c) (h48:(dW cs).length<=2048) (ml:rest.length<=1000000) :
  ai C1 100 [.ptr bp 0 0 1,.ptr bo 0 0 1] S fun v T=>∃ks,PredAt T v ks/\ks.map bare=cs.map bare/\(∀id,predFoot v ks id->S.next<=id)/\dD T p B rest/\cN (fun id=>id=p) S T:=by
 obtain⟨r,T,⟨w,rfl,w1,q1,q2⟩,e⟩:=(Fz (most:=2048) h h48 (by decide) (by omega)).ex;have e:∀Q:AV->AS->Prop,ai C1 101 [.ptr p 0 0 2,.int .i64 2048] S Q=Q (.tuple [w,.int .i64 0]) T:=e;have hoT:=(q2.h _ hol mo).trans ho;have q2n:=q2.next
 obtain⟨r,T2,⟨v,ks,rfl,v1,v2,v3,v4⟩,e2⟩:=(take102 w1 hc hn).ex;have v4n:=v4.next
 have hoT2:=(v4.h _ (by omega)).trans hoT;obtain⟨U,hU⟩:∃U:AS,U=⟨T2.h.set bo (.row [.bool true] 0 0 false 4),T2.next⟩:=⟨_,rfl⟩
 have bU:=hU.symm;have oU:∀id,U.h.get id=T2.h.get id:=fun id=>by
  rw[hU];by_cases hi:id=bo
  .rw[hi];exact (aa _ _ _).trans hoT2.symm
  .exact ae _ _ hi
 have nU:U.next=T2.next:=by rw[hU]
 clear hU;have fin:PredAt U v ks/\ks.map bare=cs.map bare/\(∀id,predFoot v ks id->S.next<=id)/\dD U p B rest/\cN (fun id=>id=p) S U:=
  ⟨PredAt.agree v1 (fun id _=>oU id) (by omega),v2,fun id e=>by have:=v3 id e;omega,(q1.sub v4).agree (fun id _=>oU id) (by omega),⟨fun id a b=>(oU id).trans ((q2.trans v4.cg).h id a b),by omega⟩⟩
 have k1:=aj w1;have k2:=aj v1.sl;refine aX (cD _) (cG _ rfl) fn100 rfl ok100 (by simp) fun F pB t0 t1=>?_;simp[t0,t1,hp,aR,e,e2,k1,k2,hoT2,bU,v1.sl.np];exact⟨ks,fin⟩
theorem rX.num{n:Nat}(h:rX S0 bp bo bx p B c (aV n++bs) S)(hl:n<=1099511627777):∃U,(∀Q:AV->AS->Prop,ai C1 98 [.ptr bp 0 0 1,.ptr bo 0 0 1] S Q=Q (.int .u64 n) U)/\rX S0 bp bo bx p B c bs U/\cN (fun id=>id=p) S U:=by
 obtain⟨r,U,⟨rfl,h1,h2⟩,e⟩:=(num98 h.gp h.go h.rd (by have:=h.lo;have:=h.kp.next;omega) h.op h.Bo hl).ex;exact⟨U,e,h.go_on h2 h1,h2⟩
theorem rX.form{cs:List Con}(h:rX S0 bp bo bx p B c (gI (dW cs)++bs) S)(hc:mayP cs=true)(hn:∀c,c∈cs->bX c)(h48:(dW cs).length<=2048)(ml:bs.length<=1000000):
  ∃v ks U,(∀Q:AV->AS->Prop,ai C1 100 [.ptr bp 0 0 1,.ptr bo 0 0 1] S Q=Q v U)/\PredAt U v ks/\ks.map bare=cs.map bare/\(∀id,predFoot v ks id->S.next<=id)/\rX S0 bp bo bx p B c bs U/\cN (fun id=>id=p) S U:=by
 obtain⟨v,U,⟨ks,h1,h2,h3,h4,h5⟩,e⟩:=(form100 h.gp h.go h.rd (by have:=h.lo;have:=h.kp.next;omega) h.op h.Bo hc hn h48 ml).ex;exact⟨v,ks,U,e,h1,h2,h3,h.go_on h5 h4,h5⟩
end
end
open Go.Proofs.YtdknlbnljfdhgaaGreatDoor.mod (Val encV encV_len Con encC encC_len ConOk PredAt mayP mayC mayV setB sameB zeroV mayPred encT encT_len bare predFoot)
theorem mQ{n:Nat}(h:n<128):(aV n).length=1:=by rw[ly h];rfl
theorem zx{v:Val}(hv:mayV v=true)(hn:rk v):(dv v).length<=34:=by
 have hz:=cp _ (mz v.num).1;rcases tT hv with⟨n,rfl⟩|⟨s,rfl,hs⟩|⟨b,rfl⟩
 .show (aV (uN ((1:Nat):Int))++aV (oy n)).length<=34;rw[nj (by omega),List.length_append,mQ (by omega)];simp only at hz;omega
 .show (aV (uN ((2:Nat):Int))++gI s).length<=34;unfold gI;rw[nj (by omega),List.length_append,List.length_append,mQ (by omega),mQ (by omega)];omega
 .show (aV (uN ((3:Nat):Int))++Ak b).length<=34;unfold Ak;rw[nj (by omega),List.length_append,mQ (by omega),mQ (by cases b<;>decide)];omega
theorem consB_223{c:Con}(hc:mayC c=true)(hn:bX c):(fX c).length<=223:=by
 obtain⟨h1,om⟩:=wX hc;have mo:1<=c.op/\c.op<=9:=by rcases om with⟨h,_⟩|⟨h,h',_⟩|⟨h,_⟩<;>omega
 have hk:=kY (n:=c.op) (by omega) (by omega);have k1:=mQ (n:=uN c.op) (by omega);have k2:(gI c.name).length<=17:=by
  unfold gI;rw[List.length_append,mQ (by omega)];omega
 unfold fX;rw[List.length_append,List.length_append,k1];rcases om with⟨h,_⟩|⟨h,h',hv,_⟩|⟨h,_,h6,hm⟩
 .rw[if_pos h];simp;omega
 .rw[if_neg (by omega),if_neg (by omega)];have:=zx hv hn.1;omega
 .rw[if_neg (by omega),if_pos h];have ub:=dB (f:=dv) (k:=34) (l:=c.aY) fun v hv=>zx (hm v hv) (hn.2.1 v hv);have h7:c.aY.length*34<=6*34:=Nat.mul_le_mul_right _ h6;rw[List.length_append,mQ (by omega)];omega
theorem rB{cs:List Con}(hc:mayP cs=true)(hn:∀c,c∈cs->bX c):(dW cs).length<=1339:=by
 have h6:=pw hc;have ub:=dB (f:=fX) (k:=223) (l:=cs) fun c hv=>consB_223 (wW hc c hv) (hn c hv);have h7:cs.length*223<=6*223:=Nat.mul_le_mul_right _ h6;unfold dW;rw[List.length_append,mQ (by omega)];omega
structure Eqv(r r':Rec):Prop where
 sort:r'.sort=r.sort
 id:r'.id=r.id
 pub:r'.pub=r.pub
 n:r'.n=r.n
 there:r'.there=r.there
 cs:r'.cs.map bare=r.cs.map bare
 st:r'.st=r.st
theorem formP_of{ks cs:List Con}(h:ks.map bare=cs.map bare):gQ ks=gQ cs:=by
 unfold gQ;rw[lA h,DY h]
theorem recB_of{r r':Rec}(h:Eqv r r'):dS r'=dS r:=by
 unfold dS uR;rw[h.sort,h.id,h.pub,h.n,h.there,h.st,formP_of h.cs]
structure kG(r:Rec):Prop where
 n:r.n<=1099511627777
 may:mayP r.cs=true
 num:∀c,c∈r.cs->bX c
 st8:r.st.length<=8
 CM:∀t,t∈r.st->0<=t.1/\t.1<256/\t.2<=1099511627777
 id:0<=r.id/\r.id<256
 pub:0<=r.pub/\r.pub<256
 case:(r.sort=1/\r.id=0/\r.pub=0/\r.there=false/\r.cs=[]/\r.st=[])\/(r.sort=2/\r.pub=0/\r.n=0/\r.there=false)\/(r.sort=3/\r.pub=0/\r.n=0/\r.there=false/\r.cs=[]/\r.st=[]) \/
  (r.sort=4/\r.pub=0/\r.st=[]/\(r.there=false->r.cs=[]))\/(r.sort=5/\r.there=false/\r.cs=[]/\r.st=[])
theorem uj{cs:List Con}(h:mayP cs=true):gQ cs=dW cs:=by unfold gQ;rw[if_pos h]
theorem numB6{n:Nat}(h:n<=1099511627777):(aV n).length<=6:=jT 5 _ (by omega)
theorem lenB_1341{cs:List Con}(hc:mayP cs=true)(hn:∀c,c∈cs->bX c):(gI (dW cs)).length<=1341:=by
 have h1:=rB hc hn;have h2:(aV (dW cs).length).length<=2:=jT 1 _ (by omega);unfold gI;rw[List.length_append];omega
theorem tJ{r:Rec}(h:kG r):(dS r).length<=1500:=by
 have a1:(aV (uN r.sort)).length<=10:=cp _ (ff _);have a2:(aV (uN r.id)).length<=10:=cp _ (ff _);have a3:(aV (uN r.pub)).length<=10:=cp _ (ff _);have a4:=numB6 h.n;have a5:=lenB_1341 h.may h.num;have a6:=mQ (n:=r.st.length) (by have:=h.st8;omega);have a7:=dB (f:=eI) (k:=8) (l:=r.st) fun t ht=>by
  obtain⟨h1,h2,h3⟩:=h.CM t ht;have e1:=kY (n:=t.1) h1 h2;have e2:(aV (uN t.1)).length<=2:=jT 1 _ (by omega);have e3:=numB6 h3;unfold eI;rw[List.length_append];omega
 have a8:r.st.length*8<=8*8:=Nat.mul_le_mul_right _ h.st8;have b1:=mQ (n:=1) (by decide);have b0:=mQ (n:=0) (by decide);unfold dS uR;rw[uj h.may,List.length_append];split
 .omega
 .split
  .simp only[List.length_append];omega
  .split
   .omega
   .split
    .split<;>simp only[List.length_append]<;>omega
    .split
     .simp only[List.length_append];omega
     .simp;omega
def Et:List Nat->Nat
 |a::b::c::d::_=>leN a b c d
 |_=>0
def fg(bs:List Nat):Option (List Nat):=
 if bs.length<4 then none
 else if Et bs<1\/2048<Et bs\/bs.length<4+Et bs+4 then none
 else if Et ((bs.drop (4+Et bs)).take 4)=jX (bs.take (4+Et bs)) then some ((bs.take (4+Et bs)).drop 4) else none
theorem qd{bs r:List Nat}(h:fg bs=some r):1<=r.length/\r.length<=2048/\r.length+8<=bs.length/\r=(bs.take (4+r.length)).drop 4:=by
 unfold fg at h;split at h
 .cases h
 .split at h
  .cases h
  .split at h
   .rename_i h1 h2 h3;cases h;have e:((bs.take (4+Et bs)).drop 4).length=Et bs:=by
     rw[List.length_drop,List.length_take];omega
    rw[e];exact⟨by omega,by omega,by omega,rfl⟩
   .cases h
def rv:Nat->List Nat->List (List Nat)
 |0,_=>[]
 |k+1,bs=>match fg bs with
  |some r=>r::rv k (bs.drop (r.length+8))
  |none=>[]
theorem Dw{k m:Nat}{bs:List Nat}(h:bs.length<k)(h':bs.length<m):rv k bs=rv m bs:=by
 induction k generalizing m bs with
 |zero=>omega
 |succ k ih=>
  cases m with
  |zero=>omega
  |succ m=>
   unfold rv;cases hn:fg bs with
   |none=>rfl
   |some r=>
    have:=qd hn;simp only[];rw[ih (bs:=bs.drop (r.length+8)) (m:=m) (by rw[List.length_drop];omega) (by rw[List.length_drop];omega)]
def lf(bs:List Nat):List (List Nat):=rv (bs.length+1) bs
theorem uM{bs r:List Nat}(h:fg bs=some r):lf bs=r::lf (bs.drop (r.length+8)):=by
 have h1:=qd h;unfold lf;rw[rv,h];simp only[];rw[Dw (m:=(bs.drop (r.length+8)).length+1) (by rw[List.length_drop];omega) (by omega)]
theorem Dx{bs:List Nat}(h:fg bs=none):lf bs=[]:=by
 unfold lf;rw[rv,h]
section
variable{S T:AS}
theorem four_of{bs:List Nat}(h:4<=bs.length):∃a b c d l,bs=a::b::c::d::l:=by
 match bs,h with
 |a::b::c::d::l,_=>exact⟨a,b,c,d,l,rfl⟩
theorem num149'{v:AV}{bs:List Nat}(h:Sl S v 1 (az bs))(hb:qD bs)(h4:4<=bs.length):∀Q:AV->AS->Prop,ai C1 149 [v] S Q=Q (.int .u32 (Et bs:Nat)) S:=by
 obtain⟨a,b,c,d,l,rfl⟩:=four_of h4;exact num149 h (hb _ (by simp)) (hb _ (by simp)) (hb _ (by simp)) (hb _ (by simp))
theorem le4_lt{bs:List Nat}(hb:qD bs):Et bs<4294967296:=by
 unfold Et;split
 .rename_i a b c d l;have ha:=hb a (by simp);have sQ:=hb b (by simp);have hc:=hb c (by simp);have hd:=hb d (by simp);unfold leN;exact Nat.or_lt_two_pow (n:=32) (Nat.or_lt_two_pow (Nat.or_lt_two_pow (by omega) (by omega)) (by omega)) (by omega)
 .decide
theorem take150'{v:AV}{bs:List Nat}{n:Nat}(h:Sl S v 1 (az bs))(hb:qD bs)(hn:bs.length=n+4)(hl:n<=1000000):
  ai C1 150 [v] S fun r T=>Sub S T/\((Et (bs.drop n)≠jX (bs.take n)/\r=.tuple [.aq,.int .i64 5])\/(Et (bs.drop n)=jX (bs.take n)/\∃w,r=.tuple [w,.int .i64 0]/\Gw T w 1 5 (az (bs.take n))/\iS S.next w)):=by
 have hd:(bs.drop n).length=4:=by rw[List.length_drop];omega
 obtain⟨a,b,c,d,l,e⟩:=four_of (bs:=bs.drop n) (by omega);have hl0:l=[]:=by
  have:=congrArg List.length e;rw[hd]at this;simp only[List.length_cons]at this;exact List.length_eq_zero_iff.1 (by omega)
 subst hl0;have oo:bs=bs.take n++[a,b,c,d]:=by rw[<-e,List.take_append_drop]
 have hm:∀x,x∈[a,b,c,d]->x<256:=fun x hx=>hb x (by rw[oo];exact List.mem_append_right _ hx);have h':Sl S v 1 (az (bs.take n++[a,b,c,d])):=by rw[<-oo];exact h
 have:=take150 h' (fun x hx=>hb x (List.mem_of_mem_take hx)) (hm a (by simp)) (hm b (by simp)) (hm c (by simp)) (hm d (by simp)) (by rw[List.length_take];omega);rw[e];exact this
theorem nt148:Tryz.f148.ntmps=48:=by kernel_rfl
set_option maxRecDepth 20000 in
theorem next148{bb ba at_:Nat}{b:AV}{bs:List Nat}(hb:S.h.get bb=some (.row [b] 0 0 false 32))(ha:S.h.get ba=some (.row [.int .i64 at_] 0 0 false 3))(oo:Sl S b 1 (az bs))(hby:qD bs)(hal:at_<=bs.length)(hl:bs.length<=1048576)(tz:bb<S.next)(jW:ba<S.next):
  ai C1 148 [.ptr bb 0 0 1,.ptr ba 0 0 1] S fun r T=>Sub S T/\((fg (bs.drop at_)=none/\r=.aq)\/(∃rec,fg (bs.drop at_)=some rec/\Sl T r 1 (az rec)/\isNil r=false/\iS S.next r)):=by
 have u1:=oo.sl;have u2:=oo.fC;rw[aD]at u2;obtain⟨L,hL⟩:∃L,L=bs.length:=⟨_,rfl⟩
 rw[<-hL]at u2 hal hl;have kb:=aj oo;obtain⟨ds,qv⟩:∃ds,ds=bs.drop at_:=⟨_,rfl⟩
 have xw:ds.length=L-at_:=by rw[qv,List.length_drop,hL]
 have hdb:qD ds:=fun c hc=>hby c (by rw[qv]at hc;exact List.mem_of_mem_drop hc);have hwd:IntKind.i64.wrap ((L:Int)-at_)=(L:Int)-at_:=IntWalk.i64_in _ (by omega);rw[<-qv];refine aX (cD _) (cG _ rfl) fn148 rfl ok148 (by simp) fun F hn s0 s1=>?_;rw[nt148]at hn;by_cases c4:ds.length<4
 .have yv:fg ds=none:=by unfold fg;rw[if_pos c4]
  have c4I:(L:Int)-at_<4:=by omega
  simp[s0,s1,hb,ha,u1,u2,hwd,c4I,yv];exact Sub.refl S
 have c4I:¬(L:Int)-at_<4:=by omega
 have c1:=oo.cut (l:=at_) (k:=L) (by omega) (by omega);have d1:((az bs).drop (at_*1)).take ((L-at_)*1)=az ds:=by
  rw[Nat.mul_one,Nat.mul_one,qv];unfold az;rw[<-List.map_drop,List.take_of_length_le (by rw[List.length_map,List.length_drop];omega)]
 rw[d1]at c1;obtain⟨cw,hcw⟩:∃cw,cw=j8 b at_ L:=⟨_,rfl⟩
 have gA:∀(F:Fr)(x:Tmp),sl F x=.int .i64 at_->eK C1 F 32 b (some (.tmp x)) none none=some cw:=fun F x a0=>by
  rw[hcw];exact fm (cx:=C1) (p:=(5,1,1)) (l:=at_) (k:=L) ru u1 (by simp[a0]) (by rw[jF,u2]) (by omega) (by omega)
 rw[<-hcw]at c1;have e149:=num149' c1 hdb (by omega);have hle:=le4_lt hdb;obtain⟨n,yv⟩:∃n,n=Et ds:=⟨_,rfl⟩
 rw[<-yv]at e149 hle;have hwn:IntKind.i64.wrap (n:Int)=n:=IntWalk.i64_in _ (by omega);have hw4:IntKind.i64.wrap (4+(n:Int))=4+(n:Int):=IntWalk.i64_in _ (by omega);have hw8:IntKind.i64.wrap (4+(n:Int)+4)=4+(n:Int)+4:=IntWalk.i64_in _ (by omega);have kc:=aj c1;simp[-eZ,s0,s1,hb,ha,u1,u2,hwd,c4I];rw[eZ];simp[-eZ,s0,s1,hb,ha,u1,u2,hwd,c4I,gA,kb,kc,e149,aR,hwn];have c4n:¬ds.length<4:=c4;by_cases cn:n<1\/2048<n\/ds.length<4+n+4
 .have oE:fg ds=none:=by unfold fg;rw[if_neg c4,<-yv,if_pos cn]
  rw[oE];rcases Nat.lt_or_ge n 1 with a1|a1
  .have b1:=eq_true (show (n:Int)<1 by omega);have b1N:=eq_true a1;have b1Z:=eq_true (show n=0 by omega);simp[s0,s1,hb,ha,u1,u2,hwd,b1,b1N,b1Z];exact Sub.refl S
  .have b1:=eq_false (show ¬(n:Int)<1 by omega);have b1N:=eq_false (show ¬n<1 by omega);have b1Z:=eq_false (show ¬n=0 by omega);rcases Nat.lt_or_ge 2048 n with a2|a2
   .have b2:=eq_true (show (2048:Int)<n by omega);have b2N:=eq_true a2;simp[s0,s1,hb,ha,u1,u2,hwd,b1,b1N,b1Z,b2,b2N];exact Sub.refl S
   .have b2:=eq_false (show ¬(2048:Int)<n by omega);have b2N:=eq_false (show ¬2048<n by omega);have b3:=eq_true (show (L:Int)-at_<4+(n:Int)+4 by omega);simp[s0,s1,hb,ha,u1,u2,hwd,b1,b1N,b1Z,b2,b2N,b3,kb,hw4,hw8];exact Sub.refl S
 have b1:=eq_false (show ¬(n:Int)<1 by omega);have b1N:=eq_false (show ¬n<1 by omega);have b1Z:=eq_false (show ¬n=0 by omega);have b2:=eq_false (show ¬(2048:Int)<n by omega);have b2N:=eq_false (show ¬2048<n by omega);have b3:=eq_false (show ¬(L:Int)-at_<4+(n:Int)+4 by omega);obtain⟨e,he⟩:∃e,e=at_+4+n+4:=⟨_,rfl⟩
 have we1:IntKind.i64.wrap ((at_:Int)+4)=(at_:Int)+4:=IntWalk.i64_in _ (by omega);have we2:IntKind.i64.wrap ((at_:Int)+4+n)=(at_:Int)+4+n:=IntWalk.i64_in _ (by omega);have we3:IntKind.i64.wrap ((at_:Int)+4+n+4)=(e:Int):=by rw[IntWalk.i64_in _ (by omega)];omega
 have c2:=oo.cut (l:=at_) (k:=e) (by omega) (by omega);have d2:((az bs).drop (at_*1)).take ((e-at_)*1)=az (ds.take (4+n+4)):=by
  rw[Nat.mul_one,Nat.mul_one,qv];unfold az;rw[<-List.map_drop,<-List.map_take];congr 2;omega
 rw[d2]at c2;obtain⟨dw,hdw⟩:∃dw,dw=j8 b at_ e:=⟨_,rfl⟩
 have lE:∀(F:Fr)(x y:Tmp),sl F x=.int .i64 at_->sl F y=.int .i64 e->eK C1 F 32 b (some (.tmp x)) (some (.tmp y)) none=some dw:=fun F x y a0 a1=>by
  rw[hdw];exact fm (cx:=C1) (p:=(5,1,1)) (l:=at_) (k:=e) ru u1 (by simp[a0]) (by simp[a1]) (by omega) (by omega)
 rw[<-hdw]at c2;have kd:=aj c2;have ub:(ds.take (4+n+4)).length=4+n+4:=by rw[List.length_take];omega
 obtain⟨r,T,⟨hT,om⟩,e150⟩:=(take150' (n:=4+n) c2 (fun c hc=>hdb c (List.mem_of_mem_take hc)) ub (by omega)).ex;have k1:(ds.take (4+n+4)).drop (4+n)=(ds.drop (4+n)).take 4:=by rw[List.drop_take];congr 1;omega
 have k2:(ds.take (4+n+4)).take (4+n)=ds.take (4+n):=by rw[List.take_take];congr 1;omega
 rw[k1,k2]at om;rcases om with⟨cS,rfl⟩|⟨heq,w,rfl,hw,jB⟩
 .have oE:fg ds=none:=by unfold fg;rw[if_neg c4,<-yv,if_neg cn,if_neg cS]
  rw[oE];simp[s0,s1,hb,ha,u1,u2,hwd,b1,b1N,b1Z,b2,b2N,b3,kb,kd,hw4,hw8,we1,we2,we3,lE,aR,e150];exact hT
 .have oE:fg ds=some ((ds.take (4+n)).drop 4):=by unfold fg;rw[if_neg c4,<-yv,if_neg cn,if_pos heq]
  have htl:(ds.take (4+n)).length=4+n:=by rw[List.length_take];omega
  have v1:=hw.1.sl;have v2:=hw.1.fC;rw[aD,htl]at v2;have c3:=hw.1.cut (l:=4) (k:=4+n) (by omega) (by omega);have d3:((az (ds.take (4+n))).drop (4*1)).take ((4+n-4)*1)=az ((ds.take (4+n)).drop 4):=by
   rw[Nat.mul_one,Nat.mul_one];unfold az;rw[<-List.map_drop,List.take_of_length_le (by rw[List.length_map,List.length_drop,htl];omega)]
  rw[d3]at c3;have hb4:aB (j8 w 4 (4+n))=aB w:=pN;have yM:=Dm (l:=4) (k:=4+n) hw.1 (by omega) (by omega);obtain⟨x,hx⟩:∃x,x=j8 w 4 (4+n):=⟨_,rfl⟩
  have hs3:∀(F:Fr),eK C1 F 32 w (some (.const (.int .i64 4))) none none=some x:=fun F=>by
   rw[hx];exact fm (cx:=C1) (p:=(5,1,1)) (l:=4) (k:=4+n) ru v1 (by simp[eval_const,Bs,eR]) (by rw[jF,v2]) (by omega) (by omega)
  rw[<-hx]at c3 hb4 yM;have hxn:isNil x=false:=c3.notNil (by
   intro h0;have:=congrArg List.length h0;rw[aD,List.length_drop,htl]at this;simp at this;omega)
  rw[oE];have kw:=aj hw.1;have kx:=aj c3;simp[s0,s1,hb,ha,u1,u2,hwd,b1,b1N,b1Z,b2,b2N,b3,kb,kd,hw4,hw8,we1,we2,we3,lE,aR,e150,kw,hs3,kx,c3.np];exact⟨hT,c3,hxn,by unfold iS at jB⊢;rw[hb4];exact jB⟩
end
section
variable{S T:AS}
structure FrsM(S:AS)(b:AV)(bb ba bn at_:Nat):Prop where
 gb:S.h.get bb=some (.row [b] 0 0 false 32)
 ga:S.h.get ba=some (.row [.int .i64 at_] 0 0 false 3)
 gn:S.h.get bn=some (.row [.func (.func 148) [] [.ptr bb 0 0 1,.ptr ba 0 0 1]] 0 0 false 188)
theorem frames96{b:AV}{bs:List AV}(hb:Sl S b 1 bs):ai C1 96 [b] S fun r T=>∃bb ba bn,r=.func (.func 151) [] [.ptr bn 0 0 1,.ptr ba 0 0 1]/\Sub S T/\FrsM T b bb ba bn 0/\S.next<=bb/\bb<ba/\ba<bn/\bn<T.next:=by
 obtain⟨S1,bI⟩:∃S1:AS,S1=⟨S.h.set S.next (.row [b] 0 0 false 32),S.next+1⟩:=⟨_,rfl⟩
 have s1:Sub S S1:=by rw[bI];exact seg.cf
 have g1:S1.h.get S.next=some (.row [b] 0 0 false 32):=by rw[bI];exact aa _ _ _
 have n1:S1.next=S.next+1:=by rw[bI]
 have fN:=bI.symm;clear bI;obtain⟨S2,c7⟩:∃S2:AS,S2=⟨(S1.h.set S1.next (.row [.int .i64 0] 0 0 false 3)).set S1.next (.row [.int .i64 0] 0 0 false 3),S1.next+1⟩:=⟨_,rfl⟩
 have s2:Sub S1 S2:=by rw[c7];exact seg.fO
 have g2:S2.h.get S1.next=some (.row [.int .i64 0] 0 0 false 3):=by rw[c7];exact aa _ _ _
 have n2:S2.next=S1.next+1:=by rw[c7]
 have iJ:=c7.symm;clear c7;obtain⟨S3,kO⟩:∃S3:AS,S3=⟨(S2.h.set S2.next (.row [.kM] 0 0 false 188)).set S2.next (.row [.func (.func 148) [] [.ptr S.next 0 0 1,.ptr S1.next 0 0 1]] 0 0 false 188),S2.next+1⟩:=⟨_,rfl⟩
 have s3:Sub S2 S3:=by rw[kO];exact seg.fO
 have g3:S3.h.get S2.next=some (.row [.func (.func 148) [] [.ptr S.next 0 0 1,.ptr S1.next 0 0 1]] 0 0 false 188):=by rw[kO];exact aa _ _ _
 have n3:S3.next=S2.next+1:=by rw[kO]
 have my:=kO.symm;clear kO;have kb:=aj hb;have e:ai C1 96 [b] S fun r T=>r=.func (.func 151) [] [.ptr S2.next 0 0 1,.ptr S1.next 0 0 1]/\T=S3:=by
  refine aK (cD _) (cG _ rfl) fn96 rfl ok96 (by simp) fun F hn s0=>?_;simp[s0,hb.cells,kb,fN,iJ,my]
 refine e.mono ?_;rintro r T ⟨rfl,rfl⟩;exact⟨S.next,S1.next,S2.next,rfl,(s1.trans s2).trans s3,⟨(s3.h _ (by omega)).trans ((s2.h _ (by omega)).trans g1),(s3.h _ (by omega)).trans g2,g3⟩,Nat.le_refl _,by omega,by omega,by omega⟩
theorem FrsM.agree{b:AV}{bb ba bn at_:Nat}(h:FrsM S b bb ba bn at_)(h1:T.h.get bb=S.h.get bb)(h2:T.h.get ba=S.h.get ba)(h3:T.h.get bn=S.h.get bn):FrsM T b bb ba bn at_:=⟨h1.trans h.gb,h2.trans h.ga,h3.trans h.gn⟩
structure PulI(b:AV)(bs:List Nat)(bb ba bn lo:Nat)(I:Nat->AS->Prop)(at_:Nat)(S:AS):Prop where
 m:FrsM S b bb ba bn at_
 sl:Sl S b 1 (az bs)
 le:at_<=bs.length
 i:I at_ S
 lo:lo<=S.next
def Bef(I:Nat->AS->Prop)(at_ ba:Nat)(w:AV)(S:AS):Prop:=∃A0:AS,I at_ A0/\(aB w=0\/A0.next<aB w)/\∀id,id<A0.next->id≠ba->S.h.get id=A0.h.get id
def pulH(b:AV)(bs:List Nat)(lp bb ba bn lo:Nat)(I:Nat->AS->Prop)(k:Nat)(F':Fr)(S':AS):Prop:=
 ∃at_,PulI b bs bb ba bn lo I at_ S'/\sl F' 0=.obj .yld lp/\sl F' 1=.ptr bn 0 0 1/\sl F' 2=.ptr ba 0 0 1/\F'.n=20/\F'.ds=[]/\k=bs.length-at_ /\
  ((fg (bs.drop at_)=none/\sl F' 4=.aq)\/∃rec w,fg (bs.drop at_)=some rec/\sl F' 4=w/\Sl S' w 1 (az rec)/\isNil w=false/\(aB w=0\/lo<aB w)/\Bef I at_ ba w S')
theorem pulH_mk{b:AV}{bs:List Nat}{lp bb ba bn lo:Nat}{I:Nat->AS->Prop}{k:Nat}{F':Fr}(at_:Nat)(h1:PulI b bs bb ba bn lo I at_ T)(h2:sl F' 0=.obj .yld lp)(h3:sl F' 1=.ptr bn 0 0 1)(h4:sl F' 2=.ptr ba 0 0 1)(h5:F'.n=20)(h6:F'.ds=[])(h7:k=bs.length-at_)
  (h8:(fg (bs.drop at_)=none/\sl F' 4=.aq)\/∃rec w,fg (bs.drop at_)=some rec/\sl F' 4=w/\Sl T w 1 (az rec)/\isNil w=false/\(aB w=0\/lo<aB w)/\Bef I at_ ba w T):pulH b bs lp bb ba bn lo I k F' T:=⟨at_,h1,h2,h3,h4,h5,h6,h7,h8⟩
theorem nt151:Tryz.f151.ntmps=20:=by kernel_rfl
attribute [local simp] callV_yld
set_option maxRecDepth 20000 in
theorem pull151{lp bb ba bn lo:Nat}{b:AV}{bs:List Nat}(I:Nat->AS->Prop)(h0:PulI b bs bb ba bn lo I 0 S)(hby:qD bs)(hl:bs.length<=1048576)(sf:bb<ba)(hban:ba<bn)(hbn:bn<lo)(hbo:aB b<=lo)(hba:aB b≠ba+1)
  (yC:∀at_ S T,I at_ S->lo<=S.next->(∀id,id<S.next->id≠ba->T.h.get id=S.h.get id)->S.next<=T.next->I at_ T)
  (round:∀at_ rec w S,fg (bs.drop at_)=some rec->I at_ S->lo<=S.next->Sl S w 1 (az rec)->isNil w=false->(aB w=0\/lo<aB w)->Bef I at_ ba w S->pS C1 lp [.int .i64 (at_+rec.length+8:Nat),w] S fun v T=>v=.bool true/\I (at_+rec.length+8) T/\S.next<=T.next/\(∀id,id<lo->id=bb\/id=ba\/id=bn\/aB b=id+1->T.h.get id=S.h.get id)) :
  ai C1 151 [.obj .yld lp,.ptr bn 0 0 1,.ptr ba 0 0 1] S fun _ T=>∃at_,I at_ T/\fg (bs.drop at_)=none/\lo<=T.next:=by
 have nxt:∀at_ S,PulI b bs bb ba bn lo I at_ S->∃r T,PulI b bs bb ba bn lo I at_ T/\(∀Q:AV->AS->Prop,ai C1 148 [.ptr bb 0 0 1,.ptr ba 0 0 1] S Q=Q r T)/\okW r=true/\bE r=false/\((fg (bs.drop at_)=none/\r=.aq)\/∃rec,fg (bs.drop at_)=some rec/\Sl T r 1 (az rec)/\isNil r=false/\(aB r=0\/lo<aB r)/\Bef I at_ ba r T):=fun at_ S h=>by
  obtain⟨h1,h2,h3,h4,h5⟩:=h;obtain⟨r,T,⟨hT,hc⟩,e⟩:=(next148 h1.gb h1.ga h2 hby h3 hl (by omega) (by omega)).ex;have hn:=hT.next
  refine⟨r,T,⟨h1.agree (hT.h _ (by omega)) (hT.h _ (by omega)) (hT.h _ (by omega)),h2.toSub hT,h3,yC _ _ _ h4 h5 (fun id hi _=>hT.h id hi) hn,by omega⟩,e,?_,?_,?_⟩
  .rcases hc with⟨_,rfl⟩|⟨rec,_,q,_⟩
   .rfl
   .exact aj q
  .rcases hc with⟨_,rfl⟩|⟨rec,_,q,_⟩
   .rfl
   .exact q.np
  .rcases hc with⟨q1,q2⟩|⟨rec,q1,q2,q3,q4⟩
   .exact .inl ⟨q1,q2⟩
   .exact .inr ⟨rec,q1,q2,q3,by unfold iS at q4;omega,S,h4,q4,fun id hi _=>hT.h id hi⟩
 obtain⟨r0,T0,hI0,e0,k0,np0,pG⟩:=nxt 0 S h0;have gn0:=h0.m.gn;refine xK (cD _) (cG _ rfl) fn151 rfl ok151 (by simp) fun F hn hd hs=>?_;rw[nt151]at hn;have s0:=hs 0;have s1:=hs 1;have s2:=hs 2;clear hs;simp only[List.getElem?_cons_zero,List.getElem?_cons_succ,Option.getD_some]at s0 s1 s2;simp[s0,s1,s2,gn0,aR,e0,k0,np0];refine loopG_of (pulH b bs lp bb ba bn lo I) bs.length (pulH_mk 0 hI0 (by simp[s0]) (by simp[s1]) (by simp[s2]) (by simp[hn]) (by simp[ma,hd]) rfl ?_) ?_
 .rcases pG with⟨q1,q2⟩|⟨rec,q1,q2,q3,q4,q5⟩
  .exact .inl ⟨q1,by simp[q2]⟩
  .exact .inr ⟨rec,r0,q1,by simp,q2,q3,q4,q5⟩
 clear s0 s1 s2 hn hd gn0 e0 k0 np0 pG hI0;rintro k F' S'-⟨at_,hI,t0,t1,t2,hn,hd,hk,om⟩;rcases om with⟨q1,t4⟩|⟨rec,w,q1,t4,q2,q3,q4,A0,q5,q6,q7⟩
 .simp[t0,t1,t2,t4];simp only[ma,hd];rw[iz];have iN:∀(F:Fr),j9 C1 F S' Tryz.f151.results.toList=some []:=fun F=>by
   have e:Tryz.f151.results.toList=[]:=by kernel_rfl
   rw[e];rfl
  rw[iN];exact⟨rfl,at_,hI.i,q1,hI.lo⟩
 .have u1:=q2.sl;have kw:=aj q2;have hnf:=qd q1;rw[List.length_drop]at hnf;have hle:=hI.le;obtain⟨e,he⟩:∃e,e=at_+rec.length+8:=⟨_,rfl⟩
  have e152:=size152 q2 (by rw[aD];omega);rw[aD]at e152;have jV:B4 rec.length=rec.length+8:=by unfold B4;rw[if_pos ⟨hnf.1,hnf.2.1⟩]
  rw[jV]at e152;have hwe:IntKind.i64.wrap ((at_:Int)+((rec.length+8:Nat):Int))=(e:Int):=by rw[IntWalk.i64_in _ (by omega)];omega
  obtain⟨m,hm⟩:∃m,m=rec.length+8:=⟨_,rfl⟩
  rw[<-hm]at e152 hwe;obtain⟨g1,g2,g3⟩:=hI.m;obtain⟨V,hV⟩:∃V:AS,V=⟨S'.h.set ba (.row [.int .i64 e] 0 0 false 3),S'.next⟩:=⟨_,rfl⟩
  have oV:∀id,id≠ba->V.h.get id=S'.h.get id:=fun id h=>by rw[hV];exact ae _ _ h
  have gV:V.h.get ba=some (.row [.int .i64 e] 0 0 false 3):=by rw[hV];exact aa _ _ _
  have nV:V.next=S'.next:=by rw[hV]
  have bV:=hV.symm;clear hV;have qu:=hI.lo;have wV:Sl V w 1 (az rec):=q2.agree (fun id h=>oV id (by omega)) (by omega);have cS:aS C1 .neq 32 true w .aq=some (.bool true):=by
   have:=ne_nil (cx:=C1) (t:=32) (c:=true) ru u1;rw[q3]at this;exact this
  have vJ:=round at_ rec w V q1 (yC _ _ _ hI.i qu (fun id _ h=>oV id h) (by omega)) (by omega) wV q3 q4 ⟨A0,q5,q6,fun id h1 h2=>(oV id h2).trans (q7 id h1 h2)⟩;rw[<-he]at vJ;simp[t0,t1,t2,t4,cS];refine cO [.r 0 1,.p,.e [],.p,.e []] (n:=20) (by kernel_rfl) (by simp[hn]) ?_;simp[t0,t1,t2,t4,g2,aR,kw,e152,hwe,bV,gV];refine pS.mono vJ ?_;rintro v X ⟨rfl,x1,x2,x3⟩;have hX:PulI b bs bb ba bn lo I e X:=by
   refine⟨⟨(x3 _ (by omega) (.inl rfl)).trans ((oV _ (by omega)).trans g1),(x3 _ (by omega) (.inr (.inl rfl))).trans gV,(x3 _ (by omega) (.inr (.inr (.inl rfl)))).trans ((oV _ (by omega)).trans g3)⟩,hI.sl.agree (fun id h=>?_) (by omega),by omega,x1,by omega⟩;rw[x3 id (by omega) (.inr (.inr (.inr h))),oV id (by omega)]
  obtain⟨r1,Y,hY,e1,k1,np1,hc1⟩:=nxt e X hX;have gn1:=hX.m.gn;simp[t0,t1,t2,gn1,aR,e1,k1,np1];refine⟨bs.length-e,by omega,pulH_mk e hY (by simp[t0]) (by simp[t1]) (by simp[t2]) (by simp[hn]) (by simp[ma,hd]) rfl ?_⟩;rcases hc1 with⟨z1,z2⟩|⟨rec',z1,z2,z3,z4,z5⟩
  .exact .inl ⟨z1,by simp[z2]⟩
  .exact .inr ⟨rec',r1,z1,by simp,z2,z3,z4,z5⟩
structure Gc(S:AS)(lo:Nat)(l:AV)(ps:List (AV×List Nat)):Prop where
 gw:Gw S l 1 32 (ps.map (·.1))
 el:∀q,q∈ps->Sl S q.1 1 (az q.2)/\(aB q.1=0\/(lo<aB q.1/\aB q.1≠aB l))
 nl:aB l=0\/lo<aB l
theorem Gc.agree{lo:Nat}{l:AV}{ps:List (AV×List Nat)}(h:Gc S lo l ps)(hs:∀id,lo<=id->id<S.next->T.h.get id=S.h.get id)(hn:S.next<=T.next):Gc T lo l ps:=
 ⟨h.gw.agree (fun id e=>hs id (by have:=h.nl;omega) (by have:=h.gw.1.old;omega)) hn,fun q hq=>⟨(h.el q hq).1.agree (fun id e=>hs id (by have:=(h.el q hq).2;omega) (by have:=(h.el q hq).1.old;omega)) hn,(h.el q hq).2⟩,h.nl⟩
def splI(S0:AS)(bl bw lp bd lo:Nat)(G:Fr)(cA cB:Code)(bs:List Nat)(at_:Nat)(S':AS):Prop:=
 ∃(l:AV)(ps:List (AV×List Nat)),S'.h.get bl=some (.row [l] 0 0 false 111)/\(∃n:Int,S'.h.get bw=some (.row [.int .i64 n] 0 0 false 3))/\Gc S' lo l ps/\ps.map (·.2)++lf (bs.drop at_)=lf bs /\
   S'.h.get lp=some (.jk (.loop .ready none G #[10,11] cA cB))/\S'.h.get bd=some (.jk (.yw true))/\Sub S0 S'/\(∀q,q∈ps->1<=q.2.length)/\(ps.map fun q=>q.2.length+8).sum=at_/\lo<=S'.next
theorem nt49:Tryz.f49.ntmps=19:=by kernel_rfl
theorem frs_len{ps:List (AV×List Nat)}(h:∀q,q∈ps->1<=q.2.length):ps.length<=(ps.map fun q=>q.2.length+8).sum:=by
 induction ps with
 |nil=>simp
 |cons q ps ih=>
  have:=ih fun x hx=>h x (List.mem_cons_of_mem _ hx);simp;omega
theorem res49{F:Fr}{l:AV}{n:Int}(h2:sl F 2=l)(h3:sl F 3=.int .i64 n)(hl:okW l=true):j9 C1 F S Tryz.f49.results.toList=some [l,.int .i64 n]:=by
 have e:Tryz.f49.results.toList=[.tmp 2,.tmp 3]:=by kernel_rfl
 rw[e];simp[h2,h3,hl]
set_option maxRecDepth 20000 in
theorem split49{b:AV}{bs:List Nat}(hb:Sl S b 1 (az bs))(hby:qD bs)(hl:bs.length<=1000000):ai C1 49 [b] S fun r T=>Sub S T/\∃l ps n,r=.tuple [l,.int .i64 n]/\Gc T S.next l ps/\ps.map (·.2)=lf bs:=by
 obtain⟨S1,bI⟩:∃S1:AS,S1=⟨S.h.set S.next (.row [.aq] 0 0 false 111),S.next+1⟩:=⟨_,rfl⟩
 have s1:Sub S S1:=by rw[bI];exact seg.cf
 have g1:S1.h.get S.next=some (.row [.aq] 0 0 false 111):=by rw[bI];exact aa _ _ _
 have n1:S1.next=S.next+1:=by rw[bI]
 have fN:=bI.symm;clear bI;obtain⟨S2,c7⟩:∃S2:AS,S2=⟨(S1.h.set S1.next (.row [.int .i64 0] 0 0 false 3)).set S1.next (.row [.int .i64 0] 0 0 false 3),S1.next+1⟩:=⟨_,rfl⟩
 have s2:Sub S1 S2:=by rw[c7];exact seg.fO
 have g2:S2.h.get S1.next=some (.row [.int .i64 0] 0 0 false 3):=by rw[c7];exact aa _ _ _
 have n2:S2.next=S1.next+1:=by rw[c7]
 have iJ:=c7.symm;clear c7;have hb2:=(hb.toSub s1).toSub s2;obtain⟨r,T,⟨bb,ba,bn,rfl,hT,hM,m1,m2,m3,m4⟩,e96⟩:=(frames96 hb2).ex;have BW:=hT.next
 have kb:=aj hb;have hbo:=hb.old;refine xK (cD _) (cG _ rfl) fn49 rfl ok49 (by simp) fun F hn hd hs=>?_;rw[nt49]at hn;have s0:=hs 0;clear hs;simp only[List.getElem?_cons_zero,List.getElem?_cons_succ,Option.getD_some]at s0;simp[s0,fN,iJ,aR,e96,kb];refine range_gen fun cA cB hA hB=>?_;generalize hG:up _ (some 9) (AV.func (.func 151) [] _)=G;have h4:sl G 4=.ptr S.next 0 0 1:=by rw[<-hG];simp
 have h5:sl G 5=.ptr S1.next 0 0 1:=by rw[<-hG];simp
 have h9:eval G (.tmp 9)=.func (.func 151) [] [.ptr bn 0 0 1,.ptr ba 0 0 1]:=by rw[<-hG];simp
 have gn:G.n=19:=by rw[<-hG];simp[hn]
 have gd:G.ds=[]:=by rw[<-hG];simp[ma,hd]
 clear hG s0 hn hd;refine⟨by rw[hA,hB];kernel_rfl,151,[],[.ptr bn 0 0 1,.ptr ba 0 0 1],h9,?_⟩;obtain⟨P,hP⟩:∃P:AS,P=⟨(T.h.set T.next (.jk (.yw true))).set (T.next+1) (.jk (.loop .ready none G #[10,11] cA cB)),T.next+2⟩:=⟨_,rfl⟩
 have nP:P.next=T.next+2:=by rw[hP]
 have pl:P.h.get (T.next+1)=some (.jk (.loop .ready none G #[10,11] cA cB)):=by rw[hP];exact aa _ _ _
 have pd:P.h.get T.next=some (.jk (.yw true)):=by rw[hP];exact (ae _ _ (by omega)).trans (aa _ _ _)
 have po:∀id,id<T.next->P.h.get id=T.h.get id:=fun id h=>by rw[hP];exact (ae _ _ (by omega)).trans (ae _ _ (by omega))
 have bP:(⟨(T.h.set T.next (.jk (.yw true))).set (T.next+1) (.jk (.loop .ready none G #[10,11] cA cB)),T.next+2⟩:AS)=P:=hP.symm;clear hP;show ai C1 151 [.obj .yld (T.next+1),.ptr bn 0 0 1,.ptr ba 0 0 1] (⟨(T.h.set T.next (.jk (.yw true))).set (T.next+1) (.jk (.loop .ready none G #[10,11] cA cB)),T.next+2⟩:AS) _;rw[bP];have x1:=(po S.next (by omega)).trans ((hT.h _ (by omega)).trans ((s2.h _ (by omega)).trans g1));have x2:=(po S1.next (by omega)).trans ((hT.h _ (by omega)).trans g2);have sP:Sub S P:=⟨fun id hi=>by rw[po id (by omega),hT.h id (by omega),s2.h id (by omega),s1.h id hi],by omega⟩
 have e0:lf (bs.drop 0)=lf bs:=by rw[List.drop_zero]
 refine ai.mono (pull151 (lo:=P.next) (splI S S.next S1.next (T.next+1) T.next P.next G cA cB bs)
  ⟨hM.agree (po _ (by omega)) (po _ (by omega)) (po _ (by omega)),hb.toSub sP,Nat.zero_le _,⟨.aq,[],x1,⟨0,x2⟩,⟨Gw.nil,(fun q hq=>(List.not_mem_nil hq).elim),.inl rfl⟩,e0,pl,pd,sP,(fun q hq=>(List.not_mem_nil hq).elim),rfl,Nat.le_refl _⟩,Nat.le_refl _⟩ hby (by omega) (by omega) (by omega) (by omega) (by omega) (by omega) ?_ ?_) ?_
 .rintro at_ A B' ⟨l,ps,a1,⟨n,a2⟩,a3,a4,a5,a6,a7,a8,a9,a10⟩ qu hag hnx;exact⟨l,ps,(hag _ (by omega) (by omega)).trans a1,⟨n,(hag _ (by omega) (by omega)).trans a2⟩,a3.agree (fun id h1 h2=>hag id h2 (by omega)) hnx,a4,(hag _ (by omega) (by omega)).trans a5,(hag _ (by omega) (by omega)).trans a6,⟨fun id hi=>(hag id (by have:=a7.next;omega) (by omega)).trans (a7.h id hi),by omega⟩,a8,a9,by omega⟩
 .rintro at_ rec w A sJ ⟨l,ps,a1,⟨n,a2⟩,a3,a4,a5,a6,a7,a8,a9,a10⟩ qu hw hwn hwb ⟨A0,⟨l0,_,c1,_,c3,_,_,_,_,_,_,c10⟩,d2,d3⟩;have hll0:l0=l:=by
   have:=(d3 S.next (by omega) (by omega)).trans c1;rw[a1]at this;simp only[Option.some.injEq,dr.row.injEq,List.cons.injEq]at this;exact this.1.1.symm
  have hl0o:=c3.gw.1.old;rw[hll0]at hl0o;have hnf:=qd sJ;rw[List.length_drop]at hnf;have lV:=frs_len a8;have hll:sLen l=ps.length:=by have:=a3.gw.1.fC;rwa [List.length_map]at this
  obtain⟨e,he⟩:∃e,e=at_+rec.length+8:=⟨_,rfl⟩
  rw[<-he];obtain⟨G0,hG0⟩:∃G0:Fr,G0=⟨G.t,G.n,[]⟩:=⟨_,rfl⟩
  have y4:sl G0 4=.ptr S.next 0 0 1:=by rw[hG0];exact h4
  have y5:sl G0 5=.ptr S1.next 0 0 1:=by rw[hG0];exact h5
  have yn:G0.n=19:=by rw[hG0];exact gn
  refine roundG_of (F1:=up (up G0 (some 10) (.int .i64 e)) (some 11) w) a5 ?_ (by rw[lS,lS,yn,hA];kernel_rfl) (by rw[lS,lS,yn,hB];kernel_rfl) ?_
  .rw[<-hG0];show Bf G0 [10,11] [_,_]=_;unfold Bf;simp[jz,yn,up,show Nat.blt 10 19=true from rfl,show Nat.blt 11 19=true from rfl]
  have kw:=aj hw;rw[hA];simp[kw];refine⟨none,G,cA,cB,by rw[hA,hB];rw[hA,hB]at a5;exact a5,?_⟩;generalize hA1:lh A _ _=A1;have oA1:∀id,id≠T.next+1->A1.h.get id=A.h.get id:=fun id h=>by rw[<-hA1];exact ae _ _ h
  have lA1:A1.h.get (T.next+1)=some (.jk (.loop .busy none G #[10,11] cA cB)):=by rw[<-hA1];exact aa _ _ _
  have nA1:A1.next=A.next:=by rw[<-hA1];rfl
  clear hA1;have f3:=a3.agree (T:=A1) (fun id h1 h2=>oA1 id (by omega)) (by omega);have f1:=(oA1 S.next (by omega)).trans a1;have f2:=(oA1 S1.next (by omega)).trans a2;have xj:Sl A1 w 1 (az rec):=hw.agree (fun id h=>oA1 id (by omega)) (by omega);obtain⟨A2,hA2⟩:∃A2:AS,A2=⟨A1.h.set A1.next (.row [w] 0 0 false 32),A1.next+1⟩:=⟨_,rfl⟩
  have s2':Sub A1 A2:=by rw[hA2];exact seg.cf
  have z2:A2.h.get A1.next=some (.row [w] 0 0 false 32):=by rw[hA2];exact aa _ _ _
  have nA2:A2.next=A1.next+1:=by rw[hA2]
  have bA2:=hA2.symm;clear hA2;have f3':=f3.agree (T:=A2) (fun id h1 h2=>s2'.h id h2) s2'.next
  have yS:Sl A2 (.slice A1.next 0 0 1 1 1 (some 1)) 1 [w]:=⟨by simp[isSl,eu],by simp[jR,dJ,z2,bt],by simp[sLen],by simp[aB,nA2]⟩
  obtain⟨l',A3,e3,g3,o3,n3,l3,_,b3,_⟩:=eB (cx:=C1) (S:=A2) (t:=111) (u:=111) (ts:=[]) (p:=(32,1,24)) (v:=l) (x:=.slice A1.next 0 0 1 1 1 (some 1)) st111 un111 rfl f3'.gw yS (by rw[hll];simp[fits,cH,sLen];omega);have yu:=a3.nl;have hlo':=a3.gw.1.old;obtain⟨A4,hA4⟩:∃A4:AS,A4=⟨A3.h.set S.next (.row [l'] 0 0 false 111),A3.next⟩:=⟨_,rfl⟩
  have o4:∀id,id≠S.next->A4.h.get id=A3.h.get id:=fun id h=>by rw[hA4];exact ae _ _ h
  have z4:A4.h.get S.next=some (.row [l'] 0 0 false 111):=by rw[hA4];exact aa _ _ _
  have n4:A4.next=A3.next:=by rw[hA4]
  have bA4:=hA4.symm;clear hA4;have r3:A3.h.get S.next=some (.row [l] 0 0 false 111):=by rw[o3 _ (by omega) (by omega),s2'.h _ (by omega)];exact f1
  have r4:A4.h.get S1.next=some (.row [.int .i64 n] 0 0 false 3):=by rw[o4 _ (by omega),o3 _ (by omega) (by omega),s2'.h _ (by omega)];exact f2
  obtain⟨A5,hA5⟩:∃A5:AS,A5=⟨A4.h.set S1.next (.row [.int .i64 e] 0 0 false 3),A4.next⟩:=⟨_,rfl⟩
  have o5:∀id,id≠S1.next->A5.h.get id=A4.h.get id:=fun id h=>by rw[hA5];exact ae _ _ h
  have z5:A5.h.get S1.next=some (.row [.int .i64 e] 0 0 false 3):=by rw[hA5];exact aa _ _ _
  have n5:A5.next=A4.next:=by rw[hA5]
  have bA5:=hA5.symm;clear hA5;have og:∀id,id≠S.next->id≠S1.next->id≠T.next+1->id<A.next->id+1≠aB l->A5.h.get id=A.h.get id:=fun id h1 h2 h3 h4 h5=>by
   rw[o5 _ h2,o4 _ h1,o3 _ (by omega) h5,s2'.h _ (by omega),oA1 _ h3]
  have iY:∀(F:Fr)(D:Nat)(y:Tmp),sl F y=w->aA C1 F D (.buildSlice 111 1 #[(0,.tmp y)])=some (.slice D 0 0 1 1 1 (some 1),.row [w] 0 0 false 32):=fun F D y a0=>by
   have:=ck (cx:=C1) (F:=F) (t:=111) (p:=(32,1,24)) (id:=D) (n:=1) (a:=#[(0,.tmp y)]) [[w]] st111 rfl (by simp[a0,hw.cells]) (by simp) (by decide);rw[this];simp
  have kl:=aj a3.gw.1;have kl':=aj g3.1;rw[hB];simp[y4,y5,f1,kl,kw,iY,bA2,e3,g3.1.np,kl',r3,g3.1.cells,bA4,r4,bA5];have lA5:A5.h.get (T.next+1)=some (.jk (.loop .busy none G #[10,11] cA cB)):=by
   rw[o5 _ (by omega),o4 _ (by omega),o3 _ (by omega) (by omega),s2'.h _ (by omega)];exact lA1
  refine⟨.busy,none,G,#[10,11],cA,cB,by rw[hA,hB];rw[hA,hB]at lA5;exact lA5,?_⟩;rw[<-hA,<-hB];generalize hZ:lh A5 _ _=Z;have oZ:∀id,id≠T.next+1->Z.h.get id=A5.h.get id:=fun id h=>by rw[<-hZ];exact ae _ _ h
  have lZ:Z.h.get (T.next+1)=some (.jk (.loop .ready none G #[10,11] cA cB)):=by rw[<-hZ];exact aa _ _ _
  have nZ:Z.next=A5.next:=by rw[<-hZ];rfl
  clear hZ;refine⟨⟨l',ps++[(w,rec)],(oZ _ (by omega)).trans ((o5 _ (by omega)).trans z4),⟨e,(oZ _ (by omega)).trans z5⟩,⟨?_,fun q hq=>?_,by omega⟩,?_,lZ,(oZ _ (by omega)).trans ((og _ (by omega) (by omega) (by omega) (by omega) (by omega)).trans a6),⟨fun id hi=>?_,by omega⟩,fun q hq=>?_,?_,by omega⟩,by omega,fun id h1 h2=>?_⟩
  .rw[List.map_append];exact g3.agree (fun id h=>by rw[oZ _ (by omega),o5 _ (by omega),o4 _ (by omega)]) (by omega)
  .rcases List.mem_append.1 hq with hq|hq
   .obtain⟨b1,b2⟩:=a3.el q hq;have b3':=b1.old;refine⟨b1.agree (fun id h=>?_) (by omega),by omega⟩;rw[oZ _ (by omega)];exact og _ (by omega) (by omega) (by omega) (by omega) (by omega)
   .rw[List.mem_singleton]at hq;subst hq;have b3':=hw.old;refine⟨hw.agree (fun id h=>?_) (by omega),show aB w=0\/(P.next<aB w/\aB w≠aB l') by omega⟩;rw[oZ _ (by omega)];exact og _ (by omega) (by omega) (by omega) (by omega) (by omega)
  .rw[List.map_append,List.append_assoc,he,<-a4,uM sJ,List.drop_drop];show _++([rec]++_)=_;rw[List.singleton_append,Nat.add_assoc]
  .rw[oZ _ (by omega),og id (by omega) (by omega) (by omega) (by have:=a7.next;omega) (by omega)];exact a7.h id hi
  .rcases List.mem_append.1 hq with hq|hq
   .exact a8 q hq
   .rw[List.mem_singleton]at hq;subst hq;exact hnf.1
  .rw[List.map_append,List.sum_append,a9,he];simp;omega
  .rw[oZ _ (by omega)];refine og _ (by omega) (by omega) (by omega) (by omega) (by omega)
 .rintro v X ⟨at_,⟨l,ps,a1,⟨n,a2⟩,a3,a4,a5,a6,a7,a8,a9,a10⟩,hnone,_⟩;refine .inl ⟨.ready,G,#[10,11],cA,cB,by simp,a5,?_⟩;generalize hH:(⟨G.t,G.n,_⟩:Fr)=H;generalize hU:lh X _ _=U;have k4:sl H 4=.ptr S.next 0 0 1:=by rw[<-hH];exact h4
  have k5:sl H 5=.ptr S1.next 0 0 1:=by rw[<-hH];exact h5
  have kn:H.n=19:=by rw[<-hH];exact gn
  have kds:H.ds=[.mark T.next]:=by rw[<-hH,gd]
  have oU:∀id,id≠T.next+1->U.h.get id=X.h.get id:=fun id h=>by rw[<-hU];exact ae _ _ h
  have nU:U.next=X.next:=by rw[<-hU];rfl
  clear hH hU;have u1:=(oU S.next (by omega)).trans a1;have u2:=(oU S1.next (by omega)).trans a2;have ud:=(oU T.next (by omega)).trans a6;have kl:=aj a3.gw.1;simp;refine mH (n:=19) (by kernel_rfl) (by simp[kn]) ?_;simp[k4,k5,u1,u2,kl];refine⟨a3.gw.1.ok,?_⟩;simp only[ma,kds];refine⟨ud,?_⟩;generalize hW:lh U _ _=W;have oW:∀id,id≠T.next->W.h.get id=U.h.get id:=fun id h=>by rw[<-hW];exact ae _ _ h
  have nW:W.next=U.next:=by rw[<-hW];rfl
  clear hW;rw[iz,res49 (l:=l) (n:=n) (by simp) (by simp) kl];simp;have og:∀id,id≠T.next->id≠T.next+1->W.h.get id=X.h.get id:=fun id h1 h2=>(oW id h1).trans (oU id h2)
  refine⟨⟨fun id hi=>(og id (by omega) (by omega)).trans (a7.h id hi),by have:=a7.next;omega⟩,ps,?_,?_⟩
  .have h1:=a3.agree (T:=W) (fun id h1 h2=>og id (by omega) (by omega)) (by omega);exact⟨h1.gw,fun q hq=>⟨(h1.el q hq).1,by have:=(h1.el q hq).2;omega⟩,by have:=h1.nl;omega⟩
  .rw[Dx hnone,List.append_nil]at a4;exact a4
end
open Go.Proofs.YtdknlbnljfdhgaaGreatDoor.mod (Val encV encV_len Con encC encC_len ConOk PredAt mayP mayC mayV setB sameB zeroV mayPred encT encT_len bare predFoot)
section
variable{S T:AS}{B:Nat}
def zeroR:List AV:=[.int .i64 0,.int .i64 0,.int .i64 0,.int .u64 0,.bool false,.aq,.aq]
theorem bld115(k:Int):cU C1 115 [(0,.int .i64 k)]=some (.agg [.int .i64 k,.int .i64 0,.int .i64 0,.int .u64 0,.bool false,.aq,.aq]):=by kernel_rfl
structure Got(lo:Nat)(r r':Rec)(S:AS):Prop where
 eq:Eqv r r'
 at_:cK S r'
 bB:∀id,predFoot r'.p r'.cs id\/aB r'.sv=id+1->lo<=id
theorem Got.agree{lo:Nat}{r r':Rec}(h:Got lo r r' S)(hs:∀id,lo<=id->id<S.next->T.h.get id=S.h.get id)(hn:S.next<=T.next):Got lo r r' T:=
 ⟨h.eq,⟨PredAt.agree h.at_.pred (fun id e=>hs id (h.bB id (.inl e)) (PredAt.bB h.at_.pred e)) hn,h.at_.sl.agree (fun id e=>hs id (h.bB id (.inr e)) (by have:=h.at_.sl.old;omega)) hn,h.at_.num,h.at_.n,h.at_.CM,h.at_.len⟩,h.bB⟩
def parM(S U1:AS)(b:AV)(b2 bp bo bx p B:Nat)(r:Rec)(F':Fr)(S':AS):Prop:=
 ∃r',rX U1 bp bo bx p B r'.c [] S'/\Got U1.next r r' S'/\sl F' 0=b/\sl F' 2=.ptr b2 0 0 7/\sl F' 4=.ptr bp 0 0 1/\sl F' 5=.ptr bo 0 0 1/\sl F' 8=.ptr bx 0 0 7/\F'.n=109
theorem qc{U1:AS}{b:AV}{b2 bp bo bx p:Nat}{r:Rec}{F':Fr}(r':Rec)(h1:rX U1 bp bo bx p B r'.c [] T)(h2:Got U1.next r r' T)(h3:sl F' 0=b)(h4:sl F' 2=.ptr b2 0 0 7)(h5:sl F' 4=.ptr bp 0 0 1)(h6:sl F' 5=.ptr bo 0 0 1)(h7:sl F' 8=.ptr bx 0 0 7)(h8:F'.n=109):parM S U1 b b2 bp bo bx p B r F' T:=
 ⟨r',h1,h2,h3,h4,h5,h6,h7,h8⟩
theorem rec_nil{k id pub:Int}{n:Nat}{th:Bool}(h:n<18446744073709551616):cK S ⟨k,id,pub,n,th,.aq,[],.aq,[]⟩:=
 ⟨⟨Sl.nil,(fun c hc=>(List.not_mem_nil hc).elim),Nat.zero_le _⟩,Sl.nil,(fun c hc=>(List.not_mem_nil hc).elim),h,(fun t ht=>(List.not_mem_nil ht).elim),Nat.zero_le _⟩
theorem vM{lo:Nat}{r:Rec}{k id pub:Int}{n:Nat}{th:Bool}(h:n<18446744073709551616)(e1:k=r.sort)(e2:id=r.id)(e3:pub=r.pub)(e4:n=r.n)(e5:th=r.there)(e6:r.cs=[])(e7:r.st=[]):Got lo r ⟨k,id,pub,n,th,.aq,[],.aq,[]⟩ S:=
 ⟨⟨e1,e2,e3,e4,e5,by rw[e6],by rw[e7]⟩,rec_nil h,fun id e=>by
  rcases e with (e|⟨c,hc,_⟩)|e
  .exact absurd e (by show ¬(0=_+1);omega)
  .cases hc
  .exact absurd e (by show ¬(0=_+1);omega)⟩
theorem rX.below{S0:AS}{bp bo bx p:Nat}{c:List AV}{bs:List Nat}(h:rX S0 bp bo bx p B c bs S)(hs:∀id,id<S0.next->T.h.get id=S.h.get id)(hn:S.next<=T.next):rX S0 bp bo bx p B c bs T:=by
 have h1:=h.pl;have h2:=h.Bl;exact⟨(hs _ h.lp).trans h.gp,(hs _ h.lo).trans h.go,(hs _ h.lx).trans h.gx,h.rd.agree (fun id e=>hs id (by rcases e with e|e<;>omega)) hn,⟨fun id a b=>(hs id a).trans (h.kp.h id a b),Nat.le_trans h.kp.next hn⟩,
  h.lp,h.lo,h.lx,h.pp,h.op,h.xp,h.po,h.px,h.ox,h.Bp,h.Bo,h.Bx,h.pl,h.Bl⟩
def staL(U1 V:AS)(b v:AV)(ks:List Con)(b2 bp bo bx p B ki k:Nat)(r:Rec)(m:Nat)(F':Fr)(S':AS):Prop:=
 ∃(j:Nat)(w:AV),rX U1 bp bo bx p B [.int .i64 k,.int .i64 ki,.int .i64 0,.int .u64 0,.bool false,v,w] ((r.st.drop j).flatMap eI) S'/\Gw S' w 2 52 ((r.st.take j).flatMap encT)/\(aB w=0\/V.next<aB w)/\PredAt S' v ks/\V.next<=S'.next /\
  sl F' 0=b/\sl F' 2=.ptr b2 0 0 7/\sl F' 4=.ptr bp 0 0 1/\sl F' 5=.ptr bo 0 0 1/\sl F' 6=.func (.func 98) [] [.ptr bp 0 0 1,.ptr bo 0 0 1]/\sl F' 8=.ptr bx 0 0 7/\sl F' 9=.int .u64 (r.st.length-j:Nat)/\F'.n=109/\j<=r.st.length/\m=r.st.length-j
theorem staL_mk{U1 V:AS}{b v:AV}{ks:List Con}{b2 bp bo bx p ki k:Nat}{r:Rec}{m:Nat}{F':Fr}(j:Nat)(w:AV)(h1:rX U1 bp bo bx p B [.int .i64 k,.int .i64 ki,.int .i64 0,.int .u64 0,.bool false,v,w] ((r.st.drop j).flatMap eI) T)(h2:Gw T w 2 52 ((r.st.take j).flatMap encT))(h3:aB w=0\/V.next<aB w)(h4:PredAt T v ks)(h5:V.next<=T.next)
  (h6:sl F' 0=b) (h7:sl F' 2=.ptr b2 0 0 7) (h8:sl F' 4=.ptr bp 0 0 1) (h9:sl F' 5=.ptr bo 0 0 1) (BX:sl F' 6=.func (.func 98) [] [.ptr bp 0 0 1,.ptr bo 0 0 1]) (h11:sl F' 8=.ptr bx 0 0 7) (h12:sl F' 9=.int .u64 (r.st.length-j:Nat)) (h13:F'.n=109) (h14:j<=r.st.length) (h15:m=r.st.length-j):staL U1 V b v ks b2 bp bo bx p B ki k r m F' T:=
 ⟨j,w,h1,h2,h3,h4,h5,h6,h7,h8,h9,BX,h11,h12,h13,h14,h15⟩
theorem nt50:Tryz.f50.ntmps=109:=by kernel_rfl
set_option maxRecDepth 20000 in
theorem parsed50{b:AV}{r:Rec}(hb:Sl S b 1 (az (dS r)))(hr:kG r):
  ai C1 50 [b] S fun v T=>∃r',v=.tuple [.agg r'.c,.bool true]/\Got S.next r r' T/\Sub S T:=by
 have hlen:=tJ hr;obtain⟨b2,hb2⟩:∃b2,b2=S.next:=⟨_,rfl⟩
 obtain⟨S1,bI⟩:∃S1:AS,S1=⟨S.h.set b2 (.row [.int .i64 0,.int .i64 0,.int .i64 0,.int .u64 0,.bool false,.aq,.aq] 0 0 false 115),b2+1⟩:=⟨_,rfl⟩
 have s1:Sub S S1:=by rw[bI,hb2];exact seg.cf
 have g1:S1.h.get b2=some (.row zeroR 0 0 false 115):=by rw[bI];exact aa _ _ _
 have n1:S1.next=b2+1:=by rw[bI]
 have fN:=bI.symm;clear bI;obtain⟨u,T,⟨hT,p,B,rfl,q1,q2,q3⟩,e97⟩:=(new97 (hb.toSub s1) (by omega)).ex;have BW:=hT.next
 have q1l:=q1.lt;have q1B:=q1.le;obtain⟨bp,hbp⟩:∃bp,bp=T.next:=⟨_,rfl⟩
 obtain⟨T1,iP⟩:∃T1:AS,T1=⟨(T.h.set bp (.row [.bM] 0 0 false 180)).set bp (.row [.ptr p 0 0 2] 0 0 false 180),bp+1⟩:=⟨_,rfl⟩
 have t1:Sub T T1:=by rw[iP,hbp];exact seg.fO
 have gp1:T1.h.get bp=some (.row [.ptr p 0 0 2] 0 0 false 180):=by rw[iP];exact aa _ _ _
 have nT1:T1.next=bp+1:=by rw[iP]
 have Ay:=iP.symm;clear iP;obtain⟨bo,hbo⟩:∃bo,bo=T1.next:=⟨_,rfl⟩
 obtain⟨T2,ie⟩:∃T2:AS,T2=⟨(T1.h.set bo (.row [.bool false] 0 0 false 4)).set bo (.row [.bool true] 0 0 false 4),bo+1⟩:=⟨_,rfl⟩
 have t2:Sub T1 T2:=by rw[ie,hbo];exact seg.fO
 have go2:T2.h.get bo=some (.row [.bool true] 0 0 false 4):=by rw[ie];exact aa _ _ _
 have nT2:T2.next=bo+1:=by rw[ie]
 have bT2:=ie.symm;clear ie;have gp2:=(t2.h _ (by omega)).trans gp1;have q2':=(q1.sub t1).sub t2;unfold dS at q2';obtain⟨k,hk⟩:∃k,k=uN r.sort:=⟨_,rfl⟩
 rw[<-hk]at q2';have hsort:1<=r.sort/\r.sort<=5:=by rcases hr.case with h|h|h|h|h<;>have:=h.1<;>omega
 have yP:(k:Int)=r.sort:=by rw[hk];exact kY (by omega) (by omega)
 obtain⟨v,U,⟨rfl,u1,u2⟩,e98⟩:=(num98 gp2 go2 q2' (by omega) (by omega) (by omega) (by omega)).ex;have u2n:=u2.next
 obtain⟨bx,hbx⟩:∃bx,bx=U.next:=⟨_,rfl⟩
 obtain⟨U1,hU1⟩:∃U1:AS,U1=⟨(U.h.set bx (.row [.int .i64 0,.int .i64 0,.int .i64 0,.int .u64 0,.bool false,.aq,.aq] 0 0 false 115)).set bx (.row [.int .i64 k,.int .i64 0,.int .i64 0,.int .u64 0,.bool false,.aq,.aq] 0 0 false 115),bx+1⟩:=⟨_,rfl⟩
 have s5:Sub U U1:=by rw[hU1,hbx];exact seg.fO
 have gx1:U1.h.get bx=some (.row [.int .i64 k,.int .i64 0,.int .i64 0,.int .u64 0,.bool false,.aq,.aq] 0 0 false 115):=by rw[hU1];exact aa _ _ _
 have nU1:U1.next=bx+1:=by rw[hU1]
 have bU1:=hU1.symm;clear hU1;have hwk:IntKind.i64.wrap (k:Int)=k:=IntWalk.i64_in _ (by omega);have tO:rX U1 bp bo bx p B [.int .i64 k,.int .i64 0,.int .i64 0,.int .u64 0,.bool false,.aq,.aq] (uR r) U1:=
  ⟨(s5.h _ (by omega)).trans ((u2.h _ (by omega) (by omega)).trans gp2),(s5.h _ (by omega)).trans ((u2.h _ (by omega) (by omega)).trans go2),gx1,u1.sub s5,⟨fun _ _ _=>rfl,Nat.le_refl _⟩,
   by omega,by omega,by omega,by omega,by omega,by omega,by omega,by omega,by omega,by omega,by omega,by omega,by omega,by omega⟩
 have gb2:U1.h.get b2=some (.row zeroR 0 0 false 115):=by
  rw[s5.h _ (by omega),u2.h _ (by omega) (by omega),t2.h _ (by omega),t1.h _ (by omega),hT.h _ (by omega)];exact g1
 have hSU:∀id,id<S.next->U1.h.get id=S.h.get id:=fun id hi=>by
  rw[s5.h _ (by omega),u2.h _ (by omega) (by omega),t2.h _ (by omega),t1.h _ (by omega),hT.h _ (by omega),s1.h _ hi]
 have hbo':=hb.old;have kb:=aj hb;refine aK (cD _) (cG _ rfl) fn50 rfl ok50 (by simp) fun F pB t0=>?_;rw[nt50]at pB;simp[-mB,t0,<-hb2,fN,aR,e97,<-hbp,Ay,<-hbo,bT2,e98,hwk,bld115,<-hbx,bU1,gx1];refine cut_of (parM S U1 b b2 bp bo bx p B r) ?_ ?_
 .obtain⟨ki,hki⟩:∃ki,ki=uN r.id:=⟨_,rfl⟩
  obtain⟨kp,hkp⟩:∃kp,kp=uN r.pub:=⟨_,rfl⟩
  have hki':(ki:Int)=r.id:=by rw[hki];exact kY hr.id.1 hr.id.2
  have hkp':(kp:Int)=r.pub:=by rw[hkp];exact kY hr.pub.1 hr.pub.2
  have hki2:=hr.id;have hkp2:=hr.pub;have hrn:=hr.n;have kh:IntKind.i64.wrap (ki:Int)=ki:=IntWalk.i64_in _ (by omega);have hwp:IntKind.i64.wrap (kp:Int)=kp:=IntWalk.i64_in _ (by omega);unfold uR at tO;rw[<-hki,<-hkp]at tO;rcases hr.case with⟨c1,c2,c3,c4,c5,c6⟩|⟨c1,c2,c3,c4⟩|⟨c1,c2,c3,c4,c5,c6⟩|⟨c1,c2,c3,c4⟩|⟨c1,c2,c3,c4⟩
  .rw[if_pos c1]at tO;have f1:=eq_true (show (k:Int)=1 by omega);have f1N:=eq_true (show k=1 by omega);obtain⟨U2,e2,p2,k2⟩:=rX.num (n:=r.n) (bs:=[]) (by rw[List.append_nil];exact tO) hr.n;have gx2:=p2.gx;simp[t0,gx1,f1,f1N,aR,e2,gx2];exact qc ⟨k,0,0,r.n,false,.aq,[],.aq,[]⟩ p2.put (vM (by omega) yP c2.symm c3.symm rfl c4.symm c5 c6) (by simp[t0]) (by simp) (by simp) (by simp) (by simp) (by simp[pB])
  .rw[if_neg (by omega),if_pos c1,uj hr.may,List.append_assoc,List.append_assoc]at tO;have f1:=eq_false (show ¬(k:Int)=1 by omega);have f1N:=eq_false (show ¬k=1 by omega);have f2:=eq_true (show (k:Int)=2 by omega);have f2N:=eq_true (show k=2 by omega);have lV:=rB hr.may hr.num;have hst8:=hr.st8;have nst:=mQ (n:=r.st.length) (by omega);have ub:=dB (f:=eI) (k:=20) (l:=r.st) fun t ht=>rr (by have:=hr.CM t ht;omega);have hfl2:r.st.length*20<=8*20:=Nat.mul_le_mul_right _ hst8;obtain⟨U2,e2,p2,k2⟩:=tO.num (by omega);obtain⟨v,ks,U3,e3,v1,v2,v3,p3,k3⟩:=p2.form hr.may hr.num (by omega) (by rw[List.length_append];omega);have gx3:=p3.gx;have kv:=aj v1.sl;obtain⟨V,hV⟩:∃V:AS,V=⟨(U3.h.set bx (.row [.int .i64 k,.int .i64 ki,.int .i64 0,.int .u64 0,.bool false,.aq,.aq] 0 0 false 115)).set bx (.row [.int .i64 k,.int .i64 ki,.int .i64 0,.int .u64 0,.bool false,v,.aq] 0 0 false 115),U3.next⟩:=⟨_,rfl⟩
   have pV:rX U1 bp bo bx p B [.int .i64 k,.int .i64 ki,.int .i64 0,.int .u64 0,.bool false,v,.aq] (aV r.st.length++r.st.flatMap eI) V:=by rw[hV];exact p3.put.put
   have oV:∀id,id≠bx->V.h.get id=U3.h.get id:=fun id e=>by rw[hV];exact (ae _ _ e).trans (ae _ _ e)
   have nV:V.next=U3.next:=by rw[hV]
   have bV:=hV.symm;clear hV;have hlx:=pV.lx;have hVn:=pV.kp.next
   have hk2n:=p2.kp.next
   have vV:PredAt V v ks:=PredAt.agree v1 (fun id e=>oV id (by have:=v3 id e;omega)) (by omega);obtain⟨U4,e4,p4,k4⟩:=pV.num (by omega);have e4:∀Q:AV->AS->Prop,ai C1 98 [.ptr bp 0 0 1,.ptr bo 0 0 1] V Q=Q (.int .u64 r.st.length) U4:=e4;have k4n:=k4.next
   have hpl':=p4.pl;have v4:PredAt U4 v ks:=PredAt.agree vV (fun id e=>k4.h id (PredAt.bB vV e) (by have:=v3 id e;omega)) k4n;have vlt:∀id,predFoot v ks id->id<V.next:=fun id e=>PredAt.bB vV e
   have sN:bg C1 U4 .min [27,27] [.int .u64 r.st.length,.int .u64 9]=.val (.int .u64 r.st.length) U4:=by rw[min_two,if_neg (by omega)]
   simp[t0,gx1,f1,f1N,f2,f2N,aR,e2,e3,kh,gx3,kv,v1.sl.np,v1.sl.cells,bV,e4,sN];refine aH (staL U1 V b v ks b2 bp bo bx p B ki k r) r.st.length (staL_mk 0 .aq p4 Gw.nil (.inl rfl) v4 (by omega) (by simp[t0]) (by simp) (by simp) (by simp) (by simp) (by simp) (by simp) (by simp[pB]) (Nat.zero_le _) rfl) ?_;clear p4 e4 sN v4 k4 k4n t0 pB e2 e3 gx3 bV;rintro m F' S'-⟨j,w,q1,q2,q3,q4,q5,t0,t2,t4,t5,t6,t8,t9,pB,hj,hm⟩;have gxS:=q1.gx;have goS:=q1.go;obtain⟨L,hL⟩:∃L,L=r.st.length-j:=⟨_,rfl⟩
   rw[<-hL]at t9;by_cases hj':j<r.st.length
   case neg=>
    obtain rfl:j=r.st.length:=by omega
    have hL0:L=0:=by omega
    rw[List.drop_length,List.flatMap_nil]at q1;rw[List.take_length]at q2;rw[hL0]at t9;simp[t0,t2,t4,t5,t6,t8,t9];refine qc ⟨k,ki,0,0,false,v,ks,w,r.st⟩ q1 ⟨⟨yP,hki',c2.symm,c3.symm,c4.symm,v2,rfl⟩,⟨q4,q2.1,lu v2 hr.num,by show (0:Nat)<18446744073709551616;decide,fun t ht=>by have:=hr.CM t ht;show t.2<_;omega,by show r.st.length<=_;omega⟩,fun id e=>?_⟩ (by simp[t0]) (by simp[t2]) (by simp[t4]) (by simp[t5]) (by simp[t8]) (by simp[pB]);rcases e with e|e
    .have:=v3 id e;omega
    .have e:aB w=id+1:=e;omega
   have hLI:(0:Int)<L:=by omega
   have hLN:0<L:=by omega
   have hx:r.st[j]?=some r.st[j]:=List.getElem?_eq_getElem hj';obtain⟨ht1,ht2,ht3⟩:=hr.CM _ (List.getElem_mem hj');have hd:r.st.drop j=r.st[j]::r.st.drop (j+1):=List.drop_eq_getElem_cons hj';rw[hd,List.flatMap_cons]at q1;obtain⟨t,ht⟩:∃t,t=r.st[j]:=⟨_,rfl⟩
   rw[<-ht]at q1 ht1 ht2 ht3;unfold eI at q1;rw[List.append_assoc]at q1;obtain⟨kt,hkt⟩:∃kt,kt=uN t.1:=⟨_,rfl⟩
   have hkt':(kt:Int)=t.1:=by rw[hkt];exact kY ht1 ht2
   rw[<-hkt]at q1;obtain⟨U5,e5,p5,k5⟩:=q1.num (by omega);obtain⟨U6,e6,p6,k6⟩:=p5.num ht3;have k56:=k5.trans k6;have k56n:=k56.next
   have k5n:=k5.next
   have hqo:=q2.1.old;have hpl2:=q1.pl;have q2':Gw U6 w 2 52 ((r.st.take j).flatMap encT):=q2.agree (fun id e=>k56.h id (by omega) (by omega)) k56n;have hwl:sLen w=j:=by
    have:=q2.1.aM encT_len (by omega);rw[this,List.length_take];omega
   have hwt:IntKind.i64.wrap (kt:Int)=kt:=IntWalk.i64_in _ (by omega);obtain⟨U7,hU7⟩:∃U7:AS,U7=⟨U6.h.set U6.next (.row [.int .i64 kt,.int .u64 t.2] 0 0 false 52),U6.next+1⟩:=⟨_,rfl⟩
   have s7:Sub U6 U7:=by rw[hU7];exact seg.cf
   have x7:U7.h.get U6.next=some (.row [.int .i64 kt,.int .u64 t.2] 0 0 false 52):=by rw[hU7];exact aa _ _ _
   have n7:U7.next=U6.next+1:=by rw[hU7]
   have bU7:=hU7.symm;clear hU7;have henc:encT t=[.int .i64 kt,.int .u64 t.2]:=by unfold encT;rw[hkt']
   have yS:Sl U7 (.slice U6.next 0 0 1 2 2 (some 1)) 2 (encT t):=
    ⟨by simp[isSl,eu],by rw[henc];simp[jR,dJ,x7,bt],by simp[sLen,encT_len],by simp[aB,n7]⟩
   obtain⟨w',U8,e8,g8,o8,n8,l8,_,b8,_⟩:=eB (cx:=C1) (S:=U7) (t:=48) (u:=48) (ts:=[]) (p:=(52,2,16)) (v:=w) (x:=.slice U6.next 0 0 1 2 2 (some 1)) st48 un48 rfl (q2'.agree (fun id e=>s7.h id (by omega)) s7.next) yS (by rw[hwl];simp[fits,cH,sLen];omega);have he:(r.st.take j).flatMap encT++encT t=(r.st.take (j+1)).flatMap encT:=by rw[List.take_succ_eq_append_getElem hj',List.flatMap_append,List.flatMap_cons,List.flatMap_nil,List.append_nil,<-ht]
   rw[he]at g8;have iY:∀(F:Fr)(D:Nat)(y:Tmp),sl F y=.agg [.int .i64 kt,.int .u64 t.2]->aA C1 F D (.buildSlice 48 1 #[(0,.tmp y)])=some (.slice D 0 0 1 2 2 (some 1),.row [.int .i64 kt,.int .u64 t.2] 0 0 false 52):=fun F D y a0=>by
    have:=ck (cx:=C1) (F:=F) (t:=48) (p:=(52,2,16)) (id:=D) (n:=1) (a:=#[(0,.tmp y)]) [[.int .i64 kt,.int .u64 t.2]] st48 rfl (by simp[a0,cellsOf]) (by simp) (by decide);rw[this];simp
   have hb52:cU C1 52 [(0,.int .i64 kt),(1,.int .u64 t.2)]=some (.agg [.int .i64 kt,.int .u64 t.2]):=by kernel_rfl
   have p8:rX U1 bp bo bx p B [.int .i64 k,.int .i64 ki,.int .i64 0,.int .u64 0,.bool false,v,w] ((r.st.drop (j+1)).flatMap eI) U8:=by
    have hk6:=p6.kp.next
    exact p6.below (fun id h=>(o8 id (by omega) (by omega)).trans (s7.h id (by omega))) (by omega)
   have gx5:=p5.gx;have gx6:=p6.gx;have gx7:=(s7.h _ (by have:=p6.lx;have:=p6.kp.next;omega)).trans gx6;have gx8:=p8.gx;obtain⟨U9,hU9⟩:∃U9:AS,U9=⟨U8.h.set bx (.row [.int .i64 k,.int .i64 ki,.int .i64 0,.int .u64 0,.bool false,v,w'] 0 0 false 115),U8.next⟩:=⟨_,rfl⟩
   have p9:rX U1 bp bo bx p B [.int .i64 k,.int .i64 ki,.int .i64 0,.int .u64 0,.bool false,v,w'] ((r.st.drop (j+1)).flatMap eI) U9:=by rw[hU9];exact p8.put
   have o9:∀id,id≠bx->U9.h.get id=U8.h.get id:=fun id e=>by rw[hU9];exact ae _ _ e
   have n9:U9.next=U8.next:=by rw[hU9]
   have bU9:=hU9.symm;clear hU9;have v9:PredAt U9 v ks:=by
    refine PredAt.agree q4 (fun id e=>?_) (by omega);have h1:=vlt id e;have h2:=v3 id e;rw[o9 _ (by omega),o8 _ (by omega) (by omega),s7.h _ (by omega),k56.h id (by omega) (by omega)]
   have k1:=aj q2.1;have k2':=aj g8.1;have xj:IntKind.u64.wrap ((L:Int)-1)=((L-1:Nat):Int):=by
    have:=eC (n:=L-1) (by omega);rw[show (L:Int)-1=((L-1:Nat):Int) by omega];exact this
   simp[t0,t2,t4,t5,t6,t8,t9,hLI,hLN,goS,aR,e5,hwt];refine cO [.p,.r 0 2,.p,.p,.e [],.p,.e [],.e [],.p,.e []] (n:=109) (by kernel_rfl) (by simp[pB]) ?_;simp[t0,t2,t4,t5,t6,t8,t9,aR,gx5,gx6,gx7,gx8,e6,hb52,iY,bU7,e8,k1,k2',g8.1.np,g8.1.cells,bU9,xj];have hL1:L-1=r.st.length-(j+1):=by omega
   exact⟨r.st.length-(j+1),by omega,staL_mk (j+1) w' p9 (g8.agree (fun id e=>o9 id (by omega)) (by omega)) (by omega) v9 (by omega) (by simp[t0]) (by simp[t2]) (by simp[t4]) (by simp[t5]) (by simp[t6]) (by simp[t8]) (by simp[hL1]) (by simp[pB]) hj' rfl⟩
  .rw[if_neg (by omega),if_neg (by omega),if_pos c1]at tO;have f1:=eq_false (show ¬(k:Int)=1 by omega);have f1N:=eq_false (show ¬k=1 by omega);have f2:=eq_false (show ¬(k:Int)=2 by omega);have f2N:=eq_false (show ¬k=2 by omega);have f3:=eq_true (show (k:Int)=3 by omega);have f3N:=eq_true (show k=3 by omega);obtain⟨U2,e2,p2,k2⟩:=rX.num (n:=ki) (bs:=[]) (by rw[List.append_nil];exact tO) (by omega);have gx2:=p2.gx;simp[t0,gx1,f1,f1N,f2,f2N,f3,f3N,aR,e2,kh,gx2];exact qc ⟨k,ki,0,0,false,.aq,[],.aq,[]⟩ p2.put (vM (by omega) yP hki' c2.symm c3.symm c4.symm c5 c6) (by simp[t0]) (by simp) (by simp) (by simp) (by simp) (by simp[pB])
  .rw[if_neg (by omega),if_neg (by omega),if_neg (by omega),if_pos c1,List.append_assoc]at tO;have f1:=eq_false (show ¬(k:Int)=1 by omega);have f1N:=eq_false (show ¬k=1 by omega);have f2:=eq_false (show ¬(k:Int)=2 by omega);have f2N:=eq_false (show ¬k=2 by omega);have f3:=eq_false (show ¬(k:Int)=3 by omega);have f3N:=eq_false (show ¬k=3 by omega);have f4:=eq_true (show (k:Int)=4 by omega);have f4N:=eq_true (show k=4 by omega);obtain⟨U2,e2,p2,k2⟩:=tO.num (by omega);obtain⟨U3,e3,p3,k3⟩:=p2.num hr.n;have gx3:=p3.gx;obtain⟨V,hV⟩:∃V:AS,V=⟨(U3.h.set bx (.row [.int .i64 k,.int .i64 ki,.int .i64 0,.int .u64 0,.bool false,.aq,.aq] 0 0 false 115)).set bx (.row [.int .i64 k,.int .i64 ki,.int .i64 0,.int .u64 r.n,.bool false,.aq,.aq] 0 0 false 115),U3.next⟩:=⟨_,rfl⟩
   have pV:rX U1 bp bo bx p B [.int .i64 k,.int .i64 ki,.int .i64 0,.int .u64 r.n,.bool false,.aq,.aq] (if r.there then aV 1++gI (gQ r.cs) else aV 0) V:=by rw[hV];exact p3.put.put
   have bV:=hV.symm;clear hV;cases ht:r.there with
   |false=>
    rw[ht,if_neg (by decide)]at pV;obtain⟨U4,e4,p4,k4⟩:=rX.num (n:=0) (bs:=[]) (by rw[List.append_nil];exact pV) (by omega);have e4:∀Q:AV->AS->Prop,ai C1 98 [.ptr bp 0 0 1,.ptr bo 0 0 1] V Q=Q (.int .u64 0) U4:=e4;have gx4:=p4.gx;simp[t0,gx1,f1,f1N,f2,f2N,f3,f3N,f4,f4N,aR,e2,e3,kh,gx3,bV,e4,gx4];exact qc ⟨k,ki,0,r.n,false,.aq,[],.aq,[]⟩ p4.put (vM (by omega) yP hki' c2.symm rfl ht.symm (c4 ht) c3) (by simp[t0]) (by simp) (by simp) (by simp) (by simp) (by simp[pB])
   |true=>
    rw[ht,if_pos rfl,uj hr.may]at pV;obtain⟨U4,e4,p4,k4⟩:=rX.num (n:=1) pV (by omega);have e4:∀Q:AV->AS->Prop,ai C1 98 [.ptr bp 0 0 1,.ptr bo 0 0 1] V Q=Q (.int .u64 1) U4:=e4;have gx4:=p4.gx;obtain⟨W,hW⟩:∃W:AS,W=⟨U4.h.set bx (.row [.int .i64 k,.int .i64 ki,.int .i64 0,.int .u64 r.n,.bool true,.aq,.aq] 0 0 false 115),U4.next⟩:=⟨_,rfl⟩
    have pW:rX U1 bp bo bx p B [.int .i64 k,.int .i64 ki,.int .i64 0,.int .u64 r.n,.bool true,.aq,.aq] (gI (dW r.cs)) W:=by rw[hW];exact p4.put
    have bW:=hW.symm;have gW:=pW.gx;clear hW;obtain⟨v,ks,U5,e5,v1,v2,v3,p5,k5⟩:=rX.form (bs:=[]) (by rw[List.append_nil];exact pW) hr.may hr.num (by have:=rB hr.may hr.num;omega) (by simp);have gx5:=p5.gx;have kv:=aj v1.sl;have hWn:=pW.kp.next
    simp[t0,gx1,f1,f1N,f2,f2N,f3,f3N,f4,f4N,aR,e2,e3,kh,gx3,bV,e4,gx4,bW,gW,e5,kv,v1.sl.np,v1.sl.cells,gx5];have hpar:=p5.put (c':=(⟨k,ki,0,r.n,true,v,ks,.aq,[]⟩:Rec).c);refine qc ⟨k,ki,0,r.n,true,v,ks,.aq,[]⟩ hpar ⟨⟨yP,hki',c2.symm,rfl,ht.symm,v2,c3.symm⟩,⟨?_,Sl.nil,lu v2 hr.num,by show r.n<_;omega,(fun t ht=>(List.not_mem_nil ht).elim),Nat.zero_le _⟩,fun id e=>?_⟩ (by simp[t0]) (by simp) (by simp) (by simp) (by simp) (by simp[pB])
    .exact PredAt.agree v1 (fun id e=>ae _ _ (by have:=v3 id e;have:=pW.lx;omega)) (Nat.le_refl _)
    .rcases e with e|e
     .have:=v3 id e;omega
     .exact absurd e (by show ¬(0=_+1);omega)
  .rw[if_neg (by omega),if_neg (by omega),if_neg (by omega),if_neg (by omega),if_pos c1,List.append_assoc]at tO;have f1:=eq_false (show ¬(k:Int)=1 by omega);have f1N:=eq_false (show ¬k=1 by omega);have f2:=eq_false (show ¬(k:Int)=2 by omega);have f2N:=eq_false (show ¬k=2 by omega);have f3:=eq_false (show ¬(k:Int)=3 by omega);have f3N:=eq_false (show ¬k=3 by omega);have f4:=eq_false (show ¬(k:Int)=4 by omega);have f4N:=eq_false (show ¬k=4 by omega);have f5:=eq_true (show (k:Int)=5 by omega);have f5N:=eq_true (show k=5 by omega);obtain⟨U2,e2,p2,k2⟩:=tO.num (by omega);obtain⟨U3,e3,p3,k3⟩:=p2.num (by omega);obtain⟨U4,e4,p4,k4⟩:=rX.num (n:=r.n) (bs:=[]) (by rw[List.append_nil];exact p3) hr.n;have gx4:=p4.gx;simp[t0,gx1,f1,f1N,f2,f2N,f3,f3N,f4,f4N,f5,f5N,aR,e2,e3,e4,kh,hwp,gx4];exact qc ⟨k,ki,kp,r.n,false,.aq,[],.aq,[]⟩ p4.put.put.put (vM (by omega) yP hki' hkp' rfl c2.symm c3 c4) (by simp[t0]) (by simp) (by simp) (by simp) (by simp) (by simp[pB])
 .rintro F' S' ⟨r',h1,h2,t0,t2,t4,t5,t8,hn⟩;clear pB tO;have hkn:=h1.kp.next
  have e103:∀Q:AV->AS->Prop,ai C1 103 [.ptr p 0 0 2] S' Q=Q (.int .i64 0) S':=left103 h1.rd;obtain⟨w,W,⟨w1,w2,w3⟩,E6⟩:=(xT h2.at_ (by rw[h2.eq.st];exact hr.st8)).ex;rw[recB_of h2.eq]at w3;have gx':=h1.gx;have go':=h1.go;have gp':=h1.gp;have hSS:∀id,id<S.next->S'.h.get id=S.h.get id:=fun id hi=>(h1.kp.h id (by omega) (by omega)).trans (hSU id hi)
  have b2S:=(h1.kp.h b2 (by omega) (by omega)).trans gb2;have b2W:=(w1.h _ (by omega)).trans b2S;have hbS:Sl S' b 1 (az (dS r)):=hb.agree (T:=S') (fun id e=>hSS id (by omega)) (by omega);have hbW:Sl W b 1 (az (dS r)):=hbS.toSub w1;have hby:=tf hr.num;have tx:=fun (F:Fr) (dst:Option Tmp) (ty:TypeId) (pos:String) (af:Array Edge) (gd:Option (Nat×Bool)) (y:Tmp) (e:sl F y=w)=>jZ (cx:=C1) (F:=F) (S:=W) (dst:=dst) (ty:=ty) (pos:=pos) (af:=af) (gd:=gd) (a:=32) (b:=9) w3.1 hby ((aJ F y).trans e) FJ sT9;have tx2:=fun (F:Fr) (dst:Option Tmp) (ty:TypeId) (pos:String) (af:Array Edge) (gd:Option (Nat×Bool)) (y:Tmp) (e:sl F y=b)=>jZ (cx:=C1) (F:=F) (S:=W) (dst:=dst) (ty:=ty) (pos:=pos) (af:=af) (gd:=gd) (a:=32) (b:=9) hbW hby ((aJ F y).trans e) FJ sT9;have hq:zd .eql (dS r) (dS r)=some (.bool true):=by
   show some (AV.bool (re _ _))=_;rw[kj,decide_eq_true rfl]
  have gxW:=(w1.h _ (by have:=h1.lx;omega)).trans gx';have goW:=(w1.h _ (by have:=h1.lo;omega)).trans go';have gpW:=(w1.h _ (by have:=h1.lp;omega)).trans gp';obtain⟨Z,hZ⟩:∃Z:AS,Z=⟨W.h.set b2 (.row r'.c 0 0 false 115),W.next⟩:=⟨_,rfl⟩
  have bZ:=hZ.symm;have oZ:∀id,id≠b2->Z.h.get id=W.h.get id:=fun id e=>by rw[hZ];exact ae _ _ e
  have nZ:Z.next=W.next:=by rw[hZ]
  have gZ:Z.h.get b2=some (.row r'.c 0 0 false 115):=by rw[hZ];exact aa _ _ _
  clear hZ;have w1n:=w1.next
  have fin:Got S.next r r' Z/\Sub S Z:=by
   refine⟨⟨h2.eq,(h2.agree (T:=Z) (fun id vL rH=>?_) (by omega)).at_,fun id e=>by have:=h2.bB id e;omega⟩,⟨fun id hi=>?_,by omega⟩⟩
   .rw[oZ _ (by omega),w1.h _ rH]
   .rw[oZ _ (by omega),w1.h _ (by omega),hSS id hi]
  have hwo:b2+1≠aB w:=by unfold iS at w2;omega
  have wZ:Sl Z w 1 (az (dS r)):=w3.1.agree (fun id e=>oZ id (by omega)) (by omega);have bZ':Sl Z b 1 (az (dS r)):=hbW.agree (fun id e=>oZ id (by omega)) (by omega);have tx3:=fun (F:Fr) (dst:Option Tmp) (ty:TypeId) (pos:String) (af:Array Edge) (gd:Option (Nat×Bool)) (y:Tmp) (e:sl F y=w)=>jZ (cx:=C1) (F:=F) (S:=Z) (dst:=dst) (ty:=ty) (pos:=pos) (af:=af) (gd:=gd) (a:=32) (b:=9) wZ hby ((aJ F y).trans e) FJ sT9;have tx4:=fun (F:Fr) (dst:Option Tmp) (ty:TypeId) (pos:String) (af:Array Edge) (gd:Option (Nat×Bool)) (y:Tmp) (e:sl F y=b)=>jZ (cx:=C1) (F:=F) (S:=Z) (dst:=dst) (ty:=ty) (pos:=pos) (af:=af) (gd:=gd) (a:=32) (b:=9) bZ' hby ((aJ F y).trans e) FJ sT9;have tx5:=fun (F:Fr) (dst:Option Tmp) (ty:TypeId) (pos:String) (af:Array Edge) (gd:Option (Nat×Bool)) (y:Tmp) (e:sl F y=b)=>jZ (cx:=C1) (F:=F) (S:=S') (dst:=dst) (ty:=ty) (pos:=pos) (af:=af) (gd:=gd) (a:=32) (b:=9) hbS hby ((aJ F y).trans e) FJ sT9;have kb1:=h2.at_.pred.sl.base;have kb2:=h2.at_.sl.base;unfold jr at kb1 kb2;have k1:=aj h2.at_.pred.sl;have k2:=aj h2.at_.sl;have k3:=h2.at_.pred.sl.cells;have k4:=h2.at_.sl.cells;have k5:=aj w3.1;simp only[Rec.c]at gx' gxW E6 bZ gZ;unfold zeroR at b2W b2S;simp[qp,t0,t2,t4,t5,t8];refine cO [.r 0 2,.r 0 0,.p,.r 0 0,.e [],.p,.p,.p,.r 0 0,.e [],.r 0 1,.p,.r 1 1,.p,.p,.e [],.p] (n:=109) (by kernel_rfl) (by simp[hn]) ?_;simp[t0,t2,t4,t5,t8,gx',go',gp',aR,e103,E6,k1,k2,k3,k4,k5,kb,w3.1.np,tx,tx2,hq,Cq,gxW,goW,gpW,b2W,bZ,gZ,kb1,kb2,tx3,tx4,tx5];rw[<-hb2]at fin;exact⟨r',rfl,fin⟩
end
end Go.Proofs.YtdknlbnljfdhgaaGreatDoor.bk
