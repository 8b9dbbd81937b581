/-
  The reference's May and Text.
-/
import Derived.Test.YthklfandhmkpiaaGreatDoorPartC
open Nat renaming lt_trans->zza,mod_lt->zzc,div_div_eq_div_mul->zze,lt_of_lt_of_le->zzg,lt_of_le_of_lt->zzh,div_le_self->zzj
open List renaming getElem?_set_ne->zzb,getElem?_set_self->zzd,set_eq_take_append_cons_drop->zzf,length_set->zzi
set_option linter.unusedVariables false
set_option linter.unusedSimpArgs false
set_option maxRecDepth 20000
namespace Go.Proofs.YthklfandhmkpiaaGreatDoor.val
open Go Go.Am Go.Proofs.YthklfandhmkpiaaGreatDoor.sh
section
variable{S:AS}
end
def Cd(r:AV)(o:Option (List Nat)):Prop:=match o with|some t=>r=.tuple [.str t,.int .i64 0]|none=>r=.tuple [.str [],.int .i64 1]
theorem po(a b:List Nat)(h:a.length+b.length<=4611686018427387904):wh .add a b=some (.str (a++b)):=by
 show cond (Nat.ble (Nat.add (dN a) (dN b)) 4611686018427387904) (some (AV.str (gR a b))) none=_;rw[cG,bL,bL];have e:Nat.add a.length b.length=a.length+b.length:=rfl;rw[e];simp[h,cA]
theorem wx{S':AS}{v:AV}{out:List Nat}(l:List Nat)(m:Nat)(hm:l.length=m+1)(hg:Gw S' v 1 5 (bH out))(hl:out.length+(m+1)<=140737488355328):
  ∃v' T,aY C0 ⟨S'.h.set S'.nx (.row (bH l) 0 0 false 5),S'.nx+1⟩ .append [48,48] [v,.slice S'.nx 0 0 (m+1) (m+1) 1 (some (m+1))]=.val v' T/\Gw T v' 1 5 (bH (out++l))/\(∀id,id<S'.nx->aV v≠id+1->T.h.get id=S'.h.get id)/\S'.nx<=T.nx/\(aV v'=aV v\/S'.nx<aV v'):=by
 have hold:=hg.1.old;have hx:Sl (⟨S'.h.set S'.nx (.row (bH l) 0 0 false 5),S'.nx+1⟩:AS) (.slice S'.nx 0 0 (m+1) (m+1) 1 (some (m+1))) 1 (bH l):=by
  refine⟨by simp[isSl,eS],?_,by rw[bM,hm];simp[sLen],by simp[aV]⟩;have:=bM l;simp[lY,dP,cr];rw[List.take_of_length_le (by rw[this,hm];exact Nat.le_refl _)]
 have hgT:Gw (⟨S'.h.set S'.nx (.row (bH l) 0 0 false 5),S'.nx+1⟩:AS) v 1 5 (bH out):=hg.cE (fun id e=>ah _ _ (by omega)) (Nat.le_succ _);have hlen:sLen v=out.length:=by rw[hg.1.gx,bM]
 obtain⟨v',V,e2,r1,r2,r3,r4,r5,r6,r7⟩:=dr (cx:=C0) (ts:=[]) (t:=48) (u:=48) (p:=(5,1,1)) Cm ud56 rfl hgT hx (by rw[hlen];simp[fits,cG,iI];omega);simp only at r1;rw[mA]at r1;refine⟨v',V,e2,r1,fun id h1 h2=>?_,by have:S'.nx+1<=V.nx:=r3;omega,?_⟩
 .rw[r2 id (by show id<S'.nx+1;omega) (fun e=>h2 e.symm)];exact ah _ _ (by omega)
 .rcases r6 with r6|r6
  .exact .inl r6
  .right;have:S'.nx+1<aV v':=r6;omega
section
variable{S:AS}
end
def numH(S:AS)(l:List Nat)(neg:Bool)(k:Nat)(F':Fr)(S':AS):Prop:=
 S'=S/\∃i:Nat,(∀c,c∈l.take i->48<=c/\c<=57)/\sl F' 0=.str l/\sl F' 4=.bool neg/\sl F' 5=.int .u64 (rL (l.take i) 0:Nat)/\sl F' 6=.int .i64 i/\i<=l.length/\k=l.length-i
section
variable{S:AS}
end
structure ny(c0:List Nat)(off js u nd v:Nat)(c:List Nat):Prop where
 len:c.length=c0.length
 room:off+js<=c0.length
 le:nd<=js
 rest:v=u / 10 ^ (js-nd)
 small:v<10 ^ nd
 done:∀t,nd<=t->t<js->c[off+t]?=some (48+u / 10 ^ (js-1-t)%10)
 ahead:∀t,t<off->c[t]?=c0[t]?
theorem ny.start(c0:List Nat){off js u:Nat}(h:off+js<=c0.length)(hu:u<10 ^ js):ny c0 off js u js u c0:=
 ⟨rfl,h,Nat.le_refl _,by simp,hu,fun t h1 h2=>by omega,fun _ _=>rfl⟩
theorem ny.step2{c0 c:List Nat}{off js u nd v:Nat}(h:ny c0 off js u nd v c)(h2:2<=nd):
  ny c0 off js u (nd-2) (v / 100) ((c.set (off+(nd-1)) (48+v%100%10)).set (off+(nd-2)) (48+v%100 / 10)):=by
 have hle:=h.le;have hr:=h.room;have hlen:=h.len;refine⟨by simp[h.len],h.room,by omega,?_,?_,fun t h1 h3=>?_,fun t ht=>?_⟩
 .rw[h.rest,zze,show js-(nd-2)=js-nd+2 by omega,Nat.pow_add]
 .have hs:=h.small;rw[show nd=nd-2+2 by omega,Nat.pow_add]at hs;exact Nat.div_lt_of_lt_mul (by rw[Nat.mul_comm];exact hs)
 .by_cases e2:t=nd-2
  .rw[e2,zzd (by rw[zzi];omega)];rw[show js-1-(nd-2)=js-nd+1 by omega,Nat.pow_succ,<-zze,<-h.rest];congr 2;omega
  .rw[zzb (by omega)];by_cases e1:t=nd-1
   .rw[e1,zzd (by omega)];rw[show js-1-(nd-1)=js-nd by omega,<-h.rest];congr 2;omega
   .rw[zzb (by omega)];exact h.done t (by omega) h3
 .rw[zzb (by omega),zzb (by omega)];exact h.ahead t ht
theorem ny.step1{c0 c:List Nat}{off js u v:Nat}(h:ny c0 off js u 1 v c):ny c0 off js u 0 0 (c.set off (48+v)):=by
 have hle:=h.le;have hr:=h.room;have hlen:=h.len;have hv:v<10:=by simpa using h.small
 refine⟨by simp[h.len],h.room,Nat.zero_le _,?_,by simp,fun t _ h3=>?_,fun t ht=>?_⟩
 .have e:u / 10 ^ (js-0)=v / 10:=by rw[h.rest,zze,show js-0=js-1+1 by omega,Nat.pow_succ]
  rw[e];omega
 .by_cases e0:t=0
  .rw[e0,Nat.add_zero,zzd (by omega)];rw[show js-1-0=js-1 by omega,<-h.rest,Nat.mod_eq_of_lt hv]
  .rw[zzb (by omega)];exact h.done t (by omega) h3
 .rw[zzb (by omega)];exact h.ahead t ht
theorem ny.numeral{c0 c:List Nat}{off u v:Nat}(h:ny c0 off (Lib.nDigits u) u 0 v c):(c.drop off).take (Lib.nDigits u)=bP u:=by
 have hr:=h.room;have hlen:=h.len;apply List.ext_getElem?;intro t;unfold bP;rw[Lib.decDigits_eq,List.map_map];by_cases ht:t<Lib.nDigits u
 .rw[List.getElem?_take,if_pos ht,List.getElem?_drop,h.done t (Nat.zero_le _) ht,List.getElem?_map,List.getElem?_range ht];simp only[Option.map_some,Function.comp,Lib.dg,UInt8.toNat_ofNat'];congr 1;have:u / 10 ^ (Lib.nDigits u-1-t)%10<10:=zzc _ (by decide);omega
 .rw[List.getElem?_take,if_neg ht,List.getElem?_eq_none (by simp;omega)]
def mL:List Nat:=[48,48,48,49,48,50,48,51,48,52,48,53,48,54,48,55,48,56,48,57,49,48,49,49,49,50,49,51,49,52,49,53,49,54,49,55,49,56,49,57,50,48,50,49,50,50,50,51,50,52,50,53,50,54,50,55,50,56,50,57,51,48,51,49,51,50,51,51,51,52,51,53,51,54,51,55,51,56,51,57,52,48,52,49,52,50,52,51,52,52,52,53,52,54,52,55,52,56,52,57,53,48,53,49,53,50,53,51,53,52,53,53,53,54,53,55,53,56,53,57,54,48,54,49,54,50,54,51,54,52,54,53,54,54,54,55,54,56,54,57,55,48,55,49,55,50,55,51,55,52,55,53,55,54,55,55,55,56,55,57,56,48,56,49,56,50,56,51,56,52,56,53,56,54,56,55,56,56,56,57,57,48,57,49,57,50,57,51,57,52,57,53,57,54,57,55,57,56,57,57]
theorem smalls_at:∀i:Fin 100,mL[i.val*2+1]?=some (48+i.val%10)/\mL[i.val*2]?=some (48+i.val / 10):=by decide +kernel
theorem fm{y:Nat}(h:y<4294967296):IntKind.u32.wrap (y:Int)=(y:Int):=by simp[IntKind.wrap,IntKind.bits,IntKind.signed];omega
def rH(S0 S:AS)(B:Nat)(c:List Nat):Prop:=S.h.get B=some (.row (bH c) 0 0 false 281)/\(∀id,id≠B->S.h.get id=S0.h.get id)/\S.nx=S0.nx/\c.length=24
theorem rH.put{S0 S:AS}{B:Nat}{c:List Nat}(g:rH S0 S B c){j b:Nat}(hj:j<24):
  ∃T,(∀(F:Fr)(dst:Option Tmp)(ty:TypeId)(pos:String)(af:Array Edge)(gd:Option (Nat×Bool))(x y:Tmp),sl F x=.ptr B 0 j 24->sl F y=.int .u8 (b:Int)->bE C0 F S ⟨dst,.store 5 (.tmp x) (.tmp y),ty,pos,af,gd⟩=.val .undef T)/\rH S0 T B (c.set j b):=by
 obtain⟨g1,g2,g3,g4⟩:=g;refine⟨⟨S.h.set B (.row (bH (c.set j b)) 0 0 false 281),S.nx⟩,fun F dst ty pos af gd x y hx hy=>?_,get_set_same _ _ _,fun id h=>(ah _ _ h).trans (g2 id h),g3,by rw[zzi];exact g4⟩;refine nw (v:=.ptr B 0 j 24) (n:=1) (cs:=[.int .u8 (b:Int)]) hx (by rw[aA,hy];rfl) (by kernel_rfl) rfl ?_;rw[zS,wr_at,g1,zT,if_pos ⟨rfl,by simp;omega,rfl⟩];rw[pZ (by rw[bM];omega)];congr 4;rw[zzf,if_pos (by omega)];simp[bH]
theorem two{S0 S:AS}{ofs:Nat}{cp:Option Nat}{B js u nd v x:Nat}{c0 c:List Nat}{m1 m2:Int}(g:rH S0 S B c)(hF:ny c0 ofs js u nd v c)(h2:2<=nd)(hx:x=v%100)(hm1:m1=nd-1)(hm2:m2=nd-2):
  ∃(T1 T2:AS)(c':List Nat)(d1 d2 q1 q2:Nat),
   (∀(F:Fr)(S:AS)(dst:Option Tmp)(ty:TypeId)(pos:String)(af:Array Edge)(gd:Option (Nat×Bool))(o:Operand)(y:Tmp),eval F o=.str mL->sl F y=.int .u32 ((x:Int)*2+1)->bE C0 F S ⟨dst,.index 9 o (.tmp y),ty,pos,af,gd⟩=.val (.int .u8 (d1:Int)) S) /\
   (∀(F:Fr)(S:AS)(dst:Option Tmp)(ty:TypeId)(pos:String)(af:Array Edge)(gd:Option (Nat×Bool))(o:Operand)(y:Tmp),eval F o=.str mL->sl F y=.int .u32 ((x:Int)*2)->bE C0 F S ⟨dst,.index 9 o (.tmp y),ty,pos,af,gd⟩=.val (.int .u8 (d2:Int)) S) /\
   (∀(F:Fr)(S:AS)(dst:Option Tmp)(ty:TypeId)(pos:String)(af:Array Edge)(gd:Option (Nat×Bool))(a b:Tmp),sl F a=.slice B 0 ofs js 24 1 cp->sl F b=.int .i64 m1->bE C0 F S ⟨dst,.indexAddr 48 (.tmp a) (.tmp b),ty,pos,af,gd⟩=.val (.ptr B 0 q1 24) S) /\
   (∀(F:Fr)(S:AS)(dst:Option Tmp)(ty:TypeId)(pos:String)(af:Array Edge)(gd:Option (Nat×Bool))(a b:Tmp),sl F a=.slice B 0 ofs js 24 1 cp->sl F b=.int .i64 m2->bE C0 F S ⟨dst,.indexAddr 48 (.tmp a) (.tmp b),ty,pos,af,gd⟩=.val (.ptr B 0 q2 24) S) /\
   (∀(F:Fr)(dst:Option Tmp)(ty:TypeId)(pos:String)(af:Array Edge)(gd:Option (Nat×Bool))(x y:Tmp),sl F x=.ptr B 0 q1 24->sl F y=.int .u8 (d1:Int)->bE C0 F S ⟨dst,.store 5 (.tmp x) (.tmp y),ty,pos,af,gd⟩=.val .undef T1) /\
   (∀(F:Fr)(dst:Option Tmp)(ty:TypeId)(pos:String)(af:Array Edge)(gd:Option (Nat×Bool))(x y:Tmp),sl F x=.ptr B 0 q2 24->sl F y=.int .u8 (d2:Int)->bE C0 F T1 ⟨dst,.store 5 (.tmp x) (.tmp y),ty,pos,af,gd⟩=.val .undef T2) /\
   rH S0 T2 B c'/\ny c0 ofs js u (nd-2) (v / 100) c':=by
 have hle:=hF.le;have vD:=hF.room;have hlen:=hF.len;have hc24:=g.2.2.2;obtain⟨t1,t2⟩:=smalls_at ⟨x,by omega⟩;obtain⟨T1,e1,g1⟩:=g.put (j:=ofs+(nd-1)) (b:=48+v%100%10) (by omega);obtain⟨T2,e2,g2⟩:=g1.put (j:=ofs+(nd-2)) (b:=48+v%100 / 10) (by omega);refine⟨T1,T2,_,48+v%100%10,48+v%100 / 10,ofs+(nd-1),ofs+(nd-2),?_,?_,?_,?_,e1,e2,g2,hF.step2 h2⟩
 .intro F S dst ty pos af gd o y h1 h2;exact ep (t:=9) (i:=x*2+1) h1 rfl ((aA F y).trans (h2.trans (by rw[show ((x:Int)*2+1)=((x*2+1:Nat):Int) by omega]))) c7 tY (by rw[<-hx];exact t1)
 .intro F S dst ty pos af gd o y h1 h2;exact ep (t:=9) (i:=x*2) h1 rfl ((aA F y).trans (h2.trans (by rw[show ((x:Int)*2)=((x*2:Nat):Int) by omega]))) c7 tY (by rw[<-hx];exact t2)
 .intro F S dst ty pos af gd a b h1 h2;exact (gD (i:=nd-1) ((aA F a).trans h1) un56 (by kernel_rfl) ((aA F b).trans h2) (by omega) (by omega)).trans (by rw[Nat.mul_one])
 .intro F S dst ty pos af gd a b h1 h2;exact (gD (i:=nd-2) ((aA F a).trans h1) un56 (by kernel_rfl) ((aA F b).trans h2) (by omega) (by omega)).trans (by rw[Nat.mul_one])
theorem eight{v:Nat}(hv:v<18446744073709551616):∃d v' q r x8 x9 x10 x11:Nat,
  ((v:Int).tmod 100000000=(d:Int)/\(v:Int).tdiv 100000000=(v':Int)/\(d:Int).tdiv 10000=(q:Int)/\(d:Int).tmod 10000=(r:Int)/\(r:Int).tdiv 100=(x8:Int)/\(r:Int).tmod 100=(x9:Int)/\(q:Int).tdiv 100=(x10:Int)/\(q:Int).tmod 100=(x11:Int)) /\
  (IntKind.u64.wrap (d:Int)=d/\IntKind.u64.wrap (v':Int)=v'/\IntKind.u32.wrap (d:Int)=d/\IntKind.u32.wrap (q:Int)=q/\IntKind.u32.wrap (r:Int)=r/\IntKind.u32.wrap (x8:Int)=x8/\IntKind.u32.wrap (x9:Int)=x9/\IntKind.u32.wrap (x10:Int)=x10/\IntKind.u32.wrap (x11:Int)=x11) /\
  (x9=v%100/\x8=v / 100%100/\x11=v / 100 / 100%100/\x10=v / 100 / 100 / 100%100/\v'=v / 100 / 100 / 100 / 100)/\(x8<100/\x9<100/\x10<100/\x11<100/\v'<18446744073709551616):=by
 have k1:v%100000000<100000000:=zzc _ (by decide);have k2:v / 100000000<18446744073709551616:=zzh (zzj _ _) hv;have k3:v%100000000 / 10000<10000:=by omega
 have k4:v%100000000%10000<10000:=zzc _ (by decide);have k5:v%100000000%10000 / 100<100:=by omega
 have k6:v%100000000%10000%100<100:=zzc _ (by decide);have k7:v%100000000 / 10000 / 100<100:=by omega
 have k8:v%100000000 / 10000%100<100:=zzc _ (by decide);refine⟨v%100000000,v / 100000000,v%100000000 / 10000,v%100000000%10000,v%100000000%10000 / 100,v%100000000%10000%100,v%100000000 / 10000 / 100,v%100000000 / 10000%100,⟨(Int.ofNat_tmod _ _).symm,(Int.ofNat_tdiv _ _).symm,(Int.ofNat_tdiv _ _).symm,(Int.ofNat_tmod _ _).symm,(Int.ofNat_tdiv _ _).symm,(Int.ofNat_tmod _ _).symm,(Int.ofNat_tdiv _ _).symm,(Int.ofNat_tmod _ _).symm⟩,
  ⟨Fe (zza k1 (by decide)),Fe k2,fm (zza k1 (by decide)),fm (zza k3 (by decide)),fm (zza k4 (by decide)),fm (zza k5 (by decide)),fm (zza k6 (by decide)),fm (zza k7 (by decide)),fm (zza k8 (by decide))⟩,⟨?_,?_,?_,?_,?_⟩,k5,k6,k7,k8,k2⟩
 .omega
 .omega
 .omega
 .omega
 .omega
theorem z9{x:Nat}(h:x<100):IntKind.u32.wrap ((x:Int)*2)=(x:Int)*2:=by
 have:=fm (y:=x*2) (by omega);simpa using this
theorem uA{x:Nat}(h:x<100):IntKind.u32.wrap ((x:Int)*2+1)=(x:Int)*2+1:=by
 have:=fm (y:=x*2+1) (by omega);simpa using this
theorem fourD{v:Nat}(hv:v<4294967296):∃r v' x14 x15:Nat,
  ((v:Int).tmod 10000=(r:Int)/\(v:Int).tdiv 10000=(v':Int)/\(r:Int).tdiv 100=(x14:Int)/\(r:Int).tmod 100=(x15:Int)) /\
  (IntKind.u32.wrap (r:Int)=r/\IntKind.u32.wrap (v':Int)=v'/\IntKind.u32.wrap (x14:Int)=x14/\IntKind.u32.wrap (x15:Int)=x15) /\
  (x15=v%100/\x14=v / 100%100/\v'=v / 100 / 100)/\x14<100/\x15<100:=by
 have k2:v / 10000<4294967296:=zzh (zzj _ _) hv;have k4:v%10000<10000:=zzc _ (by decide);have k5:v%10000 / 100<100:=by omega
 have k6:v%10000%100<100:=zzc _ (by decide);refine⟨v%10000,v / 10000,v%10000 / 100,v%10000%100,⟨(Int.ofNat_tmod _ _).symm,(Int.ofNat_tdiv _ _).symm,(Int.ofNat_tdiv _ _).symm,(Int.ofNat_tmod _ _).symm⟩,⟨fm (zza k4 (by decide)),fm k2,fm (zza k5 (by decide)),fm (zza k6 (by decide))⟩,⟨?_,?_,?_⟩,k5,k6⟩
 .omega
 .omega
 .omega
theorem nt50:Tryz.f208.ntmps=167:=by kernel_rfl
def fmtH(ofs:Nat)(cp:Option Nat)(S0:AS)(B js u:Nat)(c0:List Nat)(k:Nat)(F':Fr)(S':AS):Prop:=
 ∃(v:Nat)(c:List Nat),rH S0 S' B c/\ny c0 ofs js u k v c/\v<18446744073709551616/\sl F' 0=.slice B 0 ofs js 24 1 cp/\sl F' 1=.int .u64 v/\sl F' 4=.int .i64 k/\F'.n=167
def fmtM(ofs:Nat)(cp:Option Nat)(S0:AS)(B js u:Nat)(c0:List Nat)(b:Nat)(F':Fr)(S':AS):Prop:=
 ∃(nd v:Nat)(c:List Nat),rH S0 S' B c/\ny c0 ofs js u nd v c/\nd<b/\sl F' 0=.slice B 0 ofs js 24 1 cp/\sl F' 12=.int .u32 v/\sl F' 4=.int .i64 nd/\F'.n=167
section
variable{S:AS}
set_option maxHeartbeats 1000000 in
theorem base50{ofs:Nat}{cp:Option Nat}{B u js:Nat}{c0:List Nat}(hB:S.h.get B=some (.row (bH c0) 0 0 false 281))(h24:c0.length=24)(hu:u<18446744073709551616)(zb:js=Lib.nDigits u)(hnd20:ofs+js<=24)(hup:u<10 ^ js):
  az C0 208 [.slice B 0 ofs js 24 1 cp,.int .u64 u] S fun r T=>r=.tuple []/\∃c v,rH S T B c/\ny c0 ofs js u 0 v c:=by
 refine bu (dL _) (dF _ rfl) fn50 rfl ok50 (by simp) fun F hn s0 s1=>?_;rw[nt50]at hn;simp[s0,s1,sj un56];refine aW (fmtH ofs cp S B js u c0) js ⟨u,c0,⟨hB,fun _ _=>rfl,rfl,h24⟩,ny.start c0 (by omega) hup,hu,by simp[s0],by simp[s1],by simp,by simp[hn]⟩ ?_;clear s0 s1 hn;rintro k F' S' ng ⟨v,c,hg,hF,hv,s0,s1,s4,hn⟩;clear ng;have hkle:=hF.le;by_cases h8:8<=k
 .have h8':(8:Int)<=(k:Int):=by omega
  obtain⟨d,v',q,r,x8,x9,x10,x11,⟨a1,a2,a3,a4,a5,a6,a7,a8⟩,⟨b1,b2,b3,b4,b5,b6,b7,b8,b9⟩,⟨hx9,hx8,hx11,hx10,BL⟩,⟨l8,l9,l10,l11,lv⟩⟩:=eight hv;have f1:∀x:Nat,x<100->IntKind.u32.wrap ((x:Int)*2)=(x:Int)*2:=fun x h=>by
   have:=fm (y:=x*2) (by omega);simpa using this
  have f2:∀x:Nat,x<100->IntKind.u32.wrap ((x:Int)*2+1)=(x:Int)*2+1:=fun x h=>by
   have:=fm (y:=x*2+1) (by omega);simpa using this
  have c8:=f1 x8 l8;have c9:=f1 x9 l9;have c10:=f1 x10 l10;have c11:=f1 x11 l11;have d8:=f2 x8 l8;have d9:=f2 x9 l9;have d10:=f2 x10 l10;have d11:=f2 x11 l11;clear f1 f2;have m1:IntKind.i64.wrap ((k:Int)-1)=(k:Int)-1:=IntWalk.i64_in _ (by omega);have m2:IntKind.i64.wrap ((k:Int)-2)=(k:Int)-2:=IntWalk.i64_in _ (by omega);have m3:IntKind.i64.wrap ((k:Int)-3)=(k:Int)-3:=IntWalk.i64_in _ (by omega);have m4:IntKind.i64.wrap ((k:Int)-4)=(k:Int)-4:=IntWalk.i64_in _ (by omega);have m5:IntKind.i64.wrap ((k:Int)-5)=(k:Int)-5:=IntWalk.i64_in _ (by omega);have m6:IntKind.i64.wrap ((k:Int)-6)=(k:Int)-6:=IntWalk.i64_in _ (by omega);have m7:IntKind.i64.wrap ((k:Int)-7)=(k:Int)-7:=IntWalk.i64_in _ (by omega);have m8:IntKind.i64.wrap ((k:Int)-8)=(k:Int)-8:=IntWalk.i64_in _ (by omega);obtain⟨T1,T2,c2,e1,e2,p1,p2,i1,i2,j1,j2,w1,w2,g2,hF2⟩:=two (cp:=cp) (x:=x9) (m1:=(k:Int)-1) (m2:=(k:Int)-2) hg hF (by omega) hx9 (by omega) (by omega);obtain⟨T3,T4,c4,e3,e4,p3,p4,i3,i4,j3,j4,w3,w4,g4,hF4⟩:=two (cp:=cp) (x:=x8) (m1:=(k:Int)-3) (m2:=(k:Int)-4) g2 hF2 (by omega) hx8 (by omega) (by omega);obtain⟨T5,T6,c6,e5,e6,p5,p6,i5,i6,j5,j6,w5,w6,g6,hF6⟩:=two (cp:=cp) (x:=x11) (m1:=(k:Int)-5) (m2:=(k:Int)-6) g4 hF4 (by omega) hx11 (by omega) (by omega);obtain⟨T7,T8,c8',e7,e8,p7,p8,i7,i8,j7,j8,w7,w8,g8,hF8⟩:=two (cp:=cp) (x:=x10) (m1:=(k:Int)-7) (m2:=(k:Int)-8) g6 hF6 (by omega) hx10 (by omega) (by omega);have hF8':ny c0 ofs js u (k-8) v' c8':=by
   rw[show k-8=k-2-2-2-2 by omega,BL];exact hF8
  clear hF8 hF6 hF4 hF2 hF g2 g4 g6 hg;clear hx8 hx9 hx10 hx11 BL;simp only[mL]at i1 i2 i3 i4 i5 i6 i7 i8;simp[s0,s1,s4,h8,h8',a1,a2,a3,a4,a5,a6,a7,a8,b1,b2,b3,b4,b5,b6,b7,b8,b9,c8,c9,c10,c11,hn];refine bg [.p,.p,.p,.p,.p,.p,.p,.p,.p,.p,.p,.p,.e [],.p,.e []] (n:=167) (by kernel_rfl) (by simp[hn]) ?_;simp[s0,s4,m1,m2,d9,i1,i2,j1,j2,w1,w2];refine bg [.p,.p,.p,.p,.p,.p,.p,.p,.p,.p,.p,.p,.e [],.p,.e []] (n:=167) (by kernel_rfl) (by simp[hn]) ?_;simp[s0,s4,m3,m4,d8,i3,i4,j3,j4,w3,w4];refine bg [.p,.p,.p,.p,.p,.p,.p,.p,.p,.p,.p,.p,.e [],.p,.e []] (n:=167) (by kernel_rfl) (by simp[hn]) ?_;simp[s0,s4,m5,m6,d11,i5,i6,j5,j6,w5,w6];refine bg [.p,.p,.p,.p,.p,.p,.p,.p,.p,.p,.p,.p,.e [],.p,.e []] (n:=167) (by kernel_rfl) (by simp[hn]) ?_;simp[s0,s4,m7,m8,d10,i7,i8,j7,j8,w7,w8];exact⟨k-8,by omega,v',c8',g8,hF8',lv,by simp[s0],by simp,by simp;omega,by simp[hn]⟩
 .have h8':¬(8:Int)<=(k:Int):=by omega
  have hvk:=hF.small;have hv8:v<100000000:=zzg hvk (by
   have:10 ^ k<=10 ^ 8:=Nat.pow_le_pow_right (by decide) (by omega);simpa using this)
  have b1:=fm (y:=v) (zza hv8 (by decide));simp[-iW,s0,s1,s4,h8,h8'];rw[iW];simp[-iW,hG,s0,s1,s4,h8,h8',b1];refine vY (fmtM ofs cp S B js u c0 4) ?_ ?_
  .by_cases h4:4<=k
   .have h4':(4:Int)<=(k:Int):=by omega
    obtain⟨r,v',x14,x15,⟨a1,a2,a3,a4⟩,⟨b2,b3,b4,b5⟩,⟨hx15,hx14,BL⟩,l14,l15⟩:=fourD (zza hv8 (by decide));have c14:=z9 l14;have c15:=z9 l15;have d14:=uA l14;have d15:=uA l15;have m1:IntKind.i64.wrap ((k:Int)-1)=(k:Int)-1:=IntWalk.i64_in _ (by omega);have m2:IntKind.i64.wrap ((k:Int)-2)=(k:Int)-2:=IntWalk.i64_in _ (by omega);have m3:IntKind.i64.wrap ((k:Int)-3)=(k:Int)-3:=IntWalk.i64_in _ (by omega);have m4:IntKind.i64.wrap ((k:Int)-4)=(k:Int)-4:=IntWalk.i64_in _ (by omega);obtain⟨T1,T2,c2,e1,e2,p1,p2,i1,i2,j1,j2,w1,w2,g2,hF2⟩:=two (cp:=cp) (x:=x15) (m1:=(k:Int)-1) (m2:=(k:Int)-2) hg hF (by omega) hx15 (by omega) (by omega);obtain⟨T3,T4,c4,e3,e4,p3,p4,i3,i4,j3,j4,w3,w4,g4,hF4⟩:=two (cp:=cp) (x:=x14) (m1:=(k:Int)-3) (m2:=(k:Int)-4) g2 hF2 (by omega) hx14 (by omega) (by omega);have hF4':ny c0 ofs js u (k-4) v' c4:=by
     rw[show k-4=k-2-2 by omega,BL];exact hF4
    clear hF4 hF2 hF g2 hg hx14 hx15 BL hv8 hvk;simp only[mL]at i1 i2 i3 i4;simp[s0,s4,h4,h4',a1,a2,a3,a4,b2,b3,b4,b5,c14,c15,hn];refine bg [.p,.p,.p,.p,.p,.p,.p,.p,.p,.p,.p,.p,.e [],.p,.e []] (n:=167) (by kernel_rfl) (by simp[hn]) ?_;simp[s0,s4,m1,m2,d15,i1,i2,j1,j2,w1,w2];refine bg [.p,.p,.p,.p,.p,.p,.p,.p,.p,.p,.p,.p,.e [],.p,.e []] (n:=167) (by kernel_rfl) (by simp[hn]) ?_;simp[s0,s4,m3,m4,d14,i3,i4,j3,j4,w3,w4];exact⟨k-4,v',c4,g4,hF4',by omega,by simp[s0],by simp,by simp;omega,by simp[hn]⟩
   .have h4':¬(4:Int)<=(k:Int):=by omega
    simp[s4,h4,h4'];exact⟨k,v,c,hg,hF,by omega,by simp[s0],by simp,by simp[s4],by simp[hn]⟩
  clear hg hF hv s0 s1 s4 hn hvk hv8 b1 hkle h8 h8' F' S' k v c;rintro F1 S1 ⟨k,v,c,hg,hF,hk4,s0,s12,s4,hn⟩;simp[-iW,hG,s0,s4,s12];refine vY (fmtM ofs cp S B js u c0 2) ?_ ?_
  .by_cases h2:2<=k
   .have DF:(2:Int)<=(k:Int):=by omega
    have hvk:=hF.small;have hkle:=hF.le;have hv8:v<100000000:=zzg hvk (by
     have:10 ^ k<=10 ^ 8:=Nat.pow_le_pow_right (by decide) (by omega);simpa using this)
    obtain⟨x16,hx16⟩:∃x,x=v%100:=⟨_,rfl⟩
    obtain⟨v',BL⟩:∃v',v'=v / 100:=⟨_,rfl⟩
    have l16:x16<100:=by rw[hx16];exact zzc _ (by decide)
    have lv:v'<100000000:=by rw[BL];exact zzh (zzj _ _) hv8
    have a1:(v:Int).tmod 100=(x16:Int):=by rw[hx16];exact (Int.ofNat_tmod _ _).symm
    have a2:(v:Int).tdiv 100=(v':Int):=by rw[BL];exact (Int.ofNat_tdiv _ _).symm
    have b2:=fm (y:=x16) (zza l16 (by decide));have b3:=fm (y:=v') (zza lv (by decide));have c16:=z9 l16;have d16:=uA l16;have m1:IntKind.i64.wrap ((k:Int)-1)=(k:Int)-1:=IntWalk.i64_in _ (by omega);have m2:IntKind.i64.wrap ((k:Int)-2)=(k:Int)-2:=IntWalk.i64_in _ (by omega);obtain⟨T1,T2,c2,e1,e2,p1,p2,i1,i2,j1,j2,w1,w2,g2,hF2⟩:=two (cp:=cp) (x:=x16) (m1:=(k:Int)-1) (m2:=(k:Int)-2) hg hF h2 hx16 (by omega) (by omega);rw[<-BL]at hF2;clear hF hg hx16 BL hv8 hvk;simp only[mL]at i1 i2;simp[s0,s4,s12,h2,DF,a1,a2,b2,b3,c16,hn];refine bg [.p,.p,.p,.p,.p,.p,.p,.p,.p,.p,.p,.p,.e [],.p,.e []] (n:=167) (by kernel_rfl) (by simp[hn]) ?_;simp[s0,s4,m1,m2,d16,i1,i2,j1,j2,w1,w2];exact⟨k-2,v',c2,g2,hF2,by omega,by simp[s0],by simp,by simp;omega,by simp[hn]⟩
   .have DF:¬(2:Int)<=(k:Int):=by omega
    simp[s4,h2,DF];exact⟨k,v,c,hg,hF,by omega,by simp[s0],by simp[s12],by simp[s4],by simp[hn]⟩
  clear hg hF s0 s12 s4 hn hk4 F1 S1 k v c;rintro F1 S1 ⟨k,v,c,hg,hF,wN,s0,s12,s4,hn⟩;by_cases h0:0<k
  .obtain rfl:k=1:=by omega
   have hv10:v<10:=by simpa using hF.small
   have hle:=hF.le;obtain⟨x,hx⟩:∃x,x=48+v:=⟨_,rfl⟩
   have b1:IntKind.u32.wrap (48+(v:Int))=(x:Int):=by rw[show (48+(v:Int))=((x:Nat):Int) by omega];exact fm (by omega)
   have b2:=u8_of (y:=x) (by omega);obtain⟨T1,e1,g1⟩:=hg.put (j:=ofs) (b:=x) (by omega);have hF1:=hF.step1;rw[<-hx]at hF1;have ia:=fun (F:Fr) (S:AS) (dst:Option Tmp) (ty:TypeId) (pos:String) (af:Array Edge) (gd:Option (Nat×Bool)) (a:Tmp) (h1:sl F a=.slice B 0 ofs js 24 1 cp)=>gD (cx:=C0) (F:=F) (S:=S) (dst:=dst) (ty:=ty) (pos:=pos) (af:=af) (g:=gd) (ix:=.const (.int .i64 0)) (i:=0) ((aA F a).trans h1) un56 (by kernel_rfl) rfl rfl hle;simp at s4 ia;simp[hG,s0,s4,s12,b1,b2,ia,e1];exact⟨_,g1,0,hF1⟩
  .obtain rfl:k=0:=by omega
   simp at s4;simp[hG,s0,s4,s12];exact⟨_,hg,_,hF⟩
end
theorem mM{F:Fr}{lo hi:Option Operand}{l k B:Nat}(hl:bound F lo 0=some l)(hh:bound F hi 24=some k)(h1:l<=k)(h2:k<=24)(h3:l<24):fL C0 F 281 (.ptr B 0 0 24) lo hi none=some (.slice B 0 l (k-l) 24 1 (some (24-l))):=by
 have hb:bounds F 24 24 lo hi none=some (l,k,24):=by
  unfold bounds;rw[hl,hh];have e:bound F none 24=some 24:=rfl;rw[e];simp[cG,h1,h2,vu]
 have z5:aH C0 5=some 1:=by kernel_rfl
 unfold fL;simp only[un81,z5,hb];have e1:Nat.ble (Nat.add 0 (Nat.mul 24 1)) 24=true:=rfl;rw[e1];unfold Bh;have e2:Nat.beq 24 l=false:=by rw[bC];simp;omega
 rw[e2];simp[aQ]
theorem sf(u:Nat):u<10 ^ Lib.nDigits u:=by
 induction u using Nat.strongRecOn with
 |_ u ih=>
  by_cases h:u<10
  .rw[Lib.nDigits_small h];simpa using h
  .rw[Lib.nDigits_big h,Nat.pow_succ];have:=ih (u / 10) (by omega);omega
theorem rH.cut{S0 S:AS}{B l n:Nat}{c:List Nat}(g:rH S0 S B c)(hB:B<S.nx)(h:l+n<=24)(h0:0<n):Sl S (.slice B 0 l n 24 1 (some (24-l))) 1 (bH ((c.drop l).take n)):=by
 obtain⟨g1,g2,g3,g4⟩:=g;refine⟨by simp[isSl,eS];omega,?_,by simp[sLen,bM];omega,by simp only[aV];omega⟩;obtain⟨m,rfl⟩:∃m,n=m+1:=⟨n-1,by omega⟩
 simp[lY,dP,g1,cr];refine⟨by omega,?_⟩;simp[bH,List.map_take,List.map_drop]
theorem rH.first{S0 S:AS}{B:Nat}{c:List Nat}(g:rH S0 S B c):
  ∃T,(∀(F:Fr)(dst:Option Tmp)(ty:TypeId)(pos:String)(af:Array Edge)(gd:Option (Nat×Bool))(x:Tmp),sl F x=.ptr B 0 0 24->bE C0 F S ⟨dst,.store 5 (.tmp x) (.const (.int .u8 45)),ty,pos,af,gd⟩=.val .undef T)/\rH S0 T B (c.set 0 45):=by
 obtain⟨g1,g2,g3,g4⟩:=g;refine⟨⟨S.h.set B (.row (bH (c.set 0 45)) 0 0 false 281),S.nx⟩,fun F dst ty pos af gd x hx=>?_,get_set_same _ _ _,fun id h=>(ah _ _ h).trans (g2 id h),g3,by rw[zzi];exact g4⟩;refine nw (v:=.ptr B 0 0 24) (n:=1) (cs:=[.int .u8 45]) hx rfl (by kernel_rfl) rfl ?_;rw[zS,wr_at,g1,zT,if_pos ⟨rfl,by simp,rfl⟩];rw[pZ (by rw[bM];omega)];congr 4;rw[zzf,if_pos (by omega)];simp[bH]
theorem arr_first{F:Fr}{S:AS}{B:Nat}{dst:Option Tmp}{ty:TypeId}{pos:String}{af:Array Edge}{gd:Option (Nat×Bool)}{x:Tmp}(hx:sl F x=.ptr B 0 0 24):bE C0 F S ⟨dst,.indexAddr 281 (.tmp x) (.const (.int .i64 0)),ty,pos,af,gd⟩=.val (.ptr B 0 0 24) S:=by
 have z5:aH C0 5=some 1:=by kernel_rfl
 have e0:eY (eval F (.const (.int .i64 0)))=some 0:=rfl;simp only[bE,un81,aA,hx,e0,z5];rfl
theorem iP(u:Nat):∀c,c∈bP u->c<256:=fun c hc=>by have:=cZ u c hc;omega
theorem nt37:Tryz.f205.ntmps=54:=by kernel_rfl
section
variable{S:AS}
theorem fmt37{n:Int}(h1:-9223372036854775808<=n)(h2:n<9223372036854775808):az C0 205 [.int .i64 n,.int .i64 10] S fun r T=>r=.str (aU n)/\Sub S T:=by
 refine bu (dL _) (dF _ rfl) fn37 rfl ok37 (by simp) fun F hn s0 s1=>?_;rw[nt37]at hn;unfold aU;by_cases hs:0<=n/\n<100
 .obtain⟨u,rfl⟩:∃u:Nat,n=u:=⟨n.toNat,by omega⟩
  have hu:u<100:=by omega
  have hu':(u:Int)<100:=by omega
  have e48:=fun (S:AS) Q=>Af hu (S:=S) (Q:=Q);rw[if_neg (by omega)];simp[s0,s1,hu,hu',e48,aK,Sub.refl]
 .obtain⟨c0,ni⟩:∃c0:List Nat,c0=[0,0,0,0,0,0,0,0,0,0,0,0,0,0,0,0,0,0,0,0,0,0,0,0]:=⟨_,rfl⟩
  have hb0:bH c0=[.int .u8 0,.int .u8 0,.int .u8 0,.int .u8 0,.int .u8 0,.int .u8 0,.int .u8 0,.int .u8 0,.int .u8 0,.int .u8 0,.int .u8 0,.int .u8 0,.int .u8 0,.int .u8 0,.int .u8 0,.int .u8 0,.int .u8 0,.int .u8 0,.int .u8 0,.int .u8 0,.int .u8 0,.int .u8 0,.int .u8 0,.int .u8 0]:=by rw[ni];rfl
  have h24:c0.length=24:=by rw[ni];rfl
  clear ni;obtain⟨u,hu⟩:∃u:Nat,u=n.natAbs:=⟨_,rfl⟩
  obtain⟨nd,zb⟩:∃nd,nd=Lib.nDigits u:=⟨_,rfl⟩
  have hu64:u<18446744073709551616:=by omega
  have hnd20:nd<=20:=by rw[zb];exact gK 19 u (by omega)
  have hnd0:0<nd:=by rw[zb];exact Lib.nDigits_pos u
  have hup:u<10 ^ nd:=by rw[zb];exact sf u
  obtain⟨r,T,⟨rfl,c,v,hg,hF⟩,e50⟩:=(base50 (ofs:=1) (cp:=some 23) (S:=⟨S.h.set S.nx (.row (bH c0) 0 0 false 281),S.nx+1⟩) (B:=S.nx) (get_set_same _ _ _) h24 hu64 zb (by omega) hup).ex;have e49:=fun (S:AS) Q=>num49 (u:=u) (by omega) hu64 (S:=S) (Q:=Q);rw[<-zb]at e49;have AY:T.nx=S.nx+1:=hg.2.2.1;have hST:Sub S T:=⟨fun id cw=>(hg.2.1 id (by omega)).trans (ah _ _ (by omega)),by omega⟩
  have hnum:(c.drop 1).take nd=bP u:=by
   have:=hF;rw[zb]at this;rw[zb];exact this.numeral
  have w3:IntKind.i64.wrap (1+(nd:Int))=1+(nd:Int):=IntWalk.i64_in _ (by omega);have bd:∀(F:Fr)(x:Tmp)(m:Nat),sl F x=.int .i64 (1+(nd:Int))->bound F (some (.tmp x)) m=some (1+nd):=fun F x m h=>by
   rw[gQ,aA,h,show (1+(nd:Int))=((1+nd:Nat):Int) by omega];exact c7
  have sv1:=fun (F:Fr) (B:Nat) (x:Tmp) (h:sl F x=.int .i64 (1+(nd:Int)))=>(mM (B:=B) (F:=F) (lo:=some (.const (.int .i64 1))) (hi:=some (.tmp x)) (l:=1) rfl (bd F x _ h) (by omega) (by omega) (by decide)).trans (show _=some (AV.slice B 0 1 nd 24 1 (some 23)) by rw[show 1+nd-1=nd by omega]);have sv0:=fun (F:Fr) (B:Nat) (x:Tmp) (h:sl F x=.int .i64 (1+(nd:Int)))=>(mM (B:=B) (F:=F) (lo:=none) (hi:=some (.tmp x)) (l:=0) rfl (bd F x _ h) (by omega) (by omega) (by decide))
  have af1:=fun (F:Fr) (S:AS) (B:Nat) (dst:Option Tmp) (ty:TypeId) (pos:String) (af:Array Edge) (gd:Option (Nat×Bool)) (x:Tmp) (hx:sl F x=.ptr B 0 0 24)=>arr_first (F:=F) (S:=S) (dst:=dst) (ty:=ty) (pos:=pos) (af:=af) (gd:=gd) hx;rw[hb0]at e50;by_cases xf:n<0
  .rw[if_pos xf,<-hu];have hnn:¬0<=n:=by omega
   have w1:IntKind.u64.wrap n=((18446744073709551616-u:Nat):Int):=by simp[IntKind.wrap,IntKind.bits,IntKind.signed];omega
   have w2:IntKind.u64.wrap (-((18446744073709551616-u:Nat):Int))=(u:Int):=by simp[IntKind.wrap,IntKind.bits,IntKind.signed];omega
   generalize 18446744073709551616-u=nu at w1 w2;obtain⟨T2,e1,g1⟩:=hg.first
   have hl:((c.set 0 45).drop 0).take (1+nd)=45::bP u:=by
    rw[<-hnum];cases c with
    |nil=>have:=hg.2.2.2;simp at this
    |cons x c=>rw[Nat.add_comm];simp
   have DC:=g1.cut (l:=0) (n:=1+nd) (by have:=g1.2.2.1;simp at this;omega) (by omega) (by omega);rw[hl]at DC;have tx:=fun (F:Fr) (dst:Option Tmp) (ty:TypeId) (pos:String) (af:Array Edge) (gd:Option (Nat×Bool)) (x:Tmp) (a:sl F x=.slice S.nx 0 0 (1+nd) 24 1 (some 24))=>gC (cx:=C0) (F:=F) (S:=T2) (dst:=dst) (ty:=ty) (pos:=pos) (af:=af) (gd:=gd) (a:=48) (b:=9) DC (fun x hx=>by
    rcases List.mem_cons.1 hx with h|h
    .omega
    .exact iP u x h) ((aA F x).trans a) qm tY
   have kW:Sub S T2:=⟨fun id cw=>(g1.2.1 id (by omega)).trans (ah _ _ (by omega)),by have:=g1.2.2.1;simp at this;omega⟩
   simp[s0,s1,hnn,xf,w1,w2,w3,e49,aK,sv1,sv0,e50,af1,e1,tx,kW]
  .rw[if_neg xf];have hnn:0<=n:=by omega
   have h100:¬n<100:=by omega
   rw[show n.toNat=u by omega];have DC:=hg.cut (l:=1) (n:=nd) (by omega) (by omega) hnd0;rw[hnum]at DC;have tx:=fun (F:Fr) (dst:Option Tmp) (ty:TypeId) (pos:String) (af:Array Edge) (gd:Option (Nat×Bool)) (x:Tmp) (a:sl F x=.slice S.nx 0 1 nd 24 1 (some 23))=>gC (cx:=C0) (F:=F) (S:=T) (dst:=dst) (ty:=ty) (pos:=pos) (af:=af) (gd:=gd) (a:=48) (b:=9) DC (iP u) ((aA F x).trans a) qm tY;obtain rfl:n=(u:Int):=by omega
   have w1:=Fe hu64;have h100':¬u<100:=by omega
   simp[s0,s1,h100,h100',xf,w1,w3,e49,aK,sv1,e50,tx,hST]
theorem fmt26{n:Int}(h1:-9223372036854775808<=n)(h2:n<9223372036854775808):az C0 213 [.int .i64 n,.int .i64 10] S fun r T=>r=.str (aU n)/\Sub S T:=by
 refine bu (dL _) (dF _ rfl) fn26 rfl ok26 (by simp) fun F hn s0 s1=>?_;obtain⟨r,T,⟨rfl,hT⟩,e37⟩:=(fmt37 (S:=S) h1 h2).ex;simp[s0,s1,e37,aK,hT]
end
theorem nt14:Tryz.f178.ntmps=24:=by kernel_rfl
section
variable{S:AS}
theorem text14(v:kC)(hv:va v):az C0 178 [.agg (bq v)] S fun r T=>Cd r (lQ v)/\Sub S T:=by
 have hA:Sub S ⟨S.h.set S.nx (.row (bq v) 0 0 false 92),S.nx+1⟩:=dc;obtain⟨r,T,⟨rfl,hT⟩,e1⟩:=(may10 (S:=⟨S.h.set S.nx (.row (bq v) 0 0 false 92),S.nx+1⟩) v).ex;have g1:T.h.get S.nx=some (.row (bq v) 0 0 false 92):=by rw[hT.h _ (Nat.lt_succ_self _)];exact get_set_same _ _ _
 have hS:=hA.trans hT;obtain⟨r,T2,⟨rfl,kW⟩,e2⟩:=(has21 (S:=T) v).ex;have g2:T2.h.get S.nx=some (.row (bq v) 0 0 false 92):=by rw[kW.h _ (by have:=hT.nx;exact zzg (Nat.lt_succ_self _) this)];exact g1
 have pO:=hS.trans kW;unfold lQ;refine bD (dL _) (dF _ rfl) fn14 rfl ok14 (by simp) fun F hn s0=>?_;rw[nt14]at hn;cases hm:dR v with
 |false=>
  rw[hm]at e1;simp only[bq]at s0 e1 g1;simp[s0,e1,aK,Cd,hS]
 |true=>
  rw[hm]at e1;obtain⟨hb,h1,h2⟩:=hv;obtain⟨k,n,s,b⟩:=v;simp only[bq]at s0 e1 e2 g1 g2;simp only at hb h1 h2;unfold jI;unfold AU at e2;simp only at e2;by_cases hk1:k=1
  .subst hk1;simp at e2;obtain⟨r,W,⟨rfl,hW⟩,e3⟩:=(fmt26 (S:=T2) h1 h2).ex;simp[s0,e1,e2,e3,aK,g1,g2,Cd,pO.trans hW]
  .by_cases hk3:k=3
   .subst hk3;have e27:=fun (S:AS) Q=>bool27 b (S:=S) (Q:=Q);simp at e2;simp[s0,e1,e2,e27,aK,g1,g2,Cd,pO]
   .have wN:k=2:=by unfold dR at hm;simp only[hk1,hk3,if_false]at hm;by_cases h:k=2;exact h;simp[h]at hm
    subst wN;simp at e2;have hl32:s.length<=32:=by unfold dR at hm;simp at hm;exact hm.1
    obtain⟨r,W,⟨rfl,hW⟩,e3⟩:=(quote28 (S:=T2) hb (by omega)).ex;simp[s0,e1,e2,e3,aK,g1,g2,Cd,pO.trans hW]
end
end Go.Proofs.YthklfandhmkpiaaGreatDoor.val
