/-
  How long parts are, and of which signs.
-/
import Derived.Test.YthklfandhmkpiaaGreatDoorPartF
open List renaming getElem?_eq_getElem->zza,length_cons->zzb,length_append->zzc,length_map->zzd,take_of_length_le->zze,take_add_one->zzi,getElem?_cons_zero->zzj,flatMap_append->zzk,mem_cons_self->zzl,flatMap_cons->zzn,append_nil->zzp,map_cons->zzq,getElem?_cons_succ->zzr
open Nat renaming zero_le->zzf,le_refl->zzg,le_trans->zzh,lt_succ_self->zzo
open Option renaming getD_some->zzm
set_option linter.unusedVariables false
set_option linter.unusedSimpArgs false
set_option maxRecDepth 20000
namespace Go.Proofs.YthklfandhmkpiaaGreatDoor.sh
open Go Go.Am Go.Proofs.YthklfandhmkpiaaGreatDoor.dk
open Go.Proofs.YthklfandhmkpiaaGreatDoor.val (fU cH fl gl okE bK bP aU cZ oT kT ot mC sI jh nQ)
open Go.Proofs.YthklfandhmkpiaaGreatDoor.bk (gy mq pf)
def Tok.dK:Tok->Prop
 | .num n=>pq n | .nat n=>n<18446744073709551616 | .at_ p n=>pq p/\n<18446744073709551616 | .word b=>(∀c,c∈b->c<256)/\b.length<=1048576 | .said k l=>okE k l | .lit s=>(∀c,c∈s->c<256)/\s.length<=100
theorem Cv{k:List Nat}{l:List fU}(h:okE k l):((cH k l).getD []).length<=10000/\∀c,c∈(cH k l).getD []->c<256:=by
 unfold cH;split
 .rename_i hm;show (fl k l).length<=10000/\∀c,c∈fl k l->c<256;obtain⟨_,h1,h2⟩:=jh hm;have ha:=ot hm h;unfold fl;constructor
  .have h3:=oT k;have h4:=sI (l:=l) fun a hx=>(mC (ha a hx).1 (ha a hx).2.2 (ha a hx).2.1).1;rw[zzc];omega
  .intro c hc;rcases List.mem_append.1 hc with h5|h5
   .exact kT h.1 c h5
   .obtain⟨a,hx,h6⟩:=List.mem_flatMap.1 h5;exact (mC (ha a hx).1 (ha a hx).2.2 (ha a hx).2.1).2 (h.2 a hx).1 c h6
 .exact⟨by simp,fun c hc=>by simp at hc⟩
theorem kQ{t:Tok}(h:t.dK):t.text.length<=4300000/\∀c,c∈t.text->c<256:=by
 cases t with
 |num n=>exact⟨zzh (vR h) (by decide),fun c hc=>by have:=mr n c hc;omega⟩
 |nat n=>exact⟨zzh (mz h) (by decide),fun c hc=>by have:=cZ n c hc;omega⟩
 |at_ p n=>
  refine⟨?_,fun c hc=>?_⟩
  .have h1:=vR h.1;have h2:=mz h.2;show (aU p++64::bP n).length<=_;rw[zzc,zzb];omega
  .rcases List.mem_append.1 hc with h1|h1
   .have:=mr p c h1;omega
   .rcases List.mem_cons.1 h1 with h2|h2
    .omega
    .have:=cZ n c h2;omega
 |word b=>exact⟨zzh (oT b) (by have:=h.2;omega),kT h.1⟩
 |said k l=>exact⟨zzh (Cv h).1 (by decide),(Cv h).2⟩
 |lit s=>exact⟨zzh h.2 (by decide),h.1⟩
theorem pX{l:List (List Nat)}{k:Nat}(h:∀t,t∈l->t.length<=k):hY l<=l.length*k:=by
 induction l with
 |nil=>simp[hY]
 |cons t l ih=>
  have h1:=h t (zzl ..);have h2:=ih fun x hx=>h x (List.mem_cons_of_mem _ hx);unfold hY at *;rw[zzq,List.sum_cons,zzb,Nat.succ_mul];omega
theorem iY{l:List Tok}(h:∀t,t∈l->t.dK)(hl:l.length<=2000000):hY (l.map Tok.text)<=8600000000000/\∀s,s∈l.map Tok.text->∀c,c∈s->c<256:=by
 constructor
 .have h1:=pX (l:=l.map Tok.text) (k:=4300000) fun t ht=>by
   obtain⟨x,hx,rfl⟩:=List.mem_map.1 ht;exact (kQ (h x hx)).1
  rw[zzd]at h1;have h2:l.length*4300000<=2000000*4300000:=Nat.mul_le_mul_right _ hl;omega
 .intro s hs;obtain⟨x,hx,rfl⟩:=List.mem_map.1 hs;exact (kQ (h x hx)).2
theorem pK{α:Type}{P:α->Prop}{c:Prop}[Decidable c]{a b:α}(h1:P a)(h2:P b):P (if c then a else b):=by
 by_cases h:c
 .rw[if_pos h];exact h1
 .rw[if_neg h];exact h2
def wF(l:List Tok):Prop:=(∀t,t∈l->t.dK)/\l.length<=2000000
theorem wF.one{a:Tok}(h1:a.dK):wF [a]:=⟨fun t h=>(by rcases List.mem_cons.1 h with rfl|h;exact h1;cases h),by show 1<=2000000;omega⟩
theorem wF.cons{a:Tok}{l:List Tok}(h1:a.dK)(h:wF l)(hl:l.length<=1500000):wF (a::l):=⟨fun t ht=>(by rcases List.mem_cons.1 ht with rfl|ht;exact h1;exact h.1 t ht),by rw[zzb];omega⟩
theorem ev_toks{S:AS}{x:cy}(hx:jz S x):(∀t,t∈x.e.fu->t.dK)/\x.e.fu.length<=2000000:=by
 have r:=hx.dK;have hb:Tok.dK (.num x.e.au):=r.au;have hp:Tok.dK (.num x.e.place):=r.place;have hi:Tok.dK (.num x.e.id):=r.id;have hu:Tok.dK (.num x.e.fh):=r.fh;have ha:Tok.dK (.num x.e.BQ):=r.BQ;have hy:Tok.dK (.num x.e.bytes):=r.bytes;have hc:Tok.dK (.num x.e.count):=r.count;have hn:Tok.dK (.nat x.e.n):=r.n;have hw:Tok.dK (.word (gy x.e.cs)):=⟨mq r.cs,zzh (pf r.cs) (by decide)⟩
 have ht:Tok.dK (.word x.e.eH):=⟨r.eH,hx.tl⟩
 have he:Tok.dK (.said x.e.key x.e.aR):=r.ev;have hs:∀t,t∈(x.e.aS.map fun s=>Tok.at_ s.1 s.2)->t.dK:=fun t h=>by
  obtain⟨s,h1,rfl⟩:=List.mem_map.1 h;exact r.aS s h1
 have hk:∀t,t∈(x.e.bX.map fun (p:Nat)=>Tok.num (p:Int))->t.dK:=fun t h=>by
  obtain⟨s,h1,rfl⟩:=List.mem_map.1 h;exact Dm (r.bX s h1)
 have l1:=hx.sl;have l2:=hx.pl;have c1:([]:List Tok).length<=1500000:=zzf _;have c2:∀a:Tok,[a].length<=1500000:=fun a=>by show 1<=1500000;omega
 have c3:∀a b:Tok,[a,b].length<=1500000:=fun a b=>by show 2<=1500000;omega
 have c4:∀a b c:Tok,[a,b,c].length<=1500000:=fun a b c=>by show 3<=1500000;omega
 have c5:∀a b c d:Tok,[a,b,c,d].length<=1500000:=fun a b c d=>by show 4<=1500000;omega
 have m1:(x.e.aS.map fun s=>Tok.at_ s.1 s.2).length<=1048576:=by rw[zzd];exact l1
 have m2:(x.e.bX.map fun (p:Nat)=>Tok.num (p:Int)).length<=1048576:=by rw[zzd];exact l2
 have ps:wF (x.e.aS.map fun s=>Tok.at_ s.1 s.2):=⟨hs,by omega⟩
 have pk:wF (x.e.bX.map fun (p:Nat)=>Tok.num (p:Int)):=⟨hk,by omega⟩
 have p2:∀{a b:Tok},a.dK->b.dK->wF [a,b]:=fun h1 h2=>.cons h1 (.one h2) (c2 _);have p3:∀{a b c:Tok},a.dK->b.dK->c.dK->wF [a,b,c]:=fun h1 h2 h3=>.cons h1 (p2 h2 h3) (c3 _ _);have p4:∀{a b c d:Tok},a.dK->b.dK->c.dK->d.dK->wF [a,b,c,d]:=fun h1 h2 h3 h4=>.cons h1 (p3 h2 h3 h4) (c4 _ _ _);show wF x.e.fu;unfold Ev.fu;refine pK (p3 hb hp hw) (pK (p2 hb hp) (pK (p3 hb hp he) (pK ?_ (pK (p2 hb hi) (pK (p4 hb hi hu hn) (pK (.cons hb (p4 hp ha hy hc) (c5 _ _ _ _)) (pK (.one hn) (pK ?_ (pK (p2 hb hn) (.one hb))))))))))
 .exact .cons hb (.cons hi (.cons hw ps (by omega)) (by rw[zzb];omega)) (by rw[zzb,zzb];omega)
 .exact .cons hb (.cons ht pk (by omega)) (by rw[zzb];omega)
theorem mI(l:List Tok):ea l=cg (l.map Tok.text):=by
 unfold ea cg;rw[List.flatMap_map]
open Go.Proofs.YthklfandhmkpiaaGreatDoor.val (qm tY fB)
theorem zn100:Tryz.f100.ntmps=26:=by kernel_rfl
theorem zn101:Tryz.f101.ntmps=26:=by kernel_rfl
theorem neT(c:Bool)(a b:Int×Nat):bI C0 .neq 77 c (.agg (iy a)) (.agg (iy b))=some (.bool (!decide (a=b))):=by
 obtain⟨ak,an⟩:=a;obtain⟨bk,bn⟩:=b;have e:qh C0 77 c (.agg [.int .i64 ak,.int .u64 an]) (.agg [.int .i64 bk,.int .u64 bn])=fB (some (pP ak bk)) (fB (some (pP an bn)) (some true)):=by kernel_rfl
 have h:qh C0 77 c (.agg (iy (ak,an))) (.agg (iy (bk,bn)))=some (decide ((ak,an)=(bk,bn))):=by
  simp only[iy];rw[e,cQ,cQ];unfold fB;by_cases h1:ak=bk
  .by_cases h2:an=bn
   .simp[h1,h2]
   .have h3:¬((an:Int)=bn):=by omega
    simp[h1,h2,h3]
  .simp[h1]
 simp only[iy]at h⊢;unfold bI;simp[h,mh]
def eqlG{α:Type}(S:AS)(u v:AV)(l m:List α)(k:Nat)(F':Fr)(S':AS):Prop:=
 ∃i:Nat,S'=S/\sl F' 0=u/\sl F' 1=v/\sl F' 12=.int .i64 l.length/\sl F' 13=.int .i64 i/\i<=l.length/\k=l.length-i/\l.take i=m.take i/\F'.n=26
theorem uj{α:Type}{S:AS}{u v:AV}{l m:List α}{k:Nat}{F':Fr}(i:Nat)(h2:sl F' 0=u)(h3:sl F' 1=v)(h4:sl F' 12=.int .i64 l.length)(h5:sl F' 13=.int .i64 i)(h6:i<=l.length)(h7:k=l.length-i)(h8:l.take i=m.take i)(h9:F'.n=26):eqlG S u v l m k F' S:=
 ⟨i,rfl,h2,h3,h4,h5,h6,h7,h8,h9⟩
theorem jW{α:Type}{l m:List α}{i:Nat}{a b:α}(h:l.take i=m.take i)(h1:l[i]?=some a)(h2:m[i]?=some b)(DE:a=b):l.take (i+1)=m.take (i+1):=by
 rw[zzi,zzi,h,h1,h2,DE]
section
variable{S:AS}
theorem equal100{u v:AV}{l m:List (Int×Nat)}(hl:Sl S u 2 (l.flatMap iy))(hm:Sl S v 2 (m.flatMap iy))(hle:l.length<=1048576)(hme:m.length<=1048576){Q:AV->AS->Prop}:az C0 100 [u,v] S Q=Q (.bool (decide (l=m))) S:=by
 refine az.eq (bu (dL _) (dF _ rfl) zf100 rfl zo100 (by simp) fun F hn s0 s1=>?_);rw[zn100]at hn;have u1:=hl.sl;have v1:=hm.sl;have u2:=hl.bj eK (by omega);have v2:=hm.bj eK (by omega);by_cases hlen:l.length=m.length
 .rw[<-hlen]at v2;simp[s0,s1,u1,v1,u2,v2,hlen];refine aW (eqlG S u v l m) l.length (uj 0 (by simp[s0]) (by simp[s1]) (by simp[hlen]) (by simp) (zzf _) rfl (by simp) (by simp[hn])) ?_;rintro k F' S'-⟨i,rfl,t0,t1,t12,t13,hi,hk,ha,rK⟩;clear s0 s1 hn;by_cases ck:i<l.length
  .obtain⟨a,hx⟩:∃a,l[i]?=some a:=⟨_,zza ck⟩
   obtain⟨b,hy⟩:∃a,m[i]?=some a:=⟨_,zza (by omega)⟩
   have lx:=bh (cx:=C0) (e:=77) hl eK (by omega) hx Go.Proofs.YthklfandhmkpiaaGreatDoor.mod.ag132 Go.Proofs.YthklfandhmkpiaaGreatDoor.mod.sz132;have ly:=bh (cx:=C0) (e:=77) hm eK (by omega) hy Go.Proofs.YthklfandhmkpiaaGreatDoor.mod.ag132 Go.Proofs.YthklfandhmkpiaaGreatDoor.mod.sz132;have ne:=fun c=>neT c a b;have w1:=IntWalk.i64_in ((i:Int)+1) (by omega);simp only[iy]at lx ly ne;simp[t0,t1,t12,t13,ck];refine iZ (n:=26) (by kernel_rfl) (by simp[rK]) ?_;by_cases hc:a=b
   .subst hc;simp[t0,t1,t12,t13,u1,u2,v1,v2,ck,lx,ly,ne,hl.ok,hm.ok,w1];exact⟨l.length-(i+1),by omega,uj (i+1) (by simp[t0]) (by simp[t1]) (by simp[t12]) (by simp) ck rfl (jW ha hx hy rfl) (by simp[rK])⟩
   .have cl:¬l=m:=by rintro rfl;rw[hx]at hy;exact hc (Option.some.inj hy)
    simp[t0,t1,t12,t13,u1,u2,v1,v2,ck,lx,ly,ne,hc,hl.ok,hm.ok,cl]
  .rw[zze (by omega),zze (by omega)]at ha;subst ha;simp[t12,t13,ck]
 .have kk:¬((l.length:Int)=m.length):=by omega
  have cl:¬l=m:=fun e=>hlen (by rw[e]);simp[s0,s1,u1,v1,u2,v2,kk,cl,hlen]
theorem qS{l:List Nat}{i:Nat}{t:Nat}(h:l[i]?=some t):(tg l)[i]?=some (.int .u16 (t:Int)):=by unfold tg;rw[List.getElem?_map,h];rfl
theorem equal101{u v:AV}{l m:List Nat}(hl:Sl S u 1 (tg l))(hm:Sl S v 1 (tg m))(hle:l.length<=1048576)(hme:m.length<=1048576){Q:AV->AS->Prop}:az C0 101 [u,v] S Q=Q (.bool (decide (l=m))) S:=by
 refine az.eq (bu (dL _) (dF _ rfl) zf101 rfl zo101 (by simp) fun F hn s0 s1=>?_);rw[zn101]at hn;have u1:=hl.sl;have v1:=hm.sl;have u2:=hl.gx;have v2:=hm.gx;rw[rX]at u2 v2;by_cases hlen:l.length=m.length
 .rw[<-hlen]at v2;simp[s0,s1,u1,v1,u2,v2,hlen];refine aW (eqlG S u v l m) l.length (uj 0 (by simp[s0]) (by simp[s1]) (by simp[hlen]) (by simp) (zzf _) rfl (by simp) (by simp[hn])) ?_;rintro k F' S'-⟨i,rfl,t0,t1,t12,t13,hi,hk,ha,rK⟩;clear s0 s1 hn;by_cases ck:i<l.length
  .obtain⟨a,hx⟩:∃a,l[i]?=some a:=⟨_,zza ck⟩
   obtain⟨b,hy⟩:∃a,m[i]?=some a:=⟨_,zza (by omega)⟩
   have lx:=dV (cx:=C0) (e:=112) hl (qS hx) qw;have ly:=dV (cx:=C0) (e:=112) hm (qS hy) qw;have w1:=IntWalk.i64_in ((i:Int)+1) (by omega);simp[t0,t1,t12,t13,ck];refine iZ (n:=26) (by kernel_rfl) (by simp[rK]) ?_;by_cases hc:a=b
   .subst hc;simp[t0,t1,t12,t13,u1,u2,v1,v2,ck,lx,ly,hl.ok,hm.ok,w1];exact⟨l.length-(i+1),by omega,uj (i+1) (by simp[t0]) (by simp[t1]) (by simp[t12]) (by simp) ck rfl (jW ha hx hy rfl) (by simp[rK])⟩
   .have cl:¬l=m:=by rintro rfl;rw[hx]at hy;exact hc (Option.some.inj hy)
    have hcI:¬((a:Int)=b):=by omega
    simp[t0,t1,t12,t13,u1,u2,v1,v2,ck,lx,ly,hc,hcI,hl.ok,hm.ok,cl]
  .rw[zze (by omega),zze (by omega)]at ha;subst ha;simp[t12,t13,ck]
 .have kk:¬((l.length:Int)=m.length):=by omega
  have cl:¬l=m:=fun e=>hlen (by rw[e]);simp[s0,s1,u1,v1,u2,v2,kk,cl,hlen]
theorem zf102':C0.fns.get 102=some Tryz.f102:=by kernel_rfl
theorem zo102':okF C0 Tryz.f102=true:=by kernel_rfl
theorem equal102{v w:AV}{a b:List Nat}(h1:Sl S v 1 (bH a))(h2:Sl S w 1 (bH b))(ha:∀c,c∈a->c<256)(hb:∀c,c∈b->c<256){Q:AV->AS->Prop}:az C0 102 [v,w] S Q=Q (.bool (decide (a=b))) S:=by
 have tx:=fun (F:Fr) (dst:Option Tmp) (ty:TypeId) (pos:String) (af:Array Edge) (gd:Option (Nat×Bool)) (y:Tmp) (e:sl F y=v)=>gC (cx:=C0) (F:=F) (S:=S) (dst:=dst) (ty:=ty) (pos:=pos) (af:=af) (gd:=gd) (a:=48) (b:=9) h1 ha ((aA F y).trans e) qm tY;have tx2:=fun (F:Fr) (dst:Option Tmp) (ty:TypeId) (pos:String) (af:Array Edge) (gd:Option (Nat×Bool)) (y:Tmp) (e:sl F y=w)=>gC (cx:=C0) (F:=F) (S:=S) (dst:=dst) (ty:=ty) (pos:=pos) (af:=af) (gd:=gd) (a:=48) (b:=9) h2 hb ((aA F y).trans e) qm tY;have hq:wh .eql a b=some (.bool (decide (a=b))):=by
  show some (AV.bool (ph a b))=_;rw[aZ]
 refine az.eq (bu (dL _) (dF _ rfl) zf102' rfl zo102' (by simp) fun F hn s0 s1=>?_);simp[s0,s1,tx,tx2,hq,jM]
end
open Go.Proofs.YthklfandhmkpiaaGreatDoor.mod (kH bq dJ gY ek dj jm df cmpV xH cmpS CH Bm cmp194 Bl compare truth)
theorem zn219:Tryz.f219.ntmps=18:=by kernel_rfl
theorem zn222:Tryz.f222.ntmps=27:=by kernel_rfl
theorem zn223:Tryz.f223.ntmps=39:=by kernel_rfl
theorem zn183:Tryz.f183.ntmps=27:=by kernel_rfl
theorem zn182:Tryz.f182.ntmps=39:=by kernel_rfl
theorem sO(a:Int):xH a a=0:=by unfold xH;simp
theorem AD:∀l:List Nat,nK l l=false
 |[]=>rfl
 |a::l=>by
  show cond (Nat.blt a a) true (cond (Nat.beq a a) (nK l l) false)=false;rw[AD l,gJ];simp
theorem sN(a:List Nat):cmpS a a=0:=by unfold cmpS;rw[AD,aZ];simp
theorem cmpV_self(a:kH):cmpV a a=0:=by
 unfold cmpV;simp[sO,sN]
section
variable{S:AS}
def orH(S:AS)(u:AV)(n:Nat)(k:Nat)(F':Fr)(S':AS):Prop:=
 ∃i:Nat,S'=S/\sl F' 3=.int .i64 0/\sl F' 6=u/\sl F' 7=.int .i64 n/\sl F' 8=.int .i64 i/\i<=n/\k=n-i/\F'.n=18
theorem or219{u:AV}{n:Nat}(hu:Sl S u 1 (List.replicate n (.int .i64 0)))(hn:n<=1000){Q:AV->AS->Prop}:az C0 219 [u] S Q=Q (.int .i64 0) S:=by
 have u1:=hu.sl;have u2:=hu.gx;rw[List.length_replicate]at u2;have uk:=aj hu;refine az.eq (bD (dL _) (dF _ rfl) zf219 rfl zo219 (by simp) fun F ng s0=>?_);rw[zn219]at ng;simp[s0,u1,u2,uk];refine aW (orH S u n) n ⟨0,rfl,by simp,by simp,by simp,by simp,zzf _,rfl,by simp[ng]⟩ ?_;clear s0 ng;rintro k F' S'-⟨i,rfl,t3,t6,t7,t8,hi,hk,rK⟩;by_cases ck:i<n
 .have ld:=dV (cx:=C0) (e:=3) (k:=i) (x:=.int .i64 0) hu (by rw[List.getElem?_replicate,if_pos ck]) ag3;have w1:=IntWalk.i64_in ((i:Int)+1) (by omega);simp[t3,t6,t7,t8,ck,u1,u2,uk,ld,w1];exact⟨n-(i+1),by omega,i+1,rfl,by simp[t3],by simp[t6],by simp[t7],by simp,ck,rfl,by simp[rK]⟩
 .obtain rfl:i=n:=by omega
  simp[t3,t6,t7,t8]
theorem freshI4{F:Fr}{id:Nat}{a b c d:Tmp}(h1:sl F a=.int .i64 0)(h2:sl F b=.int .i64 0)(h3:sl F c=.int .i64 0)(h4:sl F d=.int .i64 0):aO C0 F id (.buildSlice 51 4 #[(0,.tmp a),(1,.tmp b),(2,.tmp c),(3,.tmp d)])=some (.slice id 0 0 4 4 1 (some 4),.row [.int .i64 0,.int .i64 0,.int .i64 0,.int .i64 0] 0 0 false 3):=by
 have:=bA (cx:=C0) (F:=F) (t:=51) (p:=(3,1,8)) (id:=id) (n:=4) (a:=#[(0,.tmp a),(1,.tmp b),(2,.tmp c),(3,.tmp d)]) [[.int .i64 0],[.int .i64 0],[.int .i64 0],[.int .i64 0]] (by kernel_rfl) rfl (by simp[aA,h1,h2,h3,h4,cellsOf]) (by simp) (by decide);simpa using this
theorem or4(T:AS){Q:AV->AS->Prop}:az C0 219 [.slice T.nx 0 0 4 4 1 (some 4)] ⟨T.h.set T.nx (.row [.int .i64 0,.int .i64 0,.int .i64 0,.int .i64 0] 0 0 false 3),T.nx+1⟩ Q=Q (.int .i64 0) ⟨T.h.set T.nx (.row [.int .i64 0,.int .i64 0,.int .i64 0,.int .i64 0] 0 0 false 3),T.nx+1⟩:=by
 refine or219 (n:=4) ⟨by simp[isSl,eS],?_,by simp[sLen],by simp[aV]⟩ (by omega);show rd _ _ _ _ (4*1) 4=_;rw[dP,get_set_same,cr,if_pos ⟨zzg _,zzg _,by omega⟩];rfl
theorem BW(a:kH)(S:AS):az C0 222 [.agg (bq a),.agg (bq a)] S fun r T=>r=.int .i64 0/\Sub S T:=by
 obtain⟨S1,dZ⟩:∃S1:AS,S1=⟨(S.h.set S.nx (.row (bq a) 0 0 false 92)).set (S.nx+1) (.row (bq a) 0 0 false 92),S.nx+2⟩:=⟨_,rfl⟩
 have h0:Sub S S1:=by rw[dZ];exact Go.Proofs.YthklfandhmkpiaaGreatDoor.mod.pY
 have g0:S1.h.get S.nx=some (.row (bq a) 0 0 false 92):=by rw[dZ];exact (ah _ _ (by omega)).trans (get_set_same _ _ _)
 have fH:S1.h.get (S.nx+1)=some (.row (bq a) 0 0 false 92):=by rw[dZ];exact get_set_same _ _ _
 have nS1:S1.nx=S.nx+2:=by rw[dZ]
 have fR:=dZ.symm;clear dZ;obtain⟨_,T1,⟨rfl,t1⟩,e1⟩:=(compare a a S1).ex;obtain⟨_,T2,⟨rfl,t2⟩,e2⟩:=(truth a.bool T1).ex;obtain⟨_,T3,⟨rfl,t3⟩,e3⟩:=(truth a.bool T2).ex;obtain⟨_,T4,⟨rfl,t4⟩,e4⟩:=(compare ⟨3,0,[],a.bool⟩ ⟨3,0,[],a.bool⟩ T3).ex;rw[cmpV_self]at e1 e4;have n1:=t1.nx;have n2:=t2.nx;have n3:=t3.nx;have g1:=(t1.h _ (by omega)).trans g0;have nP:=(t1.h _ (by omega)).trans fH;have g2:=(t2.h _ (by omega)).trans g1;have g2':=(t2.h _ (by omega)).trans nP;have c1:=fun Q:AV->AS->Prop=>cmp194 a.num a.num (S:=T1) (Q:=Q);have c2:=fun Q:AV->AS->Prop=>Bl a.str a.str (S:=T1) (Q:=Q);rw[sO]at c1;rw[sN]at c2;simp only[bq]at *;refine bu (dL _) (dF _ rfl) zf222 rfl zo222 (by simp) fun F hn s0 s1=>?_;rw[zn222]at hn;simp[s0,s1,fR];refine bg [.r 0 0,.r 0 0,.e [],.p,.r 1 0,.p,.r 1 0,.e [],.p,.r 2 0,.p,.r 2 0,.e [],.p,.r 3 0,.e [],.p,.r 4 0,.e [],.e [],.e [],.e [],.p] (n:=27) (by kernel_rfl) (by simp[hn]) ?_;simp[s0,s1,aK,g0,fH,g1,nP,g2,g2',e1,e2,e3,e4,c1,c2,freshI4,or4];exact (((h0.trans t1).trans t2).trans t3).trans (t4.trans Go.Proofs.YthklfandhmkpiaaGreatDoor.mod.dc)
def selfH(S:AS)(u g:AV)(n:Nat)(k:Nat)(F':Fr)(S':AS):Prop:=
 ∃i:Nat,Sub S S'/\sl F' 0=u/\sl F' 1=u/\sl F' 2=g/\sl F' 11=u/\sl F' 12=.int .i64 n/\sl F' 13=.int .i64 i/\i<=n/\k=n-i/\F'.n=39
theorem cmp223{u:AV}{l:List kH}(hu:Sl S u 4 (l.flatMap bq))(hl:l.length<=9223372036854775807):az C0 223 [u,u,.func (.func 222) [] []] S fun r T=>r=.int .i64 0/\Sub S T:=by
 have u1:=hu.sl;have u2:=hu.bj dJ (by omega);have uk:=aj hu;refine enter3 (dL _) (dF _ rfl) zf223 rfl zo223 (by simp) fun F hn s0 s1 s2=>?_;rw[zn223]at hn;simp[s0,s1,s2,u1,u2,uk];refine aW (selfH S u (.func (.func 222) [] []) l.length) l.length ⟨0,Sub.refl S,by simp[s0],by simp[s1],by simp[s2],by simp,by simp,by simp,zzf _,rfl,by simp[hn]⟩ ?_;clear s0 s1 s2 hn;rintro k F' S'-⟨i,hS,t0,t1,t2,t11,t12,t13,hi,hk,hn⟩;by_cases ck:i<l.length
 .obtain⟨a,hx⟩:∃a,l[i]?=some a:=⟨_,zza ck⟩
  have lx:=bh (cx:=C0) (e:=92) (hu.toSub hS) dJ (by omega) hx Go.Proofs.YthklfandhmkpiaaGreatDoor.bk.EG Go.Proofs.YthklfandhmkpiaaGreatDoor.bk.Ce;obtain⟨Z1,xh⟩:∃Z1:AS,Z1=⟨(S'.h.set S'.nx (.row [.int .i64 0,.int .i64 0,.str [],.bool false] 0 0 false 92)).set S'.nx (.row (bq a) 0 0 false 92),S'.nx+1⟩:=⟨_,rfl⟩
  have z1:Sub S' Z1:=by rw[xh];exact Go.Proofs.YthklfandhmkpiaaGreatDoor.mod.eb
  have g1:Z1.h.get S'.nx=some (.row (bq a) 0 0 false 92):=by rw[xh];exact get_set_same _ _ _
  have nZ1:S'.nx<Z1.nx:=by rw[xh];exact zzo _
  have lx2:=bh (cx:=C0) (e:=92) ((hu.toSub hS).toSub z1) dJ (by omega) hx Go.Proofs.YthklfandhmkpiaaGreatDoor.bk.EG Go.Proofs.YthklfandhmkpiaaGreatDoor.bk.Ce;have E2:=xh.symm;clear xh;obtain⟨Z2,AW⟩:∃Z2:AS,Z2=⟨(Z1.h.set Z1.nx (.row [.int .i64 0,.int .i64 0,.str [],.bool false] 0 0 false 92)).set Z1.nx (.row (bq a) 0 0 false 92),Z1.nx+1⟩:=⟨_,rfl⟩
  have z2:Sub Z1 Z2:=by rw[AW];exact Go.Proofs.YthklfandhmkpiaaGreatDoor.mod.eb
  have g2:Z2.h.get Z1.nx=some (.row (bq a) 0 0 false 92):=by rw[AW];exact get_set_same _ _ _
  have nP:=(z2.h _ nZ1).trans g1;have E1:=AW.symm;clear AW;obtain⟨_,U,⟨rfl,hU⟩,e1⟩:=(BW a Z2).ex;have w1:=IntWalk.i64_in ((i:Int)+1) (by omega);have c1:¬(l.length<=i):=by omega
  have kG:¬((l.length:Int)<=i):=by omega
  simp only[bq]at *;simp[t0,t1,t2,t11,t12,t13,ck,u1,u2,uk,lx,lx2,E2,E1,g1,g2,nP,e1,aK,w1,c1,kG];exact⟨l.length-(i+1),by omega,i+1,((hS.trans z1).trans z2).trans hU,by simp[t0],by simp[t1],by simp[t2],by simp[t11],by simp[t12],by simp,ck,rfl,by simp[hn]⟩
 .obtain rfl:i=l.length:=by omega
  simp[t0,t1,t2,t11,t12,t13,u1,u2,uk];exact hS
theorem order183(c:gY){S:AS}(hc:jm S c):az C0 183 [.agg (ek c),.agg (ek c)] S fun r T=>r=.int .i64 0/\Sub S T:=by
 obtain⟨S1,dZ⟩:∃S1:AS,S1=⟨(S.h.set S.nx (.row (ek c) 0 0 false 98)).set (S.nx+1) (.row (ek c) 0 0 false 98),S.nx+2⟩:=⟨_,rfl⟩
 have h0:Sub S S1:=by rw[dZ];exact Go.Proofs.YthklfandhmkpiaaGreatDoor.mod.pY
 have g0:S1.h.get S.nx=some (.row (ek c) 0 0 false 98):=by rw[dZ];exact (ah _ _ (by omega)).trans (get_set_same _ _ _)
 have fH:S1.h.get (S.nx+1)=some (.row (ek c) 0 0 false 98):=by rw[dZ];exact get_set_same _ _ _
 have nS1:S1.nx=S.nx+2:=by rw[dZ]
 have fR:=dZ.symm;clear dZ;have u1:=hc.sl.sl;have uk:=aj hc.sl;have uc:=hc.sl.cells;have c1:=fun Q:AV->AS->Prop=>Bl c.name c.name (S:=S1) (Q:=Q);have c2:=fun Q:AV->AS->Prop=>Bm c.op c.op (S:=S1) (Q:=Q);rw[sN]at c1;rw[sO]at c2;obtain⟨_,T1,⟨rfl,t1⟩,e1⟩:=(BW c.val S1).ex;have n1:=t1.nx;have g1:=(t1.h _ (by omega)).trans g0;have nP:=(t1.h _ (by omega)).trans fH;obtain⟨_,T2,⟨rfl,t2⟩,e2⟩:=(cmp223 ((hc.sub (h0.trans t1)).sl) hc.le).ex;simp only[ek,bq]at *;refine bu (dL _) (dF _ rfl) zf183 rfl zo183 (by simp) fun F hn s0 s1=>?_;rw[zn183]at hn;simp[s0,s1,fR,uc];refine bg [.p,.r 0 0,.p,.r 0 0,.e [],.p,.r 1 0,.p,.r 1 0,.e [],.p,.r 2 0,.p,.r 2 0,.e [],.p,.r 3 0,.p,.r 3 0,.e [],.e [],.e [],.p] (n:=27) (by kernel_rfl) (by simp[hn]) ?_;simp[s0,s1,aK,g0,fH,g1,nP,e1,e2,c1,c2,uk,uc,freshI4,or4];exact ((h0.trans t1).trans t2).trans Go.Proofs.YthklfandhmkpiaaGreatDoor.mod.dc
theorem cmp182{u:AV}{l:List gY}(hp:df S u l):az C0 182 [u,u,.func (.func 183) [] []] S fun r T=>r=.int .i64 0/\Sub S T:=by
 have hu:=hp.sl;have hl:=hp.le;have u1:=hu.sl;have u2:=hu.bj dj (by omega);have uk:=aj hu;refine enter3 (dL _) (dF _ rfl) zf182 rfl zo182 (by simp) fun F hn s0 s1 s2=>?_;rw[zn182]at hn;simp[s0,s1,s2,u1,u2,uk];refine aW (selfH S u (.func (.func 183) [] []) l.length) l.length ⟨0,Sub.refl S,by simp[s0],by simp[s1],by simp[s2],by simp,by simp,by simp,zzf _,rfl,by simp[hn]⟩ ?_;clear s0 s1 s2 hn;rintro k F' S'-⟨i,hS,t0,t1,t2,t11,t12,t13,hi,hk,hn⟩;by_cases ck:i<l.length
 .obtain⟨a,hx⟩:∃a,l[i]?=some a:=⟨_,zza ck⟩
  have ha:=hp.con a (List.mem_of_getElem? hx);have lx:=bh (cx:=C0) (e:=98) (hu.toSub hS) dj (by omega) hx Go.Proofs.YthklfandhmkpiaaGreatDoor.bk.zI Go.Proofs.YthklfandhmkpiaaGreatDoor.bk.yj;obtain⟨Z1,xh⟩:∃Z1:AS,Z1=⟨(S'.h.set S'.nx (.row [.str [],.int .i64 0,.int .i64 0,.int .i64 0,.str [],.bool false,.ar] 0 0 false 98)).set S'.nx (.row (ek a) 0 0 false 98),S'.nx+1⟩:=⟨_,rfl⟩
  have z1:Sub S' Z1:=by rw[xh];exact Go.Proofs.YthklfandhmkpiaaGreatDoor.mod.eb
  have g1:Z1.h.get S'.nx=some (.row (ek a) 0 0 false 98):=by rw[xh];exact get_set_same _ _ _
  have nZ1:S'.nx<Z1.nx:=by rw[xh];exact zzo _
  have lx2:=bh (cx:=C0) (e:=98) ((hu.toSub hS).toSub z1) dj (by omega) hx Go.Proofs.YthklfandhmkpiaaGreatDoor.bk.zI Go.Proofs.YthklfandhmkpiaaGreatDoor.bk.yj;have E2:=xh.symm;clear xh;obtain⟨Z2,AW⟩:∃Z2:AS,Z2=⟨(Z1.h.set Z1.nx (.row [.str [],.int .i64 0,.int .i64 0,.int .i64 0,.str [],.bool false,.ar] 0 0 false 98)).set Z1.nx (.row (ek a) 0 0 false 98),Z1.nx+1⟩:=⟨_,rfl⟩
  have z2:Sub Z1 Z2:=by rw[AW];exact Go.Proofs.YthklfandhmkpiaaGreatDoor.mod.eb
  have g2:Z2.h.get Z1.nx=some (.row (ek a) 0 0 false 98):=by rw[AW];exact get_set_same _ _ _
  have nP:=(z2.h _ nZ1).trans g1;have E1:=AW.symm;clear AW;obtain⟨_,U,⟨rfl,hU⟩,e1⟩:=(order183 a (((ha.sub hS).sub z1).sub z2)).ex;have w1:=IntWalk.i64_in ((i:Int)+1) (by omega);have c1:¬(l.length<=i):=by omega
  have kG:¬((l.length:Int)<=i):=by omega
  have ac:=ha.sl.cells;have ak:=aj ha.sl;have ab:=ha.sl.base;have ao:=ha.sl.ok;simp only[ek]at *;simp[t0,t1,t2,t11,t12,t13,ck,u1,u2,uk,lx,lx2,E2,E1,g1,g2,nP,e1,aK,w1,c1,kG,ac,ak,ab,ao];exact⟨l.length-(i+1),by omega,i+1,((hS.trans z1).trans z2).trans hU,by simp[t0],by simp[t1],by simp[t2],by simp[t11],by simp[t12],by simp,ck,rfl,by simp[hn]⟩
 .obtain rfl:i=l.length:=by omega
  simp[t0,t1,t2,t11,t12,t13,u1,u2,uk];exact hS
end
open Go.Proofs.YthklfandhmkpiaaGreatDoor.val (ew mw)
section
variable{S:AS}
theorem cmp182n{u:AV}{l:List gY}(hp:df S u l){Q:AV->AS->Prop}:az C0 182 [.ar,u,.func (.func 183) [] []] S Q=Q (.int .i64 (if l=[] then 0 else -1)) S:=by
 have hu:=hp.sl;have hl:=hp.le;have u1:=hu.sl;have u2:=hu.bj dj (by omega);have uk:=aj hu;refine az.eq (enter3 (dL _) (dF _ rfl) zf182 rfl zo182 (by simp) fun F hn s0 s1 s2=>?_);rw[zn182]at hn;simp[s0,s1,s2];refine aW (fun k F' S'=>S'=S/\sl F' 0=.ar/\sl F' 1=u/\sl F' 12=.int .i64 0/\sl F' 13=.int .i64 0) 0 ⟨rfl,by simp[s0],by simp[s1],by simp,by simp⟩ ?_;rintro k F' S'-⟨rfl,t0,t1,t12,t13⟩;cases l with
 |nil=>simp[t0,t1,t12,t13,u1,u2,uk]
 |cons a l=>
  have c1:(0:Int)<(l.length:Int)+1:=by omega
  simp[t0,t1,t12,t13,u1,u2,uk,c1]
theorem same98{p' p:AV}{ks' ks:List gY}(hp:df S p ks)(h:(p'=p/\ks'=ks)\/(p'=.ar/\ks'=[])):az C0 98 [p',p] S fun r T=>(∃b,r=.bool b/\(b=true↔ks'=ks))/\Sub S T:=by
 have uk:=aj hp.sl;rcases h with⟨rfl,rfl⟩|⟨rfl,rfl⟩
 .obtain⟨_,T,⟨rfl,hT⟩,e⟩:=(cmp182 hp).ex;have e134:∀Q,az C0 134 [p',p'] S Q=Q (.int .i64 0) T:=fun Q=>az.eq (ej (dL _) (dF _ rfl) zf134 rfl zo134 (by simp) fun F hn hs=>by
   have s0:=hs 0;have s1:=hs 1;clear hs;simp only[zzj,zzr,zzm]at s0 s1;simp[s0,s1,e,aK,uk])
  refine bu (dL _) (dF _ rfl) zf98 rfl zo98 (by simp) fun F hn s0 s1=>?_;simp[s0,s1,e134,aK,uk];exact hT
 .have e:=fun Q:AV->AS->Prop=>cmp182n hp (Q:=Q);have e134:∀Q,az C0 134 [.ar,p] S Q=Q (.int .i64 (if ks=[] then 0 else -1)) S:=fun Q=>az.eq (ej (dL _) (dF _ rfl) zf134 rfl zo134 (by simp) fun F hn hs=>by
   have s0:=hs 0;have s1:=hs 1;clear hs;simp only[zzj,zzr,zzm]at s0 s1;simp[s0,s1,e,aK,uk])
  refine bu (dL _) (dF _ rfl) zf98 rfl zo98 (by simp) fun F hn s0 s1=>?_;by_cases hk:ks=[]
  .simp[s0,s1,e134,aK,uk,hk,Sub.refl]
  .have hk':¬[]=ks:=fun e=>hk e.symm;simp[s0,s1,e134,aK,uk,hk,hk',Sub.refl]
theorem DU(c:Bool)(a1 a2 a3 b1 b2 b3:Int):bI C0 .eql 45 c (.agg [.int .i64 a1,.int .i64 a2,.int .i64 a3]) (.agg [.int .i64 b1,.int .i64 b2,.int .i64 b3])=some (.bool (decide (a1=b1/\a2=b2/\a3=b3))):=by
 refine oJ ?_;have e:qh C0 45 c (.agg [.int .i64 a1,.int .i64 a2,.int .i64 a3]) (.agg [.int .i64 b1,.int .i64 b2,.int .i64 b3])=fB (some (pP a1 b1)) (fB (some (pP a2 b2)) (fB (some (pP a3 b3)) (some true))):=by kernel_rfl
 rw[e,cQ,cQ,cQ];unfold fB;by_cases h1:a1=b1<;>by_cases h2:a2=b2<;>by_cases h3:a3=b3<;>simp[h1,h2,h3]
set_option maxHeartbeats 4000000 in
theorem same52{y x:cy}(hy:jz S y)(hx:jz S x)(hp:(y.pv=x.pv/\y.e.cs=x.e.cs)\/(y.pv=.ar/\y.e.cs=[])):az C0 52 [.agg y.c,.agg x.c] S fun r T=>Sub S T/\∃b,r=.bool b/\(b=true↔y.e=x.e):=by
 obtain⟨S1,dZ⟩:∃S1:AS,S1=⟨(S.h.set S.nx (.row y.c 0 0 false 74)).set (S.nx+1) (.row x.c 0 0 false 74),S.nx+2⟩:=⟨_,rfl⟩
 have h0:Sub S S1:=by rw[dZ];exact Go.Proofs.YthklfandhmkpiaaGreatDoor.mod.pY
 have g0:S1.h.get S.nx=some (.row y.c 0 0 false 74):=by rw[dZ];exact (ah _ _ (by omega)).trans (get_set_same _ _ _)
 have fH:S1.h.get (S.nx+1)=some (.row x.c 0 0 false 74):=by rw[dZ];exact get_set_same _ _ _
 have nS1:S1.nx=S.nx+2:=by rw[dZ]
 have fR:=dZ.symm;clear dZ;obtain⟨_,T1,⟨⟨bp,rfl,hbp⟩,t1⟩,e1⟩:=(same98 (hx.pred.sub h0) hp).ex;obtain⟨_,T2,⟨rfl,t2⟩,e2⟩:=(mw (a:=y.e.key) (b:=x.e.key) (hy.aR.sub (h0.trans t1)) (hx.aR.sub (h0.trans t1))).ex;have n1:=t1.nx;have n2:=t2.nx;have g1:=(t1.h _ (by omega)).trans g0;have nP:=(t1.h _ (by omega)).trans fH;have g2:=(t2.h _ (by omega)).trans g1;have g2':=(t2.h _ (by omega)).trans nP;have hT:=(h0.trans t1).trans t2;have e3:=fun Q:AV->AS->Prop=>equal100 (hy.aS.toSub hT) (hx.aS.toSub hT) hy.sl hx.sl (Q:=Q);have e4:=fun Q:AV->AS->Prop=>equal101 (hy.bX.toSub hT) (hx.bX.toSub hT) hy.pl hx.pl (Q:=Q);have e5:=fun Q:AV->AS->Prop=>equal102 (hy.eH.toSub hT) (hx.eH.toSub hT) hy.dK.eH hx.dK.eH (Q:=Q);have y1:=aj hy.pred.sl;have y2:=aj hy.aR.sl;have y3:=aj hy.aS;have y4:=aj hy.bX;have y5:=aj hy.eH;have y6:=hy.aR.sl.ok;have x1:=aj hx.pred.sl;have x2:=aj hx.aR.sl;have x3:=aj hx.aS;have x4:=aj hx.bX;have x5:=aj hx.eH;have x6:=hx.aR.sl.ok;have yc1:=hy.pred.sl.cells;have xc1:=hx.pred.sl.cells;clear hy hx hp;obtain⟨⟨yk,yb,yp,yi,yu,yn,ycs,yky,yat,yst,ya,yby,yco,ypk,yto⟩,ypv,yav,ysv,ykv,ytv⟩:=y;obtain⟨⟨xk,xb,xp,xi,xu,xn,xcs,xky,xat,xst,xa,xby,xco,xpk,xto⟩,xpv,xav,xsv,xkv,xtv⟩:=x;simp only[cy.c]at *;simp only[Ev.mk.injEq];refine bu (dL _) (dF _ rfl) zf52 rfl zo52 (by simp) fun F hn s0 s1=>?_;by_cases k1:yk=xk
 case neg=>simp[s0,s1,fR,g0,fH,k1];exact h0
 subst k1;by_cases k1:yb=xb
 case neg=>simp[s0,s1,fR,g0,fH,k1];exact h0
 subst k1;by_cases k1:yp=xp
 case neg=>simp[s0,s1,fR,g0,fH,k1];exact h0
 subst k1;by_cases k1:yi=xi
 case neg=>simp[s0,s1,fR,g0,fH,k1];exact h0
 subst k1;by_cases k1:yu=xu
 case neg=>simp[s0,s1,fR,g0,fH,k1];exact h0
 subst k1;by_cases k1:yn=xn
 case neg=>
  have k2:¬((yn:Int)=xn):=by omega
  simp[s0,s1,fR,g0,fH,k1,k2];exact h0
 subst k1;by_cases k1:ya=xa/\yby=xby/\yco=xco
 case neg=>
  simp[s0,s1,fR,g0,fH,DU,k1];exact⟨h0,fun a1 a2 a3 a4 a5 a6 a7=>absurd ⟨a5,a6,a7⟩ k1⟩
 obtain⟨rfl,rfl,rfl⟩:=k1;by_cases k1:ycs=xcs
 case neg=>
  have hb:bp=false:=by cases bp with|false=>rfl|true=>exact absurd (hbp.1 rfl) k1
  subst hb;simp[s0,s1,fR,g0,fH,DU,y1,x1,e1,aK,k1];exact h0.trans t1
 obtain rfl:=hbp.2 k1;subst k1;have q1:Sub S T1:=h0.trans t1;by_cases k1:yky=xky
 case neg=>
  simp[k1]at e2;simp[s0,s1,fR,g0,fH,DU,y1,x1,e1,aK,k1,g1,nP,y2,x2,y6,x6,e2];exact hT
 subst k1;by_cases k1:yat=xat
 case neg=>
  simp[k1]at e2;simp[s0,s1,fR,g0,fH,DU,y1,x1,e1,aK,k1,g1,nP,y2,x2,y6,x6,e2];exact hT
 subst k1;simp at e2;by_cases k1:yst=xst
 case neg=>
  simp[s0,s1,fR,g0,fH,DU,y1,x1,e1,aK,k1,g1,nP,y2,x2,y6,x6,e2,e3,g2,g2',y3,x3];exact hT
 subst k1;by_cases k1:ypk=xpk
 case neg=>
  simp[s0,s1,fR,g0,fH,DU,y1,x1,e1,aK,k1,g1,nP,y2,x2,y6,x6,e2,e3,g2,g2',y3,x3,e4,y4,x4];exact hT
 subst k1;by_cases k1:yto=xto
 case neg=>
  simp[s0,s1,fR,g0,fH,DU,y1,x1,e1,aK,k1,g1,nP,y2,x2,y6,x6,e2,e3,g2,g2',y3,x3,e4,y4,x4,e5,y5,x5];exact hT
 subst k1;simp[s0,s1,fR,g0,fH,DU,y1,x1,e1,aK,g1,nP,y2,x2,y6,x6,e2,e3,g2,g2',y3,x3,e4,y4,x4,e5,y5,x5];exact hT
end
open Go.Proofs.YthklfandhmkpiaaGreatDoor.mod (qY iw)
open Go.Proofs.YthklfandhmkpiaaGreatDoor.val (pg dc)
theorem zn25:Tryz.f25.ntmps=39:=by kernel_rfl
section
variable{S:AS}
theorem app_sl9{v u:AV}{ts us:List (List Nat)}(hg:Gw S v 1 9 (dE ts))(hx:Sl S u 1 (dE us))(hl:ts.length+us.length<=1000000000):
  ∃v' T,aY C0 S .append [86,86] [v,u]=.val v' T/\Gw T v' 1 9 (dE (ts++us))/\(∀id,id<S.nx->aV v≠id+1->T.h.get id=S.h.get id)/\S.nx<=T.nx/\(aV v'=aV v\/S.nx<aV v'):=by
 have l1:=hg.1.gx;have l2:=hx.gx;rw[ie]at l1 l2;obtain⟨v',V,e2,r1,r2,r3,r4,r5,r6,r7⟩:=dr (cx:=C0) (ts:=[]) (t:=86) (u:=86) (p:=(9,1,16)) dh un69 rfl hg hx (by rw[l1,l2];simp[fits,cG];omega);simp only at r1;exact⟨v',V,e2,by unfold dE at r1⊢;rw[List.map_append];exact r1,fun id h1 h2=>r2 id h1 (fun e=>h2 e.symm),r3,r6⟩
theorem sr(k:Int):(cd k).length<=100/\∀c,c∈cd k->c<256:=by
 by_cases h:cd k=[]
 .rw[h];simp
 .obtain⟨h1,h2⟩:=mj h;obtain⟨i,rfl⟩:∃i:Nat,k=i:=⟨k.toNat,by omega⟩
  have:∀i,i<17->(cd (i:Nat)).length<=100/\∀c,c∈cd (i:Nat)->c<256:=by decide
  exact this i (by omega)
set_option maxHeartbeats 4000000 in
theorem evText25(hN:Names){x:cy}(hx:jz S x):az C0 25 [.agg x.c] S fun r T=>Sub S T/\∃b,r=.tuple [.str x.e.text,.bool b]/\(b=true↔x.e.nS):=by
 have h1:Sub S ⟨S.h.set S.nx (.row x.c 0 0 false 74),S.nx+1⟩:=dc;obtain⟨S1,dZ⟩:∃S1:AS,S1=⟨S.h.set S.nx (.row x.c 0 0 false 74),S.nx+1⟩:=⟨_,rfl⟩
 rw[<-dZ]at h1;have g1:S1.h.get S.nx=some (.row x.c 0 0 false 74):=by rw[dZ];exact get_set_same _ _ _
 have n1:S1.nx=S.nx+1:=by rw[dZ]
 have fR:=dZ.symm;clear dZ;obtain⟨_,T1,⟨t1,v,rfl,hv⟩,e1⟩:=(parts50 (hx.sub h1)).ex;have tn1:=t1.nx;have g2:=(t1.h _ (by omega)).trans g1;obtain⟨S2,pO⟩:∃S2:AS,S2=⟨(T1.h.set T1.nx (.row dQ 0 0 false 74)).set T1.nx (.row x.bare.c 0 0 false 74),T1.nx+1⟩:=⟨_,rfl⟩
 have h2:Sub T1 S2:=by rw[pO];exact Go.Proofs.YthklfandhmkpiaaGreatDoor.mod.eb
 have g3:S2.h.get T1.nx=some (.row x.bare.c 0 0 false 74):=by rw[pO];exact get_set_same _ _ _
 have g4:=(h2.h _ (by omega)).trans g2;have n2:S2.nx=T1.nx+1:=by rw[pO]
 have bS2:=pO.symm;clear pO;have hS12:=(h1.trans t1).trans h2;have hp:(x.bare.pv=x.pv/\x.bare.e.cs=x.e.cs)\/(x.bare.pv=.ar/\x.bare.e.cs=[]):=by
  unfold cy.bare Ev.bare;by_cases hk:x.e.kind=1\/x.e.kind=4
  .exact .inl ⟨if_pos hk,if_pos hk⟩
  .exact .inr ⟨if_neg hk,if_neg hk⟩
 obtain⟨_,T2,⟨t2,bs,rfl,hbs⟩,e2⟩:=(same52 ((hx.sub hS12).bare) (hx.sub hS12) hp).ex;have tn2:=t2.nx;have g5:=(t2.h _ (by omega)).trans g4;have hS2':=hS12.trans t2;obtain⟨_,T3,⟨rfl,t3⟩,e3⟩:=(qY (hx.pred.sub hS2')).ex;have tn3:=t3.nx;have g6:=(t3.h _ (by omega)).trans g5;have hS3:=hS2'.trans t3;obtain⟨_,T4,⟨rfl,t4⟩,e4⟩:=(pg (key:=x.e.key) (hx.aR.sub hS3)).ex;have tn4:=t4.nx;have hS4:=hS3.trans t4;have g7:=(t4.h _ (by omega)).trans g6;obtain⟨tr,tl⟩:=ev_toks hx;obtain⟨ts1,ts2⟩:=iY tr tl;obtain⟨nl,nb⟩:=sr x.e.kind;have tail:∀W,Sub S2 W->∃v' U T',aY C0 ⟨W.h.set W.nx (.row [.str (cd x.e.kind)] 0 0 false 9),W.nx+1⟩ .append [86,86] [.slice W.nx 0 0 1 1 1 (some 1),v]=.val v' U/\(∀Q,az C0 55 [v'] U Q=Q (.str x.e.text) T')/\Sub S T'/\okW v'=true:=fun W hW=>by
  have BL:Sl (⟨W.h.set W.nx (.row [.str (cd x.e.kind)] 0 0 false 9),W.nx+1⟩:AS) v 1 (dE (x.e.fu.map Tok.text)):=((hv.toSub h2).toSub hW).toSub dc;obtain⟨v',U,a1,a2,a3,a4,a5⟩:=app_sl9 (gw_one (T:=W) (t:=cd x.e.kind)) BL (by rw[zzd];simp only[zzb,List.length_nil];omega);obtain⟨_,T',⟨rfl,lA⟩,e⟩:=(si (S:=U) (u:=v') (t0:=cd x.e.kind) (l:=x.e.fu.map Tok.text) a2.1 (fun t ht=>by
   rcases List.mem_cons.1 ht with rfl|ht
   .exact nb
   .exact ts2 t ht) (by rw[zzd];omega)).ex
  have hWU:Sub W U:=⟨fun id cw=>(a3 id (by show id<W.nx+1;omega) (by simp only[aV];omega)).trans (ah _ _ (by omega)),by have:W.nx+1<=U.nx:=a4;omega⟩
  refine⟨v',U,T',a1,fun Q=>?_,(hS12.trans hW).trans (hWU.trans lA),aj a2.1⟩;rw[e Q];unfold Ev.text;rw[mI]
 have nm:=fun (S:AS) (Q:AV->AS->Prop)=>name51 hN x.e.kind (S:=S) (Q:=Q);have wL:=aj hx.pred.sl;have wK:=aj hx.aR.sl;have CV:=hx.aR.sl.ok;have CU:=hx.aR.sl.base;have fE:=aj hv;have okc:x.e.nS↔(cd x.e.kind≠[]/\x.e.bare=x.e/\iw x.e.cs=true/\gl x.e.key x.e.aR=true):=⟨fun h=>⟨h.name,h.bare,h.cs,h.ev⟩,fun h=>⟨h.1,h.2.1,h.2.2.1,h.2.2.2⟩⟩
 rw[okc];have hbs':bs=true↔x.e.bare=x.e:=hbs;clear hbs okc hv hp tr tl ts1 ts2 nl nb;have hy:=hx.bare;obtain⟨y,EU⟩:∃y,y=x.bare:=⟨_,rfl⟩
 rw[<-EU]at bS2 e1 e2 g3 hy;have y1:=aj hy.pred.sl;have y2:=aj hy.aR.sl;have y3:=aj hy.aS;have y4:=aj hy.bX;have y5:=aj hy.eH;have y6:=hy.aR.sl.ok;have y7:=hy.aR.sl.base;have x3:=aj hx.aS;have x4:=aj hx.bX;have x5:=aj hx.eH;clear EU;simp only[cy.c,dQ]at fR bS2 g1 g2 g3 g4 g5 g6 g7 e1 e2;refine ej (dL _) (dF _ rfl) zf25 rfl zo25 (by simp) fun F hn hs=>?_;rw[zn25]at hn;have s0:=hs 0;clear hs;simp only[zzj,zzm,cy.c]at s0;by_cases k1:cd x.e.kind=[]
 case pos=>
  obtain⟨v',U,T',a1,a2,a3,a4⟩:=tail S2 (Sub.refl _);rw[k1]at a1 nm;simp[s0,fR,e1,aK,bS2,g1,g2,g3,g4,nm,aZ,aB dh,a1,a2,a4,fE,wL,wK,CV,CU,y1,y2,y3,y4,y5,y6,y7,x3,x4,x5];exact⟨a3,fun h=>absurd k1 h⟩
 cases bs with
 |false=>
  have hb:¬x.e.bare=x.e:=fun h=>by have:=hbs'.2 h;cases this
  obtain⟨v',U,T',a1,a2,a3,a4⟩:=tail T2 t2;simp[s0,fR,e1,aK,bS2,g1,g2,g3,g4,nm,aZ,aB dh,a1,a2,a4,fE,wL,wK,CV,CU,y1,y2,y3,y4,y5,y6,y7,x3,x4,x5,k1,e2,g5];exact⟨a3,fun h=>absurd h hb⟩
 |true=>
  have hb:=hbs'.1 rfl;cases hm:iw x.e.cs with
  |false=>
   rw[hm]at e3;obtain⟨v',U,T',a1,a2,a3,a4⟩:=tail T3 (t2.trans t3);simp[s0,fR,e1,aK,bS2,g1,g2,g3,g4,nm,aZ,aB dh,a1,a2,a4,fE,wL,wK,CV,CU,y1,y2,y3,y4,y5,y6,y7,x3,x4,x5,k1,e2,e3,g5,g6];exact a3
  |true=>
   rw[hm]at e3;cases hv:gl x.e.key x.e.aR with
   |false=>
    rw[hv]at e4;obtain⟨v',U,T',a1,a2,a3,a4⟩:=tail T4 ((t2.trans t3).trans t4);simp[s0,fR,e1,aK,bS2,g1,g2,g3,g4,nm,aZ,aB dh,a1,a2,a4,fE,wL,wK,CV,CU,y1,y2,y3,y4,y5,y6,y7,x3,x4,x5,k1,e2,e3,e4,g5,g6,g7];exact a3
   |true=>
    rw[hv]at e4;obtain⟨v',U,T',a1,a2,a3,a4⟩:=tail T4 ((t2.trans t3).trans t4);simp[s0,fR,e1,aK,bS2,g1,g2,g3,g4,nm,aZ,aB dh,a1,a2,a4,fE,wL,wK,CV,CU,y1,y2,y3,y4,y5,y6,y7,x3,x4,x5,k1,e2,e3,e4,g5,g6,g7,hb];exact a3
end
open Go.Proofs.YthklfandhmkpiaaGreatDoor.bk (eW)
theorem map_at:∀{l m:List (Int×Nat)},(l.map fun s=>Tok.at_ s.1 s.2)=(m.map fun s=>Tok.at_ s.1 s.2)->l=m
 |[],[],_=>rfl
 |[],_::_,h=>by cases h
 |_::_,[],h=>by cases h
 |a::l,b::m,h=>by
  simp only[zzq,List.cons.injEq,Tok.at_.injEq]at h;obtain⟨⟨h1,h2⟩,h3⟩:=h;rw[map_at h3,Prod.ext h1 h2]
theorem C4:∀{l m:List Nat},(l.map fun (p:Nat)=>Tok.num (p:Int))=(m.map fun (p:Nat)=>Tok.num (p:Int))->l=m
 |[],[],_=>rfl
 |[],_::_,h=>by cases h
 |_::_,[],h=>by cases h
 |a::l,b::m,h=>by
  simp only[zzq,List.cons.injEq,Tok.num.injEq]at h;obtain⟨h1,h3⟩:=h;rw[C4 h3,Int.ofNat.inj h1]
theorem bare_same{a b:Ev}(hk:a.kind=b.kind)(k1:1<=a.kind)(k2:a.kind<=16)(hc:gy a.cs=gy b.cs->a.cs.map cz=b.cs.map cz)(h:a.fu=b.fu):a.bare.same b.bare:=by
 obtain⟨k,br,pl,id,pu,n,cs,key,aR,sts,ag,by_,co,pk,to⟩:=a;obtain⟨k',br',dT,vA,pu',n',cs',key',atts',sts',ag',by',co',pk',to'⟩:=b;simp only at hk k1 k2 hc;subst hk;unfold Ev.same Ev.bare;unfold Ev.fu at h;simp only at h⊢;have hk:k=1\/k=2\/k=3\/k=4\/k=5\/k=6\/k=7\/k=8\/k=9\/(10<=k/\k<=13)\/k=14\/k=15\/k=16:=by omega
 rcases hk with rfl|rfl|rfl|rfl|rfl|rfl|rfl|rfl|rfl|hk|rfl|rfl|rfl
 .simp at h⊢;exact⟨h.1,h.2.1,hc h.2.2⟩
 .simp at h⊢;exact h
 .simp at h⊢;exact h
 .simp at h⊢;exact⟨h.1,h.2.1,hc h.2.2.1,map_at h.2.2.2⟩
 .simp at h⊢;exact h
 .simp at h⊢;exact h
 .simp at h⊢;exact h
 .simp at h⊢;exact h
 .simp at h⊢;exact h
 .have e1:¬k=1:=by omega
  have e2:¬k=2:=by omega
  have e3:¬k=3:=by omega
  have e4:¬k=4:=by omega
  have e5:¬k=5:=by omega
  have e6:¬k=6:=by omega
  have e7:¬k=7:=by omega
  have e8:¬k=8:=by omega
  have e14:¬k=14:=by omega
  have e15:¬k=15:=by omega
  have e16:¬k=16:=by omega
  simp[e1,e2,e3,e4,e5,e6,e7,e8,e14,e15,e16,hk]at h⊢;exact h
 .simp at h⊢;exact⟨h.1,C4 h.2.2,h.2.1⟩
 .simp at h⊢;exact h
 .simp at h⊢;exact h
theorem Ac{e:Ev}:e.text=cd e.kind++(ea e.fu++10::[]):=by
 unfold Ev.text;rw[List.append_assoc]
theorem text_iff{a b:Ev}(ra:a.E3)(rb:b.E3)(ma:a.nS)(mb:b.nS):a.text=b.text↔a.same b:=by
 constructor
 .intro h;rw[Ac,Ac]at h;obtain⟨h1,h2⟩:=vt ma.name mb.name (eF _ _) (eF _ _) h;have fb:=Cb rb mb;rw[<-h1]at fb;obtain⟨h3,_⟩:=lP (Cb ra ma) fb h2;obtain⟨k1,k2⟩:=mj ma.name;have:=bare_same h1 k1 k2 (fun h=>formP_inj ma.cs mb.cs ra.cs rb.cs h) h3;rw[ma.bare,mb.bare]at this;exact this
 .rintro⟨h1,h2,h3,h4,h5,h6,h7,h8,h9,cM,fC,jK,h13,h14,h15⟩;have h7':=(formP_bare h7).1;unfold Ev.text Ev.fu;rw[h1,h2,h3,h4,h5,h6,h7',h8,h9,cM,fC,jK,h13,h14,h15]
open Go.Proofs.YthklfandhmkpiaaGreatDoor.val (cN ff fJ)
theorem zn24:Tryz.f24.ntmps=31:=by kernel_rfl
section
variable{S:AS}
theorem len48{b:Nat}{v:AV}{out:List Nat}(h:cN S b v out){Q:AV->AS->Prop}:az C0 48 [.ptr b 0 0 2] S Q=Q (.int .i64 out.length) S:=by
 obtain⟨p,hp,_⟩:=h.at_;have u1:=h.gw.1.sl;have u2:=h.gw.1.gx;rw[bM]at u2;have uk:=aj h.gw.1;refine az.eq (bD (dL _) (dF _ rfl) zf48 rfl zo48 (by simp) fun F hn s0=>?_);simp[s0,hp,u1,u2,uk]
theorem qA{x:cy}(hx:jz S x):x.e.text.length<=8700000000000/\(∀c,c∈x.e.text->c<256)/\x.e.text≠[]:=by
 obtain⟨h1,h2⟩:=ev_toks hx;obtain⟨h3,h4⟩:=iY h1 h2;obtain⟨h5,h6⟩:=sr x.e.kind;have h7:=eU (x.e.fu.map Tok.text);rw[zzd]at h7;rw[Ac,mI];refine⟨?_,fun c hc=>?_,fun e=>by simpa using congrArg List.length e⟩
 .rw[zzc,zzc,h7];simp only[zzb,List.length_nil];omega
 .rcases List.mem_append.1 hc with h|h
  .exact h6 c h
  .rcases List.mem_append.1 h with h|h
   .unfold cg at h;obtain⟨t,ht,h⟩:=List.mem_flatMap.1 h;rcases List.mem_cons.1 h with h|h
    .omega
    .exact h4 t ht c h
   .simp at h;omega
def Wrtn(l:List Ev)(s:List Nat)(e:Int):Prop:=
 ((∀x,x∈l->x.nS)->(l.flatMap Ev.text).length<=131072->s=l.flatMap Ev.text/\e=0)/\((∀x,x∈l->x.nS)->¬(l.flatMap Ev.text).length<=131072->s=[]/\e=3)/\(¬(∀x,x∈l->x.nS)->s=[]/\e=1)
def wrtH(S:AS)(l:List cy)(u:AV)(k:Nat)(F':Fr)(S':AS):Prop:=
 ∃(i:Nat)(v:AV),cN S' S.nx v ((l.take i).flatMap fun x=>x.e.text)/\Sub S S'/\(aV v=0\/S.nx<aV v)/\(∀x,x∈l.take i->x.e.nS)/\sl F' 1=.func (.func 25) [] []/\sl F' 6=.ptr S.nx 0 0 2/\sl F' 11=u/\sl F' 12=.int .i64 l.length/\sl F' 13=.int .i64 i/\i<=l.length/\F'.n=31/\k=l.length-i
theorem kX{α:Type}{f:α->List Nat}{k:Nat}:∀{l:List α},(∀a,a∈l->(f a).length<=k)->(l.flatMap f).length<=l.length*k
 |[],_=>by simp
 |a::l,h=>by
  have h1:=h a (zzl ..);have h2:=kX (f:=f) (k:=k) (l:=l) fun b hb=>h b (List.mem_cons_of_mem _ hb);rw[zzn,zzc,zzb,Nat.succ_mul];omega
theorem written24(hN:Names){u:AV}{l:List cy}(hu:Sl S u 15 (l.flatMap cy.c))(hl:∀x,x∈l->jz S x)(h1:1<=l.length)(cM:l.length<=10):az C0 24 [u,.func (.func 25) [] []] S fun r T=>Sub S T/\∃s e,r=.tuple [.str s,.int .i64 e]/\Wrtn (l.map cy.e) s e:=by
 have u1:=hu.sl;have u2:=hu.bj cy.dm (by omega);have uk:=aj hu;have hA:Sub S ⟨S.h.set S.nx (.row [.cT,.ar] 0 0 false 136),S.nx+1⟩:=dc;have h0:cN ⟨S.h.set S.nx (.row [.cT,.ar] 0 0 false 136),S.nx+1⟩ S.nx .ar []:=⟨zzo _,⟨_,get_set_same _ _ _,.inl rfl⟩,Gw.nil,by simp[aV]⟩
 refine bu (dL _) (dF _ rfl) zf24 rfl zo24 (by simp) fun F hn s0 s1=>?_;rw[zn24]at hn;simp[s0,s1,u1,u2,uk];refine aW (wrtH S l u) l.length ⟨0,.ar,by simpa using h0,hA,.inl rfl,by simp,by simp[s1],by simp,by simp,by simp,by simp,zzf _,by simp[hn],rfl⟩ ?_;clear s0 s1 hn h0 hA;rintro k F' S'-⟨i,v,hB,hS,hv,hm,t1,t6,t11,t12,t13,hi,hn,hk⟩;have hSn:=hS.nx;have sy:∀j,((l.take j).flatMap fun x=>x.e.text).length<=87000000000000:=fun j=>by
  have h3:=kX (f:=fun x:cy=>x.e.text) (k:=8700000000000) (l:=l.take j) fun x hx=>(qA (hl x (List.mem_of_mem_take hx))).1;have h4:(l.take j).length<=10:=by rw[List.length_take];omega
  have h5:(l.take j).length*8700000000000<=10*8700000000000:=Nat.mul_le_mul_right _ h4;omega
 by_cases ck:i<l.length
 .obtain⟨x,hx⟩:∃x,l[i]?=some x:=⟨_,zza ck⟩
  have hxm:=List.mem_of_getElem? hx;have ld:=bh (cx:=C0) (e:=74) (hu.toSub hS) cy.dm (by omega) hx z_ag74 z_sz74;obtain⟨Z,hZ⟩:∃Z:AS,Z=⟨(S'.h.set S'.nx (.row dQ 0 0 false 74)).set S'.nx (.row x.c 0 0 false 74),S'.nx+1⟩:=⟨_,rfl⟩
  have z1:Sub S' Z:=by rw[hZ];exact Go.Proofs.YthklfandhmkpiaaGreatDoor.mod.eb
  have gz:Z.h.get S'.nx=some (.row x.c 0 0 false 74):=by rw[hZ];exact get_set_same _ _ _
  have bZ:=hZ.symm;clear hZ;obtain⟨_,T,⟨hT,b,rfl,hb⟩,e1⟩:=(evText25 hN ((hl x hxm).sub (hS.trans z1))).ex;have lA:=z1.trans hT;have cR:=hB.lt;have hold:=hB.gw.1.old;have ox:=hB.self;have hBT:cN T S.nx v ((l.take i).flatMap fun x=>x.e.text):=by
   obtain⟨p,hp,wM⟩:=hB.at_;exact⟨Nat.lt_of_lt_of_le cR lA.nx,⟨p,(lA.h _ cR).trans hp,wM⟩,hB.gw.cE (fun id e=>lA.h id (by omega)) lA.nx,ox⟩
  have xl:=qA (hl x hxm);have kJ:=hl x hxm;have kj:l.take (i+1)=l.take i++[x]:=by rw[zzi,hx];rfl
  have hfl1:=sy (i+1);rw[kj,zzk,zzc]at hfl1;simp only[zzn,List.flatMap_nil,zzp]at hfl1;obtain⟨_,W,⟨rfl,v2,b2,k2,n2,m2⟩,e2⟩:=(ff hBT x.e.text (by omega)).ex;have hW:Sub S W:=⟨fun id cw=>(k2 id (by have:=lA.nx;omega) (by omega) (by omega)).trans ((lA.h id (by omega)).trans (hS.h id cw)),by have:=lA.nx;omega⟩
  have w1:=IntWalk.i64_in ((i:Int)+1) (by omega);have x1:=aj kJ.pred.sl;have x2:=aj kJ.aR.sl;have x3:=aj kJ.aS;have x4:=aj kJ.bX;have x5:=aj kJ.eH;have x6:=kJ.aR.sl.ok;have x7:=kJ.aR.sl.base;simp only[cy.c,dQ]at ld bZ gz e1;cases b with
  |false=>
   have hnm:¬x.e.nS:=fun h=>by have:=hb.2 h;cases this
   simp[t1,t6,t11,t12,t13,ck,u1,u2,uk,ld,bZ,gz,e1,aK,x1,x2,x3,x4,x5,x6,x7];refine⟨(hS.trans lA),[],1,⟨rfl,rfl⟩,fun h=>absurd (h x.e (List.mem_map_of_mem hxm)) hnm,fun h=>absurd (h x.e (List.mem_map_of_mem hxm)) hnm,fun _=>⟨rfl,rfl⟩⟩
  |true=>
   have hmx:=hb.1 rfl;simp[t1,t6,t11,t12,t13,ck,u1,u2,uk,ld,bZ,gz,e1,e2,aK,w1,x1,x2,x3,x4,x5,x6,x7];refine⟨l.length-(i+1),by omega,i+1,v2,?_,hW,by have:=lA.nx;omega,?_,by simp[t1],by simp[t6],by simp[t11],by simp[t12],by simp,ck,by simp[hn],rfl⟩
   .rw[kj,zzk];simpa using b2
   .intro y hy;rw[kj]at hy;rcases List.mem_append.1 hy with h|h
    .exact hm y h
    .rw[List.mem_singleton.1 h];exact hmx
 .obtain rfl:i=l.length:=by omega
  have hfl1:=sy l.length;rw[List.take_length]at hB hm hfl1;have hmm:∀x,x∈l.map cy.e->x.nS:=fun x hx=>by
   obtain⟨y,hy,rfl⟩:=List.mem_map.1 hx;exact hm y hy
  have hfe:(l.map cy.e).flatMap Ev.text=l.flatMap fun x=>x.e.text:=by rw[List.flatMap_map]
  have e1:=fun Q:AV->AS->Prop=>len48 hB (Q:=Q);by_cases hlen:(l.flatMap fun x=>x.e.text).length<=131072
  .have hlI:¬(131072:Int)<((l.flatMap fun x=>x.e.text).length:Nat):=by omega
   have hlN:¬131072<(l.flatMap fun x=>x.e.text).length:=by omega
   have jQ:∀c,c∈(l.flatMap fun x=>x.e.text)->c<256:=fun c hc=>by
    obtain⟨x,hx,h⟩:=List.mem_flatMap.1 hc;exact (qA (hl x hx)).2.1 c h
   have cl:(l.flatMap fun x=>x.e.text)≠[]:=fun e=>by
    cases l with
    |nil=>simp at h1
    |cons x l=>
     rw[zzn]at e;exact (qA (hl x (zzl ..))).2.2 (List.append_eq_nil_iff.1 e).1
   obtain⟨_,T,⟨rfl,k1,n1⟩,e2⟩:=(fJ hB jQ cl (by omega)).ex;have hT:Sub S T:=⟨fun id cw=>(k1 id (by omega)).trans (hS.h id cw),by omega⟩
   generalize (l.flatMap fun x=>x.e.text)=tx at *;simp[t1,t6,t11,t12,t13,e1,e2,aK,hlI,hlN];exact⟨hT,tx,0,⟨rfl,rfl⟩,fun _ _=>⟨hfe.symm,rfl⟩,fun _ h=>absurd (by rw[hfe];exact hlen) h,fun h=>absurd hmm h⟩
  .have hlI:(131072:Int)<((l.flatMap fun x=>x.e.text).length:Nat):=by omega
   have hlN:131072<(l.flatMap fun x=>x.e.text).length:=by omega
   generalize (l.flatMap fun x=>x.e.text)=tx at *;simp[t1,t6,t11,t12,t13,e1,aK,hlI,hlN];exact⟨hS,[],3,⟨rfl,rfl⟩,fun _ h=>absurd (by rw[hfe]at h;exact h) hlen,fun _ _=>⟨rfl,rfl⟩,fun h=>absurd hmm h⟩
theorem text8(hN:Names){u:AV}{l:List cy}(hu:Sl S u 15 (l.flatMap cy.c))(hl:∀x,x∈l->jz S x)(h1:1<=l.length)(cM:l.length<=10):az C0 8 [u] S fun r T=>Sub S T/\∃s e,r=.tuple [.str s,.int .i64 e]/\Wrtn (l.map cy.e) s e:=by
 obtain⟨_,T,⟨hT,s,e,rfl,hW⟩,e1⟩:=(written24 hN hu hl h1 cM).ex;have uk:=aj hu;refine bD (dL _) (dF _ rfl) zf8 rfl zo8 (by simp) fun F hn s0=>?_;simp[s0,e1,aK,uk];exact⟨hT,s,e,⟨rfl,rfl⟩,hW⟩
end
theorem zn9:Tryz.f9.ntmps=63:=by kernel_rfl
theorem st72:n9 C0 72=some (77,2,16):=by kernel_rfl
theorem un72:bJ C0 72=some (.slice 77):=by kernel_rfl
def xY(v:AV):Prop:=v=.ar\/∃a b c d e f g,v=.slice a b c d e f g
theorem xY.of{S:AS}{v:AV}{sz:Nat}{cs:List AV}(h:Sl S v sz cs):xY v:=by
 rcases h.cases with rfl|⟨_,_,_,_,_,_,rfl⟩
 .exact .inl rfl
 .exact .inr ⟨_,_,_,_,_,_,_,rfl⟩
theorem bl74c(k b p i u n a1 a2 a3:Int)(key:List Nat){pv av kv tv:AV}(h1:xY pv)(h2:xY av)(h3:xY kv)(h4:xY tv):
  eT C0 74 [(0,.int .i64 k),(1,.int .i64 b),(2,.int .i64 p),(3,.int .i64 i),(4,.int .i64 u),(5,.int .u64 n),(6,pv),(7,.agg [.str key,av]),(8,.agg [.int .i64 a1,.int .i64 a2,.int .i64 a3]),(10,kv),(11,tv)]=some (.agg [.int .i64 k,.int .i64 b,.int .i64 p,.int .i64 i,.int .i64 u,.int .u64 n,pv,.str key,av,.int .i64 a1,.int .i64 a2,.int .i64 a3,.ar,kv,tv]):=by
 rcases h1 with rfl|⟨_,_,_,_,_,_,_,rfl⟩<;>rcases h2 with rfl|⟨_,_,_,_,_,_,_,rfl⟩<;>rcases h3 with rfl|⟨_,_,_,_,_,_,_,rfl⟩<;>rcases h4 with rfl|⟨_,_,_,_,_,_,_,rfl⟩<;>kernel_rfl
section
variable{S:AS}
theorem app_start{w:AV}{l:List (Int×Nat)}(t:Int×Nat)(hg:Gw S w 2 77 (l.flatMap iy))(hl:l.length<=100000000):
  ∃v' T,aY C0 ⟨S.h.set S.nx (.row [.int .i64 t.1,.int .u64 t.2] 0 0 false 77),S.nx+1⟩ .append [72,72] [w,.slice S.nx 0 0 1 2 2 (some 1)]=.val v' T/\Gw T v' 2 77 ((l++[t]).flatMap iy)/\(∀id,id<S.nx->aV w≠id+1->T.h.get id=S.h.get id)/\S.nx<=T.nx/\(aV v'=aV w\/S.nx<aV v'):=by
 have hold:=hg.1.old;have l1:=hg.1.bj eK (by omega);have hx:Sl (⟨S.h.set S.nx (.row [.int .i64 t.1,.int .u64 t.2] 0 0 false 77),S.nx+1⟩:AS) (.slice S.nx 0 0 1 2 2 (some 1)) 2 (iy t):=by
  refine⟨by simp[isSl,eS],?_,by simp[sLen,iy],by simp[aV]⟩;show rd _ _ _ _ (1*2) 2=_;rw[dP,get_set_same,cr,if_pos ⟨zzg _,zzg _,by omega⟩];rfl
 have hgT:Gw (⟨S.h.set S.nx (.row [.int .i64 t.1,.int .u64 t.2] 0 0 false 77),S.nx+1⟩:AS) w 2 77 (l.flatMap iy):=hg.cE (fun id e=>ah _ _ (by omega)) (Nat.le_succ _);obtain⟨v',V,e2,r1,r2,r3,r4,r5,r6,r7⟩:=dr (cx:=C0) (ts:=[]) (t:=72) (u:=72) (p:=(77,2,16)) st72 un72 rfl hgT hx (by rw[l1];simp[sLen,fits,cG];omega);simp only at r1;refine⟨v',V,e2,by rw[zzk];simpa using r1,fun id h1 h2=>(r2 id (by show id<S.nx+1;omega) (fun e=>h2 e.symm)).trans (ah _ _ (by omega)),by have:S.nx+1<=V.nx:=r3;omega,?_⟩;rcases r6 with h|h
 .exact .inl h
 .exact .inr (by have:S.nx+1<aV v':=h;omega)
def oursH(S:AS)(x:cy)(u:AV)(k:Nat)(F':Fr)(S':AS):Prop:=
 (k=1/\S'=S/\sl F' 0=u/\sl F' 3=.ar/\sl F' 4=.int .i64 0/\F'.n=63) \/
 (k=0/\Sub S S'/\∃v y,sl F' 3=v/\Sl S' v 15 y.c/\jz S' y/\y.e=x.e/\sl F' 0=u/\sl F' 4=.int .i64 1/\F'.n=63)
def innH(S:AS)(x:cy)(u:AV)(k:Nat)(F':Fr)(T:AS):Prop:=
 ∃(j:Nat)(w:AV),Sub S T/\T.h.get S.nx=some (.row x.c 0 0 false 50)/\T.h.get (S.nx+1)=some (.row ({x with sv:=w}:cy).c 0 0 false 74)/\Gw T w 2 77 ((x.e.aS.take j).flatMap iy)/\(aV w=0\/S.nx+2<aV w)/\S.nx+2<=T.nx /\
  sl F' 0=u/\sl F' 3=.ar/\sl F' 4=.int .i64 0/\sl F' 5=.ptr S.nx 0 0 15/\sl F' 6=.ptr (S.nx+1) 0 0 15/\sl F' 7=.int .i64 j/\j<=x.e.aS.length/\k=x.e.aS.length-j/\F'.n=63
theorem ours9{u:AV}{x:cy}(hu:Sl S u 15 x.c)(hx:jz S x):az C0 9 [u] S fun r T=>Sub S T/\∃y,Sl T r 15 y.c/\jz T y/\y.e=x.e:=by
 have u1:=hu.sl;have u2:sLen u=1:=by have:=hu.len;rw[cy.dm]at this;omega
 have uk:=aj hu;have x1:=aj hx.pred.sl;have x2:=aj hx.aR.sl;have x3:=aj hx.aS;have x4:=aj hx.bX;have x5:=aj hx.eH;have x6:=hx.aR.sl.ok;have x7:=hx.aR.sl.base;refine bD (dL _) (dF _ rfl) zf9 rfl zo9 (by simp) fun F hn s0=>?_;rw[zn9]at hn;simp[s0,u1,u2,uk];refine aW (oursH S x u) 1 (.inl ⟨rfl,rfl,by simp[s0],by simp,by simp,by simp[hn]⟩) ?_;clear s0 hn;rintro k F' S'-(⟨rfl,rfl,t0,t3,t4,hn⟩|⟨rfl,hS,v,y,t3,hv,hy,he,t0,t4,hn⟩)
 .have ld:=bh (cx:=C0) (e:=50) (L:=[x]) (k:=0) (x:=x) (enc:=cy.c) (by simpa using hu) cy.dm (by simp) rfl z_ag50 z_sz50;simp only[cy.c]at ld;have bc:=fun k b p i u n a1 a2 a3 key=>bl74c k b p i u n a1 a2 a3 key (.of hx.pred.sl) (.of hx.aR.sl) (.of hx.bX) (.of hx.eH);simp[t0,t3,t4,u1,u2,uk,ld,bc,x1,x2,x3,x4,x5,x6,x7];refine aW (innH S' x u) x.e.aS.length ⟨0,.ar,⟨fun id cw=>?_,?_⟩,?_,?_,by simpa using Gw.nil,.inl rfl,?_,by simp[t0],by simp[t3],by simp[t4],by simp,by simp,by simp,zzf _,rfl,by simp[hn]⟩ ?_
  .show (Am.T.set _ _ _).get _=_;rw[ah _ _ (by omega),ah _ _ (by omega),ah _ _ (by omega),ah _ _ (by omega)]
  .show S'.nx<=S'.nx+2;omega
  .show (Am.T.set _ _ _).get _=_;rw[ah _ _ (by omega),ah _ _ (by omega),get_set_same];rfl
  .exact get_set_same _ _ _
  .exact zzg _
  clear t0 t3 t4 hn ld bc;rintro k F T-⟨j,w,hT,g5,g6,hw,hwb,AY,t0,t3,t4,t5,t6,t7,hj,hk,hn⟩;have g5c:=g5;have g6c:=g6;simp only[cy.c]at g5c g6c;have v1:=hx.aS.sl;have v2:=hx.aS.bj eK (by omega);have w1:=aj hw.1;have sle:=hx.sl;by_cases hj':j<x.e.aS.length
  .obtain⟨t,ht⟩:∃t,x.e.aS[j]?=some t:=⟨_,zza hj'⟩
   have ld:=bh (cx:=C0) (e:=78) (hx.aS.toSub hT) eK (by omega) ht (by kernel_rfl) (by kernel_rfl);obtain⟨w',W,a1,a2,a3,a4,a5⟩:=app_start t hw (by rw[List.length_take];omega);have kj:x.e.aS.take (j+1)=x.e.aS.take j++[t]:=by rw[zzi,ht];rfl
   rw[<-kj]at a2;have wi:=IntWalk.i64_in ((j:Int)+1) (by omega);have fv:=fun (F:Fr) (id:Nat) (a:Tmp) (h:sl F a=.agg (iy t))=>bA (cx:=C0) (F:=F) (t:=72) (p:=(77,2,16)) (id:=id) (n:=1) (a:=#[(0,.tmp a)]) [iy t] st72 rfl (by simp[aA,h,cellsOf]) (by simp[iy]) (by decide);simp only[iy,List.flatten_cons,List.flatten_nil,zzp,Nat.one_mul]at fv;simp only[iy]at ld;simp[t0,t3,t4,t5,t6,t7,g5c,v1,v2,x3,hj'];refine bg [.p,.r 0 1,.p,.r 0 0,.p,.p,.r 0 0,.e [],.e [],.p,.e []] (n:=63) (by kernel_rfl) (by simp[hn]) ?_;have b6:W.h.get (S'.nx+1)=some (.row ({x with sv:=w}:cy).c 0 0 false 74):=(a3 _ (by omega) (by omega)).trans g6;simp only[cy.c]at b6;have cl:¬S'.nx+1=T.nx:=by omega
   have hne2:¬S'.nx=T.nx:=by omega
   simp[t0,t3,t4,t5,t6,t7,g5c,g6c,v1,v2,x3,hj',ld,fv,a1,b6,cl,hne2,w1,aj a2.1,a2.1.cells,wi];refine⟨x.e.aS.length-(j+1),by omega,j+1,w',⟨fun id cw=>?_,?_⟩,?_,get_set_same _ _ _,a2.cE (fun id e=>ah _ _ (by omega)) (zzg _),by omega,?_,by simp[t0],by simp[t3],by simp[t4],by simp[t5],by simp[t6],by simp,hj',rfl,by simp[hn]⟩
   .show (Am.T.set _ _ _).get _=_;have:=hT.nx;rw[ah _ _ (by omega),a3 _ (by omega) (by omega)];exact hT.h id cw
   .show S'.nx<=W.nx;have:=hT.nx;omega
   .show (Am.T.set _ _ _).get _=_;rw[ah _ _ (by omega),a3 _ (by omega) (by omega)];exact g5
   .show S'.nx+2<=W.nx;omega
  .obtain rfl:j=x.e.aS.length:=by omega
   rw[List.take_length]at hw;obtain⟨y,hy⟩:∃y:cy,y={x with sv:=w}:=⟨_,rfl⟩
   have fv:=fun (F:Fr) (id:Nat) (a:Tmp) (h:sl F a=.agg y.c)=>bA (cx:=C0) (F:=F) (t:=26) (p:=(74,15,208)) (id:=id) (n:=1) (a:=#[(0,.tmp a)]) [y.c] z_st26 rfl (by simp[aA,h,cellsOf]) (by simp[cy.dm]) (by decide);have qe:Sl (⟨T.h.set T.nx (.row y.c 0 0 false 74),T.nx+1⟩:AS) (.slice T.nx 0 0 1 15 15 (some 1)) 15 y.c:=by
    refine⟨by simp[isSl,eS],?_,by simp[sLen,cy.dm],by simp[aV]⟩;show rd _ _ _ _ (1*15) 15=_;rw[dP,get_set_same,cr,if_pos ⟨zzg _,zzg _,by omega⟩];rfl
   obtain⟨v',V,a1,a2,a3,a4,a5,a6,a7⟩:=dr (cx:=C0) (ts:=[]) (t:=26) (u:=26) (p:=(74,15,208)) z_st26 z_un26 rfl (Gw.nil (S:=⟨T.h.set T.nx (.row y.c 0 0 false 74),T.nx+1⟩) (sz:=15) (e:=74)) qe (by simp[sLen,fits,cG]);have hyT:jz T y:=by
    have:=hx.sub hT;rw[hy];exact⟨this.pred,this.aR,hw.1,this.bX,this.eH,this.dK,this.sl,this.pl,this.tl⟩
   have hTV:Sub T V:=⟨fun id cw=>(a3 id (by show id<T.nx+1;omega) (by simp[aV])).trans (ah _ _ (by omega)),by have:T.nx+1<=V.nx:=a4;omega⟩
   have y1:y.e=x.e:=by rw[hy]
   simp only[List.flatten_cons,List.flatten_nil,zzp,Nat.one_mul,hy,cy.c]at fv a1;have wb:=hw.1.ok;have wb2:=hw.1.base;have wc:=hw.1.cells;simp[t0,t3,t4,t5,t6,t7,g5c,g6c,v1,v2,x3,x1,x2,x4,x5,x6,x7,w1,wb,wb2,wc,fv,a1,aj a2.1];have a2':Sl V v' 15 y.c:=by simpa using a2.1
   exact .inr ⟨rfl,hT.trans hTV,v',y,by simp,a2',hyT.sub hTV,y1,by simp[t0],by simp;decide,by simp[hn]⟩
 .simp[t0,t3,t4,u1,u2,uk,hv.np];exact⟨hS,y,hv,hy,he⟩
end
end Go.Proofs.YthklfandhmkpiaaGreatDoor.sh
