/-
  A row's lines, as a text.
-/
import Derived.Test.YthklfandhmkpiaaGreatDoorPartH
open List renaming getElem?_eq_getElem->zza,flatten_cons->zzc,flatten_nil->zzd,mem_of_getElem?->zze,append_nil->zzf,flatMap_append->zzg,length_take->zzj,take_of_length_le->zzk
open Nat renaming le_refl->zzb,zero_le->zzh,one_mul->zzi
set_option linter.unusedVariables false
set_option linter.unusedSimpArgs false
set_option maxRecDepth 20000
namespace Go.Proofs.YthklfandhmkpiaaGreatDoor.sh
open Go Go.Am Go.Proofs.YthklfandhmkpiaaGreatDoor.dk
open Go.Proofs.YthklfandhmkpiaaGreatDoor.val (cN dc ff fJ)
theorem zn34:Tryz.f34.ntmps=31:=by kernel_rfl
theorem tc(r:Row):r.text≠[]:=fun e=>by
 have:=congrArg List.length e;unfold Row.text Row.head at this;simp at this
section
variable{S:AS}
def wroH(S:AS)(x:dY)(u:AV)(k:Nat)(F':Fr)(S':AS):Prop:=
 sl F' 1=.func (.func 35) [] []/\sl F' 6=.ptr S.nx 0 0 2/\sl F' 11=u/\sl F' 12=.int .i64 1/\F'.n=31 /\
 ((k=1/\S'=⟨S.h.set S.nx (.row [.cT,.ar] 0 0 false 136),S.nx+1⟩/\sl F' 13=.int .i64 0) \/
  (k=0/\sl F' 13=.int .i64 1/\x.row.nS/\Sub S S'/\(∃v,cN S' S.nx v x.row.text/\S.nx<aV v)/\x.row.text.length<=60000000000000/\∀c,c∈x.row.text->c<256))
theorem written34(hN:Names){u:AV}{x:dY}(hu:Sl S u 4 x.c)(hx:jG S x):az C0 34 [u,.func (.func 35) [] []] S fun r T=>Sub S T/\∃s e,r=.tuple [.str s,.int .i64 e]/\(e=0->x.row.nS/\s=x.row.text):=by
 have u1:=hu.sl;have u2:sLen u=1:=by have:=hu.len;rw[dY.dm]at this;omega
 have uk:=aj hu;have hA:Sub S ⟨S.h.set S.nx (.row [.cT,.ar] 0 0 false 136),S.nx+1⟩:=dc;refine bu (dL _) (dF _ rfl) zf34 rfl zo34 (by simp) fun F hn s0 s1=>?_;rw[zn34]at hn;simp[s0,s1,u1,u2,uk];refine aW (wroH S x u) 1 ⟨by simp[s1],by simp,by simp,by simp,by simp[hn],.inl ⟨rfl,rfl,by simp⟩⟩ ?_;clear s0 s1 hn;rintro k F' S'-⟨t1,t6,t11,t12,hn,⟨rfl,hS',t13⟩|⟨rfl,t13,hm,hS,⟨v,hB,hv⟩,hl,hb⟩⟩
 .have h0:cN S' S.nx .ar []:=by rw[hS'];exact⟨Nat.lt_succ_self _,⟨_,get_set_same _ _ _,.inl rfl⟩,Gw.nil,by simp[aV]⟩
  rw[<-hS']at hA;have nS':S'.nx=S.nx+1:=by rw[hS']
  clear hS';have ld:=bh (cx:=C0) (e:=111) (L:=[x]) (k:=0) (x:=x) (enc:=dY.c) (by simpa using hu.toSub hA) dY.dm (by simp) rfl z_ag111 (by kernel_rfl);obtain⟨Z,hZ⟩:∃Z:AS,Z=⟨(S'.h.set S'.nx (.row [.int .i64 0,.int .i64 0,.int .u64 0,.ar] 0 0 false 111)).set S'.nx (.row x.c 0 0 false 111),S'.nx+1⟩:=⟨_,rfl⟩
  have z1:Sub S' Z:=by rw[hZ];exact Go.Proofs.YthklfandhmkpiaaGreatDoor.mod.eb
  have gz:Z.h.get S'.nx=some (.row x.c 0 0 false 111):=by rw[hZ];exact get_set_same _ _ _
  have bZ:=hZ.symm;clear hZ;obtain⟨_,T,⟨hT,s,b,rfl,hb⟩,e1⟩:=(rowText35 hN (hx.sub (hA.trans z1))).ex;have lA:=z1.trans hT;have AY:=lA.nx;have hBT:cN T S.nx .ar []:=by
   obtain⟨p,hp,wM⟩:=h0.at_;exact⟨by omega,⟨p,(lA.h _ (by omega)).trans hp,wM⟩,Gw.nil,by simp[aV]⟩
  obtain⟨_,W,⟨rfl,v2,b2,k2,n2,m2⟩,e2⟩:=(ff hBT s (by have:=hb.2.1;simp only[List.length_nil];omega)).ex;have hW:Sub S W:=⟨fun id cw=>(k2 id (by omega) (by omega) (by simp only[aV];omega)).trans ((lA.h id (by omega)).trans (hA.h id cw)),by omega⟩
  have x1:=aj hx.sl;have x2:=hx.sl.ok;have x3:=hx.sl.base;have wi:IntKind.i64.wrap 1=1:=by decide
  simp only[dY.c]at ld bZ gz e1;cases b with
  |false=>
   simp[t1,t6,t11,t12,t13,u1,u2,uk,ld,bZ,gz,e1,aK,x1,x2,x3];exact⟨hA.trans lA,[],1,⟨rfl,rfl⟩,fun h=>absurd h (by decide)⟩
  |true=>
   obtain⟨hmo,hso⟩:=hb.1 rfl;have qe:=hb.2.1;have hsb:=hb.2.2;rw[hso]at b2 qe hsb;have cl:0<x.row.text.length:=List.length_pos_iff.2 (tc _);have hv2:S.nx<aV v2:=by
    rcases m2 with h|h
    .exact absurd (h.trans (by simp[aV])) (Bw b2.gw.1 (by rw[List.nil_append,bM];exact cl))
    .omega
   simp[t1,t6,t11,t12,t13,u1,u2,uk,ld,bZ,gz,e1,e2,aK,x1,x2,x3,wi];exact⟨by simp[t1],by simp[t6],by simp[t11],by simp[t12],by simp[hn],.inr ⟨rfl,by simp,hmo,hW,⟨v2,by simpa using b2,hv2⟩,qe,hsb⟩⟩
 .have e1:=fun Q:AV->AS->Prop=>len48 hB (Q:=Q);by_cases hlen:x.row.text.length<=131072
  .have hlI:¬(131072:Int)<(x.row.text.length:Nat):=by omega
   have hlN:¬131072<x.row.text.length:=by omega
   obtain⟨_,T,⟨rfl,k1,n1⟩,e2⟩:=(fJ hB hb (tc _) (by omega)).ex;have hT:Sub S T:=⟨fun id cw=>(k1 id (by omega)).trans (hS.h id cw),by have:=hS.nx;omega⟩
   generalize x.row.text=tx at *;simp[t1,t6,t11,t12,t13,e1,e2,aK,hlI,hlN];exact⟨hT,tx,0,⟨rfl,rfl⟩,fun _=>⟨hm,rfl⟩⟩
  .have hlI:(131072:Int)<(x.row.text.length:Nat):=by omega
   have hlN:131072<x.row.text.length:=by omega
   generalize x.row.text=tx at *;simp[t1,t6,t11,t12,t13,e1,aK,hlI,hlN];exact⟨hS,[],3,⟨rfl,rfl⟩,fun h=>absurd h (by decide)⟩
theorem og(hN:Names){u:AV}{x:dY}(hu:Sl S u 4 x.c)(hx:jG S x):az C0 18 [u] S fun r T=>Sub S T/\∃s e,r=.tuple [.str s,.int .i64 e]/\(e=0->x.row.nS/\s=x.row.text):=by
 obtain⟨_,T,⟨hT,s,e,rfl,hW⟩,e1⟩:=(written34 hN hu hx).ex;have uk:=aj hu;refine bD (dL _) (dF _ rfl) zf18 rfl zo18 (by simp) fun F hn s0=>?_;simp[s0,e1,aK,uk];exact⟨hT,s,e,⟨rfl,rfl⟩,hW⟩
end
theorem zn17:Tryz.f17.ntmps=97:=by kernel_rfl
theorem bl111(k e n:Int):eT C0 111 [(0,.int .i64 k),(1,.int .i64 e),(2,.int .u64 n)]=some (.agg [.int .i64 k,.int .i64 e,.int .u64 n,.ar]):=by kernel_rfl
theorem bl104c(a b f t:Int)(key:List Nat){av:AV}(h:xY av):eT C0 104 [(0,.agg [.int .u64 a,.int .u64 b,.str key,av]),(1,.agg [.int .u64 f,.int .u64 t])]=some (.agg [.int .u64 a,.int .u64 b,.str key,av,.int .u64 f,.int .u64 t]):=by
 rcases h with rfl|⟨_,_,_,_,_,_,_,rfl⟩<;>kernel_rfl
theorem bl106c(k p s t n a b f g:Int)(key:List Nat){av bv:AV}(h:xY av)(h2:xY bv):eT C0 106 [(0,.int .i64 k),(1,.int .i64 p),(2,.int .i64 s),(3,.int .i64 t),(4,.int .u64 n),(5,.agg [.int .u64 a,.int .u64 b,.str key,av,.int .u64 f,.int .u64 g]),(6,bv)]=some (.agg [.int .i64 k,.int .i64 p,.int .i64 s,.int .i64 t,.int .u64 n,.int .u64 a,.int .u64 b,.str key,av,.int .u64 f,.int .u64 g,bv]):=by
 rcases h with rfl|⟨_,_,_,_,_,_,_,rfl⟩<;>rcases h2 with rfl|⟨_,_,_,_,_,_,_,rfl⟩<;>kernel_rfl
theorem bl108c(w k p s t n a b f g:Int)(key:List Nat){av bv:AV}(h:xY av)(h2:xY bv):eT C0 108 [(0,.int .i64 w),(1,.agg [.int .i64 k,.int .i64 p,.int .i64 s,.int .i64 t,.int .u64 n,.int .u64 a,.int .u64 b,.str key,av,.int .u64 f,.int .u64 g,bv])]=some (.agg [.int .i64 w,.int .i64 k,.int .i64 p,.int .i64 s,.int .i64 t,.int .u64 n,.int .u64 a,.int .u64 b,.str key,av,.int .u64 f,.int .u64 g,bv]):=by
 rcases h with rfl|⟨_,_,_,_,_,_,_,rfl⟩<;>rcases h2 with rfl|⟨_,_,_,_,_,_,_,rfl⟩<;>kernel_rfl
structure de where
 kind:Int
 err:Int
 n:Nat
 wl:List Int
 ol:List aE
 wv:AV
 ov:AV
def de.c(x:de):List AV:=[.int .i64 x.kind,.int .i64 x.err,.int .u64 x.n,x.wv,x.ov]
theorem de.dm(x:de):x.c.length=5:=rfl
def ss(l:List Int):List AV:=l.map fun n=>AV.int .i64 n
theorem vw(l:List Int):(ss l).length=l.length:=by simp[ss]
theorem vy{l:List Int}{i:Nat}{t:Int}(h:l[i]?=some t):(ss l)[i]?=some (.int .i64 t):=by unfold ss;rw[List.getElem?_map,h];rfl
structure iC(S:AS)(x:de):Prop where
 ws:Sl S x.wv 1 (ss x.wl)
 os:Sl S x.ov 12 (x.ol.flatMap aE.u)
 at_:∀o,o∈x.ol->jl S o
 wr:∀w,w∈x.wl->pq w
 kind:pq x.kind
 err:pq x.err
 n:x.n<18446744073709551616
 wlen:x.wl.length<=1048576
 Av:x.ol.length<=1048576
theorem iC.sub{S T:AS}{x:de}(h:iC S x)(k:Sub S T):iC T x:=⟨h.ws.toSub k,h.os.toSub k,fun o ho=>(h.at_ o ho).sub k,h.wr,h.kind,h.err,h.n,h.wlen,h.Av⟩
def aE.put(w:Int)(o:aE):aE:={o with o:={o.o with au:=w}}
def de.zip(x:de):List aE:=List.zipWith aE.put x.wl x.ol
def de.row(x:de):Row:=⟨x.kind,x.err,x.n,x.zip.map aE.o⟩
theorem jl.put{S:AS}{o:aE}(h:jl S o){w:Int}(hw:pq w):jl S (aE.put w o):=
 ⟨h.aR,h.bytes,⟨hw,h.dK.fh,h.dK.sub,h.dK.n,h.dK.iN,h.dK.iT,h.dK.gF,h.dK.gT,h.dK.ev⟩,h.kind,h.to,h.byt,h.bl⟩
theorem zip_get{x:de}{i:Nat}{w:Int}{o:aE}(h1:x.wl[i]?=some w)(h2:x.ol[i]?=some o):x.zip[i]?=some (aE.put w o):=by
 unfold de.zip;rw[List.getElem?_zipWith,h1,h2]
theorem zip_len(x:de):x.zip.length=min x.wl.length x.ol.length:=by unfold de.zip;rw[List.length_zipWith]
theorem zip_mem{S:AS}{x:de}(hx:iC S x):∀o,o∈x.zip->jl S o:=fun o ho=>by
 obtain⟨i,hi,rfl⟩:=List.getElem_of_mem ho;have h:=zip_len x;have h1:i<x.wl.length:=by omega
 have h2:i<x.ol.length:=by omega
 have:=zip_get (x:=x) (zza h1) (zza h2);rw[zza hi]at this;rw[Option.some.inj this];exact (hx.at_ _ (List.getElem_mem h2)).put (hx.wr _ (List.getElem_mem h1))
section
variable{S:AS}
theorem app_snt{w:AV}{l:List aE}(t:aE)(hg:Gw S w 13 108 (l.flatMap aE.c))(hl:l.length<=10000000):
  ∃v' T,aY C0 ⟨S.h.set S.nx (.row t.c 0 0 false 108),S.nx+1⟩ .append [109,109] [w,.slice S.nx 0 0 1 13 13 (some 1)]=.val v' T/\Gw T v' 13 108 ((l++[t]).flatMap aE.c)/\(∀id,id<S.nx->aV w≠id+1->T.h.get id=S.h.get id)/\S.nx<=T.nx/\(aV v'=aV w\/S.nx<aV v'):=by
 have hold:=hg.1.old;have l1:=hg.1.bj aE.dm (by omega);have hx:Sl (⟨S.h.set S.nx (.row t.c 0 0 false 108),S.nx+1⟩:AS) (.slice S.nx 0 0 1 13 13 (some 1)) 13 t.c:=by
  refine⟨by simp[isSl,eS],?_,by simp[sLen,aE.dm],by simp[aV]⟩;show rd _ _ _ _ (1*13) 13=_;rw[dP,get_set_same,cr,if_pos ⟨zzb _,zzb _,by omega⟩];rfl
 have hgT:Gw (⟨S.h.set S.nx (.row t.c 0 0 false 108),S.nx+1⟩:AS) w 13 108 (l.flatMap aE.c):=hg.cE (fun id e=>ah _ _ (by omega)) (Nat.le_succ _);obtain⟨v',V,e2,r1,r2,r3,r4,r5,r6,r7⟩:=dr (cx:=C0) (ts:=[]) (t:=109) (u:=109) (p:=(108,13,144)) z_st109 z_un109 rfl hgT hx (by rw[l1];simp[sLen,fits,cG];omega);simp only at r1;refine⟨v',V,e2,by rw[zzg];simpa using r1,fun id h1 h2=>(r2 id (by show id<S.nx+1;omega) (fun e=>h2 e.symm)).trans (ah _ _ (by omega)),by have:S.nx+1<=V.nx:=r3;omega,?_⟩;rcases r6 with h|h
 .exact .inl h
 .exact .inr (by have:S.nx+1<aV v':=h;omega)
def NewR(S:AS)(x:de)(v:AV)(y:dY):Prop:=y.l=x.zip/\(aV v=0\/S.nx<aV v)/\(aV y.sv=0\/S.nx<aV y.sv)
def rowsH(S:AS)(x:de)(u:AV)(k:Nat)(F':Fr)(S':AS):Prop:=
 (k=1/\S'=S/\sl F' 0=u/\sl F' 3=.ar/\sl F' 4=.int .i64 0/\F'.n=97) \/
 (k=0/\Sub S S'/\∃v y,sl F' 3=v/\Sl S' v 4 y.c/\jG S' y/\y.row=x.row/\NewR S x v y/\sl F' 0=u/\sl F' 4=.int .i64 1/\F'.n=97)
def rinH(S:AS)(x:de)(u:AV)(k:Nat)(F':Fr)(T:AS):Prop:=
 ∃(j:Nat)(w:AV),Sub S T/\T.h.get S.nx=some (.row [.int .i64 x.kind,.int .i64 x.err,.int .u64 x.n,w] 0 0 false 111)/\Gw T w 13 108 ((x.zip.take j).flatMap aE.c)/\(aV w=0\/S.nx+1<aV w)/\S.nx+1<=T.nx /\
  sl F' 0=u/\sl F' 3=.ar/\sl F' 4=.int .i64 0/\sl F' 5=.ptr S.nx 0 0 4/\sl F' 6=.int .i64 j/\j<=x.zip.length/\k=x.zip.length-j/\F'.n=97
set_option maxHeartbeats 4000000 in
theorem rows17{u:AV}{x:de}(hu:Sl S u 5 x.c)(hx:iC S x):az C0 17 [u] S fun r T=>Sub S T/\∃y,Sl T r 4 y.c/\jG T y/\y.row=x.row/\NewR S x r y:=by
 have u1:=hu.sl;have u2:sLen u=1:=by have:=hu.len;rw[de.dm]at this;omega
 have uk:=aj hu;have ld:=fun (T:AS) (h:Sub S T) (e o:Nat) (y:AV) (ho:o<5) (hy:x.c[o]?=some y) (ha:aX C0 e=some false)=>yS (cx:=C0) (e:=e) (o:=o) (L:=[x]) (k:=0) (x:=x) (enc:=de.c) (by simpa using hu.toSub h) de.dm (by omega) rfl (y:=y) hy ha;have p1:=AK (v:=u) (k:=0) u1 (by omega);have f0:nk (wV u 0) (some 0)=some (EH (wV u 0) 0):=gN p1;have f1:nk (wV u 0) (some 1)=some (EH (wV u 0) 1):=gN p1;have f2:nk (wV u 0) (some 2)=some (EH (wV u 0) 2):=gN p1;have f3:nk (wV u 0) (some 3)=some (EH (wV u 0) 3):=gN p1;have f4:nk (wV u 0) (some 4)=some (EH (wV u 0) 4):=gN p1;refine bD (dL _) (dF _ rfl) zf17 rfl zo17 (by simp) fun F hn s0=>?_;rw[zn17]at hn;simp[s0,u1,u2,uk];refine aW (rowsH S x u) 1 (.inl ⟨rfl,rfl,by simp[s0],by simp,by simp,by simp[hn]⟩) ?_;clear s0 hn;rintro k F' S'-(⟨rfl,rfl,t0,t3,t4,hn⟩|⟨rfl,hS,v,y,t3,hv,hy,he,hN,t0,t4,hn⟩)
 .have l0:=ld S' (Sub.refl _) 3 0 _ (by decide) rfl ag3;have l1:=ld S' (Sub.refl _) 3 1 _ (by decide) rfl ag3;have l2:=ld S' (Sub.refl _) 38 2 _ (by decide) rfl (by kernel_rfl);have la0:=fun o=>ld ⟨S'.h.set S'.nx o,S'.nx+1⟩ Go.Proofs.YthklfandhmkpiaaGreatDoor.mod.dc 3 0 _ (by decide) rfl ag3;have la1:=fun o=>ld ⟨S'.h.set S'.nx o,S'.nx+1⟩ Go.Proofs.YthklfandhmkpiaaGreatDoor.mod.dc 3 1 _ (by decide) rfl ag3;have la2:=fun o=>ld ⟨S'.h.set S'.nx o,S'.nx+1⟩ Go.Proofs.YthklfandhmkpiaaGreatDoor.mod.dc 38 2 _ (by decide) rfl (by kernel_rfl);have lb0:=fun o o'=>ld ⟨(S'.h.set S'.nx o).set S'.nx o',S'.nx+1⟩ Go.Proofs.YthklfandhmkpiaaGreatDoor.mod.eb 3 0 _ (by decide) rfl ag3;have lb1:=fun o o'=>ld ⟨(S'.h.set S'.nx o).set S'.nx o',S'.nx+1⟩ Go.Proofs.YthklfandhmkpiaaGreatDoor.mod.eb 3 1 _ (by decide) rfl ag3;have lb2:=fun o o'=>ld ⟨(S'.h.set S'.nx o).set S'.nx o',S'.nx+1⟩ Go.Proofs.YthklfandhmkpiaaGreatDoor.mod.eb 38 2 _ (by decide) rfl (by kernel_rfl);simp[t0,t3,t4,u1,u2,uk];refine aJ (fun G T=>rinH S' x u (x.zip.length) (up G (some 6) (.int .i64 0)) T) ?_ ?_
  .refine bg [.p,.p,.p,.p,.r 0 1,.p,.p,.p,.p,.r 0 1,.p,.p,.p,.p,.r 0 1,.p,.e [],.e []] (n:=97) (by kernel_rfl) (by simp[hn]) ?_;simp[t0,t3,t4,u1,u2,uk,p1,f0,f1,f2,l0,l1,l2,la0,la1,la2,lb0,lb1,lb2,bl111];refine⟨0,.ar,Go.Proofs.YthklfandhmkpiaaGreatDoor.mod.eb,get_set_same _ _ _,by simpa using Gw.nil,.inl rfl,zzb _,by simp[t0],by simp[t3],by simp[t4],by simp,by simp,zzh _,rfl,by simp[hn]⟩
  rintro G T hI;simp;refine aW (rinH S' x u) x.zip.length hI ?_;clear hI t0 t3 t4 hn l0 l1 l2 la0 la1 la2 lb0 lb1 lb2;rintro k F T-⟨j,w,hT,g5,hw,hwb,AY,t0,t3,t4,t5,t6,hj,hk,hn⟩;have l3:=ld T hT 51 3 _ (by decide) rfl z_ag51;have l4:=ld T hT 52 4 _ (by decide) rfl z_ag52;have w1:=hx.ws.sl;have w2:=hx.ws.gx;rw[vw]at w2;have w3:=aj hx.ws;have o1:=hx.os.sl;have o2:=hx.os.bj aE.jA (by omega);have o3:=aj hx.os;have wk:=aj hw.1;have hzl:=zip_len x;have hwl:=hx.wlen;have hol:=hx.Av;by_cases hj':j<x.zip.length
  .have c1:j<x.wl.length:=by omega
   have c2:j<x.ol.length:=by omega
   have kG:(j:Int)<x.wl.length:=by omega
   have pA:(j:Int)<x.ol.length:=by omega
   obtain⟨b,hb⟩:∃b,x.wl[j]?=some b:=⟨_,zza c1⟩
   obtain⟨o,ho⟩:∃o,x.ol[j]?=some o:=⟨_,zza c2⟩
   have hz:=zip_get hb ho;have kV:=hx.at_ o (zze ho);have lo:=bh (cx:=C0) (e:=117) (hx.os.toSub hT) aE.jA (by omega) ho zQ zN;obtain⟨Z,hZ⟩:∃Z:AS,Z=⟨(T.h.set T.nx (.row [.int .i64 0,.int .i64 0,.int .i64 0,.int .i64 0,.int .u64 0,.int .u64 0,.int .u64 0,.str [],.ar,.int .u64 0,.int .u64 0,.ar] 0 0 false 117)).set T.nx (.row o.u 0 0 false 117),T.nx+1⟩:=⟨_,rfl⟩
   have z1:Sub T Z:=by rw[hZ];exact Go.Proofs.YthklfandhmkpiaaGreatDoor.mod.eb
   have gz:Z.h.get T.nx=some (.row o.u 0 0 false 117):=by rw[hZ];exact get_set_same _ _ _
   have nZ:Z.nx=T.nx+1:=by rw[hZ]
   have bZ:=hZ.symm;clear hZ;have g5z:=(z1.h _ (by omega)).trans g5;have hwz:=hw.cE (T:=Z) (fun id e=>z1.h id (by have:=hw.1.old;omega)) z1.nx;have l3z:=ld Z (hT.trans z1) 51 3 _ (by decide) rfl z_ag51;have lw:=dV (cx:=C0) (e:=3) (hx.ws.toSub (hT.trans z1)) (vy hb) ag3;obtain⟨w',W,a1,a2,a3,a4,a5⟩:=app_snt (aE.put b o) hwz (by rw[zzj];omega);have kj:x.zip.take (j+1)=x.zip.take j++[aE.put b o]:=by rw[List.take_add_one,hz];rfl
   rw[<-kj]at a2;have wi:=IntWalk.i64_in ((j:Int)+1) (by omega);have fv:=fun (F:Fr) (id:Nat) (a:Tmp) (h:sl F a=.agg (aE.put b o).c)=>bA (cx:=C0) (F:=F) (t:=109) (p:=(108,13,144)) (id:=id) (n:=1) (a:=#[(0,.tmp a)]) [(aE.put b o).c] z_st109 rfl (by simp[aA,h,cellsOf]) (by simp[aE.dm]) (by decide);have ia:=xY.of kV.aR.sl;have ib:=xY.of kV.bytes;have b1:=fun a b f t key=>bl104c a b f t key ia;have b2:=fun k p s t n a b f g key=>bl106c k p s t n a b f g key ia ib;have b3:=fun w k p s t n a b f g key=>bl108c w k p s t n a b f g key ia ib;have x1:=aj kV.aR.sl;have x2:=aj kV.bytes;have x3:=kV.aR.sl.ok;have x4:=kV.aR.sl.base;have x5:=kV.bytes.ok;have x6:=kV.bytes.base;have xc:=kV.aR.sl.cells;have xd:=kV.bytes.cells;have cl:¬S'.nx=Z.nx:=by omega
   have hne2:¬T.nx=Z.nx:=by omega
   have g5w:W.h.get S'.nx=some (.row [.int .i64 x.kind,.int .i64 x.err,.int .u64 x.n,w] 0 0 false 111):=(a3 _ (by omega) (by omega)).trans g5z;have gzc:=gz;simp only[aE.u]at lo bZ gzc;simp only[zzc,zzd,zzf,zzi,aE.put,aE.c]at fv a1;simp[t0,t3,t4,t5,t6,p1,f3,f4,l3,l4,w1,w2,w3,o1,o2,o3,uk,u1,u2,c1,c2,kG,pA,lo,bZ,x1,x2,x3,x4,x5,x6];refine bg [.p,.r 0 1,.p,.p,.p,.p,.r 0 0,.p,.p,.r 0 0,.p,.r 0 0,.p,.r 0 0,.p,.r 0 0,.p,.r 0 0,.p,.r 0 0,.p,.p,.r 0 0,.p,.p,.r 0 0,.p,.p,.r 0 0,.p,.p,.e [],.e [],.p,.e []] (n:=97) (by kernel_rfl) (by simp[hn]) ?_;simp[t0,t3,t4,t5,t6,p1,f3,f4,l3z,w1,w2,w3,o1,o2,o3,uk,u1,u2,c1,c2,kG,pA,g5z,gzc,lw,b1,b2,b3,fv,a1,g5w,cl,hne2,wk,aj a2.1,a2.1.cells,x1,x2,x3,x4,x5,x6,xc,xd,wi];refine⟨x.zip.length-(j+1),by omega,j+1,w',⟨fun id cw=>?_,?_⟩,get_set_same _ _ _,a2.cE (fun id e=>ah _ _ (by omega)) (zzb _),by omega,?_,by simp[t0],by simp[t3],by simp[t4],by simp[t5],by simp,hj',rfl,by simp[hn]⟩
   .show (Am.T.set _ _ _).get _=_;have:=hT.nx;rw[ah _ _ (by omega),a3 _ (by omega) (by omega)];exact (z1.h _ (by omega)).trans (hT.h id cw)
   .show S'.nx<=W.nx;have:=hT.nx;omega
   .show S'.nx+1<=W.nx;omega
  .obtain rfl:j=x.zip.length:=by omega
   rw[List.take_length]at hw;obtain⟨y,hy⟩:∃y:dY,y=⟨x.kind,x.err,x.n,x.zip,w⟩:=⟨_,rfl⟩
   have fv:=fun (F:Fr) (id:Nat) (a:Tmp) (h:sl F a=.agg y.c)=>bA (cx:=C0) (F:=F) (t:=56) (p:=(111,4,48)) (id:=id) (n:=1) (a:=#[(0,.tmp a)]) [y.c] z_st56 rfl (by simp[aA,h,cellsOf]) (by simp[dY.dm]) (by decide);have qe:Sl (⟨T.h.set T.nx (.row y.c 0 0 false 111),T.nx+1⟩:AS) (.slice T.nx 0 0 1 4 4 (some 1)) 4 y.c:=by
    refine⟨by simp[isSl,eS],?_,by simp[sLen,dY.dm],by simp[aV]⟩;show rd _ _ _ _ (1*4) 4=_;rw[dP,get_set_same,cr,if_pos ⟨zzb _,zzb _,by omega⟩];rfl
   obtain⟨v',V,a1,a2,a3,a4,a5,a6,a7⟩:=dr (cx:=C0) (ts:=[]) (t:=56) (u:=56) (p:=(111,4,48)) z_st56 z_un56 rfl (Gw.nil (S:=⟨T.h.set T.nx (.row y.c 0 0 false 111),T.nx+1⟩) (sz:=4) (e:=111)) qe (by simp[sLen,fits,cG]);have hyT:jG T y:=by
    rw[hy];exact⟨hw.1,fun o ho=>(zip_mem hx o ho).sub hT,hx.kind,hx.err,hx.n,by show x.zip.length<=_;omega⟩
   have hTV:Sub T V:=⟨fun id cw=>(a3 id (by show id<T.nx+1;omega) (by simp[aV])).trans (ah _ _ (by omega)),by have:T.nx+1<=V.nx:=a4;omega⟩
   have y1:y.row=x.row:=by rw[hy];rfl
   simp only[zzc,zzd,zzf,zzi,hy,dY.c]at fv a1;have a2':Sl V v' 4 y.c:=by simpa using a2.1
   have nwr:NewR S' x v' y:=by
    rw[hy];refine⟨rfl,?_,?_⟩
    .rcases a7.1 with h|h
     .exact .inl (by simpa[aV]using h)
     .exact .inr (by have:T.nx+1<aV v':=h;have:=hT.nx;omega)
    .show aV w=0\/S'.nx<aV w;omega
   have wb:=hw.1.ok;have wb2:=hw.1.base;have wc:=hw.1.cells;by_cases c1:x.zip.length<x.wl.length
   .have c2:¬x.zip.length<x.ol.length:=by omega
    have kG:(x.zip.length:Int)<x.wl.length:=by omega
    have pA:¬((x.zip.length:Int)<x.ol.length):=by omega
    simp[t0,t3,t4,t5,t6,p1,f3,f4,l3,l4,w1,w2,w3,o1,o2,o3,uk,u1,u2,c1,c2,kG,pA,g5,wk,wb,wb2,wc,fv,a1,aj a2.1];exact .inr ⟨rfl,hT.trans hTV,v',y,by simp,a2',hyT.sub hTV,y1,nwr,by simp[t0],by simp;decide,by simp[hn]⟩
   .have kG:¬((x.zip.length:Int)<x.wl.length):=by omega
    simp[t0,t3,t4,t5,t6,p1,f3,f4,l3,l4,w1,w2,w3,o1,o2,o3,uk,u1,u2,c1,kG,g5,wk,wb,wb2,wc,fv,a1,aj a2.1];exact .inr ⟨rfl,hT.trans hTV,v',y,by simp,a2',hyT.sub hTV,y1,nwr,by simp[t0],by simp;decide,by simp[hn]⟩
 .simp[t0,t3,t4,u1,u2,uk,hv.np];exact⟨hS,y,hv,hy,he,hN⟩
end
theorem zn90:Tryz.f90.ntmps=37:=by kernel_rfl
theorem bl115c(a b f t:Int)(key:List Nat){av:AV}(h:xY av):eT C0 115 [(0,.agg [.int .u64 a,.int .u64 b,.str key,av]),(1,.agg [.int .u64 f,.int .u64 t])]=some (.agg [.int .u64 a,.int .u64 b,.str key,av,.int .u64 f,.int .u64 t]):=by
 rcases h with rfl|⟨_,_,_,_,_,_,_,rfl⟩<;>kernel_rfl
theorem bl117c(k p s t n a b f g:Int)(key:List Nat){av bv:AV}(h:xY av)(h2:xY bv):eT C0 117 [(0,.int .i64 k),(1,.int .i64 p),(2,.int .i64 s),(3,.int .i64 t),(4,.int .u64 n),(5,.agg [.int .u64 a,.int .u64 b,.str key,av,.int .u64 f,.int .u64 g]),(6,bv)]=some (.agg [.int .i64 k,.int .i64 p,.int .i64 s,.int .i64 t,.int .u64 n,.int .u64 a,.int .u64 b,.str key,av,.int .u64 f,.int .u64 g,bv]):=by
 rcases h with rfl|⟨_,_,_,_,_,_,_,rfl⟩<;>rcases h2 with rfl|⟨_,_,_,_,_,_,_,rfl⟩<;>kernel_rfl
section
variable{S:AS}
theorem app_ref{w:AV}{l:List aE}(t:aE)(hg:Gw S w 12 117 (l.flatMap aE.u))(hl:l.length<=10000000):
  ∃v' T,aY C0 ⟨S.h.set S.nx (.row t.u 0 0 false 117),S.nx+1⟩ .append [52,52] [w,.slice S.nx 0 0 1 12 12 (some 1)]=.val v' T/\Gw T v' 12 117 ((l++[t]).flatMap aE.u)/\(∀id,id<S.nx->aV w≠id+1->T.h.get id=S.h.get id)/\S.nx<=T.nx/\(aV v'=aV w\/S.nx<aV v'):=by
 have hold:=hg.1.old;have l1:=hg.1.bj aE.jA (by omega);have hx:Sl (⟨S.h.set S.nx (.row t.u 0 0 false 117),S.nx+1⟩:AS) (.slice S.nx 0 0 1 12 12 (some 1)) 12 t.u:=by
  refine⟨by simp[isSl,eS],?_,by simp[sLen,aE.jA],by simp[aV]⟩;show rd _ _ _ _ (1*12) 12=_;rw[dP,get_set_same,cr,if_pos ⟨zzb _,zzb _,by omega⟩];rfl
 have hgT:Gw (⟨S.h.set S.nx (.row t.u 0 0 false 117),S.nx+1⟩:AS) w 12 117 (l.flatMap aE.u):=hg.cE (fun id e=>ah _ _ (by omega)) (Nat.le_succ _);obtain⟨v',V,e2,r1,r2,r3,r4,r5,r6,r7⟩:=dr (cx:=C0) (ts:=[]) (t:=52) (u:=52) (p:=(117,12,136)) E4 z_un52 rfl hgT hx (by rw[l1];simp[sLen,fits,cG];omega);simp only at r1;refine⟨v',V,e2,by rw[zzg];simpa using r1,fun id h1 h2=>(r2 id (by show id<S.nx+1;omega) (fun e=>h2 e.symm)).trans (ah _ _ (by omega)),by have:S.nx+1<=V.nx:=r3;omega,?_⟩;rcases r6 with h|h
 .exact .inl h
 .exact .inr (by have:S.nx+1<aV v':=h;omega)
def ourH(S:AS)(o:aE)(u:AV)(k:Nat)(F':Fr)(S':AS):Prop:=
 sl F' 6=u/\sl F' 7=.int .i64 1/\F'.n=37 /\
 ((k=1/\S'=S/\sl F' 3=.ar/\sl F' 8=.int .i64 0)\/(k=0/\Sub S S'/\∃v,sl F' 3=v/\Sl S' v 12 o.u/\sl F' 8=.int .i64 1))
theorem ours90{u:AV}{o:aE}(hu:Sl S u 12 o.u)(ho:jl S o):az C0 90 [u] S fun r T=>Sub S T/\Sl T r 12 o.u:=by
 have u1:=hu.sl;have u2:sLen u=1:=by have:=hu.len;rw[aE.jA]at this;omega
 have uk:=aj hu;have x1:=aj ho.aR.sl;have x2:=aj ho.bytes;have x3:=ho.aR.sl.ok;have x4:=ho.aR.sl.base;have x5:=ho.bytes.ok;have x6:=ho.bytes.base;have xc:=ho.aR.sl.cells;have xd:=ho.bytes.cells;have ia:=xY.of ho.aR.sl;have ib:=xY.of ho.bytes;have b1:=fun a b f t key=>bl115c a b f t key ia;have b2:=fun k p s t n a b f g key=>bl117c k p s t n a b f g key ia ib;refine bD (dL _) (dF _ rfl) zf90 rfl zo90 (by simp) fun F hn s0=>?_;rw[zn90]at hn;simp[s0,u1,u2,uk];refine aW (ourH S o u) 1 ⟨by simp,by simp,by simp[hn],.inl ⟨rfl,rfl,by simp,by simp⟩⟩ ?_;clear s0 hn;rintro k F' S'-⟨t6,t7,hn,⟨rfl,rfl,t3,t8⟩|⟨rfl,hS,v,t3,hv,t8⟩⟩
 .have ld:=bh (cx:=C0) (e:=106) (L:=[o]) (k:=0) (x:=o) (enc:=aE.u) (by simpa using hu) aE.jA (by simp) rfl z_ag106 z_sz106;obtain⟨Z,hZ⟩:∃Z:AS,Z=⟨(S'.h.set S'.nx (.row [.int .i64 0,.int .i64 0,.int .i64 0,.int .i64 0,.int .u64 0,.int .u64 0,.int .u64 0,.str [],.ar,.int .u64 0,.int .u64 0,.ar] 0 0 false 106)).set S'.nx (.row o.u 0 0 false 106),S'.nx+1⟩:=⟨_,rfl⟩
  have z1:Sub S' Z:=by rw[hZ];exact Go.Proofs.YthklfandhmkpiaaGreatDoor.mod.eb
  have gz:Z.h.get S'.nx=some (.row o.u 0 0 false 106):=by rw[hZ];exact get_set_same _ _ _
  have bZ:=hZ.symm;clear hZ;obtain⟨w',W,a1,a2,a3,a4,a5⟩:=app_ref (S:=Z) (w:=.ar) (l:=[]) o (by simpa using Gw.nil) (by simp);have fv:=fun (F:Fr) (id:Nat) (a:Tmp) (h:sl F a=.agg o.u)=>bA (cx:=C0) (F:=F) (t:=52) (p:=(117,12,136)) (id:=id) (n:=1) (a:=#[(0,.tmp a)]) [o.u] E4 rfl (by simp[aA,h,cellsOf]) (by simp[aE.jA]) (by decide);have hW:Sub S' W:=⟨fun id cw=>(a3 id (by have:=z1.nx;omega) (by simp[aV])).trans (z1.h id cw),by have:=z1.nx;omega⟩
  have wi:IntKind.i64.wrap 1=1:=by decide
  simp only[zzc,zzd,zzf,zzi,aE.u]at fv a1 ld bZ gz;simp[t3,t6,t7,t8,u1,u2,uk,ld,bZ,gz,b1,b2,fv,a1,aj a2.1,x1,x2,x3,x4,x5,x6,xc,xd,wi];exact⟨by simp[t6],by simp[t7],by simp[hn],.inr ⟨rfl,hW,w',by simp,by simpa using a2.1,by simp⟩⟩
 .simp[t3,t6,t7,t8,hv.np];exact⟨hS,hv⟩
end
theorem zn37:Tryz.f37.ntmps=37:=by kernel_rfl
theorem st51:n9 C0 51=some (3,1,8):=by kernel_rfl
theorem bl54(k e n:Int):eT C0 54 [(0,.int .i64 k),(1,.int .i64 e),(2,.int .u64 n)]=some (.agg [.int .i64 k,.int .i64 e,.int .u64 n,.ar,.ar]):=by kernel_rfl
section
variable{S:AS}
def thrH(S:AS)(x:dY)(k:Nat)(F':Fr)(T:AS):Prop:=
 ∃(i:Nat)(w v:AV),Sub S T/\T.h.get (S.nx+1)=some (.row [.int .i64 0,.int .i64 0,.int .u64 0,.ar,.ar] 0 0 false 54)/\T.h.get (S.nx+2)=some (.row [.int .i64 x.kind,.int .i64 x.err,.int .u64 x.n,w,v] 0 0 false 54) /\
  Gw T w 1 3 (ss ((x.l.take i).map fun o=>o.o.au))/\Gw T v 12 117 ((x.l.take i).flatMap aE.u)/\(aV w=0\/S.nx+3<aV w)/\(aV v=0\/S.nx+3<aV v)/\(aV w=0\/aV w≠aV v)/\S.nx+3<=T.nx /\
  sl F' 2=.ptr (S.nx+1) 0 0 5/\sl F' 3=.ptr (S.nx+2) 0 0 5/\sl F' 14=x.sv/\sl F' 15=.int .i64 x.l.length/\sl F' 16=.int .i64 i/\i<=x.l.length/\k=x.l.length-i/\F'.n=37
set_option maxHeartbeats 4000000 in
theorem theirs37{x:dY}(hx:jG S x):az C0 37 [.agg x.c] S fun r T=>Sub S T/\∃w v,r=.agg (⟨x.kind,x.err,x.n,x.l.map fun o=>o.o.au,x.l,w,v⟩:de).c/\iC T ⟨x.kind,x.err,x.n,x.l.map fun o=>o.o.au,x.l,w,v⟩:=by
 have oks:=aj hx.sl;have scs:=hx.sl.cells;have u1:=hx.sl.sl;have u2:=hx.sl.bj aE.dm (by omega);have hlen:=hx.len;refine ej (dL _) (dF _ rfl) zf37 rfl zo37 (by simp) fun F hn hs=>?_;rw[zn37]at hn;have s0:=hs 0;clear hs;simp only[List.getElem?_cons_zero,Option.getD_some,dY.c]at s0;simp[s0,bl54,oks,scs,u1,u2];refine aW (thrH S x) x.l.length ⟨0,.ar,.ar,⟨fun id cw=>?_,?_⟩,?_,?_,by simpa[ss]using Gw.nil,by simpa using Gw.nil,.inl rfl,.inl rfl,.inl rfl,?_,by simp,by simp,by simp,by simp,by simp,zzh _,rfl,by simp[hn]⟩ ?_
 .show (Am.T.set _ _ _).get _=_;rw[ah _ _ (by omega),ah _ _ (by omega),ah _ _ (by omega),ah _ _ (by omega)]
 .show S.nx<=S.nx+1+2;omega
 .show (Am.T.set _ _ _).get _=_;rw[ah _ _ (by omega),ah _ _ (by omega),get_set_same]
 .exact get_set_same _ _ _
 .show S.nx+3<=S.nx+1+2;omega
 clear s0 hn;rintro k F T-⟨i,w,v,hT,g2,g3,hw,hv,hwb,hvb,hwv,AY,t2,t3,t14,t15,t16,hi,hk,hn⟩;by_cases ck:i<x.l.length
 .obtain⟨o,ho⟩:∃o,x.l[i]?=some o:=⟨_,zza ck⟩
  have rJ:=hx.at_ o (zze ho);have ld:=bh (cx:=C0) (e:=108) (hx.sl.toSub hT) aE.dm (by omega) ho zR zO;obtain⟨Z,hZ⟩:∃Z:AS,Z=⟨(T.h.set T.nx (.row [.int .i64 0,.int .i64 0,.int .i64 0,.int .i64 0,.int .i64 0,.int .u64 0,.int .u64 0,.int .u64 0,.str [],.ar,.int .u64 0,.int .u64 0,.ar] 0 0 false 108)).set T.nx (.row o.c 0 0 false 108),T.nx+1⟩:=⟨_,rfl⟩
  have z1:Sub T Z:=by rw[hZ];exact Go.Proofs.YthklfandhmkpiaaGreatDoor.mod.eb
  have gz:Z.h.get T.nx=some (.row o.c 0 0 false 108):=by rw[hZ];exact get_set_same _ _ _
  have nZ:Z.nx=T.nx+1:=by rw[hZ]
  have bZ:=hZ.symm;clear hZ;have g3z:=(z1.h _ (by omega)).trans g3;have x1:=aj rJ.aR.sl;have x2:=aj rJ.bytes;have x3:=rJ.aR.sl.ok;have x4:=rJ.aR.sl.base;have x5:=rJ.bytes.ok;have x6:=rJ.bytes.base;have xc:=rJ.aR.sl.cells;have xd:=rJ.bytes.cells;have gzc:=gz;have wk:=aj hw.1;have vk:=aj hv.1;have hoT:jl Z o:=(rJ.sub hT).sub z1;have wold:=hw.1.old;have vold:=hv.1.old;obtain⟨A0,hA0⟩:∃A0:AS,A0=⟨Z.h.set Z.nx (.row [.int .i64 o.o.au] 0 0 false 3),Z.nx+2⟩:=⟨_,rfl⟩
  have nA0:A0.nx=Z.nx+2:=by rw[hA0]
  have oA0:∀id,id≠Z.nx->A0.h.get id=Z.h.get id:=fun id e=>by rw[hA0];exact ah _ _ e
  have hslA:Sl A0 (.slice Z.nx 0 0 1 1 1 (some 1)) 1 [.int .i64 o.o.au]:=by
   refine⟨by simp[isSl,eS],?_,by simp[sLen],by simp[aV];omega⟩;show rd _ _ _ _ (1*1) 1=_;rw[hA0,dP,get_set_same,cr,if_pos ⟨zzb _,zzb _,by omega⟩];rfl
  have bA0:=hA0.symm;clear hA0;have hwA:Gw A0 w 1 3 (ss ((x.l.take i).map fun o=>o.o.au)):=hw.cE (fun id e=>(oA0 id (by omega)).trans (z1.h id (by omega))) (by omega);have lw:=hw.1.gx;rw[vw,List.length_map,zzj]at lw;obtain⟨w',A1,a1,a2,a3,a4,a5,a6,a7,a8⟩:=dr (cx:=C0) (ts:=[]) (t:=51) (u:=51) (p:=(3,1,8)) st51 z_un51 rfl hwA hslA (by rw[lw];simp[sLen,fits,cG];omega);obtain⟨B0,ze⟩:∃B0:AS,B0=⟨A1.h.set (Z.nx+1) (.row o.u 0 0 false 106),A1.nx⟩:=⟨_,rfl⟩
  have nB0:B0.nx=A1.nx:=by rw[ze]
  have oB0:∀id,id≠Z.nx+1->B0.h.get id=A1.h.get id:=fun id e=>by rw[ze];exact ah _ _ e
  have hslB:Sl B0 (.slice (Z.nx+1) 0 0 1 12 12 (some 1)) 12 o.u:=by
   refine⟨by simp[isSl,eS],?_,by simp[sLen,aE.jA],by simp[aV];omega⟩;show rd _ _ _ _ (1*12) 12=_;rw[ze,dP,get_set_same,cr,if_pos ⟨zzb _,zzb _,by omega⟩];rfl
  have bB0:=ze.symm;clear ze;have zB0:∀id,id<Z.nx->id+1≠aV w->B0.h.get id=Z.h.get id:=fun id h1 h2=>(oB0 id (by omega)).trans ((a3 id (by omega) h2).trans (oA0 id (by omega)));have hSB0:Sub S B0:=⟨fun id cw=>by have:=hT.nx;exact (zB0 id (by omega) (by omega)).trans ((z1.h id (by omega)).trans (hT.h id cw)),by have:=hT.nx;omega⟩
  obtain⟨r,B1,⟨hB1,hr⟩,e1⟩:=(ours90 hslB (rJ.sub hSB0)).ex;have nB1:=hB1.nx;have zB1:∀id,id<Z.nx->id+1≠aV w->B1.h.get id=Z.h.get id:=fun id h1 h2=>(hB1.h id (by omega)).trans (zB0 id h1 h2);have hvB:Gw B1 v 12 117 ((x.l.take i).flatMap aE.u):=hv.cE (fun id e=>(zB1 id (by omega) (by omega)).trans (z1.h id (by omega))) (by omega);have lv:=hv.1.bj aE.jA (by omega);rw[zzj]at lv;have lr:sLen r=1:=by have:=hr.len;rw[aE.jA]at this;omega
  obtain⟨v',B2,b1,b2,b3,b4,b5,b6,b7,b8⟩:=dr (cx:=C0) (ts:=[]) (t:=52) (u:=52) (p:=(117,12,136)) E4 z_un52 rfl hvB hr (by rw[lv,lr];simp[fits,cG];omega);simp only at a2 b2;have kj:x.l.take (i+1)=x.l.take i++[o]:=by rw[List.take_add_one,ho];rfl
  have hwB1:Gw B1 w' 1 3 (ss ((x.l.take (i+1)).map fun o=>o.o.au)):=by
   have:ss ((x.l.take (i+1)).map fun o=>o.o.au)=ss ((x.l.take i).map fun o=>o.o.au)++[.int .i64 o.o.au]:=by rw[kj];simp[ss]
   rw[this];have old:=a2.1.old;exact a2.cE (fun id e=>(hB1.h id (by omega)).trans (oB0 id (by omega))) (by omega)
  have hwB2:Gw B2 w' 1 3 (ss ((x.l.take (i+1)).map fun o=>o.o.au)):=hwB1.cE (fun id e=>b3 id (by have:=hwB1.1.old;omega) (by omega)) b4;have hvB2:Gw B2 v' 12 117 ((x.l.take (i+1)).flatMap aE.u):=by rw[kj,zzg];simpa using b2
  have g3A0:A0.h.get (S.nx+2)=_:=(oA0 _ (by omega)).trans g3z;have g3A1:A1.h.get (S.nx+2)=_:=(a3 _ (by omega) (by omega)).trans g3A0;have g3B0:B0.h.get (S.nx+2)=_:=(oB0 _ (by omega)).trans g3A1;have g3B1:B1.h.get (S.nx+2)=_:=(hB1.h _ (by omega)).trans g3B0;have g3B2:B2.h.get (S.nx+2)=_:=(b3 _ (by omega) (by omega)).trans g3B1;have gzA0:A0.h.get T.nx=_:=(oA0 _ (by omega)).trans gz;have gzA1:A1.h.get T.nx=_:=(a3 _ (by omega) (by omega)).trans gzA0;have gzB0:B0.h.get T.nx=_:=(oB0 _ (by omega)).trans gzA1;have gzB1:B1.h.get T.nx=_:=(hB1.h _ (by omega)).trans gzB0;have gzB2:B2.h.get T.nx=_:=(b3 _ (by omega) (by omega)).trans gzB1;have g2B2:B2.h.get (S.nx+1)=_:=(b3 _ (by omega) (by omega)).trans ((zB1 _ (by omega) (by omega)).trans ((z1.h _ (by omega)).trans g2));have hSB2:∀id,id<S.nx->B2.h.get id=S.h.get id:=fun id cw=>by
   have:=hT.nx;exact (b3 id (by omega) (by omega)).trans ((hB1.h id (by omega)).trans (hSB0.h id cw))
  have fvu:=fun (F:Fr) (id:Nat) (a:Tmp) (h:sl F a=.agg o.u)=>bA (cx:=C0) (F:=F) (t:=180) (p:=(106,12,136)) (id:=id) (n:=1) (a:=#[(0,.tmp a)]) [o.u] z_st180 rfl (by simp[aA,h,cellsOf]) (by simp[aE.jA]) (by decide);have wi:=IntWalk.i64_in ((i:Int)+1) (by omega);have c1:aV w'=0\/S.nx+3<aV w':=by omega
  have c2:aV v'=0\/S.nx+3<aV v':=by omega
  have c3:aV w'=0\/aV w'≠aV v':=by
   have:=hwB1.1.old;omega
  have w'k:=aj a2.1;have v'k:=aj b2.1;have w'c:=a2.1.cells;have v'c:=b2.1.cells;have rk:=aj hr;simp only[zzc,zzd,zzf,zzi,aE.u]at fvu bB0;simp only[aE.c]at ld bZ gzc gzA0 gzA1 gzB0 gzB1 gzB2;simp[t2,t3,t14,t15,t16,ck,u1,u2,oks,ld,bZ,x1,x2,x3,x4,x5,x6];refine bg [.p,.r 0 0,.p,.r 0 0,.f,.e [4],.p,.r 1 1,.p,.r 1 0,.f,.e [4,10],.e [4,10],.p,.e [4,10],.p,.e [4,10]] (n:=37) (by kernel_rfl) (by simp[hn]) ?_;simp[t2,t3,t14,t15,t16,g3z,gzc,x1,x2,x3,x4,x5,x6,xc,xd,wk,vk,aK,aB st51,bA0,a1,g3A0,g3A1,gzA0,gzA1,fvu,bB0,e1,b1,g3B0,g3B1,g3B2,gzB0,gzB1,gzB2,w'k,v'k,w'c,v'c,rk,wi];refine⟨⟨by rcases rJ.aR.sl.cases with h|⟨_,_,_,_,_,_,h⟩<;>rw[h],by rcases rJ.bytes.cases with h|⟨_,_,_,_,_,_,h⟩<;>rw[h]⟩,x.l.length-(i+1),by omega,i+1,w',v',⟨fun id cw=>?_,?_⟩,?_,get_set_same _ _ _,hwB2.cE (fun id e=>?_) (zzb _),hvB2.cE (fun id e=>?_) (zzb _),c1,c2,c3,?_,by simp[t2],by simp[t3],by simp[t14],by simp[t15],by simp,ck,rfl,by simp[hn]⟩
  .show (Am.T.set _ _ _).get _=_;rw[ah _ _ (by omega),ah _ _ (by omega)];exact hSB2 id cw
  .show S.nx<=B2.nx;omega
  .show (Am.T.set _ _ _).get _=_;rw[ah _ _ (by omega),ah _ _ (by omega)];exact g2B2
  .show (Am.T.set _ _ _).get _=_;rw[ah _ _ (by omega),ah _ _ (by omega)]
  .show (Am.T.set _ _ _).get _=_;rw[ah _ _ (by omega),ah _ _ (by omega)]
  .show S.nx+3<=B2.nx;omega
 .obtain rfl:i=x.l.length:=by omega
  rw[List.take_length]at hw hv;have wk:=aj hw.1;have vk:=aj hv.1;have wo:=hw.1.ok;have vo:=hv.1.ok;have wb:=hw.1.base;have vb:=hv.1.base;have wc:=hw.1.cells;have vc:=hv.1.cells;simp[t2,t3,t14,t15,t16,g2,g3,wk,vk,wo,vo,wb,vb,wc,vc];have mm:∀W:AS,(∀id,id≠S.nx+1->W.h.get id=T.h.get id)->W.nx=T.nx->Sub S W/\iC W ⟨x.kind,x.err,x.n,x.l.map fun o=>o.o.au,x.l,w,v⟩:=fun W h1 h2=>by
   have hSW:Sub S W:=⟨fun id cw=>(h1 id (by omega)).trans (hT.h id cw),by have:=hT.nx;omega⟩
   refine⟨hSW,(hw.cE (fun id e=>h1 id (by omega)) (by omega)).1,(hv.cE (fun id e=>h1 id (by omega)) (by omega)).1,fun o ho=>(hx.at_ o ho).sub hSW,fun b hb=>?_,hx.kind,hx.err,hx.n,by show (x.l.map _).length<=_;rw[List.length_map];exact hlen,hlen⟩;obtain⟨o,ho,rfl⟩:=List.mem_map.1 hb;exact (hx.at_ o ho).dK.au
  exact⟨(mm ⟨T.h.set (S.nx+1) _,T.nx⟩ (fun id e=>ah _ _ e) rfl).1,w,v,rfl,(mm ⟨T.h.set (S.nx+1) _,T.nx⟩ (fun id e=>ah _ _ e) rfl).2⟩
end
theorem zn20:Tryz.f20.ntmps=20:=by kernel_rfl
theorem zn19:Tryz.f19.ntmps=27:=by kernel_rfl
section
variable{S:AS}
def tolH(S:AS)(x:dY)(u:AV)(k:Nat)(F':Fr)(S':AS):Prop:=
 sl F' 0=u/\F'.n=20 /\
 ((k=1/\S'=S/\sl F' 3=.ar/\sl F' 4=.int .i64 0)\/(k=0/\Sub S S'/\(∃v z w1 w2,z=(⟨x.kind,x.err,x.n,x.l.map fun o=>o.o.au,x.l,w1,w2⟩:de)/\sl F' 3=v/\Sl S' v 5 z.c/\iC S' z)/\sl F' 4=.int .i64 1))
theorem nX{u:AV}{x:dY}(hu:Sl S u 4 x.c)(hx:jG S x):az C0 20 [u] S fun r T=>Sub S T/\∃z w1 w2,z=(⟨x.kind,x.err,x.n,x.l.map fun o=>o.o.au,x.l,w1,w2⟩:de)/\Sl T r 5 z.c/\iC T z:=by
 have u1:=hu.sl;have u2:sLen u=1:=by have:=hu.len;rw[dY.dm]at this;omega
 have uk:=aj hu;refine bD (dL _) (dF _ rfl) zf20 rfl zo20 (by simp) fun F hn s0=>?_;rw[zn20]at hn;simp[s0,u1,u2,uk];refine aW (tolH S x u) 1 ⟨by simp[s0],by simp[hn],.inl ⟨rfl,rfl,by simp,by simp⟩⟩ ?_;clear s0 hn;rintro k F' S'-⟨t0,hn,⟨rfl,rfl,t3,t4⟩|⟨rfl,hS,⟨v,z,w1,w2,hz,t3,hv,hR⟩,t4⟩⟩
 .have ld:=bh (cx:=C0) (e:=111) (L:=[x]) (k:=0) (x:=x) (enc:=dY.c) (by simpa using hu) dY.dm (by simp) rfl z_ag111 (by kernel_rfl);obtain⟨_,T,⟨hT,w1,w2,rfl,hR⟩,e1⟩:=(theirs37 hx).ex;obtain⟨z,hz⟩:∃z:de,z=⟨x.kind,x.err,x.n,x.l.map fun o=>o.o.au,x.l,w1,w2⟩:=⟨_,rfl⟩
  rw[<-hz]at hR e1;have fv:=fun (F:Fr) (id:Nat) (a:Tmp) (h:sl F a=.agg z.c)=>bA (cx:=C0) (F:=F) (t:=58) (p:=(54,5,72)) (id:=id) (n:=1) (a:=#[(0,.tmp a)]) [z.c] zP rfl (by simp[aA,h,cellsOf]) (by simp[de.dm]) (by decide);have qe:Sl (⟨T.h.set T.nx (.row z.c 0 0 false 54),T.nx+1⟩:AS) (.slice T.nx 0 0 1 5 5 (some 1)) 5 z.c:=by
   refine⟨by simp[isSl,eS],?_,by simp[sLen,de.dm],by simp[aV]⟩;show rd _ _ _ _ (1*5) 5=_;rw[dP,get_set_same,cr,if_pos ⟨zzb _,zzb _,by omega⟩];rfl
  obtain⟨v',V,a1,a2,a3,a4,a5,a6,a7⟩:=dr (cx:=C0) (ts:=[]) (t:=58) (u:=58) (p:=(54,5,72)) zP z_un58 rfl (Gw.nil (S:=⟨T.h.set T.nx (.row z.c 0 0 false 54),T.nx+1⟩) (sz:=5) (e:=54)) qe (by simp[sLen,fits,cG]);have hTV:Sub T V:=⟨fun id cw=>(a3 id (by show id<T.nx+1;omega) (by simp[aV])).trans (ah _ _ (by omega)),by have:T.nx+1<=V.nx:=a4;omega⟩
  have a2':Sl V v' 5 z.c:=by simpa using a2.1
  have x1:=aj hx.sl;have x2:=hx.sl.ok;have x3:=hx.sl.base;have wi:IntKind.i64.wrap 1=1:=by decide
  simp only[zzc,zzd,zzf,zzi]at fv;simp only[dY.c]at ld e1;simp[t0,t3,t4,u1,u2,uk,ld,e1,aK,fv,a1,aj a2.1,x1,x2,x3,wi];exact⟨by simp[t0],by simp[hn],.inr ⟨rfl,hT.trans hTV,⟨v',z,w1,w2,hz,by simp,a2',hR.sub hTV⟩,by simp⟩⟩
 .simp[t0,t3,t4,u1,u2,uk,hv.np];exact⟨hS,z,⟨w1,w2,hz⟩,hv,hR⟩
end
open Go.Proofs.YthklfandhmkpiaaGreatDoor.val (fU ew same7 qm tY)
theorem zn89:Tryz.f89.ntmps=110:=by kernel_rfl
def aE.strip(o:aE):iB:={o.o with au:=0}
section
variable{S:AS}
set_option maxHeartbeats 8000000 in
theorem same89{p q:AV}{l m:List aE}(hp:Sl S p 12 (l.flatMap aE.u))(hq:Sl S q 12 (m.flatMap aE.u))(hl:∀o,o∈l->jl S o)(hm:∀o,o∈m->jl S o)(ll:l.length<=1048576)(ml:m.length<=1048576):
  az C0 89 [p,q] S fun r T=>Sub S T/\∃b,r=.bool b/\(b=true↔l.map aE.strip=m.map aE.strip):=by
 have u1:=hp.sl;have u2:=hp.bj aE.jA (by omega);have v1:=hq.sl;have v2:=hq.bj aE.jA (by omega);have uk:=aj hp;have vk:=aj hq;refine bu (dL _) (dF _ rfl) zf89 rfl zo89 (by simp) fun F hn s0 s1=>?_;rw[zn89]at hn;by_cases k1:l.length=m.length
 case neg=>
  have k2:¬((l.length:Int)=m.length):=by omega
  have k3:¬l.map aE.strip=m.map aE.strip:=fun e=>k1 (by simpa using congrArg List.length e);simp[s0,s1,u1,u2,v1,v2,uk,vk,k1,k2,k3];exact Sub.refl _
 have v3:sLen q=l.length:=by omega
 simp[s0,s1,u1,u2,v1,v3,uk,vk];refine aW (sideH S aE.strip l m 110 5 (fun F'=>sl F' 0=p/\sl F' 1=q)) l.length ⟨0,Sub.refl _,by simp,by simp,zzh _,zzh _,⟨by simp[s0],by simp[s1]⟩,by simp[hn],rfl⟩ ?_;clear s0 s1 hn;rintro k F' T-⟨i,hT,gf,t5,hi1,BO,⟨t0,t1⟩,hn,hk⟩;by_cases c1:i<l.length
 case neg=>
  have heq:=AA gf (by omega) (by omega);simp[t0,t1,t5,u1,u2,uk,c1,heq];exact hT
 have c2:i<m.length:=by omega
 have kG:(i:Int)<l.length:=by omega
 obtain⟨x,hx⟩:∃x,l[i]?=some x:=⟨_,zza c1⟩
 obtain⟨y,hy⟩:∃x,m[i]?=some x:=⟨_,zza c2⟩
 have ug:=hl x (zze hx);have hya:=hm y (zze hy);have step:=lu gf hx hy;have oq:=map_ne (f:=aE.strip) hx hy;have lx:=bh (cx:=C0) (e:=117) (hp.toSub hT) aE.jA (by omega) hx zQ zN;obtain⟨Z1,xh⟩:∃Z:AS,Z=⟨(T.h.set T.nx (.row [.int .i64 0,.int .i64 0,.int .i64 0,.int .i64 0,.int .u64 0,.int .u64 0,.int .u64 0,.str [],.ar,.int .u64 0,.int .u64 0,.ar] 0 0 false 117)).set T.nx (.row x.u 0 0 false 117),T.nx+1⟩:=⟨_,rfl⟩
 have z1:Sub T Z1:=by rw[xh];exact Go.Proofs.YthklfandhmkpiaaGreatDoor.mod.eb
 have g1:Z1.h.get T.nx=some (.row x.u 0 0 false 117):=by rw[xh];exact get_set_same _ _ _
 have n1:Z1.nx=T.nx+1:=by rw[xh]
 have E2:=xh.symm;clear xh;have ly:=bh (cx:=C0) (e:=117) (hq.toSub (hT.trans z1)) aE.jA (by omega) hy zQ zN;obtain⟨Z2,AW⟩:∃Z:AS,Z=⟨(Z1.h.set Z1.nx (.row [.int .i64 0,.int .i64 0,.int .i64 0,.int .i64 0,.int .u64 0,.int .u64 0,.int .u64 0,.str [],.ar,.int .u64 0,.int .u64 0,.ar] 0 0 false 117)).set Z1.nx (.row y.u 0 0 false 117),Z1.nx+1⟩:=⟨_,rfl⟩
 have z2:Sub Z1 Z2:=by rw[AW];exact Go.Proofs.YthklfandhmkpiaaGreatDoor.mod.eb
 have g2:Z2.h.get Z1.nx=some (.row y.u 0 0 false 117):=by rw[AW];exact get_set_same _ _ _
 have nP:=(z2.h _ (by omega)).trans g1;have E1:=AW.symm;clear AW;have hZ:=(hT.trans z1).trans z2;obtain⟨_,U,⟨rfl,hU⟩,e1⟩:=(same7 (key:=x.o.key) (key':=y.o.key) (ug.aR.sub hZ) (hya.aR.sub hZ)).ex;have tx:=fun (F:Fr) (dst:Option Tmp) (ty:TypeId) (pos:String) (af:Array Edge) (gd:Option (Nat×Bool)) (w:Tmp) (e:sl F w=x.bv)=>gC (cx:=C0) (F:=F) (S:=Z2) (dst:=dst) (ty:=ty) (pos:=pos) (af:=af) (gd:=gd) (a:=48) (b:=9) (ug.bytes.toSub hZ) ug.byt ((aA F w).trans e) qm tY;have B8:=fun (F:Fr) (dst:Option Tmp) (ty:TypeId) (pos:String) (af:Array Edge) (gd:Option (Nat×Bool)) (w:Tmp) (e:sl F w=y.bv)=>gC (cx:=C0) (F:=F) (S:=Z2) (dst:=dst) (ty:=ty) (pos:=pos) (af:=af) (gd:=gd) (a:=48) (b:=9) (hya.bytes.toSub hZ) hya.byt ((aA F w).trans e) qm tY;have x1:=aj ug.aR.sl;have x2:=aj ug.bytes;have x3:=ug.aR.sl.ok;have x4:=ug.aR.sl.base;have x5:=ug.bytes.ok;have x6:=ug.bytes.base;have y1:=aj hya.aR.sl;have y2:=aj hya.bytes;have y3:=hya.aR.sl.ok;have y4:=hya.aR.sl.base;have y5:=hya.bytes.ok;have y6:=hya.bytes.base;have wi:=IntWalk.i64_in ((i:Int)+1) (by omega);obtain⟨⟨xb,xk,xp,xs,xt,xn,xN,xT,xe,xa,xF,xG,xy⟩,xav,xbv⟩:=x;obtain⟨⟨yb,yk,yp,ys,yt,yn,yN,yT,ye,ya,yF,yG,yy⟩,yav,ybv⟩:=y;simp only[aE.u,aE.strip,iB.mk.injEq,ne_eq,true_and]at lx ly E2 E1 g1 g2 nP e1 tx B8 step oq x1 x2 x3 x4 x5 x6 y1 y2 y3 y4 y5 y6;by_cases w1:xk=yk
 case neg=>
  simp[t0,t1,t5,u1,u2,v1,v3,uk,vk,c1,kG,lx,ly,E2,E1,g1,g2,nP,x1,x2,x3,x4,x5,x6,y1,y2,y3,y4,y5,y6,w1];exact⟨hZ,fun e=>oq (fun h=>w1 (by simp[h])) e⟩
 subst w1;by_cases w1:xp=yp
 case neg=>
  simp[t0,t1,t5,u1,u2,v1,v3,uk,vk,c1,kG,lx,ly,E2,E1,g1,g2,nP,x1,x2,x3,x4,x5,x6,y1,y2,y3,y4,y5,y6,w1];exact⟨hZ,fun e=>oq (fun h=>w1 (by simp[h])) e⟩
 subst w1;by_cases w1:xs=ys
 case neg=>
  simp[t0,t1,t5,u1,u2,v1,v3,uk,vk,c1,kG,lx,ly,E2,E1,g1,g2,nP,x1,x2,x3,x4,x5,x6,y1,y2,y3,y4,y5,y6,w1];exact⟨hZ,fun e=>oq (fun h=>w1 (by simp[h])) e⟩
 subst w1;by_cases w1:xt=yt
 case neg=>
  simp[t0,t1,t5,u1,u2,v1,v3,uk,vk,c1,kG,lx,ly,E2,E1,g1,g2,nP,x1,x2,x3,x4,x5,x6,y1,y2,y3,y4,y5,y6,w1];exact⟨hZ,fun e=>oq (fun h=>w1 (by simp[h])) e⟩
 subst w1;by_cases w1:xn=yn
 case neg=>
  have w2:¬((xn:Int)=yn):=by omega
  simp[t0,t1,t5,u1,u2,v1,v3,uk,vk,c1,kG,lx,ly,E2,E1,g1,g2,nP,x1,x2,x3,x4,x5,x6,y1,y2,y3,y4,y5,y6,w1,w2];exact⟨hZ,fun e=>oq (fun h=>w1 (by simp[h])) e⟩
 subst w1;by_cases w1:xy=yy
 case neg=>
  simp[t0,t1,t5,u1,u2,v1,v3,uk,vk,c1,kG,lx,ly,E2,E1,g1,g2,nP,x1,x2,x3,x4,x5,x6,y1,y2,y3,y4,y5,y6,tx,B8,jM,aZ,w1];exact⟨hZ,fun e=>oq (fun h=>w1 (by simp[h])) e⟩
 subst w1;by_cases w1:xF=yF/\xG=yG
 case neg=>
  simp[t0,t1,t5,u1,u2,v1,v3,uk,vk,c1,kG,lx,ly,E2,E1,g1,g2,nP,x1,x2,x3,x4,x5,x6,y1,y2,y3,y4,y5,y6,tx,B8,jM,aZ,yL,w1];exact⟨hZ,fun e=>oq (fun h=>w1 (by simp[h])) e⟩
 obtain⟨rfl,rfl⟩:=w1;by_cases w1:xN=yN
 case neg=>
  have w2:¬((xN:Int)=yN):=by omega
  simp[t0,t1,t5,u1,u2,v1,v3,uk,vk,c1,kG,lx,ly,E2,E1,g1,g2,nP,x1,x2,x3,x4,x5,x6,y1,y2,y3,y4,y5,y6,tx,B8,jM,aZ,yL,w1,w2];exact⟨hZ,fun e=>oq (fun h=>w1 (by simp[h])) e⟩
 subst w1;by_cases w1:xT=yT
 case neg=>
  have w2:¬((xT:Int)=yT):=by omega
  simp[t0,t1,t5,u1,u2,v1,v3,uk,vk,c1,kG,lx,ly,E2,E1,g1,g2,nP,x1,x2,x3,x4,x5,x6,y1,y2,y3,y4,y5,y6,tx,B8,jM,aZ,yL,w1,w2];exact⟨hZ,fun e=>oq (fun h=>w1 (by simp[h])) e⟩
 subst w1;by_cases w1:xe=ye/\xa=ya
 case neg=>
  have w2:(decide (xe=ye)&&decide (xa=ya))=false:=by
   by_cases p1:xe=ye<;>by_cases p2:xa=ya<;>simp_all
  rw[w2]at e1;simp[t0,t1,t5,u1,u2,v1,v3,uk,vk,c1,kG,lx,ly,E2,E1,g1,g2,nP,x1,x2,x3,x4,x5,x6,y1,y2,y3,y4,y5,y6,tx,B8,jM,aZ,yL,e1,aK];exact⟨(hZ.trans hU),fun e=>oq (fun h=>w1 (by simp[h])) e⟩
 obtain⟨rfl,rfl⟩:=w1;simp only[decide_true,Bool.and_self]at e1;simp[t0,t1,t5,u1,u2,v1,v3,uk,vk,c1,kG,lx,ly,E2,E1,g1,g2,nP,x1,x2,x3,x4,x5,x6,y1,y2,y3,y4,y5,y6,tx,B8,jM,aZ,yL,e1,aK,wi];exact⟨l.length-(i+1),by omega,i+1,hZ.trans hU,step (by simp),by simp,by omega,by omega,⟨by simp[t0],by simp[t1]⟩,by simp[hn],rfl⟩
end
theorem zn36:Tryz.f36.ntmps=57:=by kernel_rfl
def de.same(x y:de):Prop:=x.kind=y.kind/\x.err=y.err/\x.n=y.n/\x.wl=y.wl/\x.ol.map aE.strip=y.ol.map aE.strip
section
variable{S:AS}
set_option maxHeartbeats 4000000 in
theorem same36{x y:de}(hx:iC S x)(hy:iC S y):az C0 36 [.agg x.c,.agg y.c] S fun r T=>Sub S T/\∃b,r=.bool b/\(b=true↔x.same y):=by
 obtain⟨S1,dZ⟩:∃S1:AS,S1=⟨(S.h.set S.nx (.row x.c 0 0 false 54)).set (S.nx+1) (.row y.c 0 0 false 54),S.nx+2⟩:=⟨_,rfl⟩
 have h0:Sub S S1:=by rw[dZ];exact Go.Proofs.YthklfandhmkpiaaGreatDoor.mod.pY
 have g0:S1.h.get S.nx=some (.row x.c 0 0 false 54):=by rw[dZ];exact (ah _ _ (by omega)).trans (get_set_same _ _ _)
 have fH:S1.h.get (S.nx+1)=some (.row y.c 0 0 false 54):=by rw[dZ];exact get_set_same _ _ _
 have fR:=dZ.symm;clear dZ;have Dn:=hx.sub h0;have y0:=hy.sub h0;obtain⟨_,T,⟨hT,b1,rfl,pd⟩,e1⟩:=(same89 Dn.os y0.os Dn.at_ y0.at_ hx.Av hy.Av).ex;have u1:=hx.ws.sl;have u2:=hx.ws.gx;have v1:=hy.ws.sl;have v2:=hy.ws.gx;rw[vw]at u2 v2;have uk:=aj hx.ws;have vk:=aj hy.ws;have ok:=aj hx.os;have pk:=aj hy.os;have uc:=hx.ws.cells;have vc:=hy.ws.cells;have oc:=hx.os.cells;have pc:=hy.os.cells;have hxw:=Dn.ws;have hyw:=y0.ws;have hwl:=hx.wlen;clear hx hy Dn y0;obtain⟨xk,xe,xn,xw,xo,xwv,xov⟩:=x;obtain⟨yk,ye,yn,yw,yo,ywv,yov⟩:=y;unfold de.same;simp only[de.c]at *;refine bu (dL _) (dF _ rfl) zf36 rfl zo36 (by simp) fun F hn s0 s1=>?_;rw[zn36]at hn;by_cases k1:xk=yk
 case neg=>simp[s0,s1,fR,g0,fH,k1];exact h0
 subst k1;by_cases k1:xe=ye
 case neg=>simp[s0,s1,fR,g0,fH,k1];exact h0
 subst k1;by_cases k1:xn=yn
 case neg=>
  have k2:¬((xn:Int)=yn):=by omega
  simp[s0,s1,fR,g0,fH,k1,k2];exact h0
 subst k1;by_cases k1:xw.length=yw.length
 case neg=>
  have k2:¬((xw.length:Int)=yw.length):=by omega
  have k3:¬xw=yw:=fun e=>k1 (by rw[e]);simp[s0,s1,fR,g0,fH,uk,vk,u1,u2,v1,v2,k1,k2,k3];exact h0
 simp[s0,s1,fR,g0,fH,uk,vk,u1,u2,v1,v2,k1];refine aW (sideE S1 xw yw 57 5 (fun F'=>sl F' 2=.ptr S.nx 0 0 5/\sl F' 3=.ptr (S.nx+1) 0 0 5)) xw.length ⟨0,rfl,by simp,by simp,zzh _,⟨by simp,by simp⟩,by simp[hn],rfl⟩ ?_;clear s0 s1 hn;rintro k F S2-⟨i,rfl,hm,t5,hi,⟨f2,f3⟩,hn,hk⟩;by_cases c1:i<xw.length
 .obtain⟨a,ug⟩:∃a,xw[i]?=some a:=⟨_,zza c1⟩
  obtain⟨b,EU⟩:∃a,yw[i]?=some a:=⟨_,zza (by omega)⟩
  have lx:=dV (cx:=C0) (e:=3) hxw (vy ug) ag3;have ly:=dV (cx:=C0) (e:=3) hyw (vy EU) ag3;have wi:=IntWalk.i64_in ((i:Int)+1) (by omega);have c2:i<yw.length:=by omega
  have kG:(i:Int)<xw.length:=by omega
  have pA:(i:Int)<yw.length:=by omega
  simp[f2,f3,t5,g0,fH,uk,vk,u1,u2,c1,kG];refine iZ (n:=57) (by kernel_rfl) (by simp[hn]) ?_;by_cases DE:a=b
  .subst DE;simp[f2,f3,t5,g0,fH,uk,vk,u1,u2,v1,v2,c1,kG,c2,pA,lx,ly,wi,hxw.ok,hyw.ok];exact⟨xw.length-(i+1),by omega,i+1,rfl,jW hm ug EU rfl,by simp,by omega,⟨by simp[f2],by simp[f3]⟩,by simp[hn],rfl⟩
  .have cl:¬xw=yw:=fun e=>by rw[e,EU]at ug;exact DE (Option.some.inj ug).symm
   simp[f2,f3,t5,g0,fH,uk,vk,u1,u2,v1,v2,c1,kG,c2,pA,lx,ly,DE,cl,hxw.ok,hyw.ok];exact h0
 have jJ:xw=yw:=by
  rw[zzk (by omega),zzk (by omega)]at hm;exact hm
 subst jJ;have ei:i=xw.length:=by omega
 subst ei;cases b1 with
 |false=>
  have cl:¬xo.map aE.strip=yo.map aE.strip:=fun h=>by have:=pd.2 h;cases this
  simp[f2,f3,t5,g0,fH,uk,vk,u1,u2,ok,pk,e1,aK,cl];exact h0.trans hT
 |true=>
  have heq:=pd.1 rfl;simp[f2,f3,t5,g0,fH,uk,vk,u1,u2,ok,pk,e1,aK,heq];exact h0.trans hT
def srwH(S:AS)(p q:AV)(P:Prop)(k:Nat)(F':Fr)(S':AS):Prop:=
 sl F' 0=p/\sl F' 1=q/\F'.n=27/\((k=1/\S'=S/\sl F' 5=.int .i64 0)\/(k=0/\Sub S S'/\P/\sl F' 5=.int .i64 1))
theorem Ao{p q:AV}{x y:de}(hp:Sl S p 5 x.c)(hq:Sl S q 5 y.c)(hx:iC S x)(hy:iC S y):az C0 19 [p,q] S fun r T=>Sub S T/\∃b,r=.bool b/\(b=true↔x.same y):=by
 have u1:=hp.sl;have u2:sLen p=1:=by have:=hp.len;rw[de.dm]at this;omega
 have v1:=hq.sl;have v2:sLen q=1:=by have:=hq.len;rw[de.dm]at this;omega
 have uk:=aj hp;have vk:=aj hq;have lx:=bh (cx:=C0) (e:=54) (L:=[x]) (k:=0) (x:=x) (enc:=de.c) (by simpa using hp) de.dm (by simp) rfl z_ag54 z_sz54;have ly:=bh (cx:=C0) (e:=54) (L:=[y]) (k:=0) (x:=y) (enc:=de.c) (by simpa using hq) de.dm (by simp) rfl z_ag54 z_sz54;obtain⟨_,T,⟨hT,b,rfl,hb⟩,e1⟩:=(same36 hx hy).ex;have x1:=aj hx.ws;have x2:=aj hx.os;have x3:=hx.ws.ok;have x4:=hx.os.ok;have x5:=hx.ws.base;have x6:=hx.os.base;have y1:=aj hy.ws;have y2:=aj hy.os;have y3:=hy.ws.ok;have y4:=hy.os.ok;have y5:=hy.ws.base;have y6:=hy.os.base;have wi:IntKind.i64.wrap 1=1:=by decide
 simp only[de.c]at lx ly e1;refine bu (dL _) (dF _ rfl) zf19 rfl zo19 (by simp) fun F hn s0 s1=>?_;rw[zn19]at hn;simp[s0,s1,u1,u2,v1,v2,uk,vk];refine aW (srwH S p q (x.same y)) 1 ⟨by simp[s0],by simp[s1],by simp[hn],.inl ⟨rfl,rfl,by simp⟩⟩ ?_;clear s0 s1 hn;rintro k F' S'-⟨t0,t1,hn,⟨rfl,rfl,t5⟩|⟨rfl,hS,hP,t5⟩⟩
 .simp[t0,t1,t5,u1,u2,uk];refine bg [.p,.p,.p,.r 0 0,.p,.p,.p,.r 0 0,.e [],.p] (n:=27) (by kernel_rfl) (by simp[hn]) ?_;cases b with
  |false=>
   have cl:¬x.same y:=fun h=>by have:=hb.2 h;cases this
   simp[t0,t1,t5,u1,u2,uk,v1,v2,vk,lx,ly,e1,aK,x1,x2,x3,x4,x5,x6,y1,y2,y3,y4,y5,y6,cl];exact hT
  |true=>
   simp[t0,t1,t5,u1,u2,uk,v1,v2,vk,lx,ly,e1,aK,x1,x2,x3,x4,x5,x6,y1,y2,y3,y4,y5,y6,wi];exact⟨by simp[t0],by simp[t1],by simp[hn],.inr ⟨rfl,hT,hb.1 rfl,by simp⟩⟩
 .simp[t0,t1,t5,u1,u2,uk,hP];exact hS
end
end Go.Proofs.YthklfandhmkpiaaGreatDoor.sh
