/-
  Events: facts of functions and types, attributes.
-/
import Derived.Test.YthklfandhmkpiaaGreatDoorPartD
import Derived.Test.YthklfandhmkpiaaGreatDoorAmWide
import Derived.Test.YthklfandhmkpiaaGreatDoorPartA
open List renaming getElem?_eq_getElem->zza,length_cons->zzb,take_of_length_le->zzc,length_append->zze,getElem_mem->zzf,take_succ_eq_append_getElem->zzg,mem_of_mem_take->zzi,nil_append->zzk
open Nat renaming lt_succ_self->zzd,zero_le->zzh
open Bool renaming and_eq_true->zzj
set_option linter.unusedVariables false
set_option linter.unusedSimpArgs false
set_option maxRecDepth 20000
noncomputable section
namespace Go.Proofs.YthklfandhmkpiaaGreatDoor.val
open Go Go.Am Go.Proofs.YthklfandhmkpiaaGreatDoor.sh
@[simp] theorem e_st22:n9 C0 41=some (95,5,56)/\aH C0 43=some 2/\aX C0 43=some true/\fieldAt C0 43 1=some 1/\aX C0 41=some false/\aH C0 41=some 1/\fieldAt C0 95 0=some 0:=by and_intros<;>kernel_rfl
@[simp] theorem sM:aX C0 95=some true:=by kernel_rfl
@[simp] theorem sL:aH C0 95=some 5:=by kernel_rfl
@[simp] theorem e_ag9:aX C0 9=some false:=by kernel_rfl
theorem e_fn7:C0.fns.get 33=some Tryz.f33:=by kernel_rfl
theorem e_ok7:okF C0 Tryz.f33=true:=by kernel_rfl
@[simp] theorem e_fa24_0:fieldAt C0 43 0=some 0/\fieldAt C0 95 1=some 1:=by and_intros<;>kernel_rfl
theorem e_fn10:C0.fns.get 54=some Tryz.f54:=by kernel_rfl
theorem e_ok10:okF C0 Tryz.f54=true:=by kernel_rfl
@[simp] theorem e_ze34:zeroOf C0 95=some (.agg [.str [],.int .i64 0,.int .i64 0,.str [],.bool false]):=by kernel_rfl
theorem e_fn12:C0.fns.get 99=some Tryz.f99:=by kernel_rfl
theorem e_ok12:okF C0 Tryz.f99=true:=by kernel_rfl
theorem e_fn13:C0.fns.get 106=some Tryz.f106:=by kernel_rfl
theorem e_ok13:okF C0 Tryz.f106=true:=by kernel_rfl
theorem e_fn16:C0.fns.get 132=some Tryz.f132:=by kernel_rfl
theorem e_ok16:okF C0 Tryz.f132=true:=by kernel_rfl
theorem e_fn28:C0.fns.get 135=some Tryz.f135:=by kernel_rfl
theorem e_ok28:okF C0 Tryz.f135=true:=by kernel_rfl
theorem e_fn29:C0.fns.get 139=some Tryz.f139:=by kernel_rfl
theorem e_ok29:okF C0 Tryz.f139=true:=by kernel_rfl
theorem e_fn30:C0.fns.get 140=some Tryz.f140:=by kernel_rfl
theorem e_ok30:okF C0 Tryz.f140=true:=by kernel_rfl
theorem e_fn48:C0.fns.get 185=some Tryz.f185:=by kernel_rfl
theorem e_ok48:okF C0 Tryz.f185=true:=by kernel_rfl
@[simp] theorem e_ag5:aX C0 5=some false:=by kernel_rfl
def px{α:Type}(P:α->Bool)(l:List α):Int:=match l.findIdx? P with|some i=>(i:Int)|none=>-1
theorem oY{α:Type}{P:α->Bool}{l:List α}(h:∀x,x∈l->P x=false):px P l=-1:=by
 unfold px;rw[List.findIdx?_eq_none_iff.2 h]
theorem ue{α:Type}{P:α->Bool}{l:List α}{i:Nat}{x:α}(h:l[i]?=some x)(hp:P x=true)(ha:∀x,x∈l.take i->P x=false):px P l=i:=by
 obtain⟨hi,rfl⟩:=List.getElem?_eq_some_iff.1 h;have:l.findIdx? P=some i:=by
  rw[List.findIdx?_eq_some_iff_getElem];refine⟨hi,hp,fun j hj=>?_⟩;have:=ha l[j] (List.mem_take_iff_getElem.2 ⟨j,by omega,rfl⟩);simp[this]
 unfold px;rw[this]
theorem ri{α:Type}{P:α->Bool}{l:List α}:decide (0<=px P l)=l.any P:=by
 unfold px;cases h:l.findIdx? P with
 |none=>
  have:=List.findIdx?_eq_none_iff.1 h;have h2:l.any P=false:=by rw[List.any_eq_false];intro x hx;simp[this x hx]
  rw[h2];rfl
 |some i=>
  obtain⟨hi,hp,_⟩:=List.findIdx?_eq_some_iff_getElem.1 h;have h2:l.any P=true:=List.any_eq_true.2 ⟨l[i],zzf hi,hp⟩;rw[h2];simp
theorem iF{α:Type}{P:α->Bool}{l:List α}{i:Nat}{x:α}(h:l[i]?=some x)(hp:P x=false)(ha:∀x,x∈l.take i->P x=false):∀x,x∈l.take (i+1)->P x=false:=by
 obtain⟨hi,rfl⟩:=List.getElem?_eq_some_iff.1 h;intro y hy;rw[zzg hi]at hy;rcases List.mem_append.1 hy with hy|hy
 .exact ha y hy
 .simp at hy;subst hy;exact hp
def idxH{α:Type}(S:AS)(u g:AV)(l:List α)(P:α->Bool)(k:Nat)(F':Fr)(S':AS):Prop:=
 ∃i:Nat,Sub S S'/\sl F' 0=u/\sl F' 1=g/\sl F' 7=.int .i64 l.length/\sl F' 8=.int .i64 i/\i<=l.length/\k=l.length-i/\∀x,x∈l.take i->P x=false
theorem mZ{α:Type}{S:AS}{u g:AV}{l:List α}{P:α->Bool}{k:Nat}{F':Fr}{S':AS}(i:Nat)(h1:Sub S S')(h2:sl F' 0=u)(h3:sl F' 1=g)(h4:sl F' 7=.int .i64 l.length)(h5:sl F' 8=.int .i64 i)(h6:i<=l.length)(h7:k=l.length-i)(h8:∀x,x∈l.take i->P x=false):idxH S u g l P k F' S':=
 ⟨i,h1,h2,h3,h4,h5,h6,h7,h8⟩
structure fU where
 name:List Nat
 val:kC
deriving DecidableEq
instance:Inhabited fU:=⟨⟨[],zeroV⟩⟩
def gB(a:fU):List AV:=.str a.name::bq a.val
theorem aj{S:AS}{v:AV}{sz:Nat}{cs:List AV}(h:Sl S v sz cs):okW v=true:=j9 h.ok
theorem en(a:fU):(gB a).length=5:=rfl
theorem uJ{S:AS}(l:List Nat):Sl ⟨S.h.set S.nx (.row (bH l) 0 0 true 5),S.nx+1⟩ (.slice S.nx 0 0 l.length l.length 1 none) 1 (bH l):=by
 refine⟨by simp[isSl,eS],?_,by simp[sLen,bM],by simp[aV]⟩;cases l with
 |nil=>simp[lY,bH]
 |cons x l=>
  simp[lY,dP,get_set_same,cr,bH];rw[zzc (by simp)]
def Et(n:Nat):Bool:=decide ((n<97\/122<n)/\(n<48\/57<n)/\n≠45/\n≠46/\n≠95)
def jC(s:List Nat):Bool:=decide (s≠[]/\s.length<=16/\s.any Et=false)
section
variable{S:AS}
def nameC(n:Nat):Bool:=(decide ((n:Int)<97)||decide (122<(n:Int)))&&(decide ((n:Int)<48)||decide (57<(n:Int))) && !decide ((n:Int)=45) && !decide ((n:Int)=46) && !decide ((n:Int)=95)
theorem nameC_bad(n:Nat):nameC n=Et n:=by
 unfold nameC Et;rw[Bool.eq_iff_iff];simp only[zzj,Bool.or_eq_true,Bool.not_eq_true',decide_eq_true_eq,decide_eq_false_iff_not];omega
theorem bad29(n:Nat):az C0 139 [.int .u8 n] S fun r T=>r=.bool (Et n)/\Sub S T:=by
 rw[<-nameC_bad];refine bD (dL _) (dF _ rfl) e_fn29 rfl e_ok29 (by simp) fun F hn s0=>?_;unfold nameC;by_cases a1:(n:Int)<97<;>by_cases a2:122<(n:Int)<;>by_cases a3:(n:Int)<48<;>by_cases a4:57<(n:Int)<;>by_cases a5:(n:Int)=45<;>by_cases a6:(n:Int)=46<;>by_cases a7:(n:Int)=95 <;>
  first|(exfalso;omega)|simp[s0,a1,a2,a3,a4,a5,a6,a7,Sub.refl]
theorem idx48{u:AV}{l:List Nat}{f:FuncId}{caps:List AV}{P:Nat->Bool}(h:Sl S u 1 (bH l))(hb:l.length<=9223372036854775807)(hf:C0.exts.get f=none)
  (hc:∀T,Sub S T->∀x,x∈l->az C0 f (.int .u8 (x:Int)::caps) T fun v T'=>v=.bool (P x)/\Sub T T') :
  az C0 185 [u,.func (.func f) [] caps] S fun v T=>v=.int .i64 (px P l)/\Sub S T:=by
 refine bu (dL _) (dF _ rfl) e_fn48 rfl e_ok48 (by simp) fun F hn s0 s1=>?_;have u1:=h.sl;have u2:sLen u=l.length:=by rw[h.gx,bM]
 simp[s0,s1,u1,u2];refine aW (idxH S u (.func (.func f) [] caps) l P) l.length (mZ 0 (Sub.refl S) (by simp[s0]) (by simp[s1]) (by simp) (by simp) (zzh _) rfl (by simp)) ?_;rintro k F' S' ng ⟨i,ez,t0,t1,t7,t8,hi,hk,ha⟩;clear ng s0 s1 hn;by_cases ck:i<l.length
 .have hx:l[i]?=some l[i]:=zza ck;have hl:=dV (cx:=C0) (e:=5) (h.toSub ez) (k:=i) (x:=.int .u8 (l[i]:Int)) (by unfold bH;rw[List.getElem?_map,hx];rfl) e_ag5;obtain⟨v,T',⟨rfl,hs⟩,e⟩:=(hc S' ez l[i] (zzf ck)).ex;cases hp:P l[i]with
  |true=>simp[t0,t1,t7,t8,u1,u2,ck,hl,e,hp,hf,ez.trans hs,ue hx hp ha]
  |false=>
   simp[t0,t1,t7,t8,u1,u2,ck,hl,e,hp,hf];exact⟨l.length-(i+1),by omega,mZ (i+1) (ez.trans hs) (by simp[t0]) (by simp[t1]) (by simp[t7]) (by simp[fV (show i<9223372036854775807 by omega)]) ck rfl (iF hx hp ha)⟩
 .have kL:∀x,x∈l->P x=false:=fun x hx=>ha x (by rw[zzc (by omega)];exact hx);simp[t7,t8,ck,oY kL,ez]
theorem con30{u:AV}{l:List Nat}{f:FuncId}{caps:List AV}{P:Nat->Bool}(h:Sl S u 1 (bH l))(hb:l.length<=9223372036854775807)(hf:C0.exts.get f=none)
  (hc:∀T,Sub S T->∀x,x∈l->az C0 f (.int .u8 (x:Int)::caps) T fun v T'=>v=.bool (P x)/\Sub T T') :
  az C0 140 [u,.func (.func f) [] caps] S fun v T=>v=.bool (l.any P)/\Sub S T:=by
 obtain⟨v,T,⟨rfl,hs⟩,e⟩:=(idx48 h hb hf hc).ex;refine bu (dL _) (dF _ rfl) e_fn30 rfl e_ok30 (by simp) fun F hn s0 s1=>?_;simp[s0,s1,e,aK,hs,ri]
theorem name13(s:List Nat)(hs:∀c,c∈s->c<256):az C0 106 [.str s] S fun r T=>r=.bool (jC s)/\Sub S T:=by
 have BM:Sub S ⟨S.h.set S.nx (.row (bH s) 0 0 true 5),S.nx+1⟩:=dc;refine bD (dL _) (dF _ rfl) e_fn13 rfl e_ok13 (by simp) fun F hn s0=>?_;unfold jC;by_cases h1:s=[]
 .subst h1;simp[s0,aZ,Sub.refl]
 by_cases h2:(s.length:Int)<=16
 .have DF:s.length<=16:=by omega
  obtain⟨r,T,⟨rfl,hT⟩,e⟩:=(con30 (f:=139) (caps:=[]) (P:=Et) (uJ (S:=S) s) (by omega) (aK _ rfl) (fun T hT x hx=>bad29 x)).ex;have tb:=fun (F:Fr) (dst:Option Tmp) (ty:TypeId) (pos:String) (af:Array Edge) (gd:Option (Nat×Bool)) (x:Tmp) (a:sl F x=.str s)=>zG (cx:=C0) (F:=F) (S:=S) (dst:=dst) (ty:=ty) (pos:=pos) (af:=af) (gd:=gd) (a:=9) (b:=48) ((aA F x).trans a) yr tY qm;cases ha:s.any Et<;>rw[ha]at e<;>simp[s0,aZ,h1,h2,DF,tb,e,aK,BM.trans hT,cI pV,ha]
 .have DF:¬s.length<=16:=by omega
  simp[s0,aZ,h1,h2,DF,Sub.refl,cI pV]
end
def CT(a:fU):Prop:=(∀c,c∈a.name->c<256)/\a.name.length<=9223372036854775807/\va a.val
structure ew(S:AS)(u:AV)(l:List fU):Prop where
 sl:Sl S u 5 (l.flatMap gB)
 le:l.length<=2513169434843
 ok:∀a,a∈l->CT a
theorem ew.sub{S T:AS}{u:AV}{l:List fU}(h:ew S u l)(k:Sub S T):ew T u l:=⟨h.sl.toSub k,h.le,h.ok⟩
def nJ(l:List fU)(i:Nat):Bool:=match l[i]? with
 |none=>true
 |some a=>jC a.name&&dR a.val&&(match i with|0=>true|j+1=>(match l[j]? with|some b=>nK b.name a.name|none=>true))
def C3(l:List fU):Bool:=(List.range l.length).all (nJ l)
def gl(key:List Nat)(l:List fU):Bool:=C3 l&&decide (key.length<=16)&&decide (l.length<=8)
theorem mayL_bad{l:List fU}{i:Nat}(hi:i<l.length)(h:nJ l i=false):C3 l=false:=by
 unfold C3;rw[List.all_eq_false];exact⟨i,List.mem_range.2 hi,by simp[h]⟩
theorem mayL_good{l:List fU}(h:∀i,i<l.length->nJ l i=true):C3 l=true:=by
 unfold C3;rw[List.all_eq_true];exact fun i hi=>h i (List.mem_range.1 hi)
theorem okAt_0{l:List fU}{a:fU}(h:l[0]?=some a):nJ l 0=(jC a.name&&dR a.val):=by unfold nJ;rw[h];simp
theorem okAt_s{l:List fU}{j:Nat}{a b:fU}(h:l[j+1]?=some a)(hb:l[j]?=some b):nJ l (j+1)=(jC a.name&&dR a.val&&nK b.name a.name):=by unfold nJ;rw[h];simp only[hb]
theorem okAt_n{l:List fU}{i:Nat}{a:fU}(h:l[i]?=some a)(hn:jC a.name=false):nJ l i=false:=by unfold nJ;rw[h];simp[hn]
theorem okAt_v{l:List fU}{i:Nat}{a:fU}(h:l[i]?=some a)(hn:dR a.val=false):nJ l i=false:=by unfold nJ;rw[h];simp[hn]
theorem ok_step{l:List fU}{i:Nat}(h:∀j,j<i->nJ l j=true)(hi:nJ l i=true):∀j,j<i+1->nJ l j=true:=fun j hj=>by
 by_cases e:j=i
 .rw[e];exact hi
 .exact h j (by omega)
theorem nt10e:Tryz.f54.ntmps=50:=by kernel_rfl
@[simp] theorem binS_geq{a b:List Nat}:wh .geq a b=some (.bool (!nK a b)):=rfl
def mayH(S1:AS)(b:Nat)(u:AV)(l:List fU)(k:Nat)(F':Fr)(S':AS):Prop:=
 ∃i:Nat,Sub S1 S'/\(∀j,j<i->nJ l j=true)/\sl F' 1=.ptr b 0 0 2/\sl F' 6=u/\sl F' 7=.int .i64 l.length/\sl F' 8=.int .i64 i/\i<=l.length/\k=l.length-i
theorem Az{S1:AS}{b:Nat}{u:AV}{l:List fU}{k:Nat}{F':Fr}{S':AS}(i:Nat)(h1:Sub S1 S')(h2:∀j,j<i->nJ l j=true)(h3:sl F' 1=.ptr b 0 0 2)(h4:sl F' 6=u)(h5:sl F' 7=.int .i64 l.length)(h6:sl F' 8=.int .i64 i)(h7:i<=l.length)(h8:k=l.length-i):mayH S1 b u l k F' S':=
 ⟨i,h1,h2,h3,h4,h5,h6,h7,h8⟩
section
variable{S:AS}
set_option maxHeartbeats 1000000 in
theorem pg{key:List Nat}{u:AV}{l:List fU}(hu:ew S u l):az C0 54 [.agg [.str key,u]] S fun r T=>r=.bool (gl key l)/\Sub S T:=by
 have dZ:Sub S ⟨S.h.set S.nx (.row [.str key,u] 0 0 false 43),S.nx+1⟩:=dc;have u1:=hu.sl.sl;have u2:=hu.sl.bj en (by omega);have uk:=aj hu.sl;have hle:=hu.le;have hold:=hu.sl.old;refine bD (dL _) (dF _ rfl) e_fn10 rfl e_ok10 (by simp) fun F hn s0=>?_;rw[nt10e]at hn;simp[s0,u1,u2,uk,hu.sl.cells];refine aW (mayH ⟨S.h.set S.nx (.row [.str key,u] 0 0 false 43),S.nx+1⟩ S.nx u l) l.length (Az 0 (Sub.refl _) (fun j hj=>by omega) (by simp) (by simp) (by simp) (by simp) (zzh _) rfl) ?_;rintro k F' S' ng ⟨i,q2,qa,t1,t6,t7,t8,hi,hk'⟩;have rK:F'.n=50:=by rw[ng];simp[hn]
 clear ng hn s0;have hSn:S.nx+1<=S'.nx:=q2.nx;have gb:S'.h.get S.nx=some (.row [.str key,u] 0 0 false 43):=by rw[q2.h _ (zzd _)];exact get_set_same _ _ _
 by_cases ck:i<l.length
 .have hx:l[i]?=some l[i]:=zza ck;have huS:=hu.sub (dZ.trans q2);have EY:=bh (cx:=C0) (e:=95) huS.sl en (by omega) hx sM sL;have hoka:=hu.ok _ (zzf ck);have hbad:nJ l i=false->gl key l=false:=fun h=>by unfold gl;rw[mayL_bad ck h];rfl
  generalize l[i]=a at hx EY hoka;have hZ:Sub S' ⟨(S'.h.set S'.nx (.row [.str [],.int .i64 0,.int .i64 0,.str [],.bool false] 0 0 false 95)).set S'.nx (.row (gB a) 0 0 false 95),S'.nx+1⟩:=eb;obtain⟨r,T1,⟨rfl,rn⟩,e1⟩:=(name13 (S:=⟨(S'.h.set S'.nx (.row [.str [],.int .i64 0,.int .i64 0,.str [],.bool false] 0 0 false 95)).set S'.nx (.row (gB a) 0 0 false 95),S'.nx+1⟩) a.name hoka.1).ex;obtain⟨r,T2,⟨rfl,kW⟩,e2⟩:=(may10 (S:=T1) a.val).ex;have hT1n:S'.nx+1<=T1.nx:=rn.nx;have hT2n:=kW.nx;have c0:(⟨(S'.h.set S'.nx (.row [.str [],.int .i64 0,.int .i64 0,.str [],.bool false] 0 0 false 95)).set S'.nx (.row (gB a) 0 0 false 95),S'.nx+1⟩:AS).h.get S'.nx=some (.row (gB a) 0 0 false 95):=get_set_same _ _ _;have c1:T1.h.get S'.nx=some (.row (gB a) 0 0 false 95):=by rw[rn.h _ (zzd _)];exact c0
  have c2:T2.h.get S'.nx=some (.row (gB a) 0 0 false 95):=by rw[kW.h _ (by omega)];exact c1
  have xh:=hZ.trans rn;have AW:=xh.trans kW;have gb2:T2.h.get S.nx=some (.row [.str key,u] 0 0 false 43):=by rw[AW.h _ (by omega)];exact gb
  have gb1:T1.h.get S.nx=some (.row [.str key,u] 0 0 false 43):=by rw[xh.h _ (by omega)];exact gb
  have pO:=(dZ.trans q2).trans AW;have hS3:=(dZ.trans q2).trans xh;have hwi:=fV (i:=i) (by omega);simp only[gB,bq]at EY e1 e2 c0 c1 c2;simp[t1,t6,t7,t8,u1,u2,ck,EY,rK];refine bg [.p,.r 0 0,.e [],.p,.p,.p,.r 0 0,.e [],.p,.p,.p,.p,.p,.p,.p,.r 0 0,.p,.p,.p,.p,.r 0 0,.p,.r 0 0,.p,.p,.p] (n:=50) (by kernel_rfl) (by simp[rK]) ?_;cases pd:jC a.name with
  |false=>
   rw[pd]at e1;rw[hbad (okAt_n hx pd)];simp[t1,t6,t7,t8,e1,aK,c1,gb1];exact hS3
  |true=>
   rw[pd]at e1;cases AT:dR a.val with
   |false=>
    rw[AT]at e2;rw[hbad (okAt_v hx AT)];simp[t1,t6,t7,t8,e1,e2,aK,c1,c2,gb1,gb2];exact pO
   |true=>
    rw[AT]at e2;by_cases h0:i=0
    .have h0':(i:Int)=0:=by omega
     subst h0;have jJ:=ok_step qa (by rw[okAt_0 hx,pd,AT];rfl);simp at t8 hwi;simp[t1,t6,t7,t8,e1,e2,aK,c1,c2,gb1,gb2];exact⟨l.length-(0+1),by omega,Az (0+1) (q2.trans AW) jJ (by simp[t1]) (by simp[t6]) (by simp[t7]) (by simp;decide) ck rfl⟩
    .obtain⟨j,rfl⟩:∃j,i=j+1:=⟨i-1,by omega⟩
     have hj:j<l.length:=by omega
     have hxj:l[j]?=some l[j]:=zza hj;have nM:=hu.sub pO;have wM:=AK (k:=j) u1 (by rw[u2];exact hj);have hlp:=yS (cx:=C0) (e:=9) (o:=0) (y:=.str l[j].name) nM.sl en (by omega) hxj rfl e_ag9;have hwj:IntKind.i64.wrap ((j:Int)+1-1)=(j:Int):=by
      rw[show ((j:Int)+1-1)=(j:Int) by omega];exact BT (by omega)
     have hwj':IntKind.i64.wrap (j:Int)=(j:Int):=BT (by omega);have EZ:(0:Int)<(j:Int)+1:=by omega
     have hoks:=okAt_s hx hxj;rw[pd,AT]at hoks;generalize l[j]=b at hlp hoks hxj;simp at hwi t8;cases cR:nK b.name a.name with
     |true=>
      rw[cR]at hoks;simp[t1,t6,t7,t8,e1,e2,aK,c1,c2,gb1,gb2,h0,EZ,hwj,hwj',u1,u2,uk,hj,gN wM,hlp,cR,hwi];exact⟨l.length-(j+1+1),by omega,Az (j+1+1) (q2.trans AW) (ok_step qa hoks) (by simp[t1]) (by simp[t6]) (by simp[t7]) (by simp[hwi]) ck rfl⟩
     |false=>
      rw[cR]at hoks;rw[hbad hoks];simp[t1,t6,t7,t8,e1,e2,aK,c1,c2,gb1,gb2,h0,EZ,hwj,hwj',u1,u2,uk,hj,gN wM,hlp,cR,hwi];exact pO
 .have hie:i=l.length:=by omega
  subst hie;have ez:=dZ.trans q2;have hml:=mayL_good qa;unfold gl;rw[hml];by_cases k1:key.length<=16
  .have k1':(key.length:Int)<=16:=by omega
   by_cases k2:l.length<=8
   .have k2':(l.length:Int)<=8:=by omega
    simp[t1,t6,t7,t8,gb,k1,k2,k1',k2',u1,u2,uk,cI pV];exact ez
   .have k2':¬(l.length:Int)<=8:=by omega
    simp[t1,t6,t7,t8,gb,k1,k2,k1',k2',u1,u2,uk,cI pV];exact ez
  .have k1':¬(key.length:Int)<=16:=by omega
   simp[t1,t6,t7,t8,gb,k1,k1',u1,u2,uk,cI pV];exact ez
end
theorem neA(c:Bool)(a b:fU):bI C0 .neq 95 c (.agg (gB a)) (.agg (gB b))=some (.bool (!decide (a=b))):=by
 obtain⟨an,⟨ak,ai,ax,ab⟩⟩:=a;obtain⟨bn,⟨bk,bi,bx,bb⟩⟩:=b;have e:qh C0 95 c (.agg [.str an,.int .i64 ak,.int .i64 ai,.str ax,.bool ab]) (.agg [.str bn,.int .i64 bk,.int .i64 bi,.str bx,.bool bb]) =
   fB (some (ph an bn)) (fB (fB (some (pP ak bk)) (fB (some (pP ai bi)) (fB (some (ph ax bx)) (fB (some (ab==bb)) (some true))))) (some true)):=by kernel_rfl
 have h:qh C0 95 c (.agg (gB ⟨an,⟨ak,ai,ax,ab⟩⟩)) (.agg (gB ⟨bn,⟨bk,bi,bx,bb⟩⟩))=some (decide ((⟨an,⟨ak,ai,ax,ab⟩⟩:fU)=⟨bn,⟨bk,bi,bx,bb⟩⟩)):=by
  simp only[gB,bq];rw[e,cQ,cQ];simp only[aZ,fU.mk.injEq,kC.mk.injEq];unfold fB;by_cases h1:an=bn<;>by_cases h2:ak=bk<;>by_cases h3:ai=bi<;>by_cases h4:ax=bx<;>cases ab<;>cases bb<;>simp[h1,h2,h3,h4]
 simp only[gB,bq]at h⊢;unfold bI;simp[h,mh]
theorem nt28e:Tryz.f135.ntmps=26:=by kernel_rfl
def eqlH(S:AS)(u v:AV)(l m:List fU)(k:Nat)(F':Fr)(S':AS):Prop:=
 ∃i:Nat,S'=S/\sl F' 0=u/\sl F' 1=v/\sl F' 12=.int .i64 l.length/\sl F' 13=.int .i64 i/\i<=l.length/\k=l.length-i/\l.take i=m.take i
theorem eqlH_mk{S:AS}{u v:AV}{l m:List fU}{k:Nat}{F':Fr}(i:Nat)(h2:sl F' 0=u)(h3:sl F' 1=v)(h4:sl F' 12=.int .i64 l.length)(h5:sl F' 13=.int .i64 i)(h6:i<=l.length)(h7:k=l.length-i)(h8:l.take i=m.take i):eqlH S u v l m k F' S:=
 ⟨i,rfl,h2,h3,h4,h5,h6,h7,h8⟩
theorem equal{S:AS}{u v:AV}{l m:List fU}(hl:ew S u l)(hm:ew S v m){Q:AV->AS->Prop}:az C0 135 [u,v] S Q=Q (.bool (decide (l=m))) S:=by
 refine az.eq (bu (dL _) (dF _ rfl) e_fn28 rfl e_ok28 (by simp) fun F hn s0 s1=>?_);rw[nt28e]at hn;have u1:=hl.sl.sl;have v1:=hm.sl.sl;have u2:=hl.sl.bj en (by omega);have v2:=hm.sl.bj en (by omega);have hle:=hl.le;by_cases hlen:l.length=m.length
 .simp[s0,s1,u1,v1,u2,v2,hlen];refine aW (eqlH S u v l m) l.length (eqlH_mk 0 (by simp[s0]) (by simp[s1]) (by simp[hlen]) (by simp) (zzh _) rfl (by simp)) ?_;rintro k F' S' ng ⟨i,rfl,t0,t1,t12,t13,hi,hk,ha⟩;have rK:F'.n=26:=by rw[ng];simp[hn]
  clear ng s0 s1 hn;by_cases ck:i<l.length
  .have BO:i<m.length:=by omega
   have hx:=bh (cx:=C0) (e:=95) hl.sl en (by omega) (zza ck) sM sL;have hy:=bh (cx:=C0) (e:=95) hm.sl en (by omega) (zza BO) sM sL;have bx:fQ (gB l[i])=true:=by simp[gB,bq,fQ]
   have bY:fQ (gB m[i])=true:=by simp[gB,bq,fQ]
   simp[t0,t1,t12,t13,ck,rK];refine iZ (n:=26) (by kernel_rfl) (by simp[rK]) ?_;by_cases hc:l[i]=m[i]
   .simp[t0,t1,t12,t13,u1,u2,v1,v2,ck,BO,hx,hy,neA,hc,hl.sl.ok,hm.sl.ok,bY];exact⟨l.length-(i+1),by omega,eqlH_mk (i+1) (by simp[t0]) (by simp[t1]) (by simp[t12]) (by simp[fV (show i<9223372036854775807 by omega)]) ck rfl (yh ha ck BO hc)⟩
   .have cl:¬l=m:=by rintro rfl;exact hc rfl
    simp[t0,t1,t12,t13,u1,u2,v1,v2,ck,BO,hx,hy,neA,hc,hl.sl.ok,hm.sl.ok,bx,bY,cl]
  .rw[zzc (by omega),zzc (by omega)]at ha;subst ha;simp[t12,t13,ck]
 .have kk:¬((l.length:Int)=m.length):=by omega
  have cl:¬l=m:=fun e=>hlen (by rw[e]);simp[s0,s1,u1,v1,u2,v2,kk,cl]
theorem mw{S:AS}{u v:AV}{l m:List fU}{a b:List Nat}(hl:ew S u l)(hm:ew S v m):az C0 99 [.agg [.str a,u],.agg [.str b,v]] S fun r T=>r=.bool (decide (a=b)&&decide (l=m))/\Sub S T:=by
 refine bu (dL _) (dF _ rfl) e_fn12 rfl e_ok12 (by simp) fun F hn s0 s1=>?_;have h2:Sub S ⟨(S.h.set S.nx (.row [.str a,u] 0 0 false 43)).set (S.nx+1) (.row [.str b,v] 0 0 false 43),S.nx+2⟩:=pY;have e:=fun Q=>equal (hl.sub h2) (hm.sub h2) (Q:=Q);by_cases h:a=b
 .subst h;simp[s0,s1,hl.sl.cells,hm.sl.cells,aZ,e,aK,h2]
 .simp[s0,s1,hl.sl.cells,hm.sl.cells,aZ,h,aK,h2]
theorem nt7e:Tryz.f33.ntmps=38:=by kernel_rfl
def sm7H(V:AS)(a b:Nat)(l m:List fU)(k:Nat)(F':Fr)(S':AS):Prop:=
 S'=V/\∃i:Nat,l.take i=m.take i/\sl F' 2=.ptr a 0 0 2/\sl F' 3=.ptr b 0 0 2/\sl F' 5=.int .i64 i/\F'.n=38/\i<=l.length/\k=l.length-i
theorem same7{S:AS}{u v:AV}{l m:List fU}{key key':List Nat}(hu:ew S u l)(hv:ew S v m):az C0 33 [.agg [.str key,u],.agg [.str key',v]] S fun r T=>r=.bool (decide (key=key')&&decide (l=m))/\Sub S T:=by
 have hV:Sub S ⟨(S.h.set S.nx (.row [.str key,u] 0 0 false 43)).set (S.nx+1) (.row [.str key',v] 0 0 false 43),S.nx+2⟩:=pY;have g1:(⟨(S.h.set S.nx (.row [.str key,u] 0 0 false 43)).set (S.nx+1) (.row [.str key',v] 0 0 false 43),S.nx+2⟩:AS).h.get S.nx=some (.row [.str key,u] 0 0 false 43):=by
  show ((S.h.set _ _).set _ _).get _=_;rw[ah _ _ (by omega),get_set_same]
 have g2:(⟨(S.h.set S.nx (.row [.str key,u] 0 0 false 43)).set (S.nx+1) (.row [.str key',v] 0 0 false 43),S.nx+2⟩:AS).h.get (S.nx+1)=some (.row [.str key',v] 0 0 false 43):=get_set_same _ _ _;have nM:=hu.sub hV;have hv2:=hv.sub hV;have u1:=hu.sl.sl;have u2:=hu.sl.bj en (by omega);have uc:=hu.sl.cells;have uok:=hu.sl.ok;have v1:=hv.sl.sl;have v2:=hv.sl.bj en (by omega);have vc:=hv.sl.cells;have vok:=hv.sl.ok;have hle:=hu.le;refine bu (dL _) (dF _ rfl) e_fn7 rfl e_ok7 (by simp) fun F hn s0 s1=>?_;rw[nt7e]at hn;by_cases hk:key=key'
 .subst hk;by_cases hlen:l.length=m.length
  .simp[s0,s1,uc,vc,uok,vok,u1,u2,v1,v2,aZ,hlen];refine aW (sm7H ⟨(S.h.set S.nx (.row [.str key,u] 0 0 false 43)).set (S.nx+1) (.row [.str key,v] 0 0 false 43),S.nx+2⟩ S.nx (S.nx+1) l m) l.length ⟨rfl,0,by simp,by simp,by simp,by simp,by simp[hn],zzh _,rfl⟩ ?_;rintro k F' S' ng ⟨rfl,i,ha,s2,s3,s5,hn,hi,hk⟩;clear ng s0 s1;by_cases ck:i<l.length
   .have BO:i<m.length:=by omega
    have hx:l[i]?=some (l[i]'(ck)):=zza _;have hy:m[i]?=some (m[i]'(BO)):=zza _;have hw:=fV (i:=i) (by omega);have l1:=bh (cx:=C0) (e:=95) nM.sl en (by omega) hx sM sL;have l2:=bh (cx:=C0) (e:=95) hv2.sl en (by omega) hy sM sL;have bx:fQ (gB l[i])=true:=by simp[gB,bq,fQ]
    have bY:fQ (gB m[i])=true:=by simp[gB,bq,fQ]
    simp[s2,s3,s5,g1,g2,uok,vok,u1,u2,v1,v2,ck,hn];refine iZ (n:=38) (by kernel_rfl) (by simp[hn]) ?_;by_cases hc:l[i]=m[i]
    .simp[s2,s3,s5,g1,g2,uok,vok,u1,u2,v1,v2,ck,BO,l1,l2,neA,hc,bY,bx];exact⟨l.length-(i+1),by omega,rfl,i+1,yh ha ck BO hc,by simp[s2],by simp[s3],by simp[hw],by simp[hn],ck,rfl⟩
    .have cl:¬l=m:=by rintro rfl;exact hc rfl
     simp[s2,s3,s5,g1,g2,uok,vok,u1,u2,v1,v2,ck,BO,l1,l2,neA,hc,bY,bx,cl,hV]
   .rw[zzc (by omega),zzc (by omega)]at ha;subst ha;simp[s2,s3,s5,g1,g2,uok,vok,u1,u2,v1,v2,ck,hn,hV]
  .have cl:¬l=m:=fun e=>hlen (by rw[e]);have kk:¬((l.length:Int)=m.length):=by omega
   simp[s0,s1,uc,vc,uok,vok,u1,u2,v1,v2,aZ,hlen,kk,cl,hV]
 .simp[s0,s1,uc,vc,uok,vok,u1,u2,v1,v2,aZ,hk,hV]
theorem txt_len{v:kC}(hv:va v){t:List Nat}(h:lQ v=some t):t.length<=130/\∀c,c∈t->c<256:=by
 obtain⟨hm,rfl⟩:=uD h;obtain⟨hb,h1,h2⟩:=hv;unfold jI;by_cases hk1:v.k=1
 .rw[if_pos hk1];unfold aU;split
  .have l:=rv v.n.natAbs;have l2:=gK 19 v.n.natAbs (by omega);refine⟨by rw[zzb];omega,fun c hc=>?_⟩;rcases List.mem_cons.1 hc with h|h
   .omega
   .exact iP _ c h
  .have l:=rv v.n.toNat;have l2:=gK 19 v.n.toNat (by omega);exact⟨by omega,iP _⟩
 .rw[if_neg hk1];by_cases hk3:v.k=3
  .rw[if_pos hk3];cases v.b<;>refine⟨by simp[nW,lC],fun c hc=>?_⟩<;>simp[nW,lC]at hc<;>omega
  .rw[if_neg hk3];have hs:v.s.length<=32:=by
    unfold dR at hm;rw[if_neg hk1]at hm;by_cases wN:v.k=2
    .rw[if_pos wN]at hm;simp at hm;exact hm.1
    .rw[if_neg wN]at hm;simp at hm;exact absurd hm.1 hk3
   have sy:=A6 v.s;unfold bK;refine⟨by simp only[zze,zzb,List.length_nil];omega,fun c hc=>?_⟩;rcases List.mem_append.1 hc with h|h
   .rcases List.mem_cons.1 h with h|h
    .omega
    .exact vS hb c h
   .simp at h;omega
def nQ(a:fU):List Nat:=32::a.name++61::jI a.val
def fl(key:List Nat)(l:List fU):List Nat:=bK key++l.flatMap nQ
def cH(key:List Nat)(l:List fU):Option (List Nat):=if gl key l=true then some (fl key l) else none
theorem C2{l:List fU}(h:C3 l=true){i:Nat}{a:fU}(hx:l[i]?=some a):jC a.name=true/\dR a.val=true:=by
 unfold C3 at h;have hi:=(List.getElem?_eq_some_iff.1 hx).1;have:=List.all_eq_true.1 h i (List.mem_range.2 hi);unfold nJ at this;rw[hx]at this;simp only[zzj]at this;exact this.1
theorem jh{key:List Nat}{l:List fU}(h:gl key l=true):C3 l=true/\key.length<=16/\l.length<=8:=by
 unfold gl at h;simp only[zzj,decide_eq_true_eq]at h;exact⟨h.1.1,h.1.2,h.2⟩
theorem jc{s:List Nat}(h:jC s=true):s≠[]/\s.length<=16/\∀c,c∈s->Et c=false:=by
 unfold jC at h;simp only[decide_eq_true_eq]at h;exact⟨h.1,h.2.1,fun c hc=>by
  have:=List.any_eq_false.1 h.2.2 c hc;simpa using this⟩
theorem mC{a:fU}(hn:jC a.name=true)(hv:va a.val)(hm:dR a.val=true):(nQ a).length<=150/\((∀c,c∈a.name->c<256)->∀c,c∈nQ a->c<256):=by
 have h1:=(jc hn).2.1;have h2:=txt_len hv (t:=jI a.val) (by unfold lQ;rw[hm];rfl);unfold nQ;refine⟨by simp only[zze,zzb];omega,fun hb c hc=>?_⟩;rcases List.mem_append.1 hc with h|h
 .rcases List.mem_cons.1 h with h|h
  .omega
  .exact hb c h
 .rcases List.mem_cons.1 h with h|h
  .omega
  .exact h2.2 c h
theorem oT(s:List Nat):(bK s).length<=4*s.length+2:=by
 have:=A6 s;unfold bK;simp only[zze,zzb,List.length_nil];omega
theorem kT{s:List Nat}(hs:∀c,c∈s->c<256):∀c,c∈bK s->c<256:=fun c hc=>by
 unfold bK at hc;rcases List.mem_append.1 hc with h|h
 .rcases List.mem_cons.1 h with h|h
  .omega
  .exact vS hs c h
 .simp at h;omega
theorem sI{l:List fU}(h:∀a,a∈l->(nQ a).length<=150):(l.flatMap nQ).length<=150*l.length:=by
 induction l with
 |nil=>simp
 |cons a l ih=>
  have h1:=h a (List.mem_cons_self ..);have h2:=ih (fun b hb=>h b (List.mem_cons_of_mem _ hb));simp only[List.flatMap_cons,zze,zzb];omega
def textE(r:AV)(o:Option (List Nat)):Prop:=match o with|some t=>r=.tuple [.str t,.int .i64 0]|none=>r=.tuple [.str [],.int .i64 30]
theorem word_ok{key:List Nat}(hk:∀c,c∈key->c<256):va ⟨2,0,key,false⟩:=⟨hk,by show (-9223372036854775808:Int)<=0;decide,by show (0:Int)<9223372036854775808;decide⟩
theorem yc{key:List Nat}(h:key.length<=16):lQ ⟨2,0,key,false⟩=some (bK key):=by
 have hm:dR ⟨2,0,key,false⟩=true:=by unfold dR;simp;omega
 unfold lQ;rw[hm];simp[jI]
theorem nt16e:Tryz.f132.ntmps=43:=by kernel_rfl
def etH(S:AS)(B:Nat)(key:List Nat)(u:AV)(l:List fU)(k:Nat)(F':Fr)(S':AS):Prop:=
 ∃(i:Nat)(v:AV),Sub S S'/\S.nx<B/\cN S' B v (fl key (l.take i))/\(aV v=0\/B<aV v)/\sl F' 4=.ptr B 0 0 2/\sl F' 22=u/\sl F' 23=.int .i64 l.length/\sl F' 24=.int .i64 i/\F'.n=43/\i<=l.length/\k=l.length-i
theorem etH_mk{S:AS}{B:Nat}{key:List Nat}{u:AV}{l:List fU}{k:Nat}{F':Fr}{S':AS}(i:Nat)(v:AV)(h1:Sub S S')(h2:S.nx<B)(h3:cN S' B v (fl key (l.take i)))(h4:aV v=0\/B<aV v)(h5:sl F' 4=.ptr B 0 0 2)(h6:sl F' 22=u)(h7:sl F' 23=.int .i64 l.length)(h8:sl F' 24=.int .i64 i)(h9:F'.n=43)(cM:i<=l.length)(fC:k=l.length-i):etH S B key u l k F' S':=⟨i,v,h1,h2,h3,h4,h5,h6,h7,h8,h9,cM,fC⟩
section
variable{S:AS}
set_option maxHeartbeats 1000000 in
theorem DR{key:List Nat}{u:AV}{l:List fU}(hu:ew S u l)(hk:∀c,c∈key->c<256):az C0 132 [.agg [.str key,u]] S fun r T=>textE r (cH key l)/\Sub S T:=by
 have dZ:Sub S ⟨S.h.set S.nx (.row [.str key,u] 0 0 false 43),S.nx+1⟩:=dc;have u1:=hu.sl.sl;have u2:=hu.sl.bj en (by omega);have uk:=aj hu.sl;have hle:=hu.le;obtain⟨r,T1,⟨rfl,rn⟩,e1⟩:=(pg (key:=key) (hu.sub dZ)).ex;have g1:T1.h.get S.nx=some (.row [.str key,u] 0 0 false 43):=by rw[rn.h _ (zzd _)];exact get_set_same _ _ _
 have hT:=dZ.trans rn;have n1:S.nx+1<=T1.nx:=rn.nx;refine bD (dL _) (dF _ rfl) e_fn16 rfl e_ok16 (by simp) fun F hn s0=>?_;rw[nt16e]at hn;unfold cH;cases hm:gl key l with
 |false=>
  rw[hm]at e1;simp[s0,u1,u2,uk,hu.sl.cells,e1,aK,textE,hT]
 |true=>
  rw[hm]at e1;obtain⟨hml,hk16,hl8⟩:=jh hm;have hatt:∀a,a∈l->jC a.name=true/\dR a.val=true:=fun a ha=>by
   obtain⟨i,hi,rfl⟩:=List.getElem_of_mem ha;exact C2 hml (zza hi)
  have ze:Sub T1 ⟨T1.h.set T1.nx (.row [.cT,.ar] 0 0 false 136),T1.nx+1⟩:=dc;obtain⟨r,T2,⟨rfl,kW⟩,e2⟩:=(word19 (S:=⟨T1.h.set T1.nx (.row [.cT,.ar] 0 0 false 136),T1.nx+1⟩) key).ex;obtain⟨r,T3,⟨h3,nO⟩,e3⟩:=(text14 (S:=T2) ⟨2,0,key,false⟩ (word_ok hk)).ex;rw[yc hk16]at h3;obtain rfl:r=.tuple [.str (bK key),.int .i64 0]:=h3;have n2:T1.nx+1<=T2.nx:=kW.nx;have n3:=nO.nx;have b0:cN T3 T1.nx .ar []:=⟨by omega,⟨.cT,by rw[nO.h _ (by omega),kW.h _ (zzd _)];exact get_set_same _ _ _,.inl rfl⟩,Gw.nil,by simp[aV]⟩
  have hql:=oT key;obtain⟨r,T4,⟨rfl,v4,b4,k4,n4,m4⟩,e4⟩:=(ff b0 (bK key) (by simp;omega)).ex;have hT4:Sub S T4:=⟨fun id cw=>by
   rw[k4 id (by omega) (by omega) (by simp[aV]),nO.h _ (by omega),kW.h _ (by show id<T1.nx+1;omega),ze.h _ (by omega)];exact hT.h id cw,by omega⟩
  have g0:(⟨T1.h.set T1.nx (.row [.cT,.ar] 0 0 false 136),T1.nx+1⟩:AS).h.get S.nx=some (.row [.str key,u] 0 0 false 43):=(ze.h _ (by omega)).trans g1;have g4:T4.h.get S.nx=some (.row [.str key,u] 0 0 false 43):=by
   rw[k4 _ (by omega) (by omega) (by simp[aV]),nO.h _ (by omega),kW.h _ (by show S.nx<T1.nx+1;omega)];exact g0
  have fH:=g0;simp only[bq]at e2 e3;have ne1:S.nx≠T1.nx:=by omega
  have m4':aV v4=0\/T1.nx<aV v4:=by
   rcases m4 with h|h
   .left;rw[h];rfl
   .right;omega
  simp only[zzk]at b4 e4;have q4:bK key=fl key (l.take 0):=by unfold fl;simp
  simp[s0,u1,u2,uk,hu.sl.cells,e1,e2,e3,e4,aK,g1,g4,ne1];refine aW (etH S T1.nx key u l) l.length (etH_mk 0 v4 hT4 (by omega) (q4▸b4) m4' (by simp) (by simp) (by simp) (by simp) (by simp[hn]) (zzh _) rfl) ?_;clear e1 e2 e3 e4 s0 hn;rintro k F' S' ng ⟨i,v,hS,hB,hb,hbv,s4,s22,s23,s24,hn,hi,hk'⟩;clear ng;have sy:(fl key (l.take i)).length<=1400:=by
   have:=sI (l:=l.take i) (fun a ha=>(mC (hatt a (zzi ha)).1 (hu.ok a (zzi ha)).2.2 (hatt a (zzi ha)).2).1);have hl2:(l.take i).length<=8:=by rw[List.length_take];omega
   unfold fl;rw[zze];omega
  by_cases ck:i<l.length
  .have hx:l[i]?=some l[i]:=zza ck;have kj:l.take (i+1)=l.take i++[l[i]]:=zzg ck;have hoka:=hu.ok _ (zzf ck);have DD:=hatt _ (zzf ck);have huS:=hu.sub hS;have hpi:=AK (k:=i) u1 (by rw[u2];exact ck);have EY:=bh (cx:=C0) (e:=95) huS.sl en (by omega) hx sM sL;generalize l[i]=a at hx kj hoka DD EY;have hZ:Sub S' ⟨(S'.h.set S'.nx (.row [.str [],.int .i64 0,.int .i64 0,.str [],.bool false] 0 0 false 95)).set S'.nx (.row (gB a) 0 0 false 95),S'.nx+1⟩:=eb;obtain⟨r,U1,⟨h5,hU1⟩,e5⟩:=(text14 (S:=⟨(S'.h.set S'.nx (.row [.str [],.int .i64 0,.int .i64 0,.str [],.bool false] 0 0 false 95)).set S'.nx (.row (gB a) 0 0 false 95),S'.nx+1⟩) a.val hoka.2.2).ex;have htx:lQ a.val=some (jI a.val):=by unfold lQ;rw[DD.2];rfl
   rw[htx]at h5;obtain rfl:r=.tuple [.str (jI a.val),.int .i64 0]:=h5;have hZU:=hZ.trans hU1;have nU:S'.nx+1<=U1.nx:=hU1.nx;have gz:U1.h.get S'.nx=some (.row (gB a) 0 0 false 95):=by rw[hU1.h _ (zzd _)];exact get_set_same _ _ _
   have hbU:cN U1 T1.nx v (fl key (l.take i)):=by
    obtain⟨p,hp,wM⟩:=hb.at_;have cR:=hb.lt;exact⟨by omega,⟨p,(hZU.h _ cR).trans hp,wM⟩,hb.gw.cE (fun id e=>hZU.h id (by have:=hb.gw.1.old;omega)) hZU.nx,hb.self⟩
   have hal:=mC DD.1 hoka.2.2 DD.2;obtain⟨r,U2,⟨rfl,v',b2,k2,n2',m2⟩,e6⟩:=(ff hbU (nQ a) (by omega)).ex;have hnl:=(jc DD.1).2.1;have htl:=txt_len hoka.2.2 htx;have a1:=po [32] a.name (by simp;omega);have a2:=po (32::a.name) [61] (by simp;omega);have a3:=po (32::(a.name++[61])) (jI a.val) (by simp;omega);have a4:(32::(a.name++[61]))++jI a.val=nQ a:=by unfold nQ;simp
   rw[a4]at a3;have hUS:Sub S U2:=⟨fun id cw=>by
    rw[k2 id (by have:=hS.nx;omega) (by omega) (by omega),hZU.h _ (by have:=hS.nx;omega)];exact hS.h id cw,by have:=hS.nx;omega⟩
   have hw:=fV (i:=i) (by omega);have hsnoc:fl key (l.take i)++nQ a=fl key (l.take (i+1)):=by unfold fl;rw[kj];simp
   rw[hsnoc]at b2;have cR:=hb.lt;have gz0:(⟨(S'.h.set S'.nx (.row [.str [],.int .i64 0,.int .i64 0,.str [],.bool false] 0 0 false 95)).set S'.nx (.row (gB a) 0 0 false 95),S'.nx+1⟩:AS).h.get S'.nx=some (.row (gB a) 0 0 false 95):=get_set_same _ _ _;simp only[gB,bq]at EY e5 gz gz0;simp only[List.singleton_append]at a1;simp[s4,s22,s23,s24,u1,u2,ck,EY,e5,e6,aK,gz,jM,a1,a2,a3,hw];exact⟨l.length-(i+1),by omega,etH_mk (i+1) v' hUS hB b2 (by omega) (by simp[s4]) (by simp[s22]) (by simp[s23]) (by simp[hw]) (by simp[hn]) ck rfl⟩
  .obtain rfl:i=l.length:=by omega
   rw[List.take_length]at hb sy;have jQ:∀c,c∈fl key l->c<256:=fun c hc=>by
    unfold fl at hc;rcases List.mem_append.1 hc with h|h
    .exact kT hk c h
    .obtain⟨a,ha,hx⟩:=List.mem_flatMap.1 h;exact (mC (hatt a ha).1 (hu.ok a ha).2.2 (hatt a ha).2).2 (hu.ok a ha).1 c hx
   have cl:fl key l≠[]:=by unfold fl bK;simp
   obtain⟨r,U,⟨rfl,d1,d2⟩,e7⟩:=(fJ hb jQ cl (by omega)).ex;have hU:Sub S U:=⟨fun id cw=>(d1 id (by omega)).trans (hS.h id cw),by have:=hS.nx;omega⟩
   simp[s4,s22,s23,s24,e7,aK,textE,hU]
end
end Go.Proofs.YthklfandhmkpiaaGreatDoor.val
namespace Go.Proofs.YthklfandhmkpiaaGreatDoor.sh
open Go Go.Am Go.Proofs.YthklfandhmkpiaaGreatDoor.dk
open Go.Proofs.YthklfandhmkpiaaGreatDoor.val (q1 bK fF rl mN and15 tY qm Cm kB wx qP e_ag5 dc)
theorem fn96:C0.fns.get 96=some Tryz.f96:=by kernel_rfl
theorem ok96:okF C0 Tryz.f96=true:=by kernel_rfl
theorem nt96:Tryz.f96.ntmps=49:=by kernel_rfl
section
variable{S T:AS}
def wordH(S:AS)(u:AV)(bs:List Nat)(k:Nat)(F':Fr)(S':AS):Prop:=
 ∃(i:Nat)(v:AV),Sub S S'/\Gw S' v 1 5 (bH (34::(bs.take i).flatMap q1))/\tP S.nx v/\sl F' 3=v/\sl F' 7=u/\sl F' 8=.int .i64 bs.length/\sl F' 9=.int .i64 i/\F'.n=49/\i<=bs.length/\k=bs.length-i
theorem wordH_mk{u v:AV}{bs:List Nat}{k:Nat}{F':Fr}{S':AS}(i:Nat)(h1:Sub S S')(h2:Gw S' v 1 5 (bH (34::(bs.take i).flatMap q1)))(h3:tP S.nx v)(h4:sl F' 3=v)(h5:sl F' 7=u)(h6:sl F' 8=.int .i64 bs.length)(h7:sl F' 9=.int .i64 i)(h8:F'.n=49)(h9:i<=bs.length)(cM:k=bs.length-i):wordH S u bs k F' S':=⟨i,v,h1,h2,h3,h4,h5,h6,h7,h8,h9,cM⟩
theorem FJ(c:Nat):(q1 c).length<=4:=by unfold q1;split<;>(try split)<;>simp
theorem q1s_len:∀l:List Nat,(l.flatMap q1).length<=4*l.length
 |[]=>by simp
 |a::l=>by have h1:=FJ a;have h2:=q1s_len l;rw[List.flatMap_cons,zze,zzb];omega
theorem word96{u:AV}{bs:List Nat}(hu:Sl S u 1 (bH bs))(hb:∀c,c∈bs->c<256)(hl:bs.length<=10000000):az C0 96 [u] S fun r T=>r=.str (34::bs.flatMap q1++[34])/\Sub S T:=by
 have u1:=hu.sl;have u2:=hu.gx;rw[bM]at u2;have uk:=aj hu;refine bD (dL _) (dF _ rfl) fn96 rfl ok96 (by simp) fun F hn s0=>?_;rw[nt96]at hn;have hx:Gw (⟨S.h.set S.nx (.row [.int .u8 34] 0 0 false 5),S.nx+1⟩:AS) (.slice S.nx 0 0 1 1 1 (some 1)) 1 5 (bH [34]):=
  ⟨⟨by simp[isSl,eS],by simp[lY,dP,cr,bH],by simp[sLen,bH],by simp[aV]⟩,.inr ⟨S.nx,0,0,1,1,some 1,rfl,rfl,zzd _,_,0,0,get_set_same _ _ _,Nat.le_refl _,rfl⟩⟩
 simp[s0,u1,u2,uk,aB Ae];refine aW (wordH S u bs) bs.length (wordH_mk 0 dc (by simpa using hx) (.inr (by simp[aV])) (by simp) (by simp) (by simp) (by simp) (by simp[hn]) (zzh _) rfl) ?_;clear s0 hn;rintro k F' S' ng ⟨i,v,hS',hg,hv,s3,s7,s8,s9,hn,hi,hk⟩;clear ng;have sy:=q1s_len (bs.take i);have htl:(bs.take i).length<=bs.length:=List.length_take_le' _ _;have AY:=hS'.nx;by_cases ck:i<bs.length
 .have hc:bs[i]?=some (bs[i]'(ck)):=zza _;have hcb:=hb _ (zzf ck);have kj:bs.take (i+1)=bs.take i++[bs[i]'(ck)]:=zzg ck;generalize bs[i]'(ck)=c at hc hcb kj;have hw:=IntWalk.i64_in ((i:Int)+1) (by omega);have ld:=dV (cx:=C0) (e:=5) (hu.toSub hS') (k:=i) (x:=.int .u8 (c:Int)) (by unfold bH;rw[List.getElem?_map,hc];rfl) e_ag5;have fin:∀(W:AS)(v':AV)(F2:Fr),Gw W v' 1 5 (bH (34::(bs.take i).flatMap q1++q1 c))->(∀id,id<S'.nx->aV v≠id+1->W.h.get id=S'.h.get id)->S'.nx<=W.nx->(aV v'=aV v\/S'.nx<aV v')->sl F2 3=v'->sl F2 7=u->sl F2 8=.int .i64 bs.length->sl F2 9=.int .i64 ((i+1:Nat):Int)->F2.n=49->∃j,j<k/\wordH S u bs j F2 W:=fun W v' F2 a1 a2 a3 a4 a5 a6 a7 a8 a9=>
   ⟨bs.length-(i+1),by omega,i+1,v',⟨fun id cw=>(a2 id (by omega) (by unfold tP at hv;omega)).trans (hS'.h id cw),by omega⟩,by rw[kj,List.flatMap_append];simpa using a1,by unfold tP at hv⊢;omega,a5,a6,a7,a8,a9,ck,rfl⟩
  by_cases hctl:c<32\/126<c
  .have hq1:q1 c=[92,120,fF (c / 16),fF (c%16)]:=by unfold q1;rw[if_pos hctl]
   rw[hq1]at fin;obtain⟨v1,W1,e3,r1,r2,r3,r4⟩:=wx [92,120,fF (c / 16),fF (c%16)] 3 rfl hg (by simp only[zzb];omega);have fin2:=fun F2 a5 a6 a7 a8 a9=>fin W1 v1 F2 r1 r2 r3 r4 a5 a6 a7 a8 a9;have BK:=rl ⟨c / 16,by omega⟩;have q2':=rl ⟨c%16,by omega⟩;simp only at BK q2';have rs:∀t cc,bI C0 .shr t cc (.int .u8 c) (.int .u64 4)=some (.int .u8 ((c / 16:Nat):Int)):=fun t cc=>mN .u8 c 4 (by decide) t cc;have a15:=fun t cc=>and15 hcb t cc;clear fin;simp only[bH,List.map_cons,List.map_nil]at e3;generalize fF (c / 16)=x1 at e3 BK;generalize fF (c%16)=x2 at e3 q2';generalize c / 16=y1 at rs BK;generalize c%16=y2 at a15 q2';have i1:=fun (F:Fr) (S':AS) (dst:Option Tmp) (ty:TypeId) (pos:String) (af:Array Edge) (gd:Option (Nat×Bool)) (x:Operand) (y:Tmp) (a:eval F x=.str [48,49,50,51,52,53,54,55,56,57,97,98,99,100,101,102]) (b:sl F y=.int .u8 (y1:Int))=>ep (cx:=C0) (F:=F) (S:=S') (dst:=dst) (ty:=ty) (pos:=pos) (af:=af) (gd:=gd) (t:=9) (ix:=.tmp y) (i:=y1) (c:=x1) a rfl ((aA F y).trans b) c7 tY BK;have i2:=fun (F:Fr) (S':AS) (dst:Option Tmp) (ty:TypeId) (pos:String) (af:Array Edge) (gd:Option (Nat×Bool)) (x:Operand) (y:Tmp) (a:eval F x=.str [48,49,50,51,52,53,54,55,56,57,97,98,99,100,101,102]) (b:sl F y=.int .u8 (y2:Int))=>ep (cx:=C0) (F:=F) (S:=S') (dst:=dst) (ty:=ty) (pos:=pos) (af:=af) (gd:=gd) (t:=9) (ix:=.tmp y) (i:=y2) (c:=x2) a rfl ((aA F y).trans b) c7 tY q2';simp at e3;have fv:=fun (F:Fr) (id:Nat) (a:sl F 27=.int .u8 x1) (b:sl F 30=.int .u8 x2)=>bA (cx:=C0) (F:=F) (t:=48) (p:=(5,1,1)) (id:=id) (n:=4) (a:=#[(0,.const (.int .u8 92)),(1,.const (.int .u8 120)),(2,.tmp 27),(3,.tmp 30)]) [[.int .u8 92],[.int .u8 120],[.int .u8 x1],[.int .u8 x2]] Cm rfl (by simp[aA,a,b,cellsOf]) (by simp) (by decide);simp only[List.flatten_cons,List.flatten_nil,List.cons_append,zzk,Nat.mul_one]at fv;by_cases h32:(c:Int)<32
   .have vM:c<32:=by omega
    simp[s3,s7,s8,s9,u1,u2,ck,ld,h32,vM,hn,j9 hg.1.ok];refine bg [.p,.p,.p,.p,.p,.p,.p,.e [],.e [],.p] (n:=49) (by kernel_rfl) (by simp[hn]) ?_;simp[s3,s7,s8,s9,rs,a15,i1,i2,fv,e3,hw,j9 hg.1.ok];exact fin2 _ (by simp) (by simp[s7]) (by simp[s8]) (by simp) (by simp[hn])
   .have vM:¬c<32:=by omega
    have h126:(126:Int)<c:=by omega
    have vN:126<c:=by omega
    simp[s3,s7,s8,s9,u1,u2,ck,ld,h32,vM,h126,vN,hn,j9 hg.1.ok];refine bg [.p,.p,.p,.p,.p,.p,.p,.e [],.e [],.p] (n:=49) (by kernel_rfl) (by simp[hn]) ?_;simp[s3,s7,s8,s9,rs,a15,i1,i2,fv,e3,hw,j9 hg.1.ok];exact fin2 _ (by simp) (by simp[s7]) (by simp[s8]) (by simp) (by simp[hn])
  .have h32:¬(c:Int)<32:=by omega
   have h126:¬(126:Int)<c:=by omega
   have vM:¬c<32:=by omega
   have vN:¬126<c:=by omega
   by_cases h2q:c=34\/c=92
   .have hq1:q1 c=[92,c]:=by unfold q1;rw[if_neg hctl,if_pos h2q]
    rw[hq1]at fin;obtain⟨v1,W1,e3,r1,r2,r3,r4⟩:=wx [92,c] 1 rfl hg (by simp only[zzb];omega);have fin2:=fun F2 a5 a6 a7 a8 a9=>fin W1 v1 F2 r1 r2 r3 r4 a5 a6 a7 a8 a9;simp only[bH,List.map_cons,List.map_nil]at e3;simp at e3;have fv:=fun (F:Fr) (id:Nat) (a:sl F 41=.int .u8 c)=>bA (cx:=C0) (F:=F) (t:=48) (p:=(5,1,1)) (id:=id) (n:=2) (a:=#[(0,.const (.int .u8 92)),(1,.tmp 41)]) [[.int .u8 92],[.int .u8 c]] Cm rfl (by simp[aA,a,cellsOf]) (by simp) (by decide);simp only[List.flatten_cons,List.flatten_nil,List.cons_append,zzk,Nat.mul_one]at fv;rcases h2q with rfl|rfl
    .simp at e3 fv;simp[s3,s7,s8,s9,u1,u2,ck,ld,fv,e3,hw,j9 hg.1.ok];exact fin2 _ (by simp) (by simp[s7]) (by simp[s8]) (by simp) (by simp[hn])
    .simp at e3 fv;simp[s3,s7,s8,s9,u1,u2,ck,ld,fv,e3,hw,j9 hg.1.ok];exact fin2 _ (by simp) (by simp[s7]) (by simp[s8]) (by simp) (by simp[hn])
   .have hq1:q1 c=[c]:=by unfold q1;rw[if_neg hctl,if_neg h2q]
    rw[hq1]at fin;obtain⟨v1,W1,e3,r1,r2,r3,r4⟩:=kB c hg (by simp only[zzb];omega);have h34:¬(c:Int)=34:=by omega
    have h92:¬(c:Int)=92:=by omega
    have h34':¬c=34:=by omega
    have h92':¬c=92:=by omega
    simp[s3,s7,s8,s9,u1,u2,ck,ld,h32,h126,vM,vN,h34,h92,h34',h92',e3,hw,j9 hg.1.ok,aB Ae];exact fin W1 v1 _ r1 r2 r3 r4 (by simp) (by simp[s7]) (by simp[s8]) (by simp) (by simp[hn])
 .obtain rfl:i=bs.length:=by omega
  rw[List.take_length]at hg sy;obtain⟨v1,W1,e3,r1,r2,r3,r4⟩:=kB 34 hg (by simp only[zzb];omega);have jQ:∀c,c∈34::bs.flatMap q1++[34]->c<256:=fun c hc=>by
   simp at hc;rcases hc with h|h|h
   .omega
   .obtain⟨d,hd,hx⟩:=h;exact qP (hb d hd) c hx
   .omega
  have tx:=fun (F:Fr) (dst:Option Tmp) (ty:TypeId) (pos:String) (af:Array Edge) (gd:Option (Nat×Bool)) (x:Tmp) (a:sl F x=v1)=>gC (cx:=C0) (F:=F) (dst:=dst) (ty:=ty) (pos:=pos) (af:=af) (gd:=gd) (a:=48) (b:=9) r1.1 jQ ((aA F x).trans a) qm tY;simp at e3;simp[s3,s7,s8,s9,e3,tx,j9 hg.1.ok,aB Ae];exact⟨fun id cw=>(r2 id (by omega) (by unfold tP at hv;omega)).trans (hS'.h id cw),by omega⟩
end
open Go.Proofs.YthklfandhmkpiaaGreatDoor.val (aU fmt37)
theorem fn86:C0.fns.get 86=some Tryz.f86:=by kernel_rfl
theorem ok86:okF C0 Tryz.f86=true:=by kernel_rfl
theorem fn128:C0.fns.get 128=some Tryz.f128:=by kernel_rfl
theorem ok128:okF C0 Tryz.f128=true:=by kernel_rfl
theorem fn172:C0.fns.get 172=some Tryz.f172:=by kernel_rfl
theorem ok172:okF C0 Tryz.f172=true:=by kernel_rfl
section
variable{S:AS}
theorem itoa172{n:Int}(h1:-9223372036854775808<=n)(h2:n<9223372036854775808):az C0 172 [.int .i64 n] S fun r T=>r=.str (aU n)/\Sub S T:=by
 refine bD (dL _) (dF _ rfl) fn172 rfl ok172 (by simp) fun F hn s0=>?_;obtain⟨r,T,⟨rfl,hT⟩,e⟩:=(fmt37 (S:=S) h1 h2).ex;simp[s0,e,aK,hT]
theorem itoa128{n:Int}(h1:-9223372036854775808<=n)(h2:n<9223372036854775808):az C0 128 [.int .i64 n] S fun r T=>r=.str (aU n)/\Sub S T:=by
 refine bD (dL _) (dF _ rfl) fn128 rfl ok128 (by simp) fun F hn s0=>?_;obtain⟨r,T,⟨rfl,hT⟩,e⟩:=(itoa172 (S:=S) h1 h2).ex;simp[s0,e,aK,hT]
theorem gk{n:Int}(h1:-9223372036854775808<=n)(h2:n<9223372036854775808):az C0 86 [.int .i64 n] S fun r T=>r=.str (aU n)/\Sub S T:=by
 refine bD (dL _) (dF _ rfl) fn86 rfl ok86 (by simp) fun F hn s0=>?_;obtain⟨r,T,⟨rfl,hT⟩,e⟩:=(itoa128 (S:=S) h1 h2).ex;simp[s0,e,aK,hT]
end
open Go.Proofs.YthklfandhmkpiaaGreatDoor.val (bP base50 num49 Af rH ny mM sf gK iP)
theorem fn87:C0.fns.get 87=some Tryz.f87:=by kernel_rfl
theorem ok87:okF C0 Tryz.f87=true:=by kernel_rfl
theorem fn129:C0.fns.get 129=some Tryz.f129:=by kernel_rfl
theorem ok129:okF C0 Tryz.f129=true:=by kernel_rfl
theorem fn173:C0.fns.get 173=some Tryz.f173:=by kernel_rfl
theorem ok173:okF C0 Tryz.f173=true:=by kernel_rfl
theorem nt173:Tryz.f173.ntmps=32:=by kernel_rfl
theorem cv38_3:kq C0 38 3=some .i64:=by kernel_rfl
section
variable{S:AS}
theorem fmu173{u:Nat}(h:u<18446744073709551616):az C0 173 [.int .u64 u,.int .i64 10] S fun r T=>r=.str (bP u)/\Sub S T:=by
 refine bu (dL _) (dF _ rfl) fn173 rfl ok173 (by simp) fun F hn s0 s1=>?_;rw[nt173]at hn;by_cases hs:u<100
 .have hs':(u:Int)<100:=by omega
  have e48:=fun (S:AS) Q=>Af hs (S:=S) (Q:=Q);have w:=IntWalk.i64_in (u:Int) (by omega);simp[s0,s1,hs,hs',w,cv38_3,e48,aK,Sub.refl]
 .obtain⟨c0,ni⟩:∃c0:List Nat,c0=[0,0,0,0,0,0,0,0,0,0,0,0,0,0,0,0,0,0,0,0,0,0,0,0]:=⟨_,rfl⟩
  have hb0:bH c0=[.int .u8 0,.int .u8 0,.int .u8 0,.int .u8 0,.int .u8 0,.int .u8 0,.int .u8 0,.int .u8 0,.int .u8 0,.int .u8 0,.int .u8 0,.int .u8 0,.int .u8 0,.int .u8 0,.int .u8 0,.int .u8 0,.int .u8 0,.int .u8 0,.int .u8 0,.int .u8 0,.int .u8 0,.int .u8 0,.int .u8 0,.int .u8 0]:=by rw[ni];rfl
  have h24:c0.length=24:=by rw[ni];rfl
  clear ni;have h100:¬(u:Int)<100:=by omega
  obtain⟨nd,zb⟩:∃nd,nd=Lib.nDigits u:=⟨_,rfl⟩
  have hnd20:nd<=20:=by rw[zb];exact gK 19 u (by omega)
  have hnd0:0<nd:=by rw[zb];exact Lib.nDigits_pos u
  have hup:u<10 ^ nd:=by rw[zb];exact sf u
  obtain⟨r,T,⟨rfl,c,v,hg,hF⟩,e50⟩:=(base50 (ofs:=0) (cp:=some 24) (S:=⟨S.h.set S.nx (.row (bH c0) 0 0 false 281),S.nx+1⟩) (B:=S.nx) (get_set_same _ _ _) h24 h zb (by omega) hup).ex;have e49:=fun (S:AS) Q=>num49 (u:=u) (by omega) h (S:=S) (Q:=Q);rw[<-zb]at e49;have AY:T.nx=S.nx+1:=hg.2.2.1;have hST:Sub S T:=⟨fun id cw=>(hg.2.1 id (by omega)).trans (ah _ _ (by omega)),by omega⟩
  have hnum:(c.drop 0).take nd=bP u:=by
   have:=hF;rw[zb]at this;rw[zb];exact this.numeral
  have bd:∀(F:Fr)(x:Tmp)(m:Nat),sl F x=.int .i64 (nd:Int)->bound F (some (.tmp x)) m=some nd:=fun F x m h=>by
   rw[gQ,aA,h];exact c7
  have sv0:=fun (F:Fr) (B:Nat) (x:Tmp) (h:sl F x=.int .i64 (nd:Int))=>(mM (B:=B) (F:=F) (lo:=none) (hi:=some (.tmp x)) (l:=0) rfl (bd F x _ h) (by omega) (by omega) (by decide))
  rw[hb0]at e50;have DC:=hg.cut (l:=0) (n:=nd) (by omega) (by omega) hnd0;rw[hnum]at DC;have tx:=fun (F:Fr) (dst:Option Tmp) (ty:TypeId) (pos:String) (af:Array Edge) (gd:Option (Nat×Bool)) (x:Tmp) (a:sl F x=.slice S.nx 0 0 nd 24 1 (some 24))=>gC (cx:=C0) (F:=F) (S:=T) (dst:=dst) (ty:=ty) (pos:=pos) (af:=af) (gd:=gd) (a:=48) (b:=9) DC (iP u) ((aA F x).trans a) qm tY;simp[s0,s1,hs,h100,e49,aK,sv0,e50,tx,hST]
theorem fmu129{u:Nat}(h:u<18446744073709551616):az C0 129 [.int .u64 u,.int .i64 10] S fun r T=>r=.str (bP u)/\Sub S T:=by
 refine bu (dL _) (dF _ rfl) fn129 rfl ok129 (by simp) fun F hn s0 s1=>?_;obtain⟨r,T,⟨rfl,hT⟩,e⟩:=(fmu173 (S:=S) h).ex;simp[s0,s1,e,aK,hT]
theorem ka{u:Nat}(h:u<18446744073709551616):az C0 87 [.int .u64 u] S fun r T=>r=.str (bP u)/\Sub S T:=by
 refine bD (dL _) (dF _ rfl) fn87 rfl ok87 (by simp) fun F hn s0=>?_;obtain⟨r,T,⟨rfl,hT⟩,e⟩:=(fmu129 (S:=S) h).ex;simp[s0,e,aK,hT]
end
open Go.Proofs.YthklfandhmkpiaaGreatDoor.val (ew fU cH DR textE)
theorem fn95:C0.fns.get 95=some Tryz.f95:=by kernel_rfl
theorem ok95:okF C0 Tryz.f95=true:=by kernel_rfl
section
variable{S:AS}
theorem said95{key:List Nat}{u:AV}{l:List fU}(hu:ew S u l)(hk:∀c,c∈key->c<256):az C0 95 [.agg [.str key,u]] S fun r T=>r=.str ((cH key l).getD [])/\Sub S T:=by
 have dZ:Sub S ⟨S.h.set S.nx (.row [.str key,u] 0 0 false 43),S.nx+1⟩:=dc;have uk:=aj hu.sl;have u1:=hu.sl.sl;obtain⟨r,T,⟨hr,hT⟩,e⟩:=(DR (key:=key) (hu.sub dZ) hk).ex;refine bD (dL _) (dF _ rfl) fn95 rfl ok95 (by simp) fun F hn s0=>?_;cases ht:cH key l with
 |none=>
  rw[ht]at hr;obtain rfl:r=_:=hr;simp[s0,u1,uk,e,aK,dZ.trans hT]
 |some t=>
  rw[ht]at hr;obtain rfl:r=_:=hr;simp[s0,u1,uk,e,aK,dZ.trans hT]
end
end Go.Proofs.YthklfandhmkpiaaGreatDoor.sh
namespace Go.Proofs.YthklfandhmkpiaaGreatDoor.bk
open Go Go.Am Go.Proofs.YthklfandhmkpiaaGreatDoor.dk
open Go.Proofs.YthklfandhmkpiaaGreatDoor.mod (kH bq dJ gY ek dj jm df iw lq dR Cr gv zeroV qY)
def gy(cs:List gY):List Nat:=if iw cs then pF cs else []
theorem fn131:C1.fns.get 131=some Tryz.f131:=by kernel_rfl
theorem ok131:okF C1 Tryz.f131=true:=by kernel_rfl
theorem fn94:C1.fns.get 94=some Tryz.f94:=by kernel_rfl
theorem ok94:okF C1 Tryz.f94=true:=by kernel_rfl
section
variable{S T:AS}{lo:Nat}
theorem uZ{p:AV}{cs:List gY}(hp:df S p cs)(hn:∀c,c∈cs->eW c):az C1 131 [p] S fun r T=>∃v,r=.tuple [v,.int .i64 (if iw cs then 0 else 30)]/\Gw T v 1 5 (bH (gy cs))/\tP S.nx v/\Sub S T:=by
 have h1:Sub S ⟨S.h.set S.nx (.row [p] 0 0 false 40),S.nx+1⟩:=Go.Proofs.YthklfandhmkpiaaGreatDoor.mod.dc;obtain⟨r,T,⟨rfl,hT⟩,e1⟩:=(up1 (qY (hp.sub h1))).ex;have g:T.h.get S.nx=some (.row [p] 0 0 false 40):=by rw[hT.h _ (zzd _)];exact get_set_same _ _ _
 obtain⟨r,T2,⟨v,rfl,q1,q2,q3⟩,e2⟩:=(form195 (iw cs) g hT.nx (hp.sub (h1.trans hT)) (fun h=>vi h hn)).ex;refine bD (EO _) (EP _ rfl) fn131 rfl ok131 (by simp) fun F hn s0=>?_;simp[s0,e1,e2,xm,aj hp.sl,hp.sl.cells,aj q1.1,q1.1.np];refine⟨q1,?_,(h1.trans hT).trans q3⟩;have:=(h1.trans hT).nx;unfold tP at q2⊢;omega
theorem flagB_lt(b:Bool):∀c,c∈zj b->c<256:=mV _
theorem lenB_lt{s:List Nat}(h:∀c,c∈s->c<256):∀c,c∈rf s->c<256:=fun c hc=>by
 rcases List.mem_append.1 hc with h1|h1
 .exact mV _ c h1
 .exact h c h1
theorem yf{a:kH}(h:oP a):∀c,c∈gm a->c<256:=fun c hc=>by
 rcases List.mem_append.1 hc with h1|h1
 .exact mV _ c h1
 .unfold El at h1;split at h1
  .exact mV _ c h1
  .split at h1
   .exact lenB_lt h.2.2 c h1
   .split at h1
    .exact flagB_lt _ c h1
    .cases h1
theorem consB_lt{a:gY}(h:eW a):∀c,c∈ji a->c<256:=fun c hc=>by
 rcases List.mem_append.1 hc with h1|h1
 .rcases List.mem_append.1 h1 with h1|h1
  .exact lenB_lt h.2.2 c h1
  .exact mV _ c h1
 .split at h1
  .cases h1
  .split at h1
   .rcases List.mem_append.1 h1 with h1|h1
    .exact mV _ c h1
    .obtain⟨v,hv,h2⟩:=List.mem_flatMap.1 h1;exact yf (h.2.1 v hv) c h2
   .exact yf h.1 c h1
theorem mq{cs:List gY}(hn:∀c,c∈cs->eW c):∀c,c∈gy cs->c<256:=fun c hc=>by
 unfold gy at hc;split at hc
 .rcases List.mem_append.1 hc with h1|h1
  .exact mV _ c h1
  .obtain⟨v,hv,h2⟩:=List.mem_flatMap.1 h1;exact consB_lt (hn v hv) c h2
 .cases hc
theorem pf{cs:List gY}(hn:∀c,c∈cs->eW c):(gy cs).length<=2410:=by
 unfold gy;split
 .rename_i h;exact predB_len (vi h hn).1 (vi h hn).2
 .simp
end
end Go.Proofs.YthklfandhmkpiaaGreatDoor.bk
namespace Go.Proofs.YthklfandhmkpiaaGreatDoor.sh
open Go Go.Am Go.Proofs.YthklfandhmkpiaaGreatDoor.dk
open Go.Proofs.YthklfandhmkpiaaGreatDoor.val (bK)
open Go.Proofs.YthklfandhmkpiaaGreatDoor.bk (eW gy mq pf uZ fn94 ok94)
open Go.Proofs.YthklfandhmkpiaaGreatDoor.mod (gY df iw)
def jO(cs:List gY):List Nat:=bK (gy cs)
theorem ask94{S:AS}{p:AV}{cs:List gY}(hp:df S p cs)(hn:∀c,c∈cs->eW c):az C1 94 [p] S fun r T=>r=.str (jO cs)/\Sub S T:=by
 obtain⟨r,T,⟨v,rfl,q1,q2,q3⟩,e1⟩:=(uZ hp hn).ex;obtain⟨r,T2,⟨rfl,q4⟩,e2⟩:=(word96 (bs:=gy cs) q1.1 (mq hn) (by have:=pf hn;omega)).ex;refine bD (EO _) (EP _ rfl) fn94 rfl ok94 (by simp) fun F hn s0=>?_;simp[s0,e1,e2,xm,aj hp.sl,hp.sl.cells,aj q1.1,q1.1.np];exact⟨rfl,q3.trans q4⟩
end Go.Proofs.YthklfandhmkpiaaGreatDoor.sh
end
