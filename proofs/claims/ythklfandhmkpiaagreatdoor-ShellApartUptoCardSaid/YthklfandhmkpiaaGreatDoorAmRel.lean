/-
  The abstract machine against the model: how values, memory and frames stand for those of the model.
-/
import Derived.Test.YthklfandhmkpiaaGreatDoorAmBase
import Derived.Laws.World
import Derived.Laws.Sem
import Derived.Below
import Derived.Laws.Cells
open Nat renaming le_refl->zza,lt_of_lt_of_le->zzb,le_trans->zzc,lt_irrefl->zze
open List renaming getElem?_eq_getElem->zzd
namespace Go.Am
open Go
structure Pl where
 b:Nat
 base:Nat
 n:Nat
 N:Nat
 le:base+n<=N
abbrev bf:=Nat->Nat->Option Pl
def symI(b:Nat):Int:=if b%2=0 then ((b / 2:Nat):Int) else -((b / 2:Nat):Int)-1
def OK.val(k:OK)(b:Nat):Value:=match k with | .yld=>.func (.yield b) #[] #[] | .chan=>.chan (some b) | .sym=>.int .i64 (IntKind.i64.wrap (symI b)) | .small=>.int .i64 ((b%257:Nat):Int)
mutual
def aq(ρ:bf):AV->Value->Prop
 | .top,_=>True
 | .bool b,v=>v=.bool b
 | .int k n,v=>v=.int k n
 | .str s,v=>∃b:ByteArray,v=.string b/\b.data.toList.map UInt8.toNat=s
 | .cT,v=>v=.pointer none
 | .ptr id g off aM,v=>∃pl,ρ id g=some pl/\aM<=pl.n/\v=.pointer (some ⟨pl.b,pl.base+off,none⟩)
 | .kM g off,v=>v=.pointer (some ⟨g,off,none⟩)
 | .ar,v=>v=.slice none 0 0
 | .slice id g off len aM sz cap,v=>∃ pl c,ρ id g=some pl∧aM≤pl.n∧off+len*sz≤aM∧0<sz∧len≤c ∧
   ((v=.slice (some ⟨pl.b,pl.base+off,none⟩) len c/\pl.base+off+c*sz<=pl.N/\(∀k,cap=some k->c=k/\off+k*sz<=aM)) \/
    (len=0/\c=0/\(∀k,cap=some k->k=0)/\∃a,v=.slice (some a) 0 0))
 | .jb,v=>v=.map none
 | .map id,v=>∃pl,ρ id 0=some pl/\v=.map (some pl.b)
 | .func fn f c,v=>∃a b,v=.func fn a b/\aD ρ f a.toList/\aD ρ c b.toList
 | .kI,v=>v=.nilFunc
 | .bS,v=>v=.nilIface
 | .iface t x,v=>∃y,v=.iface t y/\aq ρ x y
 | .agg cs,v=>∃a,v=.agg a/\aD ρ cs a.toList/\∀x,x∈a.toList->x.oneCell'=true
 | .tuple vs,v=>∃a,v=.tuple a/\aD ρ vs a.toList
 | .obj k id,v=>∃pl,ρ id 0=some pl/\v=k.val pl.b
 | .nilc,v=>v=.chan none
 | .eQ _,_=>False
def aD(ρ:bf):List AV->List Value->Prop
 |[],l=>l=[]
 |x::xs,l=>∃y ys,l=y::ys/\aq ρ x y/\aD ρ xs ys
end
def Ext(ρ ρ':bf):Prop:=∀id g pl,ρ id g=some pl->ρ' id g=some pl
theorem Ext.refl(ρ:bf):Ext ρ ρ:=fun _ _ _ h=>h
theorem Ext.trans{a b c:bf}(h:Ext a b)(k:Ext b c):Ext a c:=fun i g p x=>k i g p (h i g p x)
mutual
theorem aq.mono{ρ ρ':bf}(h:Ext ρ ρ'):∀(x:AV)(v:Value),aq ρ x v->aq ρ' x v
 | .top,_,_=>by simp[aq]
 | .bool b,v,hv=>by simpa[aq]using hv
 | .int k n,v,hv=>by simpa[aq]using hv
 | .str s,v,hv=>by simpa[aq]using hv
 | .cT,v,hv=>by simpa[aq]using hv
 | .ptr id g off aM,v,hv=>by
  simp only[aq]at *;obtain⟨pl,a,b,c⟩:=hv;exact⟨pl,h _ _ _ a,b,c⟩
 | .kM g off,v,hv=>by simpa[aq]using hv
 | .ar,v,hv=>by simpa[aq]using hv
 | .slice id g off len aM sz cap,v,hv=>by
  simp only[aq]at *;obtain⟨pl,c,a,rest⟩:=hv;exact⟨pl,c,h _ _ _ a,rest⟩
 | .jb,v,hv=>by simpa[aq]using hv
 | .map id,v,hv=>by
  simp only[aq]at *;obtain⟨pl,a,b⟩:=hv;exact⟨pl,h _ _ _ a,b⟩
 | .func fn f c,v,hv=>by
  simp only[aq]at *;obtain⟨a,b,e,p,q⟩:=hv;exact⟨a,b,e,aD.mono h f _ p,aD.mono h c _ q⟩
 | .kI,v,hv=>by simpa[aq]using hv
 | .bS,v,hv=>by simpa[aq]using hv
 | .iface t x,v,hv=>by
  simp only[aq]at *;obtain⟨y,e,p⟩:=hv;exact⟨y,e,aq.mono h x _ p⟩
 | .agg cs,v,hv=>by
  simp only[aq]at *;obtain⟨a,e,p,q⟩:=hv;exact⟨a,e,aD.mono h cs _ p,q⟩
 | .tuple vs,v,hv=>by
  simp only[aq]at *;obtain⟨a,e,p⟩:=hv;exact⟨a,e,aD.mono h vs _ p⟩
 | .obj k id,v,hv=>by
  simp only[aq]at *;obtain⟨pl,a,b⟩:=hv;exact⟨pl,h _ _ _ a,b⟩
 | .nilc,v,hv=>by simpa[aq]using hv
 | .eQ _,_,hv=>by simp only[aq]at hv
theorem aD.mono{ρ ρ':bf}(h:Ext ρ ρ'):∀(xs:List AV)(l:List Value),aD ρ xs l->aD ρ' xs l
 |[],l,hl=>by simpa[aD]using hl
 |x::xs,l,hl=>by
  simp only[aD]at *;obtain⟨y,ys,e,p,q⟩:=hl;exact⟨y,ys,e,aq.mono h x y p,aD.mono h xs ys q⟩
end
section
variable{ρ:bf}
theorem aD.nil:aD ρ [] []:=by simp[aD]
theorem aD.cons{x:AV}{y:Value}{xs:List AV}{ys:List Value}(h:aq ρ x y)(t:aD ρ xs ys):aD ρ (x::xs) (y::ys):=by
 simp only[aD];exact⟨y,ys,rfl,h,t⟩
theorem aD.iff:∀{xs:List AV}{ys:List Value},aD ρ xs ys↔xs.length=ys.length/\∀(i:Nat)(x:AV)(y:Value),xs[i]?=some x->ys[i]?=some y->aq ρ x y:=by
 intro xs;induction xs with
 |nil=>intro ys;cases ys<;>simp[aD]
 |cons x xs ih=>
  intro ys;cases ys with
  |nil=>simp[aD]
  |cons y ys=>
   simp only[aD,List.length_cons];constructor
   .rintro⟨y',ys',e,p,q⟩;cases e;obtain⟨q1,q2⟩:=ih.1 q;refine⟨by omega,fun i a b ha hb=>?_⟩;cases i with
    |zero=>simp at ha hb;subst ha hb;exact p
    |succ i=>simp at ha hb;exact q2 i a b ha hb
   .rintro⟨hl,hp⟩;exact⟨y,ys,rfl,hp 0 x y rfl rfl,ih.2 ⟨by omega,fun i a b ha hb=>hp (i+1) a b (by simpa using ha) (by simpa using hb)⟩⟩
theorem aD.length{xs:List AV}{ys:List Value}(h:aD ρ xs ys):xs.length=ys.length:=(aD.iff.1 h).1
theorem aD.get{xs:List AV}{ys:List Value}(h:aD ρ xs ys){i:Nat}{x:AV}(hx:xs[i]?=some x):∃y,ys[i]?=some y/\aq ρ x y:=by
 obtain⟨hl,hp⟩:=aD.iff.1 h;have hi:i<xs.length:=by
  rcases Nat.lt_or_ge i xs.length with h'|h'
  .exact h'
  .simp[List.getElem?_eq_none h']at hx
 exact⟨ys[i]'(by omega),by simp[zzd (by omega:i<ys.length)],hp i x _ hx (by simp[zzd (by omega:i<ys.length)])⟩
theorem aD.append:∀{xs:List AV}{ys:List Value}{xs':List AV}{ys':List Value},aD ρ xs ys->aD ρ xs' ys'->aD ρ (xs++xs') (ys++ys'):=by
 intro xs;induction xs with
 |nil=>intro ys xs' ys' h h';simp[aD]at h;subst h;simpa using h'
 |cons x xs ih=>
  intro ys xs' ys' h h';simp only[aD]at h;obtain⟨y,t,rfl,p,q⟩:=h;exact aD.cons p (ih q h')
theorem aD.take{xs:List AV}{ys:List Value}(h:aD ρ xs ys)(n:Nat):aD ρ (xs.take n) (ys.take n):=by
 obtain⟨hl,hp⟩:=aD.iff.1 h;refine aD.iff.2 ⟨by simp[hl],fun i x y hx hy=>?_⟩;rw[List.getElem?_take]at hx hy;split at hx
 .rename_i hi;rw[if_pos hi]at hy;exact hp i x y hx hy
 .cases hx
theorem aD.drop{xs:List AV}{ys:List Value}(h:aD ρ xs ys)(n:Nat):aD ρ (xs.drop n) (ys.drop n):=by
 obtain⟨hl,hp⟩:=aD.iff.1 h;refine aD.iff.2 ⟨by simp[hl],fun i x y hx hy=>?_⟩;rw[List.getElem?_drop]at hx hy;exact hp _ x y hx hy
theorem aD.map{α:Type}(f:α->AV)(g:α->Value)(h:∀a,aq ρ (f a) (g a)):∀l:List α,aD ρ (l.map f) (l.map g)
 |[]=>aD.nil
 |a::l=>aD.cons (h a) (aD.map f g h l)
end
def fp(ρ:bf)(es:List jo)(l:List MapEntry):Prop:=
 es.length=l.length/\∀(i:Nat)(e:jo)(m:MapEntry),es[i]?=some e->l[i]?=some m->aq ρ e.key m.key/\aq ρ e.val m.val/\e.born=m.born
theorem fp.mono{ρ ρ':bf}(h:Ext ρ ρ'){es:List jo}{l:List MapEntry}(r:fp ρ es l):fp ρ' es l:=
 ⟨r.1,fun i e m he hm=>let ⟨a,b,c⟩:=r.2 i e m he hm;⟨a.mono h _ _,b.mono h _ _,c⟩⟩
structure wG(ρ:bf)(F:Fr)(tmps:Array Value):Prop where
 slot:∀t,aq ρ (match F.t.get t with|some v=>v|none=>.undef) (tmps.getD t undef)
 size:tmps.size=F.n
theorem wG.mono{ρ ρ':bf}(h:Ext ρ ρ'){F:Fr}{tmps:Array Value}(r:wG ρ F tmps):wG ρ' F tmps:=⟨fun t=>(r.slot t).mono h _ _,r.size⟩
def DRel(ρ:bf):wJ->Deferred->Prop
 | .call f as captured,d=>∃cap,d.target=.fn (.func f) cap/\aD ρ as d.args.toList/\aD ρ captured cap.toList
 | .mark id,d=>∃pl,ρ id 0=some pl/\d.target=.collected pl.b
def tH(ρ:bf):List wJ->List Deferred->Prop
 |[],l=>l=[]
 |x::xs,l=>∃y ys,l=y::ys/\DRel ρ x y/\tH ρ xs ys
theorem DRel.mono{ρ ρ':bf}(h:Ext ρ ρ'){x:wJ}{d:Deferred}(r:DRel ρ x d):DRel ρ' x d:=by
 cases x with
 |call f as c=>obtain⟨cap,r1,r2,r3⟩:=r;exact⟨cap,r1,r2.mono h,r3.mono h⟩
 |mark id=>obtain⟨pl,r1,r2⟩:=r;exact⟨pl,h _ _ _ r1,r2⟩
theorem tH.mono{ρ ρ':bf}(h:Ext ρ ρ'):∀{xs:List wJ}{l:List Deferred},tH ρ xs l->tH ρ' xs l
 |[],_,r=>r
 |_::_,_,⟨y,ys,e,p,q⟩=>⟨y,ys,e,p.mono h,tH.mono h q⟩
def oN(ρ:bf):AOth->Obj->Prop
 | .iter none _ _ _,o=>∃a b c,o=.mapIter none a b c
 | .iter (some m) since seen last,o=>∃pl sn,ρ m 0=some pl/\o=.mapIter (some pl.b) since sn last/\sn.toList=seen.reverse
 | .siter s pos,o=>∃b:ByteArray,o=.stringIter b pos/\b.data.toList.map UInt8.toNat=s
 | .loop st j F ps a b,o=>∃fn tmps d,o=.loop {state:=st,pending:=j,fn:=fn,tmps:=tmps,params:=ps,assign:=a,body:=b,defers:=d}/\wG ρ F tmps/\cW a=true/\cW b=true
 | .dfr op,o=>o=.deferred (cond op (some []) none)
 | .chan cap buf,o=>∃B s r,o=.chan cap B false s r false/\aD ρ buf B.toList
theorem oN.mono{ρ ρ':bf}(h:Ext ρ ρ'){x:AOth}{o:Obj}(r:oN ρ x o):oN ρ' x o:=by
 cases x with
 |iter m since seen last=>
  cases m with
  |none=>exact r
  |some m=>obtain⟨pl,sn,r1,r2⟩:=r;exact⟨pl,sn,h _ _ _ r1,r2⟩
 |siter s pos=>exact r
 |loop st j F ps a b=>obtain⟨fn,tmps,d,r1,r2,r3⟩:=r;exact⟨fn,tmps,d,r1,r2.mono h,r3⟩
 |dfr op=>exact r
 |chan cap buf=>obtain⟨B,s,r,r1,r2⟩:=r;exact⟨B,s,r,r1,r2.mono h⟩
def A3(fr:Nat×Nat)(i:Nat):Bool:=decide (fr.1<=i)&&decide (i<fr.2)
def eu(C:Array Value):Prop:=∀(i:Nat)(v:Value),C[i]?=some v->v.oneCell'=true
theorem eu.of{C:Array Value}(h:∀v,v∈C.toList->v.oneCell'=true):eu C:=fun i v hv=>h v (List.mem_of_getElem? (i:=i) (by rw[Array.getElem?_toList];exact hv))
def xZ(ρ:bf)(w:World)(cells:List AV)(top:Nat)(frz:Bool)(ty:TypeId)(id g:Nat):Prop:=
 ∃pl C fr,ρ id g=some pl/\w.heap[pl.b]?=some (.cells C ty fr)/\C.size=pl.N/\pl.base+pl.n<=pl.N/\pl.n<=cells.length /\
  (∀i,i<pl.n->∃x v,cells[i]?=some x/\C[pl.base+i]?=some v/\aq ρ x v/\v.oneCell'=true) /\
  (g=top->pl.n=cells.length)/\(frz=false->∀i,i<=pl.N->A3 fr i=false)/\(g=0->pl.base=0)/\(frz=false->eu C)
def ORel(ρ:bf)(w:World)(id:Nat):dp->Prop
 | .row cells low top frz ty=>low≤top∧(∀ g,low≤g→g≤top→xZ ρ w cells top frz ty id g) ∧
   ∀g h p q,low<=g->g<=top->low<=h->h<=top->ρ id g=some p->ρ id h=some q->p.b=q.b->p.base=q.base
 | .map es clock=>∃pl ES,ρ id 0=some pl/\w.heap[pl.b]?=some (.map ES clock)/\fp ρ es ES.toList
 | .nR x=>∃pl o,ρ id 0=some pl/\w.heap[pl.b]?=some o/\oN ρ x o/\pl.base=0
structure LB where
 w:World
 B:Nat->Prop
def Frz(o:dp):Prop:=∃c l t ty,o=.row c (l+1) t true ty
def Wrt(ρ:bf)(S:AS)(b:Nat):Prop:=∃id o g pl,S.h.get id=some o/\¬Frz o/\ρ id g=some pl/\pl.b=b
def Mine(ρ:bf)(S:AS)(b:Nat):Prop:=∃id o g pl,S.h.get id=some o/\ρ id g=some pl/\pl.b=b
theorem Wrt.CZ{ρ:bf}{S:AS}{b:Nat}(h:Wrt ρ S b):Mine ρ S b:=let ⟨i,o,g,pl,h1,_,h2,h3⟩:=h;⟨i,o,g,pl,h1,h2,h3⟩
structure R(Λ:LB)(ρ:bf)(S:AS)(w:World):Prop where
 ja:∀id o,S.h.get id=some o->ORel ρ w id o
 xD:∀id o,S.h.get id=some o->id<S.nx
 fresh:∀id g,S.nx<=id->ρ id g=none
 pW:∀id cells low top frz ty,S.h.get id=some (.row cells low top frz ty)->∀g,top<g->ρ id g=none
 lt:∀id o g pl,S.h.get id=some o->ρ id g=some pl->pl.b<w.heap.size
 apart:∀id vA o o' g g' pl dT,id≠vA->S.h.get id=some o->S.h.get vA=some o'->ρ id g=some pl->ρ vA g'=some dT->pl.b≠dT.b\/(Frz o/\Frz o')
 start:Λ.w.heap.size<=w.heap.size
 base:∀b,Λ.B b->b<Λ.w.heap.size/\w.heap[b]?=Λ.w.heap[b]?/\¬Wrt ρ S b
variable{Λ:LB}
structure Kp(ρ:bf)(S:AS)(w:World)(ρ':bf)(S':AS)(w':World):Prop where
 ext:Ext ρ ρ'
 os:w'.os=w.os
 tape:w'.tape=w.tape
 output:w'.output=w.output
 size:w.heap.size<=w'.heap.size
 fM:∀b,b<w.heap.size->¬Wrt ρ S b->w'.heap[b]?=w.heap[b]?
 CZ:∀b,Mine ρ' S' b->Mine ρ S b\/w.heap.size<=b
 wrt:∀b,Wrt ρ' S' b->Wrt ρ S b\/w.heap.size<=b
 nx:S.nx<=S'.nx
 qJ:∀id g,id<S.nx->S.h.get id=none->ρ' id g=ρ id g/\S'.h.get id=none
theorem Kp.refl(ρ:bf)(S:AS)(w:World):Kp ρ S w ρ S w:=
 ⟨Ext.refl _,rfl,rfl,rfl,zza _,fun _ _ _=>rfl,fun _ h=>.inl h,fun _ h=>.inl h,zza _,fun _ _ _ h=>⟨rfl,h⟩⟩
theorem Kp.trans{ρ ρ' ρ'':bf}{S S' S'':AS}{w w' ux:World}(h:Kp ρ S w ρ' S' w')(k:Kp ρ' S' w' ρ'' S'' ux):Kp ρ S w ρ'' S'' ux where
 ext:=h.ext.trans k.ext
 os:=k.os.trans h.os
 tape:=k.tape.trans h.tape
 output:=k.output.trans h.output
 size:=zzc h.size k.size
 fM:=fun b hb hm=>(k.fM b (zzb hb h.size) (fun gf=>(h.wrt b gf).elim hm (fun hle=>absurd hb (Nat.not_lt.2 hle)))).trans (h.fM b hb hm)
 CZ:=fun b hb=>(k.CZ b hb).elim (h.CZ b) (fun hle=>.inr (zzc h.size hle))
 wrt:=fun b hb=>(k.wrt b hb).elim (h.wrt b) (fun hle=>.inr (zzc h.size hle))
 nx:=zzc h.nx k.nx
 qJ:=fun id g hi hn=>by
  obtain⟨e,n'⟩:=h.qJ id g hi hn;obtain⟨e2,n2⟩:=k.qJ id g (zzb hi h.nx) n';exact⟨e2.trans e,n2⟩
theorem R.drawn{ρ:bf}{S:AS}{w:World}(h:R Λ ρ S w)(n:Nat):R Λ ρ S {w with drawn:=n}:=
 ⟨fun id o ho=>by have:=h.ja id o ho;cases o<;>exact this,h.xD,h.fresh,h.pW,h.lt,h.apart,h.start,h.base⟩
theorem Kp.drawn(ρ:bf)(S:AS)(w:World)(n:Nat):Kp ρ S w ρ S {w with drawn:=n}:=
 ⟨Ext.refl _,rfl,rfl,rfl,zza _,fun _ _ _=>rfl,fun _ h=>.inl h,fun _ h=>.inl h,zza _,fun _ _ _ h=>⟨rfl,h⟩⟩
end Go.Am
namespace Go.Am
open Go
variable{Λ:LB}
structure Outer(w w':World):Prop where
 os:w'.os=w.os
 tape:w'.tape=w.tape
 output:w'.output=w.output
theorem Outer.refl(w:World):Outer w w:=⟨rfl,rfl,rfl⟩
theorem Outer.trans{a b c:World}(h:Outer a b)(k:Outer b c):Outer a c:=⟨k.os.trans h.os,k.tape.trans h.tape,k.output.trans h.output⟩
structure But(b:Nat)(w w':World):Prop extends Outer w w' where
 size:w'.heap.size=w.heap.size
 same:∀k,k≠b->w'.heap[k]?=w.heap[k]?
theorem But.refl(b:Nat)(w:World):But b w w:=⟨Outer.refl w,rfl,fun _ _=>rfl⟩
theorem But.trans{n:Nat}{a b c:World}(h:But n a b)(k:But n b c):But n a c:=
 ⟨h.toOuter.trans k.toOuter,k.size.trans h.size,fun i hi=>(k.same i hi).trans (h.same i hi)⟩
structure iz(o:Obj)(w w':World):Prop extends Outer w w' where
 heap:w'.heap=w.heap.push o
theorem iz.size{o:Obj}{w w':World}(h:iz o w w'):w'.heap.size=w.heap.size+1:=by rw[h.heap];simp
theorem iz.at{o:Obj}{w w':World}(h:iz o w w'):w'.heap[w.heap.size]?=some o:=by rw[h.heap];simp
theorem iz.old{o:Obj}{w w':World}(h:iz o w w')(k:Nat)(hk:k<w.heap.size):w'.heap[k]?=w.heap[k]?:=by
 rw[h.heap,Array.getElem?_push,if_neg (by omega)]
theorem xZ.fM{ρ ρ':bf}{w w':World}{cells:List AV}{top:Nat}{frz:Bool}{ty:TypeId}{id g:Nat}(hx:Ext ρ ρ')
  (hk:∀pl,ρ id g=some pl->w'.heap[pl.b]?=w.heap[pl.b]?) (h:xZ ρ w cells top frz ty id g):xZ ρ' w' cells top frz ty id g:=by
 obtain⟨pl,C,fr,h1,h2,h3,h4,h5,h6,h7,h8⟩:=h;refine⟨pl,C,fr,hx _ _ _ h1,(hk pl h1).trans h2,h3,h4,h5,fun i hi=>?_,h7,h8⟩;obtain⟨x,v,a,b,c,d⟩:=h6 i hi;exact⟨x,v,a,b,c.mono hx _ _,d⟩
theorem ORel.fM{ρ ρ':bf}{w w':World}{id:Nat}{o:dp}(hx:Ext ρ ρ')
  (hk:∀g pl,ρ id g=some pl->w'.heap[pl.b]?=w.heap[pl.b]?) (h:ORel ρ w id o):ORel ρ' w' id o:=by
 cases o with
 |row cells low top frz ty=>
  refine⟨h.1,fun g h1 h2=>(h.2.1 g h1 h2).fM hx (hk g),fun g k p q a1 a2 a3 a4 hp hq hb=>?_⟩;obtain⟨p',_,_,e1,_⟩:=h.2.1 g a1 a2;obtain⟨q',_,_,e2,_⟩:=h.2.1 k a3 a4;have f1:=hx _ _ _ e1;have f2:=hx _ _ _ e2;rw[hp]at f1;rw[hq]at f2;cases f1;cases f2;exact h.2.2 g k _ _ a1 a2 a3 a4 e1 e2 hb
 |map es clock=>
  obtain⟨pl,ES,h1,h2,h3⟩:=h;exact⟨pl,ES,hx _ _ _ h1,(hk 0 pl h1).trans h2,h3.mono hx⟩
 |nR x=>
  obtain⟨pl,o,h1,h2,h3,h4⟩:=h;exact⟨pl,o,hx _ _ _ h1,(hk 0 pl h1).trans h2,h3.mono hx,h4⟩
theorem sF{o:dp}(h:∀a b c d t,o≠.row a b c d t):¬Frz o:=fun⟨_,_,_,_,e⟩=>h _ _ _ _ _ e
theorem ko{c:List AV}{l t:Nat}{ty:TypeId}:¬Frz (.row c l t false ty):=fun⟨_,_,_,_,e⟩=>by cases e
theorem R.change{ρ ρ':bf}{S:AS}{w w':World}{id:Nat}{o':dp}{next':Nat}(h:R Λ ρ S w)(B:Nat->Prop)
  (hext:Ext ρ ρ') (Du:∀i g,i≠id->ρ' i g=ρ i g) (tN:Outer w w')
  (nf:w.heap.size<=w'.heap.size) (tm:∀k,k<w.heap.size->¬B k->w'.heap[k]?=w.heap[k]?)
  (hB:∀k,k<w.heap.size->B k->∃o g pl,S.h.get id=some o/\¬Frz o/\ρ id g=some pl/\pl.b=k)
  (hfz:∀o,S.h.get id=some o->Frz o->Frz o')
  (hB':∀i o g pl,i≠id->S.h.get i=some o->ρ i g=some pl->¬B pl.b)
  (hobj:ORel ρ' w' id o') (Dq:∀cells low top frz ty,o'=.row cells low top frz ty->∀g,top<g->ρ' id g=none)
  (cR:∀g pl,ρ' id g=some pl->pl.b<w'.heap.size/\((∃o g',S.h.get id=some o/\∃dT,ρ id g'=some dT/\dT.b=pl.b)\/w.heap.size<=pl.b))
  (hnext:S.nx<=next') (cw:id<next') (hfr:∀g i,next'<=i->ρ' i g=none)
  (hpres:(∃o,S.h.get id=some o)\/S.nx<=id) :
  R Λ ρ' ⟨S.h.set id o',next'⟩ w'/\Kp ρ S w ρ' ⟨S.h.set id o',next'⟩ w':=by
 have hap:∀i o g g' pl dT,i≠id->S.h.get i=some o->ρ i g=some pl->ρ' id g'=some dT->pl.b≠dT.b\/(Frz o/\Frz o'):=by
  intro i o g g' pl dT cl ho hp kF;rcases (cR g' dT kF).2 with⟨o2,g2,pz,pl2,hp2,e2⟩|BP
  .rcases h.apart i id o o2 g g2 pl pl2 cl ho pz hp hp2 with h1|h1
   .exact .inl (by rw[<-e2];exact h1)
   .exact .inr ⟨h1.1,hfz o2 pz h1.2⟩
  .have:=h.lt i o g pl ho hp;exact .inl (by omega)
 have gM:∀i,i≠id->(S.h.set id o').get i=S.h.get i:=fun i hi=>ah _ _ hi;have hmine:∀b,Mine ρ' ⟨S.h.set id o',next'⟩ b->Mine ρ S b\/w.heap.size<=b:=by
  rintro b ⟨i,o,g,pl,ho,hp,rfl⟩;by_cases hi:i=id
  .subst hi;rcases (cR g pl hp).2 with⟨o2,g2,pz,pl2,hp2,e2⟩|BP
   .exact .inl ⟨i,o2,g2,pl2,pz,hp2,e2⟩
   .exact .inr BP
  .have qu:S.h.get i=some o:=by rw[<-gM i hi];exact ho
   rw[Du i g hi]at hp;exact .inl ⟨i,o,g,pl,qu,hp,rfl⟩
 have hwrt:∀b,Wrt ρ' ⟨S.h.set id o',next'⟩ b->Wrt ρ S b\/w.heap.size<=b:=by
  rintro b ⟨i,o,g,pl,ho,hnf,hp,rfl⟩;by_cases hi:i=id
  .subst hi;rcases (cR g pl hp).2 with⟨o2,g2,pz,pl2,hp2,e2⟩|BP
   .refine .inl ⟨i,o2,g2,pl2,pz,fun hf=>hnf ?_,hp2,e2⟩;have hg:(S.h.set i o').get i=some o:=ho;rw[get_set_same]at hg;cases hg;exact hfz o2 pz hf
   .exact .inr BP
  .have qu:S.h.get i=some o:=by rw[<-gM i hi];exact ho
   rw[Du i g hi]at hp;exact .inl ⟨i,o,g,pl,qu,hnf,hp,rfl⟩
 refine⟨⟨?_,?_,fun i g=>hfr g i,?_,?_,?_,zzc h.start nf,?_⟩,⟨hext,tN.os,tN.tape,tN.output,nf,?_,hmine,hwrt,hnext,?_⟩⟩
 .intro i o ho;by_cases hi:i=id
  .subst hi;rw[get_set_same]at ho;cases ho;exact hobj
  .rw[gM i hi]at ho;refine (h.ja i o ho).fM hext fun g pl hp=>tm _ (h.lt i o g pl ho hp) (hB' i o g pl hi ho hp)
 .intro i o ho;by_cases hi:i=id
  .subst hi;exact cw
  .rw[gM i hi]at ho;exact zzb (h.xD i o ho) hnext
 .intro i cells low top frz ty ho g hg;by_cases hi:i=id
  .subst hi;rw[get_set_same]at ho;cases ho;exact Dq _ _ _ _ _ rfl g hg
  .rw[gM i hi]at ho;rw[Du i g hi];exact h.pW i cells low top frz ty ho g hg
 .intro i o g pl ho hp;by_cases hi:i=id
  .subst hi;exact (cR g pl hp).1
  .rw[gM i hi]at ho;rw[Du i g hi]at hp;exact zzb (h.lt i o g pl ho hp) nf
 .intro i j o oj g gj pl plj sx ho BN hp Dt;by_cases hi:i=id
  .subst hi;have hj:j≠i:=fun e=>sx e.symm;rw[gM j hj]at BN;rw[Du j gj hj]at Dt;rw[get_set_same]at ho;cases ho;rcases hap j oj gj g plj pl hj BN Dt hp with h1|h1
   .exact .inl fun e=>h1 e.symm
   .exact .inr ⟨h1.2,h1.1⟩
  .rw[gM i hi]at ho;rw[Du i g hi]at hp;by_cases hj:j=id
   .subst hj;rw[get_set_same]at BN;cases BN;exact hap i o g gj pl plj hi ho hp Dt
   .rw[gM j hj]at BN;rw[Du j gj hj]at Dt;exact h.apart i j o oj g gj pl plj sx ho BN hp Dt
 .intro b hb;obtain⟨d1,d2,d3⟩:=h.base b hb;have d1':=zzb d1 h.start;exact⟨d1,(tm b d1' fun hBb=>d3 (let ⟨o,g,pl,x1,x2,x3,x4⟩:=hB b d1' hBb;⟨id,o,g,pl,x1,x2,x3,x4⟩)).trans d2,fun hm=>(hwrt b hm).elim d3 fun BP=>absurd d1' (Nat.not_lt.2 BP)⟩
 .intro b hb hm;exact tm b hb fun hBb=>hm (let ⟨o,g,pl,x1,x2,x3,x4⟩:=hB b hb hBb;⟨id,o,g,pl,x1,x2,x3,x4⟩)
 .intro i g hi hn;have cl:i≠id:=by
   rintro rfl;rcases hpres with⟨o,ho⟩|BP
   .rw[ho]at hn;cases hn
   .omega
  exact⟨Du i g cl,by rw[gM i cl];exact hn⟩
def put(ρ:bf)(id g:Nat)(pl:Pl):bf:=fun i j=>if i=id/\j=g then some pl else ρ i j
theorem bV(ρ:bf)(id g:Nat)(pl:Pl):put ρ id g pl id g=some pl:=by simp[put]
theorem cq(ρ:bf){id g i j:Nat}(pl:Pl)(h:¬(i=id/\j=g)):put ρ id g pl i j=ρ i j:=by simp only[put,if_neg h]
theorem fY{ρ:bf}{id g:Nat}(pl:Pl)(h:ρ id g=none):Ext ρ (put ρ id g pl):=by
 intro i j p hp;rw[cq _ _ (by rintro⟨rfl,rfl⟩;rw[h]at hp;cases hp)];exact hp
theorem R.newRowF{ρ:bf}{S:AS}{w w':World}{cells:List AV}{C:Array Value}{e:TypeId}{fr:Nat×Nat}{frz:Bool}(h:R Λ ρ S w)(hg:iz (.cells C e fr) w w')(hfr:frz=false->∀i,i<=C.size->A3 fr i=false)
  (hl:aD ρ cells (C.toList.take cells.length)) (hC:cells.length<=C.size) (h1:eu C) :
  ∃ρ' pl,ρ' S.nx 0=some pl/\pl.b=w.heap.size/\pl.base=0/\pl.n=cells.length/\pl.N=C.size /\
   R Λ ρ' ⟨S.h.set S.nx (.row cells 0 0 frz e),S.nx+1⟩ w'/\Kp ρ S w ρ' ⟨S.h.set S.nx (.row cells 0 0 frz e),S.nx+1⟩ w':=by
 have hx:=fY (ρ:=ρ) (id:=S.nx) (g:=0) ⟨w.heap.size,0,cells.length,C.size,by simpa using hC⟩ (h.fresh _ _ (zza _));refine⟨put ρ S.nx 0 ⟨w.heap.size,0,cells.length,C.size,by simpa using hC⟩,_,bV _ _ _ _,rfl,rfl,rfl,rfl,?_⟩;refine h.change (fun _=>False) hx ?_ hg.toOuter ?_ ?_ ?_ ?_ ?_ ?_ ?_ ?_ ?_ ?_ ?_ ?_
 .exact fun i g hi=>cq _ _ (fun e=>hi e.1)
 .rw[hg.size];omega
 .exact fun k hk _=>hg.old k hk
 .exact fun _ _ hf=>hf.elim
 .exact fun o ho _=>absurd (h.xD _ o ho) (zze _)
 .exact fun _ _ _ _ _ _ _ hf=>hf
 .refine⟨zza _,fun g _ hg0=>?_,fun g k p q _ a2 _ a4 hp1 hq1 _=>by
   obtain rfl:g=0:=by omega
   obtain rfl:k=0:=by omega
   rw[hp1]at hq1;cases hq1;rfl⟩
  obtain rfl:g=0:=by omega
  refine⟨_,C,fr,bV _ _ _ _,hg.at,rfl,by simpa using hC,zza _,fun i hi=>?_,fun _=>rfl,hfr,fun _=>rfl,fun _=>h1⟩;dsimp only at hi⊢;obtain⟨x,hxx⟩:∃x,cells[i]?=some x:=⟨cells[i],by simp[zzd hi]⟩
  obtain⟨v,hv,hr⟩:=hl.get hxx;rw[List.getElem?_take,if_pos hi]at hv;exact⟨x,v,hxx,by simpa using hv,hr.mono hx _ _,h1 i v (by simpa using hv)⟩
 .intro cells' low top frz ty he g EZ;cases he;rw[cq _ _ (by omega)];exact h.fresh _ _ (zza _)
 .intro g pl hp;by_cases hg0:g=0
  .subst hg0;rw[bV]at hp;cases hp;exact⟨by rw[hg.size];simp,.inr (zza _)⟩
  .rw[cq _ _ (by omega),h.fresh _ _ (zza _)]at hp;cases hp
 .omega
 .omega
 .intro g i hi;rw[cq _ _ (by omega)];exact h.fresh _ _ (by omega)
 .exact .inr (zza _)
theorem R.newRow{ρ:bf}{S:AS}{w w':World}{cells:List AV}{C:Array Value}{e:TypeId}(h:R Λ ρ S w)(hg:iz (.cells C e) w w')
  (hl:aD ρ cells (C.toList.take cells.length)) (hC:cells.length<=C.size) (h1:eu C) :
  ∃ρ' pl,ρ' S.nx 0=some pl/\pl.b=w.heap.size/\pl.base=0/\pl.n=cells.length/\pl.N=C.size /\
   R Λ ρ' ⟨S.h.set S.nx (.row cells 0 0 false e),S.nx+1⟩ w'/\Kp ρ S w ρ' ⟨S.h.set S.nx (.row cells 0 0 false e),S.nx+1⟩ w':=
 h.newRowF hg (fun _ i _=>by simp[A3]) hl hC h1
theorem R.newMap{ρ:bf}{S:AS}{w w':World}{es:List jo}{clock:Nat}{ES:Array MapEntry}(h:R Λ ρ S w)(hg:iz (.map ES clock) w w')(hl:fp ρ es ES.toList):
  ∃ρ' pl,ρ' S.nx 0=some pl/\pl.b=w.heap.size/\R Λ ρ' ⟨S.h.set S.nx (.map es clock),S.nx+1⟩ w'/\Kp ρ S w ρ' ⟨S.h.set S.nx (.map es clock),S.nx+1⟩ w':=by
 have hx:=fY (ρ:=ρ) (id:=S.nx) (g:=0) ⟨w.heap.size,0,0,0,zza _⟩ (h.fresh _ _ (zza _));refine⟨put ρ S.nx 0 ⟨w.heap.size,0,0,0,zza _⟩,_,bV _ _ _ _,rfl,?_⟩;refine h.change (fun _=>False) hx ?_ hg.toOuter ?_ ?_ ?_ ?_ ?_ ?_ ?_ ?_ ?_ ?_ ?_ ?_
 .exact fun i g hi=>cq _ _ (fun e=>hi e.1)
 .rw[hg.size];omega
 .exact fun k hk _=>hg.old k hk
 .exact fun _ _ hf=>hf.elim
 .exact fun o ho _=>absurd (h.xD _ o ho) (zze _)
 .exact fun _ _ _ _ _ _ _ hf=>hf
 .exact⟨_,ES,bV _ _ _ _,hg.at,hl.mono hx⟩
 .intro cells' low top frz ty he;cases he
 .intro g pl hp;by_cases hg0:g=0
  .subst hg0;rw[bV]at hp;cases hp;exact⟨by rw[hg.size];simp,.inr (zza _)⟩
  .rw[cq _ _ (by omega),h.fresh _ _ (zza _)]at hp;cases hp
 .omega
 .omega
 .intro g i hi;rw[cq _ _ (by omega)];exact h.fresh _ _ (by omega)
 .exact .inr (zza _)
theorem R.setMap{ρ:bf}{S:AS}{w w':World}{id:Nat}{o:dp}{pl:Pl}{es:List jo}{clock:Nat}{ES:Array MapEntry}(h:R Λ ρ S w)
  (ho:S.h.get id=some o) (hnr:∀a b c d t,o≠.row a b c d t) (hp:ρ id 0=some pl) (hb:But pl.b w w') (hw:w'.heap[pl.b]?=some (.map ES clock)) (hl:fp ρ es ES.toList) :
  R Λ ρ ⟨S.h.set id (.map es clock),S.nx⟩ w'/\Kp ρ S w ρ ⟨S.h.set id (.map es clock),S.nx⟩ w':=by
 refine h.change (fun k=>k=pl.b) (Ext.refl _) (fun _ _ _=>rfl) hb.toOuter (Nat.le_of_eq hb.size.symm) (fun k _ hk=>hb.same k hk) ?_ ?_ ?_ ?_ ?_ ?_ (zza _) (h.xD id o ho) (fun g i hi=>h.fresh i g hi) (.inl ⟨o,ho⟩)
 .rintro k _ rfl;exact⟨o,0,pl,ho,sF hnr,hp,rfl⟩
 .intro o2 pz hf;rw[ho]at pz;cases pz;exact (sF hnr hf).elim
 .intro i oi g pli hi hoi hpi he;exact (h.apart i id oi o g 0 pli pl hi hoi ho hpi hp).elim (fun h1=>h1 he) (fun h1=>sF hnr h1.2)
 .exact⟨pl,ES,hp,hw,hl⟩
 .intro a b c d t he;cases he
 .intro g dT kF;exact⟨by rw[hb.size];exact h.lt id o g dT ho kF,.inl ⟨o,g,ho,dT,kF,rfl⟩⟩
theorem R.newOth{ρ:bf}{S:AS}{w w':World}{x:AOth}{o:Obj}(h:R Λ ρ S w)(hg:iz o w w')(hl:oN ρ x o):
  ∃ρ' pl,ρ' S.nx 0=some pl/\pl.b=w.heap.size/\pl.base=0/\R Λ ρ' ⟨S.h.set S.nx (.nR x),S.nx+1⟩ w'/\Kp ρ S w ρ' ⟨S.h.set S.nx (.nR x),S.nx+1⟩ w':=by
 have hx:=fY (ρ:=ρ) (id:=S.nx) (g:=0) ⟨w.heap.size,0,0,0,zza _⟩ (h.fresh _ _ (zza _));refine⟨put ρ S.nx 0 ⟨w.heap.size,0,0,0,zza _⟩,_,bV _ _ _ _,rfl,rfl,?_⟩;refine h.change (fun _=>False) hx ?_ hg.toOuter ?_ ?_ ?_ ?_ ?_ ?_ ?_ ?_ ?_ ?_ ?_ ?_
 .exact fun i g hi=>cq _ _ (fun e=>hi e.1)
 .rw[hg.size];omega
 .exact fun k hk _=>hg.old k hk
 .exact fun _ _ hf=>hf.elim
 .exact fun o ho _=>absurd (h.xD _ o ho) (zze _)
 .exact fun _ _ _ _ _ _ _ hf=>hf
 .exact⟨_,o,bV _ _ _ _,hg.at,hl.mono hx,rfl⟩
 .intro cells' low top frz ty he;cases he
 .intro g pl hp;by_cases hg0:g=0
  .subst hg0;rw[bV]at hp;cases hp;exact⟨by rw[hg.size];simp,.inr (zza _)⟩
  .rw[cq _ _ (by omega),h.fresh _ _ (zza _)]at hp;cases hp
 .omega
 .omega
 .intro g i hi;rw[cq _ _ (by omega)];exact h.fresh _ _ (by omega)
 .exact .inr (zza _)
theorem R.setOth{ρ:bf}{S:AS}{w w':World}{id:Nat}{o:dp}{pl:Pl}{x:AOth}{O:Obj}(h:R Λ ρ S w)
  (ho:S.h.get id=some o) (hnr:∀a b c d t,o≠.row a b c d t) (hp:ρ id 0=some pl) (hb:But pl.b w w') (hw:w'.heap[pl.b]?=some O) (hl:oN ρ x O) (hb0:pl.base=0) :
  R Λ ρ ⟨S.h.set id (.nR x),S.nx⟩ w'/\Kp ρ S w ρ ⟨S.h.set id (.nR x),S.nx⟩ w':=by
 refine h.change (fun k=>k=pl.b) (Ext.refl _) (fun _ _ _=>rfl) hb.toOuter (Nat.le_of_eq hb.size.symm) (fun k _ hk=>hb.same k hk) ?_ ?_ ?_ ?_ ?_ ?_ (zza _) (h.xD id o ho) (fun g i hi=>h.fresh i g hi) (.inl ⟨o,ho⟩)
 .rintro k _ rfl;exact⟨o,0,pl,ho,sF hnr,hp,rfl⟩
 .intro o2 pz hf;rw[ho]at pz;cases pz;exact (sF hnr hf).elim
 .intro i oi g pli hi hoi hpi he;exact (h.apart i id oi o g 0 pli pl hi hoi ho hpi hp).elim (fun h1=>h1 he) (fun h1=>sF hnr h1.2)
 .exact⟨pl,O,hp,hw,hl,hb0⟩
 .intro a b c d t he;cases he
 .intro g dT kF;exact⟨by rw[hb.size];exact h.lt id o g dT ho kF,.inl ⟨o,g,ho,dT,kF,rfl⟩⟩
theorem R.write{ρ:bf}{S:AS}{w w':World}{id low top:Nat}{cells cells':List AV}{pl:Pl}{C C':Array Value}{e:TypeId}{fr:Nat×Nat}(h:R Λ ρ S w)
  (ho:S.h.get id=some (.row cells low top false e)) (hp:ρ id top=some pl) (hw:w.heap[pl.b]?=some (.cells C e fr))
  (hb:But pl.b w w') (EV:w'.heap[pl.b]?=some (.cells C' e fr)) (hC:C'.size=C.size) (hc:cells'.length=cells.length)
  (rj:eu C->eu C')
  (hpt:∀i,i<cells.length->∃x v,cells'[i]?=some x/\C'[pl.base+i]?=some v/\aq ρ x v/\v.oneCell'=true) :
  R Λ ρ ⟨S.h.set id (.row cells' top top false e),S.nx⟩ w'/\Kp ρ S w ρ ⟨S.h.set id (.row cells' top top false e),S.nx⟩ w':=by
 obtain⟨cR,hgs,_⟩:=h.ja id _ ho;obtain⟨dT,D,fr',g1,g2,g3,g4,g5,g6,g7,g8,g9⟩:=hgs top cR (zza _);rw[hp]at g1;cases g1;rw[hw]at g2;cases g2;refine h.change (fun k=>k=pl.b) (Ext.refl _) (fun _ _ _=>rfl) hb.toOuter (Nat.le_of_eq hb.size.symm) (fun k _ hk=>hb.same k hk) ?_ ?_ ?_ ?_ ?_ ?_ (zza _) (h.xD id _ ho) (fun g i hi=>h.fresh i g hi) (.inl ⟨_,ho⟩)
 .rintro k _ rfl;exact⟨_,top,pl,ho,ko,hp,rfl⟩
 .intro o2 pz hf;rw[ho]at pz;cases pz;exact (ko hf).elim
 .intro i oi g pli hi hoi hpi he;exact (h.apart i id oi _ g top pli pl hi hoi ho hpi hp).elim (fun h1=>h1 he) (fun h1=>ko h1.2)
 .refine⟨zza _,fun g h1 h2=>?_,fun g k p q a1 a2 a3 a4 hp1 hq1 _=>by
   obtain rfl:g=top:=by omega
   obtain rfl:k=g:=by omega
   rw[hp1]at hq1;cases hq1;rfl⟩
  obtain rfl:g=top:=by omega
  refine⟨pl,C',fr,hp,EV,hC.trans g3,g4,by rw[g7 rfl,hc];exact zza _,fun i hi=>hpt i (by rw[g7 rfl]at hi;exact hi),fun _=>by rw[g7 rfl,hc],g8,g9.1,fun h=>rj (g9.2 h)⟩
 .intro a b c d t he g hg;cases he;exact h.pW id _ _ _ _ _ ho g hg
 .intro g dT kF;exact⟨by rw[hb.size];exact h.lt id _ g dT ho kF,.inl ⟨_,g,ho,dT,kF,rfl⟩⟩
theorem R.gen{ρ:bf}{S:AS}{w w':World}{id low top low':Nat}{cells cells':List AV}{frz:Bool}{ty:TypeId}{pl:Pl}(h:R Λ ρ S w)
  (ho:S.h.get id=some (.row cells low top frz ty)) (hlow':low<=low') (hlt':low'<=top+1)
  (tN:Outer w w') (nf:w.heap.size<=w'.heap.size)
  (tm:∀k,k<w.heap.size->k≠pl.b->w'.heap[k]?=w.heap[k]?)
  (oZ:(∃g dT,ρ id g=some dT/\dT.b=pl.b)\/w.heap.size<=pl.b) (hpb:pl.b<w'.heap.size)
  (hfalse:frz=false)
  (vF:xZ (put ρ id (top+1) pl) w' cells' (top+1) false ty id (top+1))
  (hold:∀g,low'<=g->g<=top->xZ (put ρ id (top+1) pl) w' cells' (top+1) false ty id g)
  (hsb:∀g p,low'<=g->g<=top->ρ id g=some p->p.b=pl.b->p.base=pl.base) :
  R Λ (put ρ id (top+1) pl) ⟨S.h.set id (.row cells' low' (top+1) false ty),S.nx⟩ w' /\
   Kp ρ S w (put ρ id (top+1) pl) ⟨S.h.set id (.row cells' low' (top+1) false ty),S.nx⟩ w':=by
 subst hfalse;have hx:=fY (ρ:=ρ) (id:=id) (g:=top+1) pl (h.pW id _ _ _ _ _ ho _ (by omega));refine h.change (fun k=>k=pl.b/\k<w.heap.size) hx (fun i g hi=>cq _ _ (fun e=>hi e.1)) tN nf (fun k hk hk'=>tm k hk (fun e=>hk' ⟨e,hk⟩)) ?_ ?_ ?_ ?_ ?_ ?_ (zza _) (h.xD id _ ho) ?_ (.inl ⟨_,ho⟩)
 .rintro k hk ⟨rfl,_⟩;rcases oZ with⟨g,dT,kF,e'⟩|BP
  .exact⟨_,g,dT,ho,ko,kF,e'⟩
  .omega
 .intro o2 pz hf;rw[ho]at pz;cases pz;exact (ko hf).elim
 .rintro i oi g pli hi hoi hpi ⟨he,cR⟩;rcases oZ with⟨g',dT,kF,e'⟩|BP
  .exact (h.apart i id oi _ g g' pli dT hi hoi ho hpi kF).elim (fun h1=>h1 (by rw[e'];exact he)) (fun h1=>ko h1.2)
  .omega
 .refine⟨hlt',fun g h1 h2=>?_,fun g k p q a1 a2 a3 a4 hp hq hb=>?_⟩
  .by_cases hg:g=top+1
   .subst hg;exact vF
   .exact hold g h1 (by omega)
  .by_cases hg:g=top+1
   .subst hg;rw[bV]at hp;cases hp;by_cases hk:k=top+1
    .subst hk;rw[bV]at hq;cases hq;rfl
    .rw[cq _ _ (by omega)]at hq;exact (hsb k q a3 (by omega) hq hb.symm).symm
   .rw[cq _ _ (by omega)]at hp;by_cases hk:k=top+1
    .subst hk;rw[bV]at hq;cases hq;exact hsb g p a1 (by omega) hp hb
    .rw[cq _ _ (by omega)]at hq;exact (h.ja id _ ho).2.2 g k p q (zzc hlow' a1) (by omega) (zzc hlow' a3) (by omega) hp hq hb
 .intro a b c d t he g hg;cases he;rw[cq _ _ (by omega)];exact h.pW id _ _ _ _ _ ho g (by omega)
 .intro g dT kF;by_cases hg:g=top+1
  .subst hg;rw[bV]at kF;cases kF;refine⟨hpb,?_⟩;rcases oZ with⟨g,dT,kF,e'⟩|BP
   .exact .inl ⟨_,g,ho,dT,kF,e'⟩
   .exact .inr BP
  .rw[cq _ _ (by omega)]at kF;exact⟨zzb (h.lt id _ g dT ho kF) nf,.inl ⟨_,g,ho,dT,kF,rfl⟩⟩
 .intro g i hi;rw[cq _ _ (by rintro⟨rfl,_⟩;exact absurd (h.xD _ _ ho) (Nat.not_lt.2 hi))];exact h.fresh i g hi
end Go.Am
