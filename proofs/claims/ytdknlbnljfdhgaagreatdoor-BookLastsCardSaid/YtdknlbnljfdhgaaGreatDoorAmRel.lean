/-
  The abstract machine against the model: how values, memory and frames stand for those of the model.
-/
import Derived.Test.YtdknlbnljfdhgaaGreatDoorAmBase
import Derived.Laws.World
import Derived.Laws.Sem
import Derived.Below
open Nat renaming le_trans->zza
open List renaming getElem?_eq_getElem->zzb
namespace Go.Am
open Go
structure Pl where
 b:Nat
 base:Nat
 n:Nat
 N:Nat
 le:base+n<=N
abbrev aY:=Nat->Nat->Option Pl
def OK.val(k:OK)(b:Nat):Value:=match k with | .LZ=>.func (.yield b) #[] #[] | .chan=>.chan (some b)
mutual
def ai(ρ:aY):AV->Value->Prop
 | .top,_=>True
 | .bool b,v=>v=.bool b
 | .int k n,v=>v=.int k n
 | .str s,v=>∃b:ByteArray,v=.string b/\b.data.toList.map UInt8.toNat=s
 | .ck,v=>v=.pointer none
 | .ptr id g off lim,v=>∃pl,ρ id g=some pl/\lim<=pl.n/\v=.pointer (some ⟨pl.b,pl.base+off,none⟩)
 | .wH g off,v=>v=.pointer (some ⟨g,off,none⟩)
 | .ar,v=>v=.slice none 0 0
 | .slice id g off len lim sz cap,v=>∃ pl c,ρ id g=some pl∧lim≤pl.n∧off+len*sz≤lim∧0<sz∧len≤c ∧
   ((v=.slice (some ⟨pl.b,pl.base+off,none⟩) len c/\pl.base+off+c*sz<=pl.N/\(∀k,cap=some k->c=k/\off+k*sz<=lim)) \/
    (len=0/\c=0/\(∀k,cap=some k->k=0)/\∃a,v=.slice (some a) 0 0))
 | .j8,v=>v=.map none
 | .map id,v=>∃pl,ρ id 0=some pl/\v=.map (some pl.b)
 | .func fn f c,v=>∃a b,v=.func fn a b/\ay ρ f a.toList/\ay ρ c b.toList
 | .eQ,v=>v=.nilFunc
 | .bR,v=>v=.nilIface
 | .iface t x,v=>∃y,v=.iface t y/\ai ρ x y
 | .agg cs,v=>∃a,v=.agg a/\ay ρ cs a.toList/\∀x,x∈a.toList->x.oneCell'=true
 | .tuple vs,v=>∃a,v=.tuple a/\ay ρ vs a.toList
 | .obj k id,v=>∃pl,ρ id 0=some pl/\v=k.val pl.b
 | .T7,v=>v=.chan none
 | .eO _,_=>False
def ay(ρ:aY):List AV->List Value->Prop
 |[],l=>l=[]
 |x::xs,l=>∃y ys,l=y::ys/\ai ρ x y/\ay ρ xs ys
end
def Ext(ρ ρ':aY):Prop:=∀id g pl,ρ id g=some pl->ρ' id g=some pl
theorem Ext.refl(ρ:aY):Ext ρ ρ:=fun _ _ _ h=>h
theorem Ext.trans{a b c:aY}(h:Ext a b)(k:Ext b c):Ext a c:=fun i g p x=>k i g p (h i g p x)
mutual
theorem ai.mono{ρ ρ':aY}(h:Ext ρ ρ'):∀(x:AV)(v:Value),ai ρ x v->ai ρ' x v
 | .top,_,_=>by simp[ai]
 | .bool b,v,hv=>by simpa[ai]using hv
 | .int k n,v,hv=>by simpa[ai]using hv
 | .str s,v,hv=>by simpa[ai]using hv
 | .ck,v,hv=>by simpa[ai]using hv
 | .ptr id g off lim,v,hv=>by
  simp only[ai]at *;obtain⟨pl,a,b,c⟩:=hv;exact⟨pl,h _ _ _ a,b,c⟩
 | .wH g off,v,hv=>by simpa[ai]using hv
 | .ar,v,hv=>by simpa[ai]using hv
 | .slice id g off len lim sz cap,v,hv=>by
  simp only[ai]at *;obtain⟨pl,c,a,rest⟩:=hv;exact⟨pl,c,h _ _ _ a,rest⟩
 | .j8,v,hv=>by simpa[ai]using hv
 | .map id,v,hv=>by
  simp only[ai]at *;obtain⟨pl,a,b⟩:=hv;exact⟨pl,h _ _ _ a,b⟩
 | .func fn f c,v,hv=>by
  simp only[ai]at *;obtain⟨a,b,e,p,q⟩:=hv;exact⟨a,b,e,ay.mono h f _ p,ay.mono h c _ q⟩
 | .eQ,v,hv=>by simpa[ai]using hv
 | .bR,v,hv=>by simpa[ai]using hv
 | .iface t x,v,hv=>by
  simp only[ai]at *;obtain⟨y,e,p⟩:=hv;exact⟨y,e,ai.mono h x _ p⟩
 | .agg cs,v,hv=>by
  simp only[ai]at *;obtain⟨a,e,p,q⟩:=hv;exact⟨a,e,ay.mono h cs _ p,q⟩
 | .tuple vs,v,hv=>by
  simp only[ai]at *;obtain⟨a,e,p⟩:=hv;exact⟨a,e,ay.mono h vs _ p⟩
 | .obj k id,v,hv=>by
  simp only[ai]at *;obtain⟨pl,a,b⟩:=hv;exact⟨pl,h _ _ _ a,b⟩
 | .T7,v,hv=>by simpa[ai]using hv
 | .eO _,_,hv=>by simp only[ai]at hv
theorem ay.mono{ρ ρ':aY}(h:Ext ρ ρ'):∀(xs:List AV)(l:List Value),ay ρ xs l->ay ρ' xs l
 |[],l,hl=>by simpa[ay]using hl
 |x::xs,l,hl=>by
  simp only[ay]at *;obtain⟨y,ys,e,p,q⟩:=hl;exact⟨y,ys,e,ai.mono h x y p,ay.mono h xs ys q⟩
end
section
variable{ρ:aY}
theorem ay.nil:ay ρ [] []:=by simp[ay]
theorem ay.cons{x:AV}{y:Value}{xs:List AV}{ys:List Value}(h:ai ρ x y)(t:ay ρ xs ys):ay ρ (x::xs) (y::ys):=by
 simp only[ay];exact⟨y,ys,rfl,h,t⟩
theorem ay.iff:∀{xs:List AV}{ys:List Value},ay ρ xs ys↔xs.length=ys.length/\∀(i:Nat)(x:AV)(y:Value),xs[i]?=some x->ys[i]?=some y->ai ρ x y:=by
 intro xs;induction xs with
 |nil=>intro ys;cases ys<;>simp[ay]
 |cons x xs ih=>
  intro ys;cases ys with
  |nil=>simp[ay]
  |cons y ys=>
   simp only[ay,List.length_cons];constructor
   .rintro⟨y',ys',e,p,q⟩;cases e;obtain⟨q1,q2⟩:=ih.1 q;refine⟨by omega,fun i a b ha hb=>?_⟩;cases i with
    |zero=>simp at ha hb;subst ha hb;exact p
    |succ i=>simp at ha hb;exact q2 i a b ha hb
   .rintro⟨hl,hp⟩;exact⟨y,ys,rfl,hp 0 x y rfl rfl,ih.2 ⟨by omega,fun i a b ha hb=>hp (i+1) a b (by simpa using ha) (by simpa using hb)⟩⟩
theorem ay.length{xs:List AV}{ys:List Value}(h:ay ρ xs ys):xs.length=ys.length:=(ay.iff.1 h).1
theorem ay.get{xs:List AV}{ys:List Value}(h:ay ρ xs ys){i:Nat}{x:AV}(hx:xs[i]?=some x):∃y,ys[i]?=some y/\ai ρ x y:=by
 obtain⟨hl,hp⟩:=ay.iff.1 h;have hi:i<xs.length:=by
  rcases Nat.lt_or_ge i xs.length with h'|h'
  .exact h'
  .simp[List.getElem?_eq_none h']at hx
 exact⟨ys[i]'(by omega),by simp[zzb (by omega:i<ys.length)],hp i x _ hx (by simp[zzb (by omega:i<ys.length)])⟩
theorem ay.append:∀{xs:List AV}{ys:List Value}{xs':List AV}{ys':List Value},ay ρ xs ys->ay ρ xs' ys'->ay ρ (xs++xs') (ys++ys'):=by
 intro xs;induction xs with
 |nil=>intro ys xs' ys' h h';simp[ay]at h;subst h;simpa using h'
 |cons x xs ih=>
  intro ys xs' ys' h h';simp only[ay]at h;obtain⟨y,t,rfl,p,q⟩:=h;exact ay.cons p (ih q h')
theorem ay.take{xs:List AV}{ys:List Value}(h:ay ρ xs ys)(n:Nat):ay ρ (xs.take n) (ys.take n):=by
 obtain⟨hl,hp⟩:=ay.iff.1 h;refine ay.iff.2 ⟨by simp[hl],fun i x y hx hy=>?_⟩;rw[List.getElem?_take]at hx hy;split at hx
 .rename_i hi;rw[if_pos hi]at hy;exact hp i x y hx hy
 .cases hx
theorem ay.drop{xs:List AV}{ys:List Value}(h:ay ρ xs ys)(n:Nat):ay ρ (xs.drop n) (ys.drop n):=by
 obtain⟨hl,hp⟩:=ay.iff.1 h;refine ay.iff.2 ⟨by simp[hl],fun i x y hx hy=>?_⟩;rw[List.getElem?_drop]at hx hy;exact hp _ x y hx hy
theorem ay.map{α:Type}(f:α->AV)(g:α->Value)(h:∀a,ai ρ (f a) (g a)):∀l:List α,ay ρ (l.map f) (l.map g)
 |[]=>ay.nil
 |a::l=>ay.cons (h a) (ay.map f g h l)
end
def Bh(ρ:aY)(es:List dI)(l:List MapEntry):Prop:=
 es.length=l.length/\∀(i:Nat)(e:dI)(m:MapEntry),es[i]?=some e->l[i]?=some m->ai ρ e.key m.key/\ai ρ e.val m.val/\e.born=m.born
theorem Bh.mono{ρ ρ':aY}(h:Ext ρ ρ'){es:List dI}{l:List MapEntry}(r:Bh ρ es l):Bh ρ' es l:=
 ⟨r.1,fun i e m he hm=>let ⟨a,b,c⟩:=r.2 i e m he hm;⟨a.mono h _ _,b.mono h _ _,c⟩⟩
structure Bd(ρ:aY)(F:Fr)(tmps:Array Value):Prop where
 slot:∀t,ai ρ (match F.t.get t with|some v=>v|none=>.undef) (tmps.getD t undef)
 size:tmps.size=F.n
theorem Bd.mono{ρ ρ':aY}(h:Ext ρ ρ'){F:Fr}{tmps:Array Value}(r:Bd ρ F tmps):Bd ρ' F tmps:=⟨fun t=>(r.slot t).mono h _ _,r.size⟩
def W7(ρ:aY):ur->Deferred->Prop
 | .call f as captured,d=>∃cap,d.target=.fn (.func f) cap/\ay ρ as d.args.toList/\ay ρ captured cap.toList
 | .mark id,d=>∃pl,ρ id 0=some pl/\d.target=.collected pl.b
def xP(ρ:aY):List ur->List Deferred->Prop
 |[],l=>l=[]
 |x::xs,l=>∃y ys,l=y::ys/\W7 ρ x y/\xP ρ xs ys
theorem W7.mono{ρ ρ':aY}(h:Ext ρ ρ'){x:ur}{d:Deferred}(r:W7 ρ x d):W7 ρ' x d:=by
 cases x with
 |call f as c=>obtain⟨cap,r1,r2,r3⟩:=r;exact⟨cap,r1,r2.mono h,r3.mono h⟩
 |mark id=>obtain⟨pl,r1,r2⟩:=r;exact⟨pl,h _ _ _ r1,r2⟩
theorem xP.mono{ρ ρ':aY}(h:Ext ρ ρ'):∀{xs:List ur}{l:List Deferred},xP ρ xs l->xP ρ' xs l
 |[],_,r=>r
 |_::_,_,⟨y,ys,e,p,q⟩=>⟨y,ys,e,p.mono h,xP.mono h q⟩
def kO(ρ:aY):LW->Obj->Prop
 | .iter none _ _ _,o=>∃a b c,o=.mapIter none a b c
 | .iter (some m) since seen last,o=>∃pl sn,ρ m 0=some pl/\o=.mapIter (some pl.b) since sn last/\sn.toList=seen.reverse
 | .Sc s pos,o=>∃b:ByteArray,o=.stringIter b pos/\b.data.toList.map UInt8.toNat=s
 | .loop st j F ps a b,o=>∃fn tmps d,o=.loop {state:=st,pending:=j,fn:=fn,tmps:=tmps,params:=ps,assign:=a,body:=b,defers:=d}/\Bd ρ F tmps/\df a=true/\df b=true
 | .Bt op,o=>o=.deferred (cond op (some []) none)
 | .chan cap buf,o=>∃B s r,o=.chan cap B false s r false/\ay ρ buf B.toList
theorem kO.mono{ρ ρ':aY}(h:Ext ρ ρ'){x:LW}{o:Obj}(r:kO ρ x o):kO ρ' x o:=by
 cases x with
 |iter m since seen last=>
  cases m with
  |none=>exact r
  |some m=>obtain⟨pl,sn,r1,r2⟩:=r;exact⟨pl,sn,h _ _ _ r1,r2⟩
 |Sc s pos=>exact r
 |loop st j F ps a b=>obtain⟨fn,tmps,d,r1,r2,r3⟩:=r;exact⟨fn,tmps,d,r1,r2.mono h,r3⟩
 |Bt op=>exact r
 |chan cap buf=>obtain⟨B,s,r,r1,r2⟩:=r;exact⟨B,s,r,r1,r2.mono h⟩
def EB(fr:Nat×Nat)(i:Nat):Bool:=decide (fr.1<=i)&&decide (i<fr.2)
def fe(C:Array Value):Prop:=∀(i:Nat)(v:Value),C[i]?=some v->v.oneCell'=true
theorem fe.of{C:Array Value}(h:∀v,v∈C.toList->v.oneCell'=true):fe C:=fun i v hv=>h v (List.mem_of_getElem? (i:=i) (by rw[Array.getElem?_toList];exact hv))
def Cf(ρ:aY)(w:World)(cells:List AV)(top:Nat)(frz:Bool)(ty:TypeId)(id g:Nat):Prop:=
 ∃pl C fr,ρ id g=some pl/\w.heap[pl.b]?=some (.cells C ty fr)/\C.size=pl.N/\pl.base+pl.n<=pl.N/\pl.n<=cells.length /\
  (∀i,i<pl.n->∃x v,cells[i]?=some x/\C[pl.base+i]?=some v/\ai ρ x v/\v.oneCell'=true) /\
  (g=top->pl.n=cells.length)/\(frz=false->∀i,i<=pl.N->EB fr i=false)/\(g=0->pl.base=0)/\(frz=false->fe C)
def xe(ρ:aY)(w:World)(id:Nat):dR->Prop
 | .row cells low top frz ty=>low≤top∧(∀ g,low≤g→g≤top→Cf ρ w cells top frz ty id g) ∧
   ∀g h p q,low<=g->g<=top->low<=h->h<=top->ρ id g=some p->ρ id h=some q->p.b=q.b->p.base=q.base
 | .map es clock=>∃pl ES,ρ id 0=some pl/\w.heap[pl.b]?=some (.map ES clock)/\Bh ρ es ES.toList
 | .j6 x=>∃pl o,ρ id 0=some pl/\w.heap[pl.b]?=some o/\kO ρ x o/\pl.base=0
structure LB where
 w:World
 B:Nat->Prop
def Rf(o:dR):Prop:=∃c l t ty,o=.row c (l+1) t true ty
def Wrt(ρ:aY)(S:AS)(b:Nat):Prop:=∃id o g pl,S.h.get id=some o/\¬Rf o/\ρ id g=some pl/\pl.b=b
def Rc(ρ:aY)(S:AS)(b:Nat):Prop:=∃id o g pl,S.h.get id=some o/\ρ id g=some pl/\pl.b=b
theorem Wrt.D8{ρ:aY}{S:AS}{b:Nat}(h:Wrt ρ S b):Rc ρ S b:=let ⟨i,o,g,pl,h1,_,h2,h3⟩:=h;⟨i,o,g,pl,h1,h2,h3⟩
structure R(Λ:LB)(ρ:aY)(S:AS)(w:World):Prop where
 jE:∀id o,S.h.get id=some o->xe ρ w id o
 vm:∀id o,S.h.get id=some o->id<S.nx
 fresh:∀id g,S.nx<=id->ρ id g=none
 sJ:∀id cells low top frz ty,S.h.get id=some (.row cells low top frz ty)->∀g,top<g->ρ id g=none
 lt:∀id o g pl,S.h.get id=some o->ρ id g=some pl->pl.b<w.heap.size
 apart:∀id MV o o' g g' pl eA,id≠MV->S.h.get id=some o->S.h.get MV=some o'->ρ id g=some pl->ρ MV g'=some eA->pl.b≠eA.b\/(Rf o/\Rf o')
 start:Λ.w.heap.size<=w.heap.size
 base:∀b,Λ.B b->b<Λ.w.heap.size/\w.heap[b]?=Λ.w.heap[b]?/\¬Wrt ρ S b
variable{Λ:LB}
structure Kp(ρ:aY)(S:AS)(w:World)(ρ':aY)(S':AS)(w':World):Prop where
 ext:Ext ρ ρ'
 os:w'.os=w.os
 tape:w'.tape=w.tape
 output:w'.output=w.output
 size:w.heap.size<=w'.heap.size
 ca:∀b,b<w.heap.size->¬Wrt ρ S b->w'.heap[b]?=w.heap[b]?
 D8:∀b,Rc ρ' S' b->Rc ρ S b\/w.heap.size<=b
 wrt:∀b,Wrt ρ' S' b->Wrt ρ S b\/w.heap.size<=b
 nx:S.nx<=S'.nx
 tG:∀id g,id<S.nx->S.h.get id=none->ρ' id g=ρ id g/\S'.h.get id=none
theorem Kp.refl(ρ:aY)(S:AS)(w:World):Kp ρ S w ρ S w:=
 ⟨Ext.refl _,rfl,rfl,rfl,Nat.le_refl _,fun _ _ _=>rfl,fun _ h=>.inl h,fun _ h=>.inl h,Nat.le_refl _,fun _ _ _ h=>⟨rfl,h⟩⟩
theorem Kp.trans{ρ ρ' ρ'':aY}{S S' S'':AS}{w w' yO:World}(h:Kp ρ S w ρ' S' w')(k:Kp ρ' S' w' ρ'' S'' yO):Kp ρ S w ρ'' S'' yO where
 ext:=h.ext.trans k.ext
 os:=k.os.trans h.os
 tape:=k.tape.trans h.tape
 output:=k.output.trans h.output
 size:=zza h.size k.size
 ca:=fun b hb hm=>(k.ca b (Nat.lt_of_lt_of_le hb h.size) (fun iR=>(h.wrt b iR).elim hm (fun hle=>absurd hb (Nat.not_lt.2 hle)))).trans (h.ca b hb hm)
 D8:=fun b hb=>(k.D8 b hb).elim (h.D8 b) (fun hle=>.inr (zza h.size hle))
 wrt:=fun b hb=>(k.wrt b hb).elim (h.wrt b) (fun hle=>.inr (zza h.size hle))
 nx:=zza h.nx k.nx
 tG:=fun id g hi hn=>by
  obtain⟨e,n'⟩:=h.tG id g hi hn;obtain⟨e2,n2⟩:=k.tG id g (Nat.lt_of_lt_of_le hi h.nx) n';exact⟨e2.trans e,n2⟩
theorem R.drawn{ρ:aY}{S:AS}{w:World}(h:R Λ ρ S w)(n:Nat):R Λ ρ S {w with drawn:=n}:=
 ⟨fun id o ho=>by have:=h.jE id o ho;cases o<;>exact this,h.vm,h.fresh,h.sJ,h.lt,h.apart,h.start,h.base⟩
end Go.Am
