/-
  The abstract machine against the model: how values, memory and frames stand for those of the model.
-/
import Derived.Test.YtdknlbnljfdhgaaGreatDoorAmBase
import Derived.Laws.World
import Derived.Laws.Sem
import Derived.Below
namespace Go.Am
open Go
structure Pl where
 b:Nat
 base:Nat
 n:Nat
 N:Nat
 le:base+n<=N
abbrev aO:=Nat->Nat->Option Pl
def OK.val(k:OK)(b:Nat):Value:=match k with | .yld=>.func (.yield b) #[] #[] | .chan=>.chan (some b)
mutual
def ah(ρ:aO):AV->Value->Prop
 | .top,_=>True
 | .bool b,v=>v=.bool b
 | .int k n,v=>v=.int k n
 | .str s,v=>∃b:ByteArray,v=.string b/\b.data.toList.map UInt8.toNat=s
 | .bM,v=>v=.pointer none
 | .ptr id g off lim,v=>∃pl,ρ id g=some pl/\lim<=pl.n/\v=.pointer (some ⟨pl.b,pl.base+off,none⟩)
 | .uh g off,v=>v=.pointer (some ⟨g,off,none⟩)
 | .aq,v=>v=.slice none 0 0
 | .slice id g off len lim sz cap,v=>∃ pl c,ρ id g=some pl∧lim≤pl.n∧off+len*sz≤lim∧0<sz∧len≤c ∧
   ((v=.slice (some ⟨pl.b,pl.base+off,none⟩) len c/\pl.base+off+c*sz<=pl.N/\(∀k,cap=some k->c=k/\off+k*sz<=lim)) \/
    (len=0/\c=0/\(∀k,cap=some k->k=0)/\∃a,v=.slice (some a) 0 0))
 | .jl,v=>v=.map none
 | .map id,v=>∃pl,ρ id 0=some pl/\v=.map (some pl.b)
 | .func fn f c,v=>∃a b,v=.func fn a b/\au ρ f a.toList/\au ρ c b.toList
 | .kM,v=>v=.nilFunc
 | .bH,v=>v=.nilIface
 | .iface t x,v=>∃y,v=.iface t y/\ah ρ x y
 | .agg cs,v=>∃a,v=.agg a/\au ρ cs a.toList/\∀x,x∈a.toList->x.oneCell'=true
 | .tuple vs,v=>∃a,v=.tuple a/\au ρ vs a.toList
 | .obj k id,v=>∃pl,ρ id 0=some pl/\v=k.val pl.b
 | .nilc,v=>v=.chan none
 | .dP _,_=>False
def au(ρ:aO):List AV->List Value->Prop
 |[],l=>l=[]
 |x::xs,l=>∃y ys,l=y::ys/\ah ρ x y/\au ρ xs ys
end
def Ext(ρ ρ':aO):Prop:=∀id g pl,ρ id g=some pl->ρ' id g=some pl
theorem Ext.refl(ρ:aO):Ext ρ ρ:=fun _ _ _ h=>h
theorem Ext.trans{a b c:aO}(h:Ext a b)(k:Ext b c):Ext a c:=fun i g p x=>k i g p (h i g p x)
mutual
theorem ah.mono{ρ ρ':aO}(h:Ext ρ ρ'):∀(x:AV)(v:Value),ah ρ x v->ah ρ' x v
 | .top,_,_=>by simp[ah]
 | .bool b,v,hv=>by simpa[ah]using hv
 | .int k n,v,hv=>by simpa[ah]using hv
 | .str s,v,hv=>by simpa[ah]using hv
 | .bM,v,hv=>by simpa[ah]using hv
 | .ptr id g off lim,v,hv=>by
  simp only[ah]at *;obtain⟨pl,a,b,c⟩:=hv;exact⟨pl,h _ _ _ a,b,c⟩
 | .uh g off,v,hv=>by simpa[ah]using hv
 | .aq,v,hv=>by simpa[ah]using hv
 | .slice id g off len lim sz cap,v,hv=>by
  simp only[ah]at *;obtain⟨pl,c,a,rest⟩:=hv;exact⟨pl,c,h _ _ _ a,rest⟩
 | .jl,v,hv=>by simpa[ah]using hv
 | .map id,v,hv=>by
  simp only[ah]at *;obtain⟨pl,a,b⟩:=hv;exact⟨pl,h _ _ _ a,b⟩
 | .func fn f c,v,hv=>by
  simp only[ah]at *;obtain⟨a,b,e,p,q⟩:=hv;exact⟨a,b,e,au.mono h f _ p,au.mono h c _ q⟩
 | .kM,v,hv=>by simpa[ah]using hv
 | .bH,v,hv=>by simpa[ah]using hv
 | .iface t x,v,hv=>by
  simp only[ah]at *;obtain⟨y,e,p⟩:=hv;exact⟨y,e,ah.mono h x _ p⟩
 | .agg cs,v,hv=>by
  simp only[ah]at *;obtain⟨a,e,p,q⟩:=hv;exact⟨a,e,au.mono h cs _ p,q⟩
 | .tuple vs,v,hv=>by
  simp only[ah]at *;obtain⟨a,e,p⟩:=hv;exact⟨a,e,au.mono h vs _ p⟩
 | .obj k id,v,hv=>by
  simp only[ah]at *;obtain⟨pl,a,b⟩:=hv;exact⟨pl,h _ _ _ a,b⟩
 | .nilc,v,hv=>by simpa[ah]using hv
 | .dP _,_,hv=>by simp only[ah]at hv
theorem au.mono{ρ ρ':aO}(h:Ext ρ ρ'):∀(xs:List AV)(l:List Value),au ρ xs l->au ρ' xs l
 |[],l,hl=>by simpa[au]using hl
 |x::xs,l,hl=>by
  simp only[au]at *;obtain⟨y,ys,e,p,q⟩:=hl;exact⟨y,ys,e,ah.mono h x y p,au.mono h xs ys q⟩
end
section
variable{ρ:aO}
theorem au.nil:au ρ [] []:=by simp[au]
theorem au.cons{x:AV}{y:Value}{xs:List AV}{ys:List Value}(h:ah ρ x y)(t:au ρ xs ys):au ρ (x::xs) (y::ys):=by
 simp only[au];exact⟨y,ys,rfl,h,t⟩
theorem au.iff:∀{xs:List AV}{ys:List Value},au ρ xs ys↔xs.length=ys.length/\∀(i:Nat)(x:AV)(y:Value),xs[i]?=some x->ys[i]?=some y->ah ρ x y:=by
 intro xs;induction xs with
 |nil=>intro ys;cases ys<;>simp[au]
 |cons x xs ih=>
  intro ys;cases ys with
  |nil=>simp[au]
  |cons y ys=>
   simp only[au,List.length_cons];constructor
   .rintro⟨y',ys',e,p,q⟩;cases e;obtain⟨q1,q2⟩:=ih.1 q;refine⟨by omega,fun i a b ha hb=>?_⟩;cases i with
    |zero=>simp at ha hb;subst ha hb;exact p
    |succ i=>simp at ha hb;exact q2 i a b ha hb
   .rintro⟨hl,hp⟩;exact⟨y,ys,rfl,hp 0 x y rfl rfl,ih.2 ⟨by omega,fun i a b ha hb=>hp (i+1) a b (by simpa using ha) (by simpa using hb)⟩⟩
theorem au.length{xs:List AV}{ys:List Value}(h:au ρ xs ys):xs.length=ys.length:=(au.iff.1 h).1
theorem au.get{xs:List AV}{ys:List Value}(h:au ρ xs ys){i:Nat}{x:AV}(hx:xs[i]?=some x):∃y,ys[i]?=some y/\ah ρ x y:=by
 obtain⟨hl,hp⟩:=au.iff.1 h;have hi:i<xs.length:=by
  rcases Nat.lt_or_ge i xs.length with h'|h'
  .exact h'
  .simp[List.getElem?_eq_none h']at hx
 exact⟨ys[i]'(by omega),by simp[List.getElem?_eq_getElem (by omega:i<ys.length)],hp i x _ hx (by simp[List.getElem?_eq_getElem (by omega:i<ys.length)])⟩
theorem au.append:∀{xs:List AV}{ys:List Value}{xs':List AV}{ys':List Value},au ρ xs ys->au ρ xs' ys'->au ρ (xs++xs') (ys++ys'):=by
 intro xs;induction xs with
 |nil=>intro ys xs' ys' h h';simp[au]at h;subst h;simpa using h'
 |cons x xs ih=>
  intro ys xs' ys' h h';simp only[au]at h;obtain⟨y,t,rfl,p,q⟩:=h;exact au.cons p (ih q h')
theorem au.take{xs:List AV}{ys:List Value}(h:au ρ xs ys)(n:Nat):au ρ (xs.take n) (ys.take n):=by
 obtain⟨hl,hp⟩:=au.iff.1 h;refine au.iff.2 ⟨by simp[hl],fun i x y hx hy=>?_⟩;rw[List.getElem?_take]at hx hy;split at hx
 .rename_i hi;rw[if_pos hi]at hy;exact hp i x y hx hy
 .cases hx
theorem au.drop{xs:List AV}{ys:List Value}(h:au ρ xs ys)(n:Nat):au ρ (xs.drop n) (ys.drop n):=by
 obtain⟨hl,hp⟩:=au.iff.1 h;refine au.iff.2 ⟨by simp[hl],fun i x y hx hy=>?_⟩;rw[List.getElem?_drop]at hx hy;exact hp _ x y hx hy
theorem au.map{α:Type}(f:α->AV)(g:α->Value)(h:∀a,ah ρ (f a) (g a)):∀l:List α,au ρ (l.map f) (l.map g)
 |[]=>au.nil
 |a::l=>au.cons (h a) (au.map f g h l)
end
def yj(ρ:aO)(es:List dg)(l:List MapEntry):Prop:=
 es.length=l.length/\∀(i:Nat)(e:dg)(m:MapEntry),es[i]?=some e->l[i]?=some m->ah ρ e.key m.key/\ah ρ e.val m.val/\e.born=m.born
theorem yj.mono{ρ ρ':aO}(h:Ext ρ ρ'){es:List dg}{l:List MapEntry}(r:yj ρ es l):yj ρ' es l:=
 ⟨r.1,fun i e m he hm=>let ⟨a,b,c⟩:=r.2 i e m he hm;⟨a.mono h _ _,b.mono h _ _,c⟩⟩
structure ye(ρ:aO)(F:Fr)(tmps:Array Value):Prop where
 slot:∀t,ah ρ (match F.t.get t with|some v=>v|none=>.undef) (tmps.getD t undef)
 size:tmps.size=F.n
theorem ye.mono{ρ ρ':aO}(h:Ext ρ ρ'){F:Fr}{tmps:Array Value}(r:ye ρ F tmps):ye ρ' F tmps:=⟨fun t=>(r.slot t).mono h _ _,r.size⟩
def DRel(ρ:aO):sa->Deferred->Prop
 | .call f as captured,d=>∃cap,d.target=.fn (.func f) cap/\au ρ as d.args.toList/\au ρ captured cap.toList
 | .mark id,d=>∃pl,ρ id 0=some pl/\d.target=.collected pl.b
def ve(ρ:aO):List sa->List Deferred->Prop
 |[],l=>l=[]
 |x::xs,l=>∃y ys,l=y::ys/\DRel ρ x y/\ve ρ xs ys
theorem DRel.mono{ρ ρ':aO}(h:Ext ρ ρ'){x:sa}{d:Deferred}(r:DRel ρ x d):DRel ρ' x d:=by
 cases x with
 |call f as c=>obtain⟨cap,r1,r2,r3⟩:=r;exact⟨cap,r1,r2.mono h,r3.mono h⟩
 |mark id=>obtain⟨pl,r1,r2⟩:=r;exact⟨pl,h _ _ _ r1,r2⟩
theorem ve.mono{ρ ρ':aO}(h:Ext ρ ρ'):∀{xs:List sa}{l:List Deferred},ve ρ xs l->ve ρ' xs l
 |[],_,r=>r
 |_::_,_,⟨y,ys,e,p,q⟩=>⟨y,ys,e,p.mono h,ve.mono h q⟩
def jI(ρ:aO):AOth->Obj->Prop
 | .iter none _ _ _,o=>∃a b c,o=.mapIter none a b c
 | .iter (some m) since seen last,o=>∃pl sn,ρ m 0=some pl/\o=.mapIter (some pl.b) since sn last/\sn.toList=seen.reverse
 | .siter s pos,o=>∃b:ByteArray,o=.stringIter b pos/\b.data.toList.map UInt8.toNat=s
 | .loop st j F ps a b,o=>∃fn tmps d,o=.loop {state:=st,pending:=j,fn:=fn,tmps:=tmps,params:=ps,assign:=a,body:=b,defers:=d}/\ye ρ F tmps/\cP a=true/\cP b=true
 | .yw op,o=>o=.deferred (cond op (some []) none)
 | .chan cap buf,o=>∃B s r,o=.chan cap B false s r false/\au ρ buf B.toList
theorem jI.mono{ρ ρ':aO}(h:Ext ρ ρ'){x:AOth}{o:Obj}(r:jI ρ x o):jI ρ' x o:=by
 cases x with
 |iter m since seen last=>
  cases m with
  |none=>exact r
  |some m=>obtain⟨pl,sn,r1,r2⟩:=r;exact⟨pl,sn,h _ _ _ r1,r2⟩
 |siter s pos=>exact r
 |loop st j F ps a b=>obtain⟨fn,tmps,d,r1,r2,r3⟩:=r;exact⟨fn,tmps,d,r1,r2.mono h,r3⟩
 |yw op=>exact r
 |chan cap buf=>obtain⟨B,s,r,r1,r2⟩:=r;exact⟨B,s,r,r1,r2.mono h⟩
def B1(fr:Nat×Nat)(i:Nat):Bool:=decide (fr.1<=i)&&decide (i<fr.2)
def dX(C:Array Value):Prop:=∀(i:Nat)(v:Value),C[i]?=some v->v.oneCell'=true
theorem dX.of{C:Array Value}(h:∀v,v∈C.toList->v.oneCell'=true):dX C:=fun i v hv=>h v (List.mem_of_getElem? (i:=i) (by rw[Array.getElem?_toList];exact hv))
def zw(ρ:aO)(w:World)(cells:List AV)(top:Nat)(frz:Bool)(ty:TypeId)(id g:Nat):Prop:=
 ∃pl C fr,ρ id g=some pl/\w.heap[pl.b]?=some (.cells C ty fr)/\C.size=pl.N/\pl.base+pl.n<=pl.N/\pl.n<=cells.length /\
  (∀i,i<pl.n->∃x v,cells[i]?=some x/\C[pl.base+i]?=some v/\ah ρ x v/\v.oneCell'=true) /\
  (g=top->pl.n=cells.length)/\(frz=false->∀i,i<=pl.N->B1 fr i=false)/\(g=0->pl.base=0)/\(frz=false->dX C)
def uI(ρ:aO)(w:World)(id:Nat):dr->Prop
 | .row cells low top frz ty=>low≤top∧(∀ g,low≤g→g≤top→zw ρ w cells top frz ty id g) ∧
   ∀g h p q,low<=g->g<=top->low<=h->h<=top->ρ id g=some p->ρ id h=some q->p.b=q.b->p.base=q.base
 | .map es clock=>∃pl ES,ρ id 0=some pl/\w.heap[pl.b]?=some (.map ES clock)/\yj ρ es ES.toList
 | .jk x=>∃pl o,ρ id 0=some pl/\w.heap[pl.b]?=some o/\jI ρ x o/\pl.base=0
structure LB where
 w:World
 B:Nat->Prop
def Frz(o:dr):Prop:=∃c l t ty,o=.row c (l+1) t true ty
def Wrt(ρ:aO)(S:AS)(b:Nat):Prop:=∃id o g pl,S.h.get id=some o/\¬Frz o/\ρ id g=some pl/\pl.b=b
def Mine(ρ:aO)(S:AS)(b:Nat):Prop:=∃id o g pl,S.h.get id=some o/\ρ id g=some pl/\pl.b=b
theorem Wrt.BC{ρ:aO}{S:AS}{b:Nat}(h:Wrt ρ S b):Mine ρ S b:=let ⟨i,o,g,pl,h1,_,h2,h3⟩:=h;⟨i,o,g,pl,h1,h2,h3⟩
structure R(Λ:LB)(ρ:aO)(S:AS)(w:World):Prop where
 iM:∀id o,S.h.get id=some o->uI ρ w id o
 sY:∀id o,S.h.get id=some o->id<S.next
 fresh:∀id g,S.next<=id->ρ id g=none
 qF:∀id cells low top frz ty,S.h.get id=some (.row cells low top frz ty)->∀g,top<g->ρ id g=none
 lt:∀id o g pl,S.h.get id=some o->ρ id g=some pl->pl.b<w.heap.size
 apart:∀id id' o o' g g' pl dK,id≠id'->S.h.get id=some o->S.h.get id'=some o'->ρ id g=some pl->ρ id' g'=some dK->pl.b≠dK.b\/(Frz o/\Frz o')
 start:Λ.w.heap.size<=w.heap.size
 base:∀b,Λ.B b->b<Λ.w.heap.size/\w.heap[b]?=Λ.w.heap[b]?/\¬Wrt ρ S b
variable{Λ:LB}
structure Kp(ρ:aO)(S:AS)(w:World)(ρ':aO)(S':AS)(w':World):Prop where
 ext:Ext ρ ρ'
 os:w'.os=w.os
 tape:w'.tape=w.tape
 output:w'.output=w.output
 size:w.heap.size<=w'.heap.size
 cg:∀b,b<w.heap.size->¬Wrt ρ S b->w'.heap[b]?=w.heap[b]?
 BC:∀b,Mine ρ' S' b->Mine ρ S b\/w.heap.size<=b
 wrt:∀b,Wrt ρ' S' b->Wrt ρ S b\/w.heap.size<=b
 next:S.next<=S'.next
 rA:∀id g,id<S.next->S.h.get id=none->ρ' id g=ρ id g/\S'.h.get id=none
theorem Kp.refl(ρ:aO)(S:AS)(w:World):Kp ρ S w ρ S w:=
 ⟨Ext.refl _,rfl,rfl,rfl,Nat.le_refl _,fun _ _ _=>rfl,fun _ h=>.inl h,fun _ h=>.inl h,Nat.le_refl _,fun _ _ _ h=>⟨rfl,h⟩⟩
theorem Kp.trans{ρ ρ' ρ'':aO}{S S' S'':AS}{w w' vY:World}(h:Kp ρ S w ρ' S' w')(k:Kp ρ' S' w' ρ'' S'' vY):Kp ρ S w ρ'' S'' vY where
 ext:=h.ext.trans k.ext
 os:=k.os.trans h.os
 tape:=k.tape.trans h.tape
 output:=k.output.trans h.output
 size:=Nat.le_trans h.size k.size
 cg:=fun b hb hm=>(k.cg b (Nat.lt_of_lt_of_le hb h.size) (fun gN=>(h.wrt b gN).elim hm (fun hle=>absurd hb (Nat.not_lt.2 hle)))).trans (h.cg b hb hm)
 BC:=fun b hb=>(k.BC b hb).elim (h.BC b) (fun hle=>.inr (Nat.le_trans h.size hle))
 wrt:=fun b hb=>(k.wrt b hb).elim (h.wrt b) (fun hle=>.inr (Nat.le_trans h.size hle))
 next:=Nat.le_trans h.next k.next
 rA:=fun id g hi hn=>by
  obtain⟨e,n'⟩:=h.rA id g hi hn;obtain⟨e2,n2⟩:=k.rA id g (Nat.lt_of_lt_of_le hi h.next) n';exact⟨e2.trans e,n2⟩
theorem R.drawn{ρ:aO}{S:AS}{w:World}(h:R Λ ρ S w)(n:Nat):R Λ ρ S {w with drawn:=n}:=
 ⟨fun id o ho=>by have:=h.iM id o ho;cases o<;>exact this,h.sY,h.fresh,h.qF,h.lt,h.apart,h.start,h.base⟩
end Go.Am
