/-
  The abstract machine against the model: how values, memory and frames stand for those of the model.
-/
import Derived.Test.YtdknlbnljfdhgaaGreatDoorAmBase
import Derived.Laws.World
import Derived.Laws.Sem
import Derived.Below
namespace Go.Am
open Go
structure Pl where
 b:Nat
 base:Nat
 n:Nat
 N:Nat
 le:base+n≤N
abbrev aI:=Nat→Nat→Option Pl
def OK.val (k:OK) (b:Nat):Value:=match k with | .yld=>.func (.yield b) #[] #[] | .chan=>.chan (some b)
mutual
def ah (ρ:aI):AV→Value→Prop
 | .top,_=>True
 | .bool b,v=>v=.bool b
 | .int k n,v=>v=.int k n
 | .str s,v=>∃ b:ByteArray,v=.string b∧b.data.toList.map UInt8.toNat=s
 | .bd,v=>v=.pointer none
 | .ptr id g off ay,v=>∃ pl,ρ id g=some pl∧ay≤pl.n∧v=.pointer (some ⟨pl.b,pl.base+off,none⟩)
 | .mY g off,v=>v=.pointer (some ⟨g,off,none⟩)
 | .ar,v=>v=.slice none 0 0
 | .slice id g off len ay sz cap,v=>∃ pl c,ρ id g=some pl∧ay≤pl.n∧off+len*sz≤ay∧0<sz∧len≤c ∧
   ((v=.slice (some ⟨pl.b,pl.base+off,none⟩) len c∧pl.base+off+c*sz≤pl.N∧(∀ k,cap=some k→c=k∧off+k*sz≤ay)) ∨
    (len=0∧c=0∧(∀ k,cap=some k→k=0)∧∃ a,v=.slice (some a) 0 0))
 | .iF,v=>v=.map none
 | .map id,v=>∃ pl,ρ id 0=some pl∧v=.map (some pl.b)
 | .func fn f c,v=>∃ a b,v=.func fn a b∧au ρ f a.toList∧au ρ c b.toList
 | .kB,v=>v=.nilFunc
 | .b8,v=>v=.nilIface
 | .iface t x,v=>∃ y,v=.iface t y∧ah ρ x y
 | .agg cs,v=>∃ a,v=.agg a∧au ρ cs a.toList∧∀ x,x∈a.toList→x.oneCell'=true
 | .tuple vs,v=>∃ a,v=.tuple a∧au ρ vs a.toList
 | .obj k id,v=>∃ pl,ρ id 0=some pl∧v=k.val pl.b
 | .nilc,v=>v=.chan none
 | .dN _,_=>False
def au (ρ:aI):List AV→List Value→Prop
 | [],l=>l=[]
 | x :: xs,l=>∃ y ys,l=y :: ys∧ah ρ x y∧au ρ xs ys
end
def Ext (ρ ρ':aI):Prop:=∀ id g pl,ρ id g=some pl→ρ' id g=some pl
theorem Ext.refl (ρ:aI):Ext ρ ρ:=fun _ _ _ h=>h
theorem Ext.trans {a b c:aI} (h:Ext a b) (k:Ext b c):Ext a c:=fun i g p x=>k i g p (h i g p x)
mutual
theorem ah.mono {ρ ρ':aI} (h:Ext ρ ρ'):∀ (x:AV) (v:Value),ah ρ x v→ah ρ' x v
 | .top,_,_=>by simp[ah]
 | .bool b,v,hv=>by simpa[ah] using hv
 | .int k n,v,hv=>by simpa[ah] using hv
 | .str s,v,hv=>by simpa[ah] using hv
 | .bd,v,hv=>by simpa[ah] using hv
 | .ptr id g off ay,v,hv=>by
  simp only[ah] at *;obtain ⟨pl,a,b,c⟩:=hv;exact ⟨pl,h _ _ _ a,b,c⟩
 | .mY g off,v,hv=>by simpa[ah] using hv
 | .ar,v,hv=>by simpa[ah] using hv
 | .slice id g off len ay sz cap,v,hv=>by
  simp only[ah] at *;obtain ⟨pl,c,a,rest⟩:=hv;exact ⟨pl,c,h _ _ _ a,rest⟩
 | .iF,v,hv=>by simpa[ah] using hv
 | .map id,v,hv=>by
  simp only[ah] at *;obtain ⟨pl,a,b⟩:=hv;exact ⟨pl,h _ _ _ a,b⟩
 | .func fn f c,v,hv=>by
  simp only[ah] at *;obtain ⟨a,b,e,p,q⟩:=hv;exact ⟨a,b,e,au.mono h f _ p,au.mono h c _ q⟩
 | .kB,v,hv=>by simpa[ah] using hv
 | .b8,v,hv=>by simpa[ah] using hv
 | .iface t x,v,hv=>by
  simp only[ah] at *;obtain ⟨y,e,p⟩:=hv;exact ⟨y,e,ah.mono h x _ p⟩
 | .agg cs,v,hv=>by
  simp only[ah] at *;obtain ⟨a,e,p,q⟩:=hv;exact ⟨a,e,au.mono h cs _ p,q⟩
 | .tuple vs,v,hv=>by
  simp only[ah] at *;obtain ⟨a,e,p⟩:=hv;exact ⟨a,e,au.mono h vs _ p⟩
 | .obj k id,v,hv=>by
  simp only[ah] at *;obtain ⟨pl,a,b⟩:=hv;exact ⟨pl,h _ _ _ a,b⟩
 | .nilc,v,hv=>by simpa[ah] using hv
 | .dN _,_,hv=>by simp only[ah] at hv
theorem au.mono {ρ ρ':aI} (h:Ext ρ ρ'):∀ (xs:List AV) (l:List Value),au ρ xs l→au ρ' xs l
 | [],l,hl=>by simpa[au] using hl
 | x :: xs,l,hl=>by
  simp only[au] at *;obtain ⟨y,ys,e,p,q⟩:=hl;exact ⟨y,ys,e,ah.mono h x y p,au.mono h xs ys q⟩
end
section
variable {ρ:aI}
theorem au.nil:au ρ [] []:=by simp[au]
theorem au.cons {x:AV} {y:Value} {xs:List AV} {ys:List Value} (h:ah ρ x y) (t:au ρ xs ys):au ρ (x :: xs) (y :: ys):=by
 simp only[au];exact ⟨y,ys,rfl,h,t⟩
theorem au.iff:∀ {xs:List AV} {ys:List Value},au ρ xs ys↔xs.length=ys.length∧∀ (i:Nat) (x:AV) (y:Value),xs[i]?=some x→ys[i]?=some y→ah ρ x y:=by
 intro xs;induction xs with
 | nil=>intro ys;cases ys<;>simp[au]
 | cons x xs ih=>
  intro ys;cases ys with
  | nil=>simp[au]
  | cons y ys=>
   simp only[au,List.length_cons];constructor
   ·rintro ⟨y',ys',e,p,q⟩;cases e;obtain ⟨q1,q2⟩:=ih.1 q;refine ⟨by omega,fun i a b ha hb=>?_⟩;cases i with
    | zero=>simp at ha hb;subst ha hb;exact p
    | succ i=>simp at ha hb;exact q2 i a b ha hb
   ·rintro ⟨hl,hp⟩;exact ⟨y,ys,rfl,hp 0 x y rfl rfl,ih.2 ⟨by omega,fun i a b ha hb=>hp (i+1) a b (by simpa using ha) (by simpa using hb)⟩⟩
theorem au.length {xs:List AV} {ys:List Value} (h:au ρ xs ys):xs.length=ys.length:=(au.iff.1 h).1
theorem au.get {xs:List AV} {ys:List Value} (h:au ρ xs ys) {i:Nat} {x:AV} (hx:xs[i]?=some x):∃ y,ys[i]?=some y∧ah ρ x y:=by
 obtain ⟨hl,hp⟩:=au.iff.1 h;have hi:i<xs.length:=by
  rcases Nat.lt_or_ge i xs.length with h'|h'
  ·exact h'
  ·simp[List.getElem?_eq_none h'] at hx
 exact ⟨ys[i]'(by omega),by simp[List.getElem?_eq_getElem (by omega:i<ys.length)],hp i x _ hx (by simp[List.getElem?_eq_getElem (by omega:i<ys.length)])⟩
theorem au.append:∀ {xs:List AV} {ys:List Value} {xs':List AV} {ys':List Value},au ρ xs ys→au ρ xs' ys'→au ρ (xs++xs') (ys++ys'):=by
 intro xs;induction xs with
 | nil=>intro ys xs' ys' h h';simp[au] at h;subst h;simpa using h'
 | cons x xs ih=>
  intro ys xs' ys' h h';simp only[au] at h;obtain ⟨y,t,rfl,p,q⟩:=h;exact au.cons p (ih q h')
theorem au.take {xs:List AV} {ys:List Value} (h:au ρ xs ys) (n:Nat):au ρ (xs.take n) (ys.take n):=by
 obtain ⟨hl,hp⟩:=au.iff.1 h;refine au.iff.2 ⟨by simp[hl],fun i x y hx hy=>?_⟩;rw[List.getElem?_take] at hx hy;split at hx
 ·rename_i hi;rw[if_pos hi] at hy;exact hp i x y hx hy
 ·cases hx
theorem au.drop {xs:List AV} {ys:List Value} (h:au ρ xs ys) (n:Nat):au ρ (xs.drop n) (ys.drop n):=by
 obtain ⟨hl,hp⟩:=au.iff.1 h;refine au.iff.2 ⟨by simp[hl],fun i x y hx hy=>?_⟩;rw[List.getElem?_drop] at hx hy;exact hp _ x y hx hy
theorem au.map {α:Type} (f:α→AV) (g:α→Value) (h:∀ a,ah ρ (f a) (g a)):∀ l:List α,au ρ (l.map f) (l.map g)
 | []=>au.nil
 | a :: l=>au.cons (h a) (au.map f g h l)
end
def ez (ρ:aI) (es:List bj) (l:List MapEntry):Prop:=
 es.length=l.length∧∀ (i:Nat) (e:bj) (m:MapEntry),es[i]?=some e→l[i]?=some m→ah ρ e.key m.key∧ah ρ e.val m.val∧e.born=m.born
theorem ez.mono {ρ ρ':aI} (h:Ext ρ ρ') {es:List bj} {l:List MapEntry} (r:ez ρ es l):ez ρ' es l:=
 ⟨r.1,fun i e m he hm=>let ⟨a,b,c⟩:=r.2 i e m he hm;⟨a.mono h _ _,b.mono h _ _,c⟩⟩
structure yj (ρ:aI) (F:Fr) (tmps:Array Value):Prop where
 slot:∀ t,ah ρ (match F.t.get t with|some v=>v|none=>.undef) (tmps.getD t undef)
 size:tmps.size=F.n
theorem yj.mono {ρ ρ':aI} (h:Ext ρ ρ') {F:Fr} {tmps:Array Value} (r:yj ρ F tmps):yj ρ' F tmps:=⟨fun t=>(r.slot t).mono h _ _,r.size⟩
def DRel (ρ:aI):vf→Deferred→Prop
 | .call f as captured,d=>∃ cap,d.target=.fn (.func f) cap∧au ρ as d.args.toList∧au ρ captured cap.toList
 | .mark id,d=>∃ pl,ρ id 0=some pl∧d.target=.collected pl.b
def uX (ρ:aI):List vf→List Deferred→Prop
 | [],l=>l=[]
 | x :: xs,l=>∃ y ys,l=y :: ys∧DRel ρ x y∧uX ρ xs ys
theorem DRel.mono {ρ ρ':aI} (h:Ext ρ ρ') {x:vf} {d:Deferred} (r:DRel ρ x d):DRel ρ' x d:=by
 cases x with
 | call f as c=>obtain ⟨cap,r1,r2,r3⟩:=r;exact ⟨cap,r1,r2.mono h,r3.mono h⟩
 | mark id=>obtain ⟨pl,r1,r2⟩:=r;exact ⟨pl,h _ _ _ r1,r2⟩
theorem uX.mono {ρ ρ':aI} (h:Ext ρ ρ'):∀ {xs:List vf} {l:List Deferred},uX ρ xs l→uX ρ' xs l
 | [],_,r=>r
 | _ :: _,_,⟨y,ys,e,p,q⟩=>⟨y,ys,e,p.mono h,uX.mono h q⟩
def iv (ρ:aI):zo→Obj→Prop
 | .iter none _ _ _,o=>∃ a b c,o=.mapIter none a b c
 | .iter (some m) since seen last,o=>∃ pl sn,ρ m 0=some pl∧o=.mapIter (some pl.b) since sn last∧sn.toList=seen.reverse
 | .um s pos,o=>∃ b:ByteArray,o=.stringIter b pos∧b.data.toList.map UInt8.toNat=s
 | .loop st j F ps a b,o=>∃ fn tmps d,o=.loop { state:=st,pending:=j,fn:=fn,tmps:=tmps,params:=ps,assign:=a,body:=b,defers:=d }∧yj ρ F tmps∧cl a=true∧cl b=true
 | .sq op,o=>o=.deferred (cond op (some []) none)
 | .chan cap buf,o=>∃ B s r,o=.chan cap B false s r false∧au ρ buf B.toList
theorem iv.mono {ρ ρ':aI} (h:Ext ρ ρ') {x:zo} {o:Obj} (r:iv ρ x o):iv ρ' x o:=by
 cases x with
 | iter m since seen last=>
  cases m with
  | none=>exact r
  | some m=>obtain ⟨pl,sn,r1,r2⟩:=r;exact ⟨pl,sn,h _ _ _ r1,r2⟩
 | um s pos=>exact r
 | loop st j F ps a b=>obtain ⟨fn,tmps,d,r1,r2,r3⟩:=r;exact ⟨fn,tmps,d,r1,r2.mono h,r3⟩
 | sq op=>exact r
 | chan cap buf=>obtain ⟨B,s,r,r1,r2⟩:=r;exact ⟨B,s,r,r1,r2.mono h⟩
def By (fr:Nat×Nat) (i:Nat):Bool:=decide (fr.1≤i)&&decide (i<fr.2)
def dW (C:Array Value):Prop:=∀ (i:Nat) (v:Value),C[i]?=some v→v.oneCell'=true
theorem dW.of {C:Array Value} (h:∀ v,v∈C.toList→v.oneCell'=true):dW C:=fun i v hv=>h v (List.mem_of_getElem? (i:=i) (by rw[Array.getElem?_toList];exact hv))
def zn (ρ:aI) (w:World) (cells:List AV) (top:Nat) (frz:Bool) (ty:TypeId) (id g:Nat):Prop:=
 ∃ pl C fr,ρ id g=some pl∧w.heap[pl.b]?=some (.cells C ty fr)∧C.size=pl.N∧pl.base+pl.n≤pl.N∧pl.n≤cells.length ∧
  (∀ i,i<pl.n→∃ x v,cells[i]?=some x∧C[pl.base+i]?=some v∧ah ρ x v∧v.oneCell'=true) ∧
  (g=top→pl.n=cells.length)∧(frz=false→∀ i,i≤pl.N→By fr i=false)∧(g=0→pl.base=0)∧(frz=false→dW C)
def rh (ρ:aI) (w:World) (id:Nat):bE→Prop
 | .row cells low top frz ty=>low≤top∧(∀ g,low≤g→g≤top→zn ρ w cells top frz ty id g) ∧
   ∀ g h p q,low≤g→g≤top→low≤h→h≤top→ρ id g=some p→ρ id h=some q→p.b=q.b→p.base=q.base
 | .map es clock=>∃ pl ES,ρ id 0=some pl∧w.heap[pl.b]?=some (.map ES clock)∧ez ρ es ES.toList
 | .dO x=>∃ pl o,ρ id 0=some pl∧w.heap[pl.b]?=some o∧iv ρ x o∧pl.base=0
structure LB where
 w:World
 B:Nat→Prop
def Cb (o:bE):Prop:=∃ c l t ty,o=.row c (l+1) t true ty
def Cp (ρ:aI) (S:AS) (b:Nat):Prop:=∃ id o g pl,S.h.get id=some o∧¬Cb o∧ρ id g=some pl∧pl.b=b
def sG (ρ:aI) (S:AS) (b:Nat):Prop:=∃ id o g pl,S.h.get id=some o∧ρ id g=some pl∧pl.b=b
theorem Cp.wW {ρ:aI} {S:AS} {b:Nat} (h:Cp ρ S b):sG ρ S b:=let ⟨i,o,g,pl,h1,_,h2,h3⟩:=h;⟨i,o,g,pl,h1,h2,h3⟩
structure R (Λ:LB) (ρ:aI) (S:AS) (w:World):Prop where
 fi:∀ id o,S.h.get id=some o→rh ρ w id o
 sM:∀ id o,S.h.get id=some o→id<S.next
 fresh:∀ id g,S.next≤id→ρ id g=none
 mI:∀ id cells low top frz ty,S.h.get id=some (.row cells low top frz ty)→∀ g,top<g→ρ id g=none
 lt:∀ id o g pl,S.h.get id=some o→ρ id g=some pl→pl.b<w.heap.size
 apart:∀ id vz o o' g g' pl df,id≠vz→S.h.get id=some o→S.h.get vz=some o'→ρ id g=some pl→ρ vz g'=some df→pl.b≠df.b∨(Cb o∧Cb o')
 start:Λ.w.heap.size≤w.heap.size
 base:∀ b,Λ.B b→b<Λ.w.heap.size∧w.heap[b]?=Λ.w.heap[b]?∧¬Cp ρ S b
variable {Λ:LB}
structure Kp (ρ:aI) (S:AS) (w:World) (ρ':aI) (S':AS) (w':World):Prop where
 ext:Ext ρ ρ'
 os:w'.os=w.os
 tape:w'.tape=w.tape
 output:w'.output=w.output
 size:w.heap.size≤w'.heap.size
 bH:∀ b,b<w.heap.size→¬Cp ρ S b→w'.heap[b]?=w.heap[b]?
 wW:∀ b,sG ρ' S' b→sG ρ S b∨w.heap.size≤b
 wrt:∀ b,Cp ρ' S' b→Cp ρ S b∨w.heap.size≤b
 next:S.next≤S'.next
 nE:∀ id g,id<S.next→S.h.get id=none→ρ' id g=ρ id g∧S'.h.get id=none
theorem Kp.refl (ρ:aI) (S:AS) (w:World):Kp ρ S w ρ S w:=
 ⟨Ext.refl _,rfl,rfl,rfl,Nat.le_refl _,fun _ _ _=>rfl,fun _ h=>.inl h,fun _ h=>.inl h,Nat.le_refl _,fun _ _ _ h=>⟨rfl,h⟩⟩
theorem Kp.trans {ρ ρ' ρ'':aI} {S S' S'':AS} {w w' vQ:World} (h:Kp ρ S w ρ' S' w') (k:Kp ρ' S' w' ρ'' S'' vQ):Kp ρ S w ρ'' S'' vQ where
 ext:=h.ext.trans k.ext
 os:=k.os.trans h.os
 tape:=k.tape.trans h.tape
 output:=k.output.trans h.output
 size:=Nat.le_trans h.size k.size
 bH:=fun b hb hm=>(k.bH b (Nat.lt_of_lt_of_le hb h.size) (fun fg=>(h.wrt b fg).elim hm (fun hle=>absurd hb (Nat.not_lt.2 hle)))).trans (h.bH b hb hm)
 wW:=fun b hb=>(k.wW b hb).elim (h.wW b) (fun hle=>.inr (Nat.le_trans h.size hle))
 wrt:=fun b hb=>(k.wrt b hb).elim (h.wrt b) (fun hle=>.inr (Nat.le_trans h.size hle))
 next:=Nat.le_trans h.next k.next
 nE:=fun id g hi hn=>by
  obtain ⟨e,n'⟩:=h.nE id g hi hn;obtain ⟨e2,n2⟩:=k.nE id g (Nat.lt_of_lt_of_le hi h.next) n';exact ⟨e2.trans e,n2⟩
theorem R.drawn {ρ:aI} {S:AS} {w:World} (h:R Λ ρ S w) (n:Nat):R Λ ρ S { w with drawn:=n }:=
 ⟨fun id o ho=>by have:=h.fi id o ho;cases o<;>exact this,h.sM,h.fresh,h.mI,h.lt,h.apart,h.start,h.base⟩
theorem Kp.drawn (ρ:aI) (S:AS) (w:World) (n:Nat):Kp ρ S w ρ S { w with drawn:=n }:=
 ⟨Ext.refl _,rfl,rfl,rfl,Nat.le_refl _,fun _ _ _=>rfl,fun _ h=>.inl h,fun _ h=>.inl h,Nat.le_refl _,fun _ _ _ h=>⟨rfl,h⟩⟩
end Go.Am
