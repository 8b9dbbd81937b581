/-
  The abstract machine against the model: how values, memory and frames stand for those of the model.
-/
import Derived.Test.YtgkdgiognhbfjaaGreatDoorAmBase
import Derived.Laws.World
import Derived.Laws.Sem
import Derived.Below
namespace Go.Am
open Go
structure Pl where
 b:Nat
 base:Nat
 n:Nat
 N:Nat
 le:base+n≤N
abbrev aB:=Nat→Nat→Option Pl
def OK.val (k:OK) (b:Nat):Value:=match k with | .El=>.func (.yield b) #[] #[] | .chan=>.chan (some b)
mutual
def ah (ρ:aB):AV→Value→Prop
 | .top,_=>True
 | .bool b,v=>v=.bool b
 | .int k n,v=>v=.int k n
 | .str s,v=>∃ b:ByteArray,v=.string b∧b.data.toList.map UInt8.toNat=s
 | .dr,v=>v=.pointer none
 | .ptr id g off aq,v=>∃ pl,ρ id g=some pl∧aq≤pl.n∧v=.pointer (some ⟨pl.b,pl.base+off,none⟩)
 | .mS g off,v=>v=.pointer (some ⟨g,off,none⟩)
 | .az,v=>v=.slice none 0 0
 | .slice id g off len aq sz cap,v=>∃ pl c,ρ id g=some pl∧aq≤pl.n∧off+len*sz≤aq∧0<sz∧len≤c ∧
   ((v=.slice (some ⟨pl.b,pl.base+off,none⟩) len c∧pl.base+off+c*sz≤pl.N∧(∀ k,cap=some k→c=k∧off+k*sz≤aq)) ∨
    (len=0∧c=0∧(∀ k,cap=some k→k=0)∧∃ a,v=.slice (some a) 0 0))
 | .gV,v=>v=.map none
 | .map id,v=>∃ pl,ρ id 0=some pl∧v=.map (some pl.b)
 | .func fn f c,v=>∃ a b,v=.func fn a b∧ak ρ f a.toList∧ak ρ c b.toList
 | .ko,v=>v=.nilFunc
 | .bN,v=>v=.nilIface
 | .iface t x,v=>∃ y,v=.iface t y∧ah ρ x y
 | .agg cs,v=>∃ a,v=.agg a∧ak ρ cs a.toList∧∀ x,x∈a.toList→x.oneCell'=true
 | .tuple vs,v=>∃ a,v=.tuple a∧ak ρ vs a.toList
 | .obj k id,v=>∃ pl,ρ id 0=some pl∧v=k.val pl.b
 | .nilc,v=>v=.chan none
 | .dj _,_=>False
def ak (ρ:aB):List AV→List Value→Prop
 | [],l=>l=[]
 | x :: xs,l=>∃ y ys,l=y :: ys∧ah ρ x y∧ak ρ xs ys
end
def Ext (ρ ρ':aB):Prop:=∀ id g pl,ρ id g=some pl→ρ' id g=some pl
theorem Ext.refl (ρ:aB):Ext ρ ρ:=fun _ _ _ h=>h
theorem Ext.trans {a b c:aB} (h:Ext a b) (k:Ext b c):Ext a c:=fun i g p x=>k i g p (h i g p x)
mutual
theorem ah.mono {ρ ρ':aB} (h:Ext ρ ρ'):∀ (x:AV) (v:Value),ah ρ x v→ah ρ' x v
 | .top,_,_=>by simp[ah]
 | .bool b,v,hv=>by simpa[ah] using hv
 | .int k n,v,hv=>by simpa[ah] using hv
 | .str s,v,hv=>by simpa[ah] using hv
 | .dr,v,hv=>by simpa[ah] using hv
 | .ptr id g off aq,v,hv=>by
  simp only[ah] at *;obtain ⟨pl,a,b,c⟩:=hv;exact ⟨pl,h _ _ _ a,b,c⟩
 | .mS g off,v,hv=>by simpa[ah] using hv
 | .az,v,hv=>by simpa[ah] using hv
 | .slice id g off len aq sz cap,v,hv=>by
  simp only[ah] at *;obtain ⟨pl,c,a,rest⟩:=hv;exact ⟨pl,c,h _ _ _ a,rest⟩
 | .gV,v,hv=>by simpa[ah] using hv
 | .map id,v,hv=>by
  simp only[ah] at *;obtain ⟨pl,a,b⟩:=hv;exact ⟨pl,h _ _ _ a,b⟩
 | .func fn f c,v,hv=>by
  simp only[ah] at *;obtain ⟨a,b,e,p,q⟩:=hv;exact ⟨a,b,e,ak.mono h f _ p,ak.mono h c _ q⟩
 | .ko,v,hv=>by simpa[ah] using hv
 | .bN,v,hv=>by simpa[ah] using hv
 | .iface t x,v,hv=>by
  simp only[ah] at *;obtain ⟨y,e,p⟩:=hv;exact ⟨y,e,ah.mono h x _ p⟩
 | .agg cs,v,hv=>by
  simp only[ah] at *;obtain ⟨a,e,p,q⟩:=hv;exact ⟨a,e,ak.mono h cs _ p,q⟩
 | .tuple vs,v,hv=>by
  simp only[ah] at *;obtain ⟨a,e,p⟩:=hv;exact ⟨a,e,ak.mono h vs _ p⟩
 | .obj k id,v,hv=>by
  simp only[ah] at *;obtain ⟨pl,a,b⟩:=hv;exact ⟨pl,h _ _ _ a,b⟩
 | .nilc,v,hv=>by simpa[ah] using hv
 | .dj _,_,hv=>by simp only[ah] at hv
theorem ak.mono {ρ ρ':aB} (h:Ext ρ ρ'):∀ (xs:List AV) (l:List Value),ak ρ xs l→ak ρ' xs l
 | [],l,hl=>by simpa[ak] using hl
 | x :: xs,l,hl=>by
  simp only[ak] at *;obtain ⟨y,ys,e,p,q⟩:=hl;exact ⟨y,ys,e,ah.mono h x y p,ak.mono h xs ys q⟩
end
section
variable {ρ:aB}
theorem ak.nil:ak ρ [] []:=by simp[ak]
theorem ak.cons {x:AV} {y:Value} {xs:List AV} {ys:List Value} (h:ah ρ x y) (t:ak ρ xs ys):ak ρ (x :: xs) (y :: ys):=by
 simp only[ak];exact ⟨y,ys,rfl,h,t⟩
theorem ak.iff:∀ {xs:List AV} {ys:List Value},ak ρ xs ys↔xs.length=ys.length∧∀ (i:Nat) (x:AV) (y:Value),xs[i]?=some x→ys[i]?=some y→ah ρ x y:=by
 intro xs;induction xs with
 | nil=>intro ys;cases ys<;>simp[ak]
 | cons x xs ih=>
  intro ys;cases ys with
  | nil=>simp[ak]
  | cons y ys=>
   simp only[ak,List.length_cons];constructor
   ·rintro ⟨y',ys',e,p,q⟩;cases e;obtain ⟨q1,q2⟩:=ih.1 q;refine ⟨by omega,fun i a b ha hb=>?_⟩;cases i with
    | zero=>simp at ha hb;subst ha hb;exact p
    | succ i=>simp at ha hb;exact q2 i a b ha hb
   ·rintro ⟨hl,hp⟩;exact ⟨y,ys,rfl,hp 0 x y rfl rfl,ih.2 ⟨by omega,fun i a b ha hb=>hp (i+1) a b (by simpa using ha) (by simpa using hb)⟩⟩
theorem ak.length {xs:List AV} {ys:List Value} (h:ak ρ xs ys):xs.length=ys.length:=(ak.iff.1 h).1
theorem ak.get {xs:List AV} {ys:List Value} (h:ak ρ xs ys) {i:Nat} {x:AV} (hx:xs[i]?=some x):∃ y,ys[i]?=some y∧ah ρ x y:=by
 obtain ⟨hl,hp⟩:=ak.iff.1 h;have hi:i<xs.length:=by
  rcases Nat.lt_or_ge i xs.length with h'|h'
  ·exact h'
  ·simp[List.getElem?_eq_none h'] at hx
 exact ⟨ys[i]'(by omega),by simp[List.getElem?_eq_getElem (by omega:i<ys.length)],hp i x _ hx (by simp[List.getElem?_eq_getElem (by omega:i<ys.length)])⟩
theorem ak.append:∀ {xs:List AV} {ys:List Value} {xs':List AV} {ys':List Value},ak ρ xs ys→ak ρ xs' ys'→ak ρ (xs++xs') (ys++ys'):=by
 intro xs;induction xs with
 | nil=>intro ys xs' ys' h h';simp[ak] at h;subst h;simpa using h'
 | cons x xs ih=>
  intro ys xs' ys' h h';simp only[ak] at h;obtain ⟨y,t,rfl,p,q⟩:=h;exact ak.cons p (ih q h')
theorem ak.take {xs:List AV} {ys:List Value} (h:ak ρ xs ys) (n:Nat):ak ρ (xs.take n) (ys.take n):=by
 obtain ⟨hl,hp⟩:=ak.iff.1 h;refine ak.iff.2 ⟨by simp[hl],fun i x y hx hy=>?_⟩;rw[List.getElem?_take] at hx hy;split at hx
 ·rename_i hi;rw[if_pos hi] at hy;exact hp i x y hx hy
 ·cases hx
theorem ak.drop {xs:List AV} {ys:List Value} (h:ak ρ xs ys) (n:Nat):ak ρ (xs.drop n) (ys.drop n):=by
 obtain ⟨hl,hp⟩:=ak.iff.1 h;refine ak.iff.2 ⟨by simp[hl],fun i x y hx hy=>?_⟩;rw[List.getElem?_drop] at hx hy;exact hp _ x y hx hy
theorem ak.map {α:Type} (f:α→AV) (g:α→Value) (h:∀ a,ah ρ (f a) (g a)):∀ l:List α,ak ρ (l.map f) (l.map g)
 | []=>ak.nil
 | a :: l=>ak.cons (h a) (ak.map f g h l)
end
def dF (ρ:aB) (es:List aX) (l:List MapEntry):Prop:=
 es.length=l.length∧∀ (i:Nat) (e:aX) (m:MapEntry),es[i]?=some e→l[i]?=some m→ah ρ e.key m.key∧ah ρ e.val m.val∧e.born=m.born
theorem dF.mono {ρ ρ':aB} (h:Ext ρ ρ') {es:List aX} {l:List MapEntry} (r:dF ρ es l):dF ρ' es l:=
 ⟨r.1,fun i e m he hm=>let ⟨a,b,c⟩:=r.2 i e m he hm;⟨a.mono h _ _,b.mono h _ _,c⟩⟩
structure xC (ρ:aB) (F:Fr) (tmps:Array Value):Prop where
 slot:∀ t,ah ρ (match F.t.get t with|some v=>v|none=>.undef) (tmps.getD t undef)
 size:tmps.size=F.n
theorem xC.mono {ρ ρ':aB} (h:Ext ρ ρ') {F:Fr} {tmps:Array Value} (r:xC ρ F tmps):xC ρ' F tmps:=⟨fun t=>(r.slot t).mono h _ _,r.size⟩
def DRel (ρ:aB):uG→Deferred→Prop
 | .call f as captured,d=>∃ cap,d.target=.fn (.func f) cap∧ak ρ as d.args.toList∧ak ρ captured cap.toList
 | .mark id,d=>∃ pl,ρ id 0=some pl∧d.target=.collected pl.b
def uf (ρ:aB):List uG→List Deferred→Prop
 | [],l=>l=[]
 | x :: xs,l=>∃ y ys,l=y :: ys∧DRel ρ x y∧uf ρ xs ys
theorem DRel.mono {ρ ρ':aB} (h:Ext ρ ρ') {x:uG} {d:Deferred} (r:DRel ρ x d):DRel ρ' x d:=by
 cases x with
 | call f as c=>obtain ⟨cap,r1,r2,r3⟩:=r;exact ⟨cap,r1,r2.mono h,r3.mono h⟩
 | mark id=>obtain ⟨pl,r1,r2⟩:=r;exact ⟨pl,h _ _ _ r1,r2⟩
theorem uf.mono {ρ ρ':aB} (h:Ext ρ ρ'):∀ {xs:List uG} {l:List Deferred},uf ρ xs l→uf ρ' xs l
 | [],_,r=>r
 | _ :: _,_,⟨y,ys,e,p,q⟩=>⟨y,ys,e,p.mono h,uf.mono h q⟩
def gM (ρ:aB):BG→Obj→Prop
 | .iter none _ _ _,o=>∃ a b c,o=.mapIter none a b c
 | .iter (some m) since seen last,o=>∃ pl sn,ρ m 0=some pl∧o=.mapIter (some pl.b) since sn last∧sn.toList=seen.reverse
 | .tE s pos,o=>∃ b:ByteArray,o=.stringIter b pos∧b.data.toList.map UInt8.toNat=s
 | .loop st j F ps a b,o=>∃ fn tmps d,o=.loop { state:=st,pending:=j,fn:=fn,tmps:=tmps,params:=ps,assign:=a,body:=b,defers:=d }∧xC ρ F tmps∧b9 a=true∧b9 b=true
 | .ql op,o=>o=.deferred (cond op (some []) none)
 | .chan cap buf,o=>∃ B s r,o=.chan cap B false s r false∧ak ρ buf B.toList
theorem gM.mono {ρ ρ':aB} (h:Ext ρ ρ') {x:BG} {o:Obj} (r:gM ρ x o):gM ρ' x o:=by
 cases x with
 | iter m since seen last=>
  cases m with
  | none=>exact r
  | some m=>obtain ⟨pl,sn,r1,r2⟩:=r;exact ⟨pl,sn,h _ _ _ r1,r2⟩
 | tE s pos=>exact r
 | loop st j F ps a b=>obtain ⟨fn,tmps,d,r1,r2,r3⟩:=r;exact ⟨fn,tmps,d,r1,r2.mono h,r3⟩
 | ql op=>exact r
 | chan cap buf=>obtain ⟨B,s,r,r1,r2⟩:=r;exact ⟨B,s,r,r1,r2.mono h⟩
def AU (fr:Nat×Nat) (i:Nat):Bool:=decide (fr.1≤i)&&decide (i<fr.2)
def dn (C:Array Value):Prop:=∀ (i:Nat) (v:Value),C[i]?=some v→v.oneCell'=true
theorem dn.of {C:Array Value} (h:∀ v,v∈C.toList→v.oneCell'=true):dn C:=fun i v hv=>h v (List.mem_of_getElem? (i:=i) (by rw[Array.getElem?_toList];exact hv))
def yv (ρ:aB) (w:World) (cells:List AV) (top:Nat) (frz:Bool) (ty:TypeId) (id g:Nat):Prop:=
 ∃ pl C fr,ρ id g=some pl∧w.heap[pl.b]?=some (.cells C ty fr)∧C.size=pl.N∧pl.base+pl.n≤pl.N∧pl.n≤cells.length ∧
  (∀ i,i<pl.n→∃ x v,cells[i]?=some x∧C[pl.base+i]?=some v∧ah ρ x v∧v.oneCell'=true) ∧
  (g=top→pl.n=cells.length)∧(frz=false→∀ i,i≤pl.N→AU fr i=false)∧(g=0→pl.base=0)∧(frz=false→dn C)
def qz (ρ:aB) (w:World) (id:Nat):bu→Prop
 | .row cells low top frz ty=>low≤top∧(∀ g,low≤g→g≤top→yv ρ w cells top frz ty id g) ∧
   ∀ g h p q,low≤g→g≤top→low≤h→h≤top→ρ id g=some p→ρ id h=some q→p.b=q.b→p.base=q.base
 | .map es clock=>∃ pl ES,ρ id 0=some pl∧w.heap[pl.b]?=some (.map ES clock)∧dF ρ es ES.toList
 | .cK x=>∃ pl o,ρ id 0=some pl∧w.heap[pl.b]?=some o∧gM ρ x o∧pl.base=0
structure LB where
 w:World
 B:Nat→Prop
def BD (o:bu):Prop:=∃ c l t ty,o=.row c (l+1) t true ty
def BO (ρ:aB) (S:AS) (b:Nat):Prop:=∃ id o g pl,S.h.get id=some o∧¬BD o∧ρ id g=some pl∧pl.b=b
def rP (ρ:aB) (S:AS) (b:Nat):Prop:=∃ id o g pl,S.h.get id=some o∧ρ id g=some pl∧pl.b=b
theorem BO.vQ {ρ:aB} {S:AS} {b:Nat} (h:BO ρ S b):rP ρ S b:=let ⟨i,o,g,pl,h1,_,h2,h3⟩:=h;⟨i,o,g,pl,h1,h2,h3⟩
structure R (Λ:LB) (ρ:aB) (S:AS) (w:World):Prop where
 eC:∀ id o,S.h.get id=some o→qz ρ w id o
 rX:∀ id o,S.h.get id=some o→id<S.next
 fresh:∀ id g,S.next≤id→ρ id g=none
 mh:∀ id cells low top frz ty,S.h.get id=some (.row cells low top frz ty)→∀ g,top<g→ρ id g=none
 lt:∀ id o g pl,S.h.get id=some o→ρ id g=some pl→pl.b<w.heap.size
 apart:∀ id uv o o' g g' pl cR,id≠uv→S.h.get id=some o→S.h.get uv=some o'→ρ id g=some pl→ρ uv g'=some cR→pl.b≠cR.b∨(BD o∧BD o')
 start:Λ.w.heap.size≤w.heap.size
 base:∀ b,Λ.B b→b<Λ.w.heap.size∧w.heap[b]?=Λ.w.heap[b]?∧¬BO ρ S b
variable {Λ:LB}
structure Kp (ρ:aB) (S:AS) (w:World) (ρ':aB) (S':AS) (w':World):Prop where
 ext:Ext ρ ρ'
 os:w'.os=w.os
 tape:w'.tape=w.tape
 output:w'.output=w.output
 size:w.heap.size≤w'.heap.size
 b6:∀ b,b<w.heap.size→¬BO ρ S b→w'.heap[b]?=w.heap[b]?
 vQ:∀ b,rP ρ' S' b→rP ρ S b∨w.heap.size≤b
 wrt:∀ b,BO ρ' S' b→BO ρ S b∨w.heap.size≤b
 next:S.next≤S'.next
 nj:∀ id g,id<S.next→S.h.get id=none→ρ' id g=ρ id g∧S'.h.get id=none
theorem Kp.refl (ρ:aB) (S:AS) (w:World):Kp ρ S w ρ S w:=
 ⟨Ext.refl _,rfl,rfl,rfl,Nat.le_refl _,fun _ _ _=>rfl,fun _ h=>.inl h,fun _ h=>.inl h,Nat.le_refl _,fun _ _ _ h=>⟨rfl,h⟩⟩
theorem Kp.trans {ρ ρ' ρ'':aB} {S S' S'':AS} {w w' ve:World} (h:Kp ρ S w ρ' S' w') (k:Kp ρ' S' w' ρ'' S'' ve):Kp ρ S w ρ'' S'' ve where
 ext:=h.ext.trans k.ext
 os:=k.os.trans h.os
 tape:=k.tape.trans h.tape
 output:=k.output.trans h.output
 size:=Nat.le_trans h.size k.size
 b6:=fun b hb hm=>(k.b6 b (Nat.lt_of_lt_of_le hb h.size) (fun eW=>(h.wrt b eW).elim hm (fun hle=>absurd hb (Nat.not_lt.2 hle)))).trans (h.b6 b hb hm)
 vQ:=fun b hb=>(k.vQ b hb).elim (h.vQ b) (fun hle=>.inr (Nat.le_trans h.size hle))
 wrt:=fun b hb=>(k.wrt b hb).elim (h.wrt b) (fun hle=>.inr (Nat.le_trans h.size hle))
 next:=Nat.le_trans h.next k.next
 nj:=fun id g hi hn=>by
  obtain ⟨e,n'⟩:=h.nj id g hi hn;obtain ⟨e2,n2⟩:=k.nj id g (Nat.lt_of_lt_of_le hi h.next) n';exact ⟨e2.trans e,n2⟩
theorem R.drawn {ρ:aB} {S:AS} {w:World} (h:R Λ ρ S w) (n:Nat):R Λ ρ S { w with drawn:=n }:=
 ⟨fun id o ho=>by have:=h.eC id o ho;cases o<;>exact this,h.rX,h.fresh,h.mh,h.lt,h.apart,h.start,h.base⟩
theorem Kp.drawn (ρ:aB) (S:AS) (w:World) (n:Nat):Kp ρ S w ρ S { w with drawn:=n }:=
 ⟨Ext.refl _,rfl,rfl,rfl,Nat.le_refl _,fun _ _ _=>rfl,fun _ h=>.inl h,fun _ h=>.inl h,Nat.le_refl _,fun _ _ _ h=>⟨rfl,h⟩⟩
end Go.Am
