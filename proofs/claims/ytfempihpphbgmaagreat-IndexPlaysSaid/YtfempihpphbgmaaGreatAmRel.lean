/-
  The abstract machine against the model: how values, memory and frames stand for those of the model.
-/
import Derived.Test.YtfempihpphbgmaaGreatAmBase
import Derived.Laws.World
import Derived.Laws.Sem
import Derived.Below
namespace Go.Am
open Go
structure Pl where
 b : Nat
 base : Nat
 n : Nat
 N : Nat
 le : base + n ≤ N
abbrev aF := Nat → Nat → Option Pl
def OK.val (k : OK) (b : Nat) : Value := match k with | .yld => .func (.yield b) #[] #[] | .chan => .chan (some b)
mutual
def ah (ρ : aF) : AV → Value → Prop
 | .top, _ => True
 | .bool b, v => v = .bool b
 | .int k n, v => v = .int k n
 | .str s, v => ∃ b : ByteArray, v = .string b ∧ b.data.toList.map UInt8.toNat = s
 | .dT, v => v = .pointer none
 | .ptr id g off lim, v => ∃ pl, ρ id g = some pl ∧ lim ≤ pl.n ∧ v = .pointer (some ⟨pl.b, pl.base + off, none⟩)
 | .sF g off, v => v = .pointer (some ⟨g, off, none⟩)
 | .aH, v => v = .slice none 0 0
 | .slice id g off len lim sz cap, v => ∃ pl c, ρ id g = some pl ∧ lim ≤ pl.n ∧ off + len * sz ≤ lim ∧ 0 < sz ∧ len ≤ c ∧
   ((v = .slice (some ⟨pl.b, pl.base + off, none⟩) len c ∧ pl.base + off + c * sz ≤ pl.N ∧ (∀ k, cap = some k → c = k ∧ off + k * sz ≤ lim)) ∨
    (len = 0 ∧ c = 0 ∧ (∀ k, cap = some k → k = 0) ∧ ∃ a, v = .slice (some a) 0 0))
 | .gm, v => v = .map none
 | .map id, v => ∃ pl, ρ id 0 = some pl ∧ v = .map (some pl.b)
 | .func fn f c, v => ∃ a b, v = .func fn a b ∧ al ρ f a.toList ∧ al ρ c b.toList
 | .jE, v => v = .nilFunc
 | .bN, v => v = .nilIface
 | .iface t x, v => ∃ y, v = .iface t y ∧ ah ρ x y
 | .agg cs, v => ∃ a, v = .agg a ∧ al ρ cs a.toList ∧ ∀ x, x ∈ a.toList → x.oneCell' = true
 | .tuple vs, v => ∃ a, v = .tuple a ∧ al ρ vs a.toList
 | .obj k id, v => ∃ pl, ρ id 0 = some pl ∧ v = k.val pl.b
 | .nilc, v => v = .chan none
 | .ei _, _ => False
def al (ρ : aF) : List AV → List Value → Prop
 | [], l => l = []
 | x :: xs, l => ∃ y ys, l = y :: ys ∧ ah ρ x y ∧ al ρ xs ys
end
def Ext (ρ ρ' : aF) : Prop := ∀ id g pl, ρ id g = some pl → ρ' id g = some pl
theorem Ext.refl (ρ : aF) : Ext ρ ρ := fun _ _ _ h => h
theorem Ext.trans {a b c : aF} (h : Ext a b) (k : Ext b c) : Ext a c := fun i g p x => k i g p (h i g p x)
mutual
theorem ah.mono {ρ ρ' : aF} (h : Ext ρ ρ') : ∀ (x : AV) (v : Value), ah ρ x v → ah ρ' x v
 | .top, _, _ => by simp [ah]
 | .bool b, v, hv => by simpa [ah] using hv
 | .int k n, v, hv => by simpa [ah] using hv
 | .str s, v, hv => by simpa [ah] using hv
 | .dT, v, hv => by simpa [ah] using hv
 | .ptr id g off lim, v, hv => by
  simp only [ah] at *;obtain ⟨pl, a, b, c⟩ := hv;exact ⟨pl, h _ _ _ a, b, c⟩
 | .sF g off, v, hv => by simpa [ah] using hv
 | .aH, v, hv => by simpa [ah] using hv
 | .slice id g off len lim sz cap, v, hv => by
  simp only [ah] at *;obtain ⟨pl, c, a, rest⟩ := hv;exact ⟨pl, c, h _ _ _ a, rest⟩
 | .gm, v, hv => by simpa [ah] using hv
 | .map id, v, hv => by
  simp only [ah] at *;obtain ⟨pl, a, b⟩ := hv;exact ⟨pl, h _ _ _ a, b⟩
 | .func fn f c, v, hv => by
  simp only [ah] at *;obtain ⟨a, b, e, p, q⟩ := hv;exact ⟨a, b, e, al.mono h f _ p, al.mono h c _ q⟩
 | .jE, v, hv => by simpa [ah] using hv
 | .bN, v, hv => by simpa [ah] using hv
 | .iface t x, v, hv => by
  simp only [ah] at *;obtain ⟨y, e, p⟩ := hv;exact ⟨y, e, ah.mono h x _ p⟩
 | .agg cs, v, hv => by
  simp only [ah] at *;obtain ⟨a, e, p, q⟩ := hv;exact ⟨a, e, al.mono h cs _ p, q⟩
 | .tuple vs, v, hv => by
  simp only [ah] at *;obtain ⟨a, e, p⟩ := hv;exact ⟨a, e, al.mono h vs _ p⟩
 | .obj k id, v, hv => by
  simp only [ah] at *;obtain ⟨pl, a, b⟩ := hv;exact ⟨pl, h _ _ _ a, b⟩
 | .nilc, v, hv => by simpa [ah] using hv
 | .ei _, _, hv => by simp only [ah] at hv
theorem al.mono {ρ ρ' : aF} (h : Ext ρ ρ') : ∀ (xs : List AV) (l : List Value), al ρ xs l → al ρ' xs l
 | [], l, hl => by simpa [al] using hl
 | x :: xs, l, hl => by
  simp only [al] at *;obtain ⟨y, ys, e, p, q⟩ := hl;exact ⟨y, ys, e, ah.mono h x y p, al.mono h xs ys q⟩
end
section
variable {ρ : aF}
theorem al.nil : al ρ [] [] := by simp [al]
theorem al.cons {x : AV} {y : Value} {xs : List AV} {ys : List Value} (h : ah ρ x y) (t : al ρ xs ys) : al ρ (x :: xs) (y :: ys) := by
 simp only [al]; exact ⟨y, ys, rfl, h, t⟩
theorem al.iff : ∀ {xs : List AV} {ys : List Value}, al ρ xs ys ↔ xs.length = ys.length ∧ ∀ (i : Nat) (x : AV) (y : Value), xs[i]? = some x → ys[i]? = some y → ah ρ x y := by
 intro xs; induction xs with
 | nil => intro ys; cases ys <;> simp [al]
 | cons x xs ih =>
  intro ys
  cases ys with
  | nil => simp [al]
  | cons y ys =>
   simp only [al, List.length_cons]
   constructor
   ·rintro ⟨y', ys', e, p, q⟩
    cases e
    obtain ⟨q1, q2⟩ := ih.1 q;refine ⟨by omega, fun i a b ha hb => ?_⟩
    cases i with
    | zero => simp at ha hb; subst ha hb; exact p
    | succ i => simp at ha hb; exact q2 i a b ha hb
   ·rintro ⟨hl, hp⟩
    exact ⟨y, ys, rfl, hp 0 x y rfl rfl, ih.2 ⟨by omega, fun i a b ha hb => hp (i + 1) a b (by simpa using ha) (by simpa using hb)⟩⟩
theorem al.length {xs : List AV} {ys : List Value} (h : al ρ xs ys) : xs.length = ys.length := (al.iff.1 h).1
theorem al.get {xs : List AV} {ys : List Value} (h : al ρ xs ys) {i : Nat} {x : AV} (hx : xs[i]? = some x) : ∃ y, ys[i]? = some y ∧ ah ρ x y := by
 obtain ⟨hl, hp⟩ := al.iff.1 h;have hi : i < xs.length := by
  rcases Nat.lt_or_ge i xs.length with h' | h'
  ·exact h'
  ·simp [List.getElem?_eq_none h'] at hx
 exact ⟨ys[i]'(by omega), by simp [List.getElem?_eq_getElem (by omega : i < ys.length)], hp i x _ hx (by simp [List.getElem?_eq_getElem (by omega : i < ys.length)])⟩
theorem al.append : ∀ {xs : List AV} {ys : List Value} {xs' : List AV} {ys' : List Value}, al ρ xs ys → al ρ xs' ys' → al ρ (xs ++ xs') (ys ++ ys') := by
 intro xs; induction xs with
 | nil => intro ys xs' ys' h h'; simp [al] at h; subst h; simpa using h'
 | cons x xs ih =>
  intro ys xs' ys' h h';simp only [al] at h;obtain ⟨y, t, rfl, p, q⟩ := h;exact al.cons p (ih q h')
theorem al.take {xs : List AV} {ys : List Value} (h : al ρ xs ys) (n : Nat) : al ρ (xs.take n) (ys.take n) := by
 obtain ⟨hl, hp⟩ := al.iff.1 h;refine al.iff.2 ⟨by simp [hl], fun i x y hx hy => ?_⟩
 rw [List.getElem?_take] at hx hy
 split at hx
 ·rename_i hi; rw [if_pos hi] at hy; exact hp i x y hx hy
 ·cases hx
theorem al.drop {xs : List AV} {ys : List Value} (h : al ρ xs ys) (n : Nat) : al ρ (xs.drop n) (ys.drop n) := by
 obtain ⟨hl, hp⟩ := al.iff.1 h;refine al.iff.2 ⟨by simp [hl], fun i x y hx hy => ?_⟩
 rw [List.getElem?_drop] at hx hy;exact hp _ x y hx hy
theorem al.map {α : Type} (f : α → AV) (g : α → Value) (h : ∀ a, ah ρ (f a) (g a)) : ∀ l : List α, al ρ (l.map f) (l.map g)
 | [] => al.nil
 | a :: l => al.cons (h a) (al.map f g h l)
end
def dM (ρ : aF) (es : List aX) (l : List MapEntry) : Prop :=
 es.length = l.length ∧ ∀ (i : Nat) (e : aX) (m : MapEntry), es[i]? = some e → l[i]? = some m → ah ρ e.key m.key ∧ ah ρ e.val m.val ∧ e.born = m.born
theorem dM.mono {ρ ρ' : aF} (h : Ext ρ ρ') {es : List aX} {l : List MapEntry} (r : dM ρ es l) : dM ρ' es l :=
 ⟨r.1, fun i e m he hm => let ⟨a, b, c⟩ := r.2 i e m he hm; ⟨a.mono h _ _, b.mono h _ _, c⟩⟩
structure wS (ρ : aF) (F : Fr) (tmps : Array Value) : Prop where
 slot : ∀ t, ah ρ (match F.t.get t with | some v => v | none => .undef) (tmps.getD t undef)
 size : tmps.size = F.n
theorem wS.mono {ρ ρ' : aF} (h : Ext ρ ρ') {F : Fr} {tmps : Array Value} (r : wS ρ F tmps) : wS ρ' F tmps := ⟨fun t => (r.slot t).mono h _ _, r.size⟩
def DRel (ρ : aF) : uq → Deferred → Prop
 | .call f as captured, d => ∃ cap, d.target = .fn (.func f) cap ∧ al ρ as d.args.toList ∧ al ρ captured cap.toList
 | .mark id, d => ∃ pl, ρ id 0 = some pl ∧ d.target = .collected pl.b
def tV (ρ : aF) : List uq → List Deferred → Prop
 | [], l => l = []
 | x :: xs, l => ∃ y ys, l = y :: ys ∧ DRel ρ x y ∧ tV ρ xs ys
theorem DRel.mono {ρ ρ' : aF} (h : Ext ρ ρ') {x : uq} {d : Deferred} (r : DRel ρ x d) : DRel ρ' x d := by
 cases x with
 | call f as c => obtain ⟨cap, r1, r2, r3⟩ := r; exact ⟨cap, r1, r2.mono h, r3.mono h⟩
 | mark id => obtain ⟨pl, r1, r2⟩ := r; exact ⟨pl, h _ _ _ r1, r2⟩
theorem tV.mono {ρ ρ' : aF} (h : Ext ρ ρ') : ∀ {xs : List uq} {l : List Deferred}, tV ρ xs l → tV ρ' xs l
 | [], _, r => r
 | _ :: _, _, ⟨y, ys, e, p, q⟩ => ⟨y, ys, e, p.mono h, tV.mono h q⟩
def gE (ρ : aF) : Bk → Obj → Prop
 | .iter none _ _ _, o => ∃ a b c, o = .mapIter none a b c
 | .iter (some m) since seen last, o => ∃ pl sn, ρ m 0 = some pl ∧ o = .mapIter (some pl.b) since sn last ∧ sn.toList = seen.reverse
 | .tm s pos, o => ∃ b : ByteArray, o = .stringIter b pos ∧ b.data.toList.map UInt8.toNat = s
 | .loop st j F ps a b, o => ∃ fn tmps d, o = .loop { state := st, pending := j, fn := fn, tmps := tmps, params := ps, assign := a, body := b, defers := d } ∧ wS ρ F tmps ∧ bZ a = true ∧ bZ b = true
 | .wh op, o => o = .deferred (cond op (some []) none)
 | .chan cap buf, o => ∃ B s r, o = .chan cap B false s r false ∧ al ρ buf B.toList
theorem gE.mono {ρ ρ' : aF} (h : Ext ρ ρ') {x : Bk} {o : Obj} (r : gE ρ x o) : gE ρ' x o := by
 cases x with
 | iter m since seen last =>
  cases m with
  | none => exact r
  | some m => obtain ⟨pl, sn, r1, r2⟩ := r; exact ⟨pl, sn, h _ _ _ r1, r2⟩
 | tm s pos => exact r
 | loop st j F ps a b => obtain ⟨fn, tmps, d, r1, r2, r3⟩ := r; exact ⟨fn, tmps, d, r1, r2.mono h, r3⟩
 | wh op => exact r
 | chan cap buf => obtain ⟨B, s, r, r1, r2⟩ := r; exact ⟨B, s, r, r1, r2.mono h⟩
def Ax (fr : Nat × Nat) (i : Nat) : Bool := decide (fr.1 ≤ i) && decide (i < fr.2)
def dG (C : Array Value) : Prop := ∀ (i : Nat) (v : Value), C[i]? = some v → v.oneCell' = true
theorem dG.of {C : Array Value} (h : ∀ v, v ∈ C.toList → v.oneCell' = true) : dG C := fun i v hv => h v (List.mem_of_getElem? (i := i) (by rw [Array.getElem?_toList]; exact hv))
def x7 (ρ : aF) (w : World) (cells : List AV) (top : Nat) (frz : Bool) (ty : TypeId) (id g : Nat) : Prop :=
 ∃ pl C fr, ρ id g = some pl ∧ w.heap[pl.b]? = some (.cells C ty fr) ∧ C.size = pl.N ∧ pl.base + pl.n ≤ pl.N ∧ pl.n ≤ cells.length ∧
  (∀ i, i < pl.n → ∃ x v, cells[i]? = some x ∧ C[pl.base + i]? = some v ∧ ah ρ x v ∧ v.oneCell' = true) ∧
  (g = top → pl.n = cells.length) ∧ (frz = false → ∀ i, i ≤ pl.N → Ax fr i = false) ∧ (g = 0 → pl.base = 0) ∧ (frz = false → dG C)
def ot (ρ : aF) (w : World) (id : Nat) : bW → Prop
 | .row cells low top frz ty => low ≤ top ∧ (∀ g, low ≤ g → g ≤ top → x7 ρ w cells top frz ty id g) ∧
   ∀ g h p q, low ≤ g → g ≤ top → low ≤ h → h ≤ top → ρ id g = some p → ρ id h = some q → p.b = q.b → p.base = q.base
 | .map es clock => ∃ pl ES, ρ id 0 = some pl ∧ w.heap[pl.b]? = some (.map ES clock) ∧ dM ρ es ES.toList
 | .dS x => ∃ pl o, ρ id 0 = some pl ∧ w.heap[pl.b]? = some o ∧ gE ρ x o ∧ pl.base = 0
structure LB where
 w : World
 B : Nat → Prop
def x9 (o : bW) : Prop := ∃ c l t ty, o = .row c (l + 1) t true ty
def Bo (ρ : aF) (S : AS) (b : Nat) : Prop := ∃ id o g pl, S.h.get id = some o ∧ ¬ x9 o ∧ ρ id g = some pl ∧ pl.b = b
def rD (ρ : aF) (S : AS) (b : Nat) : Prop := ∃ id o g pl, S.h.get id = some o ∧ ρ id g = some pl ∧ pl.b = b
theorem Bo.tZ {ρ : aF} {S : AS} {b : Nat} (h : Bo ρ S b) : rD ρ S b := let ⟨i, o, g, pl, h1, _, h2, h3⟩ := h; ⟨i, o, g, pl, h1, h2, h3⟩
structure R (Λ : LB) (ρ : aF) (S : AS) (w : World) : Prop where
 dJ : ∀ id o, S.h.get id = some o → ot ρ w id o
 mT : ∀ id o, S.h.get id = some o → id < S.next
 fresh : ∀ id g, S.next ≤ id → ρ id g = none
 jP : ∀ id cells low top frz ty, S.h.get id = some (.row cells low top frz ty) → ∀ g, top < g → ρ id g = none
 lt : ∀ id o g pl, S.h.get id = some o → ρ id g = some pl → pl.b < w.heap.size
 apart : ∀ id qu o o' g g' pl cq, id ≠ qu → S.h.get id = some o → S.h.get qu = some o' → ρ id g = some pl → ρ qu g' = some cq → pl.b ≠ cq.b ∨ (x9 o ∧ x9 o')
 start : Λ.w.heap.size ≤ w.heap.size
 base : ∀ b, Λ.B b → b < Λ.w.heap.size ∧ w.heap[b]? = Λ.w.heap[b]? ∧ ¬ Bo ρ S b
variable {Λ : LB}
structure Kp (ρ : aF) (S : AS) (w : World) (ρ' : aF) (S' : AS) (w' : World) : Prop where
 ext : Ext ρ ρ'
 os : w'.os = w.os
 tape : w'.tape = w.tape
 output : w'.output = w.output
 size : w.heap.size ≤ w'.heap.size
 bm : ∀ b, b < w.heap.size → ¬ Bo ρ S b → w'.heap[b]? = w.heap[b]?
 tZ : ∀ b, rD ρ' S' b → rD ρ S b ∨ w.heap.size ≤ b
 wrt : ∀ b, Bo ρ' S' b → Bo ρ S b ∨ w.heap.size ≤ b
 next : S.next ≤ S'.next
 ma : ∀ id g, id < S.next → S.h.get id = none → ρ' id g = ρ id g ∧ S'.h.get id = none
theorem Kp.refl (ρ : aF) (S : AS) (w : World) : Kp ρ S w ρ S w :=
 ⟨Ext.refl _, rfl, rfl, rfl, Nat.le_refl _, fun _ _ _ => rfl, fun _ h => .inl h, fun _ h => .inl h, Nat.le_refl _, fun _ _ _ h => ⟨rfl, h⟩⟩
theorem Kp.trans {ρ ρ' ρ'' : aF} {S S' S'' : AS} {w w' uS : World} (h : Kp ρ S w ρ' S' w') (k : Kp ρ' S' w' ρ'' S'' uS) : Kp ρ S w ρ'' S'' uS where
 ext := h.ext.trans k.ext
 os := k.os.trans h.os
 tape := k.tape.trans h.tape
 output := k.output.trans h.output
 size := Nat.le_trans h.size k.size
 bm := fun b hb hm => (k.bm b (Nat.lt_of_lt_of_le hb h.size) (fun eH => (h.wrt b eH).elim hm (fun hle => absurd hb (Nat.not_lt.2 hle)))).trans (h.bm b hb hm)
 tZ := fun b hb => (k.tZ b hb).elim (h.tZ b) (fun hle => .inr (Nat.le_trans h.size hle))
 wrt := fun b hb => (k.wrt b hb).elim (h.wrt b) (fun hle => .inr (Nat.le_trans h.size hle))
 next := Nat.le_trans h.next k.next
 ma := fun id g hi hn => by
  obtain ⟨e, n'⟩ := h.ma id g hi hn;obtain ⟨e2, n2⟩ := k.ma id g (Nat.lt_of_lt_of_le hi h.next) n';exact ⟨e2.trans e, n2⟩
theorem R.drawn {ρ : aF} {S : AS} {w : World} (h : R Λ ρ S w) (n : Nat) : R Λ ρ S { w with drawn := n } :=
 ⟨fun id o ho => by have := h.dJ id o ho; cases o <;> exact this, h.mT, h.fresh, h.jP, h.lt, h.apart, h.start, h.base⟩
theorem Kp.drawn (ρ : aF) (S : AS) (w : World) (n : Nat) : Kp ρ S w ρ S { w with drawn := n } :=
 ⟨Ext.refl _, rfl, rfl, rfl, Nat.le_refl _, fun _ _ _ => rfl, fun _ h => .inl h, fun _ h => .inl h, Nat.le_refl _, fun _ _ _ h => ⟨rfl, h⟩⟩
end Go.Am
