/-
  The abstract machine against the model: how values, memory and frames stand for those of the model.
-/
import Derived.Test.YtgeghppdhjlbiaaGreatDoorAmBase
import Derived.Laws.World
import Derived.Laws.Sem
import Derived.Below
namespace Go.Am
open Go

/-- Where a generation of a row lies: its block, its first cell there, how many cells are known, the block's size. -/
structure Pl where
  b : Nat
  base : Nat
  n : Nat
  N : Nat
  le : base + n ≤ N
abbrev Rho := Nat → Nat → Option Pl
def OK.val (k : OK) (b : Nat) : Value := match k with | .yld => .func (.yield b) #[] #[] | .chan => .chan (some b)

mutual
def VRel (ρ : Rho) : AV → Value → Prop
  | .top, _ => True
  | .bool b, v => v = .bool b
  | .int k n, v => v = .int k n
  | .str s, v => ∃ b : ByteArray, v = .string b ∧ b.data.toList.map UInt8.toNat = s
  | .nilp, v => v = .pointer none
  | .ptr id g off lim, v => ∃ pl, ρ id g = some pl ∧ lim ≤ pl.n ∧ v = .pointer (some ⟨pl.b, pl.base + off, none⟩)
  | .glob g off, v => v = .pointer (some ⟨g, off, none⟩)
  | .nils, v => v = .slice none 0 0
  | .slice id g off len lim sz cap, v => ∃ pl c, ρ id g = some pl ∧ lim ≤ pl.n ∧ off + len * sz ≤ lim ∧ 0 < sz ∧ len ≤ c ∧
      ((v = .slice (some ⟨pl.b, pl.base + off, none⟩) len c ∧ pl.base + off + c * sz ≤ pl.N ∧ (∀ k, cap = some k → c = k ∧ off + k * sz ≤ lim)) ∨
       (len = 0 ∧ c = 0 ∧ (∀ k, cap = some k → k = 0) ∧ ∃ a, v = .slice (some a) 0 0))
  | .nilm, v => v = .map none
  | .map id, v => ∃ pl, ρ id 0 = some pl ∧ v = .map (some pl.b)
  | .func fn f c, v => ∃ a b, v = .func fn a b ∧ LRel ρ f a.toList ∧ LRel ρ c b.toList
  | .nilf, v => v = .nilFunc
  | .niface, v => v = .nilIface
  | .iface t x, v => ∃ y, v = .iface t y ∧ VRel ρ x y
  | .agg cs, v => ∃ a, v = .agg a ∧ LRel ρ cs a.toList ∧ ∀ x, x ∈ a.toList → x.oneCell' = true
  | .tuple vs, v => ∃ a, v = .tuple a ∧ LRel ρ vs a.toList
  | .obj k id, v => ∃ pl, ρ id 0 = some pl ∧ v = k.val pl.b
  | .nilc, v => v = .chan none
  | .pan _, _ => False
def LRel (ρ : Rho) : List AV → List Value → Prop
  | [], l => l = []
  | x :: xs, l => ∃ y ys, l = y :: ys ∧ VRel ρ x y ∧ LRel ρ xs ys
end

/-- ρ' knows what ρ knew. -/
def Ext (ρ ρ' : Rho) : Prop := ∀ id g pl, ρ id g = some pl → ρ' id g = some pl
theorem Ext.refl (ρ : Rho) : Ext ρ ρ := fun _ _ _ h => h
theorem Ext.trans {a b c : Rho} (h : Ext a b) (k : Ext b c) : Ext a c := fun i g p x => k i g p (h i g p x)

mutual
theorem VRel.mono {ρ ρ' : Rho} (h : Ext ρ ρ') : ∀ (x : AV) (v : Value), VRel ρ x v → VRel ρ' x v
  | .top, _, _ => by simp [VRel]
  | .bool b, v, hv => by simpa [VRel] using hv
  | .int k n, v, hv => by simpa [VRel] using hv
  | .str s, v, hv => by simpa [VRel] using hv
  | .nilp, v, hv => by simpa [VRel] using hv
  | .ptr id g off lim, v, hv => by
    simp only [VRel] at *
    obtain ⟨pl, a, b, c⟩ := hv
    exact ⟨pl, h _ _ _ a, b, c⟩
  | .glob g off, v, hv => by simpa [VRel] using hv
  | .nils, v, hv => by simpa [VRel] using hv
  | .slice id g off len lim sz cap, v, hv => by
    simp only [VRel] at *
    obtain ⟨pl, c, a, rest⟩ := hv
    exact ⟨pl, c, h _ _ _ a, rest⟩
  | .nilm, v, hv => by simpa [VRel] using hv
  | .map id, v, hv => by
    simp only [VRel] at *
    obtain ⟨pl, a, b⟩ := hv
    exact ⟨pl, h _ _ _ a, b⟩
  | .func fn f c, v, hv => by
    simp only [VRel] at *
    obtain ⟨a, b, e, p, q⟩ := hv
    exact ⟨a, b, e, LRel.mono h f _ p, LRel.mono h c _ q⟩
  | .nilf, v, hv => by simpa [VRel] using hv
  | .niface, v, hv => by simpa [VRel] using hv
  | .iface t x, v, hv => by
    simp only [VRel] at *
    obtain ⟨y, e, p⟩ := hv
    exact ⟨y, e, VRel.mono h x _ p⟩
  | .agg cs, v, hv => by
    simp only [VRel] at *
    obtain ⟨a, e, p, q⟩ := hv
    exact ⟨a, e, LRel.mono h cs _ p, q⟩
  | .tuple vs, v, hv => by
    simp only [VRel] at *
    obtain ⟨a, e, p⟩ := hv
    exact ⟨a, e, LRel.mono h vs _ p⟩
  | .obj k id, v, hv => by
    simp only [VRel] at *
    obtain ⟨pl, a, b⟩ := hv
    exact ⟨pl, h _ _ _ a, b⟩
  | .nilc, v, hv => by simpa [VRel] using hv
  | .pan _, _, hv => by simp only [VRel] at hv
theorem LRel.mono {ρ ρ' : Rho} (h : Ext ρ ρ') : ∀ (xs : List AV) (l : List Value), LRel ρ xs l → LRel ρ' xs l
  | [], l, hl => by simpa [LRel] using hl
  | x :: xs, l, hl => by
    simp only [LRel] at *
    obtain ⟨y, ys, e, p, q⟩ := hl
    exact ⟨y, ys, e, VRel.mono h x y p, LRel.mono h xs ys q⟩
end

section
variable {ρ : Rho}
theorem LRel.nil : LRel ρ [] [] := by simp [LRel]
theorem LRel.cons {x : AV} {y : Value} {xs : List AV} {ys : List Value} (h : VRel ρ x y) (t : LRel ρ xs ys) : LRel ρ (x :: xs) (y :: ys) := by
  simp only [LRel]; exact ⟨y, ys, rfl, h, t⟩
theorem LRel.iff : ∀ {xs : List AV} {ys : List Value}, LRel ρ xs ys ↔ xs.length = ys.length ∧ ∀ (i : Nat) (x : AV) (y : Value), xs[i]? = some x → ys[i]? = some y → VRel ρ x y := by
  intro xs; induction xs with
  | nil => intro ys; cases ys <;> simp [LRel]
  | cons x xs ih =>
    intro ys
    cases ys with
    | nil => simp [LRel]
    | cons y ys =>
      simp only [LRel, List.length_cons]
      constructor
      · rintro ⟨y', ys', e, p, q⟩
        cases e
        obtain ⟨q1, q2⟩ := ih.1 q
        refine ⟨by omega, fun i a b ha hb => ?_⟩
        cases i with
        | zero => simp at ha hb; subst ha hb; exact p
        | succ i => simp at ha hb; exact q2 i a b ha hb
      · rintro ⟨hl, hp⟩
        exact ⟨y, ys, rfl, hp 0 x y rfl rfl, ih.2 ⟨by omega, fun i a b ha hb => hp (i + 1) a b (by simpa using ha) (by simpa using hb)⟩⟩
theorem LRel.length {xs : List AV} {ys : List Value} (h : LRel ρ xs ys) : xs.length = ys.length := (LRel.iff.1 h).1
theorem LRel.get {xs : List AV} {ys : List Value} (h : LRel ρ xs ys) {i : Nat} {x : AV} (hx : xs[i]? = some x) : ∃ y, ys[i]? = some y ∧ VRel ρ x y := by
  obtain ⟨hl, hp⟩ := LRel.iff.1 h
  have hi : i < xs.length := by
    rcases Nat.lt_or_ge i xs.length with h' | h'
    · exact h'
    · simp [List.getElem?_eq_none h'] at hx
  exact ⟨ys[i]'(by omega), by simp [List.getElem?_eq_getElem (by omega : i < ys.length)], hp i x _ hx (by simp [List.getElem?_eq_getElem (by omega : i < ys.length)])⟩
theorem LRel.append : ∀ {xs : List AV} {ys : List Value} {xs' : List AV} {ys' : List Value}, LRel ρ xs ys → LRel ρ xs' ys' → LRel ρ (xs ++ xs') (ys ++ ys') := by
  intro xs; induction xs with
  | nil => intro ys xs' ys' h h'; simp [LRel] at h; subst h; simpa using h'
  | cons x xs ih =>
    intro ys xs' ys' h h'
    simp only [LRel] at h
    obtain ⟨y, t, rfl, p, q⟩ := h
    exact LRel.cons p (ih q h')
theorem LRel.take {xs : List AV} {ys : List Value} (h : LRel ρ xs ys) (n : Nat) : LRel ρ (xs.take n) (ys.take n) := by
  obtain ⟨hl, hp⟩ := LRel.iff.1 h
  refine LRel.iff.2 ⟨by simp [hl], fun i x y hx hy => ?_⟩
  rw [List.getElem?_take] at hx hy
  split at hx
  · rename_i hi; rw [if_pos hi] at hy; exact hp i x y hx hy
  · cases hx
theorem LRel.drop {xs : List AV} {ys : List Value} (h : LRel ρ xs ys) (n : Nat) : LRel ρ (xs.drop n) (ys.drop n) := by
  obtain ⟨hl, hp⟩ := LRel.iff.1 h
  refine LRel.iff.2 ⟨by simp [hl], fun i x y hx hy => ?_⟩
  rw [List.getElem?_drop] at hx hy
  exact hp _ x y hx hy
theorem LRel.map {α : Type} (f : α → AV) (g : α → Value) (h : ∀ a, VRel ρ (f a) (g a)) : ∀ l : List α, LRel ρ (l.map f) (l.map g)
  | [] => LRel.nil
  | a :: l => LRel.cons (h a) (LRel.map f g h l)
end

/-- Entries, side by side. -/
def ERel (ρ : Rho) (es : List AEnt) (l : List MapEntry) : Prop :=
  es.length = l.length ∧ ∀ (i : Nat) (e : AEnt) (m : MapEntry), es[i]? = some e → l[i]? = some m → VRel ρ e.key m.key ∧ VRel ρ e.val m.val ∧ e.born = m.born
theorem ERel.mono {ρ ρ' : Rho} (h : Ext ρ ρ') {es : List AEnt} {l : List MapEntry} (r : ERel ρ es l) : ERel ρ' es l :=
  ⟨r.1, fun i e m he hm => let ⟨a, b, c⟩ := r.2 i e m he hm; ⟨a.mono h _ _, b.mono h _ _, c⟩⟩

/-- A frame's slots. -/
structure SRel (ρ : Rho) (F : Fr) (tmps : Array Value) : Prop where
  slot : ∀ t, VRel ρ (match F.t.get t with | some v => v | none => .undef) (tmps.getD t undef)
  size : tmps.size = F.n
theorem SRel.mono {ρ ρ' : Rho} (h : Ext ρ ρ') {F : Fr} {tmps : Array Value} (r : SRel ρ F tmps) : SRel ρ' F tmps := ⟨fun t => (r.slot t).mono h _ _, r.size⟩
/-- A deferred call, a mark. -/
def DRel (ρ : Rho) : ADef → Deferred → Prop
  | .call f as captured, d => ∃ cap, d.target = .fn (.func f) cap ∧ LRel ρ as d.args.toList ∧ LRel ρ captured cap.toList
  | .mark id, d => ∃ pl, ρ id 0 = some pl ∧ d.target = .collected pl.b
def DsRel (ρ : Rho) : List ADef → List Deferred → Prop
  | [], l => l = []
  | x :: xs, l => ∃ y ys, l = y :: ys ∧ DRel ρ x y ∧ DsRel ρ xs ys
theorem DRel.mono {ρ ρ' : Rho} (h : Ext ρ ρ') {x : ADef} {d : Deferred} (r : DRel ρ x d) : DRel ρ' x d := by
  cases x with
  | call f as c => obtain ⟨cap, r1, r2, r3⟩ := r; exact ⟨cap, r1, r2.mono h, r3.mono h⟩
  | mark id => obtain ⟨pl, r1, r2⟩ := r; exact ⟨pl, h _ _ _ r1, r2⟩
theorem DsRel.mono {ρ ρ' : Rho} (h : Ext ρ ρ') : ∀ {xs : List ADef} {l : List Deferred}, DsRel ρ xs l → DsRel ρ' xs l
  | [], _, r => r
  | _ :: _, _, ⟨y, ys, e, p, q⟩ => ⟨y, ys, e, p.mono h, DsRel.mono h q⟩

/-- Another object, and the model's. -/
def OthRel (ρ : Rho) : AOth → Obj → Prop
  | .iter none _ _ _, o => ∃ a b c, o = .mapIter none a b c
  | .iter (some m) since seen last, o => ∃ pl sn, ρ m 0 = some pl ∧ o = .mapIter (some pl.b) since sn last ∧ sn.toList = seen.reverse
  | .siter s pos, o => ∃ b : ByteArray, o = .stringIter b pos ∧ b.data.toList.map UInt8.toNat = s
  | .loop st j F ps a b, o => ∃ fn tmps d, o = .loop { state := st, pending := j, fn := fn, tmps := tmps, params := ps, assign := a, body := b, defers := d } ∧ SRel ρ F tmps ∧ plainC a = true ∧ plainC b = true
  | .dfr op, o => o = .deferred (cond op (some []) none)
  | .chan cap buf, o => ∃ B s r, o = .chan cap B false s r false ∧ LRel ρ buf B.toList
theorem OthRel.mono {ρ ρ' : Rho} (h : Ext ρ ρ') {x : AOth} {o : Obj} (r : OthRel ρ x o) : OthRel ρ' x o := by
  cases x with
  | iter m since seen last =>
    cases m with
    | none => exact r
    | some m => obtain ⟨pl, sn, r1, r2⟩ := r; exact ⟨pl, sn, h _ _ _ r1, r2⟩
  | siter s pos => exact r
  | loop st j F ps a b => obtain ⟨fn, tmps, d, r1, r2, r3⟩ := r; exact ⟨fn, tmps, d, r1, r2.mono h, r3⟩
  | dfr op => exact r
  | chan cap buf => obtain ⟨B, s, r, r1, r2⟩ := r; exact ⟨B, s, r, r1, r2.mono h⟩

def froz (fr : Nat × Nat) (i : Nat) : Bool := decide (fr.1 ≤ i) && decide (i < fr.2)

/-- Whatever lies in these cells fills one. -/
def OnesC (C : Array Value) : Prop := ∀ (i : Nat) (v : Value), C[i]? = some v → v.oneCell' = true
theorem OnesC.of {C : Array Value} (h : ∀ v, v ∈ C.toList → v.oneCell' = true) : OnesC C := fun i v hv => h v (List.mem_of_getElem? (i := i) (by rw [Array.getElem?_toList]; exact hv))
/-- A row's generation lies in its block. -/
def GRel (ρ : Rho) (w : World) (cells : List AV) (top : Nat) (frz : Bool) (ty : TypeId) (id g : Nat) : Prop :=
  ∃ pl C fr, ρ id g = some pl ∧ w.heap[pl.b]? = some (.cells C ty fr) ∧ C.size = pl.N ∧ pl.base + pl.n ≤ pl.N ∧ pl.n ≤ cells.length ∧
    (∀ i, i < pl.n → ∃ x v, cells[i]? = some x ∧ C[pl.base + i]? = some v ∧ VRel ρ x v ∧ v.oneCell' = true) ∧
    (g = top → pl.n = cells.length) ∧ (frz = false → ∀ i, i ≤ pl.N → froz fr i = false) ∧ (g = 0 → pl.base = 0) ∧ (frz = false → OnesC C)

def ORel (ρ : Rho) (w : World) (id : Nat) : AObj → Prop
  | .row cells low top frz ty => low ≤ top ∧ (∀ g, low ≤ g → g ≤ top → GRel ρ w cells top frz ty id g) ∧
      ∀ g h p q, low ≤ g → g ≤ top → low ≤ h → h ≤ top → ρ id g = some p → ρ id h = some q → p.b = q.b → p.base = q.base
  | .map es clock => ∃ pl ES, ρ id 0 = some pl ∧ w.heap[pl.b]? = some (.map ES clock) ∧ ERel ρ es ES.toList
  | .oth x => ∃ pl o, ρ id 0 = some pl ∧ w.heap[pl.b]? = some o ∧ OthRel ρ x o ∧ pl.base = 0

/-- The world at the beginning, and those of its blocks that stay as they were. -/
structure LB where
  w : World
  B : Nat → Prop

/-- A row that never turns again: frozen, its first generation gone (so are the rows that came from outside). -/
def Frz (o : AObj) : Prop := ∃ c l t ty, o = .row c (l + 1) t true ty
/-- Is the block one of those that S may still write? -/
def Wrt (ρ : Rho) (S : AS) (b : Nat) : Prop := ∃ id o g pl, S.h.get id = some o ∧ ¬ Frz o ∧ ρ id g = some pl ∧ pl.b = b
/-- Is the block one of those that S speaks of? -/
def Mine (ρ : Rho) (S : AS) (b : Nat) : Prop := ∃ id o g pl, S.h.get id = some o ∧ ρ id g = some pl ∧ pl.b = b

theorem Wrt.mine {ρ : Rho} {S : AS} {b : Nat} (h : Wrt ρ S b) : Mine ρ S b := let ⟨i, o, g, pl, h1, _, h2, h3⟩ := h; ⟨i, o, g, pl, h1, h2, h3⟩
structure R (Λ : LB) (ρ : Rho) (S : AS) (w : World) : Prop where
  objs : ∀ id o, S.h.get id = some o → ORel ρ w id o
  dom : ∀ id o, S.h.get id = some o → id < S.next
  fresh : ∀ id g, S.next ≤ id → ρ id g = none
  topg : ∀ id cells low top frz ty, S.h.get id = some (.row cells low top frz ty) → ∀ g, top < g → ρ id g = none
  lt : ∀ id o g pl, S.h.get id = some o → ρ id g = some pl → pl.b < w.heap.size
  apart : ∀ id id' o o' g g' pl pl', id ≠ id' → S.h.get id = some o → S.h.get id' = some o' → ρ id g = some pl → ρ id' g' = some pl' → pl.b ≠ pl'.b ∨ (Frz o ∧ Frz o')
  start : Λ.w.heap.size ≤ w.heap.size
  base : ∀ b, Λ.B b → b < Λ.w.heap.size ∧ w.heap[b]? = Λ.w.heap[b]? ∧ ¬ Wrt ρ S b

variable {Λ : LB}

/-- What a step keeps. -/
structure Kp (ρ : Rho) (S : AS) (w : World) (ρ' : Rho) (S' : AS) (w' : World) : Prop where
  ext : Ext ρ ρ'
  os : w'.os = w.os
  tape : w'.tape = w.tape
  output : w'.output = w.output
  size : w.heap.size ≤ w'.heap.size
  keep : ∀ b, b < w.heap.size → ¬ Wrt ρ S b → w'.heap[b]? = w.heap[b]?
  mine : ∀ b, Mine ρ' S' b → Mine ρ S b ∨ w.heap.size ≤ b
  wrt : ∀ b, Wrt ρ' S' b → Wrt ρ S b ∨ w.heap.size ≤ b
  next : S.next ≤ S'.next
  resv : ∀ id g, id < S.next → S.h.get id = none → ρ' id g = ρ id g ∧ S'.h.get id = none

theorem Kp.refl (ρ : Rho) (S : AS) (w : World) : Kp ρ S w ρ S w :=
  ⟨Ext.refl _, rfl, rfl, rfl, Nat.le_refl _, fun _ _ _ => rfl, fun _ h => .inl h, fun _ h => .inl h, Nat.le_refl _, fun _ _ _ h => ⟨rfl, h⟩⟩
theorem Kp.trans {ρ ρ' ρ'' : Rho} {S S' S'' : AS} {w w' w'' : World} (h : Kp ρ S w ρ' S' w') (k : Kp ρ' S' w' ρ'' S'' w'') : Kp ρ S w ρ'' S'' w'' where
  ext := h.ext.trans k.ext
  os := k.os.trans h.os
  tape := k.tape.trans h.tape
  output := k.output.trans h.output
  size := Nat.le_trans h.size k.size
  keep := fun b hb hm => (k.keep b (Nat.lt_of_lt_of_le hb h.size) (fun hm' => (h.wrt b hm').elim hm (fun hle => absurd hb (Nat.not_lt.2 hle)))).trans (h.keep b hb hm)
  mine := fun b hb => (k.mine b hb).elim (h.mine b) (fun hle => .inr (Nat.le_trans h.size hle))
  wrt := fun b hb => (k.wrt b hb).elim (h.wrt b) (fun hle => .inr (Nat.le_trans h.size hle))
  next := Nat.le_trans h.next k.next
  resv := fun id g hi hn => by
    obtain ⟨e, n'⟩ := h.resv id g hi hn
    obtain ⟨e2, n2⟩ := k.resv id g (Nat.lt_of_lt_of_le hi h.next) n'
    exact ⟨e2.trans e, n2⟩

/-- Nothing of S but for the count of draws has turned. -/
theorem R.drawn {ρ : Rho} {S : AS} {w : World} (h : R Λ ρ S w) (n : Nat) : R Λ ρ S { w with drawn := n } :=
  ⟨fun id o ho => by have := h.objs id o ho; cases o <;> exact this, h.dom, h.fresh, h.topg, h.lt, h.apart, h.start, h.base⟩
theorem Kp.drawn (ρ : Rho) (S : AS) (w : World) (n : Nat) : Kp ρ S w ρ S { w with drawn := n } :=
  ⟨Ext.refl _, rfl, rfl, rfl, Nat.le_refl _, fun _ _ _ => rfl, fun _ h => .inl h, fun _ h => .inl h, Nat.le_refl _, fun _ _ _ h => ⟨rfl, h⟩⟩

end Go.Am
