/-
  The abstract machine against the model: how values, memory and frames stand for those of the model.
  The abstract machine against the model: memory. What a step does to one object, the relation bears.
-/
import Derived.Test.YtpgmahedcpepkaaGreatDoorAmExec
import Derived.Laws.World
import Derived.Laws.Sem
import Derived.Below
import Derived.Laws.Cells
namespace Go.Am
open Go

/-- Where a generation of a row lies: its block, its first cell there, how many cells are known, the block's size. -/
structure Pl where
  b : Nat
  base : Nat
  n : Nat
  N : Nat
  le : base + n ≤ N
abbrev Rho := Nat → Nat → Option Pl
/-- Whole numbers as numbers. -/
def symI (b : Nat) : Int := if b % 2 = 0 then ((b / 2 : Nat) : Int) else -((b / 2 : Nat) : Int) - 1
theorem symI_all (n : Int) : ∃ b, symI b = n := by
  by_cases h : 0 ≤ n
  · exact ⟨2 * n.toNat, by unfold symI; rw [if_pos (by omega)]; omega⟩
  · exact ⟨2 * (-n - 1).toNat + 1, by unfold symI; rw [if_neg (by omega)]; omega⟩
def OK.val (k : OK) (b : Nat) : Value := match k with | .yld => .func (.yield b) #[] #[] | .chan => .chan (some b) | .sym => .int .i64 (IntKind.i64.wrap (symI b)) | .small => .int .i64 ((b % 257 : Nat) : Int)

mutual
def VRel (ρ : Rho) : AV → Value → Prop
  | .top, _ => True
  | .bool b, v => v = .bool b
  | .int k n, v => v = .int k n
  | .str s, v => ∃ b : ByteArray, v = .string b ∧ b.data.toList.map UInt8.toNat = s
  | .nilp, v => v = .pointer none
  | .ptr id g off lim, v => ∃ pl, ρ id g = some pl ∧ lim ≤ pl.n ∧ v = .pointer (some ⟨pl.b, pl.base + off, none⟩)
  | .glob g off, v => v = .pointer (some ⟨g, off, none⟩)
  | .nils, v => v = .slice none 0 0
  | .slice id g off len lim sz cap, v => ∃ pl c, ρ id g = some pl ∧ lim ≤ pl.n ∧ off + len * sz ≤ lim ∧ 0 < sz ∧ len ≤ c ∧
      ((v = .slice (some ⟨pl.b, pl.base + off, none⟩) len c ∧ pl.base + off + c * sz ≤ pl.N ∧ (∀ k, cap = some k → c = k ∧ off + k * sz ≤ lim)) ∨
       (len = 0 ∧ c = 0 ∧ (∀ k, cap = some k → k = 0) ∧ ∃ a, v = .slice (some a) 0 0))
  | .nilm, v => v = .map none
  | .map id, v => ∃ pl, ρ id 0 = some pl ∧ v = .map (some pl.b)
  | .func fn f c, v => ∃ a b, v = .func fn a b ∧ LRel ρ f a.toList ∧ LRel ρ c b.toList
  | .nilf, v => v = .nilFunc
  | .niface, v => v = .nilIface
  | .iface t x, v => ∃ y, v = .iface t y ∧ VRel ρ x y
  | .agg cs, v => ∃ a, v = .agg a ∧ LRel ρ cs a.toList ∧ ∀ x, x ∈ a.toList → x.oneCell' = true
  | .tuple vs, v => ∃ a, v = .tuple a ∧ LRel ρ vs a.toList
  | .obj k id, v => ∃ pl, ρ id 0 = some pl ∧ v = k.val pl.b
  | .nilc, v => v = .chan none
  | .pan _, _ => False
def LRel (ρ : Rho) : List AV → List Value → Prop
  | [], l => l = []
  | x :: xs, l => ∃ y ys, l = y :: ys ∧ VRel ρ x y ∧ LRel ρ xs ys
end

/-- ρ' knows what ρ knew. -/
def Ext (ρ ρ' : Rho) : Prop := ∀ id g pl, ρ id g = some pl → ρ' id g = some pl
theorem Ext.refl (ρ : Rho) : Ext ρ ρ := fun _ _ _ h => h
theorem Ext.trans {a b c : Rho} (h : Ext a b) (k : Ext b c) : Ext a c := fun i g p x => k i g p (h i g p x)

mutual
theorem VRel.mono {ρ ρ' : Rho} (h : Ext ρ ρ') : ∀ (x : AV) (v : Value), VRel ρ x v → VRel ρ' x v
  | .top, _, _ => by simp [VRel]
  | .bool b, v, hv => by simpa [VRel] using hv
  | .int k n, v, hv => by simpa [VRel] using hv
  | .str s, v, hv => by simpa [VRel] using hv
  | .nilp, v, hv => by simpa [VRel] using hv
  | .ptr id g off lim, v, hv => by
    simp only [VRel] at *
    obtain ⟨pl, a, b, c⟩ := hv
    exact ⟨pl, h _ _ _ a, b, c⟩
  | .glob g off, v, hv => by simpa [VRel] using hv
  | .nils, v, hv => by simpa [VRel] using hv
  | .slice id g off len lim sz cap, v, hv => by
    simp only [VRel] at *
    obtain ⟨pl, c, a, rest⟩ := hv
    exact ⟨pl, c, h _ _ _ a, rest⟩
  | .nilm, v, hv => by simpa [VRel] using hv
  | .map id, v, hv => by
    simp only [VRel] at *
    obtain ⟨pl, a, b⟩ := hv
    exact ⟨pl, h _ _ _ a, b⟩
  | .func fn f c, v, hv => by
    simp only [VRel] at *
    obtain ⟨a, b, e, p, q⟩ := hv
    exact ⟨a, b, e, LRel.mono h f _ p, LRel.mono h c _ q⟩
  | .nilf, v, hv => by simpa [VRel] using hv
  | .niface, v, hv => by simpa [VRel] using hv
  | .iface t x, v, hv => by
    simp only [VRel] at *
    obtain ⟨y, e, p⟩ := hv
    exact ⟨y, e, VRel.mono h x _ p⟩
  | .agg cs, v, hv => by
    simp only [VRel] at *
    obtain ⟨a, e, p, q⟩ := hv
    exact ⟨a, e, LRel.mono h cs _ p, q⟩
  | .tuple vs, v, hv => by
    simp only [VRel] at *
    obtain ⟨a, e, p⟩ := hv
    exact ⟨a, e, LRel.mono h vs _ p⟩
  | .obj k id, v, hv => by
    simp only [VRel] at *
    obtain ⟨pl, a, b⟩ := hv
    exact ⟨pl, h _ _ _ a, b⟩
  | .nilc, v, hv => by simpa [VRel] using hv
  | .pan _, _, hv => by simp only [VRel] at hv
theorem LRel.mono {ρ ρ' : Rho} (h : Ext ρ ρ') : ∀ (xs : List AV) (l : List Value), LRel ρ xs l → LRel ρ' xs l
  | [], l, hl => by simpa [LRel] using hl
  | x :: xs, l, hl => by
    simp only [LRel] at *
    obtain ⟨y, ys, e, p, q⟩ := hl
    exact ⟨y, ys, e, VRel.mono h x y p, LRel.mono h xs ys q⟩
end

section
variable {ρ : Rho}
theorem LRel.nil : LRel ρ [] [] := by simp [LRel]
theorem LRel.cons {x : AV} {y : Value} {xs : List AV} {ys : List Value} (h : VRel ρ x y) (t : LRel ρ xs ys) : LRel ρ (x :: xs) (y :: ys) := by
  simp only [LRel]; exact ⟨y, ys, rfl, h, t⟩
theorem LRel.iff : ∀ {xs : List AV} {ys : List Value}, LRel ρ xs ys ↔ xs.length = ys.length ∧ ∀ (i : Nat) (x : AV) (y : Value), xs[i]? = some x → ys[i]? = some y → VRel ρ x y := by
  intro xs; induction xs with
  | nil => intro ys; cases ys <;> simp [LRel]
  | cons x xs ih =>
    intro ys
    cases ys with
    | nil => simp [LRel]
    | cons y ys =>
      simp only [LRel, List.length_cons]
      constructor
      · rintro ⟨y', ys', e, p, q⟩
        cases e
        obtain ⟨q1, q2⟩ := ih.1 q
        refine ⟨by omega, fun i a b ha hb => ?_⟩
        cases i with
        | zero => simp at ha hb; subst ha hb; exact p
        | succ i => simp at ha hb; exact q2 i a b ha hb
      · rintro ⟨hl, hp⟩
        exact ⟨y, ys, rfl, hp 0 x y rfl rfl, ih.2 ⟨by omega, fun i a b ha hb => hp (i + 1) a b (by simpa using ha) (by simpa using hb)⟩⟩
theorem LRel.length {xs : List AV} {ys : List Value} (h : LRel ρ xs ys) : xs.length = ys.length := (LRel.iff.1 h).1
theorem LRel.get {xs : List AV} {ys : List Value} (h : LRel ρ xs ys) {i : Nat} {x : AV} (hx : xs[i]? = some x) : ∃ y, ys[i]? = some y ∧ VRel ρ x y := by
  obtain ⟨hl, hp⟩ := LRel.iff.1 h
  have hi : i < xs.length := by
    rcases Nat.lt_or_ge i xs.length with h' | h'
    · exact h'
    · simp [List.getElem?_eq_none h'] at hx
  exact ⟨ys[i]'(by omega), by simp [List.getElem?_eq_getElem (by omega : i < ys.length)], hp i x _ hx (by simp [List.getElem?_eq_getElem (by omega : i < ys.length)])⟩
theorem LRel.append : ∀ {xs : List AV} {ys : List Value} {xs' : List AV} {ys' : List Value}, LRel ρ xs ys → LRel ρ xs' ys' → LRel ρ (xs ++ xs') (ys ++ ys') := by
  intro xs; induction xs with
  | nil => intro ys xs' ys' h h'; simp [LRel] at h; subst h; simpa using h'
  | cons x xs ih =>
    intro ys xs' ys' h h'
    simp only [LRel] at h
    obtain ⟨y, t, rfl, p, q⟩ := h
    exact LRel.cons p (ih q h')
theorem LRel.take {xs : List AV} {ys : List Value} (h : LRel ρ xs ys) (n : Nat) : LRel ρ (xs.take n) (ys.take n) := by
  obtain ⟨hl, hp⟩ := LRel.iff.1 h
  refine LRel.iff.2 ⟨by simp [hl], fun i x y hx hy => ?_⟩
  rw [List.getElem?_take] at hx hy
  split at hx
  · rename_i hi; rw [if_pos hi] at hy; exact hp i x y hx hy
  · cases hx
theorem LRel.drop {xs : List AV} {ys : List Value} (h : LRel ρ xs ys) (n : Nat) : LRel ρ (xs.drop n) (ys.drop n) := by
  obtain ⟨hl, hp⟩ := LRel.iff.1 h
  refine LRel.iff.2 ⟨by simp [hl], fun i x y hx hy => ?_⟩
  rw [List.getElem?_drop] at hx hy
  exact hp _ x y hx hy
theorem LRel.map {α : Type} (f : α → AV) (g : α → Value) (h : ∀ a, VRel ρ (f a) (g a)) : ∀ l : List α, LRel ρ (l.map f) (l.map g)
  | [] => LRel.nil
  | a :: l => LRel.cons (h a) (LRel.map f g h l)
end

/-- Entries, side by side. -/
def ERel (ρ : Rho) (es : List AEnt) (l : List MapEntry) : Prop :=
  es.length = l.length ∧ ∀ (i : Nat) (e : AEnt) (m : MapEntry), es[i]? = some e → l[i]? = some m → VRel ρ e.key m.key ∧ VRel ρ e.val m.val ∧ e.born = m.born
theorem ERel.mono {ρ ρ' : Rho} (h : Ext ρ ρ') {es : List AEnt} {l : List MapEntry} (r : ERel ρ es l) : ERel ρ' es l :=
  ⟨r.1, fun i e m he hm => let ⟨a, b, c⟩ := r.2 i e m he hm; ⟨a.mono h _ _, b.mono h _ _, c⟩⟩

/-- A frame's slots. -/
structure SRel (ρ : Rho) (F : Fr) (tmps : Array Value) : Prop where
  slot : ∀ t, VRel ρ (match F.t.get t with | some v => v | none => .undef) (tmps.getD t undef)
  size : tmps.size = F.n
theorem SRel.mono {ρ ρ' : Rho} (h : Ext ρ ρ') {F : Fr} {tmps : Array Value} (r : SRel ρ F tmps) : SRel ρ' F tmps := ⟨fun t => (r.slot t).mono h _ _, r.size⟩
/-- A deferred call, a mark. -/
def DRel (ρ : Rho) : ADef → Deferred → Prop
  | .call f as captured, d => ∃ cap, d.target = .fn (.func f) cap ∧ LRel ρ as d.args.toList ∧ LRel ρ captured cap.toList
  | .mark id, d => ∃ pl, ρ id 0 = some pl ∧ d.target = .collected pl.b
def DsRel (ρ : Rho) : List ADef → List Deferred → Prop
  | [], l => l = []
  | x :: xs, l => ∃ y ys, l = y :: ys ∧ DRel ρ x y ∧ DsRel ρ xs ys
theorem DRel.mono {ρ ρ' : Rho} (h : Ext ρ ρ') {x : ADef} {d : Deferred} (r : DRel ρ x d) : DRel ρ' x d := by
  cases x with
  | call f as c => obtain ⟨cap, r1, r2, r3⟩ := r; exact ⟨cap, r1, r2.mono h, r3.mono h⟩
  | mark id => obtain ⟨pl, r1, r2⟩ := r; exact ⟨pl, h _ _ _ r1, r2⟩
theorem DsRel.mono {ρ ρ' : Rho} (h : Ext ρ ρ') : ∀ {xs : List ADef} {l : List Deferred}, DsRel ρ xs l → DsRel ρ' xs l
  | [], _, r => r
  | _ :: _, _, ⟨y, ys, e, p, q⟩ => ⟨y, ys, e, p.mono h, DsRel.mono h q⟩

/-- Another object, and the model's. -/
def OthRel (ρ : Rho) : AOth → Obj → Prop
  | .iter none _ _ _, o => ∃ a b c, o = .mapIter none a b c
  | .iter (some m) since seen last, o => ∃ pl sn, ρ m 0 = some pl ∧ o = .mapIter (some pl.b) since sn last ∧ sn.toList = seen.reverse
  | .siter s pos, o => ∃ b : ByteArray, o = .stringIter b pos ∧ b.data.toList.map UInt8.toNat = s
  | .loop st j F ps a b, o => ∃ fn tmps d, o = .loop { state := st, pending := j, fn := fn, tmps := tmps, params := ps, assign := a, body := b, defers := d } ∧ SRel ρ F tmps ∧ plainC a = true ∧ plainC b = true
  | .dfr op, o => o = .deferred (cond op (some []) none)
  | .chan cap buf, o => ∃ B s r, o = .chan cap B false s r false ∧ LRel ρ buf B.toList
theorem OthRel.mono {ρ ρ' : Rho} (h : Ext ρ ρ') {x : AOth} {o : Obj} (r : OthRel ρ x o) : OthRel ρ' x o := by
  cases x with
  | iter m since seen last =>
    cases m with
    | none => exact r
    | some m => obtain ⟨pl, sn, r1, r2⟩ := r; exact ⟨pl, sn, h _ _ _ r1, r2⟩
  | siter s pos => exact r
  | loop st j F ps a b => obtain ⟨fn, tmps, d, r1, r2, r3⟩ := r; exact ⟨fn, tmps, d, r1, r2.mono h, r3⟩
  | dfr op => exact r
  | chan cap buf => obtain ⟨B, s, r, r1, r2⟩ := r; exact ⟨B, s, r, r1, r2.mono h⟩

def froz (fr : Nat × Nat) (i : Nat) : Bool := decide (fr.1 ≤ i) && decide (i < fr.2)

/-- Whatever lies in these cells fills one. -/
def OnesC (C : Array Value) : Prop := ∀ (i : Nat) (v : Value), C[i]? = some v → v.oneCell' = true
theorem OnesC.of {C : Array Value} (h : ∀ v, v ∈ C.toList → v.oneCell' = true) : OnesC C := fun i v hv => h v (List.mem_of_getElem? (i := i) (by rw [Array.getElem?_toList]; exact hv))
/-- A row's generation lies in its block. -/
def GRel (ρ : Rho) (w : World) (cells : List AV) (top : Nat) (frz : Bool) (ty : TypeId) (id g : Nat) : Prop :=
  ∃ pl C fr, ρ id g = some pl ∧ w.heap[pl.b]? = some (.cells C ty fr) ∧ C.size = pl.N ∧ pl.base + pl.n ≤ pl.N ∧ pl.n ≤ cells.length ∧
    (∀ i, i < pl.n → ∃ x v, cells[i]? = some x ∧ C[pl.base + i]? = some v ∧ VRel ρ x v ∧ v.oneCell' = true) ∧
    (g = top → pl.n = cells.length) ∧ (frz = false → ∀ i, i ≤ pl.N → froz fr i = false) ∧ (g = 0 → pl.base = 0) ∧ (frz = false → OnesC C)

def ORel (ρ : Rho) (w : World) (id : Nat) : AObj → Prop
  | .row cells low top frz ty => low ≤ top ∧ (∀ g, low ≤ g → g ≤ top → GRel ρ w cells top frz ty id g) ∧
      ∀ g h p q, low ≤ g → g ≤ top → low ≤ h → h ≤ top → ρ id g = some p → ρ id h = some q → p.b = q.b → p.base = q.base
  | .map es clock => ∃ pl ES, ρ id 0 = some pl ∧ w.heap[pl.b]? = some (.map ES clock) ∧ ERel ρ es ES.toList
  | .oth x => ∃ pl o, ρ id 0 = some pl ∧ w.heap[pl.b]? = some o ∧ OthRel ρ x o ∧ pl.base = 0

/-- The world at the beginning, and those of its blocks that stay as they were. -/
structure LB where
  w : World
  B : Nat → Prop

/-- A row that never turns again: frozen, its first generation gone (so are the rows that came from outside). -/
def Frz (o : AObj) : Prop := ∃ c l t ty, o = .row c (l + 1) t true ty
/-- Is the block one of those that S may still write? -/
def Wrt (ρ : Rho) (S : AS) (b : Nat) : Prop := ∃ id o g pl, S.h.get id = some o ∧ ¬ Frz o ∧ ρ id g = some pl ∧ pl.b = b
/-- Is the block one of those that S speaks of? -/
def Mine (ρ : Rho) (S : AS) (b : Nat) : Prop := ∃ id o g pl, S.h.get id = some o ∧ ρ id g = some pl ∧ pl.b = b

theorem Wrt.mine {ρ : Rho} {S : AS} {b : Nat} (h : Wrt ρ S b) : Mine ρ S b := let ⟨i, o, g, pl, h1, _, h2, h3⟩ := h; ⟨i, o, g, pl, h1, h2, h3⟩
structure R (Λ : LB) (ρ : Rho) (S : AS) (w : World) : Prop where
  objs : ∀ id o, S.h.get id = some o → ORel ρ w id o
  dom : ∀ id o, S.h.get id = some o → id < S.next
  fresh : ∀ id g, S.next ≤ id → ρ id g = none
  topg : ∀ id cells low top frz ty, S.h.get id = some (.row cells low top frz ty) → ∀ g, top < g → ρ id g = none
  lt : ∀ id o g pl, S.h.get id = some o → ρ id g = some pl → pl.b < w.heap.size
  apart : ∀ id id' o o' g g' pl pl', id ≠ id' → S.h.get id = some o → S.h.get id' = some o' → ρ id g = some pl → ρ id' g' = some pl' → pl.b ≠ pl'.b ∨ (Frz o ∧ Frz o')
  start : Λ.w.heap.size ≤ w.heap.size
  base : ∀ b, Λ.B b → b < Λ.w.heap.size ∧ w.heap[b]? = Λ.w.heap[b]? ∧ ¬ Wrt ρ S b

variable {Λ : LB}

/-- What a step keeps. -/
structure Kp (ρ : Rho) (S : AS) (w : World) (ρ' : Rho) (S' : AS) (w' : World) : Prop where
  ext : Ext ρ ρ'
  os : w'.os = w.os
  tape : w'.tape = w.tape
  output : w'.output = w.output
  size : w.heap.size ≤ w'.heap.size
  keep : ∀ b, b < w.heap.size → ¬ Wrt ρ S b → w'.heap[b]? = w.heap[b]?
  mine : ∀ b, Mine ρ' S' b → Mine ρ S b ∨ w.heap.size ≤ b
  wrt : ∀ b, Wrt ρ' S' b → Wrt ρ S b ∨ w.heap.size ≤ b
  next : S.next ≤ S'.next
  resv : ∀ id g, id < S.next → S.h.get id = none → ρ' id g = ρ id g ∧ S'.h.get id = none

theorem Kp.refl (ρ : Rho) (S : AS) (w : World) : Kp ρ S w ρ S w :=
  ⟨Ext.refl _, rfl, rfl, rfl, Nat.le_refl _, fun _ _ _ => rfl, fun _ h => .inl h, fun _ h => .inl h, Nat.le_refl _, fun _ _ _ h => ⟨rfl, h⟩⟩
theorem Kp.trans {ρ ρ' ρ'' : Rho} {S S' S'' : AS} {w w' w'' : World} (h : Kp ρ S w ρ' S' w') (k : Kp ρ' S' w' ρ'' S'' w'') : Kp ρ S w ρ'' S'' w'' where
  ext := h.ext.trans k.ext
  os := k.os.trans h.os
  tape := k.tape.trans h.tape
  output := k.output.trans h.output
  size := Nat.le_trans h.size k.size
  keep := fun b hb hm => (k.keep b (Nat.lt_of_lt_of_le hb h.size) (fun hm' => (h.wrt b hm').elim hm (fun hle => absurd hb (Nat.not_lt.2 hle)))).trans (h.keep b hb hm)
  mine := fun b hb => (k.mine b hb).elim (h.mine b) (fun hle => .inr (Nat.le_trans h.size hle))
  wrt := fun b hb => (k.wrt b hb).elim (h.wrt b) (fun hle => .inr (Nat.le_trans h.size hle))
  next := Nat.le_trans h.next k.next
  resv := fun id g hi hn => by
    obtain ⟨e, n'⟩ := h.resv id g hi hn
    obtain ⟨e2, n2⟩ := k.resv id g (Nat.lt_of_lt_of_le hi h.next) n'
    exact ⟨e2.trans e, n2⟩

/-- Nothing of S but for the count of draws has turned. -/
theorem R.drawn {ρ : Rho} {S : AS} {w : World} (h : R Λ ρ S w) (n : Nat) : R Λ ρ S { w with drawn := n } :=
  ⟨fun id o ho => by have := h.objs id o ho; cases o <;> exact this, h.dom, h.fresh, h.topg, h.lt, h.apart, h.start, h.base⟩
theorem Kp.drawn (ρ : Rho) (S : AS) (w : World) (n : Nat) : Kp ρ S w ρ S { w with drawn := n } :=
  ⟨Ext.refl _, rfl, rfl, rfl, Nat.le_refl _, fun _ _ _ => rfl, fun _ h => .inl h, fun _ h => .inl h, Nat.le_refl _, fun _ _ _ h => ⟨rfl, h⟩⟩

end Go.Am

namespace Go.Am
open Go
variable {Λ : LB}

/-- w' is w but for its blocks and its count of draws. -/
structure Outer (w w' : World) : Prop where
  os : w'.os = w.os
  tape : w'.tape = w.tape
  output : w'.output = w.output
theorem Outer.refl (w : World) : Outer w w := ⟨rfl, rfl, rfl⟩
theorem Outer.trans {a b c : World} (h : Outer a b) (k : Outer b c) : Outer a c := ⟨k.os.trans h.os, k.tape.trans h.tape, k.output.trans h.output⟩

/-- w' is w but for block b. -/
structure But (b : Nat) (w w' : World) : Prop extends Outer w w' where
  size : w'.heap.size = w.heap.size
  same : ∀ k, k ≠ b → w'.heap[k]? = w.heap[k]?
theorem But.refl (b : Nat) (w : World) : But b w w := ⟨Outer.refl w, rfl, fun _ _ => rfl⟩
theorem But.trans {n : Nat} {a b c : World} (h : But n a b) (k : But n b c) : But n a c :=
  ⟨h.toOuter.trans k.toOuter, k.size.trans h.size, fun i hi => (k.same i hi).trans (h.same i hi)⟩
/-- w' is w and one block more. -/
structure Grew (o : Obj) (w w' : World) : Prop extends Outer w w' where
  heap : w'.heap = w.heap.push o
theorem Grew.size {o : Obj} {w w' : World} (h : Grew o w w') : w'.heap.size = w.heap.size + 1 := by rw [h.heap]; simp
theorem Grew.at {o : Obj} {w w' : World} (h : Grew o w w') : w'.heap[w.heap.size]? = some o := by rw [h.heap]; simp
theorem Grew.old {o : Obj} {w w' : World} (h : Grew o w w') (k : Nat) (hk : k < w.heap.size) : w'.heap[k]? = w.heap[k]? := by
  rw [h.heap, Array.getElem?_push, if_neg (by omega)]

theorem GRel.keep {ρ ρ' : Rho} {w w' : World} {cells : List AV} {top : Nat} {frz : Bool} {ty : TypeId} {id g : Nat} (hx : Ext ρ ρ')
    (hk : ∀ pl, ρ id g = some pl → w'.heap[pl.b]? = w.heap[pl.b]?) (h : GRel ρ w cells top frz ty id g) : GRel ρ' w' cells top frz ty id g := by
  obtain ⟨pl, C, fr, h1, h2, h3, h4, h5, h6, h7, h8⟩ := h
  refine ⟨pl, C, fr, hx _ _ _ h1, (hk pl h1).trans h2, h3, h4, h5, fun i hi => ?_, h7, h8⟩
  obtain ⟨x, v, a, b, c, d⟩ := h6 i hi
  exact ⟨x, v, a, b, c.mono hx _ _, d⟩
theorem ORel.keep {ρ ρ' : Rho} {w w' : World} {id : Nat} {o : AObj} (hx : Ext ρ ρ')
    (hk : ∀ g pl, ρ id g = some pl → w'.heap[pl.b]? = w.heap[pl.b]?) (h : ORel ρ w id o) : ORel ρ' w' id o := by
  cases o with
  | row cells low top frz ty =>
    refine ⟨h.1, fun g h1 h2 => (h.2.1 g h1 h2).keep hx (hk g), fun g k p q a1 a2 a3 a4 hp hq hb => ?_⟩
    obtain ⟨p', _, _, e1, _⟩ := h.2.1 g a1 a2
    obtain ⟨q', _, _, e2, _⟩ := h.2.1 k a3 a4
    have f1 := hx _ _ _ e1
    have f2 := hx _ _ _ e2
    rw [hp] at f1; rw [hq] at f2
    cases f1; cases f2
    exact h.2.2 g k _ _ a1 a2 a3 a4 e1 e2 hb
  | map es clock =>
    obtain ⟨pl, ES, h1, h2, h3⟩ := h
    exact ⟨pl, ES, hx _ _ _ h1, (hk 0 pl h1).trans h2, h3.mono hx⟩
  | oth x =>
    obtain ⟨pl, o, h1, h2, h3, h4⟩ := h
    exact ⟨pl, o, hx _ _ _ h1, (hk 0 pl h1).trans h2, h3.mono hx, h4⟩

theorem frz_no {o : AObj} (h : ∀ a b c d t, o ≠ .row a b c d t) : ¬ Frz o := fun ⟨_, _, _, _, e⟩ => h _ _ _ _ _ e
theorem frz_free {c : List AV} {l t : Nat} {ty : TypeId} : ¬ Frz (.row c l t false ty) := fun ⟨_, _, _, _, e⟩ => by cases e
/-- ONE OBJECT TURNS, OR COMES. -/
theorem R.change {ρ ρ' : Rho} {S : AS} {w w' : World} {id : Nat} {o' : AObj} {next' : Nat} (h : R Λ ρ S w) (B : Nat → Prop)
    (hext : Ext ρ ρ') (hoth : ∀ i g, i ≠ id → ρ' i g = ρ i g) (hout : Outer w w')
    (hsz : w.heap.size ≤ w'.heap.size) (hkeep : ∀ k, k < w.heap.size → ¬ B k → w'.heap[k]? = w.heap[k]?)
    (hB : ∀ k, k < w.heap.size → B k → ∃ o g pl, S.h.get id = some o ∧ ¬ Frz o ∧ ρ id g = some pl ∧ pl.b = k)
    (hfz : ∀ o, S.h.get id = some o → Frz o → Frz o')
    (hB' : ∀ i o g pl, i ≠ id → S.h.get i = some o → ρ i g = some pl → ¬ B pl.b)
    (hobj : ORel ρ' w' id o') (htop : ∀ cells low top frz ty, o' = .row cells low top frz ty → ∀ g, top < g → ρ' id g = none)
    (hlt : ∀ g pl, ρ' id g = some pl → pl.b < w'.heap.size ∧ ((∃ o g', S.h.get id = some o ∧ ∃ pl', ρ id g' = some pl' ∧ pl'.b = pl.b) ∨ w.heap.size ≤ pl.b))
    (hnext : S.next ≤ next') (hid : id < next') (hfr : ∀ g i, next' ≤ i → ρ' i g = none)
    (hpres : (∃ o, S.h.get id = some o) ∨ S.next ≤ id) :
    R Λ ρ' ⟨S.h.set id o', next'⟩ w' ∧ Kp ρ S w ρ' ⟨S.h.set id o', next'⟩ w' := by
  have hap : ∀ i o g g' pl pl', i ≠ id → S.h.get i = some o → ρ i g = some pl → ρ' id g' = some pl' → pl.b ≠ pl'.b ∨ (Frz o ∧ Frz o') := by
    intro i o g g' pl pl' hne ho hp hp'
    rcases (hlt g' pl' hp').2 with ⟨o2, g2, ho2, pl2, hp2, e2⟩ | hge
    · rcases h.apart i id o o2 g g2 pl pl2 hne ho ho2 hp hp2 with h1 | h1
      · exact .inl (by rw [← e2]; exact h1)
      · exact .inr ⟨h1.1, hfz o2 ho2 h1.2⟩
    · have := h.lt i o g pl ho hp
      exact .inl (by omega)
  have hget : ∀ i, i ≠ id → (S.h.set id o').get i = S.h.get i := fun i hi => get_set_ne _ _ hi
  have hmine : ∀ b, Mine ρ' ⟨S.h.set id o', next'⟩ b → Mine ρ S b ∨ w.heap.size ≤ b := by
    rintro b ⟨i, o, g, pl, ho, hp, rfl⟩
    by_cases hi : i = id
    · subst hi
      rcases (hlt g pl hp).2 with ⟨o2, g2, ho2, pl2, hp2, e2⟩ | hge
      · exact .inl ⟨i, o2, g2, pl2, ho2, hp2, e2⟩
      · exact .inr hge
    · have ho' : S.h.get i = some o := by rw [← hget i hi]; exact ho
      rw [hoth i g hi] at hp
      exact .inl ⟨i, o, g, pl, ho', hp, rfl⟩
  have hwrt : ∀ b, Wrt ρ' ⟨S.h.set id o', next'⟩ b → Wrt ρ S b ∨ w.heap.size ≤ b := by
    rintro b ⟨i, o, g, pl, ho, hnf, hp, rfl⟩
    by_cases hi : i = id
    · subst hi
      rcases (hlt g pl hp).2 with ⟨o2, g2, ho2, pl2, hp2, e2⟩ | hge
      · refine .inl ⟨i, o2, g2, pl2, ho2, fun hf => hnf ?_, hp2, e2⟩
        have hg : (S.h.set i o').get i = some o := ho
        rw [get_set_same] at hg
        cases hg
        exact hfz o2 ho2 hf
      · exact .inr hge
    · have ho' : S.h.get i = some o := by rw [← hget i hi]; exact ho
      rw [hoth i g hi] at hp
      exact .inl ⟨i, o, g, pl, ho', hnf, hp, rfl⟩
  refine ⟨⟨?_, ?_, fun i g => hfr g i, ?_, ?_, ?_, Nat.le_trans h.start hsz, ?_⟩, ⟨hext, hout.os, hout.tape, hout.output, hsz, ?_, hmine, hwrt, hnext, ?_⟩⟩
  · intro i o ho
    by_cases hi : i = id
    · subst hi; rw [get_set_same] at ho; cases ho; exact hobj
    · rw [hget i hi] at ho
      refine (h.objs i o ho).keep hext fun g pl hp => hkeep _ (h.lt i o g pl ho hp) (hB' i o g pl hi ho hp)
  · intro i o ho
    by_cases hi : i = id
    · subst hi; exact hid
    · rw [hget i hi] at ho; exact Nat.lt_of_lt_of_le (h.dom i o ho) hnext
  · intro i cells low top frz ty ho g hg
    by_cases hi : i = id
    · subst hi; rw [get_set_same] at ho; cases ho; exact htop _ _ _ _ _ rfl g hg
    · rw [hget i hi] at ho; rw [hoth i g hi]; exact h.topg i cells low top frz ty ho g hg
  · intro i o g pl ho hp
    by_cases hi : i = id
    · subst hi; exact (hlt g pl hp).1
    · rw [hget i hi] at ho; rw [hoth i g hi] at hp; exact Nat.lt_of_lt_of_le (h.lt i o g pl ho hp) hsz
  · intro i j o oj g gj pl plj hij ho hoj hp hpj
    by_cases hi : i = id
    · subst hi
      have hj : j ≠ i := fun e => hij e.symm
      rw [hget j hj] at hoj; rw [hoth j gj hj] at hpj
      rw [get_set_same] at ho
      cases ho
      rcases hap j oj gj g plj pl hj hoj hpj hp with h1 | h1
      · exact .inl fun e => h1 e.symm
      · exact .inr ⟨h1.2, h1.1⟩
    · rw [hget i hi] at ho; rw [hoth i g hi] at hp
      by_cases hj : j = id
      · subst hj
        rw [get_set_same] at hoj
        cases hoj
        exact hap i o g gj pl plj hi ho hp hpj
      · rw [hget j hj] at hoj; rw [hoth j gj hj] at hpj
        exact h.apart i j o oj g gj pl plj hij ho hoj hp hpj
  · intro b hb
    obtain ⟨d1, d2, d3⟩ := h.base b hb
    have d1' := Nat.lt_of_lt_of_le d1 h.start
    exact ⟨d1, (hkeep b d1' fun hBb => d3 (let ⟨o, g, pl, x1, x2, x3, x4⟩ := hB b d1' hBb; ⟨id, o, g, pl, x1, x2, x3, x4⟩)).trans d2, fun hm => (hwrt b hm).elim d3 fun hge => absurd d1' (Nat.not_lt.2 hge)⟩
  · intro b hb hm
    exact hkeep b hb fun hBb => hm (let ⟨o, g, pl, x1, x2, x3, x4⟩ := hB b hb hBb; ⟨id, o, g, pl, x1, x2, x3, x4⟩)
  · intro i g hi hn
    have hne : i ≠ id := by
      rintro rfl
      rcases hpres with ⟨o, ho⟩ | hge
      · rw [ho] at hn; cases hn
      · omega
    exact ⟨hoth i g hne, by rw [hget i hne]; exact hn⟩

/-- The map of places, turned at one. -/
def put (ρ : Rho) (id g : Nat) (pl : Pl) : Rho := fun i j => if i = id ∧ j = g then some pl else ρ i j
theorem put_same (ρ : Rho) (id g : Nat) (pl : Pl) : put ρ id g pl id g = some pl := by simp [put]
theorem put_ne (ρ : Rho) {id g i j : Nat} (pl : Pl) (h : ¬ (i = id ∧ j = g)) : put ρ id g pl i j = ρ i j := by simp only [put, if_neg h]
theorem put_ext {ρ : Rho} {id g : Nat} (pl : Pl) (h : ρ id g = none) : Ext ρ (put ρ id g pl) := by
  intro i j p hp
  rw [put_ne _ _ (by rintro ⟨rfl, rfl⟩; rw [h] at hp; cases hp)]; exact hp

/-- Many cells, one beside the other. -/
theorem rel_point {ρ : Rho} {xs : List AV} {C : Array Value} (h : LRel ρ xs C.toList) (h1 : ∀ v, v ∈ C.toList → v.oneCell' = true) :
    ∀ i, i < xs.length → ∃ x v, xs[i]? = some x ∧ C[i]? = some v ∧ VRel ρ x v ∧ v.oneCell' = true := by
  intro i hi
  obtain ⟨x, hx⟩ : ∃ x, xs[i]? = some x := ⟨xs[i], by simp [List.getElem?_eq_getElem hi]⟩
  obtain ⟨v, hv, hr⟩ := h.get hx
  exact ⟨x, v, hx, by simpa using hv, hr, h1 v (List.mem_of_getElem? hv)⟩

/-- A NEW ROW. -/
theorem R.newRowF {ρ : Rho} {S : AS} {w w' : World} {cells : List AV} {C : Array Value} {e : TypeId} {fr : Nat × Nat} {frz : Bool} (h : R Λ ρ S w) (hg : Grew (.cells C e fr) w w') (hfr : frz = false → ∀ i, i ≤ C.size → froz fr i = false)
    (hl : LRel ρ cells (C.toList.take cells.length)) (hC : cells.length ≤ C.size) (h1 : OnesC C) :
    ∃ ρ' pl, ρ' S.next 0 = some pl ∧ pl.b = w.heap.size ∧ pl.base = 0 ∧ pl.n = cells.length ∧ pl.N = C.size ∧
      R Λ ρ' ⟨S.h.set S.next (.row cells 0 0 frz e), S.next + 1⟩ w' ∧ Kp ρ S w ρ' ⟨S.h.set S.next (.row cells 0 0 frz e), S.next + 1⟩ w' := by
  have hx := put_ext (ρ := ρ) (id := S.next) (g := 0) ⟨w.heap.size, 0, cells.length, C.size, by simpa using hC⟩ (h.fresh _ _ (Nat.le_refl _))
  refine ⟨put ρ S.next 0 ⟨w.heap.size, 0, cells.length, C.size, by simpa using hC⟩, _, put_same _ _ _ _, rfl, rfl, rfl, rfl, ?_⟩
  refine h.change (fun _ => False) hx ?_ hg.toOuter ?_ ?_ ?_ ?_ ?_ ?_ ?_ ?_ ?_ ?_ ?_ ?_
  · exact fun i g hi => put_ne _ _ (fun e => hi e.1)
  · rw [hg.size]; omega
  · exact fun k hk _ => hg.old k hk
  · exact fun _ _ hf => hf.elim
  · exact fun o ho _ => absurd (h.dom _ o ho) (Nat.lt_irrefl _)
  · exact fun _ _ _ _ _ _ _ hf => hf
  · refine ⟨Nat.le_refl _, fun g _ hg0 => ?_, fun g k p q _ a2 _ a4 hp1 hq1 _ => by
      obtain rfl : g = 0 := by omega
      obtain rfl : k = 0 := by omega
      rw [hp1] at hq1; cases hq1; rfl⟩
    obtain rfl : g = 0 := by omega
    refine ⟨_, C, fr, put_same _ _ _ _, hg.at, rfl, by simpa using hC, Nat.le_refl _, fun i hi => ?_, fun _ => rfl, hfr, fun _ => rfl, fun _ => h1⟩
    dsimp only at hi ⊢
    obtain ⟨x, hxx⟩ : ∃ x, cells[i]? = some x := ⟨cells[i], by simp [List.getElem?_eq_getElem hi]⟩
    obtain ⟨v, hv, hr⟩ := hl.get hxx
    rw [List.getElem?_take, if_pos hi] at hv
    exact ⟨x, v, hxx, by simpa using hv, hr.mono hx _ _, h1 i v (by simpa using hv)⟩
  · intro cells' low top frz ty he g hgt
    cases he
    rw [put_ne _ _ (by omega)]
    exact h.fresh _ _ (Nat.le_refl _)
  · intro g pl hp
    by_cases hg0 : g = 0
    · subst hg0; rw [put_same] at hp; cases hp; exact ⟨by rw [hg.size]; simp, .inr (Nat.le_refl _)⟩
    · rw [put_ne _ _ (by omega), h.fresh _ _ (Nat.le_refl _)] at hp; cases hp
  · omega
  · omega
  · intro g i hi
    rw [put_ne _ _ (by omega)]
    exact h.fresh _ _ (by omega)
  · exact .inr (Nat.le_refl _)

theorem R.newRow {ρ : Rho} {S : AS} {w w' : World} {cells : List AV} {C : Array Value} {e : TypeId} (h : R Λ ρ S w) (hg : Grew (.cells C e) w w')
    (hl : LRel ρ cells (C.toList.take cells.length)) (hC : cells.length ≤ C.size) (h1 : OnesC C) :
    ∃ ρ' pl, ρ' S.next 0 = some pl ∧ pl.b = w.heap.size ∧ pl.base = 0 ∧ pl.n = cells.length ∧ pl.N = C.size ∧
      R Λ ρ' ⟨S.h.set S.next (.row cells 0 0 false e), S.next + 1⟩ w' ∧ Kp ρ S w ρ' ⟨S.h.set S.next (.row cells 0 0 false e), S.next + 1⟩ w' :=
  h.newRowF hg (fun _ i _ => by simp [froz]) hl hC h1

/-- A NEW MAP. -/
theorem R.newMap {ρ : Rho} {S : AS} {w w' : World} {es : List AEnt} {clock : Nat} {ES : Array MapEntry} (h : R Λ ρ S w) (hg : Grew (.map ES clock) w w') (hl : ERel ρ es ES.toList) :
    ∃ ρ' pl, ρ' S.next 0 = some pl ∧ pl.b = w.heap.size ∧ R Λ ρ' ⟨S.h.set S.next (.map es clock), S.next + 1⟩ w' ∧ Kp ρ S w ρ' ⟨S.h.set S.next (.map es clock), S.next + 1⟩ w' := by
  have hx := put_ext (ρ := ρ) (id := S.next) (g := 0) ⟨w.heap.size, 0, 0, 0, Nat.le_refl _⟩ (h.fresh _ _ (Nat.le_refl _))
  refine ⟨put ρ S.next 0 ⟨w.heap.size, 0, 0, 0, Nat.le_refl _⟩, _, put_same _ _ _ _, rfl, ?_⟩
  refine h.change (fun _ => False) hx ?_ hg.toOuter ?_ ?_ ?_ ?_ ?_ ?_ ?_ ?_ ?_ ?_ ?_ ?_
  · exact fun i g hi => put_ne _ _ (fun e => hi e.1)
  · rw [hg.size]; omega
  · exact fun k hk _ => hg.old k hk
  · exact fun _ _ hf => hf.elim
  · exact fun o ho _ => absurd (h.dom _ o ho) (Nat.lt_irrefl _)
  · exact fun _ _ _ _ _ _ _ hf => hf
  · exact ⟨_, ES, put_same _ _ _ _, hg.at, hl.mono hx⟩
  · intro cells' low top frz ty he; cases he
  · intro g pl hp
    by_cases hg0 : g = 0
    · subst hg0; rw [put_same] at hp; cases hp; exact ⟨by rw [hg.size]; simp, .inr (Nat.le_refl _)⟩
    · rw [put_ne _ _ (by omega), h.fresh _ _ (Nat.le_refl _)] at hp; cases hp
  · omega
  · omega
  · intro g i hi
    rw [put_ne _ _ (by omega)]
    exact h.fresh _ _ (by omega)
  · exact .inr (Nat.le_refl _)

/-- A MAP TURNS. -/
theorem R.setMap {ρ : Rho} {S : AS} {w w' : World} {id : Nat} {o : AObj} {pl : Pl} {es : List AEnt} {clock : Nat} {ES : Array MapEntry} (h : R Λ ρ S w)
    (ho : S.h.get id = some o) (hnr : ∀ a b c d t, o ≠ .row a b c d t) (hp : ρ id 0 = some pl) (hb : But pl.b w w') (hw : w'.heap[pl.b]? = some (.map ES clock)) (hl : ERel ρ es ES.toList) :
    R Λ ρ ⟨S.h.set id (.map es clock), S.next⟩ w' ∧ Kp ρ S w ρ ⟨S.h.set id (.map es clock), S.next⟩ w' := by
  refine h.change (fun k => k = pl.b) (Ext.refl _) (fun _ _ _ => rfl) hb.toOuter (Nat.le_of_eq hb.size.symm) (fun k _ hk => hb.same k hk) ?_ ?_ ?_ ?_ ?_ ?_ (Nat.le_refl _) (h.dom id o ho) (fun g i hi => h.fresh i g hi) (.inl ⟨o, ho⟩)
  · rintro k _ rfl; exact ⟨o, 0, pl, ho, frz_no hnr, hp, rfl⟩
  · intro o2 ho2 hf; rw [ho] at ho2; cases ho2; exact (frz_no hnr hf).elim
  · intro i oi g pli hi hoi hpi he
    exact (h.apart i id oi o g 0 pli pl hi hoi ho hpi hp).elim (fun h1 => h1 he) (fun h1 => frz_no hnr h1.2)
  · exact ⟨pl, ES, hp, hw, hl⟩
  · intro a b c d t he; cases he
  · intro g pl' hp'
    exact ⟨by rw [hb.size]; exact h.lt id o g pl' ho hp', .inl ⟨o, g, ho, pl', hp', rfl⟩⟩

/-- ANOTHER NEW OBJECT. -/
theorem R.newOth {ρ : Rho} {S : AS} {w w' : World} {x : AOth} {o : Obj} (h : R Λ ρ S w) (hg : Grew o w w') (hl : OthRel ρ x o) :
    ∃ ρ' pl, ρ' S.next 0 = some pl ∧ pl.b = w.heap.size ∧ pl.base = 0 ∧ R Λ ρ' ⟨S.h.set S.next (.oth x), S.next + 1⟩ w' ∧ Kp ρ S w ρ' ⟨S.h.set S.next (.oth x), S.next + 1⟩ w' := by
  have hx := put_ext (ρ := ρ) (id := S.next) (g := 0) ⟨w.heap.size, 0, 0, 0, Nat.le_refl _⟩ (h.fresh _ _ (Nat.le_refl _))
  refine ⟨put ρ S.next 0 ⟨w.heap.size, 0, 0, 0, Nat.le_refl _⟩, _, put_same _ _ _ _, rfl, rfl, ?_⟩
  refine h.change (fun _ => False) hx ?_ hg.toOuter ?_ ?_ ?_ ?_ ?_ ?_ ?_ ?_ ?_ ?_ ?_ ?_
  · exact fun i g hi => put_ne _ _ (fun e => hi e.1)
  · rw [hg.size]; omega
  · exact fun k hk _ => hg.old k hk
  · exact fun _ _ hf => hf.elim
  · exact fun o ho _ => absurd (h.dom _ o ho) (Nat.lt_irrefl _)
  · exact fun _ _ _ _ _ _ _ hf => hf
  · exact ⟨_, o, put_same _ _ _ _, hg.at, hl.mono hx, rfl⟩
  · intro cells' low top frz ty he; cases he
  · intro g pl hp
    by_cases hg0 : g = 0
    · subst hg0; rw [put_same] at hp; cases hp; exact ⟨by rw [hg.size]; simp, .inr (Nat.le_refl _)⟩
    · rw [put_ne _ _ (by omega), h.fresh _ _ (Nat.le_refl _)] at hp; cases hp
  · omega
  · omega
  · intro g i hi
    rw [put_ne _ _ (by omega)]
    exact h.fresh _ _ (by omega)
  · exact .inr (Nat.le_refl _)

/-- ANOTHER OBJECT TURNS. -/
theorem R.setOth {ρ : Rho} {S : AS} {w w' : World} {id : Nat} {o : AObj} {pl : Pl} {x : AOth} {O : Obj} (h : R Λ ρ S w)
    (ho : S.h.get id = some o) (hnr : ∀ a b c d t, o ≠ .row a b c d t) (hp : ρ id 0 = some pl) (hb : But pl.b w w') (hw : w'.heap[pl.b]? = some O) (hl : OthRel ρ x O) (hb0 : pl.base = 0) :
    R Λ ρ ⟨S.h.set id (.oth x), S.next⟩ w' ∧ Kp ρ S w ρ ⟨S.h.set id (.oth x), S.next⟩ w' := by
  refine h.change (fun k => k = pl.b) (Ext.refl _) (fun _ _ _ => rfl) hb.toOuter (Nat.le_of_eq hb.size.symm) (fun k _ hk => hb.same k hk) ?_ ?_ ?_ ?_ ?_ ?_ (Nat.le_refl _) (h.dom id o ho) (fun g i hi => h.fresh i g hi) (.inl ⟨o, ho⟩)
  · rintro k _ rfl; exact ⟨o, 0, pl, ho, frz_no hnr, hp, rfl⟩
  · intro o2 ho2 hf; rw [ho] at ho2; cases ho2; exact (frz_no hnr hf).elim
  · intro i oi g pli hi hoi hpi he
    exact (h.apart i id oi o g 0 pli pl hi hoi ho hpi hp).elim (fun h1 => h1 he) (fun h1 => frz_no hnr h1.2)
  · exact ⟨pl, O, hp, hw, hl, hb0⟩
  · intro a b c d t he; cases he
  · intro g pl' hp'
    exact ⟨by rw [hb.size]; exact h.lt id o g pl' ho hp', .inl ⟨o, g, ho, pl', hp', rfl⟩⟩

/-- CELLS ARE WRITTEN, through the last generation. -/
theorem R.write {ρ : Rho} {S : AS} {w w' : World} {id low top : Nat} {cells cells' : List AV} {pl : Pl} {C C' : Array Value} {e : TypeId} {fr : Nat × Nat} (h : R Λ ρ S w)
    (ho : S.h.get id = some (.row cells low top false e)) (hp : ρ id top = some pl) (hw : w.heap[pl.b]? = some (.cells C e fr))
    (hb : But pl.b w w') (hw' : w'.heap[pl.b]? = some (.cells C' e fr)) (hC : C'.size = C.size) (hc : cells'.length = cells.length)
    (hone : OnesC C → OnesC C')
    (hpt : ∀ i, i < cells.length → ∃ x v, cells'[i]? = some x ∧ C'[pl.base + i]? = some v ∧ VRel ρ x v ∧ v.oneCell' = true) :
    R Λ ρ ⟨S.h.set id (.row cells' top top false e), S.next⟩ w' ∧ Kp ρ S w ρ ⟨S.h.set id (.row cells' top top false e), S.next⟩ w' := by
  obtain ⟨hlt, hgs, _⟩ := h.objs id _ ho
  obtain ⟨pl', D, fr', g1, g2, g3, g4, g5, g6, g7, g8, g9⟩ := hgs top hlt (Nat.le_refl _)
  rw [hp] at g1; cases g1
  rw [hw] at g2; cases g2
  refine h.change (fun k => k = pl.b) (Ext.refl _) (fun _ _ _ => rfl) hb.toOuter (Nat.le_of_eq hb.size.symm) (fun k _ hk => hb.same k hk) ?_ ?_ ?_ ?_ ?_ ?_ (Nat.le_refl _) (h.dom id _ ho) (fun g i hi => h.fresh i g hi) (.inl ⟨_, ho⟩)
  · rintro k _ rfl; exact ⟨_, top, pl, ho, frz_free, hp, rfl⟩
  · intro o2 ho2 hf; rw [ho] at ho2; cases ho2; exact (frz_free hf).elim
  · intro i oi g pli hi hoi hpi he
    exact (h.apart i id oi _ g top pli pl hi hoi ho hpi hp).elim (fun h1 => h1 he) (fun h1 => frz_free h1.2)
  · refine ⟨Nat.le_refl _, fun g h1 h2 => ?_, fun g k p q a1 a2 a3 a4 hp1 hq1 _ => by
      obtain rfl : g = top := by omega
      obtain rfl : k = g := by omega
      rw [hp1] at hq1; cases hq1; rfl⟩
    obtain rfl : g = top := by omega
    refine ⟨pl, C', fr, hp, hw', hC.trans g3, g4, by rw [g7 rfl, hc]; exact Nat.le_refl _, fun i hi => hpt i (by rw [g7 rfl] at hi; exact hi), fun _ => by rw [g7 rfl, hc], g8, g9.1, fun h => hone (g9.2 h)⟩
  · intro a b c d t he g hg
    cases he
    exact h.topg id _ _ _ _ _ ho g hg
  · intro g pl' hp'
    exact ⟨by rw [hb.size]; exact h.lt id _ g pl' ho hp', .inl ⟨_, g, ho, pl', hp', rfl⟩⟩

/-- A NEW GENERATION: in the row's last block, or in a new one; the older ones stay (low), or go. -/
theorem R.gen {ρ : Rho} {S : AS} {w w' : World} {id low top low' : Nat} {cells cells' : List AV} {frz : Bool} {ty : TypeId} {pl : Pl} (h : R Λ ρ S w)
    (ho : S.h.get id = some (.row cells low top frz ty)) (hlow' : low ≤ low') (hlt' : low' ≤ top + 1)
    (hout : Outer w w') (hsz : w.heap.size ≤ w'.heap.size)
    (hkeep : ∀ k, k < w.heap.size → k ≠ pl.b → w'.heap[k]? = w.heap[k]?)
    (hpl : (∃ g pl', ρ id g = some pl' ∧ pl'.b = pl.b) ∨ w.heap.size ≤ pl.b) (hpb : pl.b < w'.heap.size)
    (hfalse : frz = false)
    (hnew : GRel (put ρ id (top + 1) pl) w' cells' (top + 1) false ty id (top + 1))
    (hold : ∀ g, low' ≤ g → g ≤ top → GRel (put ρ id (top + 1) pl) w' cells' (top + 1) false ty id g)
    (hsb : ∀ g p, low' ≤ g → g ≤ top → ρ id g = some p → p.b = pl.b → p.base = pl.base) :
    R Λ (put ρ id (top + 1) pl) ⟨S.h.set id (.row cells' low' (top + 1) false ty), S.next⟩ w' ∧
      Kp ρ S w (put ρ id (top + 1) pl) ⟨S.h.set id (.row cells' low' (top + 1) false ty), S.next⟩ w' := by
  subst hfalse
  have hx := put_ext (ρ := ρ) (id := id) (g := top + 1) pl (h.topg id _ _ _ _ _ ho _ (by omega))
  refine h.change (fun k => k = pl.b ∧ k < w.heap.size) hx (fun i g hi => put_ne _ _ (fun e => hi e.1)) hout hsz (fun k hk hk' => hkeep k hk (fun e => hk' ⟨e, hk⟩)) ?_ ?_ ?_ ?_ ?_ ?_ (Nat.le_refl _) (h.dom id _ ho) ?_ (.inl ⟨_, ho⟩)
  · rintro k hk ⟨rfl, _⟩
    rcases hpl with ⟨g, pl', hp', e'⟩ | hge
    · exact ⟨_, g, pl', ho, frz_free, hp', e'⟩
    · omega
  · intro o2 ho2 hf; rw [ho] at ho2; cases ho2; exact (frz_free hf).elim
  · rintro i oi g pli hi hoi hpi ⟨he, hlt⟩
    rcases hpl with ⟨g', pl', hp', e'⟩ | hge
    · exact (h.apart i id oi _ g g' pli pl' hi hoi ho hpi hp').elim (fun h1 => h1 (by rw [e']; exact he)) (fun h1 => frz_free h1.2)
    · omega
  · refine ⟨hlt', fun g h1 h2 => ?_, fun g k p q a1 a2 a3 a4 hp hq hb => ?_⟩
    · by_cases hg : g = top + 1
      · subst hg; exact hnew
      · exact hold g h1 (by omega)
    · by_cases hg : g = top + 1
      · subst hg
        rw [put_same] at hp; cases hp
        by_cases hk : k = top + 1
        · subst hk; rw [put_same] at hq; cases hq; rfl
        · rw [put_ne _ _ (by omega)] at hq
          exact (hsb k q a3 (by omega) hq hb.symm).symm
      · rw [put_ne _ _ (by omega)] at hp
        by_cases hk : k = top + 1
        · subst hk; rw [put_same] at hq; cases hq
          exact hsb g p a1 (by omega) hp hb
        · rw [put_ne _ _ (by omega)] at hq
          exact (h.objs id _ ho).2.2 g k p q (Nat.le_trans hlow' a1) (by omega) (Nat.le_trans hlow' a3) (by omega) hp hq hb
  · intro a b c d t he g hg
    cases he
    rw [put_ne _ _ (by omega)]
    exact h.topg id _ _ _ _ _ ho g (by omega)
  · intro g pl' hp'
    by_cases hg : g = top + 1
    · subst hg; rw [put_same] at hp'; cases hp'
      refine ⟨hpb, ?_⟩
      rcases hpl with ⟨g, pl', hp', e'⟩ | hge
      · exact .inl ⟨_, g, ho, pl', hp', e'⟩
      · exact .inr hge
    · rw [put_ne _ _ (by omega)] at hp'
      exact ⟨Nat.lt_of_lt_of_le (h.lt id _ g pl' ho hp') hsz, .inl ⟨_, g, ho, pl', hp', rfl⟩⟩
  · intro g i hi
    rw [put_ne _ _ (by rintro ⟨rfl, _⟩; exact absurd (h.dom _ _ ho) (Nat.not_lt.2 hi))]
    exact h.fresh i g hi

end Go.Am
