/-
  The abstract machine: arguments that lie in memory. What a reading of integers, truths, texts, records and slices of them tells, laid as rows from outside.
-/
import Derived.Test.YtpgmahedcpepkaaGreatDoorAmStill
import Derived.ChangeSlices
import Derived.ChangeArms
import Derived.DataReads
import Derived.SizedLaws
namespace Go.Am
open Go Go.RowKit
variable {Λ : LB}

/-- Memory that holds nothing but rows from outside. -/
def OutS (S : AS) : Prop := ∀ id o, S.h.get id = some o → Frz o
structure Grows (S : AS) (ρ : Rho) (S' : AS) (ρ' : Rho) : Prop where
  ext : Ext ρ ρ'
  h : ∀ id o, S.h.get id = some o → S'.h.get id = some o
  next : S.next ≤ S'.next
theorem Grows.refl (S : AS) (ρ : Rho) : Grows S ρ S ρ := ⟨Ext.refl _, fun _ _ h => h, Nat.le_refl _⟩
theorem Grows.trans {A B C : AS} {a b c : Rho} (h : Grows A a B b) (k : Grows B b C c) : Grows A a C c := ⟨h.ext.trans k.ext, fun id o x => k.h id o (h.h id o x), Nat.le_trans h.next k.next⟩

theorem R.outRow {ρ : Rho} {S : AS} {w : World} (h : R Λ ρ S w) (hz : OutS S) {b off : Nat} {C : Array Value} {ty : TypeId} {fr : Nat × Nat} {cells : List AV} (hw : w.heap[b]? = some (.cells C ty fr)) (hle : off + cells.length ≤ C.size)
    (hpt : ∀ i, i < cells.length → ∃ x v, cells[i]? = some x ∧ C[off + i]? = some v ∧ VRel ρ x v ∧ v.oneCell' = true) :
    ∃ ρ' pl, ρ' S.next 1 = some pl ∧ pl.b = b ∧ pl.base = off ∧ pl.n = cells.length ∧ pl.N = C.size ∧ R Λ ρ' ⟨S.h.set S.next (.row cells 1 1 true ty), S.next + 1⟩ w ∧
      Grows S ρ ⟨S.h.set S.next (.row cells 1 1 true ty), S.next + 1⟩ ρ' ∧ OutS ⟨S.h.set S.next (.row cells 1 1 true ty), S.next + 1⟩ := by
  have hx := put_ext (ρ := ρ) (id := S.next) (g := 1) ⟨b, off, cells.length, C.size, hle⟩ (h.fresh _ _ (Nat.le_refl _))
  have hne : ∀ id o, S.h.get id = some o → id ≠ S.next := fun id o ho e => by subst e; exact absurd (h.dom _ _ ho) (Nat.lt_irrefl _)
  have hget : ∀ id, id ≠ S.next → (S.h.set S.next (.row cells 1 1 true ty)).get id = S.h.get id := fun id hi => get_set_ne _ _ hi
  have hrho : ∀ id g, id ≠ S.next → put ρ S.next 1 ⟨b, off, cells.length, C.size, hle⟩ id g = ρ id g := fun id g hi => put_ne _ _ (fun e => hi e.1)
  have hout : OutS ⟨S.h.set S.next (.row cells 1 1 true ty), S.next + 1⟩ := by
    intro id o ho
    by_cases hi : id = S.next
    · subst hi
      have ho' : (S.h.set S.next (.row cells 1 1 true ty)).get S.next = some o := ho
      rw [get_set_same] at ho'
      cases ho'
      exact ⟨_, _, _, _, rfl⟩
    · exact hz id o (by rw [← hget id hi]; exact ho)
  refine ⟨put ρ S.next 1 ⟨b, off, cells.length, C.size, hle⟩, _, put_same _ _ _ _, rfl, rfl, rfl, rfl, ?_, ⟨hx, fun id o ho => ?_, Nat.le_succ _⟩, hout⟩
  · refine ⟨fun id o ho => ?_, fun id o ho => ?_, fun id g hi => ?_, fun id c l t f y ho g hg => ?_, fun id o g pl ho hp => ?_, fun i j o oj g gj pl plj hij ho hoj hp hpj => .inr ⟨hout i o ho, hout j oj hoj⟩, h.start, fun b' hb => ?_⟩
    · by_cases hi : id = S.next
      · subst hi
        have ho' : (S.h.set S.next (.row cells 1 1 true ty)).get S.next = some o := ho
        rw [get_set_same] at ho'
        cases ho'
        refine ⟨Nat.le_refl _, fun g h1 h2 => ?_, fun g k p q h1 h2 h3 h4 hp hq _ => ?_⟩
        · obtain rfl : g = 1 := by omega
          refine ⟨_, C, fr, put_same _ _ _ _, hw, rfl, hle, Nat.le_refl _, fun i hi => ?_, fun _ => rfl, fun e => by (cases e), fun e => by (cases e), fun e => by (cases e)⟩
          obtain ⟨x, v, a1, a2, a3, a4⟩ := hpt i hi
          exact ⟨x, v, a1, a2, a3.mono hx _ _, a4⟩
        · obtain rfl : g = 1 := by omega
          obtain rfl : k = 1 := by omega
          rw [hp] at hq; cases hq; rfl
      · have ho' : S.h.get id = some o := by rw [← hget id hi]; exact ho
        exact (h.objs id o ho').keep hx fun g pl _ => rfl
    · by_cases hi : id = S.next
      · subst hi; exact Nat.lt_succ_self _
      · exact Nat.lt_succ_of_lt (h.dom id o (by rw [← hget id hi]; exact ho))
    · have : S.next + 1 ≤ id := hi
      rw [hrho id g (by omega)]; exact h.fresh id g (by omega)
    · by_cases hi : id = S.next
      · subst hi
        have ho' : (S.h.set S.next (.row cells 1 1 true ty)).get S.next = some (.row c l t f y) := ho
        rw [get_set_same] at ho'
        cases ho'
        rw [put_ne _ _ (by omega)]; exact h.fresh _ _ (Nat.le_refl _)
      · rw [hrho id g hi]; exact h.topg id c l t f y (by rw [← hget id hi]; exact ho) g hg
    · by_cases hi : id = S.next
      · subst hi
        by_cases hg : g = 1
        · subst hg; rw [put_same] at hp; cases hp; exact (Array.getElem?_eq_some_iff.1 hw).1
        · rw [put_ne _ _ (by omega), h.fresh _ _ (Nat.le_refl _)] at hp; cases hp
      · rw [hrho id g hi] at hp
        exact h.lt id o g pl (by rw [← hget id hi]; exact ho) hp
    · obtain ⟨d1, d2, _⟩ := h.base b' hb
      exact ⟨d1, d2, fun ⟨i, o, g, pl, ho, hnf, _⟩ => hnf (hout i o ho)⟩
  · show (S.h.set S.next (.row cells 1 1 true ty)).get id = some o
    rw [hget id (hne id o ho)]; exact ho
/-- A number that stands for no object. -/
theorem R.outNone {ρ : Rho} {S : AS} {w : World} (h : R Λ ρ S w) (hz : OutS S) :
    ∃ ρ' pl, ρ' S.next 1 = some pl ∧ R Λ ρ' ⟨S.h, S.next + 1⟩ w ∧ Grows S ρ ⟨S.h, S.next + 1⟩ ρ' ∧ OutS ⟨S.h, S.next + 1⟩ := by
  have hx := put_ext (ρ := ρ) (id := S.next) (g := 1) ⟨0, 0, 0, 0, Nat.le_refl _⟩ (h.fresh _ _ (Nat.le_refl _))
  have hne : ∀ id o, S.h.get id = some o → id ≠ S.next := fun id o ho e => by subst e; exact absurd (h.dom _ _ ho) (Nat.lt_irrefl _)
  have hrho : ∀ id g, id ≠ S.next → put ρ S.next 1 ⟨0, 0, 0, 0, Nat.le_refl _⟩ id g = ρ id g := fun id g hi => put_ne _ _ (fun e => hi e.1)
  refine ⟨put ρ S.next 1 ⟨0, 0, 0, 0, Nat.le_refl _⟩, _, put_same _ _ _ _, ?_, ⟨hx, fun id o ho => ho, Nat.le_succ _⟩, hz⟩
  refine ⟨fun id o ho => (h.objs id o ho).keep hx fun g pl _ => rfl, fun id o ho => Nat.lt_succ_of_lt (h.dom id o ho), fun id g hi => ?_, fun id c l t f y ho g hg => ?_, fun id o g pl ho hp => ?_, fun i j o oj g gj pl plj hij ho hoj hp hpj => .inr ⟨hz i o ho, hz j oj hoj⟩, h.start, fun b' hb => ?_⟩
  · have : S.next + 1 ≤ id := hi
    rw [hrho id g (by omega)]; exact h.fresh id g (by omega)
  · rw [hrho id g (hne id _ ho)]; exact h.topg id c l t f y ho g hg
  · rw [hrho id g (hne id _ ho)] at hp; exact h.lt id o g pl ho hp
  · obtain ⟨d1, d2, _⟩ := h.base b' hb
    exact ⟨d1, d2, fun ⟨i, o, g, pl, ho, hnf, _⟩ => hnf (hz i o ho)⟩

/-! ### What is read -/
/-- A record's fields, one behind the other. -/
def fieldsA (sz : TypeId → Option Nat) (T : TypeId → List AV → Prop) : List TypeId → List AV → Prop
  | [], l => l = []
  | t :: ts, l => ∃ a b, l = a ++ b ∧ sz t = some a.length ∧ T t a ∧ fieldsA sz T ts b
noncomputable def typedA (cx : Cx) (S : AS) : Nat → TypeId → List AV → Prop
  | 0, _, _ => False
  | m + 1, t, l => match und cx t with
    | some (.int k) => ∃ n, l = [.int k n] ∧ k.min ≤ n ∧ n ≤ k.max
    | some .bool => ∃ b, l = [.bool b]
    | some .string => ∃ s : List Nat, l = [.str s] ∧ s.length ≤ reachBytes ∧ ∀ c, c ∈ s → c < 256
    | some (.slice e) => l = [.nils] ∨ ∃ id len cap sz, l = [.slice id 1 0 len (cap * sz) sz (some cap)] ∧ szOf cx e = some sz ∧ 0 < sz ∧ len ≤ cap ∧ cap ≤ maxLen ∧ (∀ bs, bytesOf cx e = some bs → cap * bs ≤ reachBytes) ∧ id < S.next ∧
        (cap = 0 ∨ ∃ cells ty, S.h.get id = some (.row cells 1 1 true ty) ∧ cells.length = cap * sz ∧ ∀ i, i < cap → typedA cx S m e ((cells.drop (i * sz)).take sz))
    | some (.struct fs) => fieldsA (szOf cx) (typedA cx S m) (fs.toList.map (·.type)) l
    | _ => False
/-- The types that are read so. -/
noncomputable def tilesF (cx : Cx) : List Field → Nat → Nat → Bool
  | [], off, n => Nat.beq off n
  | f :: fs, off, n => Nat.beq f.offset off && (match szOf cx f.type with | some z => tilesF cx fs (off + z) n | none => false)
noncomputable def plainT (cx : Cx) : Nat → TypeId → Bool
  | 0, _ => false
  | m + 1, t => match und cx t with
    | some (.int _) => true
    | some .bool => true
    | some .string => true
    | some (.slice e) => plainT cx m e && (match szOf cx e with | some (_ + 1) => true | _ => false)
    | some (.struct fs) => fs.toList.all (fun f => plainT cx m f.type) && (match szOf cx t with | some n => tilesF cx fs.toList 0 n | none => false)
    | _ => false

theorem fieldsA_mono {sz : TypeId → Option Nat} {T T' : TypeId → List AV → Prop} (h : ∀ t l, T t l → T' t l) : ∀ (ts : List TypeId) (l : List AV), fieldsA sz T ts l → fieldsA sz T' ts l
  | [], _, k => k
  | _ :: ts, _, ⟨a, b, e, s, x, y⟩ => ⟨a, b, e, s, h _ _ x, fieldsA_mono h ts _ y⟩
theorem typedA_mono {cx : Cx} {S S' : AS} (hh : ∀ id o, S.h.get id = some o → S'.h.get id = some o) (hn : S.next ≤ S'.next) : ∀ (m : Nat) (t : TypeId) (l : List AV), typedA cx S m t l → typedA cx S' m t l
  | 0, _, _, k => k
  | m + 1, t, l, k => by
    unfold typedA at k ⊢
    cases hu : und cx t with
    | none => rw [hu] at k; exact k.elim
    | some d =>
      rw [hu] at k
      cases d <;> simp only [] at k ⊢ <;> (try exact k)
      · rcases k with k | ⟨id, len, cap, sz, k1, k2, k3, k4, k5, kb, k6, k7⟩
        · exact .inl k
        · refine .inr ⟨id, len, cap, sz, k1, k2, k3, k4, k5, kb, Nat.lt_of_lt_of_le k6 hn, ?_⟩
          rcases k7 with k7 | ⟨cells, ty, k7, k8, k9⟩
          · exact .inl k7
          · exact .inr ⟨cells, ty, hh _ _ k7, k8, fun i hi => typedA_mono hh hn m _ _ (k9 i hi)⟩
      · exact fieldsA_mono (typedA_mono hh hn m) _ _ k

theorem addr_add_add (a : Addr) (x y : Nat) : (a.add x).add y = a.add (x + y) := by
  unfold Addr.add
  by_cases hx : x = 0 <;> by_cases hy : y = 0 <;> simp [hx, hy, Nat.add_assoc]

theorem mem_weightsAll {H : Type} {P : Program} {e : TypeId} {d : DataW H} {n : Nat} : ∀ {l : List (DataW H)}, d ∈ l → n ∈ d.weights P e → n ∈ DataW.weightsAll P e l
  | x :: l, h, hn => by
    simp only [DataW.weightsAll]
    rcases List.mem_cons.1 h with rfl | h
    · exact List.mem_append_left _ hn
    · exact List.mem_append_right _ (mem_weightsAll h hn)
theorem bytesOf_ok {P : Program} {cx : Cx} (hcx : CxOk Λ P cx) {t : TypeId} {n : Nat} (h : bytesOf cx t = some n) : P.bytesOf t = n := by
  unfold bytesOf at h
  cases hi : cx.tys.get t with
  | none => simp [hi] at h
  | some i =>
    simp only [hi, Option.some.injEq] at h
    simp [Program.bytesOf, hcx.tys t i hi, h]
section
variable {H : Type} {enc : TypeId × Value → H} {P : Program} {W : World} {base : Nat} {held : Bool} {cx : Cx}

theorem absorb (hcx : CxOk Λ P cx) : ∀ (m : Nat) (t : TypeId), plainT cx m t = true → ∀ (fuel : Nat) (cs : List Value) (x : DataW H × List MemPlace) (S : AS) (ρ : Rho), OutS S → R Λ ρ S W →
    DataW.trod enc P W base (fun _ => true) held fuel t cs = some x → (∀ n, n ∈ x.1.weights P t → n ≤ reachBytes) →
    ∃ S' ρ' avs, Grows S ρ S' ρ' ∧ OutS S' ∧ R Λ ρ' S' W ∧ LRel ρ' avs cs ∧ (∀ v, v ∈ cs → v.oneCell' = true) ∧ typedA cx S' m t avs
  | 0, _, hp, _, _, _, _, _, _, _, _, _ => by cases hp
  | m + 1, t, hp, fuel, cs, x, S, ρ, hz, hR, h, hW => by
    unfold plainT at hp
    split at hp <;> (try (cases hp; done))
    · -- integers
      rename_i k hu
      obtain ⟨n, rfl, rfl, hw⟩ := DataW.trod_int (und_ok hcx hu) h
      refine ⟨S, ρ, [.int k n], Grows.refl _ _, hz, hR, LRel.cons (by simp [VRel]) LRel.nil, fun v hv => ?_, ?_⟩
      · simp at hv; subst hv; rfl
      · unfold typedA; simp only [hu]
        refine ⟨n, rfl, ?_⟩
        simpa [Lit.wf] using hw
    · rename_i hu
      obtain ⟨b, rfl, rfl⟩ := DataW.trod_bool (und_ok hcx hu) h
      refine ⟨S, ρ, [.bool b], Grows.refl _ _, hz, hR, LRel.cons (by simp [VRel]) LRel.nil, fun v hv => ?_, ?_⟩
      · simp at hv; subst hv; rfl
      · unfold typedA; simp only [hu]; exact ⟨b, rfl⟩
    · rename_i hu
      obtain ⟨s, rfl, rfl, hs⟩ := DataW.trod_string (und_ok hcx hu) h
      refine ⟨S, ρ, [.str (s.data.toList.map UInt8.toNat)], Grows.refl _ _, hz, hR, LRel.cons (by simp [VRel]) LRel.nil, fun v hv => ?_, ?_⟩
      · simp at hv; subst hv; rfl
      · unfold typedA; simp only [hu]
        refine ⟨_, rfl, by have := hW s.data.toList.length (by simp [DataW.weights]); simpa using this, fun c hc => ?_⟩
        obtain ⟨u, _, rfl⟩ := List.mem_map.1 hc
        exact u.toNat_lt
    · -- slices
      rename_i e hu
      rw [Bool.and_eq_true] at hp
      obtain ⟨hpe, hsz⟩ := hp
      cases hs : szOf cx e with
      | none => rw [hs] at hsz; cases hsz
      | some sz =>
        cases sz with
        | zero => rw [hs] at hsz; cases hsz
        | succ z =>
          have hce := cellsOf_sz hcx hs
          rcases DataW.trod_slice (und_ok hcx hu) h with ⟨rfl, rfl⟩ | ⟨a, len, cap, elems, rest, n, rfl, rfl, hxe, hb, hlen, hcap, hel, hE, hRr, _⟩
          · refine ⟨S, ρ, [.nils], Grows.refl _ _, hz, hR, LRel.cons (by simp [VRel]) LRel.nil, fun v hv => ?_, ?_⟩
            · simp at hv; subst hv; rfl
            · unfold typedA; simp only [hu]; exact .inl trivial
          · obtain ⟨hrl, hRs⟩ := hRr rfl
            have hwt : DataW.weights P t (.slice (elems.map (·.1)) (rest.map (·.1))) = ((elems.map (·.1)).length + (rest.map (·.1)).length) * P.bytesOf e :: (DataW.weightsAll P e (elems.map (·.1)) ++ DataW.weightsAll P e (rest.map (·.1))) := by
              simp only [DataW.weights, und_ok hcx hu]
            subst hxe
            replace hW : ∀ n, n ∈ DataW.weights P t (.slice (elems.map (·.1)) (rest.map (·.1))) → n ≤ reachBytes := hW
            rw [hwt] at hW
            have hcapB : ∀ bs, bytesOf cx e = some bs → cap * bs ≤ reachBytes := fun bs hbs => by
              have := hW _ (List.mem_cons_self ..)
              rw [List.length_map, List.length_map, hel, hrl, show len + (cap - len) = cap by omega, bytesOf_ok hcx hbs] at this
              exact this
            have each : ∀ i, i < cap → ∃ y vs, W.cells? base (a.add (i * (z + 1))) (z + 1) = some vs ∧ DataW.trod enc P W base (fun _ => true) held n e vs = some y ∧ ∀ n, n ∈ y.1.weights P e → n ≤ reachBytes := by
              intro i hi
              have : ∃ y, (W.cells? base (a.add (i * P.cellsOf e)) (P.cellsOf e)).bind (DataW.trod enc P W base (fun _ => true) held n e) = some y ∧ ∀ n, n ∈ y.1.weights P e → n ≤ reachBytes := by
                by_cases h1 : i < len
                · exact ⟨elems[i], by rw [hE i h1]; exact List.getElem?_eq_getElem (by omega), fun n hn => hW n (List.mem_cons_of_mem _ (List.mem_append_left _ (mem_weightsAll (List.mem_map_of_mem (List.getElem_mem (by omega))) hn)))⟩
                · refine ⟨rest[i - len]'(by omega), ?_, fun n hn => hW n (List.mem_cons_of_mem _ (List.mem_append_right _ (mem_weightsAll (List.mem_map_of_mem (List.getElem_mem (by omega))) hn)))⟩
                  have := hRs (i - len) (by omega)
                  rw [show len + (i - len) = i by omega] at this
                  rw [this]; exact List.getElem?_eq_getElem (by omega)
              obtain ⟨y, hy, hyw⟩ := this
              rw [hce] at hy
              obtain ⟨vs, v1, v2⟩ := Option.bind_eq_some_iff.1 hy
              exact ⟨y, vs, v1, v2, hyw⟩
            have rows : ∀ k, k ≤ cap → ∃ (S' : AS) (ρ' : Rho) (avs : List AV), Grows S ρ S' ρ' ∧ OutS S' ∧ R Λ ρ' S' W ∧ avs.length = k * (z + 1) ∧ (∀ i, i < avs.length → ∃ x v, avs[i]? = some x ∧ W.cell? (a.add i) = some v ∧ VRel ρ' x v ∧ v.oneCell' = true) ∧
                ∀ i, i < k → typedA cx S' m e ((avs.drop (i * (z + 1))).take (z + 1)) := by
              intro k
              induction k with
              | zero => intro _; exact ⟨S, ρ, [], Grows.refl _ _, hz, hR, by simp, fun i hi => by simp at hi, fun i hi => by omega⟩
              | succ k ih =>
                intro hk
                obtain ⟨S1, ρ1, l1, g1, z1, r1, e1, p1, t1⟩ := ih (by omega)
                obtain ⟨y, vs, v1, v2, v3⟩ := each k (by omega)
                obtain ⟨S2, ρ2, l2, g2, z2, r2, e2, p2, t2⟩ := absorb hcx m e hpe n vs y S1 ρ1 z1 r1 v2 v3
                obtain ⟨_, c2, c3⟩ := World.cells?_some v1
                have l2l : l2.length = z + 1 := by rw [e2.length, c2]
                refine ⟨S2, ρ2, l1 ++ l2, g1.trans g2, z2, r2, by simp [e1, l2l, Nat.succ_mul], fun i hi => ?_, fun i hi => ?_⟩
                · by_cases h1 : i < l1.length
                  · obtain ⟨x, v, a1, a2, a3, a4⟩ := p1 i h1
                    exact ⟨x, v, by rw [List.getElem?_append_left h1]; exact a1, a2, a3.mono g2.ext _ _, a4⟩
                  · have hi2 : i - l1.length < l2.length := by simp at hi; omega
                    have hx : l2[i - l1.length]? = some l2[i - l1.length] := List.getElem?_eq_getElem hi2
                    obtain ⟨v, w1, w2⟩ := e2.get hx
                    refine ⟨_, v, by rw [List.getElem?_append_right (by omega)]; exact hx, ?_, w2, p2 v (List.mem_of_getElem? w1)⟩
                    have := c3 (i - l1.length) (by omega)
                    rw [addr_add_add, w1] at this
                    rw [← this]
                    congr 1
                    congr 1
                    omega
                · by_cases h1 : i < k
                  · have hle : i * (z + 1) + (z + 1) ≤ l1.length := by
                      rw [e1, ← Nat.succ_mul]; exact Nat.mul_le_mul_right _ h1
                    have : ((l1 ++ l2).drop (i * (z + 1))).take (z + 1) = (l1.drop (i * (z + 1))).take (z + 1) := by
                      rw [List.drop_append_of_le_length (by omega), List.take_append_of_le_length (by simp; omega)]
                    rw [this]
                    exact typedA_mono g2.h g2.next _ _ _ (t1 i h1)
                  · obtain rfl : i = k := by omega
                    have : ((l1 ++ l2).drop (i * (z + 1))).take (z + 1) = l2 := by
                      rw [← e1, List.drop_left, List.take_of_length_le (Nat.le_of_eq l2l)]
                    rw [this]; exact t2
            obtain ⟨S1, ρ1, l1, g1, z1, r1, e1, p1, t1⟩ := rows cap (Nat.le_refl _)
            by_cases hc0 : cap = 0
            · subst hc0
              obtain rfl : len = 0 := by omega
              obtain ⟨ρ2, pl, q1, q2, q3, q4⟩ := r1.outNone z1
              refine ⟨_, ρ2, [.slice S1.next 1 0 0 (0 * (z + 1)) (z + 1) (some 0)], g1.trans q3, q4, q2, LRel.cons ?_ LRel.nil, fun v hv => ?_, ?_⟩
              · simp only [VRel]
                exact ⟨pl, 0, q1, by simp, by simp, Nat.succ_pos _, Nat.le_refl _, .inr ⟨by trivial, by trivial, fun k hk => by cases hk; rfl, a, by rfl⟩⟩
              · simp at hv; subst hv; rfl
              · unfold typedA; simp only [hu]
                exact .inr ⟨S1.next, 0, 0, z + 1, rfl, hs, Nat.succ_pos _, Nat.le_refl _, Nat.zero_le _, fun bs _ => by rw [Nat.zero_mul]; exact Nat.zero_le _, Nat.lt_succ_self _, .inl rfl⟩
            · have hpos : 0 < l1.length := by rw [e1]; exact Nat.mul_pos (by omega) (Nat.succ_pos _)
              obtain ⟨x0, v0, _, b2, _, _⟩ := p1 0 hpos
              have b2' : W.cell? a = some v0 := by simpa [Addr.add] using b2
              unfold World.cell? at b2'
              cases hbk : W.heap[a.block]? with
              | none => rw [hbk] at b2'; cases b2'
              | some o =>
                rw [hbk] at b2'
                cases o <;> simp only [reduceCtorEq] at b2'
                rename_i C ty fr
                have hspot : a.spot = none := by
                  cases hsp : a.spot with
                  | none => rfl
                  | some s => rw [hsp] at b2'; simp at b2'
                have hcell : ∀ i v, W.cell? (a.add i) = some v → C[a.off + i]? = some v := by
                  intro i v hv
                  unfold World.cell? at hv
                  rw [ChangeShapes.block_add, hbk] at hv
                  simp only [] at hv
                  split at hv
                  · cases hv
                  · rw [← hv]
                    by_cases hi : i = 0
                    · subst hi; simp [Addr.add]
                    · simp [Addr.add, hi]
                have hpt : ∀ i, i < l1.length → ∃ x v, l1[i]? = some x ∧ C[a.off + i]? = some v ∧ VRel ρ1 x v ∧ v.oneCell' = true := by
                  intro i hi
                  obtain ⟨x, v, a1, a2, a3, a4⟩ := p1 i hi
                  exact ⟨x, v, a1, hcell i v a2, a3, a4⟩
                have hle : a.off + l1.length ≤ C.size := by
                  obtain ⟨x, v, _, a2, _⟩ := hpt (l1.length - 1) (by omega)
                  have := (Array.getElem?_eq_some_iff.1 a2).1
                  omega
                obtain ⟨ρ2, pl, q1, q2, q3, q4, q5, q6, q7, q8⟩ := r1.outRow z1 hbk hle hpt
                refine ⟨_, ρ2, [.slice S1.next 1 0 len (cap * (z + 1)) (z + 1) (some cap)], g1.trans q7, q8, q6, LRel.cons ?_ LRel.nil, fun v hv => ?_, ?_⟩
                · simp only [VRel]
                  have hN : a.off + cap * (z + 1) ≤ C.size := by rw [← e1]; exact hle
                  refine ⟨pl, cap, q1, by rw [q4, e1]; exact Nat.le_refl _, by rw [Nat.zero_add]; exact Nat.mul_le_mul_right _ hlen, Nat.succ_pos _, hlen, .inl ⟨?_, by rw [q3, q5]; exact hN, fun k hk => by cases hk; exact ⟨rfl, by omega⟩⟩⟩
                  obtain ⟨ab, ao, asp⟩ := a
                  simp only at hspot q2 q3
                  subst hspot
                  rw [q2, q3]; rfl
                · simp at hv; subst hv; rfl
                · unfold typedA; simp only [hu]
                  refine .inr ⟨S1.next, len, cap, z + 1, rfl, hs, Nat.succ_pos _, hlen, hcap, hcapB, Nat.lt_succ_self _, .inr ⟨l1, ty, get_set_same _ _ _, e1, fun i hi => ?_⟩⟩
                  exact typedA_mono q7.h q7.next _ _ _ (t1 i hi)
    · -- records
      rename_i fs hu
      rw [Bool.and_eq_true, List.all_eq_true] at hp
      obtain ⟨hpf, htl⟩ := hp
      cases hs : szOf cx t with
      | none => rw [hs] at htl; cases htl
      | some N =>
        rw [hs] at htl
        simp only [] at htl
        obtain ⟨xs, n, rfl, hxe, hcl, hxl, hF⟩ := DataW.trod_struct (und_ok hcx hu) h
        rw [cellsOf_sz hcx hs] at hcl
        have hwt : DataW.weights P t (.agg (xs.map (·.1))) = DataW.weightsEach P (fs.toList.map (·.type)) (xs.map (·.1)) := by
          simp only [DataW.weights, und_ok hcx hu]
        subst hxe
        replace hW : ∀ n, n ∈ DataW.weights P t (.agg (xs.map (·.1))) → n ≤ reachBytes := hW
        rw [hwt] at hW
        have go : ∀ (l : List Field) (i off : Nat), (∀ j f, l[j]? = some f → fs[i + j]? = some f) → tilesF cx l off N = true → off ≤ N → ∀ (S : AS) (ρ : Rho), OutS S → R Λ ρ S W →
            ∃ S' ρ' avs, Grows S ρ S' ρ' ∧ OutS S' ∧ R Λ ρ' S' W ∧ LRel ρ' avs (cs.drop off) ∧ (∀ v, v ∈ cs.drop off → v.oneCell' = true) ∧ fieldsA (szOf cx) (typedA cx S' m) (l.map (·.type)) avs := by
          intro l
          induction l with
          | nil =>
            intro i off _ ht _ S ρ hz hR
            have : off = N := by simpa [tilesF, nbeq] using ht
            subst this
            have hd : cs.drop off = [] := List.drop_eq_nil_of_le (by omega)
            refine ⟨S, ρ, [], Grows.refl _ _, hz, hR, by rw [hd]; exact LRel.nil, ?_, rfl⟩
            intro v hv
            rw [hd] at hv
            cases hv
          | cons f l ih =>
            intro i off hl ht hoff S ρ hz hR
            unfold tilesF at ht
            rw [Bool.and_eq_true, nbeq, decide_eq_true_eq] at ht
            obtain ⟨hfo, ht⟩ := ht
            cases hsf : szOf cx f.type with
            | none => rw [hsf] at ht; cases ht
            | some zf =>
              rw [hsf] at ht
              simp only [] at ht
              have hfi : fs[i]? = some f := by have := hl 0 f rfl; simpa using this
              have hi : i < xs.length := by
                have := (Array.getElem?_eq_some_iff.1 hfi).1
                omega
              have htr := hF i f hfi
              rw [List.getElem?_eq_getElem hi, cellsOf_sz hcx hsf, hfo] at htr
              have hmem : f ∈ fs.toList := by rw [Array.mem_toList_iff]; exact Array.mem_of_getElem? hfi
              obtain ⟨S1, ρ1, l1, g1, z1, r1, e1, o1, t1⟩ := absorb hcx m f.type (hpf f hmem) n _ _ S ρ hz hR htr (fun n hn => hW n (DataW.weights_mem_each (j := i) (by rw [List.getElem?_map, Array.getElem?_toList, hfi]; rfl) (by rw [List.getElem?_map, List.getElem?_eq_getElem hi]; rfl) n hn))
              have hle : off + zf ≤ N := by
                have mono : ∀ (l : List Field) (o : Nat), tilesF cx l o N = true → o ≤ N := by
                  intro l
                  induction l with
                  | nil => intro o h; have : o = N := by simpa [tilesF, nbeq] using h
                           omega
                  | cons g l ih =>
                    intro o h
                    unfold tilesF at h
                    rw [Bool.and_eq_true] at h
                    cases hg : szOf cx g.type with
                    | none => rw [hg] at h; cases h.2
                    | some zg => rw [hg] at h; have := ih _ h.2; omega
                exact mono l _ ht
              obtain ⟨S2, ρ2, l2, g2, z2, r2, e2, o2, t2⟩ := ih (i + 1) (off + zf) (fun j f' hj => by have := hl (j + 1) f' (by simpa using hj); rw [← this]; congr 1; omega) ht hle S1 ρ1 z1 r1
              have hsp : cs.drop off = (cs.drop off).take zf ++ cs.drop (off + zf) := by
                rw [← List.drop_drop]; exact (List.take_append_drop zf (cs.drop off)).symm
              have hl1 : l1.length = zf := by rw [e1.length]; simp; omega
              refine ⟨S2, ρ2, l1 ++ l2, g1.trans g2, z2, r2, by rw [hsp]; exact (e1.mono g2.ext).append e2, fun v hv => ?_, l1, l2, rfl, by rw [hl1]; exact hsf, typedA_mono g2.h g2.next _ _ _ t1, t2⟩
              rw [hsp] at hv
              rcases List.mem_append.1 hv with hv | hv
              · exact o1 v hv
              · exact o2 v hv
        obtain ⟨S1, ρ1, l1, g1, z1, r1, e1, o1, t1⟩ := go fs.toList 0 0 (fun j f hj => by rw [Nat.zero_add, ← Array.getElem?_toList]; exact hj) htl (Nat.zero_le _) S ρ hz hR
        refine ⟨S1, ρ1, l1, g1, z1, r1, by simpa using e1, fun v hv => o1 v (by simpa using hv), ?_⟩
        unfold typedA; simp only [hu]; exact t1
termination_by m => m

/-- An argument's value. -/
def soleA (l : List AV) : AV := match l with | [v] => v | _ => .top
noncomputable def argA (cx : Cx) (t : TypeId) (l : List AV) : AV := match aggOf cx t with | some true => .agg l | _ => soleA l
noncomputable def typedArgs (cx : Cx) (S : AS) (m : Nat) : List TypeId → List AV → Prop
  | [], l => l = []
  | t :: ts, l => ∃ avs r, l = argA cx t avs :: r ∧ typedA cx S m t avs ∧ typedArgs cx S m ts r
theorem typedArgs_mono {S S' : AS} {m : Nat} (hh : ∀ id o, S.h.get id = some o → S'.h.get id = some o) (hn : S.next ≤ S'.next) : ∀ (ts : List TypeId) (l : List AV), typedArgs cx S m ts l → typedArgs cx S' m ts l
  | [], _, k => k
  | _ :: ts, _, ⟨a, r, e, x, y⟩ => ⟨a, r, e, typedA_mono hh hn _ _ _ x, typedArgs_mono hh hn ts _ y⟩

theorem absorb_arg (hcx : CxOk Λ P cx) {m : Nat} {t : TypeId} (hp : plainT cx m t = true) {v : Value} {d : DataW H} {ps : List MemPlace} {r : Reach} {b0 : Nat} (hv : Value.okWide P W r b0 t v) (S : AS) (ρ : Rho) (hz : OutS S) (hR : R Λ ρ S W)
    (h : DataW.Trod enc P W base (fun _ => true) held t v d ps) (hW : ∀ n, n ∈ d.weights P t → n ≤ reachBytes) : ∃ S' ρ' avs, Grows S ρ S' ρ' ∧ OutS S' ∧ R Λ ρ' S' W ∧ VRel ρ' (argA cx t avs) v ∧ typedA cx S' m t avs := by
  obtain ⟨fuel, h⟩ := h
  obtain ⟨S1, ρ1, l1, g1, z1, r1, e1, o1, t1⟩ := absorb hcx m t hp fuel _ _ S ρ hz hR h hW
  refine ⟨S1, ρ1, l1, g1, z1, r1, ?_, t1⟩
  cases m with
  | zero => exact t1.elim
  | succ m =>
    unfold plainT at hp
    unfold argA aggOf
    unfold Value.okWide at hv
    have flat : v.cells.toList.length = 1 → (∀ cs, v ≠ .agg cs) → VRel ρ1 (soleA l1) v := by
      intro _ hne
      have hc : v.cells.toList = [v] := by cases v <;> first | rfl | exact absurd rfl (hne _)
      rw [hc] at e1
      cases l1 with
      | nil => simp only [soleA, VRel]
      | cons x l =>
        simp only [LRel] at e1
        obtain ⟨y, ys, ee, q1, q2⟩ := e1
        cases ee
        cases l with
        | nil => exact q1
        | cons z l => simp only [soleA, VRel]
    have notAgg : (∀ fs, P.underlying t ≠ some (.struct fs)) → (∀ n e, P.underlying t ≠ some (.array n e)) → ∀ cs, v ≠ .agg cs := by
      intro h1 h2 cs e
      subst e
      have hv' : Cell.okWide P W r b0 t (.agg cs) := by
        split at hv
        · rename_i fs hu; exact absurd hu (h1 fs)
        · rename_i n e hu; exact absurd hu (h2 n e)
        · exact hv
      unfold Cell.okWide at hv'
      cases hu : P.underlying t with
      | none => rw [hu] at hv'; simp [Cell.ok, hu] at hv'
      | some dd =>
        rw [hu] at hv'
        cases dd <;> simp [Cell.ok, hu] at hv'
    have one : (∀ cs, v ≠ .agg cs) → v.cells.toList.length = 1 := by
      intro hne
      cases v <;> first | rfl | exact absurd rfl (hne _)
    split at hp <;> (try (cases hp; done)) <;> rename_i hu <;> simp only [hu]
    · have hne := notAgg (fun fs e => by rw [und_ok hcx hu] at e; cases e) (fun n e e' => by rw [und_ok hcx hu] at e'; cases e')
      exact flat (one hne) hne
    · have hne := notAgg (fun fs e => by rw [und_ok hcx hu] at e; cases e) (fun n e e' => by rw [und_ok hcx hu] at e'; cases e')
      exact flat (one hne) hne
    · have hne := notAgg (fun fs e => by rw [und_ok hcx hu] at e; cases e) (fun n e e' => by rw [und_ok hcx hu] at e'; cases e')
      exact flat (one hne) hne
    · have hne := notAgg (fun fs e => by rw [und_ok hcx hu] at e; cases e) (fun n e e' => by rw [und_ok hcx hu] at e'; cases e')
      exact flat (one hne) hne
    · rw [und_ok hcx hu] at hv
      simp only [] at hv
      obtain ⟨cs, rfl, _⟩ := hv
      simp only [VRel]
      exact ⟨cs, rfl, e1, o1⟩

/-- From arguments that are read to those of the machine. -/
theorem absorb_all (hcx : CxOk Λ P cx) {m : Nat} {r : Reach} {b0 : Nat} : ∀ (ts : List TypeId) (vs : List Value) (ds : List (DataW H)) (p : List MemPlace) (S : AS) (ρ : Rho), ts.all (plainT cx m) = true →
    (∀ (j : Nat) t v, ts[j]? = some t → vs[j]? = some v → Value.okWide P W r b0 t v) → OutS S → R Λ ρ S W → DataW.TrodAll enc P W base (fun _ => true) held ts vs ds p → (∀ n, n ∈ DataW.weightsEach P ts ds → n ≤ reachBytes) →
    ∃ S' ρ' l, Grows S ρ S' ρ' ∧ OutS S' ∧ R Λ ρ' S' W ∧ LRel ρ' l vs ∧ typedArgs cx S' m ts l
  | [], vs, ds, p, S, ρ, _, _, hz, hR, h, _ => by
    cases vs with
    | nil => exact ⟨S, ρ, [], Grows.refl _ _, hz, hR, LRel.nil, rfl⟩
    | cons v vs => cases ds <;> exact h.elim
  | t :: ts, vs, ds, p, S, ρ, hp, hv, hz, hR, h, hW => by
    cases vs with
    | nil => cases ds <;> exact h.elim
    | cons v vs =>
      cases ds with
      | nil => exact h.elim
      | cons d ds =>
        obtain ⟨p1, p2, h1, h2, _⟩ := h
        simp only [List.all_cons, Bool.and_eq_true] at hp
        obtain ⟨S1, ρ1, a1, g1, z1, r1, e1, t1⟩ := absorb_arg hcx hp.1 (hv 0 t v rfl rfl) S ρ hz hR h1 (fun n hn => hW n (by simp only [DataW.weightsEach]; exact List.mem_append_left _ hn))
        obtain ⟨S2, ρ2, l2, g2, z2, r2, e2, t2⟩ := absorb_all hcx ts vs ds p2 S1 ρ1 hp.2 (fun j t' v' h1 h2 => hv (j + 1) t' v' (by simpa using h1) (by simpa using h2)) z1 r1 h2 (fun n hn => hW n (by simp only [DataW.weightsEach]; exact List.mem_append_right _ hn))
        exact ⟨S2, ρ2, _, g1.trans g2, z2, r2, LRel.cons (e1.mono g2.ext _ _) e2, a1, l2, rfl, typedA_mono g2.h g2.next _ _ _ t1, t2⟩
end

/-- A law over arguments that lie in memory. -/
theorem law_args {H : Type} {enc : TypeId × Value → H} {P : Program} {A : Ask} {W : World} {base : Nat} {held : Bool} {B : Nat → Prop} (hB : ∀ b, B b → b < W.heap.size) (hr : Ready P A) (hp : ∀ x, x ∈ A.prims → PrimOk ⟨W, fun b => b < W.heap.size⟩ P x.1 x.2)
    (hg : ∀ x, x ∈ A.globs → GlobOk W B x.1 x.2) {f : FuncId} {args : Array Value} {ts : List TypeId} {ds : List (DataW H)} {p : List MemPlace} {r : Reach} {b0 : Nat} (m : Nat) (ht : ts.all (plainT (mkCx P A) m) = true)
    (hv : ∀ (j : Nat) t v, ts[j]? = some t → args[j]? = some v → Value.okWide P W r b0 t v) (h : DataW.TrodAll enc P W base (fun _ => true) held ts args.toList ds p) (hW : ∀ n, n ∈ DataW.weightsEach P ts ds → n ≤ reachBytes)
    (hc : ∀ (S : AS) (vals : List AV), (∀ id, S.next ≤ id → S.h.get id = none) → typedArgs (mkCx P A) S m ts vals → CallW (mkCx P A) f vals S fun v _ => v = .bool true) :
    Calls P f args W fun e w' => e = .returned (.bool true) ∧ Below W.heap.size W w' := by
  have hg' : ∀ x, x ∈ A.globs → GlobOk W (fun b => b < W.heap.size) x.1 x.2 := fun x hx => let ⟨a, b⟩ := hg x hx; ⟨hB _ a, b⟩
  have hcx := cx_ok (Λ := ⟨W, fun b => b < W.heap.size⟩) hr hp hg'
  have hR0 := empty_R (Λ := ⟨W, fun b => b < W.heap.size⟩) W (Nat.le_refl _) (fun b hb => ⟨hb, rfl⟩)
  obtain ⟨S, ρ, l, _, _, hR, hl, hty⟩ := absorb_all hcx (r := r) (b0 := b0) ts args.toList ds p ⟨.leaf, 0⟩ _ ht (fun j t v h1 h2 => hv j t v h1 (by rw [← Array.getElem?_toList]; exact h2)) (fun id o ho => by cases ho) hR0 h hW
  have hdom : ∀ id, S.next ≤ id → S.h.get id = none := by
    intro id hi
    cases ho : S.h.get id with
    | none => rfl
    | some o => have := hR.dom id o ho; omega
  refine (calls_of hr hp hg' hR hl (hc S l hdom hty)).2.mono ?_
  rintro e w' ⟨x, v, S', ρ', rfl, h1, rfl, h3, h4⟩
  simp only [VRel] at h1
  refine ⟨by rw [h1], h4.os, h4.tape, h4.output, h4.size, fun k hk => (h3.base k hk).2.1⟩
end Go.Am
