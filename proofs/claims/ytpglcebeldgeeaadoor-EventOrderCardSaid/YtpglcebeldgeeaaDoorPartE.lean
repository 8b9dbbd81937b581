/-
  Events read back from their texts: plain Lean.
  The reader's parts; Cut.
  Parse: the program's.
-/
import Derived.Test.YtpglcebeldgeeaaDoorPartD
namespace Go.Proofs.YtpglcebeldgeeaaDoor.val
open Go Go.Am Go.Proofs.YtpglcebeldgeeaaDoor.laid
set_option linter.unusedVariables false
set_option linter.unusedSimpArgs false

/-! ### The program's reader -/
/-- Where the first blank stands that is in no quotes. -/
def cutAt : Bool → Bool → List Nat → Option Nat
  | _, _, [] => none
  | q, m, c :: s => if m then (cutAt q false s).map (· + 1) else if q = true ∧ c = 92 then (cutAt q true s).map (· + 1) else if c = 34 then (cutAt (!q) false s).map (· + 1) else if c = 32 ∧ q = false then some 0 else (cutAt q false s).map (· + 1)
def part (s : List Nat) : List Nat × List Nat := match cutAt false false s with | some i => (s.take i, s.drop (i + 1)) | none => (s, [])
theorem cutAt_masked (q : Bool) (c : Nat) (s : List Nat) : cutAt q true (c :: s) = (cutAt q false s).map (· + 1) := by simp [cutAt]
theorem cutAt_q {c : Nat} (h1 : c ≠ 34) (h2 : c ≠ 92) (s : List Nat) : cutAt true false (c :: s) = (cutAt true false s).map (· + 1) := by simp [cutAt, h1, h2]
theorem cutAt_p {c : Nat} (h1 : c ≠ 34) (h2 : c ≠ 32) (s : List Nat) : cutAt false false (c :: s) = (cutAt false false s).map (· + 1) := by simp [cutAt, h1, h2]
theorem cutAt_bs (s : List Nat) : cutAt true false (92 :: s) = (cutAt true true s).map (· + 1) := by simp [cutAt]
theorem cutAt_open (s : List Nat) : cutAt false false (34 :: s) = (cutAt true false s).map (· + 1) := by simp [cutAt]
theorem cutAt_close (s : List Nat) : cutAt true false (34 :: s) = (cutAt false false s).map (· + 1) := by simp [cutAt]
theorem cutAt_blank (s : List Nat) : cutAt false false (32 :: s) = some 0 := by simp [cutAt]
theorem map_add (o : Option Nat) (a b : Nat) : (o.map (· + a)).map (· + b) = o.map (· + (a + b)) := by cases o <;> simp [Nat.add_assoc]
theorem hexD_range {d : Nat} (h : d < 16) : (48 ≤ hexD d ∧ hexD d ≤ 57) ∨ (97 ≤ hexD d ∧ hexD d ≤ 102) := by unfold hexD; split <;> omega
theorem scan_q1 {c : Nat} (hc : c < 256) (s : List Nat) : cutAt true false (q1 c ++ s) = (cutAt true false s).map (· + (q1 c).length) := by
  unfold q1
  by_cases h1 : c < 32 ∨ 126 < c
  · rw [if_pos h1]
    have a1 := hexD_range (d := c / 16) (by omega)
    have a2 := hexD_range (d := c % 16) (by omega)
    simp only [List.cons_append, List.nil_append, List.length_cons, List.length_nil]
    rw [cutAt_bs, cutAt_masked, cutAt_q (by omega) (by omega), cutAt_q (by omega) (by omega), map_add, map_add, map_add]
  · rw [if_neg h1]
    by_cases h2 : c = 34 ∨ c = 92
    · rw [if_pos h2]
      simp only [List.cons_append, List.nil_append, List.length_cons, List.length_nil]
      rw [cutAt_bs, cutAt_masked, map_add]
    · rw [if_neg h2]
      simp only [List.cons_append, List.nil_append, List.length_cons, List.length_nil]
      rw [cutAt_q (by omega) (by omega)]
theorem scan_flat : ∀ {t : List Nat}, (∀ c, c ∈ t → c < 256) → ∀ (s : List Nat), cutAt true false (t.flatMap q1 ++ s) = (cutAt true false s).map (· + (t.flatMap q1).length)
  | [], _, s => by simp
  | c :: t, h, s => by
    rw [List.flatMap_cons, List.append_assoc, scan_q1 (h c (List.mem_cons_self ..)), scan_flat (fun d hd => h d (List.mem_cons_of_mem _ hd)), map_add, List.length_append]
    congr 1
    funext x
    omega
theorem scan_quote {t : List Nat} (h : ∀ c, c ∈ t → c < 256) (s : List Nat) : cutAt false false (quoteN t ++ s) = (cutAt false false s).map (· + (quoteN t).length) := by
  unfold quoteN
  simp only [List.cons_append, List.append_assoc, List.nil_append]
  rw [cutAt_open, scan_flat h, cutAt_close, map_add, map_add]
  simp only [List.length_cons, List.length_append, List.length_nil]
  congr 1
  funext x
  omega
theorem scan_plain : ∀ {t : List Nat}, (∀ c, c ∈ t → c ≠ 34 ∧ c ≠ 32) → ∀ (s : List Nat), cutAt false false (t ++ s) = (cutAt false false s).map (· + t.length)
  | [], _, s => by simp
  | c :: t, h, s => by
    have hc := h c (List.mem_cons_self ..)
    rw [List.cons_append, cutAt_p hc.1 hc.2, scan_plain (fun d hd => h d (List.mem_cons_of_mem _ hd)), map_add, List.length_cons]
/-- A text of a value: quoted, or plain. -/
theorem txt_kind {v : ValV} (hv : okV2 v) (hm : mayV v = true) : (txtV v = quoteN v.s ∧ v.k = 2) ∨ ((∀ c, c ∈ txtV v → c ≠ 34 ∧ c ≠ 32 ∧ c ≠ 61) ∧ txtV v ≠ [] ∧ v.k ≠ 2) := by
  unfold txtV
  by_cases h1 : v.k = 1
  · right
    rw [if_pos h1]
    unfold fmtN
    split
    · refine ⟨fun c hc => ?_, by simp, by omega⟩
      rcases List.mem_cons.1 hc with h | h
      · omega
      · have := decN_digit _ c h; omega
    · exact ⟨fun c hc => by have := decN_digit _ c hc; omega, decN_ne _, by omega⟩
  · rw [if_neg h1]
    by_cases h3 : v.k = 3
    · right
      rw [if_pos h3]
      cases v.b <;> refine ⟨fun c hc => ?_, by simp [trueN, falseN], by omega⟩ <;> simp [trueN, falseN] at hc <;> omega
    · left
      rw [if_neg h3]
      refine ⟨rfl, ?_⟩
      unfold mayV at hm
      rw [if_neg h1] at hm
      by_cases h2 : v.k = 2
      · exact h2
      · rw [if_neg h2] at hm
        simp at hm
        exact absurd hm.1 h3
theorem scan_txt {v : ValV} (hv : okV2 v) (hm : mayV v = true) (s : List Nat) : cutAt false false (txtV v ++ s) = (cutAt false false s).map (· + (txtV v).length) := by
  rcases txt_kind hv hm with ⟨h, _⟩ | ⟨h, _⟩
  · rw [h]; exact scan_quote hv.1 s
  · exact scan_plain (fun c hc => ⟨(h c hc).1, (h c hc).2.1⟩) s
theorem name_signs {s : List Nat} (h : nameB s = true) : ∀ c, c ∈ s → c ≠ 34 ∧ c ≠ 32 ∧ c ≠ 61 := fun c hc => by
  have := (nameB_parts h).2.2 c hc
  unfold badC at this
  simp at this
  omega
/-- What stands between two blanks. -/
def attB (a : Att) : List Nat := a.name ++ 61 :: txtV a.val
theorem attT_eq (a : Att) : attT a = 32 :: attB a := by unfold attT attB; simp
theorem scan_att {a : Att} (hn : nameB a.name = true) (hv : okV2 a.val) (hm : mayV a.val = true) (s : List Nat) : cutAt false false (attB a ++ s) = (cutAt false false s).map (· + (attB a).length) := by
  unfold attB
  rw [List.append_assoc, List.cons_append, scan_plain (fun c hc => ⟨(name_signs hn c hc).1, (name_signs hn c hc).2.1⟩), cutAt_p (by decide) (by decide), scan_txt hv hm, map_add, map_add]
  simp only [List.length_append, List.length_cons]
  congr 1
  funext x
  omega
theorem part_end {t : List Nat} (h : cutAt false false t = none) : part t = (t, []) := by unfold part; rw [h]
theorem part_more {t s : List Nat} (h : ∀ s, cutAt false false (t ++ s) = (cutAt false false s).map (· + t.length)) : part t = (t, []) ∧ part (t ++ 32 :: s) = (t, s) := by
  refine ⟨part_end (by have := h []; rw [List.append_nil] at this; rw [this]; rfl), ?_⟩
  unfold part
  rw [h, cutAt_blank]
  simp
/-- Cut at a sign. -/
def cutS (c : Nat) (s : List Nat) : List Nat × List Nat := match s.findIdx? (fun x => decide (x = c)) with | some i => (s.take i, s.drop (i + 1)) | none => (s, [])
theorem cutS_at {c : Nat} {a b : List Nat} (h : ∀ x, x ∈ a → x ≠ c) : cutS c (a ++ c :: b) = (a, b) := by
  have : (a ++ c :: b).findIdx? (fun x => decide (x = c)) = some a.length := by
    rw [List.findIdx?_eq_some_iff_getElem]
    refine ⟨by simp, by simp, fun j hj => ?_⟩
    have hx : (a ++ c :: b)[j]'(by simp; omega) = a[j] := List.getElem_append_left hj
    rw [hx]
    simpa using h _ (List.getElem_mem hj)
  unfold cutS
  rw [this]
  simp
/-- The reader's rounds. -/
def loopE : Nat → List Nat → List Att → List Att × Bool
  | 0, _, acc => (acc, true)
  | n + 1, r, acc => if r = [] then (acc, true) else match parseV (cutS 61 (part r).1).2 with
    | some v => loopE n (part r).2 (acc ++ [⟨(cutS 61 (part r).1).1, v⟩])
    | none => (acc ++ [⟨(cutS 61 (part r).1).1, zeroV⟩], false)
noncomputable def parseE (s : List Nat) : Option (List Nat × List Att) := match parseV (part s).1 with
  | none => none
  | some kv => if (loopE 9 (part s).2 []).2 = true ∧ evText kv.s (loopE 9 (part s).2 []).1 = some s then some (kv.s, (loopE 9 (part s).2 []).1) else none
/-- What stands behind the first blank. -/
def tailE : List Att → List Nat
  | [] => []
  | a :: l => attB a ++ l.flatMap attT
theorem loop_all : ∀ {l : List Att} {n : Nat} {acc : List Att}, (∀ a, a ∈ l → nameB a.name = true ∧ mayV a.val = true ∧ okV2 a.val) → l.length ≤ n → loopE n (tailE l) acc = (acc ++ l, true)
  | [], n, acc, _, _ => by cases n <;> simp [loopE, tailE]
  | a :: l, 0, acc, _, h => by simp at h
  | a :: l, n + 1, acc, h, hl => by
    obtain ⟨hn, hm, hv⟩ := h a (List.mem_cons_self ..)
    have hp : part (tailE (a :: l)) = (attB a, tailE l) := by
      have hs := scan_att hn hv hm
      cases l with
      | nil => simpa [tailE] using (part_more (s := []) hs).1
      | cons b l =>
        have := (part_more (s := attB b ++ l.flatMap attT) hs).2
        simpa [tailE, attT_eq] using this
    have hc : cutS 61 (attB a) = (a.name, txtV a.val) := cutS_at fun x hx => (name_signs hn x hx).2.2
    have ht : parseV (txtV a.val) = some a.val := parse_text hv (by unfold textV; rw [hm]; rfl)
    have hne : tailE (a :: l) ≠ [] := by unfold tailE attB; simp
    rw [loopE, if_neg hne, hp]
    simp only [hc, ht]
    rw [loop_all (fun b hb => h b (List.mem_cons_of_mem _ hb)) (by simp at hl; exact hl)]
    simp
/-- Events that hold what a value may hold. -/
def okE (key : List Nat) (l : List Att) : Prop := (∀ c, c ∈ key → c < 256) ∧ ∀ a, a ∈ l → okAtt a
theorem evText_some {key : List Nat} {l : List Att} {s : List Nat} (h : evText key l = some s) : evMay key l = true ∧ s = evTxt key l := by
  unfold evText at h
  split at h
  · rename_i hm; cases h; exact ⟨hm, rfl⟩
  · cases h
theorem may_atts {key : List Nat} {l : List Att} (hm : evMay key l = true) (ho : okE key l) : ∀ a, a ∈ l → nameB a.name = true ∧ mayV a.val = true ∧ okV2 a.val := fun a ha => by
  obtain ⟨i, hi, rfl⟩ := List.getElem_of_mem ha
  obtain ⟨h1, h2⟩ := mayL_all (evMay_parts hm).1 (List.getElem?_eq_getElem hi)
  exact ⟨h1, h2, (ho.2 _ ha).2.2⟩
theorem word_read {key : List Nat} (hk : ∀ c, c ∈ key → c < 256) (h : key.length ≤ 16) : parseV (quoteN key) = some ⟨2, 0, key, false⟩ := parse_text (word_ok hk) (word_text h)
theorem parseE_of {key : List Nat} {l : List Att} {s : List Nat} (ho : okE key l) (h : evText key l = some s) : parseE s = some (key, l) := by
  obtain ⟨hm, rfl⟩ := evText_some h
  obtain ⟨_, hk, hl⟩ := evMay_parts hm
  have hp : part (evTxt key l) = (quoteN key, tailE l) := by
    have hs := scan_quote ho.1
    unfold evTxt
    cases l with
    | nil => simpa [tailE] using (part_more (s := []) hs).1
    | cons b l =>
      have := (part_more (s := attB b ++ l.flatMap attT) hs).2
      simpa [tailE, attT_eq] using this
  unfold parseE
  rw [hp]
  simp only [word_read ho.1 hk]
  rw [loop_all (may_atts hm ho) (by omega)]
  simp only [List.nil_append]
  rw [if_pos ⟨trivial, h⟩]
theorem parseE_some {s : List Nat} {k : List Nat} {l : List Att} (h : parseE s = some (k, l)) : evText k l = some s := by
  unfold parseE at h
  split at h
  · cases h
  · split at h
    · rename_i kv _ hc; cases h; exact hc.2
    · cases h
/-! ### The reference's reader -/
def quotedR : List Nat → Nat → Nat
  | [], _ => 0
  | c :: s, n => if c = 34 then n + 1 else if c = 92 then (match s with | [] => 0 | _ :: s' => quotedR s' (n + 2)) else quotedR s (n + 1)
theorem quotedR_step {c : Nat} (h1 : c ≠ 34) (h2 : c ≠ 92) (s : List Nat) (n : Nat) : quotedR (c :: s) n = quotedR s (n + 1) := by rw [quotedR.eq_def]; simp only [if_neg h1, if_neg h2]
theorem quotedR_bs (d : Nat) (s : List Nat) (n : Nat) : quotedR (92 :: d :: s) n = quotedR s (n + 2) := by rw [quotedR.eq_def]; simp only [if_neg (show ¬ (92 : Nat) = 34 by decide), if_true]
def wordR (s : List Nat) : Nat := match s with
  | 34 :: r => quotedR r 1
  | r => (r.takeWhile fun c => decide (c ≠ 32)).length
theorem quoted_flat : ∀ {t : List Nat}, (∀ c, c ∈ t → c < 256) → ∀ (s : List Nat) (n : Nat), quotedR (t.flatMap q1 ++ 34 :: s) n = n + (t.flatMap q1).length + 1
  | [], _, s, n => by simp only [List.flatMap_nil, List.nil_append, List.length_nil]; rw [quotedR.eq_def]; simp only [if_true, Nat.add_zero]
  | c :: t, h, s, n => by
    have hc := h c (List.mem_cons_self ..)
    rw [List.flatMap_cons, List.append_assoc]
    have ih := quoted_flat (fun d hd => h d (List.mem_cons_of_mem _ hd)) (t := t) s
    have key : quotedR (q1 c ++ (t.flatMap q1 ++ 34 :: s)) n = quotedR (t.flatMap q1 ++ 34 :: s) (n + (q1 c).length) := by
      unfold q1
      by_cases h1 : c < 32 ∨ 126 < c
      · rw [if_pos h1]
        have a1 := hexD_range (d := c / 16) (by omega)
        have a2 := hexD_range (d := c % 16) (by omega)
        simp only [List.cons_append, List.nil_append, List.length_cons, List.length_nil]
        rw [quotedR_bs, quotedR_step (by omega) (by omega), quotedR_step (by omega) (by omega)]
      · rw [if_neg h1]
        by_cases h2 : c = 34 ∨ c = 92
        · rw [if_pos h2]
          simp only [List.cons_append, List.nil_append, List.length_cons, List.length_nil]
          rw [quotedR_bs]
        · rw [if_neg h2]
          simp only [List.cons_append, List.nil_append, List.length_cons, List.length_nil]
          rw [quotedR_step (by omega) (by omega)]
    rw [key, ih, List.length_append]
    omega
theorem word_quote {t : List Nat} (h : ∀ c, c ∈ t → c < 256) (s : List Nat) : wordR (quoteN t ++ s) = (quoteN t).length := by
  unfold quoteN
  simp only [List.cons_append, List.append_assoc, List.nil_append]
  show quotedR (t.flatMap q1 ++ 34 :: s) 1 = _
  rw [quoted_flat h]
  simp only [List.length_cons, List.length_append, List.length_nil]
  omega
theorem word_plain {t s : List Nat} (h : ∀ c, c ∈ t → c ≠ 34 ∧ c ≠ 32) (hne : t ≠ []) (hs : s = [] ∨ ∃ r, s = 32 :: r) : wordR (t ++ s) = t.length := by
  have key : ((t ++ s).takeWhile fun c => decide (c ≠ 32)) = t := by
    rw [List.takeWhile_append_of_pos (fun c hc => by simpa using (h c hc).2)]
    rcases hs with rfl | ⟨r, rfl⟩ <;> simp
  unfold wordR
  split
  · rename_i r hr
    cases t with
    | nil => exact absurd rfl hne
    | cons c t =>
      simp at hr
      exact absurd hr.1 (h c (List.mem_cons_self ..)).1
  · rw [key]
theorem word_txt {v : ValV} (hv : okV2 v) (hm : mayV v = true) {s : List Nat} (hs : s = [] ∨ ∃ r, s = 32 :: r) : wordR (txtV v ++ s) = (txtV v).length := by
  rcases txt_kind hv hm with ⟨h, _⟩ | ⟨h, hne, _⟩
  · rw [h]; exact word_quote hv.1 s
  · exact word_plain (fun c hc => ⟨(h c hc).1, (h c hc).2.1⟩) hne hs
/-- The reference's rounds. -/
def loopR : Nat → List Nat → List Att → Option (List Att)
  | 0, r, acc => if r = [] then some acc else none
  | n + 1, r, acc => match r with
    | [] => some acc
    | c :: r1 => if c ≠ 32 ∨ acc.length = 8 then none else match r1.findIdx? (fun x => decide (x = 61)) with
      | none => none
      | some j => match parseV ((r1.drop (j + 1)).take (wordR (r1.drop (j + 1)))) with
        | none => none
        | some v => loopR n ((r1.drop (j + 1)).drop (wordR (r1.drop (j + 1)))) (acc ++ [⟨r1.take j, v⟩])
noncomputable def parseF (s : List Nat) : Option (List Nat × List Att) := match parseV (s.take (wordR s)) with
  | none => none
  | some kv => if kv.k = 2 then (match loopR 9 (s.drop (wordR s)) [] with
    | none => none
    | some l => if evMay kv.s l = true then some (kv.s, l) else none) else none
theorem loopR_sound (hb : ∀ (s : List Nat), (∀ c, c ∈ s → c < 256) → True) : ∀ {n : Nat} {r : List Nat} {acc l : List Att}, (∀ c, c ∈ r → c < 256) → loopR n r acc = some l → ∃ l', l = acc ++ l' ∧ r = l'.flatMap attT
  | 0, r, acc, l, _, h => by
    unfold loopR at h
    split at h
    · rename_i hr; cases h; exact ⟨[], by simp, by simp [hr]⟩
    · cases h
  | n + 1, [], acc, l, _, h => by
    simp only [loopR] at h
    cases h
    exact ⟨[], by simp, by simp⟩
  | n + 1, c :: r1, acc, l, hr, h => by
    simp only [loopR] at h
    split at h
    · cases h
    · rename_i hc
      split at h
      · cases h
      · rename_i j hj
        split at h
        · cases h
        · rename_i v hv
          have hr1 : ∀ c, c ∈ r1 → c < 256 := fun d hd => hr d (List.mem_cons_of_mem _ hd)
          have hr2 : ∀ c, c ∈ r1.drop (j + 1) → c < 256 := fun d hd => hr1 d (List.mem_of_mem_drop hd)
          obtain ⟨l', h1, h2⟩ := loopR_sound hb (fun d hd => hr2 d (List.mem_of_mem_drop hd)) h
          obtain ⟨hok, htx⟩ := parseV_some (fun d hd => hr2 d (List.mem_of_mem_take hd)) hv
          obtain ⟨hm, htx⟩ := textV_some htx
          obtain ⟨hjl, hjx, _⟩ := List.findIdx?_eq_some_iff_getElem.1 hj
          have hc32 : c = 32 := by
            by_cases e : c = 32
            · exact e
            · exact absurd (.inl e) hc
          refine ⟨⟨r1.take j, v⟩ :: l', by rw [h1]; simp, ?_⟩
          rw [List.flatMap_cons, ← h2, attT_eq]
          unfold attB
          simp only
          rw [htx, hc32]
          have hj61 : r1[j] = 61 := by simpa using hjx
          have hsp : r1 = r1.take j ++ 61 :: r1.drop (j + 1) := by
            conv => lhs; rw [← List.take_append_drop j r1]
            rw [List.drop_eq_getElem_cons hjl, hj61]
          simp only [List.cons_append, List.append_assoc]
          rw [List.take_append_drop, ← hsp]
theorem loopR_all : ∀ {l : List Att} {n : Nat} {acc : List Att}, (∀ a, a ∈ l → nameB a.name = true ∧ mayV a.val = true ∧ okV2 a.val) → l.length ≤ n → acc.length + l.length ≤ 8 → loopR n (l.flatMap attT) acc = some (acc ++ l)
  | [], n, acc, _, _, _ => by cases n <;> simp [loopR]
  | a :: l, 0, acc, _, h, _ => by simp at h
  | a :: l, n + 1, acc, h, hl, h8 => by
    obtain ⟨hn, hm, hv⟩ := h a (List.mem_cons_self ..)
    rw [List.flatMap_cons, attT_eq]
    simp only [List.cons_append]
    have hr : l.flatMap attT = [] ∨ ∃ r, l.flatMap attT = 32 :: r := by
      cases l with
      | nil => exact .inl rfl
      | cons b l => exact .inr ⟨attB b ++ l.flatMap attT, by rw [List.flatMap_cons, attT_eq, List.cons_append]⟩
    have hw := word_txt hv hm hr
    have hf : (attB a ++ l.flatMap attT).findIdx? (fun x => decide (x = 61)) = some a.name.length := by
      unfold attB
      rw [List.append_assoc, List.cons_append, List.findIdx?_eq_some_iff_getElem]
      refine ⟨by simp, by simp, fun j hj => ?_⟩
      have hx : (a.name ++ 61 :: (txtV a.val ++ l.flatMap attT))[j]'(by simp; omega) = a.name[j] := List.getElem_append_left hj
      rw [hx]
      simpa using (name_signs hn _ (List.getElem_mem hj)).2.2
    have hd : (attB a ++ l.flatMap attT).drop (a.name.length + 1) = txtV a.val ++ l.flatMap attT := by
      unfold attB
      rw [List.append_assoc, List.cons_append, List.drop_append]
      simp
    have htk : (attB a ++ l.flatMap attT).take a.name.length = a.name := by
      unfold attB
      rw [List.append_assoc, List.take_left']
      rfl
    have ht : parseV (txtV a.val) = some a.val := parse_text hv (by unfold textV; rw [hm]; rfl)
    simp only [loopR]
    rw [if_neg (by simp at h8; omega)]
    simp only [hf, hd, hw, htk, List.take_left', List.drop_left', ht]
    rw [loopR_all (fun b hb => h b (List.mem_cons_of_mem _ hb)) (by simp at hl; exact hl) (by simp at h8 ⊢; omega)]
    simp
theorem parseF_of {key : List Nat} {l : List Att} {s : List Nat} (ho : okE key l) (h : evText key l = some s) : parseF s = some (key, l) := by
  obtain ⟨hm, rfl⟩ := evText_some h
  obtain ⟨_, hk, hl⟩ := evMay_parts hm
  have hw : wordR (evTxt key l) = (quoteN key).length := word_quote ho.1 _
  unfold parseF
  rw [hw]
  unfold evTxt
  simp only [List.take_left', List.drop_left', word_read ho.1 hk, if_true]
  rw [loopR_all (may_atts hm ho) (by omega) (by simpa using hl)]
  simp [hm]
theorem parseF_some {s : List Nat} (hs : ∀ c, c ∈ s → c < 256) {k : List Nat} {l : List Att} (h : parseF s = some (k, l)) : evText k l = some s := by
  unfold parseF at h
  split at h
  · cases h
  · rename_i kv hkv
    split at h
    · rename_i hk2
      split at h
      · cases h
      · rename_i l0 hl
        split at h
        · rename_i hm
          cases h
          obtain ⟨hok, htx⟩ := parseV_some (fun d hd => hs d (List.mem_of_mem_take hd)) hkv
          obtain ⟨_, htx⟩ := textV_some htx
          obtain ⟨l', h1, h2⟩ := loopR_sound (fun _ _ => trivial) (fun d hd => hs d (List.mem_of_mem_drop hd)) hl
          simp only [List.nil_append] at h1
          subst h1
          have hq : txtV kv = quoteN kv.s := by
            unfold txtV
            rw [if_neg (by omega), if_neg (by omega)]
          unfold evText
          rw [if_pos hm]
          congr 1
          unfold evTxt
          rw [← hq, htx, ← h2, List.take_append_drop]
        · cases h
    · cases h
/-! ### What is read holds what a value may hold -/
theorem part_mem {s : List Nat} {c : Nat} : (c ∈ (part s).1 → c ∈ s) ∧ (c ∈ (part s).2 → c ∈ s) := by
  unfold part
  split
  · exact ⟨fun h => List.mem_of_mem_take h, fun h => List.mem_of_mem_drop h⟩
  · exact ⟨fun h => h, fun h => by cases h⟩
theorem part_len (s : List Nat) : (part s).1.length ≤ s.length ∧ (part s).2.length ≤ s.length := by
  unfold part
  split
  · simp only [List.length_take, List.length_drop]; omega
  · simp
theorem cutS_mem {x : Nat} {s : List Nat} {c : Nat} : (c ∈ (cutS x s).1 → c ∈ s) ∧ (c ∈ (cutS x s).2 → c ∈ s) := by
  unfold cutS
  split
  · exact ⟨fun h => List.mem_of_mem_take h, fun h => List.mem_of_mem_drop h⟩
  · exact ⟨fun h => h, fun h => by cases h⟩
theorem cutS_len (x : Nat) (s : List Nat) : (cutS x s).1.length ≤ s.length ∧ (cutS x s).2.length ≤ s.length := by
  unfold cutS
  split
  · simp only [List.length_take, List.length_drop]; omega
  · simp
theorem zero_ok : okV2 zeroV := ⟨fun c hc => (by cases hc), by show (-9223372036854775808 : Int) ≤ 0; decide, by show (0 : Int) < 9223372036854775808; decide⟩
theorem loopE_ok : ∀ (n : Nat) {r : List Nat} {acc : List Att}, (∀ c, c ∈ r → c < 256) → r.length < 140737488355328 → (∀ a, a ∈ acc → okAtt a) → ∀ a, a ∈ (loopE n r acc).1 → okAtt a
  | 0, r, acc, _, _, h => h
  | n + 1, r, acc, hr, hl, h => by
    rw [loopE]
    split
    · exact h
    · have hn : ∀ v, okV2 v → okAtt ⟨(cutS 61 (part r).1).1, v⟩ := fun v hv => ⟨fun c hc => hr c (part_mem.1 (cutS_mem.1 hc)), by have := (cutS_len 61 (part r).1).1; have := (part_len r).1; show (cutS 61 (part r).1).1.length ≤ _; omega, hv⟩
      have hsn : ∀ v, okV2 v → ∀ a, a ∈ acc ++ [⟨(cutS 61 (part r).1).1, v⟩] → okAtt a := fun v hv a ha => by
        rcases List.mem_append.1 ha with k | k
        · exact h a k
        · simp at k; rw [k]; exact hn v hv
      split
      · rename_i v hv
        have hok := (parseV_some (fun c hc => hr c (part_mem.1 (cutS_mem.2 hc))) hv).1
        exact loopE_ok n (fun c hc => hr c (part_mem.2 hc)) (by have := (part_len r).2; omega) (hsn v hok)
      · exact hsn zeroV zero_ok
theorem loopE_len : ∀ (n : Nat) (r : List Nat) (acc : List Att), (loopE n r acc).1.length ≤ acc.length + n
  | 0, r, acc => by simp [loopE]
  | n + 1, r, acc => by
    rw [loopE]
    split
    · simp
    · split
      · rename_i v hv
        have := loopE_len n (part r).2 (acc ++ [⟨(cutS 61 (part r).1).1, v⟩])
        simp only [List.length_append, List.length_cons, List.length_nil] at this
        omega
      · simp
/-- Both readers read alike. -/
theorem parse_same {s : List Nat} (hs : ∀ c, c ∈ s → c < 256) (hl : s.length < 140737488355328) (hF : ∀ k l, parseF s = some (k, l) → okE k l) : parseE s = parseF s := by
  cases h : parseE s with
  | some q =>
    obtain ⟨k, l⟩ := q
    have ht := parseE_some h
    have ho : okE k l := by
      unfold parseE at h
      split at h
      · cases h
      · rename_i kv hkv
        split at h
        · cases h
          exact ⟨(parseV_some (fun c hc => hs c (part_mem.1 hc)) hkv).1.1, loopE_ok 9 (fun c hc => hs c (part_mem.2 hc)) (by have := (part_len s).2; omega) (fun a ha => by cases ha)⟩
        · cases h
    exact (parseF_of ho ht).symm
  | none =>
    cases h2 : parseF s with
    | none => rfl
    | some q =>
      obtain ⟨k, l⟩ := q
      rw [parseE_of (hF k l h2) (parseF_some hs h2)] at h
      cases h
end Go.Proofs.YtpglcebeldgeeaaDoor.val

namespace Go.Proofs.YtpglcebeldgeeaaDoor.val
open Go Go.Am Go.Proofs.YtpglcebeldgeeaaDoor.laid
set_option linter.unusedVariables false
set_option linter.unusedSimpArgs false

theorem idxB_is (c : Nat) : ∀ (l : List Nat) (i : Nat), idxB c l i = (l.findIdx? fun x => decide (x = c)).map (· + i)
  | [], i => rfl
  | x :: l, i => by
    show cond (Nat.beq x c) (some i) (idxB c l (i + 1)) = _
    rw [idxB_is c l (i + 1), List.findIdx?_cons, nbeq]
    by_cases h : x = c
    · simp [h]
    · simp only [h, decide_false, cond_false]
      cases l.findIdx? (fun x => decide (x = c)) with
      | none => rfl
      | some v => simp; omega
def idxV (o : Option Nat) : Int := match o with | some i => (i : Int) | none => -1
theorem ext_idx {s : List Nat} {c : Nat} (hc : c < 256) : extV .idxByte [.str s, .int .u8 (c : Int)] = some (.int .i64 (idxV (s.findIdx? fun x => decide (x = c)))) := by
  show cond (Nat.blt c 256) (some (intOr (idxB c s 0))) none = _
  rw [nblt, idxB_is]
  simp only [hc, decide_true, cond_true]
  cases s.findIdx? (fun x => decide (x = c)) with
  | none => rfl
  | some v => simp [intOr, idxV, forceN_eq]
theorem nt38e : Tryd.f19.ntmps = 69 := by kernel_rfl
theorem nt56e : Tryd.f41.ntmps = 23 := by kernel_rfl
section
variable {S : AS}
theorem idx95 {s : List Nat} {c : Nat} (hc : c < 256) {Q : AV → AS → Prop} : CallW C0 75 [.str s, .int .u8 (c : Int)] S Q = Q (.int .i64 (idxV (s.findIdx? fun x => decide (x = c)))) S := by
  refine CallW.eq (enterW (pu0 _) (pr0 _ rfl) e_fn95 rfl e_ok95 (by simp) fun F hn hs => ?_)
  have s0 := hs 0
  have s1 := hs 1
  clear hs
  simp only [List.getElem?_cons_zero, List.getElem?_cons_succ, Option.getD_some] at s0 s1
  have e := ext_idx (s := s) hc
  simp [s0, s1, exIxb, e]
theorem idx79 {s : List Nat} {c : Nat} (hc : c < 256) {Q : AV → AS → Prop} : CallW C0 54 [.str s, .str [c]] S Q = Q (.int .i64 (idxV (s.findIdx? fun x => decide (x = c)))) S := by
  refine CallW.eq (enterW (pu0 _) (pr0 _ rfl) e_fn79 rfl e_ok79 (by simp) fun F hn hs => ?_)
  have s0 := hs 0
  have s1 := hs 1
  clear hs
  simp only [List.getElem?_cons_zero, List.getElem?_cons_succ, Option.getD_some] at s0 s1
  have e := fun Q => idx95 (S := S) (s := s) hc (Q := Q)
  have ixc := fun (F : Fr) (S' : AS) (dst : Option Tmp) (ty : TypeId) (pos : String) (af : Array Edge) (gd : Option (Nat × Bool)) (x : Tmp) (a : sl F x = .str [c]) => aop_index_text (cx := C0) (F := F) (S := S') (dst := dst) (ty := ty) (pos := pos) (af := af) (gd := gd) (t := 9) (ix := .const (.int .i64 0)) (i := 0) (c := c) ((eval_tmp F x).trans a) rfl rfl rfl sT9 rfl
  by_cases h : [c] = s
  · subst h
    simp [s0, s1, len_str und9, eqS_eq, idxV]
  · simp [s0, s1, len_str und9, eqS_eq, h, ixc, e, ex0]
theorem cut56 {s : List Nat} {c : Nat} (hc : c < 256) (hl : s.length < 140737488355328) {Q : AV → AS → Prop} : CallW C0 41 [.str s, .str [c]] S Q = Q (.tuple [.str (cutS c s).1, .str (cutS c s).2, .bool (s.findIdx? fun x => decide (x = c)).isSome]) S := by
  refine CallW.eq (enterW (pu0 _) (pr0 _ rfl) e_fn56 rfl e_ok56 (by simp) fun F hn hs => ?_)
  rw [nt56e] at hn
  have s0 := hs 0
  have s1 := hs 1
  clear hs
  simp only [List.getElem?_cons_zero, List.getElem?_cons_succ, Option.getD_some] at s0 s1
  have e := fun Q => idx79 (S := S) (s := s) hc (Q := Q)
  unfold cutS
  cases hf : s.findIdx? (fun x => decide (x = c)) with
  | none =>
    rw [hf] at e
    simp [s0, s1, e, ex0, idxV]
  | some i =>
    rw [hf] at e
    have hi := (List.findIdx?_eq_some_iff_getElem.1 hf).1
    have hw := wrap_succ (i := i) (by omega)
    have b1 : ∀ (F : Fr) (x : Tmp) (m : Nat), sl F x = .int .i64 (i : Int) → bound F (some (.tmp x)) m = some i := fun F x m h => by rw [bound_some, eval_tmp, h]; exact natOf_nat
    have b2 : ∀ (F : Fr) (x : Tmp) (m : Nat), sl F x = .int .i64 ((i : Int) + 1) → bound F (some (.tmp x)) m = some (i + 1) := fun F x m h => by
      rw [bound_some, eval_tmp, h, show ((i : Int) + 1) = ((i + 1 : Nat) : Int) by omega]; exact natOf_nat
    have v1 := fun (F : Fr) (x : Tmp) (h : sl F x = .int .i64 (i : Int)) => (sliceV_text (cx := C0) (F := F) (t := 9) (s := s) (lo := none) (l := 0) sT9 rfl (b1 F x s.length h) (Nat.zero_le _) (by omega)).trans (show _ = some (AV.str (s.take i)) by simp)
    have v2 := fun (F : Fr) (x : Tmp) (h : sl F x = .int .i64 ((i : Int) + 1)) => (sliceV_text (cx := C0) (F := F) (t := 9) (s := s) (hi := none) (k := s.length) sT9 (b2 F x 0 h) rfl (by omega) (Nat.le_refl _)).trans (show _ = some (AV.str (s.drop (i + 1))) by rw [List.take_of_length_le (by rw [List.length_drop]; exact Nat.le_refl _)])
    simp [s0, s1, e, ex0, idxV, hn]
    refine still_ok (n := 23) (by kernel_rfl) (by simp [hn]) ?_
    simp [s0, s1, len_str und9, v1, v2, hw]
theorem cut40 {s : List Nat} {c : Nat} (hc : c < 256) (hl : s.length < 140737488355328) {Q : AV → AS → Prop} : CallW C0 21 [.str s, .str [c]] S Q = Q (.tuple [.str (cutS c s).1, .str (cutS c s).2, .bool (s.findIdx? fun x => decide (x = c)).isSome]) S := by
  refine CallW.eq (enterW (pu0 _) (pr0 _ rfl) e_fn40 rfl e_ok40 (by simp) fun F hn hs => ?_)
  have s0 := hs 0
  have s1 := hs 1
  clear hs
  simp only [List.getElem?_cons_zero, List.getElem?_cons_succ, Option.getD_some] at s0 s1
  have e := fun Q => cut56 (S := S) (s := s) hc hl (Q := Q)
  simp [s0, s1, e, ex0]
def prtH (S : AS) (b : Nat) (s : List Nat) (k : Nat) (F' : Fr) (S' : AS) : Prop :=
  S' = S ∧ ∃ (i : Nat) (q m : Bool), cutAt false false s = (cutAt q m (s.drop i)).map (· + i) ∧ sl F' 0 = .ptr b 0 0 1 ∧ sl F' 3 = .bool q ∧ sl F' 4 = .bool m ∧ sl F' 13 = .int .i64 s.length ∧ sl F' 14 = .int .i64 i ∧ i ≤ s.length ∧ k = s.length - i
theorem prtH_mk {S : AS} {b : Nat} {s : List Nat} {k : Nat} {F' : Fr} (i : Nat) (q m : Bool) (h1 : cutAt false false s = (cutAt q m (s.drop i)).map (· + i)) (h2 : sl F' 0 = .ptr b 0 0 1) (h3 : sl F' 3 = .bool q) (h4 : sl F' 4 = .bool m) (h5 : sl F' 13 = .int .i64 s.length) (h6 : sl F' 14 = .int .i64 i) (h7 : i ≤ s.length) (h8 : k = s.length - i) : prtH S b s k F' S := ⟨rfl, i, q, m, h1, h2, h3, h4, h5, h6, h7, h8⟩
set_option maxRecDepth 20000 in
set_option maxHeartbeats 1000000 in
theorem part38 {b : Nat} {s : List Nat} (hb : S.h.get b = some (.row [.str s] 0 0 false 57)) (hl : s.length < 140737488355328) : CallW C0 19 [.ptr b 0 0 1] S fun r T => r = .str (part s).1 ∧ T = ⟨S.h.set b (.row [.str (part s).2] 0 0 false 57), S.next⟩ := by
  refine enterW (pu0 _) (pr0 _ rfl) e_fn38 rfl e_ok38 (by simp) fun F hn hs => ?_
  have s0 := hs 0
  clear hs
  simp only [List.getElem?_cons_zero, Option.getD_some] at s0
  simp [s0, hb, len_str und9]
  refine loopP_of (prtH S b s) s.length (prtH_mk 0 false false (by simp) (by simp [s0]) (by simp) (by simp) (by simp) (by simp) (Nat.zero_le _) rfl) ?_
  clear s0 hn
  rintro k F' S' hn' ⟨rfl, i, q, m, hc, s0, s3, s4, s13, s14, hi, hk⟩
  clear hn'
  by_cases hi' : i < s.length
  · have hx : s[i]? = some (s[i]'hi') := List.getElem?_eq_getElem _
    have hd : s.drop i = s[i]'hi' :: s.drop (i + 1) := List.drop_eq_getElem_cons hi'
    generalize s[i]'hi' = c at hx hd
    rw [hd] at hc
    have ixc := fun (F : Fr) (S' : AS) (dst : Option Tmp) (ty : TypeId) (pos : String) (af : Array Edge) (gd : Option (Nat × Bool)) (x y : Tmp) (a : sl F x = .str s) (b : sl F y = .int .i64 (i : Int)) => aop_index_text (cx := C0) (F := F) (S := S') (dst := dst) (ty := ty) (pos := pos) (af := af) (gd := gd) (t := 9) (ix := .tmp y) (i := i) (c := c) ((eval_tmp F x).trans a) rfl ((eval_tmp F y).trans b) natOf_nat sT9 hx
    have hw := wrap_succ (i := i) (by omega)
    have hw' : IntKind.i64.wrap ((i : Int) + 1) = (i : Int) + 1 := IntWalk.i64_in _ (by omega)
    have fin : ∀ (q' m' : Bool) (F2 : Fr), cutAt q m (c :: s.drop (i + 1)) = (cutAt q' m' (s.drop (i + 1))).map (· + 1) → sl F2 0 = .ptr b 0 0 1 → sl F2 3 = .bool q' → sl F2 4 = .bool m' → sl F2 13 = .int .i64 s.length → sl F2 14 = .int .i64 ((i : Int) + 1) → ∃ j, j < k ∧ prtH S' b s j F2 S' := fun q' m' F2 h a0 a3 a4 a13 a14 =>
      ⟨s.length - (i + 1), by omega, prtH_mk (i + 1) q' m' (by rw [hc, h, map_add, Nat.add_comm 1 i]) a0 a3 a4 a13 (by rw [a14]; simp) hi' rfl⟩
    cases m with
    | true =>
      simp [s0, s3, s4, s13, s14, hi', hb, ixc, hw]
      exact fin q false _ (cutAt_masked q c _) (by simp [s0]) (by simp [s3]) (by simp) (by simp [s13]) (by simp)
    | false =>
      by_cases h92 : q = true ∧ c = 92
      · obtain ⟨rfl, rfl⟩ := h92
        simp [s0, s3, s4, s13, s14, hi', hb, ixc, hw]
        exact fin true true _ (cutAt_bs _) (by simp [s0]) (by simp [s3]) (by simp) (by simp [s13]) (by simp)
      · by_cases h34 : c = 34
        · subst h34
          cases q with
          | true =>
            simp [s0, s3, s4, s13, s14, hi', hb, ixc, hw]
            exact fin false false _ (cutAt_close _) (by simp [s0]) (by simp) (by simp [s4]) (by simp [s13]) (by simp)
          | false =>
            simp [s0, s3, s4, s13, s14, hi', hb, ixc, hw]
            exact fin true false _ (cutAt_open _) (by simp [s0]) (by simp) (by simp [s4]) (by simp [s13]) (by simp)
        · have h34' : ¬ (c : Int) = 34 := by omega
          cases q with
          | true =>
            have h92' : ¬ c = 92 := fun e => h92 ⟨rfl, e⟩
            have h92'' : ¬ (c : Int) = 92 := by omega
            by_cases h32 : c = 32
            · subst h32
              simp [s0, s3, s4, s13, s14, hi', hb, ixc, hw]
              exact fin true false _ (cutAt_q (by decide) (by decide) _) (by simp [s0]) (by simp [s3]) (by simp [s4]) (by simp [s13]) (by simp)
            · have h32' : ¬ (c : Int) = 32 := by omega
              simp [s0, s3, s4, s13, s14, hi', hb, ixc, hw, h34, h34', h92', h92'', h32, h32']
              exact fin true false _ (cutAt_q h34 h92' _) (by simp [s0]) (by simp [s3]) (by simp [s4]) (by simp [s13]) (by simp)
          | false =>
            by_cases h32 : c = 32
            · subst h32
              rw [cutAt_blank] at hc
              have hp : part s = (s.take i, s.drop (i + 1)) := by unfold part; rw [hc]; simp
              rw [hp]
              have b1 : ∀ (F : Fr) (x : Tmp) (m : Nat), sl F x = .int .i64 (i : Int) → bound F (some (.tmp x)) m = some i := fun F x m h => by rw [bound_some, eval_tmp, h]; exact natOf_nat
              have b2 : ∀ (F : Fr) (x : Tmp) (m : Nat), sl F x = .int .i64 ((i : Int) + 1) → bound F (some (.tmp x)) m = some (i + 1) := fun F x m h => by
                rw [bound_some, eval_tmp, h, show ((i : Int) + 1) = ((i + 1 : Nat) : Int) by omega]; exact natOf_nat
              have v1 := fun (F : Fr) (x : Tmp) (h : sl F x = .int .i64 (i : Int)) => (sliceV_text (cx := C0) (F := F) (t := 9) (s := s) (lo := none) (l := 0) sT9 rfl (b1 F x s.length h) (Nat.zero_le _) (by omega)).trans (show _ = some (AV.str (s.take i)) by simp)
              have v2 := fun (F : Fr) (x : Tmp) (h : sl F x = .int .i64 ((i : Int) + 1)) => (sliceV_text (cx := C0) (F := F) (t := 9) (s := s) (hi := none) (k := s.length) sT9 (b2 F x 0 h) rfl (by omega) (Nat.le_refl _)).trans (show _ = some (AV.str (s.drop (i + 1))) by rw [List.take_of_length_le (by rw [List.length_drop]; exact Nat.le_refl _)])
              simp [s0, s3, s4, s13, s14, hi', hb, ixc, hw, v1, v2]
            · have h32' : ¬ (c : Int) = 32 := by omega
              simp [s0, s3, s4, s13, s14, hi', hb, ixc, hw, h34, h34', h32, h32']
              exact fin false false _ (cutAt_p h34 h32 _) (by simp [s0]) (by simp [s3]) (by simp [s4]) (by simp [s13]) (by simp)
  · have hn : cutAt false false s = none := by
      rw [hc, List.drop_eq_nil_of_le (by omega)]
      cases q <;> cases m <;> rfl
    rw [part_end hn]
    simp [s0, s13, s14, hi', hb]
end
end Go.Proofs.YtpglcebeldgeeaaDoor.val

namespace Go.Proofs.YtpglcebeldgeeaaDoor.val
open Go Go.Am Go.Proofs.YtpglcebeldgeeaaDoor.laid
set_option linter.unusedVariables false
set_option linter.unusedSimpArgs false

/-- What Parse leaves. -/
def ParseR (o : Option (List Nat × List Att)) (r : AV) (T : AS) : Prop := match o with
  | some (k, l) => ∃ v, r = .tuple [.agg [.str k, v], .int .i64 0] ∧ AttsAt T v l
  | none => r = .tuple [.agg [.str [], .nils], .int .i64 5]
def errV (ok : Bool) : Int := if ok then 0 else 5
theorem parO_ok {r : AV} {o : Option ValV} (h : parO r o) : r = .tuple [.agg (encV (o.getD zeroV)), .int .i64 (errV o.isSome)] := by cases o <;> exact h
noncomputable def loopL (s : List Nat) : List Att × Bool := if (parseV (part s).1).isSome = true then loopE 9 (part s).2 [] else ([], false)
noncomputable def keyL (s : List Nat) : List Nat := ((parseV (part s).1).getD zeroV).s
theorem parseE_eq (s : List Nat) : parseE s = if (loopL s).2 = true ∧ evText (keyL s) (loopL s).1 = some s then some (keyL s, (loopL s).1) else none := by
  unfold parseE loopL keyL
  cases h : parseV (part s).1 with
  | none => simp
  | some kv => simp
theorem nt18e : Tryd.f7.ntmps = 82 := by kernel_rfl
theorem bld74 (s : List Nat) : buildA C0 57 [(0, .str s)] = some (.agg [.str s]) := by kernel_rfl
theorem bld34v (n : List Nat) (v : ValV) : buildA C0 38 [(0, .str n), (1, .agg (encV v))] = some (.agg (.str n :: encV v)) := by kernel_rfl
theorem bld24k (n : List Nat) : buildA C0 24 [(0, .str n)] = some (.agg [.str n, .nils]) := by kernel_rfl
structure PrsAt (S : AS) (s : List Nat) (b8 : Nat) (rest : List Nat) (acc : List Att) (ok : Bool) (w : AV) (S' : AS) : Prop where
  sub : Sub S S'
  nxt : S.next + 2 < S'.next
  b8l : S.next + 2 ≤ b8
  b8n : b8 < S'.next
  loop : loopL s = if ok then loopE (9 - acc.length) rest acc else (acc, false)
  len : acc.length ≤ 9
  r2 : S'.h.get S.next = some (.row [.str [], .nils] 0 0 false 24)
  r4 : S'.h.get (S.next + 1) = some (.row [.str rest] 0 0 false 57)
  r8 : S'.h.get b8 = some (.row [.str (keyL s), w] 0 0 false 24)
  gw : Gw S' w 5 38 (acc.flatMap encA)
  wb : bnd w = 0 ∨ b8 + 1 < bnd w
  rb : ∀ c, c ∈ rest → c < 256
  rl : rest.length < 140737488355328
  oka : ∀ a, a ∈ acc → okAtt a
def prsH (S : AS) (s : List Nat) (b8 : Nat) (k : Nat) (F' : Fr) (S' : AS) : Prop :=
  ∃ (rest : List Nat) (acc : List Att) (ok : Bool) (w : AV), PrsAt S s b8 rest acc ok w S' ∧ sl F' 0 = .str s ∧ sl F' 2 = .ptr S.next 0 0 2 ∧ sl F' 4 = .ptr (S.next + 1) 0 0 1 ∧ sl F' 5 = .func (.func 19) [.ptr (S.next + 1) 0 0 1] [] ∧ sl F' 7 = .int .i64 (errV ok) ∧ sl F' 8 = .ptr b8 0 0 2 ∧ F'.n = 82 ∧ k = 9 - acc.length
section
variable {S : AS}
set_option maxRecDepth 20000 in
set_option maxHeartbeats 2000000 in
theorem evParse18 {s : List Nat} (hs : ∀ c, c ∈ s → c < 256) (hl : s.length < 140737488355328) : CallW C0 7 [.str s] S fun r T => ParseR (parseE s) r T ∧ Sub S T := by
  have hA : Sub S ⟨(S.h.set S.next (.row [.str [], .nils] 0 0 false 24)).set (S.next + 1) (.row [.str s] 0 0 false 57), S.next + 2⟩ := sub2
  obtain ⟨B0, hB0⟩ : ∃ B : AS, B = ⟨(S.h.set S.next (.row [.str [], .nils] 0 0 false 24)).set (S.next + 1) (.row [.str s] 0 0 false 57), S.next + 2⟩ := ⟨_, rfl⟩
  rw [← hB0] at hA
  have nB : B0.next = S.next + 2 := by rw [hB0]
  have c2 : B0.h.get S.next = some (.row [.str [], .nils] 0 0 false 24) := by rw [hB0]; simp
  have c4 : B0.h.get (S.next + 1) = some (.row [.str s] 0 0 false 57) := by rw [hB0]; exact get_set_same _ _ _
  obtain ⟨r, T1, ⟨rfl, hT1⟩, e1⟩ := (part38 c4 hl).ex
  have nT1 : T1.next = S.next + 2 := by rw [hT1]; exact nB
  have hS1 : Sub S T1 := by rw [hT1]; exact hA.set _ _ (by omega) _ (Nat.le_refl _)
  have d2 : T1.h.get S.next = some (.row [.str [], .nils] 0 0 false 24) := by rw [hT1]; exact (get_set_ne _ _ (by omega)).trans c2
  have d4 : T1.h.get (S.next + 1) = some (.row [.str (part s).2] 0 0 false 57) := by rw [hT1]; exact get_set_same _ _ _
  have hp1 := part_len s
  obtain ⟨r, T2, ⟨hT2, h2⟩, e2⟩ := (parse16 (S := T1) (s := (part s).1) (fun c hc => hs c (part_mem.1 hc)) (by omega)).ex
  obtain rfl := parO_ok h2
  have n2 := hT2.next
  have f2 := (hT2.h _ (by omega)).trans d2
  have f4 := (hT2.h _ (by omega)).trans d4
  obtain ⟨P3, hP3⟩ : ∃ P : AS, P = ⟨(T2.h.set T2.next (.row (encV zeroV) 0 0 false 36)).set T2.next (.row (encV ((parseV (part s).1).getD zeroV)) 0 0 false 36), T2.next + 1⟩ := ⟨_, rfl⟩
  have hSP3 : Sub T2 P3 := by rw [hP3]; exact sub1s
  have nP3 : P3.next = T2.next + 1 := by rw [hP3]
  have p3 : P3.h.get T2.next = some (.row (encV ((parseV (part s).1).getD zeroV)) 0 0 false 36) := by rw [hP3]; exact get_set_same _ _ _
  obtain ⟨P4, hP4⟩ : ∃ P : AS, P = ⟨(P3.h.set P3.next (.row [.str [], .nils] 0 0 false 24)).set P3.next (.row [.str (keyL s), .nils] 0 0 false 24), P3.next + 1⟩ := ⟨_, rfl⟩
  have hSP4 : Sub P3 P4 := by rw [hP4]; exact sub1s
  have nP4 : P4.next = P3.next + 1 := by rw [hP4]
  have p4 : P4.h.get P3.next = some (.row [.str (keyL s), .nils] 0 0 false 24) := by rw [hP4]; exact get_set_same _ _ _
  have hinit : PrsAt S s P3.next (part s).2 [] (parseV (part s).1).isSome .nils P4 := by
    refine ⟨((hS1.trans hT2).trans hSP3).trans hSP4, by omega, by omega, by omega, ?_, by simp, ?_, ?_, p4, Gw.nil, .inl rfl, fun c hc => hs c (part_mem.2 hc), by omega, fun a ha => by cases ha⟩
    · unfold loopL; cases (parseV (part s).1).isSome <;> rfl
    · rw [hSP4.h _ (by omega), hSP3.h _ (by omega)]; exact f2
    · rw [hSP4.h _ (by omega), hSP3.h _ (by omega)]; exact f4
  have hkey : ((parseV (part s).1).getD zeroV).s = keyL s := rfl
  generalize hkv : (parseV (part s).1).getD zeroV = kv at *
  have bB0 := hB0.symm
  have bP3 := hP3.symm
  have bP4 := hP4.symm
  clear hP3 hP4 hB0
  refine enterW (pu0 _) (pr0 _ rfl) e_fn18 rfl e_ok18 (by simp) fun F hn hs' => ?_
  rw [nt18e] at hn
  have s0 := hs' 0
  clear hs'
  simp only [List.getElem?_cons_zero, Option.getD_some] at s0
  have z2 := e_ze32
  simp only [encV, zeroV] at e2 bP3 p3
  rw [hkey] at p3 bP3 e2
  simp [s0, bld74, bB0, e1, e2, ex0, bP3, p3, bld24k, bP4]
  refine loopP_of (prsH S s P3.next) 9 ⟨_, _, _, _, hinit, by simp [s0], by simp, by simp, by simp, by simp, by simp, by simp [hn], rfl⟩ ?_
  clear s0 hn hinit e1 e2 bB0 bP3 bP4 p3 p4 hkey hkv h2 f2 f4 d2 d4 c2 c4 hT1 hT2 hSP3 hSP4 hA hS1 n2 nB nP3 nP4 nT1 z2 hp1
  rintro k F' S' hn' ⟨rest, acc, ok, w, hI, s0, s2, s4, s5, s7, s8, hn, hk⟩
  clear hn'
  obtain ⟨hS, hSn, hb8l, hb8n, hloop, hacc, r2, r4, r8, hg, hwb, hrb, hrl, hoka⟩ := hI
  generalize P3.next = b8 at *
  have w1 := hg.1.sl
  have w2 := hg.1.len_flat encA_len (by omega)
  have wok := hg.1.ok
  have wkw := okW_of wok
  have wc := hg.1.cells
  have wo := hg.1.old
  by_cases hgo : ok = true ∧ rest ≠ [] ∧ acc.length ≤ 8
  · obtain ⟨rfl, hne, h8⟩ := hgo
    have h8' : (acc.length : Int) ≤ 8 := by omega
    obtain ⟨n, hn9⟩ : ∃ n, 9 - acc.length = n + 1 := ⟨8 - acc.length, by omega⟩
    have hl2 : loopL s = match parseV (cutS 61 (part rest).1).2 with
        | some v => loopE n (part rest).2 (acc ++ [⟨(cutS 61 (part rest).1).1, v⟩])
        | none => (acc ++ [⟨(cutS 61 (part rest).1).1, zeroV⟩], false) := by
      rw [hloop, hn9]
      simp only [if_true]
      rw [loopE, if_neg hne]
      all_goals (cases parseV (cutS 61 (part rest).1).2 <;> rfl)
    have hpl := part_len rest
    have hcl := cutS_len 61 (part rest).1
    obtain ⟨r, V1, ⟨rfl, hV1⟩, e1⟩ := (part38 r4 hrl).ex
    have nV1 : V1.next = S'.next := by rw [hV1]
    have kV1 : ∀ id, id ≠ S.next + 1 → V1.h.get id = S'.h.get id := fun id h => by rw [hV1]; exact get_set_ne _ _ h
    have gV1 : V1.h.get (S.next + 1) = some (.row [.str (part rest).2] 0 0 false 57) := by rw [hV1]; exact get_set_same _ _ _
    have ecut := fun Q => cut40 (S := V1) (s := (part rest).1) (c := 61) (by decide) (by omega) (Q := Q)
    obtain ⟨V2, hV2⟩ : ∃ V : AS, V = ⟨V1.h.set V1.next (.row (encV zeroV) 0 0 false 36), V1.next + 1⟩ := ⟨_, rfl⟩
    have hSV2 : Sub V1 V2 := by rw [hV2]; exact sub1
    have nV2 : V2.next = V1.next + 1 := by rw [hV2]
    have hctx : ∀ c, c ∈ (cutS 61 (part rest).1).2 → c < 256 := fun c hc => hrb c (part_mem.1 (cutS_mem.2 hc))
    obtain ⟨r, V3, ⟨hV3, h3⟩, e3⟩ := (parse16 (S := V2) hctx (by omega)).ex
    obtain rfl := parO_ok h3
    have n3 := hV3.next
    have gz3 : V3.h.get V1.next = some (.row (encV zeroV) 0 0 false 36) := by rw [hV3.h _ (by omega), hV2]; exact get_set_same _ _ _
    generalize hvv : (parseV (cutS 61 (part rest).1).2).getD zeroV = vv at *
    obtain ⟨V4, hV4⟩ : ∃ V : AS, V = ⟨V3.h.set V1.next (.row (encV vv) 0 0 false 36), V3.next⟩ := ⟨_, rfl⟩
    have nV4 : V4.next = V3.next := by rw [hV4]
    have g4 : V4.h.get V1.next = some (.row (encV vv) 0 0 false 36) := by rw [hV4]; exact get_set_same _ _ _
    have kV4 : ∀ id, id < S'.next → id ≠ S.next + 1 → V4.h.get id = S'.h.get id := fun id h1 h2 => by
      rw [hV4]
      rw [show (⟨V3.h.set V1.next (.row (encV vv) 0 0 false 36), V3.next⟩ : AS).h.get id = V3.h.get id from get_set_ne _ _ (by omega), hV3.h _ (by omega), hSV2.h _ (by omega)]
      exact kV1 id h2
    have gr4 : V4.h.get (S.next + 1) = some (.row [.str (part rest).2] 0 0 false 57) := by
      rw [hV4]
      rw [show (⟨V3.h.set V1.next (.row (encV vv) 0 0 false 36), V3.next⟩ : AS).h.get (S.next + 1) = V3.h.get (S.next + 1) from get_set_ne _ _ (by omega), hV3.h _ (by omega), hSV2.h _ (by omega)]
      exact gV1
    have hg4 : Gw V4 w 5 38 (acc.flatMap encA) := hg.agree (fun id e => kV4 id (by omega) (by omega)) (by omega)
    have q8 := (kV4 b8 hb8n (by omega)).trans r8
    have q2 := (kV4 S.next (by omega) (by omega)).trans r2
    obtain ⟨a, ha⟩ : ∃ a : Att, a = ⟨(cutS 61 (part rest).1).1, vv⟩ := ⟨_, rfl⟩
    have hA5 : Sub V4 ⟨V4.h.set V4.next (.row (encA a) 0 0 false 38), V4.next + 1⟩ := sub1
    have hg5 := hg4.agree (T := ⟨V4.h.set V4.next (.row (encA a) 0 0 false 38), V4.next + 1⟩) (fun id e => hA5.h id (by omega)) hA5.next
    have x5 : Sl (⟨V4.h.set V4.next (.row (encA a) 0 0 false 38), V4.next + 1⟩ : AS) (.slice V4.next 0 0 1 5 5 (some 1)) 5 ([a].flatMap encA) := by
      refine ⟨by simp [isSl, capB], ?_, by simp [sLen, encA, encV], by simp [bnd]⟩
      simp [rdS, rd_at, rdO_row, encA, encV]
    obtain ⟨w', V6, e6, g6, k6, n6, b6⟩ := app_atts hg5 x5 (by simp; omega)
    have n6' : V4.next + 1 ≤ V6.next := n6
    have k6' : ∀ id, id < V4.next → bnd w ≠ id + 1 → V6.h.get id = V4.h.get id := fun id h1 h2 => by
      rw [k6 id (by show id < V4.next + 1; omega) h2]
      exact get_set_ne _ _ (by omega)
    have b6' : bnd w' = 0 ∨ b8 + 1 < bnd w' := by
      have : bnd w' = bnd w ∨ V4.next + 1 < bnd w' := b6
      omega
    have t8 := (k6' b8 (by omega) (by omega)).trans q8
    have t2 := (k6' S.next (by omega) (by omega)).trans q2
    have t4 := (k6' (S.next + 1) (by omega) (by omega)).trans gr4
    have w'c := g6.1.cells
    have w'p := g6.1.np
    have hok : okV2 vv := by
      rw [← hvv]
      cases hpv : parseV (cutS 61 (part rest).1).2 with
      | none => exact zero_ok
      | some v => exact (parseV_some hctx hpv).1
    have hI' : PrsAt S s b8 (part rest).2 (acc ++ [a]) (parseV (cutS 61 (part rest).1).2).isSome w' ⟨V6.h.set b8 (.row [.str (keyL s), w'] 0 0 false 24), V6.next⟩ := by
      have hV6S : Sub S V6 := ⟨fun id hid => by rw [k6' id (by omega) (by omega), kV4 id (by omega) (by omega)]; exact hS.h id hid, by have := hS.next; omega⟩
      refine ⟨hV6S.set _ _ (by omega) _ (Nat.le_refl _), by show S.next + 2 < V6.next; omega, hb8l, by show b8 < V6.next; omega, ?_, by simp; omega, ?_, ?_, get_set_same _ _ _, ?_, b6', fun c hc => hrb c (part_mem.2 hc), by omega, fun x hx => ?_⟩
      · rw [hl2]
        have : 9 - (acc ++ [a]).length = n := by simp; omega
        rw [this, ha, ← hvv]
        cases parseV (cutS 61 (part rest).1).2 <;> simp
      · exact (get_set_ne _ _ (by omega)).trans t2
      · exact (get_set_ne _ _ (by omega)).trans t4
      · exact g6.agree (fun id e => get_set_ne _ _ (by omega)) (Nat.le_refl _)
      · rcases List.mem_append.1 hx with h | h
        · exact hoka x h
        · simp at h
          rw [h, ha]
          exact ⟨fun c hc => hrb c (part_mem.1 (cutS_mem.1 hc)), by show (cutS 61 (part rest).1).1.length ≤ _; omega, hok⟩
    have bV2 := hV2.symm
    have bV4 := hV4.symm
    have hb34 := bld34v (cutS 61 (part rest).1).1 vv
    have hfr := fun (F : Fr) (id : Nat) (x : Tmp) (h : sl F x = .agg (.str (cutS 61 (part rest).1).1 :: encV vv)) => fresh_att a F id x (by rw [h, ha]; rfl)
    have ea : encA a = .str (cutS 61 (part rest).1).1 :: encV vv := by rw [ha]; rfl
    rw [ea] at e6 hfr
    simp only [encV, zeroV] at e3 bV2 bV4 gz3 g4 hb34 e6 hfr
    clear hV1 hV2 hV4 hloop hl2
    simp [s0, s2, s4, s5, s7, s8, errV, r4, hne, eqS_eq, r8, w1, w2, wok, wkw, h8, h8', e1, ecut, ex0, bV2, e3, gz3, bV4, q8, g4, hb34, hfr, e6, w'p, t8, w'c]
    exact ⟨9 - (acc ++ [a]).length, by simp; omega, (part rest).2, acc ++ [a], _, w', hI', by simp [s0], by simp [s2], by simp [s4], by simp [s5], by simp [errV], by simp [s8], by simp [hn], rfl⟩
  · have hLE : loopL s = (acc, ok) := by
      cases ok with
      | false => simpa using hloop
      | true =>
        rw [hloop]
        simp only [if_true]
        by_cases hne : rest = []
        · subst hne
          cases 9 - acc.length <;> simp [loopE]
        · have : 9 - acc.length = 0 := by
            have : ¬ acc.length ≤ 8 := fun h => hgo ⟨rfl, hne, h⟩
            omega
          rw [this]
          rfl
    have hkb : ∀ c, c ∈ keyL s → c < 256 := fun c hc => by
      unfold keyL at hc
      cases hp : parseV (part s).1 with
      | none => rw [hp] at hc; simp [zeroV] at hc
      | some v =>
        rw [hp] at hc
        exact (parseV_some (fun c hc => hs c (part_mem.1 hc)) hp).1.1 c (by simpa using hc)
    have hat : AttsAt S' w acc := ⟨hg.1, by omega, hoka⟩
    obtain ⟨r, T, ⟨ht, hT⟩, e16⟩ := (evText16 (key := keyL s) hat hkb).ex
    have nT := hT.next
    have t2 := (hT.h _ (by omega)).trans r2
    have t8 := (hT.h _ (by omega)).trans r8
    have hST := hS.trans hT
    have hset : ∀ o, Sub S ⟨T.h.set S.next o, T.next⟩ := fun o => hST.set _ _ (Nat.le_refl _) _ (Nat.le_refl _)
    have ne28 : S.next ≠ b8 := by omega
    have hatT := hat.sub hT
    have hatS : ∀ o, AttsAt ⟨T.h.set S.next o, T.next⟩ w acc := fun o => ⟨hatT.sl.agree (fun id e => get_set_ne _ _ (by omega)) (Nat.le_refl _), hatT.le, hatT.ok⟩
    have herr : parseE s = none → ParseR (parseE s) (.tuple [.agg [.str [], .nils], .int .i64 5]) T := fun h => by rw [h]; rfl
    have hpe := parseE_eq s
    rw [hLE] at hpe
    simp only at hpe
    rw [hpe]
    have hcond : ∀ F : Fr, True := fun _ => trivial
    cases ok with
    | false =>
      rw [if_neg (by simp)]
      obtain ⟨tx, te, rfl⟩ : ∃ (tx : List Nat) (te : Int), r = .tuple [.str tx, .int .i64 te] := by
        cases hev : evText (keyL s) acc with
        | none => rw [hev] at ht; exact ⟨_, _, ht⟩
        | some t => rw [hev] at ht; exact ⟨_, _, ht⟩
      simp [s0, s2, s7, s8, errV, r8, wok, wkw, e16, ex0, bld24_0, t2, ParseR]
      exact hset _
    | true =>
      by_cases hne : rest = []
      · subst hne
        cases hev : evText (keyL s) acc with
        | none =>
          rw [hev] at ht
          obtain rfl : r = .tuple [.str [], .int .i64 30] := ht
          simp [s0, s2, s4, s7, s8, errV, r4, r8, eqS_eq, wok, wkw, e16, ex0, bld24_0, t2, ParseR]
          exact hset _
        | some t =>
          rw [hev] at ht
          obtain rfl : r = .tuple [.str t, .int .i64 0] := ht
          by_cases hts : t = s
          · subst hts
            simp [s0, s2, s4, s7, s8, errV, r4, r8, eqS_eq, wok, wkw, e16, ex0, t2, t8, ParseR]
            exact ⟨hatS _, hset _⟩
          · have hts' : ¬ some t = some s := fun e => hts (Option.some.inj e)
            simp [s0, s2, s4, s7, s8, errV, r4, r8, eqS_eq, hts, wok, wkw, e16, ex0, bld24_0, t2, ParseR]
            exact hset _
      · have h8 : ¬ acc.length ≤ 8 := fun h => hgo ⟨rfl, hne, h⟩
        have h8' : ¬ (acc.length : Int) ≤ 8 := by omega
        cases hev : evText (keyL s) acc with
        | none =>
          rw [hev] at ht
          obtain rfl : r = .tuple [.str [], .int .i64 30] := ht
          simp [s0, s2, s4, s7, s8, errV, r4, r8, eqS_eq, hne, w1, w2, h8, h8', wok, wkw, e16, ex0, bld24_0, t2, ParseR]
          exact hset _
        | some t =>
          rw [hev] at ht
          obtain rfl : r = .tuple [.str t, .int .i64 0] := ht
          by_cases hts : t = s
          · subst hts
            simp [s0, s2, s4, s7, s8, errV, r4, r8, eqS_eq, hne, w1, w2, h8, h8', wok, wkw, e16, ex0, t2, t8, ParseR]
            exact ⟨hatS _, hset _⟩
          · simp [s0, s2, s4, s7, s8, errV, r4, r8, eqS_eq, hne, w1, w2, h8, h8', hts, wok, wkw, e16, ex0, bld24_0, t2, ParseR]
            exact hset _
end
end Go.Proofs.YtpglcebeldgeeaaDoor.val
