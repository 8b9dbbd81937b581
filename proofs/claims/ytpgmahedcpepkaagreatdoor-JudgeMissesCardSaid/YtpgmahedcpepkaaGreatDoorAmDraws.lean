/-
  The abstract machine: a region that draws its order, whole.
  The abstract machine: a call that answers.
-/
import Derived.Test.YtpgmahedcpepkaaGreatDoorAmSteps
namespace Go.Am
open Go
variable {Λ : LB}

theorem oneV_congr {cx : Cx} {ops : List Oper} {F F' : Fr} {S : AS} {o : Oper} (h : ∀ t, t ∈ seesL ops o → F.t.get t = F'.t.get t) : oneV cx ops F S o = oneV cx ops F' S o := by
  unfold oneV
  rw [wanted_congr h, aop_congr (sees_eval h)]
theorem one_congr {cx : Cx} {K : CallK} {ops : List Oper} {F F' : Fr} {S : AS} {o : Oper} (h : ∀ t, t ∈ seesL ops o → F.t.get t = F'.t.get t) : one cx K ops o F S = one cx K ops o F' S := by
  unfold one
  rw [wanted_congr h, aop_congr (sees_eval h)]
theorem oneV_one {cx : Cx} {K : CallK} {ops : List Oper} {F : Fr} {S : AS} {o : Oper} {v : AV} (hc : clsOf cx o = .pure ∨ clsOf cx o = .read) (h : oneV cx ops F S o = some v) : one cx K ops o F S = .ok (false, v, S) [] := by
  unfold oneV at h
  unfold one
  cases hw : wanted ops F o with
  | none => rw [hw] at h; cases h
  | some b =>
    rw [hw] at h
    cases b with
    | false => cases h; rfl
    | true =>
      simp only [] at h ⊢
      cases ha : aop cx F S o with
      | err n => rw [ha] at h; cases h
      | round f as S' => rw [ha] at h; cases h
      | pan u S' => rw [ha] at h; cases h
      | many l => rw [ha] at h; cases h
      | enter f as S' => rw [ha] at h; cases h
      | val u S' =>
        rw [ha] at h
        cases h
        rw [aop_same hc ha]
theorem oneV_pure {cx : Cx} {ops : List Oper} {F : Fr} {S S2 : AS} {o : Oper} {v : AV} (hc : clsOf cx o = .pure) (h : oneV cx ops F S o = some v) : oneV cx ops F S2 o = some v := by
  unfold oneV at h ⊢
  cases hw : wanted ops F o with
  | none => rw [hw] at h; cases h
  | some b =>
    rw [hw] at h
    cases b with
    | false => exact h
    | true =>
      simp only [] at h ⊢
      cases ha : aop cx F S o with
      | err n => rw [ha] at h; cases h
      | round f as S' => rw [ha] at h; cases h
      | pan u S' => rw [ha] at h; cases h
      | many l => rw [ha] at h; cases h
      | enter f as S' => rw [ha] at h; cases h
      | val u S' =>
        rw [ha] at h
        cases h
        have := aop_same (.inl hc) ha
        subst this
        rw [aop_pure (S2 := S2) hc ha]

theorem oneV_np {P : Program} {cx : Cx} (hcx : CxOk Λ P cx) {ρ : Rho} {ops : List Oper} {F : Fr} {S : AS} {w : World} {a : Act} (hR : R Λ ρ S w) (hF : FRel ρ F a) {o : Oper} {v : AV} (h : oneV cx ops F S o = some v) : ∀ u, v ≠ .pan u := by
  intro u e
  subst e
  unfold oneV at h
  cases hw : wanted ops F o with
  | none => rw [hw] at h; cases h
  | some b =>
    rw [hw] at h
    cases b with
    | false => cases h
    | true =>
      simp only [] at h
      cases ha : aop cx F S o with
      | val v S' =>
        rw [ha] at h
        cases h
        obtain ⟨_, x, ρ', w', _, _, hv, _⟩ := aop_sound hcx hR hF ha
        simp only [VRel] at hv
      | _ => rw [ha] at h; cases h
theorem plan_lt {ops : Array Oper} {rows : List Row} (hp : Plan ops rows) (hk : planOk ops.toList rows = true) {i : Nat} {r : Row} (h : rows[i]? = some r) : r.bef < 2 ^ i := by
  unfold planOk at hk
  simp only [Bool.and_eq_true, allL_eq, filL_eq, List.all_eq_true] at hk
  have h' := hk.1.1 r (List.mem_of_getElem? h)
  rw [(hp.row i r h).1] at h'
  simpa using h'
theorem plan_tot {ops : Array Oper} {rows : List Row} (hp : Plan ops rows) (hk : planOk ops.toList rows = true) {i j : Nat} {r q : Row} (hr : rows[i]? = some r) (hq : rows[j]? = some q) (he : isEff r.cls = true) (he' : isEff q.cls = true) (hij : i < j) : bit q.bef i = true := by
  have hlt := plan_lt hp hk hr
  unfold planOk at hk
  simp only [Bool.and_eq_true, allL_eq, filL_eq, List.all_eq_true] at hk
  have := hk.1.2 r (List.mem_filter.2 ⟨List.mem_of_getElem? hr, he⟩) q (List.mem_filter.2 ⟨List.mem_of_getElem? hq, he'⟩)
  unfold ordered at this
  rw [(hp.row i r hr).1, (hp.row j q hq).1] at this
  simp only [Bool.or_eq_true, nbeq, decide_eq_true_eq] at this
  rcases this with (h | h) | h
  · omega
  · have := bit_lt hlt h; omega
  · exact h
theorem plan_sees {ops : Array Oper} {rows : List Row} (hp : Plan ops rows) (hk : planOk ops.toList rows = true) {i j : Nat} {r q : Row} {d : Nat} (hr : rows[i]? = some r) (hq : rows[j]? = some q) (hd : r.o.dst = some d) (hd' : d ∈ seesL ops.toList q.o) :
    bit q.bef i = true ∨ (bit r.bef j = true ∧ isRead q.cls = false) := by
  unfold planOk at hk
  simp only [Bool.and_eq_true, allL_eq, filL_eq, List.all_eq_true] at hk
  have := hk.2 r (List.mem_of_getElem? hr)
  rw [hd] at this
  simp only [List.all_eq_true, Bool.and_eq_true] at this
  have := (this q (List.mem_of_getElem? hq)).1
  rw [memN_eq] at this
  have hc : (seesL ops.toList q.o).contains d = true := by simpa using hd'
  rw [hc, (hp.row i r hr).1, (hp.row j q hq).1] at this
  simpa using this
theorem run_ok {cx : Cx} {K : CallK} {ops : Array Oper} {rows0 rows : List Row} {c : Nat → Cfg} (hp0 : Plan ops rows0) (hk : planOk ops.toList rows0 = true) (hsub : ∀ (i : Nat) (r : Row), rows[i]? = some r → rows0[i]? = some r)
    (hs : ∀ (i : Nat) (r : Row), rows[i]? = some r → StepR cx K ops.toList r (c i) (c (i + 1))) : Run cx K ops.toList rows c := by
  have hk0 := hk
  unfold planOk at hk
  simp only [Bool.and_eq_true, allL_eq, filL_eq, List.all_eq_true] at hk
  obtain ⟨⟨h1, h2⟩, h3⟩ := hk
  have num : ∀ (i : Nat) (r : Row), rows[i]? = some r → r.i = i := fun i r h => (hp0.row i r (hsub i r h)).1
  have lt : ∀ (i : Nat) (r : Row), rows[i]? = some r → r.bef < 2 ^ i := fun i r h => plan_lt hp0 hk0 (hsub i r h)
  refine ⟨hs, num, lt, fun i j r q hr hq he he' hij => plan_tot hp0 hk0 (hsub i r hr) (hsub j q hq) he he' hij, fun i j r q d hr hq hd hd' => plan_sees hp0 hk0 (hsub i r hr) (hsub j q hq) hd hd', fun i j r q d hr hq hd hd' => ?_⟩
  · have := h3 r (List.mem_of_getElem? (hsub i r hr))
    rw [hd] at this
    simp only [List.all_eq_true, Bool.and_eq_true] at this
    have := (this q (List.mem_of_getElem? (hsub j q hq))).2
    rw [hd', num i r hr, num j q hq] at this
    simp only [nbeq, Bool.or_eq_true, decide_eq_true_eq] at this
    rcases this with h | h
    · exact h.symm
    · simp at h

theorem cnt_le {rows : List Row} {p : Row → Bool} {m : Nat} (h : ∀ (e : Nat) (r : Row), rows[e]? = some r → isEff r.cls = true → p r = true → lev rows e < m) :
    ∀ k, (rows.take k).countP (fun r => p r && isEff r.cls) ≤ m ∧ (rows.take k).countP (fun r => p r && isEff r.cls) ≤ lev rows k := by
  intro k
  induction k with
  | zero => simp
  | succ k ih =>
    by_cases hk : k < rows.length
    · obtain ⟨r, hr⟩ := row_at hk
      have h1 := h k r hr
      rw [lev_succ hr, List.take_add_one, hr, List.countP_append]
      cases he : isEff r.cls <;> cases hp : p r
      · simp only [Option.toList, List.countP_cons, List.countP_nil, he, hp]; simp; omega
      · simp only [Option.toList, List.countP_cons, List.countP_nil, he, hp]; simp; omega
      · simp only [Option.toList, List.countP_cons, List.countP_nil, he, hp]; simp; omega
      · have := h1 he hp
        simp only [Option.toList, List.countP_cons, List.countP_nil, he, hp]; simp; omega
    · have e1 : lev rows (k + 1) = lev rows k := by
        unfold lev; rw [List.take_of_length_le (by omega), List.take_of_length_le (by omega)]
      have e2 : rows.take (k + 1) = rows.take k := by rw [List.take_of_length_le (by omega), List.take_of_length_le (by omega)]
      rw [e1, e2]; exact ih
theorem cnt_ge {rows : List Row} {p : Row → Bool} {m : Nat} (h : ∀ (e : Nat) (r : Row), rows[e]? = some r → isEff r.cls = true → lev rows e < m → p r = true) :
    ∀ k, m ≤ (rows.take k).countP (fun r => p r && isEff r.cls) ∨ lev rows k ≤ (rows.take k).countP (fun r => p r && isEff r.cls) := by
  intro k
  induction k with
  | zero => simp [lev]
  | succ k ih =>
    by_cases hk : k < rows.length
    · obtain ⟨r, hr⟩ := row_at hk
      have h1 := h k r hr
      rw [lev_succ hr, List.take_add_one, hr, List.countP_append]
      cases he : isEff r.cls <;> cases hp : p r
      · simp only [Option.toList, List.countP_cons, List.countP_nil, he, hp]; simp; omega
      · simp only [Option.toList, List.countP_cons, List.countP_nil, he, hp]; simp; omega
      · have h2 : ¬ lev rows k < m := fun h2 => by rw [h1 he h2] at hp; cases hp
        simp only [Option.toList, List.countP_cons, List.countP_nil, he, hp]; simp; omega
      · simp only [Option.toList, List.countP_cons, List.countP_nil, he, hp]; simp; omega
    · have e1 : lev rows (k + 1) = lev rows k := by
        unfold lev; rw [List.take_of_length_le (by omega), List.take_of_length_le (by omega)]
      have e2 : rows.take (k + 1) = rows.take k := by rw [List.take_of_length_le (by omega), List.take_of_length_le (by omega)]
      rw [e1, e2]; exact ih

section
variable {cx : Cx} {K : CallK} {ops : List Oper} {rows : List Row} {c : Nat → Cfg}

/-- What the window's memories give. -/
theorem Run.window (h : Run cx K ops rows c) (hs0 : (c 0).snaps = []) {i : Nat} {r : Row} (hr : rows[i]? = some r) {v : AV} (hv : oneV cx ops (c i).F (c i).S r.o = some v) (hF : (c (i + 1)).F = putD (c i).F r.o.dst v)
    (hw : windowOk cx ops rows (c rows.length).F (snapsL rows c) r = true) {L : Nat → Prop} {m : Nat} {Fs : Fr} (ha : Agree rows c L Fs) {S : AS} (hS : (snapsL rows c)[m]? = some S)
    (hlv : ∀ (i : Nat) (r : Row), rows[i]? = some r → isEff r.cls = true → (L i ↔ lev rows i < m)) (hdown : ∀ (i : Nat) (r : Row) (j : Nat), rows[i]? = some r → L i → bit r.bef j = true → L j)
    (hn : ¬ L i) (hb : ∀ j, bit r.bef j = true → L j) (hrd : isRead r.cls = true) : oneV cx ops Fs S r.o = some v := by
  have hi := row_lt hr
  have hml : m < (snapsL rows c).length := by
    rcases Nat.lt_or_ge m (snapsL rows c).length with h1 | h1
    · exact h1
    · rw [List.getElem?_eq_none h1] at hS; cases hS
  have hmM : m ≤ lev rows rows.length := by rw [h.snap_len hs0] at hml; omega
  have tk : rows.take rows.length = rows := List.take_length
  -- the window
  have lo1 := (cnt_le (rows := rows) (p := fun e => bit r.bef e.i) (m := m) (fun e q hq he hp => (hlv e q hq he).1 (hb e (by rw [← h.num e q hq]; exact hp))) rows.length).1
  have hi1 := cnt_ge (rows := rows) (p := fun e => !bit e.bef r.i) (m := m) (fun e q hq he hp => by
    cases hbq : bit q.bef r.i with
    | false => rfl
    | true => rw [h.num i r hr] at hbq; exact absurd (hdown e q i hq ((hlv e q hq he).2 hp) hbq) hn) rows.length
  have lo2 := (cnt_le (rows := rows) (p := fun e => bit r.bef e.i) (m := lev rows i) (fun e q hq he hp => (lev_lt hq he).1 (by
    rw [h.num e q hq] at hp; exact bit_lt (h.lt i r hr) hp)) rows.length).1
  have hi2 := cnt_ge (rows := rows) (p := fun e => !bit e.bef r.i) (m := lev rows i) (fun e q hq he hp => by
    cases hbq : bit q.bef r.i with
    | false => rfl
    | true =>
      rw [h.num i r hr] at hbq
      have h1 := bit_lt (h.lt e q hq) hbq
      have h2 := (lev_lt (i := i) hq he).2 hp
      omega) rows.length
  have hmi : lev rows i ≤ lev rows rows.length := lev_mono (Nat.le_of_lt hi)
  rw [tk] at lo1 hi1 lo2 hi2
  unfold windowOk at hw
  simp only [countL_eq, filL_eq, List.countP_filter, takeN_eq, dropN_eq] at hw
  generalize List.countP (fun e : Row => bit r.bef e.i && isEff e.cls) rows = lo at *
  generalize List.countP (fun e : Row => !bit e.bef r.i && isEff e.cls) rows = hh at *
  have at1 : ∀ k S', lo ≤ k → k ≤ hh → (snapsL rows c)[k]? = some S' → (((snapsL rows c).drop lo).take (Nat.succ (Nat.sub hh lo)))[k - lo]? = some S' := by
    intro k S' h1 h2 h3
    rw [List.getElem?_take, if_pos (by show k - lo < hh - lo + 1; omega), List.getElem?_drop, Nat.add_sub_cancel' h1]; exact h3
  have m1 := at1 m S lo1 (by omega) hS
  have m2 := at1 (lev rows i) (c i).S lo2 (by omega) (h.snap hs0 (Nat.le_of_lt hi))
  generalize ((snapsL rows c).drop lo).take (Nat.succ (Nat.sub hh lo)) = may at *
  have one' : may.length = 1 → oneV cx ops Fs S r.o = some v := by
    intro hl
    have e : ∀ (k : Nat) (S' : AS), may[k]? = some S' → k = 0 := fun k S' hk => by
      rcases Nat.lt_or_ge k may.length with h1 | h1
      · omega
      · rw [List.getElem?_eq_none h1] at hk; cases hk
    rw [e _ _ m1] at m1
    rw [e _ _ m2, m1] at m2
    cases m2
    rw [oneV_congr (fun t ht => h.now ha hr hb (.inl hrd) ht)]; exact hv
  have many : (match r.o.dst with
    | some d => cond (Nat.blt d (c rows.length).F.n) (match (c rows.length).F.t.get d with
      | some v => allL (fun S => match oneV cx ops (c rows.length).F S r.o with
        | some u => sameVF 8 v u
        | none => false) may
      | none => false) false
    | none => false) = true → oneV cx ops Fs S r.o = some v := by
    intro hw
    cases hd : r.o.dst with
    | none => rw [hd] at hw; cases hw
    | some d =>
      rw [hd] at hw
      simp only [] at hw
      cases hlt : Nat.blt d (c rows.length).F.n with
      | false => rw [hlt] at hw; cases hw
      | true =>
        rw [hlt] at hw
        simp only [cond_true] at hw
        have hfin : (c rows.length).F.t.get d = some v := by
          have h1 : (c rows.length).F.t.get d = (c (i + 1)).F.t.get d := h.keep _ hi (Nat.le_refl _) fun k q hk _ hq hd' => by
            have := h.single i k r q d hr hq hd hd'; omega
          rw [h1, hF, hd, putD_same, if_pos]
          rw [h.n i (Nat.le_of_lt hi), ← h.n rows.length (Nat.le_refl _)]
          simpa using hlt
        rw [hfin] at hw
        simp only [allL_eq, List.all_eq_true] at hw
        have := hw S (List.mem_of_getElem? m1)
        rw [oneV_congr (F' := Fs) (fun t ht => by
          rw [h.now h.all hr (fun _ _ => trivial) (.inl hrd) ht, h.now ha hr hb (.inl hrd) ht])] at this
        cases hu : oneV cx ops Fs S r.o with
        | none => rw [hu] at this; cases this
        | some u => rw [hu] at this; rw [sameVF_eq 8 v u this]
  cases hmay : may with
  | nil => rw [hmay] at m1; simp at m1
  | cons x xs =>
    cases xs with
    | nil => exact one' (by rw [hmay]; rfl)
    | cons y ys =>
      rw [hmay] at hw
      exact many (by rw [hmay]; exact hw)

end

theorem cnt_lt {α : Type} {p p' : α → Bool} : ∀ (l : List α) (x : α), (∀ y, p' y = true → p y = true) → x ∈ l → p x = true → p' x = false → l.countP p' < l.countP p := by
  intro l
  induction l with
  | nil => intro x _ hx; cases hx
  | cons z l ih =>
    intro x h hx h1 h2
    have le : l.countP p' ≤ l.countP p := List.countP_mono_left fun y _ => h y
    rw [List.countP_cons, List.countP_cons]
    cases hx with
    | head => rw [h1, h2]; simp; omega
    | tail _ hx =>
      have := ih x h hx h1 h2
      have hz := h z
      cases e1 : p' z <;> cases e2 : p z <;> simp <;> first | omega | (rw [e1, e2] at hz; simp at hz)

/-- Any order of the rows, up to one that ends it. -/
theorem orders {P : Program} {cx : Cx} (hcx : CxOk Λ P cx) (hm : P.follows .mixedOrders = true) {ro : Option Nat} {K : CallK} (hK : KSound Λ P K) {ops : Array Oper} {rid : Nat} {Q : Exit → Act → World → Prop} {ρ : Rho} {F : Fr} {S : AS} {w : World} {a : Act}
    (hR : R Λ ρ S w) (hF : FRel ρ F a) {rows0 rows : List Row} {c : Nat → Cfg} (hplan : Plan ops rows0) (hcls : ∀ (i : Nat) (r : Row), rows0[i]? = some r → r.cls = .pure ∨ r.cls = .read → clsOf cx r.o = r.cls)
    (hlt0 : ∀ (i : Nat) (r : Row), rows0[i]? = some r → r.bef < 2 ^ i) (hpre : ∀ (i : Nat) (r : Row), i < rows.length → rows0[i]? = some r → rows[i]? = some r) (hle : rows.length ≤ rows0.length)
    (hcount : rows.countP (fun r => isFresh r.cls) ≤ rows0.countP (fun r => isFresh r.cls)) (h : Run cx K ops.toList rows c) (hc0 : c 0 = ⟨F, ⟨S.h, Nat.add S.next (countL (fun r => isFresh r.cls) rows0)⟩, [], [], S.next⟩)
    (hwin : ∀ q, q ∈ rows → cond (isRead q.cls) (windowOk cx ops.toList rows (c rows.length).F (snapsL rows c) q) true = true)
    (hblock : ∀ (j : Nat) (r : Row), rows.length < j → rows0[j]? = some r → bit r.bef rows.length = true)
    (hdone : rows.length = rows0.length → ∀ (L : Nat → Prop) (m : Nat) (Fs : Fr) (ρ' : Rho) (S' : AS) (w' : World) (a' : Act), Inv Λ cx ops.toList rows c ρ S w L m Fs ρ' S' w' a' → (∀ i, i < rows.length → L i) → Q .normal a' w')
    (hstop : ∀ r, rows0[rows.length]? = some r → ∀ (L : Nat → Prop) (m : Nat) (Fs : Fr) (ρ' : Rho) (S' : AS) (w' : World) (a' : Act) (next : Act → World → Prop), Inv Λ cx ops.toList rows c ρ S w L m Fs ρ' S' w' a' → (∀ j, bit r.bef j = true → L j) → wpOpIn (GF ro) 0 P ops Q rows.length next a' w') :
    (Code.region rid ops true).wpIn (GF ro) 0 P Q a w := by
  have hs0 : (c 0).snaps = [] := by rw [hc0]
  have hp0 : (c 0).ps = [] := by rw [hc0]
  have hid : (c 0).id = S.next := by rw [hc0]
  have hlen := hplan.len
  -- every order
  have main : ∀ (fuel : Nat) (listed : Array Bool) (m : Nat) (Fs : Fr) (ρ' : Rho) (S' : AS) (w' : World) (a' : Act), listed.size = ops.size → (∀ j, rows.length ≤ j → listed.getD j false = false) →
      Inv Λ cx ops.toList rows c ρ S w (fun j => listed.getD j false = true) m Fs ρ' S' w' a' → (List.range ops.size).countP (fun i => !listed.getD i false) ≤ fuel →
      wpAnyIn (GF ro) 0 P .any ops Q fuel listed a' w' := by
    have done : ∀ (listed : Array Bool) (m : Nat) (Fs : Fr) (ρ' : Rho) (S' : AS) (w' : World) (a' : Act), listed.size = ops.size → (∀ j, rows.length ≤ j → listed.getD j false = false) →
        Inv Λ cx ops.toList rows c ρ S w (fun j => listed.getD j false = true) m Fs ρ' S' w' a' → Region.ready .any ops listed = [] → Q .normal a' w' := by
      intro listed m Fs ρ' S' w' a' hsz hcap hv hready
      have hrdy : ∀ i, i < ops.size → (∀ k, k < i → listed.getD k false = true) → listed.getD i false = true := by
        intro i hi ih
        cases hli : listed.getD i false with
        | true => rfl
        | false =>
          exfalso
          obtain ⟨r, hr⟩ := row_at (rows := rows0) (i := i) (by omega)
          have hio := (hplan.row i r hr).2
          have : i ∈ Region.ready .any ops listed := by
            rw [mem_ready]
            refine ⟨?_, r.o, hio, fun e he hb => ?_⟩
            · have : i < listed.size := by omega
              simpa [Array.getD, this] using hli
            · have hbit := hplan.edge i r e hr (by simpa using he) hb
              have hlt := bit_lt (hlt0 i r hr) hbit
              exact ih e.on hlt
          rw [hready] at this
          cases this
      have hall : ∀ i, i < rows.length → listed.getD i false = true := by
        intro i
        induction i using Nat.strongRecOn with
        | _ i ih => exact fun hi => hrdy i (by omega) fun k hk => ih k hk (by omega)
      rcases Nat.lt_or_ge rows.length ops.size with hlt | hge
      · have h1 := hrdy rows.length hlt hall
        rw [hcap _ (Nat.le_refl _)] at h1
        cases h1
      · exact hdone (by omega) _ m Fs ρ' S' w' a' hv hall
    intro fuel
    induction fuel with
    | zero =>
      intro listed m Fs ρ' S' w' a' hsz hcap hv hfuel
      have hr : Region.ready .any ops listed = [] := by
        cases hrd : Region.ready .any ops listed with
        | nil => rfl
        | cons i l =>
          exfalso
          have hi : i ∈ Region.ready .any ops listed := by rw [hrd]; simp
          obtain ⟨h1, o, ho, _⟩ := mem_ready.1 hi
          have hlt : i < ops.size := (Array.getElem?_eq_some_iff.1 ho).1
          have h2 : listed.getD i false = false := by
            have : i < listed.size := by omega
            simpa [Array.getD, this] using h1
          have : 0 < (List.range ops.size).countP (fun i => !listed.getD i false) := List.countP_pos_iff.2 ⟨i, by simpa using hlt, by rw [h2]; rfl⟩
          omega
      exact ⟨hr, done listed m Fs ρ' S' w' a' hsz hcap hv hr⟩
    | succ fuel ih =>
      intro listed m Fs ρ' S' w' a' hsz hcap hv hfuel
      refine ⟨fun hr => done listed m Fs ρ' S' w' a' hsz hcap hv hr, fun i hi => ?_⟩
      obtain ⟨h1, o, ho, hedges⟩ := mem_ready.1 hi
      have hlt : i < ops.size := (Array.getElem?_eq_some_iff.1 ho).1
      have hli : listed.getD i false = false := by
        have : i < listed.size := by omega
        simpa [Array.getD, this] using h1
      have hn : ¬ listed.getD i false = true := by rw [hli]; simp
      obtain ⟨r, hr0⟩ := row_at (rows := rows0) (i := i) (by omega)
      have hio := (hplan.row i r hr0).2
      rw [ho] at hio
      obtain rfl : o = r.o := Option.some.inj hio
      have hb : ∀ j, bit r.bef j = true → listed.getD j false = true := by
        intro j hj
        obtain ⟨e, he, hbd, h2⟩ := hplan.down i r j hr0 hj
        have hL := hedges e (by simpa using he) hbd
        rcases h2 with rfl | ⟨r', hr', hj'⟩
        · exact hL
        · have hel : e.on < rows.length := by
            rcases Nat.lt_or_ge e.on rows.length with h1 | h1
            · exact h1
            · rw [hcap _ h1] at hL; cases hL
          exact hv.down e.on r' j (hpre _ _ hel hr') hL hj'
      rcases Nat.lt_trichotomy i rows.length with hil | rfl | hil
      rotate_left
      · exact hstop r hr0 _ m Fs ρ' S' w' a' _ hv hb
      · have h1 := hb _ (hblock i r hil hr0)
        rw [hcap _ (Nat.le_refl _)] at h1
        cases h1
      have hr := hpre i r hil hr0
      have hL' : ∀ j, ((listed.setIfInBounds i true).getD j false = true) ↔ (listed.getD j false = true) ∨ j = i := by
        intro j
        by_cases hji : i = j
        · subst hji
          have : i < listed.size := by omega
          simp [this]
        · rw [getD_set_ne false hji]
          simp [Ne.symm hji]
      have hcnt : (List.range ops.size).countP (fun j => !(listed.setIfInBounds i true).getD j false) ≤ fuel := by
        have := cnt_lt (p := fun j => !listed.getD j false) (p' := fun j => !(listed.setIfInBounds i true).getD j false) (List.range ops.size) i (fun y hy => by
          cases hy0 : listed.getD y false with
          | false => rfl
          | true => rw [(hL' y).2 (.inl hy0)] at hy; cases hy) (by simpa using hlt) (by rw [hli]; rfl) (by rw [(hL' i).2 (.inr rfl)]; rfl)
        omega
      have hsz' : (listed.setIfInBounds i true).size = ops.size := by simpa using hsz
      have hcap' : ∀ j, rows.length ≤ j → (listed.setIfInBounds i true).getD j false = false := fun j hj => by
        cases hq : (listed.setIfInBounds i true).getD j false with
        | false => rfl
        | true =>
          rcases (hL' j).1 hq with h1 | h1
          · rw [hcap j hj] at h1; cases h1
          · omega
      have sees := fun t ht => h.now hv.ag hr hb (.inr fun k q hk hbk hLk => hn (hv.down k q i hk hLk hbk)) (t := t) ht
      have value : ∀ v, isEff r.cls = false → (∀ q, ¬ Laid cx ops.toList rows c i q) → (c (i + 1)).F = putD (c i).F r.o.dst v → one cx K ops.toList r.o Fs S' = .ok (false, v, S') [] →
          wpOpIn (GF ro) 0 P ops Q i (wpAnyIn (GF ro) 0 P .any ops Q fuel (listed.setIfInBounds i true)) a' w' := by
        intro v he hno hFv hone
        refine one_wp hcx hK hv.R hv.F ho ?_
        rw [hone]
        refine ⟨fun ρ2 e w2 hx hR2 hk2 => ?_, fun y hy => by cases hy⟩
        obtain ⟨x, rfl, hx2⟩ := hx.val
        exact ih _ m _ ρ2 S' w2 _ hsz' hcap' (hv.value h hr hn hb hL' he hno hFv hx2 hR2 hk2) hcnt
      rcases h.step i r hr with ⟨hc, ⟨hw, v, x, hf, e⟩ | ⟨hw, e⟩⟩ | ⟨hc, v, S2, hone, e⟩ | ⟨hc, v, hone, e⟩
      · -- a block is laid
        have hlaid : Laid cx ops.toList rows c i ⟨r.i, (c i).id, x⟩ := ⟨⟨r, v, hr, hc, hw, hf⟩, h.num i r hr, rfl⟩
        have hFv : (c (i + 1)).F = putD (c i).F r.o.dst v := by rw [e]
        have hw' : wanted ops.toList Fs r.o = some true := by rw [wanted_congr sees]; exact hw
        have hf' : freshV cx Fs (c i).id r.o.op = some (v, x) := by rw [freshV_congr (sees_eval sees)]; exact hf
        obtain ⟨s, hs1, y, o', w2, hs2, hg, hob, hval⟩ := fresh_run (P := P) hcx hv.F hf' w'
        unfold wpOpIn
        simp only [ho]
        rw [wanted_ok hv.F hw']
        simp only [if_true]
        refine ⟨fun f _ => GF_fn ro f, ?_⟩
        have hnd : ∀ c, r.o.op ≠ .defer c := by
          intro c e
          rw [e] at hf'
          cases hf'
        rw [Oper.semAt_eq _ _ _ hnd]
        have hrun2 : (execOp a'.eval r.o).run P w' = .ok (.value y) w2 := by
          rw [hs1]; simp only [Sem.run_bind, hs2, Result.andThen_ok, Sem.run_pure]
        rw [hrun2]
        show wpAnyIn (GF ro) 0 P .any ops Q fuel (listed.setIfInBounds i true) (a'.put r.o.dst y) w2
        obtain ⟨pl, hpl, hplb⟩ : ∃ pl : Pl, PlRel pl.b pl x o' ∧ pl.b = w'.heap.size := by
          cases x with
          | row cells low top frz ty =>
            obtain ⟨rfl, rfl, rfl, C, rfl, r2, r3⟩ := hob
            exact ⟨⟨w'.heap.size, 0, cells.length, C.size, by omega⟩, ⟨rfl, rfl, rfl, rfl⟩, rfl⟩
          | map es clock =>
            obtain ⟨ES, rfl, r2⟩ := hob
            exact ⟨⟨w'.heap.size, 0, 0, 0, by omega⟩, rfl, rfl⟩
          | oth y => exact ⟨⟨w'.heap.size, 0, 0, 0, by omega⟩, ⟨rfl, rfl⟩, rfl⟩
        exact ih _ m _ _ S' w2 _ hsz' hcap' (hv.lay h hr hn hb hL' (by rw [hc]; rfl) hlaid (by rw [← hid]; exact (hlaid.top h).1) hFv hg hob hval hpl hplb) hcnt
      · refine value .undef (by rw [hc]; rfl) (fun q hl => ?_) (by rw [e]) ?_
        · obtain ⟨⟨r', v, hr', _, hw', _⟩, _⟩ := hl
          rw [hr] at hr'; cases hr'; rw [hw] at hw'; cases hw'
        · unfold one
          rw [wanted_congr sees, hw]
      · -- it acts
        have he : isEff r.cls = true := by rw [hc]; rfl
        have hm' := hv.level h hr hn hb he
        have hS : S' = (c i).S := by
          have h2 := hv.st
          rw [← hm', h.snap hs0 (Nat.le_of_lt (row_lt hr))] at h2
          exact (Option.some.inj h2).symm
        obtain ⟨c1, c2, c3, c4⟩ := hv.commit h hp0 hid (Nat.le_of_lt (row_lt hr)) hm' (fun p => bit r.bef p.i) (fun j q e hp _ => by subst e; exact hb _ hp)
        refine one_wp hcx hK c1 hv.F ho ?_
        rw [one_congr sees, hS, hone]
        refine ⟨fun ρ2 ed w2 hx hR2 hk2 => ?_, fun y hy => by cases hy⟩
        obtain ⟨x, rfl, hx2⟩ := hx.val
        have hS2 : S2 = (c (i + 1)).S := by rw [e]
        simp only [hS2] at hR2 hk2
        rw [← hS] at hk2
        exact ih _ (m + 1) _ ρ2 _ w2 _ hsz' hcap' (hv.act h hs0 hp0 hid hr hn hb hL' he (by rw [e]) hx2 hR2 hk2) hcnt
      · -- it only gives
        have hcl := hcls i r hr0 hc
        have hc' : clsOf cx r.o = .pure ∨ clsOf cx r.o = .read := by rw [hcl]; exact hc
        have hFv : (c (i + 1)).F = putD (c i).F r.o.dst v := by rw [e]
        have hov : oneV cx ops.toList Fs S' r.o = some v := by
          rcases hc with hc | hc
          · rw [oneV_congr sees]
            exact oneV_pure (hcl.trans hc) hone
          · have hwr := hwin r (List.mem_of_getElem? hr)
            rw [hc] at hwr
            exact h.window hs0 hr hone hFv hwr hv.ag hv.st hv.lv hv.down hn hb (by rw [hc]; rfl)
        refine value v (by rcases hc with hc | hc <;> rw [hc] <;> rfl) (fun q hl => ?_) hFv (oneV_one hc' hov)
        obtain ⟨⟨r', v, hr', hc2, _⟩, _⟩ := hl
        rw [hr] at hr'; cases hr'; rw [hc2] at hc; rcases hc with hc | hc <;> cases hc
  refine wpIn_region_any hm ?_
  refine main ops.size _ 0 F ρ (c 0).S _ a (by simp) (fun j _ => by simp only [Array.getD_eq_getD_getElem?, Array.getElem?_replicate]; split <;> simp) ?_ (Nat.le_trans (List.countP_le_length) (by simp))
  have hlev0 : lev rows 0 = 0 := rfl
  have hR0 : R Λ ρ (c 0).S { w with drawn := w.drawn + 1 } := by
    rw [hc0]
    have h2 := hR.drawn (w.drawn + 1)
    exact ⟨h2.objs, fun i o ho => Nat.lt_of_lt_of_le (h2.dom i o ho) (Nat.le_add_right _ _), fun i g hi => h2.fresh i g (Nat.le_trans (Nat.le_add_right _ _) hi), h2.topg, h2.lt, h2.apart, h2.start, h2.base⟩
  have empty : ∀ j, ¬ (Array.replicate ops.size false).getD j false = true := by
    intro j
    simp only [Array.getD_eq_getD_getElem?, Array.getElem?_replicate]
    split <;> simp
  have hkp : Kp ρ S w ρ (c 0).S { w with drawn := w.drawn + 1 } := by
    rw [hc0]
    exact ⟨Ext.refl _, rfl, rfl, rfl, Nat.le_refl _, fun _ _ _ => rfl, fun _ h => .inl h, fun _ h => .inl h, Nat.le_add_right _ _, fun _ _ _ h => ⟨rfl, h⟩⟩
  refine ⟨hR.start, by rw [← hlev0]; exact h.snap hs0 (Nat.zero_le _), fun i r hr he => ⟨fun h1 => absurd h1 (empty i), fun h1 => by omega⟩, fun i r j _ h1 => absurd h1 (empty i), hR0, hF, ⟨by rw [hc0], by rw [hc0], fun t i _ h1 => absurd h1 (empty i), fun t _ => by rw [hc0]⟩, hkp, fun j q hl _ => ?_, fun j j' q q' x y _ hl _ _ _ h1 _ => ?_⟩
  · have ht := hl.top h
    rw [hid] at ht
    have hnone : S.h.get q.id = none := by
      cases hg : S.h.get q.id with
      | none => rfl
      | some o => have := hR.dom _ _ hg; omega
    refine ⟨by rw [hc0]; exact hnone, ?_, fun h1 => absurd h1 (empty j), fun _ g => hR.fresh _ g ht.1⟩
    rw [hc0, countL_eq]; exact Nat.lt_of_lt_of_le ht.2 (Nat.add_le_add_left hcount _)
  · have ht := hl.top h
    rw [hid] at ht
    rw [hR.fresh _ 0 ht.1] at h1; cases h1

theorem topF_get (F : Fr) (t : Nat) : ∀ (rows : List Row), (topF rows F).n = F.n ∧ (topF rows F).ds = F.ds ∧ ((topF rows F).t.get t = some .top ∨ ((topF rows F).t.get t = F.t.get t ∧ ∀ r, r ∈ rows → r.o.dst = some t → ¬ t < F.n))
  | [] => ⟨rfl, rfl, .inr ⟨rfl, fun r hr => by cases hr⟩⟩
  | r :: rows => by
    obtain ⟨h1, h2, h3⟩ := topF_get F t rows
    have e : topF (r :: rows) F = putD (topF rows F) r.o.dst .top := rfl
    rw [e, putD_n, putD_ds]
    refine ⟨h1, h2, ?_⟩
    by_cases hd : r.o.dst = some t
    · rw [hd, putD_same, h1]
      by_cases ht : t < F.n
      · rw [if_pos ht]; exact .inl rfl
      · rw [if_neg ht]
        rcases h3 with h3 | ⟨h3, h4⟩
        · exact .inl h3
        · refine .inr ⟨h3, fun q hq hq2 => ?_⟩
          rcases List.mem_cons.1 hq with rfl | hq
          · exact ht
          · exact h4 q hq hq2
    · rw [putD_ne hd]
      rcases h3 with h3 | ⟨h3, h4⟩
      · exact .inl h3
      · refine .inr ⟨h3, fun q hq hq2 => ?_⟩
        rcases List.mem_cons.1 hq with rfl | hq
        · exact absurd hq2 hd
        · exact h4 q hq hq2

theorem drawn_ok {P : Program} {cx : Cx} (hcx : CxOk Λ P cx) (hm : P.follows .mixedOrders = true) : DrawnOk Λ P cx := by
  intro ro K hK ops rid Q ρ F S w a hR hF hrun
  unfold runDrawn at hrun
  obtain ⟨hplan, hcls⟩ := plan_rows cx ops
  generalize settle (rowsL cx ops.toList) = rows at hplan hcls hrun
  cases hpk : planOk ops.toList rows with
  | false => simp only [hpk, cond_false] at hrun; exact hrun.elim
  | true =>
  simp only [hpk, cond_true] at hrun
  obtain ⟨c, hc0, hend⟩ := trace cx K ops.toList rows ⟨F, ⟨S.h, Nat.add S.next (countL (fun r => isFresh r.cls) rows)⟩, [], [], S.next⟩ _ (Res.all_bind hrun)
  have hlen := hplan.len
  have hs0 : (c 0).snaps = [] := by rw [hc0]
  have hp0 : (c 0).ps = [] := by rw [hc0]
  have hid : (c 0).id = S.next := by rw [hc0]
  rcases hend with ⟨hstep, hfin⟩ | ⟨n, r, v, S2, hrn, hrc, hstep, hone, hlater, hfin⟩
  · have h := run_ok hplan hpk (fun i r hr => hr) hstep
    unfold endRows at hfin
    simp only [] at hfin
    have hrev : revL ((c rows.length).S :: (c rows.length).snaps) = snapsL rows c := revL_eq _
    rw [hrev] at hfin
    cases hwin : winAll cx ops.toList rows (c rows.length).F (snapsL rows c) with
    | false => rw [hwin] at hfin; exact hfin.elim
    | true =>
    rw [hwin] at hfin
    have hQ := hfin.1
    simp only [] at hQ
    unfold winAll at hwin
    rw [allL_eq, List.all_eq_true] at hwin
    refine orders hcx hm hK hR hF hplan hcls (fun i r hr => plan_lt hplan hpk hr) (fun i r _ hr => hr) (Nat.le_refl _) (Nat.le_refl _) h hc0 hwin (fun j r hj hr => absurd (row_lt hr) (by omega)) ?_ (fun r hr => absurd (row_lt hr) (by omega))
    intro _ L m Fs ρ' S' w' a' hv hall
    have hmM : m = lev rows rows.length := by
      have h1 : m < (snapsL rows c).length := by
        rcases Nat.lt_or_ge m (snapsL rows c).length with h1 | h1
        · exact h1
        · have := hv.st; rw [List.getElem?_eq_none h1] at this; cases this
      rw [h.snap_len hs0] at h1
      rcases lev_last (rows := rows) rows.length with h2 | ⟨e, q, h2, h3, h4, h5⟩
      · omega
      · have := (hv.lv e q h3 h4).1 (hall e h2); omega
    have hS : S' = (c rows.length).S := by
      have h1 := hv.st
      rw [hmM, h.snap hs0 (Nat.le_refl _)] at h1
      exact (Option.some.inj h1).symm
    obtain ⟨c1, c2, _⟩ := hv.commit h hp0 hid (Nat.le_refl _) hmM.symm (fun _ => true) (fun j q _ _ hl => hall j (hl.next h).2.1)
    rw [hS] at c1 c2
    refine hQ ρ' .normal a' w' rfl c1 ⟨fun t => ?_, ?_, by rw [h.ds _ (Nat.le_refl _), ← hv.ag.ds]; exact hv.F.defers⟩ c2
    · have e : (c rows.length).F.t.get t = Fs.t.get t := by
        by_cases hw : ∃ i, Writes rows t i
        · obtain ⟨i, hi⟩ := hw
          obtain ⟨q, hq, _⟩ := id hi
          exact (hv.ag.yes t i hi (hall i (row_lt hq))).symm
        · rw [hv.ag.no t fun i hi _ => hw ⟨i, hi⟩]
          exact h.all.no t fun i hi _ => hw ⟨i, hi⟩
      rw [e]; exact hv.F.slot t
    · rw [hv.F.size, hv.ag.n, h.n _ (Nat.le_refl _)]
  · have hnl := row_lt hrn
    have hri := (hplan.row n r hrn).1
    obtain ⟨pre, hpre⟩ : ∃ pre, pre = rows.take n := ⟨_, rfl⟩
    have hpl : pre.length = n := by rw [hpre, List.length_take]; omega
    have hsub : ∀ (i : Nat) (q : Row), pre[i]? = some q → rows[i]? = some q ∧ i < n := fun i q hq => by
      rw [hpre, List.getElem?_take] at hq
      split at hq
      · rename_i hi; exact ⟨hq, hi⟩
      · cases hq
    have hinv : ∀ (i : Nat) (q : Row), i < n → rows[i]? = some q → pre[i]? = some q := fun i q hi hq => by
      rw [hpre, List.getElem?_take, if_pos hi]; exact hq
    have h := run_ok (rows := pre) hplan hpk (fun i q hq => (hsub i q hq).1) (fun i q hq => hstep i q (hsub i q hq).2 (hsub i q hq).1)
    unfold endRows at hfin
    simp only [hri, takeN_eq, ← hpre] at hfin
    have hrev : revL ((c n).S :: (c n).snaps) = snapsL pre c := by rw [← hpl]; exact revL_eq _
    rw [hrev] at hfin
    cases hwin : winAll cx ops.toList pre (c n).F (snapsL pre c) with
    | false => rw [hwin] at hfin; exact hfin.elim
    | true =>
    rw [hwin] at hfin
    have hQ := hfin.1
    simp only [] at hQ
    unfold winAll at hwin
    rw [allL_eq, List.all_eq_true] at hwin
    refine orders (rows := pre) hcx hm hK hR hF hplan hcls (fun i r hr => plan_lt hplan hpk hr) (fun i q hi hq => hinv i q (by omega) hq) (by omega) ?_ h hc0 (by rw [hpl]; exact hwin)
      (fun j q hj hq => by rw [hpl] at hj ⊢; rw [← hri]; exact hlater j q hj hq) (fun e => by omega) ?_
    · rw [hpre]; exact (List.take_sublist n rows).countP_le
    intro q hq L m Fs ρ' S' w' a' next hv hb
    rw [hpl, hrn] at hq
    cases hq
    have hrn' := hrn
    have heff : ∀ (e : Nat) (q : Row), pre[e]? = some q → isEff q.cls = true → L e := fun e q he hq => hb e (by
      obtain ⟨h1, h2⟩ := hsub e q he
      exact plan_tot hplan hpk h1 hrn hq (by rw [hrc]; rfl) h2)
    have hmM : m = lev pre pre.length := by
      have h1 : m < (snapsL pre c).length := by
        rcases Nat.lt_or_ge m (snapsL pre c).length with h1 | h1
        · exact h1
        · have := hv.st; rw [List.getElem?_eq_none h1] at this; cases this
      rw [h.snap_len hs0] at h1
      rcases lev_last (rows := pre) pre.length with h2 | ⟨e, q, h2, h3, h4, h5⟩
      · omega
      · have := (hv.lv e q h3 h4).1 (heff e q h3 h4); omega
    have hS : S' = (c n).S := by
      have h1 := hv.st
      rw [hmM, h.snap hs0 (Nat.le_refl _), hpl] at h1
      exact (Option.some.inj h1).symm
    obtain ⟨c1, c2, c3, c4⟩ := hv.commit h hp0 hid (Nat.le_refl _) hmM.symm (fun p => bit r.bef p.i) (fun j q e hp _ => by subst e; exact hb _ hp)
    rw [hpl] at c1 c2 ⊢
    have sees : ∀ t, t ∈ seesL ops.toList r.o → Fs.t.get t = (c n).F.t.get t := by
      intro t ht
      by_cases hw : ∃ i, Writes pre t i
      · obtain ⟨i, q, hq, hd⟩ := hw
        obtain ⟨h1, h2⟩ := hsub i q hq
        have hbi : bit r.bef i = true := by
          rcases plan_sees hplan hpk h1 hrn hd ht with hb' | ⟨hb', _⟩
          · exact hb'
          · have := bit_lt (plan_lt hplan hpk h1) hb'; omega
        have := hv.ag.yes t i ⟨q, hq, hd⟩ (hb i hbi)
        rwa [hpl] at this
      · rw [hv.ag.no t fun i hi _ => hw ⟨i, hi⟩]
        have := h.all.no t fun i hi _ => hw ⟨i, hi⟩
        rw [hpl] at this
        exact this.symm
    refine one_wp hcx hK c1 hv.F (hplan.row n r hrn).2 ?_
    rw [one_congr sees, hS, hone]
    refine ⟨fun ρ2 ed w2 hx hR2 hk2 => ?_, fun y hy => by cases hy⟩
    obtain ⟨x, rfl, hx2⟩ := hx.pan
    rw [hS] at c2
    refine hQ ρ2 _ a' w2 ⟨x, rfl, hx2⟩ hR2 ⟨fun t => ?_, ?_, ?_⟩ (c2.trans hk2)
    · obtain ⟨e1, e2, e3⟩ := topF_get (c n).F t rows
      rcases e3 with e3 | ⟨e3, e4⟩
      · rw [e3]; simp only [VRel]
      · rw [e3]
        have hno : (c n).F.t.get t = Fs.t.get t := by
          by_cases hw : ∃ i, Writes pre t i
          · obtain ⟨i, q, hq, hd⟩ := hw
            have hnt : ¬ t < (c n).F.n := e4 q (List.mem_of_getElem? (hsub i q hq).1) hd
            have a1 : ∀ k, k ≤ n → (c k).F.t.get t = (c 0).F.t.get t := by
              intro k hk
              induction k with
              | zero => rfl
              | succ k ih =>
                obtain ⟨q', hq'⟩ := row_at (rows := pre) (i := k) (by omega)
                obtain ⟨u, hu⟩ := stepF (h.step k q' hq')
                rw [hu]
                by_cases hd' : q'.o.dst = some t
                · rw [hd', putD_same, if_neg (by rw [h.n k (by omega), ← h.n n (by omega)]; exact hnt)]; exact ih (by omega)
                · rw [putD_ne hd']; exact ih (by omega)
            by_cases hLi : L i
            · have := hv.ag.yes t i ⟨q, hq, hd⟩ hLi
              rw [hpl] at this
              exact this.symm
            · rw [hv.ag.no t fun k hk hLk => by
                obtain ⟨q', hq', hd'⟩ := hk
                have := h.single i k q q' t hq hq' hd hd'
                subst this
                exact hLi hLk]
              exact a1 n (Nat.le_refl _)
          · rw [hv.ag.no t fun i hi _ => hw ⟨i, hi⟩]
            have := h.all.no t fun i hi _ => hw ⟨i, hi⟩
            rw [hpl] at this
            exact this
        rw [hno]
        exact (hv.F.mono hk2.ext).slot t
    · obtain ⟨e1, e2, e3⟩ := topF_get (c n).F 0 rows
      rw [e1, hv.F.size, hv.ag.n, h.n n (by omega)]
    · obtain ⟨e1, e2, e3⟩ := topF_get (c n).F 0 rows
      rw [e2, h.ds n (by omega), ← hv.ag.ds]
      exact (hv.F.mono hk2.ext).defers

end Go.Am

namespace Go.Am
open Go Go.RowKit
variable {Λ : LB}

/-- The checks of the tables, said as the kernel may look at them. -/
structure Ready (P : Program) (A : Ask) : Prop where
  mixed : P.follows .mixedOrders = true
  stood : ∀ t, t ∈ A.eqs → P.stoodInHeld t = false ∧ P.eqGuardType P.depth t = false ∧ ∀ f, f ∈ (P.fieldsOf t).toList → f.name ≠ "_"
  enters : ∀ f fn, P.funcs[f]? = some fn → fn.body.isSome = true → ∀ args w, (callFunc f args).run P w = .ok (.enter f args) w
  exts : ∀ x, x ∈ A.exts → ExtOk P x.1 x.2

theorem enters_ok {P : Program} (h : P.funcs.toList.all (fun fn => !(fn.name == "runtime.NumGoroutine")) = true) : ∀ f fn, P.funcs[f]? = some fn → fn.body.isSome = true → ∀ args w, (callFunc f args).run P w = .ok (.enter f args) w := by
  intro f fn hf hb args w
  have hn := List.all_eq_true.1 h fn (List.mem_of_getElem? (by rw [Array.getElem?_toList]; exact hf))
  have h1 : fn.name ≠ "runtime.NumGoroutine" := by simpa using hn
  have h2 : fn.body ≠ none := by intro e; rw [e] at hb; cases hb
  simp [callFunc, hf, h1, h2]

theorem foldl_get {α : Type} (l : List (Nat × α)) : ∀ (t : T α) (i : Nat) (x : α), (l.foldl (fun t n => t.set n.1 n.2) t).get i = some x → t.get i = some x ∨ (i, x) ∈ l := by
  induction l with
  | nil => intro t i x h; exact .inl h
  | cons n l ih =>
    intro t i x h
    rcases ih _ i x h with h1 | h1
    · by_cases hi : i = n.1
      · subst hi
        rw [get_set_same] at h1
        cases h1
        exact .inr (List.mem_cons_self ..)
      · rw [get_set_ne _ _ hi] at h1; exact .inl h1
    · exact .inr (List.mem_cons_of_mem _ h1)
theorem foldl_unit (l : List Nat) : ∀ (t : T Unit) (i : Nat), (l.foldl (fun t n => t.set n ()) t).get i ≠ none → t.get i ≠ none ∨ i ∈ l := by
  induction l with
  | nil => intro t i h; exact .inl h
  | cons n l ih =>
    intro t i h
    rcases ih _ i h with h1 | h1
    · by_cases hi : i = n
      · exact .inr (by simp [hi])
      · rw [get_set_ne _ _ hi] at h1; exact .inl h1
    · exact .inr (by simp [h1])

theorem cx_ok {P : Program} {A : Ask} (h : Ready P A) (hp : ∀ x, x ∈ A.prims → PrimOk Λ P x.1 x.2) (hg : ∀ x, x ∈ A.globs → GlobOk Λ.w Λ.B x.1 x.2) : CxOk Λ P (mkCx P A) := by
  refine ⟨fun t i ht => ?_, fun f fn hf => ?_, fun t ht => ?_, h.enters, fun f x hx => ?_, fun f q hq => ?_, fun g cs hgl => ?_⟩
  · have ht' : (T.ofL P.types.toList 0 .leaf).get t = some i := ht
    rw [get_ofL] at ht'
    split at ht'
    · rename_i hb
      have h1 : P.types[t]? = some i := by rw [← Array.getElem?_toList]; simpa using ht'
      unfold Tables.info?
      rw [if_pos (Array.getElem?_eq_some_iff.1 h1).1]; exact h1
    · cases ht'
  · have ht' : (T.ofL P.funcs.toList 0 .leaf).get f = some fn := hf
    rw [get_ofL] at ht'
    split at ht'
    · rename_i hb
      rw [← Array.getElem?_toList]; simpa using ht'
    · cases ht'
  · have ht' : (A.eqs.foldl (fun t n => t.set n ()) .leaf : T Unit).get t ≠ none := ht
    rcases foldl_unit A.eqs _ t ht' with h1 | h1
    · exact absurd rfl h1
    · exact h.stood t h1
  · have hx' : (A.exts.foldl (fun t n => t.set n.1 n.2) .leaf : T Xf).get f = some x := hx
    rcases foldl_get A.exts _ f x hx' with h1 | h1
    · cases h1
    · exact h.exts _ h1
  · have hx' : (A.prims.foldl (fun t n => t.set n.1 n.2) .leaf : T _).get f = some q := hq
    rcases foldl_get A.prims _ f q hx' with h1 | h1
    · cases h1
    · exact hp _ h1
  · have hx' : (A.globs.foldl (fun t n => t.set n.1 n.2) .leaf : T _).get g = some cs := hgl
    rcases foldl_get A.globs _ g cs hx' with h1 | h1
    · cases h1
    · exact hg _ h1

theorem empty_R (w : World) (hs : Λ.w.heap.size ≤ w.heap.size) (hb : ∀ b, Λ.B b → b < Λ.w.heap.size ∧ w.heap[b]? = Λ.w.heap[b]?) : R Λ (fun _ _ => none) ⟨.leaf, 0⟩ w :=
  have none : ∀ (i : Nat) (o : AObj), ¬ (T.leaf : T AObj).get i = some o := fun i o h => by cases h
  ⟨fun i o h => (none i o h).elim, fun i o h => (none i o h).elim, fun _ _ _ => rfl, fun i c l t f ty h => (none i _ h).elim, fun i o _ _ h => (none i o h).elim, fun i _ o _ _ _ _ _ _ h => (none i o h).elim, hs,
   fun b h => ⟨(hb b h).1, (hb b h).2, fun ⟨i, o, _, _, ho, _⟩ => none i o ho⟩⟩

/-- Is the answer of a closed call this one bool? -/
def isB1 (b : Bool) (x : AV × AS) : Bool := match x.1 with | .bool c => cond b c (!c) | _ => false
noncomputable def isB (b : Bool) (r : Res (AV × AS)) : Bool :=
  match r with
  | .ok x xs => cond (isB1 b x) (allL (isB1 b) xs) false
  | .err _ => false
noncomputable def says (P : Program) (A : Ask) (n : Nat) (f : FuncId) (b : Bool) : Bool := isB b (call (mkCx P A) n f [] ⟨.leaf, 0⟩)

/-- A call without arguments that the machine answers by one bool. -/
theorem call_bool_at {P : Program} {A : Ask} (h : Ready P A) (hp : ∀ x, x ∈ A.prims → PrimOk Λ P x.1 x.2) (hg : ∀ x, x ∈ A.globs → GlobOk Λ.w Λ.B x.1 x.2) (n : Nat) (f : FuncId) (b : Bool)
    (hs : true = says P A n f b) (w : World) (hz : Λ.w.heap.size ≤ w.heap.size) (hb : ∀ b, Λ.B b → b < Λ.w.heap.size ∧ w.heap[b]? = Λ.w.heap[b]?) :
    Calls P f #[] w fun e w' => e = .returned (.bool b) ∧ Below w.heap.size w w' := by
  have hc : isB b (call (mkCx P A) n f [] ⟨.leaf, 0⟩) = true := hs.symm
  unfold isB at hc
  have hcx := cx_ok h hp hg
  have hK := callF_ok hcx (code_ok hcx (drawn_ok hcx h.mixed) n).1
  have one : ∀ x : AV × AS, isB1 b x = true → ∀ ρ' e w', RetOk ρ' x.1 e → R Λ ρ' x.2 w' → Kp (fun _ _ => none) ⟨.leaf, 0⟩ w ρ' x.2 w' → e = .returned (.bool b) ∧ Below w.heap.size w w' := by
    intro x h1 ρ' e w' h0 hR hk
    unfold isB1 at h1
    split at h1
    · rename_i c hx
      have hbc : c = b := by cases b <;> cases c <;> first | rfl | (cases h1)
      rw [hx] at h0
      obtain ⟨y, rfl, hy⟩ := h0
      have hy' : y = .bool c := by simpa [VRel] using hy
      refine ⟨by rw [hy', hbc], hk.os, hk.tape, hk.output, hk.size, fun k hk' => hk.keep k hk' ?_⟩
      rintro ⟨i, o, g, pl, ho, _⟩
      cases ho
    · cases h1
  refine (hK (fun _ _ => none) (.fn f) [] ⟨.leaf, 0⟩ w #[] (fun e w' => e = .returned (.bool b) ∧ Below w.heap.size w w') ?_ (empty_R w hz hb) (by simp [LRel])).2
  have hcc : callF (mkCx P A) (exec (mkCx P A) n) (.fn f) [] ⟨.leaf, 0⟩ = call (mkCx P A) n f [] ⟨.leaf, 0⟩ := rfl
  rw [hcc]
  split at hc
  · rename_i x xs heq
    rw [heq]
    cases h1 : isB1 b x with
    | false => rw [h1] at hc; cases hc
    | true =>
      rw [h1] at hc
      simp only [cond_true, allL_eq, List.all_eq_true] at hc
      exact ⟨one x h1, fun y hy => one y (hc y hy)⟩
  · cases hc

/-- .. where nothing is known of the world. -/
theorem call_bool {P : Program} {A : Ask} (h : Ready P A) (hp : A.prims = []) (hg : A.globs = []) (n : Nat) (f : FuncId) (b : Bool) (hs : true = says P A n f b) (w : World) :
    Calls P f #[] w fun e w' => e = .returned (.bool b) ∧ Below w.heap.size w w' :=
  call_bool_at (Λ := ⟨w, fun _ => False⟩) h (by rw [hp]; intro x hx; cases hx) (by rw [hg]; intro x hx; cases hx) n f b hs w (Nat.le_refl _) (fun _ hb => hb.elim)

end Go.Am
