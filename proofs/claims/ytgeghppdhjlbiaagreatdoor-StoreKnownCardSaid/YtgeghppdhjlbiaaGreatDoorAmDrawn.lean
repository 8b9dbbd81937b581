/-
  The abstract machine: a region that draws its order bears what its text's order gives.
-/
import Derived.Test.YtgeghppdhjlbiaaGreatDoorAmSteps
namespace Go.Am
open Go
variable {Λ : LB}

theorem commit_get (pr : Pend → Bool) (id : Nat) : ∀ (ps : List Pend) (S : AS), (∀ q, q ∈ ps → pr q = true → q.id ≠ id) → (commit pr ps S).h.get id = S.h.get id := by
  intro ps
  induction ps with
  | nil => intro S _; rfl
  | cons x ps ih =>
    intro S h
    have hun : commit pr (x :: ps) S = commit pr ps (cond (pr x) ⟨S.h.set x.id x.obj, S.next⟩ S) := rfl
    rw [hun, ih _ (fun q hq => h q (by simp [hq]))]
    cases hx : pr x with
    | false => rfl
    | true =>
      simp only [cond_true]
      exact get_set_ne _ _ (fun e => h x (by simp) hx e.symm)
theorem countL_eq {α : Type} (p : α → Bool) : ∀ (l : List α), countL p l = l.countP p := by
  intro l
  induction l with
  | nil => rfl
  | cons x l ih =>
    show cond (p x) (Nat.succ (countL p l)) (countL p l) = _
    rw [List.countP_cons, ih]
    cases p x <;> simp
theorem revL_eq {α : Type} (l : List α) : revL l = l.reverse := by
  have gen : ∀ (l a : List α), (List.rec (motive := fun _ => List α → List α) (fun a => a) (fun x _ ih a => ih (x :: a)) l) a = l.reverse ++ a := by
    intro l
    induction l with
    | nil => intro a; rfl
    | cons x l ih => intro a; refine (ih _).trans ?_; simp
  exact (gen l []).trans (by simp)

theorem PendOk.reserve {ρ : Rho} {S : AS} {w w' : World} {B id : Nat} {o' : Obj} {pl : Pl} {p : Pend} (hp : PendOk ρ S w B p) (_hR : R Λ ρ S w) (hg : Grew o' w w') (hr : ∀ g, ρ id g = Option.none) (hn : S.h.get id = Option.none) (hne : p.id ≠ id) :
    PendOk (put ρ id 0 pl) S w' B p := by
  obtain ⟨hn0, hlt, pl0, o0, p1, p2, p3, p4, p5, p6, p7⟩ := hp
  have hs : pl0.b < w.heap.size := (Array.getElem?_eq_some_iff.1 p4).1
  refine ⟨hn0, hlt, pl0, o0, by rw [put_ne _ _ (fun e => hne e.1)]; exact p1, fun g hg' => by rw [put_ne _ _ (fun e => hne e.1)]; exact p2 g hg', p3, (hg.old _ hs).trans p4, p5.mono (put_ext pl (hr 0)), ?_, p7⟩
  rintro ⟨i, o, g, p', ho, hp', he⟩
  have hi : i ≠ id := fun e => by subst e; rw [hn] at ho; cases ho
  rw [put_ne _ _ (fun e => hi e.1)] at hp'
  exact p6 ⟨i, o, g, p', ho, hp', he⟩

def Comm (rows : List Row) (j m : Nat) : Prop := ∃ (e : Nat) (r : Row), rows[e]? = some r ∧ isEff r.cls = true ∧ lev rows e < m ∧ bit r.bef j = true
theorem Comm.mono {rows : List Row} {j m m' : Nat} (h : Comm rows j m) (hm : m ≤ m') : Comm rows j m' := by
  obtain ⟨e, r, h1, h2, h3, h4⟩ := h; exact ⟨e, r, h1, h2, by omega, h4⟩

structure Inv (Λ : LB) (cx : Cx) (ops : List Oper) (rows : List Row) (c : Nat → Cfg) (ρ0 : Rho) (S0 : AS) (w0 : World) (L : Nat → Prop) (m : Nat) (Fs : Fr) (ρ : Rho) (S : AS) (w : World) (a : Act) : Prop where
  lo : Λ.w.heap.size ≤ w0.heap.size
  st : (snapsL rows c)[m]? = some S
  lv : ∀ (i : Nat) (r : Row), rows[i]? = some r → isEff r.cls = true → (L i ↔ lev rows i < m)
  down : ∀ (i : Nat) (r : Row) (j : Nat), rows[i]? = some r → L i → bit r.bef j = true → L j
  R : R Λ ρ S w
  F : FRel ρ Fs a
  ag : Agree rows c L Fs
  kp : Kp ρ0 S0 w0 ρ S w
  pend : ∀ (j : Nat) (q : Pend), Laid cx ops rows c j q → ¬ Comm rows j m → S.h.get q.id = none ∧ q.id < S.next ∧ (L j → PendOk ρ S w w0.heap.size q) ∧ (¬ L j → ∀ g, ρ q.id g = none)
  sep : ∀ (j j' : Nat) (q q' : Pend) (x y : Pl), j ≠ j' → Laid cx ops rows c j q → Laid cx ops rows c j' q' → ¬ Comm rows j m → ¬ Comm rows j' m → ρ q.id 0 = some x → ρ q'.id 0 = some y → x.b ≠ y.b

section
variable {cx : Cx} {K : CallK} {ops : List Oper} {rows : List Row} {c : Nat → Cfg} {ρ0 : Rho} {S0 : AS} {w0 : World} {L L' : Nat → Prop} {m : Nat} {Fs : Fr} {ρ : Rho} {S : AS} {w : World} {a : Act}

/-- What only gives a value. -/
theorem Inv.value (h : Run cx K ops rows c) (hv : Inv Λ cx ops rows c ρ0 S0 w0 L m Fs ρ S w a) {i : Nat} {r : Row} (hr : rows[i]? = some r) (hn : ¬ L i) (hb : ∀ j, bit r.bef j = true → L j)
    (hL : ∀ j, L' j ↔ L j ∨ j = i) (he : isEff r.cls = false) (hno : ∀ q, ¬ Laid cx ops rows c i q) {v : AV} (hF : (c (i + 1)).F = putD (c i).F r.o.dst v) {ρ' : Rho} {w' : World} {x : Value}
    (hx : VRel ρ' v x) (hR : Go.Am.R Λ ρ' S w') (hk : Kp ρ S w ρ' S w') : Inv Λ cx ops rows c ρ0 S0 w0 L' m (putD Fs r.o.dst v) ρ' S w' (a.put r.o.dst x) := by
  refine ⟨hv.lo, hv.st, fun j q hq hj => ?_, fun j q k hq hj hb' => ?_, hR, (hv.F.mono hk.ext).put _ hx, h.put hv.ag hr hn hF hL, hv.kp.trans hk, fun j q hl hc => ?_, fun j j' q q' x y hne hl hl' hc hc' h1 h2 => ?_⟩
  · rw [hL, ← hv.lv j q hq hj]
    constructor
    · rintro (h1 | rfl)
      · exact h1
      · rw [hr] at hq; cases hq; rw [he] at hj; cases hj
    · exact .inl
  · rw [hL] at hj ⊢
    rcases hj with hj | rfl
    · exact .inl (hv.down j q k hq hj hb')
    · rw [hr] at hq; cases hq; exact .inl (hb k hb')
  · obtain ⟨p1, p2, p3, p4⟩ := hv.pend j q hl hc
    have hji : j ≠ i := fun e => by subst e; exact hno q hl
    refine ⟨p1, p2, fun hj => ?_, fun hj g => ?_⟩
    · rw [hL] at hj
      exact (p3 (hj.resolve_right hji)).carry hk
    · rw [(hk.resv q.id g p2 p1).1]
      exact p4 (fun h1 => hj ((hL j).2 (.inl h1))) g
  · obtain ⟨p1, p2, _⟩ := hv.pend j q hl hc
    obtain ⟨p1', p2', _⟩ := hv.pend j' q' hl' hc'
    rw [(hk.resv q.id 0 p2 p1).1] at h1
    rw [(hk.resv q'.id 0 p2' p1').1] at h2
    exact hv.sep j j' q q' x y hne hl hl' hc hc' h1 h2

/-- A block is laid. -/
theorem Inv.lay (h : Run cx K ops rows c) (hv : Inv Λ cx ops rows c ρ0 S0 w0 L m Fs ρ S w a) {i : Nat} {r : Row} (hr : rows[i]? = some r) (hn : ¬ L i) (hb : ∀ j, bit r.bef j = true → L j)
    (hL : ∀ j, L' j ↔ L j ∨ j = i) (he : isEff r.cls = false) {p : Pend} (hp : Laid cx ops rows c i p) (hid : S0.next ≤ p.id) {v : AV} (hF : (c (i + 1)).F = putD (c i).F r.o.dst v) {w' : World} {o' : Obj} {x : Value} (hg : Grew o' w w') (ho : ObjRel ρ p.obj o')
    (hx : ∀ ρ' pl, ρ' p.id 0 = some pl → PlRel w.heap.size pl p.obj o' → VRel ρ' v x) {pl : Pl} (hpl : PlRel pl.b pl p.obj o') (hplb : pl.b = w.heap.size) :
    Inv Λ cx ops rows c ρ0 S0 w0 L' m (putD Fs r.o.dst v) (put ρ p.id 0 pl) S w' (a.put r.o.dst x) := by
  have hnc : ¬ Comm rows i m := by
    rintro ⟨e, q, h1, h2, h3, h4⟩
    exact hn (hv.down e q i h1 ((hv.lv e q h1 h2).2 h3) h4)
  obtain ⟨p1, p2, _, p4'⟩ := hv.pend i p hp hnc
  have p5 := p4' hn
  clear p4'
  have hext := put_ext pl (p5 0)
  refine ⟨hv.lo, hv.st, fun j q hq hj => ?_, fun j q k hq hj hb' => ?_, hv.R.reserve hg p5 p1 p2, (hv.F.mono hext).put _ (hx _ pl (put_same _ _ _ _) (hplb ▸ hpl)), h.put hv.ag hr hn hF hL, hv.kp.reserve hg p5 p1 hid, fun j q hl hc => ?_, fun j j' q q' y z hne hl hl' hc hc' h1 h2 => ?_⟩
  · rw [hL, ← hv.lv j q hq hj]
    constructor
    · rintro (h1 | rfl)
      · exact h1
      · rw [hr] at hq; cases hq; rw [he] at hj; cases hj
    · exact .inl
  · rw [hL] at hj ⊢
    rcases hj with hj | rfl
    · exact .inl (hv.down j q k hq hj hb')
    · rw [hr] at hq; cases hq; exact .inl (hb k hb')
  · by_cases hji : j = i
    · subst hji
      obtain rfl : q = p := by
        obtain ⟨_, _, _, e1, _⟩ := hl.next h
        obtain ⟨_, _, _, e2, _⟩ := hp.next h
        rw [e1] at e2; exact (List.cons.inj e2).1
      refine ⟨p1, p2, fun _ => ⟨p1, p2, pl, o', put_same _ _ _ _, fun g hg' => by rw [put_ne _ _ (fun e => hg' e.2)]; exact p5 g, hpl, by rw [hplb]; exact hg.at, ho.mono hext, ?_, by rw [hplb]; exact hv.kp.size⟩, fun hj => absurd ((hL j).2 (.inr rfl)) hj⟩
      rintro ⟨k, o, g, pl', hk, hp', he'⟩
      have hki : k ≠ q.id := fun e => by subst e; rw [p1] at hk; cases hk
      rw [put_ne _ _ (fun e => hki e.1)] at hp'
      have := hv.R.lt k o g pl' hk hp'
      omega
    · obtain ⟨q1, q2, q3, q4⟩ := hv.pend j q hl hc
      have hne := hl.apart h hp hji
      refine ⟨q1, q2, fun hj => ?_, fun hj g => ?_⟩
      · rw [hL] at hj
        exact (q3 (hj.resolve_right hji)).reserve hv.R hg p5 p1 hne
      · rw [put_ne _ _ (fun e => hne e.1)]
        exact q4 (fun h1 => hj ((hL j).2 (.inl h1))) g
  · have old : ∀ (k : Nat) (q : Pend) (y : Pl), Laid cx ops rows c k q → ¬ Comm rows k m → ρ q.id 0 = some y → y.b < w.heap.size := by
      intro k q y hl hc h1
      obtain ⟨_, _, q3, q4⟩ := hv.pend k q hl hc
      by_cases hk : L k
      · obtain ⟨_, _, pl0, o0, e1, _, _, e4, _⟩ := q3 hk
        rw [e1] at h1; cases h1
        exact (Array.getElem?_eq_some_iff.1 e4).1
      · rw [q4 hk 0] at h1; cases h1
    by_cases hji : j = i
    · subst hji
      have e1 : q = p := by
        obtain ⟨_, _, _, e1, _⟩ := hl.next h
        obtain ⟨_, _, _, e2, _⟩ := hp.next h
        rw [e1] at e2; exact (List.cons.inj e2).1
      subst e1
      rw [put_same] at h1; cases h1
      have hne' := hl'.apart h hl (fun e => hne e.symm)
      rw [put_ne _ _ (fun e => hne' e.1)] at h2
      have := old j' q' z hl' hc' h2
      omega
    · have hne1 := hl.apart h hp hji
      rw [put_ne _ _ (fun e => hne1 e.1)] at h1
      by_cases hji' : j' = i
      · subst hji'
        have e1 : q' = p := by
          obtain ⟨_, _, _, e1, _⟩ := hl'.next h
          obtain ⟨_, _, _, e2, _⟩ := hp.next h
          rw [e1] at e2; exact (List.cons.inj e2).1
        subst e1
        rw [put_same] at h2; cases h2
        have := old j q y hl hc h1
        omega
      · have hne2 := hl'.apart h hp hji'
        rw [put_ne _ _ (fun e => hne2 e.1)] at h2
        exact hv.sep j j' q q' y z hne hl hl' hc hc' h1 h2

/-- What acts: its level is the one at hand. -/
theorem Inv.level (h : Run cx K ops rows c) (hv : Inv Λ cx ops rows c ρ0 S0 w0 L m Fs ρ S w a) {i : Nat} {r : Row} (hr : rows[i]? = some r) (hn : ¬ L i) (hb : ∀ j, bit r.bef j = true → L j) (he : isEff r.cls = true) : lev rows i = m := by
  have h1 : ¬ lev rows i < m := fun h1 => hn ((hv.lv i r hr he).2 h1)
  rcases lev_last (rows := rows) i with h2 | ⟨e, q, h2, h3, h4, h5⟩
  · omega
  · have := (hv.lv e q h3 h4).1 (hb e (h.tot e i q r h3 hr h4 he h2))
    omega

/-- The blocks that wait and are known to stand. -/
theorem Inv.commit (h : Run cx K ops rows c) (hp0 : (c 0).ps = []) (hid : (c 0).id = S0.next) (hv : Inv Λ cx ops rows c ρ0 S0 w0 L m Fs ρ S w a) {i : Nat} (hi : i ≤ rows.length) (hm : lev rows i = m) (pr : Pend → Bool)
    (hpr : ∀ (j : Nat) (q : Pend), q.i = j → pr q = true → Laid cx ops rows c j q → L j) :
    Go.Am.R Λ ρ (commit pr (c i).ps S) w ∧ Kp ρ0 S0 w0 ρ (commit pr (c i).ps S) w ∧ (Go.Am.commit pr (c i).ps S).next = S.next ∧
      (∀ (j : Nat) (p : Pend), Laid cx ops rows c j p → ¬ Comm rows j m → pr p = false → (Go.Am.commit pr (c i).ps S).h.get p.id = none ∧ (L j → PendOk ρ (Go.Am.commit pr (c i).ps S) w w0.heap.size p)) := by
  obtain ⟨hw1, hw2⟩ := h.waits hp0 i hi
  have unc : ∀ q, q ∈ (c i).ps → ∃ j, Laid cx ops rows c j q ∧ ¬ Comm rows j m := by
    intro q hq
    obtain ⟨j, hj, hl, hn⟩ := (hw1 q).1 hq
    refine ⟨j, hl, ?_⟩
    rintro ⟨e, r, h1, h2, h3, h4⟩
    rw [← hm] at h3
    have := hn e r ((lev_lt h1 h2).2 h3) h1 h2
    rw [this] at h4; cases h4
  obtain ⟨c1, c2, c3, c4⟩ := commit_ok (ρ0 := ρ0) (S0 := S0) (w0 := w0) hv.lo pr (c i).ps S hv.R hv.kp (fun q hq hp => by
      obtain ⟨j, hl, hn⟩ := unc q hq
      obtain ⟨_, _, p3, _⟩ := hv.pend j q hl hn
      exact ⟨p3 (hpr j q hl.i hp hl), by rw [← hid]; exact (hl.top h).1⟩) hw2 (fun p q x y hp _ hq _ hne h1 h2 => by
      obtain ⟨j, hl, hn⟩ := unc p hp
      obtain ⟨j', hl', hn'⟩ := unc q hq
      exact hv.sep j j' p q x y (fun e => hne (by rw [hl.id, hl'.id, e])) hl hl' hn hn' h1 h2)
  refine ⟨c1, c2, c3, fun j p hl hn hpf => ?_⟩
  obtain ⟨p1, p2, p3, p4⟩ := hv.pend j p hl hn
  have hne : ∀ q, q ∈ (c i).ps → pr q = true → q.id ≠ p.id := by
    intro q hq hpq e
    obtain ⟨j', hl', hn'⟩ := unc q hq
    by_cases hjj : j' = j
    · subst hjj
      obtain ⟨_, _, _, e1, _⟩ := hl'.next h
      obtain ⟨_, _, _, e2, _⟩ := hl.next h
      rw [e1] at e2
      have := (List.cons.inj e2).1
      subst this
      rw [hpf] at hpq; cases hpq
    · exact hl'.apart h hl hjj e
  refine ⟨by rw [commit_get _ _ _ _ hne]; exact p1, fun hj => c4 p (p3 hj) fun q hq hpq => ⟨fun e => hne q hq hpq e.symm, fun x y h1 h2 => ?_⟩⟩
  obtain ⟨j', hl', hn'⟩ := unc q hq
  exact hv.sep j j' p q x y (fun e => hne q hq hpq (by rw [hl.id, hl'.id, e])) hl hl' hn hn' h1 h2

/-- What acts, done. -/
theorem Inv.act (h : Run cx K ops rows c) (hs0 : (c 0).snaps = []) (hp0 : (c 0).ps = []) (hid : (c 0).id = S0.next) (hv : Inv Λ cx ops rows c ρ0 S0 w0 L m Fs ρ S w a) {i : Nat} {r : Row} (hr : rows[i]? = some r) (hn : ¬ L i) (hb : ∀ j, bit r.bef j = true → L j)
    (hL : ∀ j, L' j ↔ L j ∨ j = i) (he : isEff r.cls = true) {v : AV} (hF : (c (i + 1)).F = putD (c i).F r.o.dst v) {ρ' : Rho} {w' : World} {x : Value}
    (hx : VRel ρ' v x) (hR : Go.Am.R Λ ρ' (c (i + 1)).S w') (hk : Kp ρ (Go.Am.commit (fun p => bit r.bef p.i) (c i).ps S) w ρ' (c (i + 1)).S w') :
    Inv Λ cx ops rows c ρ0 S0 w0 L' (m + 1) (putD Fs r.o.dst v) ρ' (c (i + 1)).S w' (a.put r.o.dst x) := by
  have hm := hv.level h hr hn hb he
  have hi := row_lt hr
  obtain ⟨c1, c2, c3, c4⟩ := hv.commit h hp0 hid (Nat.le_of_lt hi) hm (fun p => bit r.bef p.i) (fun j q e hp _ => by subst e; exact hb _ hp)
  have hlev : lev rows (i + 1) = m + 1 := by rw [lev_succ hr, if_pos he, hm]
  have out : ∀ (j : Nat) (q : Pend), Laid cx ops rows c j q → ¬ Comm rows j (m + 1) → ¬ Comm rows j m ∧ bit r.bef q.i = false := by
    intro j q hl hc
    refine ⟨fun h1 => hc (h1.mono (Nat.le_succ _)), ?_⟩
    cases hbq : bit r.bef q.i with
    | false => rfl
    | true => exact absurd ⟨i, r, hr, he, by omega, by rw [← hl.i]; exact hbq⟩ hc
  refine ⟨hv.lo, by rw [← hlev]; exact h.snap hs0 hi, fun j q hq hj => ?_, fun j q k hq hj hb' => ?_, hR, (hv.F.mono hk.ext).put _ hx, h.put hv.ag hr hn hF hL, c2.trans hk, fun j q hl hc => ?_, fun j j' q q' x y hne hl hl' hc hc' h1 h2 => ?_⟩
  · rw [hL, hv.lv j q hq hj]
    constructor
    · rintro (h1 | rfl) <;> omega
    · intro h1
      by_cases h2 : lev rows j < m
      · exact .inl h2
      · right
        rcases Nat.lt_trichotomy j i with h3 | h3 | h3
        · have := (lev_lt (i := i) hq hj).1 h3; omega
        · exact h3
        · have := (lev_lt (i := j) hr he).1 h3; omega
  · rw [hL] at hj ⊢
    rcases hj with hj | rfl
    · exact .inl (hv.down j q k hq hj hb')
    · rw [hr] at hq; cases hq; exact .inl (hb k hb')
  · obtain ⟨o1, o2⟩ := out j q hl hc
    obtain ⟨p1, p2, p3, p4⟩ := hv.pend j q hl o1
    obtain ⟨q1, q2⟩ := c4 j q hl o1 o2
    have hji : j ≠ i := fun e => by
      subst e
      obtain ⟨⟨r', v', hr', hc', _⟩, _⟩ := hl
      rw [hr] at hr'; cases hr'; rw [hc'] at he; cases he
    have hlt : q.id < (Go.Am.commit (fun p => bit r.bef p.i) (c i).ps S).next := by rw [c3]; exact p2
    refine ⟨(hk.resv q.id 0 hlt q1).2, Nat.lt_of_lt_of_le hlt hk.next, fun hj => ?_, fun hj g => ?_⟩
    · rw [hL] at hj
      exact (q2 (hj.resolve_right hji)).carry hk
    · rw [(hk.resv q.id g hlt q1).1]
      exact p4 (fun h1 => hj ((hL j).2 (.inl h1))) g
  · obtain ⟨o1, o2⟩ := out j q hl hc
    obtain ⟨o1', o2'⟩ := out j' q' hl' hc'
    obtain ⟨_, p2, _⟩ := hv.pend j q hl o1
    obtain ⟨_, p2', _⟩ := hv.pend j' q' hl' o1'
    obtain ⟨q1, _⟩ := c4 j q hl o1 o2
    obtain ⟨q1', _⟩ := c4 j' q' hl' o1' o2'
    rw [(hk.resv q.id 0 (by rw [c3]; exact p2) q1).1] at h1
    rw [(hk.resv q'.id 0 (by rw [c3]; exact p2') q1').1] at h2
    exact hv.sep j j' q q' x y hne hl hl' o1 o1' h1 h2

end
end Go.Am
