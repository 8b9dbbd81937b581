/-
  'TreeSides', walked.
-/
import Derived.Test.YtpjebmdeaieniaaTreeWaysP
namespace Go.Proofs.Ytpjebmdeaieniaa.tree
open Go Go.Am
set_option linter.unusedVariables false
set_option linter.unusedSimpArgs false

/-! ### Counting -/
def inc (c : List Nat) (x : Nat) : List Nat := c.set x (c.getD x 0 + 1)
def incs (c : List Nat) (s : List Nat) : List Nat := s.foldl inc c
theorem inc_len (c : List Nat) (x : Nat) : (inc c x).length = c.length := by simp [inc]
theorem incs_len (s : List Nat) : ∀ c : List Nat, (incs c s).length = c.length := by
  induction s with
  | nil => intro c; rfl
  | cons x s ih => intro c; show (incs (inc c x) s).length = _; rw [ih, inc_len]
theorem inc_get {c : List Nat} {x y : Nat} (hy : y < c.length) : (inc c x).getD y 0 = c.getD y 0 + (if x = y then 1 else 0) := by
  unfold inc
  rw [List.getD_eq_getElem?_getD, List.getD_eq_getElem?_getD]
  by_cases h : x = y
  · subst h
    rw [List.getElem?_set_self hy, if_pos rfl, List.getD_eq_getElem?_getD]; simp
  · rw [List.getElem?_set_ne h, if_neg h]; rfl
theorem incs_get {y : Nat} (s : List Nat) : ∀ {c : List Nat}, y < c.length → (incs c s).getD y 0 = c.getD y 0 + s.count y := by
  induction s with
  | nil => intro c _; simp [incs]
  | cons x s ih =>
    intro c hy
    show (incs (inc c x) s).getD y 0 = _
    rw [ih (by rw [inc_len]; exact hy), inc_get hy, List.count_cons]
    by_cases h : x = y
    · simp [h]; omega
    · simp [h]
/-- The counts, once the first sides are in. -/
def cntO (p : Nat → Nat) (n b : Nat) (ms : List Nat) : List Nat := ms.foldl (fun (c : List Nat) (m : Nat) => incs c (sideZ p n b m)) (inc (List.replicate n 0) b)
theorem cntO_len (p : Nat → Nat) (n b : Nat) (ms : List Nat) : (cntO p n b ms).length = n := by
  unfold cntO
  have : ∀ (ms : List Nat) (c : List Nat), (ms.foldl (fun (c : List Nat) (m : Nat) => incs c (sideZ p n b m)) c).length = c.length := by
    intro ms
    induction ms with
    | nil => intro c; rfl
    | cons m ms ih => intro c; show (ms.foldl _ (incs c (sideZ p n b m))).length = _; rw [ih, incs_len]
  rw [this, inc_len]; simp
theorem cntO_snoc (p : Nat → Nat) (n b : Nat) (ms : List Nat) (m : Nat) : cntO p n b (ms ++ [m]) = incs (cntO p n b ms) (sideZ p n b m) := by simp [cntO, List.foldl_append]
theorem side_count {p : Nat → Nat} {n b m y : Nat} (hy : y < n) : (sideZ p n b m).count y = if over p n b m y = true then 1 else 0 := by
  unfold sideZ
  by_cases h : over p n b m y = true
  · rw [if_pos h]
    have h1 : y ∈ (List.range n).filter (over p n b m) := List.mem_filter.2 ⟨List.mem_range.2 hy, h⟩
    have h2 : ((List.range n).filter (over p n b m)).Nodup := List.nodup_range.filter _
    have h3 := List.nodup_iff_count.1 h2 y
    have h4 := List.count_pos_iff.2 h1
    omega
  · rw [if_neg h]
    exact List.count_eq_zero.2 fun hm => h (List.mem_filter.1 hm).2
theorem over_iff {p : Nat → Nat} {n b y : Nat} (hb : b < n) (hy : y < n) (m : Nat) : over p n b m y = true ↔ nx p b y = some m := by
  have e : nxZ p n b y = nx p b y := by
    unfold nxZ wayZ
    rw [if_pos ⟨⟨by omega, by omega⟩, ⟨by omega, by omega⟩⟩]; simp [nx]
  unfold over
  rw [e]
  cases hh : nx p b y with
  | none => simp
  | some z =>
    simp only [decide_eq_true_eq, Option.some.injEq]
    omega
theorem cntO_get {p : Nat → Nat} {n b y : Nat} (hb : b < n) (hy : y < n) : ∀ ms : List Nat, (cntO p n b ms).getD y 0 = (if b = y then 1 else 0) + (ms.map fun m => if nx p b y = some m then 1 else 0).sum := by
  have gen : ∀ (ms c : List Nat), y < c.length → (ms.foldl (fun (c : List Nat) (m : Nat) => incs c (sideZ p n b m)) c).getD y 0 = c.getD y 0 + (ms.map fun m => if nx p b y = some m then 1 else 0).sum := by
    intro ms
    induction ms with
    | nil => intro c _; simp
    | cons m ms ih =>
      intro c hc
      show (ms.foldl _ (incs c (sideZ p n b m))).getD y 0 = _
      rw [ih _ (by rw [incs_len]; exact hc), incs_get _ hc, side_count hy, List.map_cons, List.sum_cons]
      by_cases h : nx p b y = some m
      · rw [if_pos ((over_iff hb hy m).2 h), if_pos h]; omega
      · rw [if_neg (fun e => h ((over_iff hb hy m).1 e)), if_neg h]; omega
  intro ms
  unfold cntO
  rw [gen ms _ (by rw [inc_len]; simpa using hy), inc_get (by simpa using hy)]
  have : (List.replicate n 0).getD y 0 = 0 := by simp [List.getD_eq_getElem?_getD, hy]
  rw [this]; omega
theorem sum_zero (l : List Nat) : (l.map fun _ => 0).sum = 0 := by
  induction l with
  | nil => rfl
  | cons a l ih => rw [List.map_cons, List.sum_cons, ih]
theorem sum_one {l : List Nat} (hn : l.Nodup) {z : Nat} (hz : z ∈ l) : (l.map fun m => if some z = some m then 1 else 0).sum = 1 := by
  induction l with
  | nil => cases hz
  | cons m l ih =>
    rw [List.nodup_cons] at hn
    rw [List.map_cons, List.sum_cons]
    by_cases hzm : z = m
    · subst hzm
      have : (l.map fun m => if some z = some m then 1 else 0).sum = 0 := by
        have h0 : ∀ m ∈ l, (if some z = some m then 1 else 0) = 0 := fun m hm => if_neg (fun e => hn.1 (by cases e; exact hm))
        rw [List.map_congr_left h0]
        exact sum_zero l
      rw [this]; simp
    · have hz2 : z ∈ l := (List.mem_cons.1 hz).resolve_left hzm
      have : ¬ (some z = some m) := by intro e; cases e; exact hzm rfl
      rw [if_neg this, ih hn.2 hz2]
/-- Each broker is counted once. -/
theorem cnt_one {p : Nat → Nat} (hp : Par p) {n b y : Nat} (hb : b < n) (hy : y < n) : (cntO p n b (adjOf p n b)).getD y 0 = 1 := by
  rw [cntO_get hb hy]
  by_cases h : b = y
  · subst h
    rw [if_pos rfl, nx_none hp]
    have : (adjOf p n b).map (fun m => if (none : Option Nat) = some m then 1 else 0) = (adjOf p n b).map fun _ => 0 := List.map_congr_left fun m _ => by simp
    rw [this, sum_zero]
  · obtain ⟨z, h1, h2, h3⟩ := nx_some hp h
    have hzn : z < n := by
      rcases h2 with ⟨q1, q2⟩ | ⟨q1, q2⟩
      · have := hp _ q1; omega
      · have hz : z ∈ way p b y := by rw [h3]; obtain ⟨r, e⟩ := way_head hp z y; rw [e]; simp
        have := way_le hp _ _ _ hz; omega
    rw [if_neg h, h1, sum_one (adj_nodup hp n b) ((mem_adj hp hb).2 ⟨h2, hzn⟩)]
theorem nx_nb {p : Nat → Nat} (hp : Par p) {b m : Nat} (h : nb p b m) : nx p b m = some m := by
  rcases edge_iff hp h m with ⟨_, h2, _⟩ | ⟨h1, _, _⟩
  · exact h2
  · rw [way_same hp] at h1
    have := congrArg List.length h1
    obtain ⟨r, e⟩ := way_head hp b m
    rw [e] at this
    simp at this

theorem cntO_small {p : Nat → Nat} {n b x i j m : Nat} (hb : b < n) (hx : x < n) : (incs (cntO p n b ((adjOf p n b).take i)) ((sideZ p n b m).take j)).getD x 0 ≤ 2 * n + 2 := by
  rw [incs_get _ (by rw [cntO_len]; exact hx), cntO_get hb hx]
  have h1 : ∀ l : List Nat, (l.map fun m => if nx p b x = some m then 1 else 0).sum ≤ l.length := by
    intro l
    induction l with
    | nil => simp
    | cons a l ih => rw [List.map_cons, List.sum_cons, List.length_cons]; split <;> omega
  have h2 := h1 ((adjOf p n b).take i)
  have h3 : ((adjOf p n b).take i).length ≤ n + 1 := by have := adj_len (p := p) n b; rw [List.length_take]; omega
  have h4 : ((sideZ p n b m).take j).count x ≤ n := by
    have h5 := List.count_le_length (a := x) (l := (sideZ p n b m).take j)
    have h6 : ((sideZ p n b m).take j).length ≤ n := by
      have := List.length_filter_le (over p n b m) (List.range n)
      rw [List.length_take]; unfold sideZ; simp at this; omega
    omega
  have h7 : (if b = x then 1 else 0) ≤ 1 := by split <;> omega
  omega
theorem take_mem {s : List Nat} {j x m : Nat} (h : s[j]? = some x) : decide (m ∈ s.take (j + 1)) = (decide (m ∈ s.take j) || decide (x = m)) := by
  have hl := (List.getElem?_eq_some_iff.1 h).1
  rw [List.take_succ_eq_append_getElem hl, (List.getElem?_eq_some_iff.1 h).2]
  by_cases h1 : m ∈ s.take j
  · simp [h1]
  · by_cases h2 : x = m
    · simp [h2]
    · have : ¬ m = x := fun e => h2 e.symm
      simp [h1, h2, this]
theorem incs_take {c s : List Nat} {j x : Nat} (h : s[j]? = some x) : incs c (s.take (j + 1)) = inc (incs c (s.take j)) x := by
  have hl := (List.getElem?_eq_some_iff.1 h).1
  rw [List.take_succ_eq_append_getElem hl, (List.getElem?_eq_some_iff.1 h).2]
  simp [incs, List.foldl_append]
theorem ints_inc {c : List Nat} {x : Nat} : ints (inc c x) = (ints c).set x (.int .i64 ((c.getD x 0 : Nat) + 1 : Int)) := by
  unfold inc ints
  rw [List.map_set]
  rfl
theorem fn5 : C0.fns.get 5 = some Try.f5 := by kernel_rfl
theorem ok5 : codeOk C0 Try.f5.ntmps (Try.f5.body.getD .skip) = true := by kernel_rfl
theorem nt5 : Try.f5.ntmps = 114 := by kernel_rfl
theorem un4' : und C0 4 = some .bool := by kernel_rfl
theorem ze3' : zeroOf C0 3 = some (.int .i64 0) := by kernel_rfl
theorem sz3 : szOf C0 3 = some 1 := by kernel_rfl

/-- What holds all along. -/
structure SidP (S S' : AS) (t : Nat) (vb : AV) (vs : List AV) (p : Nat → Nat) (n c : Nat) (cnt : List Nat) : Prop where
  sub : Sub S S'
  row : S'.h.get c = some (.row (ints cnt) 0 0 false 3)
  lt : c < S'.next
  ge : S.next ≤ c
theorem SidP.step {S S' T : AS} {t : Nat} {vb : AV} {vs : List AV} {p : Nat → Nat} {n c : Nat} {cnt : List Nat} (h : SidP S S' t vb vs p n c cnt) (k : Sub S' T) : SidP S T t vb vs p n c cnt :=
  ⟨h.sub.trans k, by rw [k.h c h.lt]; exact h.row, Nat.lt_of_lt_of_le h.lt k.next, h.ge⟩
theorem SidP.put {S S' : AS} {t : Nat} {vb : AV} {vs : List AV} {p : Nat → Nat} {n c : Nat} {cnt cnt' : List Nat} (h : SidP S S' t vb vs p n c cnt) : SidP S ⟨S'.h.set c (.row (ints cnt') 0 0 false 3), S'.next⟩ t vb vs p n c cnt' :=
  ⟨h.sub.set _ _ h.ge _ (Nat.le_refl _), get_set_same _ _ _, h.lt, h.ge⟩

def inI (S : AS) (t : Nat) (vb : AV) (vs : List AV) (p : Nat → Nat) (n c : Nat) (nv sv : AV) (cnt : List Nat) (adj s : List Nat) (b m : Nat) (k : Nat) (G F' : Fr) (S' : AS) : Prop := ∃ i : Nat, SidP S S' t vb vs p n c (incs cnt (s.take i)) ∧ Sl S' nv 1 (ints adj) ∧ Sl S' sv 1 (ints s) ∧
  agree [5, 7, 8, 10, 48, 49, 50, 58, 59] F' G ∧ sl F' 60 = .int .i64 i ∧ sl F' 12 = .bool (decide (m ∈ s.take i)) ∧ i ≤ s.length ∧ k = s.length - i
def boI (S' : AS) (adj : List Nat) (b : Nat) (k : Nat) (G F' : Fr) (T : AS) : Prop := ∃ i : Nat, T = S' ∧ agree [5, 7, 8, 10, 12, 48, 49, 50, 79, 80] F' G ∧ sl F' 81 = .int .i64 i ∧ sl F' 15 = .bool (decide (b ∈ adj.take i)) ∧ i ≤ adj.length ∧ k = adj.length - i
def outI (S : AS) (t : Nat) (vb : AV) (vs : List AV) (p : Nat → Nat) (n c : Nat) (nv : AV) (b : Nat) (k : Nat) (F' : Fr) (S' : AS) : Prop := ∃ i : Nat, SidP S S' t vb vs p n c (cntO p n b ((adjOf p n b).take i)) ∧ Sl S' nv 1 (ints (adjOf p n b)) ∧
  sl F' 5 = .ptr t 0 0 1 ∧ sl F' 7 = .int .i64 b ∧ sl F' 8 = .slice c 0 0 n n 1 (some n) ∧ sl F' 48 = nv ∧ sl F' 49 = .int .i64 (adjOf p n b).length ∧ sl F' 50 = .int .i64 i ∧ i ≤ (adjOf p n b).length ∧ k = (adjOf p n b).length - i
def endI (S' : AS) (p : Nat → Nat) (t n c b : Nat) (k : Nat) (F' : Fr) (T : AS) : Prop := ∃ i : Nat, T = S' ∧ sl F' 5 = .ptr t 0 0 1 ∧ sl F' 7 = .int .i64 b ∧ sl F' 99 = .slice c 0 0 n n 1 (some n) ∧ sl F' 100 = .int .i64 n ∧ sl F' 101 = .int .i64 i ∧ i ≤ n ∧ k = n - i

set_option maxHeartbeats 4000000 in
theorem sides {S : AS} {u : AV} {l : List Nat} (hu : Sl S u 1 (bytesA l)) (hb : ∀ n, n ∈ l → n < 256) {a : Nat} (ha : a < 256) : CallW C0 5 [u, .int .u8 a] S fun v T => v = .bool true := by
  refine enterW (pu0 _) (pr0 _ rfl) fn5 rfl ok5 (by simp) fun F hn hs => ?_
  rw [nt5] at hn
  have s0 := hs 0
  have s1 := hs 1
  clear hs
  simp only [List.getElem?_cons_zero, List.getElem?_cons_succ, Option.getD_some] at s0 s1
  obtain ⟨pv, S1, ⟨q1, q2⟩, e1⟩ := (parents hu hb).ex
  have hval := parsZ_valid l (k := min l.length 63) (by omega)
  generalize parsZ l (min l.length 63) = P at q2 hval
  obtain ⟨v2, S2, ⟨t, vb, vs, rfl, hT, q3⟩, e2⟩ := (new q2 hval).ex
  have hp := hval.par
  have hn0 : 0 < P.length := hval.lo
  have hn64 := hval.hi
  have hlen := adjs_len (parOf P) P.length
  generalize parOf P = p at hT hp hlen
  generalize P.length = n at hT hn0 hn64 hlen
  have hw1 : IntKind.i64.wrap (a : Int) = (a : Int) := wrap_nat (by omega)
  have hz : ¬ ((n : Int) = 0) := by omega
  have hz2 : ¬ (n = 0) := by omega
  obtain ⟨b, hb0⟩ : ∃ b, b = a % n := ⟨_, rfl⟩
  have hm1 : Int.tmod (a : Int) (n : Int) = (b : Int) := by rw [hb0]; exact tmod_nat _ _
  have hbn : b < n := by rw [hb0]; exact Nat.mod_lt _ hn0
  have hfit : fits n 8 = true := by simp [fits, nble]; omega
  have rowS : ∀ (S0 : AS), S0.next < S0.next + 1 → Sl (⟨S0.h.set S0.next (.row (List.replicate n (.int .i64 0)) 0 0 false 3), S0.next + 1⟩ : AS) (.slice S0.next 0 0 n n 1 (some n)) 1 (List.replicate n (.int .i64 0)) := fun S0 h => rd_row (get_set_same _ _ _) (Nat.le_refl _) (by simp) h (by simp)
  have r0 := rowS S2 (Nat.lt_succ_self _)
  have l0 := loadT_sl (cx := C0) (e := 3) r0 (k := b) (x := .int .i64 0) (by simp [hbn]) ag3
  have w0 := wr_row (S := (⟨S2.h.set S2.next (.row (List.replicate n (.int .i64 0)) 0 0 false 3), S2.next + 1⟩ : AS)) (n := n) (j := b) (cap := some n) (x := .int .i64 1) (get_set_same _ _ _) (by simp) hbn
  have one : IntKind.i64.wrap 1 = 1 := rfl
  simp [s0, s1, ex0, e1, e2, st22, d8, callSize hT, hlen, un4', cv53, hw1, hz, hz2, hm1, ze3', hfit, hbn, l0, ag3, sz3, w0, one]
  obtain ⟨ST, hST⟩ : ∃ ST : AS, ST = ⟨(S2.h.set S2.next (.row (List.replicate n (.int .i64 0)) 0 0 false 3)).set S2.next (.row ((List.replicate n (.int .i64 0)).set b (.int .i64 1)) 0 0 false 3), S2.next + 1⟩ := ⟨_, rfl⟩
  rw [← hST]
  have subST : Sub S2 ST := by
    rw [hST]
    exact ((Sub.refl S2).set _ _ (Nat.le_refl _) _ (Nat.le_succ _)).set _ _ (Nat.le_refl _) _ (Nat.le_refl _)
  have rowST : ST.h.get S2.next = some (.row (ints (cntO p n b [])) 0 0 false 3) := by
    rw [hST]
    show ((S2.h.set S2.next _).set S2.next _).get S2.next = _
    rw [get_set_same]
    congr 2
    simp [cntO, inc, ints, List.map_set, hbn]
  have nST : ST.next = S2.next + 1 := by rw [hST]
  clear hST r0 l0 w0 rowS
  obtain ⟨nv, S3, ⟨q4, q5, q6, _⟩, e3⟩ := (neighbours hn64 (hT.sub subST) b).ex
  have hadj : adjZ p n b = adjOf p n b := by
    unfold adjZ
    rw [if_pos ⟨by omega, by omega⟩]; simp
  rw [hadj] at q5
  have nb1 : bnd nv ≠ S2.next + 1 := by omega
  have n1 := q5.sl
  have n2 : sLen nv = (adjOf p n b).length := by rw [q5.len1, ints_len]
  have hS3 : SidP S2 S3 t vb vs p n S2.next (cntO p n b []) := SidP.step ⟨subST, rowST, by omega, Nat.le_refl _⟩ q4
  simp [e3, st22, n1, n2]
  refine loopP_of (outI S2 t vb vs p n S2.next nv b) (adjOf p n b).length ⟨0, hS3, q5, by simp, by simp, by simp, by simp, by simp, by simp, by omega, by omega⟩ ?_
  rintro k F' S' hn' ⟨i, hP, hnv, r5, r7, r8, r48, r49, r50, hi, hk⟩
  have hn2 : F'.n = 114 := by rw [hn']; simp [hn]
  clear hn' s0 s1 hn
  have hT' := hT.sub hP.sub
  by_cases hil : i < (adjOf p n b).length
  · obtain ⟨m, hm⟩ : ∃ m, (adjOf p n b)[i]? = some m := ⟨_, List.getElem?_eq_getElem hil⟩
    have d1 := loadT_sl (cx := C0) (e := 3) hnv (ints_get hm) ag3
    obtain ⟨hnb, hmn⟩ := (mem_adj hp hbn).1 (List.mem_of_getElem? hm)
    obtain ⟨sv, T, ⟨t1, t2⟩, e4⟩ := (side hp hn64 hT' b m).ex
    have sv1 := t2.sl.sl
    have sv2 : sLen sv = (sideZ p n b m).length := by rw [t2.sl.len1, ints_len]
    have hPT := hP.step t1
    have bsv : bnd sv ≠ S2.next + 1 := by rcases t2.above with h | h <;> have := hP.lt <;> omega
    simp [r5, r7, r8, r48, r49, r50, hil, st22, n1, n2, d1, ag3, ex0, e4, sv1, sv2]
    refine loop_forget [5, 7, 8, 10, 12, 48, 49, 50, 58, 59, 60] fun G hn3 hag => ?_
    simp [r5, r7, r8, r48, r49, r50] at hag
    obtain ⟨g5, g7, g8, g10, g12, g48, g49, g50, g58, g59, g60⟩ := hag
    have hn4 : G.n = 114 := by rw [hn3]; simp [hn2]
    clear hn3
    refine loopP_of (fun k F' S' => inI S2 t vb vs p n S2.next nv sv (cntO p n b ((adjOf p n b).take i)) (adjOf p n b) (sideZ p n b m) b m k G F' S') (sideZ p n b m).length
      ⟨0, hPT, hnv.toSub t1, t2.sl, agree_refl _ _, g60, by simpa using g12, by omega, by omega⟩ ?_
    rintro k2 F2 T2 hn5 ⟨j, hP2, hnv2, hsv2, hag2, f60, f12, hj, hk2⟩
    have hn6 : F2.n = 114 := by rw [hn5, hn4]
    clear hn5
    simp only [agree_cons, agree_nil, g5, g7, g8, g10, g48, g49, g50, g58, g59, and_true] at hag2
    obtain ⟨f5, f7, f8, f10, f48, f49, f50, f58, f59⟩ := hag2
    by_cases hjl : j < (sideZ p n b m).length
    · obtain ⟨x, hx⟩ : ∃ x, (sideZ p n b m)[j]? = some x := ⟨_, List.getElem?_eq_getElem hjl⟩
      have hxn : x < n := by
        have := List.mem_of_getElem? hx
        unfold sideZ at this
        exact List.mem_range.1 (List.mem_filter.1 this).1
      have d2 := loadT_sl (cx := C0) (e := 3) hsv2 (ints_get hx) ag3
      obtain ⟨cur, hcur⟩ : ∃ cur, cur = incs (cntO p n b ((adjOf p n b).take i)) ((sideZ p n b m).take j) := ⟨_, rfl⟩
      have hcl : cur.length = n := by rw [hcur, incs_len, cntO_len]
      have hcs := cntO_small (p := p) (i := i) (j := j) (m := m) hbn hxn
      rw [← hcur] at hcs hP2
      have hrow := rd_row (cap := some n) hP2.row (Nat.le_refl _) (by rw [ints_len, hcl]) hP2.lt (by simp)
      have d3 := loadT_sl (cx := C0) (e := 3) hrow (k := x) (x := .int .i64 (cur.getD x 0 : Nat)) (ints_get (by rw [List.getD_eq_getElem?_getD, List.getElem?_eq_getElem (by omega)]; rfl)) ag3
      have hwc : IntKind.i64.wrap (((cur.getD x 0 : Nat) : Int) + 1) = ((cur.getD x 0 : Nat) : Int) + 1 := IntWalk.i64_in _ (by omega)
      have d4 := wr_row (cap := some n) (x := .int .i64 (((cur.getD x 0 : Nat) : Int) + 1)) hP2.row (by rw [ints_len, hcl]) hxn
      rw [← ints_inc] at d4
      have hwj : IntKind.i64.wrap ((j : Int) + 1) = ((j + 1 : Nat) : Int) := wrap_succ (by
        have := List.length_filter_le (over p n b m) (List.range n)
        have h2 : (sideZ p n b m).length ≤ n := by unfold sideZ; simpa using this
        omega)
      have hput := hP2.put (cnt' := inc cur x)
      have e5 : incs (cntO p n b ((adjOf p n b).take i)) ((sideZ p n b m).take (j + 1)) = inc cur x := by rw [incs_take hx, ← hcur]
      have k1 := hnv2.beside (o := .row (ints (inc cur x)) 0 0 false 3) nb1 (Nat.le_refl _)
      have k2 := hsv2.beside (o := .row (ints (inc cur x)) 0 0 false 3) bsv (Nat.le_refl _)
      have tm := take_mem (m := m) hx
      generalize hc0 : cur.getD x 0 = c0 at d3 hwc d4
      by_cases hmem : m ∈ (sideZ p n b m).take j
      · simp only [hmem, decide_true] at f12
        simp [f5, f7, f8, f10, f12, f58, f59, f60, hjl, st22, sv1, sv2, d2, ag3, hxn, d3, hwc, sz3, d4]
        refine ⟨(sideZ p n b m).length - (j + 1), by omega, j + 1, by rw [e5]; exact hput, k1, k2, ?_, by simp [hwj], ?_, by omega, by omega⟩
        · simp [f5, f7, f8, f10, f48, f49, f50, f58, f59, g5, g7, g8, g10, g48, g49, g50, g58, g59]
        · rw [tm]; simp [hmem]
      · simp only [hmem, decide_false] at f12
        by_cases hxm : x = m
        · subst hxm
          simp [f5, f7, f8, f10, f12, f58, f59, f60, hjl, st22, sv1, sv2, d2, ag3, hxn, d3, hwc, sz3, d4]
          refine ⟨(sideZ p n b x).length - (j + 1), by omega, j + 1, by rw [e5]; exact hput, k1, k2, ?_, by simp [hwj], ?_, by omega, by omega⟩
          · simp [f5, f7, f8, f10, f48, f49, f50, f58, f59, g5, g7, g8, g10, g48, g49, g50, g58, g59]
          · rw [tm]; simp
        · have hxm' : ¬ ((x : Int) = (m : Int)) := by omega
          simp [f5, f7, f8, f10, f12, f58, f59, f60, hjl, st22, sv1, sv2, d2, ag3, hxn, d3, hwc, sz3, d4, hxm']
          refine ⟨(sideZ p n b m).length - (j + 1), by omega, j + 1, by rw [e5]; exact hput, k1, k2, ?_, by simp [hwj], ?_, by omega, by omega⟩
          · simp [f5, f7, f8, f10, f48, f49, f50, f58, f59, g5, g7, g8, g10, g48, g49, g50, g58, g59]
          · rw [tm]; simp [hmem, hxm]
    · have hjs : j = (sideZ p n b m).length := by omega
      have hms : m ∈ sideZ p n b m := List.mem_filter.2 ⟨List.mem_range.2 hmn, (over_iff hbn hmn m).2 (nx_nb hp hnb)⟩
      rw [hjs, List.take_length] at f12 hP2
      simp only [hms, decide_true] at f12
      have hcn : incs (cntO p n b ((adjOf p n b).take i)) (sideZ p n b m) = cntO p n b ((adjOf p n b).take (i + 1)) := by
        rw [List.take_succ_eq_append_getElem hil, (List.getElem?_eq_some_iff.1 hm).2, cntO_snoc]
      rw [hcn] at hP2
      obtain ⟨mv, T3, ⟨o1, o2, _, _⟩, e6⟩ := (neighbours hn64 (hT.sub hP2.sub) m).ex
      have hadm : adjZ p n m = adjOf p n m := by
        unfold adjZ
        rw [if_pos ⟨by omega, by omega⟩]; simp
      rw [hadm] at o2
      have mv1 := o2.sl
      have mv2 : sLen mv = (adjOf p n m).length := by rw [o2.len1, ints_len]
      simp [f5, f7, f8, f10, f12, f48, f49, f50, f58, f59, f60, hjl, ex0, e6, st22, mv1, mv2]
      refine loop_forget [5, 7, 8, 10, 12, 15, 48, 49, 50, 79, 80, 81] fun H hn7 hag => ?_
      simp [f5, f7, f8, f10, f12, f48, f49, f50] at hag
      obtain ⟨h5, h7, h8, h10, h12, h15, h48, h49, h50, h79, h80, h81⟩ := hag
      have hn8 : H.n = 114 := by rw [hn7]; simp [hn6]
      clear hn7
      refine loopP_of (fun k F' T => boI T3 (adjOf p n m) b k H F' T) (adjOf p n m).length ⟨0, rfl, agree_refl _ _, h81, by simpa using h15, by omega, by omega⟩ ?_
      rintro k3 F3 T4 hn9 ⟨j3, rfl, hag3, w81, w15, hj3, hk3⟩
      simp only [agree_cons, agree_nil, h5, h7, h8, h10, h12, h48, h49, h50, h79, h80, and_true] at hag3
      obtain ⟨w5, w7, w8, w10, w12, w48, w49, w50, w79, w80⟩ := hag3
      by_cases hjl3 : j3 < (adjOf p n m).length
      · obtain ⟨x, hx⟩ : ∃ x, (adjOf p n m)[j3]? = some x := ⟨_, List.getElem?_eq_getElem hjl3⟩
        have d2 := loadT_sl (cx := C0) (e := 3) o2 (ints_get hx) ag3
        have hwj : IntKind.i64.wrap ((j3 : Int) + 1) = ((j3 + 1 : Nat) : Int) := wrap_succ (by have := adj_len (p := p) n m; omega)
        have tm := take_mem (m := b) hx
        by_cases hmem : b ∈ (adjOf p n m).take j3
        · simp only [hmem, decide_true] at w15
          simp [w5, w7, w8, w10, w12, w15, w79, w80, w81, hjl3, st22, mv1, mv2, d2, ag3]
          refine ⟨(adjOf p n m).length - (j3 + 1), by omega, j3 + 1, rfl, ?_, by simp [hwj], ?_, by omega, by omega⟩
          · simp [w5, w7, w8, w10, w12, w48, w49, w50, w79, w80, h5, h7, h8, h10, h12, h48, h49, h50, h79, h80]
          · rw [tm]; simp [hmem]
        · simp only [hmem, decide_false] at w15
          by_cases hxm : x = b
          · subst hxm
            simp [w5, w7, w8, w10, w12, w15, w79, w80, w81, hjl3, st22, mv1, mv2, d2, ag3]
            refine ⟨(adjOf p n m).length - (j3 + 1), by omega, j3 + 1, rfl, ?_, by simp [hwj], ?_, by omega, by omega⟩
            · simp [w5, w7, w8, w10, w12, w48, w49, w50, w79, w80, h5, h7, h8, h10, h12, h48, h49, h50, h79, h80]
            · rw [tm]; simp
          · have hxm' : ¬ ((x : Int) = (b : Int)) := by omega
            simp [w5, w7, w8, w10, w12, w15, w79, w80, w81, hjl3, st22, mv1, mv2, d2, ag3, hxm']
            refine ⟨(adjOf p n m).length - (j3 + 1), by omega, j3 + 1, rfl, ?_, by simp [hwj], ?_, by omega, by omega⟩
            · simp [w5, w7, w8, w10, w12, w48, w49, w50, w79, w80, h5, h7, h8, h10, h12, h48, h49, h50, h79, h80]
            · rw [tm]; simp [hmem, hxm]
      · have hjs3 : j3 = (adjOf p n m).length := by omega
        have hbm : b ∈ adjOf p n m := (mem_adj hp hmn).2 ⟨hnb.symm, hbn⟩
        rw [hjs3, List.take_length] at w15
        simp only [hbm, decide_true] at w15
        have hwi : IntKind.i64.wrap ((i : Int) + 1) = ((i + 1 : Nat) : Int) := wrap_succ (by have := adj_len (p := p) n b; omega)
        simp [w5, w7, w8, w10, w12, w15, w48, w49, w50, w79, w80, w81, hjl3]
        exact ⟨(adjOf p n b).length - (i + 1), by omega, i + 1, hP2.step o1, hnv2.toSub o1, by simp [w5], by simp [w7], by simp [w8], by simp [w48], by simp [w49], by simp [hwi], by omega, by omega⟩
  · have hii : i = (adjOf p n b).length := by omega
    rw [hii, List.take_length] at hP
    have hrow := rd_row (cap := some n) hP.row (Nat.le_refl _) (by rw [ints_len, cntO_len]) hP.lt (by simp)
    simp [r5, r7, r8, r48, r49, r50, hil, st22]
    refine loopP_of (endI S' p t n S2.next b) n ⟨0, rfl, by simp [r5], by simp [r7], by simp [r8], by simp, by simp, by omega, by omega⟩ ?_
    rintro k4 F4 T5 hn9 ⟨x, rfl, w5, w7, w99, w100, w101, hx, hk4⟩
    by_cases hxn : x < n
    · have d2 := loadT_sl (cx := C0) (e := 3) hrow (k := x) (x := .int .i64 (1 : Nat)) (ints_get (by
        have h1 := cnt_one hp hbn hxn
        rw [List.getD_eq_getElem?_getD, List.getElem?_eq_getElem (by rw [cntO_len]; exact hxn)] at h1
        rw [List.getElem?_eq_getElem (by rw [cntO_len]; exact hxn)]
        simp at h1; rw [h1])) ag3
      have hwx : IntKind.i64.wrap ((x : Int) + 1) = ((x + 1 : Nat) : Int) := wrap_succ (by omega)
      simp [w5, w7, w99, w100, w101, hxn, st22, d2, ag3]
      exact ⟨n - (x + 1), by omega, x + 1, rfl, by simp [w5], by simp [w7], by simp [w99], by simp [w100], by simp [hwx], by omega, by omega⟩
    · obtain ⟨ev, T6, ⟨z1, z2⟩, e7⟩ := (side hp hn64 (hT.sub hP.sub) b b).ex
      have hempty : sideZ p n b b = [] := by
        unfold sideZ
        rw [List.filter_eq_nil_iff]
        intro y hy
        rw [over_iff hbn (List.mem_range.1 hy)]
        intro hh
        by_cases hby : b = y
        · subst hby; rw [nx_none hp] at hh; cases hh
        · obtain ⟨z, h1, h2, _⟩ := nx_some hp hby
          rw [h1] at hh; cases hh
          exact nb_ne hp h2 rfl
      rw [hempty] at z2
      have ev1 := z2.sl.sl
      have ev2 : sLen ev = 0 := by rw [z2.sl.len1]; rfl
      simp [w5, w7, w99, w100, w101, hxn, ex0, e7, st22, ev1, ev2]
end Go.Proofs.Ytpjebmdeaieniaa.tree
