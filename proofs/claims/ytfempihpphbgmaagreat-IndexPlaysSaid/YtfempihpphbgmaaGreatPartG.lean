/-
  An index copied: the same events, the same entries in rows of their own.
-/
import Derived.Test.YtfempihpphbgmaaGreatPartE
import Derived.Test.YtfempihpphbgmaaGreatPartC
import Derived.Test.YtfempihpphbgmaaGreatPartF
import Derived.Test.YtfempihpphbgmaaGreatAmHanded
import Derived.Test.YtfempihpphbgmaaGreatAmKept
namespace Go.Proofs.YtfempihpphbgmaaGreat.idx
open Go Go.Am Go.Proofs.YtfempihpphbgmaaGreat.mod
set_option linter.unusedVariables false
set_option linter.unusedSimpArgs false
attribute [local simp] zp Dy zq
theorem o_fn23 : C1.fns.get 23 = some Tryz.f23 := by kernel_rfl
theorem o_ok23 : codeOk C1 Tryz.f23.ntmps (Tryz.f23.body.getD .skip) = true := by kernel_rfl
theorem o_nt23 : Tryz.f23.ntmps = 34 := by kernel_rfl
theorem o_fn53 : C1.fns.get 53 = some Tryz.f53 := by kernel_rfl
theorem o_ok53 : codeOk C1 Tryz.f53.ntmps (Tryz.f53.body.getD .skip) = true := by kernel_rfl
theorem o_nt53 : Tryz.f53.ntmps = 8 := by kernel_rfl
theorem oc_un78 : aZ C1 78 = some (.slice 80) := by kernel_rfl
theorem o_mu71 : aZ C1 71 = some (.map 9 78) := by kernel_rfl
theorem clone53 {S : AS} {v : AV} {L : List ef} (h : Sl S v 5 (L.flatMap bB)) (hn : isNil v = false) (h0 : L ≠ []) (hl : L.length ≤ 2097152) :
  ai C1 53 [v] S fun r T => Sub S T ∧ ∃ id g low, r = .slice id g 0 L.length (L.length * 5) 5 none ∧ S.next ≤ id ∧ id < T.next ∧ low ≤ g ∧ T.h.get id = some (.row (L.flatMap bB) low g false 80) := by
 obtain ⟨S0, hS0⟩ : ∃ S0 : AS, S0 = ⟨S.h.set S.next (.row [] 0 0 false 80), S.next + 1⟩ := ⟨_, rfl⟩;have cr : Sub S S0 := by rw [hS0]; exact cS
 have n0 : S0.next = S.next + 1 := by rw [hS0]
 have g0 : S0.h.get S.next = some (.row [] 0 0 false 80) := by rw [hS0]; exact aa _ _ _
 have hlen := h.aO bF (by omega)
 obtain ⟨v', T, a1, a2, a3, _, _, a6, _⟩ := append_empty (cx := C1) (t := 78) (u := 78) (ts := []) (p := (80, 5, 48)) z9 oc_un78 rfl g0 (by omega) (h.toSub cr) (by rw [hlen]; exact fits48 (by omega))
 have hL : 0 < L.length := List.length_pos_iff.2 h0;have uf := a6 (by omega)
 refine cv (EI _) (pr1 _ rfl) o_fn53 rfl o_ok53 (by simp) fun F hnn s0 => ?_
 rw [o_nt53] at hnn;have u1 := h.sl;have hen := eq_nil (cx := C1) (t := 78) (p := (80, 5, 48)) (v := v) (c := true) z9 u1;have hfr : ∀ F : Fr, aI C1 F S.next (.buildSlice 78 0 #[]) = some (.slice S.next 0 0 0 0 5 (some 0), .row [] 0 0 false 80) := fun F => tF z9
 have np := uf.sl.np;simp [s0, hen, hn, hfr, ← hS0, a1, np];refine ⟨cr.trans a3, ?_⟩;rcases uf with ⟨_, e⟩ | ⟨id, g, low, n, rfl, q1, q2, q3, q4, q5⟩
 ·have := my bF L
  rw [e] at this;simp at this; omega
 ·have df : n = L.length := by
   have := my bF L;rw [q5] at this;simp only at this;omega
  subst df;exact ⟨id, g, rfl, by omega, q2, low, q4, q3⟩
theorem zip_kv : ∀ (es : List aX) (l : List Nm), es.map (fun e => (e.key, e.val)) = (l.map wW).map (fun p => (AV.str p.1, p.2)) → ∀ z, z ∈ es.zip l → z.1.key = .str z.2.name ∧ z.1.val = z.2.v ∧ z.2 ∈ l
 | [], _, _, z, hz => by simp at hz
 | _ :: _, [], _, z, hz => by simp at hz
 | e :: es, m :: l, h, z, hz => by
  simp only [List.map_cons, List.cons.injEq, Prod.mk.injEq, wW] at h;rw [List.zip_cons_cons, List.mem_cons] at hz;rcases hz with rfl | hz
  ·exact ⟨h.1.1, h.1.2, List.mem_cons_self ..⟩
  ·obtain ⟨a, b, c⟩ := zip_kv es l h.2 z hz
   exact ⟨a, b, List.mem_cons_of_mem _ c⟩
theorem yM {κ : Type} [DecidableEq κ] {k : κ} {v : AV} : ∀ (l : List (κ × AV)), (∀ a, a ∈ l → a.1 ≠ k) → oY l k v = l ++ [(k, v)]
 | [], _ => rfl
 | (a, w) :: l, h => by
  have h1 := h (a, w) (List.mem_cons_self ..);have ih := yM (v := v) l fun a ha => h a (List.mem_cons_of_mem _ ha)
  have h2 : ¬ k = a := fun e => h1 e.symm
  simp [oY, h2, ih]
theorem zB {ZL : List (aX × Nm)} {es : List aX} {l : List Nm} (h : ZL.Perm (es.zip l)) (hl : es.length = l.length) {Ms : List Nm} (hm : Ms.map (fun m => (m.name, m.L)) = ZL.map (fun z => (z.2.name, z.2.L))) :
  (Ms.map (fun m => (m.name, m.L))).Perm (l.map fun m => (m.name, m.L)) := by
 rw [hm];have h1 := h.map fun z => (z.2.name, z.2.L)
 refine h1.trans ?_;have : (es.zip l).map (fun z => (z.2.name, z.2.L)) = ((es.zip l).map Prod.snd).map fun m => (m.name, m.L) := by rw [List.map_map]; rfl
 rw [this, List.map_snd_zip (by omega)]
def copyH (S : AS) (X : XI) (es es2 : List aX) (clock mE it : Nat) (k : Nat) (F' : Fr) (S' : AS) : Prop :=
 ∃ (ZL ZR : List (aX × Nm)) (Ms : List Nm), (ZL ++ ZR).Perm (es2.zip X.fC) ∧ Ms.map (fun m => (m.name, m.L)) = ZL.map (fun z => (z.2.name, z.2.L)) ∧
  S'.h.get it = some (.dS (.iter (some X.mn) mE (ZL.map (·.1.born)).reverse mE)) ∧ S'.h.get S.next = some (.map es clock) ∧ S'.h.get (S.next + 2) = some (.row [.map S.next, .map (S.next + 1)] 0 0 false 73) ∧
  DH S' (S.next + 1) (fun s : List Nat => AV.str s) (Ms.map wW) ∧ (∀ m, m ∈ Ms → S.next + 4 ≤ m.id ∧ m.id < S'.next ∧ ∃ low, low ≤ m.g ∧ S'.h.get m.id = some (.row (m.L.flatMap bB) low m.g false 80)) ∧
  Ms.Pairwise (fun a b => a.id ≠ b.id) ∧ Sub S S' ∧ S.next + 4 ≤ S'.next ∧ sl F' 3 = .ptr (S.next + 2) 0 0 2 ∧ sl F' 20 = .ptr it 0 0 0 ∧ F'.n = 34 ∧ F'.ds = [] ∧ k = ZR.length
set_option maxRecDepth 20000 in
set_option maxHeartbeats 2000000 in
theorem copy23 {S : AS} {X : XI} {st : Nat → Option nf} {K : Nat} (h : Live S X st K) (hK : K ≤ 1048576) :
  cQ C1 23 [.ptr X.x 0 0 2] S fun r T => ∃ X', r = .ptr X'.x 0 0 2 ∧ Live T X' st K ∧ Sub S T ∧ (∀ id, X'.wf id → S.next ≤ id) ∧ (∀ id, X'.fm id → (X.fm id ∧ ¬ X.wf id) ∨ S.next ≤ id) ∧ S.next ≤ X'.x := by
 obtain ⟨es, clock, m1, m2, m3⟩ := h.ix.em;obtain ⟨es2, mE, n1, n2, n3⟩ := h.ix.nm;have lx := h.ix.lx;have lmn := h.ix.lmn;have Bl := h.ix.Bl;have hx := h.ix.x;refine sQ (EI _) (pr1 _ rfl) o_fn23 rfl o_ok23 (by simp) fun F hn hd hs => ?_
 rw [o_nt23] at hn;have s0 := hs 0;clear hs;simp only [List.getElem?_cons_zero, List.getElem?_cons_succ, Option.getD_some] at s0;have e27 := eR (fun Q => jo h.ix (Q := Q))
 have e52 := fun Q => eR (fun Q => iU (Q := Q) get52 (EI 52) (q52_of m1) rfl) Q
 obtain ⟨S3, hS3⟩ : ∃ S3 : AS, S3 = ⟨((S.h.set S.next (.map es clock)).set (S.next + 1) (.map [] 0)).set (S.next + 2) (.row [.map S.next, .map (S.next + 1)] 0 0 false 73), S.next + 1 + 2⟩ := ⟨_, rfl⟩;have n3' : S3.next = S.next + 3 := by rw [hS3]
 have o3 : ∀ id, id < S.next → S3.h.get id = S.h.get id := fun id bY => by rw [hS3]; exact ((ae _ _ (by omega)).trans (ae _ _ (by omega))).trans (ae _ _ (by omega))
 have c0 : S3.h.get S.next = some (.map es clock) := by rw [hS3]; exact ((ae _ _ (by omega)).trans (ae _ _ (by omega))).trans (aa _ _ _)
 have c1 : S3.h.get (S.next + 1) = some (.map [] 0) := by rw [hS3]; exact (ae _ _ (by omega)).trans (aa _ _ _)
 have c2 : S3.h.get (S.next + 2) = some (.row [.map S.next, .map (S.next + 1)] 0 0 false 73) := by rw [hS3]; exact aa _ _ _
 have x3 := (o3 _ lx).trans hx;have er := vd (cx := C1) (S := S3) o_mu71 ((o3 _ lmn).trans n1);simp [s0, nS, e27, hx, e52, aj lx, ← hS3, x3, er];clear e27 e52 er;have hzl : es2.length = X.fC.length := by have := congrArg List.length n2; simpa using this
 have hz1 : (es2.zip X.fC).map (·.1) = es2 := by rw [List.map_fst_zip]; omega
 refine qU (copyH S X es es2 clock mE S3.next) es2.length ⟨[], es2.zip X.fC, [], List.Perm.refl _, rfl, aa _ _ _, (ae _ _ (by omega)).trans c0, (ae _ _ (by omega)).trans c2, ⟨[], 0, (ae _ _ (by omega)).trans c1, rfl, ⟨fun e he => (by cases he), List.Pairwise.nil⟩⟩,
  fun m hm => (by cases hm), List.Pairwise.nil, ⟨fun id bY => (ae _ _ (by omega)).trans (o3 id bY), by show S.next ≤ Nat.succ S3.next; omega⟩, by show S.next + 4 ≤ Nat.succ S3.next; omega, by simp, by simp, by simp [hn], by simp [eB, hd], by rw [List.length_zip]; omega⟩ ?_
 clear s0 hn hd
 rintro k F' S' hF' ⟨ZL, ZR, Ms, hp, hms, hit, hme, hxx, hmp, fw, hids, cr, hnx, t3, t20, hn, vS, hk⟩
 clear hF';have hmn' : S'.h.get X.mn = some (.map es2 mE) := (cr.h _ lmn).trans n1;obtain ⟨bO, gS⟩ := tw (S := S') (id := S3.next) (m := X.mn) (seen := (ZL.map (·.1.born)).reverse) n3
 have hnv := yI (l := 0) hit hmn';simp [t20, hnv, yr];refine ⟨bO, fun v T hy => ?_⟩
 have pU : (ZL.map (·.1) ++ ZR.map (·.1)).Perm es2 := by
  have := hp.map (·.1)
  rwa [List.map_append, hz1] at this
 have hpw : (ZL.map (·.1) ++ ZR.map (·.1)).Pairwise fun a b => a.born ≠ b.born := (pU.pairwise_iff (fun h => Ne.symm h)).2 n3.2
 rcases gS _ hy with ⟨hye, hend⟩ | ⟨e, he, hes, hye⟩
 ·cases hye
  have hR : ZR = [] := by
   cases ZR with
   | nil => rfl
   | cons r R =>
    exfalso
    have hr := hend r.1 (pU.mem_iff.1 (by simp))
    simp only [List.mem_reverse, List.mem_map] at hr;obtain ⟨z, hz, hzr⟩ := hr;exact (List.pairwise_append.1 hpw).2.2 z.1 (List.mem_map.2 ⟨z, hz, rfl⟩) r.1 (by simp) hzr
  subst hR;simp [t3];show mu C1 Tryz.f23 _ _ (up (up F' _ _) _ _).ds S';rw [eB, eB, vS];have sx : jD C1 (up (up (up (up F' (some 21) (.tuple [.bool false])) (some 22) (.bool false)) (some 33) (.ptr (S.next + 2) 0 0 2)) (some 2) (.ptr (S.next + 2) 0 0 2)) S' Tryz.f23.results.toList = some [.ptr (S.next + 2) 0 0 2] := by
   rw [show Tryz.f23.results.toList = [.tmp 2] from by kernel_rfl, lg, lh]
   simp
  show uj (Option.map _ _) _ _;rw [List.append_nil] at hp;have hpm := zB hp hzl hms;have dj : ∀ m, m ∈ Ms → ∃ m0, m0 ∈ X.fC ∧ m0.name = m.name ∧ m0.L = m.L := by
   intro m hm;have := hpm.mem_iff.1 (List.mem_map.2 ⟨m, hm, rfl⟩);obtain ⟨m0, h0, e0⟩ := List.mem_map.1 this;simp only [Prod.mk.injEq] at e0;exact ⟨m0, h0, e0⟩
  have hmem' : ∀ m0, m0 ∈ X.fC → ∃ m, m ∈ Ms ∧ m.name = m0.name ∧ m.L = m0.L := by
   intro m0 CH;have := hpm.mem_iff.2 (List.mem_map.2 ⟨m0, CH, rfl⟩);obtain ⟨m, h0, e0⟩ := List.mem_map.1 this;simp only [Prod.mk.injEq] at e0;exact ⟨m, h0, e0⟩
  have hnmk : Ms.Pairwise fun a b => a.name ≠ b.name := by
   have h1 : (X.fC.map fun m => (m.name, m.L)).Pairwise fun a b => a.1 ≠ b.1 := List.pairwise_map.2 h.ix.tv
   have h2 := (hpm.pairwise_iff (R := fun a b => a.1 ≠ b.1) (fun h => Ne.symm h)).2 h1
   exact (List.pairwise_map (f := fun m : Nm => (m.name, m.L)) (R := fun a b => a.1 ≠ b.1)).1 h2
  rw [sx];refine ⟨rfl, ⟨S.next + 2, S.next, S.next + 1, X.eb, Ms, X.k⟩, rfl, ⟨⟨hxx, by show S.next + 2 < S'.next; omega, by show S.next < S'.next; omega, by show S.next + 1 < S'.next; omega, ⟨es, clock, hme, m2, m3⟩, hmp, fun m hm => (fw m hm).2, fun e he => (h.ix.kK e he).sub cr, by show S.next + 2 ≠ S.next; omega, by show S.next + 2 ≠ S.next + 1; omega, by show S.next ≠ S.next + 1; omega, fun m hm => ?_, fun e he => ?_, hids, h.ix.evk, hnmk, fun m hm => ?_, fun m hm e => ?_, fun s e hp => ?_, fun m hm => ?_, h.ix.evl⟩, fun m hm => ?_, h.may, h.oV, h.k⟩, cr, fun id bY => ?_, fun id bY => ?_, by show S.next ≤ S.next + 2; omega⟩
  ·have := (fw m hm).1
   exact ⟨by show m.id ≠ S.next + 2; omega, by show m.id ≠ S.next; omega, by show m.id ≠ S.next + 1; omega⟩
  ·have := (h.ix.kK e he).sl.old
   refine ⟨by show cJ e.u ≠ S.next + 2 + 1; omega, by show cJ e.u ≠ S.next + 1; omega, by show cJ e.u ≠ S.next + 1 + 1; omega, fun m hm => ?_⟩
   have := (fw m hm).1;omega
  ·obtain ⟨m0, a1, a2, a3⟩ := dj m hm
   rw [← a3]; exact h.ix.yw m0 a1
  ·obtain ⟨m0, a1, a2, a3⟩ := dj m hm
   rw [← a3, ← a2]; exact h.ix.mem m0 a1 e
  ·obtain ⟨m0, a1, a2⟩ := h.ix.all s e hp
   obtain ⟨m, b1, b2, _⟩ := hmem' m0 a1;exact ⟨m, b1, b2.trans a2⟩
  ·obtain ⟨m0, a1, a2, a3⟩ := dj m hm
   rw [← a3]; exact h.ix.len m0 a1
  ·obtain ⟨m0, a1, a2, a3⟩ := dj m hm
   rw [← a3]; exact h.ne m0 a1
  ·rcases bY with e | e | ⟨m, hm, e⟩
   ·have e : id = S.next := e
    omega
   ·have e : id = S.next + 1 := e
    omega
   ·have := (fw m hm).1; omega
  ·rcases bY with e | e | e | ⟨m, hm, e⟩ | ⟨e, he, hb⟩
   ·have e : id = S.next + 2 := e
    exact .inr (by omega)
   ·have e : id = S.next := e
    exact .inr (by omega)
   ·have e : id = S.next + 1 := e
    exact .inr (by omega)
   ·have := (fw m hm).1
    exact .inr (by omega)
   ·refine .inl ⟨.inr (.inr (.inr (.inr ⟨e, he, hb⟩))), fun hw => ?_⟩
    obtain ⟨_, a2, a3, a4⟩ := h.ix.aid e he;rcases hw with e1 | e1 | ⟨m, hm, e1⟩
    ·omega
    ·omega
    ·have := a4 m hm; omega
 ·unfold Am.tj at hye
  cases hye
  simp [t20];obtain ⟨z, hz, hze⟩ := List.mem_map.1 (List.map_append ▸ pU.mem_iff.2 he : e ∈ (ZL ++ ZR).map (·.1))
  have hzR : z ∈ ZR := by
   rcases List.mem_append.1 hz with hz | hz
   ·exact absurd (List.mem_reverse.2 (List.mem_map.2 ⟨z, hz, by rw [hze]⟩)) hes
   ·exact hz
  obtain ⟨ez, m⟩ := z;replace hze : ez = e := hze;subst hze;obtain ⟨R1, R2, rfl⟩ := List.append_of_mem hzR;obtain ⟨k1, k2, hm⟩ := zip_kv es2 X.fC n2 _ (hp.mem_iff.1 hz);simp only at k1 k2 hm;obtain ⟨S2, lU⟩ : ∃ S2 : AS, S2 = ⟨S'.h.set S3.next (.dS (.iter (some X.mn) mE (ez.born :: (ZL.map (·.1.born)).reverse) mE)), S'.next⟩ := ⟨_, rfl⟩
  have j2 : S2.next = S'.next := by rw [lU]
  have i2 : S2.h.get S3.next = some (.dS (.iter (some X.mn) mE (ez.born :: (ZL.map (·.1.born)).reverse) mE)) := by rw [lU]; exact aa _ _ _
  have o2 : ∀ id, id ≠ S3.next → S2.h.get id = S'.h.get id := fun id h => by rw [lU]; exact ae _ _ h
  have bS2 := lU.symm;clear lU;have kD : Sub S S2 := ⟨fun id bY => (o2 id (by omega)).trans (cr.h id bY), by have := cr.next; omega⟩
  have hev := v9 (l := 0) i2 ((o2 X.mn (by omega)).trans hmn') n3.2 he rfl
  rw [k1, k2] at hev;have hlen := h.ix.len m hm;have hkk := h.k;have uD := (h.ix.sl hm).toSub kD;obtain ⟨r', T, ⟨hT, id, g, low, rfl, q1, q2, q3, q4⟩, e53⟩ := (clone53 uD rfl (h.ne m hm) (by omega)).ex
  have hnT := hT.next;have gx2 := (o2 (S.next + 2) (by omega)).trans hxx
  have gxT := (hT.h (S.next + 2) (by omega)).trans gx2
  have hmpT : DH T (S.next + 1) (fun s : List Nat => AV.str s) (Ms.map wW) := (hmp.bR (o2 (S.next + 1) (by omega))).bR (hT.h _ (by omega))
  obtain ⟨T2, u1, u2, u3, u4⟩ := jO (cx := C1) (t := 71) (v := (⟨m.name, id, g, m.L⟩ : Nm).v) (k := m.name) pO pR hmpT;have hfresh : ∀ a, a ∈ Ms → a.name ≠ m.name := by
   intro a ha hn;have hzn : (ZL ++ (ez, m) :: R2).Pairwise fun a b => a.2.name ≠ b.2.name := by
    have h1 : (es2.zip X.fC).Pairwise fun a b => a.2.name ≠ b.2.name := by
     have : ((es2.zip X.fC).map Prod.snd).Pairwise fun a b => a.name ≠ b.name := by rw [List.map_snd_zip (by omega)]; exact h.ix.tv
     exact (List.pairwise_map (f := Prod.snd) (R := fun a b : Nm => a.name ≠ b.name)).1 this
    have h2 := (hp.pairwise_iff (R := fun a b => a.2.name ≠ b.2.name) (fun h => Ne.symm h)).2 h1
    refine h2.sublist (List.Sublist.append_left ?_ _);exact List.sublist_append_right R1 _
   have h3 : (a.name, a.L) ∈ ZL.map (fun z => (z.2.name, z.2.L)) := by rw [← hms]; exact List.mem_map.2 ⟨a, ha, rfl⟩
   obtain ⟨z, hz, e0⟩ := List.mem_map.1 h3;simp only [Prod.mk.injEq] at e0;exact (List.pairwise_append.1 hzn).2.2 z hz _ (List.mem_cons_self ..) (e0.1.trans hn)
  rw [yM _ (by
   intro a ha;obtain ⟨b, hb, rfl⟩ := List.mem_map.1 ha;exact hfresh b hb)] at u2
  simp only [Nm.v] at hev e53 u1;simp [t3, t20, bS2, hev];refine aA [.p, .p, .p, .r 0 1, .p, .p, .e [], .e []] (n := 34) (by kernel_rfl) (by simp [hn]) ?_
  have gu : S.next + 2 < S2.next := by omega
  have kn : S.next + 2 < T.next := by omega
  have nu : T2.next = T.next := u4;simp [t3, t20, hn, nS, gx2, gxT, aj gu, aj kn, e53, u1];refine ⟨(R1 ++ R2).length, by rw [hk]; simp, ZL ++ [(ez, m)], R1 ++ R2, Ms ++ [⟨m.name, id, g, m.L⟩], ?_, by rw [List.map_append, List.map_append, hms]; rfl, ?_, ?_, ?_, by simpa [wW, Nm.v] using u2, ?_, ?_, ⟨fun i hi => ?_, ?_⟩, ?_, by simp [t3], by simp [t20], by simp [hn], by simp [eB, vS], rfl⟩
  ·refine List.Perm.trans ?_ hp
   simp only [List.append_assoc];exact List.Perm.append_left ZL (by show ((ez, m) :: (R1 ++ R2)).Perm _; exact List.perm_middle.symm)
  ·rw [u3 _ (by omega), hT.h _ (by omega), i2]
   simp
  ·rw [u3 _ (by omega), hT.h _ (by omega), o2 _ (by omega)]; exact hme
  ·rw [u3 _ (by omega)]; exact gxT
  ·intro a ha
   rcases List.mem_append.1 ha with ha | ha
   ·obtain ⟨r1, r2, lw, r3, r4⟩ := fw a ha
    exact ⟨r1, by omega, lw, r3, by rw [u3 _ (by omega), hT.h _ (by omega), o2 _ (by omega)]; exact r4⟩
   ·simp only [List.mem_singleton] at ha
    subst ha;exact ⟨by show S.next + 4 ≤ id; omega, by show id < T2.next; omega, low, q3, by show T2.h.get id = _; rw [u3 _ (by omega)]; exact q4⟩
  ·rw [List.pairwise_append]
   refine ⟨hids, by simp, fun a ha b hb => ?_⟩
   simp only [List.mem_singleton] at hb;subst hb;have := (fw a ha).2.1;show a.id ≠ id;omega
  ·rw [u3 _ (by omega), hT.h _ (by have := kD.next; omega)]; exact kD.h i hi
  ·have := kD.next; omega
  ·omega
def Rel (st : Nat → Option nf) (ns : List Nat) (es : List kN) : Prop := ∀ n v, st n = some v ↔ ∃ e, (n, e) ∈ ns.zip es ∧ (e.key, e.ar) = v
theorem mq {α β : Type} : ∀ {l : List α} {m : List β}, l.length = m.length → ∀ a, a ∈ l ↔ ∃ b, (a, b) ∈ l.zip m
 | [], [], _, a => by simp
 | [], _ :: _, h, a => by simp at h
 | _ :: _, [], h, a => by simp at h
 | x :: l, y :: m, h, a => by
  have ih := mq (l := l) (m := m) (by simpa using h) a
  rw [List.zip_cons_cons, List.mem_cons, ih]
  constructor
  ·rintro (rfl | ⟨b, hb⟩)
   ·exact ⟨y, by simp⟩
   ·exact ⟨b, by simp [hb]⟩
  ·rintro ⟨b, hb⟩
   rcases List.mem_cons.1 hb with e | hb
   ·cases e; exact .inl rfl
   ·exact .inr ⟨b, hb⟩
section
variable {st : Nat → Option nf} {ns : List Nat} {es : List kN} {n : Nat}
theorem Rel.is (h : Rel st ns es) (hl : ns.length = es.length) (n : Nat) : (st n).isSome = true ↔ n ∈ ns := by
 rw [mq hl n]
 cases hs : st n with
 | none => exact ⟨fun h => (by cases h), fun ⟨e, he⟩ => by have := (h n _).2 ⟨e, he, rfl⟩; rw [hs] at this; cases this⟩
 | some v => exact ⟨fun _ => let ⟨e, he, _⟩ := (h n v).1 hs; ⟨e, he⟩, fun _ => rfl⟩
theorem rU (hr : ns.Pairwise (· < ·)) : n ∈ ns ↔ ns[place ns n]? = some n := by
 constructor
 ·intro hm
  refine Classical.byContradiction fun lI => ?_
  have h1 := BV hr rfl lI;have h2 := List.pairwise_append.1 h1;have : n ∈ ns.take (place ns n) ∨ n ∈ ns.drop (place ns n) := by
   rw [← List.mem_append, List.take_append_drop]; exact hm
  rcases this with h | h
  ·have := h2.2.2 n h n (List.mem_cons_self ..); omega
  ·have := (List.pairwise_cons.1 h2.2.1).1 n h; omega
 ·intro h; exact List.mem_of_getElem? h
theorem zip_cut {α β : Type} (l : List α) (m : List β) (i : Nat) (hl : l.length = m.length) : l.zip m = (l.take i).zip (m.take i) ++ (l.drop i).zip (m.drop i) := by
 conv => lhs; rw [← List.take_append_drop i l, ← List.take_append_drop i m]
 exact List.zip_append (by simp [hl])
theorem Rel.add (h : Rel st ns es) (hl : ns.length = es.length) (i : Nat) {e : kN} (pW : st n = none) : Rel (uT st n (some (e.key, e.ar))) (ns.take i ++ n :: ns.drop i) (es.take i ++ e :: es.drop i) := by
 intro m v;have hz : (ns.take i ++ n :: ns.drop i).zip (es.take i ++ e :: es.drop i) = (ns.take i).zip (es.take i) ++ (n, e) :: (ns.drop i).zip (es.drop i) := by
  rw [List.zip_append (by simp [hl]), List.zip_cons_cons]
 rw [hz];unfold uT;have dj : ∀ x, x ∈ (ns.take i).zip (es.take i) ++ (n, e) :: (ns.drop i).zip (es.drop i) ↔ x = (n, e) ∨ x ∈ ns.zip es := by
  intro x;rw [zip_cut ns es i hl];simp only [List.mem_append, List.mem_cons]
  constructor
  ·rintro (h | h | h)
   ·exact .inr (.inl h)
   ·exact .inl h
   ·exact .inr (.inr h)
  ·rintro (h | h | h)
   ·exact .inr (.inl h)
   ·exact .inl h
   ·exact .inr (.inr h)
 by_cases hm : m = n
 ·subst hm
  rw [if_pos rfl]
  constructor
  ·intro hv
   cases hv
   exact ⟨e, (dj _).2 (.inl rfl), rfl⟩
  ·rintro ⟨e', he, hv⟩
   rcases (dj _).1 he with h1 | h1
   ·cases h1; rw [← hv]
   ·have := (h m _).2 ⟨e', h1, rfl⟩
    rw [pW] at this; cases this
 ·rw [if_neg hm, h m v]
  constructor
  ·rintro ⟨e', he, hv⟩
   exact ⟨e', (dj _).2 (.inr he), hv⟩
  ·rintro ⟨e', he, hv⟩
   rcases (dj _).1 he with h1 | h1
   ·cases h1; exact absurd rfl hm
   ·exact ⟨e', h1, hv⟩
theorem Rel.rem (h : Rel st ns es) (hl : ns.length = es.length) (hr : ns.Pairwise (· < ·)) {i : Nat} (hi : ns[i]? = some n) : Rel (uT st n none) (ns.take i ++ ns.drop (i + 1)) (es.take i ++ es.drop (i + 1)) := by
 intro m v;obtain ⟨aL, hn⟩ := List.getElem?_eq_some_iff.1 hi;have hz : (ns.take i ++ ns.drop (i + 1)).zip (es.take i ++ es.drop (i + 1)) = (ns.take i).zip (es.take i) ++ (ns.drop (i + 1)).zip (es.drop (i + 1)) := List.zip_append (by simp [hl])
 have hd1 : ns.drop i = n :: ns.drop (i + 1) := by rw [List.drop_eq_getElem_cons aL, hn]
 have hd2 : es.drop i = es[i]'(by omega) :: es.drop (i + 1) := List.drop_eq_getElem_cons (by omega)
 have dj : ∀ x, x ∈ ns.zip es ↔ x = (n, es[i]'(by omega)) ∨ x ∈ (ns.take i ++ ns.drop (i + 1)).zip (es.take i ++ es.drop (i + 1)) := by
  intro x;rw [zip_cut ns es i hl, hd1, hd2, hz, List.zip_cons_cons];simp only [List.mem_append, List.mem_cons]
  constructor
  ·rintro (h | h | h)
   ·exact .inr (.inl h)
   ·exact .inl h
   ·exact .inr (.inr h)
  ·rintro (h | h | h)
   ·exact .inr (.inl h)
   ·exact .inl h
   ·exact .inr (.inr h)
 have pW : n ∉ ns.take i ++ ns.drop (i + 1) := by
  have h1 : (ns.take i ++ n :: ns.drop (i + 1)).Pairwise (· < ·) := by rw [← hd1, List.take_append_drop]; exact hr
  have h2 := List.pairwise_append.1 h1;intro hm;rcases List.mem_append.1 hm with hm | hm
  ·have := h2.2.2 n hm n (List.mem_cons_self ..); omega
  ·have := (List.pairwise_cons.1 h2.2.1).1 n hm; omega
 unfold uT
 by_cases hm : m = n
 ·subst hm
  rw [if_pos rfl];refine ⟨fun h => (by cases h), fun ⟨e, he, _⟩ => absurd ?_ pW⟩
  exact (mq (m := es.take i ++ es.drop (i + 1)) (by simp [hl]) m).2 ⟨e, he⟩
 ·rw [if_neg hm, h m v]
  constructor
  ·rintro ⟨e', he, hv⟩
   rcases (dj _).1 he with h1 | h1
   ·cases h1; exact absurd rfl hm
   ·exact ⟨e', h1, hv⟩
  ·rintro ⟨e', he, hv⟩
   exact ⟨e', (dj _).2 (.inr he), hv⟩
theorem Bp {l : List Nat} {m : List kN} (hr : l.Pairwise (· < ·)) (hl : l.length = m.length) : (l.zip m).Pairwise fun a b => a.1 < b.1 := by
 have : ((l.zip m).map Prod.fst).Pairwise (· < ·) := by rw [List.map_fst_zip (by omega)]; exact hr
 exact List.pairwise_map.1 this
theorem told_rise {cs : List de} (hr : ns.Pairwise (· < ·)) (hl : ns.length = es.length) (i : Nat) : (jb ns es cs i).Pairwise (· < ·) := by
 unfold jb;refine List.Pairwise.filterMap _ ?_ ((Bp hr hl).sublist (List.take_sublist i _))
 rintro ⟨a, e⟩ ⟨b, e'⟩ qz x hx y hy
 simp only at qz hx hy
 split at hx
 ·split at hy
  ·cases hx; cases hy; exact qz
  ·cases hy
 ·cases hx
theorem told_mem {cs : List de} (h : Rel st ns es) (hl : ns.length = es.length) (n : Nat) : n ∈ jb ns es cs ns.length ↔ ∃ v, st n = some v ∧ di cs v.2 = true := by
 unfold jb;rw [List.take_of_length_le (by rw [List.length_zip]; omega), List.mem_filterMap]
 constructor
 ·rintro ⟨⟨a, e⟩, he, hx⟩
  simp only at hx
  split at hx
  ·rename_i hm
   cases hx
   exact ⟨_, (h _ _).2 ⟨e, he, rfl⟩, hm⟩
  ·cases hx
 ·rintro ⟨v, hv, hm⟩
  obtain ⟨e, he, rfl⟩ := (h n v).1 hv;exact ⟨(n, e), he, by simp only at hm; simp [hm]⟩
noncomputable def sa (ns : List Nat) (es : List kN) (s : List Nat) : List Nat := ((ns.zip es).filter fun p => (fl p.2.ar s).isSome).map (·.1)
theorem named_len {s : List Nat} (hl : ns.length = es.length) : (sa ns es s).length = (es.filter fun e => (fl e.ar s).isSome).length := by
 unfold sa;rw [List.length_map];have h1 : (es.filter fun e => (fl e.ar s).isSome) = (((ns.zip es).map Prod.snd).filter fun e => (fl e.ar s).isSome) := by rw [List.map_snd_zip (by omega)]
 rw [h1, List.filter_map, List.length_map]
 rfl
theorem Cm {s : List Nat} (hr : ns.Pairwise (· < ·)) (hl : ns.length = es.length) : (sa ns es s).Nodup := by
 unfold sa;refine List.pairwise_map.2 (((Bp hr hl).filter _).imp fun {a b} h => ?_)
 omega
theorem named_mem {s : List Nat} (h : Rel st ns es) (n : Nat) : n ∈ sa ns es s ↔ ∃ v, st n = some v ∧ (fl v.2 s).isSome = true := by
 unfold sa;rw [List.mem_map]
 constructor
 ·rintro ⟨⟨a, e⟩, he, rfl⟩
  obtain ⟨h1, h2⟩ := List.mem_filter.1 he;exact ⟨_, (h _ _).2 ⟨e, h1, rfl⟩, h2⟩
 ·rintro ⟨v, hv, hm⟩
  obtain ⟨e, he, rfl⟩ := (h n v).1 hv;exact ⟨(n, e), List.mem_filter.2 ⟨he, hm⟩, rfl⟩
theorem put_len {α : Type} (l : List α) (i : Nat) (x : α) : (l.take i ++ x :: l.drop i).length = l.length + 1 := by
 rw [List.length_append, List.length_cons, List.length_take, List.length_drop]; omega
end
structure Pl (S0 S : AS) (X : XI) (st : Nat → Option nf) (ns : List Nat) (es : List kN) (y K : Nat) (W : Nat → Prop) : Prop where
 sub : Sub S0 S
 live : Live S X st K
 ref : gf S y ns es
 off : ∃ vn ve, S.h.get y = some (.row [vn, ve] 0 0 false 60) ∧ (∀ id, X.wf id ∨ W id → cJ vn ≠ id + 1 ∧ cJ ve ≠ id + 1) ∧ cJ vn ≤ S.next ∧ cJ ve ≤ S.next
 ny : ¬ X.fm y
 arg : ∀ e, e ∈ es → cJ e.u ≤ S0.next
 wf : ∀ id, X.wf id → S0.next ≤ id
 y0 : S0.next ≤ y
 ww : ∀ id, W id → S0.next ≤ id ∧ id < S.next ∧ id ≠ y ∧ ¬ X.fm id
section
variable {S0 S T : AS} {X X' : XI} {st st' : Nat → Option nf} {ns DN : List Nat} {es sL : List kN} {y K K' : Nat} {W W' : Nat → Prop}
theorem gf.row_eq {v w : AV} (h : gf S y ns es) (e : S.h.get y = some (.row [v, w] 0 0 false 60)) : Sl S v 1 (cI ns) ∧ Sl S w 2 (es.flatMap fY) := by
 obtain ⟨vn, ve, g, h1, h2⟩ := h.row;rw [g] at e
 cases e
 exact ⟨h1, h2⟩
theorem gf.bR {v w : AV} (h : gf S y ns es) (e : S.h.get y = some (.row [v, w] 0 0 false 60)) (hy : T.h.get y = S.h.get y) (hv : ∀ id, cJ v = id + 1 → T.h.get id = S.h.get id) (hw : ∀ id, cJ w = id + 1 → T.h.get id = S.h.get id)
  (ha : ∀ e, e ∈ es → ∀ id, cJ e.u = id + 1 → T.h.get id = S.h.get id) (hn : S.next ≤ T.next) : gf T y ns es := by
 obtain ⟨h1, h2⟩ := h.row_eq e;exact { h with row := ⟨v, w, by rw [hy]; exact e, h1.bR hv hn, h2.bR hw hn⟩, lt := Nat.lt_of_lt_of_le h.lt hn, kK := fun e he => ⟨(h.kK e he).sl.bR (ha e he) hn, (h.kK e he).le⟩ }
theorem Pl.index (h : Pl S0 S X st ns es y K W) (hs : Step S T X X') (hl : Live T X' st' K') : Pl S0 T X' st' ns es y K' W := by
 obtain ⟨vn, ve, e, ho, b1, b2⟩ := h.off;have hyw : ¬ X.wf y := fun hw => h.ny (XI.iW hw)
 have aL := h.ref.lt;have hk := hs.bm;have hy : T.h.get y = S.h.get y := hk.h y aL hyw;refine ⟨⟨fun id bY => ?_, Nat.le_trans h.sub.next hk.next⟩, hl, h.ref.bR e hy (fun id hb => hk.h id (by omega) fun hw => (ho id (.inl hw)).1 hb) (fun id hb => hk.h id (by omega) fun hw => (ho id (.inl hw)).2 hb) (fun a ha id hb => hk.h id (by have := (h.ref.kK a ha).sl.old; omega) fun hw => by have := h.wf id hw; have := h.arg a ha; omega) hk.next,
  ⟨vn, ve, by rw [hy]; exact e, fun id hw => ?_, Nat.le_trans b1 hk.next, Nat.le_trans b2 hk.next⟩, fun hf => ?_, h.arg, fun id hw => ?_, h.y0, fun id hw => ?_⟩
 ·rw [hk.h id (Nat.lt_of_lt_of_le bY h.sub.next) fun hw => by have := h.wf id hw; omega]
  exact h.sub.h id bY
 ·rcases hw with hw | hw
  ·rcases hs.wf id hw with hw | hw
   ·exact ho id (.inl hw)
   ·exact ⟨by omega, by omega⟩
  ·exact ho id (.inr hw)
 ·rcases hs.fm y hf with hf | hf
  ·exact h.ny hf
  ·omega
 ·rcases hs.wf id hw with hw | hw
  ·exact h.wf id hw
  ·exact Nat.le_trans h.sub.next hw
 ·obtain ⟨q1, q2, q3, q4⟩ := h.ww id hw
  refine ⟨q1, Nat.lt_of_lt_of_le q2 hk.next, q3, fun hf => ?_⟩
  rcases hs.fm id hf with hf | hf
  ·exact q4 hf
  ·omega
theorem Pl.kept (h : Pl S0 S X st ns es y K W) (hs : Step S T X X') {id : Nat} (hw : W id) : T.h.get id = S.h.get id := by
 obtain ⟨_, q2, _, q4⟩ := h.ww id hw;exact hs.bm.h id q2 fun h => q4 (XI.iW h)
theorem Pl.refer (h : Pl S0 S X st ns es y K W) (hk : eS (fun id => id = y) S T) (hr : NewRow S T y) (ht : gf T y DN sL) (ha : ∀ e, e ∈ sL → cJ e.u ≤ S0.next) : Pl S0 T X st DN sL y K W := by
 obtain ⟨vn, ve, e, h1, h2⟩ := hr;obtain ⟨l1, l2⟩ := ht.row_eq e;refine ⟨⟨fun id bY => ?_, Nat.le_trans h.sub.next hk.next⟩, h.live.bm hk (fun id hf e => h.ny (e ▸ hf)), ht, ⟨vn, ve, e, fun id hw => ?_, l1.old, l2.old⟩, h.ny, ha, h.wf, h.y0, fun id hw => ?_⟩
 ·rw [hk.h id (Nat.lt_of_lt_of_le bY h.sub.next) (fun e => by have := h.y0; omega)]
  exact h.sub.h id bY
 ·have : id < S.next := by
   rcases hw with hw | hw
   ·exact h.live.fm (XI.iW hw)
   ·exact (h.ww id hw).2.1
  exact ⟨by rcases h1 with e | e <;> omega, by rcases h2 with e | e <;> omega⟩
 ·obtain ⟨q1, q2, q3, q4⟩ := h.ww id hw
  exact ⟨q1, Nat.lt_of_lt_of_le q2 hk.next, q3, q4⟩
theorem Pl.grow (h : Pl S0 S X st ns es y K W) (hs : Sub S T) (hw : ∀ id, W' id → W id ∨ (S.next ≤ id ∧ id < T.next)) : Pl S0 T X st ns es y K W' := by
 obtain ⟨vn, ve, e, ho, b1, b2⟩ := h.off;have aL := h.ref.lt;refine ⟨h.sub.trans hs, h.live.sub hs, h.ref.sub hs, ⟨vn, ve, (hs.h y aL).trans e, fun id bY => ?_, Nat.le_trans b1 hs.next, Nat.le_trans b2 hs.next⟩, h.ny, h.arg, h.wf, h.y0, fun id bY => ?_⟩
 ·rcases bY with bY | bY
  ·exact ho id (.inl bY)
  ·rcases hw id bY with h1 | h1
   ·exact ho id (.inr h1)
   ·exact ⟨by omega, by omega⟩
 ·rcases hw id bY with h1 | ⟨h1, h2⟩
  ·obtain ⟨q1, q2, q3, q4⟩ := h.ww id h1
   exact ⟨q1, Nat.lt_of_lt_of_le q2 hs.next, q3, q4⟩
  ·refine ⟨Nat.le_trans h.sub.next h1, h2, by omega, fun hf => ?_⟩
   have := h.live.fm hf;omega
theorem Pl.write (h : Pl S0 S X st ns es y K W) (hk : eS W S T) : Pl S0 T X st ns es y K W := by
 obtain ⟨vn, ve, e, ho, b1, b2⟩ := h.off;have aL := h.ref.lt;have hy : T.h.get y = S.h.get y := hk.h y aL fun hw => (h.ww y hw).2.2.1 rfl
 refine ⟨⟨fun id bY => ?_, Nat.le_trans h.sub.next hk.next⟩, h.live.bm hk (fun id hf hw => (h.ww id hw).2.2.2 hf), h.ref.bR e hy (fun id hb => hk.h id (by omega) fun hw => (ho id (.inr hw)).1 hb) (fun id hb => hk.h id (by omega) fun hw => (ho id (.inr hw)).2 hb) (fun a ha id hb => hk.h id (by have := (h.ref.kK a ha).sl.old; omega) fun hw => by have := (h.ww id hw).1; have := h.arg a ha; omega) hk.next,
  ⟨vn, ve, by rw [hy]; exact e, ho, Nat.le_trans b1 hk.next, Nat.le_trans b2 hk.next⟩, h.ny, h.arg, h.wf, h.y0, fun id hw => ?_⟩
 ·rw [hk.h id (Nat.lt_of_lt_of_le bY h.sub.next) fun hw => by have := (h.ww id hw).1; omega]
  exact h.sub.h id bY
 ·obtain ⟨q1, q2, q3, q4⟩ := h.ww id hw
  exact ⟨q1, Nat.lt_of_lt_of_le q2 hk.next, q3, q4⟩
theorem Pl.copied (h : Pl S0 S X st ns es y K W) (hs : Sub S T) (hl : Live T X' st K) (h1 : ∀ id, X'.wf id → S.next ≤ id) (h2 : ∀ id, X'.fm id → (X.fm id ∧ ¬ X.wf id) ∨ S.next ≤ id) : Pl S0 T X' st ns es y K W := by
 obtain ⟨vn, ve, e, ho, b1, b2⟩ := h.off;have aL := h.ref.lt;refine ⟨h.sub.trans hs, hl, h.ref.sub hs, ⟨vn, ve, (hs.h y aL).trans e, fun id bY => ?_, Nat.le_trans b1 hs.next, Nat.le_trans b2 hs.next⟩, fun hf => ?_, h.arg, fun id hw => Nat.le_trans h.sub.next (h1 id hw), h.y0, fun id hw => ?_⟩
 ·rcases bY with bY | bY
  ·have := h1 id bY
   exact ⟨by omega, by omega⟩
  ·exact ho id (.inr bY)
 ·rcases h2 y hf with hf | hf
  ·exact h.ny hf.1
  ·omega
 ·obtain ⟨q1, q2, q3, q4⟩ := h.ww id hw
  refine ⟨q1, Nat.lt_of_lt_of_le q2 hs.next, q3, fun hf => ?_⟩
  rcases h2 id hf with hf | hf
  ·exact q4 hf.1
  ·omega
theorem Pl.beside {A : Nat → Prop} (h : Pl S0 S X st ns es y K W) (hk : eS A S T) (ha : ∀ id, A id → ¬ X.fm id ∧ id ≠ y ∧ ¬ W id ∧ S0.next ≤ id) (hr : ∀ vn ve, S.h.get y = some (.row [vn, ve] 0 0 false 60) → ∀ id, A id → cJ vn ≠ id + 1 ∧ cJ ve ≠ id + 1) : Pl S0 T X st ns es y K W := by
 obtain ⟨vn, ve, e, ho, b1, b2⟩ := h.off;have aL := h.ref.lt;have hy : T.h.get y = S.h.get y := hk.h y aL fun hw => (ha y hw).2.1 rfl
 refine ⟨⟨fun id bY => ?_, Nat.le_trans h.sub.next hk.next⟩, h.live.bm hk (fun id hf hw => (ha id hw).1 hf), h.ref.bR e hy (fun id hb => hk.h id (by omega) fun hw => (hr vn ve e id hw).1 hb) (fun id hb => hk.h id (by omega) fun hw => (hr vn ve e id hw).2 hb) (fun a ha' id hb => hk.h id (by have := (h.ref.kK a ha').sl.old; omega) fun hw => by have := (ha id hw).2.2.2; have := h.arg a ha'; omega) hk.next,
  ⟨vn, ve, by rw [hy]; exact e, ho, Nat.le_trans b1 hk.next, Nat.le_trans b2 hk.next⟩, h.ny, h.arg, h.wf, h.y0, fun id hw => ?_⟩
 ·rw [hk.h id (Nat.lt_of_lt_of_le bY h.sub.next) fun hw => by have := (ha id hw).2.2.2; omega]
  exact h.sub.h id bY
 ·obtain ⟨q1, q2, q3, q4⟩ := h.ww id hw
  exact ⟨q1, Nat.lt_of_lt_of_le q2 hk.next, q3, q4⟩
end
structure OpI where
 Bt : Int
 n : Nat
 key : List Nat
 u : AV
 ar : List dD
 p : AV
 cs : List de
 name : List Nat
def tI (o : OpI) : List AV := [.int .i64 o.Bt, .int .u64 (o.n : Int), .str o.key, o.u, o.p, .str o.name]
theorem sR (o : OpI) : (tI o).length = 6 := rfl
structure bE (S : AS) (o : OpI) : Prop where
 kK : eF S o.u o.ar
 nm : Names o.ar
 pr : js S o.p o.cs
theorem bE.sub {S T : AS} {o : OpI} (h : bE S o) (hs : Sub S T) : bE T o := ⟨h.kK.sub hs, h.nm, h.pr.sub hs⟩
section
variable {cx : Am.Cx}
theorem str_len {S : AS} {m : Nat} {t : TypeId} {oS : List AV} (hu : aZ cx t = some .string) (h : bt cx S (m + 1) t oS) : ∃ s : List Nat, oS = [.str s] ∧ s.length ≤ reachBytes := by
 unfold bt at h;simp only [hu] at h;obtain ⟨s, e, h1, _⟩ := h;exact ⟨s, e, h1⟩
theorem att_len (K : tU cx) {S : AS} {m : Nat} {x : List AV} (h : bt cx S (m + 3) 65 x) : ∃ a : dD, x = eQ a ∧ a.name.length ≤ reachBytes := by
 obtain ⟨a, _, rfl, _, h1, b, _, rfl, _, h2, rfl⟩ := vb K.fl65 h;obtain ⟨s, rfl, hs⟩ := str_len K.iE h1;obtain ⟨v, rfl⟩ := D1 K h2;exact ⟨⟨s, v⟩, by simp [eQ], hs⟩
theorem ev_len (K : tU cx) {S : AS} {m : Nat} {x : List AV} (h : bt cx S (m + 5) 33 x) : ∃ (s : List Nat) (u : AV) (l : List dD), x = [.str s, u] ∧ eF S u l ∧ Names l := by
 obtain ⟨a, _, rfl, _, h1, b, _, rfl, _, h2, rfl⟩ := vb K.fl33 h;obtain ⟨s, rfl⟩ := zI K.iE h1;obtain ⟨u, l, rfl, g1, g3, _, g2⟩ := sl_of (G := fun a : dD => a.name.length ≤ reachBytes) K.un31 K.sz65 h2 bG (fun x hx => att_len K hx)
 have hb := g2 56 K.by65;have hr : reachBytes = 140737488351232 := rfl;exact ⟨s, u, l, rfl, ⟨g1, by omega⟩, fun a ha => by have := g3 a ha; omega⟩
theorem ops_of (K : tU cx) (fl62 : flT cx 62 = some [3, 30, 33, 25, 9]) (un57 : aZ cx 57 = some (.slice 62)) (sz62 : aw cx 62 = some 6) {S : AS} {m : Nat} {x : List AV} (h : bt cx S (m + 7) 57 x) :
  ∃ (u : AV) (l : List OpI), x = [u] ∧ Sl S u 6 (l.flatMap tI) ∧ (∀ o, o ∈ l → bE S o) ∧ l.length ≤ maxLen := by
 obtain ⟨u, l, rfl, g1, g2, g3, _⟩ := sl_of (enc := tI) (G := fun o : OpI => bE S o) un57 sz62 h sR (fun x hx => by
  obtain ⟨a, _, rfl, _, h1, b, _, rfl, _, h2, c, _, rfl, _, h3, d, _, rfl, _, h4, e, _, rfl, _, h5, rfl⟩ := vb fl62 hx;obtain ⟨w, rfl⟩ := Al K.un3 h1;obtain ⟨n, rfl, _⟩ := u64_of K.un30 h2;obtain ⟨s, u, l, rfl, k1, k2⟩ := ev_len (m := m) K h3;obtain ⟨p, cs, rfl, k3⟩ := pred_of (m := m) K h4;obtain ⟨nm, rfl⟩ := zI K.iE h5;exact ⟨⟨w, n, s, u, l, p, cs, nm⟩, rfl, k1, k2, k3⟩)
 exact ⟨u, l, rfl, g1, g2, g3⟩
end
theorem args6 {cx : Am.Cx} (K : tU cx) (fl62 : flT cx 62 = some [3, 30, 33, 25, 9]) (un57 : aZ cx 57 = some (.slice 62)) (sz62 : aw cx 62 = some 6) (ag57 : aE cx 57 = some false) {S : AS} {m : Nat} {bK : List AV} (h : kU cx S (m + 9) [57] bK) :
  ∃ (u : AV) (l : List OpI), bK = [u] ∧ Sl S u 6 (l.flatMap tI) ∧ (∀ o, o ∈ l → bE S o) ∧ l.length ≤ maxLen := by
 obtain ⟨a1, r1, rfl, h1, rfl⟩ := h;obtain ⟨u, l, rfl, g1, g2, g3⟩ := ops_of (m := m + 2) K fl62 un57 sz62 h1;exact ⟨u, l, by simp only [argA, ag57, BD], g1, g2, g3⟩
theorem o_fn6 : C1.fns.get 6 = some Tryz.f6 := by kernel_rfl
theorem o_ok6 : codeOk C1 Tryz.f6.ntmps (Tryz.f6.body.getD .skip) = true := by kernel_rfl
theorem o_nt6 : Tryz.f6.ntmps = 151 := by kernel_rfl
@[simp] theorem o_st57 : kP C1 57 = some (62, 6, 96) := by kernel_rfl
@[simp] theorem o_ag62 : aE C1 62 = some true := by kernel_rfl
@[simp] theorem o_sz62 : aw C1 62 = some 6 := by kernel_rfl
@[simp] theorem o_ze62 : zeroOf C1 62 = some (.agg [.int .i64 0, .int .u64 0, .str [], .aH, .aH, .str []]) := by kernel_rfl
@[simp] theorem o_fa62_0 : fieldAt C1 62 0 = some 0 := by kernel_rfl
@[simp] theorem o_ag3 : aE C1 3 = some false := by kernel_rfl
@[simp] theorem o_sz3 : aw C1 3 = some 1 := by kernel_rfl
@[simp] theorem o_fa62_2 : fieldAt C1 62 2 = some 2 := by kernel_rfl
theorem o_un31 : aZ C1 31 = some (.slice 65) := by kernel_rfl
@[simp] theorem o_fa62_1 : fieldAt C1 62 1 = some 1 := by kernel_rfl
@[simp] theorem o_fa62_3 : fieldAt C1 62 3 = some 4 := by kernel_rfl
@[simp] theorem o_sz25 : aw C1 25 = some 1 := by kernel_rfl
@[simp] theorem o_fa62_4 : fieldAt C1 62 4 = some 5 := by kernel_rfl
@[simp] theorem o_fa60_0 : fieldAt C1 60 0 = some 0 := by kernel_rfl
@[simp] theorem o_sz38 : aw C1 38 = some 1 := by kernel_rfl
theorem o_bl60 : kJ C1 60 [] = some (.agg [.aH, .aH]) := by kernel_rfl
section
variable {S0 S T : AS} {X X' : XI} {st st' : Nat → Option nf} {ns : List Nat} {es : List kN} {y K K' : Nat} {W W' : Nat → Prop} {n : Nat}
theorem Pl.mono (h : Pl S0 S X st ns es y K W) (hk : K ≤ K') : Pl S0 S X st ns es y K' W := { h with live := h.live.mono hk }
theorem Pl.drop (h : Pl S0 S X st ns es y K W) : Pl S0 S X st ns es y K fun _ => False := h.grow (Sub.refl S) fun _ h => h.elim
theorem pl_add {key : List Nat} {u : AV} {ar : List dD} (h : Pl S0 S X st' ns es y K W) (hR : Rel st ns es) (hu : eF S u ar) (hnm : Names ar) (hb : cJ u ≤ S0.next) (hn : ns.length < 1048576) :
  ai C1 20 [.ptr y 0 0 2, .int .u64 (n : Int), .agg [.str key, u]] S fun r T => r = .int .i64 (ql st n (key, ar)) ∧ ∃ DN sL, Pl S0 T X st' DN sL y K W ∧ Rel (tf st n (key, ar)) DN sL ∧ DN.length ≤ ns.length + 1 ∧ ∀ id, W id → T.h.get id = S.h.get id := by
 have hy0 := h.y0;have hlen := h.ref.len;refine (D2 (ref20 (n := n) (key := key) h.ref hu hnm (fun e he => by have := h.arg e he; omega) (by omega) hn)).mono ?_
 rintro r T (⟨h1, rfl, h3⟩ | ⟨h1, h2, rfl, h3⟩ | ⟨h1, h2, rfl, h3, h4, h5⟩)
 ·have he : ql st n (key, ar) = 30 := by unfold ql Ah; rw [if_pos h1]
  have hs : tf st n (key, ar) = st := by unfold tf; rw [he]; rfl
  exact ⟨by rw [he], ns, es, h.grow h3 fun id h => .inl h, by rw [hs]; exact hR, by omega, fun id hw => h3.h id (h.ww id hw).2.1⟩
 ·have he : ql st n (key, ar) = 9 := by unfold ql Ah; rw [if_neg (by rw [h1]; decide), if_pos ((hR.is hlen n).2 h2)]
  have hs : tf st n (key, ar) = st := by unfold tf; rw [he]; rfl
  exact ⟨by rw [he], ns, es, h.grow h3 fun id h => .inl h, by rw [hs]; exact hR, by omega, fun id hw => h3.h id (h.ww id hw).2.1⟩
 ·have pW : n ∉ ns := fun hm => h2 ((rU h.ref.zQ).1 hm)
  have wZ : ¬ (st n).isSome = true := fun hh => pW ((hR.is hlen n).1 hh)
  have he : ql st n (key, ar) = 0 := by unfold ql Ah; rw [if_neg (by rw [h1]; decide), if_neg wZ]
  have hs : tf st n (key, ar) = uT st n (some (key, ar)) := by unfold tf; rw [if_pos he]
  refine ⟨by rw [he], _, _, h.refer h3 h4 h5 fun e hm => ?_, by rw [hs]; exact hR.add hlen (place ns n) (e := ⟨key, u, ar⟩) (by cases hq : st n with | none => rfl | some v => rw [hq] at wZ; exact absurd rfl wZ), by rw [put_len]; omega, fun id hw => h3.h id (h.ww id hw).2.1 (h.ww id hw).2.2.1⟩
  rcases List.mem_append.1 hm with hm | hm
  ·exact h.arg e (List.mem_of_mem_take hm)
  ·rcases List.mem_cons.1 hm with rfl | hm
   ·exact hb
   ·exact h.arg e (List.mem_of_mem_drop hm)
theorem pl_rem (h : Pl S0 S X st' ns es y K W) (hR : Rel st ns es) :
  ai C1 21 [.ptr y 0 0 2, .int .u64 (n : Int)] S fun r T => r = .int .i64 (remE st n) ∧ ∃ DN sL, Pl S0 T X st' DN sL y K W ∧ Rel (remS st n) DN sL ∧ DN.length ≤ ns.length ∧ ∀ id, W id → T.h.get id = S.h.get id := by
 have hy0 := h.y0;have hlen := h.ref.len;refine (D2 (ref21 (n := n) h.ref (fun e he => by have := h.arg e he; omega))).mono ?_
 rintro r T (⟨h1, rfl, rfl⟩ | ⟨h1, rfl, h3, h4, h5⟩)
 ·have pW : n ∉ ns := fun hm => h1 ((rU h.ref.zQ).1 hm)
  have wZ : ¬ (st n).isSome = true := fun hh => pW ((hR.is hlen n).1 hh)
  have hn : st n = none := by cases hq : st n with | none => rfl | some v => rw [hq] at wZ; exact absurd rfl wZ
  have hs : remS st n = st := by
   funext m
   unfold remS uT
   split
   ·rename_i e; rw [e, hn]
   ·rfl
  exact ⟨by unfold remE; rw [if_neg wZ], ns, es, h, by rw [hs]; exact hR, Nat.le_refl _, fun id _ => rfl⟩
 ·have wZ : (st n).isSome = true := (hR.is hlen n).2 ((rU h.ref.zQ).2 h1)
  refine ⟨by unfold remE; rw [if_pos wZ], _, _, h.refer h3 h4 h5 fun e hm => ?_, hR.rem hlen h.ref.zQ h1, by rw [List.length_append, List.length_take, List.length_drop]; omega, fun id hw => h3.h id (h.ww id hw).2.1 (h.ww id hw).2.2.1⟩
  rcases List.mem_append.1 hm with hm | hm
  ·exact h.arg e (List.mem_of_mem_take hm)
  ·exact h.arg e (List.mem_of_mem_drop hm)
theorem told_eq {T : AS} {cs : List de} {r : AV} (hR : Rel st ns es) (hl : ns.length = es.length) (hr : ns.Pairwise (· < ·)) (h : ToldS T st cs r) :
  ∃ (w : AV) (c : Int), r = .tuple [w, .int .i64 c] ∧ Sl T w 1 (cI (if jZ cs then jb ns es cs ns.length else [])) ∧ c = (if jZ cs then 0 else 30) := by
 rcases h with ⟨h1, rfl⟩ | ⟨h1, v, l, rfl, h3, h4, h5, h6⟩
 ·exact ⟨.aH, 30, rfl, by rw [h1]; exact Sl.nil, by rw [h1]; rfl⟩
 ·refine ⟨v, 0, rfl, ?_, by rw [h1]; rfl⟩
  rw [h1, if_pos rfl, rise_eq (told_rise hr hl ns.length) h4 fun n => by rw [told_mem hR hl, h6 n]]
  exact h3
end
theorem AL {cx : Am.Cx} {c : Code} {F : Fr} {S : AS} {Q : Ex → Fr → AS → Prop} (l : List Nat) (h : ∀ G, G.n = F.n → G.ds = F.ds → bR l G F → mX cx c G S Q) : mX cx c F S Q := h F rfl rfl (wN F l)
def MidH (S0 : AS) (u : AV) (y i : Nat) (F' : Fr) (S' : AS) : Prop :=
 ∃ (X : XI) (st : Nat → Option nf) (ns : List Nat) (es : List kN), Pl S0 S' X st ns es y (9 * (i + 1)) (fun _ => False) ∧ Rel st ns es ∧ ns.length ≤ i + 1 ∧
  sl F' 0 = u ∧ sl F' 3 = .ptr X.x 0 0 2 ∧ sl F' 4 = .ptr y 0 0 2 ∧ sl F' 5 = .int .i64 (i : Int) ∧ F'.n = 151 ∧ F'.ds = []
def playH (S0 : AS) (u : AV) (L : List OpI) (k : Nat) (F' : Fr) (S' : AS) : Prop :=
 ∃ (i : Nat) (X : XI) (st : Nat → Option nf) (ns : List Nat) (es : List kN) (y : Nat), Pl S0 S' X st ns es y (9 * i) (fun _ => False) ∧ Rel st ns es ∧ ns.length ≤ i ∧ i ≤ 100 ∧ i ≤ L.length ∧
  sl F' 0 = u ∧ sl F' 3 = .ptr X.x 0 0 2 ∧ sl F' 4 = .ptr y 0 0 2 ∧ sl F' 5 = .int .i64 (i : Int) ∧ k = 100 - i ∧ F'.n = 151 ∧ F'.ds = []
def overH (S0 : AS) (u w : AV) (X : XI) (st : Nat → Option nf) (ns : List Nat) (es : List kN) (y K i b7 m : Nat) (key : List Nat) (W : Nat → Prop) (k : Nat) (F' : Fr) (S' : AS) : Prop :=
 ∃ (j : Nat) (cs : List AV), Pl S0 S' X st ns es y K W ∧ Gw S' w 5 65 cs ∧ cs.length = m * 5 ∧ S'.h.get b7 = some (.row [.str key, w] 0 0 false 33) ∧ b7 < S'.next ∧
  sl F' 0 = u ∧ sl F' 3 = .ptr X.x 0 0 2 ∧ sl F' 4 = .ptr y 0 0 2 ∧ sl F' 5 = .int .i64 (i : Int) ∧ sl F' 7 = .ptr b7 0 0 2 ∧ sl F' 8 = .int .i64 (j : Int) ∧ j ≤ m ∧ k = m - j ∧ F'.n = 151 ∧ F'.ds = []
theorem fits56 {n : Nat} (h : n ≤ 2513169434843) : fits n 56 = true := by
 simp [fits, cg]; omega
set_option maxRecDepth 20000 in
set_option maxHeartbeats 4000000 in
theorem law6 {S0 : AS} {u : AV} {L : List OpI} (hu : Sl S0 u 6 (L.flatMap tI)) (m8 : ∀ o, o ∈ L → bE S0 o) (hl : L.length ≤ maxLen) : cQ C1 6 [u] S0 fun r T => r = .bool true := by
 have xw : maxLen ≤ 9223372036854775807 := by decide
 have u1 := hu.sl;have u2 := hu.aO sR (by omega)
 have uk := aW hu;obtain ⟨r, T, ⟨rfl, hL, hT, hTn⟩, e8⟩ := (new_live (S := S0)).ex;have e8' := eR e8;refine sQ (EI _) (pr1 _ rfl) o_fn6 rfl o_ok6 (by simp) fun F hn hd hs => ?_
 rw [o_nt6] at hn;have s0 := hs 0;clear hs;simp only [List.getElem?_cons_zero, List.getElem?_cons_succ, Option.getD_some] at s0;simp [s0, nS, e8', o_bl60];refine qU (playH S0 u L) 100 ?_ ?_
 ·have cr : Sub T ⟨T.h.set T.next (.row [.aH, .aH] 0 0 false 60), T.next + 1⟩ := cS
  have ry : gf ⟨T.h.set T.next (.row [.aH, .aH] 0 0 false 60), T.next + 1⟩ T.next [] [] :=
   ⟨⟨.aH, .aH, aa _ _ _, Sl.nil, Sl.nil⟩, Nat.lt_succ_self _, fun e he => (by cases he), fun e he => (by cases he), rfl, List.Pairwise.nil, Nat.zero_le _⟩
  have hfx : ∀ id, (X0 S0.next).fm id → id = S0.next + 2 ∨ id = S0.next ∨ id = S0.next + 1 := fun id h => by
   rcases h with h | h | h | ⟨m, hm, _⟩ | ⟨e, he, _⟩
   ·exact .inl h
   ·exact .inr (.inl h)
   ·exact .inr (.inr h)
   ·cases hm
   ·cases he
  refine ⟨0, X0 S0.next, _, [], [], T.next, ⟨hT.trans cr, hL.sub cr, ry, ⟨.aH, .aH, aa _ _ _, fun id _ => by simp [cJ], Nat.zero_le _, Nat.zero_le _⟩, fun hf => ?_, fun e he => (by cases he), fun id hw => ?_, by omega, fun id h => h.elim⟩, fun n v => ?_, Nat.le_refl _, Nat.zero_le _, Nat.zero_le _, by simp [s0], by simp [X0], by simp, by simp, rfl, by simp [hn], by simp [eB, hd]⟩
  ·have := hfx _ hf; omega
  ·have := hfx _ (XI.iW hw); omega
  ·simp
 clear s0 hn hd
 rintro k F' S' hF' ⟨i, X, st, ns, es, y, hP, hR, hns, hi, hiL, t0, t3, t4, t5, hk, hn, vS⟩
 clear hF' e8 e8'
 by_cases aL : i < L.length ∧ i < 100
 ·obtain ⟨o, ho⟩ : ∃ o, L[i]? = some o := ⟨_, List.getElem?_eq_getElem aL.1⟩
  have hom : o ∈ L := List.mem_of_getElem? ho;have sy := (m8 o hom).sub hP.sub;have iu := cz (cx := C1) (e := 62) (hu.toSub hP.sub) sR (by omega) ho o_ag62 o_sz62
  have h100 : ((i : Nat) : Int) < 100 := by omega
  obtain ⟨S1, fp⟩ : ∃ S1 : AS, S1 = ⟨(S'.h.set S'.next (.row [.int .i64 0, .int .u64 0, .str [], .aH, .aH, .str []] 0 0 false 62)).set S'.next (.row (tI o) 0 0 false 62), S'.next + 1⟩ := ⟨_, rfl⟩;have hsub1 : Sub S' S1 := by rw [fp]; exact jf
  have n1 : S1.next = S'.next + 1 := by rw [fp]
  have g6 : S1.h.get S'.next = some (.row (tI o) 0 0 false 62) := by rw [fp]; exact aa _ _ _
  simp only [tI] at iu fp g6;have ou := aW sy.kK.sl;have cu := sy.kK.sl.cells;have op := aW sy.pr.sl;have cp := sy.pr.sl.cells;simp [t0, t5, u1, u2, uk, aL.1, h100, iu, -qC];rw [qC];simp [t0, t5, u1, u2, uk, aL.1, h100, iu, cu, cp, ← fp, g6, aj (show S'.next < S1.next by omega), -qC]
  refine wpE_mono _ (Q := fun e F S => e = .normal ∧ MidH S0 u y i F S) ?_ ?_
  ·refine AL [0, 3, 4, 5, 6, 33, 43] fun G gn gd ga => ?_
   simp [wO, zw] at ga;simp only [mZ, eB] at gn gd;obtain ⟨g0, g3, g4, g5, g66, g33, g43⟩ := ga;rw [t0] at g0;rw [t3] at g3;rw [t4] at g4;rw [t5] at g5;rw [hn] at gn;rw [vS] at gd;have P1 : Pl S0 S1 X st ns es y (9 * i) (fun id => id = S'.next) := hP.grow hsub1 fun id h => .inr (by omega)
   have hok0 := m8 o hom;have hbu := hok0.kK.sl.old;have uh : S'.next < S1.next := by omega
   by_cases w0 : o.Bt = 0
   ·have hx1 : Sl (⟨S1.h, S1.next + 1⟩ : AS) o.u 5 (o.ar.flatMap eQ) := (sy.kK.sub hsub1).sl.toSub ⟨fun id _ => rfl, Nat.le_succ _⟩
    have hul := sy.kK.sl.aO bG (by omega)
    obtain ⟨w, T, a1, o1, q1, _, _, _, _⟩ := mI (cx := C1) (t := 31) (u := 31) (ts := []) (p := (65, 5, 56)) o_st31 o_un31 rfl (Own.nil (lo := S1.next + 1)) (Nat.le_refl _) hx1 (by rw [hul]; show fits (0 + o.ar.length) 56 = true; rw [Nat.zero_add]; exact fits56 sy.kK.le)
    simp only [List.nil_append] at o1;have nT : S1.next + 1 ≤ T.next := q1.next;obtain ⟨S2, lU⟩ : ∃ S2 : AS, S2 = ⟨(T.h.set S1.next (.row [.str [], .aH] 0 0 false 33)).set S1.next (.row [.str o.key, w] 0 0 false 33), T.next⟩ := ⟨_, rfl⟩;have n2 : S2.next = T.next := by rw [lU]
    have g7 : S2.h.get S1.next = some (.row [.str o.key, w] 0 0 false 33) := by rw [lU]; exact aa _ _ _
    have k2 : ∀ id, id ≠ S1.next → S2.h.get id = T.h.get id := fun id h => by rw [lU]; exact (ae _ _ h).trans (ae _ _ h)
    have hsub2 : Sub S1 S2 := ⟨fun id bY => (k2 id (by omega)).trans (q1.h id (by omega)), by omega⟩
    have o2 : Own S2 (S1.next + 1) w 5 65 (o.ar.flatMap eQ) := o1.bm (fun id h1 _ => k2 id (by omega)) (by omega)
    have wb := o2.og;have P2 : Pl S0 S2 X st ns es y (9 * i) (fun id => id = S'.next ∨ id = S1.next ∨ cJ w = id + 1) := P1.grow hsub2 fun id h => by
     rcases h with h | h | h
     ·exact .inl h
     ·exact .inr (by omega)
     ·exact .inr (by omega)
    obtain ⟨r, T3, ⟨X3, l3, st3, x3, rfl⟩, e9⟩ := (wQ (n := o.n) (key := o.key) P2.live ⟨o2.sl, sy.kK.le⟩ (fun id hb hw => (P2.ww id (.inr (.inr hb))).2.2.2 (XI.iW hw)) (by omega)).ex
    have P3 := P2.index st3 l3;have n3 := st3.bm.next;have kT3 : ∀ id, (id = S'.next ∨ id = S1.next ∨ cJ w = id + 1) → T3.h.get id = S2.h.get id := fun id h => P2.kept st3 h
    obtain ⟨r, T4, ⟨rfl, ns4, es4, P4, R4, hn4, kT4⟩, e20⟩ := (pl_add (n := o.n) (key := o.key) P3 hR (hok0.kK.sub P3.sub) hok0.nm hbu (by omega)).ex
    have g63 := (kT3 _ (.inl rfl)).trans ((hsub2.h _ uh).trans g6);have g64 := (kT4 _ (.inl rfl)).trans g63;have g73 := (kT3 _ (.inr (.inl rfl))).trans g7;have g74 := (kT4 _ (.inr (.inl rfl))).trans g73;have ow := aW o2.sl;have cw := o2.sl.cells;simp [g43, w0];refine aA [.p, .p, .r 0 1, .p, .p, .r 0 0, .e [], .p, .f, .e [8]] (n := 151) (by kernel_rfl) (by simp [gn]) ?_
    have g6T := (q1.h S'.next (by omega)).trans g6
    have hlt6T : S'.next < T.next := by omega
    have bw := agg_u (k := o.key) o1.sl;have hlt62 : S'.next < S2.next := by omega
    have hlt72 : S1.next < S2.next := by omega
    have g62 := (hsub2.h _ uh).trans g6;have l63 := (P3.ww S'.next (.inl rfl)).2.1;have l73 := (P3.ww S1.next (.inr (.inl rfl))).2.1;have l64 := (P4.ww S'.next (.inl rfl)).2.1;have l74 := (P4.ww S1.next (.inr (.inl rfl))).2.1;have lx2 := P2.live.ix.lx;simp [g66, g6, aj uh, ou, a1, g6T, aj hlt6T, bw, ← lU, cw];refine aA [.p, .p, .r 0 0, .r 0 0, .e [], .p, .p, .r 1 0, .p, .r 1 0, .e [], .p] (n := 151) (by kernel_rfl) (by simp [gn]) ?_
    simp [g3, g4, g66, g62, g63, g64, g7, g73, g74, aj hlt62, aj hlt72, aj l63, aj l73, aj l64, aj l74, ou, ow, nS, e9, e20];refine ⟨sy.kK.sl.base, ?_⟩;have gw4 : Gw T4 w 5 65 (o.ar.flatMap eQ) := by
     have h3 : Own T4 (S1.next + 1) w 5 65 (o.ar.flatMap eQ) := by
      rcases o2 with ⟨e1, e2⟩ | ⟨id, g, low, n, rfl, h1, h2, h3, h4, h5⟩
      ·exact .inl ⟨e1, e2⟩
      ·exact .inr ⟨id, g, low, n, rfl, h1, (P4.ww id (.inr (.inr rfl))).2.1, ((kT4 _ (.inr (.inr rfl))).trans (kT3 _ (.inr (.inr rfl)))).trans h3, h4, h5⟩
     exact h3.gw
    refine qU (overH S0 u w X3 (tf st o.n (o.key, o.ar)) ns4 es4 y (9 * i + 9) i S1.next o.ar.length o.key (fun id => id = S'.next ∨ id = S1.next ∨ cJ w = id + 1)) o.ar.length
     ⟨0, _, P4, gw4, my bG _, g74, l74, by simp [g0], by simp [g3, x3], by simp [g4], by simp [g5], by simp, by simp, Nat.zero_le _, rfl, by simp [gn], by simp [eB, gd]⟩ ?_
    clear e9 e20
    rintro k F5 S5 hF5 ⟨j, cs, P5, gw5, hcs, g75, l75, p0, p3, p4, p5, p7, p8, hj, hk5, pn, pd⟩
    clear hF5;have v1 := gw5.1.sl;have v2 : sLen w = o.ar.length := by have := gw5.1.len; omega
    have nc := aN (i := j) (by have := sy.kK.le; omega)
    by_cases rI : j < o.ar.length
    ·obtain ⟨S6, b1, b2, b3, b4⟩ := gw5.putc (x := .str [120]) (i := j) (o := 0) (by omega) (by omega)
     have hpw := ik (k := j) v1 (by omega)
     have P6 : Pl S0 S6 X3 (tf st o.n (o.key, o.ar)) ns4 es4 y (9 * i + 9) (fun id => id = S'.next ∨ id = S1.next ∨ cJ w = id + 1) := P5.write ⟨fun id _ bY => b3 id (fun e => bY (.inr (.inr e.symm))), by omega⟩
     simp [p7, p8, g75, aj l75, v1, v2, rI, bl hpw, b1];refine ⟨o.ar.length - (j + 1), by omega, j + 1, _, P6, b2, by rw [List.length_set]; exact hcs, (b3 _ (by rcases wb with e | e <;> omega)).trans g75, by omega, by simp [p0], by simp [p3], by simp [p4], by simp [p5], by simp [p7], by simp [nc, -Int.natCast_add], rI, rfl, by simp [pn], by simp [eB, pd]⟩
    ·obtain rfl : j = o.ar.length := by omega
     simp [p7, p8, g75, aj l75, v1, v2];exact ⟨X3, _, ns4, es4, (P5.drop).mono (by omega), R4, by omega, by simp [p0], by simp [p3], by simp [p4], by simp [p5], by simp [pn], by simp [eB, pd]⟩
   by_cases w1 : o.Bt = 1
   ·obtain ⟨r, T3, ⟨X3, l3, st3, x3, rfl⟩, e11⟩ := (qI (n := o.n) P1.live (by omega)).ex
    have P3 := P1.index st3 l3;obtain ⟨r, T4, ⟨rfl, ns4, es4, P4, R4, hn4, kT4⟩, e21⟩ := (pl_rem (n := o.n) P3 hR).ex;have g63 := (P1.kept st3 rfl).trans g6;have g64 := (kT4 _ rfl).trans g63;have l63 := (P3.ww S'.next rfl).2.1;have l64 := (P4.ww S'.next rfl).2.1;simp [g43, g33, w1];refine aA [.p, .p, .r 0 0, .e [], .p, .p, .r 1 0, .e [], .p] (n := 151) (by kernel_rfl) (by simp [gn]) ?_
    simp [g3, g4, g66, g6, g63, g64, aj uh, aj l63, aj l64, nS, e11, e21];exact ⟨X3, _, ns4, es4, P4.drop.mono (by omega), R4, by omega, by simp [g0], by simp [g3, x3], by simp [g4], by simp [g5], by simp [gn], by simp [eB, gd]⟩
   by_cases w2 : o.Bt = 2
   ·have hpr := sy.pr.sub hsub1
    obtain ⟨r, T3, ⟨hT3, htold⟩, e12⟩ := (EF P1.live hpr (by omega)).ex
    have P3 := P1.grow (W' := fun id => id = S'.next) hT3 fun id h => .inl h
    obtain ⟨v1, c1, rfl, hv1, yX⟩ := told_eq hR P1.ref.len P1.ref.zQ htold;obtain ⟨r, T4, ⟨hT4, h22⟩, e22⟩ := (D2 (ref22 P3.ref (hpr.sub hT3))).ex;have P4 := P3.grow (W' := fun id => id = S'.next) hT4 fun id h => .inl h
    have hv2 : ∃ v2, r = .tuple [v2, .int .i64 c1] ∧ Sl T4 v2 1 (cI (if jZ o.cs then jb ns es o.cs ns.length else [])) := by
     rcases h22 with ⟨h1, rfl⟩ | ⟨h1, z, rfl, h3⟩
     ·exact ⟨.aH, by rw [yX, h1]; rfl, by rw [h1]; exact Sl.nil⟩
     ·exact ⟨z, by rw [yX, h1]; rfl, by rw [h1]; exact h3⟩
    obtain ⟨v2, rfl, hv2⟩ := hv2;have hll : (if jZ o.cs then jb ns es o.cs ns.length else []).length ≤ 1048576 := by
     split
     ·have := ye ns es o.cs ns.length; omega
     ·simp
    obtain ⟨r, T5, ⟨rfl, rfl⟩, e16⟩ := (D2 (same16 (hv1.toSub hT4) hv2 hll hll)).ex;simp only [decide_true] at e16;have e12' := eR e12;have e22' := eR e22;have e16' := eR e16;have g63 := (hT3.h _ uh).trans g6;have l63 : S'.next < T3.next := Nat.lt_of_lt_of_le uh hT3.next;simp [g43, g33, w2, g3, g4, g66, g6, g63, aj uh, aj l63, nS, e12', e22', e16'];exact ⟨X, _, ns, es, P4.drop.mono (by omega), hR, by omega, by simp [g0], by simp [g3], by simp [g4], by simp [g5], by simp [gn], by simp [eB, gd]⟩
   by_cases w3 : o.Bt = 3
   ·simp [g43, g33, w3, g3, g4, g66, nS]
    refine cQ.mono (copy23 P1.live (by omega)) ?_
    rintro r T ⟨X', rfl, oJ, hT', h1, h2, kR⟩
    have PC := P1.copied hT' oJ h1 h2;have lT := P1.live.sub hT';have nT := hT'.next;have hux : ∀ id, cJ o.u = id + 1 → ¬ X.wf id := fun id hb hw => by have := P1.wf id hw; omega
    obtain ⟨r, T3, ⟨Xo, lo, so, xo, rfl⟩, e9⟩ := (wQ (n := o.n) (key := o.key) lT (hok0.kK.sub PC.sub) hux (by omega)).ex
    obtain ⟨r, T4, ⟨Xp, lp, sp, xp, rfl⟩, e11⟩ := (qI (n := o.n) lo (by omega)).ex
    have e9' := eR e9;have e11' := eR e11;have fQ := so.trans sp;have PB : Pl S0 T4 X' st ns es y (9 * i) (fun id => id = S'.next) := PC.beside fQ.bm (fun id hw => by
     have hf := XI.iW hw;have aL := P1.live.fm hf;refine ⟨fun hx => ?_, fun e => P1.ny (e ▸ hf), fun e => (P1.ww id e).2.2.2 hf, P1.wf id hw⟩
     rcases h2 id hx with h | h
     ·exact h.2 hw
     ·omega) (fun vn ve e id hw => by
     obtain ⟨a, b, e', gR, _⟩ := P1.off;rw [hT'.h y P1.ref.lt, e'] at e
     cases e
     exact gR id (.inl hw))
    have g6T := (hT'.h _ uh).trans g6;have l6T : S'.next < T.next := by omega
    have g63 : T3.h.get S'.next = _ := (so.bm.h _ l6T (fun hw => (P1.ww _ rfl).2.2.2 (XI.iW hw))).trans g6T
    have l63 : S'.next < T3.next := by have := so.bm.next; omega
    rw [xo] at e11';simp [g0, g3, g4, g66, g6T, g63, aj l6T, aj l63, nS, e9', e11'];exact ⟨X', _, ns, es, PB.drop.mono (by omega), hR, by omega, by simp [g0], by simp, by simp [g4], by simp [g5], by simp [gn], by simp [eB, gd]⟩
   by_cases w4 : o.Bt = 4
   ·simp [g43, g33, w4, g3, g4, g66, nS]
    refine cQ.mono (copy23 P1.live (by omega)) ?_
    rintro r T ⟨X', rfl, oJ, hT', h1, h2, kR⟩
    have nT := hT'.next;have hux : ∀ id, cJ o.u = id + 1 → ¬ X'.wf id := fun id hb hw => by have := h1 id hw; have := P1.sub.next; omega
    obtain ⟨r, T3, ⟨Xo, lo, so, xo, rfl⟩, e9⟩ := (wQ (n := o.n) (key := o.key) oJ ((hok0.kK.sub P1.sub).sub hT') hux (by omega)).ex
    obtain ⟨r, T4, ⟨Xp, lp, sp, xp, rfl⟩, e11⟩ := (qI (n := 1) lo (by omega)).ex
    obtain ⟨r, T5, ⟨Xq, lq, sq, xq, rfl⟩, e12⟩ := (qI (n := 2) lp (by omega)).ex
    have e9' := eR e9;have e11' := eR e11;have e12' := eR e12;rw [xo] at e11' xp;rw [xp] at e12';rw [show ((1 : Nat) : Int) = 1 from rfl] at e11';rw [show ((2 : Nat) : Int) = 2 from rfl] at e12';have fQ := (so.trans sp).trans sq;have cr : Sub S1 T5 := ⟨fun id bY => (fQ.bm.h id (by omega) fun hw => by have := h1 id hw; omega).trans (hT'.h id bY), Nat.le_trans nT fQ.bm.next⟩
    have PB := P1.grow (W' := fun _ => False) cr fun id h => h.elim
    have g6T := (hT'.h _ uh).trans g6;have l6T : S'.next < T.next := by omega
    simp [g0, g3, g4, g66, g6T, aj l6T, nS, e9', e11', e12'];exact ⟨X, _, ns, es, PB.mono (by omega), hR, by omega, by simp [g0], by simp [g3], by simp [g4], by simp [g5], by simp [gn], by simp [eB, gd]⟩
   ·obtain ⟨r, T3, ⟨rfl, rfl⟩, e18⟩ := (AF P1.live o.name (Cm (s := o.name) P1.ref.zQ P1.ref.len) (named_mem hR)).ex
    rw [named_len P1.ref.len] at e18;obtain ⟨r, T4, ⟨hT4, rfl⟩, e24⟩ := (D2 (ref24 (s := o.name) P1.ref)).ex;have P4 := P1.grow (W' := fun _ => False) hT4 fun id h => h.elim
    have g64 := (hT4.h _ uh).trans g6;have l64 : S'.next < T4.next := Nat.lt_of_lt_of_le uh hT4.next;simp [g43, g33, w0, w1, w2, w3, w4];refine aA [.p, .p, .r 0 0, .e [], .p, .p, .r 1 0, .e [], .p] (n := 151) (by kernel_rfl) (by simp [gn]) ?_
    simp [g3, g4, g66, g6, g64, aj uh, aj l64, nS, e18, e24];exact ⟨X, _, ns, es, P4.mono (by omega), hR, by omega, by simp [g0], by simp [g3], by simp [g4], by simp [g5], by simp [gn], by simp [eB, gd]⟩
  ·rintro e F2 S2 ⟨rfl, X2, st2, ns2, es2, hP2, hR2, hns2, q0, q3, q4, q5, qn, qd⟩
   obtain ⟨v, T3, ⟨hT3, l, v1, v2, v3, v4⟩, e17⟩ := (Aa hP2.live (by omega)).ex
   have hln : l = ns2 := rise_eq v2 hP2.ref.zQ fun n => by rw [v4 n, hR2.is hP2.ref.len]
   obtain ⟨vn, ve, gy, y1, y2⟩ := hP2.ref.row;have ly := hP2.ref.lt;have gy3 := (hT3.h _ ly).trans gy;have ly3 : y < T3.next := Nat.lt_of_lt_of_le ly hT3.next;obtain ⟨r, T5, ⟨rfl, rfl⟩, e16⟩ := (D2 (same16 v1 (y1.toSub hT3) v3 hP2.ref.le)).ex;rw [decide_eq_true hln] at e16;have oy := aW y1;have hP3 := hP2.grow (W' := fun _ => False) hT3 fun id h => h.elim
   simp;refine aA [.p, .e [], .p, .p, .p, .r 1 0, .e [], .p] (n := 151) (by kernel_rfl) (by simp [qn]) ?_
   have iY := aN (i := i) (by omega)
   simp [q3, q4, gy, gy3, aj ly, aj ly3, oy, nS, e17, e16, q5];refine ⟨99 - i, by omega, i + 1, X2, st2, ns2, es2, y, hP3, hR2, hns2, by omega, by omega, by simp [q0], by simp [q3], by simp [q4], by simp [iY, -Int.natCast_add], by omega, by simp [qn], by simp [eB, qd]⟩
 ·have e14 := eR (fun Q => awake14 (S := S') (Q := Q))
  have sx : ∀ (G : Fr) (v : AV), sl G 2 = v → bz v = false → jD C1 G S' Tryz.f6.results.toList = some [v] := fun G v h _ => by
   rw [show Tryz.f6.results.toList = [.tmp 2] from by kernel_rfl, lg, lh, h]
   rfl
  have hend : ∀ G : Fr, sl G 2 = .bool true → G.ds = [] → bodyE C1 Tryz.f6 (fun r T => r = .bool true) .ret G S' := fun G h1 h2 => by
   show mu C1 Tryz.f6 G _ G.ds S';rw [h2];show uj (Option.map _ _) _ _;rw [sx G _ h1 rfl];exact ⟨rfl, rfl⟩
  by_cases oJ : i < L.length
  ·have h100 : ¬ ((i : Nat) : Int) < 100 := by omega
   simp [t0, t5, u1, u2, uk, oJ, h100, nS, e14];exact hend _ (by simp) (by simp [eB, vS])
  ·simp [t0, t5, u1, u2, uk, oJ, nS, e14]
   exact hend _ (by simp) (by simp [eB, vS])
end Go.Proofs.YtfempihpphbgmaaGreat.idx
namespace Go.Am
open Go Go.RowKit
set_option linter.unusedVariables false
theorem law_argsE {H : Type} {enc : TypeId × Value → H} {P : Program} {A : Ask} {W : World} {base : Nat} {held : Bool} {B : Nat → Prop} (hB : ∀ b, B b → b < W.heap.size) (hr : jA P A) (hp : ∀ x, x ∈ A.aV → dY ⟨W, fun b => b < W.heap.size⟩ P x.1 x.2)
  (hg : ∀ x, x ∈ A.dE → jt W B x.1 x.2) {f : FuncId} {args : Array Value} {ts : List TypeId} {ds : List (DataW H)} {p : List MemPlace} {r : Reach} {b0 : Nat} (m : Nat) (ht : ts.all (nF (iF P A) m) = true)
  (hv : ∀ (j : Nat) t v, ts[j]? = some t → args[j]? = some v → Value.okWide P W r b0 t v) (h : DataW.TrodAll enc P W base (fun _ => true) held ts args.toList ds p) (hW : ∀ n, n ∈ DataW.weightsEach P ts ds → n ≤ reachBytes)
  (hc : ∀ (S : AS) (bK : List AV), (∀ id, S.next ≤ id → S.h.get id = none) → kU (iF P A) S m ts bK → cQ (iF P A) f bK S fun v _ => v = .bool true) :
  Calls P f args W fun e w' => e = .returned (.bool true) ∧ Below W.heap.size W w' := by
 have hg' : ∀ x, x ∈ A.dE → jt W (fun b => b < W.heap.size) x.1 x.2 := fun x hx => let ⟨a, b⟩ := hg x hx; ⟨hB _ a, b⟩
 have av := cx_ok (Λ := ⟨W, fun b => b < W.heap.size⟩) hr hp hg'
 have hR0 := empty_R (Λ := ⟨W, fun b => b < W.heap.size⟩) W (Nat.le_refl _) (fun b hb => ⟨hb, rfl⟩)
 obtain ⟨S, ρ, l, _, _, hR, hl, hty⟩ := wR av (r := r) (b0 := b0) ts args.toList ds p ⟨.leaf, 0⟩ _ ht (fun j t v h1 h2 => hv j t v h1 (by rw [← Array.getElem?_toList]; exact h2)) (fun id o ho => by cases ho) hR0 h hW
 have hdom : ∀ id, S.next ≤ id → S.h.get id = none := by
  intro id hi
  cases ho : S.h.get id with
  | none => rfl
  | some o => have := hR.mT id o ho; omega
 refine (zj hr hp hg' hR hl (hc S l hdom hty)).2.mono ?_
 rintro e w' ⟨x, v, S', ρ', rfl, h1, _, rfl, h3, h4⟩
 simp only [ah] at h1;refine ⟨by rw [h1], h4.os, h4.tape, h4.output, h4.size, fun k hk => (h3.base k hk).2.1⟩
end Go.Am
