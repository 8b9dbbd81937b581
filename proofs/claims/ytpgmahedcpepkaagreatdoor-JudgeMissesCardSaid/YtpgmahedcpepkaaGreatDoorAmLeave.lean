/-
  The abstract machine against the model: deferred calls, recover.
  The abstract machine: values that are the same; values that hold no address; objects through fewer places.
-/
import Derived.Test.YtpgmahedcpepkaaGreatDoorAmWp
import Derived.Test.YtpgmahedcpepkaaGreatDoorAmRel
namespace Go.Am
open Go
variable {Λ : LB}

/-- Where a frame on its way out stands. -/
def MdRel (ρ : Rho) : Md → FrameMode → Prop
  | .ret, u => u = .returning
  | .pan v, u => ∃ x, u = .panicking [{ v := x, recovered := false }] ∧ VRel ρ v x
  | .got v, u => ∃ x, u = .panicking [{ v := x, recovered := true }] ∧ VRel ρ v x
theorem MdRel.mono {ρ ρ' : Rho} (h : Ext ρ ρ') {m : Md} {u : FrameMode} (r : MdRel ρ m u) : MdRel ρ' m u := by
  cases m with
  | ret => exact r
  | pan v => obtain ⟨x, e, k⟩ := r; exact ⟨x, e, k.mono h _ _⟩
  | got v => obtain ⟨x, e, k⟩ := r; exact ⟨x, e, k.mono h _ _⟩

theorem wpSIn_block {F : Fence} {n : Nat} {P : Program} {Q : Exit → Act → List Frame → World → Prop} {a : Act} {cs : List Frame} {w : World} {id : Nat} {c : Code}
    (h : c.wpSIn F n P (fun e a' cs' w' => match e with | .exit j => if j = id then Q .normal a' cs' w' else Q (.exit j) a' cs' w' | e => Q e a' cs' w') a cs w) : (Code.block id c).wpSIn F n P Q a cs w := by
  intro b k hb hr hF hroom
  have i0 : (lone (b.atR a (.code (.block id c) :: k)) cs w).fenced P F := fenced_calm hF hroom rfl
  obtain ⟨e, a₁, cs₁, w₁, hl, hq, harr⟩ := h b (.inBlock id :: k) hb hr hF hroom
  have hroom' : F.room (cs₁.length + 1 + n) := hl ▸ hroom
  cases e with
  | normal => exact ⟨.normal, a₁, cs₁, w₁, hl, hq, .head i0 stepR_block (StepsIn.trans harr (.one (fenced_calm hF hroom' rfl) stepR_inBlock))⟩
  | exit id' =>
    by_cases hid : id' = id
    · simp only [hid, if_true] at hq
      exact ⟨.normal, a₁, cs₁, w₁, hl, hq, .head i0 stepR_block (harr.1 k (by simp [exitTo, hid]))⟩
    · simp only [hid, if_false] at hq
      have this : (id == id') = false := by simp; exact fun h => hid h.symm
      have hx : exitTo id' (.inBlock id :: k) = exitTo id' k := by simp [exitTo, this]
      exact ⟨.exit id', a₁, cs₁, w₁, hl, hq, fun k' hk => .head i0 stepR_block (harr.1 k' (by rw [hx]; exact hk)),
        fun hr' hk => let ⟨k₁, h1, h2⟩ := harr.2 hr' (by rw [hx]; exact hk); ⟨k₁, h1, .head i0 stepR_block h2⟩⟩
  | goto l =>
    have hx : gotoIn l (.inBlock id :: k) = gotoIn l k := by simp [gotoIn]
    exact ⟨_, a₁, cs₁, w₁, hl, hq, fun k' hk => .head i0 stepR_block (harr.1 k' (by rw [hx]; exact hk)),
      fun hr' hk => let ⟨k₁, h1, h2⟩ := harr.2 hr' (by rw [hx]; exact hk); ⟨k₁, h1, .head i0 stepR_block h2⟩⟩
  | ret => exact ⟨_, a₁, cs₁, w₁, hl, hq, .of_steps (.one i0 stepR_block) harr⟩
  | panic ch => exact ⟨_, a₁, cs₁, w₁, hl, hq, .of_steps (.one i0 stepR_block) harr⟩
  | outgrown => exact ⟨_, a₁, cs₁, w₁, hl, hq, .of_steps (.one i0 stepR_block) harr⟩

theorem wpOpsSIn_cons {F : Fence} {n : Nat} {P : Program} {ops : Array Oper} {Q : Exit → Act → List Frame → World → Prop} {i : Nat} {rest : List Nat} {a : Act} {cs : List Frame} {w : World} {o : Oper} (ho : ops[i]? = some o) :
    wpOpsSIn F n P ops Q (i :: rest) a cs w = ((∀ f, o.about P w a.eval = some f → F.fn f) ∧
      if Region.wanted o (yielded ops a.tmps) then
        match (execOp a.eval o).run P w with
        | .ok .recover w' =>
          match recoverD cs with
          | some (v, cs') => wpOpsSIn F n P ops Q rest (a.put o.dst v) cs' w'
          | none => wpOpsSIn F n P ops Q rest (a.put o.dst .nilIface) cs w'
        | .ok (.value v) w' => wpOpsSIn F n P ops Q rest (a.put o.dst v) cs w'
        | .ok .skip w' => wpOpsSIn F n P ops Q rest (a.put o.dst undef) cs w'
        | .halt (.panic v) w' => Q (.panic [{ v, recovered := false }]) a cs w'
        | _ => False
      else wpOpsSIn F n P ops Q rest (a.put o.dst undef) cs w) := by
  simp only [wpOpsSIn, ho]
  rfl

/-- What is asked of a deferred call's ends. -/
def SEnds (Λ : LB) (ρ : Rho) (S : AS) (w : World) (c₀ : Frame) (cs : List Frame) (Q : Exit → Act → List Frame → World → Prop) (o : SOut) : Prop :=
  ∀ ρ' e a' u w', ExTo ρ' o.ex e → MdRel ρ' o.m u → R Λ ρ' o.S w' → FRel ρ' o.F a' → Kp ρ S w ρ' o.S w' → Q e a' ({ c₀ with mode := u } :: cs) w'
theorem SEnds.trans {ρ ρ' : Rho} {S S' : AS} {w w' : World} {c₀ : Frame} {cs : List Frame} {Q : Exit → Act → List Frame → World → Prop} {o : SOut} (hk : Kp ρ S w ρ' S' w') (h : SEnds Λ ρ S w c₀ cs Q o) : SEnds Λ ρ' S' w' c₀ cs Q o :=
  fun ρ'' e a u w'' h0 hm h1 h2 h3 => h ρ'' e a u w'' h0 hm h1 h2 (hk.trans h3)

theorem recV_rel {ρ : Rho} {m : Md} {u : FrameMode} (h : MdRel ρ m u) (c₀ : Frame) (cs : List Frame) :
    (∃ x u', recoverD ({ c₀ with mode := u } :: cs) = some (x, { c₀ with mode := u' } :: cs) ∧ VRel ρ (recV m).1 x ∧ MdRel ρ (recV m).2 u') ∨
    (recoverD ({ c₀ with mode := u } :: cs) = none ∧ (recV m).1 = .niface ∧ (recV m).2 = m) := by
  cases m with
  | ret => simp only [MdRel] at h; subst h; exact .inr ⟨rfl, rfl, rfl⟩
  | pan v =>
    obtain ⟨x, rfl, hx⟩ := h
    exact .inl ⟨x, .panicking [{ v := x, recovered := true }], rfl, hx, x, rfl, hx⟩
  | got v =>
    obtain ⟨x, rfl, hx⟩ := h
    exact .inr ⟨rfl, rfl, rfl⟩

theorem runOpsS_wp {P : Program} {cx : Cx} (hcx : CxOk Λ P cx) {ops : Array Oper} {c₀ : Frame} {cs : List Frame} {Q : Exit → Act → List Frame → World → Prop} :
    ∀ (l : List Oper) (i : Nat) (ρ : Rho) (F : Fr) (S : AS) (m : Md) (u : FrameMode) (w : World) (a : Act), ops.toList.drop i = l → R Λ ρ S w → FRel ρ F a → MdRel ρ m u →
    (runOpsS cx noK ops.toList l F S m).All (SEnds Λ ρ S w c₀ cs Q) →
    wpOpsSIn Fence.wide 0 P ops Q (List.range' i l.length) a ({ c₀ with mode := u } :: cs) w := by
  intro l
  induction l with
  | nil => intro i ρ F S m u w a _ hR hF hm h; exact h.1 ρ _ a u w rfl hm hR hF (Kp.refl _ _ _)
  | cons o l ih =>
    intro i ρ F S m u w a hd hR hF hm h
    have hio : ops[i]? = some o := by
      rw [← Array.getElem?_toList]
      have : (ops.toList.drop i)[0]? = some o := by rw [hd]; rfl
      rwa [List.getElem?_drop, Nat.add_zero] at this
    have hdl : ops.toList.drop (i + 1) = l := by
      rw [← List.drop_drop, hd]; rfl
    rw [List.length_cons, List.range'_succ, wpOpsSIn_cons hio]
    refine ⟨fun f _ => trivial, ?_⟩
    have hun : runOpsS cx noK ops.toList (o :: l) F S m = (match isDefer o with
      | some _ => .err 1011
      | none => cond (isRecover o)
        (match wanted ops.toList F o with
        | some true => runOpsS cx noK ops.toList l (putD F o.dst (recV m).1) S (recV m).2
        | some false => runOpsS cx noK ops.toList l (putD F o.dst .undef) S m
        | none => .err 1012)
        (Res.bind (one cx noK ops.toList o F S) fun r => cond r.1 (.ok ⟨.pan r.2.1, F, r.2.2, m⟩ []) (runOpsS cx noK ops.toList l (putD F o.dst r.2.1) r.2.2 m))) := rfl
    rw [hun] at h
    cases hdf : isDefer o with
    | some c => rw [hdf] at h; exact h.elim
    | none =>
      rw [hdf] at h
      simp only [] at h
      cases hrec : isRecover o with
      | true =>
        rw [hrec] at h
        simp only [cond_true] at h
        cases hw : wanted ops.toList F o with
        | none => rw [hw] at h; exact h.elim
        | some b =>
          rw [hw] at h
          rw [wanted_ok hF hw]
          cases b with
          | false =>
            simp only [Bool.false_eq_true, if_false]
            exact ih (i + 1) ρ _ _ m u w _ hdl hR (hF.put o.dst (undef_rel ρ)) hm h
          | true =>
            simp only [if_true]
            have hrun : (execOp a.eval o).run P w = .ok .recover w := by
              unfold isRecover at hrec
              split at hrec
              · rename_i xs ats hop
                unfold execOp
                rw [hop]
                rfl
              · cases hrec
            rw [hrun]
            simp only [] at h ⊢
            rcases recV_rel hm c₀ cs with ⟨x, u', e1, e2, e3⟩ | ⟨e1, e2, e3⟩
            · rw [e1]
              exact ih (i + 1) ρ _ _ _ u' w _ hdl hR (hF.put o.dst e2) e3 h
            · rw [e1]
              rw [e2, e3] at h
              exact ih (i + 1) ρ _ _ m u w _ hdl hR (hF.put o.dst (by simp [VRel])) hm h
      | false =>
        rw [hrec] at h
        simp only [cond_false] at h
        have h1 := Res.all_bind h
        unfold one at h1
        cases hw : wanted ops.toList F o with
        | none => rw [hw] at h1; exact h1.elim
        | some b =>
          rw [hw] at h1
          rw [wanted_ok hF hw]
          cases b with
          | false =>
            simp only [Bool.false_eq_true, if_false]
            exact ih (i + 1) ρ _ _ m u w _ hdl hR (hF.put o.dst (undef_rel ρ)) hm h1.1
          | true =>
            simp only [if_true] at h1 ⊢
            have val : ∀ (v : AV) (S' : AS), OpOk Λ P ρ S w (execOp a.eval o) v S' → (runOpsS cx noK ops.toList l (putD F o.dst v) S' m).All (SEnds Λ ρ S w c₀ cs Q) →
                (match (execOp a.eval o).run P w with
                | .ok .recover w' =>
                  match recoverD ({ c₀ with mode := u } :: cs) with
                  | some (v, cs') => wpOpsSIn Fence.wide 0 P ops Q (List.range' (i + 1) l.length) (a.put o.dst v) cs' w'
                  | none => wpOpsSIn Fence.wide 0 P ops Q (List.range' (i + 1) l.length) (a.put o.dst .nilIface) ({ c₀ with mode := u } :: cs) w'
                | .ok (.value v) w' => wpOpsSIn Fence.wide 0 P ops Q (List.range' (i + 1) l.length) (a.put o.dst v) ({ c₀ with mode := u } :: cs) w'
                | .ok .skip w' => wpOpsSIn Fence.wide 0 P ops Q (List.range' (i + 1) l.length) (a.put o.dst undef) ({ c₀ with mode := u } :: cs) w'
                | .halt (.panic v) w' => Q (.panic [{ v, recovered := false }]) a ({ c₀ with mode := u } :: cs) w'
                | _ => False) := by
              rintro v S' ⟨nx, x, ρ', w', r1, r2, r3, r4, r5⟩ h2
              rw [r1]
              have go : ∀ z, z = x → wpOpsSIn Fence.wide 0 P ops Q (List.range' (i + 1) l.length) (a.put o.dst z) ({ c₀ with mode := u } :: cs) w' := by
                rintro z rfl
                exact ih (i + 1) ρ' _ _ m u w' _ hdl r4 ((hF.mono r5.ext).put o.dst r3) (hm.mono r5.ext) (h2.mono fun q hq => hq.trans r5)
              cases nx <;> simp only [nextVal, Option.some.injEq, reduceCtorEq] at r2
              · exact go _ r2
              · exact go _ r2
            cases hop : aop cx F S o with
            | err n => rw [hop] at h1; exact h1.elim
            | val v S' =>
              rw [hop] at h1
              exact val v S' (aop_sound hcx hR hF hop) h1.1
            | enter f as S' => rw [hop] at h1; exact h1.elim
            | round id as S' => rw [hop] at h1; exact h1.elim
            | pan v S' =>
              rw [hop] at h1
              obtain ⟨rfl, _, x, r1, r2⟩ := aop_pan (P := P) (w := w) hF hop
              rw [r1]
              exact h1.1.1 ρ _ a u w ⟨x, rfl, r2⟩ hm hR hF (Kp.refl _ _ _)
            | many lm =>
              rw [hop] at h1
              cases lm with
              | nil => exact h1.elim
              | cons y ys =>
                obtain ⟨r, hr, hs⟩ := aop_many (P := P) hR hF hop (by simp)
                refine val r.1 r.2 hs ?_
                cases hr with
                | head => exact h1.1
                | tail _ hr => exact h1.2 (valR r) (List.mem_map.2 ⟨r, hr, rfl⟩)

/-- Code that may recover. -/
theorem execS_ok {P : Program} {cx : Cx} (hcx : CxOk Λ P cx) {n : Nat} (hc : CodeOk Λ P cx n) {c₀ : Frame} {cs : List Frame} :
    ∀ (c : Code) (Q : Exit → Act → List Frame → World → Prop) (ρ : Rho) (F : Fr) (S : AS) (m : Md) (u : FrameMode) (w : World) (a : Act), R Λ ρ S w → FRel ρ F a → MdRel ρ m u →
    (execS cx (exec cx n) c F S m).All (SEnds Λ ρ S w c₀ cs Q) → c.wpSIn Fence.wide 0 P Q a ({ c₀ with mode := u } :: cs) w := by
  have base : ∀ (c : Code) (Q : Exit → Act → List Frame → World → Prop) (ρ : Rho) (F : Fr) (S : AS) (m : Md) (u : FrameMode) (w : World) (a : Act), R Λ ρ S w → FRel ρ F a → MdRel ρ m u →
      (Res.bind (exec cx n c F S) fun o => .ok (o.at m) []).All (SEnds Λ ρ S w c₀ cs Q) → c.wpSIn Fence.wide 0 P Q a ({ c₀ with mode := u } :: cs) w := by
    intro c Q ρ F S m u w a hR hF hm h
    refine wpSIn_of_wpIn rfl (hc none c _ ρ F S w a (.inl rfl) hR hF ((Res.all_bind h).mono fun o ho ρ' e a' w' h0 h1 h2 h3 => ?_))
    exact ho.1 ρ' e a' u w' h0 (hm.mono h3.ext) h1 h2 h3
  intro c
  induction c with
  | skip => intro Q ρ F S m u w a hR hF hm h; exact wpSIn_of_wpIn rfl (wpIn_skip (h.1 ρ _ a u w rfl hm hR hF (Kp.refl _ _ _)))
  | ret => intro Q ρ F S m u w a hR hF hm h; exact wpSIn_of_wpIn rfl (wpIn_ret (h.1 ρ _ a u w rfl hm hR hF (Kp.refl _ _ _)))
  | exit id => intro Q ρ F S m u w a hR hF hm h; exact wpSIn_of_wpIn rfl (wpIn_exit (h.1 ρ _ a u w rfl hm hR hF (Kp.refl _ _ _)))
  | region id ops draw =>
    intro Q ρ F S m u w a hR hF hm h
    have h' : (cond (ops.toList.any isRecover) (cond draw (.err 2200) (runOpsS cx noK ops.toList ops.toList F S m)) (Res.bind (exec cx n (.region id ops draw) F S) fun o => .ok (o.at m) [])).All (SEnds Λ ρ S w c₀ cs Q) := h
    cases hr : ops.toList.any isRecover with
    | false => rw [hr] at h'; exact base _ Q ρ F S m u w a hR hF hm h'
    | true =>
      rw [hr] at h'
      cases draw with
      | true => exact h'.elim
      | false =>
        refine wpSIn_region ?_
        have := runOpsS_wp hcx (c₀ := c₀) (cs := cs) (Q := Q) ops.toList 0 ρ F S m u w a rfl hR hF hm h'
        rw [List.range_eq_range']
        simpa using this
  | seq x y ihx ihy =>
    intro Q ρ F S m u w a hR hF hm h
    have h' : (Res.bind (execS cx (exec cx n) x F S m) fun o => match o.ex with
      | .normal => execS cx (exec cx n) y o.F o.S o.m
      | _ => .ok o []).All (SEnds Λ ρ S w c₀ cs Q) := h
    refine wpSIn_seq (ihx _ ρ F S m u w a hR hF hm ((Res.all_bind h').mono fun o ho ρ' e a' u' w' h0 hm' h1 h2 h3 => ?_))
    cases he : o.ex with
    | normal =>
      rw [he] at ho h0
      cases h0
      exact ihy Q ρ' o.F o.S o.m u' w' a' h1 h2 hm' (ho.mono fun q hq => hq.trans h3)
    | exit id => rw [he] at ho; have := ho.1 ρ' e a' u' w' (by rw [he] at h0 ⊢; exact h0) hm' h1 h2 h3; rw [he] at h0; cases h0; exact this
    | ret => rw [he] at ho; have := ho.1 ρ' e a' u' w' (by rw [he] at h0 ⊢; exact h0) hm' h1 h2 h3; rw [he] at h0; cases h0; exact this
    | goto l => rw [he] at ho; have := ho.1 ρ' e a' u' w' (by rw [he] at h0 ⊢; exact h0) hm' h1 h2 h3; rw [he] at h0; cases h0; exact this
    | pan v => rw [he] at ho; have := ho.1 ρ' e a' u' w' (by rw [he] at h0 ⊢; exact h0) hm' h1 h2 h3; rw [he] at h0; obtain ⟨x, rfl, _⟩ := h0; exact this
  | cond x y z ihy ihz =>
    intro Q ρ F S m u w a hR hF hm h
    have h' : (match eval F x with
      | .bool true => execS cx (exec cx n) y F S m
      | .bool false => execS cx (exec cx n) z F S m
      | _ => .err 2201).All (SEnds Λ ρ S w c₀ cs Q) := h
    have hx := hF.eval x
    split at h'
    · rename_i he
      rw [he] at hx
      exact wpSIn_cond (t := true) (by simpa [VRel] using hx) (ihy Q ρ F S m u w a hR hF hm h')
    · rename_i he
      rw [he] at hx
      exact wpSIn_cond (t := false) (by simpa [VRel] using hx) (ihz Q ρ F S m u w a hR hF hm h')
    · exact h'.elim
  | block id b ihb =>
    intro Q ρ F S m u w a hR hF hm h
    have h' : (Res.bind (execS cx (exec cx n) b F S m) fun o => match o.ex with
      | .exit j => cond (Nat.beq j id) (.ok ⟨.normal, o.F, o.S, o.m⟩ []) (.ok o [])
      | _ => .ok o []).All (SEnds Λ ρ S w c₀ cs Q) := h
    refine wpSIn_block (ihb _ ρ F S m u w a hR hF hm ((Res.all_bind h').mono fun o ho ρ' e a' u' w' h0 hm' h1 h2 h3 => ?_))
    cases he : o.ex with
    | normal => rw [he] at ho; have := ho.1 ρ' e a' u' w' (by rw [he] at h0 ⊢; exact h0) hm' h1 h2 h3; rw [he] at h0; cases h0; exact this
    | ret => rw [he] at ho; have := ho.1 ρ' e a' u' w' (by rw [he] at h0 ⊢; exact h0) hm' h1 h2 h3; rw [he] at h0; cases h0; exact this
    | goto l => rw [he] at ho; have := ho.1 ρ' e a' u' w' (by rw [he] at h0 ⊢; exact h0) hm' h1 h2 h3; rw [he] at h0; cases h0; exact this
    | pan v => rw [he] at ho; have := ho.1 ρ' e a' u' w' (by rw [he] at h0 ⊢; exact h0) hm' h1 h2 h3; rw [he] at h0; obtain ⟨x, rfl, _⟩ := h0; exact this
    | exit j =>
      rw [he] at ho
      simp only [nbeq] at ho
      have h0' := h0
      rw [he] at h0'
      cases h0'
      show if j = id then _ else _
      by_cases hj : j = id
      · rw [decide_eq_true hj] at ho
        rw [if_pos hj]
        exact ho.1 ρ' .normal a' u' w' rfl hm' h1 h2 h3
      · rw [decide_eq_false hj] at ho
        rw [if_neg hj]
        exact ho.1 ρ' (.exit j) a' u' w' h0 hm' h1 h2 h3
  | loop b _ =>
    intro Q ρ F S m u w a hR hF hm h
    have h' : (cond (hasRec b) (.err 2202) (Res.bind (exec cx n (.loop b) F S) fun o => .ok (o.at m) [])).All (SEnds Λ ρ S w c₀ cs Q) := h
    cases hr : hasRec b with
    | true => rw [hr] at h'; exact h'.elim
    | false => rw [hr] at h'; exact base _ Q ρ F S m u w a hR hF hm h'
  | rangeFunc f p x y _ _ => intro Q ρ F S m u w a hR hF hm h; exact (h : False).elim
  | scope b _ => intro Q ρ F S m u w a hR hF hm h; exact (h : False).elim
  | label l => intro Q ρ F S m u w a hR hF hm h; exact (h : False).elim
  | goto l => intro Q ρ F S m u w a hR hF hm h; exact (h : False).elim
  | refuse s => intro Q ρ F S m u w a hR hF hm h; exact (h : False).elim

/-- The way out. -/
theorem leaveL_ok {P : Program} {cx : Cx} (hcx : CxOk Λ P cx) {n : Nat} (hc : CodeOk Λ P cx n) {fn : Func} {F : Fr} {tmps : Array Value} {Post : Ending → World → Prop} :
    ∀ (ds : List ADef) (l : List Deferred) (ρ : Rho) (S : AS) (m : Md) (u : FrameMode) (w : World), R Λ ρ S w → SRel ρ F tmps → DsRel ρ ds l → MdRel ρ m u →
    (leaveL cx (exec cx n) fn F ds m S).All (fun r => ∀ ρ' e w', RetOk ρ' r.1 e → R Λ ρ' r.2 w' → Kp ρ S w ρ' r.2 w' → Post e w') → LeavesInM Fence.wide 0 P fn tmps Post l u w := by
  intro ds
  induction ds with
  | nil =>
    intro l ρ S m u w hR hF hds hm h
    simp only [DsRel] at hds
    subst hds
    cases m with
    | ret =>
      simp only [MdRel] at hm
      subst hm
      have h' : (match resultsV cx fn F S with
        | some v => (.ok (v, S) [] : Res (AV × AS))
        | none => .err 2001).All (fun r => ∀ ρ' e w', RetOk ρ' r.1 e → R Λ ρ' r.2 w' → Kp ρ S w ρ' r.2 w' → Post e w') := h
      cases hv : resultsV cx fn F S with
      | none => rw [hv] at h'; exact h'.elim
      | some v =>
        rw [hv] at h'
        obtain ⟨x, r1, r2⟩ := resultsV_run (P := P) hcx hR hF hv
        exact ⟨x, r1, h'.1 ρ _ w (RetOk.of r2) hR (Kp.refl _ _ _)⟩
    | pan v =>
      obtain ⟨x, rfl, hx⟩ := hm
      exact h.1 ρ _ w ⟨x, rfl, hx⟩ hR (Kp.refl _ _ _)
    | got v => exact (h : False).elim
  | cons d ds ih =>
    intro l ρ S m u w hR hF hds hm h
    obtain ⟨y, ys, rfl, hd, hds'⟩ := hds
    have hu : u ≠ .run := by
      cases m with
      | ret => simp only [MdRel] at hm; subst hm; intro e; cases e
      | pan v => obtain ⟨x, rfl, _⟩ := hm; intro e; cases e
      | got v => obtain ⟨x, rfl, _⟩ := hm; intro e; cases e
    refine ⟨hu, ?_⟩
    cases d with
    | mark id =>
      left
      obtain ⟨pl, p1, p2⟩ := hd
      have h' : (match S.h.get id with
        | some (.oth (.dfr true)) => leaveL cx (exec cx n) fn F ds m (setO S id (.dfr false))
        | _ => .err 2011).All (fun r => ∀ ρ' e w', RetOk ρ' r.1 e → R Λ ρ' r.2 w' → Kp ρ S w ρ' r.2 w' → Post e w') := h
      split at h'
      · rename_i ho
        obtain ⟨pl', o, q1, q2, q3, q4⟩ := hR.objs id _ ho
        rw [p1] at q1; cases q1
        have q3' : o = .deferred (some []) := q3
        subst q3'
        obtain ⟨b1, b2⟩ := putObj_but w (o := .deferred none) q2
        obtain ⟨t1, t2⟩ := hR.setOth (x := .dfr false) ho (by intro a b c d t e; cases e) p1 b1 b2 rfl q4
        exact ⟨pl.b, _, p2, run_takeDeferred q2, ih ys ρ _ m u _ t1 hF hds' hm (h'.mono fun r hr ρ' e w' k0 k1 k2 => hr ρ' e w' k0 k1 (t2.trans k2))⟩
      · exact h'.elim
    | call g as captured =>
      right
      obtain ⟨cap, p1, p2, p3⟩ := hd
      refine ⟨fun hh => by simp [Fence.wide] at hh, ?_⟩
      have h' : (match cx.fns.get g with
        | some gn => match gn.body with
          | some c => Res.bind (execS cx (exec cx n) c (initF (appL as captured) gn.ntmps) S m) fun o => match o.F.ds with
            | [] => match settleM o.ex o.m with
              | some m' => match o.ex with
                | .pan _ => leaveL cx (exec cx n) fn F ds m' o.S
                | _ => match resultsV cx gn o.F o.S with
                  | some _ => leaveL cx (exec cx n) fn F ds m' o.S
                  | none => .err 2012
              | none => .err 2013
            | _ => .err 2014
          | none => .err 2015
        | none => .err 2016).All (fun r => ∀ ρ' e w', RetOk ρ' r.1 e → R Λ ρ' r.2 w' → Kp ρ S w ρ' r.2 w' → Post e w') := h
      cases hg : cx.fns.get g with
      | none => rw [hg] at h'; exact h'.elim
      | some gn =>
        rw [hg] at h'
        simp only [] at h'
        have hgn := hcx.fns g gn hg
        cases hb : gn.body with
        | none => rw [hb] at h'; exact h'.elim
        | some c =>
          rw [hb] at h'
          simp only [] at h'
          have hen := hcx.enters g gn hgn (by rw [hb]; rfl) (y.args ++ cap) w
          refine ⟨.func g, cap, g, y.args ++ cap, p1, ?_, fun _ _ => trivial, callsDIn_of_wpSIn hgn hb trivial fun c₀ cs hmode => ?_⟩
          · rw [p1]; exact hen
          · have hc0 : c₀ = { c₀ with mode := u } := by subst hmode; rfl
            rw [hc0]
            have hl : LRel ρ (appL as captured) (y.args ++ cap).toList := by
              rw [appL_eq, Array.toList_append]; exact p2.append p3
            refine execS_ok hcx hc (c₀ := c₀) (cs := cs) c _ ρ _ S m u w _ hR (initF_rel hl gn.ntmps) hm ((Res.all_bind h').mono fun o ho ρ' e a' u' w' k0 km k1 k2 k3 => ?_)
            cases hds2 : o.F.ds with
            | cons _ _ => rw [hds2] at ho; exact ho.elim
            | nil =>
              rw [hds2] at ho
              simp only [] at ho
              have hdf : a'.defers = [] := by
                have := k2.defers
                rw [hds2] at this
                exact this
              cases hst : settleM o.ex o.m with
              | none => rw [hst] at ho; exact ho.elim
              | some m' =>
                rw [hst] at ho
                simp only [] at ho
                have go : ∀ u2, MdRel ρ' m' u2 → (leaveL cx (exec cx n) fn F ds m' o.S).All (fun r => ∀ ρ' e w', RetOk ρ' r.1 e → R Λ ρ' r.2 w' → Kp ρ S w ρ' r.2 w' → Post e w') → LeavesInM Fence.wide 0 P fn tmps Post ys u2 w' := by
                  intro u2 hm2 hall
                  exact ih ys ρ' _ m' u2 w' k1 (hF.mono k3.ext) (hds'.mono k3.ext) hm2 (hall.mono fun r hr ρ'' e w'' j0 j1 j2 => hr ρ'' e w'' j0 j1 (k3.trans j2))
                have ret : (∃ v, (results gn a'.tmps).run P w' = .ok v w') → (leaveL cx (exec cx n) fn F ds m' o.S).All (fun r => ∀ ρ' e w', RetOk ρ' r.1 e → R Λ ρ' r.2 w' → Kp ρ S w ρ' r.2 w' → Post e w') → MdRel ρ' m' (Go.settle u') →
                    a'.defers = [] ∧ ∃ u'', ({ c₀ with mode := u' } :: cs : List Frame) = { ({ c₀ with mode := u } : Frame) with mode := u'' } :: cs ∧ ∃ v, (results gn a'.tmps).run P w' = .ok v w' ∧ LeavesInM Fence.wide 0 P fn tmps Post ys (Go.settle u'') w' := by
                  rintro ⟨v, hv⟩ hall hm2
                  exact ⟨hdf, u', rfl, v, hv, go _ hm2 hall⟩
                have settles : ∀ (b : Bool), o.ex = (if b then Ex.normal else Ex.ret) → MdRel ρ' m' (Go.settle u') := by
                  intro b hb
                  rw [hb] at hst
                  cases hom : o.m with
                  | ret => rw [hom] at hst km; simp only [MdRel] at km; subst km; cases b <;> (cases hst; exact rfl)
                  | pan v => rw [hom] at hst km; obtain ⟨x, rfl, hx⟩ := km; cases b <;> (cases hst; exact ⟨x, rfl, hx⟩)
                  | got v => rw [hom] at hst km; obtain ⟨x, rfl, hx⟩ := km; cases b <;> (cases hst; exact rfl)
                cases hex : o.ex with
                | normal =>
                  rw [hex] at ho k0
                  cases k0
                  simp only [] at ho
                  cases hv : resultsV cx gn o.F o.S with
                  | none => rw [hv] at ho; exact ho.elim
                  | some v =>
                    rw [hv] at ho
                    obtain ⟨x, r1, _⟩ := resultsV_run (P := P) hcx k1 k2.srel hv
                    exact ret ⟨x, r1⟩ ho (settles true hex)
                | ret =>
                  rw [hex] at ho k0
                  cases k0
                  simp only [] at ho
                  cases hv : resultsV cx gn o.F o.S with
                  | none => rw [hv] at ho; exact ho.elim
                  | some v =>
                    rw [hv] at ho
                    obtain ⟨x, r1, _⟩ := resultsV_run (P := P) hcx k1 k2.srel hv
                    exact ret ⟨x, r1⟩ ho (settles false hex)
                | exit i => rw [hex] at hst; cases hom : o.m <;> rw [hom] at hst <;> cases hst
                | goto l => rw [hex] at hst; cases hom : o.m <;> rw [hom] at hst <;> cases hst
                | pan v =>
                  rw [hex] at ho k0
                  obtain ⟨x, rfl, hx⟩ := k0
                  rw [hex] at hst
                  cases hom : o.m with
                  | ret =>
                    rw [hom] at hst km
                    simp only [MdRel] at km
                    subst km
                    cases hst
                    exact ⟨hdf, .returning, rfl, go _ ⟨x, rfl, hx⟩ ho⟩
                  | pan v' => rw [hom] at hst; cases hst
                  | got v' => rw [hom] at hst; cases hst

end Go.Am

namespace Go.Am
open Go
variable {Λ : LB}

theorem sameVF_eq : ∀ (n : Nat) (x y : AV), sameVF n x y = true → x = y := by
  intro n
  induction n with
  | zero => intro x y h; cases h
  | succ n ih =>
    have lists : ∀ (a b : List AV), (List.rec (motive := fun _ => List AV → Bool) (fun b => List.casesOn (motive := fun _ => Bool) b true fun _ _ => false)
        (fun x _ ihl b => List.casesOn (motive := fun _ => Bool) b false fun y t => cond (sameVF n x y) (ihl t) false) a) b = true → a = b := by
      intro a
      induction a with
      | nil => intro b h; cases b with
        | nil => rfl
        | cons _ _ => cases h
      | cons x a iha =>
        intro b h
        cases b with
        | nil => cases h
        | cons y b =>
          have h' : cond (sameVF n x y) ((List.rec (motive := fun _ => List AV → Bool) (fun b => List.casesOn (motive := fun _ => Bool) b true fun _ _ => false)
            (fun x _ ihl b => List.casesOn (motive := fun _ => Bool) b false fun y t => cond (sameVF n x y) (ihl t) false) a) b) false = true := h
          cases hxy : sameVF n x y with
          | false => rw [hxy] at h'; cases h'
          | true =>
            rw [hxy] at h'
            rw [ih x y hxy, iha b h']
    have hun : ∀ x y : AV, sameVF (n + 1) x y = (match x, y with
      | .bool a, .bool b => cond a b (!b)
      | .int j a, .int k b => kindEq j k && eqI a b
      | .str a, .str b => eqS a b
      | .nilp, .nilp => true
      | .ptr a b c d, .ptr e f g h => Nat.beq a e && Nat.beq b f && Nat.beq c g && Nat.beq d h
      | .nils, .nils => true
      | .slice a b c d e f none, .slice a' b' c' d' e' f' none => Nat.beq a a' && Nat.beq b b' && Nat.beq c c' && Nat.beq d d' && Nat.beq e e' && Nat.beq f f'
      | .slice a b c d e f (some g), .slice a' b' c' d' e' f' (some g') => Nat.beq a a' && Nat.beq b b' && Nat.beq c c' && Nat.beq d d' && Nat.beq e e' && Nat.beq f f' && Nat.beq g g'
      | .nilm, .nilm => true
      | .map a, .map b => Nat.beq a b
      | .func (.func f) a b, .func (.func g) c d => Nat.beq f g && (List.rec (motive := fun _ => List AV → Bool) (fun b => List.casesOn (motive := fun _ => Bool) b true fun _ _ => false)
        (fun x _ ihl b => List.casesOn (motive := fun _ => Bool) b false fun y t => cond (sameVF n x y) (ihl t) false) a) c && (List.rec (motive := fun _ => List AV → Bool) (fun b => List.casesOn (motive := fun _ => Bool) b true fun _ _ => false)
        (fun x _ ihl b => List.casesOn (motive := fun _ => Bool) b false fun y t => cond (sameVF n x y) (ihl t) false) b) d
      | .obj .yld a, .obj .yld b => Nat.beq a b
      | .obj .chan a, .obj .chan b => Nat.beq a b
      | .obj .sym a, .obj .sym b => Nat.beq a b
      | .nilf, .nilf => true
      | .niface, .niface => true
      | .iface t v, .iface u w => Nat.beq t u && sameVF n v w
      | .agg a, .agg b => (List.rec (motive := fun _ => List AV → Bool) (fun b => List.casesOn (motive := fun _ => Bool) b true fun _ _ => false)
        (fun x _ ihl b => List.casesOn (motive := fun _ => Bool) b false fun y t => cond (sameVF n x y) (ihl t) false) a) b
      | .tuple a, .tuple b => (List.rec (motive := fun _ => List AV → Bool) (fun b => List.casesOn (motive := fun _ => Bool) b true fun _ _ => false)
        (fun x _ ihl b => List.casesOn (motive := fun _ => Bool) b false fun y t => cond (sameVF n x y) (ihl t) false) a) b
      | _, _ => false) := fun x y => rfl
    intro x y h
    rw [hun] at h
    split at h
    all_goals try (cases h; done)
    all_goals try rfl
    all_goals try simp only [Bool.and_eq_true, nbeq, decide_eq_true_eq, eqI_eq, eqS_eq, kindEq_eq] at h
    · rename_i a b; cases a <;> cases b <;> simp_all
    · obtain ⟨rfl, rfl⟩ := h; rfl
    · subst h; rfl
    · obtain ⟨⟨⟨rfl, rfl⟩, rfl⟩, rfl⟩ := h; rfl
    · obtain ⟨⟨⟨⟨⟨rfl, rfl⟩, rfl⟩, rfl⟩, rfl⟩, rfl⟩ := h; rfl
    · obtain ⟨⟨⟨⟨⟨⟨rfl, rfl⟩, rfl⟩, rfl⟩, rfl⟩, rfl⟩, rfl⟩ := h; rfl
    · subst h; rfl
    · obtain ⟨⟨rfl, h1⟩, h2⟩ := h; rw [lists _ _ h1, lists _ _ h2]
    · subst h; rfl
    · subst h; rfl
    · subst h; rfl
    · obtain ⟨rfl, h2⟩ := h; rw [ih _ _ h2]
    · rw [lists _ _ h]
    · rw [lists _ _ h]

theorem flat_rel : ∀ (n : Nat) (v : AV) (x : Value) (ρ ρ' : Rho), flatF n v = true → VRel ρ v x → VRel ρ' v x := by
  intro n
  induction n with
  | zero => intro v x ρ ρ' h; cases h
  | succ n ih =>
    intro v x ρ ρ' h hv
    have lst : ∀ (l : List AV) (ys : List Value), flatL (flatF n) l = true → LRel ρ l ys → LRel ρ' l ys := by
      intro l
      induction l with
      | nil => intro ys _ h; simpa [LRel] using h
      | cons a l ihl =>
        intro ys hf h
        simp only [flatL, Bool.and_eq_true] at hf
        simp only [LRel] at h
        obtain ⟨y, t, rfl, p, q⟩ := h
        exact LRel.cons (ih a y ρ ρ' hf.1 p) (ihl t hf.2 q)
    cases v <;> simp only [flatF, Bool.false_eq_true] at h <;> (try (simp only [VRel] at hv ⊢; exact hv))
    · simp only [VRel] at hv ⊢
      obtain ⟨y, e, p⟩ := hv
      exact ⟨y, e, ih _ _ _ _ h p⟩
    · simp only [VRel] at hv ⊢
      obtain ⟨a, e, p, q⟩ := hv
      exact ⟨a, e, lst _ _ h p, q⟩
    · simp only [VRel] at hv ⊢
      obtain ⟨a, e, p⟩ := hv
      exact ⟨a, e, lst _ _ h p⟩

mutual
/-- What one knew of a value's parts suffices. -/
theorem VRel.restrict {ρ ρ1 ρ' : Rho} (h1 : Ext ρ ρ1) (h2 : Ext ρ ρ') : ∀ (x : AV) (v0 v : Value), VRel ρ x v0 → VRel ρ' x v → VRel ρ1 x v
  | .top, _, _, _, _ => by simp [VRel]
  | .bool b, _, v, _, hv => by simpa [VRel] using hv
  | .int k n, _, v, _, hv => by simpa [VRel] using hv
  | .str s, _, v, _, hv => by simpa [VRel] using hv
  | .nilp, _, v, _, hv => by simpa [VRel] using hv
  | .ptr id g off lim, _, v, h0, hv => by
    simp only [VRel] at *
    obtain ⟨pl, a, b, c⟩ := h0
    obtain ⟨pl', a', b', c'⟩ := hv
    rw [h2 _ _ _ a] at a'; cases a'
    exact ⟨pl, h1 _ _ _ a, b', c'⟩
  | .glob g off, _, v, _, hv => by simpa [VRel] using hv
  | .nils, _, v, _, hv => by simpa [VRel] using hv
  | .slice id g off len lim sz cap, _, v, h0, hv => by
    simp only [VRel] at *
    obtain ⟨pl, c, a, _⟩ := h0
    obtain ⟨pl', c', a', rest⟩ := hv
    rw [h2 _ _ _ a] at a'; cases a'
    exact ⟨pl, c', h1 _ _ _ a, rest⟩
  | .nilm, _, v, _, hv => by simpa [VRel] using hv
  | .map id, _, v, h0, hv => by
    simp only [VRel] at *
    obtain ⟨pl, a, b⟩ := h0
    obtain ⟨pl', a', b'⟩ := hv
    rw [h2 _ _ _ a] at a'; cases a'
    exact ⟨pl, h1 _ _ _ a, b'⟩
  | .func fn f c, _, v, h0, hv => by
    simp only [VRel] at *
    obtain ⟨a, b, e, p, q⟩ := h0
    obtain ⟨a', b', e', p', q'⟩ := hv
    exact ⟨a', b', e', LRel.restrict h1 h2 f _ _ p p', LRel.restrict h1 h2 c _ _ q q'⟩
  | .nilf, _, v, _, hv => by simpa [VRel] using hv
  | .niface, _, v, _, hv => by simpa [VRel] using hv
  | .iface t x, _, v, h0, hv => by
    simp only [VRel] at *
    obtain ⟨y, e, p⟩ := h0
    obtain ⟨y', e', p'⟩ := hv
    exact ⟨y', e', VRel.restrict h1 h2 x _ _ p p'⟩
  | .agg cs, _, v, h0, hv => by
    simp only [VRel] at *
    obtain ⟨a, e, p, q⟩ := h0
    obtain ⟨a', e', p', q'⟩ := hv
    exact ⟨a', e', LRel.restrict h1 h2 cs _ _ p p', q'⟩
  | .tuple vs, _, v, h0, hv => by
    simp only [VRel] at *
    obtain ⟨a, e, p⟩ := h0
    obtain ⟨a', e', p'⟩ := hv
    exact ⟨a', e', LRel.restrict h1 h2 vs _ _ p p'⟩
  | .obj k id, _, v, h0, hv => by
    simp only [VRel] at *
    obtain ⟨pl, a, b⟩ := h0
    obtain ⟨pl', a', b'⟩ := hv
    rw [h2 _ _ _ a] at a'; cases a'
    exact ⟨pl, h1 _ _ _ a, b'⟩
  | .nilc, _, v, _, hv => by simpa [VRel] using hv
  | .pan _, _, _, h0, _ => by simp only [VRel] at h0
theorem LRel.restrict {ρ ρ1 ρ' : Rho} (h1 : Ext ρ ρ1) (h2 : Ext ρ ρ') : ∀ (xs : List AV) (l0 l : List Value), LRel ρ xs l0 → LRel ρ' xs l → LRel ρ1 xs l
  | [], _, l, _, hl => by simpa [LRel] using hl
  | x :: xs, _, l, h0, hl => by
    simp only [LRel] at *
    obtain ⟨y, ys, e, p, q⟩ := h0
    obtain ⟨y', ys', e', p', q'⟩ := hl
    exact ⟨y', ys', e', VRel.restrict h1 h2 x _ _ p p', LRel.restrict h1 h2 xs _ _ q q'⟩
end


theorem sameLs_eq (n : Nat) : ∀ (a b : List AV), sameLs n a b = true → a = b := by
  intro a
  induction a with
  | nil => intro b h; cases b with
    | nil => rfl
    | cons _ _ => cases h
  | cons x a iha =>
    intro b h
    cases b with
    | nil => cases h
    | cons y b =>
      have h' : cond (sameVF n x y) (sameLs n a b) false = true := h
      cases hxy : sameVF n x y with
      | false => rw [hxy] at h'; cases h'
      | true =>
        rw [hxy] at h'
        rw [sameVF_eq n x y hxy, iha b h']
theorem sameEs_eq : ∀ (a b : List AEnt), sameEs a b = true → a = b := by
  intro a
  induction a with
  | nil => intro b h; cases b with
    | nil => rfl
    | cons _ _ => cases h
  | cons x a iha =>
    intro b h
    cases b with
    | nil => cases h
    | cons y b =>
      have h' : cond (sameVF 8 x.key y.key && sameVF 8 x.val y.val && Nat.beq x.born y.born) (sameEs a b) false = true := h
      cases hxy : (sameVF 8 x.key y.key && sameVF 8 x.val y.val && Nat.beq x.born y.born) with
      | false => rw [hxy] at h'; cases h'
      | true =>
        rw [hxy] at h'
        simp only [Bool.and_eq_true, nbeq, decide_eq_true_eq] at hxy
        obtain ⟨⟨h1, h2⟩, h3⟩ := hxy
        obtain ⟨k, v, n⟩ := x
        obtain ⟨k', v', n'⟩ := y
        simp only at h1 h2 h3
        rw [sameVF_eq _ _ _ h1, sameVF_eq _ _ _ h2, h3, iha b h']
theorem sameO_eq {a b : AObj} (h : sameO a b = true) : a = b := by
  unfold sameO at h
  split at h
  · simp only [Bool.and_eq_true, nbeq, decide_eq_true_eq] at h
    obtain ⟨⟨⟨⟨h1, h2⟩, h3⟩, h4⟩, h5⟩ := h
    rename_i c l t f y c' l' t' f' y'
    rw [sameLs_eq _ _ _ h1, h2, h3, h5]
    cases f <;> cases f' <;> simp_all
  · simp only [Bool.and_eq_true, nbeq, decide_eq_true_eq] at h
    rw [sameEs_eq _ _ h.1, h.2]
  · cases h
theorem OthRel.restrict {ρ ρ1 ρ' : Rho} (h1 : Ext ρ ρ1) (h2 : Ext ρ ρ') {x : AOth} {o0 o : Obj} (h0 : OthRel ρ x o0) (h : OthRel ρ' x o) : OthRel ρ1 x o := by
  cases x with
  | iter m since seen last =>
    cases m with
    | none => exact h
    | some m =>
      obtain ⟨pl, sn, r1, r2, r3⟩ := h
      obtain ⟨pl0, sn0, q1, _, _⟩ := h0
      have := h2 _ _ _ q1
      rw [r1] at this; cases this
      exact ⟨pl, sn, h1 _ _ _ q1, r2, r3⟩
  | siter s pos => exact h
  | loop st j F ps a b =>
    obtain ⟨fn, tmps, d, r1, r2, r3⟩ := h
    obtain ⟨fn0, tmps0, d0, q1, q2, _⟩ := h0
    exact ⟨fn, tmps, d, r1, ⟨fun t => VRel.restrict h1 h2 _ _ _ (q2.slot t) (r2.slot t), r2.size⟩, r3⟩
  | dfr op => exact h
  | chan cap buf =>
    obtain ⟨B, s, r, r1, r2⟩ := h
    obtain ⟨B0, s0, r0, q1, q2⟩ := h0
    exact ⟨B, s, r, r1, LRel.restrict h1 h2 _ _ _ q2 r2⟩
/-- An object that stands through ρ', of whose parts one knew through ρ, stands through what ρ' says of its own and ρ of the others. -/
theorem ORel.restrict {ρ ρ1 ρ' : Rho} (h1 : Ext ρ ρ1) (h2 : Ext ρ ρ') {w w' : World} {id : Nat} {o : AObj} (hid : ∀ g, ρ1 id g = ρ' id g) (h0 : ORel ρ w id o) (h : ORel ρ' w' id o) : ORel ρ1 w' id o := by
  cases o with
  | row cells low top frz ty =>
    obtain ⟨a1, a2, a3⟩ := h
    obtain ⟨b1, b2, b3⟩ := h0
    refine ⟨a1, fun g g1 g2 => ?_, fun g k p p' c1 c2 c3 c4 e1 e2 => ?_⟩
    · obtain ⟨pl, C, fr, q1, q2, q3, q4, q5, q6, q7, q8, q9⟩ := a2 g g1 g2
      obtain ⟨pl0, C0, fr0, r1, r2, r3, r4, r5, r6, r7, r8, r9⟩ := b2 g g1 g2
      have e0 := h2 id g pl0 r1
      rw [q1] at e0
      cases e0
      refine ⟨pl, C, fr, by rw [hid]; exact q1, q2, q3, q4, q5, fun i hi => ?_, q7, q8, q9⟩
      obtain ⟨y, u, s1, s2, s3, s4⟩ := q6 i hi
      obtain ⟨y0, u0, t1, t2, t3, t4⟩ := r6 i hi
      rw [s1] at t1
      cases t1
      exact ⟨y, u, s1, s2, VRel.restrict h1 h2 _ _ _ t3 s3, s4⟩
    · rw [hid] at e1 e2
      exact a3 g k p p' c1 c2 c3 c4 e1 e2
  | map es clock =>
    obtain ⟨pl, ES, q1, q2, q3⟩ := h
    obtain ⟨pl0, ES0, r1, r2, r3⟩ := h0
    refine ⟨pl, ES, by rw [hid]; exact q1, q2, q3.1, fun i e m he hm => ?_⟩
    obtain ⟨s1, s2, s3⟩ := q3.2 i e m he hm
    have hil : i < es.length := by
      rcases Nat.lt_or_ge i es.length with hh | hh
      · exact hh
      · rw [List.getElem?_eq_none hh] at he; cases he
    obtain ⟨m0, hm0⟩ : ∃ m0, ES0.toList[i]? = some m0 := ⟨_, List.getElem?_eq_getElem (by rw [← r3.1]; exact hil)⟩
    obtain ⟨t1, t2, t3⟩ := r3.2 i e m0 he hm0
    exact ⟨VRel.restrict h1 h2 _ _ _ t1 s1, VRel.restrict h1 h2 _ _ _ t2 s2, s3⟩
  | oth x =>
    obtain ⟨pl, o, q1, q2, q3, q4⟩ := h
    obtain ⟨pl0, o0, r1, r2, r3, r4⟩ := h0
    exact ⟨pl, o, by rw [hid]; exact q1, q2, OthRel.restrict h1 h2 r3 q3, q4⟩

end Go.Am
