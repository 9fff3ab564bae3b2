/-
Regions whose order is drawn: every order.
Regions whose order is drawn: the run in the text's order fills the tables.
Regions whose order is drawn: done.
Regions whose order is drawn: what the abstract machine says is so.
-/
import Derived.Test.YtcphlgkfboafoaaGreatDoorA4
set_option linter.unusedVariables false
set_option linter.unusedSimpArgs false
namespace Go.Am
open Go

section
variable {P : Program} {cfg : Cfg} {call : FuncId → List AV → ASt → Option CR} {fuel : Nat} {rm : Bool} {ops : Array Oper} {anc : List Nat} {base : Nat} {fr0 : AFr} {T : Tab}
  {Γ0 : Ctx} {σ0 : ASt} {S : Nat → Bool} {a : Act} {Γ : Ctx} {k : Nat} {c : Core} {ts : List AV}

def more (S : Nat → Bool) (j : Nat) : Nat → Bool := fun p => decide (p = j) || S p
theorem more_self (S : Nat → Bool) (j : Nat) : more S j j = true := by simp [more]
theorem more_ne {S : Nat → Bool} {j p : Nat} (h : p ≠ j) : more S j p = S p := by simp [more, h]
theorem more_of {S : Nat → Bool} {j p : Nat} (h : S p = true) : more S j p = true := by simp [more, h]
theorem more_inv {S : Nat → Bool} {j p : Nat} (h : more S j p = true) : p = j ∨ S p = true := by simpa [more] using h
theorem more_false {S : Nat → Bool} {j p : Nat} (h : more S j p = false) : p ≠ j ∧ S p = false := by simpa [more] using h

theorem viewF_low {id : Nat} (h : id < base) (c : Core) (S : Nat → Bool) (news : List (Nat × Blk)) : (viewF base c S news).get id = c.σ.get id := by
  rw [viewF_get, if_neg (by omega)]

theorem sub_view {A : Nat → Bool} (hAS : ∀ q, A q = true → S q = true) (hold : ∀ p, S p = true → c.anc.testBit p = false → (newAt T.news p).isSome = true → c.σ.get (base + p) = none) :
    ∀ id B, (viewF base c A T.news).get id = some B → (viewF base c S T.news).get id = some B := by
  intro id B h
  rw [viewF_get] at h ⊢
  by_cases h1 : base ≤ id ∧ A (id - base) = true ∧ c.anc.testBit (id - base) = false
  · rw [if_pos h1] at h
    rw [if_pos ⟨h1.1, hAS _ h1.2.1, h1.2.2⟩]
    exact h
  · rw [if_neg h1] at h
    by_cases h2 : base ≤ id ∧ S (id - base) = true ∧ c.anc.testBit (id - base) = false
    · rw [if_pos h2]
      cases hn : newAt T.news (id - base) with
      | none => simpa using h
      | some b =>
        have := hold _ h2.2.1 h2.2.2 (by rw [hn]; rfl)
        rw [show base + (id - base) = id by omega, h] at this
        cases this
    · rw [if_neg h2]; exact h

/-- Behind an operation that writes nothing that was there. -/
theorem J.stay (hA : Anc ops anc) (hJ : J ops anc base fr0 T Γ0 σ0 S a Γ k c ts) (hn0 : base + ops.size ≤ σ0.next) {j : Nat} {o : Oper} (ho : ops[j]? = some o) (hj : S j = false)
    (hrd : ∀ q, (anc.getD j 0).testBit q = true → S q = true) {v : AV} (hv : T.val j = some v) (hnw : NW T j) (hnb : NB T j) {Γ' : Ctx} {a' : Act}
    (hG : Good Γ (viewF base c S T.news) Γ' (viewF base c (more S j) T.news) (fun i => i = base + j ∨ c.σ.next ≤ i)) (hf : FRel Γ' (AFr.put ⟨ts, fr0.ds⟩ o.dst v) a') :
    J ops anc base fr0 T Γ0 σ0 (more S j) a' Γ' k c (AFr.put ⟨ts, fr0.ds⟩ o.dst v).ts := by
  have hlt : j < ops.size := (Array.getElem?_eq_some_iff.1 ho).1
  have hnx : σ0.next ≤ c.σ.next := by have := hJ.good.step.next; rwa [(viewF_next base c S T.news).1] at this
  refine ⟨hJ.good.trans hG (fun i h => h) (fun i h => by omega), hJ.core, fun k' c' w h1 h2 h3 => more_of (hJ.inS k' c' w h1 h2 h3), fun k' c' h1 h2 => ?_, ?_, ?_, fun p hp hs hd => ?_, fun p hp h1 h2 => ?_, fun p q hp hq => ?_, fun p hp => ?_, fun b v' σ' hb => ?_⟩
  · obtain ⟨w, e1, e2⟩ := hJ.notS k' c' h1 h2
    refine ⟨w, e1, ?_⟩
    rw [more_ne (by rintro rfl; exact hnw k' c' h2 e1)]
    exact e2
  · refine hJ.ag.put ho (fun p hp => ?_) ?_ fun p h1 h2 d hd hpd => ?_
    · unfold lim; rw [more_ne hp]
    · unfold lim; rw [more_self, if_pos rfl]; exact hv
    · have hop : ops[p]? = some ops[p] := Array.getElem?_eq_getElem h2
      rw [hop] at hpd
      simp only [Option.bind_some] at hpd
      unfold lim
      rw [if_neg]
      intro hs
      rcases hA.apart p j _ o h1 hop ho with ha | ha
      · rw [hJ.down p j hs ha] at hj; cases hj
      · exact (Oper.apart_spec ha).2.1 d hpd hd
  · have e : (AFr.put ⟨ts, fr0.ds⟩ o.dst v).ds = fr0.ds := by cases o.dst <;> rfl
    have := hf
    exact ⟨this.ts, by have := this.ds; rwa [e] at this⟩
  · obtain ⟨h1, h2⟩ := more_false hs
    rcases hG.dom _ hd with h | h | h
    · exact hJ.fresh p hp h2 h
    · omega
    · omega
  · rcases more_inv hp with rfl | hp
    · cases hg : c.σ.get (base + p) with
      | none => rfl
      | some B =>
        have : (viewF base c S T.news).get (base + p) = some B := by
          rw [viewF_get, if_neg]
          · exact hg
          · rw [show base + p - base = p by omega]; simp [hj]
        exact absurd (hJ.good.inv.blk _ _ this).1 (hJ.fresh p hlt hj)
    · exact hJ.hold p hp h1 h2
  · rcases more_inv hp with rfl | hp
    · exact more_of (hrd q hq)
    · exact more_of (hJ.down p q hp hq)
  · rcases more_inv hp with rfl | hp
    · exact hlt
    · exact hJ.slt p hp
  · rw [more_ne (by rintro rfl; exact hnb v' σ' hb)]
    exact hJ.nbad b v' σ' hb

theorem J.op {σ0' : ASt} {m : Nat} (hC : CallOK P cfg call) (hA : Anc ops anc) (hT : TabOK P cfg call fuel rm ops anc base fr0 T σ0' m) (hJ : J ops anc base fr0 T Γ0 σ0 S a Γ k c ts) (hg : GR Γ0 cfg) (hn0 : base + ops.size ≤ σ0.next) (hwp : σ0.wp ≤ base)
    {j : Nat} {o : Oper} (hjm : j < m) (ho : ops[j]? = some o) (hj : S j = false) (hrd : ∀ q, (anc.getD j 0).testBit q = true → S q = true) {K : Act → World → Prop} {Q : Exit → Act → World → Prop}
    (hK : ∀ Γ' a' k' c' ts', J ops anc base fr0 T Γ0 σ0 (more S j) a' Γ' k' c' ts' → K a' Γ'.w)
    (hB : ∀ v σ' Γ' y, T.bad = some (j, v, σ') → Good Γ0 σ0 Γ' σ' (base ≤ ·) → VR Γ' v y → FRel Γ' ⟨ts, fr0.ds⟩ a → Q (.panic [{ v := y, recovered := false }]) a Γ'.w) :
    wpOp P ops Q j K a Γ.w := by
  have hlt : j < ops.size := (Array.getElem?_eq_some_iff.1 ho).1
  have hnx : σ0.next ≤ c.σ.next := by have := hJ.good.step.next; rwa [(viewF_next base c S T.news).1] at this
  have hwp' : c.σ.wp = σ0.wp := by have := hJ.good.step.wp; rwa [(viewF_next base c S T.news).2] at this
  have hgr : GR Γ cfg := hg.ext hJ.good.step.ext
  have hsub := sub_view (T := T) (base := base) (c := c) (A := (anc.getD j 0).testBit) hrd hJ.hold
  obtain ⟨ts', hag', hfact⟩ := hT.facts j o hjm ho
  have hlook := look_eq hA ho hj hrd hJ.down hJ.ag hag'
  have hIs : Inv Γ (viewF base c (anc.getD j 0).testBit T.news) := hJ.good.inv.sub hsub (by rw [(viewF_next ..).1, (viewF_next ..).1])
  have hF : Fresh Γ (viewF base c (anc.getD j 0).testBit T.news) (base + j) := ⟨hJ.fresh j hlt hj, by rw [(viewF_next ..).1]; omega, by rw [(viewF_next ..).2]; omega⟩
  have hbj : ∀ S' : Nat → Bool, S' j = false → (viewF base c S' T.news).get (base + j) = c.σ.get (base + j) := fun S' h => by
    rw [viewF_get, if_neg]; rw [show base + j - base = j by omega]; simp [h]
  have hcj : c.σ.get (base + j) = none := by
    cases hg' : c.σ.get (base + j) with
    | none => rfl
    | some B => exact absurd (hJ.good.inv.blk _ _ ((hbj S hj).trans hg')).1 (hJ.fresh j hlt hj)
  have hancj : (anc.getD j 0).testBit j = false := by
    cases h : (anc.getD j 0).testBit j with
    | false => rfl
    | true => exact absurd (hA.lt j o j ho h) (Nat.lt_irrefl _)
  unfold wpOp
  simp only [ho]
  rcases hfact with ⟨b, v, σ, hb, hbj'⟩ | ⟨hgo, hfact⟩
  · have := hJ.nbad b v σ hb
    rw [hrd b hbj'] at this
    cases this
  · obtain ⟨g1, g2⟩ := guard_look (ops := ops) hlook
    rw [g1] at hgo
    rw [wanted_ok hJ.fr.ts hgo]
    rw [g2] at hfact
    rcases hfact with ⟨hw, hv, hn, hnw, hnb⟩ | ⟨hw, hfact⟩
    · rw [hw]
      simp only [Bool.false_eq_true, if_false]
      have heq : ∀ id, (viewF base c (more S j) T.news).get id = (viewF base c S T.news).get id := by
        intro id
        by_cases hid : id = base + j
        · subst hid
          rw [viewF_get, hbj S hj]
          split
          · rw [show base + j - base = j by omega, hn]; rfl
          · rfl
        · rw [viewF_get, viewF_get]
          by_cases hle : base ≤ id
          · rw [more_ne (by omega)]
          · rw [if_neg (by omega), if_neg (by omega)]
      refine hK Γ _ k c _ (J.stay hA hJ hn0 ho hj hrd hv hnw hnb ?_ (hJ.fr.put _ .undefT))
      exact Good.drop hJ.good.inv (fun id B h => by rw [heq] at h; exact h) (fun id _ => heq id) (by rw [(viewF_next ..).2, (viewF_next ..).2]) (by rw [(viewF_next ..).1, (viewF_next ..).1])
    · rw [hw]
      simp only [if_true]
      refine .inl ?_
      rcases hfact with ⟨⟨v, hv, hst⟩, hnw, hnb⟩ | ⟨⟨k0, c0, c', v, e1, e2, e3, hv, hn, hch, hrun⟩, hnb⟩ | ⟨k0, c0, v, σ', hb, e1, e2, hch, hrun⟩
      · have hs := hst k c hJ.core (fun k' c' w h1 h2 h3 => by
          cases h : (anc.getD w 0).testBit j with
          | false => rfl
          | true => rw [hJ.down w j (hJ.inS k' c' w h1 h2 h3) h] at hj; cases hj) (fun k' c' w h1 h2 h3 => by
          obtain ⟨w', e1, e2⟩ := hJ.notS k' c' h1 h2
          rw [h3] at e1
          obtain rfl := Option.some.inj e1
          cases h : (anc.getD j 0).testBit w with
          | false => rfl
          | true => rw [hrd w h] at e2; cases e2)
        rw [stillA_look hlook] at hs
        refine stepA_ok hC hIs hgr hJ.fr hF (stepA_still hs) fun Γ' a' hG hf => ?_
        refine hK Γ' a' k c _ (J.stay hA hJ hn0 ho hj hrd hv hnw hnb ?_ hf)
        have hD : (fun i => i = base + j ∨ (viewF base c (anc.getD j 0).testBit T.news).next ≤ i) = fun i => i = base + j ∨ c.σ.next ≤ i := by rw [(viewF_next ..).1]
        rw [hD] at hG
        have hlow : ∀ id, id < (viewF base c S T.news).wp → (viewF base c (more S j) T.news).get id = (viewF base c S T.news).get id := fun id h => by
          rw [(viewF_next ..).2] at h
          rw [viewF_low (by omega), viewF_low (by omega)]
        refine (Good.frame hJ.good.inv hsub hG (fun id B h => ?_) hlow (by rw [(viewF_next ..).2, (viewF_next ..).2]) (by rw [(viewF_next ..).1, (viewF_next ..).1]) (by rw [(viewF_next ..).2, (viewF_next ..).2]) ?_).1
        · by_cases hid : id = base + j
          · subst hid
            rw [viewF_get] at h
            rw [show base + j - base = j by omega] at h
            left
            cases hn : newAt T.news j with
            | none =>
              rw [hn] at h
              simp only [Option.none_or, ite_self] at h
              rw [hcj] at h; cases h
            | some b =>
              rw [hn] at h
              simp only [putN, ASt.get_put, if_true]
              by_cases hc : c.anc.testBit j = false
              · rw [if_pos ⟨by omega, more_self S j, hc⟩] at h
                simpa using h
              · rw [if_neg (by simp [hc]), hcj] at h; cases h
          · have hbig : (viewF base c (more S j) T.news).get id = (viewF base c S T.news).get id := by
              rw [viewF_get, viewF_get]
              by_cases hle : base ≤ id
              · rw [more_ne (by omega)]
              · rw [if_neg (by omega), if_neg (by omega)]
            rw [hbig] at h
            cases hsm : (viewF base c (anc.getD j 0).testBit T.news).get id with
            | none => exact .inr ⟨h, rfl⟩
            | some B' =>
              left
              have hBB := (hsub id B' hsm).symm.trans h
              cases hn : newAt T.news j with
              | none => simp only [putN]; rw [hsm, hBB]
              | some b => simp only [putN]; rw [ASt.get_put, if_neg hid, hsm, hBB]
        · cases hn : newAt T.news j with
          | none => simp only [putN]; rw [(viewF_next ..).1, (viewF_next ..).1]
          | some b => show _ = (viewF base c (anc.getD j 0).testBit T.news).next; rw [(viewF_next ..).1, (viewF_next ..).1]
      · -- a writer
        have hk1 : ¬ k0 + 1 ≤ k := fun h => by rw [hJ.inS (k0 + 1) c' j h e2 e3] at hj; cases hj
        have hk2 : ¬ k < k0 := fun h => by
          obtain ⟨w, h1, h2⟩ := hJ.notS k0 c0 h e1
          rw [hrd w (hch k0 c0 w (Nat.le_refl _) e1 h1)] at h2; cases h2
        have hk : k0 = k := by omega
        subst hk
        have hcc := hJ.core
        rw [e1] at hcc
        obtain rfl := Option.some.inj hcc
        obtain ⟨w', hw'lt, hw1, hw2⟩ := hT.cw (k0 + 1) c' e2 (by omega)
        rw [e3] at hw1
        obtain rfl := Option.some.inj hw1
        have hcsub : ∀ q, c0.anc.testBit q = true → (anc.getD j 0).testBit q = true := by
          intro q hq
          by_cases h0 : k0 = 0
          · subst h0
            obtain ⟨c1, h1, h2, h3, _⟩ := hT.c0
            rw [e1] at h1
            obtain rfl := Option.some.inj h1
            rw [h3] at hq; simp at hq
          · obtain ⟨w, _, h1, h2⟩ := hT.cw k0 c0 e1 h0
            rw [h2] at hq
            exact hA.trans j o w q ho (hch k0 c0 w (Nat.le_refl _) e1 h1) hq
        refine stepA_ok hC hIs hgr hJ.fr hF (stepA_writer (fuel := fuel) (WRun_look hlook hrun)) fun Γ' a' hG hf => ?_
        have hD : (fun i => i = base + j ∨ (viewF base c0 (anc.getD j 0).testBit T.news).next ≤ i) = fun i => i = base + j ∨ c0.σ.next ≤ i := by rw [(viewF_next ..).1]
        rw [hD] at hG
        have hdrop : ∀ p, more S j p = true → (anc.getD j 0).testBit p = false → ∀ b, newAt T.news p = some b → (viewF base c0 S T.news).get (base + p) = some b ∧ (viewF base c0 (anc.getD j 0).testBit T.news).get (base + p) = none := by
          intro p hp hpa b hb
          have hne : p ≠ j := by rintro rfl; rw [hn] at hb; cases hb
          rw [more_ne hne] at hp
          have hca : c0.anc.testBit p = false := by
            cases h : c0.anc.testBit p with
            | false => rfl
            | true => rw [hcsub p h] at hpa; cases hpa
          rw [viewF_get, viewF_get, show base + p - base = p by omega, if_pos ⟨by omega, hp, hca⟩, hb, if_neg (fun h => by rw [hpa] at h; exact absurd h.2.1 (by decide))]
          exact ⟨rfl, hJ.hold p hp hca (by rw [hb]; rfl)⟩
        have hwpc : c'.σ.wp = c0.σ.wp := by have := hG.step.wp; rwa [(viewF_next ..).2] at this
        have hfr := Good.frame (big := viewF base c0 S T.news) (big' := viewF base c' (more S j) T.news) hJ.good.inv hsub hG (fun id B h => by
          rw [viewF_get] at h
          by_cases hcond : base ≤ id ∧ more S j (id - base) = true ∧ c'.anc.testBit (id - base) = false
          · rw [if_pos hcond] at h
            cases hb : newAt T.news (id - base) with
            | none => rw [hb] at h; exact .inl (by simpa using h)
            | some b =>
              rw [hb] at h
              have := hdrop (id - base) hcond.2.1 (by rw [← hw2]; exact hcond.2.2) b hb
              rw [show base + (id - base) = id by omega] at this
              exact .inr ⟨by rw [this.1]; simpa using h, this.2⟩
          · rw [if_neg hcond] at h; exact .inl h) (fun id h => by
            have h' := h
            rw [(viewF_next ..).2] at h
            rw [viewF_low (by omega), viewF_low (by omega)]
            have := hG.step.ro id (by rw [(viewF_next ..).2]; exact h)
            rw [viewF_low (by omega)] at this
            exact this) (by rw [(viewF_next ..).2, (viewF_next ..).2]) (by rw [(viewF_next ..).1, (viewF_next ..).1]) (by rw [(viewF_next base c' (more S j) T.news).2, (viewF_next base c0 S T.news).2]; exact hwpc) (viewF_next base c' (more S j) T.news).1
        refine hK Γ' a' (k0 + 1) c' (AFr.put ⟨ts, fr0.ds⟩ o.dst v).ts ⟨hJ.good.trans hfr.1 (fun i h => h) (fun i h => by omega), e2, fun k' c'' w h1 h2 h3 => ?_, fun k' c'' h1 h2 => ?_, ?_, ?_, fun p hp hs hd => ?_, fun p hp h1 h2 => ?_, fun p q hp hq => ?_, fun p hp => ?_, fun b v' σ' hb => ?_⟩
        · by_cases he : k' = k0 + 1
          · subst he
            rw [e2] at h2
            obtain rfl := Option.some.inj h2
            rw [e3] at h3
            obtain rfl := Option.some.inj h3
            exact more_self S j
          · exact more_of (hJ.inS k' c'' w (by omega) h2 h3)
        · obtain ⟨w, h3, h4⟩ := hJ.notS k' c'' (by omega) h2
          refine ⟨w, h3, ?_⟩
          rw [more_ne]
          · exact h4
          · rintro rfl
            have := hT.cinj k' (k0 + 1) c'' c' w h2 e2 h3 e3
            omega
        · refine hJ.ag.put ho (fun p hp => ?_) ?_ fun p h1 h2 d hd hpd => ?_
          · unfold lim; rw [more_ne hp]
          · unfold lim; rw [more_self, if_pos rfl]; exact hv
          · have hop : ops[p]? = some ops[p] := Array.getElem?_eq_getElem h2
            rw [hop] at hpd
            simp only [Option.bind_some] at hpd
            unfold lim
            rw [if_neg]
            intro hs
            rcases hA.apart p j _ o h1 hop ho with ha | ha
            · rw [hJ.down p j hs ha] at hj; cases hj
            · exact (Oper.apart_spec ha).2.1 d hpd hd
        · have e : (AFr.put ⟨ts, fr0.ds⟩ o.dst v).ds = fr0.ds := by cases o.dst <;> rfl
          exact ⟨hf.ts, by have := hf.ds; rwa [e] at this⟩
        · obtain ⟨h1, h2⟩ := more_false hs
          rcases hG.dom _ hd with h | h | h
          · exact hJ.fresh p hp h2 h
          · omega
          · omega
        · obtain ⟨b, hb⟩ := Option.isSome_iff_exists.1 h2
          obtain ⟨d1, d2⟩ := hdrop p hp (by rw [← hw2]; exact h1) b hb
          exact hfr.2 _ _ d1 d2
        · rcases more_inv hp with rfl | hp
          · exact more_of (hrd q hq)
          · exact more_of (hJ.down p q hp hq)
        · rcases more_inv hp with rfl | hp
          · exact hlt
          · exact hJ.slt p hp
        · rw [more_ne (by rintro rfl; exact hnb v' σ' hb)]
          exact hJ.nbad b v' σ' hb
      · -- a panic
        have hk : k = k0 := by
          have h1 : k < k0 + 1 := by rw [← e2]; exact (List.getElem?_eq_some_iff.1 hJ.core).1
          rcases Nat.lt_or_ge k k0 with h | h
          · obtain ⟨w, h3, h4⟩ := hJ.notS k0 c0 h e1
            rw [hrd w (hch k0 c0 w e1 h3)] at h4; cases h4
          · omega
        subst hk
        have hcc := hJ.core
        rw [e1] at hcc
        obtain rfl := Option.some.inj hcc
        refine stepA_ok (fuel := fuel) (rm := rm) hC hIs hgr hJ.fr hF (stepA_bad (BRun_look hlook hrun)) fun Γ' y hG hv => ?_
        have hd : Good Γ (viewF base c0 S T.news) Γ (viewF base c0 (anc.getD j 0).testBit T.news) (fun _ => False) :=
          Good.drop hJ.good.inv hsub (fun id h => by rw [(viewF_next ..).2] at h; rw [viewF_low (by omega), viewF_low (by omega)]) (by rw [(viewF_next ..).2, (viewF_next ..).2]) (by rw [(viewF_next ..).1, (viewF_next ..).1])
        refine hB v σ' Γ' y hb ((hJ.good.trans hd (fun i h => h) (fun i h => h.elim)).trans hG (fun i h => h) (fun i h => ?_)) hv (hJ.fr.ext hG.step.ext)
        rw [(viewF_next ..).1] at h
        omega

/-! ### All orders -/
def un (S : Nat → Bool) : Nat → Nat
  | 0 => 0
  | n + 1 => un S n + (if S n = true then 0 else 1)

theorem un_more {S : Nat → Bool} {j : Nat} (hj : S j = false) : ∀ n, un (more S j) n + (if j < n then 1 else 0) = un S n
  | 0 => by simp [un]
  | n + 1 => by
    have ih := un_more hj n
    simp only [un]
    by_cases h : n = j
    · subst h
      have h1 : ¬ n < n := Nat.lt_irrefl n
      rw [if_neg h1] at ih
      rw [more_self, hj]
      simp
      omega
    · rw [more_ne h]
      by_cases hlt : j < n
      · have h2 : j < n + 1 := by omega
        rw [if_pos hlt] at ih; rw [if_pos h2]; omega
      · have h2 : ¬ j < n + 1 := by omega
        rw [if_neg hlt] at ih; rw [if_neg h2]; omega

theorem un_zero {S : Nat → Bool} : ∀ n, un S n = 0 → ∀ p, p < n → S p = true
  | 0, _, p, hp => by omega
  | n + 1, h, p, hp => by
    simp only [un] at h
    by_cases e : p = n
    · subst e
      cases hs : S p with
      | true => rfl
      | false => rw [hs] at h; simp at h
    · exact un_zero n (by omega) p (by omega)

def asS (listed : Array Bool) : Nat → Bool := fun p => listed.getD p false

theorem asS_set {listed : Array Bool} {j : Nat} (h : j < listed.size) : asS (listed.setIfInBounds j true) = more (asS listed) j := by
  funext p
  unfold asS more
  simp only [Array.getD_eq_getD_getElem?, Array.getElem?_setIfInBounds]
  by_cases e : j = p
  · subst e; simp [h]
  · have : ¬ p = j := fun x => e x.symm
    simp [e, this]

theorem draw_any (hC : CallOK P cfg call) (hA : Anc ops anc) (hT : TabOK P cfg call fuel rm ops anc base fr0 T σ0 ops.size) (hg : GR Γ0 cfg) (hn0 : base + ops.size ≤ σ0.next) (hwp : σ0.wp ≤ base) {Q : Exit → Act → World → Prop}
    (hN : T.bad = none → ∀ S a Γ k c ts, (∀ p, S p = true ↔ p < ops.size) → T.cs.length = k + 1 → J ops anc base fr0 T Γ0 σ0 S a Γ k c ts → Q .normal a Γ.w)
    (hB : ∀ j v σ' S Γ' y a ts, T.bad = some (j, v, σ') → Good Γ0 σ0 Γ' σ' (base ≤ ·) → VR Γ' v y → Ag ops (lim S T.val) fr0.ts ts → FRel Γ' ⟨ts, fr0.ds⟩ a → Q (.panic [{ v := y, recovered := false }]) a Γ'.w) :
    ∀ (f : Nat) (listed : Array Bool) (a : Act) (Γ : Ctx) (k : Nat) (c : Core) (ts : List AV), listed.size = ops.size → un (asS listed) ops.size ≤ f → J ops anc base fr0 T Γ0 σ0 (asS listed) a Γ k c ts →
      wpAny P .any ops Q f listed a Γ.w := by
  have getT : ∀ (listed : Array Bool) (j : Nat), listed.size = ops.size → j < ops.size → listed.getD j true = listed.getD j false := by
    intro listed j hs hj
    simp [Array.getD, hs, hj]
  -- where nothing is ready, all is listed
  have all : ∀ (listed : Array Bool), listed.size = ops.size → Region.ready .any ops listed = [] → ∀ j, j < ops.size → asS listed j = true := by
    intro listed hs hr j
    induction j using Nat.strongRecOn with
    | _ j ih =>
      intro hj
      cases hl : asS listed j with
      | true => rfl
      | false =>
        have ho : ops[j]? = some ops[j] := Array.getElem?_eq_getElem hj
        have : j ∈ Region.ready .any ops listed := mem_ready.2 ⟨by rw [getT listed j hs hj]; exact hl, _, ho, fun e he hb => ih e.on (hA.edge j _ e ho he hb).1 (by have := (hA.edge j _ e ho he hb).1; omega)⟩
        rw [hr] at this
        cases this
  have fin : ∀ (listed : Array Bool) (a : Act) (Γ : Ctx) (k : Nat) (c : Core) (ts : List AV), listed.size = ops.size → J ops anc base fr0 T Γ0 σ0 (asS listed) a Γ k c ts →
      (∀ j, j < ops.size → asS listed j = true) → Q .normal a Γ.w := by
    intro listed a Γ k c ts hs hJ hall
    have hbad : T.bad = none := by
      cases hb : T.bad with
      | none => rfl
      | some x =>
        obtain ⟨b, v, σ'⟩ := x
        have h1 := hJ.nbad b v σ' hb
        have h2 : ¬ b < ops.size := fun h => by rw [hall b h] at h1; cases h1
        -- the panic's place lies in the region: nothing listed says so, so it is asked of the tables
        exact absurd (hT.badlt b v σ' hb) h2
    refine hN hbad (asS listed) a Γ k c ts (fun p => ⟨hJ.slt p, hall p⟩) ?_ hJ
    have hk := (List.getElem?_eq_some_iff.1 hJ.core).1
    rcases Nat.lt_or_ge (k + 1) T.cs.length with h | h
    · obtain ⟨w, h1, h2⟩ := hJ.notS (k + 1) _ (by omega) (List.getElem?_eq_getElem h)
      obtain ⟨w', h3, h4, _⟩ := hT.cw (k + 1) _ (List.getElem?_eq_getElem h) (by omega)
      rw [h1] at h4
      obtain rfl := Option.some.inj h4
      rw [hall w h3] at h2
      cases h2
    · omega
  intro f
  induction f with
  | zero =>
    intro listed a Γ k c ts hs hu hJ
    have hall := un_zero ops.size (Nat.le_zero.1 hu)
    refine ⟨?_, fin listed a Γ k c ts hs hJ hall⟩
    cases hr : Region.ready .any ops listed with
    | nil => rfl
    | cons i r =>
      have hi : i ∈ Region.ready .any ops listed := by rw [hr]; simp
      obtain ⟨h1, o, ho, _⟩ := mem_ready.1 hi
      have hlt := (Array.getElem?_eq_some_iff.1 ho).1
      have := hall i hlt
      unfold asS at this
      rw [← getT listed i hs hlt, h1] at this
      cases this
  | succ f ih =>
    intro listed a Γ k c ts hs hu hJ
    refine ⟨fun hr => fin listed a Γ k c ts hs hJ (all listed hs hr), fun i hi => ?_⟩
    obtain ⟨h1, o, ho, hrd⟩ := mem_ready.1 hi
    have hlt := (Array.getElem?_eq_some_iff.1 ho).1
    have hiS : asS listed i = false := by unfold asS; rw [← getT listed i hs hlt]; exact h1
    have hrdS : ∀ q, (anc.getD i 0).testBit q = true → asS listed q = true := by
      intro q hq
      obtain ⟨e, he, hb, hq⟩ := hA.from_ i o q ho hq
      have he' : asS listed e.on = true := hrd e he hb
      rcases hq with rfl | hq
      · exact he'
      · exact hJ.down e.on q he' hq
    refine J.op hC hA hT hJ hg hn0 hwp hlt ho hiS hrdS (fun Γ' a' k' c' ts' hJ' => ?_) fun v σ' Γ' y hb hG hv hf => hB i v σ' (asS listed) Γ' y a ts hb hG hv hJ.ag hf
    rw [← asS_set (by rw [hs]; exact hlt)] at hJ'
    refine ih _ a' Γ' k' c' ts' (by simp [hs]) ?_ hJ'
    rw [asS_set (by rw [hs]; exact hlt)]
    have := un_more hiS ops.size
    rw [if_pos hlt] at this
    omega
end
end Go.Am

set_option linter.unusedVariables false
set_option linter.unusedSimpArgs false
namespace Go.Am
open Go

section
variable {P : Program} {cfg : Cfg} {call : FuncId → List AV → ASt → Option CR} {fuel : Nat} {rm : Bool} {ops : Array Oper} {anc : List Nat} {base : Nat} {fr0 : AFr} {σ0 : ASt}

theorem still_indep {id : Nat} {ts : List AV} {o : Oper} {σ σ' : ASt} {v : AV} {b : Option Blk} (hr : readsMem o = false) (h : stillA P cfg call fuel rm id ts o σ = some (v, b)) : stillA P cfg call fuel rm id ts o σ' = some (v, b) := by
  unfold stillA at h ⊢
  split at h
  · rename_i f args hc
    unfold calleeA at hc
    split at hc
    · rename_i ho; simp [readsMem, ho] at hr
    · cases hc
  · rename_i hc
    split at h
    · rename_i v' ha
      rw [aop_still hr ha (fun s h => by cases h)]; exact h
    · rename_i v' b' ha
      rw [aop_still hr ha (fun s h => by cases h)]; exact h
    · cases h

theorem recheck_spec {i : Nat} {c : Core} {news : List (Nat × Blk)} : ∀ (rds : List Rd), recheck P cfg call fuel rm ops.toList anc base i c news rds = true →
    ∀ r ∈ rds, (anc.getD i 0).testBit r.i = true ∨ ∃ o, ops[r.i]? = some o ∧ stillA P cfg call fuel rm (base + r.i) r.ts o (viewF base c (anc.getD r.i 0).testBit news) = some (r.v, r.b)
  | [], _ => fun r hr => by cases hr
  | r :: rs, h => by
    simp only [recheck] at h
    have key : recheck P cfg call fuel rm ops.toList anc base i c news rs = true ∧ ((anc.getD i 0).testBit r.i = true ∨ ∃ o, ops[r.i]? = some o ∧ stillA P cfg call fuel rm (base + r.i) r.ts o (viewF base c (anc.getD r.i 0).testBit news) = some (r.v, r.b)) := by
      cases ha : (anc.getD i 0).testBit r.i with
      | true => rw [ha] at h; exact ⟨h, .inl rfl⟩
      | false =>
        rw [ha] at h
        simp only [cond_false, Array.getElem?_toList] at h
        split at h
        · rename_i o ho
          split at h
          · rename_i v' b' hs
            cases hb : r.v.beq v' && sameNew r.b b' with
            | false => rw [hb] at h; cases h
            | true =>
              rw [hb] at h
              simp only [Bool.and_eq_true] at hb
              obtain rfl := AV.beq_eq _ _ hb.1
              obtain rfl := sameNew_eq hb.2
              exact ⟨h, .inr ⟨o, ho, hs⟩⟩
          · cases h
        · cases h
    intro r' hr'
    rcases List.mem_cons.1 hr' with rfl | hr'
    · exact key.2
    · exact recheck_spec rs key.1 r' hr'

theorem getElem_rev {α : Type} (c : α) (r : List α) (k : Nat) : (c :: r).reverse[k]? = if k = r.length then some c else r.reverse[k]? := by
  rw [List.reverse_cons]
  by_cases h : k < r.length
  · have : ¬ k = r.length := by omega
    rw [List.getElem?_append_left (by simpa using h), if_neg this]
  · by_cases e : k = r.length
    · subst e; rw [List.getElem?_append_right (by simp)]; simp
    · rw [if_neg e, List.getElem?_append_right (by simp; omega), List.getElem?_eq_none (by simp; omega), List.getElem?_eq_none (by simp; omega)]

theorem stable_spec {i a : Nat} {ts : List AV} {o : Oper} {news : List (Nat × Blk)} {v : AV} {b : Option Blk} : ∀ (cores : List Core), stable P cfg call fuel rm base i a ts o news v b cores = true →
    (∀ (k : Nat) (c : Core), cores.reverse[k]? = some c → k ≠ 0 → ∃ w, c.w = some w) →
    ∀ (k : Nat) (c : Core), cores.reverse[k]? = some c → (∀ (k' : Nat) (c' : Core) (w : Nat), k < k' → cores.reverse[k']? = some c' → c'.w = some w → a.testBit w = false) →
      stillA P cfg call fuel rm (base + i) ts o (viewF base c a.testBit news) = some (v, b)
  | [], _, _ => fun k c h => by simp at h
  | c :: r, h, hw => by
    intro k c' hk hl
    simp only [stable] at h
    split at h
    rotate_left
    · cases h
    rename_i v' b' hs
    cases hb : v.beq v' && sameNew b b' with
    | false => simp only [hb] at h; cases h
    | true =>
      simp only [hb, cond_true] at h
      simp only [Bool.and_eq_true] at hb
      obtain rfl := AV.beq_eq _ _ hb.1
      obtain rfl := sameNew_eq hb.2
      rw [getElem_rev] at hk
      by_cases e : k = r.length
      · rw [if_pos e] at hk
        obtain rfl := Option.some.inj hk
        exact hs
      · rw [if_neg e] at hk
        have hlt : k < r.length := by
          have := (List.getElem?_eq_some_iff.1 hk).1
          simpa using this
        have hc : (c :: r).reverse[r.length]? = some c := by rw [getElem_rev, if_pos rfl]
        obtain ⟨w, hcw⟩ := hw r.length c hc (by omega)
        rw [hcw] at h
        simp only at h
        rw [hl r.length c w hlt hc hcw] at h
        refine stable_spec r h (fun k1 c1 h1 h2 => ?_) k c' hk (fun k1 c1 w1 h1 h2 h3 => ?_)
        · have h1' := (List.getElem?_eq_some_iff.1 h1).1
          simp only [List.length_reverse] at h1'
          refine hw k1 c1 ?_ h2
          rw [getElem_rev, if_neg (by omega)]; exact h1
        · have h1' := (List.getElem?_eq_some_iff.1 h2).1
          simp only [List.length_reverse] at h1'
          refine hl k1 c1 w1 h1 ?_ h3
          rw [getElem_rev, if_neg (by omega)]; exact h2

theorem stableT_spec {i a : Nat} {ts : List AV} {o : Oper} {news : List (Nat × Blk)} {v : AV} {b : Option Blk} {c : Core} {r : List Core} (h : stableT P cfg call fuel rm base i a ts o news v b (c :: r) = true)
    (hst : stillA P cfg call fuel rm (base + i) ts o (viewF base c a.testBit news) = some (v, b))
    (hw : ∀ (k : Nat) (c' : Core), (c :: r).reverse[k]? = some c' → k ≠ 0 → ∃ w, c'.w = some w) :
    ∀ (k : Nat) (c' : Core), (c :: r).reverse[k]? = some c' → (∀ (k' : Nat) (c'' : Core) (w : Nat), k < k' → (c :: r).reverse[k']? = some c'' → c''.w = some w → a.testBit w = false) →
      stillA P cfg call fuel rm (base + i) ts o (viewF base c' a.testBit news) = some (v, b) := by
  intro k c' hk hl
  rw [getElem_rev] at hk
  by_cases e : k = r.length
  · rw [if_pos e] at hk
    obtain rfl := Option.some.inj hk
    exact hst
  · rw [if_neg e] at hk
    have hlt : k < r.length := by
      have := (List.getElem?_eq_some_iff.1 hk).1
      simpa using this
    have hc : (c :: r).reverse[r.length]? = some c := by rw [getElem_rev, if_pos rfl]
    obtain ⟨w, hcw⟩ := hw r.length c hc (by omega)
    simp only [stableT, hcw] at h
    rw [hl r.length c w hlt hc hcw] at h
    refine stable_spec r h (fun k1 c1 h1 h2 => ?_) k c' hk (fun k1 c1 w1 h1 h2 h3 => ?_)
    · have h1' := (List.getElem?_eq_some_iff.1 h1).1
      simp only [List.length_reverse] at h1'
      refine hw k1 c1 ?_ h2
      rw [getElem_rev, if_neg (by omega)]; exact h1
    · have h1' := (List.getElem?_eq_some_iff.1 h2).1
      simp only [List.length_reverse] at h1'
      refine hl k1 c1 w1 h1 ?_ h3
      rw [getElem_rev, if_neg (by omega)]; exact h2

theorem chained_spec {a : Nat} : ∀ (cores : List Core), chained a cores = true → (∀ (k : Nat) (c : Core), cores.reverse[k]? = some c → k ≠ 0 → ∃ w, c.w = some w) →
    ∀ (k : Nat) (c : Core) (w : Nat), cores.reverse[k]? = some c → c.w = some w → a.testBit w = true
  | [], _, _ => fun k c w h => by simp at h
  | c :: r, h, hw => by
    intro k c' w hk hcw'
    simp only [chained] at h
    rw [getElem_rev] at hk
    by_cases e : k = r.length
    · rw [if_pos e] at hk
      obtain rfl := Option.some.inj hk
      rw [hcw'] at h
      simp only [Bool.and_eq_true] at h
      exact h.1
    · rw [if_neg e] at hk
      have hlt : k < r.length := by
        have := (List.getElem?_eq_some_iff.1 hk).1
        simpa using this
      have hc : (c :: r).reverse[r.length]? = some c := by rw [getElem_rev, if_pos rfl]
      obtain ⟨w', hcw⟩ := hw r.length c hc (by omega)
      rw [hcw] at h
      simp only [Bool.and_eq_true] at h
      refine chained_spec r h.2 (fun k1 c1 h1 h2 => ?_) k c' w hk hcw'
      have h1' := (List.getElem?_eq_some_iff.1 h1).1
      simp only [List.length_reverse] at h1'
      refine hw k1 c1 ?_ h2
      rw [getElem_rev, if_neg (by omega)]; exact h1

section
variable (P cfg call fuel rm ops anc base fr0)

def FactA (T : Tab) (rds : List Rd) (j : Nat) (o : Oper) : Prop :=
  ∃ ts, Ag ops (lim (fun p => decide (p < j)) T.val) fr0.ts ts ∧
    ((∃ b v σ, T.bad = some (b, v, σ) ∧ (anc.getD j 0).testBit b = true) ∨
     (guardOk ops.toList ts o = true ∧
       ((wantedA ops.toList ts o = false ∧ T.val j = some (.tup []) ∧ newAt T.news j = none ∧ NW T j ∧ NB T j) ∨
        (wantedA ops.toList ts o = true ∧ ((Still P cfg call fuel rm anc base T j o ts ∧ NW T j ∧ NB T j ∧ (readsMem o = true → ∃ v, T.val j = some v ∧ ⟨j, ts, v, newAt T.news j⟩ ∈ rds) ∧ (readsMem o = false → ∃ v, T.val j = some v ∧ ∀ σ, stillA P cfg call fuel rm (base + j) ts o σ = some (v, newAt T.news j))) ∨
          (Writer P cfg call rm anc base T j o ts ∧ NB T j) ∨ Bad cfg call anc base T j o ts)))))

structure PA (i : Nat) (D : DSt) (bad : Option (Nat × AV × ASt)) (val : Nat → Option AV) : Prop where
  c0 : ∃ c : Core, D.cores.reverse[0]? = some c ∧ c.w = none ∧ c.anc = 0 ∧ c.σ = σ0
  cw : ∀ (k : Nat) (c : Core), D.cores.reverse[k]? = some c → k ≠ 0 → ∃ w, w < i ∧ c.w = some w ∧ c.anc = anc.getD w 0
  cinj : ∀ (k k' : Nat) (c c' : Core) (w : Nat), D.cores.reverse[k]? = some c → D.cores.reverse[k']? = some c' → c.w = some w → c'.w = some w → k = k'
  badlt : ∀ b v σ, bad = some (b, v, σ) → b < i
  facts : ∀ j o, j < i → ops[j]? = some o → FactA P cfg call fuel rm ops anc base fr0 ⟨D.cores.reverse, D.news, val, bad⟩ D.rds j o
  newslt : ∀ p, i ≤ p → newAt D.news p = none
  ag : Ag ops (lim (fun p => decide (p < i)) val) fr0.ts D.fr.ts
  ds : D.fr.ds = fr0.ds
end

def upv (val : Nat → Option AV) (i : Nat) (x : Option AV) : Nat → Option AV := fun p => if p = i then x else val p
theorem upv_self (val : Nat → Option AV) (i : Nat) (x : Option AV) : upv val i x i = x := by simp [upv]
theorem upv_ne {val : Nat → Option AV} {i p : Nat} {x : Option AV} (h : p ≠ i) : upv val i x p = val p := by simp [upv, h]
theorem lim_upv {val : Nat → Option AV} {i j : Nat} {x : Option AV} (h : j ≤ i) (p : Nat) : lim (fun p => decide (p < j)) val p = lim (fun p => decide (p < j)) (upv val i x) p := by
  unfold lim
  by_cases hp : p < j
  · rw [if_pos (by simpa using hp), if_pos (by simpa using hp), upv_ne (by omega)]
  · rw [if_neg (by simpa using hp), if_neg (by simpa using hp)]

/-- Facts stay when the run goes on. -/
theorem FactA.mono {T : Tab} {rds rds' : List Rd} {i j : Nat} {o : Oper} {ex : List Core} {news' : List (Nat × Blk)} {x : Option AV} {bad' : Option (Nat × AV × ASt)} (hj : j < i) (hjo : ops[j]? = some o) (hA : Anc ops anc)
    (h : FactA P cfg call fuel rm ops anc base fr0 T rds j o) (hnew : news' = T.news ∨ ∃ b, news' = (i, b) :: T.news) (hbad : bad' = T.bad ∨ (T.bad = none ∧ ∃ v σ, bad' = some (i, v, σ))) (hr : ∀ r ∈ rds, r ∈ rds')
    (hex : ex = [] ∨ ∃ c', ex = [c'] ∧ c'.w = some i ∧ T.bad = none ∧ ∀ ts v, Ag ops (lim (fun p => decide (p < j)) T.val) fr0.ts ts → T.val j = some v → Still P cfg call fuel rm anc base T j o ts → (readsMem o = true → ⟨j, ts, v, newAt T.news j⟩ ∈ rds) →
      (readsMem o = false → ∀ σ, stillA P cfg call fuel rm (base + j) ts o σ = some (v, newAt T.news j)) →
      (anc.getD i 0).testBit j = false → stillA P cfg call fuel rm (base + j) ts o (viewF base c' (anc.getD j 0).testBit T.news) = some (v, newAt T.news j)) :
    FactA P cfg call fuel rm ops anc base fr0 ⟨T.cs ++ ex, news', upv T.val i x, bad'⟩ rds' j o := by
  obtain ⟨ts, hag, h⟩ := h
  have hji : j ≠ i := by omega
  have hval : upv T.val i x j = T.val j := upv_ne hji
  have hn : newAt news' j = newAt T.news j := by
    rcases hnew with rfl | ⟨b, rfl⟩
    · rfl
    · rw [newAt_cons, if_neg (by omega)]
  have hv : ∀ c : Core, viewF base c (anc.getD j 0).testBit news' = viewF base c (anc.getD j 0).testBit T.news := by
    intro c
    rcases hnew with rfl | ⟨b, rfl⟩
    · rfl
    · refine viewF_skip base c _ i b _ ?_
      cases hb : (anc.getD j 0).testBit i with
      | false => rfl
      | true => have := hA.lt j o i hjo hb; omega
  have hold : ∀ (k : Nat) (c : Core), T.cs[k]? = some c → (T.cs ++ ex)[k]? = some c := fun k c h => by
    rw [List.getElem?_append_left (List.getElem?_eq_some_iff.1 h).1]; exact h
  have hnb : NB T j → NB ⟨T.cs ++ ex, news', upv T.val i x, bad'⟩ j := by
    intro h v σ hb
    rcases hbad with rfl | ⟨_, v', σ', rfl⟩
    · exact h v σ hb
    · simp only [Option.some.injEq, Prod.mk.injEq] at hb; omega
  have hnw : NW T j → NW ⟨T.cs ++ ex, news', upv T.val i x, bad'⟩ j := by
    intro h k c hk hw
    rcases hex with rfl | ⟨c', rfl, hcw, _⟩
    · rw [List.append_nil] at hk; exact h k c hk hw
    · by_cases hlt : k < T.cs.length
      · have hk' : T.cs[k]? = some c := by rw [← List.getElem?_append_left hlt]; exact hk
        exact h k c hk' hw
      · have hk' : ([c'] : List Core)[k - T.cs.length]? = some c := by rw [← List.getElem?_append_right (by omega)]; exact hk
        have : c = c' := by
          cases hm : k - T.cs.length with
          | zero => rw [hm] at hk'; simpa using hk'.symm
          | succ m => rw [hm] at hk'; simp at hk'
        subst this
        rw [hcw] at hw
        simp only [Option.some.injEq] at hw
        omega
  refine ⟨ts, hag.congr fun p _ => lim_upv (by omega) p, ?_⟩
  rcases h with ⟨b, v, σ, hb, ha⟩ | ⟨hgo, h⟩
  · rcases hbad with rfl | ⟨hnone, _⟩
    · exact .inl ⟨b, v, σ, hb, ha⟩
    · rw [hnone] at hb; cases hb
  · refine .inr ⟨hgo, ?_⟩
    rcases h with ⟨hw, h1, h2, h3, h4⟩ | ⟨hw, h⟩
    · exact .inl ⟨hw, hval.trans h1, hn.trans h2, hnw h3, hnb h4⟩
    · refine .inr ⟨hw, ?_⟩
      rcases h with ⟨hS, h3, h4, h5, h6⟩ | ⟨⟨k, c, c', v, e1, e2, e3, h1, h2, hch, hrun⟩, h4⟩ | ⟨k, c, v, σ', hb, e1, e2, hch, hrun⟩
      · refine .inl ⟨?_, hnw h3, hnb h4, fun hrm => ?_, fun hrm => ?_⟩
        · have hS0 := hS
          obtain ⟨v, h1, hS⟩ := hS
          refine ⟨v, hval.trans h1, fun k c hk hlo hhi => ?_⟩
          show stillA P cfg call fuel rm (base + j) ts o (viewF base c (anc.getD j 0).testBit news') = some (v, newAt news' j)
          rw [hv, hn]
          by_cases hlt : k < T.cs.length
          · have hk' : T.cs[k]? = some c := by rw [← List.getElem?_append_left hlt]; exact hk
            exact hS k c hk' (fun k' c' w h1 h2 h3 => hlo k' c' w h1 (hold k' c' h2) h3) (fun k' c' w h1 h2 h3 => hhi k' c' w h1 (hold k' c' h2) h3)
          · rcases hex with rfl | ⟨c', rfl, hcw, _, hst⟩
            · have := (List.getElem?_eq_some_iff.1 hk).1
              simp at this; omega
            · have hk' : ([c'] : List Core)[k - T.cs.length]? = some c := by rw [← List.getElem?_append_right (by omega)]; exact hk
              have : c = c' := by
                cases hm : k - T.cs.length with
                | zero => rw [hm] at hk'; simpa using hk'.symm
                | succ m => rw [hm] at hk'; simp at hk'
              subst this
              refine hst ts v hag h1 hS0 (fun hrm => ?_) (fun hrm => ?_) (hlo k c i (Nat.le_refl _) hk hcw)
              rotate_left
              · obtain ⟨v', h1', h7⟩ := h6 hrm
                rw [h1] at h1'
                obtain rfl := Option.some.inj h1'
                exact h7
              obtain ⟨v', h1', h6⟩ := h5 hrm
              rw [h1] at h1'
              obtain rfl := Option.some.inj h1'
              exact h6
        · obtain ⟨v, h1, h6⟩ := h5 hrm
          refine ⟨v, hval.trans h1, ?_⟩
          show (⟨j, ts, v, newAt news' j⟩ : Rd) ∈ rds'
          rw [hn]
          exact hr _ h6
        · obtain ⟨v, h1, h7⟩ := h6 hrm
          refine ⟨v, hval.trans h1, ?_⟩
          show ∀ σ, stillA P cfg call fuel rm (base + j) ts o σ = some (v, newAt news' j)
          rw [hn]
          exact h7
      · refine .inr (.inl ⟨⟨k, c, c', v, hold _ _ e1, hold _ _ e2, e3, hval.trans h1, hn.trans h2, fun k' c'' w h1 h2 h3 => ?_, ?_⟩, hnb h4⟩)
        · have hlt : k' < T.cs.length := by have := (List.getElem?_eq_some_iff.1 e1).1; omega
          have h2' : T.cs[k']? = some c'' := by rw [← List.getElem?_append_left hlt]; exact h2
          exact hch k' c'' w h1 h2' h3
        · show WRun P cfg call rm base j o ts (viewF base c (anc.getD j 0).testBit news') v c'.σ
          rw [hv]; exact hrun
      · rcases hbad with rfl | ⟨hnone, _⟩
        · rcases hex with rfl | ⟨c', rfl, hcw, hnone, _⟩
          · refine .inr (.inr ⟨k, c, v, σ', hb, hold _ _ e1, by simpa using e2, fun k' c'' w h1 h2 => ?_, ?_⟩)
            · rw [List.append_nil] at h1; exact hch k' c'' w h1 h2
            · show BRun cfg call j o ts (viewF base c (anc.getD j 0).testBit news') v σ'
              rw [hv]; exact hrun
          · rw [hnone] at hb; cases hb
        · rw [hnone] at hb; cases hb
end
end Go.Am

set_option linter.unusedVariables false
set_option linter.unusedSimpArgs false
namespace Go.Am
open Go

section
variable {P : Program} {cfg : Cfg} {call : FuncId → List AV → ASt → Option CR} {fuel : Nat} {rm : Bool} {ops : Array Oper} {anc : List Nat} {base : Nat} {fr0 : AFr} {σ0 : ASt}

theorem ag_none {val : Nat → Option AV} {i : Nat} {ts : List AV} (h : Ag ops (lim (fun p => decide (p < i)) val) fr0.ts ts) : Ag ops (lim (fun p => decide (p < i + 1)) (upv val i none)) fr0.ts ts := by
  refine h.congr fun p _ => ?_
  unfold lim
  by_cases e : p = i
  · subst e; rw [upv_self]; simp
  · rw [upv_ne e]
    by_cases h1 : p < i
    · rw [if_pos (by simpa using h1), if_pos (by simp; omega)]
    · rw [if_neg (by simpa using h1), if_neg (by simp; omega)]

theorem ag_some {val : Nat → Option AV} {i : Nat} {ts : List AV} {ds : List (AV × List AV)} {o : Oper} {v : AV} (ho : ops[i]? = some o) (h : Ag ops (lim (fun p => decide (p < i)) val) fr0.ts ts) :
    Ag ops (lim (fun p => decide (p < i + 1)) (upv val i (some v))) fr0.ts (AFr.put ⟨ts, ds⟩ o.dst v).ts := by
  refine h.put ho (fun p hp => ?_) ?_ fun p h1 h2 d hd hpd => ?_
  · unfold lim
    rw [upv_ne hp]
    by_cases h1 : p < i
    · rw [if_pos (by simp; omega), if_pos (by simpa using h1)]
    · rw [if_neg (by simp; omega), if_neg (by simpa using h1)]
  · unfold lim; rw [upv_self, if_pos (by simp)]
  · unfold lim; rw [if_neg (by simp; omega)]

theorem PA.next {i : Nat} {D D' : DSt} {bad bad' : Option (Nat × AV × ASt)} {val : Nat → Option AV} {o : Oper} {ex : List Core} {x : Option AV} (hA : Anc ops anc) (h : PA P cfg call fuel rm ops anc base fr0 (σ0 := σ0) i D bad val) (ho : ops[i]? = some o)
    (hcs : D'.cores.reverse = D.cores.reverse ++ ex) (hnew : D'.news = D.news ∨ ∃ b, D'.news = (i, b) :: D.news) (hbad : bad' = bad ∨ (bad = none ∧ ∃ v σ, bad' = some (i, v, σ))) (hr : ∀ r ∈ D.rds, r ∈ D'.rds)
    (hex : ex = [] ∨ ∃ c', ex = [c'] ∧ c'.w = some i ∧ c'.anc = anc.getD i 0 ∧ bad = none ∧ ∀ j o ts v, j < i → ops[j]? = some o → val j = some v → Still P cfg call fuel rm anc base ⟨D.cores.reverse, D.news, val, bad⟩ j o ts → (readsMem o = true → ⟨j, ts, v, newAt D.news j⟩ ∈ D.rds) →
      (readsMem o = false → ∀ σ, stillA P cfg call fuel rm (base + j) ts o σ = some (v, newAt D.news j)) →
      (anc.getD i 0).testBit j = false → stillA P cfg call fuel rm (base + j) ts o (viewF base c' (anc.getD j 0).testBit D.news) = some (v, newAt D.news j))
    (hfi : FactA P cfg call fuel rm ops anc base fr0 ⟨D'.cores.reverse, D'.news, upv val i x, bad'⟩ D'.rds i o) (hag : Ag ops (lim (fun p => decide (p < i + 1)) (upv val i x)) fr0.ts D'.fr.ts) (hds : D'.fr.ds = fr0.ds) :
    PA P cfg call fuel rm ops anc base fr0 (σ0 := σ0) (i + 1) D' bad' (upv val i x) := by
  have hlen : 0 < D.cores.reverse.length := by
    obtain ⟨c, h1, _⟩ := h.c0
    exact (List.getElem?_eq_some_iff.1 h1).1
  have split : ∀ (k : Nat) (c : Core), D'.cores.reverse[k]? = some c → D.cores.reverse[k]? = some c ∨ (k = D.cores.reverse.length ∧ ex = [c] ∧ c.w = some i ∧ c.anc = anc.getD i 0) := by
    intro k c hk
    rw [hcs] at hk
    by_cases hlt : k < D.cores.reverse.length
    · rw [List.getElem?_append_left hlt] at hk; exact .inl hk
    · rw [List.getElem?_append_right (by omega)] at hk
      rcases hex with rfl | ⟨c', rfl, h1, h2, _⟩
      · simp at hk
      · cases hm : k - D.cores.reverse.length with
        | zero =>
          rw [hm] at hk
          simp only [List.getElem?_cons_zero, Option.some.injEq] at hk
          subst hk
          exact .inr ⟨by omega, rfl, h1, h2⟩
        | succ m => rw [hm] at hk; simp at hk
  refine ⟨?_, fun k c hk hk0 => ?_, fun k k' c c' w hk hk' hw hw' => ?_, fun b v σ hb => ?_, fun j o' hj ho' => ?_, fun p hp => ?_, hag, hds⟩
  · obtain ⟨c, h1, h2⟩ := h.c0
    exact ⟨c, by rw [hcs, List.getElem?_append_left hlen]; exact h1, h2⟩
  · rcases split k c hk with hk | ⟨_, _, h1, h2⟩
    · obtain ⟨w, a1, a2, a3⟩ := h.cw k c hk hk0
      exact ⟨w, by omega, a2, a3⟩
    · exact ⟨i, by omega, h1, h2⟩
  · have old : ∀ (k : Nat) (c : Core) (w : Nat), D.cores.reverse[k]? = some c → c.w = some w → w < i := by
      intro k c w h1 h2
      by_cases h0 : k = 0
      · subst h0
        obtain ⟨c0, a1, a2, _⟩ := h.c0
        rw [h1] at a1
        obtain rfl := Option.some.inj a1
        rw [h2] at a2; cases a2
      · obtain ⟨w', a1, a2, _⟩ := h.cw k c h1 h0
        rw [h2] at a2
        obtain rfl := Option.some.inj a2
        exact a1
    rcases split k c hk with hk | ⟨e1, _, h1, _⟩
    · rcases split k' c' hk' with hk' | ⟨e1', _, h1', _⟩
      · exact h.cinj k k' c c' w hk hk' hw hw'
      · have := old k c w hk hw
        rw [hw'] at h1'; simp only [Option.some.injEq] at h1'; omega
    · rcases split k' c' hk' with hk' | ⟨e1', _, h1', _⟩
      · have := old k' c' w hk' hw'
        rw [hw] at h1; simp only [Option.some.injEq] at h1; omega
      · omega
  · rcases hbad with rfl | ⟨_, v', σ', rfl⟩
    · have := h.badlt b v σ hb; omega
    · simp only [Option.some.injEq, Prod.mk.injEq] at hb; omega
  · by_cases e : j = i
    · subst e
      rw [ho] at ho'
      obtain rfl := Option.some.inj ho'
      exact hfi
    · rw [hcs]
      refine FactA.mono (T := ⟨D.cores.reverse, D.news, val, bad⟩) (i := i) (by omega) ho' hA (h.facts j o' (by omega) ho') hnew hbad hr ?_
      rcases hex with rfl | ⟨c', rfl, h1, h2, h3, h4⟩
      · exact .inl rfl
      · exact .inr ⟨c', rfl, h1, h3, fun ts v hag hv hS hrd hri ha => h4 j o' ts v (by omega) ho' hv hS hrd hri ha⟩
  · rcases hnew with hn | ⟨b, hn⟩
    · rw [hn]; exact h.newslt p (by omega)
    · rw [hn, newAt_cons, if_neg (by omega)]; exact h.newslt p (by omega)

theorem PA.cwS {i : Nat} {D : DSt} {bad : Option (Nat × AV × ASt)} {val : Nat → Option AV} (h : PA P cfg call fuel rm ops anc base fr0 (σ0 := σ0) i D bad val) :
    ∀ (k : Nat) (c : Core), D.cores.reverse[k]? = some c → k ≠ 0 → ∃ w, c.w = some w := fun k c hk h0 => by
  obtain ⟨w, _, h1, _⟩ := h.cw k c hk h0
  exact ⟨w, h1⟩

theorem PA.wlt {i : Nat} {D : DSt} {bad : Option (Nat × AV × ASt)} {val : Nat → Option AV} (h : PA P cfg call fuel rm ops anc base fr0 (σ0 := σ0) i D bad val) {k : Nat} {c : Core} {w : Nat} (hk : D.cores.reverse[k]? = some c) (hw : c.w = some w) : w < i := by
  by_cases h0 : k = 0
  · subst h0
    obtain ⟨c0, a1, a2, _⟩ := h.c0
    rw [hk] at a1
    obtain rfl := Option.some.inj a1
    rw [hw] at a2; cases a2
  · obtain ⟨w', a1, a2, _⟩ := h.cw k c hk h0
    rw [hw] at a2
    obtain rfl := Option.some.inj a2
    exact a1

theorem PA.nw {i : Nat} {D : DSt} {bad : Option (Nat × AV × ASt)} {val val' : Nat → Option AV} {news : List (Nat × Blk)} {bad' : Option (Nat × AV × ASt)} (h : PA P cfg call fuel rm ops anc base fr0 (σ0 := σ0) i D bad val) : NW ⟨D.cores.reverse, news, val', bad'⟩ i :=
  fun k c hk hw => Nat.lt_irrefl _ (h.wlt hk hw)
theorem PA.nb {i : Nat} {D : DSt} {bad : Option (Nat × AV × ASt)} {val val' : Nat → Option AV} {news : List (Nat × Blk)} {cs : List Core} (h : PA P cfg call fuel rm ops anc base fr0 (σ0 := σ0) i D bad val) : NB ⟨cs, news, val', bad⟩ i :=
  fun v σ hb => Nat.lt_irrefl _ (h.badlt i v σ hb)

theorem PA.hag {i : Nat} {D : DSt} {bad : Option (Nat × AV × ASt)} {val : Nat → Option AV} (h : PA P cfg call fuel rm ops anc base fr0 (σ0 := σ0) i D bad val) (x : Option AV) :
    Ag ops (lim (fun p => decide (p < i)) (upv val i x)) fr0.ts D.fr.ts := h.ag.congr fun p _ => lim_upv (Nat.le_refl _) p

theorem PA.skip {i : Nat} {D : DSt} {bad : Option (Nat × AV × ASt)} {val : Nat → Option AV} {o : Oper} (hA : Anc ops anc) (h : PA P cfg call fuel rm ops anc base fr0 (σ0 := σ0) i D bad val) (ho : ops[i]? = some o)
    {b : Nat} {v : AV} {σ : ASt} (hb : bad = some (b, v, σ)) (ha : (anc.getD i 0).testBit b = true) : PA P cfg call fuel rm ops anc base fr0 (σ0 := σ0) (i + 1) D bad (upv val i none) :=
  h.next hA ho (by simp) (.inl rfl) (.inl rfl) (fun _ h => h) (.inl rfl) ⟨D.fr.ts, h.hag none, .inl ⟨b, v, σ, hb, ha⟩⟩ (ag_none h.ag) h.ds

theorem put_ds (fr : AFr) (d : Option Tmp) (v : AV) : (fr.put d v).ds = fr.ds := by cases d <;> rfl

theorem PA.off {i : Nat} {D : DSt} {bad : Option (Nat × AV × ASt)} {val : Nat → Option AV} {o : Oper} (hA : Anc ops anc) (h : PA P cfg call fuel rm ops anc base fr0 (σ0 := σ0) i D bad val) (ho : ops[i]? = some o)
    (hg : guardOk ops.toList D.fr.ts o = true) (hw : wantedA ops.toList D.fr.ts o = false) : PA P cfg call fuel rm ops anc base fr0 (σ0 := σ0) (i + 1) { D with fr := D.fr.put o.dst (.tup []) } bad (upv val i (some (.tup []))) :=
  h.next hA ho (by simp) (.inl rfl) (.inl rfl) (fun _ h => h) (.inl rfl) ⟨D.fr.ts, h.hag _, .inr ⟨hg, .inl ⟨hw, upv_self .., h.newslt i (Nat.le_refl _), h.nw, h.nb⟩⟩⟩ (ag_some ho h.ag) ((put_ds ..).trans h.ds)

theorem anc_self (hA : Anc ops anc) {i : Nat} {o : Oper} (ho : ops[i]? = some o) : (anc.getD i 0).testBit i = false := by
  cases h : (anc.getD i 0).testBit i with
  | false => rfl
  | true => exact absurd (hA.lt i o i ho h) (Nat.lt_irrefl _)

theorem PA.still {i : Nat} {D D' : DSt} {bad : Option (Nat × AV × ASt)} {val : Nat → Option AV} {o : Oper} {c0 : Core} {r0 : List Core} (hA : Anc ops anc) (h : PA P cfg call fuel rm ops anc base fr0 (σ0 := σ0) i D bad val) (ho : ops[i]? = some o)
    (hg : guardOk ops.toList D.fr.ts o = true) (hw : wantedA ops.toList D.fr.ts o = true) (hc0 : D.cores = c0 :: r0) (hs : stepStill P cfg call fuel rm base i (anc.getD i 0) o D (viewF base c0 (anc.getD i 0).testBit D.news) = some (.ok D')) :
    ∃ v, PA P cfg call fuel rm ops anc base fr0 (σ0 := σ0) (i + 1) D' bad (upv val i (some v)) := by
  unfold stepStill at hs
  split at hs
  rotate_left
  · cases hs
  rename_i v b hst
  cases hc : (!readsMem o || stableT P cfg call fuel rm base i (anc.getD i 0) D.fr.ts o D.news v b D.cores) with
  | false => rw [hc] at hs; cases hs
  | true =>
    rw [hc] at hs
    simp only [cond_true, Option.some.injEq, DR.ok.injEq] at hs
    subst hs
    have hna : newAt (addNew i D.news b) i = b := by
      cases b with
      | none => exact h.newslt i (Nat.le_refl _)
      | some b => simp only [addNew]; rw [newAt_cons, if_pos rfl]
    have hvw : ∀ c : Core, viewF base c (anc.getD i 0).testBit (addNew i D.news b) = viewF base c (anc.getD i 0).testBit D.news := by
      intro c
      cases b with
      | none => rfl
      | some b => exact viewF_skip base c _ i b _ (anc_self hA ho)
    refine ⟨v, h.next hA ho (by simp) ?_ (.inl rfl) ?_ (.inl rfl) ⟨D.fr.ts, h.hag _, .inr ⟨hg, .inr ⟨hw, .inl ⟨?_, h.nw, h.nb, fun hrm => ?_, fun hrm => ?_⟩⟩⟩⟩ (ag_some ho h.ag) ((put_ds ..).trans h.ds)⟩
    · cases b with
      | none => exact .inl rfl
      | some b => exact .inr ⟨b, rfl⟩
    · intro r hr
      simp only
      cases readsMem o
      · exact hr
      · exact List.mem_cons_of_mem _ hr
    · refine ⟨v, upv_self .., fun k c hk _ hhi => ?_⟩
      show stillA P cfg call fuel rm (base + i) D.fr.ts o (viewF base c (anc.getD i 0).testBit (addNew i D.news b)) = some (v, newAt (addNew i D.news b) i)
      rw [hna, hvw]
      cases hr : readsMem o with
      | false => exact still_indep hr hst
      | true =>
        rw [hr] at hc
        simp only [Bool.not_true, Bool.false_or] at hc
        have hcw := h.cwS
        have hk' : D.cores.reverse[k]? = some c := hk
        have hhi' : ∀ (k' : Nat) (c' : Core) (w : Nat), k < k' → D.cores.reverse[k']? = some c' → c'.w = some w → (anc.getD i 0).testBit w = false := hhi
        rw [hc0] at hc hcw hk' hhi'
        exact stableT_spec hc hst hcw k c hk' hhi'
    · refine ⟨v, upv_self .., ?_⟩
      show (⟨i, D.fr.ts, v, newAt (addNew i D.news b) i⟩ : Rd) ∈ cond (readsMem o) (⟨i, D.fr.ts, v, b⟩ :: D.rds) D.rds
      rw [hna, hrm]
      exact List.mem_cons_self ..
    · refine ⟨v, upv_self .., fun σ' => ?_⟩
      show _ = some (v, newAt (addNew i D.news b) i)
      rw [hna]
      exact still_indep hrm hst

theorem PA.core {i : Nat} {D D' : DSt} {val : Nat → Option AV} {o : Oper} {v : AV} {σ' : ASt} {c : Core} {r : List Core} (hA : Anc ops anc) (h : PA P cfg call fuel rm ops anc base fr0 (σ0 := σ0) i D none val) (ho : ops[i]? = some o)
    (hg : guardOk ops.toList D.fr.ts o = true) (hw : wantedA ops.toList D.fr.ts o = true) (hc : D.cores = c :: r) (hrun : WRun P cfg call rm base i o D.fr.ts (viewF base c (anc.getD i 0).testBit D.news) v σ')
    (hs : stepCore P cfg call fuel rm ops.toList anc base i (anc.getD i 0) o D v σ' = some (.ok D')) :
    PA P cfg call fuel rm ops anc base fr0 (σ0 := σ0) (i + 1) D' none (upv val i (some v)) := by
  unfold stepCore at hs
  cases hb : (chained (anc.getD i 0) D.cores && recheck P cfg call fuel rm ops.toList anc base i ⟨σ', anc.getD i 0, some i⟩ D.news D.rds) with
  | false => rw [hb] at hs; cases hs
  | true =>
    rw [hb] at hs
    simp only [cond_true, Option.some.injEq, DR.ok.injEq] at hs
    subst hs
    simp only [Bool.and_eq_true] at hb
    have hch := chained_spec D.cores hb.1 h.cwS
    have hrev : D.cores.reverse = r.reverse ++ [c] := by rw [hc]; simp
    have hk : D.cores.reverse[r.length]? = some c := by rw [hc, getElem_rev, if_pos rfl]
    have hlen : D.cores.reverse.length = r.length + 1 := by rw [hc]; simp
    refine h.next (ex := [⟨σ', anc.getD i 0, some i⟩]) hA ho (by simp) (.inl rfl) (.inl rfl) (fun _ h => h) (.inr ⟨_, rfl, rfl, rfl, rfl, fun j oj ts vj hj hoj hv hS hrd hri ha => ?_⟩) ⟨D.fr.ts, h.hag _, .inr ⟨hg, .inr ⟨hw, .inr (.inl ⟨?_, h.nb⟩)⟩⟩⟩ (ag_some ho h.ag) ((put_ds ..).trans h.ds)
    · cases hr : readsMem oj with
      | true =>
        rcases recheck_spec D.rds hb.2 _ (hrd hr) with h1 | ⟨o', ho', hst⟩
        · rw [ha] at h1; cases h1
        · simp only at ho' hst
          rw [hoj] at ho'
          obtain rfl := Option.some.inj ho'
          exact hst
      | false => exact hri hr _
    · refine ⟨r.length, c, ⟨σ', anc.getD i 0, some i⟩, v, ?_, ?_, rfl, upv_self .., h.newslt i (Nat.le_refl _), fun k' c'' w h1 h2 h3 => ?_, hrun⟩
      · show (_ :: D.cores).reverse[_]? = _
        rw [getElem_rev, if_neg (by rw [hc]; simp), hk]
      · show (_ :: D.cores).reverse[_]? = _
        rw [getElem_rev, if_pos (by rw [hc]; simp)]
      · have h2' : (_ :: D.cores).reverse[k']? = some c'' := h2
        rw [getElem_rev, if_neg (by rw [hc]; simp; omega)] at h2'
        exact hch k' c'' w h2' h3
end
end Go.Am

set_option linter.unusedVariables false
set_option linter.unusedSimpArgs false
namespace Go.Am
open Go

section
variable {P : Program} {cfg : Cfg} {call : FuncId → List AV → ASt → Option CR} {fuel : Nat} {rm : Bool} {ops : Array Oper} {anc : List Nat} {base : Nat} {fr0 : AFr} {σ0 : ASt}

theorem PA.bad {i : Nat} {D : DSt} {val : Nat → Option AV} {o : Oper} {v : AV} {σ' : ASt} {c : Core} {r : List Core} (hA : Anc ops anc) (h : PA P cfg call fuel rm ops anc base fr0 (σ0 := σ0) i D none val) (ho : ops[i]? = some o)
    (hg : guardOk ops.toList D.fr.ts o = true) (hw : wantedA ops.toList D.fr.ts o = true) (hc : D.cores = c :: r) (hch : chained (anc.getD i 0) D.cores = true)
    (hrun : BRun cfg call i o D.fr.ts (viewF base c (anc.getD i 0).testBit D.news) v σ') :
    PA P cfg call fuel rm ops anc base fr0 (σ0 := σ0) (i + 1) D (some (i, v, σ')) (upv val i none) := by
  have hch' := chained_spec D.cores hch h.cwS
  refine h.next hA ho (by simp) (.inl rfl) (.inr ⟨rfl, v, σ', rfl⟩) (fun _ h => h) (.inl rfl) ⟨D.fr.ts, h.hag none, .inr ⟨hg, .inr ⟨hw, .inr (.inr ⟨r.length, c, v, σ', rfl, ?_, ?_, hch', hrun⟩)⟩⟩⟩ (ag_none h.ag) h.ds
  · show D.cores.reverse[_]? = _
    rw [hc, getElem_rev, if_pos rfl]
  · show D.cores.reverse.length = _
    rw [hc]; simp

def StepPA (P : Program) (cfg : Cfg) (call : FuncId → List AV → ASt → Option CR) (fuel : Nat) (rm : Bool) (ops : Array Oper) (anc : List Nat) (base : Nat) (fr0 : AFr) (σ0 : ASt) (i : Nat) (D : DSt) (bad : Option (Nat × AV × ASt)) (val : Nat → Option AV) : DR → Prop
  | .ok D' => ∃ v, PA P cfg call fuel rm ops anc base fr0 (σ0 := σ0) (i + 1) D' bad (upv val i (some v))
  | .bad v σ' => bad = none ∧ PA P cfg call fuel rm ops anc base fr0 (σ0 := σ0) (i + 1) D (some (i, v, σ')) (upv val i none)

theorem PA.step {i : Nat} {D : DSt} {bad : Option (Nat × AV × ASt)} {val : Nat → Option AV} {o : Oper} {d : DR} (hA : Anc ops anc) (h : PA P cfg call fuel rm ops anc base fr0 (σ0 := σ0) i D bad val) (ho : ops[i]? = some o)
    (hg : guardOk ops.toList D.fr.ts o = true) (hw : wantedA ops.toList D.fr.ts o = true) (hs : stepD P cfg call fuel rm ops.toList anc base i o D bad.isSome = some d) :
    StepPA P cfg call fuel rm ops anc base fr0 σ0 i D bad val d := by
  unfold stepD at hs
  cases hc : D.cores with
  | nil => rw [hc] at hs; cases hs
  | cons c r =>
    rw [hc] at hs
    simp only at hs
    have stillCase : stepStill P cfg call fuel rm base i (anc.getD i 0) o D (viewF base c (anc.getD i 0).testBit D.news) = some d → StepPA P cfg call fuel rm ops anc base fr0 σ0 i D bad val d := by
      intro hs
      cases d with
      | ok D' => exact h.still hA ho hg hw hc hs
      | bad v σ' =>
        unfold stepStill at hs
        split at hs
        · rename_i v' b hst
          cases hb : (!readsMem o || stableT P cfg call fuel rm base i (anc.getD i 0) D.fr.ts o D.news v' b D.cores) with
          | false => rw [hb] at hs; cases hs
          | true => rw [hb] at hs; cases hs
        · cases hs
    have coreCase : ∀ v σ', WRun P cfg call rm base i o D.fr.ts (viewF base c (anc.getD i 0).testBit D.news) v σ' →
        (cond bad.isSome none (stepCore P cfg call fuel rm ops.toList anc base i (anc.getD i 0) o D v σ')) = some d → StepPA P cfg call fuel rm ops anc base fr0 σ0 i D bad val d := by
      intro v σ' hrun hs
      cases hb : bad with
      | some x => rw [hb] at hs; cases hs
      | none =>
        subst hb
        simp only [Option.isSome_none, cond_false] at hs
        cases d with
        | ok D' => exact ⟨v, h.core hA ho hg hw hc hrun hs⟩
        | bad v' σ'' =>
          unfold stepCore at hs
          cases hb : (chained (anc.getD i 0) D.cores && recheck P cfg call fuel rm ops.toList anc base i ⟨σ', anc.getD i 0, some i⟩ D.news D.rds) with
          | false => rw [hb] at hs; cases hs
          | true => rw [hb] at hs; cases hs
    have badCase : ∀ v σ', BRun cfg call i o D.fr.ts (viewF base c (anc.getD i 0).testBit D.news) v σ' →
        (cond (!bad.isSome && chained (anc.getD i 0) D.cores) (some (.bad v σ')) none) = some d → StepPA P cfg call fuel rm ops anc base fr0 σ0 i D bad val d := by
      intro v σ' hrun hs
      cases hb : (!bad.isSome && chained (anc.getD i 0) D.cores) with
      | false => rw [hb] at hs; cases hs
      | true =>
        rw [hb] at hs
        simp only [cond_true, Option.some.injEq] at hs
        subst hs
        simp only [Bool.and_eq_true, Bool.not_eq_true'] at hb
        have hbn : bad = none := by cases bad with
          | none => rfl
          | some x => simp at hb
        subst hbn
        exact ⟨rfl, h.bad hA ho hg hw hc hb.2 hrun⟩
    split at hs
    · rename_i x hop
      split at hs
      · rename_i t v hx
        exact badCase _ _ (.inl ⟨x, t, v, hop, hx, rfl, rfl⟩) (by rw [hc]; exact hs)
      · cases hs
    · cases hs
    · split at hs
      · rename_i f args hcal
        cases hm : Nat.beq (cfg.mode f) 0 with
        | true =>
          rw [hm] at hs
          simp only [cond_true] at hs
          split at hs
          · rename_i v σ' hcall
            exact coreCase v σ' (.inl ⟨f, args, hcal, hm, hcall⟩) hs
          · rename_i v σ' hcall
            exact badCase v σ' (.inr ⟨f, args, hcal, hm, hcall⟩) (by rw [hc]; exact hs)
          · cases hs
        | false =>
          rw [hm] at hs
          exact stillCase hs
      · rename_i hcal
        split at hs
        · rename_i v σ' ha
          exact coreCase v σ' (.inr ⟨hcal, ha⟩) hs
        · exact stillCase hs
        · cases hs

def FinPA (ops : Array Oper) (base : Nat) (fl : Flow) (fr' : AFr) (σ' : ASt) (Dn : DSt) : Option (Nat × AV × ASt) → Prop
  | none => fl = .norm ∧ fr' = Dn.fr ∧ ∃ c r, Dn.cores = c :: r ∧ σ' = viewC base c (2 ^ ops.size - 1) Dn.news
  | some (_, v, σ) => fl = .panic v ∧ fr' = { Dn.fr with ts := wipe ops.toList Dn.fr.ts } ∧ σ' = σ

theorem drawA_pa (hA : Anc ops anc) {m : Nat} {fl : Flow} {fr' : AFr} {σ' : ASt} : ∀ (rest : List Oper) (i : Nat) (D : DSt) (bad : Option (Nat × AV × ASt)) (val : Nat → Option AV),
    (∀ k, k < rest.length → rest[k]? = ops[i + k]?) → i + rest.length = m → PA P cfg call fuel rm ops anc base fr0 (σ0 := σ0) i D bad val → drawA P cfg call fuel rm ops.toList anc base i rest D bad = some (fl, fr', σ') →
    ∃ Dn badn valn, PA P cfg call fuel rm ops anc base fr0 (σ0 := σ0) m Dn badn valn ∧ FinPA ops base fl fr' σ' Dn badn := by
  intro rest
  induction rest with
  | nil =>
    intro i D bad val ho hn h hd
    have : i = m := by simpa using hn
    subst this
    cases hb : bad with
    | none =>
      rw [hb] at hd h
      simp only [drawA] at hd
      split at hd
      · rename_i c r hc
        simp only [Option.some.injEq, Prod.mk.injEq] at hd
        obtain ⟨rfl, rfl, rfl⟩ := hd
        exact ⟨D, none, val, h, rfl, rfl, c, r, hc, by simp⟩
      · cases hd
    | some x =>
      obtain ⟨b, v, σ⟩ := x
      rw [hb] at hd h
      simp only [drawA, Option.some.injEq, Prod.mk.injEq] at hd
      obtain ⟨rfl, rfl, rfl⟩ := hd
      exact ⟨D, some (b, v, σ), val, h, rfl, rfl, rfl⟩
  | cons o rest ih =>
    intro i D bad val ho hn h hd
    have hoi : ops[i]? = some o := by simpa using (ho 0 (by simp)).symm
    have ho' : ∀ k, k < rest.length → rest[k]? = ops[i + 1 + k]? := fun k hk => by
      have := ho (k + 1) (by simp; omega)
      simp only [List.getElem?_cons_succ] at this
      rw [this]; congr 1; omega
    have hn' : i + 1 + rest.length = m := by simp at hn; omega
    simp only [drawA] at hd
    have body : ∀ {x}, (cond (guardOk ops.toList D.fr.ts o)
        (cond (wantedA ops.toList D.fr.ts o)
          (match stepD P cfg call fuel rm ops.toList anc base i o D bad.isSome with
            | some (.ok D') => drawA P cfg call fuel rm ops.toList anc base (i + 1) rest D' bad
            | some (.bad v σ) => drawA P cfg call fuel rm ops.toList anc base (i + 1) rest D (some (i, v, σ))
            | none => none)
          (drawA P cfg call fuel rm ops.toList anc base (i + 1) rest { D with fr := D.fr.put o.dst (.tup []) } bad))
        none) = some x → x = (fl, fr', σ') → ∃ Dn badn valn, PA P cfg call fuel rm ops anc base fr0 (σ0 := σ0) m Dn badn valn ∧ FinPA ops base fl fr' σ' Dn badn := by
      intro x hx he
      subst he
      cases hgo : guardOk ops.toList D.fr.ts o with
      | false => rw [hgo] at hx; cases hx
      | true =>
        rw [hgo] at hx
        simp only [cond_true] at hx
        cases hw : wantedA ops.toList D.fr.ts o with
        | false =>
          rw [hw] at hx
          exact ih (i + 1) _ bad _ ho' hn' (h.off hA hoi hgo hw) hx
        | true =>
          rw [hw] at hx
          simp only [cond_true] at hx
          split at hx
          · rename_i D' hs
            obtain ⟨v, h'⟩ := h.step hA hoi hgo hw hs
            exact ih (i + 1) D' bad _ ho' hn' h' hx
          · rename_i v σ hs
            obtain ⟨rfl, h'⟩ := h.step hA hoi hgo hw hs
            exact ih (i + 1) D _ _ ho' hn' h' hx
          · cases hx
    cases hb : bad with
    | none => subst hb; exact body hd rfl
    | some x =>
      obtain ⟨b, v, σ⟩ := x
      subst hb
      simp only [isBad] at hd
      cases ha : (anc.getD i 0).testBit b with
      | true =>
        rw [ha] at hd
        exact ih (i + 1) D _ _ ho' hn' (h.skip hA hoi rfl ha) hd
      | false =>
        rw [ha] at hd
        exact body hd rfl

theorem wipe_getD : ∀ (l : List Oper) (ts : List AV) (t : Nat), (wipe l ts).length = ts.length ∧ (((wipe l ts).getD t .undef = .undef) ∨ ((wipe l ts).getD t .undef = ts.getD t .undef ∧ ∀ o ∈ l, o.dst = some t → ts.length ≤ t))
  | [], ts, t => ⟨rfl, .inr ⟨rfl, fun o h => by cases h⟩⟩
  | o :: l, ts, t => by
    unfold wipe
    simp only [List.foldl_cons]
    have ih := wipe_getD l (match o.dst with | some d => ts.set d .undef | none => ts) t
    unfold wipe at ih
    have hl : (match o.dst with | some d => ts.set d .undef | none => ts).length = ts.length := by cases o.dst <;> simp
    refine ⟨ih.1.trans hl, ?_⟩
    rcases ih.2 with h | ⟨h1, h2⟩
    · exact .inl h
    · by_cases ht : t < ts.length
      · by_cases hd : o.dst = some t
        · left
          refine Eq.trans h1 ?_
          rw [hd]
          simp [List.getD, ht]
        · right
          refine ⟨h1.trans ?_, fun o' ho' hd' => ?_⟩
          · cases hod : o.dst with
            | none => rfl
            | some d =>
              have hne : d ≠ t := by rintro rfl; exact hd hod
              simp [List.getD, List.getElem?_set, hne]
          · rcases List.mem_cons.1 ho' with rfl | ho'
            · exact absurd hd' hd
            · have := h2 o' ho' hd'
              rw [hl] at this; exact this
      · have e1 : ts.getD t .undef = .undef := by simp [List.getD, List.getElem?_eq_none (Nat.le_of_not_lt ht)]
        right
        refine ⟨h1.trans ?_, fun _ _ _ => Nat.le_of_not_lt ht⟩
        rw [e1]
        simp only [List.getD]
        rw [List.getElem?_eq_none]
        · rfl
        · rw [hl]; exact Nat.le_of_not_lt ht

theorem draw_ok {id : Nat} {fr fr' : AFr} {σ σ' : ASt} {Γ : Ctx} {a : Act} {fl : Flow} {Q : Exit → Act → World → Prop} (hm : P.follows .mixedOrders = true) (hC : CallOK P cfg call) (hI : Inv Γ σ) (hwp : σ.wp ≤ σ.next)
    (hg : GR Γ cfg) (hf : FRel Γ fr a) (hok : drawOk ops = true)
    (h : drawA P cfg call fuel rm ops.toList (ancs ops.toList) σ.next 0 ops.toList ⟨fr, [⟨⟨σ.next + ops.toList.length, σ.wp, σ.heap⟩, 0, none⟩], [], []⟩ none = some (fl, fr', σ'))
    (hQ : XPost Γ σ (σ.next ≤ ·) Q fl fr' σ') : (Code.region id ops true).wp P Q a Γ.w := by
  have hA := drawOk_anc hok
  generalize ancs ops.toList = anc at h hA
  obtain ⟨hst, hI1⟩ := grow hI { Γ.w with drawn := Γ.w.drawn + 1 } (Nat.le_refl _) rfl rfl rfl (fun _ _ => rfl)
  generalize hΓ1 : ({ Γ with w := { Γ.w with drawn := Γ.w.drawn + 1 } } : Ctx) = Γ1 at hst hI1
  have hw1 : ({ Γ.w with drawn := Γ.w.drawn + 1 } : World) = Γ1.w := by rw [← hΓ1]
  have hd1 : Γ1.dom = Γ.dom := by rw [← hΓ1]
  have hlen : ops.toList.length = ops.size := by simp
  rw [hlen] at h
  let σ1 : ASt := ⟨σ.next + ops.size, σ.wp, σ.heap⟩
  have hI1' : Inv Γ1 σ1 :=
    ⟨fun j B hj => ⟨(hI1.blk j B hj).1, Nat.lt_of_lt_of_le (hI1.blk j B hj).2.1 (Nat.le_add_right _ _), (hI1.blk j B hj).2.2⟩, hI1.inj, hI1.free, hI1.lt, hI1.lto, fun j hj => Nat.lt_of_lt_of_le (hI1.domlt j hj) (Nat.le_add_right _ _)⟩
  have hG1 : Good Γ σ Γ1 σ1 (fun _ => False) := by
    refine Good.trans (D₁ := fun _ => False) (D₂ := fun _ => False) (Γ₂ := Γ1) (σ₂ := σ) ⟨hst, hI1, fun j hj => .inl (by rw [hd1] at hj; exact hj)⟩ ⟨⟨.refl Γ1, Nat.le_refl _, rfl, rfl, rfl, fun _ _ _ => rfl, fun id B h hw => .inr ⟨id, B, h, hw, rfl⟩, fun _ _ => rfl, rfl, Nat.le_add_right _ _, fun _ _ h => .inl h, fun _ h => .inl h⟩, hI1', fun j h => .inl h⟩ (fun j h => h) (fun j h => h)
  have hPA : PA P cfg call fuel rm ops anc σ.next fr (σ0 := σ1) 0 ⟨fr, [⟨σ1, 0, none⟩], [], []⟩ none (fun _ => none) := by
    refine ⟨⟨⟨σ1, 0, none⟩, rfl, rfl, rfl, rfl⟩, fun k c hk h0 => ?_, fun k k' c c' w hk hk' hw hw' => ?_, fun b v σ hb => (nomatch hb), fun j o hj => by omega, fun p _ => rfl, ⟨rfl, fun t ht => ?_⟩, rfl⟩
    · cases k with
      | zero => exact absurd rfl h0
      | succ k => simp at hk
    · cases k with
      | zero => simp at hk; subst hk; cases hw
      | succ k => simp at hk
    · rw [tv_top 0 ops.size (Nat.zero_le _) fun p _ _ _ => by simp [lim]]
      rfl
  obtain ⟨Dn, badn, valn, hP, hfin⟩ := drawA_pa (m := ops.size) hA ops.toList 0 _ none _ (fun k _ => by simp) (by simp) hPA h
  let T : Tab := ⟨Dn.cores.reverse, Dn.news, valn, badn⟩
  have hT : TabOK P cfg call fuel rm ops anc σ.next fr T σ1 ops.size := by
    refine ⟨hP.c0, fun k c hk h0 => hP.cw k c hk h0, hP.cinj, hP.badlt, fun j o _ ho => ?_⟩
    obtain ⟨ts, hag, hfa⟩ := hP.facts j o (Array.getElem?_eq_some_iff.1 ho).1 ho
    refine ⟨ts, hag, hfa.imp_right fun ⟨h1, h2⟩ => ⟨h1, h2.imp_right fun ⟨h3, h4⟩ => ⟨h3, h4.imp_left fun ⟨a1, a2, a3, _⟩ => ⟨a1, a2, a3⟩⟩⟩⟩
  refine wp_region_any hm ?_
  rw [hw1]
  obtain ⟨c0, hc0, hc0w, hc0a, hc0s⟩ := hP.c0
  have hS0 : ∀ p, asS (Array.replicate ops.size false) p = false := by
    intro p; unfold asS
    by_cases hp : p < ops.size <;> simp [Array.getD, hp]
  have hview : ∀ j, (viewF σ.next c0 (asS (Array.replicate ops.size false)) T.news).get j = σ1.get j := by
    intro j; rw [viewF_get, if_neg (by rw [hS0]; simp), hc0s]
  have hk0 : ∀ (k' : Nat) (c' : Core) (w : Nat), k' ≤ 0 → T.cs[k']? = some c' → c'.w = some w → False := by
    intro k' c' w h1 h2 h3
    have : k' = 0 := by omega
    subst this
    have h2' : Dn.cores.reverse[0]? = some c' := h2
    rw [hc0] at h2'
    obtain rfl := Option.some.inj h2'
    rw [hc0w] at h3; cases h3
  have hJ0 : J ops anc σ.next fr T Γ1 σ1 (asS (Array.replicate ops.size false)) a Γ1 0 c0 fr.ts := by
    refine ⟨Good.drop hI1' (fun id B h => by rw [hview] at h; exact h) (fun id _ => hview id) (by rw [(viewF_next ..).2, hc0s]) (by rw [(viewF_next ..).1, hc0s]), hc0, fun k' c' w h1 h2 h3 => (hk0 k' c' w h1 h2 h3).elim, fun k' c' h1 h2 => ?_, ⟨rfl, fun t ht => ?_⟩, hf.ext hst.ext, fun p hp _ hd => ?_, fun p hp => (by rw [hS0] at hp; cases hp), fun p q hp => (by rw [hS0] at hp; cases hp), fun p hp => (by rw [hS0] at hp; cases hp), fun b v σ hb => hS0 b⟩
    · obtain ⟨w, _, h3, _⟩ := hP.cw k' c' h2 (by omega)
      exact ⟨w, h3, hS0 w⟩
    · rw [tv_top 0 ops.size (Nat.zero_le _) fun p _ _ _ => by unfold lim; rw [hS0]; simp]
      rfl
    · rw [hd1] at hd
      have := hI.domlt _ hd
      omega
  have hun : un (asS (Array.replicate ops.size false)) ops.size ≤ ops.size := by
    have : ∀ (S : Nat → Bool) n, un S n ≤ n := by
      intro S n
      induction n with
      | zero => exact Nat.le_refl _
      | succ n ih => simp only [un]; split <;> omega
    exact this _ _
  refine draw_any hC hA hT (hg.ext hst.ext) (Nat.le_refl _) hwp (fun hbn S a' Γ' k c ts hS hcs hJ => ?_) (fun j v σ'' S Γ' y a' ts hb hG hv hag hf' => ?_) ops.size _ a Γ1 0 c0 fr.ts (by simp) hun hJ0
  · have hbn' : badn = none := hbn
    subst hbn'
    obtain ⟨rfl, rfl, c', r, hc', rfl⟩ := hfin
    have hcc : c' = c := by
      have h1 : Dn.cores.reverse[k]? = some c := hJ.core
      have h2 : Dn.cores.reverse.length = k + 1 := hcs
      rw [hc'] at h1 h2
      simp at h2
      rw [getElem_rev, if_pos h2.symm] at h1
      exact Option.some.inj h1
    subst hcc
    have hSe : S = (2 ^ ops.size - 1).testBit := by
      funext p
      rw [Nat.testBit_two_pow_sub_one]
      cases hs : S p with
      | true => have := (hS p).1 hs; simp [this]
      | false =>
        have : ¬ p < ops.size := fun h => by rw [(hS p).2 h] at hs; cases hs
        simp [this]
    have hg' := hJ.good
    rw [hSe] at hg'
    have hag' : Ag ops (lim S valn) fr.ts Dn.fr.ts := hP.ag.congr fun p hp => by
      unfold lim
      rw [(hS p).2 hp, if_pos (by simpa using hp), if_pos rfl]
    have hts : ts = Dn.fr.ts := hJ.ag.eq hag'
    have hfr := hJ.fr
    rw [hts] at hfr
    exact hQ Γ' a' (hG1.trans hg' (fun j h => h.elim) (fun j h => h)) ⟨hfr.ts, by rw [hP.ds]; exact hfr.ds⟩
  · have hb' : badn = some (j, v, σ'') := hb
    subst hb'
    obtain ⟨rfl, rfl, rfl⟩ := hfin
    refine hQ Γ' a' (hG1.trans hG (fun j h => h.elim) (fun j h => h)) ⟨⟨?_, fun t ht => ?_⟩, by show DefR Γ' Dn.fr.ds _; rw [hP.ds]; exact hf'.ds⟩ y hv
    · show _ = (wipe ops.toList Dn.fr.ts).length
      rw [(wipe_getD ops.toList Dn.fr.ts 0).1, hP.ag.len, ← hag.len]; exact hf'.ts.1
    · show VR Γ' ((wipe ops.toList Dn.fr.ts).getD t .undef) _
      have hlt : t < fr.ts.length := by
        have : t < (wipe ops.toList Dn.fr.ts).length := ht
        rw [(wipe_getD ops.toList Dn.fr.ts 0).1, hP.ag.len] at this; exact this
      rcases (wipe_getD ops.toList Dn.fr.ts t).2 with he | ⟨he, hno⟩
      · rw [he]; exact .undef _
      · rw [he]
        have hno' : ∀ p, 0 ≤ p → p < ops.size → (ops[p]?).bind (·.dst) = some t → False := by
          intro p _ hp hd
          rw [Array.getElem?_eq_getElem hp] at hd
          simp only [Option.bind_some] at hd
          have := hno ops[p] (Array.mem_toList_iff.2 (Array.getElem_mem hp)) hd
          rw [hP.ag.len] at this; omega
        have e1 : Dn.fr.ts.getD t .undef = ts.getD t .undef := by
          rw [hP.ag.val t hlt, hag.val t hlt, tv_top 0 ops.size (Nat.zero_le _) fun p h1 h2 h3 => (hno' p h1 h2 h3).elim, tv_top 0 ops.size (Nat.zero_le _) fun p h1 h2 h3 => (hno' p h1 h2 h3).elim]
          rfl
        rw [e1]
        exact hf'.ts.2 t (by rw [hag.len]; exact hlt)
end
end Go.Am
