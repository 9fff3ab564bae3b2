/-
Regions whose order is drawn and that end in stores to unlike blocks.
Code and calls: what the abstract machine says is so.
Deferred calls, recover, calls.
Triples: what code and calls come to, with no evaluator in sight.
Calls whose arguments are closed: they run as on the empty state.
Triples for operations and for regions in the order of their text.
-/
import Derived.Test.YtcphlgkfboafoaaGreatDoorA5
import Derived.LoopN
import Derived.Recover
set_option linter.unusedVariables false
set_option linter.unusedSimpArgs false
namespace Go.Am
open Go

section
variable {P : Program} {cfg : Cfg} {call : FuncId → List AV → ASt → Option CR} {fuel : Nat} {rm : Bool} {ops : Array Oper} {anc : List Nat} {base : Nat} {fr0 : AFr}

theorem plain_local {ρ : Operand → AV} {o : Oper} {σ : ASt} {id : Nat} {v : AV} (hp : isPlain o = true) (h : aop P cfg rm σ id ρ o = some (v, .pure)) : ∀ σ' id', aop P cfg rm σ' id' ρ o = some (v, .pure) := by
  intro σ' id'
  unfold isPlain at hp
  split at hp <;> first | (cases hp; done) | (rename_i ho; simp only [aop, ho] at h ⊢; exact h)

theorem store_local {ρ : Operand → AV} {o : Oper} {σ σ1 : ASt} {id : Nat} {v : AV} {t : TypeId} {a x : Operand} {q j off : Nat} (ho : o.op = .store t a x) (hq : ρ a = .ptr q j off) (h : aop P cfg rm σ id ρ o = some (v, .upd σ1)) :
    ∃ b, v = .undef ∧ σ1 = σ.put q b ∧ ∀ σ' id', σ'.get q = σ.get q → σ'.wp = σ.wp → aop P cfg rm σ' id' ρ o = some (.undef, .upd (σ'.put q b)) := by
  simp only [aop, ho, hq] at h ⊢
  split at h
  · rename_i k xs ty hg
    cases hx : xs[j]? with
    | none => rw [hx] at h; cases h
    | some y =>
      rw [hx] at h
      simp only [Option.bind_some] at h
      split at h
      · rename_i hc
        simp only [Option.some.injEq, Prod.mk.injEq, Eff.upd.injEq] at h
        refine ⟨_, h.1.symm, h.2.symm, fun σ' id' hg' hw => ?_⟩
        rw [hg', hg, hw]
        simp only [hx, Option.bind_some]
        rw [if_pos hc]
      · cases h
  · cases h

/-- The stores of a tail, the last one first: operation, block, what is there then. -/
abbrev Sts := List (Nat × Nat × Blk)
def stF (σh : ASt) (S : Nat → Bool) (st : Sts) : ASt := st.foldr (fun e σ => cond (S e.1) (σ.put e.2.1 e.2.2) σ) σh

theorem stF_next (σh : ASt) (S : Nat → Bool) : ∀ st, (stF σh S st).next = σh.next ∧ (stF σh S st).wp = σh.wp
  | [] => ⟨rfl, rfl⟩
  | e :: r => by
    have ih := stF_next σh S r
    unfold stF at ih ⊢
    simp only [List.foldr_cons]
    cases S e.1 <;> simp only [cond_true, cond_false] <;> exact ih

/-- A block that no store of S touches. -/
theorem stF_off {σh : ASt} {S : Nat → Bool} {id : Nat} : ∀ {st : Sts}, (∀ e ∈ st, S e.1 = true → e.2.1 ≠ id) → (stF σh S st).get id = σh.get id
  | [], _ => rfl
  | e :: r, h => by
    have ih := stF_off (σh := σh) (S := S) (id := id) (st := r) fun e he => h e (List.mem_cons_of_mem _ he)
    unfold stF at ih ⊢
    simp only [List.foldr_cons]
    cases hs : S e.1 with
    | false => exact ih
    | true => rw [cond_true, ASt.get_put, if_neg (fun x => h e List.mem_cons_self hs x.symm)]; exact ih

theorem stF_on {σh : ASt} {S : Nat → Bool} {j q : Nat} {b : Blk} (hS : S j = true) : ∀ {st : Sts}, (j, q, b) ∈ st → st.Pairwise (fun a b => a.2.1 ≠ b.2.1) → (stF σh S st).get q = some b
  | e :: r, h, hp => by
    rw [List.pairwise_cons] at hp
    rcases List.mem_cons.1 h with he | h
    · subst he
      unfold stF
      simp only [List.foldr_cons, hS, cond_true, ASt.get_put, if_true]
    · have ih := stF_on (σh := σh) hS h hp.2
      have hne := hp.1 _ h
      unfold stF at ih ⊢
      simp only [List.foldr_cons]
      cases hs : S e.1 with
      | false => exact ih
      | true => rw [cond_true, ASt.get_put, if_neg (fun x => hne x.symm)]; exact ih

theorem stF_congr {σh : ASt} {S S' : Nat → Bool} : ∀ {st : Sts}, (∀ e ∈ st, S e.1 = S' e.1) → stF σh S st = stF σh S' st
  | [], _ => rfl
  | e :: r, h => by
    have ih := stF_congr (σh := σh) (st := r) fun e he => h e (List.mem_cons_of_mem _ he)
    unfold stF at ih ⊢
    simp only [List.foldr_cons]
    rw [h e List.mem_cons_self, ih]

/-- What is known of an operation of the tail. -/
def TFact (P : Program) (cfg : Cfg) (rm : Bool) (ops : Array Oper) (fr0 : AFr) (val : Nat → Option AV) (σh : ASt) (st : Sts) (j : Nat) (o : Oper) : Prop :=
  o.guard = none ∧ ∃ ts, Ag ops (lim (fun p => decide (p < j)) val) fr0.ts ts ∧ calleeA (aval cfg ts) o = none ∧ (∀ x, o.op ≠ .panic x) ∧ (∀ c, o.op ≠ .defer c) ∧
    ((∃ v, val j = some v ∧ (∀ q b, (j, q, b) ∉ st) ∧ ∀ σ id, aop P cfg rm σ id (aval cfg ts) o = some (v, .pure)) ∨
     (∃ q b, val j = some .undef ∧ (j, q, b) ∈ st ∧ ∀ σ id, σ.get q = σh.get q → σ.wp = σh.wp → aop P cfg rm σ id (aval cfg ts) o = some (.undef, .upd (σ.put q b))))

structure J2 (ops : Array Oper) (anc : List Nat) (base : Nat) (fr0 : AFr) (val : Nat → Option AV) (σh : ASt) (st : Sts) (p : Nat) (Γ0 : Ctx) (σ0 : ASt) (S : Nat → Bool) (a : Act) (Γ : Ctx) (ts : List AV) : Prop where
  good : Good Γ0 σ0 Γ (stF σh S st) (base ≤ ·)
  ag : Ag ops (lim S val) fr0.ts ts
  fr : FRel Γ ⟨ts, fr0.ds⟩ a
  fresh : ∀ j, j < ops.size → S j = false → ¬ Γ.dom (base + j)
  down : ∀ p q, S p = true → (anc.getD p 0).testBit q = true → S q = true
  slt : ∀ p, S p = true → p < ops.size
  head : ∀ q, q < p → S q = true

theorem stepA_aop {id : Nat} {fr : AFr} {o : Oper} {σ : ASt} {r : AV × Eff} (hc : calleeA (aval cfg fr.ts) o = none) (hp : ∀ x, o.op ≠ .panic x) (hd : ∀ c, o.op ≠ .defer c) (h : aop P cfg rm σ id (aval cfg fr.ts) o = some r) :
    stepA P cfg call fuel rm id o fr σ = some (match r with | (v, .pure) => .go (fr.put o.dst v) σ | (v, .new b) => .go (fr.put o.dst v) (σ.put id b) | (v, .upd σ') => .go (fr.put o.dst v) σ') := by
  unfold stepA
  split
  · rename_i x ho; exact absurd ho (hp x)
  · rename_i g xs tys ho; exact absurd ho (hd _)
  · rw [hc]
    simp only [h]
    obtain ⟨v, e⟩ := r
    cases e <;> rfl

theorem J2.op {val : Nat → Option AV} {σh : ASt} {st : Sts} {p : Nat} {Γ0 : Ctx} {σ0 : ASt} {S : Nat → Bool} {a : Act} {Γ : Ctx} {ts : List AV} (hC : CallOK P cfg call) (hA : Anc ops anc) (hJ : J2 ops anc base fr0 val σh st p Γ0 σ0 S a Γ ts) (hg : GR Γ0 cfg)
    (hnx : base + ops.size ≤ σh.next) (hwp : σh.wp ≤ base) (hpw : st.Pairwise (fun a b => a.2.1 ≠ b.2.1)) (hone : ∀ e ∈ st, ∀ e' ∈ st, e.1 = e'.1 → e = e')
    {j : Nat} {o : Oper} (ho : ops[j]? = some o) (hF : TFact P cfg rm ops fr0 val σh st j o) (hj : S j = false) (hrd : ∀ q, (anc.getD j 0).testBit q = true → S q = true) {K : Act → World → Prop} {Q : Exit → Act → World → Prop}
    (hK : ∀ Γ' a' ts', J2 ops anc base fr0 val σh st p Γ0 σ0 (more S j) a' Γ' ts' → K a' Γ'.w) : wpOp P ops Q j K a Γ.w := by
  have hlt : j < ops.size := (Array.getElem?_eq_some_iff.1 ho).1
  have hgr : GR Γ cfg := hg.ext hJ.good.step.ext
  obtain ⟨hgd, ts', hag', hcal, hnp, hnd, hfact⟩ := hF
  have hlook := look_eq (T := ⟨[], [], val, none⟩) hA ho hj hrd hJ.down hJ.ag hag'
  have hFr : Fresh Γ (stF σh S st) (base + j) := ⟨hJ.fresh j hlt hj, by rw [(stF_next ..).1]; omega, by rw [(stF_next ..).2]; omega⟩
  have hcal' : calleeA (aval cfg ts) o = none := by rw [← calleeA_congr (aval_look (cfg := cfg) hlook)]; exact hcal
  unfold wpOp
  simp only [ho]
  have hgo : guardOk ops.toList ts o = true := by unfold guardOk; rw [hgd]
  have hw : wantedA ops.toList ts o = true := by unfold wantedA; rw [hgd]
  rw [wanted_ok hJ.fr.ts hgo, hw]
  simp only [if_true]
  refine .inl ?_
  -- what holds behind it
  have fin : ∀ {v : AV} {Γ' : Ctx} {a' : Act} {σ' : ASt}, val j = some v → (∀ id, (stF σh (more S j) st).get id = σ'.get id) → σ'.next = σh.next → σ'.wp = σh.wp →
      Good Γ (stF σh S st) Γ' σ' (fun i => i = base + j ∨ (stF σh S st).next ≤ i) → FRel Γ' (AFr.put ⟨ts, fr0.ds⟩ o.dst v) a' → K a' Γ'.w := by
    intro v Γ' a' σ' hv hget hn' hw' hG hf
    have hG2 : Good Γ' σ' Γ' (stF σh (more S j) st) (fun _ => False) :=
      Good.drop hG.inv (fun id B h => by rw [← hget]; exact h) (fun id _ => hget id) (by rw [(stF_next ..).2, hw']) (by rw [(stF_next ..).1, hn'])
    refine hK Γ' a' (AFr.put ⟨ts, fr0.ds⟩ o.dst v).ts ⟨(hJ.good.trans hG (fun i h => h) (fun i h => ?_)).trans hG2 (fun i h => h) (fun i h => h.elim), ?_, ?_, fun i hi hs hd => ?_, fun i q hi hq => ?_, fun i hi => ?_, fun q hq => more_of (hJ.head q hq)⟩
    · rw [(stF_next ..).1] at h; omega
    · refine hJ.ag.put ho (fun p hp => ?_) ?_ fun p h1 h2 d hd hpd => ?_
      · unfold lim; rw [more_ne hp]
      · unfold lim; rw [more_self, if_pos rfl]; exact hv
      · have hop : ops[p]? = some ops[p] := Array.getElem?_eq_getElem h2
        rw [hop] at hpd
        simp only [Option.bind_some] at hpd
        unfold lim
        rw [if_neg]
        intro hs
        rcases hA.apart p j _ o h1 hop ho with ha | ha
        · rw [hJ.down p j hs ha] at hj; cases hj
        · exact (Oper.apart_spec ha).2.1 d hpd hd
    · have e : (AFr.put ⟨ts, fr0.ds⟩ o.dst v).ds = fr0.ds := by cases o.dst <;> rfl
      exact ⟨hf.ts, by have := hf.ds; rwa [e] at this⟩
    · obtain ⟨h1, h2⟩ := more_false hs
      rcases hG.dom _ hd with h | h | h
      · exact hJ.fresh i hi h2 h
      · omega
      · rw [(stF_next ..).1] at h; omega
    · rcases more_inv hi with rfl | hi
      · exact more_of (hrd q hq)
      · exact more_of (hJ.down i q hi hq)
    · rcases more_inv hi with rfl | hi
      · exact hlt
      · exact hJ.slt i hi
  rcases hfact with ⟨v, hv, hno, hrun⟩ | ⟨q, b, hv, hmem, hrun⟩
  · have hr := hrun (stF σh S st) (base + j)
    rw [aop_congr (aval_look (cfg := cfg) hlook)] at hr
    refine stepA_ok (fuel := 0) (rm := rm) hC hJ.good.inv hgr hJ.fr hFr (stepA_aop hcal' hnp hnd hr) fun Γ' a' hG hf => ?_
    refine fin hv (fun id => ?_) (stF_next ..).1 (stF_next ..).2 hG hf
    rw [stF_congr (S' := S)]
    intro e he
    rw [more_ne]
    rintro rfl
    exact hno e.2.1 e.2.2 he
  · have hq : (stF σh S st).get q = σh.get q := by
      refine stF_off fun e he hs hq => ?_
      subst hq
      by_cases hej : e.1 = j
      · rw [hej, hj] at hs; cases hs
      · skip
        -- two stores to one block
        have key : ∀ {l : Sts}, l.Pairwise (fun a b => a.2.1 ≠ b.2.1) → ∀ a ∈ l, ∀ b ∈ l, a.2.1 = b.2.1 → a = b := by
          intro l hl
          induction hl with
          | nil => intro a ha; cases ha
          | cons h1 _ ih =>
            intro a ha b hb hab
            rcases List.mem_cons.1 ha with ea | ha2
            · rcases List.mem_cons.1 hb with eb | hb2
              · rw [ea, eb]
              · exact absurd hab (by rw [ea]; exact h1 b hb2)
            · rcases List.mem_cons.1 hb with eb | hb2
              · exact absurd hab.symm (by rw [eb]; exact h1 a ha2)
              · exact ih a ha2 b hb2 hab
        have := key hpw e he (j, e.2.1, b) hmem rfl
        exact hej (by rw [this])
    have hr := hrun (stF σh S st) (base + j) hq (stF_next ..).2
    rw [aop_congr (aval_look (cfg := cfg) hlook)] at hr
    refine stepA_ok (fuel := 0) (rm := rm) hC hJ.good.inv hgr hJ.fr hFr (stepA_aop hcal' hnp hnd hr) fun Γ' a' hG hf => ?_
    refine fin (σ' := (stF σh S st).put q b) hv (fun id => ?_) (stF_next σh S st).1 (stF_next σh S st).2 hG hf
    rw [ASt.get_put]
    by_cases hid : id = q
    · subst hid
      rw [if_pos rfl]
      exact stF_on (more_self S j) hmem hpw
    · rw [if_neg hid]
      -- the other blocks
      have : ∀ {l : Sts}, (∀ e ∈ l, e.1 = j → e.2.1 ≠ id) → (stF σh (more S j) l).get id = (stF σh S l).get id := by
        intro l
        induction l with
        | nil => intro _; rfl
        | cons e r ih =>
          intro h
          have ih := ih fun e he => h e (List.mem_cons_of_mem _ he)
          unfold stF at ih ⊢
          simp only [List.foldr_cons]
          by_cases hej : e.1 = j
          · rw [hej, more_self, hj, cond_true, cond_false, ASt.get_put, if_neg (fun x => h e List.mem_cons_self hej x.symm)]
            exact ih
          · rw [more_ne hej]
            cases S e.1 with
            | false => exact ih
            | true => rw [cond_true, cond_true, ASt.get_put, ASt.get_put]; split <;> first | rfl | exact ih
      refine this fun e he hej hq2 => ?_
      have : e.2.1 = q := by rw [hone e he (j, q, b) hmem hej]
      exact hid (hq2.symm.trans this)

/-! ### The run of the tail in the text's order -/
structure TA (P : Program) (cfg : Cfg) (rm : Bool) (ops : Array Oper) (fr0 : AFr) (σh : ASt) (p i : Nat) (fr : AFr) (σ : ASt) (ids : List Nat) (val : Nat → Option AV) (st : Sts) : Prop where
  facts : ∀ j o, p ≤ j → j < i → ops[j]? = some o → TFact P cfg rm ops fr0 val σh st j o
  ag : Ag ops (lim (fun q => decide (q < i)) val) fr0.ts fr.ts
  ds : fr.ds = fr0.ds
  σ : σ = stF σh (fun _ => true) st
  ids : ids = st.map (·.2.1)
  pw : st.Pairwise (fun a b => a.2.1 ≠ b.2.1)
  one : ∀ e ∈ st, ∀ e' ∈ st, e.1 = e'.1 → e = e'
  lt : ∀ e ∈ st, e.1 < i

theorem TFact.mono {val : Nat → Option AV} {σh : ASt} {st : Sts} {i j : Nat} {o : Oper} {x : Option AV} (h : TFact P cfg rm ops fr0 val σh st j o) (hj : j < i) (ex : Sts) (hex : ∀ e ∈ ex, e.1 = i) :
    TFact P cfg rm ops fr0 (upv val i x) σh (ex ++ st) j o := by
  obtain ⟨h1, ts, h2, h3, h4, h5, h6⟩ := h
  have hv : upv val i x j = val j := upv_ne (by omega)
  refine ⟨h1, ts, h2.congr fun p _ => lim_upv (by omega) p, h3, h4, h5, ?_⟩
  rcases h6 with ⟨v, a1, a2, a3⟩ | ⟨q, b, a1, a2, a3⟩
  · refine .inl ⟨v, hv.trans a1, fun q b hm => ?_, a3⟩
    rcases List.mem_append.1 hm with hm | hm
    · have := hex _ hm; simp only at this; omega
    · exact a2 q b hm
  · exact .inr ⟨q, b, hv.trans a1, List.mem_append_right _ a2, a3⟩

theorem ag_next {val : Nat → Option AV} {i : Nat} {o : Oper} {v : AV} {fr : AFr} (ho : ops[i]? = some o) (h : Ag ops (lim (fun q => decide (q < i)) val) fr0.ts fr.ts) :
    Ag ops (lim (fun q => decide (q < i + 1)) (upv val i (some v))) fr0.ts (fr.put o.dst v).ts := by
  have := Ag.put (ds := fr.ds) (g' := lim (fun q => decide (q < i + 1)) (upv val i (some v))) h ho (v := v) (fun p hp => ?_) ?_ fun p h1 h2 d hd hpd => ?_
  · exact this
  · unfold lim
    by_cases hlt : p < i
    · have : p < i + 1 := by omega
      simp [hlt, this, upv_ne hp]
    · have : ¬ p < i + 1 := by omega
      simp [hlt, this]
  · unfold lim; simp [upv_self]
  · unfold lim
    have : ¬ p < i := by omega
    simp [this]

theorem tailA_ta {fl : Flow} {fr' : AFr} {σ' σh : ASt} {p : Nat} : ∀ (rest : List Oper) (i : Nat) (fr : AFr) (σ : ASt) (ids : List Nat) (val : Nat → Option AV) (st : Sts),
    (∀ k, k < rest.length → rest[k]? = ops[i + k]?) → i + rest.length = ops.size → p ≤ i → (∀ o ∈ rest, o.guard = none ∧ (isStore o = true ∨ isPlain o = true)) → TA P cfg rm ops fr0 σh p i fr σ ids val st →
    tailA P cfg rm base i rest fr σ ids = some (fl, fr', σ') →
    fl = .norm ∧ ∃ ids' val' st', TA P cfg rm ops fr0 σh p ops.size fr' σ' ids' val' st' ∧ (∀ q, q < i → val' q = val q) ∧ ∀ e ∈ st', e ∈ st ∨ i ≤ e.1 := by
  intro rest
  induction rest with
  | nil =>
    intro i fr σ ids val st ho hn hpi hk h ht
    have : i = ops.size := by simpa using hn
    subst this
    simp only [tailA, Option.some.injEq, Prod.mk.injEq] at ht
    obtain ⟨rfl, rfl, rfl⟩ := ht
    exact ⟨rfl, ids, val, st, h, fun q _ => rfl, fun e he => .inl he⟩
  | cons o rest ih =>
    intro i fr σ ids val st ho hn hpi hk h ht
    have hoi : ops[i]? = some o := by simpa using (ho 0 (by simp)).symm
    have ho' : ∀ k, k < rest.length → rest[k]? = ops[i + 1 + k]? := fun k hk => by
      have := ho (k + 1) (by simp; omega)
      simp only [List.getElem?_cons_succ] at this
      rw [this]; congr 1; omega
    have hn' : i + 1 + rest.length = ops.size := by simp at hn; omega
    obtain ⟨hgd, hkind⟩ := hk o List.mem_cons_self
    have hk' : ∀ o ∈ rest, o.guard = none ∧ (isStore o = true ∨ isPlain o = true) := fun o h => hk o (List.mem_cons_of_mem _ h)
    have next : ∀ {x : AV} {σ1 : ASt} {ids1 : List Nat} {ex : Sts}, TA P cfg rm ops fr0 σh p (i + 1) (fr.put o.dst x) σ1 ids1 (upv val i (some x)) (ex ++ st) → (∀ e ∈ ex, e.1 = i) → tailA P cfg rm base (i + 1) rest (fr.put o.dst x) σ1 ids1 = some (fl, fr', σ') →
        fl = .norm ∧ ∃ ids' val' st', TA P cfg rm ops fr0 σh p ops.size fr' σ' ids' val' st' ∧ (∀ q, q < i → val' q = val q) ∧ ∀ e ∈ st', e ∈ st ∨ i ≤ e.1 := by
      intro x σ1 ids1 ex h1 hex h2
      obtain ⟨e1, ids', val', st', e2, e3, e4⟩ := ih (i + 1) _ σ1 ids1 _ (ex ++ st) ho' hn' (by omega) hk' h1 h2
      refine ⟨e1, ids', val', st', e2, fun q hq => (e3 q (by omega)).trans (upv_ne (by omega)), fun e he => ?_⟩
      rcases e4 e he with h | h
      · rcases List.mem_append.1 h with h | h
        · exact .inr (by rw [hex e h]; exact Nat.le_refl _)
        · exact .inl h
      · exact .inr (by omega)
    have hds : ∀ x, (fr.put o.dst x).ds = fr0.ds := fun x => by
      have : (fr.put o.dst x).ds = fr.ds := by cases o.dst <;> rfl
      rw [this]; exact h.ds
    by_cases hst : isStore o = true
    · unfold isStore at hst
      split at hst
      rotate_left
      · cases hst
      rename_i t a x hop
      simp only [tailA, hop] at ht
      split at ht
      rotate_left
      · cases ht
      rename_i q j off hq
      cases hall : ids.all fun r => !(Nat.beq r q) with
      | false => rw [hall] at ht; cases ht
      | true =>
        rw [hall] at ht
        simp only [cond_true] at ht
        split at ht
        rotate_left
        · cases ht
        rename_i v σ1 hao
        obtain ⟨b, rfl, rfl, hloc⟩ := store_local hop hq hao
        have hnot : ∀ e ∈ st, e.2.1 ≠ q := by
          intro e he hq'
          simp only [List.all_eq_true] at hall
          have := hall e.2.1 (by rw [h.ids]; exact List.mem_map_of_mem he)
          rw [hq'] at this
          simp at this
        have hσq : σ.get q = σh.get q := by rw [h.σ]; exact stF_off fun e he _ => hnot e he
        have hσw : σ.wp = σh.wp := by rw [h.σ]; exact (stF_next ..).2
        have hcal : calleeA (aval cfg fr.ts) o = none := by unfold calleeA; rw [hop]
        refine next (ex := [(i, q, b)]) ⟨fun j' o' h1 h2 h3 => ?_, ag_next hoi h.ag, hds _, ?_, ?_, ?_, ?_, ?_⟩ (fun e he => by rw [List.mem_singleton.1 he]) ht
        · by_cases hji : j' = i
          · subst hji
            rw [hoi] at h3
            obtain rfl := Option.some.inj h3
            refine ⟨hgd, fr.ts, h.ag.congr fun p _ => lim_upv (Nat.le_refl _) p, hcal, fun x h => (by rw [hop] at h; cases h), fun c h => (by rw [hop] at h; cases h), .inr ⟨q, b, upv_self .., List.mem_cons_self, fun σ2 id2 h1 h2 => hloc σ2 id2 (h1.trans hσq.symm) (h2.trans hσw.symm)⟩⟩
          · exact (h.facts j' o' h1 (by omega) h3).mono (by omega) [(i, q, b)] fun e he => by rw [List.mem_singleton.1 he]
        · rw [h.σ]; rfl
        · rw [h.ids]; rfl
        · exact List.pairwise_cons.2 ⟨fun e he h => hnot e he h.symm, h.pw⟩
        · intro e he e' he' hee
          rcases List.mem_cons.1 he with rfl | he
          · rcases List.mem_cons.1 he' with rfl | he'
            · rfl
            · have := h.lt e' he'; simp only at hee; omega
          · rcases List.mem_cons.1 he' with rfl | he'
            · have := h.lt e he; simp only at hee; omega
            · exact h.one e he e' he' hee
        · intro e he
          rcases List.mem_cons.1 he with rfl | he
          · exact Nat.lt_succ_self _
          · exact Nat.lt_succ_of_lt (h.lt e he)
    · have hpl : isPlain o = true := hkind.resolve_left hst
      have hops : ∀ t a x, o.op ≠ .store t a x := fun t a x h => hst (by unfold isStore; rw [h])
      unfold tailA at ht
      split at ht
      · rename_i hop; exact absurd hop (hops _ _ _)
      split at ht
      rotate_left
      · cases ht
      rename_i v hao
      have hloc := plain_local hpl hao
      have hk4 : calleeA (aval cfg fr.ts) o = none ∧ (∀ x, o.op ≠ .panic x) ∧ (∀ c, o.op ≠ .defer c) := by
        unfold isPlain at hpl
        unfold calleeA
        split at hpl <;> first | (cases hpl; done) | (rename_i hop; rw [hop]; exact ⟨rfl, fun _ h => (by cases h), fun _ h => (by cases h)⟩)
      refine next (ex := []) ⟨fun j' o' h1 h2 h3 => ?_, ag_next hoi h.ag, hds _, h.σ, h.ids, h.pw, h.one, fun e he => Nat.lt_succ_of_lt (h.lt e he)⟩ (fun e he => by cases he) ht
      by_cases hji : j' = i
      · subst hji
        rw [hoi] at h3
        obtain rfl := Option.some.inj h3
        refine ⟨hgd, fr.ts, h.ag.congr fun p _ => lim_upv (Nat.le_refl _) p, hk4.1, hk4.2.1, hk4.2.2, .inl ⟨v, upv_self .., fun q b hm => ?_, hloc⟩⟩
        have := h.lt _ hm
        simp only at this; omega
      · exact (h.facts j' o' h1 (by omega) h3).mono (by omega) [] fun e he => by cases he

theorem cutAt_spec {l : List Oper} {anc : List Nat} {p : Nat} (h : cutAt l anc = some p) : 0 < p ∧ p < l.length ∧ (∀ j, p ≤ j → j < l.length → ∀ q, q < p → (anc.getD j 0).testBit q = true) ∧ ∀ o ∈ l.drop p, o.guard = none ∧ (isStore o = true ∨ isPlain o = true) := by
  unfold cutAt at h
  have h1 := List.find?_some h
  have h2 := List.mem_of_find?_eq_some h
  simp only [Bool.and_eq_true, List.all_eq_true, List.mem_range, Nat.beq_eq, Bool.or_eq_true, Option.isNone_iff_eq_none, Nat.blt_eq] at h1
  refine ⟨h1.1.1.1, List.mem_range.1 h2, fun j hj hl q hq => ?_, fun o ho => h1.1.2 o ho⟩
  have := h1.1.1.2 (j - p) (by omega)
  rw [show p + (j - p) = j by omega] at this
  have hb : (Nat.land (anc.getD j 0) (2 ^ p - 1)).testBit q = (2 ^ p - 1).testBit q := by rw [this]
  have hl : (Nat.land (anc.getD j 0) (2 ^ p - 1)).testBit q = ((anc.getD j 0).testBit q && (2 ^ p - 1).testBit q) := Nat.testBit_and ..
  rw [hl, Nat.testBit_two_pow_sub_one] at hb
  simpa [hq] using hb

theorem draw_any2 {T : Tab} {p : Nat} {Γ0 : Ctx} {σ0 σh : ASt} {val : Nat → Option AV} {st : Sts} (hC : CallOK P cfg call) (hA : Anc ops anc) (hT : TabOK P cfg call fuel rm ops anc base fr0 T σ0 p) (hg : GR Γ0 cfg) (hn0 : base + ops.size ≤ σ0.next) (hwp : σ0.wp ≤ base)
    (hp : p < ops.size) (hcut : ∀ j, p ≤ j → j < ops.size → ∀ q, q < p → (anc.getD j 0).testBit q = true) (hcw : ∀ (k : Nat) (c : Core) (w : Nat), T.cs[k]? = some c → c.w = some w → w < p) (hbl : ∀ b v σ, T.bad = some (b, v, σ) → b < p)
    (htail : T.bad = none → (∀ j o, p ≤ j → ops[j]? = some o → TFact P cfg rm ops fr0 val σh st j o) ∧ (∀ q, q < p → val q = T.val q) ∧ st.Pairwise (fun a b => a.2.1 ≠ b.2.1) ∧ (∀ e ∈ st, ∀ e' ∈ st, e.1 = e'.1 → e = e') ∧ (∀ e ∈ st, p ≤ e.1) ∧
      (∀ q, p ≤ q → newAt T.news q = none) ∧ ∃ c, T.cs[T.cs.length - 1]? = some c ∧ σh = viewF base c (2 ^ ops.size - 1).testBit T.news)
    {Q : Exit → Act → World → Prop}
    (hN : T.bad = none → ∀ S a Γ ts, (∀ p, S p = true ↔ p < ops.size) → J2 ops anc base fr0 val σh st p Γ0 σ0 S a Γ ts → Q .normal a Γ.w)
    (hB : ∀ j v σ' S Γ' y a ts, T.bad = some (j, v, σ') → Good Γ0 σ0 Γ' σ' (base ≤ ·) → VR Γ' v y → Ag ops (lim S T.val) fr0.ts ts → FRel Γ' ⟨ts, fr0.ds⟩ a → Q (.panic [{ v := y, recovered := false }]) a Γ'.w) :
    ∀ (f : Nat) (listed : Array Bool) (a : Act) (Γ : Ctx) (ts : List AV), listed.size = ops.size → un (asS listed) ops.size ≤ f →
      ((∃ k c, J ops anc base fr0 T Γ0 σ0 (asS listed) a Γ k c ts ∧ ∀ j, asS listed j = true → j < p) ∨ (T.bad = none ∧ J2 ops anc base fr0 val σh st p Γ0 σ0 (asS listed) a Γ ts)) →
      wpAny P .any ops Q f listed a Γ.w := by
  have getT : ∀ (listed : Array Bool) (j : Nat), listed.size = ops.size → j < ops.size → listed.getD j true = listed.getD j false := by
    intro listed j hs hj
    simp [Array.getD, hs, hj]
  have all : ∀ (listed : Array Bool), listed.size = ops.size → Region.ready .any ops listed = [] → ∀ j, j < ops.size → asS listed j = true := by
    intro listed hs hr j
    induction j using Nat.strongRecOn with
    | _ j ih =>
      intro hj
      cases hl : asS listed j with
      | true => rfl
      | false =>
        have ho : ops[j]? = some ops[j] := Array.getElem?_eq_getElem hj
        have : j ∈ Region.ready .any ops listed := mem_ready.2 ⟨by rw [getT listed j hs hj]; exact hl, _, ho, fun e he hb => ih e.on (hA.edge j _ e ho he hb).1 (by have := (hA.edge j _ e ho he hb).1; omega)⟩
        rw [hr] at this
        cases this
  have fin : ∀ (listed : Array Bool) (a : Act) (Γ : Ctx) (ts : List AV), listed.size = ops.size →
      ((∃ k c, J ops anc base fr0 T Γ0 σ0 (asS listed) a Γ k c ts ∧ ∀ j, asS listed j = true → j < p) ∨ (T.bad = none ∧ J2 ops anc base fr0 val σh st p Γ0 σ0 (asS listed) a Γ ts)) →
      (∀ j, j < ops.size → asS listed j = true) → Q .normal a Γ.w := by
    intro listed a Γ ts hs hJ hall
    rcases hJ with ⟨k, c, hJ, hlt⟩ | ⟨hb, hJ⟩
    · have := hlt p (hall p hp); omega
    · exact hN hb (asS listed) a Γ ts (fun q => ⟨hJ.slt q, hall q⟩) hJ
  intro f
  induction f with
  | zero =>
    intro listed a Γ ts hs hu hJ
    have hall := un_zero ops.size (Nat.le_zero.1 hu)
    refine ⟨?_, fin listed a Γ ts hs hJ hall⟩
    cases hr : Region.ready .any ops listed with
    | nil => rfl
    | cons i r =>
      have hi : i ∈ Region.ready .any ops listed := by rw [hr]; simp
      obtain ⟨h1, o, ho, _⟩ := mem_ready.1 hi
      have hlt := (Array.getElem?_eq_some_iff.1 ho).1
      have := hall i hlt
      unfold asS at this
      rw [← getT listed i hs hlt, h1] at this
      cases this
  | succ f ih =>
    intro listed a Γ ts hs hu hJ
    refine ⟨fun hr => fin listed a Γ ts hs hJ (all listed hs hr), fun i hi => ?_⟩
    obtain ⟨h1, o, ho, hrd⟩ := mem_ready.1 hi
    have hlt := (Array.getElem?_eq_some_iff.1 ho).1
    have hiS : asS listed i = false := by unfold asS; rw [← getT listed i hs hlt]; exact h1
    have hdown : ∀ q r, asS listed q = true → (anc.getD q 0).testBit r = true → asS listed r = true := by
      rcases hJ with ⟨k, c, hJ, _⟩ | ⟨_, hJ⟩
      · exact hJ.down
      · exact hJ.down
    have hrdS : ∀ q, (anc.getD i 0).testBit q = true → asS listed q = true := by
      intro q hq
      obtain ⟨e, he, hb, hq⟩ := hA.from_ i o q ho hq
      have he' : asS listed e.on = true := hrd e he hb
      rcases hq with rfl | hq
      · exact he'
      · exact hdown e.on q he' hq
    have hset := asS_set (listed := listed) (j := i) (by rw [hs]; exact hlt)
    have hun : un (asS (listed.setIfInBounds i true)) ops.size ≤ f := by
      rw [hset]
      have := un_more hiS ops.size
      rw [if_pos hlt] at this
      omega
    by_cases hip : i < p
    · rcases hJ with ⟨k, c, hJ, hltp⟩ | ⟨_, hJ⟩
      · refine J.op hC hA hT hJ hg hn0 hwp hip ho hiS hrdS (fun Γ' a' k' c' ts' hJ' => ?_) fun v σ' Γ' y hb hG hv hf => hB i v σ' (asS listed) Γ' y a ts hb hG hv hJ.ag hf
        rw [← hset] at hJ'
        refine ih _ a' Γ' ts' (by simp [hs]) hun (.inl ⟨k', c', hJ', fun j hj => ?_⟩)
        rw [hset] at hj
        rcases more_inv hj with rfl | hj
        · exact hip
        · exact hltp j hj
      · rw [hJ.head i hip] at hiS; cases hiS
    · have hpi : p ≤ i := Nat.le_of_not_lt hip
      have hhead : ∀ q, q < p → asS listed q = true := fun q hq => hrdS q (hcut i hpi hlt q hq)
      have hJ2 : T.bad = none ∧ J2 ops anc base fr0 val σh st p Γ0 σ0 (asS listed) a Γ ts := by
        rcases hJ with ⟨k, c, hJ, hltp⟩ | hJ
        · have hbad : T.bad = none := by
            cases hb : T.bad with
            | none => rfl
            | some x =>
              obtain ⟨b, v, σ'⟩ := x
              have h1 := hJ.nbad b v σ' hb
              rw [hhead b (hbl b v σ' hb)] at h1; cases h1
          obtain ⟨_, t2, _, _, t5, t6, c', t7, t8⟩ := htail hbad
          have hk := (List.getElem?_eq_some_iff.1 hJ.core).1
          have hkl : k = T.cs.length - 1 := by
            rcases Nat.lt_or_ge (k + 1) T.cs.length with h | h
            · obtain ⟨w, h1, h2⟩ := hJ.notS (k + 1) _ (by omega) (List.getElem?_eq_getElem h)
              rw [hhead w (hcw (k + 1) _ w (List.getElem?_eq_getElem h) h1)] at h2; cases h2
            · omega
          have hcc : c' = c := by
            have := hJ.core
            rw [hkl, t7] at this
            exact Option.some.inj this
          subst hcc
          have hst : stF σh (asS listed) st = σh := by
            have : ∀ {l : Sts}, (∀ e ∈ l, asS listed e.1 = false) → stF σh (asS listed) l = σh := by
              intro l
              induction l with
              | nil => intro _; rfl
              | cons e r ih =>
                intro h
                have ih := ih fun e he => h e (List.mem_cons_of_mem _ he)
                unfold stF at ih ⊢
                simp only [List.foldr_cons]
                rw [h e List.mem_cons_self, cond_false]; exact ih
            refine this fun e he => ?_
            cases hs' : asS listed e.1 with
            | false => rfl
            | true => have := hltp _ hs'; have := t5 e he; omega
          have hget : ∀ id, (stF σh (asS listed) st).get id = (viewF base c' (asS listed) T.news).get id := by
            intro id
            rw [hst, t8, viewF_get, viewF_get, Nat.testBit_two_pow_sub_one]
            by_cases hb : base ≤ id
            · by_cases hlp : id - base < p
              · have : id - base < ops.size := by omega
                simp only [hb, hhead _ hlp, this, decide_true]
              · have hn := t6 (id - base) (Nat.le_of_not_lt hlp)
                have hS : asS listed (id - base) = false := by
                  cases hs' : asS listed (id - base) with
                  | false => rfl
                  | true => exact absurd (hltp _ hs') hlp
                rw [hn, hS]
                simp
            · simp [hb]
          refine ⟨hbad, ?_, hJ.ag.congr fun q hq => ?_, hJ.fr, hJ.fresh, hJ.down, hJ.slt, hhead⟩
          · have h0 := viewF_next base c' (asS listed) T.news
            have h3 := viewF_next base c' (2 ^ ops.size - 1).testBit T.news
            refine hJ.good.trans (Good.drop (D := fun _ => False) hJ.good.inv (fun id B h => by rw [← hget]; exact h) (fun id _ => hget id) ?_ ?_) (fun j h => h) (fun j h => h.elim)
            · rw [hst, t8, h3.2, h0.2]
            · rw [hst, t8, h3.1, h0.1]
          · unfold lim
            cases hs' : asS listed q with
            | false => rfl
            | true => simp only [if_true]; exact (t2 q (hltp q hs')).symm
        · exact hJ
      obtain ⟨hbad, hJ2⟩ := hJ2
      obtain ⟨t1, _, t3, t4, _, _, c', t7, t8⟩ := htail hbad
      have hσn : base + ops.size ≤ σh.next ∧ σh.wp ≤ base := by
        have h1 := hJ2.good.step.next
        have h2 := hJ2.good.step.wp
        rw [(stF_next ..).1] at h1
        rw [(stF_next ..).2] at h2
        exact ⟨by omega, by omega⟩
      refine J2.op hC hA hJ2 hg hσn.1 hσn.2 t3 t4 ho (t1 i o hpi ho) hiS hrdS fun Γ' a' ts' hJ' => ?_
      rw [← hset] at hJ'
      exact ih _ a' Γ' ts' (by simp [hs]) hun (.inr ⟨hbad, hJ'⟩)

theorem drawT_ok {id : Nat} {fr fr' : AFr} {σ σ' : ASt} {Γ : Ctx} {a : Act} {fl : Flow} {Q : Exit → Act → World → Prop} (hm : P.follows .mixedOrders = true) (hC : CallOK P cfg call) (hI : Inv Γ σ) (hwp : σ.wp ≤ σ.next)
    (hg : GR Γ cfg) (hf : FRel Γ fr a) (hok : drawOk ops = true)
    (h : drawT P cfg call fuel rm ops.toList (ancs ops.toList) σ.next fr ⟨σ.next + ops.toList.length, σ.wp, σ.heap⟩ = some (fl, fr', σ'))
    (hQ : XPost Γ σ (σ.next ≤ ·) Q fl fr' σ') : (Code.region id ops true).wp P Q a Γ.w := by
  unfold drawT at h
  cases hcut : cutAt ops.toList (ancs ops.toList) with
  | none =>
    rw [hcut] at h
    exact draw_ok hm hC hI hwp hg hf hok h hQ
  | some p =>
  rw [hcut] at h
  simp only at h
  obtain ⟨hp0, hpl, hbefore, hkinds⟩ := cutAt_spec hcut
  have hA := drawOk_anc hok
  generalize ancs ops.toList = anc at h hA hbefore
  have hlen : ops.toList.length = ops.size := by simp
  rw [hlen] at h hpl
  obtain ⟨hst, hI1⟩ := grow hI { Γ.w with drawn := Γ.w.drawn + 1 } (Nat.le_refl _) rfl rfl rfl (fun _ _ => rfl)
  generalize hΓ1 : ({ Γ with w := { Γ.w with drawn := Γ.w.drawn + 1 } } : Ctx) = Γ1 at hst hI1
  have hw1 : ({ Γ.w with drawn := Γ.w.drawn + 1 } : World) = Γ1.w := by rw [← hΓ1]
  have hd1 : Γ1.dom = Γ.dom := by rw [← hΓ1]
  let σ1 : ASt := ⟨σ.next + ops.size, σ.wp, σ.heap⟩
  have hI1' : Inv Γ1 σ1 :=
    ⟨fun j B hj => ⟨(hI1.blk j B hj).1, Nat.lt_of_lt_of_le (hI1.blk j B hj).2.1 (Nat.le_add_right _ _), (hI1.blk j B hj).2.2⟩, hI1.inj, hI1.free, hI1.lt, hI1.lto, fun j hj => Nat.lt_of_lt_of_le (hI1.domlt j hj) (Nat.le_add_right _ _)⟩
  have hG1 : Good Γ σ Γ1 σ1 (fun _ => False) := by
    refine Good.trans (D₁ := fun _ => False) (D₂ := fun _ => False) (Γ₂ := Γ1) (σ₂ := σ) ⟨hst, hI1, fun j hj => .inl (by rw [hd1] at hj; exact hj)⟩ ⟨⟨.refl Γ1, Nat.le_refl _, rfl, rfl, rfl, fun _ _ _ => rfl, fun id B h hw => .inr ⟨id, B, h, hw, rfl⟩, fun _ _ => rfl, rfl, Nat.le_add_right _ _, fun _ _ h => .inl h, fun _ h => .inl h⟩, hI1', fun j h => .inl h⟩ (fun j h => h) (fun j h => h)
  have hPA : PA P cfg call fuel rm ops anc σ.next fr (σ0 := σ1) 0 ⟨fr, [⟨σ1, 0, none⟩], [], []⟩ none (fun _ => none) := by
    refine ⟨⟨⟨σ1, 0, none⟩, rfl, rfl, rfl, rfl⟩, fun k c hk h0 => ?_, fun k k' c c' w hk hk' hw hw' => ?_, fun b v σ hb => (nomatch hb), fun j o hj => by omega, fun p _ => rfl, ⟨rfl, fun t ht => ?_⟩, rfl⟩
    · cases k with
      | zero => exact absurd rfl h0
      | succ k => simp at hk
    · cases k with
      | zero => simp at hk; subst hk; cases hw
      | succ k => simp at hk
    · rw [tv_top 0 ops.size (Nat.zero_le _) fun p _ _ _ => by simp [lim]]
      rfl
  -- the head
  cases hh : drawA P cfg call fuel rm ops.toList anc σ.next 0 (ops.toList.take p) ⟨fr, [⟨σ1, 0, none⟩], [], []⟩ none with
  | none =>
    have hh' : drawA P cfg call fuel rm ops.toList anc σ.next 0 (ops.toList.take p) ⟨fr, [⟨⟨σ.next + ops.size, σ.wp, σ.heap⟩, 0, none⟩], [], []⟩ none = none := hh
    rw [hh'] at h; cases h
  | some r =>
  obtain ⟨flh, frh, σh⟩ := r
  have hh' : drawA P cfg call fuel rm ops.toList anc σ.next 0 (ops.toList.take p) ⟨fr, [⟨⟨σ.next + ops.size, σ.wp, σ.heap⟩, 0, none⟩], [], []⟩ none = some (flh, frh, σh) := hh
  rw [hh'] at h
  have htl : (ops.toList.take p).length = p := by simp; omega
  obtain ⟨Dn, badn, valn, hP, hfin⟩ := drawA_pa (m := p) hA (ops.toList.take p) 0 _ none _ (fun k hk => by rw [htl] at hk; rw [List.getElem?_take_of_lt hk]; simp) (by rw [htl]; omega) hPA hh
  let T : Tab := ⟨Dn.cores.reverse, Dn.news, valn, badn⟩
  have hT : TabOK P cfg call fuel rm ops anc σ.next fr T σ1 p := by
    refine ⟨hP.c0, fun k c hk h0 => ?_, hP.cinj, fun b v σ hb => ?_, fun j o hj ho => ?_⟩
    · obtain ⟨w, h1, h2⟩ := hP.cw k c hk h0
      exact ⟨w, by omega, h2⟩
    · have := hP.badlt b v σ hb; omega
    · obtain ⟨ts, hag, hfa⟩ := hP.facts j o hj ho
      exact ⟨ts, hag, hfa.imp_right fun ⟨h1, h2⟩ => ⟨h1, h2.imp_right fun ⟨h3, h4⟩ => ⟨h3, h4.imp_left fun ⟨a1, a2, a3, _⟩ => ⟨a1, a2, a3⟩⟩⟩⟩
  -- the tail
  have tail : badn = none → flh = .norm ∧ fl = .norm ∧ ∃ ids' val' st', TA P cfg rm ops fr σh p ops.size fr' σ' ids' val' st' ∧ (∀ q, q < p → val' q = valn q) ∧ ∀ e ∈ st', p ≤ e.1 := by
    intro hb
    subst hb
    obtain ⟨rfl, rfl, c', r, hc', hσh⟩ := hfin
    simp only at h
    have hdl : (ops.toList.drop p).length = ops.size - p := by simp
    have hta : TA P cfg rm ops fr σh p p Dn.fr σh [] valn [] := ⟨fun j o h1 h2 => by omega, hP.ag, hP.ds, rfl, rfl, List.Pairwise.nil, fun e he => (by cases he), fun e he => (by cases he)⟩
    obtain ⟨e1, ids', val', st', e2, e3, e4⟩ := tailA_ta (ops.toList.drop p) p Dn.fr σh [] valn [] (fun k hk => by simp) (by rw [hdl]; omega) (Nat.le_refl _) hkinds hta h
    exact ⟨rfl, e1, ids', val', st', e2, e3, fun e he => (e4 e he).elim (fun h => by cases h) fun h => h⟩
  refine wp_region_any hm ?_
  rw [hw1]
  obtain ⟨c0, hc0, hc0w, hc0a, hc0s⟩ := hP.c0
  have hS0 : ∀ p, asS (Array.replicate ops.size false) p = false := by
    intro p; unfold asS
    by_cases hp : p < ops.size <;> simp [Array.getD, hp]
  have hview : ∀ j, (viewF σ.next c0 (asS (Array.replicate ops.size false)) T.news).get j = σ1.get j := by
    intro j; rw [viewF_get, if_neg (by rw [hS0]; simp), hc0s]
  have hk0 : ∀ (k' : Nat) (c' : Core) (w : Nat), k' ≤ 0 → T.cs[k']? = some c' → c'.w = some w → False := by
    intro k' c' w h1 h2 h3
    have : k' = 0 := by omega
    subst this
    have h2' : Dn.cores.reverse[0]? = some c' := h2
    rw [hc0] at h2'
    obtain rfl := Option.some.inj h2'
    rw [hc0w] at h3; cases h3
  have hJ0 : J ops anc σ.next fr T Γ1 σ1 (asS (Array.replicate ops.size false)) a Γ1 0 c0 fr.ts := by
    refine ⟨Good.drop hI1' (fun id B h => by rw [hview] at h; exact h) (fun id _ => hview id) (by rw [(viewF_next ..).2, hc0s]) (by rw [(viewF_next ..).1, hc0s]), hc0, fun k' c' w h1 h2 h3 => (hk0 k' c' w h1 h2 h3).elim, fun k' c' h1 h2 => ?_, ⟨rfl, fun t ht => ?_⟩, hf.ext hst.ext, fun p hp _ hd => ?_, fun p hp => (by rw [hS0] at hp; cases hp), fun p q hp => (by rw [hS0] at hp; cases hp), fun p hp => (by rw [hS0] at hp; cases hp), fun b v σ _ => hS0 b⟩
    · obtain ⟨w, _, h3, _⟩ := hP.cw k' c' h2 (by omega)
      exact ⟨w, h3, hS0 w⟩
    · rw [tv_top 0 ops.size (Nat.zero_le _) fun p _ _ _ => by unfold lim; rw [hS0]; simp]
      rfl
    · rw [hd1] at hd
      have := hI.domlt _ hd
      omega
  have hun : un (asS (Array.replicate ops.size false)) ops.size ≤ ops.size := by
    have : ∀ (S : Nat → Bool) n, un S n ≤ n := by
      intro S n
      induction n with
      | zero => exact Nat.le_refl _
      | succ n ih => simp only [un]; split <;> omega
    exact this _ _
  have hbl : ∀ b v σ, T.bad = some (b, v, σ) → b < p := hP.badlt
  have hcw : ∀ (k : Nat) (c : Core) (w : Nat), T.cs[k]? = some c → c.w = some w → w < p := by
    intro k c w hk hw
    by_cases h0 : k = 0
    · subst h0
      have hk' : Dn.cores.reverse[0]? = some c := hk
      rw [hc0] at hk'
      obtain rfl := Option.some.inj hk'
      rw [hc0w] at hw; cases hw
    · obtain ⟨w', h1, h2, _⟩ := hP.cw k c hk h0
      rw [hw] at h2
      obtain rfl := Option.some.inj h2
      exact h1
  cases hb : badn with
  | none =>
    obtain ⟨e0, e1, ids', val', st', e2, e3, e4⟩ := tail hb
    subst e0 e1
    subst hb
    obtain ⟨_, hfr, c', r, hc', hσh⟩ := hfin
    refine draw_any2 (val := val') (st := st') (σh := σh) hC hA hT (hg.ext hst.ext) (Nat.le_refl _) hwp hpl (fun j h1 h2 q hq => hbefore j h1 (by rw [hlen]; exact h2) q hq) hcw hbl (fun _ => ⟨fun j o h1 h2 => e2.facts j o h1 (Array.getElem?_eq_some_iff.1 h2).1 h2, e3, e2.pw, e2.one, e4, hP.newslt, c', ?_, ?_⟩)
      (fun _ S a' Γ' ts hS hJ => ?_) (fun j v σ'' S Γ' y a' ts hb => (nomatch hb)) ops.size _ a Γ1 fr.ts (by simp) hun (.inl ⟨0, c0, hJ0, fun j hj => by rw [hS0] at hj; cases hj⟩)
    · show Dn.cores.reverse[Dn.cores.reverse.length - 1]? = some c'
      rw [hc', getElem_rev, if_pos (by simp)]
    · rw [hσh]; rfl
    · have hst' : stF σh S st' = σ' := by
        rw [e2.σ]
        exact stF_congr fun e he => (hS e.1).2 (e2.lt e he)
      have hg' := hJ.good
      rw [hst'] at hg'
      have hag' : Ag ops (lim S val') fr.ts fr'.ts := e2.ag.congr fun p hp => by
        unfold lim
        rw [(hS p).2 hp, if_pos (by simpa using hp), if_pos rfl]
      have hts : ts = fr'.ts := hJ.ag.eq hag'
      have hfr2 := hJ.fr
      rw [hts] at hfr2
      exact hQ Γ' a' (hG1.trans hg' (fun j h => h.elim) (fun j h => h)) ⟨hfr2.ts, by rw [e2.ds]; exact hfr2.ds⟩
  | some x =>
    obtain ⟨bj, v, σb⟩ := x
    subst hb
    obtain ⟨rfl, rfl, rfl⟩ := hfin
    simp only [Option.some.injEq, Prod.mk.injEq] at h
    obtain ⟨rfl, rfl, rfl⟩ := h
    refine draw_any2 (val := fun _ => none) (st := []) (σh := σ1) hC hA hT (hg.ext hst.ext) (Nat.le_refl _) hwp hpl (fun j h1 h2 q hq => hbefore j h1 (by rw [hlen]; exact h2) q hq) hcw hbl (fun hb => (nomatch hb))
      (fun hb => (nomatch hb)) (fun j v' σ'' S Γ' y a' ts hb hG hv hag hf' => ?_) ops.size _ a Γ1 fr.ts (by simp) hun (.inl ⟨0, c0, hJ0, fun j hj => by rw [hS0] at hj; cases hj⟩)
    have hb' : some (bj, v, σh) = some (j, v', σ'') := hb
    simp only [Option.some.injEq, Prod.mk.injEq] at hb'
    obtain ⟨rfl, rfl, rfl⟩ := hb'
    refine hQ Γ' a' (hG1.trans hG (fun j h => h.elim) (fun j h => h)) ⟨⟨?_, fun t ht => ?_⟩, by show DefR Γ' Dn.fr.ds _; rw [hP.ds]; exact hf'.ds⟩ y hv
    · show _ = (wipe ops.toList Dn.fr.ts).length
      rw [(wipe_getD ops.toList Dn.fr.ts 0).1, hP.ag.len, ← hag.len]; exact hf'.ts.1
    · show VR Γ' ((wipe ops.toList Dn.fr.ts).getD t .undef) _
      have hlt : t < fr.ts.length := by
        have : t < (wipe ops.toList Dn.fr.ts).length := ht
        rw [(wipe_getD ops.toList Dn.fr.ts 0).1, hP.ag.len] at this; exact this
      rcases (wipe_getD ops.toList Dn.fr.ts t).2 with he | ⟨he, hno⟩
      · rw [he]; exact .undef _
      · rw [he]
        have hno' : ∀ p, 0 ≤ p → p < ops.size → (ops[p]?).bind (·.dst) = some t → False := by
          intro p _ hp hd
          rw [Array.getElem?_eq_getElem hp] at hd
          simp only [Option.bind_some] at hd
          have := hno ops[p] (Array.mem_toList_iff.2 (Array.getElem_mem hp)) hd
          rw [hP.ag.len] at this; omega
        have e1 : Dn.fr.ts.getD t .undef = ts.getD t .undef := by
          rw [hP.ag.val t hlt, hag.val t hlt, tv_top 0 ops.size (Nat.zero_le _) fun p h1 h2 h3 => (hno' p h1 h2 h3).elim, tv_top 0 ops.size (Nat.zero_le _) fun p h1 h2 h3 => (hno' p h1 h2 h3).elim]
          rfl
        rw [e1]
        exact hf'.ts.2 t (by rw [hag.len]; exact hlt)
end
end Go.Am

set_option linter.unusedVariables false
set_option linter.unusedSimpArgs false
namespace Go.Am
open Go

section
variable {P : Program} {cfg : Cfg} {call : FuncId → List AV → ASt → Option CR} {fuel : Nat} {rm : Bool}

theorem XPost.then_norm {Γ : Ctx} {σ σ' : ASt} {D : Nat → Prop} {Q : Exit → Act → World → Prop} {K : Act → World → Prop} {fr' : AFr} (h : ∀ Γ' a', Good Γ σ Γ' σ' D → FRel Γ' fr' a' → K a' Γ'.w) :
    XPost Γ σ D (Exit.then K Q) .norm fr' σ' := fun Γ' a' hG hf => h Γ' a' hG hf

theorem XPost.then_other {Γ : Ctx} {σ σ' : ASt} {D : Nat → Prop} {Q : Exit → Act → World → Prop} {K : Act → World → Prop} {fr' : AFr} {fl : Flow} (hn : fl ≠ .norm) (h : XPost Γ σ D Q fl fr' σ') : XPost Γ σ D (Exit.then K Q) fl fr' σ' := by
  intro Γ' a' hG hf
  have := h Γ' a' hG hf
  cases fl with
  | norm => exact absurd rfl hn
  | ret => exact this
  | exit b => exact this
  | panic v => exact this

theorem exec_ok (hm : P.follows .mixedOrders = true) (hC : CallOK P cfg call) {lf : Nat} : ∀ (c : Code) (fr : AFr) (σ : ASt) (Γ : Ctx) (a : Act) (fl : Flow) (fr' : AFr) (σ' : ASt) (Q : Exit → Act → World → Prop),
    exec P cfg call fuel rm lf c fr σ = some (fl, fr', σ') → σ.wp ≤ σ.next → Inv Γ σ → GR Γ cfg → FRel Γ fr a → XPost Γ σ (σ.next ≤ ·) Q fl fr' σ' → c.wp P Q a Γ.w := by
  intro c
  induction c with
  | skip =>
    intro fr σ Γ a fl fr' σ' Q h hwp hI hg hf hQ
    simp only [exec, Option.some.injEq, Prod.mk.injEq] at h
    obtain ⟨rfl, rfl, rfl⟩ := h
    exact wp_skip (hQ Γ a (.refl hI) hf)
  | region id ops draw =>
    intro fr σ Γ a fl fr' σ' Q h hwp hI hg hf hQ
    simp only [exec] at h
    cases draw with
    | true =>
      simp only [cond_true] at h
      cases hok : drawOk ops with
      | false => rw [hok] at h; cases h
      | true =>
        rw [hok] at h
        exact drawT_ok hm hC hI hwp hg hf hok h hQ
    | false => exact region_ok hC hI hwp hg hf h hQ
  | seq x y ihx ihy =>
    intro fr σ Γ a fl fr' σ' Q h hwp hI hg hf hQ
    simp only [exec] at h
    refine wp_seq ?_
    cases hx : exec P cfg call fuel rm lf x fr σ with
    | none => rw [hx] at h; cases h
    | some r =>
      obtain ⟨fl1, fr1, σ1⟩ := r
      rw [hx] at h
      cases fl1 with
      | norm =>
        simp only at h
        refine ihx fr σ Γ a .norm fr1 σ1 _ hx hwp hI hg hf (XPost.then_norm fun Γ1 a1 hG hf1 => ?_)
        exact ihy fr1 σ1 Γ1 a1 fl fr' σ' Q h (by rw [hG.step.wp]; exact Nat.le_trans hwp hG.step.next) hG.inv (hg.ext hG.step.ext) hf1 (hQ.of_good hG (fun j h => h) (fun j h => Nat.le_trans hG.step.next h))
      | ret =>
        simp only [Option.some.injEq, Prod.mk.injEq] at h
        obtain ⟨rfl, rfl, rfl⟩ := h
        exact ihx fr σ Γ a .ret _ _ _ hx hwp hI hg hf (XPost.then_other (by simp) hQ)
      | exit b =>
        simp only [Option.some.injEq, Prod.mk.injEq] at h
        obtain ⟨rfl, rfl, rfl⟩ := h
        exact ihx fr σ Γ a (.exit b) _ _ _ hx hwp hI hg hf (XPost.then_other (by simp) hQ)
      | panic v =>
        simp only [Option.some.injEq, Prod.mk.injEq] at h
        obtain ⟨rfl, rfl, rfl⟩ := h
        exact ihx fr σ Γ a (.panic v) _ _ _ hx hwp hI hg hf (XPost.then_other (by simp) hQ)
  | cond c x y ihx ihy =>
    intro fr σ Γ a fl fr' σ' Q h hwp hI hg hf hQ
    simp only [exec] at h
    split at h
    · rename_i b hc
      have hv := aval_vr hg hf.ts c
      rw [hc] at hv
      have hb : a.eval c = .bool b := by generalize hcv : a.eval c = cv at hv; cases hv; rfl
      refine wp_cond hb ?_
      cases b with
      | true => exact ihx fr σ Γ a fl fr' σ' Q h hwp hI hg hf hQ
      | false => exact ihy fr σ Γ a fl fr' σ' Q h hwp hI hg hf hQ
    · cases h
  | block id body ih =>
    intro fr σ Γ a fl fr' σ' Q h hwp hI hg hf hQ
    simp only [exec] at h
    refine wp_block ?_
    cases hx : exec P cfg call fuel rm lf body fr σ with
    | none => rw [hx] at h; cases h
    | some r =>
      obtain ⟨fl1, fr1, σ1⟩ := r
      rw [hx] at h
      cases fl1 with
      | norm =>
        simp only [Option.some.injEq, Prod.mk.injEq] at h
        obtain ⟨rfl, rfl, rfl⟩ := h
        exact ih fr σ Γ a .norm _ _ _ hx hwp hI hg hf fun Γ' a' hG hf' => hQ Γ' a' hG hf'
      | ret =>
        simp only [Option.some.injEq, Prod.mk.injEq] at h
        obtain ⟨rfl, rfl, rfl⟩ := h
        exact ih fr σ Γ a .ret _ _ _ hx hwp hI hg hf fun Γ' a' hG hf' => hQ Γ' a' hG hf'
      | exit b =>
        simp only at h
        cases hb : Nat.beq b id with
        | true =>
          rw [hb] at h
          simp only [cond_true, Option.some.injEq, Prod.mk.injEq] at h
          obtain ⟨rfl, rfl, rfl⟩ := h
          refine ih fr σ Γ a (.exit b) _ _ _ hx hwp hI hg hf fun Γ' a' hG hf' => ?_
          show Exit.inBlock id Q (.exit b) a' Γ'.w
          simp only [Exit.inBlock]
          rw [if_pos (Nat.eq_of_beq_eq_true hb)]
          exact hQ Γ' a' hG hf'
        | false =>
          rw [hb] at h
          simp only [cond_false, Option.some.injEq, Prod.mk.injEq] at h
          obtain ⟨rfl, rfl, rfl⟩ := h
          refine ih fr σ Γ a (.exit b) _ _ _ hx hwp hI hg hf fun Γ' a' hG hf' => ?_
          show Exit.inBlock id Q (.exit b) a' Γ'.w
          simp only [Exit.inBlock]
          rw [if_neg (Nat.ne_of_beq_eq_false hb)]
          exact hQ Γ' a' hG hf'
      | panic v =>
        simp only [Option.some.injEq, Prod.mk.injEq] at h
        obtain ⟨rfl, rfl, rfl⟩ := h
        exact ih fr σ Γ a (.panic v) _ _ _ hx hwp hI hg hf fun Γ' a' hG hf' => hQ Γ' a' hG hf'
  | loop body ih =>
    intro fr σ Γ a fl fr' σ' Q h hwp hI hg hf hQ
    simp only [exec] at h
    refine wp_loop_rounds lf ?_
    have key : ∀ (n : Nat) (fr : AFr) (σ : ASt) (Γ : Ctx) (a : Act), iterA (exec P cfg call fuel rm lf body) n fr σ = some (fl, fr', σ') → σ.wp ≤ σ.next → Inv Γ σ → GR Γ cfg → FRel Γ fr a →
        XPost Γ σ (σ.next ≤ ·) Q fl fr' σ' → Code.rounds P body Q n a Γ.w := by
      intro n
      induction n with
      | zero => intro fr σ Γ a h; cases h
      | succ n ihn =>
        intro fr σ Γ a h hwp hI hg hf hQ
        simp only [iterA] at h
        rw [rounds_succ]
        cases hx : exec P cfg call fuel rm lf body fr σ with
        | none => rw [hx] at h; cases h
        | some r =>
          obtain ⟨fl1, fr1, σ1⟩ := r
          rw [hx] at h
          cases fl1 with
          | norm =>
            simp only at h
            refine ih fr σ Γ a .norm fr1 σ1 _ hx hwp hI hg hf (XPost.then_norm fun Γ1 a1 hG hf1 => ?_)
            exact ihn fr1 σ1 Γ1 a1 h (by rw [hG.step.wp]; exact Nat.le_trans hwp hG.step.next) hG.inv (hg.ext hG.step.ext) hf1 (hQ.of_good hG (fun j h => h) (fun j h => Nat.le_trans hG.step.next h))
          | ret =>
            simp only [Option.some.injEq, Prod.mk.injEq] at h
            obtain ⟨rfl, rfl, rfl⟩ := h
            exact ih fr σ Γ a .ret _ _ _ hx hwp hI hg hf (XPost.then_other (by simp) hQ)
          | exit b =>
            simp only [Option.some.injEq, Prod.mk.injEq] at h
            obtain ⟨rfl, rfl, rfl⟩ := h
            exact ih fr σ Γ a (.exit b) _ _ _ hx hwp hI hg hf (XPost.then_other (by simp) hQ)
          | panic v =>
            simp only [Option.some.injEq, Prod.mk.injEq] at h
            obtain ⟨rfl, rfl, rfl⟩ := h
            exact ih fr σ Γ a (.panic v) _ _ _ hx hwp hI hg hf (XPost.then_other (by simp) hQ)
    exact key lf fr σ Γ a h hwp hI hg hf hQ
  | exit id =>
    intro fr σ Γ a fl fr' σ' Q h hwp hI hg hf hQ
    simp only [exec, Option.some.injEq, Prod.mk.injEq] at h
    obtain ⟨rfl, rfl, rfl⟩ := h
    exact wp_exit (hQ Γ a (.refl hI) hf)
  | label l =>
    intro fr σ Γ a fl fr' σ' Q h hwp hI hg hf hQ
    simp only [exec, Option.some.injEq, Prod.mk.injEq] at h
    obtain ⟨rfl, rfl, rfl⟩ := h
    exact wp_label (hQ Γ a (.refl hI) hf)
  | ret =>
    intro fr σ Γ a fl fr' σ' Q h hwp hI hg hf hQ
    simp only [exec, Option.some.injEq, Prod.mk.injEq] at h
    obtain ⟨rfl, rfl, rfl⟩ := h
    exact wp_ret (hQ Γ a (.refl hI) hf)
  | _ =>
    intro fr σ Γ a fl fr' σ' Q h hwp hI hg hf hQ
    simp only [exec] at h
    cases h

/-! ### Results -/
def resOne (tmps : Array Value) : ResultVar → Sem Value
  | .tmp t => pure (tmps.getD t undef)
  | .cell a t => do loadVar t (← asAddr (tmps.getD a undef))

theorem resA_run {Γ : Ctx} {σ : ASt} {ts : List AV} {tmps : Array Value} (hI : Inv Γ σ) (hf : FR Γ ts tmps) : ∀ (rs : List ResultVar) (vs : List AV), resA P σ ts rs = some vs →
    ∃ ys : List Value, (rs.mapM (resOne tmps)).run P Γ.w = .ok ys Γ.w ∧ ys.length = vs.length ∧ ∀ i, i < vs.length → VR Γ (vs.getD i .undef) (ys.getD i undef)
  | [], vs, h => by
    simp only [resA, Option.some.injEq] at h
    subst h
    exact ⟨[], rfl, rfl, fun i hi => by simp at hi⟩
  | .tmp t :: rs, vs, h => by
    simp only [resA] at h
    obtain ⟨us, hu, rfl⟩ := map_some_inv h
    obtain ⟨ys, h1, h2, h3⟩ := resA_run hI hf rs us hu
    refine ⟨tmps.getD t undef :: ys, ?_, by simp [h2], fun i hi => ?_⟩
    · simp only [List.mapM_cons, Sem.run_bind, resOne, Sem.run_pure, Result.andThen_ok, h1]
    · cases i with
      | zero => simpa using hf.get t
      | succ i => simpa using h3 i (by simpa using hi)
  | .cell a t :: rs, vs, h => by
    simp only [resA] at h
    split at h
    · rename_i i j off ha
      split at h
      · rename_i k xs ty hi
        split at h
        · rename_i v us hv hu
          obtain rfl := Option.some.inj h
          obtain ⟨ys, h1, h2, h3⟩ := resA_run hI hf rs us hu
          cases hx : xs[j]? with
          | none => rw [hx] at hv; cases hv
          | some x =>
            rw [hx] at hv
            simp only [Option.bind_some] at hv
            have hp := hf.get a
            rw [ha] at hp
            generalize hP : tmps.getD a undef = p at hp
            cases hp with
            | ptr _ _ _ hd =>
              obtain ⟨_, _, hk, hle, arr, e, hh, hsz, hrow⟩ := hI.blk i _ hi
              obtain ⟨hj, hxe⟩ := List.getElem?_eq_some_iff.1 hx
              have hxd : xs.getD j .undef = x := by simp [List.getD, hx]
              obtain ⟨hlen, hcells⟩ := hrow j hj
              rw [hxd] at hlen hcells
              have hin : ∀ c, c < k → j * k + c < arr.size := by
                intro c hc
                rw [hsz]
                calc j * k + c < j * k + k := by omega
                  _ = (j + 1) * k := by rw [Nat.succ_mul]
                  _ ≤ (Γ.ρ i).cap * k := Nat.mul_le_mul_right _ (by omega)
              obtain ⟨y, hy, hvy⟩ := loadVar_run (Γ := Γ) (w := Γ.w) (b := (Γ.ρ i).b) (o := j * k) hv (g := fun c => arr.getD (j * k + c) undef)
                (fun c hc => by
                  have := hin c (by omega)
                  simp [World.cell?, at0, hh, this])
                (fun c hc => hcells c (by omega))
              refine ⟨y :: ys, ?_, by simp [h2], fun i hi => ?_⟩
              · have h0 : (resOne tmps (.cell a t)).run P Γ.w = .ok y Γ.w := by
                  simp only [resOne, hP, asAddr, Sem.run_bind, Sem.run_pure, Result.andThen_ok, hk]
                  exact hy
                simp only [List.mapM_cons, Sem.run_bind, Sem.run_pure, Result.andThen_ok, h0, h1]
              · cases i with
                | zero => simpa using hvy
                | succ i => simpa using h3 i (by simpa using hi)
        · cases h
      · cases h
    · cases h

theorem results_run {Γ : Ctx} {σ : ASt} {ts : List AV} {tmps : Array Value} (hI : Inv Γ σ) (hf : FR Γ ts tmps) {fn : Func} {vs : List AV} (h : resA P σ ts fn.results.toList = some vs) :
    ∃ y, (results fn tmps).run P Γ.w = .ok y Γ.w ∧ VR Γ (oneOf vs) y := by
  obtain ⟨ys, h1, h2, h3⟩ := resA_run hI hf fn.results.toList vs h
  have e : (fn.results.mapM (resOne tmps)).run P Γ.w = .ok ys.toArray Γ.w := by
    rw [Array.mapM_eq_mapM_toList]
    simp only [Sem.run_map, h1, Result.andThen_ok]
  refine ⟨if h : ys.toArray.size = 1 then ys.toArray[0] else .tuple ys.toArray, ?_, ?_⟩
  · have : results fn tmps = (do
        let vs ← fn.results.mapM (resOne tmps)
        pure (if h : vs.size = 1 then vs[0] else .tuple vs)) := by
      unfold results
      congr 1
    rw [this]
    simp only [Sem.run_bind, e, Result.andThen_ok, Sem.run_pure]
  · by_cases hl : ys.length = 1
    · have hv1 : vs.length = 1 := by omega
      match vs, ys, hv1, hl with
      | [v], [y], _, _ => simpa [oneOf] using h3 0 (by simp)
    · have e2 : oneOf vs = .tup vs := by
        unfold oneOf
        split
        · simp at h2; omega
        · rfl
      rw [dif_neg (by simpa using hl), e2]
      refine .tup vs ys.toArray (by simpa using h2) fun i hi => ?_
      have := h3 i hi
      rw [← getD_toList]
      simpa using this

end
end Go.Am

set_option linter.unusedVariables false
set_option linter.unusedSimpArgs false
namespace Go.Am
open Go

inductive MR (Γ : Ctx) : UA → FrameMode → Prop
  | ret : MR Γ .ret .returning
  | pan (v : AV) (y : Value) : VR Γ v y → MR Γ (.pan v) (.panicking [{ v := y, recovered := false }])
  | rcv (v : AV) (y : Value) : VR Γ v y → MR Γ (.rcv v) (.panicking [{ v := y, recovered := true }])

theorem MR.ext {Γ Γ' : Ctx} (e : Ext Γ Γ') {u : UA} {m : FrameMode} (h : MR Γ u m) : MR Γ' u m := by
  cases h with
  | ret => exact .ret
  | pan v y hv => exact .pan v y (hv.ext e)
  | rcv v y hv => exact .rcv v y (hv.ext e)
theorem MR.settle {Γ : Ctx} {u : UA} {m : FrameMode} (h : MR Γ u m) : MR Γ u.settle (Go.settle m) := by
  cases h with
  | ret => exact .ret
  | pan v y hv => exact .pan v y hv
  | rcv v y hv => exact .ret
theorem MR.ne_run {Γ : Ctx} {u : UA} {m : FrameMode} (h : MR Γ u m) : m ≠ .run := by cases h <;> simp

/-- What is asked behind a run of a deferred function's code. -/
def RPost (Γ : Ctx) (σ : ASt) (D : Nat → Prop) (Q : Exit → Act → List Frame → World → Prop) (c0 : Frame) (cs : List Frame) (fl : Flow) (fr' : AFr) (σ' : ASt) (u' : UA) : Prop :=
  ∀ Γ' a' m', Good Γ σ Γ' σ' D → FRel Γ' fr' a' → MR Γ' u' m' → match fl with
    | .norm => Q .normal a' ({ c0 with mode := m' } :: cs) Γ'.w
    | .ret => Q .ret a' ({ c0 with mode := m' } :: cs) Γ'.w
    | .exit b => Q (.exit b) a' ({ c0 with mode := m' } :: cs) Γ'.w
    | .panic v => ∀ y, VR Γ' v y → Q (.panic [{ v := y, recovered := false }]) a' ({ c0 with mode := m' } :: cs) Γ'.w

theorem RPost.of_good {Γ Γ₁ : Ctx} {σ σ₁ : ASt} {D D₁ D₂ : Nat → Prop} {Q : Exit → Act → List Frame → World → Prop} {c0 : Frame} {m : FrameMode} {cs : List Frame} {fl : Flow} {fr' : AFr} {σ' : ASt} {u' : UA}
    (h : RPost Γ σ D Q c0 cs fl fr' σ' u') (hG : Good Γ σ Γ₁ σ₁ D₁) (h1 : ∀ j, D₁ j → D j) (h2 : ∀ j, D₂ j → D j) : RPost Γ₁ σ₁ D₂ Q { c0 with mode := m } cs fl fr' σ' u' :=
  fun Γ' a' m' hG' hf hm => h Γ' a' m' (hG.trans hG' h1 h2) hf hm

section
variable {P : Program} {cfg : Cfg} {call : FuncId → List AV → ASt → Option CR} {fuel : Nat} {rm : Bool}

theorem recover_run {o : Oper} (h : isRecover o = true) (a : Act) (w : World) : (execOp a.eval o).run P w = .ok .recover w := by
  unfold isRecover at h
  split at h
  · rename_i args tys ho
    simp only [execOp, ho, resolve, invoke, builtin, Sem.run_bind, Sem.run_pure, Result.andThen_ok]
  · cases h

theorem stepA_run {id : Nat} {o : Oper} {fr : AFr} {σ : ASt} {r : SR} {a : Act} {w : World} {K : Act → World → Prop} {Q : Exit → Act → World → Prop} (h : o.wp P a w K Q) :
    (match (execOp a.eval o).run P w with | .ok .recover _ => False | _ => True) := by
  unfold Oper.wp at h
  revert h
  generalize (execOp a.eval o).run P w = r
  intro h
  split
  · exact h
  · trivial

theorem seqR_ok {ops : Array Oper} {base : Nat} {Q : Exit → Act → List Frame → World → Prop} {c0 : Frame} {cs : List Frame} (hC : CallOK P cfg call) : ∀ (rest : List Oper) (i : Nat) (fr : AFr) (σ : ASt) (u : UA) (m : FrameMode) (Γ : Ctx) (a : Act) (fl : Flow) (fr' : AFr) (σ' : ASt) (u' : UA),
    (∀ k, rest[k]? = ops[i + k]?) → (∀ k, k < rest.length → ¬ Γ.dom (base + i + k)) → base + i + rest.length ≤ σ.next → σ.wp ≤ base → Inv Γ σ → GR Γ cfg → FRel Γ fr a → MR Γ u m →
    seqR P cfg call fuel rm ops.toList base i rest fr σ u = some (fl, fr', σ', u') → RPost Γ σ (base ≤ ·) Q c0 cs fl fr' σ' u' → wpOpsS P ops Q (List.range' i rest.length) a ({ c0 with mode := m } :: cs) Γ.w := by
  intro rest
  induction rest with
  | nil =>
    intro i fr σ u m Γ a fl fr' σ' u' ho hfr hnx hwp hI hg hf hmr h hQ
    simp only [seqR, Option.some.injEq, Prod.mk.injEq] at h
    obtain ⟨rfl, rfl, rfl, rfl⟩ := h
    exact hQ Γ a m (.refl hI) hf hmr
  | cons o rest ih =>
    intro i fr σ u m Γ a fl fr' σ' u' ho hfr hnx hwp hI hg hf hmr h hQ
    have hoi : ops[i]? = some o := by simpa using (ho 0).symm
    have ho' : ∀ k, rest[k]? = ops[i + 1 + k]? := fun k => by
      have := ho (k + 1)
      simp only [List.getElem?_cons_succ] at this
      rw [this]; congr 1; omega
    simp only [List.length_cons] at hfr hnx ⊢
    have hfr1 : ∀ k, k < rest.length → ¬ Γ.dom (base + (i + 1) + k) := fun k hk => by
      have := hfr (k + 1) (by omega)
      rwa [show base + (i + 1) + k = base + i + (k + 1) by omega]
    rw [List.range'_succ]
    simp only [wpOpsS, hoi]
    simp only [seqR] at h
    cases hgo : guardOk ops.toList fr.ts o with
    | false => rw [hgo] at h; simp only [cond_false, reduceCtorEq] at h
    | true =>
      rw [hgo] at h
      simp only [cond_true] at h
      rw [wanted_ok hf.ts hgo]
      cases hw : wantedA ops.toList fr.ts o with
      | false =>
        rw [hw] at h
        simp only [cond_false] at h
        simp only [Bool.false_eq_true, if_false]
        exact ih (i + 1) _ σ u m Γ _ fl fr' σ' u' ho' hfr1 (by omega) hwp hI hg (hf.put _ .undefT) hmr h hQ
      | true =>
        rw [hw] at h
        simp only [cond_true] at h
        simp only [if_true]
        cases hrec : isRecover o with
        | true =>
          rw [hrec] at h
          simp only [cond_true] at h
          rw [recover_run hrec]
          simp only
          cases hmr with
          | ret => exact ih (i + 1) _ σ .ret _ Γ _ fl fr' σ' u' ho' hfr1 (by omega) hwp hI hg (hf.put _ .nilif) .ret h hQ
          | pan v y hv => exact ih (i + 1) _ σ (.rcv v) _ Γ _ fl fr' σ' u' ho' hfr1 (by omega) hwp hI hg (hf.put _ hv) (.rcv v y hv) h hQ
          | rcv v y hv => exact ih (i + 1) _ σ (.rcv v) _ Γ _ fl fr' σ' u' ho' hfr1 (by omega) hwp hI hg (hf.put _ .nilif) (.rcv v y hv) h hQ
        | false =>
          rw [hrec] at h
          simp only [cond_false] at h
          have hF : Fresh Γ σ (base + i) := ⟨by simpa using hfr 0 (by omega), by omega, by omega⟩
          have hop : o.wp P a Γ.w (fun a' w' => wpOpsS P ops Q (List.range' (i + 1) rest.length) a' ({ c0 with mode := m } :: cs) w') (fun e a' w' => Q e a' ({ c0 with mode := m } :: cs) w') := by
            split at h
            · rename_i fr₁ σ₁ hs
              refine stepA_ok hC hI hg hf hF hs fun Γ₁ a₁ hG hf₁ => ?_
              refine ih (i + 1) fr₁ σ₁ u m Γ₁ a₁ fl fr' σ' u' ho' (fun k hk hd => ?_) (by have := hG.step.next; omega) (by rw [hG.step.wp]; exact hwp) hG.inv (hg.ext hG.step.ext) hf₁ (hmr.ext hG.step.ext) h
                (fun Γ' a' m' hG' hf' hm' => hQ Γ' a' m' (hG.trans hG' (fun j hj => by omega) (fun j hj => hj)) hf' hm')
              rcases hG.dom _ hd with h1 | h1 | h1
              · exact hfr1 k hk h1
              · omega
              · omega
            · rename_i v σ₁ hs
              simp only [Option.some.injEq, Prod.mk.injEq] at h
              obtain ⟨rfl, rfl, rfl, rfl⟩ := h
              refine stepA_ok hC hI hg hf hF hs fun Γ₁ y hG hv => ?_
              exact hQ Γ₁ a m ⟨hG.step, hG.inv, fun j hj => (hG.dom j hj).imp_right fun h => by omega⟩ (hf.ext hG.step.ext) (hmr.ext hG.step.ext) y hv
            · cases h
          unfold Oper.wp at hop
          revert hop
          generalize (execOp a.eval o).run P Γ.w = r
          intro hop
          split
          · exact hop.elim
          · exact hop

theorem execR_ok (hm : P.follows .mixedOrders = true) (hC : CallOK P cfg call) {lf : Nat} : ∀ (c : Code) (fr : AFr) (σ : ASt) (u : UA) (Γ : Ctx) (a : Act) (fl : Flow) (fr' : AFr) (σ' : ASt) (u' : UA) (Q : Exit → Act → List Frame → World → Prop) (c0 : Frame) (cs : List Frame) (m : FrameMode),
    execR P cfg call fuel rm lf c fr σ u = some (fl, fr', σ', u') → σ.wp ≤ σ.next → Inv Γ σ → GR Γ cfg → FRel Γ fr a → MR Γ u m → RPost Γ σ (σ.next ≤ ·) Q c0 cs fl fr' σ' u' → c.wpS P Q a ({ c0 with mode := m } :: cs) Γ.w := by
  intro c
  have plain : ∀ (c : Code) (fr : AFr) (σ : ASt) (u : UA) (Γ : Ctx) (a : Act) (fl : Flow) (fr' : AFr) (σ' : ASt) (u' : UA) (Q : Exit → Act → List Frame → World → Prop) (c0 : Frame) (cs : List Frame) (m : FrameMode),
      ((exec P cfg call fuel rm lf c fr σ).map fun r => (r.1, r.2.1, r.2.2, u)) = some (fl, fr', σ', u') → σ.wp ≤ σ.next → Inv Γ σ → GR Γ cfg → FRel Γ fr a → MR Γ u m → RPost Γ σ (σ.next ≤ ·) Q c0 cs fl fr' σ' u' → c.wpS P Q a ({ c0 with mode := m } :: cs) Γ.w := by
    intro c fr σ u Γ a fl fr' σ' u' Q c0 cs m h hwp hI hg hf hmr hQ
    obtain ⟨⟨fl1, fr1, σ1⟩, hx, he⟩ := map_some_inv h
    simp only [Prod.mk.injEq] at he
    obtain ⟨rfl, rfl, rfl, rfl⟩ := he
    refine wpS_of_wp (exec_ok hm hC c fr σ Γ a fl1 fr1 σ1 _ hx hwp hI hg hf fun Γ' a' hG hf' => ?_)
    have := hQ Γ' a' m hG hf' (hmr.ext hG.step.ext)
    cases fl1 <;> exact this
  induction c with
  | seq x y ihx ihy =>
    intro fr σ u Γ a fl fr' σ' u' Q c0 cs m h hwp hI hg hf hmr hQ
    simp only [execR] at h
    refine wpS_seq ?_
    cases hx : execR P cfg call fuel rm lf x fr σ u with
    | none => rw [hx] at h; cases h
    | some r =>
      obtain ⟨fl1, fr1, σ1, u1⟩ := r
      rw [hx] at h
      cases fl1 with
      | norm =>
        simp only at h
        refine ihx fr σ u Γ a .norm fr1 σ1 u1 _ c0 cs m hx hwp hI hg hf hmr fun Γ1 a1 m1 hG hf1 hm1 => ?_
        exact ihy fr1 σ1 u1 Γ1 a1 fl fr' σ' u' Q c0 cs m1 h (by rw [hG.step.wp]; exact Nat.le_trans hwp hG.step.next) hG.inv (hg.ext hG.step.ext) hf1 hm1
          (fun Γ' a' m' hG' hf' hm' => hQ Γ' a' m' (hG.trans hG' (fun j h => h) (fun j h => Nat.le_trans hG.step.next h)) hf' hm')
      | ret =>
        simp only [Option.some.injEq, Prod.mk.injEq] at h
        obtain ⟨rfl, rfl, rfl, rfl⟩ := h
        exact ihx fr σ u Γ a .ret _ _ _ _ c0 cs m hx hwp hI hg hf hmr fun Γ1 a1 m1 hG hf1 hm1 => hQ Γ1 a1 m1 hG hf1 hm1
      | exit b =>
        simp only [Option.some.injEq, Prod.mk.injEq] at h
        obtain ⟨rfl, rfl, rfl, rfl⟩ := h
        exact ihx fr σ u Γ a (.exit b) _ _ _ _ c0 cs m hx hwp hI hg hf hmr fun Γ1 a1 m1 hG hf1 hm1 => hQ Γ1 a1 m1 hG hf1 hm1
      | panic v =>
        simp only [Option.some.injEq, Prod.mk.injEq] at h
        obtain ⟨rfl, rfl, rfl, rfl⟩ := h
        exact ihx fr σ u Γ a (.panic v) _ _ _ _ c0 cs m hx hwp hI hg hf hmr fun Γ1 a1 m1 hG hf1 hm1 => hQ Γ1 a1 m1 hG hf1 hm1
  | cond c x y ihx ihy =>
    intro fr σ u Γ a fl fr' σ' u' Q c0 cs m h hwp hI hg hf hmr hQ
    simp only [execR] at h
    split at h
    · rename_i b hc
      have hv := aval_vr hg hf.ts c
      rw [hc] at hv
      have hb : a.eval c = .bool b := by generalize hcv : a.eval c = cv at hv; cases hv; rfl
      refine wpS_cond hb ?_
      cases b with
      | true => exact ihx fr σ u Γ a fl fr' σ' u' Q c0 cs m h hwp hI hg hf hmr hQ
      | false => exact ihy fr σ u Γ a fl fr' σ' u' Q c0 cs m h hwp hI hg hf hmr hQ
    · cases h
  | region id ops draw =>
    intro fr σ u Γ a fl fr' σ' u' Q c0 cs m h hwp hI hg hf hmr hQ
    cases draw with
    | true => exact plain _ fr σ u Γ a fl fr' σ' u' Q c0 cs m h hwp hI hg hf hmr hQ
    | false =>
      simp only [execR] at h
      have hI' : Inv Γ ⟨σ.next + ops.toList.length, σ.wp, σ.heap⟩ :=
        ⟨fun j B hj => ⟨(hI.blk j B hj).1, Nat.lt_of_lt_of_le (hI.blk j B hj).2.1 (Nat.le_add_right _ _), (hI.blk j B hj).2.2⟩, hI.inj, hI.free, hI.lt, hI.lto, fun j hj => Nat.lt_of_lt_of_le (hI.domlt j hj) (Nat.le_add_right _ _)⟩
      have hst : Good Γ σ Γ ⟨σ.next + ops.toList.length, σ.wp, σ.heap⟩ (fun _ => False) :=
        ⟨⟨.refl Γ, Nat.le_refl _, rfl, rfl, rfl, fun _ _ _ => rfl, fun id B h hw => .inr ⟨id, B, h, hw, rfl⟩, fun _ _ => rfl, rfl, Nat.le_add_right _ _, fun _ _ h => .inl h, fun _ h => .inl h⟩, hI', fun j h => .inl h⟩
      refine wpS_region ?_
      have e : List.range ops.size = List.range' 0 ops.toList.length := by rw [List.range_eq_range']; simp
      rw [e]
      refine seqR_ok hC ops.toList 0 fr ⟨σ.next + ops.toList.length, σ.wp, σ.heap⟩ u m Γ a fl fr' σ' u' (fun k => by simp) (fun k hk hd => ?_) (by simp) hwp hI' hg hf hmr h
        (fun Γ' a' m' hG' hf' hm' => hQ Γ' a' m' (hst.trans hG' (fun j hj => hj.elim) (fun j hj => hj)) hf' hm')
      have := hI.domlt _ hd
      omega
  | _ =>
    intro fr σ u Γ a fl fr' σ' u' Q c0 cs m h hwp hI hg hf hmr hQ
    exact plain _ fr σ u Γ a fl fr' σ' u' Q c0 cs m h hwp hI hg hf hmr hQ

structure PF (P : Program) (cfg : Cfg) : Prop where
  mixed : P.follows .mixedOrders = true
  ng : ∀ (f : FuncId) (fn : Func), P.funcs[f]? = some fn → (fn.name == "runtime.NumGoroutine") = false
  ext : ∀ (f : FuncId) (args : List AV) (σ : ASt) (v : AV) (bs : List Blk), cfg.ext f args σ = some (true, v, bs) → ∀ (Γ : Ctx) (vs : Array Value), σ.wp ≤ σ.next → Inv Γ σ → GR Γ cfg → FR Γ args vs → CallW P f vs Γ.w (CallPost Γ σ (.ret v (addB σ bs)))

theorem frame_rel {Γ : Ctx} {args : List AV} {vs : Array Value} (hf : FR Γ args vs) (n : Nat) :
    FRel Γ ⟨args ++ List.replicate (n - args.length) (.tup []), []⟩ { tmps := vs ++ Array.replicate (n - vs.size) undef, defers := [] } := by
  refine ⟨hf.append ⟨by simp [hf.1], fun i hi => ?_⟩, .nil⟩
  have hi' : i < n - args.length := by simpa using hi
  have hi2 : i < n - vs.size := by rw [hf.1]; exact hi'
  have e1 : (List.replicate (n - args.length) (AV.tup [])).getD i .undef = .tup [] := by simp [List.getD, hi']
  have e2 : (Array.replicate (n - vs.size) undef).getD i undef = undef := by simp [Array.getD, hi2]
  rw [e1, e2]
  exact .undefT

theorem defR_nil {Γ : Ctx} {ds : List (AV × List AV)} {vs : List Deferred} (h : DefR Γ ds vs) (hd : ds.isEmpty = true) : vs = [] := by
  cases h with
  | nil => rfl
  | cons => cases hd

theorem leaveA_ok (pf : PF P cfg) (hC : CallOK P cfg call) {fn : Func} {tmps : Array Value} {R : Ending → World → Prop} {ts : List AV} {Γ0 : Ctx} {σ0 : ASt} {u' : UA} {σ' : ASt}
    (hR : ∀ Γ' m', Good Γ0 σ0 Γ' σ' (σ0.next ≤ ·) → FR Γ' ts tmps → MR Γ' u' m' → Leaves P fn tmps R [] m' Γ'.w) :
    ∀ (ds : List (AV × List AV)) (vs : List Deferred) (u : UA) (m : FrameMode) (σ : ASt) (Γ : Ctx), leaveA P cfg call fuel ds u σ = some (u', σ') → Good Γ0 σ0 Γ σ (σ0.next ≤ ·) → σ.wp ≤ σ.next → GR Γ cfg → FR Γ ts tmps → DefR Γ ds vs → MR Γ u m →
      Leaves P fn tmps R vs m Γ.w := by
  intro ds
  induction ds with
  | nil =>
    intro vs u m σ Γ h hG hwp hg hf hd hmr
    simp only [leaveA, Option.some.injEq, Prod.mk.injEq] at h
    obtain ⟨rfl, rfl⟩ := h
    cases hd
    exact hR Γ m hG hf hmr
  | cons d ds ih =>
    intro vs u m σ Γ h hG hwp hg hf hd hmr
    cases hd with
    | cons f caps args vc va _ vs h1 h2 h3 =>
      simp only [leaveA] at h
      split at h
      · rename_i u1 σ1 hcall
        unfold callDA at hcall
        split at hcall
        · cases hcall
        · rename_i fn' hfn
          split at hcall
          · cases hcall
          · rename_i c hb
            refine leaves_cons hmr.ne_run (f := f) (args := va ++ vc) ?_ ?_
            · show (callFunc f (va ++ vc)).run P Γ.w = _
              exact MuLone.run_callFunc_enter hfn (pf.ng f fn' hfn) hb _ _
            · refine callsD_of_wpS hfn hb fun c₀ cs hc0 => ?_
              have hc₀ : ({ c₀ with mode := m } : Frame) = c₀ := by subst hc0; rfl
              have fin : ∀ (fr1 : AFr) (σ2 : ASt) (u2 : UA), (cond (fr1.ds.isEmpty && (resA P σ2 fr1.ts fn'.results.toList).isSome) (some (u2, σ2)) none) = some (u1, σ1) → ∀ Γ' a' m', Good Γ σ Γ' σ2 (σ.next ≤ ·) → FRel Γ' fr1 a' → MR Γ' u2 m' →
                  a'.defers = [] ∧ ∃ u', ({ c₀ with mode := m' } : Frame) :: cs = { c₀ with mode := u' } :: cs ∧ ∃ v, (results fn' a'.tmps).run P Γ'.w = .ok v Γ'.w ∧ Leaves P fn tmps R vs (Go.settle u') Γ'.w := by
                intro fr1 σ2 u2 hc Γ' a' m' hG' hf' hm'
                cases hb : (fr1.ds.isEmpty && (resA P σ2 fr1.ts fn'.results.toList).isSome) with
                | false => rw [hb] at hc; cases hc
                | true =>
                  rw [hb] at hc
                  simp only [cond_true, Option.some.injEq, Prod.mk.injEq] at hc
                  obtain ⟨rfl, rfl⟩ := hc
                  simp only [Bool.and_eq_true] at hb
                  obtain ⟨us, hus⟩ := Option.isSome_iff_exists.1 hb.2
                  obtain ⟨y, hy, _⟩ := results_run hG'.inv hf'.ts hus
                  refine ⟨defR_nil hf'.ds hb.1, m', rfl, y, hy, ?_⟩
                  exact ih vs u2.settle (Go.settle m') σ2 Γ' h (hG.trans hG' (fun j h => h) (fun j h => Nat.le_trans hG.step.next h)) (by rw [hG'.step.wp]; exact Nat.le_trans hwp hG'.step.next) (hg.ext hG'.step.ext) (hf.ext hG'.step.ext) (h3.ext hG'.step.ext) hm'.settle
              split at hcall
              · rename_i fr1 σ2 u2 hx
                rw [← hc₀]
                exact execR_ok pf.mixed hC c _ σ u Γ _ _ _ _ _ _ c₀ cs m hx hwp hG.inv hg (frame_rel (h2.append h1) fn'.ntmps) hmr fun Γ' a' m' hG' hf' hm' => fin fr1 σ2 u2 hcall Γ' a' m' hG' hf' hm'
              · rename_i fr1 σ2 u2 hx
                rw [← hc₀]
                exact execR_ok pf.mixed hC c _ σ u Γ _ _ _ _ _ _ c₀ cs m hx hwp hG.inv hg (frame_rel (h2.append h1) fn'.ntmps) hmr fun Γ' a' m' hG' hf' hm' => fin fr1 σ2 u2 hcall Γ' a' m' hG' hf' hm'
              · cases hcall
      · cases h

theorem acall_ok (pf : PF P cfg) : ∀ n, CallOK P cfg (acall P cfg n)
  | 0 => fun f args σ r Γ vs h => by cases h
  | n + 1 => by
    intro f args σ r Γ vs h hwp hI hg hf
    simp only [acall] at h
    split at h
    · rename_i b v bs hv
      cases b with
      | false => cases h
      | true =>
        obtain rfl := Option.some.inj h
        exact pf.ext f args σ v bs hv Γ vs hwp hI hg hf
    split at h
    · cases h
    · rename_i fn hfn
      split at h
      · cases h
      · rename_i c hb
        refine .inl ⟨MuLone.run_callFunc_enter hfn (pf.ng f fn hfn) hb vs Γ.w, calls_of_wp_defers hfn hb ?_⟩
        have done : ∀ (fr' : AFr) (σ' : ASt) (u : UA) (m : FrameMode) (Γ' : Ctx) (a' : Act), doneA P cfg (acall P cfg n) n fn fr' σ' u = some r → Good Γ σ Γ' σ' (σ.next ≤ ·) → FRel Γ' fr' a' → MR Γ' u m →
            Leaves P fn a'.tmps (CallPost Γ σ r) a'.defers m Γ'.w := by
          intro fr' σ' u m Γ' a' he hG hf' hmr
          unfold doneA at he
          split at he
          · rename_i σ2 hl
            obtain ⟨us, hu, rfl⟩ := map_some_inv he
            refine leaveA_ok pf (acall_ok pf n) (fun Γ2 m2 hG2 hf2 hm2 => ?_) fr'.ds a'.defers u m σ' Γ' hl hG (by rw [hG.step.wp]; exact Nat.le_trans hwp hG.step.next) (hg.ext hG.step.ext) hf'.ts hf'.ds hmr
            cases hm2
            obtain ⟨y, h1, h2⟩ := results_run hG2.inv hf2 hu
            exact ⟨y, h1, y, Γ2, rfl, rfl, h2, hG2⟩
          · rename_i v σ2 hl
            obtain rfl := Option.some.inj he
            refine leaveA_ok pf (acall_ok pf n) (fun Γ2 m2 hG2 hf2 hm2 => ?_) fr'.ds a'.defers u m σ' Γ' hl hG (by rw [hG.step.wp]; exact Nat.le_trans hwp hG.step.next) (hg.ext hG.step.ext) hf'.ts hf'.ds hmr
            cases hm2 with
            | pan _ y hv => exact ⟨y, Γ2, rfl, rfl, hv, hG2⟩
          · cases he
        split at h
        · rename_i fr' σ' hx
          exact exec_ok pf.mixed (acall_ok pf n) c _ σ Γ _ _ _ _ _ hx hwp hI hg (frame_rel hf fn.ntmps) fun Γ' a' hG hf' => done fr' σ' .ret .returning Γ' a' h hG hf' .ret
        · rename_i fr' σ' hx
          exact exec_ok pf.mixed (acall_ok pf n) c _ σ Γ _ _ _ _ _ hx hwp hI hg (frame_rel hf fn.ntmps) fun Γ' a' hG hf' => done fr' σ' .ret .returning Γ' a' h hG hf' .ret
        · rename_i v fr' σ' hx
          exact exec_ok pf.mixed (acall_ok pf n) c _ σ Γ _ _ _ _ _ hx hwp hI hg (frame_rel hf fn.ntmps) fun Γ' a' hG hf' y hv => done fr' σ' (.pan v) _ Γ' a' h hG hf' (.pan v y hv)
        · cases h
end
end Go.Am

set_option linter.unusedVariables false
set_option linter.unusedSimpArgs false
namespace Go.Am
open Go

section
variable (P : Program) (cfg : Cfg)

def Runs (c : Code) (fr : AFr) (σ : ASt) (fl : Flow) (fr' : AFr) (σ' : ASt) : Prop :=
  ∀ (Γ : Ctx) (a : Act) (Q : Exit → Act → World → Prop), σ.wp ≤ σ.next → Inv Γ σ → GR Γ cfg → FRel Γ fr a → XPost Γ σ (σ.next ≤ ·) Q fl fr' σ' → c.wp P Q a Γ.w

/-- The contract of a call. -/
def CallRuns (f : FuncId) (args : List AV) (σ : ASt) (r : CR) : Prop :=
  ∀ (Γ : Ctx) (vs : Array Value), σ.wp ≤ σ.next → Inv Γ σ → GR Γ cfg → FR Γ args vs → CallW P f vs Γ.w (CallPost Γ σ r)
end

section
variable {P : Program} {cfg : Cfg}

theorem Runs.seq {x y : Code} {fr fr1 fr' : AFr} {σ σ1 σ' : ASt} {fl : Flow} (h : Runs P cfg x fr σ .norm fr1 σ1) (k : Runs P cfg y fr1 σ1 fl fr' σ') : Runs P cfg (.seq x y) fr σ fl fr' σ' := by
  intro Γ a Q hwp hI hg hf hQ
  refine wp_seq (h Γ a _ hwp hI hg hf (XPost.then_norm fun Γ1 a1 hG hf1 => ?_))
  exact k Γ1 a1 Q (by rw [hG.step.wp]; exact Nat.le_trans hwp hG.step.next) hG.inv (hg.ext hG.step.ext) hf1 (hQ.of_good hG (fun j h => h) (fun j h => Nat.le_trans hG.step.next h))

theorem Runs.seq_out {x y : Code} {fr fr' : AFr} {σ σ' : ASt} {fl : Flow} (hn : fl ≠ .norm) (h : Runs P cfg x fr σ fl fr' σ') : Runs P cfg (.seq x y) fr σ fl fr' σ' :=
  fun Γ a Q hwp hI hg hf hQ => wp_seq (h Γ a _ hwp hI hg hf (XPost.then_other hn hQ))

theorem Runs.cond {c : Operand} {x y : Code} {fr fr' : AFr} {σ σ' : ASt} {fl : Flow} {b : Bool} (hc : aval cfg fr.ts c = .bool b) (h : Runs P cfg (if b then x else y) fr σ fl fr' σ') : Runs P cfg (.cond c x y) fr σ fl fr' σ' := by
  intro Γ a Q hwp hI hg hf hQ
  have hv := aval_vr hg hf.ts c
  rw [hc] at hv
  have hb : a.eval c = .bool b := by generalize hcv : a.eval c = cv at hv; cases hv; rfl
  exact wp_cond hb (h Γ a Q hwp hI hg hf hQ)

def Flow.leave (id : Nat) : Flow → Flow
  | .exit b => if b = id then .norm else .exit b
  | f => f

theorem Runs.block {id : Nat} {x : Code} {fr fr' : AFr} {σ σ' : ASt} {fl : Flow} (h : Runs P cfg x fr σ fl fr' σ') : Runs P cfg (.block id x) fr σ (fl.leave id) fr' σ' := by
  intro Γ a Q hwp hI hg hf hQ
  refine wp_block (h Γ a _ hwp hI hg hf fun Γ' a' hG hf' => ?_)
  have := hQ Γ' a' hG hf'
  cases fl with
  | norm => exact this
  | ret => exact this
  | exit b =>
    show Exit.inBlock id Q (.exit b) a' Γ'.w
    simp only [Exit.inBlock, Flow.leave] at this ⊢
    split
    · rename_i e; rw [if_pos e] at this; exact this
    · rename_i e; rw [if_neg e] at this; exact this
  | panic v => exact this

/-- A loop's rounds. -/
inductive Rounds (P : Program) (cfg : Cfg) (c : Code) : AFr → ASt → Flow → AFr → ASt → Prop
  | out {fr fr' σ σ' fl} : fl ≠ .norm → Runs P cfg c fr σ fl fr' σ' → Rounds P cfg c fr σ fl fr' σ'
  | more {fr fr1 fr' σ σ1 σ' fl} : Runs P cfg c fr σ .norm fr1 σ1 → Rounds P cfg c fr1 σ1 fl fr' σ' → Rounds P cfg c fr σ fl fr' σ'

theorem Rounds.wp {c : Code} {fr fr' : AFr} {σ σ' : ASt} {fl : Flow} (h : Rounds P cfg c fr σ fl fr' σ') : ∃ n, ∀ (Γ : Ctx) (a : Act) (Q : Exit → Act → World → Prop), σ.wp ≤ σ.next → Inv Γ σ → GR Γ cfg → FRel Γ fr a →
    XPost Γ σ (σ.next ≤ ·) Q fl fr' σ' → Code.rounds P c Q n a Γ.w := by
  induction h with
  | out hn h => exact ⟨1, fun Γ a Q hwp hI hg hf hQ => by rw [rounds_succ]; exact h Γ a _ hwp hI hg hf (XPost.then_other hn hQ)⟩
  | more h _ ih =>
    obtain ⟨n, ih⟩ := ih
    refine ⟨n + 1, fun Γ a Q hwp hI hg hf hQ => ?_⟩
    rw [rounds_succ]
    refine h Γ a _ hwp hI hg hf (XPost.then_norm fun Γ1 a1 hG hf1 => ?_)
    exact ih Γ1 a1 Q (by rw [hG.step.wp]; exact Nat.le_trans hwp hG.step.next) hG.inv (hg.ext hG.step.ext) hf1 (hQ.of_good hG (fun j h => h) (fun j h => Nat.le_trans hG.step.next h))

theorem Rounds.loop {c : Code} {fr fr' : AFr} {σ σ' : ASt} {fl : Flow} (h : Rounds P cfg c fr σ fl fr' σ') : Runs P cfg (.loop c) fr σ fl fr' σ' := by
  obtain ⟨n, h⟩ := h.wp
  exact fun Γ a Q hwp hI hg hf hQ => wp_loop_rounds n (h Γ a Q hwp hI hg hf hQ)

theorem Runs.exit {id : Nat} {fr : AFr} {σ : ASt} : Runs P cfg (.exit id) fr σ (.exit id) fr σ := fun Γ a Q hwp hI hg hf hQ => wp_exit (hQ Γ a (.refl hI) hf)
theorem Runs.ret {fr : AFr} {σ : ASt} : Runs P cfg .ret fr σ .ret fr σ := fun Γ a Q hwp hI hg hf hQ => wp_ret (hQ Γ a (.refl hI) hf)
theorem Runs.skip {fr : AFr} {σ : ASt} : Runs P cfg .skip fr σ .norm fr σ := fun Γ a Q hwp hI hg hf hQ => wp_skip (hQ Γ a (.refl hI) hf)
theorem Runs.label {l : Nat} {fr : AFr} {σ : ASt} : Runs P cfg (.label l) fr σ .norm fr σ := fun Γ a Q hwp hI hg hf hQ => wp_label (hQ Γ a (.refl hI) hf)

theorem CallRuns.ret {pf : PF P cfg} {f : FuncId} {fn : Func} {c : Code} {args : List AV} {σ σ' : ASt} {fl : Flow} {fr' : AFr} {vs : List AV} (hfn : P.funcs[f]? = some fn) (hb : fn.body = some c)
    (h : Runs P cfg c ⟨args ++ List.replicate (fn.ntmps - args.length) (.tup []), []⟩ σ fl fr' σ') (hfl : fl = .norm ∨ fl = .ret) (hd : fr'.ds = []) (hr : resA P σ' fr'.ts fn.results.toList = some vs) :
    CallRuns P cfg f args σ (.ret (oneOf vs) σ') := by
  intro Γ us hwp hI hg hf
  refine .inl ⟨MuLone.run_callFunc_enter hfn (pf.ng f fn hfn) hb us Γ.w, calls_of_wp hfn hb (h Γ _ _ hwp hI hg (frame_rel hf fn.ntmps) fun Γ' a' hG hf' => ?_)⟩
  obtain ⟨y, h1, h2⟩ := results_run hG.inv hf'.ts hr
  have hds := hf'.ds
  rw [hd] at hds
  have hnil : a'.defers = [] := by generalize a'.defers = ad at hds; cases hds; rfl
  rcases hfl with rfl | rfl
  · exact ⟨hnil, y, h1, y, Γ', rfl, rfl, h2, hG⟩
  · exact ⟨hnil, y, h1, y, Γ', rfl, rfl, h2, hG⟩

theorem CallRuns.panic {pf : PF P cfg} {f : FuncId} {fn : Func} {c : Code} {args : List AV} {σ σ' : ASt} {v : AV} {fr' : AFr} (hfn : P.funcs[f]? = some fn) (hb : fn.body = some c)
    (h : Runs P cfg c ⟨args ++ List.replicate (fn.ntmps - args.length) (.tup []), []⟩ σ (.panic v) fr' σ') (hd : fr'.ds = []) :
    CallRuns P cfg f args σ (.panic v σ') := by
  intro Γ us hwp hI hg hf
  refine .inl ⟨MuLone.run_callFunc_enter hfn (pf.ng f fn hfn) hb us Γ.w, calls_of_wp hfn hb (h Γ _ _ hwp hI hg (frame_rel hf fn.ntmps) fun Γ' a' hG hf' y hv => ?_)⟩
  have hds := hf'.ds
  rw [hd] at hds
  exact ⟨by generalize a'.defers = ad at hds; cases hds; rfl, y, Γ', rfl, rfl, hv, hG⟩

/-- Closed values: no ids in them. -/
def closedV : AV → Bool
  | .ptr .. | .sl .. | .map _ | .iter _ => false
  | .rptr x _ => closedV x
  | .lst xs t => t.isNone && closedVs xs
  | .agg xs | .tup xs => closedVs xs
  | .func _ a b => closedVs a && closedVs b
  | .iface _ v => closedV v
  | .pmap a b => closedVs a && closedVs b
  | _ => true
  where closedVs : List AV → Bool
  | [] => true
  | x :: xs => closedV x && closedVs xs
end
end Go.Am

set_option linter.unusedVariables false
set_option linter.unusedSimpArgs false
namespace Go.Am
open Go

theorem closedVs_get : ∀ {xs : List AV}, closedV.closedVs xs = true → ∀ i, closedV (xs.getD i .undef) = true
  | [], _, i => by simp [closedV]
  | x :: xs, h, i => by
    simp only [closedV.closedVs, Bool.and_eq_true] at h
    cases i with
    | zero => simpa using h.1
    | succ i => simpa using closedVs_get h.2 i

theorem closed_cell {x : AV} (h : closedV x = true) (j : Nat) : closedV (x.cell j) = true := by
  have one : x.cells = [x] → closedV (x.cell j) = true := by
    intro e
    unfold AV.cell
    rw [e]
    cases j with
    | zero => exact h
    | succ j => simp [closedV]
  cases x with
  | agg cs => exact closedVs_get (xs := cs) (by simpa [closedV] using h) j
  | _ => exact one rfl

theorem VR.closed {Γ : Ctx} {x : AV} {y : Value} (h : VR Γ x y) (ρ' : Nat → BI) (dom' : Nat → Prop) : closedV x = true → VR ⟨Γ.w, Γ.St, Γ.StO, ρ', dom'⟩ x y := by
  induction h with
  | undef v => intro _; exact .undef v
  | bool b => intro _; exact .bool b
  | int k n => intro _; exact .int k n
  | str s => intro _; exact .str s
  | nilp => intro _; exact .nilp
  | ptr id i off h => intro hc; simp [closedV] at hc
  | rptr x off b o f hc hv ih => intro hcl; exact .rptr x off b o f hc fun j hj => ih j hj (closed_cell (by simpa [closedV] using hcl) j)
  | nils a => intro _; exact .nils a
  | lst xs t a b o k cap f ha hk hc hv ht hl ih =>
    intro hcl
    simp only [closedV, Bool.and_eq_true] at hcl
    refine .lst xs t a b o k cap f ha hk hc (fun i j hi hj => ih i j hi hj (closed_cell (closedVs_get hcl.2 i) j)) (fun tk htk => ?_) hl
    rw [htk] at hcl
    simp at hcl
  | sl k id lo n off cap h1 h2 h3 h4 h5 => intro hc; simp [closedV] at hc
  | agg cs vs h1 h2 h3 ih => intro hcl; exact .agg cs vs h1 h2 fun i hi => ih i hi (closedVs_get (by simpa [closedV] using hcl) i)
  | tup cs vs h1 h3 ih => intro hcl; exact .tup cs vs h1 fun i hi => ih i hi (closedVs_get (by simpa [closedV] using hcl) i)
  | func f a b va vb h1 h2 h3 h4 ih1 ih2 =>
    intro hcl
    simp only [closedV, Bool.and_eq_true] at hcl
    exact .func f a b va vb h1 h2 (fun i hi => ih1 i hi (closedVs_get hcl.1 i)) (fun i hi => ih2 i hi (closedVs_get hcl.2 i))
  | nilf => intro _; exact .nilf
  | iface t v x h hs ih => intro hcl; exact .iface t v x (ih (by simpa [closedV] using hcl)) hs
  | nilif => intro _; exact .nilif
  | nilm => intro _; exact .nilm
  | map id h => intro hc; simp [closedV] at hc
  | pmap ks vs b es clock h1 h2 h3 h4 h5 h6 ih1 ih2 =>
    intro hcl
    simp only [closedV, Bool.and_eq_true] at hcl
    exact .pmap ks vs b es clock h1 h2 h3 h4 (fun i hi => ih1 i hi (closedVs_get hcl.1 i)) (fun i hi => ih2 i hi (closedVs_get hcl.2 i))

def none0 : ASt := ⟨0, 0, .leaf⟩
theorem none0_get (id : Nat) : none0.get id = none := rfl

def Ctx.empty (Γ : Ctx) : Ctx := ⟨Γ.w, Γ.St, Γ.StO, Γ.ρ, fun _ => False⟩
theorem Inv.empty {Γ : Ctx} {σ : ASt} (hI : Inv Γ σ) : Inv Γ.empty none0 :=
  ⟨fun id B h => (nomatch (none0_get id).symm.trans h), fun id id' B B' h => (nomatch (none0_get id).symm.trans h), fun id B h => (nomatch (none0_get id).symm.trans h), hI.lt, hI.lto, fun id h => (h : False).elim⟩

/-- Behind a call that ran as on the empty state. -/
def Ctx.back (Γ Γ₁ : Ctx) (σ₁ : ASt) : Ctx :=
  ⟨Γ₁.w, fun b c => Γ₁.St b c ∨ ∃ id B, σ₁.get id = some B ∧ 0 ≤ id ∧ (Γ₁.ρ id).b = b, fun b => Γ₁.StO b ∨ ∃ id B, σ₁.get id = some B ∧ 0 ≤ id ∧ (Γ₁.ρ id).b = b, Γ.ρ, Γ.dom⟩

theorem back_good {Γ Γ₁ : Ctx} {σ σ₁ : ASt} {D D' : Nat → Prop} (hI : Inv Γ σ) (hG : Good Γ.empty none0 Γ₁ σ₁ D) : Good Γ σ (Γ.back Γ₁ σ₁) σ D' := by
  have hs := hG.step
  have hheap : ∀ b, b < Γ.w.heap.size → Γ₁.w.heap[b]? = Γ.w.heap[b]? := fun b hb => hs.frame b hb (fun id B hg _ => by rw [none0_get] at hg; cases hg)
  have he : Ext Γ (Γ.back Γ₁ σ₁) := ⟨fun id h => h, fun id _ => rfl, fun b c h => Or.inl (hs.ext.st b c h), hs.ext.cell, fun b h => Or.inl (hs.ext.sto b h), hs.ext.obj⟩
  have own : ∀ id B, σ₁.get id = some B → Γ.w.heap.size ≤ (Γ₁.ρ id).b := by
    intro id B h
    rcases hs.own id B h (Nat.zero_le _) with h' | ⟨id0, B0, h0, _⟩
    · exact h'
    · rw [none0_get] at h0; cases h0
  have stg : ∀ b c, (Γ.back Γ₁ σ₁).St b c → Γ.St b c ∨ Γ.w.heap.size ≤ b := by
    rintro b c (h | ⟨id, B, h, _, e⟩)
    · rcases hs.stg b c h with h | h | ⟨id0, B0, h0, _⟩
      · exact .inl h
      · exact .inr h
      · rw [none0_get] at h0; cases h0
    · exact .inr (by rw [← e]; exact own id B h)
  have stog : ∀ b, (Γ.back Γ₁ σ₁).StO b → Γ.StO b ∨ Γ.w.heap.size ≤ b := by
    rintro b (h | ⟨id, B, h, _, e⟩)
    · rcases hs.stog b h with h | h | ⟨id0, B0, h0, _⟩
      · exact .inl h
      · exact .inr h
      · rw [none0_get] at h0; cases h0
    · exact .inr (by rw [← e]; exact own id B h)
  refine ⟨⟨he, hs.size, hs.os, hs.tape, hs.output, fun b hb _ => hheap b hb, fun id B h hw => .inr ⟨id, B, h, hw, rfl⟩, fun _ _ => rfl, rfl, Nat.le_refl _, fun b c h => (stg b c h).imp_right .inl, fun b h => (stog b h).imp_right .inl⟩, ?_, fun j h => .inl h⟩
  refine ⟨fun id B h => ⟨(hI.blk id B h).1, (hI.blk id B h).2.1, (hI.blk id B h).2.2.ext he (hheap _ (hI.blt h))⟩, hI.inj, fun id B h => ⟨fun c hc hx => ?_, fun hx => ?_⟩, fun b c h => ?_, fun b h => ?_, hI.domlt⟩
  · have := hI.blt h
    rcases stg _ c hx with hx | hx
    · exact (hI.free id B h).1 c hc hx
    · exact absurd this (Nat.not_lt.2 hx)
  · have := hI.blt h
    rcases stog _ hx with hx | hx
    · exact (hI.free id B h).2 hx
    · exact absurd this (Nat.not_lt.2 hx)
  · rcases h with h | ⟨id, B, h, _, e⟩
    · exact hG.inv.lt b c h
    · rw [← e]; exact hG.inv.blt h
  · rcases h with h | ⟨id, B, h, _, e⟩
    · exact hG.inv.lto b h
    · rw [← e]; exact hG.inv.blt h

theorem back_vr {Γ Γ₁ : Ctx} {σ₁ : ASt} {D : Nat → Prop} (hG : Good Γ.empty none0 Γ₁ σ₁ D) {f : Nat} {v u : AV} {y : Value} (hv : VR Γ₁ v y) (hs : shut σ₁ 0 f v = some u) : VR (Γ.back Γ₁ σ₁) u y := by
  have := (shut_good (lo := 0) hG.inv f).vr v u y hs hv
  refine VR.ext (Γ := Γ₁.seal σ₁ 0) (Γ' := Γ.back Γ₁ σ₁) ⟨fun id h => absurd (And.right h) (Nat.not_lt_zero _), fun id h => absurd (And.right h) (Nat.not_lt_zero _), fun b c h => h, fun _ _ _ => rfl, fun b h => h, fun _ _ => rfl⟩ this

/-- What a call with closed arguments gives, wherever it is made. -/
theorem CallRuns.pure {P : Program} {cfg : Cfg} {f : FuncId} {args : List AV} {v u : AV} {σ₁ : ASt} {fu : Nat} (hglob : ∀ g, closedV (cfg.glob g) = true) (h : CallRuns P cfg f args none0 (.ret v σ₁))
    (hc : closedV.closedVs args = true) (hs : shut σ₁ 0 fu v = some u) (σ : ASt) : CallRuns P cfg f args σ (.ret u σ) := by
  intro Γ vs hwp hI hg hf
  refine (h Γ.empty vs (Nat.le_refl _) hI.empty (fun g => (hg g).closed _ _ (hglob g)) ⟨hf.1, fun i hi => (hf.2 i hi).closed _ _ (closedVs_get hc i)⟩).mono fun e w' hp => ?_
  obtain ⟨y, Γ₁, he, hw, hv, hG⟩ := hp
  exact ⟨y, Γ.back Γ₁ σ₁, he, hw, back_vr hG hv hs, back_good hI hG⟩

theorem CallRuns.pureP {P : Program} {cfg : Cfg} {f : FuncId} {args : List AV} {v u : AV} {σ₁ : ASt} {fu : Nat} (hglob : ∀ g, closedV (cfg.glob g) = true) (h : CallRuns P cfg f args none0 (.panic v σ₁))
    (hc : closedV.closedVs args = true) (hs : shut σ₁ 0 fu v = some u) (σ : ASt) : CallRuns P cfg f args σ (.panic u σ) := by
  intro Γ vs hwp hI hg hf
  refine (h Γ.empty vs (Nat.le_refl _) hI.empty (fun g => (hg g).closed _ _ (hglob g)) ⟨hf.1, fun i hi => (hf.2 i hi).closed _ _ (closedVs_get hc i)⟩).mono fun e w' hp => ?_
  obtain ⟨y, Γ₁, he, hw, hv, hG⟩ := hp
  exact ⟨y, Γ.back Γ₁ σ₁, he, hw, back_vr hG hv hs, back_good hI hG⟩
end Go.Am

set_option linter.unusedVariables false
set_option linter.unusedSimpArgs false
namespace Go.Am
open Go

def StepRuns (P : Program) (cfg : Cfg) (o : Oper) (id : Nat) (fr : AFr) (σ : ASt) (r : SR) : Prop :=
  ∀ (Γ : Ctx) (a : Act) (K : Act → World → Prop) (Q : Exit → Act → World → Prop), Inv Γ σ → GR Γ cfg → FRel Γ fr a → Fresh Γ σ id →
    (match r with
      | .go fr' σ' => ∀ Γ' a', Good Γ σ Γ' σ' (fun j => j = id ∨ σ.next ≤ j) → FRel Γ' fr' a' → K a' Γ'.w
      | .bad v σ' => ∀ Γ' y, Good Γ σ Γ' σ' (fun j => j = id ∨ σ.next ≤ j) → VR Γ' v y → Q (.panic [{ v := y, recovered := false }]) a Γ'.w) → o.wp P a Γ.w K Q

section
variable {P : Program} {cfg : Cfg}

theorem StepRuns.of_step {call : FuncId → List AV → ASt → Option CR} {fuel : Nat} {rm : Bool} {o : Oper} {id : Nat} {fr : AFr} {σ : ASt} {r : SR} (m : FuncId → Nat) (hC : CallOK P { cfg with mode := m } call)
    (h : stepA P { cfg with mode := m } call fuel rm id o fr σ = some r) : StepRuns P cfg o id fr σ r :=
  fun Γ a K Q hI hg hf hF hK => by cases r <;> exact stepA_ok (cfg := { cfg with mode := m }) hC hI hg hf hF h hK

open Classical in
/-- One call alone. -/
noncomputable def oneCall (f : FuncId) (args : List AV) (σ : ASt) (r : CR) : FuncId → List AV → ASt → Option CR :=
  fun f' args' σ' => if f' = f ∧ args' = args ∧ σ' = σ then some r else none

theorem oneCall_ok {f : FuncId} {args : List AV} {σ : ASt} {r : CR} (h : CallRuns P cfg f args σ r) : CallOK P { cfg with mode := fun _ => 0 } (oneCall f args σ r) := by
  intro f' args' σ' r' Γ vs hc hwp hI hg hf
  unfold oneCall at hc
  split at hc
  · rename_i he
    obtain ⟨rfl, rfl, rfl⟩ := he
    obtain rfl := Option.some.inj hc
    exact h Γ vs hwp hI hg hf
  · cases hc

theorem oneCall_self {f : FuncId} {args : List AV} {σ : ASt} {r : CR} : oneCall f args σ r f args σ = some r := by unfold oneCall; rw [if_pos ⟨rfl, rfl, rfl⟩]

theorem aval_mode (m : FuncId → Nat) (ts : List AV) : aval { cfg with mode := m } ts = aval cfg ts := by funext x; cases x <;> rfl

theorem StepRuns.call {o : Oper} {id : Nat} {fr : AFr} {σ : ASt} {f : FuncId} {args : List AV} {r : CR} (hc : calleeA (aval cfg fr.ts) o = some (f, args)) (h : CallRuns P cfg f args σ r) :
    StepRuns P cfg o id fr σ (match r with | .ret v σ' => .go (fr.put o.dst v) σ' | .panic v σ' => .bad v σ') := by
  refine StepRuns.of_step (fuel := 0) (rm := false) (fun _ => 0) (oneCall_ok h) ?_
  unfold stepA
  split
  · rename_i x ho; simp only [calleeA, ho] at hc; cases hc
  · rename_i g xs tys ho; simp only [calleeA, ho] at hc; cases hc
  · rw [aval_mode, hc]
    simp only [doCall]
    show (match cond true (oneCall f args σ r f args σ) _ with | some (.ret v σ') => _ | some (.panic v σ') => _ | none => _) = _
    simp only [cond_true, oneCall_self]
    cases r <;> rfl

def noCall : FuncId → List AV → ASt → Option CR := fun _ _ _ => none
theorem noCall_ok {cfg' : Cfg} : CallOK P cfg' noCall := fun f args σ r Γ vs h => by cases h

theorem StepRuns.op {o : Oper} {id : Nat} {fr : AFr} {σ : ASt} {rm : Bool} {v : AV} {eff : Eff} (h : aop P cfg rm σ id (aval cfg fr.ts) o = some (v, eff)) :
    StepRuns P cfg o id fr σ (.go (fr.put o.dst v) (σ.app id eff)) := by
  intro Γ a K Q hI hg hf hF hK
  obtain ⟨Γ', nx, y, hrun, hnv, hv, hst, hin, hdom⟩ := aop_ok hI hg hf.ts hF rm eff h
  unfold Oper.wp
  rw [hrun]
  have hk := hK Γ' (a.put o.dst y) ⟨hst, hin, fun j hj => (hdom j hj).imp_right .inl⟩ ((hf.ext hst.ext).put _ hv)
  rcases hnv with rfl | ⟨rfl, rfl⟩
  · exact hk
  · exact hk

theorem StepRuns.panic {o : Oper} {id : Nat} {fr : AFr} {σ : ASt} {x : Operand} {t : TypeId} {v : AV} (ho : o.op = .panic x) (hx : aval cfg fr.ts x = .iface t v) : StepRuns P cfg o id fr σ (.bad (.iface t v) σ) := by
  refine StepRuns.of_step (fuel := 0) (rm := false) (call := noCall) cfg.mode noCall_ok ?_
  unfold stepA
  simp only [ho, aval_mode, hx]

theorem StepRuns.defer {o : Oper} {id : Nat} {fr : AFr} {σ : ASt} {g : Operand} {xs : Array Operand} {tys : Array TypeId} {f : FuncId} {first caps : List AV} (ho : o.op = .defer { callee := .value g, args := xs, argTypes := tys })
    (hx : aval cfg fr.ts g = .func f first caps) :
    StepRuns P cfg o id fr σ (.go ({ fr with ds := (.func f [] caps, first ++ xs.toList.map (aval cfg fr.ts)) :: fr.ds }.put o.dst (.tup [])) σ) := by
  refine StepRuns.of_step (fuel := 0) (rm := false) (call := noCall) cfg.mode noCall_ok ?_
  unfold stepA
  simp only [ho, aval_mode, hx]

inductive SeqRuns (P : Program) (cfg : Cfg) (ops : List Oper) (base : Nat) : Nat → List Oper → AFr → ASt → Flow → AFr → ASt → Prop
  | nil {i fr σ} : SeqRuns P cfg ops base i [] fr σ .norm fr σ
  | skip {i o rest fr σ fl fr' σ'} : guardOk ops fr.ts o = true → wantedA ops fr.ts o = false → SeqRuns P cfg ops base (i + 1) rest (fr.put o.dst (.tup [])) σ fl fr' σ' → SeqRuns P cfg ops base i (o :: rest) fr σ fl fr' σ'
  | go {i o rest fr fr1 σ σ1 fl fr' σ'} : guardOk ops fr.ts o = true → wantedA ops fr.ts o = true → StepRuns P cfg o (base + i) fr σ (.go fr1 σ1) → SeqRuns P cfg ops base (i + 1) rest fr1 σ1 fl fr' σ' →
      SeqRuns P cfg ops base i (o :: rest) fr σ fl fr' σ'
  | bad {i o rest fr σ v σ1} : guardOk ops fr.ts o = true → wantedA ops fr.ts o = true → StepRuns P cfg o (base + i) fr σ (.bad v σ1) → SeqRuns P cfg ops base i (o :: rest) fr σ (.panic v) fr σ1

theorem SeqRuns.ok {ops : Array Oper} {base : Nat} {Q : Exit → Act → World → Prop} {i : Nat} {rest : List Oper} {fr fr' : AFr} {σ σ' : ASt} {fl : Flow} (h : SeqRuns P cfg ops.toList base i rest fr σ fl fr' σ') :
    ∀ (Γ : Ctx) (a : Act), (∀ k, rest[k]? = ops[i + k]?) → (∀ k, k < rest.length → ¬ Γ.dom (base + i + k)) → base + i + rest.length ≤ σ.next → σ.wp ≤ base → Inv Γ σ → GR Γ cfg → FRel Γ fr a →
      XPost Γ σ (base ≤ ·) Q fl fr' σ' → wpOps P ops Q (List.range' i rest.length) a Γ.w := by
  have shift : ∀ {i : Nat} {o : Oper} {rest : List Oper}, (∀ k, (o :: rest)[k]? = ops[i + k]?) → ops[i]? = some o ∧ ∀ k, rest[k]? = ops[i + 1 + k]? := by
    intro i o rest ho
    refine ⟨by simpa using (ho 0).symm, fun k => ?_⟩
    have := ho (k + 1)
    simp only [List.getElem?_cons_succ] at this
    rw [this]; congr 1; omega
  induction h with
  | nil => intro Γ a ho hfr hnx hwp hI hg hf hQ; exact hQ Γ a (.refl hI) hf
  | @skip i o rest fr σ fl fr' σ' hgo hw _ ih =>
    intro Γ a ho hfr hnx hwp hI hg hf hQ
    obtain ⟨hoi, ho'⟩ := shift ho
    simp only [List.length_cons] at hfr hnx ⊢
    rw [List.range'_succ]
    simp only [wpOps, hoi]
    rw [wanted_ok hf.ts hgo, hw]
    simp only [Bool.false_eq_true, if_false]
    exact ih Γ _ ho' (fun k hk => by have := hfr (k + 1) (by omega); rwa [show base + i + (k + 1) = base + (i + 1) + k by omega] at this) (by omega) hwp hI hg (hf.put _ .undefT) hQ
  | @go i o rest fr fr1 σ σ1 fl fr' σ' hgo hw hs _ ih =>
    intro Γ a ho hfr hnx hwp hI hg hf hQ
    obtain ⟨hoi, ho'⟩ := shift ho
    simp only [List.length_cons] at hfr hnx ⊢
    rw [List.range'_succ]
    simp only [wpOps, hoi]
    rw [wanted_ok hf.ts hgo, hw]
    simp only [if_true]
    refine .inl (hs Γ a _ _ hI hg hf ⟨by simpa using hfr 0 (by omega), by omega, by omega⟩ fun Γ₁ a₁ hG hf₁ => ?_)
    refine ih Γ₁ a₁ ho' (fun k hk hd => ?_) (by have := hG.step.next; omega) (by rw [hG.step.wp]; exact hwp) hG.inv (hg.ext hG.step.ext) hf₁ (hQ.of_good hG (fun j hj => by omega) (fun j hj => hj))
    rcases hG.dom _ hd with h1 | h1 | h1
    · exact hfr (k + 1) (by omega) (by rwa [show base + i + (k + 1) = base + (i + 1) + k by omega])
    · omega
    · omega
  | @bad i o rest fr σ v σ1 hgo hw hs =>
    intro Γ a ho hfr hnx hwp hI hg hf hQ
    obtain ⟨hoi, ho'⟩ := shift ho
    simp only [List.length_cons] at hfr hnx ⊢
    rw [List.range'_succ]
    simp only [wpOps, hoi]
    rw [wanted_ok hf.ts hgo, hw]
    simp only [if_true]
    refine .inl (hs Γ a _ _ hI hg hf ⟨by simpa using hfr 0 (by omega), by omega, by omega⟩ fun Γ₁ y hG hv => ?_)
    exact hQ Γ₁ a ⟨hG.step, hG.inv, fun j hj => (hG.dom j hj).imp_right fun h => by omega⟩ (hf.ext hG.step.ext) y hv

theorem SeqRuns.region {id : Nat} {ops : Array Oper} {fr fr' : AFr} {σ σ' : ASt} {fl : Flow} (h : SeqRuns P cfg ops.toList σ.next 0 ops.toList fr ⟨σ.next + ops.toList.length, σ.wp, σ.heap⟩ fl fr' σ') :
    Runs P cfg (.region id ops false) fr σ fl fr' σ' := by
  intro Γ a Q hwp hI hg hf hQ
  have hI' : Inv Γ ⟨σ.next + ops.toList.length, σ.wp, σ.heap⟩ :=
    ⟨fun j B hj => ⟨(hI.blk j B hj).1, Nat.lt_of_lt_of_le (hI.blk j B hj).2.1 (Nat.le_add_right _ _), (hI.blk j B hj).2.2⟩, hI.inj, hI.free, hI.lt, hI.lto, fun j hj => Nat.lt_of_lt_of_le (hI.domlt j hj) (Nat.le_add_right _ _)⟩
  have hst : Good Γ σ Γ ⟨σ.next + ops.toList.length, σ.wp, σ.heap⟩ (fun _ => False) :=
    ⟨⟨.refl Γ, Nat.le_refl _, rfl, rfl, rfl, fun _ _ _ => rfl, fun id B h hw => .inr ⟨id, B, h, hw, rfl⟩, fun _ _ => rfl, rfl, Nat.le_add_right _ _, fun _ _ h => .inl h, fun _ h => .inl h⟩, hI', fun j h => .inl h⟩
  refine wp_region ?_
  have e : List.range ops.size = List.range' 0 ops.toList.length := by rw [List.range_eq_range']; simp
  rw [e]
  refine h.ok Γ a (fun k => by simp) (fun k hk hd => ?_) (by simp) hwp hI' hg hf (hQ.of_good hst (fun j hj => hj.elim) (fun j hj => hj))
  have := hI.domlt _ hd
  omega
end
end Go.Am
