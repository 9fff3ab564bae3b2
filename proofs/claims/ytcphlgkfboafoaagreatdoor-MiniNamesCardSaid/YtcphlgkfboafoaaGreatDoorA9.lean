/-
Loops up to names; runs with hints, for symbolic values.
Frames and tries written out; the same code by hand.
Walking code whose loops have lemmas.
Runs that branch: a decision on a symbolic value stays, both ways; texts stay as they are.
-/
import Derived.Test.YtcphlgkfboafoaaGreatDoorA8
set_option linter.unusedVariables false
set_option linter.unusedSimpArgs false
namespace Go.Am
open Go

/-- A frame and a state under other names, and with less. -/
structure Renames (lo wp : Nat) (σ0 : ASt) (fr' : AFr) (σ' : ASt) (fr2 : AFr) (σ2 : ASt) : Prop where
  ex : ∃ (π : Nat → Option Nat) (q : Nat → Nat), Names π q lo σ2.next ∧ (∀ j B, σ2.get j = some B → ∃ id C, π id = some j ∧ σ'.get id = some C ∧ renB π C = some B) ∧
    (∀ i, fr2.ts.getD i .undef = .undef ∨ renV π (fr'.ts.getD i .undef) = some (fr2.ts.getD i .undef))
  hw : σ2.wp = σ'.wp
  hro : ∀ id, id < wp → σ2.get id = σ0.get id
  hds : fr'.ds = [] ∧ fr2.ds = []
  hl : fr2.ts.length = fr'.ts.length

theorem Renames.post {Γ Γ' : Ctx} {σ σ' σ2 : ASt} {fr' fr2 : AFr} {a' : Act} (h : Renames σ.next σ.wp σ fr' σ' fr2 σ2) (hI : Inv Γ σ) (hwn : σ.wp ≤ σ.next) (hG : Good Γ σ Γ' σ' (σ.next ≤ ·)) (hf : FRel Γ' fr' a') :
    ∃ Γ2, Γ2.w = Γ'.w ∧ Good Γ σ Γ2 σ2 (σ.next ≤ ·) ∧ FRel Γ2 fr2 a' := by
  obtain ⟨π, q, hN, hb, hts⟩ := h.ex
  obtain ⟨hR, hG2⟩ := ren_good hI hG hN h.hw hwn h.hro hb
  refine ⟨_, hR.w, hG2, ⟨⟨by rw [h.hl]; exact hf.ts.1, fun i hi => ?_⟩, ?_⟩⟩
  · rcases hts i with e | e
    · rw [e]; exact .undef _
    · exact (hf.ts.get i).ren hR _ e
  · have := hf.ds
    rw [h.hds.1] at this
    rw [h.hds.2]
    generalize a'.defers = ad at this ⊢
    cases this
    exact .nil

section
variable {P : Program} {cfg : Cfg}

/-- A loop's rounds, up to names of what came since it began. -/
inductive RoundsN (P : Program) (cfg : Cfg) (c : Code) (σ0 : ASt) : AFr → ASt → Flow → AFr → ASt → Prop
  | out {fr fr' σ σ' fl} : fl ≠ .norm → Runs P cfg c fr σ fl fr' σ' → RoundsN P cfg c σ0 fr σ fl fr' σ'
  | more {fr fr1 fr2 fr' σ σ1 σ2 σ' fl} : Runs P cfg c fr σ .norm fr1 σ1 → Renames σ0.next σ0.wp σ0 fr1 σ1 fr2 σ2 → RoundsN P cfg c σ0 fr2 σ2 fl fr' σ' → RoundsN P cfg c σ0 fr σ fl fr' σ'

theorem RoundsN.wp {c : Code} {σ0 : ASt} {fr fr' : AFr} {σ σ' : ASt} {fl : Flow} (h : RoundsN P cfg c σ0 fr σ fl fr' σ') : ∃ n, ∀ (Γ0 Γ : Ctx) (a : Act) (Q : Exit → Act → World → Prop), σ0.wp ≤ σ0.next → Inv Γ0 σ0 → Good Γ0 σ0 Γ σ (σ0.next ≤ ·) → GR Γ0 cfg → FRel Γ fr a →
    XPost Γ0 σ0 (σ0.next ≤ ·) Q fl fr' σ' → Code.rounds P c Q n a Γ.w := by
  induction h with
  | out hn h =>
    refine ⟨1, fun Γ0 Γ a Q hwp hI hG hg hf hQ => ?_⟩
    rw [rounds_succ]
    have hnx := hG.step.next
    exact h Γ a _ (by rw [hG.step.wp]; omega) hG.inv (hg.ext hG.step.ext) hf (XPost.then_other hn (hQ.of_good hG (fun j h => h) (fun j h => by omega)))
  | more h hr _ ih =>
    obtain ⟨n, ih⟩ := ih
    refine ⟨n + 1, fun Γ0 Γ a Q hwp hI hG hg hf hQ => ?_⟩
    rw [rounds_succ]
    have hnx := hG.step.next
    refine h Γ a _ (by rw [hG.step.wp]; omega) hG.inv (hg.ext hG.step.ext) hf (XPost.then_norm fun Γ1 a1 hG1 hf1 => ?_)
    obtain ⟨Γ2, hw, hG2, hf2⟩ := hr.post hI hwp (hG.trans hG1 (fun j h => h) (fun j h => by omega)) hf1
    rw [← hw]
    exact ih Γ0 Γ2 a1 Q hwp hI hG2 hg hf2 hQ

theorem RoundsN.loop {c : Code} {fr fr' : AFr} {σ σ' : ASt} {fl : Flow} (h : RoundsN P cfg c σ fr σ fl fr' σ') : Runs P cfg (.loop c) fr σ fl fr' σ' := by
  obtain ⟨n, h⟩ := h.wp
  exact fun Γ a Q hwp hI hg hf hQ => wp_loop_rounds n (h Γ Γ a Q hwp hI (.refl hI) hg hf hQ)

/-- The same for any code. -/
theorem Runs.renames {c : Code} {fr fr' fr2 : AFr} {σ σ' σ2 : ASt} {fl : Flow} (h : Runs P cfg c fr σ fl fr' σ') (hfl : ∀ v, fl ≠ .panic v) (hr : Renames σ.next σ.wp σ fr' σ' fr2 σ2) : Runs P cfg c fr σ fl fr2 σ2 := by
  obtain ⟨π, q, hN, hb, hts⟩ := hr.ex
  exact h.ren hfl hN hr.hw hr.hro hb hr.hds hr.hl hts

theorem Runs.seq_norm {x y : Code} {fr fr1 fr' : AFr} {σ σ1 σ' : ASt} {fl : Flow} (h : Runs P cfg x fr σ .norm fr1 σ1) (k : Runs P cfg y fr1 σ1 fl fr' σ') : Runs P cfg (.seq x y) fr σ fl fr' σ' := h.seq k
end

/-! ### Hints -/
inductive Hint where
  | bool (b : Bool)
  | nth (x : AV)
  | blk (b : Blk)

abbrev Hints := List (Nat × Hint)

/-- A run with hints: what is asked on the way is gathered. -/
structure Sub where
  run : Hints → Prop → Prop
  ent : ∀ h pc, run h pc → pc

noncomputable section
def decRun (dflt : Sub) (hinted : Hint → Hints → Prop → Prop) (h : Hints) (pc : Prop) : Prop :=
  List.rec (dflt.run [] pc) (fun x r _ => Nat.rec (hinted x.2 r pc) (fun m _ => dflt.run ((m, x.2) :: r) pc) x.1) h

theorem decRun_ent {dflt : Sub} {hinted : Hint → Hints → Prop → Prop} (he : ∀ x r pc, hinted x r pc → pc) : ∀ h pc, decRun dflt hinted h pc → pc := by
  intro h pc hr
  cases h with
  | nil => exact dflt.ent _ _ hr
  | cons x r =>
    obtain ⟨n, y⟩ := x
    cases n with
    | zero => exact he _ _ _ hr
    | succ m => exact dflt.ent _ _ hr

def dec (dflt : Sub) (hinted : Hint → Hints → Prop → Prop) (he : ∀ x r pc, hinted x r pc → pc) : Sub := ⟨decRun dflt hinted, decRun_ent he⟩

def Sub.bad : Sub := ⟨fun _ _ => False, fun _ _ h => h.elim⟩
def Sub.idn {β : Type} (dflt : (β → Sub) → Sub) (x : β) (k : β → Sub) : Sub := dec (dflt k) (fun _ r pc => (k x).run r pc) (fun _ _ _ h => (k x).ent _ _ h)
def Sub.boolH (b : Bool) (k : Bool → Sub) (x : Hint) (r : Hints) (pc : Prop) : Prop := Hint.rec (fun v => (k v).run r (pc ∧ b = v)) (fun _ => False) (fun _ => False) x
def Sub.nthH (l : List AV) (n : Nat) (k : AV → Sub) (x : Hint) (r : Hints) (pc : Prop) : Prop := Hint.rec (fun _ => False) (fun y => (k y).run r (pc ∧ l[n]? = some y)) (fun _ => False) x
def Sub.blkH (σ : ASt) (id : Nat) (k : Blk → Sub) (x : Hint) (r : Hints) (pc : Prop) : Prop := Hint.rec (fun _ => False) (fun _ => False) (fun b => (k b).run r (pc ∧ σ.get id = some b)) x
def Sub.bool (b : Bool) (k : Bool → Sub) : Sub := dec (boolK b k) (Sub.boolH b k) (fun x r pc h => by cases x with | bool v => exact ((k v).ent _ _ h).1 | nth _ => exact h.elim | blk _ => exact h.elim)
def Sub.nth (l : List AV) (n : Nat) (k : AV → Sub) : Sub := dec (nthK Sub.bad l n k) (Sub.nthH l n k) (fun x r pc h => by cases x with | bool v => exact h.elim | nth y => exact ((k y).ent _ _ h).1 | blk _ => exact h.elim)
def Sub.hget (σ : ASt) (id : Nat) (k : Blk → Sub) : Sub := dec (hgetK Sub.bad σ id k) (Sub.blkH σ id k) (fun x r pc h => by cases x with | bool v => exact h.elim | nth y => exact h.elim | blk b => exact ((k b).ent _ _ h).1)
def Sub.hset (σ : ASt) (id : Nat) (x : Option Blk) (k : ASt → Sub) : Sub := dec (hsetK σ id x k) (fun _ r pc => (k ⟨σ.next, σ.wp, σ.heap.set id x⟩).run r pc) (fun _ _ _ h => (k _).ent _ _ h)

/-- Forcing with hints. -/
def forceS : Force Sub := ⟨fun n k => Sub.idn (natK n) n k, fun n k => Sub.idn (intK n) n k, Sub.bool, listK, fun l k => Sub.idn (listK l) l k, Sub.nth, fun s n k => nthK Sub.bad s n fun b => natK b.toNat k, Sub.hget, Sub.hset, Sub.bad⟩
/-- The same where numbers and lists stay as they are. -/
def forceL : Force Sub := ⟨fun n k => k n, fun n k => k n, Sub.bool, listK, fun l k => k l, Sub.nth, fun s n k => nthK Sub.bad s n fun b => k b.toNat, Sub.hget, Sub.hset, Sub.bad⟩
end

def goodS (s : Sub) : Prop := ∃ h pc, s.run h pc

theorem dec_good {dflt : Sub} {hinted : Hint → Hints → Prop → Prop} {he : ∀ x r pc, hinted x r pc → pc} (h : goodS (dec dflt hinted he)) : goodS dflt ∨ ∃ x r pc, hinted x r pc := by
  obtain ⟨h, pc, hr⟩ := h
  cases h with
  | nil => exact .inl ⟨[], pc, hr⟩
  | cons x r =>
    obtain ⟨n, y⟩ := x
    cases n with
    | zero => exact .inr ⟨y, r, pc, hr⟩
    | succ m => exact .inl ⟨_, pc, hr⟩

theorem idn_good {β : Type} {dflt : (β → Sub) → Sub} {x : β} {k : β → Sub} (hd : dflt k = k x) (h : goodS (Sub.idn dflt x k)) : goodS (k x) := by
  rcases dec_good h with h | ⟨y, r, pc, h⟩
  · rw [hd] at h; exact h
  · exact ⟨r, pc, h⟩

theorem sbool_good {b : Bool} {k : Bool → Sub} (h : goodS (Sub.bool b k)) : goodS (k b) := by
  rcases dec_good h with h | ⟨x, r, pc, h⟩
  · rw [boolK_eq] at h; exact h
  · cases x with
    | bool v =>
      have h : (k v).run r (pc ∧ b = v) := h
      have e := ((k v).ent _ _ h).2
      rw [e]; exact ⟨r, _, h⟩
    | nth y => exact h.elim
    | blk y => exact h.elim

theorem snth_good {l : List AV} {n : Nat} {k : AV → Sub} (h : goodS (Sub.nth l n k)) : ∃ x, l[n]? = some x ∧ goodS (k x) := by
  rcases dec_good h with h | ⟨x, r, pc, h⟩
  · rw [nthK_eq] at h
    split at h
    · rename_i x hx; exact ⟨x, hx, h⟩
    · obtain ⟨_, _, h⟩ := h; exact h.elim
  · cases x with
    | bool v => exact h.elim
    | nth y =>
      have h : (k y).run r (pc ∧ l[n]? = some y) := h
      exact ⟨y, ((k y).ent _ _ h).2, r, _, h⟩
    | blk y => exact h.elim

theorem shget_good {σ : ASt} {id : Nat} {k : Blk → Sub} (h : goodS (Sub.hget σ id k)) : ∃ b, σ.get id = some b ∧ goodS (k b) := by
  rcases dec_good h with h | ⟨x, r, pc, h⟩
  · rw [hgetK_eq] at h
    split at h
    · rename_i x hx; exact ⟨x, hx, h⟩
    · obtain ⟨_, _, h⟩ := h; exact h.elim
  · cases x with
    | bool v => exact h.elim
    | nth y => exact h.elim
    | blk y =>
      have h : (k y).run r (pc ∧ σ.get id = some y) := h
      exact ⟨y, ((k y).ent _ _ h).2, r, _, h⟩

theorem shset_good {σ : ASt} {id : Nat} {x : Option Blk} {k : ASt → Sub} (h : goodS (Sub.hset σ id x k)) : goodS (k ⟨σ.next, σ.wp, σ.heap.set id x⟩) := by
  rcases dec_good h with h | ⟨y, r, pc, h⟩
  · rw [hsetK_eq] at h; exact h
  · exact ⟨r, pc, h⟩

theorem forceS_good : forceS.Good goodS :=
  ⟨fun n k h => idn_good (natK_eq n k) h, fun n k h => idn_good (intK_eq n k) h, fun b k h => sbool_good h, fun l k h => by simp only [forceS, listK_eq] at h; exact h, fun l k h => idn_good (listK_eq l k) h,
   fun l n k h => snth_good h, fun l n k h => by
    simp only [forceS, forceL, nthK_eq, natK_eq] at h
    split at h
    · rename_i x hx; exact ⟨x, hx, h⟩
    · obtain ⟨_, _, h⟩ := h; exact h.elim, fun σ id k h => shget_good h, fun σ id x k h => shset_good h, fun ⟨_, _, h⟩ => h.elim⟩
theorem forceL_good : forceL.Good goodS :=
  ⟨fun n k h => h, fun n k h => h, fun b k h => sbool_good h, fun l k h => by simp only [forceL, listK_eq] at h; exact h, fun l k h => h,
   fun l n k h => snth_good h, fun l n k h => by
    simp only [forceS, forceL, nthK_eq, natK_eq] at h
    split at h
    · rename_i x hx; exact ⟨x, hx, h⟩
    · obtain ⟨_, _, h⟩ := h; exact h.elim, fun σ id k h => shget_good h, fun σ id x k h => shset_good h, fun ⟨_, _, h⟩ => h.elim⟩

/-- What a piece of code comes to, by a run with hints. -/
def endS (G : Flow → Tr AV → DS → ASt → Prop) : Flow → Tr AV → DS → ASt → Sub := fun fl tr ds σ => ⟨fun _ pc => pc ∧ G fl tr ds σ, fun _ _ h => h.1⟩
def endC (G : CR → Prop) : CR → Sub := fun cr => ⟨fun _ pc => pc ∧ G cr, fun _ _ h => h.1⟩

/-- A run, so that nothing looks into it. -/
structure Q (p : Prop) : Prop where
  out : p
theorem Q.of_eq {p q : Prop} (h : p = q) (hq : q) : Q p := ⟨h ▸ hq⟩

theorem code_runs {P : Program} {cfg : Cfg} (pf : PF P cfg) (hm : ∀ f, Nat.beq (cfg.mode f) 0 = true) {F : Force Sub} (hF : F.Good goodS) {N n lf : Nat} {rm : Bool} {c : Code} {tr : Tr AV} {ts : List AV} {ds : DS} {σ : ASt} {G : Flow → Tr AV → DS → ASt → Prop} {hs : Hints} {pc : Prop}
    (hT : TR N tr ts) (h : Q (((ecode P cfg F N rm c).run (ecall P cfg F n) lf tr ds σ (endS G)).run hs pc)) :
    ∃ fl tr' ts' ds' σ', Runs P cfg c ⟨ts, ds⟩ σ fl ⟨ts', ds'⟩ σ' ∧ TR N tr' ts' ∧ G fl tr' ds' σ' := by
  obtain ⟨r, h1, tr', h2, h3⟩ := ecode_ok (fuel := 0) hF hm (ecall_ok hF hm n) c tr ts ds σ _ hT ⟨hs, pc, h.out⟩
  obtain ⟨fl, ⟨ts', ds'⟩, σ'⟩ := r
  obtain ⟨_, _, h3⟩ := h3
  exact ⟨fl, tr', ts', ds', σ', fun Γ a Q hwp hI hg hf hQ => exec_ok pf.mixed (acall_ok pf n) c _ σ Γ a fl _ σ' Q h1 hwp hI hg hf hQ, h2, h3.2⟩

theorem call_runs {P : Program} {cfg : Cfg} (pf : PF P cfg) (hm : ∀ f, Nat.beq (cfg.mode f) 0 = true) {F : Force Sub} (hF : F.Good goodS) {n : Nat} {f : FuncId} {args : List AV} {σ : ASt} {G : CR → Prop} {hs : Hints} {pc : Prop}
    (h : Q ((ecall P cfg F n f args σ (endC G)).run hs pc)) : ∃ cr, CallRuns P cfg f args σ cr ∧ G cr := by
  obtain ⟨r, h1, _, _, h2⟩ := ecall_ok hF hm n f args σ _ ⟨hs, pc, h.out⟩
  exact ⟨r, fun Γ vs hwp hI hg hf => acall_ok pf n f args σ r Γ vs h1 hwp hI hg hf, h2.2⟩

theorem closed_runs {P : Program} {cfg : Cfg} (pf : PF P cfg) (hm : ∀ f, Nat.beq (cfg.mode f) 0 = true) {n : Nat} {f : FuncId} {args : List AV} {σ : ASt} {test : CR → Bool} (h : ecall P cfg (force false) n f args σ test = true) :
    ∃ cr, CallRuns P cfg f args σ cr ∧ test cr = true := by
  obtain ⟨r, h1, h2⟩ := ecall_closed hm h
  exact ⟨r, fun Γ vs hwp hI hg hf => acall_ok pf n f args σ r Γ vs h1 hwp hI hg hf, h2⟩
end Go.Am

set_option linter.unusedVariables false
set_option linter.unusedSimpArgs false
namespace Go.Am
open Go

def getA : List (Nat × AV) → Nat → AV
  | [], _ => .undef
  | (i, v) :: r, j => cond (Nat.beq i j) v (getA r j)
def tsU (N : Nat) (l : List (Nat × AV)) : List AV := (List.range N).map (getA l)
def mkTrU : Nat → List (Nat × AV) → Tr AV
  | 0, _ => .leaf
  | n + 1, l => (mkTrU n l).set n (some (getA l n))

theorem mkTrU_get (l : List (Nat × AV)) : ∀ (N i : Nat), (mkTrU N l).get i = if i < N then some (getA l i) else none
  | 0, i => by simp [mkTrU, Tr.get]
  | n + 1, i => by
    simp only [mkTrU, Tr.get_set, mkTrU_get l n]
    by_cases h : i = n
    · subst h; simp
    · have : i < n + 1 ↔ i < n := by omega
      simp [h, this]

theorem trU (N : Nat) (l : List (Nat × AV)) : TR N (mkTrU N l) (tsU N l) := by
  refine ⟨by simp [tsU], fun i hi => ?_⟩
  rw [mkTrU_get, if_pos hi]
  simp [tsU, List.getD, hi]

theorem getA_mem : ∀ (l : List (Nat × AV)) (i : Nat), getA l i = .undef ∨ ∃ p ∈ l, p.1 = i ∧ p.2 = getA l i
  | [], i => .inl rfl
  | (j, v) :: r, i => by
    simp only [getA]
    cases h : Nat.beq j i with
    | true => exact .inr ⟨(j, v), List.mem_cons_self, Nat.eq_of_beq_eq_true h, rfl⟩
    | false =>
      rcases getA_mem r i with h1 | ⟨p, h1, h2, h3⟩
      · exact .inl h1
      · exact .inr ⟨p, List.mem_cons_of_mem _ h1, h2, h3⟩

/-- Nothing new is kept. -/
def keepOld (lo : Nat) : Nat → Option Nat := fun id => cond (Nat.blt id lo) (some id) none
theorem keepOld_names (lo : Nat) : Names (keepOld lo) (fun j => j) lo lo := by
  refine ⟨fun id h => ?_, fun id j h hj => ?_, Nat.le_refl _⟩
  · have : Nat.blt id lo = true := by simpa [Nat.blt_eq] using h
    simp [keepOld, this]
  · have : Nat.blt id lo = false := by
      cases hb : Nat.blt id lo with
      | false => rfl
      | true => have : id < lo := by simpa [Nat.blt_eq] using hb
                omega
    simp [keepOld, this] at hj

/-- Old ids and one new one: it is called 'lo'. -/
def keepOne (lo r : Nat) : Nat → Option Nat := fun id => cond (Nat.blt id lo) (some id) (cond (Nat.beq id r) (some lo) none)
theorem keepOne_names (lo r : Nat) (hr : lo ≤ r) : Names (keepOne lo r) (fun j => r) lo (lo + 1) := by
  refine ⟨fun id h => ?_, fun id j h hj => ?_, Nat.le_succ _⟩
  · have : Nat.blt id lo = true := by simpa [Nat.blt_eq] using h
    simp [keepOne, this]
  · have : Nat.blt id lo = false := by
      cases hb : Nat.blt id lo with
      | false => rfl
      | true => have : id < lo := by simpa [Nat.blt_eq] using hb
                omega
    simp only [keepOne, this, cond_false] at hj
    cases hb : Nat.beq id r with
    | false => rw [hb] at hj; cases hj
    | true =>
      rw [hb] at hj
      obtain rfl := Option.some.inj hj
      exact ⟨Nat.le_refl _, Nat.lt_succ_self _, (Nat.eq_of_beq_eq_true hb).symm⟩

def Lives (π : Nat → Option Nat) (tr : Tr AV) : List (Nat × AV) → Prop
  | [] => True
  | (i, v) :: r => renV π ((tr.get i).getD (.tup [])) = some v ∧ Lives π tr r
theorem Lives.mem {π : Nat → Option Nat} {tr : Tr AV} : ∀ {l : List (Nat × AV)}, Lives π tr l → ∀ p ∈ l, renV π ((tr.get p.1).getD (.tup [])) = some p.2
  | (i, v) :: r, h, p, hp => by
    rcases List.mem_cons.1 hp with rfl | hp
    · exact h.1
    · exact Lives.mem h.2 p hp

theorem renames_of {N lo wp : Nat} {σ0 σ' σ2 : ASt} {tr : Tr AV} {ts : List AV} {l : List (Nat × AV)} {π : Nat → Option Nat} {q : Nat → Nat} (hT : TR N tr ts) (hl : ∀ p ∈ l, p.1 < N) (hN : Names π q lo σ2.next) (hv : Lives π tr l)
    (hb : ∀ j B, σ2.get j = some B → ∃ id C, π id = some j ∧ σ'.get id = some C ∧ renB π C = some B) (hw : σ2.wp = σ'.wp) (hro : ∀ id, id < wp → σ2.get id = σ0.get id) :
    Renames lo wp σ0 ⟨ts, []⟩ σ' ⟨tsU N l, []⟩ σ2 := by
  refine ⟨⟨π, q, hN, hb, fun i => ?_⟩, hw, hro, ⟨rfl, rfl⟩, by simp [tsU, hT.len]⟩
  by_cases hi : i < N
  · have e : (tsU N l).getD i .undef = getA l i := by simp [tsU, List.getD, hi]
    rw [e]
    rcases getA_mem l i with h | ⟨p, h1, h2, h3⟩
    · exact .inl h
    · right
      have := hv.mem p h1
      rw [← h3, hT.val i hi, ← h2]
      exact this
  · left
    simp [tsU, List.getD, hi]

/-! ### Code by its parts -/
def _root_.Go.Code.cl : Code → Code
  | .seq a _ => a
  | .cond _ a _ => a
  | .block _ c => c
  | .loop c => c
  | c => c
def _root_.Go.Code.cr : Code → Code
  | .seq _ b => b
  | .cond _ _ b => b
  | c => c

section
variable {P : Program} {cfg : Cfg}
theorem CallRuns.to_cfg {cfg' : Cfg} (hg : cfg'.glob = cfg.glob) {f : FuncId} {args : List AV} {σ : ASt} {r : CR} (h : CallRuns P cfg f args σ r) : CallRuns P cfg' f args σ r :=
  fun Γ vs hwp hI hgr hf => h Γ vs hwp hI (fun g => by have := hgr g; rw [hg] at this; exact this) hf

/-- With less to begin with. -/
theorem Runs.pre {c : Code} {fr fr2 fr' : AFr} {σ σ2 σ' : ASt} {fl : Flow} (h : Runs P cfg c fr2 σ2 fl fr' σ') (hs : ∀ id B, σ2.get id = some B → σ.get id = some B) (hro : ∀ id, id < σ.wp → σ2.get id = σ.get id) (hn : σ2.next = σ.next) (hw : σ2.wp = σ.wp)
    (hds : fr2.ds = fr.ds) (hl : fr2.ts.length = fr.ts.length) (hts : ∀ i, fr2.ts.getD i .undef = .undef ∨ fr2.ts.getD i .undef = fr.ts.getD i .undef) : Runs P cfg c fr σ fl fr' σ' := by
  intro Γ a Q hwp hI hg hf hQ
  have hd : Good Γ σ Γ σ2 (fun _ => False) := Good.drop hI hs hro hw hn
  refine h Γ a Q (by rw [hw, hn]; exact hwp) hd.inv hg ⟨⟨by rw [hl]; exact hf.ts.1, fun i hi => ?_⟩, by rw [hds]; exact hf.ds⟩ (hQ.of_good hd (fun j h => h.elim) (fun j h => by rw [hn] at h; exact h))
  rcases hts i with e | e
  · rw [e]; exact .undef _
  · rw [e]; exact hf.ts.get i

/-- What a list of codes comes to, one behind the other. -/
inductive RunsL (P : Program) (cfg : Cfg) : List Code → AFr → ASt → AFr → ASt → Prop
  | nil {fr σ} : RunsL P cfg [] fr σ fr σ
  | cons {c cs fr σ fr1 σ1 fr' σ'} : Runs P cfg c fr σ .norm fr1 σ1 → RunsL P cfg cs fr1 σ1 fr' σ' → RunsL P cfg (c :: cs) fr σ fr' σ'

theorem RunsL.inv {c : Code} {cs : List Code} {fr fr' : AFr} {σ σ' : ASt} (h : RunsL P cfg (c :: cs) fr σ fr' σ') : ∃ fr1 σ1, Runs P cfg c fr σ .norm fr1 σ1 ∧ RunsL P cfg cs fr1 σ1 fr' σ' := by
  cases h with
  | cons h1 h2 => exact ⟨_, _, h1, h2⟩
theorem RunsL.last {c : Code} {fr fr' : AFr} {σ σ' : ASt} (h : RunsL P cfg [c] fr σ fr' σ') : Runs P cfg c fr σ .norm fr' σ' := by
  obtain ⟨fr1, σ1, h1, h2⟩ := h.inv
  cases h2
  exact h1

def seqs : List Code → Code
  | [] => .skip
  | c :: cs => .seq c (seqs cs)

theorem exec_runsL (pf : PF P cfg) {n lf : Nat} {rm : Bool} : ∀ (cs : List Code) {fr fr' : AFr} {σ σ' : ASt}, exec P cfg (acall P cfg n) 0 rm lf (seqs cs) fr σ = some (.norm, fr', σ') → RunsL P cfg cs fr σ fr' σ'
  | [], fr, fr', σ, σ', h => by
    simp only [seqs, exec, Option.some.injEq, Prod.mk.injEq] at h
    obtain ⟨_, rfl, rfl⟩ := h
    exact .nil
  | c :: cs, fr, fr', σ, σ', h => by
    simp only [seqs, exec] at h
    split at h
    · rename_i fr1 σ1 h1
      exact .cons (fun Γ a Q hwp hI hg hf hQ => exec_ok pf.mixed (acall_ok pf n) c _ σ Γ a .norm _ _ Q h1 hwp hI hg hf hQ) (exec_runsL pf cs h)
    · rename_i hne
      exact (hne _ _ h).elim

theorem codes_runs (pf : PF P cfg) (hm : ∀ f, Nat.beq (cfg.mode f) 0 = true) {F : Force Sub} (hF : F.Good goodS) {N n lf : Nat} {rm : Bool} {cs : List Code} {tr : Tr AV} {ts : List AV} {ds : DS} {σ : ASt} {G : Tr AV → DS → ASt → Prop} {hs : Hints} {pc : Prop}
    (hT : TR N tr ts) (h : Q (((ecode P cfg F N rm (seqs cs)).run (ecall P cfg F n) lf tr ds σ (endS fun fl tr ds σ => fl = .norm ∧ G tr ds σ)).run hs pc)) :
    ∃ tr' ts' ds' σ', RunsL P cfg cs ⟨ts, ds⟩ σ ⟨ts', ds'⟩ σ' ∧ TR N tr' ts' ∧ G tr' ds' σ' := by
  obtain ⟨r, h1, tr', h2, h3⟩ := ecode_ok (fuel := 0) hF hm (ecall_ok hF hm n) (seqs cs) tr ts ds σ _ hT ⟨hs, pc, h.out⟩
  obtain ⟨fl, ⟨ts', ds'⟩, σ'⟩ := r
  obtain ⟨_, _, h3⟩ := h3
  have hfl : fl = .norm := h3.2.1
  subst hfl
  exact ⟨tr', ts', ds', σ', exec_runsL pf cs h1, h2, h3.2.2⟩

/-- Live temporaries: what is known of them. -/
def Has (tr : Tr AV) : List (Nat × AV) → Prop
  | [] => True
  | (i, v) :: r => (tr.get i).getD (.tup []) = v ∧ Has tr r
theorem Has.mem {tr : Tr AV} : ∀ {l : List (Nat × AV)}, Has tr l → ∀ p ∈ l, (tr.get p.1).getD (.tup []) = p.2
  | (i, v) :: r, h, p, hp => by
    rcases List.mem_cons.1 hp with rfl | hp
    · exact h.1
    · exact Has.mem h.2 p hp

theorem has_ts {N : Nat} {tr : Tr AV} {ts : List AV} {l : List (Nat × AV)} (hT : TR N tr ts) (hl : ∀ p ∈ l, p.1 < N) (h : Has tr l) :
    (tsU N l).length = ts.length ∧ ∀ i, (tsU N l).getD i .undef = .undef ∨ (tsU N l).getD i .undef = ts.getD i .undef := by
  refine ⟨by simp [tsU, hT.len], fun i => ?_⟩
  by_cases hi : i < N
  · have e : (tsU N l).getD i .undef = getA l i := by simp [tsU, List.getD, hi]
    rw [e]
    rcases getA_mem l i with h1 | ⟨p, h1, h2, h3⟩
    · exact .inl h1
    · right
      have := h.mem p h1
      rw [← h3, hT.val i hi, ← h2]
      exact this.symm
  · left
    simp [tsU, List.getD, hi]
end
end Go.Am

set_option linter.unusedVariables false
set_option linter.unusedSimpArgs false
namespace Go.Am
open Go

section
variable {P : Program} {cfg : Cfg}
/-- With less in the end. -/
theorem Runs.post {c : Code} {fr fr' fr2 : AFr} {σ σ' σ2 : ASt} {fl : Flow} (h : Runs P cfg c fr σ fl fr' σ') (hfl : ∀ v, fl ≠ .panic v) (hs : ∀ id B, σ2.get id = some B → σ'.get id = some B) (hro : ∀ id, id < σ'.wp → σ2.get id = σ'.get id) (hn : σ2.next = σ'.next) (hw : σ2.wp = σ'.wp)
    (hds : fr2.ds = fr'.ds) (hl : fr2.ts.length = fr'.ts.length) (hts : ∀ i, fr2.ts.getD i .undef = .undef ∨ fr2.ts.getD i .undef = fr'.ts.getD i .undef) : Runs P cfg c fr σ fl fr2 σ2 := by
  intro Γ a Q hwp hI hg hf hQ
  refine h Γ a Q hwp hI hg hf fun Γ' a' hG hf' => ?_
  have hd : Good Γ' σ' Γ' σ2 (fun _ => False) := Good.drop hG.inv hs hro hw hn
  have hf2 : FRel Γ' fr2 a' := ⟨⟨by rw [hl]; exact hf'.ts.1, fun i hi => by
    rcases hts i with e | e
    · rw [e]; exact .undef _
    · rw [e]; exact hf'.ts.get i⟩, by rw [hds]; exact hf'.ds⟩
  have := hQ Γ' a' (hG.trans hd (fun j h => h) (fun j h => h.elim)) hf2
  cases fl with
  | norm => exact this
  | ret => exact this
  | exit b => exact this
  | panic v => exact absurd rfl (hfl v)

noncomputable section
abbrev LoopHook := Code → Tr AV → DS → ASt → (Flow → Tr AV → DS → ASt → Sub) → Sub

def wcode (P : Program) (cfg : Cfg) (F : Force Sub) (N : Nat) (rm : Bool) (hook : LoopHook) : Code → CodeBox Sub
  | .skip => ⟨fun call lf tr ds σ K => K .norm tr ds σ⟩
  | .region i ops draw => ⟨fun call lf tr ds σ K => (ecode P cfg F N rm (.region i ops draw)).run call lf tr ds σ K⟩
  | .seq a b => ⟨fun call lf tr ds σ K => (wcode P cfg F N rm hook a).run call lf tr ds σ fun fl tr ds σ => match fl with
      | .norm => (wcode P cfg F N rm hook b).run call lf tr ds σ K
      | .ret => K .ret tr ds σ
      | .exit j => K (.exit j) tr ds σ
      | .panic v => K (.panic v) tr ds σ⟩
  | .cond c t e => ⟨fun call lf tr ds σ K => rd cfg N c tr fun v => match v with
      | .bool x => F.bool x fun x => Bool.rec ((wcode P cfg F N rm hook e).run call lf tr ds σ K) ((wcode P cfg F N rm hook t).run call lf tr ds σ K) x
      | _ => F.bad⟩
  | .block id body => ⟨fun call lf tr ds σ K => (wcode P cfg F N rm hook body).run call lf tr ds σ fun fl tr ds σ => match fl with
      | .norm => K .norm tr ds σ
      | .ret => K .ret tr ds σ
      | .exit j => Bool.rec (K (.exit j) tr ds σ) (K .norm tr ds σ) (Nat.beq j id)
      | .panic v => K (.panic v) tr ds σ⟩
  | .loop body => ⟨fun call lf tr ds σ K => hook body tr ds σ K⟩
  | .exit id => ⟨fun call lf tr ds σ K => K (.exit id) tr ds σ⟩
  | .label _ => ⟨fun call lf tr ds σ K => K .norm tr ds σ⟩
  | .ret => ⟨fun call lf tr ds σ K => K .ret tr ds σ⟩
  | _ => ⟨fun _ _ _ _ _ _ => F.bad⟩

def HookOK (P : Program) (cfg : Cfg) (N : Nat) (hook : LoopHook) : Prop :=
  ∀ body tr ts ds σ K, TR N tr ts → goodS (hook body tr ds σ K) → ∃ fl tr' ts' ds' σ', Runs P cfg (.loop body) ⟨ts, ds⟩ σ fl ⟨ts', ds'⟩ σ' ∧ TR N tr' ts' ∧ goodS (K fl tr' ds' σ')

theorem wcode_ok (pf : PF P cfg) (hm : ∀ f, Nat.beq (cfg.mode f) 0 = true) {F : Force Sub} (hF : F.Good goodS) {N n lf : Nat} {rm : Bool} {hook : LoopHook} (hH : HookOK P cfg N hook) : ∀ (c : Code) (tr : Tr AV) (ts : List AV) (ds : DS) (σ : ASt) (K : Flow → Tr AV → DS → ASt → Sub), TR N tr ts →
    goodS ((wcode P cfg F N rm hook c).run (ecall P cfg F n) lf tr ds σ K) → ∃ fl tr' ts' ds' σ', Runs P cfg c ⟨ts, ds⟩ σ fl ⟨ts', ds'⟩ σ' ∧ TR N tr' ts' ∧ goodS (K fl tr' ds' σ') := by
  intro c
  induction c with
  | skip => intro tr ts ds σ K hT h; exact ⟨_, tr, ts, ds, σ, .skip, hT, h⟩
  | region i ops draw =>
    intro tr ts ds σ K hT h
    obtain ⟨r, h1, tr', h2, h3⟩ := ecode_ok (fuel := 0) hF hm (ecall_ok hF hm n) (.region i ops draw) tr ts ds σ K hT h
    obtain ⟨fl, ⟨ts', ds'⟩, σ'⟩ := r
    exact ⟨fl, tr', ts', ds', σ', fun Γ a Q hwp hI hg hf hQ => exec_ok pf.mixed (acall_ok pf n) _ _ σ Γ a fl _ σ' Q h1 hwp hI hg hf hQ, h2, h3⟩
  | seq x y ihx ihy =>
    intro tr ts ds σ K hT h
    obtain ⟨fl, tr', ts', ds', σ', h1, h2, h3⟩ := ihx tr ts ds σ _ hT h
    cases fl with
    | norm =>
      obtain ⟨fl2, tr2, ts2, ds2, σ2, g1, g2, g3⟩ := ihy tr' ts' ds' σ' K h2 h3
      exact ⟨fl2, tr2, ts2, ds2, σ2, h1.seq g1, g2, g3⟩
    | ret => exact ⟨_, tr', ts', ds', σ', h1.seq_out (by simp), h2, h3⟩
    | exit b => exact ⟨_, tr', ts', ds', σ', h1.seq_out (by simp), h2, h3⟩
    | panic v => exact ⟨_, tr', ts', ds', σ', h1.seq_out (by simp), h2, h3⟩
  | cond c x y ihx ihy =>
    intro tr ts ds σ K hT h
    have h : goodS (rd cfg N c tr fun v => match v with
      | .bool x' => F.bool x' fun x' => Bool.rec ((wcode P cfg F N rm hook y).run (ecall P cfg F n) lf tr ds σ K) ((wcode P cfg F N rm hook x).run (ecall P cfg F n) lf tr ds σ K) x'
      | _ => F.bad) := h
    rw [rd_eq hT] at h
    split at h
    rotate_left
    · exact bad_no hF h
    rename_i b hb
    have h := hF.bool _ _ h
    cases b with
    | true =>
      obtain ⟨fl, tr', ts', ds', σ', h1, h2, h3⟩ := ihx tr ts ds σ K hT h
      exact ⟨fl, tr', ts', ds', σ', Runs.cond (b := true) hb h1, h2, h3⟩
    | false =>
      obtain ⟨fl, tr', ts', ds', σ', h1, h2, h3⟩ := ihy tr ts ds σ K hT h
      exact ⟨fl, tr', ts', ds', σ', Runs.cond (b := false) hb h1, h2, h3⟩
  | block id body ih =>
    intro tr ts ds σ K hT h
    obtain ⟨fl, tr', ts', ds', σ', h1, h2, h3⟩ := ih tr ts ds σ _ hT h
    have hb := Runs.block (id := id) h1
    cases fl with
    | norm => exact ⟨_, tr', ts', ds', σ', hb, h2, h3⟩
    | ret => exact ⟨_, tr', ts', ds', σ', hb, h2, h3⟩
    | panic v => exact ⟨_, tr', ts', ds', σ', hb, h2, h3⟩
    | exit j =>
      simp only at h3
      cases hj : Nat.beq j id with
      | true =>
        rw [hj] at h3
        have e : (Flow.exit j).leave id = .norm := by simp [Flow.leave, Nat.eq_of_beq_eq_true hj]
        rw [e] at hb
        exact ⟨_, tr', ts', ds', σ', hb, h2, h3⟩
      | false =>
        rw [hj] at h3
        have e : (Flow.exit j).leave id = .exit j := by simp [Flow.leave, Nat.ne_of_beq_eq_false hj]
        rw [e] at hb
        exact ⟨_, tr', ts', ds', σ', hb, h2, h3⟩
  | loop body ih => intro tr ts ds σ K hT h; exact hH body tr ts ds σ K hT h
  | exit id => intro tr ts ds σ K hT h; exact ⟨_, tr, ts, ds, σ, .exit, hT, h⟩
  | label l => intro tr ts ds σ K hT h; exact ⟨_, tr, ts, ds, σ, .label, hT, h⟩
  | ret => intro tr ts ds σ K hT h; exact ⟨_, tr, ts, ds, σ, .ret, hT, h⟩
  | _ => intro tr ts ds σ K hT h; exact bad_no hF h

/-- A function, walked from the empty state. -/
def wfun (P : Program) (cfg : Cfg) (F : Force Sub) (N : Nat) (rm : Bool) (hook : LoopHook) (n lf : Nat) (c : Code) (res : List ResultVar) (args : List AV) (G : AV → ASt → Prop) : Sub :=
  argsK args 0 .leaf fun tr => (wcode P cfg F N rm hook c).run (ecall P cfg F n) lf tr [] none0 fun fl tr ds σ => match ds with
    | [] => match fl with
      | .norm => eres P cfg F N res tr σ fun vs => ⟨fun _ pc => pc ∧ G (oneOf vs) σ, fun _ _ h => h.1⟩
      | .ret => eres P cfg F N res tr σ fun vs => ⟨fun _ pc => pc ∧ G (oneOf vs) σ, fun _ _ h => h.1⟩
      | _ => Sub.bad
    | _ :: _ => Sub.bad

theorem wfun_runs (pf : PF P cfg) (hm : ∀ f, Nat.beq (cfg.mode f) 0 = true) {F : Force Sub} (hF : F.Good goodS) {N n lf : Nat} {rm : Bool} {hook : LoopHook} (hH : HookOK P cfg N hook) {f : FuncId} {c : Code} {res : List ResultVar} {args : List AV} {G : AV → ASt → Prop} {hs : Hints} {pc : Prop}
    (hfn : (P.funcs[f]?).map (fun fn => (fn.body, fn.ntmps, fn.results.toList)) = some (some c, N, res)) (ha : args.length ≤ N) (h : Q ((wfun P cfg F N rm hook n lf c res args G).run hs pc)) :
    ∃ v σ', CallRuns P cfg f args none0 (.ret v σ') ∧ G v σ' := by
  cases hf : P.funcs[f]? with
  | none => rw [hf] at hfn; cases hfn
  | some fn =>
  rw [hf] at hfn
  simp only [Option.map_some, Option.some.injEq, Prod.mk.injEq] at hfn
  obtain ⟨hb, hnt, hres⟩ := hfn
  obtain ⟨tr0, ha0, hT0⟩ := argsK_ok (α := Sub) args N ha
  have h : goodS (wfun P cfg F N rm hook n lf c res args G) := ⟨hs, pc, h.out⟩
  unfold wfun at h
  rw [ha0] at h
  obtain ⟨fl, tr', ts', ds', σ', h1, h2, h3⟩ := wcode_ok pf hm hF hH c tr0 _ [] none0 _ hT0 h
  cases ds' with
  | cons d r => obtain ⟨_, _, h3⟩ := h3; exact h3.elim
  | nil =>
    have fin : ∀ {fl}, fl = .norm ∨ fl = .ret → Runs P cfg c ⟨args ++ List.replicate (N - args.length) (.tup []), []⟩ none0 fl ⟨ts', []⟩ σ' → goodS (eres P cfg F N res tr' σ' fun vs => ⟨fun _ pc => pc ∧ G (oneOf vs) σ', fun _ _ h => h.1⟩) → ∃ v σ', CallRuns P cfg f args none0 (.ret v σ') ∧ G v σ' := by
      intro fl hfl hr hg
      obtain ⟨vs, e1, _, _, e2⟩ := eres_ok hF res h2 hg
      exact ⟨oneOf vs, σ', CallRuns.ret (pf := pf) hf hb (by rw [hnt]; exact hr) hfl rfl (by rw [hres]; exact e1), e2.2⟩
    cases fl with
    | norm => exact fin (.inl rfl) h1 h3
    | ret => exact fin (.inr rfl) h1 h3
    | exit b => obtain ⟨_, _, h3⟩ := h3; exact h3.elim
    | panic v => obtain ⟨_, _, h3⟩ := h3; exact h3.elim
end
end
end Go.Am

set_option linter.unusedVariables false
set_option linter.unusedSimpArgs false
namespace Go.Am
open Go
noncomputable section
def Sub.boolT (b : Bool) (k : Bool → Sub) : Sub := ⟨fun h pc => Bool.rec ((k false).run h pc) ((k true).run h pc) b, fun h pc hr => by cases b <;> exact (k _).ent _ _ hr⟩
def Sub.bidxT (s : List UInt8) (n : Nat) (k : Nat → Sub) : Sub := Sub.boolT (Nat.blt n s.length) fun b => Bool.rec Sub.bad (k (s.getD n 0).toNat) b
/-- Decisions stay; elements of lists by hints. -/
def forceT : Force Sub := ⟨fun n k => k n, fun n k => k n, Sub.boolT, fun l k => k l, fun l k => k l, Sub.nth, Sub.bidxT, hgetK Sub.bad, hsetK, Sub.bad⟩
end

theorem boolT_good {b : Bool} {k : Bool → Sub} (h : goodS (Sub.boolT b k)) : goodS (k b) := by
  obtain ⟨h, pc, hr⟩ := h
  have hr : Bool.rec ((k false).run h pc) ((k true).run h pc) b := hr
  cases b <;> exact ⟨h, pc, hr⟩

theorem bad_good : ¬ goodS Sub.bad := fun ⟨_, _, h⟩ => h.elim

theorem forceT_good : forceT.Good goodS :=
  ⟨fun n k h => h, fun n k h => h, fun b k h => boolT_good h, fun l k h => h, fun l k h => h, fun l n k h => snth_good h, fun l n k h => by
    have h := boolT_good h
    cases hb : Nat.blt n l.length with
    | false => rw [hb] at h; exact (bad_good h).elim
    | true =>
      rw [hb] at h
      have hlt : n < l.length := by simpa [Nat.blt_eq] using hb
      refine ⟨l[n], by simp [hlt], ?_⟩
      have e : l.getD n 0 = l[n] := by simp [List.getD, hlt]
      rw [← e]; exact h,
   fun σ id k h => by
    simp only [forceT, hgetK_eq] at h
    split at h
    · rename_i x hx; exact ⟨x, hx, h⟩
    · exact (bad_good h).elim, fun σ id x k h => by simp only [forceT, hsetK_eq] at h; exact h, bad_good⟩
end Go.Am
