/-
The evaluator E: drawn regions, code.
The evaluator E: deferred functions, calls: what it says, the machine says.
Contracts: a call that only looks at rows of its caller, run as on the empty state; what comes is flat, or has one new row.
Other names for what came new, and forgetting what is no more needed.
-/
import Derived.Test.YtcphlgkfboafoaaGreatDoorA7
set_option linter.unusedVariables false
set_option linter.unusedSimpArgs false
namespace Go.Am
open Go

section
variable {α : Type} {F : Force α} {good : α → Prop} {P : Program} {cfg : Cfg} {N : Nat} {fuel : Nat} {callK : CallK α} {call : FuncId → List AV → ASt → Option CR}

def DPost (good : α → Prop) (N : Nat) (ts : List AV) (ds : DS) (R : Tr AV → List Core → List (Nat × Blk) → List ERd → Option (Nat × AV × ASt) → α) (tr : Tr AV) (rds : List ERd) (D : DSt) (bad : Option (Nat × AV × ASt)) (i : Nat) : DR → Prop
  | .ok D' => ∃ tr' rds', TR N tr' D'.fr.ts ∧ D'.fr.ds = ds ∧ RdsR (RdR N) rds' D'.rds ∧ good (R tr' D'.cores D'.news rds' bad)
  | .bad v σ => good (R tr D.cores D.news rds (some (i, v, σ)))

theorem edraw_ok (hF : F.Good good) (hm : ∀ f, Nat.beq (cfg.mode f) 0 = true) (hC : ∀ f args σ K, good (callK f args σ K) → ∃ r, call f args σ = some r ∧ good (K r)) {rm : Bool} {ops : List Oper} {anc : List Nat} {base : Nat} {kn : Tr AV → DS → ASt → α} {kb : AV → Tr AV → DS → ASt → α} : ∀ (rest : List Oper) (i : Nat) (tr : Tr AV) (ds : DS) (rds : List ERd) (D : DSt) (bad : Option (Nat × AV × ASt)),
    TR N tr D.fr.ts → D.fr.ds = ds → RdsR (RdR N) rds D.rds → good ((edraw P cfg F N rm ops anc i rest).run callK tr ds D.cores D.news rds bad base kn kb) →
    ∃ r, drawA P cfg call fuel rm ops anc base i rest D bad = some r ∧ RegPost good N kn kb r
  | [], i, tr, ds, rds, D, bad, hT, hds, hr, h => by
    unfold edraw at h
    cases bad with
    | none =>
      simp only at h
      simp only [drawA]
      split at h
      · rename_i c r hc
        have h := viewK_ok hF _ _ _ _ _ h
        rw [hc]
        exact ⟨_, rfl, tr, hT, by rw [hds]; exact h⟩
      · exact bad_no hF h
    | some x =>
      obtain ⟨b, v, σ⟩ := x
      simp only at h
      obtain ⟨tr', h1, h2⟩ := wipeK_ok (α := α) ops hT
      rw [h1] at h
      refine ⟨_, rfl, tr', h2, ?_⟩
      show good (kb v tr' D.fr.ds σ)
      rw [hds]; exact h
  | o :: rest, i, tr, ds, rds, D, bad, hT, hds, hr, h => by
    obtain ⟨⟨ts, ds'⟩, cores, news, rs⟩ := D
    simp only at hT hds hr h
    subst hds
    have ih := edraw_ok hF hm hC (rm := rm) (ops := ops) (anc := anc) (base := base) (kn := kn) (kb := kb) rest (i + 1)
    unfold edraw at h
    dsimp only at h
    simp only [drawA]
    generalize isBad (anc.getD i 0) bad = bb at h ⊢
    cases bb with
    | true => exact ih tr ds' rds ⟨⟨ts, ds'⟩, cores, news, rs⟩ bad hT rfl hr h
    | false =>
      simp only [cond_false]
      obtain ⟨hg, h⟩ := guardK_ok hF hT h
      rw [hg, cond_true]
      rcases h with ⟨hw, h⟩ | ⟨hw, h⟩
      rotate_left
      · rw [hw, cond_false]
        obtain ⟨tr', h1, h2⟩ := wr_ok (α := α) hT ds' o.dst (.tup [])
        rw [h1] at h
        exact ih tr' ds' rds ⟨AFr.put ⟨ts, ds'⟩ o.dst (.tup []), cores, news, rs⟩ bad h2 (put_ds2 ..) hr h
      · rw [hw, cond_true]
        cases cores with
        | nil => exact bad_no hF h
        | cons c cs =>
        simp only at h
        -- what the step comes to
        have core : ∀ (v : AV) (σ' : ASt), good (F.chk (bad.isNone && chained (anc.getD i 0) (c :: cs)) (recheckK P cfg F N rm ops anc base i ⟨σ', anc.getD i 0, some i⟩ news rds
            (wr o.dst v tr fun tr' => (edraw P cfg F N rm ops anc (i + 1) rest).run callK tr' ds' (⟨σ', anc.getD i 0, some i⟩ :: c :: cs) news rds bad base kn kb))) →
            bad = none ∧ ∃ D', stepCore P cfg call fuel rm ops anc base i (anc.getD i 0) o ⟨⟨ts, ds'⟩, c :: cs, news, rs⟩ v σ' = some (.ok D') ∧ ∃ r, drawA P cfg call fuel rm ops anc base (i + 1) rest D' bad = some r ∧ RegPost good N kn kb r := by
          intro v σ' h
          obtain ⟨h1, h⟩ := chk_ok hF h
          simp only [Bool.and_eq_true, Option.isNone_iff_eq_none] at h1
          obtain ⟨h2, h⟩ := recheckK_ok (call := call) (fuel := fuel) hF rds rs hr h
          obtain ⟨tr', h3, h4⟩ := wr_ok (α := α) hT ds' o.dst v
          rw [h3] at h
          refine ⟨h1.1, _, by simp only [stepCore, h1.2, h2, Bool.and_self, cond_true]; rfl, ?_⟩
          exact ih tr' ds' rds ⟨AFr.put ⟨ts, ds'⟩ o.dst v, ⟨σ', anc.getD i 0, some i⟩ :: c :: cs, news, rs⟩ bad h4 (put_ds2 ..) hr h
        have still : ∀ (v : AV) (b : Option Blk) (news' : List (Nat × Blk)), addNew i news b = news' → stillA P cfg call fuel rm (base + i) ts o (viewC base c (anc.getD i 0) news) = some (v, b) →
            good (stillK F (eop P cfg F N rm o) (readsMem o) tr base (base + i) i (anc.getD i 0) news v b c cs rds fun rds' => wr o.dst v tr fun tr' => (edraw P cfg F N rm ops anc (i + 1) rest).run callK tr' ds' (c :: cs) news' rds' bad base kn kb) →
            ∃ D', stepStill P cfg call fuel rm base i (anc.getD i 0) o ⟨⟨ts, ds'⟩, c :: cs, news, rs⟩ (viewC base c (anc.getD i 0) news) = some (.ok D') ∧ ∃ r, drawA P cfg call fuel rm ops anc base (i + 1) rest D' bad = some r ∧ RegPost good N kn kb r := by
          intro v b news' hn hs h
          obtain ⟨h1, rds', h2, h⟩ := stillK_ok (call := call) (fuel := fuel) hF hT hr rfl h
          obtain ⟨tr', h3, h4⟩ := wr_ok (α := α) hT ds' o.dst v
          rw [h3] at h
          refine ⟨⟨AFr.put ⟨ts, ds'⟩ o.dst v, c :: cs, addNew i news b, cond (readsMem o) (⟨i, ts, v, b⟩ :: rs) rs⟩, by simp only [stepStill, hs, h1, cond_true], ?_⟩
          exact ih tr' ds' rds' ⟨AFr.put ⟨ts, ds'⟩ o.dst v, c :: cs, addNew i news b, cond (readsMem o) (⟨i, ts, v, b⟩ :: rs) rs⟩ bad h4 (put_ds2 ..) h2 (by simp only [hn]; exact h)
        have go : ∀ {d : DR}, stepD P cfg call fuel rm ops anc base i o ⟨⟨ts, ds'⟩, c :: cs, news, rs⟩ bad.isSome = some d →
            (∃ r, (match d with | .ok D' => drawA P cfg call fuel rm ops anc base (i + 1) rest D' bad | .bad v σ => drawA P cfg call fuel rm ops anc base (i + 1) rest ⟨⟨ts, ds'⟩, c :: cs, news, rs⟩ (some (i, v, σ))) = some r ∧ RegPost good N kn kb r) →
            ∃ r, (match stepD P cfg call fuel rm ops anc base i o ⟨⟨ts, ds'⟩, c :: cs, news, rs⟩ bad.isSome with
              | some (.ok D') => drawA P cfg call fuel rm ops anc base (i + 1) rest D' bad
              | some (.bad v σ) => drawA P cfg call fuel rm ops anc base (i + 1) rest ⟨⟨ts, ds'⟩, c :: cs, news, rs⟩ (some (i, v, σ))
              | none => none) = some r ∧ RegPost good N kn kb r := by
          intro d h1 h2
          rw [h1]
          cases d <;> exact h2
        split at h
        · rename_i x ho
          simp only [rd_eq hT] at h
          split at h
          rotate_left
          · exact bad_no hF h
          rename_i t v hx
          obtain ⟨h1, h⟩ := chk_ok hF h
          have h1' : (!bad.isSome && chained (anc.getD i 0) (c :: cs)) = true := by cases bad <;> (try simp at h1) <;> first | exact rfl | exact h1
          have h := viewK_ok hF _ _ _ _ _ h
          exact go (d := .bad (.iface t v) (viewC base c (anc.getD i 0) news)) (by simp only [stepD, ho, hx, h1', cond_true]) (ih tr ds' rds ⟨⟨ts, ds'⟩, c :: cs, news, rs⟩ _ hT rfl hr h)
        · exact bad_no hF h
        · rename_i g args tys ho
          simp only [rd_eq hT, rdL_eq hT] at h
          split at h
          rotate_left
          · exact bad_no hF h
          rename_i f first caps hx
          have h := hF.list _ _ h
          have h := viewK_ok hF _ _ _ _ _ h
          obtain ⟨r, hcr, h⟩ := hC _ _ _ _ h
          cases r with
          | ret v σ' =>
            obtain ⟨hbn, D', h1, h2⟩ := core v σ' h
            subst hbn
            exact go (d := .ok D') (by simp only [stepD, ho, calleeA, hx, hm, cond_true, hcr, Option.isSome_none, cond_false, h1]) h2
          | panic v σ' =>
            obtain ⟨h1, h⟩ := chk_ok hF h
            have h1' : (!bad.isSome && chained (anc.getD i 0) (c :: cs)) = true := by cases bad <;> (try simp at h1) <;> first | exact rfl | exact h1
            exact go (d := .bad v σ') (by simp only [stepD, ho, calleeA, hx, hm, cond_true, hcr, h1']) (ih tr ds' rds ⟨⟨ts, ds'⟩, c :: cs, news, rs⟩ _ hT rfl hr h)
        · rename_i n1 n2 n3
          have h := viewK_ok hF _ _ _ _ _ h
          have h := hF.nat _ _ h
          obtain ⟨v, e, ha, hp⟩ := eop_ok hF hT h
          obtain ⟨hcal, hnp, hnd⟩ := aop_callee ha
          have hs := still_of_aop (call := call) (fuel := fuel) ha
          cases e with
          | pure =>
            obtain ⟨D', h1, h2⟩ := still v none news rfl hs hp
            refine go (d := .ok D') ?_ h2
            unfold stepD
            simp only
            first
            | (rw [hcal]; simp only [ha]; exact h1)
            | (split
               · rename_i x ho; exact absurd ho (hnp x)
               · rename_i x ho; exact absurd ho (hnd _)
               · rw [hcal]; simp only [ha]; exact h1)
          | new b =>
            obtain ⟨D', h1, h2⟩ := still v (some b) ((i, b) :: news) rfl hs hp
            refine go (d := .ok D') ?_ h2
            unfold stepD
            simp only
            first
            | (rw [hcal]; simp only [ha]; exact h1)
            | (split
               · rename_i x ho; exact absurd ho (hnp x)
               · rename_i x ho; exact absurd ho (hnd _)
               · rw [hcal]; simp only [ha]; exact h1)
          | upd σ' =>
            obtain ⟨hbn, D', h1, h2⟩ := core v σ' hp
            subst hbn
            refine go (d := .ok D') ?_ h2
            unfold stepD
            simp only
            first
            | (rw [hcal]; simp only [ha, Option.isSome_none, cond_false]; exact h1)
            | (split
               · rename_i x ho; exact absurd ho (hnp x)
               · rename_i x ho; exact absurd ho (hnd _)
               · rw [hcal]; simp only [ha, Option.isSome_none, cond_false]; exact h1)

theorem etail_ok (hF : F.Good good) {rm : Bool} {base : Nat} {k : Tr AV → ASt → α} : ∀ (rest : List Oper) (i : Nat) (tr : Tr AV) (ts : List AV) (ds : DS) (σ : ASt) (ids : List Nat), TR N tr ts →
    good ((etail P cfg F N rm i rest).run tr σ ids base k) → ∃ ts' σ' tr', tailA P cfg rm base i rest ⟨ts, ds⟩ σ ids = some (.norm, ⟨ts', ds⟩, σ') ∧ TR N tr' ts' ∧ good (k tr' σ')
  | [], i, tr, ts, ds, σ, ids, hT, h => ⟨ts, σ, tr, rfl, hT, h⟩
  | o :: rest, i, tr, ts, ds, σ, ids, hT, h => by
    have hput : ∀ v, AFr.put ⟨ts, ds⟩ o.dst v = ⟨(AFr.put ⟨ts, ds⟩ o.dst v).ts, ds⟩ := fun v => by cases o.dst <;> rfl
    unfold etail at h
    split at h
    · rename_i t a x ho
      simp only [rd_eq hT] at h
      simp only [tailA, ho]
      split at h
      rotate_left
      · exact bad_no hF h
      rename_i q j off hq
      rw [hq]
      obtain ⟨h1, h⟩ := chk_ok hF h
      simp only [h1, cond_true]
      obtain ⟨v, e, ha, hp⟩ := eop_ok hF hT h
      cases e with
      | pure => exact bad_no hF hp
      | new b => exact bad_no hF hp
      | upd σ' =>
        obtain ⟨tr', h3, h4⟩ := wr_ok (α := α) hT ds o.dst v
        simp only [OpPost, h3] at hp
        rw [ha]
        simp only
        rw [hput v]
        exact etail_ok hF rest (i + 1) tr' _ ds σ' (q :: ids) h4 hp
    · rename_i hns
      obtain ⟨v, e, ha, hp⟩ := eop_ok hF hT h
      cases e with
      | new b => exact bad_no hF hp
      | upd σ' => exact bad_no hF hp
      | pure =>
        obtain ⟨tr', h3, h4⟩ := wr_ok (α := α) hT ds o.dst v
        simp only [OpPost, h3] at hp
        unfold tailA
        split
        · rename_i ho; exact absurd ho (hns _ _ _)
        · rw [ha]
          simp only
          rw [hput v]
          exact etail_ok hF rest (i + 1) tr' _ ds σ ids h4 hp

def CodePost (good : α → Prop) (N : Nat) (K : Flow → Tr AV → DS → ASt → α) (r : Flow × AFr × ASt) : Prop :=
  ∃ tr', TR N tr' r.2.1.ts ∧ good (K r.1 tr' r.2.1.ds r.2.2)

theorem ecode_ok (hF : F.Good good) (hm : ∀ f, Nat.beq (cfg.mode f) 0 = true) (hC : ∀ f args σ K, good (callK f args σ K) → ∃ r, call f args σ = some r ∧ good (K r)) {rm : Bool} {lf : Nat} : ∀ (c : Code) (tr : Tr AV) (ts : List AV) (ds : DS) (σ : ASt) (K : Flow → Tr AV → DS → ASt → α), TR N tr ts →
    good ((ecode P cfg F N rm c).run callK lf tr ds σ K) → ∃ r, exec P cfg call fuel rm lf c ⟨ts, ds⟩ σ = some r ∧ CodePost good N K r := by
  intro c
  induction c with
  | skip => intro tr ts ds σ K hT h; exact ⟨_, rfl, tr, hT, h⟩
  | region id ops draw =>
    intro tr ts ds σ K hT h
    obtain ⟨n, w, hp⟩ := σ
    have h : good (F.nat (n + ops.toList.length) fun nx => (eregion P cfg F N rm ops draw).run callK tr ds ⟨nx, w, hp⟩ n (fun tr ds σ => K .norm tr ds σ) (fun v tr ds σ => K (.panic v) tr ds σ)) := h
    have h := hF.nat _ _ h
    have post : ∀ {r : Flow × AFr × ASt}, RegPost good N (fun tr ds σ => K .norm tr ds σ) (fun v tr ds σ => K (.panic v) tr ds σ) r → CodePost good N K r := by
      intro r hr
      obtain ⟨fl, fr', σ'⟩ := r
      cases fl with
      | norm => exact hr
      | panic v => exact hr
      | ret => exact hr.elim
      | exit b => exact hr.elim
    simp only [exec]
    cases draw with
    | false =>
      obtain ⟨r, h1, h2⟩ := eseq_ok (fuel := fuel) hF hm hC ops.toList 0 tr ts ds _ hT h
      exact ⟨r, h1, post h2⟩
    | true =>
      unfold eregion at h
      simp only at h
      cases hok : drawOk ops with
      | false => rw [hok] at h; exact bad_no hF h
      | true =>
        rw [hok] at h
        simp only [cond_true]
        unfold drawT
        simp only at h
        cases hcut : cutAt ops.toList (ancs ops.toList) with
        | none =>
          rw [hcut] at h
          obtain ⟨r, h1, h2⟩ := edraw_ok (fuel := fuel) hF hm hC ops.toList 0 tr ds [] ⟨⟨ts, ds⟩, [⟨⟨n + ops.toList.length, w, hp⟩, 0, none⟩], [], []⟩ none hT rfl .nil h
          exact ⟨r, h1, post h2⟩
        | some p =>
          rw [hcut] at h
          obtain ⟨r, h1, h2⟩ := edraw_ok (fuel := fuel) hF hm hC (ops.toList.take p) 0 tr ds [] ⟨⟨ts, ds⟩, [⟨⟨n + ops.toList.length, w, hp⟩, 0, none⟩], [], []⟩ none hT rfl .nil h
          obtain ⟨fl, fr', σ'⟩ := r
          cases fl with
          | norm =>
            obtain ⟨tr', hT', h3⟩ := h2
            obtain ⟨ts2, σ2, tr2, h4, h5, h6⟩ := etail_ok hF (ops.toList.drop p) p tr' fr'.ts fr'.ds σ' [] hT' h3
            refine ⟨(.norm, ⟨ts2, fr'.ds⟩, σ2), ?_, tr2, h5, h6⟩
            simp only [h1]
            exact h4
          | panic v => exact ⟨(.panic v, fr', σ'), by simp only [h1], post h2⟩
          | ret => exact h2.elim
          | exit b => exact h2.elim
  | seq x y ihx ihy =>
    intro tr ts ds σ K hT h
    obtain ⟨r, h1, tr', h2, h3⟩ := ihx tr ts ds σ _ hT h
    obtain ⟨fl, fr', σ'⟩ := r
    simp only [exec, h1]
    cases fl with
    | norm => exact ihy tr' fr'.ts fr'.ds σ' K h2 h3
    | ret => exact ⟨_, rfl, tr', h2, h3⟩
    | exit b => exact ⟨_, rfl, tr', h2, h3⟩
    | panic v => exact ⟨_, rfl, tr', h2, h3⟩
  | cond c x y ihx ihy =>
    intro tr ts ds σ K hT h
    have h : good (rd cfg N c tr fun v => match v with
      | .bool x' => F.bool x' fun x' => Bool.rec ((ecode P cfg F N rm y).run callK lf tr ds σ K) ((ecode P cfg F N rm x).run callK lf tr ds σ K) x'
      | _ => F.bad) := h
    rw [rd_eq hT] at h
    simp only [exec]
    split at h
    rotate_left
    · exact bad_no hF h
    rename_i b hb
    rw [hb]
    have h := hF.bool _ _ h
    cases b with
    | true => exact ihx tr ts ds σ K hT h
    | false => exact ihy tr ts ds σ K hT h
  | block id body ih =>
    intro tr ts ds σ K hT h
    obtain ⟨r, h1, tr', h2, h3⟩ := ih tr ts ds σ _ hT h
    obtain ⟨fl, fr', σ'⟩ := r
    simp only [exec, h1]
    cases fl with
    | norm => exact ⟨_, rfl, tr', h2, h3⟩
    | ret => exact ⟨_, rfl, tr', h2, h3⟩
    | panic v => exact ⟨_, rfl, tr', h2, h3⟩
    | exit j =>
      simp only at h3 ⊢
      cases hj : Nat.beq j id with
      | true => rw [hj] at h3; exact ⟨_, rfl, tr', h2, h3⟩
      | false => rw [hj] at h3; exact ⟨_, rfl, tr', h2, h3⟩
  | loop body ih =>
    intro tr ts ds σ K hT h
    simp only [exec]
    have key : ∀ (n : Nat) (tr : Tr AV) (ts : List AV) (ds : DS) (σ : ASt), TR N tr ts →
        good (Nat.rec (motive := fun _ => Tr AV → DS → ASt → α) (fun _ _ _ => F.bad) (fun _ ih tr ds σ => (ecode P cfg F N rm body).run callK lf tr ds σ fun fl tr ds σ => match fl with
          | .norm => ih tr ds σ
          | .ret => K .ret tr ds σ
          | .exit j => K (.exit j) tr ds σ
          | .panic v => K (.panic v) tr ds σ) n tr ds σ) → ∃ r, iterA (exec P cfg call fuel rm lf body) n ⟨ts, ds⟩ σ = some r ∧ CodePost good N K r := by
      intro n
      induction n with
      | zero => intro tr ts ds σ hT h; exact bad_no hF h
      | succ n ihn =>
        intro tr ts ds σ hT h
        obtain ⟨r, h1, tr', h2, h3⟩ := ih tr ts ds σ _ hT h
        obtain ⟨fl, fr', σ'⟩ := r
        simp only [iterA, h1]
        cases fl with
        | norm => exact ihn tr' fr'.ts fr'.ds σ' h2 h3
        | ret => exact ⟨_, rfl, tr', h2, h3⟩
        | exit b => exact ⟨_, rfl, tr', h2, h3⟩
        | panic v => exact ⟨_, rfl, tr', h2, h3⟩
    exact key lf tr ts ds σ hT h
  | exit id => intro tr ts ds σ K hT h; exact ⟨_, rfl, tr, hT, h⟩
  | label l => intro tr ts ds σ K hT h; exact ⟨_, rfl, tr, hT, h⟩
  | ret => intro tr ts ds σ K hT h; exact ⟨_, rfl, tr, hT, h⟩
  | _ => intro tr ts ds σ K hT h; exact bad_no hF h
end
end Go.Am

set_option linter.unusedVariables false
set_option linter.unusedSimpArgs false
namespace Go.Am
open Go

section
variable {α : Type} {F : Force α} {good : α → Prop} {P : Program} {cfg : Cfg} {N : Nat} {fuel : Nat} {callK : CallK α} {call : FuncId → List AV → ASt → Option CR}

def RegRPost (good : α → Prop) (N : Nat) (kn : Tr AV → DS → ASt → UA → α) (kb : AV → Tr AV → DS → ASt → UA → α) : Flow × AFr × ASt × UA → Prop
  | (.norm, fr', σ', u') => ∃ tr', TR N tr' fr'.ts ∧ good (kn tr' fr'.ds σ' u')
  | (.panic v, fr', σ', u') => ∃ tr', TR N tr' fr'.ts ∧ good (kb v tr' fr'.ds σ' u')
  | _ => False

theorem eseqR_ok (hF : F.Good good) (hm : ∀ f, Nat.beq (cfg.mode f) 0 = true) (hC : ∀ f args σ K, good (callK f args σ K) → ∃ r, call f args σ = some r ∧ good (K r)) {rm : Bool} {ops : List Oper} {base : Nat} {kn : Tr AV → DS → ASt → UA → α} {kb : AV → Tr AV → DS → ASt → UA → α} : ∀ (rest : List Oper) (i : Nat) (tr : Tr AV) (ts : List AV) (ds : DS) (σ : ASt) (u : UA), TR N tr ts →
    good ((eseqR P cfg F N rm ops i rest).run callK tr ds σ base u kn kb) → ∃ r, seqR P cfg call fuel rm ops base i rest ⟨ts, ds⟩ σ u = some r ∧ RegRPost good N kn kb r
  | [], i, tr, ts, ds, σ, u, hT, h => ⟨_, rfl, tr, hT, h⟩
  | o :: rest, i, tr, ts, ds, σ, u, hT, h => by
    have ep : ∀ v, (⟨(AFr.put ⟨ts, ds⟩ o.dst v).ts, ds⟩ : AFr) = AFr.put ⟨ts, ds⟩ o.dst v := fun v => by cases o.dst <;> rfl
    unfold eseqR at h
    cases hr : isRecover o with
    | true =>
      rw [hr] at h
      obtain ⟨hg, h⟩ := guardK_ok hF hT h
      simp only [seqR, hg, cond_true, hr]
      rcases h with ⟨hw, h⟩ | ⟨hw, h⟩
      · rw [hw, cond_true]
        cases u with
        | pan v =>
          obtain ⟨tr', h1, h2⟩ := wr_ok (α := α) hT ds o.dst v
          simp only [h1] at h
          have := eseqR_ok hF hm hC rest (i + 1) tr' _ ds σ _ h2 h
          rw [ep] at this; exact this
        | ret =>
          obtain ⟨tr', h1, h2⟩ := wr_ok (α := α) hT ds o.dst .nilif
          simp only [h1] at h
          have := eseqR_ok hF hm hC rest (i + 1) tr' _ ds σ _ h2 h
          rw [ep] at this; exact this
        | rcv v =>
          obtain ⟨tr', h1, h2⟩ := wr_ok (α := α) hT ds o.dst .nilif
          simp only [h1] at h
          have := eseqR_ok hF hm hC rest (i + 1) tr' _ ds σ _ h2 h
          rw [ep] at this; exact this
      · rw [hw, cond_false]
        obtain ⟨tr', h1, h2⟩ := wr_ok (α := α) hT ds o.dst (.tup [])
        rw [h1] at h
        have := eseqR_ok hF hm hC rest (i + 1) tr' _ ds σ u h2 h
        rw [ep] at this; exact this
    | false =>
      rw [hr] at h
      obtain ⟨hg, h⟩ := guardK_ok hF hT h
      simp only [seqR, hg, cond_true, hr, cond_false]
      rcases h with ⟨hw, h⟩ | ⟨hw, h⟩
      · rw [hw, cond_true]
        have h := hF.nat _ _ h
        obtain ⟨r, hr, hp⟩ := estep_ok (fuel := fuel) hF hm hC hT h
        rw [hr]
        cases r with
        | go fr' σ' =>
          obtain ⟨tr', hT', h⟩ := hp
          exact eseqR_ok hF hm hC rest (i + 1) tr' fr'.ts fr'.ds σ' u hT' h
        | bad v σ' => exact ⟨_, rfl, tr, hT, hp⟩
      · rw [hw, cond_false]
        obtain ⟨tr', h1, h2⟩ := wr_ok (α := α) hT ds o.dst (.tup [])
        rw [h1] at h
        have := eseqR_ok hF hm hC rest (i + 1) tr' _ ds σ u h2 h
        rw [ep] at this; exact this

def CodeRPost (good : α → Prop) (N : Nat) (K : Flow → Tr AV → DS → ASt → UA → α) (r : Flow × AFr × ASt × UA) : Prop :=
  ∃ tr', TR N tr' r.2.1.ts ∧ good (K r.1 tr' r.2.1.ds r.2.2.1 r.2.2.2)

theorem ecodeR_ok (hF : F.Good good) (hm : ∀ f, Nat.beq (cfg.mode f) 0 = true) (hC : ∀ f args σ K, good (callK f args σ K) → ∃ r, call f args σ = some r ∧ good (K r)) {rm : Bool} {lf : Nat} : ∀ (c : Code) (tr : Tr AV) (ts : List AV) (ds : DS) (σ : ASt) (u : UA) (K : Flow → Tr AV → DS → ASt → UA → α), TR N tr ts →
    good ((ecodeR P cfg F N rm c).run callK lf tr ds σ u K) → ∃ r, execR P cfg call fuel rm lf c ⟨ts, ds⟩ σ u = some r ∧ CodeRPost good N K r := by
  have base : ∀ (c : Code) (tr : Tr AV) (ts : List AV) (ds : DS) (σ : ASt) (u : UA) (K : Flow → Tr AV → DS → ASt → UA → α), TR N tr ts →
      good ((ecode P cfg F N rm c).run callK lf tr ds σ fun fl tr ds σ => K fl tr ds σ u) → ∃ r, ((exec P cfg call fuel rm lf c ⟨ts, ds⟩ σ).map fun r => (r.1, r.2.1, r.2.2, u)) = some r ∧ CodeRPost good N K r := by
    intro c tr ts ds σ u K hT h
    obtain ⟨r, h1, tr', h2, h3⟩ := ecode_ok (fuel := fuel) hF hm hC c tr ts ds σ _ hT h
    rw [h1]
    exact ⟨_, rfl, tr', h2, h3⟩
  intro c
  induction c with
  | seq x y ihx ihy =>
    intro tr ts ds σ u K hT h
    obtain ⟨r, h1, tr', h2, h3⟩ := ihx tr ts ds σ u _ hT h
    obtain ⟨fl, fr', σ', u'⟩ := r
    simp only [execR, h1]
    cases fl with
    | norm => exact ihy tr' fr'.ts fr'.ds σ' u' K h2 h3
    | ret => exact ⟨_, rfl, tr', h2, h3⟩
    | exit b => exact ⟨_, rfl, tr', h2, h3⟩
    | panic v => exact ⟨_, rfl, tr', h2, h3⟩
  | cond c x y ihx ihy =>
    intro tr ts ds σ u K hT h
    have h : good (rd cfg N c tr fun v => match v with
      | .bool x' => F.bool x' fun x' => Bool.rec ((ecodeR P cfg F N rm y).run callK lf tr ds σ u K) ((ecodeR P cfg F N rm x).run callK lf tr ds σ u K) x'
      | _ => F.bad) := h
    rw [rd_eq hT] at h
    simp only [execR]
    split at h
    rotate_left
    · exact bad_no hF h
    rename_i b hb
    rw [hb]
    have h := hF.bool _ _ h
    cases b with
    | true => exact ihx tr ts ds σ u K hT h
    | false => exact ihy tr ts ds σ u K hT h
  | region id ops draw =>
    intro tr ts ds σ u K hT h
    cases draw with
    | false =>
      obtain ⟨n, w, hp⟩ := σ
      have h : good (F.nat (n + ops.toList.length) fun nx => (eseqR P cfg F N rm ops.toList 0 ops.toList).run callK tr ds ⟨nx, w, hp⟩ n u (fun tr ds σ u => K .norm tr ds σ u) (fun v tr ds σ u => K (.panic v) tr ds σ u)) := h
      have h := hF.nat _ _ h
      obtain ⟨r, h1, h2⟩ := eseqR_ok (fuel := fuel) hF hm hC ops.toList 0 tr ts ds _ u hT h
      simp only [execR]
      refine ⟨r, h1, ?_⟩
      obtain ⟨fl, fr', σ', u'⟩ := r
      cases fl with
      | norm => exact h2
      | panic v => exact h2
      | ret => exact h2.elim
      | exit b => exact h2.elim
    | true => exact base _ tr ts ds σ u K hT h
  | _ => intro tr ts ds σ u K hT h; exact base _ tr ts ds σ u K hT h

theorem eres_ok (hF : F.Good good) : ∀ (l : List ResultVar) {tr : Tr AV} {ts : List AV} {σ : ASt} {k : List AV → α}, TR N tr ts → good (eres P cfg F N l tr σ k) → ∃ vs, resA P σ ts l = some vs ∧ good (k vs)
  | [], tr, ts, σ, k, hT, h => ⟨[], rfl, h⟩
  | .tmp t :: r, tr, ts, σ, k, hT, h => by
    have h : good (rd cfg N (.tmp t) tr fun v => eres P cfg F N r tr σ fun vs => k (v :: vs)) := h
    rw [rd_eq hT] at h
    obtain ⟨vs, h1, h2⟩ := eres_ok hF r hT h
    exact ⟨_, by simp only [resA, h1, Option.map_some]; rfl, h2⟩
  | .cell a t :: r, tr, ts, σ, k, hT, h => by
    have h : good (rd cfg N (.tmp a) tr fun p => match p with
        | .ptr i j off => F.hget σ i fun b => match b with
          | .row _ xs _ => F.nth xs j fun x => loadK P F t x.cells off fun v => eres P cfg F N r tr σ fun vs => k (v :: vs)
          | _ => F.bad
        | _ => F.bad) := h
    rw [rd_eq hT] at h
    simp only [resA]
    have e : aval cfg ts (.tmp a) = ts.getD a .undef := rfl
    rw [e] at h
    split at h
    rotate_left
    · exact bad_no hF h
    rename_i i j off hp
    rw [hp]
    obtain ⟨b, hb, h⟩ := hget_ok hF h
    simp only
    rw [hb]
    split at h
    rotate_left
    · exact bad_no hF h
    rename_i k' xs
    obtain ⟨x, hx, h⟩ := nth_ok hF h
    obtain ⟨v, hv, h⟩ := loadK_ok hF h
    obtain ⟨vs, h1, h2⟩ := eres_ok hF r hT h
    simp only [hx, Option.bind_some, hv, h1]
    exact ⟨_, rfl, h2⟩

theorem argsK_ok (as : List AV) (n : Nat) (hn : as.length ≤ n) : ∃ tr, (∀ k : Tr AV → α, argsK as 0 .leaf k = k tr) ∧ TR n tr (as ++ List.replicate (n - as.length) (.tup [])) := by
  have key : ∀ (l : List AV) (i : Nat) (tr : Tr AV), ∃ tr', (∀ k : Tr AV → α, argsK l i tr k = k tr') ∧ ∀ j, tr'.get j = if i ≤ j ∧ j < i + l.length then l[j - i]? else tr.get j := by
    intro l
    induction l with
    | nil => intro i tr; refine ⟨tr, fun k => rfl, fun j => ?_⟩; rw [if_neg (by intro hh; simp only [List.length_nil] at hh; omega)]
    | cons v l ih =>
      intro i tr
      obtain ⟨tr1, h1, h2⟩ := setP_eq (α := α) v _ i tr Nat.lt_log2_self
      obtain ⟨tr', h3, h4⟩ := ih (i + 1) tr1
      refine ⟨tr', fun k => ?_, fun j => ?_⟩
      · show setP v (pathOf i) tr (fun tr' => argsK l (Nat.succ i) tr' k) = _
        unfold pathOf
        rw [h1]; exact h3 k
      · rw [h4, h2]
        simp only [List.length_cons]
        by_cases e : j = i
        · subst e
          rw [if_neg (by omega), if_pos rfl, if_pos (by omega)]
          simp
        · rw [if_neg e]
          by_cases h : i + 1 ≤ j ∧ j < i + 1 + l.length
          · rw [if_pos h, if_pos (by omega)]
            rw [show j - i = (j - (i + 1)) + 1 by omega]
            rfl
          · rw [if_neg h, if_neg (by omega)]
  obtain ⟨tr, h1, h2⟩ := key as 0 .leaf
  refine ⟨tr, h1, by simp; omega, fun i hi => ?_⟩
  rw [h2]
  by_cases h : i < as.length
  · rw [if_pos ⟨Nat.zero_le _, by omega⟩]
    simp [List.getD, List.getElem?_append_left h, h]
  · rw [if_neg (by omega)]
    have : (as ++ List.replicate (n - as.length) (AV.tup []))[i]? = some (.tup []) := by
      rw [List.getElem?_append_right (by omega), List.getElem?_replicate, if_pos (by omega)]
    simp [List.getD, this, Tr.get]

theorem efunR_ok (hF : F.Good good) (hm : ∀ f, Nat.beq (cfg.mode f) 0 = true) (hC : ∀ f args σ K, good (callK f args σ K) → ∃ r, call f args σ = some r ∧ good (K r)) {f : FuncId} {n : Nat} {args : List AV} {u : UA} {σ : ASt} {K : UA → ASt → α} (h : good ((efunR P cfg F f).run callK n args u σ K)) :
    ∃ u' σ', callDA P cfg call n f args u σ = some (u', σ') ∧ good (K u' σ') := by
  unfold efunR at h
  unfold callDA
  split at h
  · exact bad_no hF h
  rename_i fn hfn
  rw [hfn]
  simp only
  split at h
  · exact bad_no hF h
  rename_i c hc
  rw [hc]
  simp only
  obtain ⟨h1, h⟩ := chk_ok hF h
  obtain ⟨tr, h2, hT⟩ := argsK_ok (α := α) args fn.ntmps (by simpa [Nat.ble_eq] using h1)
  rw [h2] at h
  obtain ⟨r, h3, tr', hT', h⟩ := ecodeR_ok (fuel := n) hF hm hC c tr _ [] σ u _ hT h
  obtain ⟨fl, ⟨ts', ds'⟩, σ', u'⟩ := r
  rw [h3]
  simp only at h hT'
  cases ds' with
  | cons d r => exact bad_no hF h
  | nil =>
    cases fl with
    | norm =>
      obtain ⟨vs, h4, h5⟩ := eres_ok hF fn.results.toList hT' h
      simp only [h4]
      exact ⟨u', σ', rfl, h5⟩
    | ret =>
      obtain ⟨vs, h4, h5⟩ := eres_ok hF fn.results.toList hT' h
      simp only [h4]
      exact ⟨u', σ', rfl, h5⟩
    | exit b => exact bad_no hF h
    | panic v => exact bad_no hF h

theorem eleave_ok (hF : F.Good good) (hm : ∀ f, Nat.beq (cfg.mode f) 0 = true) (hC : ∀ f args σ K, good (callK f args σ K) → ∃ r, call f args σ = some r ∧ good (K r)) {n : Nat} {K : UA → ASt → α} : ∀ (ds : DS) (u : UA) (σ : ASt), good (eleave P cfg F callK n ds u σ K) → ∃ u' σ', leaveA P cfg call n ds u σ = some (u', σ') ∧ good (K u' σ')
  | [], u, σ, h => ⟨u, σ, rfl, h⟩
  | (d, as) :: ds, u, σ, h => by
    cases d with
    | func f first caps =>
      cases first with
      | cons x r => exact bad_no hF h
      | nil =>
        have h : good (F.list (as ++ caps) fun l => (efunR P cfg F f).run callK n l u σ fun u' σ' => eleave P cfg F callK n ds u'.settle σ' K) := h
        have h := hF.list _ _ h
        obtain ⟨u', σ', h1, h⟩ := efunR_ok hF hm hC h
        obtain ⟨u2, σ2, h2, h3⟩ := eleave_ok hF hm hC ds u'.settle σ' h
        exact ⟨u2, σ2, by simp only [leaveA, h1]; exact h2, h3⟩
    | _ => exact bad_no hF h

theorem edone_ok (hF : F.Good good) (hm : ∀ f, Nat.beq (cfg.mode f) 0 = true) (hC : ∀ f args σ K, good (callK f args σ K) → ∃ r, call f args σ = some r ∧ good (K r)) {fn : Func} {n : Nat} {tr : Tr AV} {ts : List AV} {ds : DS} {σ : ASt} {u : UA} {K : CR → α} (hT : TR fn.ntmps tr ts) (h : good (edone P cfg F fn callK n tr ds σ u K)) :
    ∃ r, doneA P cfg call n fn ⟨ts, ds⟩ σ u = some r ∧ good (K r) := by
  unfold edone at h
  obtain ⟨u', σ', h1, h⟩ := eleave_ok hF hm hC ds u σ h
  unfold doneA
  simp only [h1]
  cases u' with
  | ret =>
    obtain ⟨vs, h2, h3⟩ := eres_ok hF fn.results.toList hT h
    simp only [h2, Option.map_some]
    exact ⟨_, rfl, h3⟩
  | pan v => exact ⟨_, rfl, h⟩
  | rcv v => exact bad_no hF h

theorem addK_ok (hF : F.Good good) : ∀ (bs : List Blk) (σ : ASt) (k : ASt → α), good (addK F bs σ k) → good (k (addB σ bs))
  | [], σ, k, h => h
  | b :: bs, σ, k, h => by
    have h : good (F.hset σ σ.next (some b) fun σ => ASt.rec (fun n w h => F.nat (n + 1) fun n => addK F bs ⟨n, w, h⟩ k) σ) := h
    have h := hF.nat _ _ (hF.hset _ _ _ _ h)
    exact addK_ok hF bs _ k h

theorem ecall_ok (hF : F.Good good) (hm : ∀ f, Nat.beq (cfg.mode f) 0 = true) : ∀ (n : Nat) (f : FuncId) (args : List AV) (σ : ASt) (K : CR → α), good (ecall P cfg F n f args σ K) → ∃ r, acall P cfg n f args σ = some r ∧ good (K r) := by
  intro n
  induction n with
  | zero => intro f args σ K h; exact bad_no hF h
  | succ n ih =>
    intro f args σ K h
    unfold ecall at h
    unfold acall
    cases he : cfg.ext f args σ with
    | some r =>
      obtain ⟨b, v, bs⟩ := r
      rw [he] at h
      obtain ⟨h1, h⟩ := chk_ok hF h
      have h1' : b = true := h1
      subst h1'
      exact ⟨_, rfl, addK_ok hF bs σ _ (valK_ok hF h)⟩
    | none =>
      rw [he] at h
      simp only at h ⊢
      unfold efun at h
      split at h
      · exact bad_no hF h
      rename_i fn hfn
      rw [hfn]
      simp only
      split at h
      · exact bad_no hF h
      rename_i c hc
      rw [hc]
      simp only
      obtain ⟨h1, h⟩ := chk_ok hF h
      obtain ⟨tr, h2, hT⟩ := argsK_ok (α := α) args fn.ntmps (by simpa [Nat.ble_eq] using h1)
      rw [h2] at h
      obtain ⟨r, h3, tr', hT', h⟩ := ecode_ok (fuel := n) hF hm ih c tr _ [] σ _ hT h
      obtain ⟨fl, ⟨ts', ds'⟩, σ'⟩ := r
      rw [h3]
      simp only at h hT'
      cases fl with
      | norm => exact edone_ok hF hm ih hT' h
      | ret => exact edone_ok hF hm ih hT' h
      | panic v => exact edone_ok hF hm ih hT' h
      | exit b => exact bad_no hF h
end

/-- A closed run that the kernel has looked at. -/
theorem ecall_closed {P : Program} {cfg : Cfg} (hm : ∀ f, Nat.beq (cfg.mode f) 0 = true) {n : Nat} {f : FuncId} {args : List AV} {σ : ASt} {test : CR → Bool} (h : ecall P cfg (force false) n f args σ test = true) :
    ∃ r, acall P cfg n f args σ = some r ∧ test r = true :=
  ecall_ok (good := fun b => b = true) (force_good (by simp)) hm n f args σ test h
end Go.Am

set_option linter.unusedVariables false
set_option linter.unusedSimpArgs false
namespace Go.Am
open Go

/-- Flat values: nothing in memory hangs on them. -/
def flatV : AV → Bool
  | .undef | .bool _ | .int .. | .str _ | .nilp | .nils | .nilf | .nilif | .nilm => true
  | .agg xs | .tup xs => flatVs xs
  | .iface _ v => flatV v
  | _ => false
  where flatVs : List AV → Bool
  | [] => true
  | x :: xs => flatV x && flatVs xs

theorem flatVs_get : ∀ {xs : List AV}, flatV.flatVs xs = true → ∀ i, flatV (xs.getD i .undef) = true
  | [], _, i => by simp [flatV]
  | x :: xs, h, i => by
    simp only [flatV.flatVs, Bool.and_eq_true] at h
    cases i with
    | zero => simpa using h.1
    | succ i => simpa using flatVs_get h.2 i

theorem flat_cell {x : AV} (h : flatV x = true) (j : Nat) : flatV (x.cell j) = true := by
  have one : x.cells = [x] → flatV (x.cell j) = true := by
    intro e
    unfold AV.cell
    rw [e]
    cases j with
    | zero => exact h
    | succ j => simp [flatV]
  cases x with
  | agg cs => exact flatVs_get (xs := cs) (by simpa [flatV] using h) j
  | _ => exact one rfl

theorem VR.flat {Γ : Ctx} {x : AV} {y : Value} (h : VR Γ x y) (Γ' : Ctx) : flatV x = true → VR Γ' x y := by
  induction h with
  | undef v => intro _; exact .undef v
  | bool b => intro _; exact .bool b
  | int k n => intro _; exact .int k n
  | str s => intro _; exact .str s
  | nilp => intro _; exact .nilp
  | nils a => intro _; exact .nils a
  | agg cs vs h1 h2 h3 ih => intro hf; exact .agg cs vs h1 h2 fun i hi => ih i hi (flatVs_get (by simpa [flatV] using hf) i)
  | tup cs vs h1 h3 ih => intro hf; exact .tup cs vs h1 fun i hi => ih i hi (flatVs_get (by simpa [flatV] using hf) i)
  | nilf => intro _; exact .nilf
  | iface t v x h hs ih => intro hf; exact .iface t v x (ih (by simpa [flatV] using hf)) hs
  | nilif => intro _; exact .nilif
  | nilm => intro _; exact .nilm
  | _ => intro hf; simp [flatV] at hf

/-- Behind such a call: with a new row, or without. -/
def Ctx.thaw (Γ Γ₁ : Ctx) (nx : Nat) (R : Option Nat) : Ctx :=
  ⟨Γ₁.w, fun b c => Γ.St b c ∨ (Γ.w.heap.size ≤ b ∧ Γ₁.St b c), fun b => Γ.StO b ∨ (Γ.w.heap.size ≤ b ∧ Γ₁.StO b), fun i => match R with | some r => if i = nx then Γ₁.ρ r else Γ.ρ i | none => Γ.ρ i,
   fun i => Γ.dom i ∨ (R.isSome = true ∧ i = nx)⟩

def addO (σ : ASt) : Option Blk → ASt
  | none => σ
  | some b => addB σ [b]

section
variable {Γ Γ₁ : Ctx} {σ σ₁ : ASt} {D : Nat → Prop}

theorem seal0_inv (hI : Inv Γ σ) : Inv (Γ.seal σ 0) none0 := by
  refine ⟨fun id B h => (nomatch (none0_get id).symm.trans h), fun id id' B B' h => (nomatch (none0_get id).symm.trans h), fun id B h => (nomatch (none0_get id).symm.trans h), fun b c h => ?_, fun b h => ?_, fun id h => absurd (And.right h) (Nat.not_lt_zero _)⟩
  · rcases h with h | ⟨id, B, h, _, rfl⟩
    · exact hI.lt b c h
    · exact hI.blt h
  · rcases h with h | ⟨id, B, h, _, rfl⟩
    · exact hI.lto b h
    · exact hI.blt h

theorem thaw_good {R : Option Nat} {nb : Option Blk} (hI : Inv Γ σ) (hwp : σ.wp ≤ σ.next) (hG : Good (Γ.seal σ 0) none0 Γ₁ σ₁ D)
    (hR : (R = none ∧ nb = none) ∨ ∃ r k xs ty, R = some r ∧ nb = some (.row k xs none) ∧ σ₁.get r = some (.row k xs ty) ∧ flatV.flatVs xs = true) :
    Good Γ σ (Γ.thaw Γ₁ σ.next R) (addO σ nb) (σ.next ≤ ·) := by
  have hs := hG.step
  have hheap : ∀ b, b < Γ.w.heap.size → Γ₁.w.heap[b]? = Γ.w.heap[b]? := fun b hb => hs.frame b hb (fun id B hg _ => by rw [none0_get] at hg; cases hg)
  have own : ∀ id B, σ₁.get id = some B → Γ.w.heap.size ≤ (Γ₁.ρ id).b := by
    intro id B h
    rcases hs.own id B h (Nat.zero_le _) with h' | ⟨id0, B0, h0, _⟩
    · exact h'
    · rw [none0_get] at h0; cases h0
  have hρ : ∀ id, id < σ.next → (Γ.thaw Γ₁ σ.next R).ρ id = Γ.ρ id := by
    intro id h
    cases R with
    | none => rfl
    | some r => show (if id = σ.next then _ else _) = _; rw [if_neg (by omega)]
  have he : Ext Γ (Γ.thaw Γ₁ σ.next R) := ⟨fun id h => .inl h, fun id h => hρ id (hI.domlt id h), fun b c h => .inl h, fun b c h => hs.ext.cell b c (.inl h), fun b h => .inl h, fun b h => hs.ext.obj b (.inl h)⟩
  have hget : ∀ id, (addO σ nb).get id = if nb.isSome = true ∧ id = σ.next then nb else σ.get id := by
    intro id
    cases nb with
    | none => simp [addO]
    | some b =>
      show (σ.heap.set σ.next (some b)).get id = _
      rw [Tr.get_set]
      simp [ASt.get]
  have hold : ∀ id B, (addO σ nb).get id = some B → (id < σ.next ∧ σ.get id = some B) ∨ (id = σ.next ∧ nb = some B) := by
    intro id B h
    rw [hget] at h
    split at h
    · rename_i hc; exact .inr ⟨hc.2, h⟩
    · exact .inl ⟨(hI.blk id B h).2.1, h⟩
  have hnx : (addO σ nb).next = σ.next ∨ ((addO σ nb).next = σ.next + 1 ∧ nb.isSome = true) := by cases nb <;> simp [addO, addB]
  have hw : (addO σ nb).wp = σ.wp := by cases nb <;> rfl
  have hnew : ∀ B, nb = some B → ∃ r k xs ty, R = some r ∧ B = .row k xs none ∧ σ₁.get r = some (.row k xs ty) ∧ flatV.flatVs xs = true ∧ (Γ.thaw Γ₁ σ.next R).ρ σ.next = Γ₁.ρ r := by
    intro B hB
    rcases hR with ⟨_, h⟩ | ⟨r, k, xs, ty, h1, h2, h3, h4⟩
    · rw [h] at hB; cases hB
    · rw [h2] at hB
      obtain rfl := Option.some.inj hB
      subst h1
      exact ⟨r, k, xs, ty, rfl, rfl, h3, h4, by show (if σ.next = σ.next then _ else _) = _; rw [if_pos rfl]⟩
  refine ⟨⟨he, hs.size, hs.os, hs.tape, hs.output, fun b hb _ => hheap b hb, fun id B h hwid => ?_, fun id hid => ?_, hw, by rcases hnx with h | h <;> omega, fun b c h => ?_, fun b h => ?_⟩, ?_, fun j h => ?_⟩
  · rcases hold id B h with ⟨h1, h2⟩ | ⟨rfl, h2⟩
    · exact .inr ⟨id, B, h2, hwid, (congrArg BI.b (hρ id h1)).symm⟩
    · obtain ⟨r, k, xs, ty, _, _, h3, _, h5⟩ := hnew B h2
      exact .inl (by rw [h5]; exact own r _ h3)
  · rw [hget, if_neg (by intro hc; omega)]
  · rcases h with h | h
    · exact .inl h
    · exact .inr (.inl h.1)
  · rcases h with h | h
    · exact .inl h
    · exact .inr (.inl h.1)
  · refine ⟨fun id B h => ?_, fun id id' B B' h h' hne => ?_, fun id B h => ?_, fun b c h => ?_, fun b h => ?_, fun id h => ?_⟩
    · rcases hold id B h with ⟨h1, h2⟩ | ⟨rfl, h2⟩
      · refine ⟨.inl (hI.blk id B h2).1, by rcases hnx with h | h <;> omega, ?_⟩
        rw [hρ id h1]
        exact (hI.blk id B h2).2.2.ext he (hheap _ (hI.blt h2))
      · obtain ⟨r, k, xs, ty, hr, rfl, h3, h4, h5⟩ := hnew B h2
        refine ⟨.inr ⟨by rw [hr]; rfl, rfl⟩, by rcases hnx with h | h; (rw [h2] at h; simp [addO, addB] at h); omega, ?_⟩
        rw [h5]
        obtain ⟨a1, a2, arr, e, a3, a4, a5⟩ := (hG.inv.blk r _ h3).2.2
        exact ⟨a1, a2, arr, tyOf ty e, a3, a4, fun a ha => ⟨(a5 a ha).1, fun j hj => ⟨((a5 a ha).2 j hj).1, (((a5 a ha).2 j hj).2).flat _ (flat_cell (flatVs_get h4 a) j)⟩⟩⟩
    · rcases hold id B h with ⟨h1, h2⟩ | ⟨rfl, h2⟩
      · rcases hold id' B' h' with ⟨h3, h4⟩ | ⟨rfl, h4⟩
        · rw [hρ id h1, hρ id' h3]; exact hI.inj id id' B B' h2 h4 hne
        · obtain ⟨r, k, xs, ty, _, _, h5, _, h6⟩ := hnew B' h4
          rw [hρ id h1, h6]
          have := own r _ h5; have := hI.blt h2; omega
      · rcases hold id' B' h' with ⟨h3, h4⟩ | ⟨rfl, h4⟩
        · obtain ⟨r, k, xs, ty, _, _, h5, _, h6⟩ := hnew B h2
          rw [hρ id' h3, h6]
          have := own r _ h5; have := hI.blt h4; omega
        · exact absurd rfl hne
    · rcases hold id B h with ⟨h1, h2⟩ | ⟨rfl, h2⟩
      · rw [hρ id h1]
        have hb := hI.blt h2
        refine ⟨fun c hc hx => ?_, fun hx => ?_⟩
        · rcases hx with hx | hx
          · exact (hI.free id B h2).1 c hc hx
          · have := hx.1; omega
        · rcases hx with hx | hx
          · exact (hI.free id B h2).2 hx
          · have := hx.1; omega
      · obtain ⟨r, k, xs, ty, _, rfl, h5, _, h6⟩ := hnew B h2
        rw [h6]
        have hb := own r _ h5
        refine ⟨fun c hc hx => ?_, fun hx => ?_⟩
        · rcases hx with hx | hx
          · have := hI.lt _ _ hx; omega
          · exact (hG.inv.free r _ h5).1 c hc hx.2
        · rcases hx with hx | hx
          · have := hI.lto _ hx; omega
          · exact (hG.inv.free r _ h5).2 hx.2
    · rcases h with h | h
      · exact Nat.lt_of_lt_of_le (hI.lt b c h) hs.size
      · exact hG.inv.lt b c h.2
    · rcases h with h | h
      · exact Nat.lt_of_lt_of_le (hI.lto b h) hs.size
      · exact hG.inv.lto b h.2
    · rcases h with h | ⟨h, rfl⟩
      · have := hI.domlt id h; rcases hnx with h | h <;> omega
      · rcases hR with ⟨h1, _⟩ | ⟨r, k, xs, _, _, h2, _⟩
        · rw [h1] at h; cases h
        · rw [h2]; simp [addO, addB]
  · rcases h with h | ⟨_, rfl⟩
    · exact .inl h
    · exact .inr (Nat.le_refl _)

variable {P : Program} {cfg : Cfg} {f : FuncId} {args argsC : List AV} {fu : Nat}

theorem seal0_args (hI : Inv Γ σ) {vs : Array Value} (hf : FR Γ args vs) (hs : shutWs (jump σ 0 (shut σ 0 fu)) args = some argsC) : FR (Γ.seal σ 0) argsC vs := by
  obtain ⟨h1, h2⟩ := shutWs_get hs
  refine ⟨by rw [h1]; exact hf.1, fun i hi => ?_⟩
  have hi' : i < args.length := by rw [← h1]; exact hi
  exact (shut_good (lo := 0) hI (fu + 1)).vr _ _ _ (h2 i hi') (hf.2 i hi')

theorem seal0_gr (hglob : ∀ g, closedV (cfg.glob g) = true) (hg : GR Γ cfg) : GR (Γ.seal σ 0) cfg := fun g =>
  VR.ext (Γ := ⟨Γ.w, Γ.St, Γ.StO, Γ.ρ, fun _ => False⟩) (Γ' := Γ.seal σ 0) ⟨fun id h => h.elim, fun id h => h.elim, fun b c h => Or.inl h, fun _ _ _ => rfl, fun b h => Or.inl h, fun _ _ => rfl⟩ ((hg g).closed _ _ (hglob g))

/-- A call that looks at rows and gives something flat. -/
theorem CallRuns.flat {v : AV} (hglob : ∀ g, closedV (cfg.glob g) = true) (hs : shutWs (jump σ 0 (shut σ 0 fu)) args = some argsC) (h : CallRuns P cfg f argsC none0 (.ret v σ₁)) (hv : flatV v = true) : CallRuns P cfg f args σ (.ret v σ) := by
  intro Γ vs hwp hI hg hf
  refine (h (Γ.seal σ 0) vs (Nat.le_refl _) (seal0_inv hI) (seal0_gr hglob hg) (seal0_args hI hf hs)).mono fun e w' hp => ?_
  obtain ⟨y, Γ₁, he, hw, hvr, hG⟩ := hp
  exact ⟨y, Γ.thaw Γ₁ σ.next none, he, hw, hvr.flat _ hv, thaw_good (nb := none) hI hwp hG (.inl ⟨rfl, rfl⟩)⟩

/-- A call that gives a struct whose last field is a new row. -/
theorem CallRuns.row {cs xs : List AV} {k r lo n : Nat} {ty : Option TypeId} (hglob : ∀ g, closedV (cfg.glob g) = true) (hs : shutWs (jump σ 0 (shut σ 0 fu)) args = some argsC) (h : CallRuns P cfg f argsC none0 (.ret (.agg (cs ++ [.sl k r lo n])) σ₁)) (hc : flatV.flatVs cs = true)
    (hr : σ₁.get r = some (.row k xs ty)) (hx : flatV.flatVs xs = true) : CallRuns P cfg f args σ (.ret (.agg (cs ++ [.sl k σ.next lo n])) (addB σ [.row k xs none])) := by
  intro Γ vs hwp hI hg hf
  refine (h (Γ.seal σ 0) vs (Nat.le_refl _) (seal0_inv hI) (seal0_gr hglob hg) (seal0_args hI hf hs)).mono fun e w' hp => ?_
  obtain ⟨y, Γ₁, he, hw, hvr, hG⟩ := hp
  refine ⟨y, Γ.thaw Γ₁ σ.next (some r), he, hw, ?_, thaw_good (nb := some (.row k xs none)) hI hwp hG (.inr ⟨r, k, xs, ty, rfl, rfl, hr, hx⟩)⟩
  cases hvr with
  | agg _ ws h1 h2 h3 =>
    refine .agg _ ws (by simpa using h1) (fun i hi => h2 i (by simpa using hi)) fun i hi => ?_
    simp only [List.length_append, List.length_singleton] at hi
    have := h3 i (by simpa using hi)
    by_cases hlt : i < cs.length
    · have e : ∀ z, (cs ++ [z]).getD i AV.undef = cs.getD i .undef := fun z => by simp [List.getD, List.getElem?_append_left hlt]
      rw [e] at this ⊢
      exact this.flat _ (flatVs_get hc i)
    · have : i = cs.length := by omega
      subst this
      have e : ∀ z, (cs ++ [z]).getD cs.length AV.undef = z := fun z => by simp [List.getD]
      have h3 := h3 cs.length (by simp)
      rw [e] at h3 ⊢
      generalize ws.getD cs.length undef = z at h3
      cases h3 with
      | sl _ _ _ _ off cap g1 g2 g3 g4 g5 =>
        have eρ : (Γ.thaw Γ₁ σ.next (some r)).ρ σ.next = Γ₁.ρ r := by show (if σ.next = σ.next then _ else _) = _; rw [if_pos rfl]
        have := VR.sl (Γ := Γ.thaw Γ₁ σ.next (some r)) k σ.next lo n off cap (.inr ⟨rfl, rfl⟩) (by rw [eρ]; exact g2) (by rw [eρ]; exact g3) g4 g5
        rw [eρ] at this
        exact this
end
end Go.Am

set_option linter.unusedVariables false
set_option linter.unusedSimpArgs false
namespace Go.Am
open Go

section
variable (π : Nat → Option Nat)
mutual
def renV : AV → Option AV
  | .ptr id i off => (π id).map fun j => .ptr j i off
  | .rptr x off => (renV x).map fun y => .rptr y off
  | .lst xs none => (renVs xs).map fun ys => .lst ys none
  | .lst xs (some tk) => match renVs xs, π tk with
    | some ys, some j => some (.lst ys (some j))
    | _, _ => none
  | .sl k id lo n => (π id).map fun j => .sl k j lo n
  | .agg cs => (renVs cs).map .agg
  | .tup cs => (renVs cs).map .tup
  | .func f a b => match renVs a, renVs b with
    | some a', some b' => some (.func f a' b')
    | _, _ => none
  | .iface t v => (renV v).map (.iface t)
  | .map id => (π id).map .map
  | .iter id => (π id).map .iter
  | .pmap ks vs => match renVs ks, renVs vs with
    | some a, some b => some (.pmap a b)
    | _, _ => none
  | v => some v
def renVs : List AV → Option (List AV)
  | [] => some []
  | x :: xs => match renV x, renVs xs with
    | some y, some ys => some (y :: ys)
    | _, _ => none
end
def renB : Blk → Option Blk
  | .row k xs ty => (renVs π xs).map fun ys => .row k ys ty
  | .tok k n ty => some (.tok k n ty)
  | .map ks vs => match renVs π ks, renVs π vs with
    | some a, some b => some (.map a b)
    | _, _ => none
  | .iterS s p => some (.iterS s p)
end

section
variable {π : Nat → Option Nat}
theorem renVs_get : ∀ {xs ys : List AV}, renVs π xs = some ys → ys.length = xs.length ∧ ∀ i, i < xs.length → renV π (xs.getD i .undef) = some (ys.getD i .undef)
  | [], ys, h => by
    simp only [renVs, Option.some.injEq] at h
    subst h
    exact ⟨rfl, fun i hi => by simp at hi⟩
  | x :: xs, ys, h => by
    simp only [renVs] at h
    split at h
    · rename_i y ys' h1 h2
      obtain rfl := Option.some.inj h
      obtain ⟨a, b⟩ := renVs_get h2
      refine ⟨by simp [a], fun i hi => ?_⟩
      cases i with
      | zero => simpa using h1
      | succ i => simpa using b i (by simpa using hi)
    · cases h

theorem renV_cells {x y : AV} (h : renV π x = some y) : y.cells.length = x.cells.length ∧ ∀ j, j < x.cells.length → renV π (x.cell j) = some (y.cell j) := by
  have one : x.cells = [x] → y.cells = [y] → y.cells.length = x.cells.length ∧ ∀ j, j < x.cells.length → renV π (x.cell j) = some (y.cell j) := by
    intro h1 h2
    refine ⟨by rw [h1, h2]; rfl, fun j hj => ?_⟩
    rw [h1] at hj
    have : j = 0 := by simpa using hj
    subst this
    simp only [AV.cell, h1, h2]
    exact h
  cases x with
  | agg cs =>
    simp only [renV] at h
    obtain ⟨ys, hy, rfl⟩ := map_some_inv h
    exact renVs_get hy
  | undef => simp only [renV, Option.some.injEq] at h; subst h; exact one rfl rfl
  | bool b => simp only [renV, Option.some.injEq] at h; subst h; exact one rfl rfl
  | int k n => simp only [renV, Option.some.injEq] at h; subst h; exact one rfl rfl
  | str s => simp only [renV, Option.some.injEq] at h; subst h; exact one rfl rfl
  | nilp => simp only [renV, Option.some.injEq] at h; subst h; exact one rfl rfl
  | nils => simp only [renV, Option.some.injEq] at h; subst h; exact one rfl rfl
  | nilf => simp only [renV, Option.some.injEq] at h; subst h; exact one rfl rfl
  | nilif => simp only [renV, Option.some.injEq] at h; subst h; exact one rfl rfl
  | nilm => simp only [renV, Option.some.injEq] at h; subst h; exact one rfl rfl
  | ptr id i off => simp only [renV] at h; obtain ⟨j, hj, rfl⟩ := map_some_inv h; exact one rfl rfl
  | rptr x off => simp only [renV] at h; obtain ⟨j, hj, rfl⟩ := map_some_inv h; exact one rfl rfl
  | sl k id lo n => simp only [renV] at h; obtain ⟨j, hj, rfl⟩ := map_some_inv h; exact one rfl rfl
  | tup cs => simp only [renV] at h; obtain ⟨j, hj, rfl⟩ := map_some_inv h; exact one rfl rfl
  | iface t v => simp only [renV] at h; obtain ⟨j, hj, rfl⟩ := map_some_inv h; exact one rfl rfl
  | map id => simp only [renV] at h; obtain ⟨j, hj, rfl⟩ := map_some_inv h; exact one rfl rfl
  | iter id => simp only [renV] at h; obtain ⟨j, hj, rfl⟩ := map_some_inv h; exact one rfl rfl
  | lst xs t =>
    cases t with
    | none => simp only [renV] at h; obtain ⟨j, hj, rfl⟩ := map_some_inv h; exact one rfl rfl
    | some tk =>
      simp only [renV] at h
      split at h
      · obtain rfl := Option.some.inj h; exact one rfl rfl
      · cases h
  | func f a b =>
    simp only [renV] at h
    split at h
    · obtain rfl := Option.some.inj h; exact one rfl rfl
    · cases h
  | pmap ks vs =>
    simp only [renV] at h
    split at h
    · obtain rfl := Option.some.inj h; exact one rfl rfl
    · cases h

theorem renV_storable {x y : AV} (h : renV π x = some y) (hs : x.storable = true) : y.storable = true := by
  cases x with
  | undef => simp [AV.storable] at hs
  | tup xs => simp [AV.storable] at hs
  | lst xs t =>
    cases t with
    | none => simp only [renV] at h; obtain ⟨j, hj, rfl⟩ := map_some_inv h; rfl
    | some tk =>
      simp only [renV] at h
      split at h
      · obtain rfl := Option.some.inj h; rfl
      · cases h
  | func f a b =>
    simp only [renV] at h
    split at h
    · obtain rfl := Option.some.inj h; rfl
    · cases h
  | pmap ks vs =>
    simp only [renV] at h
    split at h
    · obtain rfl := Option.some.inj h; rfl
    · cases h
  | agg cs => simp only [renV] at h; obtain ⟨j, hj, rfl⟩ := map_some_inv h; rfl
  | ptr id i off => simp only [renV] at h; obtain ⟨j, hj, rfl⟩ := map_some_inv h; rfl
  | rptr x off => simp only [renV] at h; obtain ⟨j, hj, rfl⟩ := map_some_inv h; rfl
  | sl k id lo n => simp only [renV] at h; obtain ⟨j, hj, rfl⟩ := map_some_inv h; rfl
  | iface t v => simp only [renV] at h; obtain ⟨j, hj, rfl⟩ := map_some_inv h; rfl
  | map id => simp only [renV] at h; obtain ⟨j, hj, rfl⟩ := map_some_inv h; rfl
  | iter id => simp only [renV] at h; obtain ⟨j, hj, rfl⟩ := map_some_inv h; rfl
  | _ => simp only [renV, Option.some.injEq] at h; subst h; exact hs

/-- Two contexts over one world, whose ids are named anew. -/
structure RenC (π : Nat → Option Nat) (Γ Γ' : Ctx) : Prop where
  w : Γ'.w = Γ.w
  St : Γ'.St = Γ.St
  StO : Γ'.StO = Γ.StO
  dom : ∀ id j, Γ.dom id → π id = some j → Γ'.dom j ∧ Γ'.ρ j = Γ.ρ id

theorem VR.ren {Γ Γ' : Ctx} (hR : RenC π Γ Γ') {v : AV} {y : Value} (h : VR Γ v y) : ∀ u, renV π v = some u → VR Γ' u y := by
  have hcell : ∀ a, Γ'.w.cell? a = Γ.w.cell? a := fun a => by rw [hR.w]
  induction h with
  | undef v => intro u hu; simp only [renV, Option.some.injEq] at hu; subst hu; exact .undef _
  | bool b => intro u hu; simp only [renV, Option.some.injEq] at hu; subst hu; exact .bool _
  | int k n => intro u hu; simp only [renV, Option.some.injEq] at hu; subst hu; exact .int _ _
  | str s => intro u hu; simp only [renV, Option.some.injEq] at hu; subst hu; exact .str _
  | nilp => intro u hu; simp only [renV, Option.some.injEq] at hu; subst hu; exact .nilp
  | nils a => intro u hu; simp only [renV, Option.some.injEq] at hu; subst hu; exact .nils _
  | nilf => intro u hu; simp only [renV, Option.some.injEq] at hu; subst hu; exact .nilf
  | nilif => intro u hu; simp only [renV, Option.some.injEq] at hu; subst hu; exact .nilif
  | nilm => intro u hu; simp only [renV, Option.some.injEq] at hu; subst hu; exact .nilm
  | ptr id i off h =>
    intro u hu
    simp only [renV] at hu
    obtain ⟨j, hj, rfl⟩ := map_some_inv hu
    obtain ⟨h1, h2⟩ := hR.dom id j h hj
    rw [← h2]
    exact .ptr j i off h1
  | rptr x off b o f hc hv ih =>
    intro u hu
    simp only [renV] at hu
    obtain ⟨z, hz, rfl⟩ := map_some_inv hu
    obtain ⟨h1, h2⟩ := renV_cells hz
    exact .rptr z off b o f (fun j hj => by rw [hR.St, hcell]; exact hc j (by rw [← h1]; exact hj)) fun j hj => ih j (by rw [← h1]; exact hj) _ (h2 j (by rw [← h1]; exact hj))
  | lst xs t a b o k cap f ha hk hc hv ht hl ih =>
    intro u hu
    have key : ∀ ys t', renVs π xs = some ys → (∀ tk, t' = some tk → ∃ t0, t = some t0 ∧ π t0 = some tk) → VR Γ' (.lst ys t') (.slice a xs.length cap) := by
      intro ys t' hy htt
      obtain ⟨h1, h2⟩ := renVs_get hy
      rw [← h1]
      refine .lst ys t' a b o k cap f (fun hne => ha fun e => hne (by rw [e] at h1; exact List.eq_nil_of_length_eq_zero h1)) (fun i hi => ?_) (fun i j hi hj => by rw [hR.St, hcell]; exact hc i j (by rw [← h1]; exact hi) hj) (fun i j hi hj => ?_) (fun tk htk => ?_) (by rw [h1]; exact hl)
      · rw [(renV_cells (h2 i (by rw [← h1]; exact hi))).1]; exact hk i (by rw [← h1]; exact hi)
      · have hi' : i < xs.length := by rw [← h1]; exact hi
        exact ih i j hi' hj _ ((renV_cells (h2 i hi')).2 j (by rw [hk i hi']; exact hj))
      · obtain ⟨t0, e1, e2⟩ := htt tk htk
        obtain ⟨g1, g2, g3, g4, g5⟩ := ht t0 e1
        obtain ⟨d1, d2⟩ := hR.dom t0 tk g1 e2
        rw [d2]
        exact ⟨d1, g2, g3, fun e => g4 (by rw [e] at h1; exact List.eq_nil_of_length_eq_zero h1.symm), g5⟩
    cases t with
    | none =>
      simp only [renV] at hu
      obtain ⟨ys, hy, rfl⟩ := map_some_inv hu
      exact key ys none hy fun tk h => by cases h
    | some t0 =>
      simp only [renV] at hu
      split at hu
      · rename_i ys j hy hj
        obtain rfl := Option.some.inj hu
        exact key ys (some j) hy fun tk h => ⟨t0, rfl, by rw [hj]; exact h⟩
      · cases hu
  | sl k id lo n off cap h1 h2 h3 h4 h5 =>
    intro u hu
    simp only [renV] at hu
    obtain ⟨j, hj, rfl⟩ := map_some_inv hu
    obtain ⟨d1, d2⟩ := hR.dom id j h1 hj
    rw [← d2] at h2 h3 ⊢
    exact .sl k j lo n off cap d1 h2 h3 h4 h5
  | agg cs vs h1 h2 h3 ih =>
    intro u hu
    simp only [renV] at hu
    obtain ⟨ys, hy, rfl⟩ := map_some_inv hu
    obtain ⟨e1, e2⟩ := renVs_get hy
    exact .agg ys vs (by rw [e1]; exact h1) (fun i hi => h2 i (by rw [← e1]; exact hi)) fun i hi => ih i (by rw [← e1]; exact hi) _ (e2 i (by rw [← e1]; exact hi))
  | tup cs vs h1 h3 ih =>
    intro u hu
    simp only [renV] at hu
    obtain ⟨ys, hy, rfl⟩ := map_some_inv hu
    obtain ⟨e1, e2⟩ := renVs_get hy
    exact .tup ys vs (by rw [e1]; exact h1) fun i hi => ih i (by rw [← e1]; exact hi) _ (e2 i (by rw [← e1]; exact hi))
  | func f a b va vb h1 h2 h3 h4 ih1 ih2 =>
    intro u hu
    simp only [renV] at hu
    split at hu
    · rename_i a' b' ha hb
      obtain rfl := Option.some.inj hu
      obtain ⟨e1, e2⟩ := renVs_get ha
      obtain ⟨e3, e4⟩ := renVs_get hb
      exact .func f a' b' va vb (by rw [e1]; exact h1) (by rw [e3]; exact h2) (fun i hi => ih1 i (by rw [← e1]; exact hi) _ (e2 i (by rw [← e1]; exact hi))) fun i hi => ih2 i (by rw [← e3]; exact hi) _ (e4 i (by rw [← e3]; exact hi))
    · cases hu
  | iface t v x h hs ih =>
    intro u hu
    simp only [renV] at hu
    obtain ⟨z, hz, rfl⟩ := map_some_inv hu
    exact .iface t z x (ih z hz) (renV_storable hz hs)
  | map id h =>
    intro u hu
    simp only [renV] at hu
    obtain ⟨j, hj, rfl⟩ := map_some_inv hu
    obtain ⟨d1, d2⟩ := hR.dom id j h hj
    rw [← d2]
    exact .map j d1
  | pmap ks vs b es clock h1 h2 h3 h4 h5 h6 ih1 ih2 =>
    intro u hu
    simp only [renV] at hu
    split at hu
    · rename_i a' b' ha hb
      obtain rfl := Option.some.inj hu
      obtain ⟨e1, e2⟩ := renVs_get ha
      obtain ⟨e3, e4⟩ := renVs_get hb
      exact .pmap a' b' b es clock (by rw [hR.StO]; exact h1) (by rw [hR.w]; exact h2) (by rw [e1]; exact h3) (by rw [e3]; exact h4) (fun i hi => ih1 i hi _ (e2 i (by omega))) fun i hi => ih2 i hi _ (e4 i (by omega))
    · cases hu

theorem BlkR.ren {Γ Γ' : Ctx} (hR : RenC π Γ Γ') {i : BI} {B C : Blk} (h : BlkR Γ i B) (hC : renB π B = some C) : BlkR Γ' i C ∧ C.lo = B.lo := by
  cases B with
  | row k xs ty =>
    simp only [renB] at hC
    obtain ⟨ys, hy, rfl⟩ := map_some_inv hC
    obtain ⟨e1, e2⟩ := renVs_get hy
    obtain ⟨h1, h2, arr, t, h3, h4, h5⟩ := h
    refine ⟨⟨h1, by rw [e1]; exact h2, arr, t, by rw [hR.w]; exact h3, h4, fun a ha => ?_⟩, rfl⟩
    have ha' : a < xs.length := by rw [← e1]; exact ha
    obtain ⟨c1, c2⟩ := renV_cells (e2 a ha')
    exact ⟨by rw [c1]; exact (h5 a ha').1, fun j hj => ⟨((h5 a ha').2 j hj).1, ((h5 a ha').2 j hj).2.ren hR _ (c2 j (by rw [(h5 a ha').1]; exact hj))⟩⟩
  | tok k n ty =>
    obtain rfl := Option.some.inj hC
    obtain ⟨h1, h2, h3, arr, t, h4, h5⟩ := h
    exact ⟨⟨h1, h2, h3, arr, t, by rw [hR.w]; exact h4, h5⟩, rfl⟩
  | map ks vs =>
    simp only [renB] at hC
    split at hC
    · rename_i a b ha hb
      obtain rfl := Option.some.inj hC
      obtain ⟨e1, e2⟩ := renVs_get ha
      obtain ⟨e3, e4⟩ := renVs_get hb
      obtain ⟨es, c, h1, h2, h3, h4, h5⟩ := h
      exact ⟨⟨es, c, by rw [hR.w]; exact h1, by rw [e1]; exact h2, by rw [e3]; exact h3, fun a ha => (h4 a ha).ren hR _ (e2 a (by omega)), fun a ha => (h5 a ha).ren hR _ (e4 a (by omega))⟩, rfl⟩
    · cases hC
  | iterS s p =>
    obtain rfl := Option.some.inj hC
    exact ⟨by show Γ'.w.heap[i.b]? = _; rw [hR.w]; exact h, rfl⟩

/-- The names: what was there keeps its own; 'q' is the way back. -/
structure Names (π : Nat → Option Nat) (q : Nat → Nat) (lo hi : Nat) : Prop where
  old : ∀ id, id < lo → π id = some id
  new : ∀ id j, lo ≤ id → π id = some j → lo ≤ j ∧ j < hi ∧ q j = id
  le : lo ≤ hi

def Ctx.ren (Γ Γ' : Ctx) (π : Nat → Option Nat) (q : Nat → Nat) (lo : Nat) : Ctx :=
  ⟨Γ'.w, Γ'.St, Γ'.StO, fun j => if j < lo then Γ.ρ j else Γ'.ρ (q j), fun j => if j < lo then Γ.dom j else Γ'.dom (q j) ∧ π (q j) = some j⟩

theorem ren_good {Γ Γ' : Ctx} {σ σ' σ2 : ASt} {q : Nat → Nat} (hI : Inv Γ σ) (hG : Good Γ σ Γ' σ' (σ.next ≤ ·)) (hN : Names π q σ.next σ2.next) (hw : σ2.wp = σ'.wp) (hwn : σ.wp ≤ σ.next) (hro : ∀ id, id < σ.wp → σ2.get id = σ.get id)
    (hb : ∀ j B, σ2.get j = some B → ∃ id C, π id = some j ∧ σ'.get id = some C ∧ renB π C = some B) :
    RenC π Γ' (Γ.ren Γ' π q σ.next) ∧ Good Γ σ (Γ.ren Γ' π q σ.next) σ2 (σ.next ≤ ·) := by
  have hold : ∀ id, id < σ.next → Γ'.dom id → Γ.dom id := fun id h hd => (hG.dom id hd).elim (fun h => h) fun h' => by omega
  have hR : RenC π Γ' (Γ.ren Γ' π q σ.next) := by
    refine ⟨rfl, rfl, rfl, fun id j hd hj => ?_⟩
    by_cases hid : id < σ.next
    · have := hN.old id hid
      rw [hj] at this
      obtain rfl := Option.some.inj this
      have hΓ := hold j hid hd
      exact ⟨by show (if j < σ.next then _ else _); rw [if_pos hid]; exact hΓ, by show (if j < σ.next then _ else _) = _; rw [if_pos hid]; exact (hG.step.ext.ρ j hΓ).symm⟩
    · obtain ⟨h1, h2, h3⟩ := hN.new id j (Nat.le_of_not_lt hid) hj
      have hn : ¬ j < σ.next := by omega
      exact ⟨by show (if j < σ.next then _ else _); rw [if_neg hn, h3]; exact ⟨hd, hj⟩, by show (if j < σ.next then _ else _) = _; rw [if_neg hn, h3]⟩
  have he : Ext Γ (Γ.ren Γ' π q σ.next) := by
    refine ⟨fun id h => ?_, fun id h => ?_, hG.step.ext.st, hG.step.ext.cell, hG.step.ext.sto, hG.step.ext.obj⟩
    · show (if id < σ.next then _ else _); rw [if_pos (hI.domlt id h)]; exact h
    · show (if id < σ.next then _ else _) = _; rw [if_pos (hI.domlt id h)]
  have hblk : ∀ j B, σ2.get j = some B → ∃ id C, π id = some j ∧ σ'.get id = some C ∧ renB π C = some B ∧ (Γ.ren Γ' π q σ.next).ρ j = Γ'.ρ id ∧ (Γ.ren Γ' π q σ.next).dom j := by
    intro j B h
    obtain ⟨id, C, h1, h2, h3⟩ := hb j B h
    obtain ⟨d1, d2⟩ := hR.dom id j (hG.inv.blk id C h2).1 h1
    exact ⟨id, C, h1, h2, h3, d2, d1⟩
  refine ⟨hR, ⟨⟨he, hG.step.size, hG.step.os, hG.step.tape, hG.step.output, hG.step.frame, fun j B h hwj => ?_, hro, hw.trans hG.step.wp, hN.le, hG.step.stg, hG.step.stog⟩, ?_, fun j h => ?_⟩⟩
  · obtain ⟨id, C, h1, h2, h3, h4, h5⟩ := hblk j B h
    rw [h4]
    refine hG.step.own id C h2 ?_
    by_cases hid : id < σ.next
    · have := hN.old id hid
      rw [h1] at this
      obtain rfl := Option.some.inj this
      exact hwj
    · omega
  · refine ⟨fun j B h => ?_, fun j j' B B' h h' hne => ?_, fun j B h => ?_, hG.inv.lt, hG.inv.lto, fun j h => ?_⟩
    · obtain ⟨id, C, h1, h2, h3, h4, h5⟩ := hblk j B h
      refine ⟨h5, ?_, ?_⟩
      · by_cases hid : id < σ.next
        · have := hN.old id hid
          rw [h1] at this
          obtain rfl := Option.some.inj this
          exact Nat.lt_of_lt_of_le hid hN.le
        · exact (hN.new id j (Nat.le_of_not_lt hid) h1).2.1
      · rw [h4]; exact ((hG.inv.blk id C h2).2.2.ren hR h3).1
    · obtain ⟨id, C, h1, h2, h3, h4, h5⟩ := hblk j B h
      obtain ⟨id', C', h1', h2', h3', h4', h5'⟩ := hblk j' B' h'
      rw [h4, h4']
      refine hG.inv.inj id id' C C' h2 h2' ?_
      rintro rfl
      rw [h1] at h1'
      exact hne (Option.some.inj h1')
    · obtain ⟨id, C, h1, h2, h3, h4, h5⟩ := hblk j B h
      rw [h4, ((hG.inv.blk id C h2).2.2.ren hR h3).2]
      exact hG.inv.free id C h2
    · by_cases hj : j < σ.next
      · exact Nat.lt_of_lt_of_le hj hN.le
      · have h : (if j < σ.next then Γ.dom j else Γ'.dom (q j) ∧ π (q j) = some j) := h
        rw [if_neg hj] at h
        by_cases hid : q j < σ.next
        · have := hN.old _ hid
          rw [h.2] at this
          have := Option.some.inj this
          omega
        · exact (hN.new _ j (Nat.le_of_not_lt hid) h.2).2.1
  · by_cases hj : j < σ.next
    · have h : (if j < σ.next then Γ.dom j else Γ'.dom (q j) ∧ π (q j) = some j) := h
      rw [if_pos hj] at h
      exact .inl h
    · exact .inr (Nat.le_of_not_lt hj)

variable {P : Program} {cfg : Cfg}

/-- What code comes to, under other names, and with less. -/
theorem Runs.ren {c : Code} {fr fr' fr2 : AFr} {σ σ' σ2 : ASt} {fl : Flow} {q : Nat → Nat} (h : Runs P cfg c fr σ fl fr' σ') (hfl : ∀ v, fl ≠ .panic v) (hN : Names π q σ.next σ2.next) (hw : σ2.wp = σ'.wp) (hro : ∀ id, id < σ.wp → σ2.get id = σ.get id)
    (hb : ∀ j B, σ2.get j = some B → ∃ id C, π id = some j ∧ σ'.get id = some C ∧ renB π C = some B)
    (hds : fr'.ds = [] ∧ fr2.ds = []) (hl : fr2.ts.length = fr'.ts.length) (hts : ∀ i, fr2.ts.getD i .undef = .undef ∨ renV π (fr'.ts.getD i .undef) = some (fr2.ts.getD i .undef)) : Runs P cfg c fr σ fl fr2 σ2 := by
  intro Γ a Q hwp hI hg hf hQ
  refine h Γ a Q hwp hI hg hf fun Γ' a' hG hf' => ?_
  obtain ⟨hR, hG2⟩ := ren_good hI hG hN hw hwp hro hb
  have hf2 : FRel (Γ.ren Γ' π q σ.next) fr2 a' := by
    refine ⟨⟨by rw [hl]; exact hf'.ts.1, fun i hi => ?_⟩, ?_⟩
    · rcases hts i with h | h
      · rw [h]; exact .undef _
      · exact (hf'.ts.get i).ren hR _ h
    · have := hf'.ds
      rw [hds.1] at this
      rw [hds.2]
      generalize a'.defers = ad at this ⊢
      cases this
      exact .nil
  have := hQ (Γ.ren Γ' π q σ.next) a' hG2 hf2
  cases fl with
  | norm => exact this
  | ret => exact this
  | exit b => exact this
  | panic v => exact absurd rfl (hfl v)
end
end Go.Am
