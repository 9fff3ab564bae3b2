/-
EvalCopies: the program's form; the library's contracts.
EvalCopies: closed runs: what comes of reading the program, that it is right, and awake.
-/
import Derived.Test.YtphihegaandnhaaGreatE1
import Derived.Lib.Bytealg
import Derived.Laws.Externs
import Derived.Test.YtphihegaandnhaaGreatE2
set_option linter.unusedVariables false
set_option linter.unusedSimpArgs false
namespace Go.Proofs.Ec
open Go Go.Am

theorem preB_eq : ∀ (t s : List UInt8), preB t s = t.isPrefixOf s
  | [], s => by cases s <;> rfl
  | a :: x, [] => rfl
  | a :: x, b :: y => by
    simp only [preB, List.isPrefixOf_cons_cons, preB_eq x y]
    by_cases h : a = b
    · subst h
      have : Nat.beq a.toNat a.toNat = true := Nat.beq_refl _
      simp [this]
    · have h1 : Nat.beq a.toNat b.toNat = false := by
        cases hb : Nat.beq a.toNat b.toNat with
        | false => rfl
        | true => exact absurd (UInt8.toNat_inj.1 (Nat.eq_of_beq_eq_true hb)) h
      have h2 : (a == b) = false := by simpa using h
      simp [h1, h2]

theorem idxB_eq (t : List UInt8) : ∀ (s : List UInt8) (i : Nat), idxB t i s = if Lib.index s t = -1 then -1 else Int.ofNat i + Lib.index s t
  | [], i => by
    simp only [idxB, Lib.index]
    cases t with
    | nil => simp [preB]
    | cons a x => simp [preB]
  | b :: s, i => by
    have h0 := Lib.index_ge s t
    have ih := idxB_eq t s (Nat.succ i)
    by_cases hp : t.isPrefixOf (b :: s) = true
    · have h1 : Lib.index (b :: s) t = 0 := by rw [Lib.index, if_pos hp]
      rw [h1]
      simp [idxB, preB_eq, hp]
    · have hpf : t.isPrefixOf (b :: s) = false := by
        cases hq : t.isPrefixOf (b :: s) with
        | true => exact absurd hq hp
        | false => rfl
      have h1 : idxB t i (b :: s) = idxB t (Nat.succ i) s := by simp only [idxB, preB_eq, hpf, cond_false]
      rw [h1, ih]
      by_cases h : Lib.index s t = -1
      · have h2 : Lib.index (b :: s) t = -1 := by rw [Lib.index, if_neg hp]; simp [h]
        simp [h, h2]
      · have hb : ¬ (Lib.index s t == -1) = true := by simpa using h
        have h2 : Lib.index (b :: s) t = Lib.index s t + 1 := by rw [Lib.index, if_neg hp, if_neg hb]
        rw [h2, if_neg h, if_neg (by omega)]
        show ((i + 1 : Nat) : Int) + _ = (i : Int) + _
        omega
theorem idxB0 (s t : List UInt8) : idxB t 0 s = Lib.index s t := by
  rw [idxB_eq]
  by_cases h : Lib.index s t = -1
  · simp [h]
  · simp [h]

theorem idxOne (c : UInt8) (s : List UInt8) : Lib.index s [c] = Lib.indexByte s c := by
  induction s with
  | nil => rfl
  | cons b l ih =>
    simp only [Lib.index, Lib.indexByte, ih]
    by_cases h : b = c
    · subst h; simp
    · have h1 : (b == c) = false := by simpa using h
      have h2 : (c == b) = false := by simpa using fun e => h e.symm
      have h3 : ¬ c = b := fun e => h e.symm
      simp [h1, h2, h3]

theorem fr_two {Γ : Ctx} {a b : AV} {vs : Array Value} (h : FR Γ [a, b] vs) : ∃ x y, vs = #[x, y] ∧ VR Γ a x ∧ VR Γ b y := by
  obtain ⟨h1, h2⟩ := h
  have hs : vs.size = 2 := by simpa using h1
  refine ⟨vs[0], vs[1], ?_, ?_, ?_⟩
  · apply Array.ext
    · simp [hs]
    · intro i hi1 hi2
      have : i = 0 ∨ i = 1 := by omega
      rcases this with rfl | rfl <;> rfl
  · have := h2 0 (by simp)
    simpa [Array.getD, hs] using this
  · have := h2 1 (by simp)
    simpa [Array.getD, hs] using this

theorem maxLen {Γ : Ctx} {m : Int} {e : ExtF} (hg : GR Γ (cfgOf m e)) : Γ.w.cell? ⟨0, 0, none⟩ = some (.int .i64 m) := by
  have h := hg 0
  have h : VR Γ (.rptr (.int .i64 m) 0) (.pointer (some (at0 0 0))) := h
  generalize hp : (Value.pointer (some (at0 0 0))) = p at h
  cases h with
  | rptr x off b o f hc hv =>
    simp only [Value.pointer.injEq, Option.some.injEq, Addr.mk.injEq] at hp
    obtain ⟨hb, ho, _⟩ := hp
    have h1 := (hc 0 (by simp [AV.cells])).2.1
    have h2 := hv 0 (by simp [AV.cells])
    have e1 : (AV.int IntKind.i64 m).cell 0 = .int .i64 m := rfl
    rw [e1] at h2
    have hb0 : b = 0 := hb.symm
    have ho0 : o = 0 := by omega
    subst hb0 ho0
    generalize hf : f 0 = z at h1 h2
    cases h2
    exact h1

theorem noGo : P.funcs.toList.all (fun fn => !(fn.name == "runtime.NumGoroutine")) = true := by kernel_rfl
theorem ng0 (f : FuncId) (fn : Func) (h : P.funcs[f]? = some fn) : (fn.name == "runtime.NumGoroutine") = false := by
  have h1 := noGo
  simp only [List.all_eq_true, Bool.not_eq_true'] at h1
  exact h1 fn (Array.mem_toList_iff.2 (Array.mem_of_getElem? h))

theorem has131 : (P.funcs[131]?).any (fun fn => fn.body.isSome) = true := by kernel_rfl

theorem idx_runs (m : Int) (e : ExtF) (s t : List UInt8) (hs : s.length < 4294967281) (σ : ASt) : CallRuns P (cfgOf m e) 131 [.str s, .str t] σ (.ret (.int .i64 (idxB t 0 s)) σ) := by
  intro Γ vs hwp hI hg hf
  obtain ⟨x, y, rfl, h1, h2⟩ := fr_two hf
  cases h1
  cases h2
  have hb := has131
  cases hfn : P.funcs[131]? with
  | none => rw [hfn] at hb; cases hb
  | some fn =>
  rw [hfn] at hb
  simp only [Option.any_some] at hb
  obtain ⟨c, hc⟩ := Option.isSome_iff_exists.1 hb
  refine .inl ⟨MuLone.run_callFunc_enter hfn (ng0 131 fn hfn) hc _ Γ.w, ?_⟩
  refine (Tryz.stringslite_Index ⟨s.toArray⟩ ⟨t.toArray⟩ m Γ.w (by simpa [ByteArray.size] using hs) (maxLen hg)).mono fun e w' he => ?_
  obtain ⟨he, hw⟩ := he
  refine ⟨_, Γ, he, hw.symm, ?_, .refl hI⟩
  rw [idxB0]
  exact .int _ _

theorem byte_runs (m : Int) (e : ExtF) (s : List UInt8) (c : Int) (σ : ASt) : CallRuns P (cfgOf m e) 157 [.str s, .int .u8 c] σ (.ret (.int .i64 (idxB [UInt8.ofNat c.toNat] 0 s)) σ) := by
  intro Γ vs hwp hI hg hf
  obtain ⟨x, y, rfl, h1, h2⟩ := fr_two hf
  cases h1
  cases h2
  refine .inr ⟨.int .i64 (idxB [UInt8.ofNat c.toNat] 0 s), Γ.w, ?_, .int .i64 (idxB [UInt8.ofNat c.toNat] 0 s), Γ, rfl, rfl, .int _ _, .refl hI⟩
  · rw [run_callFunc_extern Tryz.func157 (by kernel_rfl) (by kernel_rfl) (by kernel_rfl) (e := Extern.BytealgIndexByte.indexByte) (by kernel_rfl), run_indexByte_string]
    simp only [Result.andThen]
    rw [idxB0, idxOne, Lib.firstIdx_eq]

theorem pf0 (m : Int) : PF P (cfgOf m ext0) := by
  refine ⟨by kernel_rfl, ng0, fun f args σ v bs h0 => ?_⟩
  have h : ext0 f args σ = some (true, v, bs) := h0
  clear h0
  unfold ext0 at h
  cases h1 : Nat.beq f 131 with
  | true =>
    rw [h1] at h
    simp only [cond_true] at h
    obtain rfl := Nat.eq_of_beq_eq_true h1
    unfold extIdx at h
    split at h
    · rename_i s t
      simp only [Option.some.injEq, Prod.mk.injEq] at h
      obtain ⟨hb, rfl, rfl⟩ := h
      exact idx_runs m ext0 s t (by have := shortB_ok s _ hb; omega) σ
    · cases h
  | false =>
    rw [h1] at h
    simp only [cond_false] at h
    cases h2 : Nat.beq f 157 with
    | true =>
      rw [h2] at h
      simp only [cond_true] at h
      obtain rfl := Nat.eq_of_beq_eq_true h2
      unfold extByte at h
      split at h
      · rename_i s c
        simp only [Option.some.injEq, Prod.mk.injEq] at h
        obtain ⟨_, rfl, rfl⟩ := h
        exact byte_runs m ext0 s c σ
      · cases h
    | false =>
      rw [h2] at h
      simp [noExt] at h
end Go.Proofs.Ec

set_option linter.unusedVariables false
set_option linter.unusedSimpArgs false
namespace Go.Proofs.Ec
open Go Go.Am

theorem bytes_eq : ∀ (a b : List UInt8), beqBytes a b = true → a = b
  | [], [], _ => rfl
  | [], _ :: _, h => by simp [beqBytes] at h
  | _ :: _, [], h => by simp [beqBytes] at h
  | a :: x, b :: y, h => by
    simp only [beqBytes] at h
    cases hb : Nat.beq a.toNat b.toNat with
    | false => rw [hb] at h; cases h
    | true =>
      rw [hb] at h
      rw [UInt8.toNat_inj.1 (Nat.eq_of_beq_eq_true hb), bytes_eq x y h]

/-- The two texts that are read. -/
def extParse : List AV → ASt → Option (Bool × AV × List Blk) := fun args σ => match args with
  | [.str s] => cond (beqBytes s text2) (some (true, p0, [])) (cond (beqBytes s text1) (some (true, p1, [])) none)
  | _ => none
noncomputable def extA : ExtF := fun f => cond (Nat.beq f 131) extIdx (cond (Nat.beq f 157) extByte (cond (Nat.beq f 4) extParse noExt))

theorem parse_pure {m : Int} {s : List UInt8} {p : AV} {b : Bool} (hb : ecall P (cfgOf m ext0) (force false) 3000 4 [.str s] none0 (testP p) = true) (σ : ASt) : CallRuns P (cfgOf m ext0) 4 [.str s] σ (.ret p σ) := by
  obtain ⟨cr, hc, ht⟩ := closed_runs (pf0 m) (mode0 m ext0) hb
  cases cr with
  | panic _ _ => cases ht
  | ret u σ' =>
    simp only [testP] at ht
    split at ht
    · rename_i u' hs
      obtain rfl := AV.beq_eq _ _ ht
      exact CallRuns.pure (globC m ext0) hc rfl hs σ
    · cases ht
theorem parse_ext {m : Int} {args : List AV} {σ : ASt} {v : AV} {bs : List Blk} (h : extParse args σ = some (true, v, bs)) : CallRuns P (cfgOf m ext0) 4 args σ (.ret v (addB σ bs)) := by
  unfold extParse at h
  split at h
  rotate_left
  · cases h
  rename_i s
  cases hb : beqBytes s text2 with
  | true =>
    rw [hb] at h
    simp only [cond_true, Option.some.injEq, Prod.mk.injEq, true_and] at h
    obtain ⟨rfl, rfl⟩ := h
    obtain rfl := bytes_eq _ _ hb
    exact parse_pure (b := true) (parse_run m) σ
  | false =>
  rw [hb] at h
  cases hb1 : beqBytes s text1 with
  | false => rw [hb1] at h; cases h
  | true =>
    rw [hb1] at h
    simp only [cond_true, cond_false, Option.some.injEq, Prod.mk.injEq, true_and] at h
    obtain ⟨rfl, rfl⟩ := h
    obtain rfl := bytes_eq _ _ hb1
    exact parse_pure (b := true) (parse_run1 m) σ

/-- A contract ahead of the others. -/
theorem ext_step {m : Int} {e : ExtF} {f : FuncId} {args : List AV} {σ : ASt} {v : AV} {bs : List Blk} {k : Nat} {A B : List AV → ASt → Option (Bool × AV × List Blk)}
    (hA : A args σ = some (true, v, bs) → CallRuns P (cfgOf m e) k args σ (.ret v (addB σ bs))) (hB : B args σ = some (true, v, bs) → CallRuns P (cfgOf m e) f args σ (.ret v (addB σ bs)))
    (h : cond (Nat.beq f k) A B args σ = some (true, v, bs)) : CallRuns P (cfgOf m e) f args σ (.ret v (addB σ bs)) := by
  cases hk : Nat.beq f k with
  | true =>
    rw [hk] at h
    rw [Nat.eq_of_beq_eq_true hk]
    exact hA h
  | false => rw [hk] at h; exact hB h
theorem lib_ext {m : Int} {args : List AV} {σ : ASt} {v : AV} {bs : List Blk} (k : Nat) (A : List AV → ASt → Option (Bool × AV × List Blk)) (hA : ext0 k = A) (h : A args σ = some (true, v, bs)) : CallRuns P (cfgOf m ext0) k args σ (.ret v (addB σ bs)) := by
  intro Γ vs hwp hI hg hf
  rw [← hA] at h
  exact (pf0 m).ext k args σ v bs h Γ vs hwp hI hg hf
theorem extA_runs {m : Int} {f : FuncId} {args : List AV} {σ : ASt} {v : AV} {bs : List Blk} (h : extA f args σ = some (true, v, bs)) : CallRuns P (cfgOf m ext0) f args σ (.ret v (addB σ bs)) := by
  unfold extA at h
  exact ext_step (lib_ext 131 extIdx rfl) (ext_step (lib_ext 157 extByte rfl) (ext_step parse_ext (fun h => by simp [noExt] at h))) h
theorem pfA (m : Int) : PF P (cfgOf m extA) :=
  ⟨(pf0 m).mixed, ng0, fun f args σ v bs h Γ vs hwp hI hg hf => extA_runs (m := m) h Γ vs hwp hI hg hf⟩

def testT (cr : CR) : Bool :=
  match cr with
  | .ret v _ => v.beq (.bool true)
  | .panic _ _ => false
theorem awake_run (m : Int) : (@Bool.rec (fun _ => Prop) False True (ecall P (cfgOf m extA) (force false) 3000 5 [] none0 testT)) = True := by kernel_rfl
theorem right_run (m : Int) : (@Bool.rec (fun _ => Prop) False True (ecall P (cfgOf m extA) (force false) 3000 10 [pr0] none0 testT)) = True := by kernel_rfl

/-- A closed call that says true says so at every state. -/
theorem bool_ext {m : Int} {f : FuncId} {xs : List AV} (hr : ecall P (cfgOf m extA) (force false) 3000 f xs none0 testT = true) (hc : closedV.closedVs xs = true) (σ : ASt) : CallRuns P (cfgOf m extA) f xs σ (.ret (.bool true) σ) := by
  obtain ⟨cr, h, ht⟩ := closed_runs (pfA m) (mode0 m extA) hr
  cases cr with
  | panic _ _ => cases ht
  | ret u σ' =>
    obtain rfl := AV.beq_eq _ _ ht
    exact CallRuns.pure (fu := 0) (globC m extA) h hc rfl σ
end Go.Proofs.Ec
