/-
MiniNames: the library's contracts.
MiniNames: sets of contracts; expressions.
-/
import Derived.Test.YtcphlgkfboafoaaGreatDoorM0
import Derived.Lib.Bytealg
import Derived.Laws.Externs
import Derived.Test.YtcphlgkfboafoaaGreatDoorM3
set_option linter.unusedVariables false
set_option linter.unusedSimpArgs false
namespace Go.Proofs.Mn
open Go Go.Am

theorem preB_eq : ∀ (t s : List UInt8), preB t s = t.isPrefixOf s
  | [], s => by cases s <;> rfl
  | a :: x, [] => rfl
  | a :: x, b :: y => by
    simp only [preB, List.isPrefixOf_cons_cons, preB_eq x y]
    by_cases h : a = b
    · subst h
      have : Nat.beq a.toNat a.toNat = true := Nat.beq_refl _
      simp [this]
    · have h1 : Nat.beq a.toNat b.toNat = false := by
        cases hb : Nat.beq a.toNat b.toNat with
        | false => rfl
        | true => exact absurd (UInt8.toNat_inj.1 (Nat.eq_of_beq_eq_true hb)) h
      have h2 : (a == b) = false := by simpa using h
      simp [h1, h2]

theorem idxB_eq (t : List UInt8) : ∀ (s : List UInt8) (i : Nat), idxB t i s = if Lib.index s t = -1 then -1 else Int.ofNat i + Lib.index s t
  | [], i => by
    simp only [idxB, Lib.index]
    cases t with
    | nil => simp [preB]
    | cons a x => simp [preB]
  | b :: s, i => by
    have h0 := Lib.index_ge s t
    have ih := idxB_eq t s (Nat.succ i)
    by_cases hp : t.isPrefixOf (b :: s) = true
    · have h1 : Lib.index (b :: s) t = 0 := by rw [Lib.index, if_pos hp]
      rw [h1]
      simp [idxB, preB_eq, hp]
    · have hpf : t.isPrefixOf (b :: s) = false := by
        cases hq : t.isPrefixOf (b :: s) with
        | true => exact absurd hq hp
        | false => rfl
      have h1 : idxB t i (b :: s) = idxB t (Nat.succ i) s := by simp only [idxB, preB_eq, hpf, cond_false]
      rw [h1, ih]
      by_cases h : Lib.index s t = -1
      · have h2 : Lib.index (b :: s) t = -1 := by rw [Lib.index, if_neg hp]; simp [h]
        simp [h, h2]
      · have hb : ¬ (Lib.index s t == -1) = true := by simpa using h
        have h2 : Lib.index (b :: s) t = Lib.index s t + 1 := by rw [Lib.index, if_neg hp, if_neg hb]
        rw [h2, if_neg h, if_neg (by omega)]
        show ((i + 1 : Nat) : Int) + _ = (i : Int) + _
        omega
theorem idxB0 (s t : List UInt8) : idxB t 0 s = Lib.index s t := by
  rw [idxB_eq]
  by_cases h : Lib.index s t = -1
  · simp [h]
  · simp [h]

theorem idxOne (c : UInt8) (s : List UInt8) : Lib.index s [c] = Lib.indexByte s c := by
  induction s with
  | nil => rfl
  | cons b l ih =>
    simp only [Lib.index, Lib.indexByte, ih]
    by_cases h : b = c
    · subst h; simp
    · have h1 : (b == c) = false := by simpa using h
      have h2 : (c == b) = false := by simpa using fun e => h e.symm
      have h3 : ¬ c = b := fun e => h e.symm
      simp [h1, h2, h3]

theorem fr_two {Γ : Ctx} {a b : AV} {vs : Array Value} (h : FR Γ [a, b] vs) : ∃ x y, vs = #[x, y] ∧ VR Γ a x ∧ VR Γ b y := by
  obtain ⟨h1, h2⟩ := h
  have hs : vs.size = 2 := by simpa using h1
  refine ⟨vs[0], vs[1], ?_, ?_, ?_⟩
  · apply Array.ext
    · simp [hs]
    · intro i hi1 hi2
      have : i = 0 ∨ i = 1 := by omega
      rcases this with rfl | rfl <;> rfl
  · have := h2 0 (by simp)
    simpa [Array.getD, hs] using this
  · have := h2 1 (by simp)
    simpa [Array.getD, hs] using this

theorem maxLen {Γ : Ctx} {m : Int} {e : ExtF} (hg : GR Γ (cfgOf m e)) : Γ.w.cell? ⟨0, 0, none⟩ = some (.int .i64 m) := by
  have h := hg 0
  have h : VR Γ (.rptr (.int .i64 m) 0) (.pointer (some (at0 0 0))) := h
  generalize hp : (Value.pointer (some (at0 0 0))) = p at h
  cases h with
  | rptr x off b o f hc hv =>
    simp only [Value.pointer.injEq, Option.some.injEq, Addr.mk.injEq] at hp
    obtain ⟨hb, ho, _⟩ := hp
    have h1 := (hc 0 (by simp [AV.cells])).2.1
    have h2 := hv 0 (by simp [AV.cells])
    have e1 : (AV.int IntKind.i64 m).cell 0 = .int .i64 m := rfl
    rw [e1] at h2
    have hb0 : b = 0 := hb.symm
    have ho0 : o = 0 := by omega
    subst hb0 ho0
    generalize hf : f 0 = z at h1 h2
    cases h2
    exact h1

theorem noGo : P.funcs.toList.all (fun fn => !(fn.name == "runtime.NumGoroutine")) = true := by kernel_rfl
theorem ng0 (f : FuncId) (fn : Func) (h : P.funcs[f]? = some fn) : (fn.name == "runtime.NumGoroutine") = false := by
  have h1 := noGo
  simp only [List.all_eq_true, Bool.not_eq_true'] at h1
  exact h1 fn (Array.mem_toList_iff.2 (Array.mem_of_getElem? h))

theorem has79 : (P.funcs[79]?).any (fun fn => fn.body.isSome) = true := by kernel_rfl

theorem idx_runs (m : Int) (e : ExtF) (s t : List UInt8) (hs : s.length < 4294967281) (σ : ASt) : CallRuns P (cfgOf m e) 79 [.str s, .str t] σ (.ret (.int .i64 (idxB t 0 s)) σ) := by
  intro Γ vs hwp hI hg hf
  obtain ⟨x, y, rfl, h1, h2⟩ := fr_two hf
  cases h1
  cases h2
  have hb := has79
  cases hfn : P.funcs[79]? with
  | none => rw [hfn] at hb; cases hb
  | some fn =>
  rw [hfn] at hb
  simp only [Option.any_some] at hb
  obtain ⟨c, hc⟩ := Option.isSome_iff_exists.1 hb
  refine .inl ⟨MuLone.run_callFunc_enter hfn (ng0 79 fn hfn) hc _ Γ.w, ?_⟩
  refine (Tryz.stringslite_Index ⟨s.toArray⟩ ⟨t.toArray⟩ m Γ.w (by simpa [ByteArray.size] using hs) (maxLen hg)).mono fun e w' he => ?_
  obtain ⟨he, hw⟩ := he
  refine ⟨_, Γ, he, hw.symm, ?_, .refl hI⟩
  rw [idxB0]
  exact .int _ _

theorem byte_runs (m : Int) (e : ExtF) (s : List UInt8) (c : Int) (σ : ASt) : CallRuns P (cfgOf m e) 136 [.str s, .int .u8 c] σ (.ret (.int .i64 (idxB [UInt8.ofNat c.toNat] 0 s)) σ) := by
  intro Γ vs hwp hI hg hf
  obtain ⟨x, y, rfl, h1, h2⟩ := fr_two hf
  cases h1
  cases h2
  refine .inr ⟨.int .i64 (idxB [UInt8.ofNat c.toNat] 0 s), Γ.w, ?_, .int .i64 (idxB [UInt8.ofNat c.toNat] 0 s), Γ, rfl, rfl, .int _ _, .refl hI⟩
  · rw [run_callFunc_extern Tryz.func136 (by kernel_rfl) (by kernel_rfl) (by kernel_rfl) (e := Extern.BytealgIndexByte.indexByte) (by kernel_rfl), run_indexByte_string]
    simp only [Result.andThen]
    rw [idxB0, idxOne, Lib.firstIdx_eq]

theorem fr_one {Γ : Ctx} {a : AV} {vs : Array Value} (h : FR Γ [a] vs) : ∃ x, vs = #[x] ∧ VR Γ a x := by
  obtain ⟨h1, h2⟩ := h
  have hs : vs.size = 1 := by simpa using h1
  refine ⟨vs[0], ?_, ?_⟩
  · apply Array.ext
    · simp [hs]
    · intro i hi1 hi2
      have : i = 0 := by omega
      subst this; rfl
  · have := h2 0 (by simp)
    simpa [Array.getD, hs] using this

theorem same_runs (m : Int) (e : ExtF) (p : AV) (σ : ASt) : CallRuns P (cfgOf m e) 123 [p] σ (.ret p σ) := by
  intro Γ vs hwp hI hg hf
  obtain ⟨x, rfl, h1⟩ := fr_one hf
  refine .inr ⟨x, Γ.w, ?_, x, Γ, rfl, rfl, h1, .refl hI⟩
  rw [run_callFunc_extern Tryz.func123 (by kernel_rfl) (by kernel_rfl) (by kernel_rfl) (e := Extern.AbiNoEscape.same) (by kernel_rfl), Lib.run_noEscape]
  rfl

theorem pf0 (m : Int) : PF P (cfgOf m ext0) := by
  refine ⟨by kernel_rfl, ng0, fun f args σ v bs h0 => ?_⟩
  have h : ext0 f args σ = some (true, v, bs) := h0
  clear h0
  unfold ext0 at h
  cases h1 : Nat.beq f 79 with
  | true =>
    rw [h1] at h
    simp only [cond_true] at h
    obtain rfl := Nat.eq_of_beq_eq_true h1
    unfold extIdx at h
    split at h
    · rename_i s t
      simp only [Option.some.injEq, Prod.mk.injEq] at h
      obtain ⟨hb, rfl, rfl⟩ := h
      exact idx_runs m ext0 s t (by have := shortB_ok s _ hb; omega) σ
    · cases h
  | false =>
    rw [h1] at h
    simp only [cond_false] at h
    cases h2 : Nat.beq f 136 with
    | true =>
      rw [h2] at h
      simp only [cond_true] at h
      obtain rfl := Nat.eq_of_beq_eq_true h2
      unfold extByte at h
      split at h
      · rename_i s c
        simp only [Option.some.injEq, Prod.mk.injEq] at h
        obtain ⟨_, rfl, rfl⟩ := h
        exact byte_runs m ext0 s c σ
      · cases h
    | false =>
      rw [h2] at h
      simp only [cond_false] at h
      cases h3 : Nat.beq f 123 with
      | true =>
        rw [h3] at h
        simp only [cond_true] at h
        obtain rfl := Nat.eq_of_beq_eq_true h3
        unfold extSame at h
        split at h
        · rename_i p
          simp only [Option.some.injEq, Prod.mk.injEq, true_and] at h
          obtain ⟨rfl, rfl⟩ := h
          exact same_runs m ext0 _ σ
        · cases h
      | false =>
        rw [h3] at h
        simp [noExt] at h

/-- What is known under the one set of contracts holds under any other. -/
theorem under {m : Int} {e e' : ExtF} {f : FuncId} {args : List AV} {σ : ASt} {cr : CR} (h : CallRuns P (cfgOf m e) f args σ cr) : CallRuns P (cfgOf m e') f args σ cr :=
  fun Γ vs hwp hI hg hf => h Γ vs hwp hI hg hf
/-- A set of contracts that are so. -/
theorem pf_of {m : Int} {e : ExtF} (h : ∀ f args σ v bs, e f args σ = some (true, v, bs) → CallRuns P (cfgOf m ext0) f args σ (.ret v (addB σ bs))) : PF P (cfgOf m e) :=
  ⟨(pf0 m).mixed, ng0, fun f args σ v bs he Γ vs hwp hI hg hf => h f args σ v bs he Γ vs hwp hI hg hf⟩
theorem ext0_runs {m : Int} {f : FuncId} {args : List AV} {σ : ASt} {v : AV} {bs : List Blk} (h : ext0 f args σ = some (true, v, bs)) : CallRuns P (cfgOf m ext0) f args σ (.ret v (addB σ bs)) :=
  fun Γ vs hwp hI hg hf => (pf0 m).ext f args σ v bs h Γ vs hwp hI hg hf
end Go.Proofs.Mn

set_option linter.unusedVariables false
set_option linter.unusedSimpArgs false
namespace Go.Proofs.Mn
open Go Go.Am

def Holds (m : Int) (c : Con) : Prop := ∀ x y, c.ok x y = true → ∀ σ, CallRuns P (cfgOf m ext0) c.fid (c.kind.args x y) σ (.ret (.bool (c.f x y)) σ)
theorem takes_args {k : Kind} {l : List AV} {p : AV × AV} (h : k.takes l = some p) : l = k.args p.1 p.2 := by
  unfold Kind.takes at h
  split at h
  · simp only [Option.some.injEq] at h; subst h; rfl
  · rename_i h0 x y h'
    cases hb : Nat.beq h0 h' with
    | true => rw [hb] at h; simp only [cond_true, Option.some.injEq] at h; subst h; rw [Nat.eq_of_beq_eq_true hb]; rfl
    | false => rw [hb] at h; simp at h
  · rename_i x y b
    cases b with
    | true => simp at h
    | false => simp only [cond_false, Option.some.injEq] at h; subst h; rfl
  · cases h
theorem extL_runs {m : Int} {f : FuncId} {args : List AV} {σ : ASt} {v : AV} {bs : List Blk} : ∀ {cs : List Con}, (∀ c ∈ cs, Holds m c) → extL cs f args σ = some (true, v, bs) → CallRuns P (cfgOf m ext0) f args σ (.ret v (addB σ bs))
  | [], _, h => ext0_runs h
  | c :: r, hc, h => by
    unfold extL at h
    cases hb : Nat.beq f c.fid with
    | false =>
      rw [hb] at h
      simp only [cond_false] at h
      exact extL_runs (fun c h => hc c (List.mem_cons_of_mem _ h)) h
    | true =>
      rw [hb] at h
      simp only [cond_true] at h
      obtain rfl := Nat.eq_of_beq_eq_true hb
      unfold Con.ext at h
      split at h
      · rename_i p hp
        simp only [Option.some.injEq, Prod.mk.injEq] at h
        obtain ⟨h1, rfl, rfl⟩ := h
        rw [takes_args hp]
        exact hc c List.mem_cons_self _ _ h1 σ
      · cases h
theorem pf_L {m : Int} {cs : List Con} (h : ∀ c ∈ cs, Holds m c) : PF P (cfgOf m (extL cs)) := pf_of fun f args σ v bs he => extL_runs h he
theorem args_closed : ∀ {k : Kind} {x y : AV}, closedV x = true → closedV y = true → closedV.closedVs (k.args x y) = true
  | .two, x, y, hx, hy => by simp [Kind.args, closedV.closedVs, hx, hy]
  | .fn h, x, y, hx, hy => by simp [Kind.args, closedV.closedVs, closedV, hx, hy]
  | .at, x, y, hx, hy => by simp [Kind.args, closedV.closedVs, closedV, hx, hy]
theorem holds_of {m : Int} {e : ExtF} {c : Con} (hc : ∀ x y, c.ok x y = true → closedV x = true ∧ closedV y = true) (h : ∀ x y, c.ok x y = true → ∃ σ', CallRuns P (cfgOf m e) c.fid (c.kind.args x y) none0 (.ret (.bool (c.f x y)) σ')) : Holds m c := by
  intro x y hok σ
  obtain ⟨σ', h1⟩ := h x y hok
  obtain ⟨h2, h3⟩ := hc x y hok
  exact under (CallRuns.pure (fu := 0) (globC m e) h1 (args_closed h2 h3) rfl σ)
def retIs (v : AV) : CR → Prop
  | .ret w _ => w = v
  | .panic _ _ => False
/-- A run of a function without a loop. -/
theorem runs_of {m : Int} {n : Nat} {e : ExtF} (pf : PF P (cfgOf m e)) {f : Nat} {args : List AV} {v : AV} {hs : Hints} {p : Prop}
    (h : ((ecall P (cfgOf m e) forceT n f args none0 (endC (retIs v))).run hs True) = p) (hp : p) : ∃ σ', CallRuns P (cfgOf m e) f args none0 (.ret v σ') := by
  obtain ⟨cr, h1, h2⟩ := call_runs pf (mode0 m e) forceT_good (Q.of_eq h hp)
  cases cr with
  | ret w σ' => cases h2; exact ⟨σ', h1⟩
  | panic => exact h2.elim

def isStr : AV → Bool
  | .str _ => true
  | _ => false
def isInt : AV → Bool
  | .int .i64 _ => true
  | _ => false
def isFld : AV → Bool
  | .agg [.str _, .str _] => true
  | _ => false
def okL (p : AV → Bool) : AV → Bool
  | .lst l none => Nat.ble l.length 9223372036854775807 && l.all p
  | _ => false
def smL (f : AV → AV → Bool) : AV → AV → Bool
  | .lst l _, .lst l' _ => all2 f l l'
  | _, _ => false
def both (p : AV → Bool) (x y : AV) : Bool := p x && p y
theorem both_ok {p : AV → Bool} {x y : AV} (h : both p x y = true) : p x = true ∧ p y = true := by simpa [both] using h
theorem okL_ok {p : AV → Bool} {x : AV} (h : okL p x = true) : ∃ l, x = .lst l none ∧ l.length ≤ 9223372036854775807 ∧ ∀ y ∈ l, p y = true := by
  unfold okL at h
  split at h
  · rename_i l
    simp only [Bool.and_eq_true, List.all_eq_true, Nat.ble_eq] at h
    exact ⟨l, rfl, h.1, h.2⟩
  · cases h
theorem closed_all {p : AV → Bool} (hp : ∀ x, p x = true → closedV x = true) : ∀ {l : List AV}, (∀ y ∈ l, p y = true) → closedV.closedVs l = true
  | [], _ => rfl
  | a :: l, h => by simp only [closedV.closedVs, hp a (h a List.mem_cons_self), closed_all hp (fun y hy => h y (List.mem_cons_of_mem _ hy)), Bool.and_self]
theorem okL_closed {p : AV → Bool} (hp : ∀ x, p x = true → closedV x = true) {x : AV} (h : okL p x = true) : closedV x = true := by
  obtain ⟨l, rfl, _, h⟩ := okL_ok h
  simpa [closedV] using closed_all hp h
theorem both_closed {p : AV → Bool} (hp : ∀ x, p x = true → closedV x = true) : ∀ x y, both p x y = true → closedV x = true ∧ closedV y = true := fun x y h => ⟨hp x (both_ok h).1, hp y (both_ok h).2⟩
theorem isStr_closed (x : AV) (h : isStr x = true) : closedV x = true := by unfold isStr at h; split at h <;> first | rfl | cases h
theorem isInt_closed (x : AV) (h : isInt x = true) : closedV x = true := by unfold isInt at h; split at h <;> first | rfl | cases h
theorem isFld_closed (x : AV) (h : isFld x = true) : closedV x = true := by unfold isFld at h; split at h <;> first | rfl | cases h
theorem isStr_sh {x : AV} (h : isStr x = true) : ShStr x := by unfold isStr at h; split at h <;> first | exact ⟨_, rfl⟩ | cases h
theorem isInt_sh {x : AV} (h : isInt x = true) : ShInt x := by unfold isInt at h; split at h <;> first | exact ⟨_, rfl⟩ | cases h
theorem isFld_sh {x : AV} (h : isFld x = true) : ShFld x := by unfold isFld at h; split at h <;> first | exact ⟨_, _, rfl⟩ | cases h

def k75 : Con := ⟨75, .two, both (okL isStr), smL strEq⟩
def k19 : Con := ⟨19, .two, both (okL isInt), smL intEq⟩
def k16 : Con := ⟨16, .two, both (okL isFld), smL fldEq⟩
def k77 : Con := ⟨77, .two, both (okL isStr), smL strEq⟩
def k23 : Con := ⟨23, .two, both (okL isInt), smL intEq⟩
def k22 : Con := ⟨22, .two, both (okL isFld), smL fldEq⟩
theorem h75 (m : Int) : Holds m k75 := by
  refine holds_of (e := ext0) (both_closed fun x h => okL_closed isStr_closed h) fun x y h => ?_
  obtain ⟨h1, h2⟩ := both_ok h
  obtain ⟨l, rfl, hl, ha⟩ := okL_ok h1
  obtain ⟨l', rfl, hl', ha'⟩ := okL_ok h2
  exact ctr75 (pf0 m) hl (closed_all isStr_closed ha) (closed_all isStr_closed ha') (fun x hx => isStr_sh (ha x hx)) (fun x hx => isStr_sh (ha' x hx))
theorem h19 (m : Int) : Holds m k19 := by
  refine holds_of (e := ext0) (both_closed fun x h => okL_closed isInt_closed h) fun x y h => ?_
  obtain ⟨h1, h2⟩ := both_ok h
  obtain ⟨l, rfl, hl, ha⟩ := okL_ok h1
  obtain ⟨l', rfl, hl', ha'⟩ := okL_ok h2
  exact ctr19 (pf0 m) hl (closed_all isInt_closed ha) (closed_all isInt_closed ha') (fun x hx => isInt_sh (ha x hx)) (fun x hx => isInt_sh (ha' x hx))
theorem h16 (m : Int) : Holds m k16 := by
  refine holds_of (e := ext0) (both_closed fun x h => okL_closed isFld_closed h) fun x y h => ?_
  obtain ⟨h1, h2⟩ := both_ok h
  obtain ⟨l, rfl, hl, ha⟩ := okL_ok h1
  obtain ⟨l', rfl, hl', ha'⟩ := okL_ok h2
  exact ctr16 (pf0 m) hl (closed_all isFld_closed ha) (closed_all isFld_closed ha') (fun x hx => isFld_sh (ha x hx)) (fun x hx => isFld_sh (ha' x hx))
theorem h77 (m : Int) : Holds m k77 := by
  refine holds_of (e := ext0) (both_closed fun x h => okL_closed isStr_closed h) fun x y h => ?_
  obtain ⟨h1, h2⟩ := both_ok h
  obtain ⟨l, rfl, hl, ha⟩ := okL_ok h1
  obtain ⟨l', rfl, hl', ha'⟩ := okL_ok h2
  exact ctr77 (pf0 m) hl (closed_all isStr_closed ha) (closed_all isStr_closed ha') (fun x hx => isStr_sh (ha x hx)) (fun x hx => isStr_sh (ha' x hx))
theorem h23 (m : Int) : Holds m k23 := by
  refine holds_of (e := ext0) (both_closed fun x h => okL_closed isInt_closed h) fun x y h => ?_
  obtain ⟨h1, h2⟩ := both_ok h
  obtain ⟨l, rfl, hl, ha⟩ := okL_ok h1
  obtain ⟨l', rfl, hl', ha'⟩ := okL_ok h2
  exact ctr23 (pf0 m) hl (closed_all isInt_closed ha) (closed_all isInt_closed ha') (fun x hx => isInt_sh (ha x hx)) (fun x hx => isInt_sh (ha' x hx))
theorem h22 (m : Int) : Holds m k22 := by
  refine holds_of (e := ext0) (both_closed fun x h => okL_closed isFld_closed h) fun x y h => ?_
  obtain ⟨h1, h2⟩ := both_ok h
  obtain ⟨l, rfl, hl, ha⟩ := okL_ok h1
  obtain ⟨l', rfl, hl', ha'⟩ := okL_ok h2
  exact ctr22 (pf0 m) hl (closed_all isFld_closed ha) (closed_all isFld_closed ha') (fun x hx => isFld_sh (ha x hx)) (fun x hx => isFld_sh (ha' x hx))

/-- An expression's value, so deep at most. -/
def okX : Nat → AV → Bool
  | n + 1, .agg [.int .i64 _, .int .i64 _, .str _, .str _, .str _, .int .i64 _, ns, ks, .int .i64 _] => okL isStr ns && okL (okX n) ks
  | _, _ => false
/-- The same expression, but for its places? -/
def smX : Nat → AV → AV → Bool
  | n + 1, .agg [.int .i64 ak, .int .i64 ai, .str at_, .str an, .str ay, .int .i64 ao, ans, aks, _], .agg [.int .i64 bk, .int .i64 bi, .str bt, .str bn, .str by_, .int .i64 bo, bns, bks, _] =>
    eqI ak bk && (eqI ai bi && (beqBytes at_ bt && (beqBytes an bn && (beqBytes ay by_ && (eqI ao bo && (smL strEq ans bns && (smL (smX n) aks bks && true)))))))
  | _, _, _ => false
theorem okX_ok {n : Nat} {x : AV} (h : okX (n + 1) x = true) : ∃ ak ai at_ an ay ao ans aks aat, x = .agg [.int .i64 ak, .int .i64 ai, .str at_, .str an, .str ay, .int .i64 ao, ans, aks, .int .i64 aat] ∧ okL isStr ans = true ∧ okL (okX n) aks = true := by
  unfold okX at h
  split at h
  · rename_i heq
    obtain rfl := Nat.succ.inj heq
    simp only [Bool.and_eq_true] at h
    exact ⟨_, _, _, _, _, _, _, _, _, rfl, h.1, h.2⟩
  · cases h
theorem okX_closed : ∀ (n : Nat) (x : AV), okX n x = true → closedV x = true
  | 0, x, h => by unfold okX at h; cases h
  | n + 1, x, h => by
    obtain ⟨ak, ai, at_, an, ay, ao, ans, aks, aat, rfl, h1, h2⟩ := okX_ok h
    simp only [closedV, closedV.closedVs, okL_closed isStr_closed h1, okL_closed (okX_closed n) h2, Bool.and_self]
theorem okX_sh {n : Nat} {x : AV} (h : okX n x = true) : ShA 9 x := by
  cases n with
  | zero => unfold okX at h; cases h
  | succ n =>
    obtain ⟨ak, ai, at_, an, ay, ao, ans, aks, aat, rfl, h1, h2⟩ := okX_ok h
    exact ⟨_, rfl, rfl⟩
theorem run54 (m : Int) (o1 g1 o2 g2 : AV → AV → Bool) (ak ai ao aat bk bi bo bat : Int) (at_ an ay bt bn by_ : List UInt8) (ans aks bns bks : AV) (v : AV) : ((ecall P (cfgOf m (extL [⟨75, .two, o1, g1⟩, ⟨76, .fn 54, o2, g2⟩])) forceT 20 54 [(.agg [.int .i64 ak, .int .i64 ai, .str at_, .str an, .str ay, .int .i64 ao, ans, aks, .int .i64 aat]), (.agg [.int .i64 bk, .int .i64 bi, .str bt, .str bn, .str by_, .int .i64 bo, bns, bks, .int .i64 bat])] none0 (endC (retIs v))).run [] True) =
    (bif eqI ak bk then (bif eqI ai bi then (bif beqBytes at_ bt then (bif beqBytes an bn then (bif beqBytes ay by_ then (bif eqI ao bo then (bif o1 ans bns then (bif g1 ans bns then (bif o2 aks bks then (bif g2 aks bks then (True ∧ AV.bool true = v) else (True ∧ AV.bool false = v)) else False) else (True ∧ AV.bool false = v)) else False) else (True ∧ AV.bool false = v)) else (True ∧ AV.bool false = v)) else (True ∧ AV.bool false = v)) else (True ∧ AV.bool false = v)) else (True ∧ AV.bool false = v)) else (True ∧ AV.bool false = v)) := by kernel_rfl
def k54 (n : Nat) : Con := ⟨54, .two, both (okX n), smX n⟩
def k76 (n : Nat) : Con := ⟨76, .fn 54, both (okL (okX n)), smL (smX n)⟩
theorem s76 {m : Int} {n : Nat} (h : Holds m (k54 n)) : Holds m (k76 n) := by
  refine holds_of (e := extL [k54 n]) (both_closed fun x h => okL_closed (okX_closed n) h) fun x y hb => ?_
  obtain ⟨h1, h2⟩ := both_ok hb
  obtain ⟨l, rfl, hl, ha⟩ := okL_ok h1
  obtain ⟨l', rfl, hl', ha'⟩ := okL_ok h2
  exact ctr76 (pf_L fun c hc => by rw [List.mem_singleton.1 hc]; exact h) hl (closed_all (okX_closed n) ha) (closed_all (okX_closed n) ha') (fun x hx => okX_sh (ha x hx)) (fun x hx => okX_sh (ha' x hx)) (fun x hx y hy => by simp [both, ha x hx, ha' y hy])
theorem s54 {m : Int} {n : Nat} (h : Holds m (k76 n)) : Holds m (k54 (n + 1)) := by
  refine holds_of (e := extL [⟨75, .two, both (okL isStr), smL strEq⟩, ⟨76, .fn 54, both (okL (okX n)), smL (smX n)⟩]) (both_closed (okX_closed (n + 1))) fun x y hb => ?_
  obtain ⟨h1, h2⟩ := both_ok hb
  obtain ⟨ak, ai, at_, an, ay, ao, ans, aks, aat, rfl, i1, i2⟩ := okX_ok h1
  obtain ⟨bk, bi, bt, bn, by_, bo, bns, bks, bat, rfl, j1, j2⟩ := okX_ok h2
  show ∃ σ', CallRuns P (cfgOf m (extL [⟨75, .two, both (okL isStr), smL strEq⟩, ⟨76, .fn 54, both (okL (okX n)), smL (smX n)⟩])) 54 [(.agg [.int .i64 ak, .int .i64 ai, .str at_, .str an, .str ay, .int .i64 ao, ans, aks, .int .i64 aat]), (.agg [.int .i64 bk, .int .i64 bi, .str bt, .str bn, .str by_, .int .i64 bo, bns, bks, .int .i64 bat])] none0 (.ret (.bool (smX (n + 1) (.agg [.int .i64 ak, .int .i64 ai, .str at_, .str an, .str ay, .int .i64 ao, ans, aks, .int .i64 aat]) (.agg [.int .i64 bk, .int .i64 bi, .str bt, .str bn, .str by_, .int .i64 bo, bns, bks, .int .i64 bat]))) σ')
  refine runs_of (pf_L fun c hc => ?_) (run54 m (both (okL isStr)) (smL strEq) (both (okL (okX n))) (smL (smX n)) ak ai ao aat bk bi bo bat at_ an ay bt bn by_ ans aks bns bks _) ?_
  · simp only [List.mem_cons, List.mem_nil_iff, or_false] at hc
    rcases hc with rfl | rfl
    · exact h75 m
    · exact h
  have e1 : both (okL isStr) ans bns = true := by simp [both, i1, j1]
  have e2 : both (okL (okX n)) aks bks = true := by simp [both, i2, j2]
  rw [e1, e2]
  simp only [k54, smX]
  cases hc : eqI ak bk
  · exact ⟨trivial, rfl⟩
  cases hc : eqI ai bi
  · exact ⟨trivial, rfl⟩
  cases hc : beqBytes at_ bt
  · exact ⟨trivial, rfl⟩
  cases hc : beqBytes an bn
  · exact ⟨trivial, rfl⟩
  cases hc : beqBytes ay by_
  · exact ⟨trivial, rfl⟩
  cases hc : eqI ao bo
  · exact ⟨trivial, rfl⟩
  cases hc : smL strEq ans bns
  · exact ⟨trivial, rfl⟩
  cases hc : smL (smX n) aks bks
  · exact ⟨trivial, rfl⟩
  exact ⟨trivial, rfl⟩
theorem h54 (m : Int) : ∀ n, Holds m (k54 n)
  | 0 => fun x y h => by
    have h : both (okX 0) x y = true := h
    simp [both, okX] at h
  | n + 1 => s54 (s76 (h54 m n))
theorem h76 (m : Int) (n : Nat) : Holds m (k76 n) := s76 (h54 m n)
theorem run57 (m : Int) (o1 g1 o2 g2 : AV → AV → Bool) (ak ai ao aat bk bi bo bat : Int) (at_ an ay bt bn by_ : List UInt8) (ans aks bns bks : AV) (v : AV) : ((ecall P (cfgOf m (extL [⟨77, .two, o1, g1⟩, ⟨78, .at, o2, g2⟩])) forceT 20 57 [(.agg [.int .i64 ak, .int .i64 ai, .str at_, .str an, .str ay, .int .i64 ao, ans, aks, .int .i64 aat]), (.agg [.int .i64 bk, .int .i64 bi, .str bt, .str bn, .str by_, .int .i64 bo, bns, bks, .int .i64 bat]), .bool false] none0 (endC (retIs v))).run [] True) =
    (bif eqI ak bk then (bif eqI ai bi then (bif beqBytes at_ bt then (bif beqBytes an bn then (bif beqBytes ay by_ then (bif eqI ao bo then (bif o1 ans bns then (bif g1 ans bns then (bif o2 aks bks then (bif g2 aks bks then (True ∧ AV.bool true = v) else (True ∧ AV.bool false = v)) else False) else (True ∧ AV.bool false = v)) else False) else (True ∧ AV.bool false = v)) else (True ∧ AV.bool false = v)) else (True ∧ AV.bool false = v)) else (True ∧ AV.bool false = v)) else (True ∧ AV.bool false = v)) else (True ∧ AV.bool false = v)) := by kernel_rfl
def k57 (n : Nat) : Con := ⟨57, .at, both (okX n), smX n⟩
def k78 (n : Nat) : Con := ⟨78, .at, both (okL (okX n)), smL (smX n)⟩
theorem s78 {m : Int} {n : Nat} (h : Holds m (k57 n)) : Holds m (k78 n) := by
  refine holds_of (e := extL [k57 n]) (both_closed fun x h => okL_closed (okX_closed n) h) fun x y hb => ?_
  obtain ⟨h1, h2⟩ := both_ok hb
  obtain ⟨l, rfl, hl, ha⟩ := okL_ok h1
  obtain ⟨l', rfl, hl', ha'⟩ := okL_ok h2
  exact ctr78 (pf_L fun c hc => by rw [List.mem_singleton.1 hc]; exact h) hl (closed_all (okX_closed n) ha) (closed_all (okX_closed n) ha') (fun x hx => okX_sh (ha x hx)) (fun x hx => okX_sh (ha' x hx)) (fun x hx y hy => by simp [both, ha x hx, ha' y hy])
theorem s57 {m : Int} {n : Nat} (h : Holds m (k78 n)) : Holds m (k57 (n + 1)) := by
  refine holds_of (e := extL [⟨77, .two, both (okL isStr), smL strEq⟩, ⟨78, .at, both (okL (okX n)), smL (smX n)⟩]) (both_closed (okX_closed (n + 1))) fun x y hb => ?_
  obtain ⟨h1, h2⟩ := both_ok hb
  obtain ⟨ak, ai, at_, an, ay, ao, ans, aks, aat, rfl, i1, i2⟩ := okX_ok h1
  obtain ⟨bk, bi, bt, bn, by_, bo, bns, bks, bat, rfl, j1, j2⟩ := okX_ok h2
  show ∃ σ', CallRuns P (cfgOf m (extL [⟨77, .two, both (okL isStr), smL strEq⟩, ⟨78, .at, both (okL (okX n)), smL (smX n)⟩])) 57 [(.agg [.int .i64 ak, .int .i64 ai, .str at_, .str an, .str ay, .int .i64 ao, ans, aks, .int .i64 aat]), (.agg [.int .i64 bk, .int .i64 bi, .str bt, .str bn, .str by_, .int .i64 bo, bns, bks, .int .i64 bat]), .bool false] none0 (.ret (.bool (smX (n + 1) (.agg [.int .i64 ak, .int .i64 ai, .str at_, .str an, .str ay, .int .i64 ao, ans, aks, .int .i64 aat]) (.agg [.int .i64 bk, .int .i64 bi, .str bt, .str bn, .str by_, .int .i64 bo, bns, bks, .int .i64 bat]))) σ')
  refine runs_of (pf_L fun c hc => ?_) (run57 m (both (okL isStr)) (smL strEq) (both (okL (okX n))) (smL (smX n)) ak ai ao aat bk bi bo bat at_ an ay bt bn by_ ans aks bns bks _) ?_
  · simp only [List.mem_cons, List.mem_nil_iff, or_false] at hc
    rcases hc with rfl | rfl
    · exact h77 m
    · exact h
  have e1 : both (okL isStr) ans bns = true := by simp [both, i1, j1]
  have e2 : both (okL (okX n)) aks bks = true := by simp [both, i2, j2]
  rw [e1, e2]
  simp only [k57, smX]
  cases hc : eqI ak bk
  · exact ⟨trivial, rfl⟩
  cases hc : eqI ai bi
  · exact ⟨trivial, rfl⟩
  cases hc : beqBytes at_ bt
  · exact ⟨trivial, rfl⟩
  cases hc : beqBytes an bn
  · exact ⟨trivial, rfl⟩
  cases hc : beqBytes ay by_
  · exact ⟨trivial, rfl⟩
  cases hc : eqI ao bo
  · exact ⟨trivial, rfl⟩
  cases hc : smL strEq ans bns
  · exact ⟨trivial, rfl⟩
  cases hc : smL (smX n) aks bks
  · exact ⟨trivial, rfl⟩
  exact ⟨trivial, rfl⟩
theorem h57 (m : Int) : ∀ n, Holds m (k57 n)
  | 0 => fun x y h => by
    have h : both (okX 0) x y = true := h
    simp [both, okX] at h
  | n + 1 => s57 (s78 (h57 m n))
theorem h78 (m : Int) (n : Nat) : Holds m (k78 n) := s78 (h57 m n)
end Go.Proofs.Mn
