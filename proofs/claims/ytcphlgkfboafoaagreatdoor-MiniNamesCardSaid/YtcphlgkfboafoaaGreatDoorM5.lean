/-
MiniNames: cases and statements.
-/
import Derived.Test.YtcphlgkfboafoaaGreatDoorM4
set_option linter.unusedVariables false
set_option linter.unusedSimpArgs false
namespace Go.Proofs.Mn
open Go Go.Am

def okC (p : AV → Bool) : AV → Bool
  | .agg [a, b] => okL isInt a && okL p b
  | _ => false
def smC (f : AV → AV → Bool) : AV → AV → Bool
  | .agg [a, b], .agg [c, d] => smL intEq a c && (smL f b d && true)
  | _, _ => false
theorem okC_ok {p : AV → Bool} {x : AV} (h : okC p x = true) : ∃ a b, x = .agg [a, b] ∧ okL isInt a = true ∧ okL p b = true := by
  unfold okC at h
  split at h
  · simp only [Bool.and_eq_true] at h
    exact ⟨_, _, rfl, h.1, h.2⟩
  · cases h
theorem okC_closed {p : AV → Bool} (hp : ∀ x, p x = true → closedV x = true) (x : AV) (h : okC p x = true) : closedV x = true := by
  obtain ⟨a, b, rfl, h1, h2⟩ := okC_ok h
  simp only [closedV, closedV.closedVs, okL_closed isInt_closed h1, okL_closed hp h2, Bool.and_self]
theorem okC_sh {p : AV → Bool} {x : AV} (h : okC p x = true) : ShA 2 x := by
  obtain ⟨a, b, rfl, h1, h2⟩ := okC_ok h
  exact ⟨_, rfl, rfl⟩
/-- A statement's value, so deep at most. -/
def okS : Nat → AV → Bool
  | n + 1, (.agg [.int .i64 ak, .str an, .str ay, al0, al1, al2, al3, al4, al5, al6, al7, al8, ae0, ae1, ae2, ae3, ae4, ae5, ae6, ae7, ae8, ab, as_, .bool ah, ac, .int .i64 aat]) => okX n (.agg [al0, al1, al2, al3, al4, al5, al6, al7, al8]) && (okX n (.agg [ae0, ae1, ae2, ae3, ae4, ae5, ae6, ae7, ae8]) && (okL (okS n) ab && (okL (okS n) as_ && okL (okC (okS n)) ac)))
  | _, _ => false
/-- The same statement, but for its places? -/
def smS : Nat → AV → AV → Bool
  | n + 1, (.agg [.int .i64 ak, .str an, .str ay, al0, al1, al2, al3, al4, al5, al6, al7, al8, ae0, ae1, ae2, ae3, ae4, ae5, ae6, ae7, ae8, ab, as_, .bool ah, ac, _]), (.agg [.int .i64 bk, .str bn, .str by_, bl0, bl1, bl2, bl3, bl4, bl5, bl6, bl7, bl8, be0, be1, be2, be3, be4, be5, be6, be7, be8, bb, bs, .bool bh, bc, _]) =>
    eqI ak bk && (beqBytes an bn && (beqBytes ay by_ && ((ah == bh) && (smX n (.agg [al0, al1, al2, al3, al4, al5, al6, al7, al8]) (.agg [bl0, bl1, bl2, bl3, bl4, bl5, bl6, bl7, bl8]) && (smX n (.agg [ae0, ae1, ae2, ae3, ae4, ae5, ae6, ae7, ae8]) (.agg [be0, be1, be2, be3, be4, be5, be6, be7, be8]) && (smL (smS n) ab bb && (smL (smS n) as_ bs && (smL (smC (smS n)) ac bc && true))))))))
  | _, _, _ => false
theorem okS_ok {n : Nat} {x : AV} (h : okS (n + 1) x = true) : ∃ ak an ay al0 al1 al2 al3 al4 al5 al6 al7 al8 ae0 ae1 ae2 ae3 ae4 ae5 ae6 ae7 ae8 ab as_ ah ac aat, x = (.agg [.int .i64 ak, .str an, .str ay, al0, al1, al2, al3, al4, al5, al6, al7, al8, ae0, ae1, ae2, ae3, ae4, ae5, ae6, ae7, ae8, ab, as_, .bool ah, ac, .int .i64 aat]) ∧ okX n (.agg [al0, al1, al2, al3, al4, al5, al6, al7, al8]) = true ∧ okX n (.agg [ae0, ae1, ae2, ae3, ae4, ae5, ae6, ae7, ae8]) = true ∧ okL (okS n) ab = true ∧ okL (okS n) as_ = true ∧ okL (okC (okS n)) ac = true := by
  unfold okS at h
  split at h
  · rename_i heq
    obtain rfl := Nat.succ.inj heq
    simp only [Bool.and_eq_true] at h
    exact ⟨_, _, _, _, _, _, _, _, _, _, _, _, _, _, _, _, _, _, _, _, _, _, _, _, _, _, rfl, h.1, h.2.1, h.2.2.1, h.2.2.2.1, h.2.2.2.2⟩
  · cases h
theorem agg_closed {l : List AV} (h : closedV (.agg l) = true) : closedV.closedVs l = true := by simpa only [closedV] using h
theorem okS_closed : ∀ (n : Nat) (x : AV), okS n x = true → closedV x = true
  | 0, x, h => by unfold okS at h; cases h
  | n + 1, x, h => by
    obtain ⟨ak, an, ay, al0, al1, al2, al3, al4, al5, al6, al7, al8, ae0, ae1, ae2, ae3, ae4, ae5, ae6, ae7, ae8, ab, as_, ah, ac, aat, rfl, h1, h2, h3, h4, h5⟩ := okS_ok h
    have g1 := agg_closed (okX_closed n _ h1)
    have g2 := agg_closed (okX_closed n _ h2)
    simp only [closedV.closedVs, Bool.and_eq_true] at g1 g2
    simp only [closedV, closedV.closedVs, g1, g2, okL_closed (okS_closed n) h3, okL_closed (okS_closed n) h4, okL_closed (okC_closed (okS_closed n)) h5, Bool.and_self]
theorem okS_sh {n : Nat} {x : AV} (h : okS n x = true) : ShA 26 x := by
  cases n with
  | zero => unfold okS at h; cases h
  | succ n =>
    obtain ⟨ak, an, ay, al0, al1, al2, al3, al4, al5, al6, al7, al8, ae0, ae1, ae2, ae3, ae4, ae5, ae6, ae7, ae8, ab, as_, ah, ac, aat, rfl, h1, h2, h3, h4, h5⟩ := okS_ok h
    exact ⟨_, rfl, rfl⟩

def k36 (n : Nat) : Con := ⟨36, .two, both (okS n), smS n⟩
def k35 (n : Nat) : Con := ⟨35, .fn 36, both (okL (okS n)), smL (smS n)⟩
def k56 (n : Nat) : Con := ⟨56, .two, both (okC (okS n)), smC (smS n)⟩
def k55 (n : Nat) : Con := ⟨55, .fn 56, both (okL (okC (okS n))), smL (smC (smS n))⟩
def k37 (n : Nat) : Con := ⟨37, .at, both (okS n), smS n⟩
def k24 (n : Nat) : Con := ⟨24, .at, both (okL (okS n)), smL (smS n)⟩
theorem s35 {m : Int} {n : Nat} (h : Holds m (k36 n)) : Holds m (k35 n) := by
  refine holds_of (e := extL [k36 n]) (both_closed fun x h => okL_closed (okS_closed n) h) fun x y hb => ?_
  obtain ⟨h1, h2⟩ := both_ok hb
  obtain ⟨l, rfl, hl, ha⟩ := okL_ok h1
  obtain ⟨l', rfl, hl', ha'⟩ := okL_ok h2
  exact ctr35 (pf_L fun c hc => by rw [List.mem_singleton.1 hc]; exact h) hl (closed_all (okS_closed n) ha) (closed_all (okS_closed n) ha') (fun x hx => okS_sh (ha x hx)) (fun x hx => okS_sh (ha' x hx)) (fun x hx y hy => by simp [both, ha x hx, ha' y hy])
theorem s55 {m : Int} {n : Nat} (h : Holds m (k56 n)) : Holds m (k55 n) := by
  refine holds_of (e := extL [k56 n]) (both_closed fun x h => okL_closed (okC_closed (okS_closed n)) h) fun x y hb => ?_
  obtain ⟨h1, h2⟩ := both_ok hb
  obtain ⟨l, rfl, hl, ha⟩ := okL_ok h1
  obtain ⟨l', rfl, hl', ha'⟩ := okL_ok h2
  exact ctr55 (pf_L fun c hc => by rw [List.mem_singleton.1 hc]; exact h) hl (closed_all (okC_closed (okS_closed n)) ha) (closed_all (okC_closed (okS_closed n)) ha') (fun x hx => okC_sh (ha x hx)) (fun x hx => okC_sh (ha' x hx)) (fun x hx y hy => by simp [both, ha x hx, ha' y hy])
theorem s24 {m : Int} {n : Nat} (h : Holds m (k37 n)) : Holds m (k24 n) := by
  refine holds_of (e := extL [k37 n]) (both_closed fun x h => okL_closed (okS_closed n) h) fun x y hb => ?_
  obtain ⟨h1, h2⟩ := both_ok hb
  obtain ⟨l, rfl, hl, ha⟩ := okL_ok h1
  obtain ⟨l', rfl, hl', ha'⟩ := okL_ok h2
  exact ctr24 (pf_L fun c hc => by rw [List.mem_singleton.1 hc]; exact h) hl (closed_all (okS_closed n) ha) (closed_all (okS_closed n) ha') (fun x hx => okS_sh (ha x hx)) (fun x hx => okS_sh (ha' x hx)) (fun x hx y hy => by simp [both, ha x hx, ha' y hy])
theorem run56 (m : Int) (o1 g1 o2 g2 : AV → AV → Bool) (a b c d v : AV) : ((ecall P (cfgOf m (extL [⟨19, .two, o1, g1⟩, ⟨35, .fn 36, o2, g2⟩])) forceT 20 56 [.agg [a, b], .agg [c, d]] none0 (endC (retIs v))).run [] True) =
    (bif o1 a c then (bif g1 a c then (bif o2 b d then (bif g2 b d then (True ∧ AV.bool true = v) else (True ∧ AV.bool false = v)) else False) else (True ∧ AV.bool false = v)) else False) := by kernel_rfl
theorem s56 {m : Int} {n : Nat} (h : Holds m (k35 n)) : Holds m (k56 n) := by
  refine holds_of (e := extL [⟨19, .two, both (okL isInt), smL intEq⟩, ⟨35, .fn 36, both (okL (okS n)), smL (smS n)⟩]) (both_closed (okC_closed (okS_closed n))) fun x y hb => ?_
  obtain ⟨h1, h2⟩ := both_ok hb
  obtain ⟨a, b, rfl, i1, i2⟩ := okC_ok h1
  obtain ⟨c, d, rfl, j1, j2⟩ := okC_ok h2
  show ∃ σ', CallRuns P (cfgOf m (extL [⟨19, .two, both (okL isInt), smL intEq⟩, ⟨35, .fn 36, both (okL (okS n)), smL (smS n)⟩])) 56 [.agg [a, b], .agg [c, d]] none0 (.ret (.bool (smC (smS n) (.agg [a, b]) (.agg [c, d]))) σ')
  refine runs_of (pf_L fun c hc => ?_) (run56 m (both (okL isInt)) (smL intEq) (both (okL (okS n))) (smL (smS n)) a b c d _) ?_
  · simp only [List.mem_cons, List.mem_nil_iff, or_false] at hc
    rcases hc with rfl | rfl
    · exact h19 m
    · exact h
  have e1 : both (okL isInt) a c = true := by simp [both, i1, j1]
  have e2 : both (okL (okS n)) b d = true := by simp [both, i2, j2]
  rw [e1, e2]
  simp only [smC]
  cases hc : smL intEq a c
  · exact ⟨trivial, rfl⟩
  cases hc : smL (smS n) b d
  · exact ⟨trivial, rfl⟩
  exact ⟨trivial, rfl⟩
theorem run36 (m : Int) (o1 g1 o2 g2 o3 g3 : AV → AV → Bool) (ak aat bk bat : Int) (an ay bn by_ : List UInt8) (ah bh : Bool) (al0 al1 al2 al3 al4 al5 al6 al7 al8 ae0 ae1 ae2 ae3 ae4 ae5 ae6 ae7 ae8 bl0 bl1 bl2 bl3 bl4 bl5 bl6 bl7 bl8 be0 be1 be2 be3 be4 be5 be6 be7 be8 ab as_ bb bs : AV) (ac bc : AV) (v : AV) : ((ecall P (cfgOf m (extL [⟨54, .two, o1, g1⟩, ⟨35, .fn 36, o2, g2⟩, ⟨55, .fn 56, o3, g3⟩])) forceT 20 36 [(.agg [.int .i64 ak, .str an, .str ay, al0, al1, al2, al3, al4, al5, al6, al7, al8, ae0, ae1, ae2, ae3, ae4, ae5, ae6, ae7, ae8, ab, as_, .bool ah, ac, .int .i64 aat]), (.agg [.int .i64 bk, .str bn, .str by_, bl0, bl1, bl2, bl3, bl4, bl5, bl6, bl7, bl8, be0, be1, be2, be3, be4, be5, be6, be7, be8, bb, bs, .bool bh, bc, .int .i64 bat])] none0 (endC (retIs v))).run [] True) =
    (bif eqI ak bk then (bif beqBytes an bn then (bif beqBytes ay by_ then (bif (ah == bh) then (bif o1 (.agg [al0, al1, al2, al3, al4, al5, al6, al7, al8]) (.agg [bl0, bl1, bl2, bl3, bl4, bl5, bl6, bl7, bl8]) then (bif g1 (.agg [al0, al1, al2, al3, al4, al5, al6, al7, al8]) (.agg [bl0, bl1, bl2, bl3, bl4, bl5, bl6, bl7, bl8]) then (bif o1 (.agg [ae0, ae1, ae2, ae3, ae4, ae5, ae6, ae7, ae8]) (.agg [be0, be1, be2, be3, be4, be5, be6, be7, be8]) then (bif g1 (.agg [ae0, ae1, ae2, ae3, ae4, ae5, ae6, ae7, ae8]) (.agg [be0, be1, be2, be3, be4, be5, be6, be7, be8]) then (bif o2 ab bb then (bif g2 ab bb then (bif o2 as_ bs then (bif g2 as_ bs then (bif o3 ac bc then (bif g3 ac bc then (True ∧ AV.bool true = v) else (True ∧ AV.bool false = v)) else False) else (True ∧ AV.bool false = v)) else False) else (True ∧ AV.bool false = v)) else False) else (True ∧ AV.bool false = v)) else False) else (True ∧ AV.bool false = v)) else False) else (True ∧ AV.bool false = v)) else (True ∧ AV.bool false = v)) else (True ∧ AV.bool false = v)) else (True ∧ AV.bool false = v)) := by kernel_rfl
theorem s36 {m : Int} {n : Nat} (h35 : Holds m (k35 n)) (h55 : Holds m (k55 n)) : Holds m (k36 (n + 1)) := by
  refine holds_of (e := extL [⟨54, .two, both (okX n), smX n⟩, ⟨35, .fn 36, both (okL (okS n)), smL (smS n)⟩, ⟨55, .fn 56, both (okL (okC (okS n))), smL (smC (smS n))⟩]) (both_closed (okS_closed (n + 1))) fun x y hb => ?_
  obtain ⟨h1, h2⟩ := both_ok hb
  obtain ⟨ak, an, ay, al0, al1, al2, al3, al4, al5, al6, al7, al8, ae0, ae1, ae2, ae3, ae4, ae5, ae6, ae7, ae8, ab, as_, ah, ac, aat, rfl, i1, i2, i3, i4, i5⟩ := okS_ok h1
  obtain ⟨bk, bn, by_, bl0, bl1, bl2, bl3, bl4, bl5, bl6, bl7, bl8, be0, be1, be2, be3, be4, be5, be6, be7, be8, bb, bs, bh, bc, bat, rfl, j1, j2, j3, j4, j5⟩ := okS_ok h2
  show ∃ σ', CallRuns P (cfgOf m (extL [⟨54, .two, both (okX n), smX n⟩, ⟨35, .fn 36, both (okL (okS n)), smL (smS n)⟩, ⟨55, .fn 56, both (okL (okC (okS n))), smL (smC (smS n))⟩])) 36 [(.agg [.int .i64 ak, .str an, .str ay, al0, al1, al2, al3, al4, al5, al6, al7, al8, ae0, ae1, ae2, ae3, ae4, ae5, ae6, ae7, ae8, ab, as_, .bool ah, ac, .int .i64 aat]), (.agg [.int .i64 bk, .str bn, .str by_, bl0, bl1, bl2, bl3, bl4, bl5, bl6, bl7, bl8, be0, be1, be2, be3, be4, be5, be6, be7, be8, bb, bs, .bool bh, bc, .int .i64 bat])] none0 (.ret (.bool (smS (n + 1) (.agg [.int .i64 ak, .str an, .str ay, al0, al1, al2, al3, al4, al5, al6, al7, al8, ae0, ae1, ae2, ae3, ae4, ae5, ae6, ae7, ae8, ab, as_, .bool ah, ac, .int .i64 aat]) (.agg [.int .i64 bk, .str bn, .str by_, bl0, bl1, bl2, bl3, bl4, bl5, bl6, bl7, bl8, be0, be1, be2, be3, be4, be5, be6, be7, be8, bb, bs, .bool bh, bc, .int .i64 bat]))) σ')
  refine runs_of (pf_L fun c hc => ?_) (run36 m (both (okX n)) (smX n) (both (okL (okS n))) (smL (smS n)) (both (okL (okC (okS n)))) (smL (smC (smS n))) ak aat bk bat an ay bn by_ ah bh al0 al1 al2 al3 al4 al5 al6 al7 al8 ae0 ae1 ae2 ae3 ae4 ae5 ae6 ae7 ae8 bl0 bl1 bl2 bl3 bl4 bl5 bl6 bl7 bl8 be0 be1 be2 be3 be4 be5 be6 be7 be8 ab as_ bb bs ac bc _) ?_
  · simp only [List.mem_cons, List.mem_nil_iff, or_false] at hc
    rcases hc with rfl | rfl | rfl
    · exact h54 m n
    · exact h35
    · exact h55
  have e1 : both (okX n) (.agg [al0, al1, al2, al3, al4, al5, al6, al7, al8]) (.agg [bl0, bl1, bl2, bl3, bl4, bl5, bl6, bl7, bl8]) = true := by simp [both, i1, j1]
  have e2 : both (okX n) (.agg [ae0, ae1, ae2, ae3, ae4, ae5, ae6, ae7, ae8]) (.agg [be0, be1, be2, be3, be4, be5, be6, be7, be8]) = true := by simp [both, i2, j2]
  have e3 : both (okL (okS n)) ab bb = true := by simp [both, i3, j3]
  have e4 : both (okL (okS n)) as_ bs = true := by simp [both, i4, j4]
  have e5 : both (okL (okC (okS n))) ac bc = true := by simp [both, i5, j5]
  rw [e1, e2, e3, e4, e5]
  simp only [smS]
  cases hc : eqI ak bk
  · exact ⟨trivial, rfl⟩
  cases hc : beqBytes an bn
  · exact ⟨trivial, rfl⟩
  cases hc : beqBytes ay by_
  · exact ⟨trivial, rfl⟩
  cases hc : (ah == bh)
  · exact ⟨trivial, rfl⟩
  cases hc : smX n (.agg [al0, al1, al2, al3, al4, al5, al6, al7, al8]) (.agg [bl0, bl1, bl2, bl3, bl4, bl5, bl6, bl7, bl8])
  · exact ⟨trivial, rfl⟩
  cases hc : smX n (.agg [ae0, ae1, ae2, ae3, ae4, ae5, ae6, ae7, ae8]) (.agg [be0, be1, be2, be3, be4, be5, be6, be7, be8])
  · exact ⟨trivial, rfl⟩
  cases hc : smL (smS n) ab bb
  · exact ⟨trivial, rfl⟩
  cases hc : smL (smS n) as_ bs
  · exact ⟨trivial, rfl⟩
  cases hc : smL (smC (smS n)) ac bc
  · exact ⟨trivial, rfl⟩
  exact ⟨trivial, rfl⟩
theorem h36 (m : Int) : ∀ n, Holds m (k36 n)
  | 0 => fun x y h => by
    have h : both (okS 0) x y = true := h
    simp [both, okS] at h
  | n + 1 => s36 (s35 (h36 m n)) (s55 (s56 (s35 (h36 m n))))
theorem h35 (m : Int) (n : Nat) : Holds m (k35 n) := s35 (h36 m n)

noncomputable def c37 : Code := (body 37).at [false, false, true, false, true, true]
theorem f37 : (P.funcs[37]?).map (fun fn => (fn.body, fn.ntmps, fn.results.toList)) = some (some (body 37), 121, [.tmp 6]) := by kernel_rfl
def L37 (k : Int) : List (Nat × AV) := [(2, .bool false), (3, .ptr 0 0 0), (4, .ptr 1 0 0), (7, .int .i64 k)]
def lE37 : List (Nat × AV) := [(2, .bool false), (3, .ptr 0 0 0), (4, .ptr 1 0 0)]
def B37 (a b : AV) : List (Nat × Blk) := [(0, .row 26 [a] (some 73)), (1, .row 26 [b] (some 73))]
theorem iter37 (m : Int) (o1 g1 o2 g2 o3 g3 : AV → AV → Bool) (ak aat bk bat : Int) (an ay bn by_ : List UInt8) (ah bh : Bool) (al0 al1 al2 al3 al4 al5 al6 al7 al8 ae0 ae1 ae2 ae3 ae4 ae5 ae6 ae7 ae8 bl0 bl1 bl2 bl3 bl4 bl5 bl6 bl7 bl8 be0 be1 be2 be3 be4 be5 be6 be7 be8 ab as_ bb bs : AV) (l l' : List AV) (k : Int) (want : Flow) (c0 c1 d0 d1 : AV) : (((ecode P (cfgOf m (extL [⟨23, .two, o1, g1⟩, ⟨24, .at, o2, g2⟩, ⟨57, .at, o3, g3⟩])) forceT 121 false c37).run (ecall P (cfgOf m (extL [⟨23, .two, o1, g1⟩, ⟨24, .at, o2, g2⟩, ⟨57, .at, o3, g3⟩])) forceT 20) 20 (mkTrU 121 (L37 k)) [] (stOf 49 (B37 (.agg [.int .i64 ak, .str an, .str ay, al0, al1, al2, al3, al4, al5, al6, al7, al8, ae0, ae1, ae2, ae3, ae4, ae5, ae6, ae7, ae8, ab, as_, .bool ah, .lst l none, .int .i64 aat]) (.agg [.int .i64 bk, .str bn, .str by_, bl0, bl1, bl2, bl3, bl4, bl5, bl6, bl7, bl8, be0, be1, be2, be3, be4, be5, be6, be7, be8, bb, bs, .bool bh, .lst l' none, .int .i64 bat]))) (endS (GI L37 (B37 (.agg [.int .i64 ak, .str an, .str ay, al0, al1, al2, al3, al4, al5, al6, al7, al8, ae0, ae1, ae2, ae3, ae4, ae5, ae6, ae7, ae8, ab, as_, .bool ah, .lst l none, .int .i64 aat]) (.agg [.int .i64 bk, .str bn, .str by_, bl0, bl1, bl2, bl3, bl4, bl5, bl6, bl7, bl8, be0, be1, be2, be3, be4, be5, be6, be7, be8, bb, bs, .bool bh, .lst l' none, .int .i64 bat])) lE37 54 (B37 (.agg [.int .i64 ak, .str an, .str ay, al0, al1, al2, al3, al4, al5, al6, al7, al8, ae0, ae1, ae2, ae3, ae4, ae5, ae6, ae7, ae8, ab, as_, .bool ah, .lst l none, .int .i64 aat]) (.agg [.int .i64 bk, .str bn, .str by_, bl0, bl1, bl2, bl3, bl4, bl5, bl6, bl7, bl8, be0, be1, be2, be3, be4, be5, be6, be7, be8, bb, bs, .bool bh, .lst l' none, .int .i64 bat])) [(6, .bool false)] 86 [] want k))).run [(4, .nth (.agg [c0, c1])), (3, .nth (.agg [d0, d1])), (3, .nth (.agg [c0, c1])), (3, .nth (.agg [d0, d1]))] True) =
    (bif ltI k (l.length : Int) then (bif (decide (0 ≤ k) && decide (k < (l.length : Int)) && true) then (bif (decide (0 ≤ k) && decide (k < (l'.length : Int)) && true) then (bif o1 c0 d0 then (bif g1 c0 d0 then (bif (decide (0 ≤ k) && decide (k < (l.length : Int)) && true) then (bif (decide (0 ≤ k) && decide (k < (l'.length : Int)) && true) then (bif o2 c1 d1 then (bif g2 c1 d1 then (((((True ∧ l[k.toNat]? = some (.agg [c0, c1])) ∧ l'[k.toNat]? = some (.agg [d0, d1])) ∧ l[k.toNat]? = some (.agg [c0, c1])) ∧ l'[k.toNat]? = some (.agg [d0, d1])) ∧ (Flow.norm = want ∧ NormR (L37 (IntKind.i64.wrap (k + 1))) (B37 (.agg [.int .i64 ak, .str an, .str ay, al0, al1, al2, al3, al4, al5, al6, al7, al8, ae0, ae1, ae2, ae3, ae4, ae5, ae6, ae7, ae8, ab, as_, .bool ah, .lst l none, .int .i64 aat]) (.agg [.int .i64 bk, .str bn, .str by_, bl0, bl1, bl2, bl3, bl4, bl5, bl6, bl7, bl8, be0, be1, be2, be3, be4, be5, be6, be7, be8, bb, bs, .bool bh, .lst l' none, .int .i64 bat])))) else (((((True ∧ l[k.toNat]? = some (.agg [c0, c1])) ∧ l'[k.toNat]? = some (.agg [d0, d1])) ∧ l[k.toNat]? = some (.agg [c0, c1])) ∧ l'[k.toNat]? = some (.agg [d0, d1])) ∧ (Flow.ret = want ∧ AtR [(6, .bool false)] 86 []))) else False) else False) else False) else (((True ∧ l[k.toNat]? = some (.agg [c0, c1])) ∧ l'[k.toNat]? = some (.agg [d0, d1])) ∧ (Flow.ret = want ∧ AtR [(6, .bool false)] 86 []))) else False) else False) else False) else (True ∧ (Flow.exit 0 = want ∧ AtR lE37 54 (B37 (.agg [.int .i64 ak, .str an, .str ay, al0, al1, al2, al3, al4, al5, al6, al7, al8, ae0, ae1, ae2, ae3, ae4, ae5, ae6, ae7, ae8, ab, as_, .bool ah, .lst l none, .int .i64 aat]) (.agg [.int .i64 bk, .str bn, .str by_, bl0, bl1, bl2, bl3, bl4, bl5, bl6, bl7, bl8, be0, be1, be2, be3, be4, be5, be6, be7, be8, bb, bs, .bool bh, .lst l' none, .int .i64 bat]))))) := by kernel_rfl
theorem funE37 (m : Int) (o1 g1 o2 g2 o3 g3 : AV → AV → Bool) (ak aat bk bat : Int) (an ay bn by_ : List UInt8) (ah bh : Bool) (al0 al1 al2 al3 al4 al5 al6 al7 al8 ae0 ae1 ae2 ae3 ae4 ae5 ae6 ae7 ae8 bl0 bl1 bl2 bl3 bl4 bl5 bl6 bl7 bl8 be0 be1 be2 be3 be4 be5 be6 be7 be8 ab as_ bb bs : AV) (l l' : List AV) (T : AV → Prop) : ((wfun P (cfgOf m (extL [⟨23, .two, o1, g1⟩, ⟨24, .at, o2, g2⟩, ⟨57, .at, o3, g3⟩])) forceT 121 false (hookF 121 c37 (L37 ((0 : Nat) : Int)) 49 (B37 (.agg [.int .i64 ak, .str an, .str ay, al0, al1, al2, al3, al4, al5, al6, al7, al8, ae0, ae1, ae2, ae3, ae4, ae5, ae6, ae7, ae8, ab, as_, .bool ah, .lst l none, .int .i64 aat]) (.agg [.int .i64 bk, .str bn, .str by_, bl0, bl1, bl2, bl3, bl4, bl5, bl6, bl7, bl8, be0, be1, be2, be3, be4, be5, be6, be7, be8, bb, bs, .bool bh, .lst l' none, .int .i64 bat])) (.exit 0) lE37 54 (B37 (.agg [.int .i64 ak, .str an, .str ay, al0, al1, al2, al3, al4, al5, al6, al7, al8, ae0, ae1, ae2, ae3, ae4, ae5, ae6, ae7, ae8, ab, as_, .bool ah, .lst l none, .int .i64 aat]) (.agg [.int .i64 bk, .str bn, .str by_, bl0, bl1, bl2, bl3, bl4, bl5, bl6, bl7, bl8, be0, be1, be2, be3, be4, be5, be6, be7, be8, bb, bs, .bool bh, .lst l' none, .int .i64 bat]))) 20 20 (body 37) [.tmp 6] [(.agg [.int .i64 ak, .str an, .str ay, al0, al1, al2, al3, al4, al5, al6, al7, al8, ae0, ae1, ae2, ae3, ae4, ae5, ae6, ae7, ae8, ab, as_, .bool ah, .lst l none, .int .i64 aat]), (.agg [.int .i64 bk, .str bn, .str by_, bl0, bl1, bl2, bl3, bl4, bl5, bl6, bl7, bl8, be0, be1, be2, be3, be4, be5, be6, be7, be8, bb, bs, .bool bh, .lst l' none, .int .i64 bat]), .bool false] (fun v _ => T v)).run [] True) =
    (bif eqI ak bk then (bif beqBytes an bn then (bif beqBytes ay by_ then (bif (ah == bh) then (bif eqI (l.length : Int) (l'.length : Int) then (bif o3 (.agg [al0, al1, al2, al3, al4, al5, al6, al7, al8]) (.agg [bl0, bl1, bl2, bl3, bl4, bl5, bl6, bl7, bl8]) then (bif g3 (.agg [al0, al1, al2, al3, al4, al5, al6, al7, al8]) (.agg [bl0, bl1, bl2, bl3, bl4, bl5, bl6, bl7, bl8]) then (bif o3 (.agg [ae0, ae1, ae2, ae3, ae4, ae5, ae6, ae7, ae8]) (.agg [be0, be1, be2, be3, be4, be5, be6, be7, be8]) then (bif g3 (.agg [ae0, ae1, ae2, ae3, ae4, ae5, ae6, ae7, ae8]) (.agg [be0, be1, be2, be3, be4, be5, be6, be7, be8]) then (bif o2 ab bb then (bif g2 ab bb then (bif o2 as_ bs then (bif g2 as_ bs then ((True ∧ (c37 = c37 ∧ AtR (L37 ((0 : Nat) : Int)) 49 (B37 (.agg [.int .i64 ak, .str an, .str ay, al0, al1, al2, al3, al4, al5, al6, al7, al8, ae0, ae1, ae2, ae3, ae4, ae5, ae6, ae7, ae8, ab, as_, .bool ah, .lst l none, .int .i64 aat]) (.agg [.int .i64 bk, .str bn, .str by_, bl0, bl1, bl2, bl3, bl4, bl5, bl6, bl7, bl8, be0, be1, be2, be3, be4, be5, be6, be7, be8, bb, bs, .bool bh, .lst l' none, .int .i64 bat])))) ∧ T (.bool true)) else ((True ∧ (c37 = c37 ∧ AtR (L37 ((0 : Nat) : Int)) 49 (B37 (.agg [.int .i64 ak, .str an, .str ay, al0, al1, al2, al3, al4, al5, al6, al7, al8, ae0, ae1, ae2, ae3, ae4, ae5, ae6, ae7, ae8, ab, as_, .bool ah, .lst l none, .int .i64 aat]) (.agg [.int .i64 bk, .str bn, .str by_, bl0, bl1, bl2, bl3, bl4, bl5, bl6, bl7, bl8, be0, be1, be2, be3, be4, be5, be6, be7, be8, bb, bs, .bool bh, .lst l' none, .int .i64 bat])))) ∧ T (.bool false))) else False) else ((True ∧ (c37 = c37 ∧ AtR (L37 ((0 : Nat) : Int)) 49 (B37 (.agg [.int .i64 ak, .str an, .str ay, al0, al1, al2, al3, al4, al5, al6, al7, al8, ae0, ae1, ae2, ae3, ae4, ae5, ae6, ae7, ae8, ab, as_, .bool ah, .lst l none, .int .i64 aat]) (.agg [.int .i64 bk, .str bn, .str by_, bl0, bl1, bl2, bl3, bl4, bl5, bl6, bl7, bl8, be0, be1, be2, be3, be4, be5, be6, be7, be8, bb, bs, .bool bh, .lst l' none, .int .i64 bat])))) ∧ T (.bool false))) else False) else ((True ∧ (c37 = c37 ∧ AtR (L37 ((0 : Nat) : Int)) 49 (B37 (.agg [.int .i64 ak, .str an, .str ay, al0, al1, al2, al3, al4, al5, al6, al7, al8, ae0, ae1, ae2, ae3, ae4, ae5, ae6, ae7, ae8, ab, as_, .bool ah, .lst l none, .int .i64 aat]) (.agg [.int .i64 bk, .str bn, .str by_, bl0, bl1, bl2, bl3, bl4, bl5, bl6, bl7, bl8, be0, be1, be2, be3, be4, be5, be6, be7, be8, bb, bs, .bool bh, .lst l' none, .int .i64 bat])))) ∧ T (.bool false))) else False) else ((True ∧ (c37 = c37 ∧ AtR (L37 ((0 : Nat) : Int)) 49 (B37 (.agg [.int .i64 ak, .str an, .str ay, al0, al1, al2, al3, al4, al5, al6, al7, al8, ae0, ae1, ae2, ae3, ae4, ae5, ae6, ae7, ae8, ab, as_, .bool ah, .lst l none, .int .i64 aat]) (.agg [.int .i64 bk, .str bn, .str by_, bl0, bl1, bl2, bl3, bl4, bl5, bl6, bl7, bl8, be0, be1, be2, be3, be4, be5, be6, be7, be8, bb, bs, .bool bh, .lst l' none, .int .i64 bat])))) ∧ T (.bool false))) else False) else (True ∧ T (.bool false))) else (True ∧ T (.bool false))) else (True ∧ T (.bool false))) else (True ∧ T (.bool false))) else (True ∧ T (.bool false))) := by kernel_rfl
theorem funR37 (m : Int) (o1 g1 o2 g2 o3 g3 : AV → AV → Bool) (ak aat bk bat : Int) (an ay bn by_ : List UInt8) (ah bh : Bool) (al0 al1 al2 al3 al4 al5 al6 al7 al8 ae0 ae1 ae2 ae3 ae4 ae5 ae6 ae7 ae8 bl0 bl1 bl2 bl3 bl4 bl5 bl6 bl7 bl8 be0 be1 be2 be3 be4 be5 be6 be7 be8 ab as_ bb bs : AV) (l l' : List AV) (T : AV → Prop) : ((wfun P (cfgOf m (extL [⟨23, .two, o1, g1⟩, ⟨24, .at, o2, g2⟩, ⟨57, .at, o3, g3⟩])) forceT 121 false (hookF 121 c37 (L37 ((0 : Nat) : Int)) 49 (B37 (.agg [.int .i64 ak, .str an, .str ay, al0, al1, al2, al3, al4, al5, al6, al7, al8, ae0, ae1, ae2, ae3, ae4, ae5, ae6, ae7, ae8, ab, as_, .bool ah, .lst l none, .int .i64 aat]) (.agg [.int .i64 bk, .str bn, .str by_, bl0, bl1, bl2, bl3, bl4, bl5, bl6, bl7, bl8, be0, be1, be2, be3, be4, be5, be6, be7, be8, bb, bs, .bool bh, .lst l' none, .int .i64 bat])) .ret [(6, .bool false)] 86 []) 20 20 (body 37) [.tmp 6] [(.agg [.int .i64 ak, .str an, .str ay, al0, al1, al2, al3, al4, al5, al6, al7, al8, ae0, ae1, ae2, ae3, ae4, ae5, ae6, ae7, ae8, ab, as_, .bool ah, .lst l none, .int .i64 aat]), (.agg [.int .i64 bk, .str bn, .str by_, bl0, bl1, bl2, bl3, bl4, bl5, bl6, bl7, bl8, be0, be1, be2, be3, be4, be5, be6, be7, be8, bb, bs, .bool bh, .lst l' none, .int .i64 bat]), .bool false] (fun v _ => T v)).run [] True) =
    (bif eqI ak bk then (bif beqBytes an bn then (bif beqBytes ay by_ then (bif (ah == bh) then (bif eqI (l.length : Int) (l'.length : Int) then ((True ∧ (c37 = c37 ∧ AtR (L37 ((0 : Nat) : Int)) 49 (B37 (.agg [.int .i64 ak, .str an, .str ay, al0, al1, al2, al3, al4, al5, al6, al7, al8, ae0, ae1, ae2, ae3, ae4, ae5, ae6, ae7, ae8, ab, as_, .bool ah, .lst l none, .int .i64 aat]) (.agg [.int .i64 bk, .str bn, .str by_, bl0, bl1, bl2, bl3, bl4, bl5, bl6, bl7, bl8, be0, be1, be2, be3, be4, be5, be6, be7, be8, bb, bs, .bool bh, .lst l' none, .int .i64 bat])))) ∧ T (.bool false)) else (True ∧ T (.bool false))) else (True ∧ T (.bool false))) else (True ∧ T (.bool false))) else (True ∧ T (.bool false))) else (True ∧ T (.bool false))) := by kernel_rfl
theorem funD37 (m : Int) (o1 g1 o2 g2 o3 g3 : AV → AV → Bool) (ak aat bk bat : Int) (an ay bn by_ : List UInt8) (ah bh : Bool) (al0 al1 al2 al3 al4 al5 al6 al7 al8 ae0 ae1 ae2 ae3 ae4 ae5 ae6 ae7 ae8 bl0 bl1 bl2 bl3 bl4 bl5 bl6 bl7 bl8 be0 be1 be2 be3 be4 be5 be6 be7 be8 ab as_ bb bs : AV) (l l' : List AV) (T : AV → Prop) : ((wfun P (cfgOf m (extL [⟨23, .two, o1, g1⟩, ⟨24, .at, o2, g2⟩, ⟨57, .at, o3, g3⟩])) forceT 121 false hookBad 20 20 (body 37) [.tmp 6] [(.agg [.int .i64 ak, .str an, .str ay, al0, al1, al2, al3, al4, al5, al6, al7, al8, ae0, ae1, ae2, ae3, ae4, ae5, ae6, ae7, ae8, ab, as_, .bool ah, .lst l none, .int .i64 aat]), (.agg [.int .i64 bk, .str bn, .str by_, bl0, bl1, bl2, bl3, bl4, bl5, bl6, bl7, bl8, be0, be1, be2, be3, be4, be5, be6, be7, be8, bb, bs, .bool bh, .lst l' none, .int .i64 bat]), .bool false] (fun v _ => T v)).run [] True) =
    (bif eqI ak bk then (bif beqBytes an bn then (bif beqBytes ay by_ then (bif (ah == bh) then (bif eqI (l.length : Int) (l'.length : Int) then False else (True ∧ T (.bool false))) else (True ∧ T (.bool false))) else (True ∧ T (.bool false))) else (True ∧ T (.bool false))) else (True ∧ T (.bool false))) := by kernel_rfl
theorem ren_row {π : Nat → Option Nat} {k : Nat} {a : AV} {ty : Option TypeId} (h : closedV a = true) : renB π (.row k [a] ty) = some (.row k [a] ty) := by
  have h : renVs π [a] = some [a] := renVs_closed π [a] (by simp [closedV.closedVs, h])
  simp only [renB, h, Option.map_some]
theorem loop37 {m : Int} {n : Nat} (pf : PF P (cfgOf m (extL [⟨23, .two, both (okL isInt), smL intEq⟩, ⟨24, .at, both (okL (okS n)), smL (smS n)⟩, ⟨57, .at, both (okX n), smX n⟩]))) (ak aat bk bat : Int) (an ay bn by_ : List UInt8) (ah bh : Bool) (al0 al1 al2 al3 al4 al5 al6 al7 al8 ae0 ae1 ae2 ae3 ae4 ae5 ae6 ae7 ae8 bl0 bl1 bl2 bl3 bl4 bl5 bl6 bl7 bl8 be0 be1 be2 be3 be4 be5 be6 be7 be8 ab as_ bb bs : AV) {l l' : List AV} (hlen : l.length = l'.length) (hbig : l.length ≤ 9223372036854775807) (ha : ∀ x ∈ l, okC (okS n) x = true) (ha' : ∀ x ∈ l', okC (okS n) x = true)
    (hA : closedV (.agg [.int .i64 ak, .str an, .str ay, al0, al1, al2, al3, al4, al5, al6, al7, al8, ae0, ae1, ae2, ae3, ae4, ae5, ae6, ae7, ae8, ab, as_, .bool ah, .lst l none, .int .i64 aat]) = true) (hB : closedV (.agg [.int .i64 bk, .str bn, .str by_, bl0, bl1, bl2, bl3, bl4, bl5, bl6, bl7, bl8, be0, be1, be2, be3, be4, be5, be6, be7, be8, bb, bs, .bool bh, .lst l' none, .int .i64 bat]) = true) :
    (all2 (smC (smS n)) l l' = true → LoopLem m (extL [⟨23, .two, both (okL isInt), smL intEq⟩, ⟨24, .at, both (okL (okS n)), smL (smS n)⟩, ⟨57, .at, both (okX n), smX n⟩]) 121 c37 (L37 ((0 : Nat) : Int)) 49 (B37 (.agg [.int .i64 ak, .str an, .str ay, al0, al1, al2, al3, al4, al5, al6, al7, al8, ae0, ae1, ae2, ae3, ae4, ae5, ae6, ae7, ae8, ab, as_, .bool ah, .lst l none, .int .i64 aat]) (.agg [.int .i64 bk, .str bn, .str by_, bl0, bl1, bl2, bl3, bl4, bl5, bl6, bl7, bl8, be0, be1, be2, be3, be4, be5, be6, be7, be8, bb, bs, .bool bh, .lst l' none, .int .i64 bat])) (.exit 0) lE37 54 (B37 (.agg [.int .i64 ak, .str an, .str ay, al0, al1, al2, al3, al4, al5, al6, al7, al8, ae0, ae1, ae2, ae3, ae4, ae5, ae6, ae7, ae8, ab, as_, .bool ah, .lst l none, .int .i64 aat]) (.agg [.int .i64 bk, .str bn, .str by_, bl0, bl1, bl2, bl3, bl4, bl5, bl6, bl7, bl8, be0, be1, be2, be3, be4, be5, be6, be7, be8, bb, bs, .bool bh, .lst l' none, .int .i64 bat]))) ∧ (all2 (smC (smS n)) l l' = false → LoopLem m (extL [⟨23, .two, both (okL isInt), smL intEq⟩, ⟨24, .at, both (okL (okS n)), smL (smS n)⟩, ⟨57, .at, both (okX n), smX n⟩]) 121 c37 (L37 ((0 : Nat) : Int)) 49 (B37 (.agg [.int .i64 ak, .str an, .str ay, al0, al1, al2, al3, al4, al5, al6, al7, al8, ae0, ae1, ae2, ae3, ae4, ae5, ae6, ae7, ae8, ab, as_, .bool ah, .lst l none, .int .i64 aat]) (.agg [.int .i64 bk, .str bn, .str by_, bl0, bl1, bl2, bl3, bl4, bl5, bl6, bl7, bl8, be0, be1, be2, be3, be4, be5, be6, be7, be8, bb, bs, .bool bh, .lst l' none, .int .i64 bat])) .ret [(6, .bool false)] 86 []) := by
  have h := pairLoop (N := 121) (nx := 49) (ex := 0) (nxE := 54) (nxR := 86) (rm := false) (c := c37) (L := L37) (bl := (B37 (.agg [.int .i64 ak, .str an, .str ay, al0, al1, al2, al3, al4, al5, al6, al7, al8, ae0, ae1, ae2, ae3, ae4, ae5, ae6, ae7, ae8, ab, as_, .bool ah, .lst l none, .int .i64 aat]) (.agg [.int .i64 bk, .str bn, .str by_, bl0, bl1, bl2, bl3, bl4, bl5, bl6, bl7, bl8, be0, be1, be2, be3, be4, be5, be6, be7, be8, bb, bs, .bool bh, .lst l' none, .int .i64 bat]))) (blE := (B37 (.agg [.int .i64 ak, .str an, .str ay, al0, al1, al2, al3, al4, al5, al6, al7, al8, ae0, ae1, ae2, ae3, ae4, ae5, ae6, ae7, ae8, ab, as_, .bool ah, .lst l none, .int .i64 aat]) (.agg [.int .i64 bk, .str bn, .str by_, bl0, bl1, bl2, bl3, bl4, bl5, bl6, bl7, bl8, be0, be1, be2, be3, be4, be5, be6, be7, be8, bb, bs, .bool bh, .lst l' none, .int .i64 bat]))) (blR := []) (lE := lE37) (lR := [(6, .bool false)]) (l := l) (l' := l') (f := smC (smS n)) pf hlen hbig (fun _ => rfl) (fun _ => ⟨rfl, rfl, rfl, rfl, trivial⟩) (fun p hp => ?_) (fun k x y hx hy => ?_) ⟨[(4, .nth (.agg [.undef, .undef])), (3, .nth (.agg [.undef, .undef])), (3, .nth (.agg [.undef, .undef])), (3, .nth (.agg [.undef, .undef]))], Q.of_eq (iter37 m (both (okL isInt)) (smL intEq) (both (okL (okS n))) (smL (smS n)) (both (okX n)) (smX n) ak aat bk bat an ay bn by_ ah bh al0 al1 al2 al3 al4 al5 al6 al7 al8 ae0 ae1 ae2 ae3 ae4 ae5 ae6 ae7 ae8 bl0 bl1 bl2 bl3 bl4 bl5 bl6 bl7 bl8 be0 be1 be2 be3 be4 be5 be6 be7 be8 ab as_ bb bs l l' l.length (.exit 0) .undef .undef .undef .undef) (by
    rw [c_out]
    exact ⟨trivial, rfl, atR _ _ _⟩)⟩ l.length 0 rfl
  · simpa only [List.drop_zero] using h
  · simp only [B37, List.mem_cons, List.mem_nil_iff, or_false] at hp
    rcases hp with rfl | rfl
    · exact ⟨rfl, ren_row hA⟩
    · exact ⟨rfl, ren_row hB⟩
  · have hk : k < l.length := (List.getElem?_eq_some_iff.1 hx).1
    obtain ⟨c0, c1, rfl, i1, i2⟩ := okC_ok (ha x (mem_of hx))
    obtain ⟨d0, d1, rfl, j1, j2⟩ := okC_ok (ha' y (mem_of hy))
    have e1 : both (okL isInt) c0 d0 = true := by simp [both, i1, j1]
    have e2 : both (okL (okS n)) c1 d1 = true := by simp [both, i2, j2]
    obtain ⟨g1, g2⟩ := c_in hk
    obtain ⟨_, g3⟩ := c_in (l := l') (k := k) (by omega)
    refine ⟨[(4, .nth (.agg [c0, c1])), (3, .nth (.agg [d0, d1])), (3, .nth (.agg [c0, c1])), (3, .nth (.agg [d0, d1]))], Q.of_eq (iter37 m (both (okL isInt)) (smL intEq) (both (okL (okS n))) (smL (smS n)) (both (okX n)) (smX n) ak aat bk bat an ay bn by_ ah bh al0 al1 al2 al3 al4 al5 al6 al7 al8 ae0 ae1 ae2 ae3 ae4 ae5 ae6 ae7 ae8 bl0 bl1 bl2 bl3 bl4 bl5 bl6 bl7 bl8 be0 be1 be2 be3 be4 be5 be6 be7 be8 ab as_ bb bs l l' k _ c0 c1 d0 d1) ?_⟩
    rw [g1, g2, g3, e1, e2]
    simp only [smC]
    cases hc : smL intEq c0 d0
    · exact ⟨⟨⟨trivial, at_some hx⟩, at_some hy⟩, rfl, atR _ _ _⟩
    cases hc : smL (smS n) c1 d1
    · exact ⟨⟨⟨⟨⟨trivial, at_some hx⟩, at_some hy⟩, at_some hx⟩, at_some hy⟩, rfl, atR _ _ _⟩
    exact ⟨⟨⟨⟨⟨trivial, at_some hx⟩, at_some hy⟩, at_some hx⟩, at_some hy⟩, rfl, normR _ _⟩
theorem s37 {m : Int} {n : Nat} (h24 : Holds m (k24 n)) : Holds m (k37 (n + 1)) := by
  refine holds_of (e := extL [⟨23, .two, both (okL isInt), smL intEq⟩, ⟨24, .at, both (okL (okS n)), smL (smS n)⟩, ⟨57, .at, both (okX n), smX n⟩]) (both_closed (okS_closed (n + 1))) fun x y hb => ?_
  obtain ⟨h1, h2⟩ := both_ok hb
  have hA := okS_closed _ _ h1
  have hB := okS_closed _ _ h2
  obtain ⟨ak, an, ay, al0, al1, al2, al3, al4, al5, al6, al7, al8, ae0, ae1, ae2, ae3, ae4, ae5, ae6, ae7, ae8, ab, as_, ah, ac, aat, rfl, i1, i2, i3, i4, i5⟩ := okS_ok h1
  obtain ⟨bk, bn, by_, bl0, bl1, bl2, bl3, bl4, bl5, bl6, bl7, bl8, be0, be1, be2, be3, be4, be5, be6, be7, be8, bb, bs, bh, bc, bat, rfl, j1, j2, j3, j4, j5⟩ := okS_ok h2
  obtain ⟨l, rfl, hl, ha⟩ := okL_ok i5
  obtain ⟨l', rfl, hl', ha'⟩ := okL_ok j5
  have pf : PF P (cfgOf m (extL [⟨23, .two, both (okL isInt), smL intEq⟩, ⟨24, .at, both (okL (okS n)), smL (smS n)⟩, ⟨57, .at, both (okX n), smX n⟩])) := pf_L fun c hc => by
    simp only [List.mem_cons, List.mem_nil_iff, or_false] at hc
    rcases hc with rfl | rfl | rfl
    · exact h23 m
    · exact h24
    · exact h57 m n
  show ∃ σ', CallRuns P (cfgOf m (extL [⟨23, .two, both (okL isInt), smL intEq⟩, ⟨24, .at, both (okL (okS n)), smL (smS n)⟩, ⟨57, .at, both (okX n), smX n⟩])) 37 [(.agg [.int .i64 ak, .str an, .str ay, al0, al1, al2, al3, al4, al5, al6, al7, al8, ae0, ae1, ae2, ae3, ae4, ae5, ae6, ae7, ae8, ab, as_, .bool ah, .lst l none, .int .i64 aat]), (.agg [.int .i64 bk, .str bn, .str by_, bl0, bl1, bl2, bl3, bl4, bl5, bl6, bl7, bl8, be0, be1, be2, be3, be4, be5, be6, be7, be8, bb, bs, .bool bh, .lst l' none, .int .i64 bat]), .bool false] none0 (.ret (.bool (smS (n + 1) (.agg [.int .i64 ak, .str an, .str ay, al0, al1, al2, al3, al4, al5, al6, al7, al8, ae0, ae1, ae2, ae3, ae4, ae5, ae6, ae7, ae8, ab, as_, .bool ah, .lst l none, .int .i64 aat]) (.agg [.int .i64 bk, .str bn, .str by_, bl0, bl1, bl2, bl3, bl4, bl5, bl6, bl7, bl8, be0, be1, be2, be3, be4, be5, be6, be7, be8, bb, bs, .bool bh, .lst l' none, .int .i64 bat]))) σ')
  have e1 : both (okX n) (.agg [al0, al1, al2, al3, al4, al5, al6, al7, al8]) (.agg [bl0, bl1, bl2, bl3, bl4, bl5, bl6, bl7, bl8]) = true := by simp [both, i1, j1]
  have e2 : both (okX n) (.agg [ae0, ae1, ae2, ae3, ae4, ae5, ae6, ae7, ae8]) (.agg [be0, be1, be2, be3, be4, be5, be6, be7, be8]) = true := by simp [both, i2, j2]
  have e3 : both (okL (okS n)) ab bb = true := by simp [both, i3, j3]
  have e4 : both (okL (okS n)) as_ bs = true := by simp [both, i4, j4]
  simp only [smS]
  by_cases hlen : l.length = l'.length
  · obtain ⟨h1, h2⟩ := loop37 pf ak aat bk bat an ay bn by_ ah bh al0 al1 al2 al3 al4 al5 al6 al7 al8 ae0 ae1 ae2 ae3 ae4 ae5 ae6 ae7 ae8 bl0 bl1 bl2 bl3 bl4 bl5 bl6 bl7 bl8 be0 be1 be2 be3 be4 be5 be6 be7 be8 ab as_ bb bs hlen hl ha ha' hA hB
    cases hb : all2 (smC (smS n)) l l' with
    | true =>
      have hb2 : smL (smC (smS n)) (.lst l none) (.lst l' none) = true := hb
      obtain ⟨v, σ', h, hv⟩ := wfun_runs pf (mode0 m _) forceT_good (hookF_ok (h1 hb) rfl rfl (by simp)) f37 (by simp) (Q.of_eq (funE37 m (both (okL isInt)) (smL intEq) (both (okL (okS n))) (smL (smS n)) (both (okX n)) (smX n) ak aat bk bat an ay bn by_ ah bh al0 al1 al2 al3 al4 al5 al6 al7 al8 ae0 ae1 ae2 ae3 ae4 ae5 ae6 ae7 ae8 bl0 bl1 bl2 bl3 bl4 bl5 bl6 bl7 bl8 be0 be1 be2 be3 be4 be5 be6 be7 be8 ab as_ bb bs l l' (fun v => v = .bool (eqI ak bk && (beqBytes an bn && (beqBytes ay by_ && ((ah == bh) && (smX n (.agg [al0, al1, al2, al3, al4, al5, al6, al7, al8]) (.agg [bl0, bl1, bl2, bl3, bl4, bl5, bl6, bl7, bl8]) && (smX n (.agg [ae0, ae1, ae2, ae3, ae4, ae5, ae6, ae7, ae8]) (.agg [be0, be1, be2, be3, be4, be5, be6, be7, be8]) && (smL (smS n) ab bb && (smL (smS n) as_ bs && (smL (smC (smS n)) (.lst l none) (.lst l' none) && true))))))))))) (by
        rw [c_len hlen, e1, e2, e3, e4, hb2]
        cases hc : eqI ak bk
        · exact ⟨trivial, rfl⟩
        cases hc : beqBytes an bn
        · exact ⟨trivial, rfl⟩
        cases hc : beqBytes ay by_
        · exact ⟨trivial, rfl⟩
        cases hc : (ah == bh)
        · exact ⟨trivial, rfl⟩
        cases hc : smX n (.agg [al0, al1, al2, al3, al4, al5, al6, al7, al8]) (.agg [bl0, bl1, bl2, bl3, bl4, bl5, bl6, bl7, bl8])
        · exact ⟨⟨trivial, rfl, atR _ _ _⟩, rfl⟩
        cases hc : smX n (.agg [ae0, ae1, ae2, ae3, ae4, ae5, ae6, ae7, ae8]) (.agg [be0, be1, be2, be3, be4, be5, be6, be7, be8])
        · exact ⟨⟨trivial, rfl, atR _ _ _⟩, rfl⟩
        cases hc : smL (smS n) ab bb
        · exact ⟨⟨trivial, rfl, atR _ _ _⟩, rfl⟩
        cases hc : smL (smS n) as_ bs
        · exact ⟨⟨trivial, rfl, atR _ _ _⟩, rfl⟩
        exact ⟨⟨trivial, rfl, atR _ _ _⟩, rfl⟩))
      subst hv
      exact ⟨σ', h⟩
    | false =>
      have hb2 : smL (smC (smS n)) (.lst l none) (.lst l' none) = false := hb
      obtain ⟨v, σ', h, hv⟩ := wfun_runs pf (mode0 m _) forceT_good (hookF_ok (h2 hb) rfl rfl (by simp)) f37 (by simp) (Q.of_eq (funR37 m (both (okL isInt)) (smL intEq) (both (okL (okS n))) (smL (smS n)) (both (okX n)) (smX n) ak aat bk bat an ay bn by_ ah bh al0 al1 al2 al3 al4 al5 al6 al7 al8 ae0 ae1 ae2 ae3 ae4 ae5 ae6 ae7 ae8 bl0 bl1 bl2 bl3 bl4 bl5 bl6 bl7 bl8 be0 be1 be2 be3 be4 be5 be6 be7 be8 ab as_ bb bs l l' (fun v => v = .bool false)) (by
        rw [c_len hlen]
        cases hc : eqI ak bk
        · exact ⟨trivial, rfl⟩
        cases hc : beqBytes an bn
        · exact ⟨trivial, rfl⟩
        cases hc : beqBytes ay by_
        · exact ⟨trivial, rfl⟩
        cases hc : (ah == bh)
        · exact ⟨trivial, rfl⟩
        exact ⟨⟨trivial, rfl, atR _ _ _⟩, rfl⟩))
      subst hv
      simp only [hb2, Bool.false_and, Bool.and_false]
      exact ⟨σ', h⟩
  · have hb2 : smL (smC (smS n)) (.lst l none) (.lst l' none) = false := all2_len hlen
    obtain ⟨v, σ', h, hv⟩ := wfun_runs pf (mode0 m _) forceT_good hookBad_ok f37 (by simp) (Q.of_eq (funD37 m (both (okL isInt)) (smL intEq) (both (okL (okS n))) (smL (smS n)) (both (okX n)) (smX n) ak aat bk bat an ay bn by_ ah bh al0 al1 al2 al3 al4 al5 al6 al7 al8 ae0 ae1 ae2 ae3 ae4 ae5 ae6 ae7 ae8 bl0 bl1 bl2 bl3 bl4 bl5 bl6 bl7 bl8 be0 be1 be2 be3 be4 be5 be6 be7 be8 ab as_ bb bs l l' (fun v => v = .bool false)) (by
      rw [c_nlen hlen]
      cases hc : eqI ak bk
      · exact ⟨trivial, rfl⟩
      cases hc : beqBytes an bn
      · exact ⟨trivial, rfl⟩
      cases hc : beqBytes ay by_
      · exact ⟨trivial, rfl⟩
      cases hc : (ah == bh)
      · exact ⟨trivial, rfl⟩
      exact ⟨trivial, rfl⟩))
    subst hv
    simp only [hb2, Bool.false_and, Bool.and_false]
    exact ⟨σ', h⟩
theorem h37 (m : Int) : ∀ n, Holds m (k37 n)
  | 0 => fun x y h => by
    have h : both (okS 0) x y = true := h
    simp [both, okS] at h
  | n + 1 => s37 (s24 (h37 m n))
theorem h24 (m : Int) (n : Nat) : Holds m (k24 n) := s24 (h37 m n)
end Go.Proofs.Mn
