/-
MiniNames: functions, structs, tables, programs.
-/
import Derived.Test.YtcphlgkfboafoaaGreatDoorM5
set_option linter.unusedVariables false
set_option linter.unusedSimpArgs false
namespace Go.Proofs.Mn
open Go Go.Am

def okF (p : AV → Bool) : AV → Bool
  | .agg [.str _, ps, .str _, b, .int .i64 _] => okL isFld ps && okL p b
  | _ => false
def smF (f : AV → AV → Bool) : AV → AV → Bool
  | .agg [.str an, ap, .str ar, ab, _], .agg [.str bn, bp, .str br, bb, _] => beqBytes an bn && (smL fldEq ap bp && (beqBytes ar br && (smL f ab bb && true)))
  | _, _ => false
def okD (p : AV → Bool) : AV → Bool
  | .agg [.str _, b] => okL p b
  | _ => false
def smD (f : AV → AV → Bool) : AV → AV → Bool
  | .agg [.str an, a], .agg [.str bn, b] => beqBytes an bn && (smL f a b && true)
  | _, _ => false
def okP (p : AV → Bool) : AV → Bool
  | .agg [.str _, ss, ts, fs] => okL (okD isFld) ss && (okL (okD isInt) ts && okL (okF p) fs)
  | _ => false
def smP (f : AV → AV → Bool) : AV → AV → Bool
  | .agg [.str an, a1, a2, a3], .agg [.str bn, b1, b2, b3] => smL (smD fldEq) a1 b1 && (smL (smD intEq) a2 b2 && (beqBytes an bn && (smL (smF f) a3 b3 && true)))
  | _, _ => false
theorem okF_ok {p : AV → Bool} {x : AV} (h : okF p x = true) : ∃ an ap ar ab aat, x = .agg [.str an, ap, .str ar, ab, .int .i64 aat] ∧ okL isFld ap = true ∧ okL p ab = true := by
  unfold okF at h
  split at h
  · simp only [Bool.and_eq_true] at h
    exact ⟨_, _, _, _, _, rfl, h.1, h.2⟩
  · cases h
theorem okD_ok {p : AV → Bool} {x : AV} (h : okD p x = true) : ∃ an a, x = .agg [.str an, a] ∧ okL p a = true := by
  unfold okD at h
  split at h
  · exact ⟨_, _, rfl, h⟩
  · cases h
theorem okP_ok {p : AV → Bool} {x : AV} (h : okP p x = true) : ∃ an a1 a2 a3, x = .agg [.str an, a1, a2, a3] ∧ okL (okD isFld) a1 = true ∧ okL (okD isInt) a2 = true ∧ okL (okF p) a3 = true := by
  unfold okP at h
  split at h
  · simp only [Bool.and_eq_true] at h
    exact ⟨_, _, _, _, rfl, h.1, h.2.1, h.2.2⟩
  · cases h
theorem okF_closed {p : AV → Bool} (hp : ∀ x, p x = true → closedV x = true) (x : AV) (h : okF p x = true) : closedV x = true := by
  obtain ⟨an, ap, ar, ab, aat, rfl, h1, h2⟩ := okF_ok h
  simp only [closedV, closedV.closedVs, okL_closed isFld_closed h1, okL_closed hp h2, Bool.and_self]
theorem okD_closed {p : AV → Bool} (hp : ∀ x, p x = true → closedV x = true) (x : AV) (h : okD p x = true) : closedV x = true := by
  obtain ⟨an, a, rfl, h1⟩ := okD_ok h
  simp only [closedV, closedV.closedVs, okL_closed hp h1, Bool.and_self]
theorem okP_closed {p : AV → Bool} (hp : ∀ x, p x = true → closedV x = true) (x : AV) (h : okP p x = true) : closedV x = true := by
  obtain ⟨an, a1, a2, a3, rfl, h1, h2, h3⟩ := okP_ok h
  simp only [closedV, closedV.closedVs, okL_closed (okD_closed isFld_closed) h1, okL_closed (okD_closed isInt_closed) h2, okL_closed (okF_closed hp) h3, Bool.and_self]
theorem okF_sh {p : AV → Bool} {x : AV} (h : okF p x = true) : ShA 5 x := by
  obtain ⟨an, ap, ar, ab, aat, rfl, h1, h2⟩ := okF_ok h
  exact ⟨_, rfl, rfl⟩
theorem okD_sh {p : AV → Bool} {x : AV} (h : okD p x = true) : ShA 2 x := by
  obtain ⟨an, a, rfl, h1⟩ := okD_ok h
  exact ⟨_, rfl, rfl⟩
def k21 (n : Nat) : Con := ⟨21, .two, both (okF (okS n)), smF (smS n)⟩
def k20 (n : Nat) : Con := ⟨20, .fn 21, both (okL (okF (okS n))), smL (smF (smS n))⟩
def k15 : Con := ⟨15, .two, both (okD isFld), smD fldEq⟩
def k14 : Con := ⟨14, .fn 15, both (okL (okD isFld)), smL (smD fldEq)⟩
def k18 : Con := ⟨18, .two, both (okD isInt), smD intEq⟩
def k17 : Con := ⟨17, .fn 18, both (okL (okD isInt)), smL (smD intEq)⟩
def k6 (n : Nat) : Con := ⟨6, .two, both (okP (okS n)), smP (smS n)⟩
def k7 (n : Nat) : Con := ⟨7, .at, both (okP (okS n)), smP (smS n)⟩
theorem s20 {m : Int} {n : Nat} (h : Holds m (k21 n)) : Holds m (k20 n) := by
  refine holds_of (e := extL [(k21 n)]) (both_closed fun x h => okL_closed (okF_closed (okS_closed n)) h) fun x y hb => ?_
  obtain ⟨h1, h2⟩ := both_ok hb
  obtain ⟨l, rfl, hl, ha⟩ := okL_ok h1
  obtain ⟨l', rfl, hl', ha'⟩ := okL_ok h2
  exact ctr20 (pf_L fun c hc => by rw [List.mem_singleton.1 hc]; exact h) hl (closed_all (okF_closed (okS_closed n)) ha) (closed_all (okF_closed (okS_closed n)) ha') (fun x hx => okF_sh (ha x hx)) (fun x hx => okF_sh (ha' x hx)) (fun x hx y hy => by simp [both, ha x hx, ha' y hy])
theorem s14 {m : Int} (h : Holds m k15) : Holds m k14 := by
  refine holds_of (e := extL [k15]) (both_closed fun x h => okL_closed (okD_closed isFld_closed) h) fun x y hb => ?_
  obtain ⟨h1, h2⟩ := both_ok hb
  obtain ⟨l, rfl, hl, ha⟩ := okL_ok h1
  obtain ⟨l', rfl, hl', ha'⟩ := okL_ok h2
  exact ctr14 (pf_L fun c hc => by rw [List.mem_singleton.1 hc]; exact h) hl (closed_all (okD_closed isFld_closed) ha) (closed_all (okD_closed isFld_closed) ha') (fun x hx => okD_sh (ha x hx)) (fun x hx => okD_sh (ha' x hx)) (fun x hx y hy => by simp [both, ha x hx, ha' y hy])
theorem s17 {m : Int} (h : Holds m k18) : Holds m k17 := by
  refine holds_of (e := extL [k18]) (both_closed fun x h => okL_closed (okD_closed isInt_closed) h) fun x y hb => ?_
  obtain ⟨h1, h2⟩ := both_ok hb
  obtain ⟨l, rfl, hl, ha⟩ := okL_ok h1
  obtain ⟨l', rfl, hl', ha'⟩ := okL_ok h2
  exact ctr17 (pf_L fun c hc => by rw [List.mem_singleton.1 hc]; exact h) hl (closed_all (okD_closed isInt_closed) ha) (closed_all (okD_closed isInt_closed) ha') (fun x hx => okD_sh (ha x hx)) (fun x hx => okD_sh (ha' x hx)) (fun x hx y hy => by simp [both, ha x hx, ha' y hy])
theorem run15 (m : Int) (o1 g1 : AV → AV → Bool) (an bn : List UInt8) (a b v : AV) : ((ecall P (cfgOf m (extL [⟨16, .two, o1, g1⟩])) forceT 20 15 [.agg [.str an, a], .agg [.str bn, b]] none0 (endC (retIs v))).run [] True) =
    (bif beqBytes an bn then (bif o1 a b then (bif g1 a b then (True ∧ AV.bool true = v) else (True ∧ AV.bool false = v)) else False) else (True ∧ AV.bool false = v)) := by kernel_rfl
theorem h15 (m : Int) : Holds m k15 := by
  refine holds_of (e := extL [⟨16, .two, both (okL isFld), smL fldEq⟩]) (both_closed (okD_closed isFld_closed)) fun x y hb => ?_
  obtain ⟨h1, h2⟩ := both_ok hb
  obtain ⟨an, a, rfl, i1⟩ := okD_ok h1
  obtain ⟨bn, b, rfl, j1⟩ := okD_ok h2
  show ∃ σ', CallRuns P (cfgOf m (extL [⟨16, .two, both (okL isFld), smL fldEq⟩])) 15 [.agg [.str an, a], .agg [.str bn, b]] none0 (.ret (.bool (smD fldEq (.agg [.str an, a]) (.agg [.str bn, b]))) σ')
  refine runs_of (pf_L fun c hc => ?_) (run15 m (both (okL isFld)) (smL fldEq) an bn a b _) ?_
  · rw [List.mem_singleton.1 hc]
    exact h16 m
  have e1 : both (okL isFld) a b = true := by simp [both, i1, j1]
  rw [e1]
  simp only [smD]
  cases hc : beqBytes an bn
  · exact ⟨trivial, rfl⟩
  cases hc : smL fldEq a b
  · exact ⟨trivial, rfl⟩
  exact ⟨trivial, rfl⟩
theorem run18 (m : Int) (o1 g1 : AV → AV → Bool) (an bn : List UInt8) (a b v : AV) : ((ecall P (cfgOf m (extL [⟨19, .two, o1, g1⟩])) forceT 20 18 [.agg [.str an, a], .agg [.str bn, b]] none0 (endC (retIs v))).run [] True) =
    (bif beqBytes an bn then (bif o1 a b then (bif g1 a b then (True ∧ AV.bool true = v) else (True ∧ AV.bool false = v)) else False) else (True ∧ AV.bool false = v)) := by kernel_rfl
theorem h18 (m : Int) : Holds m k18 := by
  refine holds_of (e := extL [⟨19, .two, both (okL isInt), smL intEq⟩]) (both_closed (okD_closed isInt_closed)) fun x y hb => ?_
  obtain ⟨h1, h2⟩ := both_ok hb
  obtain ⟨an, a, rfl, i1⟩ := okD_ok h1
  obtain ⟨bn, b, rfl, j1⟩ := okD_ok h2
  show ∃ σ', CallRuns P (cfgOf m (extL [⟨19, .two, both (okL isInt), smL intEq⟩])) 18 [.agg [.str an, a], .agg [.str bn, b]] none0 (.ret (.bool (smD intEq (.agg [.str an, a]) (.agg [.str bn, b]))) σ')
  refine runs_of (pf_L fun c hc => ?_) (run18 m (both (okL isInt)) (smL intEq) an bn a b _) ?_
  · rw [List.mem_singleton.1 hc]
    exact h19 m
  have e1 : both (okL isInt) a b = true := by simp [both, i1, j1]
  rw [e1]
  simp only [smD]
  cases hc : beqBytes an bn
  · exact ⟨trivial, rfl⟩
  cases hc : smL intEq a b
  · exact ⟨trivial, rfl⟩
  exact ⟨trivial, rfl⟩
theorem h14 (m : Int) : Holds m k14 := s14 (h15 m)
theorem h17 (m : Int) : Holds m k17 := s17 (h18 m)
theorem run21 (m : Int) (o1 g1 o2 g2 : AV → AV → Bool) (an ar bn br : List UInt8) (aat bat : Int) (ap ab bp bb v : AV) : ((ecall P (cfgOf m (extL [⟨16, .two, o1, g1⟩, ⟨35, .fn 36, o2, g2⟩])) forceT 20 21 [(.agg [.str an, ap, .str ar, ab, .int .i64 aat]), (.agg [.str bn, bp, .str br, bb, .int .i64 bat])] none0 (endC (retIs v))).run [] True) =
    (bif beqBytes an bn then (bif o1 ap bp then (bif g1 ap bp then (bif beqBytes ar br then (bif o2 ab bb then (bif g2 ab bb then (True ∧ AV.bool true = v) else (True ∧ AV.bool false = v)) else False) else (True ∧ AV.bool false = v)) else (True ∧ AV.bool false = v)) else False) else (True ∧ AV.bool false = v)) := by kernel_rfl
theorem h21 (m : Int) (n : Nat) : Holds m (k21 n) := by
  refine holds_of (e := extL [⟨16, .two, both (okL isFld), smL fldEq⟩, ⟨35, .fn 36, both (okL (okS n)), smL (smS n)⟩]) (both_closed (okF_closed (okS_closed n))) fun x y hb => ?_
  obtain ⟨h1, h2⟩ := both_ok hb
  obtain ⟨an, ap, ar, ab, aat, rfl, i1, i2⟩ := okF_ok h1
  obtain ⟨bn, bp, br, bb, bat, rfl, j1, j2⟩ := okF_ok h2
  show ∃ σ', CallRuns P (cfgOf m (extL [⟨16, .two, both (okL isFld), smL fldEq⟩, ⟨35, .fn 36, both (okL (okS n)), smL (smS n)⟩])) 21 [(.agg [.str an, ap, .str ar, ab, .int .i64 aat]), (.agg [.str bn, bp, .str br, bb, .int .i64 bat])] none0 (.ret (.bool (smF (smS n) (.agg [.str an, ap, .str ar, ab, .int .i64 aat]) (.agg [.str bn, bp, .str br, bb, .int .i64 bat]))) σ')
  refine runs_of (pf_L fun c hc => ?_) (run21 m (both (okL isFld)) (smL fldEq) (both (okL (okS n))) (smL (smS n)) an ar bn br aat bat ap ab bp bb _) ?_
  · simp only [List.mem_cons, List.mem_nil_iff, or_false] at hc
    rcases hc with rfl | rfl
    · exact h16 m
    · exact h35 m n
  have e1 : both (okL isFld) ap bp = true := by simp [both, i1, j1]
  have e2 : both (okL (okS n)) ab bb = true := by simp [both, i2, j2]
  rw [e1, e2]
  simp only [smF]
  cases hc : beqBytes an bn
  · exact ⟨trivial, rfl⟩
  cases hc : smL fldEq ap bp
  · exact ⟨trivial, rfl⟩
  cases hc : beqBytes ar br
  · exact ⟨trivial, rfl⟩
  cases hc : smL (smS n) ab bb
  · exact ⟨trivial, rfl⟩
  exact ⟨trivial, rfl⟩
theorem h20 (m : Int) (n : Nat) : Holds m (k20 n) := s20 (h21 m n)
theorem run6 (m : Int) (o1 g1 o2 g2 o3 g3 : AV → AV → Bool) (an bn : List UInt8) (a1 a2 a3 b1 b2 b3 v : AV) : ((ecall P (cfgOf m (extL [⟨14, .fn 15, o1, g1⟩, ⟨17, .fn 18, o2, g2⟩, ⟨20, .fn 21, o3, g3⟩])) forceT 20 6 [(.agg [.str an, a1, a2, a3]), (.agg [.str bn, b1, b2, b3])] none0 (endC (retIs v))).run [] True) =
    (bif o1 a1 b1 then (bif g1 a1 b1 then (bif o2 a2 b2 then (bif g2 a2 b2 then (bif beqBytes an bn then (bif o3 a3 b3 then (bif g3 a3 b3 then (True ∧ AV.bool true = v) else (True ∧ AV.bool false = v)) else False) else (True ∧ AV.bool false = v)) else (bif beqBytes an bn then (True ∧ AV.bool false = v) else (True ∧ AV.bool false = v))) else False) else (bif o2 a2 b2 then (bif g2 a2 b2 then (bif beqBytes an bn then (True ∧ AV.bool false = v) else (True ∧ AV.bool false = v)) else (bif beqBytes an bn then (True ∧ AV.bool false = v) else (True ∧ AV.bool false = v))) else False)) else False) := by kernel_rfl
theorem h6 (m : Int) (n : Nat) : Holds m (k6 n) := by
  refine holds_of (e := extL [⟨14, .fn 15, both (okL (okD isFld)), smL (smD fldEq)⟩, ⟨17, .fn 18, both (okL (okD isInt)), smL (smD intEq)⟩, ⟨20, .fn 21, both (okL (okF (okS n))), smL (smF (smS n))⟩]) (both_closed (okP_closed (okS_closed n))) fun x y hb => ?_
  obtain ⟨h1, h2⟩ := both_ok hb
  obtain ⟨an, a1, a2, a3, rfl, i1, i2, i3⟩ := okP_ok h1
  obtain ⟨bn, b1, b2, b3, rfl, j1, j2, j3⟩ := okP_ok h2
  show ∃ σ', CallRuns P (cfgOf m (extL [⟨14, .fn 15, both (okL (okD isFld)), smL (smD fldEq)⟩, ⟨17, .fn 18, both (okL (okD isInt)), smL (smD intEq)⟩, ⟨20, .fn 21, both (okL (okF (okS n))), smL (smF (smS n))⟩])) 6 [(.agg [.str an, a1, a2, a3]), (.agg [.str bn, b1, b2, b3])] none0 (.ret (.bool (smP (smS n) (.agg [.str an, a1, a2, a3]) (.agg [.str bn, b1, b2, b3]))) σ')
  refine runs_of (pf_L fun c hc => ?_) (run6 m (both (okL (okD isFld))) (smL (smD fldEq)) (both (okL (okD isInt))) (smL (smD intEq)) (both (okL (okF (okS n)))) (smL (smF (smS n))) an bn a1 a2 a3 b1 b2 b3 _) ?_
  · simp only [List.mem_cons, List.mem_nil_iff, or_false] at hc
    rcases hc with rfl | rfl | rfl
    · exact h14 m
    · exact h17 m
    · exact h20 m n
  have e1 : both (okL (okD isFld)) a1 b1 = true := by simp [both, i1, j1]
  have e2 : both (okL (okD isInt)) a2 b2 = true := by simp [both, i2, j2]
  have e3 : both (okL (okF (okS n))) a3 b3 = true := by simp [both, i3, j3]
  rw [e1, e2, e3]
  simp only [smP]
  cases hc1 : smL (smD fldEq) a1 b1 <;> cases hc2 : smL (smD intEq) a2 b2 <;> cases hc3 : beqBytes an bn <;> cases hc4 : smL (smF (smS n)) a3 b3 <;> exact ⟨trivial, rfl⟩

theorem bytes_self : ∀ l : List UInt8, beqBytes l l = true
  | [] => rfl
  | a :: l => by simp only [beqBytes, Nat.beq_refl, bytes_self l, cond_true]
mutual
theorem beq_self : ∀ v : AV, v.beq v = true
  | .undef => rfl
  | .bool b => by simp [AV.beq]
  | .int j a => by simp [AV.beq]
  | .str s => bytes_self s
  | .nilp => rfl
  | .ptr a b c => by simp [AV.beq, Nat.beq_refl]
  | .rptr a b => by simp [AV.beq, Nat.beq_refl, beq_self a]
  | .nils => rfl
  | .lst xs t => by simp [AV.beq, beqs_self xs]
  | .sl a b c d => by simp [AV.beq, Nat.beq_refl]
  | .agg xs => by simp only [AV.beq, beqs_self xs]
  | .tup xs => by simp only [AV.beq, beqs_self xs]
  | .func f a b => by simp [AV.beq, Nat.beq_refl, beqs_self a, beqs_self b]
  | .nilf => rfl
  | .iface t v => by simp [AV.beq, Nat.beq_refl, beq_self v]
  | .nilif => rfl
  | .nilm => rfl
  | .map a => by simp [AV.beq, Nat.beq_refl]
  | .pmap a b => by simp [AV.beq, beqs_self a, beqs_self b]
  | .iter a => by simp [AV.beq, Nat.beq_refl]
theorem beqs_self : ∀ l : List AV, AV.beqs l l = true
  | [] => rfl
  | x :: l => by simp only [AV.beqs, beq_self x, beqs_self l, Bool.and_self]
end
theorem chk_self (v : AV) : (v.beq v && sameNew none none) = true := by rw [beq_self]; rfl
theorem f7 : (P.funcs[7]?).map (fun fn => (fn.body, fn.ntmps, fn.results.toList)) = some (some (body 7), 172, [.tmp 6]) := by kernel_rfl
def lE7 : List (Nat × AV) := [(2, .bool false), (3, .ptr 0 0 0), (4, .ptr 1 0 0)]
def B7 (a b : AV) : List (Nat × Blk) := [(0, .row 4 [a] (some 26)), (1, .row 4 [b] (some 26))]
/-- One hook where this much was done, another elsewhere. -/
def hookSel (nx : Nat) (a b : LoopHook) : LoopHook := fun body tr ds σ K => cond (Nat.beq σ.next nx) (a body tr ds σ K) (b body tr ds σ K)
theorem hookSel_ok {m : Int} {e : ExtF} {N nx : Nat} {a b : LoopHook} (ha : HookOK P (cfgOf m e) N a) (hb : HookOK P (cfgOf m e) N b) : HookOK P (cfgOf m e) N (hookSel nx a b) := by
  intro body tr ts ds σ K hT hg
  unfold hookSel at hg
  cases h : Nat.beq σ.next nx with
  | true => rw [h] at hg; exact ha body tr ts ds σ K hT hg
  | false => rw [h] at hg; exact hb body tr ts ds σ K hT hg
noncomputable def c7a : Code := (body 7).at [false, false, true, false, true, true]
def L7a (k : Int) : List (Nat × AV) := [(2, .bool false), (3, .ptr 0 0 0), (4, .ptr 1 0 0), (7, .int .i64 k)]
theorem iter7a (m : Int) (o1 g1 o2 g2 o3 g3 : AV → AV → Bool) (an bn : List UInt8) (p1 p2 p3 q1 q2 q3 : List AV) (k : Int) (want : Flow) (s t : List UInt8) (x y : AV) : (((ecode P (cfgOf m (extL [⟨22, .two, o1, g1⟩, ⟨23, .two, o2, g2⟩, ⟨24, .at, o3, g3⟩])) forceT 172 false c7a).run (ecall P (cfgOf m (extL [⟨22, .two, o1, g1⟩, ⟨23, .two, o2, g2⟩, ⟨24, .at, o3, g3⟩])) forceT 20) 20 (mkTrU 172 (L7a k)) [] (stOf 36 (B7 (.agg [.str an, .lst p1 none, .lst p2 none, .lst p3 none]) (.agg [.str bn, .lst q1 none, .lst q2 none, .lst q3 none]))) (endS (GI L7a (B7 (.agg [.str an, .lst p1 none, .lst p2 none, .lst p3 none]) (.agg [.str bn, .lst q1 none, .lst q2 none, .lst q3 none])) lE7 41 (B7 (.agg [.str an, .lst p1 none, .lst p2 none, .lst p3 none]) (.agg [.str bn, .lst q1 none, .lst q2 none, .lst q3 none])) [(6, .bool false)] 71 [] want k))).run [(4, .nth (.agg [.str s, x])), (3, .nth (.agg [.str t, y])), (3, .nth (.agg [.str s, x])), (3, .nth (.agg [.str t, y]))] True) =
    (bif ltI k (p1.length : Int) then (bif (decide (0 ≤ k) && decide (k < (p1.length : Int)) && true) then (bif (decide (0 ≤ k) && decide (k < (q1.length : Int)) && true) then (bif beqBytes s t then (bif (decide (0 ≤ k) && decide (k < (p1.length : Int)) && true) then (bif (decide (0 ≤ k) && decide (k < (q1.length : Int)) && true) then (bif o1 x y then (bif g1 x y then (((((True ∧ p1[k.toNat]? = some (.agg [.str s, x])) ∧ q1[k.toNat]? = some (.agg [.str t, y])) ∧ p1[k.toNat]? = some (.agg [.str s, x])) ∧ q1[k.toNat]? = some (.agg [.str t, y])) ∧ (Flow.norm = want ∧ NormR (L7a (IntKind.i64.wrap (k + 1))) (B7 (.agg [.str an, .lst p1 none, .lst p2 none, .lst p3 none]) (.agg [.str bn, .lst q1 none, .lst q2 none, .lst q3 none])))) else (((((True ∧ p1[k.toNat]? = some (.agg [.str s, x])) ∧ q1[k.toNat]? = some (.agg [.str t, y])) ∧ p1[k.toNat]? = some (.agg [.str s, x])) ∧ q1[k.toNat]? = some (.agg [.str t, y])) ∧ (Flow.ret = want ∧ AtR [(6, .bool false)] 71 []))) else False) else False) else False) else (((True ∧ p1[k.toNat]? = some (.agg [.str s, x])) ∧ q1[k.toNat]? = some (.agg [.str t, y])) ∧ (Flow.ret = want ∧ AtR [(6, .bool false)] 71 []))) else False) else False) else (True ∧ (Flow.exit 0 = want ∧ AtR lE7 41 (B7 (.agg [.str an, .lst p1 none, .lst p2 none, .lst p3 none]) (.agg [.str bn, .lst q1 none, .lst q2 none, .lst q3 none]))))) := by kernel_rfl
theorem loop7a {m : Int} {n : Nat} (pf : PF P (cfgOf m (extL [⟨22, .two, both (okL isFld), smL fldEq⟩, ⟨23, .two, both (okL isInt), smL intEq⟩, ⟨24, .at, both (okL (okS n)), smL (smS n)⟩]))) (an bn : List UInt8) (p1 p2 p3 q1 q2 q3 : List AV) (hlen : p1.length = q1.length) (hbig : p1.length ≤ 9223372036854775807) (ha : ∀ x ∈ p1, (okD isFld) x = true) (ha' : ∀ x ∈ q1, (okD isFld) x = true)
    (hA : closedV (.agg [.str an, .lst p1 none, .lst p2 none, .lst p3 none]) = true) (hB : closedV (.agg [.str bn, .lst q1 none, .lst q2 none, .lst q3 none]) = true) :
    (all2 (smD fldEq) p1 q1 = true → LoopLem m (extL [⟨22, .two, both (okL isFld), smL fldEq⟩, ⟨23, .two, both (okL isInt), smL intEq⟩, ⟨24, .at, both (okL (okS n)), smL (smS n)⟩]) 172 c7a (L7a ((0 : Nat) : Int)) 36 (B7 (.agg [.str an, .lst p1 none, .lst p2 none, .lst p3 none]) (.agg [.str bn, .lst q1 none, .lst q2 none, .lst q3 none])) (.exit 0) lE7 41 (B7 (.agg [.str an, .lst p1 none, .lst p2 none, .lst p3 none]) (.agg [.str bn, .lst q1 none, .lst q2 none, .lst q3 none]))) ∧ (all2 (smD fldEq) p1 q1 = false → LoopLem m (extL [⟨22, .two, both (okL isFld), smL fldEq⟩, ⟨23, .two, both (okL isInt), smL intEq⟩, ⟨24, .at, both (okL (okS n)), smL (smS n)⟩]) 172 c7a (L7a ((0 : Nat) : Int)) 36 (B7 (.agg [.str an, .lst p1 none, .lst p2 none, .lst p3 none]) (.agg [.str bn, .lst q1 none, .lst q2 none, .lst q3 none])) .ret [(6, .bool false)] 71 []) := by
  have h := pairLoop (N := 172) (nx := 36) (ex := 0) (nxE := 41) (nxR := 71) (rm := false) (c := c7a) (L := L7a) (bl := (B7 (.agg [.str an, .lst p1 none, .lst p2 none, .lst p3 none]) (.agg [.str bn, .lst q1 none, .lst q2 none, .lst q3 none]))) (blE := (B7 (.agg [.str an, .lst p1 none, .lst p2 none, .lst p3 none]) (.agg [.str bn, .lst q1 none, .lst q2 none, .lst q3 none]))) (blR := []) (lE := lE7) (lR := [(6, .bool false)]) (l := p1) (l' := q1) (f := smD fldEq) pf hlen hbig (fun _ => rfl) (fun _ => ⟨rfl, rfl, rfl, rfl, trivial⟩) (fun p hp => ?_) (fun k x y hx hy => ?_) ⟨[(4, .nth (.agg [.str [], .undef])), (3, .nth (.agg [.str [], .undef])), (3, .nth (.agg [.str [], .undef])), (3, .nth (.agg [.str [], .undef]))], Q.of_eq (iter7a m (both (okL isFld)) (smL fldEq) (both (okL isInt)) (smL intEq) (both (okL (okS n))) (smL (smS n)) an bn p1 p2 p3 q1 q2 q3 p1.length (.exit 0) [] [] .undef .undef) (by
    rw [c_out]
    exact ⟨trivial, rfl, atR _ _ _⟩)⟩ p1.length 0 rfl
  · simpa only [List.drop_zero] using h
  · simp only [B7, List.mem_cons, List.mem_nil_iff, or_false] at hp
    rcases hp with rfl | rfl
    · exact ⟨rfl, ren_row hA⟩
    · exact ⟨rfl, ren_row hB⟩
  · have hk : k < p1.length := (List.getElem?_eq_some_iff.1 hx).1
    obtain ⟨g1, g2⟩ := c_in hk
    obtain ⟨_, g3⟩ := c_in (l := q1) (k := k) (by omega)
    obtain ⟨s, x, rfl, i1⟩ := okD_ok (ha x (mem_of hx))
    obtain ⟨t, y, rfl, j1⟩ := okD_ok (ha' y (mem_of hy))
    have e1 : both (okL isFld) x y = true := by simp [both, i1, j1]
    refine ⟨[(4, .nth (.agg [.str s, x])), (3, .nth (.agg [.str t, y])), (3, .nth (.agg [.str s, x])), (3, .nth (.agg [.str t, y]))], Q.of_eq (iter7a m (both (okL isFld)) (smL fldEq) (both (okL isInt)) (smL intEq) (both (okL (okS n))) (smL (smS n)) an bn p1 p2 p3 q1 q2 q3 k _ s t x y) ?_⟩
    rw [g1, g2, g3, e1]
    simp only [smD]
    cases hc : beqBytes s t
    · exact ⟨⟨⟨trivial, at_some hx⟩, at_some hy⟩, rfl, atR _ _ _⟩
    cases hc : smL fldEq x y
    · exact ⟨⟨⟨⟨⟨trivial, at_some hx⟩, at_some hy⟩, at_some hx⟩, at_some hy⟩, rfl, atR _ _ _⟩
    exact ⟨⟨⟨⟨⟨trivial, at_some hx⟩, at_some hy⟩, at_some hx⟩, at_some hy⟩, rfl, normR _ _⟩
noncomputable def c7b : Code := (body 7).at [false, false, false, true, false, true, true]
def L7b (k : Int) : List (Nat × AV) := [(2, .bool false), (3, .ptr 0 0 0), (4, .ptr 1 0 0), (8, .int .i64 k)]
theorem iter7b (m : Int) (o1 g1 o2 g2 o3 g3 : AV → AV → Bool) (an bn : List UInt8) (p1 p2 p3 q1 q2 q3 : List AV) (k : Int) (want : Flow) (s t : List UInt8) (x y : AV) : (((ecode P (cfgOf m (extL [⟨22, .two, o1, g1⟩, ⟨23, .two, o2, g2⟩, ⟨24, .at, o3, g3⟩])) forceT 172 false c7b).run (ecall P (cfgOf m (extL [⟨22, .two, o1, g1⟩, ⟨23, .two, o2, g2⟩, ⟨24, .at, o3, g3⟩])) forceT 20) 20 (mkTrU 172 (L7b k)) [] (stOf 42 (B7 (.agg [.str an, .lst p1 none, .lst p2 none, .lst p3 none]) (.agg [.str bn, .lst q1 none, .lst q2 none, .lst q3 none]))) (endS (GI L7b (B7 (.agg [.str an, .lst p1 none, .lst p2 none, .lst p3 none]) (.agg [.str bn, .lst q1 none, .lst q2 none, .lst q3 none])) lE7 47 (B7 (.agg [.str an, .lst p1 none, .lst p2 none, .lst p3 none]) (.agg [.str bn, .lst q1 none, .lst q2 none, .lst q3 none])) [(6, .bool false)] 77 [] want k))).run [(4, .nth (.agg [.str s, x])), (3, .nth (.agg [.str t, y])), (3, .nth (.agg [.str s, x])), (3, .nth (.agg [.str t, y]))] True) =
    (bif ltI k (p2.length : Int) then (bif (decide (0 ≤ k) && decide (k < (p2.length : Int)) && true) then (bif (decide (0 ≤ k) && decide (k < (q2.length : Int)) && true) then (bif beqBytes s t then (bif (decide (0 ≤ k) && decide (k < (p2.length : Int)) && true) then (bif (decide (0 ≤ k) && decide (k < (q2.length : Int)) && true) then (bif o2 x y then (bif g2 x y then (((((True ∧ p2[k.toNat]? = some (.agg [.str s, x])) ∧ q2[k.toNat]? = some (.agg [.str t, y])) ∧ p2[k.toNat]? = some (.agg [.str s, x])) ∧ q2[k.toNat]? = some (.agg [.str t, y])) ∧ (Flow.norm = want ∧ NormR (L7b (IntKind.i64.wrap (k + 1))) (B7 (.agg [.str an, .lst p1 none, .lst p2 none, .lst p3 none]) (.agg [.str bn, .lst q1 none, .lst q2 none, .lst q3 none])))) else (((((True ∧ p2[k.toNat]? = some (.agg [.str s, x])) ∧ q2[k.toNat]? = some (.agg [.str t, y])) ∧ p2[k.toNat]? = some (.agg [.str s, x])) ∧ q2[k.toNat]? = some (.agg [.str t, y])) ∧ (Flow.ret = want ∧ AtR [(6, .bool false)] 77 []))) else False) else False) else False) else (((True ∧ p2[k.toNat]? = some (.agg [.str s, x])) ∧ q2[k.toNat]? = some (.agg [.str t, y])) ∧ (Flow.ret = want ∧ AtR [(6, .bool false)] 77 []))) else False) else False) else (True ∧ (Flow.exit 2 = want ∧ AtR lE7 47 (B7 (.agg [.str an, .lst p1 none, .lst p2 none, .lst p3 none]) (.agg [.str bn, .lst q1 none, .lst q2 none, .lst q3 none]))))) := by kernel_rfl
theorem loop7b {m : Int} {n : Nat} (pf : PF P (cfgOf m (extL [⟨22, .two, both (okL isFld), smL fldEq⟩, ⟨23, .two, both (okL isInt), smL intEq⟩, ⟨24, .at, both (okL (okS n)), smL (smS n)⟩]))) (an bn : List UInt8) (p1 p2 p3 q1 q2 q3 : List AV) (hlen : p2.length = q2.length) (hbig : p2.length ≤ 9223372036854775807) (ha : ∀ x ∈ p2, (okD isInt) x = true) (ha' : ∀ x ∈ q2, (okD isInt) x = true)
    (hA : closedV (.agg [.str an, .lst p1 none, .lst p2 none, .lst p3 none]) = true) (hB : closedV (.agg [.str bn, .lst q1 none, .lst q2 none, .lst q3 none]) = true) :
    (all2 (smD intEq) p2 q2 = true → LoopLem m (extL [⟨22, .two, both (okL isFld), smL fldEq⟩, ⟨23, .two, both (okL isInt), smL intEq⟩, ⟨24, .at, both (okL (okS n)), smL (smS n)⟩]) 172 c7b (L7b ((0 : Nat) : Int)) 42 (B7 (.agg [.str an, .lst p1 none, .lst p2 none, .lst p3 none]) (.agg [.str bn, .lst q1 none, .lst q2 none, .lst q3 none])) (.exit 2) lE7 47 (B7 (.agg [.str an, .lst p1 none, .lst p2 none, .lst p3 none]) (.agg [.str bn, .lst q1 none, .lst q2 none, .lst q3 none]))) ∧ (all2 (smD intEq) p2 q2 = false → LoopLem m (extL [⟨22, .two, both (okL isFld), smL fldEq⟩, ⟨23, .two, both (okL isInt), smL intEq⟩, ⟨24, .at, both (okL (okS n)), smL (smS n)⟩]) 172 c7b (L7b ((0 : Nat) : Int)) 42 (B7 (.agg [.str an, .lst p1 none, .lst p2 none, .lst p3 none]) (.agg [.str bn, .lst q1 none, .lst q2 none, .lst q3 none])) .ret [(6, .bool false)] 77 []) := by
  have h := pairLoop (N := 172) (nx := 42) (ex := 2) (nxE := 47) (nxR := 77) (rm := false) (c := c7b) (L := L7b) (bl := (B7 (.agg [.str an, .lst p1 none, .lst p2 none, .lst p3 none]) (.agg [.str bn, .lst q1 none, .lst q2 none, .lst q3 none]))) (blE := (B7 (.agg [.str an, .lst p1 none, .lst p2 none, .lst p3 none]) (.agg [.str bn, .lst q1 none, .lst q2 none, .lst q3 none]))) (blR := []) (lE := lE7) (lR := [(6, .bool false)]) (l := p2) (l' := q2) (f := smD intEq) pf hlen hbig (fun _ => rfl) (fun _ => ⟨rfl, rfl, rfl, rfl, trivial⟩) (fun p hp => ?_) (fun k x y hx hy => ?_) ⟨[(4, .nth (.agg [.str [], .undef])), (3, .nth (.agg [.str [], .undef])), (3, .nth (.agg [.str [], .undef])), (3, .nth (.agg [.str [], .undef]))], Q.of_eq (iter7b m (both (okL isFld)) (smL fldEq) (both (okL isInt)) (smL intEq) (both (okL (okS n))) (smL (smS n)) an bn p1 p2 p3 q1 q2 q3 p2.length (.exit 2) [] [] .undef .undef) (by
    rw [c_out]
    exact ⟨trivial, rfl, atR _ _ _⟩)⟩ p2.length 0 rfl
  · simpa only [List.drop_zero] using h
  · simp only [B7, List.mem_cons, List.mem_nil_iff, or_false] at hp
    rcases hp with rfl | rfl
    · exact ⟨rfl, ren_row hA⟩
    · exact ⟨rfl, ren_row hB⟩
  · have hk : k < p2.length := (List.getElem?_eq_some_iff.1 hx).1
    obtain ⟨g1, g2⟩ := c_in hk
    obtain ⟨_, g3⟩ := c_in (l := q2) (k := k) (by omega)
    obtain ⟨s, x, rfl, i1⟩ := okD_ok (ha x (mem_of hx))
    obtain ⟨t, y, rfl, j1⟩ := okD_ok (ha' y (mem_of hy))
    have e1 : both (okL isInt) x y = true := by simp [both, i1, j1]
    refine ⟨[(4, .nth (.agg [.str s, x])), (3, .nth (.agg [.str t, y])), (3, .nth (.agg [.str s, x])), (3, .nth (.agg [.str t, y]))], Q.of_eq (iter7b m (both (okL isFld)) (smL fldEq) (both (okL isInt)) (smL intEq) (both (okL (okS n))) (smL (smS n)) an bn p1 p2 p3 q1 q2 q3 k _ s t x y) ?_⟩
    rw [g1, g2, g3, e1]
    simp only [smD]
    cases hc : beqBytes s t
    · exact ⟨⟨⟨trivial, at_some hx⟩, at_some hy⟩, rfl, atR _ _ _⟩
    cases hc : smL intEq x y
    · exact ⟨⟨⟨⟨⟨trivial, at_some hx⟩, at_some hy⟩, at_some hx⟩, at_some hy⟩, rfl, atR _ _ _⟩
    exact ⟨⟨⟨⟨⟨trivial, at_some hx⟩, at_some hy⟩, at_some hx⟩, at_some hy⟩, rfl, normR _ _⟩
noncomputable def c7c : Code := (body 7).at [false, false, false, false, true, false, true, true]
def L7c (k : Int) : List (Nat × AV) := [(2, .bool false), (3, .ptr 0 0 0), (4, .ptr 1 0 0), (9, .int .i64 k)]
theorem iter7c (m : Int) (o1 g1 o2 g2 o3 g3 : AV → AV → Bool) (an bn : List UInt8) (p1 p2 p3 q1 q2 q3 : List AV) (k : Int) (want : Flow) (s t u v : List UInt8) (x y z w : AV) (n r : Int) : (((ecode P (cfgOf m (extL [⟨22, .two, o1, g1⟩, ⟨23, .two, o2, g2⟩, ⟨24, .at, o3, g3⟩])) forceT 172 false c7c).run (ecall P (cfgOf m (extL [⟨22, .two, o1, g1⟩, ⟨23, .two, o2, g2⟩, ⟨24, .at, o3, g3⟩])) forceT 20) 20 (mkTrU 172 (L7c k)) [] (stOf 48 (B7 (.agg [.str an, .lst p1 none, .lst p2 none, .lst p3 none]) (.agg [.str bn, .lst q1 none, .lst q2 none, .lst q3 none]))) (endS (GI L7c (B7 (.agg [.str an, .lst p1 none, .lst p2 none, .lst p3 none]) (.agg [.str bn, .lst q1 none, .lst q2 none, .lst q3 none])) lE7 53 (B7 (.agg [.str an, .lst p1 none, .lst p2 none, .lst p3 none]) (.agg [.str bn, .lst q1 none, .lst q2 none, .lst q3 none])) [(6, .bool false)] 107 [] want k))).run [(4, .nth (.agg [.str s, x, .str u, z, .int .i64 n])), (2, .nth (.agg [.str t, y, .str v, w, .int .i64 r]))] True) =
    (bif ltI k (p3.length : Int) then (bif (decide (0 ≤ k) && decide (k < (p3.length : Int)) && true) then (bif (decide (0 ≤ k) && decide (k < (q3.length : Int)) && true) then (bif (AV.beq (.agg [.str t, y, .str v, w, .int .i64 r]) (.agg [.str t, y, .str v, w, .int .i64 r]) && sameNew none none) then (bif (AV.beq (.lst q3 none) (.lst q3 none) && sameNew none none) then (bif beqBytes s t then (bif beqBytes u v then (bif o1 x y then (bif g1 x y then (bif o3 z w then (bif g3 z w then (((True ∧ p3[k.toNat]? = some (.agg [.str s, x, .str u, z, .int .i64 n])) ∧ q3[k.toNat]? = some (.agg [.str t, y, .str v, w, .int .i64 r])) ∧ (Flow.norm = want ∧ NormR (L7c (IntKind.i64.wrap (k + 1))) (B7 (.agg [.str an, .lst p1 none, .lst p2 none, .lst p3 none]) (.agg [.str bn, .lst q1 none, .lst q2 none, .lst q3 none])))) else (((True ∧ p3[k.toNat]? = some (.agg [.str s, x, .str u, z, .int .i64 n])) ∧ q3[k.toNat]? = some (.agg [.str t, y, .str v, w, .int .i64 r])) ∧ (Flow.ret = want ∧ AtR [(6, .bool false)] 107 []))) else False) else (((True ∧ p3[k.toNat]? = some (.agg [.str s, x, .str u, z, .int .i64 n])) ∧ q3[k.toNat]? = some (.agg [.str t, y, .str v, w, .int .i64 r])) ∧ (Flow.ret = want ∧ AtR [(6, .bool false)] 107 []))) else False) else (((True ∧ p3[k.toNat]? = some (.agg [.str s, x, .str u, z, .int .i64 n])) ∧ q3[k.toNat]? = some (.agg [.str t, y, .str v, w, .int .i64 r])) ∧ (Flow.ret = want ∧ AtR [(6, .bool false)] 107 []))) else (((True ∧ p3[k.toNat]? = some (.agg [.str s, x, .str u, z, .int .i64 n])) ∧ q3[k.toNat]? = some (.agg [.str t, y, .str v, w, .int .i64 r])) ∧ (Flow.ret = want ∧ AtR [(6, .bool false)] 107 []))) else False) else False) else False) else False) else (True ∧ (Flow.exit 4 = want ∧ AtR lE7 53 (B7 (.agg [.str an, .lst p1 none, .lst p2 none, .lst p3 none]) (.agg [.str bn, .lst q1 none, .lst q2 none, .lst q3 none]))))) := by kernel_rfl
theorem loop7c {m : Int} {n : Nat} (pf : PF P (cfgOf m (extL [⟨22, .two, both (okL isFld), smL fldEq⟩, ⟨23, .two, both (okL isInt), smL intEq⟩, ⟨24, .at, both (okL (okS n)), smL (smS n)⟩]))) (an bn : List UInt8) (p1 p2 p3 q1 q2 q3 : List AV) (hlen : p3.length = q3.length) (hbig : p3.length ≤ 9223372036854775807) (ha : ∀ x ∈ p3, (okF (okS n)) x = true) (ha' : ∀ x ∈ q3, (okF (okS n)) x = true)
    (hA : closedV (.agg [.str an, .lst p1 none, .lst p2 none, .lst p3 none]) = true) (hB : closedV (.agg [.str bn, .lst q1 none, .lst q2 none, .lst q3 none]) = true) :
    (all2 (smF (smS n)) p3 q3 = true → LoopLem m (extL [⟨22, .two, both (okL isFld), smL fldEq⟩, ⟨23, .two, both (okL isInt), smL intEq⟩, ⟨24, .at, both (okL (okS n)), smL (smS n)⟩]) 172 c7c (L7c ((0 : Nat) : Int)) 48 (B7 (.agg [.str an, .lst p1 none, .lst p2 none, .lst p3 none]) (.agg [.str bn, .lst q1 none, .lst q2 none, .lst q3 none])) (.exit 4) lE7 53 (B7 (.agg [.str an, .lst p1 none, .lst p2 none, .lst p3 none]) (.agg [.str bn, .lst q1 none, .lst q2 none, .lst q3 none]))) ∧ (all2 (smF (smS n)) p3 q3 = false → LoopLem m (extL [⟨22, .two, both (okL isFld), smL fldEq⟩, ⟨23, .two, both (okL isInt), smL intEq⟩, ⟨24, .at, both (okL (okS n)), smL (smS n)⟩]) 172 c7c (L7c ((0 : Nat) : Int)) 48 (B7 (.agg [.str an, .lst p1 none, .lst p2 none, .lst p3 none]) (.agg [.str bn, .lst q1 none, .lst q2 none, .lst q3 none])) .ret [(6, .bool false)] 107 []) := by
  have h := pairLoop (N := 172) (nx := 48) (ex := 4) (nxE := 53) (nxR := 107) (rm := false) (c := c7c) (L := L7c) (bl := (B7 (.agg [.str an, .lst p1 none, .lst p2 none, .lst p3 none]) (.agg [.str bn, .lst q1 none, .lst q2 none, .lst q3 none]))) (blE := (B7 (.agg [.str an, .lst p1 none, .lst p2 none, .lst p3 none]) (.agg [.str bn, .lst q1 none, .lst q2 none, .lst q3 none]))) (blR := []) (lE := lE7) (lR := [(6, .bool false)]) (l := p3) (l' := q3) (f := smF (smS n)) pf hlen hbig (fun _ => rfl) (fun _ => ⟨rfl, rfl, rfl, rfl, trivial⟩) (fun p hp => ?_) (fun k x y hx hy => ?_) ⟨[(4, .nth (.agg [.str [], .undef, .str [], .undef, .int .i64 0])), (2, .nth (.agg [.str [], .undef, .str [], .undef, .int .i64 0]))], Q.of_eq (iter7c m (both (okL isFld)) (smL fldEq) (both (okL isInt)) (smL intEq) (both (okL (okS n))) (smL (smS n)) an bn p1 p2 p3 q1 q2 q3 p3.length (.exit 4) [] [] [] [] .undef .undef .undef .undef 0 0) (by
    rw [c_out]
    exact ⟨trivial, rfl, atR _ _ _⟩)⟩ p3.length 0 rfl
  · simpa only [List.drop_zero] using h
  · simp only [B7, List.mem_cons, List.mem_nil_iff, or_false] at hp
    rcases hp with rfl | rfl
    · exact ⟨rfl, ren_row hA⟩
    · exact ⟨rfl, ren_row hB⟩
  · have hk : k < p3.length := (List.getElem?_eq_some_iff.1 hx).1
    obtain ⟨g1, g2⟩ := c_in hk
    obtain ⟨_, g3⟩ := c_in (l := q3) (k := k) (by omega)
    obtain ⟨s, x, u, z, n0, rfl, i1, i2⟩ := okF_ok (ha x (mem_of hx))
    obtain ⟨t, y, v, w, r0, rfl, j1, j2⟩ := okF_ok (ha' y (mem_of hy))
    have e1 : both (okL isFld) x y = true := by simp [both, i1, j1]
    have e2 : both (okL (okS n)) z w = true := by simp [both, i2, j2]
    refine ⟨[(4, .nth (.agg [.str s, x, .str u, z, .int .i64 n0])), (2, .nth (.agg [.str t, y, .str v, w, .int .i64 r0]))], Q.of_eq (iter7c m (both (okL isFld)) (smL fldEq) (both (okL isInt)) (smL intEq) (both (okL (okS n))) (smL (smS n)) an bn p1 p2 p3 q1 q2 q3 k _ s t u v x y z w n0 r0) ?_⟩
    rw [g1, g2, g3, e1, e2, chk_self, chk_self]
    simp only [smF]
    cases hc1 : beqBytes s t <;> cases hc2 : beqBytes u v <;> cases hc3 : smL fldEq x y <;> cases hc4 : smL (smS n) z w <;> first | exact ⟨⟨⟨trivial, at_some hx⟩, at_some hy⟩, rfl, atR _ _ _⟩ | exact ⟨⟨⟨trivial, at_some hx⟩, at_some hy⟩, rfl, normR _ _⟩
theorem funE7 (m : Int) (o1 g1 o2 g2 o3 g3 : AV → AV → Bool) (an bn : List UInt8) (p1 p2 p3 q1 q2 q3 : List AV) (T : AV → Prop) : ((wfun P (cfgOf m (extL [⟨22, .two, o1, g1⟩, ⟨23, .two, o2, g2⟩, ⟨24, .at, o3, g3⟩])) forceT 172 false (hookSel 36 (hookF 172 c7a (L7a ((0 : Nat) : Int)) 36 (B7 (.agg [.str an, .lst p1 none, .lst p2 none, .lst p3 none]) (.agg [.str bn, .lst q1 none, .lst q2 none, .lst q3 none])) (.exit 0) lE7 41 (B7 (.agg [.str an, .lst p1 none, .lst p2 none, .lst p3 none]) (.agg [.str bn, .lst q1 none, .lst q2 none, .lst q3 none]))) (hookSel 42 (hookF 172 c7b (L7b ((0 : Nat) : Int)) 42 (B7 (.agg [.str an, .lst p1 none, .lst p2 none, .lst p3 none]) (.agg [.str bn, .lst q1 none, .lst q2 none, .lst q3 none])) (.exit 2) lE7 47 (B7 (.agg [.str an, .lst p1 none, .lst p2 none, .lst p3 none]) (.agg [.str bn, .lst q1 none, .lst q2 none, .lst q3 none]))) (hookF 172 c7c (L7c ((0 : Nat) : Int)) 48 (B7 (.agg [.str an, .lst p1 none, .lst p2 none, .lst p3 none]) (.agg [.str bn, .lst q1 none, .lst q2 none, .lst q3 none])) (.exit 4) lE7 53 (B7 (.agg [.str an, .lst p1 none, .lst p2 none, .lst p3 none]) (.agg [.str bn, .lst q1 none, .lst q2 none, .lst q3 none]))))) 20 20 (body 7) [.tmp 6] [(.agg [.str an, .lst p1 none, .lst p2 none, .lst p3 none]), (.agg [.str bn, .lst q1 none, .lst q2 none, .lst q3 none]), .bool false] (fun v _ => T v)).run [] True) =
    (bif beqBytes an bn then (bif eqI (p1.length : Int) (q1.length : Int) then (bif eqI (p2.length : Int) (q2.length : Int) then (bif eqI (p3.length : Int) (q3.length : Int) then ((((True ∧ (c7a = c7a ∧ AtR (L7a ((0 : Nat) : Int)) 36 (B7 (.agg [.str an, .lst p1 none, .lst p2 none, .lst p3 none]) (.agg [.str bn, .lst q1 none, .lst q2 none, .lst q3 none])))) ∧ (c7b = c7b ∧ AtR (L7b ((0 : Nat) : Int)) 42 (B7 (.agg [.str an, .lst p1 none, .lst p2 none, .lst p3 none]) (.agg [.str bn, .lst q1 none, .lst q2 none, .lst q3 none])))) ∧ (c7c = c7c ∧ AtR (L7c ((0 : Nat) : Int)) 48 (B7 (.agg [.str an, .lst p1 none, .lst p2 none, .lst p3 none]) (.agg [.str bn, .lst q1 none, .lst q2 none, .lst q3 none])))) ∧ T (.bool true)) else (True ∧ T (.bool false))) else (True ∧ T (.bool false))) else (True ∧ T (.bool false))) else (True ∧ T (.bool false))) := by kernel_rfl
theorem funA7 (m : Int) (o1 g1 o2 g2 o3 g3 : AV → AV → Bool) (an bn : List UInt8) (p1 p2 p3 q1 q2 q3 : List AV) (T : AV → Prop) : ((wfun P (cfgOf m (extL [⟨22, .two, o1, g1⟩, ⟨23, .two, o2, g2⟩, ⟨24, .at, o3, g3⟩])) forceT 172 false (hookF 172 c7a (L7a ((0 : Nat) : Int)) 36 (B7 (.agg [.str an, .lst p1 none, .lst p2 none, .lst p3 none]) (.agg [.str bn, .lst q1 none, .lst q2 none, .lst q3 none])) .ret [(6, .bool false)] 71 []) 20 20 (body 7) [.tmp 6] [(.agg [.str an, .lst p1 none, .lst p2 none, .lst p3 none]), (.agg [.str bn, .lst q1 none, .lst q2 none, .lst q3 none]), .bool false] (fun v _ => T v)).run [] True) =
    (bif beqBytes an bn then (bif eqI (p1.length : Int) (q1.length : Int) then (bif eqI (p2.length : Int) (q2.length : Int) then (bif eqI (p3.length : Int) (q3.length : Int) then ((True ∧ (c7a = c7a ∧ AtR (L7a ((0 : Nat) : Int)) 36 (B7 (.agg [.str an, .lst p1 none, .lst p2 none, .lst p3 none]) (.agg [.str bn, .lst q1 none, .lst q2 none, .lst q3 none])))) ∧ T (.bool false)) else (True ∧ T (.bool false))) else (True ∧ T (.bool false))) else (True ∧ T (.bool false))) else (True ∧ T (.bool false))) := by kernel_rfl
theorem funB7 (m : Int) (o1 g1 o2 g2 o3 g3 : AV → AV → Bool) (an bn : List UInt8) (p1 p2 p3 q1 q2 q3 : List AV) (T : AV → Prop) : ((wfun P (cfgOf m (extL [⟨22, .two, o1, g1⟩, ⟨23, .two, o2, g2⟩, ⟨24, .at, o3, g3⟩])) forceT 172 false (hookSel 36 (hookF 172 c7a (L7a ((0 : Nat) : Int)) 36 (B7 (.agg [.str an, .lst p1 none, .lst p2 none, .lst p3 none]) (.agg [.str bn, .lst q1 none, .lst q2 none, .lst q3 none])) (.exit 0) lE7 41 (B7 (.agg [.str an, .lst p1 none, .lst p2 none, .lst p3 none]) (.agg [.str bn, .lst q1 none, .lst q2 none, .lst q3 none]))) (hookF 172 c7b (L7b ((0 : Nat) : Int)) 42 (B7 (.agg [.str an, .lst p1 none, .lst p2 none, .lst p3 none]) (.agg [.str bn, .lst q1 none, .lst q2 none, .lst q3 none])) .ret [(6, .bool false)] 77 [])) 20 20 (body 7) [.tmp 6] [(.agg [.str an, .lst p1 none, .lst p2 none, .lst p3 none]), (.agg [.str bn, .lst q1 none, .lst q2 none, .lst q3 none]), .bool false] (fun v _ => T v)).run [] True) =
    (bif beqBytes an bn then (bif eqI (p1.length : Int) (q1.length : Int) then (bif eqI (p2.length : Int) (q2.length : Int) then (bif eqI (p3.length : Int) (q3.length : Int) then (((True ∧ (c7a = c7a ∧ AtR (L7a ((0 : Nat) : Int)) 36 (B7 (.agg [.str an, .lst p1 none, .lst p2 none, .lst p3 none]) (.agg [.str bn, .lst q1 none, .lst q2 none, .lst q3 none])))) ∧ (c7b = c7b ∧ AtR (L7b ((0 : Nat) : Int)) 42 (B7 (.agg [.str an, .lst p1 none, .lst p2 none, .lst p3 none]) (.agg [.str bn, .lst q1 none, .lst q2 none, .lst q3 none])))) ∧ T (.bool false)) else (True ∧ T (.bool false))) else (True ∧ T (.bool false))) else (True ∧ T (.bool false))) else (True ∧ T (.bool false))) := by kernel_rfl
theorem funC7 (m : Int) (o1 g1 o2 g2 o3 g3 : AV → AV → Bool) (an bn : List UInt8) (p1 p2 p3 q1 q2 q3 : List AV) (T : AV → Prop) : ((wfun P (cfgOf m (extL [⟨22, .two, o1, g1⟩, ⟨23, .two, o2, g2⟩, ⟨24, .at, o3, g3⟩])) forceT 172 false (hookSel 36 (hookF 172 c7a (L7a ((0 : Nat) : Int)) 36 (B7 (.agg [.str an, .lst p1 none, .lst p2 none, .lst p3 none]) (.agg [.str bn, .lst q1 none, .lst q2 none, .lst q3 none])) (.exit 0) lE7 41 (B7 (.agg [.str an, .lst p1 none, .lst p2 none, .lst p3 none]) (.agg [.str bn, .lst q1 none, .lst q2 none, .lst q3 none]))) (hookSel 42 (hookF 172 c7b (L7b ((0 : Nat) : Int)) 42 (B7 (.agg [.str an, .lst p1 none, .lst p2 none, .lst p3 none]) (.agg [.str bn, .lst q1 none, .lst q2 none, .lst q3 none])) (.exit 2) lE7 47 (B7 (.agg [.str an, .lst p1 none, .lst p2 none, .lst p3 none]) (.agg [.str bn, .lst q1 none, .lst q2 none, .lst q3 none]))) (hookF 172 c7c (L7c ((0 : Nat) : Int)) 48 (B7 (.agg [.str an, .lst p1 none, .lst p2 none, .lst p3 none]) (.agg [.str bn, .lst q1 none, .lst q2 none, .lst q3 none])) .ret [(6, .bool false)] 107 []))) 20 20 (body 7) [.tmp 6] [(.agg [.str an, .lst p1 none, .lst p2 none, .lst p3 none]), (.agg [.str bn, .lst q1 none, .lst q2 none, .lst q3 none]), .bool false] (fun v _ => T v)).run [] True) =
    (bif beqBytes an bn then (bif eqI (p1.length : Int) (q1.length : Int) then (bif eqI (p2.length : Int) (q2.length : Int) then (bif eqI (p3.length : Int) (q3.length : Int) then ((((True ∧ (c7a = c7a ∧ AtR (L7a ((0 : Nat) : Int)) 36 (B7 (.agg [.str an, .lst p1 none, .lst p2 none, .lst p3 none]) (.agg [.str bn, .lst q1 none, .lst q2 none, .lst q3 none])))) ∧ (c7b = c7b ∧ AtR (L7b ((0 : Nat) : Int)) 42 (B7 (.agg [.str an, .lst p1 none, .lst p2 none, .lst p3 none]) (.agg [.str bn, .lst q1 none, .lst q2 none, .lst q3 none])))) ∧ (c7c = c7c ∧ AtR (L7c ((0 : Nat) : Int)) 48 (B7 (.agg [.str an, .lst p1 none, .lst p2 none, .lst p3 none]) (.agg [.str bn, .lst q1 none, .lst q2 none, .lst q3 none])))) ∧ T (.bool false)) else (True ∧ T (.bool false))) else (True ∧ T (.bool false))) else (True ∧ T (.bool false))) else (True ∧ T (.bool false))) := by kernel_rfl
theorem funD7 (m : Int) (o1 g1 o2 g2 o3 g3 : AV → AV → Bool) (an bn : List UInt8) (p1 p2 p3 q1 q2 q3 : List AV) (T : AV → Prop) : ((wfun P (cfgOf m (extL [⟨22, .two, o1, g1⟩, ⟨23, .two, o2, g2⟩, ⟨24, .at, o3, g3⟩])) forceT 172 false hookBad 20 20 (body 7) [.tmp 6] [(.agg [.str an, .lst p1 none, .lst p2 none, .lst p3 none]), (.agg [.str bn, .lst q1 none, .lst q2 none, .lst q3 none]), .bool false] (fun v _ => T v)).run [] True) =
    (bif beqBytes an bn then (bif eqI (p1.length : Int) (q1.length : Int) then (bif eqI (p2.length : Int) (q2.length : Int) then (bif eqI (p3.length : Int) (q3.length : Int) then False else (True ∧ T (.bool false))) else (True ∧ T (.bool false))) else (True ∧ T (.bool false))) else (True ∧ T (.bool false))) := by kernel_rfl
theorem h7 (m : Int) (n : Nat) : Holds m (k7 n) := by
  refine holds_of (e := extL [⟨22, .two, both (okL isFld), smL fldEq⟩, ⟨23, .two, both (okL isInt), smL intEq⟩, ⟨24, .at, both (okL (okS n)), smL (smS n)⟩]) (both_closed (okP_closed (okS_closed n))) fun x y hb => ?_
  obtain ⟨h1, h2⟩ := both_ok hb
  have hA := okP_closed (okS_closed n) _ h1
  have hB := okP_closed (okS_closed n) _ h2
  obtain ⟨an, a1, a2, a3, rfl, i1, i2, i3⟩ := okP_ok h1
  obtain ⟨bn, b1, b2, b3, rfl, j1, j2, j3⟩ := okP_ok h2
  obtain ⟨p1, rfl, hp1, ha1⟩ := okL_ok i1
  obtain ⟨p2, rfl, hp2, ha2⟩ := okL_ok i2
  obtain ⟨p3, rfl, hp3, ha3⟩ := okL_ok i3
  obtain ⟨q1, rfl, hq1, hb1⟩ := okL_ok j1
  obtain ⟨q2, rfl, hq2, hb2⟩ := okL_ok j2
  obtain ⟨q3, rfl, hq3, hb3⟩ := okL_ok j3
  have pf : PF P (cfgOf m (extL [⟨22, .two, both (okL isFld), smL fldEq⟩, ⟨23, .two, both (okL isInt), smL intEq⟩, ⟨24, .at, both (okL (okS n)), smL (smS n)⟩])) := pf_L fun c hc => by
    simp only [List.mem_cons, List.mem_nil_iff, or_false] at hc
    rcases hc with rfl | rfl | rfl
    · exact h22 m
    · exact h23 m
    · exact h24 m n
  show ∃ σ', CallRuns P (cfgOf m (extL [⟨22, .two, both (okL isFld), smL fldEq⟩, ⟨23, .two, both (okL isInt), smL intEq⟩, ⟨24, .at, both (okL (okS n)), smL (smS n)⟩])) 7 [(.agg [.str an, .lst p1 none, .lst p2 none, .lst p3 none]), (.agg [.str bn, .lst q1 none, .lst q2 none, .lst q3 none]), .bool false] none0 (.ret (.bool (smP (smS n) (.agg [.str an, .lst p1 none, .lst p2 none, .lst p3 none]) (.agg [.str bn, .lst q1 none, .lst q2 none, .lst q3 none]))) σ')
  simp only [smP]
  by_cases hl : p1.length = q1.length ∧ p2.length = q2.length ∧ p3.length = q3.length
  · obtain ⟨hl1, hl2, hl3⟩ := hl
    obtain ⟨l1t, l1f⟩ := loop7a pf an bn p1 p2 p3 q1 q2 q3 hl1 hp1 ha1 hb1 hA hB
    obtain ⟨l2t, l2f⟩ := loop7b pf an bn p1 p2 p3 q1 q2 q3 hl2 hp2 ha2 hb2 hA hB
    obtain ⟨l3t, l3f⟩ := loop7c pf an bn p1 p2 p3 q1 q2 q3 hl3 hp3 ha3 hb3 hA hB
    have sv1 : smL (smD fldEq) (.lst p1 none) (.lst q1 none) = all2 (smD fldEq) p1 q1 := rfl
    have sv2 : smL (smD intEq) (.lst p2 none) (.lst q2 none) = all2 (smD intEq) p2 q2 := rfl
    have sv3 : smL (smF (smS n)) (.lst p3 none) (.lst q3 none) = all2 (smF (smS n)) p3 q3 := rfl
    rw [sv1, sv2, sv3]
    cases hb1 : all2 (smD fldEq) p1 q1 with
    | false =>
      obtain ⟨v, σ', h, hv⟩ := wfun_runs pf (mode0 m _) forceT_good (hookF_ok (l1f hb1) rfl rfl (by simp)) f7 (by simp) (Q.of_eq (funA7 m (both (okL isFld)) (smL fldEq) (both (okL isInt)) (smL intEq) (both (okL (okS n))) (smL (smS n)) an bn p1 p2 p3 q1 q2 q3 (fun v => v = .bool false)) (by
        rw [c_len hl1, c_len hl2, c_len hl3]
        cases hc : beqBytes an bn
        · exact ⟨trivial, rfl⟩
        exact ⟨⟨trivial, rfl, atR _ _ _⟩, rfl⟩))
      subst hv
      exact ⟨σ', h⟩
    | true =>
      cases hb2 : all2 (smD intEq) p2 q2 with
      | false =>
        obtain ⟨v, σ', h, hv⟩ := wfun_runs pf (mode0 m _) forceT_good (hookSel_ok (hookF_ok (l1t hb1) rfl rfl (by simp)) (hookF_ok (l2f hb2) rfl rfl (by simp))) f7 (by simp) (Q.of_eq (funB7 m (both (okL isFld)) (smL fldEq) (both (okL isInt)) (smL intEq) (both (okL (okS n))) (smL (smS n)) an bn p1 p2 p3 q1 q2 q3 (fun v => v = .bool false)) (by
          rw [c_len hl1, c_len hl2, c_len hl3]
          cases hc : beqBytes an bn
          · exact ⟨trivial, rfl⟩
          exact ⟨⟨⟨trivial, rfl, atR _ _ _⟩, rfl, atR _ _ _⟩, rfl⟩))
        subst hv
        exact ⟨σ', h⟩
      | true =>
        cases hb3 : all2 (smF (smS n)) p3 q3 with
        | false =>
          obtain ⟨v, σ', h, hv⟩ := wfun_runs pf (mode0 m _) forceT_good (hookSel_ok (hookF_ok (l1t hb1) rfl rfl (by simp)) (hookSel_ok (hookF_ok (l2t hb2) rfl rfl (by simp)) (hookF_ok (l3f hb3) rfl rfl (by simp)))) f7 (by simp) (Q.of_eq (funC7 m (both (okL isFld)) (smL fldEq) (both (okL isInt)) (smL intEq) (both (okL (okS n))) (smL (smS n)) an bn p1 p2 p3 q1 q2 q3 (fun v => v = .bool false)) (by
            rw [c_len hl1, c_len hl2, c_len hl3]
            cases hc : beqBytes an bn
            · exact ⟨trivial, rfl⟩
            exact ⟨⟨⟨⟨trivial, rfl, atR _ _ _⟩, rfl, atR _ _ _⟩, rfl, atR _ _ _⟩, rfl⟩))
          subst hv
          simp only [Bool.false_and, Bool.and_false]
          exact ⟨σ', h⟩
        | true =>
          obtain ⟨v, σ', h, hv⟩ := wfun_runs pf (mode0 m _) forceT_good (hookSel_ok (hookF_ok (l1t hb1) rfl rfl (by simp)) (hookSel_ok (hookF_ok (l2t hb2) rfl rfl (by simp)) (hookF_ok (l3t hb3) rfl rfl (by simp)))) f7 (by simp) (Q.of_eq (funE7 m (both (okL isFld)) (smL fldEq) (both (okL isInt)) (smL intEq) (both (okL (okS n))) (smL (smS n)) an bn p1 p2 p3 q1 q2 q3 (fun v => v = .bool (beqBytes an bn))) (by
            rw [c_len hl1, c_len hl2, c_len hl3]
            cases hc : beqBytes an bn
            · exact ⟨trivial, rfl⟩
            exact ⟨⟨⟨⟨trivial, rfl, atR _ _ _⟩, rfl, atR _ _ _⟩, rfl, atR _ _ _⟩, rfl⟩))
          subst hv
          simp only [Bool.true_and, Bool.and_true]
          exact ⟨σ', h⟩
  · have hz : (smL (smD fldEq) (.lst p1 none) (.lst q1 none) && (smL (smD intEq) (.lst p2 none) (.lst q2 none) && (beqBytes an bn && (smL (smF (smS n)) (.lst p3 none) (.lst q3 none) && true)))) = false := by
      have z1 : p1.length ≠ q1.length → smL (smD fldEq) (.lst p1 none) (.lst q1 none) = false := all2_len
      have z2 : p2.length ≠ q2.length → smL (smD intEq) (.lst p2 none) (.lst q2 none) = false := all2_len
      have z3 : p3.length ≠ q3.length → smL (smF (smS n)) (.lst p3 none) (.lst q3 none) = false := all2_len
      by_cases g1 : p1.length = q1.length
      · by_cases g2 : p2.length = q2.length
        · rw [z3 fun g3 => hl ⟨g1, g2, g3⟩]
          simp
        · rw [z2 g2]
          simp
      · rw [z1 g1]
        rfl
    rw [hz]
    obtain ⟨v, σ', h, hv⟩ := wfun_runs pf (mode0 m _) forceT_good hookBad_ok f7 (by simp) (Q.of_eq (funD7 m (both (okL isFld)) (smL fldEq) (both (okL isInt)) (smL intEq) (both (okL (okS n))) (smL (smS n)) an bn p1 p2 p3 q1 q2 q3 (fun v => v = .bool false)) (by
      cases hc : beqBytes an bn
      · exact ⟨trivial, rfl⟩
      by_cases g1 : p1.length = q1.length
      · rw [c_len g1]
        by_cases g2 : p2.length = q2.length
        · rw [c_len g2, c_nlen fun g3 => hl ⟨g1, g2, g3⟩]
          exact ⟨trivial, rfl⟩
        · rw [c_nlen g2]
          exact ⟨trivial, rfl⟩
      · rw [c_nlen g1]
        exact ⟨trivial, rfl⟩))
    subst hv
    exact ⟨σ', h⟩
end Go.Proofs.Mn
