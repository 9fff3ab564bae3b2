/-
MiniNames: how the arguments read.
MiniNames: what a call comes to, said of the world.
-/
import Derived.Test.YtcphlgkfboafoaaGreatDoorM8
import Derived.ChangeArms
import Derived.ChangeOld
import Derived.DataReads
import Derived.Test.YtcphlgkfboafoaaGreatDoorRows
import Derived.WalkKit
import Derived.ProofKit
import Derived.OpenShut
import Derived.ShutString
import Derived.Below
import Derived.HandedShaped
import Derived.Shelf.Vars
set_option linter.unusedVariables false
set_option linter.unusedSimpArgs false
namespace Go.Proofs.Mn
open Go Go.Am

/-- All that was there may be read. -/
def topC (W : World) : Ctx := ⟨W, fun b _ => b < W.heap.size, fun b => b < W.heap.size, fun _ => ⟨0, 0, 0⟩, fun _ => False⟩
theorem cell_lt {W : World} {b c : Nat} {v : Value} (h : W.cell? (at0 b c) = some v) : b < W.heap.size := by
  unfold World.cell? at h
  by_cases hb : b < W.heap.size
  · exact hb
  · rw [Array.getElem?_eq_none (by simpa using hb)] at h
    cases h
/-- These cells read aa these. -/
def RdC (W : World) (aa : List AV) (cs : List Value) : Prop := aa.length = cs.length ∧ ∀ i, i < aa.length → VR (topC W) (aa.getD i .undef) (cs.getD i undef) ∧ (cs.getD i undef).oneCell' = true
theorem RdC.app {W : World} {a b : List AV} {c d : List Value} (h : RdC W a c) (k : RdC W b d) : RdC W (a ++ b) (c ++ d) := by
  obtain ⟨h1, h2⟩ := h
  obtain ⟨k1, k2⟩ := k
  refine ⟨by simp [h1, k1], fun i hi => ?_⟩
  by_cases hl : i < a.length
  · have e1 : (a ++ b).getD i .undef = a.getD i .undef := by simp [List.getD, List.getElem?_append_left hl]
    have e2 : (c ++ d).getD i undef = c.getD i undef := by simp [List.getD, List.getElem?_append_left (show i < c.length by omega)]
    rw [e1, e2]
    exact h2 i hl
  · have e1 : (a ++ b).getD i .undef = b.getD (i - a.length) .undef := by simp [List.getD, List.getElem?_append_right (show a.length ≤ i by omega)]
    have e2 : (c ++ d).getD i undef = d.getD (i - a.length) undef := by simp [List.getD, List.getElem?_append_right (show c.length ≤ i by omega), h1]
    rw [e1, e2]
    exact k2 _ (by simp at hi; omega)
theorem RdC.one {W : World} {v : AV} {x : Value} (h : VR (topC W) v x) (h1 : x.oneCell' = true) : RdC W [v] [x] := by
  refine ⟨rfl, fun i hi => ?_⟩
  have : i = 0 := by simpa using hi
  subst this
  exact ⟨h, h1⟩

theorem add_at0 (b o n : Nat) : Addr.add ⟨b, o, none⟩ n = at0 b (o + n) := by cases n <;> simp [Addr.add]
theorem add_add' (a : Addr) (i j : Nat) : (a.add i).add j = a.add (i + j) := by
  unfold Addr.add
  by_cases hi : i = 0 <;> by_cases hj : j = 0 <;> simp [hi, hj, Nat.add_assoc]
section
variable {H : Type} {enc : TypeId × Value → H} {W : World} {base : Nat} {sp : Nat → Bool} {hd : Bool}
theorem rd_int {fuel : Nat} {cs : List Value} {x : DataW H × List MemPlace} (h : DataW.trod enc P W base sp hd fuel 3 cs = some x) : ∃ n, RdC W [.int .i64 n] cs := by
  obtain ⟨n, rfl, _⟩ := DataW.trod_int Tryz.underlying3 h
  exact ⟨n, .one (.int .i64 n) rfl⟩
theorem rd_bool {fuel : Nat} {cs : List Value} {x : DataW H × List MemPlace} (h : DataW.trod enc P W base sp hd fuel 4 cs = some x) : ∃ b, RdC W [.bool b] cs := by
  obtain ⟨b, rfl, _⟩ := DataW.trod_bool Tryz.underlying4 h
  exact ⟨b, .one (.bool b) rfl⟩
theorem rd_str {fuel : Nat} {cs : List Value} {x : DataW H × List MemPlace} (h : DataW.trod enc P W base sp hd fuel 9 cs = some x) : ∃ s, RdC W [.str s] cs := by
  obtain ⟨s, rfl, _⟩ := DataW.trod_string Tryz.underlying9 h
  exact ⟨s.data.toList, .one (.str s.data.toList) rfl⟩
theorem rd_fields {t : TypeId} {fs : Array Field} {fuel : Nat} {cs : List Value} {x : DataW H × List MemPlace} (ht : P.underlying t = some (.struct fs)) (h : DataW.trod enc P W base sp hd fuel t cs = some x) :
    ∃ n, fuel = n + 1 ∧ cs.length = P.cellsOf t ∧ ∀ (i : Nat) (f : Field), fs[i]? = some f → ∃ y, DataW.trod enc P W base sp hd n f.type ((cs.drop f.offset).take (P.cellsOf f.type)) = some y := by
  obtain ⟨xs, n, hn, _, hl, hlen, hf⟩ := DataW.trod_struct ht h
  refine ⟨n, hn, hl, fun i f hi => ?_⟩
  have h1 : i < xs.length := by
    have := (Array.getElem?_eq_some_iff.1 hi).1
    omega
  rw [hf i f hi, List.getElem?_eq_getElem h1]
  exact ⟨_, rfl⟩
theorem fld_at {fs : Array Field} {n : Nat} {cs : List Value} (hf : ∀ (i : Nat) (f : Field), fs[i]? = some f → ∃ y, DataW.trod enc P W base sp hd n f.type ((cs.drop f.offset).take (P.cellsOf f.type)) = some y) (i : Nat) (f : Field) (hi : fs[i]? = some f) {k : Nat} (hk : P.cellsOf f.type = k) :
    ∃ y, DataW.trod enc P W base sp hd n f.type ((cs.drop f.offset).take k) = some y := hk ▸ hf i f hi
theorem pick_list {Q : Nat → AV → Prop} : ∀ n : Nat, (∀ i, i < n → ∃ v, Q i v) → ∃ l : List AV, l.length = n ∧ ∀ i, i < n → Q i (l.getD i .undef)
  | 0, _ => ⟨[], rfl, fun i hi => absurd hi (Nat.not_lt_zero _)⟩
  | n + 1, h => by
    obtain ⟨l, h1, h2⟩ := pick_list n fun i hi => h i (by omega)
    obtain ⟨v, hv⟩ := h n (by omega)
    refine ⟨l ++ [v], by simp [h1], fun i hi => ?_⟩
    by_cases hl : i < n
    · have : (l ++ [v]).getD i .undef = l.getD i .undef := by simp [List.getD, List.getElem?_append_left (show i < l.length by omega)]
      rw [this]
      exact h2 i hl
    · have : i = n := by omega
      subst this
      have : (l ++ [v]).getD i .undef = v := by simp [List.getD, ← h1]
      rw [this]
      exact hv
theorem rd_list {t e : TypeId} {k : Nat} (ht : P.underlying t = some (.slice e)) (hk : P.cellsOf e = k) (k0 : 0 < k) {p : AV → Bool} {fuel : Nat} {cs : List Value} {x : DataW H × List MemPlace}
    (elem : ∀ m cs' x', m < fuel → DataW.trod enc P W base sp hd m e cs' = some x' → ∃ v : AV, p v = true ∧ v.cells.length = k ∧ RdC W v.cells cs')
    (h : DataW.trod enc P W base sp hd fuel t cs = some x) : ∃ v, okL p v = true ∧ RdC W [v] cs := by
  rcases DataW.trod_slice ht h with ⟨rfl, _⟩ | ⟨a, len, cap, elems, rest, n, hn, rfl, _, _, hlc, hcm, hlen, hel, _⟩
  · refine ⟨.lst [] none, rfl, .one ?_ rfl⟩
    exact .lst [] none none 0 0 1 0 (fun _ _ => undef) (fun h => absurd rfl h) (fun i hi => absurd hi (Nat.not_lt_zero _)) (fun i j hi => absurd hi (Nat.not_lt_zero _)) (fun i j hi => absurd hi (Nat.not_lt_zero _)) (fun tk h => by cases h) (Nat.zero_le _)
  · rw [hk] at hel
    have each : ∀ i, i < len → ∃ v : AV, p v = true ∧ v.cells.length = k ∧ ∃ cs', W.cells? base (a.add (i * k)) k = some cs' ∧ RdC W v.cells cs' := by
      intro i hi
      have h1 := hel i hi
      rw [List.getElem?_eq_getElem (by omega)] at h1
      obtain ⟨cs', h2, h3⟩ := Option.bind_eq_some_iff.1 h1
      obtain ⟨v, v1, v2, v3⟩ := elem n cs' _ (by omega) h3
      exact ⟨v, v1, v2, cs', h2, v3⟩
    obtain ⟨l, hl, hq⟩ := pick_list len each
    refine ⟨.lst l none, ?_, .one ?_ rfl⟩
    · simp only [okL, Bool.and_eq_true, List.all_eq_true, Nat.ble_eq]
      refine ⟨?_, fun y hy => ?_⟩
      · have : cap ≤ 9223372036854775807 := hcm
        omega
      · obtain ⟨i, hi, rfl⟩ := List.getElem_of_mem hy
        have := (hq i (by omega)).1
        simpa [List.getD, hi] using this
    · rw [← hl]
      obtain ⟨b, o, s0⟩ := a
      have cell : ∀ i j, i < l.length → j < k → ∃ cs' : List Value, W.cell? (Addr.add ⟨b, o, s0⟩ (i * k + j)) = some (cs'.getD j undef) ∧ VR (topC W) ((l.getD i .undef).cell j) (cs'.getD j undef) ∧ (cs'.getD j undef).oneCell' = true := by
        intro i j hi hj
        obtain ⟨_, c2, cs', c3, c4, c5⟩ := hq i (by omega)
        obtain ⟨_, d1, d2⟩ := World.cells?_some c3
        refine ⟨cs', ?_, (c5 j (by omega)).1, (c5 j (by omega)).2⟩
        have := d2 j hj
        rw [add_add'] at this
        rw [this, List.getElem?_eq_getElem (by omega)]
        simp [List.getD, d1, hj]
      have hs : l ≠ [] → s0 = none := fun hne => by
        have : 0 < l.length := List.length_pos_iff.2 hne
        obtain ⟨cs', c1, _⟩ := cell 0 0 this k0
        have := World.cell?_spot c1
        simpa [Addr.add] using this
      have cell0 : ∀ i j, i < l.length → j < k → ∃ v : Value, W.cell? (at0 b (o + (i * k + j))) = some v ∧ VR (topC W) ((l.getD i .undef).cell j) v ∧ v.oneCell' = true := by
        intro i j hi hj
        obtain ⟨cs', c1, c2, c3⟩ := cell i j hi hj
        have hz := hs (fun e => by subst e; simp at hi)
        subst hz
        refine ⟨_, ?_, c2, c3⟩
        have ha : Addr.add ⟨b, o, none⟩ (i * k + j) = at0 b (o + (i * k + j)) := add_at0 b o _
        rw [ha] at c1
        exact c1
      refine .lst l none (some ⟨b, o, s0⟩) b o k cap (fun i j => (W.cell? (at0 b (o + (i * k + j)))).getD undef) (fun hne => by rw [hs hne]) (fun i hi => (hq i (by omega)).2.1) (fun i j hi hj => ?_) (fun i j hi hj => ?_) (fun tk h => by cases h) (by omega)
      · obtain ⟨v, c1, c2, c3⟩ := cell0 i j hi hj
        rw [c1]
        exact ⟨cell_lt c1, c1, c3⟩
      · obtain ⟨v, c1, c2, c3⟩ := cell0 i j hi hj
        rw [c1]
        exact c2
theorem z3 : P.cellsOf 3 = 1 := by kernel_rfl
theorem z4 : P.cellsOf 4 = 1 := by kernel_rfl
theorem z9 : P.cellsOf 9 = 1 := by kernel_rfl
theorem z26 : P.cellsOf 26 = 4 := by kernel_rfl
theorem z38 : P.cellsOf 38 = 2 := by kernel_rfl
theorem z46 : P.cellsOf 46 = 2 := by kernel_rfl
theorem z52 : P.cellsOf 52 = 5 := by kernel_rfl
theorem z41 : P.cellsOf 41 = 2 := by kernel_rfl
theorem z70 : P.cellsOf 70 = 9 := by kernel_rfl
theorem z73 : P.cellsOf 73 = 26 := by kernel_rfl
theorem z108 : P.cellsOf 108 = 2 := by kernel_rfl
theorem z22 : P.cellsOf 22 = 1 := by kernel_rfl
theorem z23 : P.cellsOf 23 = 1 := by kernel_rfl
theorem z24 : P.cellsOf 24 = 1 := by kernel_rfl
theorem z36 : P.cellsOf 36 = 1 := by kernel_rfl
theorem z44 : P.cellsOf 44 = 1 := by kernel_rfl
theorem z50 : P.cellsOf 50 = 1 := by kernel_rfl
theorem z67 : P.cellsOf 67 = 1 := by kernel_rfl
theorem z68 : P.cellsOf 68 = 1 := by kernel_rfl
theorem z71 : P.cellsOf 71 = 1 := by kernel_rfl
theorem rd_ints {fuel : Nat} {cs : List Value} {x : DataW H × List MemPlace} (h : DataW.trod enc P W base sp hd fuel 44 cs = some x) : ∃ v, okL isInt v = true ∧ RdC W [v] cs :=
  rd_list Tryz.underlying44 z3 (by omega) (fun m cs' x' _ h => by
    obtain ⟨n, h1⟩ := rd_int h
    exact ⟨.int .i64 n, rfl, rfl, h1⟩) h
theorem rd_strs {fuel : Nat} {cs : List Value} {x : DataW H × List MemPlace} (h : DataW.trod enc P W base sp hd fuel 67 cs = some x) : ∃ v, okL isStr v = true ∧ RdC W [v] cs :=
  rd_list Tryz.underlying67 z9 (by omega) (fun m cs' x' _ h => by
    obtain ⟨s, h1⟩ := rd_str h
    exact ⟨.str s, rfl, rfl, h1⟩) h
theorem vlist2 {cs : List Value} (h : cs.length = 2) : ∃ c0 c1, cs = [c0, c1] := by
  match cs, h with
  | [c0, c1], _ => exact ⟨c0, c1, rfl⟩
theorem vlist4 {cs : List Value} (h : cs.length = 4) : ∃ c0 c1 c2 c3, cs = [c0, c1, c2, c3] := by
  match cs, h with
  | [c0, c1, c2, c3], _ => exact ⟨c0, c1, c2, c3, rfl⟩
theorem vlist5 {cs : List Value} (h : cs.length = 5) : ∃ c0 c1 c2 c3 c4, cs = [c0, c1, c2, c3, c4] := by
  match cs, h with
  | [c0, c1, c2, c3, c4], _ => exact ⟨c0, c1, c2, c3, c4, rfl⟩
theorem vlist9 {cs : List Value} (h : cs.length = 9) : ∃ c0 c1 c2 c3 c4 c5 c6 c7 c8, cs = [c0, c1, c2, c3, c4, c5, c6, c7, c8] := by
  match cs, h with
  | [c0, c1, c2, c3, c4, c5, c6, c7, c8], _ => exact ⟨c0, c1, c2, c3, c4, c5, c6, c7, c8, rfl⟩
theorem vlist26 {cs : List Value} (h : cs.length = 26) : ∃ c0 c1 c2 c3 c4 c5 c6 c7 c8 c9 c10 c11 c12 c13 c14 c15 c16 c17 c18 c19 c20 c21 c22 c23 c24 c25, cs = [c0, c1, c2, c3, c4, c5, c6, c7, c8, c9, c10, c11, c12, c13, c14, c15, c16, c17, c18, c19, c20, c21, c22, c23, c24, c25] := by
  match cs, h with
  | [c0, c1, c2, c3, c4, c5, c6, c7, c8, c9, c10, c11, c12, c13, c14, c15, c16, c17, c18, c19, c20, c21, c22, c23, c24, c25], _ => exact ⟨c0, c1, c2, c3, c4, c5, c6, c7, c8, c9, c10, c11, c12, c13, c14, c15, c16, c17, c18, c19, c20, c21, c22, c23, c24, c25, rfl⟩
theorem rd_fld {fuel : Nat} {cs : List Value} {x : DataW H × List MemPlace} (h : DataW.trod enc P W base sp hd fuel 41 cs = some x) : ∃ v, isFld v = true ∧ v.cells.length = 2 ∧ RdC W v.cells cs := by
  obtain ⟨n0, rfl, hl, hf⟩ := rd_fields Tryz.underlying41 h
  rw [z41] at hl
  obtain ⟨c0, c1, rfl⟩ := vlist2 hl
  obtain ⟨y0, e0⟩ := fld_at hf 0 _ rfl z9
  have e0 : DataW.trod enc P W base sp hd n0 9 [c0] = some y0 := e0
  obtain ⟨s, r0⟩ := rd_str e0
  obtain ⟨y1, e1⟩ := fld_at hf 1 _ rfl z9
  have e1 : DataW.trod enc P W base sp hd n0 9 [c1] = some y1 := e1
  obtain ⟨t, r1⟩ := rd_str e1
  exact ⟨.agg [.str s, .str t], rfl, rfl, r0.app r1⟩
theorem rd_flds {fuel : Nat} {cs : List Value} {x : DataW H × List MemPlace} (h : DataW.trod enc P W base sp hd fuel 36 cs = some x) : ∃ v, okL isFld v = true ∧ RdC W [v] cs :=
  rd_list Tryz.underlying36 z41 (by omega) (fun m cs' x' _ h => rd_fld h) h
theorem rd_38 {fuel : Nat} {cs : List Value} {x : DataW H × List MemPlace} (h : DataW.trod enc P W base sp hd fuel 38 cs = some x) : ∃ v, okD isFld v = true ∧ v.cells.length = 2 ∧ RdC W v.cells cs := by
  obtain ⟨n0, rfl, hl, hf⟩ := rd_fields Tryz.underlying38 h
  rw [z38] at hl
  obtain ⟨c0, c1, rfl⟩ := vlist2 hl
  obtain ⟨y0, e0⟩ := fld_at hf 0 _ rfl z9
  have e0 : DataW.trod enc P W base sp hd n0 9 [c0] = some y0 := e0
  obtain ⟨s, r0⟩ := rd_str e0
  obtain ⟨y1, e1⟩ := fld_at hf 1 _ rfl z36
  have e1 : DataW.trod enc P W base sp hd n0 36 [c1] = some y1 := e1
  obtain ⟨v, o1, r1⟩ := rd_flds e1
  exact ⟨.agg [.str s, v], o1, rfl, r0.app r1⟩
theorem rd_46 {fuel : Nat} {cs : List Value} {x : DataW H × List MemPlace} (h : DataW.trod enc P W base sp hd fuel 46 cs = some x) : ∃ v, okD isInt v = true ∧ v.cells.length = 2 ∧ RdC W v.cells cs := by
  obtain ⟨n0, rfl, hl, hf⟩ := rd_fields Tryz.underlying46 h
  rw [z46] at hl
  obtain ⟨c0, c1, rfl⟩ := vlist2 hl
  obtain ⟨y0, e0⟩ := fld_at hf 0 _ rfl z9
  have e0 : DataW.trod enc P W base sp hd n0 9 [c0] = some y0 := e0
  obtain ⟨s, r0⟩ := rd_str e0
  obtain ⟨y1, e1⟩ := fld_at hf 1 _ rfl z44
  have e1 : DataW.trod enc P W base sp hd n0 44 [c1] = some y1 := e1
  obtain ⟨v, o1, r1⟩ := rd_ints e1
  exact ⟨.agg [.str s, v], o1, rfl, r0.app r1⟩
theorem rd_expr : ∀ (n : Nat) {fuel : Nat} {cs : List Value} {x : DataW H × List MemPlace}, fuel ≤ n → DataW.trod enc P W base sp hd fuel 70 cs = some x → ∃ aa, okX n (.agg aa) = true ∧ RdC W aa cs := by
  intro n
  induction n with
  | zero =>
    intro fuel cs x hn h
    obtain ⟨n0, rfl, _⟩ := rd_fields Tryz.underlying70 h
    omega
  | succ n ih =>
    intro fuel cs x hn h
    obtain ⟨n0, rfl, hl, hf⟩ := rd_fields Tryz.underlying70 h
    rw [z70] at hl
    obtain ⟨c0, c1, c2, c3, c4, c5, c6, c7, c8, rfl⟩ := vlist9 hl
    obtain ⟨y0, e0⟩ := fld_at hf 0 _ rfl z3
    have e0 : DataW.trod enc P W base sp hd n0 3 [c0] = some y0 := e0
    obtain ⟨v0, r0⟩ := rd_int e0
    obtain ⟨y1, e1⟩ := fld_at hf 1 _ rfl z3
    have e1 : DataW.trod enc P W base sp hd n0 3 [c1] = some y1 := e1
    obtain ⟨v1, r1⟩ := rd_int e1
    obtain ⟨y2, e2⟩ := fld_at hf 2 _ rfl z9
    have e2 : DataW.trod enc P W base sp hd n0 9 [c2] = some y2 := e2
    obtain ⟨v2, r2⟩ := rd_str e2
    obtain ⟨y3, e3⟩ := fld_at hf 3 _ rfl z9
    have e3 : DataW.trod enc P W base sp hd n0 9 [c3] = some y3 := e3
    obtain ⟨v3, r3⟩ := rd_str e3
    obtain ⟨y4, e4⟩ := fld_at hf 4 _ rfl z9
    have e4 : DataW.trod enc P W base sp hd n0 9 [c4] = some y4 := e4
    obtain ⟨v4, r4⟩ := rd_str e4
    obtain ⟨y5, e5⟩ := fld_at hf 5 _ rfl z3
    have e5 : DataW.trod enc P W base sp hd n0 3 [c5] = some y5 := e5
    obtain ⟨v5, r5⟩ := rd_int e5
    obtain ⟨y6, e6⟩ := fld_at hf 6 _ rfl z67
    have e6 : DataW.trod enc P W base sp hd n0 67 [c6] = some y6 := e6
    obtain ⟨v6, o6, r6⟩ := rd_strs e6
    obtain ⟨y7, e7⟩ := fld_at hf 7 _ rfl z68
    have e7 : DataW.trod enc P W base sp hd n0 68 [c7] = some y7 := e7
    obtain ⟨v7, o7, r7⟩ := rd_list (p := okX n) Tryz.underlying68 z70 (by omega) (fun m cs' x' hm h => by
      obtain ⟨aa, a1, a2⟩ := ih (by omega) h
      obtain ⟨_, rfl9, hl9⟩ := okX_sh a1
      cases rfl9
      exact ⟨.agg aa, a1, hl9, a2⟩) e7
    obtain ⟨y8, e8⟩ := fld_at hf 8 _ rfl z3
    have e8 : DataW.trod enc P W base sp hd n0 3 [c8] = some y8 := e8
    obtain ⟨v8, r8⟩ := rd_int e8
    refine ⟨[.int .i64 v0, .int .i64 v1, .str v2, .str v3, .str v4, .int .i64 v5, v6, v7, .int .i64 v8], ?_, r0.app (r1.app (r2.app (r3.app (r4.app (r5.app (r6.app (r7.app r8)))))))⟩
    simp only [okX, o6, o7, Bool.and_self]
theorem rd_stmt : ∀ (n : Nat) {fuel : Nat} {cs : List Value} {x : DataW H × List MemPlace}, fuel ≤ n → DataW.trod enc P W base sp hd fuel 73 cs = some x → ∃ aa, okS n (.agg aa) = true ∧ aa.length = 26 ∧ RdC W aa cs := by
  intro n
  induction n with
  | zero =>
    intro fuel cs x hn h
    obtain ⟨n0, rfl, _⟩ := rd_fields Tryz.underlying73 h
    omega
  | succ n ih =>
    intro fuel cs x hn h
    have block : ∀ {m : Nat} {cs : List Value} {x : DataW H × List MemPlace}, m ≤ n → DataW.trod enc P W base sp hd m 50 cs = some x → ∃ v, okL (okS n) v = true ∧ RdC W [v] cs := fun hm h =>
      rd_list Tryz.underlying50 z73 (by omega) (fun m' cs' x' hm' h => by
        obtain ⟨aa, a1, a2, a3⟩ := ih (by omega) h
        exact ⟨.agg aa, a1, a2, a3⟩) h
    have case_ : ∀ {m : Nat} {cs : List Value} {x : DataW H × List MemPlace}, m ≤ n → DataW.trod enc P W base sp hd m 108 cs = some x → ∃ v, okC (okS n) v = true ∧ v.cells.length = 2 ∧ RdC W v.cells cs := by
      intro m cs x hm h
      obtain ⟨n0, rfl, hl, hf⟩ := rd_fields Tryz.underlying108 h
      rw [z108] at hl
      obtain ⟨c0, c1, rfl⟩ := vlist2 hl
      obtain ⟨y0, e0⟩ := fld_at hf 0 _ rfl z44
      have e0 : DataW.trod enc P W base sp hd n0 44 [c0] = some y0 := e0
      obtain ⟨v0, o0, r0⟩ := rd_ints e0
      obtain ⟨y1, e1⟩ := fld_at hf 1 _ rfl z50
      have e1 : DataW.trod enc P W base sp hd n0 50 [c1] = some y1 := e1
      obtain ⟨v1, o1, r1⟩ := block (by omega) e1
      exact ⟨.agg [v0, v1], by simp only [okC, o0, o1, Bool.and_self], rfl, r0.app r1⟩
    obtain ⟨n0, rfl, hl, hf⟩ := rd_fields Tryz.underlying73 h
    rw [z73] at hl
    obtain ⟨c0, c1, c2, c3, c4, c5, c6, c7, c8, c9, c10, c11, c12, c13, c14, c15, c16, c17, c18, c19, c20, c21, c22, c23, c24, c25, rfl⟩ := vlist26 hl
    obtain ⟨y0, e0⟩ := fld_at hf 0 _ rfl z3
    have e0 : DataW.trod enc P W base sp hd n0 3 [c0] = some y0 := e0
    obtain ⟨v0, r0⟩ := rd_int e0
    obtain ⟨y1, e1⟩ := fld_at hf 1 _ rfl z9
    have e1 : DataW.trod enc P W base sp hd n0 9 [c1] = some y1 := e1
    obtain ⟨v1, r1⟩ := rd_str e1
    obtain ⟨y2, e2⟩ := fld_at hf 2 _ rfl z9
    have e2 : DataW.trod enc P W base sp hd n0 9 [c2] = some y2 := e2
    obtain ⟨v2, r2⟩ := rd_str e2
    obtain ⟨y3, e3⟩ := fld_at hf 3 _ rfl z70
    have e3 : DataW.trod enc P W base sp hd n0 70 [c3, c4, c5, c6, c7, c8, c9, c10, c11] = some y3 := e3
    obtain ⟨l3, o3, r3⟩ := rd_expr n (by omega) e3
    obtain ⟨y4, e4⟩ := fld_at hf 4 _ rfl z70
    have e4 : DataW.trod enc P W base sp hd n0 70 [c12, c13, c14, c15, c16, c17, c18, c19, c20] = some y4 := e4
    obtain ⟨l4, o4, r4⟩ := rd_expr n (by omega) e4
    obtain ⟨y5, e5⟩ := fld_at hf 5 _ rfl z50
    have e5 : DataW.trod enc P W base sp hd n0 50 [c21] = some y5 := e5
    obtain ⟨v5, o5, r5⟩ := block (by omega) e5
    obtain ⟨y6, e6⟩ := fld_at hf 6 _ rfl z50
    have e6 : DataW.trod enc P W base sp hd n0 50 [c22] = some y6 := e6
    obtain ⟨v6, o6, r6⟩ := block (by omega) e6
    obtain ⟨y7, e7⟩ := fld_at hf 7 _ rfl z4
    have e7 : DataW.trod enc P W base sp hd n0 4 [c23] = some y7 := e7
    obtain ⟨v7, r7⟩ := rd_bool e7
    obtain ⟨y8, e8⟩ := fld_at hf 8 _ rfl z71
    have e8 : DataW.trod enc P W base sp hd n0 71 [c24] = some y8 := e8
    obtain ⟨v8, o8, r8⟩ := rd_list (p := okC (okS n)) Tryz.underlying71 z108 (by omega) (fun m cs' x' hm h => case_ (by omega) h) e8
    obtain ⟨y9, e9⟩ := fld_at hf 9 _ rfl z3
    have e9 : DataW.trod enc P W base sp hd n0 3 [c25] = some y9 := e9
    obtain ⟨v9, r9⟩ := rd_int e9
    obtain ⟨_, q3, s3⟩ := okX_sh o3
    cases q3
    obtain ⟨a0, a1, a2, a3, a4, a5, a6, a7, a8, rfl⟩ := list9 s3
    obtain ⟨_, q4, s4⟩ := okX_sh o4
    cases q4
    obtain ⟨b0, b1, b2, b3, b4, b5, b6, b7, b8, rfl⟩ := list9 s4
    refine ⟨[.int .i64 v0, .str v1, .str v2, a0, a1, a2, a3, a4, a5, a6, a7, a8, b0, b1, b2, b3, b4, b5, b6, b7, b8, v5, v6, .bool v7, v8, .int .i64 v9], ?_, rfl, r0.app (r1.app (r2.app (r3.app (r4.app (r5.app (r6.app (r7.app (r8.app r9))))))))⟩
    simp only [okS, o3, o4, o5, o6, o8, Bool.and_self]
theorem rd_block {n : Nat} {m : Nat} {cs : List Value} {x : DataW H × List MemPlace} (hm : m ≤ n) (h : DataW.trod enc P W base sp hd m 50 cs = some x) : ∃ v, okL (okS n) v = true ∧ RdC W [v] cs :=
  rd_list Tryz.underlying50 z73 (by omega) (fun m' cs' x' hm' h => by
    obtain ⟨aa, a1, a2, a3⟩ := rd_stmt n (by omega) h
    exact ⟨.agg aa, a1, a2, a3⟩) h
theorem rd_func {n fuel : Nat} {cs : List Value} {x : DataW H × List MemPlace} (hn : fuel ≤ n) (h : DataW.trod enc P W base sp hd fuel 52 cs = some x) : ∃ v, okF (okS n) v = true ∧ v.cells.length = 5 ∧ RdC W v.cells cs := by
  obtain ⟨n0, rfl, hl, hf⟩ := rd_fields Tryz.underlying52 h
  rw [z52] at hl
  obtain ⟨c0, c1, c2, c3, c4, rfl⟩ := vlist5 hl
  obtain ⟨y0, e0⟩ := fld_at hf 0 _ rfl z9
  have e0 : DataW.trod enc P W base sp hd n0 9 [c0] = some y0 := e0
  obtain ⟨v0, r0⟩ := rd_str e0
  obtain ⟨y1, e1⟩ := fld_at hf 1 _ rfl z36
  have e1 : DataW.trod enc P W base sp hd n0 36 [c1] = some y1 := e1
  obtain ⟨v1, o1, r1⟩ := rd_flds e1
  obtain ⟨y2, e2⟩ := fld_at hf 2 _ rfl z9
  have e2 : DataW.trod enc P W base sp hd n0 9 [c2] = some y2 := e2
  obtain ⟨v2, r2⟩ := rd_str e2
  obtain ⟨y3, e3⟩ := fld_at hf 3 _ rfl z50
  have e3 : DataW.trod enc P W base sp hd n0 50 [c3] = some y3 := e3
  obtain ⟨v3, o3, r3⟩ := rd_block (n := n) (by omega) e3
  obtain ⟨y4, e4⟩ := fld_at hf 4 _ rfl z3
  have e4 : DataW.trod enc P W base sp hd n0 3 [c4] = some y4 := e4
  obtain ⟨v4, r4⟩ := rd_int e4
  exact ⟨.agg [.str v0, v1, .str v2, v3, .int .i64 v4], by simp only [okF, o1, o3, Bool.and_self], rfl, r0.app (r1.app (r2.app (r3.app r4)))⟩
theorem rd_prog {n fuel : Nat} {cs : List Value} {x : DataW H × List MemPlace} (hn : fuel ≤ n) (h : DataW.trod enc P W base sp hd fuel 26 cs = some x) : ∃ aa, okP (okS n) (.agg aa) = true ∧ RdC W aa cs := by
  obtain ⟨n0, rfl, hl, hf⟩ := rd_fields Tryz.underlying26 h
  rw [z26] at hl
  obtain ⟨c0, c1, c2, c3, rfl⟩ := vlist4 hl
  obtain ⟨y0, e0⟩ := fld_at hf 0 _ rfl z9
  have e0 : DataW.trod enc P W base sp hd n0 9 [c0] = some y0 := e0
  obtain ⟨v0, r0⟩ := rd_str e0
  obtain ⟨y1, e1⟩ := fld_at hf 1 _ rfl z22
  have e1 : DataW.trod enc P W base sp hd n0 22 [c1] = some y1 := e1
  obtain ⟨v1, o1, r1⟩ := rd_list (p := okD isFld) Tryz.underlying22 z38 (by omega) (fun m cs x _ h => rd_38 h) e1
  obtain ⟨y2, e2⟩ := fld_at hf 2 _ rfl z23
  have e2 : DataW.trod enc P W base sp hd n0 23 [c2] = some y2 := e2
  obtain ⟨v2, o2, r2⟩ := rd_list (p := okD isInt) Tryz.underlying23 z46 (by omega) (fun m cs x _ h => rd_46 h) e2
  obtain ⟨y3, e3⟩ := fld_at hf 3 _ rfl z24
  have e3 : DataW.trod enc P W base sp hd n0 24 [c3] = some y3 := e3
  obtain ⟨v3, o3, r3⟩ := rd_list (p := okF (okS n)) Tryz.underlying24 z52 (by omega) (fun m cs x hm h => rd_func (n := n) (by omega) h) e3
  exact ⟨[.str v0, v1, v2, v3], by simp only [okP, o1, o2, o3, Bool.and_self], r0.app (r1.app (r2.app r3))⟩
end
end Go.Proofs.Mn

set_option linter.unusedVariables false
set_option linter.unusedSimpArgs false
namespace Go.Proofs.Mn
open Go Go.Am

theorem topC_inv (W : World) : Inv (topC W) none0 :=
  ⟨fun id B h => (nomatch (none0_get id).symm.trans h), fun id id' B B' h => (nomatch (none0_get id).symm.trans h), fun id B h => (nomatch (none0_get id).symm.trans h), fun b c h => h, fun b h => h, fun id h => (h : False).elim⟩
theorem topC_gr {W : World} {m : Int} {e : ExtF} (hm : W.cell? (at0 0 0) = some (.int .i64 m)) : GR (topC W) (cfgOf m e) := by
  intro g
  show VR _ (cond (Nat.beq g 0) (.rptr (.int .i64 m) 0) .undef) _
  cases h : Nat.beq g 0 with
  | false => exact .undef _
  | true =>
    obtain rfl := Nat.eq_of_beq_eq_true h
    refine .rptr (.int .i64 m) 0 0 0 (fun _ => .int .i64 m) (fun j hj => ?_) (fun j hj => ?_)
    · have : j = 0 := by simpa [AV.cells] using hj
      subst this
      exact ⟨cell_lt hm, hm, rfl⟩
    · have : j = 0 := by simpa [AV.cells] using hj
      subst this
      exact .int .i64 m
theorem rd_agg {W : World} {aa : List AV} {vs : Array Value} (h : RdC W aa vs.toList) : VR (topC W) (.agg aa) (.agg vs) := by
  obtain ⟨h1, h2⟩ := h
  have e : ∀ i, vs.toList.getD i undef = vs.getD i undef := fun i => by by_cases h : i < vs.size <;> simp [List.getD, Array.getD, h]
  refine .agg aa vs (by simpa using h1.symm) (fun i hi => ?_) (fun i hi => ?_)
  · rw [← e i]
    exact (h2 i hi).2
  · rw [← e i]
    exact (h2 i hi).1

theorem has3 : (P.funcs[3]?).any (fun fn => fn.body.isSome) = true := by kernel_rfl
theorem noGo3 : (P.funcs[3]?).all (fun fn => !(fn.name == "runtime.NumGoroutine")) = true := by kernel_rfl

/-- A call of the law: true, and nothing that was there is touched. -/
theorem law_calls {W : World} {m : Int} {k : Nat} {aa bb : List AV} {va vb : Array Value} {t : ByteArray} (hm : W.cell? (at0 0 0) = some (.int .i64 m))
    (oa : okP (okS k) (.agg aa) = true) (ob : okP (okS k) (.agg bb) = true) (ra : RdC W aa va.toList) (rb : RdC W bb vb.toList) :
    Calls P 3 #[.agg va, .agg vb, .string t] W fun e w' => e = .returned (.bool true) ∧ RowKit.Below W.heap.size W w' := by
  have hr := law_runs m k (.agg aa) (.agg bb) t.data.toList oa ob none0
  have hf : FR (topC W) [.agg aa, .agg bb, .str t.data.toList] #[.agg va, .agg vb, .string t] := by
    refine ⟨rfl, fun i hi => ?_⟩
    have : i = 0 ∨ i = 1 ∨ i = 2 := by simp at hi; omega
    rcases this with rfl | rfl | rfl
    · exact rd_agg ra
    · exact rd_agg rb
    · exact .str t.data.toList
  have hc := hr (topC W) _ (Nat.le_refl _) (topC_inv W) (topC_gr hm) hf
  have hpost : ∀ e w', CallPost (topC W) none0 (.ret (.bool true) none0) e w' → e = .returned (.bool true) ∧ RowKit.Below W.heap.size W w' := by
    rintro e w' ⟨y, Γ', rfl, rfl, hv, hG⟩
    have hs := hG.step
    cases hv
    exact ⟨rfl, hs.os, hs.tape, hs.output, hs.size, fun k hk => hs.frame k hk (fun id B hg => (nomatch (none0_get id).symm.trans hg))⟩
  rcases hc with ⟨_, hc⟩ | ⟨y, w', h1, _⟩
  · exact hc.mono hpost
  · exfalso
    have hb := has3
    cases hfn : P.funcs[3]? with
    | none => rw [hfn] at hb; cases hb
    | some fn =>
      rw [hfn] at hb
      obtain ⟨c, hbody⟩ := Option.isSome_iff_exists.1 (by simpa using hb : fn.body.isSome = true)
      have hng : (fn.name == "runtime.NumGoroutine") = false := by
        have h1 := noGo3
        rw [hfn] at h1
        simpa using h1
      have h2 := MuLone.run_callFunc_enter hfn hng hbody #[.agg va, .agg vb, .string t] W
      rw [show (topC W).w = W from rfl, h2] at h1
      cases h1
end Go.Proofs.Mn
