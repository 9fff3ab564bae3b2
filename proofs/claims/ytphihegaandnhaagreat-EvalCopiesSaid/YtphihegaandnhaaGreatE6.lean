/-
EvalCopies: what the law says, whatever comes in.
-/
import Derived.Test.YtphihegaandnhaaGreatE5
set_option linter.unusedVariables false
set_option linter.unusedSimpArgs false
namespace Go.Proofs.Ec
open Go Go.Am

theorem is_leaf : ∀ l : List Int, (is l).map toLeaf = lv l
  | [] => rfl
  | x :: l => by
    show leaf x :: (is l).map toLeaf = leaf x :: lv l
    rw [is_leaf l]
theorem is_app (l r : List Int) : is l ++ is r = is (l ++ r) := by simp [is]
theorem lv_app (l r : List Int) : lv l ++ lv r = lv (l ++ r) := by simp [lv]
theorem lv_set (l : List Int) (k : Nat) (n : Int) : (lv l).set k (leaf n) = lv (l.set k n) := by simp [lv, List.map_set]
theorem lv_take (l : List Int) (k : Nat) : (lv l).take k = lv (l.take k) := by simp [lv, List.map_take]
theorem lv_get (l : List Int) (k : Nat) : (lv l)[k]? = (l[k]?).map leaf := by simp [lv]
theorem okInts_is {l : List Int} (h0 : 0 < l.length) (h : l.length < 1048576) : okInts (is l) = true := by
  have h1 : (is l).all isInt = true := by simp [is, isInt]
  simp only [okInts, h1, is_len, Bool.true_and, Bool.and_eq_true, Nat.blt_eq]
  exact ⟨h0, h⟩
theorem okRow_lv {l : List Int} {n : Nat} (hn : n = l.length) (h0 : 0 < l.length) (h : l.length < 1048576) : okRow 5 5 0 n (lv l) = true := by
  have h1 : (lv l).all isLeaf = true := by simp [lv, isLeaf, leaf, mv]
  subst hn
  have e : ∀ k, Nat.beq k k = true := Nat.beq_refl
  simp only [okRow, h1, lv_len, e, Bool.true_and, Bool.and_eq_true, Nat.blt_eq]
  exact ⟨h0, h⟩
theorem beqs_refl : ∀ l : List Int, AV.beqs (lv l) (lv l) = true
  | [] => rfl
  | x :: l => by
    show ((leaf x).beq (leaf x) && AV.beqs (lv l) (lv l)) = true
    rw [beqs_refl l, Bool.and_true]
    simp [leaf, mv, AV.beq, AV.beqs, beqBytes]
theorem wrapN {n : Nat} (h : n ≤ 1000000) : IntKind.i64.wrap ((n : Int) + 0) = (n : Int) := by rw [IntWalk.i64_in _ (by omega)]; omega
theorem by3v : P.bytesOf 3 = 8 := by kernel_rfl
theorem z3v : (zeroA P 3).isNone = false := by kernel_rfl

section
variable (m : Int) (x : Int) (r : List Int) (a n : Int)
theorem c0_ok (hl : (x :: r).length ≤ 65536) : ltI 65536 (((cX x (is r)).length : Nat) : Int) = false := by
  have : (cX x (is r)).length = (x :: r).length := by simp [cX, is_len]
  rw [this, ltI_eq]; simp at hl ⊢; omega
theorem c1_ok (hl : (x :: r).length ≤ 65536) : okInts (cX x (is r)) = true := okInts_is (l := x :: r) (by simp) (by omega)
theorem z0_eq : cZ0 x (is r) = lv (x :: r) := is_leaf (x :: r)
theorem c2_ok (hl : (x :: r).length ≤ 65536) : okRow 5 5 0 (cX x (is r)).length (cZ0 x (is r)) = true := by
  rw [z0_eq]; exact okRow_lv (by simp [cX, is_len]) (by simp) (by omega)
theorem c8_ok (hl : (x :: r).length ≤ 65536) : okRow 5 5 0 (cZ0 x (is r)).length (cZ0 x (is r)) = true := by
  rw [z0_eq]; exact okRow_lv (lv_len _) (by simp) (by omega)
theorem c4_ok (hl : (x :: r).length ≤ 65536) : (!(ltI 1048576 (if (1048577 : Int) < ((((cZ0 x (is r)).length + 1 : Nat)) : Int) then (1048577 : Int) else ((((cZ0 x (is r)).length + 1 : Nat)) : Int)))) = true := by
  rw [z0_eq, lv_len, if_neg (by omega), ltI_eq]
  simp only [Bool.not_eq_true', decide_eq_false_iff_not]; omega
end

theorem says {m : Int} {e : ExtF} (pf : PF P (cfgOf m e)) {args : List AV} {p : Prop} {hs : Hints} (h : ((ecall P (cfgOf m e) forceS 3000 3 args none0 (endC saysTrue)).run hs True) = p) (hp : p) :
    ∃ σ', CallRuns P (cfgOf m ext0) 3 args none0 (.ret (.bool true) σ') := by
  obtain ⟨cr, h1, h2⟩ := call_runs pf (mode0 m e) forceS_good (Q.of_eq h hp)
  cases cr with
  | panic _ _ => exact h2.elim
  | ret v σ' =>
    have h2 : v = .bool true := h2
    subst h2
    exact ⟨σ', under h1⟩

theorem law_in_runs (m x : Int) (r : List Int) (a n : Int) (hl : (x :: r).length ≤ 65536) (ha : ¬ a < 0) (hb : a < (((x :: r).length : Nat) : Int)) :
    ∃ σ', CallRuns P (cfgOf m ext0) 3 [.lst (.int .i64 x :: is r) none, .int .i64 a, .int .i64 n] none0 (.ret (.bool true) σ') := by
  obtain ⟨k, rfl⟩ : ∃ k : Nat, a = k := ⟨a.toNat, by omega⟩
  have hk : k < (x :: r).length := by omega
  have hX : cX x (is r) = is (x :: r) := rfl
  have hZ : cZ0 x (is r) = lv (x :: r) := z0_eq x r
  have e0 := c0_ok x r hl
  have e1 := c1_ok x r hl
  have e2 := c2_ok x r hl
  have e4 := c4_ok x r hl
  have e8 := c8_ok x r hl
  have hW : cW x (is r) n = is ((x :: r) ++ [n, wr1 n, (((x :: r).length : Nat) : Int), (((x :: r).length + 1 : Nat) : Int)]) := by
    unfold cW
    rw [hX, is_len, iRoom (by omega), ← is_app]
    rfl
  have hk0 : 0 + ((k : Nat) : Int).toNat = k := by simp
  have hZn : cZn x (is r) k n = lv ((x :: r).set k n) := by unfold cZn; rw [hZ, hk0, lv_set]
  have hZp : cZp x (is r) k n = lv ((x :: r).set k (wr1 n)) := by unfold cZp; rw [hZ, hk0, lv_set]
  have hZna : cZna x (is r) k n = lv ((x :: r).set k n ++ [n]) := by
    unfold cZna
    rw [hZn, hZ, lv_len, lv_take, List.take_of_length_le (by simp), ← lv_app]
    rfl
  have hZf : cZf x (is r) k n = lv ((x :: r) ++ [n, wr1 n, (((x :: r).length : Nat) : Int), (((x :: r).length + 1 : Nat) : Int)]) := by
    unfold cZf
    rw [hZna, hZ, lv_len, lv_len, lv_take, List.take_of_length_le (Nat.le_refl _), wrapN (by omega), wrapN (by simp at hl ⊢; omega), ← lv_app]
    simp [lv]
  generalize hq : x :: r = q at *
  have hp : 0 < q.length := by omega
  obtain ⟨y, hy⟩ : ∃ y, q[k]? = some y := ⟨q[k], by simp [hk]⟩
  obtain ⟨z, hz⟩ : ∃ z, (q.set k n)[0]? = some z := ⟨(q.set k n)[0]'(by simpa using hp), by simp⟩
  obtain ⟨z', hz'⟩ : ∃ z, (q.set k (wr1 n))[0]? = some z := ⟨(q.set k (wr1 n))[0]'(by simpa using hp), by simp⟩
  have bq : ∀ j, Nat.beq j j = true := Nat.beq_refl
  have e11 : ltI (k : Int) 0 = false := by rw [ltI_eq]; simp
  have e12 : (!(ltI (k : Int) (((cZ0 x (is r)).length : Nat) : Int))) = false := by rw [hZ, lv_len, ltI_eq]; simp; omega
  have e13 : (decide (0 ≤ (k : Int)) && decide ((k : Int) < (((cZ0 x (is r)).length : Nat) : Int)) && Nat.beq 5 (szT P 36) && !(Nat.beq (szT P 36) 0)) = true := by
    rw [hZ, lv_len, sz36, sz36v]; simp; omega
  have e15 : (cZ0 x (is r))[0 + (k : Int).toNat]? = some (leaf y) := by rw [hZ, hk0, lv_get, hy]; rfl
  have e19 : ltI (((cZ0 x (is r)).length : Nat) : Int) 1048576 = true := by rw [hZ, lv_len, ltI_eq]; simp; omega
  have e20 : (decide (0 ≤ (0 : Int)) && decide ((0 : Int) < (((cZ0 x (is r)).length : Nat) : Int)) && Nat.beq 5 (szT P 36) && !(Nat.beq (szT P 36) 0)) = true := by
    rw [hZ, lv_len, sz36, sz36v]; simp; omega
  have e21 : (cZn x (is r) k n)[0]? = some (leaf z) := by rw [hZn, lv_get, hz]; rfl
  have e22 : (Nat.beq 5 (szT P 36) && Nat.beq 5 (szT P 36) && Nat.beq 0 0 && Nat.ble (cZ0 x (is r)).length (cZn x (is r) k n).length && Nat.ble 0 1769 && Nat.ble (((cZ0 x (is r)).length + (0 + 1)) * P.bytesOf 36) limit && !(Nat.beq 1769 3020)) = true := by
    rw [hZn, hZ, lv_len, lv_len, sz36v, by36v, List.length_set]
    simp only [Bool.and_eq_true, Nat.ble_eq, bq]
    refine ⟨⟨⟨⟨⟨⟨trivial, trivial⟩, trivial⟩, Nat.le_refl _⟩, Nat.zero_le _⟩, ?_⟩, rfl⟩
    unfold limit; omega
  have e24 : ltI ((((cZ0 x (is r)).length + (0 + 1) : Nat)) : Int) 1048576 = true := by rw [hZ, lv_len, ltI_eq]; simp; omega
  have e25 : (decide (0 ≤ (0 : Int)) && decide ((0 : Int) < ((((cZ0 x (is r)).length + (0 + 1)) : Nat) : Int)) && Nat.beq 5 (szT P 36) && !(Nat.beq (szT P 36) 0)) = true := by
    rw [hZ, lv_len, sz36, sz36v]; simp
  have e26 : (cZna x (is r) k n)[0]? = some (leaf z) := by rw [hZna, lv_get, List.getElem?_append_left (by simpa using hp), hz]; rfl
  have e27 : okRow 5 5 0 ((cZ0 x (is r)).length + (0 + 1)) (cZna x (is r) k n) = true := by rw [hZ, hZna, lv_len]; exact okRow_lv (by simp) (by simp) (by simp; omega)
  have e40 : (cZp x (is r) k n)[0]? = some (leaf z') := by rw [hZp, lv_get, hz']; rfl
  have e44 : (!(ltI (k : Int) (IntKind.i64.wrap ((((cZna x (is r) k n).length : Nat) : Int) + 0)))) = false := by
    rw [hZna, lv_len, wrapN (by simp; omega), ltI_eq]; simp; omega
  have e45 : (decide (0 ≤ (k : Int)) && decide ((k : Int) < (((cZna x (is r) k n).length : Nat) : Int)) && Nat.beq 5 (szT P 36) && !(Nat.beq (szT P 36) 0)) = true := by
    rw [hZna, lv_len, sz36, sz36v]; simp; omega
  have e47 : (cZna x (is r) k n)[0 + (k : Int).toNat]? = some (leaf n) := by
    rw [hZna, hk0, lv_get, List.getElem?_append_left (by simpa using hk)]; simp [hk]
  have e50 : (!(ltI (k : Int) (IntKind.i64.wrap ((((cZ0 x (is r)).length : Nat) : Int) + 0)))) = false := by
    rw [hZ, lv_len, wrapN (by omega), ltI_eq]; simp; omega
  have e53 : (cZp x (is r) k n)[0 + (k : Int).toNat]? = some (leaf (wr1 n)) := by rw [hZp, hk0, lv_get]; simp [hk]
  have e57 : (Nat.beq 5 (szT P 36) && Nat.beq 5 (szT P 36) && Nat.beq 0 0 && Nat.ble (cZ0 x (is r)).length (cZ0 x (is r)).length && Nat.ble 0 589 && Nat.ble (((cZ0 x (is r)).length + (3 + 1)) * P.bytesOf 36) limit && !(Nat.beq 589 6076)) = true := by
    rw [hZ, lv_len, sz36v, by36v]
    simp only [Bool.and_eq_true, Nat.ble_eq, bq]
    refine ⟨⟨⟨⟨⟨⟨trivial, trivial⟩, trivial⟩, Nat.le_refl _⟩, Nat.zero_le _⟩, ?_⟩, rfl⟩
    unfold limit; omega
  have e59 : ltI ((((cZ0 x (is r)).length + (3 + 1) : Nat)) : Int) 1048576 = true := by rw [hZ, lv_len, ltI_eq]; simp; omega
  have e60 : (decide (0 ≤ (0 : Int)) && decide ((0 : Int) < ((((cZ0 x (is r)).length + (3 + 1)) : Nat) : Int)) && Nat.beq 5 (szT P 36) && !(Nat.beq (szT P 36) 0)) = true := by
    rw [hZ, lv_len, sz36, sz36v]; simp; omega
  have e61 : okRow 5 5 0 ((cZ0 x (is r)).length + (3 + 1)) (cZf x (is r) k n) = true := by rw [hZ, hZf, lv_len]; exact okRow_lv (by simp) (by simp) (by simp; omega)
  have e64 : (!(ltI (k : Int) (((cX x (is r)).length : Nat) : Int))) = false := by rw [hX, is_len, ltI_eq]; simp; omega
  have hr : (is r).length + 1 = q.length := by rw [is_len, ← hq]; simp
  have e66 : (!(Nat.beq (P.bytesOf 3) 0 || Nat.beq 1 0 || !((cX x (is r)).all fun y => Nat.beq y.cells.length 1) || (zeroA P 3).isNone)) = true := by
    rw [hX, by3v, z3v]
    have : (is q).all (fun y => Nat.beq y.cells.length 1) = true := by simp [is, AV.cells]
    rw [this]; rfl
  have e67 : Nat.ble (((is r).length + 1) * P.bytesOf 3) limit = true := by rw [hr, by3v, Nat.ble_eq]; unfold limit; omega
  have e70 : (Nat.beq 1 1 && Nat.beq (cX x (is r)).length (cX x (is r)).length && Nat.ble 0 6451 && Nat.ble (((cX x (is r)).length + (3 + 1)) * P.bytesOf 3) limit && !(Nat.beq 6451 6461)) = true := by
    rw [hX, is_len, by3v]
    simp only [Bool.and_eq_true, Nat.ble_eq, bq]
    refine ⟨⟨⟨⟨trivial, trivial⟩, Nat.zero_le _⟩, ?_⟩, rfl⟩
    unfold limit; omega
  have e72 : okInts (cW x (is r) n) = true := by rw [hW]; exact okInts_is (by simp) (by simp; omega)
  have e73 : (AV.beq (cV x (is r) k n) (cV x (is r) k n) && true) = true := by
    have hb : ∀ s : List UInt8, beqBytes s s = true := by
      intro s
      induction s with
      | nil => rfl
      | cons b s ih => simp [beqBytes, bq, ih]
    simp [cV, AV.beq, AV.beqs, hb, bq]
  have e74 : (okRow 5 5 0 (cZf x (is r) k n).length (cZf x (is r) k n) && okRow 5 5 0 (cW x (is r) n).length ((cW x (is r) n).map toLeaf) && AV.beqs (cZf x (is r) k n) ((cW x (is r) n).map toLeaf)) = true := by
    rw [hW, is_leaf, is_len, hZf, lv_len, okRow_lv rfl (by simp) (by simp; omega), beqs_refl]; rfl
  exact says (pf1 m) (law_in m x (is r) k n y z z') ⟨⟨⟨⟨⟨⟨⟨⟨⟨⟨⟨⟨⟨⟨⟨⟨⟨⟨⟨⟨⟨⟨⟨⟨⟨⟨⟨⟨⟨⟨⟨⟨⟨⟨⟨⟨⟨⟨⟨⟨⟨⟨⟨⟨⟨⟨⟨⟨⟨⟨⟨⟨⟨⟨⟨⟨trivial, e0⟩, e1⟩, e2⟩, e4⟩, e2⟩, e2⟩, e2⟩, e8⟩, e8⟩, e8⟩, e11⟩, e12⟩, e13⟩, e15⟩, e15⟩, e15⟩, e19⟩, e20⟩, e21⟩, e22⟩, e24⟩, e25⟩, e26⟩, e27⟩, e27⟩, e11⟩, e12⟩, e13⟩, e15⟩, e15⟩, e15⟩, e19⟩, e20⟩, e40⟩, e11⟩, e44⟩, e45⟩, e47⟩, e11⟩, e50⟩, e13⟩, e53⟩, e57⟩, e59⟩, e60⟩, e61⟩, e61⟩, e11⟩, e64⟩, e66⟩, e67⟩, e70⟩, e72⟩, e73⟩, e74⟩, rfl⟩

theorem law_runs (m : Int) (l : List Int) (a n : Int) : ∃ σ', CallRuns P (cfgOf m ext0) 3 [.lst (is l) none, .int .i64 a, .int .i64 n] none0 (.ret (.bool true) σ') := by
  cases l with
  | nil =>
    show ∃ σ', CallRuns P (cfgOf m ext0) 3 [.lst [] none, .int .i64 a, .int .i64 n] none0 (.ret (.bool true) σ')
    by_cases ha : a < 0
    · have h1 : ltI a 0 = true := by rw [ltI_eq]; simp [ha]
      exact says (pfC m) (law_eneg m a n) ⟨⟨⟨trivial, h1⟩, h1⟩, rfl⟩
    · have h1 : ltI a 0 = false := by rw [ltI_eq]; simp [ha]
      have h2 : (!(ltI a ((0 : Nat) : Int))) = true := by rw [ltI_eq]; simp; omega
      exact says (pfC m) (law_ehi m a n) ⟨⟨⟨⟨⟨trivial, h1⟩, h2⟩, h1⟩, h2⟩, rfl⟩
  | cons x r =>
    show ∃ σ', CallRuns P (cfgOf m ext0) 3 [.lst (.int .i64 x :: is r) none, .int .i64 a, .int .i64 n] none0 (.ret (.bool true) σ')
    by_cases hl : (x :: r).length ≤ 65536
    · have hX : (cX x (is r)).length = (x :: r).length := by simp [cX, is_len]
      have hZ : (cZ0 x (is r)).length = (x :: r).length := by rw [z0_eq, lv_len]
      by_cases ha : a < 0
      · have h1 : ltI a 0 = true := by rw [ltI_eq]; simp [ha]
        exact says (pf1 m) (law_neg m x (is r) a n) ⟨⟨⟨⟨⟨⟨⟨⟨⟨⟨⟨⟨⟨trivial, c0_ok x r hl⟩, c1_ok x r hl⟩, c2_ok x r hl⟩, c4_ok x r hl⟩, c2_ok x r hl⟩, c2_ok x r hl⟩, c2_ok x r hl⟩, c8_ok x r hl⟩, c8_ok x r hl⟩, c8_ok x r hl⟩, h1⟩, h1⟩, rfl⟩
      · have h1 : ltI a 0 = false := by rw [ltI_eq]; simp [ha]
        by_cases hb : a < (((x :: r).length : Nat) : Int)
        · exact law_in_runs m x r a n hl ha hb
        · have h2 : (!(ltI a (((x :: r).length : Nat) : Int))) = true := by rw [ltI_eq]; simp only [Bool.not_eq_true', decide_eq_false_iff_not]; exact hb
          exact says (pf1 m) (law_hi m x (is r) a n) ⟨⟨⟨⟨⟨⟨⟨⟨⟨⟨⟨⟨⟨⟨⟨trivial, c0_ok x r hl⟩, c1_ok x r hl⟩, c2_ok x r hl⟩, c4_ok x r hl⟩, c2_ok x r hl⟩, c2_ok x r hl⟩, c2_ok x r hl⟩, c8_ok x r hl⟩, c8_ok x r hl⟩, c8_ok x r hl⟩, h1⟩, by rw [hZ]; exact h2⟩, h1⟩, by rw [hX]; exact h2⟩, rfl⟩
    · refine says (pfC m) (law_big m x (is r) a n) ⟨⟨trivial, ?_⟩, rfl⟩
      have : (cX x (is r)).length = (x :: r).length := by simp [cX, is_len]
      rw [this, ltI_eq]; simp at hl ⊢; omega
end Go.Proofs.Ec
