/-
MiniNames: the plain law.
MiniNames: the law's own function.
-/
import Derived.Test.YtcphlgkfboafoaaGreatDoorM7
import Derived.Test.YtcphlgkfboafoaaGreatDoorM1
set_option linter.unusedVariables false
set_option linter.unusedSimpArgs false
namespace Go.Proofs.Mn
open Go Go.Am

/-- Does a text stand in another, by looking at every place? -/
def hasR (t : List UInt8) : List UInt8 → Bool
  | [] => preB t []
  | a :: s => preB t (a :: s) || hasR t s
theorem idx_has (t : List UInt8) : ∀ (s : List UInt8) (i : Nat), (!ltI (idxB t i s) 0) = hasR t s
  | [], i => by
    simp only [idxB, hasR]
    cases preB t []
    · rfl
    · simp only [cond_true, ltI_eq]
      simp
  | a :: s, i => by
    simp only [idxB, hasR]
    cases preB t (a :: s)
    · simp only [cond_false, Bool.false_or]
      exact idx_has t s _
    · simp only [cond_true, ltI_eq, Bool.true_or]
      simp
theorem hasB_eq (s t : List UInt8) : hasB s t = hasR t s := idx_has t s 0

def no32 (s : List UInt8) : Prop := ∀ b ∈ s, b ≠ 32
theorem no32_cons {a : UInt8} {s : List UInt8} (h : no32 (a :: s)) : a ≠ 32 ∧ no32 s := ⟨h a List.mem_cons_self, fun b hb => h b (List.mem_cons_of_mem _ hb)⟩
theorem beq_no {a b : UInt8} (h : a ≠ b) : Nat.beq a.toNat b.toNat = false := by
  cases hb : Nat.beq a.toNat b.toNat with
  | false => rfl
  | true => exact absurd (UInt8.toNat_inj.1 (Nat.eq_of_beq_eq_true hb)) h
theorem pre_word : ∀ (s w x : List UInt8), no32 s → no32 w → preB (s ++ [32]) (w ++ 32 :: x) = beqBytes w s
  | [], [], x, _, _ => by simp [preB, beqBytes, Nat.beq_refl]
  | [], c :: w, x, _, hw => by
    have h : Nat.beq (32 : UInt8).toNat c.toNat = false := beq_no fun e => (no32_cons hw).1 e.symm
    simp only [List.nil_append, List.cons_append, preB, beqBytes, h, cond_false]
  | a :: s, [], x, hs, _ => by
    have h : Nat.beq a.toNat (32 : UInt8).toNat = false := beq_no (no32_cons hs).1
    simp only [List.nil_append, List.cons_append, preB, beqBytes, h, cond_false]
  | a :: s, c :: w, x, hs, hw => by
    simp only [List.cons_append, preB, beqBytes, pre_word s w x (no32_cons hs).2 (no32_cons hw).2]
    by_cases h : a = c
    · subst h; rfl
    · rw [beq_no h, beq_no fun e => h e.symm]
theorem pre_nil (s : List UInt8) (a : UInt8) : preB (s ++ [a]) [] = false := by cases s <;> rfl
theorem has_skip (t : List UInt8) (x : List UInt8) : ∀ w : List UInt8, no32 w → hasR (32 :: t) (w ++ x) = hasR (32 :: t) x
  | [], _ => rfl
  | c :: w, h => by
    have h1 : Nat.beq (32 : UInt8).toNat c.toNat = false := beq_no fun e => (no32_cons h).1 e.symm
    simp only [List.cons_append, hasR, preB, h1, cond_false, Bool.false_or]
    exact has_skip t x w (no32_cons h).2
def cat : List (List UInt8) → List UInt8
  | [] => []
  | w :: r => w ++ 32 :: cat r
theorem has_word (s : List UInt8) (hs : no32 s) : ∀ ws : List (List UInt8), (∀ w ∈ ws, no32 w) → hasR (32 :: (s ++ [32])) (32 :: cat ws) = ws.any (fun w => beqBytes w s)
  | [], _ => by simp only [cat, hasR, preB, Nat.beq_refl, cond_true, pre_nil]; rfl
  | w :: r, h => by
    have hw := h w List.mem_cons_self
    have ih := has_word s hs r (fun v hv => h v (List.mem_cons_of_mem _ hv))
    simp only [cat, List.any_cons, ← ih]
    rw [hasR]
    rw [has_skip _ _ w hw]
    simp only [preB, Nat.beq_refl, cond_true, pre_word s w _ hs hw]
def words0 : List (List UInt8) := words.take 32
theorem key_cat : keyText = 32 :: cat words0 := by kernel_rfl
theorem words_cat : words = words0 ++ [[95]] := by kernel_rfl
theorem words_no : ∀ w ∈ words0, no32 w := by
  have h : words0.all (fun w => w.all fun b => b != 32) = true := by rfl
  intro w hw b hb
  simp only [List.all_eq_true] at h
  simpa using h w hw b hb

theorem letter32 : letterB ((32 : UInt8).toNat : Int) = false := by rfl
theorem digit32 : digitB ((32 : UInt8).toNat : Int) = false := by rfl
def okB (b : UInt8) : Bool := letterB (b.toNat : Int) || digitB (b.toNat : Int)
theorem allB_eq : ∀ s : List UInt8, allB s = s.all okB
  | [] => rfl
  | b :: s => by
    have ih := allB_eq s
    unfold allB at ih ⊢
    simp only [List.map_cons, all2, List.all_cons, ih]
    rfl
theorem all_no32 {s : List UInt8} (h : s.all okB = true) : no32 s := by
  intro b hb e
  subst e
  have := List.all_eq_true.1 h _ hb
  rw [okB, letter32, digit32] at this
  cases this
theorem wgo_le : ∀ (f : Bool) (s : List UInt8), wgo f s ≤ s.length
  | _, [] => Nat.le_refl _
  | f, b :: r => by
    simp only [wgo]
    have := wgo_le false r
    cases letterB (b.toNat : Int) || (!f && digitB (b.toNat : Int)) <;> simp <;> omega
theorem wgo_all : ∀ s : List UInt8, (wgo false s = s.length) ↔ s.all okB = true
  | [] => by simp [wgo]
  | b :: r => by
    have ih := wgo_all r
    simp only [wgo, Bool.not_false, Bool.true_and, List.all_cons, okB]
    cases letterB (b.toNat : Int) || digitB (b.toNat : Int)
    · simp
    · simp only [cond_true, List.length_cons, Bool.true_and]
      rw [← ih]
      omega
theorem hasR_32 : ∀ s : List UInt8, no32 s → hasR [32] s = false
  | [], _ => rfl
  | a :: s, h => by
    have h1 : Nat.beq (32 : UInt8).toNat a.toNat = false := beq_no fun e => (no32_cons h).1 e.symm
    simp only [hasR, preB, h1, cond_false, Bool.false_or]
    exact hasR_32 s (no32_cons h).2
theorem beq_comm : ∀ s t : List UInt8, beqBytes s t = beqBytes t s
  | [], [] => rfl
  | [], _ :: _ => rfl
  | _ :: _, [] => rfl
  | a :: s, b :: t => by
    simp only [beqBytes, beq_comm s t]
    by_cases h : a = b
    · subst h; rfl
    · rw [beq_no h, beq_no fun e => h e.symm]
theorem name_eq (s : List UInt8) : nameM s = nameR s := by
  cases s with
  | nil => rfl
  | cons b r =>
    have e0 : beqBytes (b :: r) [] = false := rfl
    have e1 : ltI ((b :: r).length : Int) 1 = false := by rw [ltI_eq]; simp; omega
    have e2 : bt 0 (b :: r) = (b.toNat : Int) := rfl
    unfold nameM nameR
    rw [e0, e1, e2, allB_eq]
    simp only [Bool.not_false, Bool.true_and]
    cases ltI 64 ((b :: r).length : Int)
    · simp only [Bool.not_false, Bool.true_and]
      have hw : eqI (wordyN (b :: r)) ((b :: r).length : Int) = (letterB (b.toNat : Int) && r.all okB) := by
        simp only [eqI_eq, wordyN, wgo, Bool.not_true, Bool.false_and, Bool.or_false]
        have h1 := wgo_all r
        cases letterB (b.toNat : Int)
        · simp
          omega
        · simp only [cond_true, Bool.true_and, List.length_cons]
          cases hr : r.all okB
          · have : ¬ wgo false r = r.length := by rw [h1, hr]; simp
            simp
            omega
          · have : wgo false r = r.length := h1.2 hr
            simp [this]
      rw [hw]
      simp only [List.all_cons]
      cases hl : letterB (b.toNat : Int)
      · simp
      · have hob : okB b = true := by simp [okB, hl]
        rw [hob]
        cases hr : r.all okB
        · simp
        · simp only [Bool.true_and, Bool.and_true]
          have hn : no32 (b :: r) := all_no32 (by simp [hob, hr])
          unfold keyB
          rw [e0, hasB_eq, hasB_eq, hasR_32 _ hn, key_cat]
          have h2 : ([32] ++ (b :: r)) ++ [32] = 32 :: ((b :: r) ++ [32]) := rfl
          rw [h2, has_word _ hn words0 words_no]
          unfold keyR
          rw [words_cat, List.any_append, beq_comm (b :: r) [95]]
          simp only [List.any_cons, List.any_nil, Bool.or_false, Bool.not_false, Bool.true_and, Bool.and_true]
          cases beqBytes [95] (b :: r) <;> cases words0.any (fun w => beqBytes w (b :: r)) <;> rfl
    · simp

theorem two_of {s : List UInt8} (h1 : preL s = true) (h2 : preR s = false) : s = [91, 93] := by
  have hl := preL_len h1
  simp only [preL, Bool.and_eq_true] at h1
  simp only [preR, h1.2, Bool.and_true, ltI_eq] at h2
  simp at h2
  have := bytes_eq h1.2
  have h3 : s.length = 2 := by omega
  rw [List.drop_zero, List.take_of_length_le (by omega)] at this
  exact this
theorem preR_preL {s : List UInt8} (h : preR s = true) : preL s = true := by
  have hl := preR_len h
  simp only [preR, Bool.and_eq_true] at h
  simp only [preL, h.2, Bool.and_true, ltI_eq]
  simp
  omega
theorem stripM_nil : stripM [] = [] := by rw [stripM, dif_neg (by decide)]
theorem typeM_nil : typeM [] = false := by
  unfold typeM
  rw [stripM_nil]
  rfl
theorem type_eq : ∀ (n : Nat) (s : List UInt8), s.length ≤ n → typeM s = typeR s := by
  intro n
  induction n with
  | zero =>
    intro s hs
    have : s = [] := List.eq_nil_of_length_eq_zero (by omega)
    subst this
    unfold typeM typeR
    rw [stripM_nil, stripR, dif_neg (by decide)]
    rfl
  | succ n ih =>
    intro s hs
    cases hr : preR s with
    | true =>
      have hl := preR_preL hr
      have h3 := preR_len hr
      unfold typeM typeR
      rw [stripM, dif_pos hl, stripR, dif_pos hr]
      exact ih (s.drop 2) (by simp; omega)
    | false =>
      cases hl : preL s with
      | true =>
        obtain rfl := two_of hl hr
        unfold typeM typeR
        rw [stripM, dif_pos hl, stripR, dif_neg (by rw [hr]; simp)]
        show typeB nameM (stripM []) = _
        rw [stripM_nil]
        rfl
      | false =>
        unfold typeM typeR
        rw [stripM, dif_neg (by rw [hl]; simp), stripR, dif_neg (by rw [hr]; simp)]
        unfold typeB
        rw [name_eq]
theorem elem_eq (s : List UInt8) : elemM s = elemR s := by
  unfold elemM elemR
  cases hr : preR s with
  | true => rw [preR_preL hr, type_eq _ _ (Nat.le_refl _)]
  | false =>
    cases hl : preL s with
    | true =>
      obtain rfl := two_of hl hr
      show (true && typeM []) = _
      rw [typeM_nil]
      rfl
    | false => rfl

theorem all2_self {f : AV → AV → Bool} : ∀ {l : List AV}, (∀ x ∈ l, f x x = true) → all2 f l l = true
  | [], _ => rfl
  | x :: l, h => by simp only [all2, h x List.mem_cons_self, all2_self (fun y hy => h y (List.mem_cons_of_mem _ hy)), Bool.and_self]
theorem smL_self {p : AV → Bool} {f : AV → AV → Bool} (hf : ∀ x, p x = true → f x x = true) {x : AV} (h : okL p x = true) : smL f x x = true := by
  obtain ⟨l, rfl, _, h⟩ := okL_ok h
  exact all2_self fun y hy => hf y (h y hy)
theorem eqI_self (n : Int) : eqI n n = true := by rw [eqI_eq]; simp
theorem str_self (x : AV) (h : isStr x = true) : strEq x x = true := by obtain ⟨s, rfl⟩ := isStr_sh h; exact bytes_self s
theorem int_self (x : AV) (h : isInt x = true) : intEq x x = true := by obtain ⟨n, rfl⟩ := isInt_sh h; exact eqI_self n
theorem fld_self (x : AV) (h : isFld x = true) : fldEq x x = true := by obtain ⟨s, t, rfl⟩ := isFld_sh h; simp only [fldEq, bytes_self, Bool.and_self]
theorem smX_self : ∀ (n : Nat) (x : AV), okX n x = true → smX n x x = true
  | 0, x, h => by unfold okX at h; cases h
  | n + 1, x, h => by
    obtain ⟨ak, ai, at_, an, ay, ao, ans, aks, aat, rfl, h1, h2⟩ := okX_ok h
    simp only [smX, eqI_self, bytes_self, smL_self str_self h1, smL_self (smX_self n) h2, Bool.and_self]
theorem smC_self {p : AV → Bool} {f : AV → AV → Bool} (hf : ∀ x, p x = true → f x x = true) (x : AV) (h : okC p x = true) : smC f x x = true := by
  obtain ⟨a, b, rfl, h1, h2⟩ := okC_ok h
  simp only [smC, smL_self int_self h1, smL_self hf h2, Bool.and_self]
theorem smS_self : ∀ (n : Nat) (x : AV), okS n x = true → smS n x x = true
  | 0, x, h => by unfold okS at h; cases h
  | n + 1, x, h => by
    obtain ⟨ak, an, ay, al0, al1, al2, al3, al4, al5, al6, al7, al8, ae0, ae1, ae2, ae3, ae4, ae5, ae6, ae7, ae8, ab, as_, ah, ac, aat, rfl, h1, h2, h3, h4, h5⟩ := okS_ok h
    simp only [smS, eqI_self, bytes_self, smX_self n _ h1, smX_self n _ h2, smL_self (smS_self n) h3, smL_self (smS_self n) h4, smL_self (smC_self (smS_self n)) h5, Bool.and_self, BEq.rfl]
theorem smD_self {p : AV → Bool} {f : AV → AV → Bool} (hf : ∀ x, p x = true → f x x = true) (x : AV) (h : okD p x = true) : smD f x x = true := by
  obtain ⟨an, a, rfl, h1⟩ := okD_ok h
  simp only [smD, bytes_self, smL_self hf h1, Bool.and_self]
theorem smF_self {p : AV → Bool} {f : AV → AV → Bool} (hf : ∀ x, p x = true → f x x = true) (x : AV) (h : okF p x = true) : smF f x x = true := by
  obtain ⟨an, ap, ar, ab, aat, rfl, h1, h2⟩ := okF_ok h
  simp only [smF, bytes_self, smL_self fld_self h1, smL_self hf h2, Bool.and_self]
theorem smP_self (n : Nat) (x : AV) (h : okP (okS n) x = true) : smP (smS n) x x = true := by
  obtain ⟨an, a1, a2, a3, rfl, h1, h2, h3⟩ := okP_ok h
  simp only [smP, bytes_self, smL_self (smD_self fld_self) h1, smL_self (smD_self int_self) h2, smL_self (smF_self (smS_self n)) h3, Bool.and_self]
end Go.Proofs.Mn

set_option linter.unusedVariables false
set_option linter.unusedSimpArgs false
namespace Go.Proofs.Mn
open Go Go.Am

def okTwo (p : AV → AV → Bool) : List AV → Bool
  | [x, y] => p x y
  | _ => false
def fTwo (f : AV → AV → Bool) : List AV → AV
  | [x, y] => .bool (f x y)
  | _ => .undef
def okAt (p : AV → AV → Bool) : List AV → Bool
  | [x, y, .bool b] => cond b false (p x y)
  | _ => false
def fAt (f : AV → AV → Bool) : List AV → AV
  | [x, y, .bool _] => .bool (f x y)
  | _ => .undef
def ok0 : List AV → Bool
  | [] => true
  | _ => false
def f0 : List AV → AV := fun _ => .bool true
theorem hm6 (m : Int) (n : Nat) : HoldsG m ⟨6, okTwo (both (okP (okS n))), fTwo (smP (smS n))⟩ := by
  intro args hok σ
  change okTwo (both (okP (okS n))) args = true at hok
  unfold okTwo at hok
  split at hok
  · exact h6 m n _ _ hok σ
  · cases hok
theorem hm7 (m : Int) (n : Nat) : HoldsG m ⟨7, okAt (both (okP (okS n))), fAt (smP (smS n))⟩ := by
  intro args hok σ
  change okAt (both (okP (okS n))) args = true at hok
  unfold okAt at hok
  split at hok
  · rename_i x y b
    cases b with
    | true => cases hok
    | false => exact h7 m n _ _ hok σ
  · cases hok
theorem hm12 (m : Int) : HoldsG m ⟨12, ok0, f0⟩ := by
  intro args hok σ
  change ok0 args = true at hok
  unfold ok0 at hok
  split at hok
  · have h : (@Bool.rec (fun _ => Prop) False True (ecall P (cfgOf m ext0) (force false) 3000 12 [] none0 testT)) = True := awake_run m
    generalize hb : ecall P (cfgOf m ext0) (force false) 3000 12 [] none0 testT = b at h
    cases b with
    | false => exact (h.mpr trivial).elim
    | true =>
      obtain ⟨cr, h1, h2⟩ := closed_runs (pf0 m) (mode0 m _) hb
      cases cr with
      | panic => cases h2
      | ret v σ' =>
        have hv : v = .bool true := AV.beq_eq _ _ h2
        subst hv
        exact CallRuns.pure (fu := 0) (globC m _) h1 rfl rfl σ
  · cases hok
theorem nameF : nameM = nameR := funext name_eq
theorem typeF : typeM = typeR := funext fun s => type_eq _ _ (Nat.le_refl _)
theorem elemF : elemM = elemR := funext elem_eq
theorem run3 (m : Int) (o1 g1 : AV → AV → Bool) (o2 n t e : List UInt8 → Bool) (an bn s : List UInt8) (a1 a2 a3 b1 b2 b3 v : AV) : ((ecall P (cfgOf m (extG [⟨6, okTwo o1, fTwo g1⟩, ⟨7, okAt o1, fAt g1⟩, ⟨8, okS1 o2, fS1 n⟩, ⟨9, okS1 o2, fS1 n⟩, ⟨10, okS1 o2, fS1 t⟩, ⟨11, okS1 o2, fS1 t⟩, ⟨4, okS1 o2, fE e⟩, ⟨5, okS1 o2, fE e⟩, ⟨12, ok0, f0⟩])) forceT 20 3 [(.agg [.str an, a1, a2, a3]), (.agg [.str bn, b1, b2, b3]), .str s] none0 (endC (retIs v))).run [] True) =
    (bif o2 s then (bif o2 s then (bif o1 (.agg [.str an, a1, a2, a3]) (.agg [.str bn, b1, b2, b3]) then (bif g1 (.agg [.str an, a1, a2, a3]) (.agg [.str bn, b1, b2, b3]) then (bif (AV.beq (.agg [.str an, a1, a2, a3]) (.agg [.str an, a1, a2, a3]) && sameNew none none) then (bif (AV.beq (.agg [.str bn, b1, b2, b3]) (.agg [.str bn, b1, b2, b3]) && sameNew none none) then (bif o1 (.agg [.str an, a1, a2, a3]) (.agg [.str bn, b1, b2, b3]) then (bif g1 (.agg [.str an, a1, a2, a3]) (.agg [.str bn, b1, b2, b3]) then (bif o1 (.agg [.str an, a1, a2, a3]) (.agg [.str an, a1, a2, a3]) then (bif g1 (.agg [.str an, a1, a2, a3]) (.agg [.str an, a1, a2, a3]) then (bif o2 s then (bif n s then (bif o2 s then (bif n s then (bif o2 s then (bif t s then (bif o2 s then (bif t s then (bif beqBytes (bif e s then List.drop 2 s else []) (bif e s then List.drop 2 s else []) then (bif (e s == e s) then (True ∧ AV.bool true = v) else (True ∧ AV.bool false = v)) else (True ∧ AV.bool false = v)) else (True ∧ AV.bool false = v)) else False) else (bif o2 s then (bif t s then (True ∧ AV.bool false = v) else (bif beqBytes (bif e s then List.drop 2 s else []) (bif e s then List.drop 2 s else []) then (bif (e s == e s) then (True ∧ AV.bool true = v) else (True ∧ AV.bool false = v)) else (True ∧ AV.bool false = v))) else False)) else False) else (True ∧ AV.bool false = v)) else False) else (bif o2 s then (bif n s then (True ∧ AV.bool false = v) else (bif o2 s then (bif t s then (bif o2 s then (bif t s then (bif beqBytes (bif e s then List.drop 2 s else []) (bif e s then List.drop 2 s else []) then (bif (e s == e s) then (True ∧ AV.bool true = v) else (True ∧ AV.bool false = v)) else (True ∧ AV.bool false = v)) else (True ∧ AV.bool false = v)) else False) else (bif o2 s then (bif t s then (True ∧ AV.bool false = v) else (bif beqBytes (bif e s then List.drop 2 s else []) (bif e s then List.drop 2 s else []) then (bif (e s == e s) then (True ∧ AV.bool true = v) else (True ∧ AV.bool false = v)) else (True ∧ AV.bool false = v))) else False)) else False)) else False)) else False) else (True ∧ AV.bool false = v)) else False) else (True ∧ AV.bool false = v)) else False) else False) else False) else (bif (AV.beq (.agg [.str an, a1, a2, a3]) (.agg [.str an, a1, a2, a3]) && sameNew none none) then (bif (AV.beq (.agg [.str bn, b1, b2, b3]) (.agg [.str bn, b1, b2, b3]) && sameNew none none) then (bif o1 (.agg [.str an, a1, a2, a3]) (.agg [.str bn, b1, b2, b3]) then (bif g1 (.agg [.str an, a1, a2, a3]) (.agg [.str bn, b1, b2, b3]) then (True ∧ AV.bool false = v) else (bif o1 (.agg [.str an, a1, a2, a3]) (.agg [.str an, a1, a2, a3]) then (bif g1 (.agg [.str an, a1, a2, a3]) (.agg [.str an, a1, a2, a3]) then (bif o2 s then (bif n s then (bif o2 s then (bif n s then (bif o2 s then (bif t s then (bif o2 s then (bif t s then (bif beqBytes (bif e s then List.drop 2 s else []) (bif e s then List.drop 2 s else []) then (bif (e s == e s) then (True ∧ AV.bool true = v) else (True ∧ AV.bool false = v)) else (True ∧ AV.bool false = v)) else (True ∧ AV.bool false = v)) else False) else (bif o2 s then (bif t s then (True ∧ AV.bool false = v) else (bif beqBytes (bif e s then List.drop 2 s else []) (bif e s then List.drop 2 s else []) then (bif (e s == e s) then (True ∧ AV.bool true = v) else (True ∧ AV.bool false = v)) else (True ∧ AV.bool false = v))) else False)) else False) else (True ∧ AV.bool false = v)) else False) else (bif o2 s then (bif n s then (True ∧ AV.bool false = v) else (bif o2 s then (bif t s then (bif o2 s then (bif t s then (bif beqBytes (bif e s then List.drop 2 s else []) (bif e s then List.drop 2 s else []) then (bif (e s == e s) then (True ∧ AV.bool true = v) else (True ∧ AV.bool false = v)) else (True ∧ AV.bool false = v)) else (True ∧ AV.bool false = v)) else False) else (bif o2 s then (bif t s then (True ∧ AV.bool false = v) else (bif beqBytes (bif e s then List.drop 2 s else []) (bif e s then List.drop 2 s else []) then (bif (e s == e s) then (True ∧ AV.bool true = v) else (True ∧ AV.bool false = v)) else (True ∧ AV.bool false = v))) else False)) else False)) else False)) else False) else (True ∧ AV.bool false = v)) else False)) else False) else False) else False)) else False) else False) else False) := by kernel_rfl
theorem law_runs (m : Int) (k : Nat) (p q : AV) (s : List UInt8) (hp : okP (okS k) p = true) (hq : okP (okS k) q = true) (σ : ASt) : CallRuns P (cfgOf m ext0) 3 [p, q, .str s] σ (.ret (.bool true) σ) := by
  have pf : PF P (cfgOf m (extG [⟨6, okTwo (both (okP (okS k))), fTwo (smP (smS k))⟩, ⟨7, okAt (both (okP (okS k))), fAt (smP (smS k))⟩, ⟨8, okS1 (fun _ => true), fS1 nameR⟩, ⟨9, okS1 (fun _ => true), fS1 nameR⟩, ⟨10, okS1 (fun _ => true), fS1 typeR⟩, ⟨11, okS1 (fun _ => true), fS1 typeR⟩, ⟨4, okS1 (fun _ => true), fE elemR⟩, ⟨5, okS1 (fun _ => true), fE elemR⟩, ⟨12, ok0, f0⟩])) := pf_G fun c hc => by
    simp only [List.mem_cons, List.mem_nil_iff, or_false] at hc
    rcases hc with rfl | rfl | rfl | rfl | rfl | rfl | rfl | rfl | rfl
    · exact hm6 m k
    · exact hm7 m k
    · have h := hg8 m
      unfold g8 at h
      rwa [nameF] at h
    · exact hg9 m
    · have h := hg10 m
      unfold g10 at h
      rwa [typeF] at h
    · exact hg11 m
    · have h := hg4 m
      unfold g4 at h
      rwa [elemF] at h
    · exact hg5 m
    · exact hm12 m
  have hcp := okP_closed (okS_closed k) p hp
  have hcq := okP_closed (okS_closed k) q hq
  have e1 : both (okP (okS k)) p q = true := by simp [both, hp, hq]
  have e2 : both (okP (okS k)) p p = true := by simp [both, hp]
  have e3 := smP_self k p hp
  obtain ⟨an, a1, a2, a3, rfl, i1, i2, i3⟩ := okP_ok hp
  obtain ⟨bn, b1, b2, b3, rfl, j1, j2, j3⟩ := okP_ok hq
  have h : ∃ σ', CallRuns P (cfgOf m (extG [⟨6, okTwo (both (okP (okS k))), fTwo (smP (smS k))⟩, ⟨7, okAt (both (okP (okS k))), fAt (smP (smS k))⟩, ⟨8, okS1 (fun _ => true), fS1 nameR⟩, ⟨9, okS1 (fun _ => true), fS1 nameR⟩, ⟨10, okS1 (fun _ => true), fS1 typeR⟩, ⟨11, okS1 (fun _ => true), fS1 typeR⟩, ⟨4, okS1 (fun _ => true), fE elemR⟩, ⟨5, okS1 (fun _ => true), fE elemR⟩, ⟨12, ok0, f0⟩])) 3 [(.agg [.str an, a1, a2, a3]), (.agg [.str bn, b1, b2, b3]), .str s] none0 (.ret (.bool true) σ') := by
    refine runs_of pf (run3 m (both (okP (okS k))) (smP (smS k)) (fun _ => true) nameR typeR elemR an bn s a1 a2 a3 b1 b2 b3 _) ?_
    rw [e1, e2, e3, chk_self, chk_self, bytes_self, show (elemR s == elemR s) = true by simp]
    cases smP (smS k) (.agg [.str an, a1, a2, a3]) (.agg [.str bn, b1, b2, b3]) <;> cases nameR s <;> cases typeR s <;> exact ⟨trivial, rfl⟩
  obtain ⟨σ', h⟩ := h
  exact under (CallRuns.pure (fu := 0) (globC m _) h (by simp only [closedV.closedVs, hcp, hcq]; rfl) rfl σ)
end Go.Proofs.Mn
