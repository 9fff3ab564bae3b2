/-
EvalCopies: the contracts at actual arguments.
-/
import Derived.Test.YtphihegaandnhaaGreatE3
set_option linter.unusedVariables false
set_option linter.unusedSimpArgs false
namespace Go.Proofs.Ec
open Go Go.Am

def isLeaf : AV → Bool
  | .agg [.int .i64 k, .int .i64 _, .str s, .str t, .nils] => decide (k = 1) && s.isEmpty && t.isEmpty
  | _ => false
def isInt : AV → Bool
  | .int .i64 _ => true
  | _ => false
def toLeaf : AV → AV
  | .int _ n => leaf n
  | _ => .undef
/-- A slice that is the whole of its row. -/
def okRow (k k' lo n : Nat) (xs : List AV) : Bool := Nat.beq k 5 && Nat.beq k' 5 && Nat.beq lo 0 && Nat.beq n xs.length && xs.all isLeaf && Nat.blt 0 n && Nat.blt n 1048576
def okInts (xs : List AV) : Bool := xs.all isInt && Nat.blt 0 xs.length && Nat.blt xs.length 1048576
/-- The row that a slice is the whole of. -/
def rowOf (σ : ASt) (ks : AV) : Option (Bool × List AV) :=
  match ks with
  | .sl k id lo n => match σ.get id with
    | some (.row k' xs) => some (okRow k k' lo n xs, xs)
    | _ => none
  | _ => none
def extCount : List AV → ASt → Option (Bool × AV × List Blk) := fun args σ => match args with
  | [.agg [.int .i64 _, .int .i64 _, .str _, .str _, ks], .int .i64 n0] => cond (decide (n0 = 0)) (match rowOf σ ks with
    | some (b, xs) => some (b, .int .i64 ((xs.length + 1 : Nat) : Int), [])
    | none => none) none
  | _ => none
/-- Is it a list of ints, bare? -/
def isL (kd z : Int) (s ty : List UInt8) : Bool := decide (kd = 4) && decide (z = 0) && s.isEmpty && beqBytes ty tyL
def extFits : List AV → ASt → Option (Bool × AV × List Blk) := fun args σ => match args with
  | [.agg [a, b, c, d], .agg [.int .i64 kd, .int .i64 z, .str s, .str ty, ks], .str t] => cond (closedV.closedVs [a, b, c, d] && isL kd z s ty && beqBytes t tyL) (match rowOf σ ks with
    | some (b', xs) => some (b', .bool true, [])
    | none => none) none
  | _ => none
def extCopied : List AV → ASt → Option (Bool × AV × List Blk) := fun args σ => match args with
  | [.agg [.int .i64 kd, .int .i64 i, .str s, .str ty, ks]] => match rowOf σ ks with
    | some (b, xs) => some (b, .agg [.int .i64 kd, .int .i64 i, .str s, .str ty, .sl 5 σ.next 0 xs.length], [.row 5 xs])
    | none => none
  | _ => none
def extSame : List AV → ASt → Option (Bool × AV × List Blk) := fun args σ => match args with
  | [.agg [.int .i64 kd, .int .i64 z, .str s, .str ty, ks], .agg [.int .i64 kd', .int .i64 z', .str s', .str ty', ks']] => cond (isL kd z s ty && isL kd' z' s' ty') (match rowOf σ ks with
    | some (b, xs) => match rowOf σ ks' with
      | some (b', xs') => some (b && b' && AV.beqs xs xs', .bool true, [])
      | none => none
    | none => none) none
  | _ => none
def extInts : List AV → ASt → Option (Bool × AV × List Blk) := fun args σ => match args with
  | [.lst xs _] => some (okInts xs, .agg [.int .i64 4, .int .i64 0, .str [], .str tyL, .sl 5 σ.next 0 xs.length], [.row 5 (xs.map toLeaf)])
  | _ => none
def extRight : List AV → ASt → Option (Bool × AV × List Blk) := fun args σ => match args with
  | [p] => cond (p.beq pr0) (some (true, .bool true, [])) none
  | _ => none
def extAwake : List AV → ASt → Option (Bool × AV × List Blk) := fun args σ => match args with
  | [] => some (true, .bool true, [])
  | _ => none
/-- The library, what is read, and the closed calls. -/
noncomputable def extC : ExtF := fun f => cond (Nat.beq f 131) extIdx (cond (Nat.beq f 157) extByte (cond (Nat.beq f 4) extParse (cond (Nat.beq f 10) extRight (cond (Nat.beq f 5) extAwake noExt))))
noncomputable def ext1 : ExtF := fun f => cond (Nat.beq f 73) extCount (cond (Nat.beq f 46) extFits (cond (Nat.beq f 16) extCopied (cond (Nat.beq f 8) extSame (cond (Nat.beq f 7) extInts (extC f)))))

theorem leaf_of {x : AV} (h : isLeaf x = true) : ∃ n, x = leaf n := by
  unfold isLeaf at h
  split at h
  · rename_i k n s t
    simp only [Bool.and_eq_true, decide_eq_true_eq, List.isEmpty_iff] at h
    obtain ⟨⟨rfl, rfl⟩, rfl⟩ := h
    exact ⟨n, rfl⟩
  · cases h
theorem leaves_of : ∀ {xs : List AV}, xs.all isLeaf = true → ∃ l, xs = lv l
  | [], _ => ⟨[], rfl⟩
  | x :: xs, h => by
    simp only [List.all_cons, Bool.and_eq_true] at h
    obtain ⟨n, rfl⟩ := leaf_of h.1
    obtain ⟨l, rfl⟩ := leaves_of h.2
    exact ⟨n :: l, rfl⟩
theorem ints_of : ∀ {xs : List AV}, xs.all isInt = true → ∃ l, xs = is l ∧ xs.map toLeaf = lv l
  | [], _ => ⟨[], rfl, rfl⟩
  | x :: xs, h => by
    simp only [List.all_cons, Bool.and_eq_true] at h
    obtain ⟨l, h1, h2⟩ := ints_of h.2
    have hx := h.1
    unfold isInt at hx
    split at hx
    · rename_i n
      exact ⟨n :: l, by rw [h1]; rfl, by simp only [List.map_cons, h2]; rfl⟩
    · cases hx

def getN : AV → Int
  | .agg [_, .int _ n, _, _, _] => n
  | _ => 0
theorem getN_lv : ∀ l, (lv l).map getN = l
  | [] => rfl
  | x :: l => by
    show x :: (lv l).map getN = x :: l
    rw [getN_lv l]

theorem rowOf_spec {σ : ASt} {ks : AV} {xs : List AV} (h : rowOf σ ks = some (true, xs)) :
    ∃ id l, ks = .sl 5 id 0 l.length ∧ σ.get id = some (.row 5 (lv l)) ∧ xs = lv l ∧ 0 < l.length ∧ l.length < 1048576 := by
  unfold rowOf at h
  split at h
  rotate_left
  · cases h
  rename_i k id lo n
  split at h
  rotate_left
  · cases h
  rename_i k' xs hg
  simp only [Option.some.injEq, Prod.mk.injEq] at h
  obtain ⟨hr, rfl⟩ := h
  simp only [okRow, Bool.and_eq_true, Nat.blt_eq] at hr
  obtain ⟨⟨⟨⟨⟨⟨a1, a2⟩, a3⟩, a4⟩, a5⟩, a6⟩, a7⟩ := hr
  obtain ⟨l, rfl⟩ := leaves_of a5
  have e := Nat.eq_of_beq_eq_true a4
  rw [lv_len] at e
  rw [Nat.eq_of_beq_eq_true a1, Nat.eq_of_beq_eq_true a3, e]
  rw [Nat.eq_of_beq_eq_true a2] at hg
  exact ⟨id, l, rfl, hg, rfl, by omega, by omega⟩

theorem shut_lv (σ : ASt) (fu : Nat) : ∀ l, mapO (shut σ 0 fu) (lv l) = some (lvS l)
  | [] => rfl
  | x :: l => by
    have h := shut_lv σ fu l
    have h1 : shut σ 0 fu (leaf x) = some (leafS x) := by cases fu <;> rfl
    show (match shut σ 0 fu (leaf x), mapO (shut σ 0 fu) (lv l) with | some y, some ys => some (y :: ys) | _, _ => none) = _
    rw [h1, h]
    rfl

theorem shut_row {σ : ASt} {id : Nat} {l : List Int} (h : σ.get id = some (.row 5 (lv l))) (fu : Nat) : shutW (jump σ 0 (shut σ 0 fu)) (.sl 5 id 0 l.length) = some (.lst (lvS l) none) := by
  show jump σ 0 (shut σ 0 fu) (.sl 5 id 0 l.length) = _
  unfold jump
  simp only [Nat.not_lt_zero, if_false, h]
  rw [if_pos ⟨trivial, by rw [lv_len]; omega⟩]
  have e : (List.drop 0 (lv l)).take l.length = lv l := by rw [List.drop_zero, ← lv_len l, List.take_length]
  rw [e, shut_lv]
  rfl

theorem shut_mv {σ : ASt} {id : Nat} {l : List Int} (h : σ.get id = some (.row 5 (lv l))) (fu : Nat) (kd i : Int) (s t : List UInt8) :
    shutW (jump σ 0 (shut σ 0 fu)) (.agg [.int .i64 kd, .int .i64 i, .str s, .str t, .sl 5 id 0 l.length]) = some (mv kd i s t (.lst (lvS l) none)) := by
  have h1 := shut_row h fu
  simp only [shutW, shutWs] at h1 ⊢
  rw [h1]
  rfl

mutual
theorem shut_closed (J : AV → Option AV) : ∀ v, closedV v = true → ∃ u, shutW J v = some u ∧ closedV u = true
  | .undef, _ => ⟨_, rfl, rfl⟩
  | .bool _, _ => ⟨_, rfl, rfl⟩
  | .int .., _ => ⟨_, rfl, rfl⟩
  | .str _, _ => ⟨_, rfl, rfl⟩
  | .nilp, _ => ⟨_, rfl, rfl⟩
  | .nils, _ => ⟨_, rfl, rfl⟩
  | .nilf, _ => ⟨_, rfl, rfl⟩
  | .nilif, _ => ⟨_, rfl, rfl⟩
  | .nilm, _ => ⟨_, rfl, rfl⟩
  | .ptr .., h => by simp [closedV] at h
  | .sl .., h => by simp [closedV] at h
  | .map _, h => by simp [closedV] at h
  | .iter _, h => by simp [closedV] at h
  | .rptr x o, h => by
    obtain ⟨u, h1, h2⟩ := shut_closed J x (by simpa [closedV] using h)
    exact ⟨.rptr u o, by simp only [shutW, h1, Option.map_some], by simpa [closedV] using h2⟩
  | .lst xs t, h => by
    have hx : closedV.closedVs xs = true := by simp only [closedV, Bool.and_eq_true] at h; exact h.2
    obtain ⟨u, h1, h2⟩ := shuts_closed J xs hx
    exact ⟨.lst u none, by simp only [shutW, h1, Option.map_some], by simpa [closedV] using h2⟩
  | .agg xs, h => by
    obtain ⟨u, h1, h2⟩ := shuts_closed J xs (by simpa [closedV] using h)
    exact ⟨.agg u, by simp only [shutW, h1, Option.map_some], by simpa [closedV] using h2⟩
  | .tup xs, h => by
    obtain ⟨u, h1, h2⟩ := shuts_closed J xs (by simpa [closedV] using h)
    exact ⟨.tup u, by simp only [shutW, h1, Option.map_some], by simpa [closedV] using h2⟩
  | .func f a b, h => by
    simp only [closedV, Bool.and_eq_true] at h
    obtain ⟨u, h1, h2⟩ := shuts_closed J a h.1
    obtain ⟨v, h3, h4⟩ := shuts_closed J b h.2
    exact ⟨.func f u v, by simp only [shutW, h1, h3], by simp [closedV, h2, h4]⟩
  | .iface t v, h => by
    obtain ⟨u, h1, h2⟩ := shut_closed J v (by simpa [closedV] using h)
    exact ⟨.iface t u, by simp only [shutW, h1, Option.map_some], by simpa [closedV] using h2⟩
  | .pmap a b, h => by
    simp only [closedV, Bool.and_eq_true] at h
    obtain ⟨u, h1, h2⟩ := shuts_closed J a h.1
    obtain ⟨v, h3, h4⟩ := shuts_closed J b h.2
    exact ⟨.pmap u v, by simp only [shutW, h1, h3], by simp [closedV, h2, h4]⟩
theorem shuts_closed (J : AV → Option AV) : ∀ l, closedV.closedVs l = true → ∃ u, shutWs J l = some u ∧ closedV.closedVs u = true
  | [], _ => ⟨_, rfl, rfl⟩
  | x :: l, h => by
    simp only [closedV.closedVs, Bool.and_eq_true] at h
    obtain ⟨u, h1, h2⟩ := shut_closed J x h.1
    obtain ⟨v, h3, h4⟩ := shuts_closed J l h.2
    exact ⟨u :: v, by simp only [shutWs, h1, h3], by simp [closedV.closedVs, h2, h4]⟩
end

section
variable {m : Int} {args : List AV} {σ : ASt} {v : AV} {bs : List Blk}
theorem count_ext (h : extCount args σ = some (true, v, bs)) : CallRuns P (cfgOf m ext0) 73 args σ (.ret v (addB σ bs)) := by
  unfold extCount at h
  split at h
  rotate_left
  · cases h
  rename_i a b t ty ks n0
  cases hd : decide (n0 = 0) with
  | false => rw [hd] at h; cases h
  | true =>
  rw [hd] at h
  obtain rfl := of_decide_eq_true hd
  cases hr : rowOf σ ks with
  | none => rw [hr] at h; cases h
  | some r =>
  obtain ⟨r, xs⟩ := r
  rw [hr] at h
  simp only [cond_true, Option.some.injEq, Prod.mk.injEq] at h
  obtain ⟨rfl, rfl, rfl⟩ := h
  obtain ⟨id, l, rfl, hg, e, hp, hl⟩ := rowOf_spec hr
  obtain ⟨σ', hc⟩ := count_runs (pf0 m) a b t ty l hl
  rw [e, lv_len]
  refine CallRuns.flat (fu := 0) (globC m ext0) ?_ hc rfl
  simp only [shutWs, shut_mv hg 0]
  rfl

theorem isL_of {kd z : Int} {s ty : List UInt8} (h : isL kd z s ty = true) : kd = 4 ∧ z = 0 ∧ s = [] ∧ ty = tyL := by
  simp only [isL, Bool.and_eq_true, decide_eq_true_eq, List.isEmpty_iff] at h
  obtain ⟨⟨⟨h1, h2⟩, h3⟩, h4⟩ := h
  exact ⟨h1, h2, h3, bytes_eq _ _ h4⟩

theorem fits_ext (h : extFits args σ = some (true, v, bs)) : CallRuns P (cfgOf m ext0) 46 args σ (.ret v (addB σ bs)) := by
  unfold extFits at h
  split at h
  rotate_left
  · cases h
  rename_i a b c d kd z s ty ks t
  cases hd : (closedV.closedVs [a, b, c, d] && isL kd z s ty && beqBytes t tyL) with
  | false => rw [hd] at h; cases h
  | true =>
  rw [hd] at h
  simp only [Bool.and_eq_true] at hd
  obtain ⟨⟨hw, h2⟩, h3⟩ := hd
  obtain ⟨rfl, rfl, rfl, rfl⟩ := isL_of h2
  obtain rfl := bytes_eq _ _ h3
  cases hr : rowOf σ ks with
  | none => rw [hr] at h; cases h
  | some r =>
  obtain ⟨r, xs⟩ := r
  rw [hr] at h
  simp only [cond_true, Option.some.injEq, Prod.mk.injEq] at h
  obtain ⟨rfl, rfl, rfl⟩ := h
  obtain ⟨id, l, rfl, hg, e, hp, hl⟩ := rowOf_spec hr
  obtain ⟨u, hu1, hu2⟩ := shuts_closed (jump σ 0 (shut σ 0 0)) [a, b, c, d] hw
  have hlen := (shutWs_get hu1).1
  match u, hlen with
  | [a', b', c', d'], _ =>
    obtain ⟨σ', hc⟩ := fits_runs (pf0 m) a' b' c' d' hu2 l hl
    refine CallRuns.flat (fu := 0) (globC m ext0) ?_ hc rfl
    have hw' : shutW (jump σ 0 (shut σ 0 0)) (.agg [a, b, c, d]) = some (.agg [a', b', c', d']) := by simp only [shutW, hu1, Option.map_some]
    show (match shutW (jump σ 0 (shut σ 0 0)) (.agg [a, b, c, d]), shutWs (jump σ 0 (shut σ 0 0)) [.agg [.int .i64 4, .int .i64 0, .str [], .str tyL, .sl 5 id 0 l.length], .str tyL] with | some y, some ys => some (y :: ys) | _, _ => none) = _
    rw [hw']
    have h4 : shutWs (jump σ 0 (shut σ 0 0)) [.agg [.int .i64 4, .int .i64 0, .str [], .str tyL, .sl 5 id 0 l.length], .str tyL] = some [mv 4 0 [] tyL (.lst (lvS l) none), .str tyL] := by
      simp only [shutWs, shut_mv hg 0]
      rfl
    rw [h4]

theorem copied_ext (h : extCopied args σ = some (true, v, bs)) : CallRuns P (cfgOf m ext0) 16 args σ (.ret v (addB σ bs)) := by
  unfold extCopied at h
  split at h
  rotate_left
  · cases h
  rename_i kd i s ty ks
  cases hr : rowOf σ ks with
  | none => rw [hr] at h; cases h
  | some r =>
  obtain ⟨r, xs⟩ := r
  rw [hr] at h
  simp only [Option.some.injEq, Prod.mk.injEq] at h
  obtain ⟨rfl, rfl, rfl⟩ := h
  obtain ⟨id, l, rfl, hg, e, hp, hl⟩ := rowOf_spec hr
  cases l with
  | nil => simp at hp
  | cons x l =>
  obtain ⟨σ', hc, hσ⟩ := copied_runs (pf0 m) kd i s ty x l hl
  rw [e]
  have hn : (lv (x :: l)).length = (lvS (x :: l)).length := by simp [lv_len, lvS_len]
  rw [hn]
  refine CallRuns.row (cs := [.int .i64 kd, .int .i64 i, .str s, .str ty]) (r := 9) (fu := 0) (globC m ext0) ?_ hc rfl hσ ?_
  · simp only [shutWs, shut_mv hg 0]
  · generalize x :: l = q
    induction q with
    | nil => rfl
    | cons y q ih => show (flatV (leaf y) && flatV.flatVs (lv q)) = true; rw [ih]; rfl

theorem same_ext (h : extSame args σ = some (true, v, bs)) : CallRuns P (cfgOf m ext0) 8 args σ (.ret v (addB σ bs)) := by
  unfold extSame at h
  split at h
  rotate_left
  · cases h
  rename_i kd z s ty ks kd' z' s' ty' ks'
  cases hd : (isL kd z s ty && isL kd' z' s' ty') with
  | false => rw [hd] at h; cases h
  | true =>
  rw [hd] at h
  simp only [Bool.and_eq_true] at hd
  obtain ⟨rfl, rfl, rfl, rfl⟩ := isL_of hd.1
  obtain ⟨rfl, rfl, rfl, rfl⟩ := isL_of hd.2
  cases hr : rowOf σ ks with
  | none => rw [hr] at h; cases h
  | some r =>
  cases hr' : rowOf σ ks' with
  | none => rw [hr, hr'] at h; cases h
  | some r' =>
  obtain ⟨r, xs⟩ := r
  obtain ⟨r', xs'⟩ := r'
  rw [hr, hr'] at h
  simp only [cond_true, Option.some.injEq, Prod.mk.injEq, Bool.and_eq_true] at h
  obtain ⟨⟨⟨rfl, rfl⟩, h4⟩, rfl, rfl⟩ := h
  obtain ⟨id, l, rfl, hg, e, hp, hl⟩ := rowOf_spec hr
  obtain ⟨id', l', rfl, hg', e', hp', hl'⟩ := rowOf_spec hr'
  have hll : lv l = lv l' := by rw [← e, ← e']; exact AV.beqs_eq _ _ h4
  have hle : l = l' := by
    have := congrArg (List.map getN) hll
    rw [getN_lv, getN_lv] at this
    exact this
  subst hle
  obtain ⟨σ', hc⟩ := same_runs (pf0 m) l hl
  refine CallRuns.flat (fu := 0) (globC m ext0) ?_ hc rfl
  simp only [shutWs, shut_mv hg 0, shut_mv hg' 0]

theorem ints_ext (h : extInts args σ = some (true, v, bs)) : CallRuns P (cfgOf m ext0) 7 args σ (.ret v (addB σ bs)) := by
  unfold extInts at h
  split at h
  rotate_left
  · cases h
  rename_i xs tk
  simp only [okInts, Option.some.injEq, Prod.mk.injEq, Bool.and_eq_true, Nat.blt_eq] at h
  obtain ⟨⟨⟨h1, h0⟩, h2⟩, rfl, rfl⟩ := h
  obtain ⟨l, e1, e2⟩ := ints_of h1
  rw [e2]
  have hlen : xs.length = l.length := by rw [e1, is_len]
  cases l with
  | nil => rw [hlen] at h0; exact absurd h0 (Nat.lt_irrefl 0)
  | cons y l =>
  obtain ⟨σ', hc, hσ⟩ := ints_runs (pf0 m) y l (by rw [← hlen]; exact h2)
  have hn : xs.length = (lv (y :: l)).length := by rw [lv_len, hlen]
  rw [hn]
  have e1' : (AV.lst xs tk) = .lst (is (y :: l)) tk := by rw [e1]
  rw [e1']
  refine CallRuns.row (cs := [.int .i64 4, .int .i64 0, .str [], .str tyL]) (r := 5) (fu := 0) (globC m ext0) ?_ hc rfl hσ ?_
  · have : ∀ q, shutWs (jump σ 0 (shut σ 0 0)) (is q) = some (is q) := by
      intro q
      induction q with
      | nil => rfl
      | cons z q ih =>
        show (match shutW (jump σ 0 (shut σ 0 0)) (.int .i64 z), shutWs (jump σ 0 (shut σ 0 0)) (is q) with | some y, some ys => some (y :: ys) | _, _ => none) = _
        rw [ih]; rfl
    simp only [shutWs, shutW, this, Option.map_some]
  · generalize y :: l = q
    induction q with
    | nil => rfl
    | cons y q ih => show (flatV (leaf y) && flatV.flatVs (lv q)) = true; rw [ih]; rfl

/-- What is known under the one set of contracts holds under any other. -/
theorem under {m : Int} {e e' : ExtF} {f : FuncId} {args : List AV} {σ : ASt} {cr : CR} (h : CallRuns P (cfgOf m e) f args σ cr) : CallRuns P (cfgOf m e') f args σ cr :=
  fun Γ vs hwp hI hg hf => h Γ vs hwp hI hg hf

theorem awake_ok (m : Int) : ecall P (cfgOf m extA) (force false) 3000 5 [] none0 testT = true := by
  have h := awake_run m
  revert h
  generalize ecall P (cfgOf m extA) (force false) 3000 5 [] none0 testT = b
  intro h
  exact ran_of h
theorem right_ok (m : Int) : ecall P (cfgOf m extA) (force false) 3000 10 [pr0] none0 testT = true := by
  have h := right_run m
  revert h
  generalize ecall P (cfgOf m extA) (force false) 3000 10 [pr0] none0 testT = b
  intro h
  exact ran_of h

theorem right_ext (h : extRight args σ = some (true, v, bs)) : CallRuns P (cfgOf m ext0) 10 args σ (.ret v (addB σ bs)) := by
  unfold extRight at h
  split at h
  rotate_left
  · cases h
  rename_i p
  cases hb : p.beq pr0 with
  | false => rw [hb] at h; cases h
  | true =>
  rw [hb] at h
  simp only [cond_true, Option.some.injEq, Prod.mk.injEq, true_and] at h
  obtain ⟨rfl, rfl⟩ := h
  obtain rfl := AV.beq_eq _ _ hb
  exact under (bool_ext (right_ok m) (by kernel_rfl) σ)

theorem awake_ext (h : extAwake args σ = some (true, v, bs)) : CallRuns P (cfgOf m ext0) 5 args σ (.ret v (addB σ bs)) := by
  unfold extAwake at h
  split at h
  rotate_left
  · cases h
  simp only [Option.some.injEq, Prod.mk.injEq, true_and] at h
  obtain ⟨rfl, rfl⟩ := h
  exact under (bool_ext (awake_ok m) rfl σ)
end

theorem extC_runs {m : Int} {f : FuncId} {args : List AV} {σ : ASt} {v : AV} {bs : List Blk} (h : extC f args σ = some (true, v, bs)) : CallRuns P (cfgOf m ext0) f args σ (.ret v (addB σ bs)) := by
  unfold extC at h
  exact ext_step (lib_ext 131 extIdx rfl) (ext_step (lib_ext 157 extByte rfl) (ext_step parse_ext (ext_step right_ext (ext_step awake_ext (fun h => by simp [noExt] at h))))) h
theorem ext1_runs {m : Int} {f : FuncId} {args : List AV} {σ : ASt} {v : AV} {bs : List Blk} (h : ext1 f args σ = some (true, v, bs)) : CallRuns P (cfgOf m ext0) f args σ (.ret v (addB σ bs)) := by
  unfold ext1 at h
  exact ext_step count_ext (ext_step fits_ext (ext_step copied_ext (ext_step same_ext (ext_step ints_ext extC_runs)))) h
theorem pfC (m : Int) : PF P (cfgOf m extC) :=
  ⟨(pf0 m).mixed, ng0, fun f args σ v bs h Γ vs hwp hI hg hf => extC_runs (m := m) h Γ vs hwp hI hg hf⟩
theorem pf1 (m : Int) : PF P (cfgOf m ext1) :=
  ⟨(pf0 m).mixed, ng0, fun f args σ v bs h Γ vs hwp hI hg hf => ext1_runs (m := m) h Γ vs hwp hI hg hf⟩
end Go.Proofs.Ec
