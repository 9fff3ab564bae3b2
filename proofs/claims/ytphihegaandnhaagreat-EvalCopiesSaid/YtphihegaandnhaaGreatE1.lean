/-
EvalCopies: the set-up.
EvalCopies: eval.count over a list of ints' values.
EvalCopies: eval's fits, of a list of ints and its type.
EvalCopies: eval.copied, of a list of ints' values that is not empty: a new row.
EvalCopies: quoinref24's Same, of two lists of the same ints, and Ints.
-/
import Derived.Test.YtphihegaandnhaaGreatProg
import Derived.Test.YtphihegaandnhaaGreatA9
import Derived.Test.YtphihegaandnhaaGreatE0
import Derived.KernelRfl
import Derived.IntWalk
set_option linter.unusedVariables false
set_option linter.unusedSimpArgs false
namespace Go.Proofs.Ec
open Go Go.Am

noncomputable abbrev P : Program := Tryz.prog
def rowIds : List Nat := [6,7,11,12,13,14,15,16,32,33,34,35,36,37,38,39,40,41,42,43,44,45,46,47,48,49,63,64,65,66,67,68,69,71,72,73,74,75,96,97,98,99,100,102,103,104,105,107,117,119,120,121,142]
def preB : List UInt8 → List UInt8 → Bool
  | [], _ => true
  | _ :: _, [] => false
  | a :: x, b :: y => cond (Nat.beq a.toNat b.toNat) (preB x y) false
def idxB (t : List UInt8) : Nat → List UInt8 → Int
  | i, [] => cond (preB t []) (Int.ofNat i) (-1)
  | i, a :: s => cond (preB t (a :: s)) (Int.ofNat i) (idxB t (Nat.succ i) s)
/-- Not longer than so many. -/
noncomputable def shortB (s : List UInt8) (n : Nat) : Bool := List.rec (motive := fun _ => Nat → Bool) (fun _ => true) (fun _ _ ih n => Nat.rec false (fun m _ => ih m) n) s n
theorem shortB_ok : ∀ (s : List UInt8) (n : Nat), shortB s n = true → s.length ≤ n
  | [], n, _ => Nat.zero_le _
  | a :: s, 0, h => by cases h
  | a :: s, n + 1, h => by
    have h : shortB s n = true := h
    have := shortB_ok s n h
    simp; omega
abbrev ExtF := FuncId → List AV → ASt → Option (Bool × AV × List Blk)
noncomputable def extIdx : List AV → ASt → Option (Bool × AV × List Blk) := fun args _ => match args with
  | [.str s, .str t] => some (shortB s 100000, .int .i64 (idxB t 0 s), [])
  | _ => none
def extByte : List AV → ASt → Option (Bool × AV × List Blk) := fun args _ => match args with
  | [.str s, .int .u8 c] => some (true, .int .i64 (idxB [UInt8.ofNat c.toNat] 0 s), [])
  | _ => none
def noExt : List AV → ASt → Option (Bool × AV × List Blk) := fun _ _ => none
/-- The library's functions: 131 internal/stringslite.Index, 157 internal/bytealg.IndexByteString. -/
noncomputable def ext0 : ExtF := fun f => cond (Nat.beq f 131) extIdx (cond (Nat.beq f 157) extByte noExt)
/-- The globals: the one that the library's search reads holds an int. -/
def cfgOf (m : Int) (e : ExtF) : Cfg where
  mode _ := 0
  rows f := rowIds.any (Nat.beq f)
  glob g := cond (Nat.beq g 0) (.rptr (.int .i64 m) 0) .undef
  ext := e

theorem mode0 (m : Int) (e : ExtF) : ∀ f, Nat.beq ((cfgOf m e).mode f) 0 = true := fun _ => rfl
theorem globC (m : Int) (e : ExtF) : ∀ g, closedV ((cfgOf m e).glob g) = true := fun g => by
  show closedV (cond (Nat.beq g 0) (.rptr (.int .i64 m) 0) .undef) = true
  cases Nat.beq g 0 <;> rfl

noncomputable def body (f : Nat) : Code := ((P.funcs[f]?).bind (·.body)).getD .skip

/-- What is known of a frame and a state, and that it is so. -/
def HasB (σ : ASt) : List (Nat × Blk) → Prop
  | [] => True
  | (i, b) :: r => σ.get i = some b ∧ HasB σ r
def At (l : List (Nat × AV)) (nx : Nat) (bl : List (Nat × Blk)) (tr : Tr AV) (ds : DS) (σ : ASt) : Prop := ds = [] ∧ Has tr l ∧ σ.next = nx ∧ σ.wp = 0 ∧ HasB σ bl
def Refl : List (Nat × AV) → Prop
  | [] => True
  | (_, v) :: r => v = v ∧ Refl r
def ReflB : List (Nat × Blk) → Prop
  | [] => True
  | (_, b) :: r => some b = some b ∧ ReflB r
def AtR (l : List (Nat × AV)) (nx : Nat) (bl : List (Nat × Blk)) : Prop := ([] : DS) = [] ∧ Refl l ∧ nx = nx ∧ (0 : Nat) = 0 ∧ ReflB bl
theorem refl_ok : ∀ l, Refl l
  | [] => trivial
  | (_, v) :: r => ⟨rfl, refl_ok r⟩
theorem reflB_ok : ∀ l, ReflB l
  | [] => trivial
  | (_, v) :: r => ⟨rfl, reflB_ok r⟩
theorem atR (l : List (Nat × AV)) (nx : Nat) (bl : List (Nat × Blk)) : AtR l nx bl := ⟨rfl, refl_ok l, rfl, rfl, reflB_ok bl⟩

def mv (kd i : Int) (t ty : List UInt8) (ks : AV) : AV := .agg [.int .i64 kd, .int .i64 i, .str t, .str ty, ks]
/-- An int's value, its list looked at. -/
def leafS (n : Int) : AV := mv 1 n [] [] (.lst [] none)
def leaf (n : Int) : AV := mv 1 n [] [] .nils

theorem frames_pre {m : Int} {e : ExtF} {N : Nat} {c : Code} {l : List (Nat × AV)} {tr : Tr AV} {ts : List AV} {σ σ2 : ASt} {fl : Flow} {fr' : AFr} {σ' : ASt} (h : Runs P (cfgOf m e) c ⟨tsU N l, []⟩ σ2 fl fr' σ') (hT : TR N tr ts) (hl : ∀ p ∈ l, p.1 < N) (hh : Has tr l)
    (hn : σ2.next = σ.next) (hw : σ.wp = 0) (hw2 : σ2.wp = 0) (hs : ∀ id B, σ2.get id = some B → σ.get id = some B) : Runs P (cfgOf m e) c ⟨ts, []⟩ σ fl fr' σ' := by
  obtain ⟨h1, h2⟩ := has_ts hT hl hh
  exact h.pre hs (fun id hid => by rw [hw] at hid; exact absurd hid (Nat.not_lt_zero _)) hn (by rw [hw, hw2]) rfl h1 h2

mutual
theorem renV_closed (π : Nat → Option Nat) : ∀ v : AV, closedV v = true → renV π v = some v
  | .undef, _ => rfl
  | .bool _, _ => rfl
  | .int .., _ => rfl
  | .str _, _ => rfl
  | .nilp, _ => rfl
  | .nils, _ => rfl
  | .nilf, _ => rfl
  | .nilif, _ => rfl
  | .nilm, _ => rfl
  | .ptr .., h => by simp [closedV] at h
  | .sl .., h => by simp [closedV] at h
  | .map _, h => by simp [closedV] at h
  | .iter _, h => by simp [closedV] at h
  | .rptr x o, h => by simp only [renV, renV_closed π x (by simpa [closedV] using h), Option.map_some]
  | .lst xs none, h => by simp only [renV, renVs_closed π xs (by simpa [closedV] using h), Option.map_some]
  | .lst xs (some t), h => by simp [closedV] at h
  | .agg xs, h => by simp only [renV, renVs_closed π xs (by simpa [closedV] using h), Option.map_some]
  | .tup xs, h => by simp only [renV, renVs_closed π xs (by simpa [closedV] using h), Option.map_some]
  | .func f a b, h => by
    simp only [closedV, Bool.and_eq_true] at h
    simp only [renV, renVs_closed π a h.1, renVs_closed π b h.2]
  | .iface t v, h => by simp only [renV, renV_closed π v (by simpa [closedV] using h), Option.map_some]
  | .pmap a b, h => by
    simp only [closedV, Bool.and_eq_true] at h
    simp only [renV, renVs_closed π a h.1, renVs_closed π b h.2]
theorem renVs_closed (π : Nat → Option Nat) : ∀ l : List AV, closedV.closedVs l = true → renVs π l = some l
  | [], _ => rfl
  | x :: l, h => by
    simp only [closedV.closedVs, Bool.and_eq_true] at h
    simp only [renVs, renV_closed π x h.1, renVs_closed π l h.2]
end

/-- All live temporaries are closed: they live on. -/
def ClosedL : List (Nat × AV) → Prop
  | [] => True
  | (_, v) :: r => closedV v = true ∧ ClosedL r
theorem lives_closed (π : Nat → Option Nat) {tr : Tr AV} : ∀ {l : List (Nat × AV)}, Has tr l → ClosedL l → Lives π tr l
  | [], _, _ => trivial
  | (i, v) :: r, h, hc => ⟨by rw [h.1]; exact renV_closed π v hc.1, lives_closed π h.2 hc.2⟩
theorem below {N : Nat} {l : List (Nat × AV)} (h : (l.map (·.1)).all (Nat.blt · N) = true) : ∀ p ∈ l, p.1 < N := by
  intro p hp
  simp only [List.all_eq_true, List.mem_map] at h
  have := h p.1 ⟨p, hp, rfl⟩
  simpa [Nat.blt_eq] using this

theorem has_getD {N : Nat} {tr : Tr AV} {ts : List AV} {l : List (Nat × AV)} {i : Nat} {v : AV} (hT : TR N tr ts) (hi : i < N) (h : Has tr l) (hm : (i, v) ∈ l) : ts.getD i .undef = v := by
  rw [hT.val i hi]; exact h.mem _ hm

/-- The elements. -/
def lvS (l : List Int) : List AV := l.map leafS
def lv (l : List Int) : List AV := l.map leaf
theorem lvS_closed : ∀ l, closedV.closedVs (lvS l) = true
  | [] => rfl
  | x :: l => by
    have := lvS_closed l
    simp only [lvS, List.map_cons, closedV.closedVs, Bool.and_eq_true] at this ⊢
    exact ⟨rfl, this⟩
theorem lvS_get {l : List Int} {k : Nat} (h : k < l.length) : (lvS l)[k]? = some (leafS (l[k])) := by simp [lvS, h]
theorem lvS_len (l : List Int) : (lvS l).length = l.length := by simp [lvS]

theorem iRoom {n : Nat} (h : n ≤ 9223372036854775806) : IntKind.i64.wrap ((n : Int) + 1) = ((n + 1 : Nat) : Int) := by rw [IntWalk.i64_in _ (by omega)]; omega

/-- A part of code: true goes left. -/
def _root_.Go.Code.at (c : Code) : List Bool → Code
  | [] => c
  | true :: r => c.cl.at r
  | false :: r => c.cr.at r

def mkHeap : List (Nat × Blk) → Tr Blk
  | [] => .leaf
  | (i, b) :: r => (mkHeap r).set i (some b)
def stOf (nx : Nat) (bl : List (Nat × Blk)) : ASt := ⟨nx, 0, mkHeap bl⟩
theorem mkHeap_get {σ : ASt} : ∀ {bl : List (Nat × Blk)}, HasB σ bl → ∀ id B, (mkHeap bl).get id = some B → σ.get id = some B
  | [], _, id, B, h => by simp [mkHeap, Tr.get] at h
  | (i, b) :: r, hb, id, B, h => by
    simp only [mkHeap, Tr.get_set] at h
    split at h
    · rename_i e; subst e; rw [hb.1]; exact h
    · exact mkHeap_get hb.2 id B h

/-- A loop that has a lemma: what must be so ahead of it, and what is known behind it. -/
noncomputable def hookAt (N : Nat) (b : Code) (pre : List (Nat × AV)) (nx : Nat) (bl : List (Nat × Blk)) (ex : Nat) (post : List (Nat × AV)) (nx' : Nat) (bl' : List (Nat × Blk)) : LoopHook :=
  fun body tr ds σ K => ⟨fun h pc => (K (.exit ex) (mkTrU N post) [] (stOf nx' bl')).run h (pc ∧ (body = b ∧ At pre nx bl tr ds σ)), fun h pc hr => ((K _ _ _ _).ent _ _ hr).1⟩

def LoopLem (m : Int) (N : Nat) (b : Code) (pre : List (Nat × AV)) (nx : Nat) (bl : List (Nat × Blk)) (ex : Nat) (post : List (Nat × AV)) (nx' : Nat) (bl' : List (Nat × Blk)) : Prop :=
  ∃ tr' ts' σ', RoundsN P (cfgOf m ext0) b (stOf nx bl) ⟨tsU N pre, []⟩ (stOf nx bl) (.exit ex) ⟨ts', []⟩ σ' ∧ TR N tr' ts' ∧ At post nx' bl' tr' [] σ'

theorem hookAt_ok {m : Int} {N : Nat} {b : Code} {pre : List (Nat × AV)} {nx : Nat} {bl : List (Nat × Blk)} {ex : Nat} {post : List (Nat × AV)} {nx' : Nat} {bl' : List (Nat × Blk)} (h : LoopLem m N b pre nx bl ex post nx' bl')
    (hp : (pre.map (·.1)).all (Nat.blt · N) = true) (hq : (post.map (·.1)).all (Nat.blt · N) = true) : HookOK P (cfgOf m ext0) N (hookAt N b pre nx bl ex post nx' bl') := by
  intro body tr ts ds σ K hT hg
  obtain ⟨hh, pc, hr⟩ := hg
  have hr : (K (.exit ex) (mkTrU N post) [] (stOf nx' bl')).run hh (pc ∧ (body = b ∧ At pre nx bl tr ds σ)) := hr
  obtain ⟨_, rfl, rfl, hh1, hn, hw, hb⟩ := (K _ _ _ _).ent _ _ hr
  obtain ⟨tr', ts', σ', h1, h2, _, h4, h5, h6, h7⟩ := h
  obtain ⟨e1, e2⟩ := has_ts h2 (below hq) h4
  refine ⟨.exit ex, mkTrU N post, tsU N post, [], stOf nx' bl', ?_, trU N post, hh, _, hr⟩
  refine frames_pre (σ2 := stOf nx bl) ?_ hT (below hp) hh1 hn.symm hw rfl (fun id B hg => mkHeap_get hb id B hg)
  exact h1.loop.post (by simp) (fun id B hg => mkHeap_get h7 id B hg) (fun id hid => by rw [h6] at hid; exact absurd hid (Nat.not_lt_zero _)) h5.symm h6.symm rfl e1 e2

/-- One round, back where it began, under other names. -/
theorem back_to {N : Nat} {nx : Nat} {bl : List (Nat × Blk)} {tr : Tr AV} {ts : List AV} {l : List (Nat × AV)} {σ' : ASt} (hT : TR N tr ts) (hl : (l.map (·.1)).all (Nat.blt · N) = true) (hw : σ'.wp = 0) (hv : Lives (keepOld nx) tr l)
    (hb : ∀ j B, (mkHeap bl).get j = some B → ∃ id C, keepOld nx id = some j ∧ σ'.get id = some C ∧ renB (keepOld nx) C = some B) (bl0 : List (Nat × Blk)) : Renames (stOf nx bl0).next (stOf nx bl0).wp (stOf nx bl0) ⟨ts, []⟩ σ' ⟨tsU N l, []⟩ (stOf nx bl) :=
  renames_of (l := l) hT (below hl) (keepOld_names nx) hv hb (by rw [hw]; rfl) (fun id h => absurd h (Nat.not_lt_zero _))
end Go.Proofs.Ec

set_option linter.unusedVariables false
set_option linter.unusedSimpArgs false
namespace Go.Proofs.Ec
open Go Go.Am

noncomputable def c73a := (body 73).cl
noncomputable def c73b := (body 73).cr.cl
noncomputable def c73c := (body 73).cr.cr.cl.cl
noncomputable def c73L := (body 73).cr.cr.cl.cr.cl.cl
noncomputable def c73p := (body 73).cr.cr.cr
theorem f73 : (P.funcs[73]?).map (fun fn => (fn.body, fn.ntmps, fn.results.toList)) = some (some (.seq c73a (.seq c73b (.seq (.seq c73c (.block 0 (.loop c73L))) c73p))), 23, [.tmp 4]) := by kernel_rfl

section
variable {m : Int}

/-- What lives in the loop. -/
def L73 (l : List Int) (n k : Nat) : List (Nat × AV) := [(1, .int .i64 n), (10, .lst (lvS l) none), (11, .int .i64 (lvS l).length), (12, .int .i64 k)]

theorem pre73 (kd i : Int) (t ty : List UInt8) (l : List Int) : ((argsK [mv kd i t ty (.lst (lvS l) none), .int .i64 0] 0 .leaf fun tr => (ecode P (cfgOf m ext0) forceL 23 true (seqs [c73a, c73b, c73c])).run (ecall P (cfgOf m ext0) forceL 5) 5 tr [] none0
    (endS fun fl tr ds σ => fl = .norm ∧ At (L73 l 1 0) 9 [] tr ds σ)).run [] True) = (True ∧ (Flow.norm = .norm ∧ AtR (L73 l 1 0) 9 [])) := by kernel_rfl

theorem iter73 (l : List Int) (n k : Nat) (x : Int) : (((ecode P (cfgOf m ext0) forceL 23 true c73L).run (ecall P (cfgOf m ext0) forceL 5) 5 (mkTrU 23 (L73 l n k)) [] ⟨9, 0, .leaf⟩
    (endS fun fl tr ds σ => fl = .norm ∧ ds = [] ∧ σ.wp = 0 ∧ Has tr [(1, .int .i64 (IntKind.i64.wrap ((n : Int) + 1))), (10, .lst (lvS l) none), (11, .int .i64 (lvS l).length), (12, .int .i64 (IntKind.i64.wrap ((k : Int) + 1)))])).run
      [(0, .bool true), (1, .bool true), (0, .nth (leafS x)), (7, .bool false)] True) =
    (((((True ∧ ltI (k : Int) (lvS l).length = true) ∧ (decide (0 ≤ (k : Int)) && decide ((k : Int) < (lvS l).length) && !(Nat.beq (szT P 36) 0)) = true) ∧ (lvS l)[(k : Int).toNat]? = some (leafS x)) ∧ ltI 1048576 (n : Int) = false) ∧
      (Flow.norm = .norm ∧ ([] : DS) = [] ∧ (0 : Nat) = 0 ∧ Refl [(1, .int .i64 (IntKind.i64.wrap ((n : Int) + 1))), (10, .lst (lvS l) none), (11, .int .i64 (lvS l).length), (12, .int .i64 (IntKind.i64.wrap ((k : Int) + 1)))])) := by kernel_rfl

theorem exit73 (l : List Int) (n k : Nat) : (((ecode P (cfgOf m ext0) forceL 23 true c73L).run (ecall P (cfgOf m ext0) forceL 5) 5 (mkTrU 23 (L73 l n k)) [] ⟨9, 0, .leaf⟩
    (endS fun fl tr ds σ => fl = .exit 0 ∧ At [(1, .int .i64 n)] 10 [] tr ds σ)).run [(0, .bool false)] True) =
    ((True ∧ ltI (k : Int) (lvS l).length = false) ∧ (Flow.exit 0 = .exit 0 ∧ AtR [(1, .int .i64 n)] 10 [])) := by kernel_rfl

theorem post73 (n : Nat) : (((ecode P (cfgOf m ext0) forceL 23 true c73p).run (ecall P (cfgOf m ext0) forceL 5) 5 (mkTrU 23 [(1, .int .i64 n)]) [] ⟨10, 0, .leaf⟩
    (endS fun fl tr ds σ => fl = .ret ∧ At [(4, .int .i64 n)] 12 [] tr ds σ)).run [] True) = (True ∧ (Flow.ret = .ret ∧ AtR [(4, .int .i64 n)] 12 [])) := by kernel_rfl

theorem loop73 (pf : PF P (cfgOf m ext0)) (l : List Int) (hl : l.length < 1048576) : ∀ (d k : Nat), d + k = l.length →
    ∃ tr' ts' σ', RoundsN P (cfgOf m ext0) c73L ⟨9, 0, .leaf⟩ ⟨tsU 23 (L73 l (k + 1) k), []⟩ ⟨9, 0, .leaf⟩ (.exit 0) ⟨ts', []⟩ σ' ∧ TR 23 tr' ts' ∧ At [(1, .int .i64 ((l.length + 1 : Nat) : Int))] 10 [] tr' [] σ' := by
  intro d
  induction d with
  | zero =>
    intro k hk
    have hk : k = l.length := by omega
    subst hk
    have hc : ltI (l.length : Int) (lvS l).length = false := by simp [ltI_eq, lvS_len]
    have hq := Q.of_eq (exit73 (m := m) l (l.length + 1) l.length) ⟨⟨trivial, hc⟩, rfl, atR _ _ _⟩
    obtain ⟨fl, tr', ts', ds', σ', h1, h2, h3, h4⟩ := code_runs pf (mode0 m ext0) forceL_good (trU 23 (L73 l (l.length + 1) l.length)) hq
    subst h3
    obtain rfl := h4.1
    exact ⟨tr', ts', σ', .out (by simp) h1, h2, h4⟩
  | succ d ih =>
    intro k hk
    have hlt : k < l.length := by omega
    obtain ⟨fl, tr', ts', ds', σ', h1, h2, h3, rfl, h5, h6⟩ := code_runs pf (mode0 m ext0) forceL_good (G := fun fl tr ds σ => fl = .norm ∧ ds = [] ∧ σ.wp = 0 ∧ Has tr [(1, .int .i64 (IntKind.i64.wrap (((k + 1 : Nat) : Int) + 1))), (10, .lst (lvS l) none), (11, .int .i64 (lvS l).length), (12, .int .i64 (IntKind.i64.wrap ((k : Int) + 1)))])
      (trU 23 (L73 l (k + 1) k)) (Q.of_eq (iter73 l (k + 1) k l[k]) ⟨⟨⟨⟨⟨trivial, by simp [ltI_eq, lvS_len, hlt]⟩, by
        have : Nat.beq (szT P 36) 0 = false := by kernel_rfl
        rw [this]; simp [lvS_len, hlt]⟩, by simpa using lvS_get hlt⟩, by simp [ltI_eq]; omega⟩, rfl, rfl, rfl, refl_ok _⟩)
    subst h3
    rw [iRoom (by omega), iRoom (by omega)] at h6
    obtain ⟨tr2, ts2, σ2, g1, g2, g3⟩ := ih (k + 1) (by omega)
    refine ⟨tr2, ts2, σ2, .more h1 ?_ g1, g2, g3⟩
    exact renames_of (l := L73 l (k + 1 + 1) (k + 1)) h2 (below rfl) (keepOld_names 9) (lives_closed _ h6 ⟨rfl, by simp [closedV, lvS_closed], rfl, rfl, trivial⟩) (fun j B h => by simp [ASt.get, Tr.get] at h) (by rw [h5]) (fun id h => absurd h (Nat.not_lt_zero _))

/-- count over a list of ints' values. -/
theorem count_runs (pf : PF P (cfgOf m ext0)) (kd i : Int) (t ty : List UInt8) (l : List Int) (hl : l.length < 1048576) :
    ∃ σ', CallRuns P (cfgOf m ext0) 73 [mv kd i t ty (.lst (lvS l) none), .int .i64 0] none0 (.ret (.int .i64 ((l.length + 1 : Nat) : Int)) σ') := by
  have hf := f73
  cases hfn : P.funcs[73]? with
  | none => rw [hfn] at hf; cases hf
  | some fn =>
  rw [hfn] at hf
  simp only [Option.map_some, Option.some.injEq, Prod.mk.injEq] at hf
  obtain ⟨hb, hnt, hres⟩ := hf
  obtain ⟨tr0, ha, hT0⟩ := argsK_ok (α := Sub) [mv kd i t ty (.lst (lvS l) none), .int .i64 0] 23 (by simp)
  have hpre := pre73 (m := m) kd i t ty l
  rw [ha] at hpre
  obtain ⟨tr1, ts1, ds1, σ1, r1, hT1, hds, hh1, hn1, hw1, _⟩ := codes_runs pf (mode0 m ext0) forceL_good hT0 (Q.of_eq hpre ⟨trivial, rfl, atR _ _ _⟩)
  subst hds
  obtain ⟨tr2, ts2, σ2, hloop, hT2, _, hh2, hn2, hw2, _⟩ := loop73 pf l hl l.length 0 (by simp)
  obtain ⟨fl, tr3, ts3, ds3, σ3, r3, hT3, hfl, hds3, hh3, hn3, hw3, _⟩ := code_runs pf (mode0 m ext0) forceL_good (G := fun fl tr ds σ => fl = .ret ∧ At [(4, .int .i64 ((l.length + 1 : Nat) : Int))] 12 [] tr ds σ) (trU 23 [(1, .int .i64 ((l.length + 1 : Nat) : Int))])
    (Q.of_eq (post73 (l.length + 1)) ⟨trivial, rfl, atR _ _ _⟩)
  subst hfl hds3
  have empty : ∀ {σ : ASt} (id : Nat) (B : Blk), (⟨σ.next, 0, .leaf⟩ : ASt).get id = some B → σ.get id = some B := fun id B h => by simp [ASt.get, Tr.get] at h
  obtain ⟨_, _, ra, r1⟩ := r1.inv
  obtain ⟨_, _, rb, r1⟩ := r1.inv
  have rc := r1.last
  have rl := frames_pre hloop.loop hT1 (l := L73 l 1 0) (below rfl) hh1 (by rw [hn1]) hw1 rfl (fun id B h => by simp [ASt.get, Tr.get] at h)
  have rp := frames_pre r3 hT2 (below rfl) hh2 (by rw [hn2]) hw2 rfl (fun id B h => by simp [ASt.get, Tr.get] at h)
  have hcode := ra.seq (rb.seq ((rc.seq (Runs.block (id := 0) rl)).seq rp))
  refine ⟨σ3, ?_⟩
  have hr := CallRuns.ret (pf := pf) (vs := [.int .i64 ((l.length + 1 : Nat) : Int)]) hfn hb (args := [mv kd i t ty (.lst (lvS l) none), .int .i64 0]) (by rw [hnt]; exact hcode) (.inr rfl) rfl (by
    rw [hres]
    simp only [resA, Option.map_some]
    rw [has_getD hT3 (by decide) hh3 List.mem_cons_self])
  exact hr
end
end Go.Proofs.Ec

set_option linter.unusedVariables false
set_option linter.unusedSimpArgs false
namespace Go.Proofs.Ec
open Go Go.Am

def tyL : List UInt8 := [91, 93, 105, 110, 116]
def tyI : List UInt8 := [105, 110, 116]
noncomputable def c46L : Code := ((body 46).at [false,true,false,true,false,false,false,false,false,false,false,true,false,false,true,false,true]).cl
theorem f46 : (P.funcs[46]?).map (fun fn => (fn.body, fn.ntmps, fn.results.toList)) = some (some (body 46), 185, [.tmp 6]) := by kernel_rfl
theorem sz36 : Nat.beq (szT P 36) 0 = false := by kernel_rfl

section
variable {m : Int}
def M46 (l : List Int) (k : Int) : List (Nat × AV) := [(3, .ptr 0 0 0), (7, .str tyI), (119, .lst (lvS l) none), (120, .int .i64 (lvS l).length), (121, .int .i64 k)]
def H46 (a b c d : AV) : List (Nat × Blk) := [(0, .row 4 [.agg [a, b, c, d]])]

theorem iter46 (a b c d : AV) (l : List Int) (k : Nat) (x : Int) : (((ecode P (cfgOf m ext0) forceL 185 true c46L).run (ecall P (cfgOf m ext0) forceL 20) 20 (mkTrU 185 (M46 l k)) [] (stOf 135 (H46 a b c d))
    (endS fun fl tr ds σ => fl = .norm ∧ ds = [] ∧ σ.wp = 0 ∧ Has tr (M46 l (IntKind.i64.wrap ((k : Int) + 1))) ∧ HasB σ (H46 a b c d))).run [(0, .bool true), (1, .bool true), (0, .nth (leafS x))] True) =
    ((((True ∧ ltI (k : Int) (lvS l).length = true) ∧ (decide (0 ≤ (k : Int)) && decide ((k : Int) < (lvS l).length) && !(Nat.beq (szT P 36) 0)) = true) ∧ (lvS l)[(k : Int).toNat]? = some (leafS x)) ∧
      (Flow.norm = .norm ∧ ([] : DS) = [] ∧ (0 : Nat) = 0 ∧ Refl (M46 l (IntKind.i64.wrap ((k : Int) + 1))) ∧ ReflB (H46 a b c d))) := by kernel_rfl

theorem exit46 (a b c d : AV) (l : List Int) (k : Nat) : (((ecode P (cfgOf m ext0) forceL 185 true c46L).run (ecall P (cfgOf m ext0) forceL 20) 20 (mkTrU 185 (M46 l k)) [] (stOf 135 (H46 a b c d))
    (endS fun fl tr ds σ => fl = .exit 1 ∧ At [] 136 [] tr ds σ)).run [(0, .bool false)] True) = ((True ∧ ltI (k : Int) (lvS l).length = false) ∧ (Flow.exit 1 = .exit 1 ∧ AtR [] 136 [])) := by kernel_rfl

theorem all46 (a b c d : AV) (l : List Int) (T : AV → Prop) : ((wfun P (cfgOf m ext0) forceL 185 true (hookAt 185 c46L (M46 l 0) 135 (H46 a b c d) 1 [] 136 []) 20 20 (body 46) [.tmp 6] [.agg [a, b, c, d], mv 4 0 [] tyL (.lst (lvS l) none), .str tyL] (fun v σ => T v)).run [] True) =
    ((True ∧ (c46L = c46L ∧ AtR (M46 l 0) 135 (H46 a b c d))) ∧ T (.bool true)) := by kernel_rfl

theorem loop46 (pf : PF P (cfgOf m ext0)) (a b c d : AV) (hw : closedV.closedVs [a, b, c, d] = true) (l : List Int) (hl : l.length < 1048576) : ∀ (n k : Nat), n + k = l.length →
    ∃ tr' ts' σ', RoundsN P (cfgOf m ext0) c46L (stOf 135 (H46 a b c d)) ⟨tsU 185 (M46 l k), []⟩ (stOf 135 (H46 a b c d)) (.exit 1) ⟨ts', []⟩ σ' ∧ TR 185 tr' ts' ∧ At [] 136 [] tr' [] σ' := by
  intro n
  induction n with
  | zero =>
    intro k hk
    have hc : ltI (k : Int) (lvS l).length = false := by simp [ltI_eq, lvS_len]; omega
    obtain ⟨fl, tr', ts', ds', σ', h1, h2, h3, h4⟩ := code_runs pf (mode0 m ext0) forceL_good (trU 185 (M46 l k)) (Q.of_eq (exit46 (m := m) a b c d l k) ⟨⟨trivial, hc⟩, rfl, atR _ _ _⟩)
    subst h3
    obtain rfl := h4.1
    exact ⟨tr', ts', σ', .out (by simp) h1, h2, h4⟩
  | succ n ih =>
    intro k hk
    have hlt : k < l.length := by omega
    have c1 : ltI (k : Int) (lvS l).length = true := by simp [ltI_eq, lvS_len, hlt]
    have c2 : (decide (0 ≤ (k : Int)) && decide ((k : Int) < (lvS l).length) && !(Nat.beq (szT P 36) 0)) = true := by rw [sz36]; simp [lvS_len, hlt]
    have c3 : (lvS l)[(k : Int).toNat]? = some (leafS l[k]) := by simpa using lvS_get hlt
    obtain ⟨fl, tr', ts', ds', σ', h1, h2, h3, hds, h5, h6, h7⟩ := code_runs pf (mode0 m ext0) forceL_good (trU 185 (M46 l k))
      (Q.of_eq (iter46 (m := m) a b c d l k l[k]) ⟨⟨⟨⟨trivial, c1⟩, c2⟩, c3⟩, rfl, rfl, rfl, refl_ok _, reflB_ok _⟩)
    subst h3 hds
    rw [iRoom (by omega)] at h6
    obtain ⟨tr2, ts2, σ2, g1, g2, g3⟩ := ih (k + 1) (by omega)
    refine ⟨tr2, ts2, σ2, .more h1 ?_ g1, g2, g3⟩
    refine back_to (l := M46 l ((k + 1 : Nat) : Int)) h2 rfl h5 ⟨?_, ?_⟩ (fun j B hj => ?_) _
    · rw [h6.1]; rfl
    · exact lives_closed _ h6.2 ⟨rfl, by simp [closedV, lvS_closed], rfl, rfl, trivial⟩
    · simp only [H46, mkHeap, Tr.get_set] at hj
      split at hj
      · rename_i e
        subst e
        obtain rfl := Option.some.inj hj
        refine ⟨0, _, rfl, h7.1, ?_⟩
        have : renV (keepOld 135) (.agg [a, b, c, d]) = some (.agg [a, b, c, d]) := renV_closed _ _ (by simpa [closedV] using hw)
        simp only [renB, renVs, this, Option.map_some]
      · simp [Tr.get] at hj

/-- fits, of a list of ints' values and its type. -/
theorem fits_runs (pf : PF P (cfgOf m ext0)) (a b c d : AV) (hw : closedV.closedVs [a, b, c, d] = true) (l : List Int) (hl : l.length < 1048576) :
    ∃ σ', CallRuns P (cfgOf m ext0) 46 [.agg [a, b, c, d], mv 4 0 [] tyL (.lst (lvS l) none), .str tyL] none0 (.ret (.bool true) σ') := by
  have hL : LoopLem m 185 c46L (M46 l 0) 135 (H46 a b c d) 1 [] 136 [] := loop46 pf a b c d hw l hl l.length 0 (by simp)
  obtain ⟨v, σ', h1, h2⟩ := wfun_runs pf (mode0 m ext0) forceL_good (hookAt_ok hL rfl rfl) f46 (by simp) (Q.of_eq (all46 (m := m) a b c d l (fun v => v = .bool true)) ⟨⟨trivial, rfl, atR _ _ _⟩, rfl⟩)
  subst h2
  exact ⟨σ', h1⟩
end
end Go.Proofs.Ec

set_option linter.unusedVariables false
set_option linter.unusedSimpArgs false
namespace Go.Proofs.Ec
open Go Go.Am

noncomputable def c16L : Code := ((body 16).at [false,false,false,true,false,true]).cl
theorem f16 : (P.funcs[16]?).map (fun fn => (fn.body, fn.ntmps, fn.results.toList)) = some (some (body 16), 33, [.cell 2 36]) := by kernel_rfl
theorem sz36v : szT P 36 = 5 := by kernel_rfl
theorem by36v : P.bytesOf 36 = 72 := by kernel_rfl

def zmv : AV := mv 0 0 [] [] .nils
def M16 (l : List Int) (k : Int) : List (Nat × AV) := [(1, .ptr 0 0 0), (2, .ptr 1 0 0), (3, .sl 5 9 0 (lvS l).length), (17, .lst (lvS l) none), (18, .int .i64 (lvS l).length), (19, .int .i64 k)]
def E16 (l : List Int) : List (Nat × AV) := [(1, .ptr 0 0 0), (2, .ptr 1 0 0), (3, .sl 5 9 0 (lvS l).length)]
def H16 (V : AV) (ys : List AV) : List (Nat × Blk) := [(0, .row 5 [V]), (1, .row 5 [zmv]), (9, .row 5 ys)]
def ys16 (l : List Int) (k : Nat) : List AV := (lv l).take k ++ List.replicate (l.length - k) zmv

theorem lv_len (l : List Int) : (lv l).length = l.length := by simp [lv]
theorem ys16_get {l : List Int} {k : Nat} (h : k < l.length) : (ys16 l k)[k]? = some zmv := by
  unfold ys16
  rw [List.getElem?_append_right (by simp [lv_len]; omega)]
  simp [lv_len, List.getElem?_replicate]
  omega
theorem ys16_set {l : List Int} {k : Nat} (h : k < l.length) : (ys16 l k).set k (leaf l[k]) = ys16 l (k + 1) := by
  apply List.ext_getElem?
  intro i
  unfold ys16
  rw [List.getElem?_set]
  simp only [List.length_append, List.length_take, List.length_replicate, lv_len]
  by_cases hi : k = i
  · subst hi
    rw [if_pos rfl, if_pos (by omega), List.getElem?_append_left (by simp [lv_len]; omega)]
    simp [lv, h]
  · rw [if_neg hi]
    by_cases hlt : i < k
    · rw [List.getElem?_append_left (by simp [lv_len]; omega), List.getElem?_append_left (by simp [lv_len]; omega)]
      simp [List.getElem?_take, hlt, show i < k + 1 by omega]
    · rw [List.getElem?_append_right (by simp [lv_len]; omega), List.getElem?_append_right (by simp [lv_len]; omega)]
      simp only [List.length_take, lv_len, List.getElem?_replicate]
      rw [Nat.min_eq_left (by omega), Nat.min_eq_left (by omega)]
      by_cases h2 : i < l.length
      · rw [if_pos (by omega), if_pos (by omega)]
      · rw [if_neg (by omega), if_neg (by omega)]
theorem ys16_all (l : List Int) : ys16 l l.length = lv l := by unfold ys16; rw [← lv_len l, List.take_length]; simp [lv_len]
theorem ys16_none (l : List Int) : ys16 l 0 = List.replicate (lvS l).length zmv := by simp [ys16, lvS_len]

section
variable {m : Int}

theorem iter16 (a b c d e : AV) (ys : List AV) (l : List Int) (k : Nat) (x : Int) : (((ecode P (cfgOf m ext0) forceL 33 true c16L).run (ecall P (cfgOf m ext0) forceL 20) 20 (mkTrU 33 (M16 l k)) [] (stOf 15 (H16 (.agg [a, b, c, d, e]) ys))
    (endS fun fl tr ds σ => fl = .norm ∧ ds = [] ∧ σ.wp = 0 ∧ Has tr (M16 l (IntKind.i64.wrap ((k : Int) + 1))) ∧ HasB σ (H16 (.agg [a, b, c, d, e]) (ys.set (0 + (k : Int).toNat) (leaf x))))).run [(0, .bool true), (1, .bool true), (0, .nth (leafS x)), (32, .bool true), (1, .nth zmv)] True) =
    ((((((True ∧ ltI (k : Int) (lvS l).length = true) ∧ (decide (0 ≤ (k : Int)) && decide ((k : Int) < (lvS l).length) && !(Nat.beq (szT P 36) 0)) = true) ∧ (lvS l)[(k : Int).toNat]? = some (leafS x)) ∧
      (decide (0 ≤ (k : Int)) && decide ((k : Int) < (lvS l).length) && Nat.beq 5 (szT P 36) && !(Nat.beq (szT P 36) 0)) = true) ∧ ys[0 + (k : Int).toNat]? = some zmv) ∧
      (Flow.norm = .norm ∧ ([] : DS) = [] ∧ (0 : Nat) = 0 ∧ Refl (M16 l (IntKind.i64.wrap ((k : Int) + 1))) ∧ ReflB (H16 (.agg [a, b, c, d, e]) (ys.set (0 + (k : Int).toNat) (leaf x))))) := by kernel_rfl

theorem exit16 (V : AV) (ys : List AV) (l : List Int) (k : Nat) : (((ecode P (cfgOf m ext0) forceL 33 true c16L).run (ecall P (cfgOf m ext0) forceL 20) 20 (mkTrU 33 (M16 l k)) [] (stOf 15 (H16 V ys))
    (endS fun fl tr ds σ => fl = .exit 0 ∧ At (E16 l) 16 (H16 V ys) tr ds σ)).run [(0, .bool false)] True) = ((True ∧ ltI (k : Int) (lvS l).length = false) ∧ (Flow.exit 0 = .exit 0 ∧ AtR (E16 l) 16 (H16 V ys))) := by kernel_rfl

theorem all16 (kd i : Int) (t ty : List UInt8) (x : Int) (l : List Int) (T : AV → ASt → Prop) : ((wfun P (cfgOf m ext0) forceL 33 true (hookAt 33 c16L (M16 (x :: l) 0) 15 (H16 (mv kd i t ty (.lst (lvS (x :: l)) none)) (List.replicate (lvS (x :: l)).length zmv)) 0 (E16 (x :: l)) 16
      (H16 (mv kd i t ty (.lst (lvS (x :: l)) none)) (lv (x :: l)))) 20 20 (body 16) [.cell 2 36] [mv kd i t ty (.lst (lvS (x :: l)) none)]
      (fun v σ => v = .agg [.int .i64 kd, .int .i64 i, .str t, .str ty, .sl 5 9 0 (lvS (x :: l)).length] ∧ σ.get 9 = some (.row 5 (lv (x :: l))))).run [(10, .bool true)] True) =
    (((True ∧ (decide (0 ≤ ((lvS (x :: l)).length : Int)) && decide (((lvS (x :: l)).length : Int) = (lvS (x :: l)).length) && decide (((lvS (x :: l)).length : Int).toNat * P.bytesOf 36 ≤ limit) && Nat.blt 0 (P.bytesOf 36) && Nat.blt 0 (szT P 36)) = true) ∧
      (c16L = c16L ∧ AtR (M16 (x :: l) 0) 15 (H16 (mv kd i t ty (.lst (lvS (x :: l)) none)) (List.replicate (lvS (x :: l)).length zmv)))) ∧
      (AV.agg [.int .i64 kd, .int .i64 i, .str t, .str ty, .sl 5 9 0 (lvS (x :: l)).length] = .agg [.int .i64 kd, .int .i64 i, .str t, .str ty, .sl 5 9 0 (lvS (x :: l)).length] ∧ some (Blk.row 5 (lv (x :: l))) = some (.row 5 (lv (x :: l))))) := by kernel_rfl

theorem ys16_closed (l : List Int) (k : Nat) : closedV.closedVs (ys16 l k) = true := by
  have app : ∀ (a b : List AV), closedV.closedVs a = true → closedV.closedVs b = true → closedV.closedVs (a ++ b) = true := by
    intro a b ha hb
    induction a with
    | nil => exact hb
    | cons x a ih =>
      simp only [closedV.closedVs, Bool.and_eq_true] at ha
      simp only [List.cons_append, closedV.closedVs, Bool.and_eq_true]
      exact ⟨ha.1, ih ha.2⟩
  refine app _ _ ?_ ?_
  · unfold lv
    rw [← List.map_take]
    generalize l.take k = q
    induction q with
    | nil => rfl
    | cons x q ih => simp only [List.map_cons, closedV.closedVs, Bool.and_eq_true]; exact ⟨rfl, ih⟩
  · generalize l.length - k = n
    induction n with
    | zero => rfl
    | succ n ih => simp only [List.replicate_succ, closedV.closedVs, Bool.and_eq_true]; exact ⟨rfl, ih⟩

theorem loop16 (pf : PF P (cfgOf m ext0)) (kd i : Int) (t ty : List UInt8) (l : List Int) (hl : l.length < 1048576) : ∀ (n k : Nat), n + k = l.length →
    ∃ tr' ts' σ', RoundsN P (cfgOf m ext0) c16L (stOf 15 (H16 (mv kd i t ty (.lst (lvS l) none)) (ys16 l 0))) ⟨tsU 33 (M16 l k), []⟩ (stOf 15 (H16 (mv kd i t ty (.lst (lvS l) none)) (ys16 l k))) (.exit 0) ⟨ts', []⟩ σ' ∧ TR 33 tr' ts' ∧
      At (E16 l) 16 (H16 (mv kd i t ty (.lst (lvS l) none)) (lv l)) tr' [] σ' := by
  intro n
  induction n with
  | zero =>
    intro k hk
    have hk : k = l.length := by omega
    subst hk
    have hc : ltI (l.length : Int) (lvS l).length = false := by simp [ltI_eq, lvS_len]
    rw [ys16_all]
    obtain ⟨fl, tr', ts', ds', σ', h1, h2, h3, h4⟩ := code_runs pf (mode0 m ext0) forceL_good (trU 33 (M16 l l.length)) (Q.of_eq (exit16 (m := m) (mv kd i t ty (.lst (lvS l) none)) (lv l) l l.length) ⟨⟨trivial, hc⟩, rfl, atR _ _ _⟩)
    subst h3
    obtain rfl := h4.1
    exact ⟨tr', ts', σ', .out (by simp) h1, h2, h4⟩
  | succ n ih =>
    intro k hk
    have hlt : k < l.length := by omega
    have c1 : ltI (k : Int) (lvS l).length = true := by simp [ltI_eq, lvS_len, hlt]
    have c2 : (decide (0 ≤ (k : Int)) && decide ((k : Int) < (lvS l).length) && !(Nat.beq (szT P 36) 0)) = true := by rw [sz36]; simp [lvS_len, hlt]
    have c3 : (lvS l)[(k : Int).toNat]? = some (leafS l[k]) := by simpa using lvS_get hlt
    have c4 : (decide (0 ≤ (k : Int)) && decide ((k : Int) < (lvS l).length) && Nat.beq 5 (szT P 36) && !(Nat.beq (szT P 36) 0)) = true := by rw [sz36, sz36v]; simp [lvS_len, hlt]
    have c5 : (ys16 l k)[0 + (k : Int).toNat]? = some zmv := by simpa using ys16_get hlt
    obtain ⟨fl, tr', ts', ds', σ', h1, h2, h3, hds, h5, h6, h7⟩ := code_runs pf (mode0 m ext0) forceL_good (trU 33 (M16 l k))
      (Q.of_eq (iter16 (m := m) (.int .i64 kd) (.int .i64 i) (.str t) (.str ty) (.lst (lvS l) none) (ys16 l k) l k l[k]) ⟨⟨⟨⟨⟨⟨trivial, c1⟩, c2⟩, c3⟩, c4⟩, c5⟩, rfl, rfl, rfl, refl_ok _, reflB_ok _⟩)
    subst h3 hds
    rw [iRoom (by omega)] at h6
    have e0 : 0 + (k : Int).toNat = k := by simp
    rw [e0, ys16_set hlt] at h7
    obtain ⟨tr2, ts2, σ2, g1, g2, g3⟩ := ih (k + 1) (by omega)
    refine ⟨tr2, ts2, σ2, .more h1 ?_ g1, g2, g3⟩
    obtain ⟨a1, a2, a3, a4⟩ := h6
    refine back_to (l := M16 l ((k + 1 : Nat) : Int)) h2 rfl h5 ⟨?_, ?_, ?_, lives_closed _ a4 ⟨by simp [closedV, lvS_closed], rfl, rfl, trivial⟩⟩ (fun j B hj => ?_) _
    · rw [a1]; rfl
    · rw [a2]; rfl
    · rw [a3]; rfl
    · simp only [H16, mkHeap, Tr.get_set] at hj
      split at hj
      · rename_i e
        subst e
        obtain rfl := Option.some.inj hj
        refine ⟨0, _, rfl, h7.1, ?_⟩
        have : renV (keepOld 15) (mv kd i t ty (.lst (lvS l) none)) = some (mv kd i t ty (.lst (lvS l) none)) := renV_closed _ _ (by simp [mv, closedV, closedV.closedVs, lvS_closed])
        have h0 : renVs (keepOld 15) [mv kd i t ty (.lst (lvS l) none)] = some [mv kd i t ty (.lst (lvS l) none)] := by simp only [renVs, this]
        show (renVs (keepOld 15) [mv kd i t ty (.lst (lvS l) none)]).map (Blk.row 5) = _
        rw [h0]; rfl
      · split at hj
        · rename_i e
          subst e
          obtain rfl := Option.some.inj hj
          exact ⟨1, _, rfl, h7.2.1, rfl⟩
        · split at hj
          · rename_i e
            subst e
            obtain rfl := Option.some.inj hj
            refine ⟨9, _, rfl, h7.2.2.1, ?_⟩
            simp only [renB, renVs_closed _ _ (ys16_closed l (k + 1)), Option.map_some]
          · simp [Tr.get] at hj

/-- copied, of a list of ints' values: a new row. -/
theorem copied_runs (pf : PF P (cfgOf m ext0)) (kd i : Int) (t ty : List UInt8) (x : Int) (l : List Int) (hl : (x :: l).length < 1048576) :
    ∃ σ', CallRuns P (cfgOf m ext0) 16 [mv kd i t ty (.lst (lvS (x :: l)) none)] none0 (.ret (.agg [.int .i64 kd, .int .i64 i, .str t, .str ty, .sl 5 9 0 (lvS (x :: l)).length]) σ') ∧ σ'.get 9 = some (.row 5 (lv (x :: l))) := by
  have hL : LoopLem m 33 c16L (M16 (x :: l) 0) 15 (H16 (mv kd i t ty (.lst (lvS (x :: l)) none)) (List.replicate (lvS (x :: l)).length zmv)) 0 (E16 (x :: l)) 16 (H16 (mv kd i t ty (.lst (lvS (x :: l)) none)) (lv (x :: l))) := by
    have := loop16 pf kd i t ty (x :: l) hl (x :: l).length 0 (by simp)
    rw [ys16_none] at this
    exact this
  have hc : (decide (0 ≤ ((lvS (x :: l)).length : Int)) && decide (((lvS (x :: l)).length : Int) = (lvS (x :: l)).length) && decide (((lvS (x :: l)).length : Int).toNat * P.bytesOf 36 ≤ limit) && Nat.blt 0 (P.bytesOf 36) && Nat.blt 0 (szT P 36)) = true := by
    rw [by36v, sz36v]
    have h1 : (lvS (x :: l)).length * 72 ≤ limit := by rw [lvS_len]; unfold limit; omega
    have h2 : decide (((lvS (x :: l)).length : Int).toNat * 72 ≤ limit) = true := by simpa using h1
    rw [h2]
    simp
    try decide
  obtain ⟨v, σ', h1, h2, h3⟩ := wfun_runs pf (mode0 m ext0) forceL_good (hookAt_ok hL rfl rfl) f16 (by simp) (Q.of_eq (all16 (m := m) kd i t ty x l (fun v σ => True)) ⟨⟨⟨trivial, hc⟩, rfl, atR _ _ _⟩, rfl, rfl⟩)
  subst h2
  exact ⟨σ', h1, h3⟩
end
end Go.Proofs.Ec

set_option linter.unusedVariables false
set_option linter.unusedSimpArgs false
namespace Go.Proofs.Ec
open Go Go.Am

noncomputable def c8L : Code := ((body 8).at [false,false,true,false,true]).cl
theorem f8 : (P.funcs[8]?).map (fun fn => (fn.body, fn.ntmps, fn.results.toList)) = some (some (body 8), 60, [.tmp 4]) := by kernel_rfl
def M8 (k : Int) : List (Nat × AV) := [(2, .ptr 0 0 0), (3, .ptr 1 0 0), (5, .int .i64 k)]
def H8 (l : List Int) : List (Nat × Blk) := [(0, .row 5 [mv 4 0 [] tyL (.lst (lvS l) none)]), (1, .row 5 [mv 4 0 [] tyL (.lst (lvS l) none)])]

noncomputable def c7L : Code := ((body 7).at [false,false,true,false,true]).cl
theorem f7 : (P.funcs[7]?).map (fun fn => (fn.body, fn.ntmps, fn.results.toList)) = some (some (body 7), 23, [.cell 2 36]) := by kernel_rfl
theorem sz3v : szT P 3 = 1 := by kernel_rfl
def M7 (k : Int) (xs : List AV) : List (Nat × AV) := [(0, .lst xs none), (2, .ptr 0 0 0), (3, .ptr 2 0 0), (4, .int .i64 k)]
def H7 (ks : AV) : List (Nat × Blk) := [(0, .row 5 [mv 0 0 [] [] .nils]), (2, .row 5 [mv 4 0 [] tyL ks])]
def R7 (ys : List AV) : List (Nat × Blk) := [(0, .row 5 [mv 0 0 [] [] .nils]), (2, .row 5 [mv 4 0 [] tyL (.sl 5 5 0 ys.length)]), (5, .row 5 ys)]
def is (l : List Int) : List AV := l.map (.int .i64)
theorem is_len (l : List Int) : (is l).length = l.length := by simp [is]
theorem is_closed : ∀ l, closedV.closedVs (is l) = true
  | [] => rfl
  | x :: l => by
    have := is_closed l
    simp only [is, List.map_cons, closedV.closedVs, Bool.and_eq_true] at this ⊢
    exact ⟨rfl, this⟩
theorem lv_closed : ∀ l, closedV.closedVs (lv l) = true
  | [] => rfl
  | x :: l => by
    have := lv_closed l
    simp only [lv, List.map_cons, closedV.closedVs, Bool.and_eq_true] at this ⊢
    exact ⟨rfl, this⟩
theorem lv_snoc (l : List Int) (x : Int) : (lv l).take (lv l).length ++ [leaf x] = lv (l ++ [x]) := by rw [List.take_length]; simp [lv]
theorem sz3 : Nat.beq (szT P 3) 0 = false := by kernel_rfl
theorem take_snoc {l : List Int} {k : Nat} (h : k < l.length) : l.take k ++ [l[k]] = l.take (k + 1) := by rw [List.take_add_one]; simp [h]

section
variable {m : Int}

theorem iter8 (l : List Int) (k : Nat) (x : Int) : (((ecode P (cfgOf m ext0) forceL 60 false c8L).run (ecall P (cfgOf m ext0) forceL 20) 20 (mkTrU 60 (M8 k)) [] (stOf 39 (H8 l))
    (endS fun fl tr ds σ => fl = .norm ∧ ds = [] ∧ σ.wp = 0 ∧ Has tr (M8 (IntKind.i64.wrap ((k : Int) + 1))) ∧ HasB σ (H8 l))).run [(3, .bool true), (4, .bool true), (0, .nth (leafS x)), (5, .bool true), (0, .nth (leafS x)), (23, .bool false)] True) =
    (((((((True ∧ ltI (k : Int) (lvS l).length = true) ∧ (decide (0 ≤ (k : Int)) && decide ((k : Int) < (lvS l).length) && !(Nat.beq (szT P 36) 0)) = true) ∧ (lvS l)[(k : Int).toNat]? = some (leafS x)) ∧
      (decide (0 ≤ (k : Int)) && decide ((k : Int) < (lvS l).length) && !(Nat.beq (szT P 36) 0)) = true) ∧ (lvS l)[(k : Int).toNat]? = some (leafS x)) ∧ (!(eqI x x)) = false) ∧
      (Flow.norm = .norm ∧ ([] : DS) = [] ∧ (0 : Nat) = 0 ∧ Refl (M8 (IntKind.i64.wrap ((k : Int) + 1))) ∧ ReflB (H8 l))) := by kernel_rfl

theorem exit8 (l : List Int) (k : Nat) : (((ecode P (cfgOf m ext0) forceL 60 false c8L).run (ecall P (cfgOf m ext0) forceL 20) 20 (mkTrU 60 (M8 k)) [] (stOf 39 (H8 l))
    (endS fun fl tr ds σ => fl = .exit 0 ∧ At [] 44 [] tr ds σ)).run [(3, .bool false)] True) = ((True ∧ ltI (k : Int) (lvS l).length = false) ∧ (Flow.exit 0 = .exit 0 ∧ AtR [] 44 [])) := by kernel_rfl

theorem all8 (l : List Int) (T : AV → Prop) : ((wfun P (cfgOf m ext0) forceL 60 false (hookAt 60 c8L (M8 0) 39 (H8 l) 0 [] 44 []) 20 20 (body 8) [.tmp 4] [mv 4 0 [] tyL (.lst (lvS l) none), mv 4 0 [] tyL (.lst (lvS l) none)] (fun v σ => T v)).run [(61, .bool false)] True) =
    (((True ∧ (!(eqI ((lvS l).length : Int) (lvS l).length)) = false) ∧ (c8L = c8L ∧ AtR (M8 0) 39 (H8 l))) ∧ T (.bool true)) := by kernel_rfl

theorem first7 (xs : List AV) (x : Int) : (((ecode P (cfgOf m ext0) forceL 23 true c7L).run (ecall P (cfgOf m ext0) forceL 20) 20 (mkTrU 23 (M7 0 xs)) [] (stOf 5 (H7 .nils))
    (endS fun fl tr ds σ => fl = .norm ∧ ds = [] ∧ σ.wp = 0 ∧ Has tr (M7 (IntKind.i64.wrap ((0 : Int) + 1)) xs) ∧ HasB σ (H7 (.sl 5 17 0 1) ++ [(17, .row 5 [leaf x])]))).run [(0, .bool true), (4, .bool true), (0, .nth (.int .i64 x))] True) =
    ((((True ∧ ltI (0 : Int) xs.length = true) ∧ (decide (0 ≤ (0 : Int)) && decide ((0 : Int) < xs.length) && !(Nat.beq (szT P 3) 0)) = true) ∧ xs[(0 : Int).toNat]? = some (.int .i64 x)) ∧
      (Flow.norm = .norm ∧ ([] : DS) = [] ∧ (0 : Nat) = 0 ∧ Refl (M7 (IntKind.i64.wrap ((0 : Int) + 1)) xs) ∧ ReflB (H7 (.sl 5 17 0 1) ++ [(17, .row 5 [leaf x])]))) := by kernel_rfl

theorem iter7 (xs ys : List AV) (k : Nat) (x : Int) : (((ecode P (cfgOf m ext0) forceL 23 true c7L).run (ecall P (cfgOf m ext0) forceL 20) 20 (mkTrU 23 (M7 k xs)) [] (stOf 6 (R7 ys))
    (endS fun fl tr ds σ => fl = .norm ∧ ds = [] ∧ σ.wp = 0 ∧ Has tr (M7 (IntKind.i64.wrap ((k : Int) + 1)) xs) ∧ HasB σ (H7 (.sl 5 18 0 (ys.length + 1)) ++ [(18, .row 5 (ys.take ys.length ++ [leaf x]))]))).run [(0, .bool true), (4, .bool true), (0, .nth (.int .i64 x)), (7, .bool true)] True) =
    (((((True ∧ ltI (k : Int) xs.length = true) ∧ (decide (0 ≤ (k : Int)) && decide ((k : Int) < xs.length) && !(Nat.beq (szT P 3) 0)) = true) ∧ xs[(k : Int).toNat]? = some (.int .i64 x)) ∧
      (Nat.beq 5 (szT P 36) && Nat.beq 5 (szT P 36) && Nat.beq 0 0 && Nat.ble ys.length ys.length && Nat.ble 0 5 && Nat.ble ((ys.length + (0 + 1)) * P.bytesOf 36) limit && !(Nat.beq 5 18)) = true) ∧
      (Flow.norm = .norm ∧ ([] : DS) = [] ∧ (0 : Nat) = 0 ∧ Refl (M7 (IntKind.i64.wrap ((k : Int) + 1)) xs) ∧ ReflB (H7 (.sl 5 18 0 (ys.length + 1)) ++ [(18, .row 5 (ys.take ys.length ++ [leaf x]))]))) := by kernel_rfl

theorem exit7 (xs ys : List AV) (k : Nat) : (((ecode P (cfgOf m ext0) forceL 23 true c7L).run (ecall P (cfgOf m ext0) forceL 20) 20 (mkTrU 23 (M7 k xs)) [] (stOf 6 (R7 ys))
    (endS fun fl tr ds σ => fl = .exit 0 ∧ At [(2, .ptr 0 0 0), (3, .ptr 2 0 0)] 10 (R7 ys) tr ds σ)).run [(0, .bool false)] True) = ((True ∧ ltI (k : Int) xs.length = false) ∧ (Flow.exit 0 = .exit 0 ∧ AtR [(2, .ptr 0 0 0), (3, .ptr 2 0 0)] 10 (R7 ys))) := by kernel_rfl

theorem all7 (xs ys : List AV) (T : AV → ASt → Prop) : ((wfun P (cfgOf m ext0) forceL 23 true (hookAt 23 c7L (M7 0 xs) 5 (H7 .nils) 0 [(2, .ptr 0 0 0), (3, .ptr 2 0 0)] 10 (R7 ys)) 20 20 (body 7) [.cell 2 36] [.lst xs none]
      (fun v σ => v = .agg [.int .i64 4, .int .i64 0, .str [], .str tyL, .sl 5 5 0 ys.length] ∧ σ.get 5 = some (.row 5 ys))).run [] True) =
    ((True ∧ (c7L = c7L ∧ AtR (M7 0 xs) 5 (H7 .nils))) ∧ (AV.agg [.int .i64 4, .int .i64 0, .str [], .str tyL, .sl 5 5 0 ys.length] = .agg [.int .i64 4, .int .i64 0, .str [], .str tyL, .sl 5 5 0 ys.length] ∧ some (Blk.row 5 ys) = some (.row 5 ys))) := by kernel_rfl

theorem loop8 (pf : PF P (cfgOf m ext0)) (l : List Int) (hl : l.length < 1048576) : ∀ (n k : Nat), n + k = l.length →
    ∃ tr' ts' σ', RoundsN P (cfgOf m ext0) c8L (stOf 39 (H8 l)) ⟨tsU 60 (M8 k), []⟩ (stOf 39 (H8 l)) (.exit 0) ⟨ts', []⟩ σ' ∧ TR 60 tr' ts' ∧ At [] 44 [] tr' [] σ' := by
  intro n
  induction n with
  | zero =>
    intro k hk
    have hc : ltI (k : Int) (lvS l).length = false := by simp [ltI_eq, lvS_len]; omega
    obtain ⟨fl, tr', ts', ds', σ', h1, h2, h3, h4⟩ := code_runs pf (mode0 m ext0) forceL_good (trU 60 (M8 k)) (Q.of_eq (exit8 (m := m) l k) ⟨⟨trivial, hc⟩, rfl, atR _ _ _⟩)
    subst h3
    obtain rfl := h4.1
    exact ⟨tr', ts', σ', .out (by simp) h1, h2, h4⟩
  | succ n ih =>
    intro k hk
    have hlt : k < l.length := by omega
    have c1 : ltI (k : Int) (lvS l).length = true := by simp [ltI_eq, lvS_len, hlt]
    have c2 : (decide (0 ≤ (k : Int)) && decide ((k : Int) < (lvS l).length) && !(Nat.beq (szT P 36) 0)) = true := by rw [sz36]; simp [lvS_len, hlt]
    have c3 : (lvS l)[(k : Int).toNat]? = some (leafS l[k]) := by simpa using lvS_get hlt
    have c4 : (!(eqI l[k] l[k])) = false := by simp [eqI_eq]
    obtain ⟨fl, tr', ts', ds', σ', h1, h2, h3, hds, h5, h6, h7⟩ := code_runs pf (mode0 m ext0) forceL_good (trU 60 (M8 k))
      (Q.of_eq (iter8 (m := m) l k l[k]) ⟨⟨⟨⟨⟨⟨⟨trivial, c1⟩, c2⟩, c3⟩, c2⟩, c3⟩, c4⟩, rfl, rfl, rfl, refl_ok _, reflB_ok _⟩)
    subst h3 hds
    rw [iRoom (by omega)] at h6
    obtain ⟨tr2, ts2, σ2, g1, g2, g3⟩ := ih (k + 1) (by omega)
    refine ⟨tr2, ts2, σ2, .more h1 ?_ g1, g2, g3⟩
    refine back_to (l := M8 ((k + 1 : Nat) : Int)) h2 rfl h5 ⟨?_, ?_, lives_closed _ h6.2.2 ⟨rfl, trivial⟩⟩ (fun j B hj => ?_) _
    · rw [h6.1]; rfl
    · rw [h6.2.1]; rfl
    · have hV : renVs (keepOld 39) [mv 4 0 [] tyL (.lst (lvS l) none)] = some [mv 4 0 [] tyL (.lst (lvS l) none)] := renVs_closed _ _ (by simp [mv, closedV, closedV.closedVs, lvS_closed])
      simp only [H8, mkHeap, Tr.get_set] at hj
      split at hj
      · rename_i e
        subst e
        obtain rfl := Option.some.inj hj
        refine ⟨0, _, rfl, h7.1, ?_⟩
        show (renVs (keepOld 39) [mv 4 0 [] tyL (.lst (lvS l) none)]).map (Blk.row 5) = _
        rw [hV]; rfl
      · split at hj
        · rename_i e
          subst e
          obtain rfl := Option.some.inj hj
          refine ⟨1, _, rfl, h7.2.1, ?_⟩
          show (renVs (keepOld 39) [mv 4 0 [] tyL (.lst (lvS l) none)]).map (Blk.row 5) = _
          rw [hV]; rfl
        · simp [Tr.get] at hj

theorem same_runs (pf : PF P (cfgOf m ext0)) (l : List Int) (hl : l.length < 1048576) : ∃ σ', CallRuns P (cfgOf m ext0) 8 [mv 4 0 [] tyL (.lst (lvS l) none), mv 4 0 [] tyL (.lst (lvS l) none)] none0 (.ret (.bool true) σ') := by
  have hL : LoopLem m 60 c8L (M8 0) 39 (H8 l) 0 [] 44 [] := loop8 pf l hl l.length 0 (by simp)
  have hc : (!(eqI ((lvS l).length : Int) (lvS l).length)) = false := by simp [eqI_eq]
  obtain ⟨v, σ', h1, h2⟩ := wfun_runs pf (mode0 m ext0) forceL_good (hookAt_ok hL rfl rfl) f8 (by simp) (Q.of_eq (all8 (m := m) l (fun v => v = .bool true)) ⟨⟨⟨trivial, hc⟩, rfl, atR _ _ _⟩, rfl⟩)
  subst h2
  exact ⟨σ', h1⟩

/-- One round of Ints, back to its names. -/
theorem back7 {tr : Tr AV} {ts : List AV} {xs ys : List AV} {k : Int} {σ' : ASt} {r : Nat} (hr : 5 ≤ r) (hx : closedV.closedVs xs = true) (hy : closedV.closedVs ys = true) (hT : TR 23 tr ts) (hw : σ'.wp = 0) (hh : Has tr (M7 k xs)) (hb : HasB σ' (H7 (.sl 5 r 0 ys.length) ++ [(r, .row 5 ys)])) :
    Renames (stOf 5 (H7 .nils)).next (stOf 5 (H7 .nils)).wp (stOf 5 (H7 .nils)) ⟨ts, []⟩ σ' ⟨tsU 23 (M7 k xs), []⟩ (stOf 6 (R7 ys)) := by
  have hπ : keepOne 5 r r = some 5 := by
    have h1 : Nat.blt r 5 = false := by
      cases h : Nat.blt r 5 with
      | false => rfl
      | true => have : r < 5 := by simpa [Nat.blt_eq] using h
                omega
    have h2 : Nat.beq r r = true := Nat.beq_refl r
    simp [keepOne, h1, h2]
  refine renames_of (l := M7 k xs) hT (below rfl) (keepOne_names 5 r hr) ⟨?_, ?_, ?_, ?_, trivial⟩ (fun j B hj => ?_) (by rw [hw]; rfl) (fun id h => absurd h (Nat.not_lt_zero _))
  · rw [hh.1]; exact renV_closed _ _ (by simpa [closedV] using hx)
  · rw [hh.2.1]; rfl
  · rw [hh.2.2.1]; rfl
  · rw [hh.2.2.2.1]; rfl
  · have hj : (mkHeap (R7 ys)).get j = some B := hj
    simp only [R7, mkHeap, Tr.get_set] at hj
    split at hj
    · rename_i e
      subst e
      obtain rfl := Option.some.inj hj
      exact ⟨0, _, rfl, hb.1, rfl⟩
    · split at hj
      · rename_i e
        subst e
        obtain rfl := Option.some.inj hj
        refine ⟨2, _, rfl, hb.2.1, ?_⟩
        show (renVs (keepOne 5 r) [mv 4 0 [] tyL (.sl 5 r 0 ys.length)]).map (Blk.row 5) = _
        simp only [renVs, mv, renV, hπ, Option.map_some]
      · split at hj
        · rename_i e
          subst e
          obtain rfl := Option.some.inj hj
          refine ⟨r, _, hπ, hb.2.2.1, ?_⟩
          show (renVs (keepOne 5 r) ys).map (Blk.row 5) = _
          rw [renVs_closed _ _ hy]; rfl
        · simp [Tr.get] at hj

theorem loop7 (pf : PF P (cfgOf m ext0)) (l : List Int) (hl : l.length < 1048576) : ∀ (n k : Nat), n + k = l.length → 
    ∃ tr' ts' σ', RoundsN P (cfgOf m ext0) c7L (stOf 5 (H7 .nils)) ⟨tsU 23 (M7 k (is l)), []⟩ (stOf 6 (R7 (lv (l.take k)))) (.exit 0) ⟨ts', []⟩ σ' ∧ TR 23 tr' ts' ∧ At [(2, .ptr 0 0 0), (3, .ptr 2 0 0)] 10 (R7 (lv l)) tr' [] σ' := by
  intro n
  induction n with
  | zero =>
    intro k hk
    have hk : k = l.length := by omega
    subst hk
    rw [List.take_length]
    have hc : ltI (l.length : Int) (is l).length = false := by simp [ltI_eq, is_len]
    obtain ⟨fl, tr', ts', ds', σ', h1, h2, h3, h4⟩ := code_runs pf (mode0 m ext0) forceL_good (trU 23 (M7 l.length (is l))) (Q.of_eq (exit7 (m := m) (is l) (lv l) l.length) ⟨⟨trivial, hc⟩, rfl, atR _ _ _⟩)
    subst h3
    obtain rfl := h4.1
    exact ⟨tr', ts', σ', .out (by simp) h1, h2, h4⟩
  | succ n ih =>
    intro k hk
    have hlt : k < l.length := by omega
    have c1 : ltI (k : Int) (is l).length = true := by simp [ltI_eq, is_len, hlt]
    have c2 : (decide (0 ≤ (k : Int)) && decide ((k : Int) < (is l).length) && !(Nat.beq (szT P 3) 0)) = true := by rw [sz3]; simp [is_len, hlt]
    have c3 : (is l)[(k : Int).toNat]? = some (.int .i64 l[k]) := by simp [is, hlt]
    have c4 : (Nat.beq 5 (szT P 36) && Nat.beq 5 (szT P 36) && Nat.beq 0 0 && Nat.ble (lv (l.take k)).length (lv (l.take k)).length && Nat.ble 0 5 && Nat.ble (((lv (l.take k)).length + (0 + 1)) * P.bytesOf 36) limit && !(Nat.beq 5 18)) = true := by
      rw [sz36v, by36v]
      have h1 : Nat.ble (lv (l.take k)).length (lv (l.take k)).length = true := by rw [Nat.ble_eq]; exact Nat.le_refl _
      have h2 : Nat.ble (((lv (l.take k)).length + (0 + 1)) * 72) limit = true := by rw [Nat.ble_eq, lv_len, List.length_take]; unfold limit; omega
      rw [h1, h2]
      rfl
    obtain ⟨fl, tr', ts', ds', σ', h1, h2, h3, hds, h5, h6, h7⟩ := code_runs pf (mode0 m ext0) forceL_good (trU 23 (M7 k (is l)))
      (Q.of_eq (iter7 (m := m) (is l) (lv (l.take k)) k l[k]) ⟨⟨⟨⟨⟨trivial, c1⟩, c2⟩, c3⟩, c4⟩, rfl, rfl, rfl, refl_ok _, reflB_ok _⟩)
    subst h3 hds
    rw [iRoom (by omega)] at h6
    rw [lv_snoc, take_snoc hlt] at h7
    obtain ⟨tr2, ts2, σ2, g1, g2, g3⟩ := ih (k + 1) (by omega)
    refine ⟨tr2, ts2, σ2, .more h1 (back7 (r := 18) (by decide) (is_closed l) (lv_closed _) h2 h5 h6 ?_) g1, g2, g3⟩
    have e : (lv (l.take (k + 1))).length = (lv (l.take k)).length + 1 := by simp only [lv_len, List.length_take]; omega
    rw [e]
    exact h7

/-- Ints, of a list that is not empty. -/
theorem ints_runs (pf : PF P (cfgOf m ext0)) (x : Int) (l : List Int) (hl : (x :: l).length < 1048576) :
    ∃ σ', CallRuns P (cfgOf m ext0) 7 [.lst (is (x :: l)) none] none0 (.ret (.agg [.int .i64 4, .int .i64 0, .str [], .str tyL, .sl 5 5 0 (lv (x :: l)).length]) σ') ∧ σ'.get 5 = some (.row 5 (lv (x :: l))) := by
  have c1 : ltI (0 : Int) (is (x :: l)).length = true := by simp [ltI_eq, is_len]
  have c2 : (decide (0 ≤ (0 : Int)) && decide ((0 : Int) < (is (x :: l)).length) && !(Nat.beq (szT P 3) 0)) = true := by rw [sz3]; simp [is_len]
  have c3 : (is (x :: l))[(0 : Int).toNat]? = some (.int .i64 x) := by simp [is]
  obtain ⟨fl, tr', ts', ds', σ', h1, h2, h3, hds, h5, h6, h7⟩ := code_runs pf (mode0 m ext0) forceL_good (trU 23 (M7 0 (is (x :: l))))
    (Q.of_eq (first7 (m := m) (is (x :: l)) x) ⟨⟨⟨⟨trivial, c1⟩, c2⟩, c3⟩, rfl, rfl, rfl, refl_ok _, reflB_ok _⟩)
  subst h3 hds
  have e1 : IntKind.i64.wrap ((0 : Int) + 1) = ((1 : Nat) : Int) := by rw [IntWalk.i64_in _ (by omega)]; rfl
  rw [e1] at h6
  obtain ⟨tr2, ts2, σ2, g1, g2, g3⟩ := loop7 pf (x :: l) hl l.length 1 (by simp)
  have e2 : lv ((x :: l).take 1) = [leaf x] := rfl
  rw [e2] at g1
  have hL : LoopLem m 23 c7L (M7 0 (is (x :: l))) 5 (H7 .nils) 0 [(2, .ptr 0 0 0), (3, .ptr 2 0 0)] 10 (R7 (lv (x :: l))) :=
    ⟨tr2, ts2, σ2, .more h1 (back7 (r := 17) (ys := [leaf x]) (by decide) (is_closed _) rfl h2 h5 h6 h7) g1, g2, g3⟩
  obtain ⟨v, σ3, r1, r2, r3⟩ := wfun_runs pf (mode0 m ext0) forceL_good (hookAt_ok hL rfl rfl) f7 (by simp) (Q.of_eq (all7 (m := m) (is (x :: l)) (lv (x :: l)) (fun v σ => True)) ⟨⟨trivial, rfl, atR _ _ _⟩, rfl, rfl⟩)
  subst r2
  exact ⟨σ3, r1, r3⟩
end
end Go.Proofs.Ec
