/-
MiniNames: the functions on texts: contracts, letters, loops that go on while.
MiniNames: names, types, elements.
-/
import Derived.Test.YtcphlgkfboafoaaGreatDoorM6
set_option linter.unusedVariables false
set_option linter.unusedSimpArgs false
namespace Go.Proofs.Mn
open Go Go.Am

/-- A contract of any function of closed values. -/
structure ConG where
  fid : Nat
  ok : List AV → Bool
  f : List AV → AV
noncomputable def extG : List ConG → ExtF
  | [] => ext0
  | c :: r => fun g => cond (Nat.beq g c.fid) (fun args _ => some (c.ok args, c.f args, [])) (extG r g)
def HoldsG (m : Int) (c : ConG) : Prop := ∀ args, c.ok args = true → ∀ σ, CallRuns P (cfgOf m ext0) c.fid args σ (.ret (c.f args) σ)
theorem extG_runs {m : Int} {f : FuncId} {args : List AV} {σ : ASt} {v : AV} {bs : List Blk} : ∀ {cs : List ConG}, (∀ c ∈ cs, HoldsG m c) → extG cs f args σ = some (true, v, bs) → CallRuns P (cfgOf m ext0) f args σ (.ret v (addB σ bs))
  | [], _, h => ext0_runs h
  | c :: r, hc, h => by
    unfold extG at h
    cases hb : Nat.beq f c.fid with
    | false =>
      rw [hb] at h
      simp only [cond_false] at h
      exact extG_runs (fun c h => hc c (List.mem_cons_of_mem _ h)) h
    | true =>
      rw [hb] at h
      simp only [cond_true, Option.some.injEq, Prod.mk.injEq] at h
      obtain rfl := Nat.eq_of_beq_eq_true hb
      obtain ⟨h1, rfl, rfl⟩ := h
      exact hc c List.mem_cons_self _ h1 σ
theorem pf_G {m : Int} {cs : List ConG} (h : ∀ c ∈ cs, HoldsG m c) : PF P (cfgOf m (extG cs)) := pf_of fun f args σ v bs he => extG_runs h he
theorem pf_G0 {m : Int} : PF P (cfgOf m (extG [])) := pf_G fun c h => by cases h
theorem pf_G1 {m : Int} {c : ConG} (h : HoldsG m c) : PF P (cfgOf m (extG [c])) := pf_G fun d hd => by rw [List.mem_singleton.1 hd]; exact h
theorem pf_G2 {m : Int} {c d : ConG} (h : HoldsG m c) (h' : HoldsG m d) : PF P (cfgOf m (extG [c, d])) := pf_G fun x hx => by
  simp only [List.mem_cons, List.mem_nil_iff, or_false] at hx
  rcases hx with rfl | rfl
  · exact h
  · exact h'
theorem pf_G3 {m : Int} {c d f : ConG} (h : HoldsG m c) (h' : HoldsG m d) (h'' : HoldsG m f) : PF P (cfgOf m (extG [c, d, f])) := pf_G fun x hx => by
  simp only [List.mem_cons, List.mem_nil_iff, or_false] at hx
  rcases hx with rfl | rfl | rfl
  · exact h
  · exact h'
  · exact h''

def okC1 : List AV → Bool
  | [.int .u8 _] => true
  | _ => false
def fC1 (p : Int → Bool) : List AV → AV
  | [.int .u8 c] => .bool (p c)
  | _ => .undef
def okS1 (p : List UInt8 → Bool) : List AV → Bool
  | [.str s] => p s
  | _ => false
def fS1 (p : List UInt8 → Bool) : List AV → AV
  | [.str s] => .bool (p s)
  | _ => .undef
def okS2 (p : List UInt8 → List UInt8 → Bool) : List AV → Bool
  | [.str s, .str t] => p s t
  | _ => false
def fS2 (p : List UInt8 → List UInt8 → Bool) : List AV → AV
  | [.str s, .str t] => .bool (p s t)
  | _ => .undef
def okW (p : List UInt8 → Bool) : List AV → Bool
  | [.str s, .int .i64 n] => p s && eqI n 0
  | _ => false
def fW (p : List UInt8 → Int) : List AV → AV
  | [.str s, .int .i64 n] => .int .i64 (p s)
  | _ => .undef
theorem holdsC1 {m : Int} {e : ExtF} {f : FuncId} {p : Int → Bool} (h : ∀ c, ∃ σ', CallRuns P (cfgOf m e) f [.int .u8 c] none0 (.ret (.bool (p c)) σ')) : HoldsG m ⟨f, okC1, fC1 p⟩ := by
  intro args hok σ
  change okC1 args = true at hok
  unfold okC1 at hok
  split at hok
  · rename_i c
    obtain ⟨σ', h1⟩ := h c
    exact under (CallRuns.pure (fu := 0) (globC m e) h1 rfl rfl σ)
  · cases hok
theorem holdsS1 {m : Int} {e : ExtF} {f : FuncId} {o p : List UInt8 → Bool} (h : ∀ s, o s = true → ∃ σ', CallRuns P (cfgOf m e) f [.str s] none0 (.ret (.bool (p s)) σ')) : HoldsG m ⟨f, okS1 o, fS1 p⟩ := by
  intro args hok σ
  change okS1 o args = true at hok
  unfold okS1 at hok
  split at hok
  · rename_i s
    obtain ⟨σ', h1⟩ := h s hok
    exact under (CallRuns.pure (fu := 0) (globC m e) h1 rfl rfl σ)
  · cases hok
theorem holdsS2 {m : Int} {e : ExtF} {f : FuncId} {o p : List UInt8 → List UInt8 → Bool} (h : ∀ s t, o s t = true → ∃ σ', CallRuns P (cfgOf m e) f [.str s, .str t] none0 (.ret (.bool (p s t)) σ')) : HoldsG m ⟨f, okS2 o, fS2 p⟩ := by
  intro args hok σ
  change okS2 o args = true at hok
  unfold okS2 at hok
  split at hok
  · rename_i s t
    obtain ⟨σ', h1⟩ := h s t hok
    exact under (CallRuns.pure (fu := 0) (globC m e) h1 rfl rfl σ)
  · cases hok
theorem holdsW {m : Int} {e : ExtF} {f : FuncId} {o : List UInt8 → Bool} {p : List UInt8 → Int} (h : ∀ s, o s = true → ∃ σ', CallRuns P (cfgOf m e) f [.str s, .int .i64 0] none0 (.ret (.int .i64 (p s)) σ')) : HoldsG m ⟨f, okW o, fW p⟩ := by
  intro args hok σ
  change okW o args = true at hok
  unfold okW at hok
  split at hok
  · rename_i s n
    simp only [Bool.and_eq_true, eqI_eq, decide_eq_true_eq] at hok
    obtain ⟨h0, rfl⟩ := hok
    obtain ⟨σ', h1⟩ := h s h0
    exact under (CallRuns.pure (fu := 0) (globC m e) h1 rfl rfl σ)
  · cases hok

def letterB (c : Int) : Bool := eqI c 95 || ((!ltI c 97 && !ltI 122 c) || (!ltI c 65 && !ltI 90 c))
def digitB (c : Int) : Bool := !ltI c 48 && !ltI 57 c
def g38 : ConG := ⟨38, okC1, fC1 letterB⟩
def g27 : ConG := ⟨27, okC1, fC1 letterB⟩
def g39 : ConG := ⟨39, okC1, fC1 digitB⟩
def g29 : ConG := ⟨29, okC1, fC1 digitB⟩
theorem run38 (m : Int) (c : Int) (v : AV) : ((ecall P (cfgOf m (extG [])) forceT 20 38 [.int .u8 c] none0 (endC (retIs v))).run [] True) =
    (bif eqI c 95 then (True ∧ AV.bool true = v) else (bif !ltI c 97 then (bif !ltI 122 c then (True ∧ AV.bool true = v) else (bif !ltI c 65 then (bif !ltI 90 c then (True ∧ AV.bool true = v) else (True ∧ AV.bool false = v)) else (True ∧ AV.bool false = v))) else (bif !ltI c 65 then (bif !ltI 90 c then (True ∧ AV.bool true = v) else (True ∧ AV.bool false = v)) else (True ∧ AV.bool false = v)))) := by kernel_rfl
theorem hg38 (m : Int) : HoldsG m g38 := holdsC1 (e := extG []) (f := 38) fun c => by
  refine runs_of pf_G0 (run38 m c _) ?_
  unfold letterB
  cases eqI c 95 <;> cases ltI c 97 <;> cases ltI 122 c <;> cases ltI c 65 <;> cases ltI 90 c <;> exact ⟨trivial, rfl⟩
theorem run27 (m : Int) (c : Int) (v : AV) : ((ecall P (cfgOf m (extG [])) forceT 20 27 [.int .u8 c] none0 (endC (retIs v))).run [] True) =
    (bif !ltI c 97 then (bif !ltI 122 c then (True ∧ AV.bool true = v) else (bif !ltI c 65 then (bif !ltI 90 c then (True ∧ AV.bool true = v) else (bif eqI c 95 then (True ∧ AV.bool true = v) else (True ∧ AV.bool false = v))) else (bif eqI c 95 then (True ∧ AV.bool true = v) else (True ∧ AV.bool false = v)))) else (bif !ltI c 65 then (bif !ltI 90 c then (True ∧ AV.bool true = v) else (bif eqI c 95 then (True ∧ AV.bool true = v) else (True ∧ AV.bool false = v))) else (bif eqI c 95 then (True ∧ AV.bool true = v) else (True ∧ AV.bool false = v)))) := by kernel_rfl
theorem hg27 (m : Int) : HoldsG m g27 := holdsC1 (e := extG []) (f := 27) fun c => by
  refine runs_of pf_G0 (run27 m c _) ?_
  unfold letterB
  cases eqI c 95 <;> cases ltI c 97 <;> cases ltI 122 c <;> cases ltI c 65 <;> cases ltI 90 c <;> exact ⟨trivial, rfl⟩
theorem run39 (m : Int) (c : Int) (v : AV) : ((ecall P (cfgOf m (extG [])) forceT 20 39 [.int .u8 c] none0 (endC (retIs v))).run [] True) =
    (bif !ltI c 48 then (bif !ltI 57 c then (True ∧ AV.bool true = v) else (True ∧ AV.bool false = v)) else (True ∧ AV.bool false = v)) := by kernel_rfl
theorem hg39 (m : Int) : HoldsG m g39 := holdsC1 (e := extG []) (f := 39) fun c => by
  refine runs_of pf_G0 (run39 m c _) ?_
  unfold digitB
  cases ltI c 48 <;> cases ltI 57 c <;> exact ⟨trivial, rfl⟩
theorem run29 (m : Int) (c : Int) (v : AV) : ((ecall P (cfgOf m (extG [])) forceT 20 29 [.int .u8 c] none0 (endC (retIs v))).run [] True) =
    (bif !ltI c 48 then (bif !ltI 57 c then (True ∧ AV.bool true = v) else (True ∧ AV.bool false = v)) else (True ∧ AV.bool false = v)) := by kernel_rfl
theorem hg29 (m : Int) : HoldsG m g29 := holdsC1 (e := extG []) (f := 29) fun c => by
  refine runs_of pf_G0 (run29 m c _) ?_
  unfold digitB
  cases ltI c 48 <;> cases ltI 57 c <;> exact ⟨trivial, rfl⟩

/-- Does a text stand in another? -/
noncomputable def hasB (s t : List UInt8) : Bool := !ltI (idxB t 0 s) 0
noncomputable def g40 : ConG := ⟨40, okS2 (fun s _ => shortB s 100000), fS2 hasB⟩
theorem run40 (m : Int) (s t : List UInt8) (v : AV) : ((ecall P (cfgOf m (extG [])) forceT 20 40 [.str s, .str t] none0 (endC (retIs v))).run [] True) =
    (bif shortB s 100000 then (bif !ltI (idxB t 0 s) 0 then (True ∧ AV.bool true = v) else (True ∧ AV.bool false = v)) else False) := by kernel_rfl
theorem hg40 (m : Int) : HoldsG m g40 := holdsS2 (e := extG []) (f := 40) fun s t h => by
  refine runs_of pf_G0 (run40 m s t _) ?_
  rw [h]
  unfold hasB
  cases ltI (idxB t 0 s) 0 <;> exact ⟨trivial, rfl⟩
/-- Does a text begin with []? -/
def preL (s : List UInt8) : Bool := !ltI (s.length : Int) 2 && beqBytes (List.drop 0 (List.take 2 s)) [91, 93]
def g30 : ConG := ⟨30, okS2 (fun _ t => beqBytes t [91, 93]), fS2 (fun s _ => preL s)⟩
theorem run30 (m : Int) (s : List UInt8) (v : AV) : ((ecall P (cfgOf m (extG [])) forceT 20 30 [.str s, .str [91, 93]] none0 (endC (retIs v))).run [] True) =
    (bif !ltI (s.length : Int) 2 then (bif (decide ((0 : Int) ≤ 2) && decide ((2 : Int) ≤ (s.length : Int))) then (bif beqBytes (List.drop 0 (List.take 2 s)) [91, 93] then (True ∧ AV.bool true = v) else (True ∧ AV.bool false = v)) else False) else (True ∧ AV.bool false = v)) := by kernel_rfl
theorem bytes_eq {s t : List UInt8} (h : beqBytes s t = true) : s = t := by
  induction s generalizing t with
  | nil => cases t with
    | nil => rfl
    | cons => cases h
  | cons a s ih => cases t with
    | nil => cases h
    | cons b t =>
      simp only [beqBytes] at h
      cases hb : Nat.beq a.toNat b.toNat with
      | false => rw [hb] at h; cases h
      | true =>
        rw [hb] at h
        rw [ih h, UInt8.toNat_inj.1 (Nat.eq_of_beq_eq_true hb)]
theorem c_two {s : List UInt8} (h : ltI (s.length : Int) 2 = false) : (decide ((0 : Int) ≤ 2) && decide ((2 : Int) ≤ (s.length : Int))) = true := by
  rw [ltI_eq] at h
  simp at h ⊢
  exact h
theorem hg30 (m : Int) : HoldsG m g30 := holdsS2 (e := extG []) (f := 30) fun s t h => by
  obtain rfl := bytes_eq h
  refine runs_of pf_G0 (run30 m s _) ?_
  unfold preL
  cases h1 : ltI (s.length : Int) 2
  · rw [c_two h1]
    cases beqBytes (List.drop 0 (List.take 2 s)) [91, 93] <;> exact ⟨trivial, rfl⟩
  · exact ⟨trivial, rfl⟩

/-- A round's end: the next round, or out of the loop. -/
def GJ (Ln : List (Nat × AV)) (lE : List (Nat × AV)) (nxE : Nat) (want : Flow) : Flow → Tr AV → DS → ASt → Prop := fun fl tr ds σ =>
  fl = want ∧ match fl with
    | .norm => ds = [] ∧ σ.wp = 0 ∧ Has tr Ln ∧ HasB σ []
    | .exit _ => At lE nxE [] tr ds σ
    | _ => False
theorem whileLoop {m : Int} {e : ExtF} (pf : PF P (cfgOf m e)) {α : Type} {N nx ex nxE : Nat} {c : Code} {L Ln lE : α → List (Nat × AV)} {nxt : α → Option α} {fin : α → α} {μ : α → Nat} {inv : α → Prop}
    (hN : ∀ a, ((L a).map (·.1)).all (Nat.blt · N) = true) (hren : ∀ a, RenL (keepOld nx) (L a)) (hμ : ∀ a b, nxt a = some b → μ b < μ a) (hinv : ∀ a b, inv a → nxt a = some b → inv b) (hf0 : ∀ a, nxt a = none → fin a = a) (hf1 : ∀ a b, nxt a = some b → fin a = fin b)
    (hLn : ∀ a b, inv a → nxt a = some b → Ln a = L b)
    (step : ∀ a, inv a → ∃ hs, Q (((ecode P (cfgOf m e) forceT N false c).run (ecall P (cfgOf m e) forceT 20) 20 (mkTrU N (L a)) [] (stOf nx []) (endS (GJ (Ln a) (lE a) nxE (cond (nxt a).isSome .norm (.exit ex))))).run hs True)) :
    ∀ (d : Nat) (a : α), μ a ≤ d → inv a → LoopLem m e N c (L a) nx [] (.exit ex) (lE (fin a)) nxE [] := by
  intro d
  induction d with
  | zero =>
    intro a ha hi
    obtain ⟨hs, hq⟩ := step a hi
    obtain ⟨fl, tr', ts', ds', σ', h1, h2, h3, h4⟩ := code_runs pf (mode0 m e) forceT_good (trU N (L a)) hq
    cases hn : nxt a with
    | some b => have := hμ a b hn; omega
    | none =>
      rw [hn] at h3
      subst h3
      obtain rfl := h4.1
      rw [hf0 a hn]
      exact ⟨tr', ts', σ', .out (by simp) h1, h2, h4⟩
  | succ d ih =>
    intro a ha hi
    obtain ⟨hs, hq⟩ := step a hi
    obtain ⟨fl, tr', ts', ds', σ', h1, h2, h3, h4⟩ := code_runs pf (mode0 m e) forceT_good (trU N (L a)) hq
    cases hn : nxt a with
    | none =>
      rw [hn] at h3
      subst h3
      obtain rfl := h4.1
      rw [hf0 a hn]
      exact ⟨tr', ts', σ', .out (by simp) h1, h2, h4⟩
    | some b =>
      rw [hn] at h3
      subst h3
      obtain ⟨rfl, h5, h6, h7⟩ := h4
      rw [hLn a b hi hn] at h6
      have hrn : Renames (stOf nx []).next (stOf nx []).wp (stOf nx []) ⟨ts', []⟩ σ' ⟨tsU N (L b), []⟩ (stOf nx []) := by
        refine renames_of (l := L b) h2 (below (hN _)) (keepOld_names nx) (lives_ren h6 (hren _)) (fun j B h => ?_) (by rw [h5]; rfl) (fun id h => absurd h (Nat.not_lt_zero _))
        exact absurd (mkHeap_mem h) (by simp)
      rw [hf1 a b hn]
      have := hμ a b hn
      obtain ⟨tr2, ts2, σ2, g1, g2, g3⟩ := ih b (by omega) (hinv a b hi hn)
      exact ⟨tr2, ts2, σ2, .more h1 hrn g1, g2, g3⟩
end Go.Proofs.Mn

set_option linter.unusedVariables false
set_option linter.unusedSimpArgs false
namespace Go.Proofs.Mn
open Go Go.Am

def keyText : List UInt8 := [32, 98, 114, 101, 97, 107, 32, 99, 97, 115, 101, 32, 99, 104, 97, 110, 32, 99, 111, 110, 115, 116, 32, 99, 111, 110, 116, 105, 110, 117, 101, 32, 100, 101, 102, 97, 117, 108, 116, 32, 100, 101, 102, 101, 114, 32, 101, 108, 115, 101, 32, 102, 97, 108, 108, 116, 104, 114, 111, 117, 103, 104, 32, 102, 111, 114, 32, 102, 117, 110, 99, 32, 103, 111, 32, 103, 111, 116, 111, 32, 105, 102, 32, 105, 109, 112, 111, 114, 116, 32, 105, 110, 116, 101, 114, 102, 97, 99, 101, 32, 109, 97, 112, 32, 112, 97, 99, 107, 97, 103, 101, 32, 114, 97, 110, 103, 101, 32, 114, 101, 116, 117, 114, 110, 32, 115, 101, 108, 101, 99, 116, 32, 115, 116, 114, 117, 99, 116, 32, 115, 119, 105, 116, 99, 104, 32, 116, 121, 112, 101, 32, 118, 97, 114, 32, 97, 112, 112, 101, 110, 100, 32, 98, 111, 111, 108, 32, 102, 97, 108, 115, 101, 32, 105, 110, 116, 32, 108, 101, 110, 32, 115, 116, 114, 105, 110, 103, 32, 116, 114, 117, 101, 32]
def words : List (List UInt8) := [[98, 114, 101, 97, 107], [99, 97, 115, 101], [99, 104, 97, 110], [99, 111, 110, 115, 116], [99, 111, 110, 116, 105, 110, 117, 101], [100, 101, 102, 97, 117, 108, 116], [100, 101, 102, 101, 114], [101, 108, 115, 101], [102, 97, 108, 108, 116, 104, 114, 111, 117, 103, 104], [102, 111, 114], [102, 117, 110, 99], [103, 111], [103, 111, 116, 111], [105, 102], [105, 109, 112, 111, 114, 116], [105, 110, 116, 101, 114, 102, 97, 99, 101], [109, 97, 112], [112, 97, 99, 107, 97, 103, 101], [114, 97, 110, 103, 101], [114, 101, 116, 117, 114, 110], [115, 101, 108, 101, 99, 116], [115, 116, 114, 117, 99, 116], [115, 119, 105, 116, 99, 104], [116, 121, 112, 101], [118, 97, 114], [97, 112, 112, 101, 110, 100], [98, 111, 111, 108], [102, 97, 108, 115, 101], [105, 110, 116], [108, 101, 110], [115, 116, 114, 105, 110, 103], [116, 114, 117, 101], [95]]
def bt (k : Int) (s : List UInt8) : Int := ((s.getD k.toNat 0).toNat : Int)
/-- How many bytes a word has that begins here. -/
def wgo : Bool → List UInt8 → Nat
  | _, [] => 0
  | first, b :: r => cond (letterB (b.toNat : Int) || (!first && digitB (b.toNat : Int))) (wgo false r + 1) 0
def wordyN (s : List UInt8) : Int := (wgo true s : Int)
/-- Does the word go on at this place? -/
def contB (s : List UInt8) (a : Nat) : Bool := Nat.blt a s.length && (letterB (bt a s) || (ltI 0 a && digitB (bt a s)))
theorem drop_bt {s : List UInt8} {a : Nat} (h : a < s.length) : ∃ b, s.drop a = b :: s.drop (a + 1) ∧ bt a s = (b.toNat : Int) := by
  refine ⟨s[a], List.drop_eq_getElem_cons h, ?_⟩
  simp only [bt]
  simp [List.getD, h]
theorem first_eq (a : Nat) : (!Nat.beq a 0) = ltI 0 a := by
  rw [ltI_eq]
  cases a with
  | zero => rfl
  | succ n => simp [Nat.beq]
theorem cont_no {s : List UInt8} {a : Nat} (h : contB s a = false) : wgo (Nat.beq a 0) (s.drop a) = 0 := by
  by_cases hl : a < s.length
  · obtain ⟨b, h1, h2⟩ := drop_bt hl
    simp only [contB, h2] at h
    rw [show Nat.blt a s.length = true by simpa [Nat.blt_eq] using hl, Bool.true_and] at h
    rw [h1]
    simp only [wgo, first_eq, h, cond_false]
  · rw [List.drop_eq_nil_of_le (by omega)]
    rfl
theorem cont_yes {s : List UInt8} {a : Nat} (h : contB s a = true) : a < s.length ∧ wgo (Nat.beq a 0) (s.drop a) = wgo (Nat.beq (a + 1) 0) (s.drop (a + 1)) + 1 := by
  have hl : a < s.length := by
    simp only [contB, Bool.and_eq_true] at h
    simpa [Nat.blt_eq] using h.1
  refine ⟨hl, ?_⟩
  obtain ⟨b, h1, h2⟩ := drop_bt hl
  simp only [contB, h2] at h
  rw [show Nat.blt a s.length = true by simpa [Nat.blt_eq] using hl, Bool.true_and] at h
  rw [h1]
  simp only [wgo, first_eq, h, cond_true]
  rfl

noncomputable def c25 : Code := (body 25).at [false, false, true, true, true]
theorem f25 : (P.funcs[25]?).map (fun fn => (fn.body, fn.ntmps, fn.results.toList)) = some (some (body 25), 35, [.tmp 4]) := by kernel_rfl
def L25 (s : List UInt8) (k : Int) : List (Nat × AV) := [(0, .str s), (1, .int .i64 0), (5, .int .i64 k)]
theorem iter25 (m : Int) (le di : Int → Bool) (s : List UInt8) (k : Int) (want : Flow) : (((ecode P (cfgOf m (extG [⟨38, okC1, fC1 le⟩, ⟨39, okC1, fC1 di⟩])) forceT 35 false c25).run (ecall P (cfgOf m (extG [⟨38, okC1, fC1 le⟩, ⟨39, okC1, fC1 di⟩])) forceT 20) 20 (mkTrU 35 (L25 s k)) [] (stOf 2 []) (endS (GJ (L25 s (IntKind.i64.wrap (k + 1))) [(5, .int .i64 k)] 28 want))).run [] True) =
    (bif ltI (IntKind.i64.wrap (0 + k)) (s.length : Int) then (bif decide (0 ≤ (IntKind.i64.wrap (0 + k))) then (bif Nat.blt (IntKind.i64.wrap (0 + k)).toNat s.length then (bif le (bt (IntKind.i64.wrap (0 + k)) s) then (True ∧ (Flow.norm = want ∧ NormR (L25 s (IntKind.i64.wrap (k + 1))) [])) else (bif ltI 0 k then (bif decide (0 ≤ (IntKind.i64.wrap (0 + k))) then (bif Nat.blt (IntKind.i64.wrap (0 + k)).toNat s.length then (bif di (bt (IntKind.i64.wrap (0 + k)) s) then (True ∧ (Flow.norm = want ∧ NormR (L25 s (IntKind.i64.wrap (k + 1))) [])) else (True ∧ (Flow.exit 0 = want ∧ AtR [(5, .int .i64 k)] 28 []))) else False) else False) else (True ∧ (Flow.exit 0 = want ∧ AtR [(5, .int .i64 k)] 28 [])))) else False) else False) else (True ∧ (Flow.exit 0 = want ∧ AtR [(5, .int .i64 k)] 28 []))) := by kernel_rfl
theorem fun25 (m : Int) (le di : Int → Bool) (s : List UInt8) (w : Int) (T : AV → Prop) : ((wfun P (cfgOf m (extG [⟨38, okC1, fC1 le⟩, ⟨39, okC1, fC1 di⟩])) forceT 35 false (hookF 35 c25 (L25 s ((0 : Nat) : Int)) 2 [] (.exit 0) [(5, .int .i64 w)] 28 []) 20 20 (body 25) [.tmp 4] [.str s, .int .i64 0] (fun v _ => T v)).run [] True) =
    ((True ∧ (c25 = c25 ∧ AtR (L25 s ((0 : Nat) : Int)) 2 [])) ∧ T (.int .i64 w)) := by kernel_rfl
def nxt25 (s : List UInt8) (a : Nat) : Option Nat := cond (contB s a) (some (a + 1)) none
theorem nxt25_some {s : List UInt8} {a b : Nat} (h : nxt25 s a = some b) : contB s a = true ∧ b = a + 1 := by
  unfold nxt25 at h
  cases hc : contB s a with
  | true => rw [hc] at h; exact ⟨rfl, (Option.some.inj h).symm⟩
  | false => rw [hc] at h; cases h
theorem nxt25_none {s : List UInt8} {a : Nat} (h : nxt25 s a = none) : contB s a = false := by
  unfold nxt25 at h
  cases hc : contB s a with
  | true => rw [hc] at h; cases h
  | false => rfl
theorem loop25 {m : Int} (pf : PF P (cfgOf m (extG [⟨38, okC1, fC1 letterB⟩, ⟨39, okC1, fC1 digitB⟩]))) {s : List UInt8} (hs : s.length ≤ 64) : LoopLem m (extG [⟨38, okC1, fC1 letterB⟩, ⟨39, okC1, fC1 digitB⟩]) 35 c25 (L25 s ((0 : Nat) : Int)) 2 [] (.exit 0) [(5, .int .i64 (wordyN s))] 28 [] := by
  have h := whileLoop (α := Nat) (N := 35) (nx := 2) (ex := 0) (nxE := 28) (c := c25) (L := fun a => L25 s a) (Ln := fun a => L25 s (IntKind.i64.wrap ((a : Int) + 1))) (lE := fun a => [(5, .int .i64 (a : Int))]) (nxt := nxt25 s) (fin := fun a => a + wgo (Nat.beq a 0) (s.drop a)) (μ := fun a => s.length - a) (inv := fun a => a ≤ s.length) pf
    (fun _ => rfl) (fun _ => ⟨rfl, rfl, rfl, trivial⟩) (fun a b h => ?_) (fun a b hi h => ?_) (fun a h => ?_) (fun a b h => ?_) (fun a b hi h => ?_) (fun a hi => ⟨[], Q.of_eq (iter25 m letterB digitB s a _) ?_⟩) s.length 0 (by simp) (by simp)
  · simpa [wordyN] using h
  · obtain ⟨h1, rfl⟩ := nxt25_some h
    have := (cont_yes h1).1
    omega
  · obtain ⟨h1, rfl⟩ := nxt25_some h
    have := (cont_yes h1).1
    omega
  · simp only [cont_no (nxt25_none h)]
    rfl
  · obtain ⟨h1, rfl⟩ := nxt25_some h
    simp only [(cont_yes h1).2]
    omega
  · obtain ⟨h1, rfl⟩ := nxt25_some h
    simp only [iRoom (n := a) (by omega)]
  · have hw : IntKind.i64.wrap (0 + (a : Int)) = (a : Int) := by rw [IntWalk.i64_in _ (by omega)]; omega
    rw [hw]
    by_cases hl : a < s.length
    · have e1 : ltI (a : Int) (s.length : Int) = true := by rw [ltI_eq]; simp [hl]
      have e2 : decide ((0 : Int) ≤ (a : Int)) = true := by simp
      have e3 : Nat.blt (a : Int).toNat s.length = true := by simpa [Nat.blt_eq] using hl
      have e4 : Nat.blt a s.length = true := e3
      rw [e1, e2, e3]
      simp only [nxt25, contB, e4, Bool.true_and]
      cases letterB (bt (a : Int) s)
      · cases ltI 0 (a : Int)
        · exact ⟨trivial, rfl, atR _ _ _⟩
        · cases digitB (bt (a : Int) s)
          · exact ⟨trivial, rfl, atR _ _ _⟩
          · exact ⟨trivial, rfl, normR _ _⟩
      · exact ⟨trivial, rfl, normR _ _⟩
    · have e1 : ltI (a : Int) (s.length : Int) = false := by rw [ltI_eq]; simp; omega
      have e4 : Nat.blt a s.length = false := by
        cases hb : Nat.blt a s.length with
        | true => exact absurd (by simpa [Nat.blt_eq] using hb) hl
        | false => rfl
      rw [e1]
      simp only [nxt25, contB, e4, Bool.false_and]
      exact ⟨trivial, rfl, atR _ _ _⟩
noncomputable def g25 : ConG := ⟨25, okW (fun s => shortB s 64), fW wordyN⟩
theorem hg25 (m : Int) : HoldsG m g25 := holdsW (e := (extG [⟨38, okC1, fC1 letterB⟩, ⟨39, okC1, fC1 digitB⟩])) (f := 25) fun s hs => by
  have pf : PF P (cfgOf m (extG [⟨38, okC1, fC1 letterB⟩, ⟨39, okC1, fC1 digitB⟩])) := pf_G2 (hg38 m) (hg39 m)
  obtain ⟨v, σ', h, hv⟩ := wfun_runs pf (mode0 m _) forceT_good (hookF_ok (loop25 pf (shortB_ok s 64 hs)) rfl rfl (by simp)) f25 (by simp) (Q.of_eq (fun25 m letterB digitB s (wordyN s) (fun v => v = .int .i64 (wordyN s))) ⟨⟨trivial, rfl, atR _ _ _⟩, rfl⟩)
  subst hv
  exact ⟨σ', h⟩

noncomputable def keyB (s : List UInt8) : Bool := !beqBytes s [] && (hasB keyText (([32] ++ s) ++ [32]) && !hasB s [32])
noncomputable def g26 : ConG := ⟨26, okS1 (fun s => shortB s 64), fS1 keyB⟩
theorem run26 (m : Int) (o g : List UInt8 → List UInt8 → Bool) (s : List UInt8) (v : AV) : ((ecall P (cfgOf m (extG [⟨40, okS2 o, fS2 g⟩])) forceT 20 26 [.str s] none0 (endC (retIs v))).run [] True) =
    (bif beqBytes s [] then (True ∧ AV.bool false = v) else (bif Nat.ble (([32] : List UInt8).length + s.length) 9223372036854775807 then (bif Nat.ble (([32] ++ s).length + ([32] : List UInt8).length) 9223372036854775807 then (bif o keyText (([32] ++ s) ++ [32]) then (bif g keyText (([32] ++ s) ++ [32]) then (bif o s [32] then (bif g s [32] then (True ∧ AV.bool false = v) else (True ∧ AV.bool true = v)) else False) else (True ∧ AV.bool false = v)) else False) else False) else False)) := by kernel_rfl
theorem hg26 (m : Int) : HoldsG m g26 := holdsS1 (e := extG [⟨40, okS2 (fun s _ => shortB s 100000), fS2 hasB⟩]) (f := 26) fun s hs => by
  have pf : PF P (cfgOf m (extG [⟨40, okS2 (fun s _ => shortB s 100000), fS2 hasB⟩])) := pf_G1 (hg40 m)
  refine runs_of pf (run26 m (fun s _ => shortB s 100000) hasB s _) ?_
  have hl := shortB_ok s 64 hs
  have e1 : Nat.ble (([32] : List UInt8).length + s.length) 9223372036854775807 = true := by
    rw [Nat.ble_eq]; simp; omega
  have e2 : Nat.ble (([32] ++ s).length + ([32] : List UInt8).length) 9223372036854775807 = true := by
    rw [Nat.ble_eq]; simp; omega
  have e3 : shortB keyText 100000 = true := rfl
  have e4 : shortB s 100000 = true := shortB_of s 100000 (by omega)
  rw [e1, e2, e3, e4]
  unfold keyB
  cases beqBytes s []
  · cases hasB keyText (([32] ++ s) ++ [32])
    · exact ⟨trivial, rfl⟩
    · cases hasB s [32] <;> exact ⟨trivial, rfl⟩
  · exact ⟨trivial, rfl⟩

def wtree (p q : Prop) (s : List UInt8) : List (List UInt8) → Prop
  | [] => q
  | w :: r => bif beqBytes w s then p else wtree p q s r
def keyR (s : List UInt8) : Bool := words.any fun w => beqBytes w s
def g28 : ConG := ⟨28, okS1 (fun _ => true), fS1 keyR⟩
theorem run28 (m : Int) (s : List UInt8) (v : AV) : ((ecall P (cfgOf m (extG [])) forceT 60 28 [.str s] none0 (endC (retIs v))).run [] True) =
    wtree (True ∧ AV.bool true = v) (True ∧ AV.bool false = v) s words := by kernel_rfl
theorem wtree_ok (s : List UInt8) : ∀ ws : List (List UInt8), wtree (True ∧ AV.bool true = AV.bool (ws.any fun w => beqBytes w s)) (True ∧ AV.bool false = AV.bool (ws.any fun w => beqBytes w s)) s ws
  | [] => ⟨trivial, rfl⟩
  | w :: r => by
    unfold wtree
    simp only [List.any_cons]
    cases beqBytes w s
    · exact wtree_ok s r
    · exact ⟨trivial, rfl⟩
theorem hg28 (m : Int) : HoldsG m g28 := holdsS1 (e := extG []) (f := 28) fun s hs => by
  refine runs_of pf_G0 (run28 m s _) ?_
  exact wtree_ok s words

noncomputable def nameM (s : List UInt8) : Bool := !beqBytes s [] && (!beqBytes s [95] && (!ltI 64 (s.length : Int) && (eqI (wordyN s) (s.length : Int) && !keyB s)))
noncomputable def g8 : ConG := ⟨8, okS1 (fun _ => true), fS1 nameM⟩
theorem run8 (m : Int) (o1 : List UInt8 → Bool) (g1 : List UInt8 → Int) (o2 g2 : List UInt8 → Bool) (s : List UInt8) (v : AV) : ((ecall P (cfgOf m (extG [⟨25, okW o1, fW g1⟩, ⟨26, okS1 o2, fS1 g2⟩])) forceT 20 8 [.str s] none0 (endC (retIs v))).run [] True) =
    (bif beqBytes s [] then (True ∧ AV.bool false = v) else (bif beqBytes s [95] then (True ∧ AV.bool false = v) else (bif !ltI 64 (s.length : Int) then (bif (o1 s && eqI 0 0) then (bif eqI (g1 s) (s.length : Int) then (bif o2 s then (bif g2 s then (True ∧ AV.bool false = v) else (True ∧ AV.bool true = v)) else False) else (True ∧ AV.bool false = v)) else False) else (True ∧ AV.bool false = v)))) := by kernel_rfl
theorem hg8 (m : Int) : HoldsG m g8 := holdsS1 (e := extG [⟨25, okW (fun s => shortB s 64), fW wordyN⟩, ⟨26, okS1 (fun s => shortB s 64), fS1 keyB⟩]) (f := 8) fun s hs => by
  have pf : PF P (cfgOf m (extG [⟨25, okW (fun s => shortB s 64), fW wordyN⟩, ⟨26, okS1 (fun s => shortB s 64), fS1 keyB⟩])) := pf_G2 (hg25 m) (hg26 m)
  refine runs_of pf (run8 m (fun s => shortB s 64) wordyN (fun s => shortB s 64) keyB s _) ?_
  unfold nameM
  cases beqBytes s []
  · cases beqBytes s [95]
    · cases hl : ltI 64 (s.length : Int)
      · have h1 : s.length ≤ 64 := by
          rw [ltI_eq] at hl
          simp at hl
          omega
        rw [shortB_of s 64 h1]
        cases eqI (wordyN s) (s.length : Int)
        · exact ⟨trivial, rfl⟩
        · cases keyB s <;> exact ⟨trivial, rfl⟩
      · exact ⟨trivial, rfl⟩
    · exact ⟨trivial, rfl⟩
  · exact ⟨trivial, rfl⟩

noncomputable def c9 : Code := (body 9).at [false, false, true, false, true, true]
theorem f9 : (P.funcs[9]?).map (fun fn => (fn.body, fn.ntmps, fn.results.toList)) = some (some (body 9), 40, [.tmp 2]) := by kernel_rfl
def L9 (s : List UInt8) (k : Int) : List (Nat × AV) := [(0, .str s), (3, .int .i64 k)]
def chV (b : UInt8) : AV := .int .u8 (b.toNat : Int)
def chF : AV → AV → Bool
  | .int .u8 c, _ => letterB c || digitB c
  | _, _ => false
def allB (s : List UInt8) : Bool := all2 chF (s.map chV) (s.map chV)
theorem iter9 (m : Int) (le di : Int → Bool) (o2 g2 : List UInt8 → Bool) (s : List UInt8) (k : Int) (want : Flow) : (((ecode P (cfgOf m (extG [⟨27, okC1, fC1 le⟩, ⟨29, okC1, fC1 di⟩, ⟨28, okS1 o2, fS1 g2⟩])) forceT 40 false c9).run (ecall P (cfgOf m (extG [⟨27, okC1, fC1 le⟩, ⟨29, okC1, fC1 di⟩, ⟨28, okS1 o2, fS1 g2⟩])) forceT 20) 20 (mkTrU 40 (L9 s k)) [] (stOf 20 []) (endS (GI (L9 s) [] [] 24 [] [(2, .bool false)] 37 [] want k))).run [] True) =
    (bif ltI k (s.length : Int) then (bif decide (0 ≤ k) then (bif Nat.blt k.toNat s.length then (bif le (bt k s) then (True ∧ (Flow.norm = want ∧ NormR (L9 s (IntKind.i64.wrap (k + 1))) [])) else (bif decide (0 ≤ k) then (bif Nat.blt k.toNat s.length then (bif di (bt k s) then (True ∧ (Flow.norm = want ∧ NormR (L9 s (IntKind.i64.wrap (k + 1))) [])) else (True ∧ (Flow.ret = want ∧ AtR [(2, .bool false)] 37 []))) else False) else False)) else False) else False) else (True ∧ (Flow.exit 0 = want ∧ AtR [] 24 []))) := by kernel_rfl
theorem funE9 (m : Int) (le di : Int → Bool) (o2 g2 : List UInt8 → Bool) (s : List UInt8) (T : AV → Prop) : ((wfun P (cfgOf m (extG [⟨27, okC1, fC1 le⟩, ⟨29, okC1, fC1 di⟩, ⟨28, okS1 o2, fS1 g2⟩])) forceT 40 false (hookF 40 c9 (L9 s ((0 : Nat) : Int)) 20 [] (.exit 0) [] 24 []) 20 20 (body 9) [.tmp 2] [.str s] (fun v _ => T v)).run [] True) =
    (bif ltI (s.length : Int) 1 then (True ∧ T (.bool false)) else (bif ltI 64 (s.length : Int) then (True ∧ T (.bool false)) else (bif Nat.blt 0 s.length then (bif le (bt 0 s) then (bif o2 s then (bif g2 s then (True ∧ T (.bool false)) else ((True ∧ (c9 = c9 ∧ AtR (L9 s ((0 : Nat) : Int)) 20 [])) ∧ T (.bool true))) else False) else (True ∧ T (.bool false))) else False))) := by kernel_rfl
theorem funR9 (m : Int) (le di : Int → Bool) (o2 g2 : List UInt8 → Bool) (s : List UInt8) (T : AV → Prop) : ((wfun P (cfgOf m (extG [⟨27, okC1, fC1 le⟩, ⟨29, okC1, fC1 di⟩, ⟨28, okS1 o2, fS1 g2⟩])) forceT 40 false (hookF 40 c9 (L9 s ((0 : Nat) : Int)) 20 [] .ret [(2, .bool false)] 37 []) 20 20 (body 9) [.tmp 2] [.str s] (fun v _ => T v)).run [] True) =
    (bif ltI (s.length : Int) 1 then (True ∧ T (.bool false)) else (bif ltI 64 (s.length : Int) then (True ∧ T (.bool false)) else (bif Nat.blt 0 s.length then (bif le (bt 0 s) then (bif o2 s then (bif g2 s then (True ∧ T (.bool false)) else ((True ∧ (c9 = c9 ∧ AtR (L9 s ((0 : Nat) : Int)) 20 [])) ∧ T (.bool false))) else False) else (True ∧ T (.bool false))) else False))) := by kernel_rfl
theorem funD9 (m : Int) (le di : Int → Bool) (o2 g2 : List UInt8 → Bool) (s : List UInt8) (T : AV → Prop) : ((wfun P (cfgOf m (extG [⟨27, okC1, fC1 le⟩, ⟨29, okC1, fC1 di⟩, ⟨28, okS1 o2, fS1 g2⟩])) forceT 40 false hookBad 20 20 (body 9) [.tmp 2] [.str s] (fun v _ => T v)).run [] True) =
    (bif ltI (s.length : Int) 1 then (True ∧ T (.bool false)) else (bif ltI 64 (s.length : Int) then (True ∧ T (.bool false)) else (bif Nat.blt 0 s.length then (bif le (bt 0 s) then (bif o2 s then (bif g2 s then (True ∧ T (.bool false)) else False) else False) else (True ∧ T (.bool false))) else False))) := by kernel_rfl
theorem loop9 {m : Int} (pf : PF P (cfgOf m (extG [⟨27, okC1, fC1 letterB⟩, ⟨29, okC1, fC1 digitB⟩, ⟨28, okS1 (fun _ => true), fS1 keyR⟩]))) {s : List UInt8} (hs : s.length ≤ 64) : (allB s = true → LoopLem m (extG [⟨27, okC1, fC1 letterB⟩, ⟨29, okC1, fC1 digitB⟩, ⟨28, okS1 (fun _ => true), fS1 keyR⟩]) 40 c9 (L9 s ((0 : Nat) : Int)) 20 [] (.exit 0) [] 24 []) ∧ (allB s = false → LoopLem m (extG [⟨27, okC1, fC1 letterB⟩, ⟨29, okC1, fC1 digitB⟩, ⟨28, okS1 (fun _ => true), fS1 keyR⟩]) 40 c9 (L9 s ((0 : Nat) : Int)) 20 [] .ret [(2, .bool false)] 37 []) := by
  have hlen : (s.map chV).length = s.length := by simp
  have h := pairLoop (N := 40) (nx := 20) (ex := 0) (nxE := 24) (nxR := 37) (rm := false) (c := c9) (L := L9 s) (bl := []) (blE := []) (blR := []) (lE := []) (lR := [(2, .bool false)]) (l := s.map chV) (l' := s.map chV) (f := chF) pf rfl (by rw [hlen]; omega) (fun _ => rfl) (fun _ => ⟨rfl, rfl, trivial⟩) (fun p hp => by cases hp) (fun k x y hx hy => ?_) ⟨[], Q.of_eq (iter9 m letterB digitB (fun _ => true) keyR s (s.map chV).length (.exit 0)) (by
    rw [hlen, show ltI (s.length : Int) (s.length : Int) = false by rw [ltI_eq]; simp]
    exact ⟨trivial, rfl, atR _ _ _⟩)⟩ (s.map chV).length 0 rfl
  · simp only [List.drop_zero] at h
    exact h
  · have hk : k < s.length := by
      have := (List.getElem?_eq_some_iff.1 hx).1
      rwa [hlen] at this
    have hx2 : x = .int .u8 (bt (k : Int) s) := by
      rw [List.getElem?_map, List.getElem?_eq_getElem hk] at hx
      simp only [Option.map_some, Option.some.injEq] at hx
      rw [← hx]
      simp [chV, bt, List.getD, hk]
    refine ⟨[], Q.of_eq (iter9 m letterB digitB (fun _ => true) keyR s k _) ?_⟩
    rw [show ltI (k : Int) (s.length : Int) = true by rw [ltI_eq]; simp [hk], show decide ((0 : Int) ≤ (k : Int)) = true by simp, show Nat.blt (k : Int).toNat s.length = true by simpa [Nat.blt_eq] using hk, hx2]
    simp only [chF]
    cases letterB (bt (k : Int) s)
    · cases digitB (bt (k : Int) s)
      · exact ⟨trivial, rfl, atR _ _ _⟩
      · exact ⟨trivial, rfl, normR _ _⟩
    · exact ⟨trivial, rfl, normR _ _⟩
def nameR (s : List UInt8) : Bool := !ltI (s.length : Int) 1 && (!ltI 64 (s.length : Int) && (letterB (bt 0 s) && (!keyR s && allB s)))
def g9 : ConG := ⟨9, okS1 (fun _ => true), fS1 nameR⟩
theorem hg9 (m : Int) : HoldsG m g9 := holdsS1 (e := (extG [⟨27, okC1, fC1 letterB⟩, ⟨29, okC1, fC1 digitB⟩, ⟨28, okS1 (fun _ => true), fS1 keyR⟩])) (f := 9) fun s hs => by
  have pf : PF P (cfgOf m (extG [⟨27, okC1, fC1 letterB⟩, ⟨29, okC1, fC1 digitB⟩, ⟨28, okS1 (fun _ => true), fS1 keyR⟩])) := pf_G3 (hg27 m) (hg29 m) (hg28 m)
  unfold nameR
  by_cases hl : 1 ≤ s.length ∧ s.length ≤ 64
  · obtain ⟨hl1, hl2⟩ := hl
    have e1 : ltI (s.length : Int) 1 = false := by rw [ltI_eq]; simp; omega
    have e2 : ltI 64 (s.length : Int) = false := by rw [ltI_eq]; simp; omega
    have e3 : Nat.blt 0 s.length = true := by
      rw [Nat.blt_eq]
      omega
    obtain ⟨h1, h2⟩ := loop9 pf hl2
    cases ha : allB s with
    | true =>
      obtain ⟨v, σ', h, hv⟩ := wfun_runs pf (mode0 m _) forceT_good (hookF_ok (h1 ha) rfl rfl (by simp)) f9 (by simp) (Q.of_eq (funE9 m letterB digitB (fun _ => true) keyR s (fun v => v = .bool (letterB (bt 0 s) && !keyR s))) (by
        rw [e1, e2, e3]
        cases letterB (bt 0 s)
        · exact ⟨trivial, rfl⟩
        · cases keyR s
          · exact ⟨⟨trivial, rfl, atR _ _ _⟩, rfl⟩
          · exact ⟨trivial, rfl⟩))
      subst hv
      rw [e1, e2]
      simp only [Bool.not_false, Bool.true_and, Bool.and_true]
      exact ⟨σ', h⟩
    | false =>
      obtain ⟨v, σ', h, hv⟩ := wfun_runs pf (mode0 m _) forceT_good (hookF_ok (h2 ha) rfl rfl (by simp)) f9 (by simp) (Q.of_eq (funR9 m letterB digitB (fun _ => true) keyR s (fun v => v = .bool false)) (by
        rw [e1, e2, e3]
        cases letterB (bt 0 s)
        · exact ⟨trivial, rfl⟩
        · cases keyR s
          · exact ⟨⟨trivial, rfl, atR _ _ _⟩, rfl⟩
          · exact ⟨trivial, rfl⟩))
      subst hv
      simp only [Bool.and_false]
      exact ⟨σ', h⟩
  · obtain ⟨v, σ', h, hv⟩ := wfun_runs pf (mode0 m _) forceT_good hookBad_ok f9 (by simp) (Q.of_eq (funD9 m letterB digitB (fun _ => true) keyR s (fun v => v = .bool false)) (by
      by_cases h1 : 1 ≤ s.length
      · rw [show ltI (s.length : Int) 1 = false by rw [ltI_eq]; simp; omega, show ltI 64 (s.length : Int) = true by rw [ltI_eq]; simp; omega]
        exact ⟨trivial, rfl⟩
      · rw [show ltI (s.length : Int) 1 = true by rw [ltI_eq]; simp; omega]
        exact ⟨trivial, rfl⟩))
    subst hv
    have hz : (!ltI (s.length : Int) 1 && (!ltI 64 (s.length : Int) && (letterB (bt 0 s) && (!keyR s && allB s)))) = false := by
      by_cases h1 : 1 ≤ s.length
      · rw [show ltI 64 (s.length : Int) = true by rw [ltI_eq]; simp; omega]
        simp
      · rw [show ltI (s.length : Int) 1 = true by rw [ltI_eq]; simp; omega]
        rfl
    rw [hz]
    exact ⟨σ', h⟩

def preR (s : List UInt8) : Bool := ltI 2 (s.length : Int) && beqBytes (List.drop 0 (List.take 2 s)) [91, 93]
theorem preL_len {s : List UInt8} (h : preL s = true) : 2 ≤ s.length := by
  simp only [preL, Bool.and_eq_true, ltI_eq] at h
  have := h.1
  simp at this
  omega
theorem preR_len {s : List UInt8} (h : preR s = true) : 3 ≤ s.length := by
  simp only [preR, Bool.and_eq_true, ltI_eq] at h
  have := h.1
  simp at this
  omega
def stripM (s : List UInt8) : List UInt8 := if h : preL s = true then stripM (s.drop 2) else s
termination_by s.length
decreasing_by
  have := preL_len h
  simp
  omega
def stripR (s : List UInt8) : List UInt8 := if h : preR s = true then stripR (s.drop 2) else s
termination_by s.length
decreasing_by
  have := preR_len h
  simp
  omega
def typeB (q : List UInt8 → Bool) (s : List UInt8) : Bool := beqBytes s [105, 110, 116] || (beqBytes s [98, 111, 111, 108] || (beqBytes s [115, 116, 114, 105, 110, 103] || q s))
noncomputable def typeM (s : List UInt8) : Bool := typeB nameM (stripM s)
def typeR (s : List UInt8) : Bool := typeB nameR (stripR s)
noncomputable def g10 : ConG := ⟨10, okS1 (fun _ => true), fS1 typeM⟩
noncomputable def g11 : ConG := ⟨11, okS1 (fun _ => true), fS1 typeR⟩
def LT (s : List UInt8) : List (Nat × AV) := [(0, .str s)]
theorem take_all (s : List UInt8) : List.drop 2 (List.take s.length s) = s.drop 2 := by rw [List.take_length]
noncomputable def c10 : Code := (body 10).at [false, true, true, true]
theorem f10 : (P.funcs[10]?).map (fun fn => (fn.body, fn.ntmps, fn.results.toList)) = some (some (body 10), 21, [.tmp 2]) := by kernel_rfl
theorem iter10 (m : Int) (o2 g2 : List UInt8 → Bool) (o3 g3 : List UInt8 → List UInt8 → Bool) (s : List UInt8) (want : Flow) : (((ecode P (cfgOf m (extG [⟨8, okS1 o2, fS1 g2⟩, ⟨30, okS2 o3, fS2 g3⟩])) forceT 21 false c10).run (ecall P (cfgOf m (extG [⟨8, okS1 o2, fS1 g2⟩, ⟨30, okS2 o3, fS2 g3⟩])) forceT 20) 20 (mkTrU 21 (LT s)) [] (stOf 1 []) (endS (GJ (LT (List.drop 2 (List.take s.length s))) (LT s) 3 want))).run [] True) =
    (bif o3 s [91, 93] then (bif g3 s [91, 93] then (bif (decide ((0 : Int) ≤ 2) && decide ((2 : Int) ≤ (s.length : Int))) then (True ∧ (Flow.norm = want ∧ NormR (LT (List.drop 2 (List.take s.length s))) [])) else False) else (True ∧ (Flow.exit 0 = want ∧ AtR (LT s) 3 []))) else False) := by kernel_rfl
theorem fun10 (m : Int) (o2 g2 : List UInt8 → Bool) (o3 g3 : List UInt8 → List UInt8 → Bool) (s r : List UInt8) (T : AV → Prop) : ((wfun P (cfgOf m (extG [⟨8, okS1 o2, fS1 g2⟩, ⟨30, okS2 o3, fS2 g3⟩])) forceT 21 false (hookF 21 c10 (LT s) 1 [] (.exit 0) (LT r) 3 []) 20 20 (body 10) [.tmp 2] [.str s] (fun v _ => T v)).run [] True) =
    (bif beqBytes r [105, 110, 116] then ((True ∧ (c10 = c10 ∧ AtR (LT s) 1 [])) ∧ T (.bool true)) else (bif beqBytes r [98, 111, 111, 108] then ((True ∧ (c10 = c10 ∧ AtR (LT s) 1 [])) ∧ T (.bool true)) else (bif beqBytes r [115, 116, 114, 105, 110, 103] then ((True ∧ (c10 = c10 ∧ AtR (LT s) 1 [])) ∧ T (.bool true)) else (bif o2 r then (bif g2 r then ((True ∧ (c10 = c10 ∧ AtR (LT s) 1 [])) ∧ T (.bool true)) else ((True ∧ (c10 = c10 ∧ AtR (LT s) 1 [])) ∧ T (.bool false))) else False)))) := by kernel_rfl
def nxt10 (s : List UInt8) : Option (List UInt8) := cond (preL s) (some (s.drop 2)) none
theorem loop10 {m : Int} (pf : PF P (cfgOf m (extG [⟨8, okS1 (fun _ => true), fS1 nameM⟩, ⟨30, okS2 (fun _ t => beqBytes t [91, 93]), fS2 (fun s _ => preL s)⟩]))) (s : List UInt8) : LoopLem m (extG [⟨8, okS1 (fun _ => true), fS1 nameM⟩, ⟨30, okS2 (fun _ t => beqBytes t [91, 93]), fS2 (fun s _ => preL s)⟩]) 21 c10 (LT s) 1 [] (.exit 0) (LT (stripM s)) 3 [] := by
  have some_ : ∀ {a b : List UInt8}, nxt10 a = some b → preL a = true ∧ b = a.drop 2 := fun {a b} h => by
    unfold nxt10 at h
    cases hc : preL a with
    | true => rw [hc] at h; exact ⟨rfl, (Option.some.inj h).symm⟩
    | false => rw [hc] at h; cases h
  have none_ : ∀ {a : List UInt8}, nxt10 a = none → preL a = false := fun {a} h => by
    unfold nxt10 at h
    cases hc : preL a with
    | true => rw [hc] at h; cases h
    | false => rfl
  refine whileLoop (α := List UInt8) (N := 21) (nx := 1) (ex := 0) (nxE := 3) (c := c10) (L := LT) (Ln := fun s => LT (List.drop 2 (List.take s.length s))) (lE := LT) (nxt := nxt10) (fin := stripM) (μ := fun a => a.length) (inv := fun _ => True) pf
    (fun _ => rfl) (fun _ => ⟨rfl, trivial⟩) (fun a b h => ?_) (fun a b hi h => trivial) (fun a h => ?_) (fun a b h => ?_) (fun a b hi h => ?_) (fun s hi => ⟨[], Q.of_eq (iter10 m (fun _ => true) nameM (fun _ t => beqBytes t [91, 93]) (fun s _ => preL s) s _) ?_⟩) s.length s (Nat.le_refl _) trivial
  · obtain ⟨h1, rfl⟩ := some_ h
    have := preL_len h1
    simp
    omega
  · rw [stripM, dif_neg (by rw [none_ h]; simp)]
  · obtain ⟨h1, rfl⟩ := some_ h
    rw [stripM, dif_pos h1]
  · obtain ⟨h1, rfl⟩ := some_ h
    simp only [take_all]
  · rw [show beqBytes [91, 93] [91, 93] = true from rfl]
    unfold nxt10
    cases h1 : preL s
    · exact ⟨trivial, rfl, atR _ _ _⟩
    · have h2 := preL_len h1
      rw [show (decide ((0 : Int) ≤ 2) && decide ((2 : Int) ≤ (s.length : Int))) = true by simp; omega]
      exact ⟨trivial, rfl, normR _ _⟩
theorem hg10 (m : Int) : HoldsG m g10 := holdsS1 (e := (extG [⟨8, okS1 (fun _ => true), fS1 nameM⟩, ⟨30, okS2 (fun _ t => beqBytes t [91, 93]), fS2 (fun s _ => preL s)⟩])) (f := 10) fun s hs => by
  have pf : PF P (cfgOf m (extG [⟨8, okS1 (fun _ => true), fS1 nameM⟩, ⟨30, okS2 (fun _ t => beqBytes t [91, 93]), fS2 (fun s _ => preL s)⟩])) := pf_G2 (hg8 m) (hg30 m)
  obtain ⟨v, σ', h, hv⟩ := wfun_runs pf (mode0 m _) forceT_good (hookF_ok (loop10 pf s) rfl rfl (by simp)) f10 (by simp) (Q.of_eq (fun10 m (fun _ => true) nameM (fun _ t => beqBytes t [91, 93]) (fun s _ => preL s) s (stripM s) (fun v => v = .bool (typeM s))) (by
    unfold typeM typeB
    cases beqBytes (stripM s) [105, 110, 116]
    · cases beqBytes (stripM s) [98, 111, 111, 108]
      · cases beqBytes (stripM s) [115, 116, 114, 105, 110, 103]
        · cases nameM (stripM s) <;> exact ⟨⟨trivial, rfl, atR _ _ _⟩, rfl⟩
        · exact ⟨⟨trivial, rfl, atR _ _ _⟩, rfl⟩
      · exact ⟨⟨trivial, rfl, atR _ _ _⟩, rfl⟩
    · exact ⟨⟨trivial, rfl, atR _ _ _⟩, rfl⟩))
  subst hv
  exact ⟨σ', h⟩
noncomputable def c11 : Code := (body 11).at [false, true, true, true]
theorem f11 : (P.funcs[11]?).map (fun fn => (fn.body, fn.ntmps, fn.results.toList)) = some (some (body 11), 27, [.tmp 2]) := by kernel_rfl
theorem iter11 (m : Int) (o2 g2 : List UInt8 → Bool) (s : List UInt8) (want : Flow) : (((ecode P (cfgOf m (extG [⟨9, okS1 o2, fS1 g2⟩])) forceT 27 false c11).run (ecall P (cfgOf m (extG [⟨9, okS1 o2, fS1 g2⟩])) forceT 20) 20 (mkTrU 27 (LT s)) [] (stOf 1 []) (endS (GJ (LT (List.drop 2 (List.take s.length s))) (LT s) 9 want))).run [] True) =
    (bif ltI 2 (s.length : Int) then (bif (decide ((0 : Int) ≤ 2) && decide ((2 : Int) ≤ (s.length : Int))) then (bif beqBytes (List.drop 0 (List.take 2 s)) [91, 93] then (bif (decide ((0 : Int) ≤ 2) && decide ((2 : Int) ≤ (s.length : Int))) then (True ∧ (Flow.norm = want ∧ NormR (LT (List.drop 2 (List.take s.length s))) [])) else False) else (True ∧ (Flow.exit 0 = want ∧ AtR (LT s) 9 []))) else False) else (True ∧ (Flow.exit 0 = want ∧ AtR (LT s) 9 []))) := by kernel_rfl
theorem fun11 (m : Int) (o2 g2 : List UInt8 → Bool) (s r : List UInt8) (T : AV → Prop) : ((wfun P (cfgOf m (extG [⟨9, okS1 o2, fS1 g2⟩])) forceT 27 false (hookF 27 c11 (LT s) 1 [] (.exit 0) (LT r) 9 []) 20 20 (body 11) [.tmp 2] [.str s] (fun v _ => T v)).run [] True) =
    (bif beqBytes r [105, 110, 116] then ((True ∧ (c11 = c11 ∧ AtR (LT s) 1 [])) ∧ T (.bool true)) else (bif beqBytes r [98, 111, 111, 108] then ((True ∧ (c11 = c11 ∧ AtR (LT s) 1 [])) ∧ T (.bool true)) else (bif beqBytes r [115, 116, 114, 105, 110, 103] then ((True ∧ (c11 = c11 ∧ AtR (LT s) 1 [])) ∧ T (.bool true)) else (bif o2 r then (bif g2 r then ((True ∧ (c11 = c11 ∧ AtR (LT s) 1 [])) ∧ T (.bool true)) else ((True ∧ (c11 = c11 ∧ AtR (LT s) 1 [])) ∧ T (.bool false))) else False)))) := by kernel_rfl
def nxt11 (s : List UInt8) : Option (List UInt8) := cond (preR s) (some (s.drop 2)) none
theorem loop11 {m : Int} (pf : PF P (cfgOf m (extG [⟨9, okS1 (fun _ => true), fS1 nameR⟩]))) (s : List UInt8) : LoopLem m (extG [⟨9, okS1 (fun _ => true), fS1 nameR⟩]) 27 c11 (LT s) 1 [] (.exit 0) (LT (stripR s)) 9 [] := by
  have some_ : ∀ {a b : List UInt8}, nxt11 a = some b → preR a = true ∧ b = a.drop 2 := fun {a b} h => by
    unfold nxt11 at h
    cases hc : preR a with
    | true => rw [hc] at h; exact ⟨rfl, (Option.some.inj h).symm⟩
    | false => rw [hc] at h; cases h
  have none_ : ∀ {a : List UInt8}, nxt11 a = none → preR a = false := fun {a} h => by
    unfold nxt11 at h
    cases hc : preR a with
    | true => rw [hc] at h; cases h
    | false => rfl
  refine whileLoop (α := List UInt8) (N := 27) (nx := 1) (ex := 0) (nxE := 9) (c := c11) (L := LT) (Ln := fun s => LT (List.drop 2 (List.take s.length s))) (lE := LT) (nxt := nxt11) (fin := stripR) (μ := fun a => a.length) (inv := fun _ => True) pf
    (fun _ => rfl) (fun _ => ⟨rfl, trivial⟩) (fun a b h => ?_) (fun a b hi h => trivial) (fun a h => ?_) (fun a b h => ?_) (fun a b hi h => ?_) (fun s hi => ⟨[], Q.of_eq (iter11 m (fun _ => true) nameR s _) ?_⟩) s.length s (Nat.le_refl _) trivial
  · obtain ⟨h1, rfl⟩ := some_ h
    have := preR_len h1
    simp
    omega
  · rw [stripR, dif_neg (by rw [none_ h]; simp)]
  · obtain ⟨h1, rfl⟩ := some_ h
    rw [stripR, dif_pos h1]
  · obtain ⟨h1, rfl⟩ := some_ h
    simp only [take_all]
  · unfold nxt11 preR
    cases h1 : ltI 2 (s.length : Int)
    · exact ⟨trivial, rfl, atR _ _ _⟩
    · have h2 : 2 < s.length := by rw [ltI_eq] at h1; simp at h1; omega
      rw [show (decide ((0 : Int) ≤ 2) && decide ((2 : Int) ≤ (s.length : Int))) = true by simp; omega]
      cases beqBytes (List.drop 0 (List.take 2 s)) [91, 93]
      · exact ⟨trivial, rfl, atR _ _ _⟩
      · exact ⟨trivial, rfl, normR _ _⟩
theorem hg11 (m : Int) : HoldsG m g11 := holdsS1 (e := (extG [⟨9, okS1 (fun _ => true), fS1 nameR⟩])) (f := 11) fun s hs => by
  have pf : PF P (cfgOf m (extG [⟨9, okS1 (fun _ => true), fS1 nameR⟩])) := pf_G1 (hg9 m)
  obtain ⟨v, σ', h, hv⟩ := wfun_runs pf (mode0 m _) forceT_good (hookF_ok (loop11 pf s) rfl rfl (by simp)) f11 (by simp) (Q.of_eq (fun11 m (fun _ => true) nameR s (stripR s) (fun v => v = .bool (typeR s))) (by
    unfold typeR typeB
    cases beqBytes (stripR s) [105, 110, 116]
    · cases beqBytes (stripR s) [98, 111, 111, 108]
      · cases beqBytes (stripR s) [115, 116, 114, 105, 110, 103]
        · cases nameR (stripR s) <;> exact ⟨⟨trivial, rfl, atR _ _ _⟩, rfl⟩
        · exact ⟨⟨trivial, rfl, atR _ _ _⟩, rfl⟩
      · exact ⟨⟨trivial, rfl, atR _ _ _⟩, rfl⟩
    · exact ⟨⟨trivial, rfl, atR _ _ _⟩, rfl⟩))
  subst hv
  exact ⟨σ', h⟩

def fE (p : List UInt8 → Bool) : List AV → AV
  | [.str s] => .tup [.str (cond (p s) (s.drop 2) []), .bool (p s)]
  | _ => .undef
theorem holdsE {m : Int} {e : ExtF} {f : FuncId} {p : List UInt8 → Bool} (h : ∀ s, ∃ σ', CallRuns P (cfgOf m e) f [.str s] none0 (.ret (.tup [.str (cond (p s) (s.drop 2) []), .bool (p s)]) σ')) : HoldsG m ⟨f, okS1 (fun _ => true), fE p⟩ := by
  intro args hok σ
  change okS1 (fun _ => true) args = true at hok
  unfold okS1 at hok
  split at hok
  · rename_i s
    obtain ⟨σ', h1⟩ := h s
    exact under (CallRuns.pure (fu := 0) (globC m e) h1 rfl rfl σ)
  · cases hok
noncomputable def elemM (s : List UInt8) : Bool := preL s && typeM (s.drop 2)
def elemR (s : List UInt8) : Bool := preR s && typeR (s.drop 2)
noncomputable def g4 : ConG := ⟨4, okS1 (fun _ => true), fE elemM⟩
def g5 : ConG := ⟨5, okS1 (fun _ => true), fE elemR⟩
theorem run4 (m : Int) (o2 g2 : List UInt8 → Bool) (s : List UInt8) (v : AV) : ((ecall P (cfgOf m (extG [⟨10, okS1 o2, fS1 g2⟩])) forceT 20 4 [.str s] none0 (endC (retIs v))).run [] True) =
    (bif !ltI (s.length : Int) 2 then (bif (decide ((0 : Int) ≤ 2) && decide ((2 : Int) ≤ (s.length : Int))) then (bif beqBytes (List.drop 0 (List.take 2 s)) [91, 93] then (bif (decide ((0 : Int) ≤ 2) && decide ((2 : Int) ≤ (s.length : Int))) then (bif o2 (List.drop 2 (List.take s.length s)) then (bif g2 (List.drop 2 (List.take s.length s)) then (True ∧ AV.tup [.str (List.drop 2 (List.take s.length s)), .bool true] = v) else (True ∧ AV.tup [.str [], .bool false] = v)) else False) else False) else (True ∧ AV.tup [.str [], .bool false] = v)) else False) else (True ∧ AV.tup [.str [], .bool false] = v)) := by kernel_rfl
theorem run5 (m : Int) (o2 g2 : List UInt8 → Bool) (s : List UInt8) (v : AV) : ((ecall P (cfgOf m (extG [⟨11, okS1 o2, fS1 g2⟩])) forceT 20 5 [.str s] none0 (endC (retIs v))).run [] True) =
    (bif ltI 2 (s.length : Int) then (bif (decide ((0 : Int) ≤ 2) && decide ((2 : Int) ≤ (s.length : Int))) then (bif beqBytes (List.drop 0 (List.take 2 s)) [91, 93] then (bif (decide ((0 : Int) ≤ 2) && decide ((2 : Int) ≤ (s.length : Int))) then (bif o2 (List.drop 2 (List.take s.length s)) then (bif g2 (List.drop 2 (List.take s.length s)) then (bif (decide ((0 : Int) ≤ 2) && decide ((2 : Int) ≤ (s.length : Int))) then (True ∧ AV.tup [.str (List.drop 2 (List.take s.length s)), .bool true] = v) else False) else (True ∧ AV.tup [.str [], .bool false] = v)) else False) else False) else (True ∧ AV.tup [.str [], .bool false] = v)) else False) else (True ∧ AV.tup [.str [], .bool false] = v)) := by kernel_rfl
theorem hg4 (m : Int) : HoldsG m g4 := holdsE (e := extG [⟨10, okS1 (fun _ => true), fS1 typeM⟩]) (f := 4) fun s => by
  have pf : PF P (cfgOf m (extG [⟨10, okS1 (fun _ => true), fS1 typeM⟩])) := pf_G1 (hg10 m)
  refine runs_of pf (run4 m (fun _ => true) typeM s _) ?_
  unfold elemM preL
  cases h1 : ltI (s.length : Int) 2
  · rw [c_two h1, take_all]
    cases beqBytes (List.drop 0 (List.take 2 s)) [91, 93]
    · exact ⟨trivial, rfl⟩
    · cases typeM (s.drop 2) <;> exact ⟨trivial, rfl⟩
  · exact ⟨trivial, rfl⟩
theorem hg5 (m : Int) : HoldsG m g5 := holdsE (e := extG [⟨11, okS1 (fun _ => true), fS1 typeR⟩]) (f := 5) fun s => by
  have pf : PF P (cfgOf m (extG [⟨11, okS1 (fun _ => true), fS1 typeR⟩])) := pf_G1 (hg11 m)
  refine runs_of pf (run5 m (fun _ => true) typeR s _) ?_
  unfold elemR preR
  cases h1 : ltI 2 (s.length : Int)
  · exact ⟨trivial, rfl⟩
  · have h2 : 2 < s.length := by rw [ltI_eq] at h1; simp at h1; omega
    rw [show (decide ((0 : Int) ≤ 2) && decide ((2 : Int) ≤ (s.length : Int))) = true by simp; omega, take_all]
    cases beqBytes (List.drop 0 (List.take 2 s)) [91, 93]
    · exact ⟨trivial, rfl⟩
    · cases typeR (s.drop 2) <;> exact ⟨trivial, rfl⟩
end Go.Proofs.Mn
