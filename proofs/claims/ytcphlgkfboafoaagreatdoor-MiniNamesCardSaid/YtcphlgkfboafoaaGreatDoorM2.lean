/-
MiniNames: frames, loops that have a lemma, loops over two lists.
-/
import Derived.Test.YtcphlgkfboafoaaGreatDoorM0
set_option linter.unusedVariables false
set_option linter.unusedSimpArgs false
namespace Go.Proofs.Mn
open Go Go.Am

def HasB (σ : ASt) : List (Nat × Blk) → Prop
  | [] => True
  | (i, b) :: r => σ.get i = some b ∧ HasB σ r
def At (l : List (Nat × AV)) (nx : Nat) (bl : List (Nat × Blk)) (tr : Tr AV) (ds : DS) (σ : ASt) : Prop := ds = [] ∧ Has tr l ∧ σ.next = nx ∧ σ.wp = 0 ∧ HasB σ bl
def Refl : List (Nat × AV) → Prop
  | [] => True
  | (_, v) :: r => v = v ∧ Refl r
def ReflB : List (Nat × Blk) → Prop
  | [] => True
  | (_, b) :: r => some b = some b ∧ ReflB r
def AtR (l : List (Nat × AV)) (nx : Nat) (bl : List (Nat × Blk)) : Prop := ([] : DS) = [] ∧ Refl l ∧ nx = nx ∧ (0 : Nat) = 0 ∧ ReflB bl
theorem refl_ok : ∀ l, Refl l
  | [] => trivial
  | (_, v) :: r => ⟨rfl, refl_ok r⟩
theorem reflB_ok : ∀ l, ReflB l
  | [] => trivial
  | (_, v) :: r => ⟨rfl, reflB_ok r⟩
theorem atR (l : List (Nat × AV)) (nx : Nat) (bl : List (Nat × Blk)) : AtR l nx bl := ⟨rfl, refl_ok l, rfl, rfl, reflB_ok bl⟩

theorem below {N : Nat} {l : List (Nat × AV)} (h : (l.map (·.1)).all (Nat.blt · N) = true) : ∀ p ∈ l, p.1 < N := by
  intro p hp
  simp only [List.all_eq_true, List.mem_map] at h
  have := h p.1 ⟨p, hp, rfl⟩
  simpa [Nat.blt_eq] using this

theorem frames_pre {m : Int} {e : ExtF} {N : Nat} {c : Code} {l : List (Nat × AV)} {tr : Tr AV} {ts : List AV} {σ σ2 : ASt} {fl : Flow} {fr' : AFr} {σ' : ASt} (h : Runs P (cfgOf m e) c ⟨tsU N l, []⟩ σ2 fl fr' σ') (hT : TR N tr ts) (hl : ∀ p ∈ l, p.1 < N) (hh : Has tr l)
    (hn : σ2.next = σ.next) (hw : σ.wp = 0) (hw2 : σ2.wp = 0) (hs : ∀ id B, σ2.get id = some B → σ.get id = some B) : Runs P (cfgOf m e) c ⟨ts, []⟩ σ fl fr' σ' := by
  obtain ⟨h1, h2⟩ := has_ts hT hl hh
  exact h.pre hs (fun id hid => by rw [hw] at hid; exact absurd hid (Nat.not_lt_zero _)) hn (by rw [hw, hw2]) rfl h1 h2

def _root_.Go.Code.at (c : Code) : List Bool → Code
  | [] => c
  | true :: r => c.cl.at r
  | false :: r => c.cr.at r

def mkHeap : List (Nat × Blk) → Tr Blk
  | [] => .leaf
  | (i, b) :: r => (mkHeap r).set i (some b)
def stOf (nx : Nat) (bl : List (Nat × Blk)) : ASt := ⟨nx, 0, mkHeap bl⟩
theorem mkHeap_get {σ : ASt} : ∀ {bl : List (Nat × Blk)}, HasB σ bl → ∀ id B, (mkHeap bl).get id = some B → σ.get id = some B
  | [], _, id, B, h => by simp [mkHeap, Tr.get] at h
  | (i, b) :: r, hb, id, B, h => by
    simp only [mkHeap, Tr.get_set] at h
    split at h
    · rename_i e; subst e; rw [hb.1]; exact h
    · exact mkHeap_get hb.2 id B h
theorem mkHeap_mem : ∀ {bl : List (Nat × Blk)} {id : Nat} {B : Blk}, (mkHeap bl).get id = some B → (id, B) ∈ bl
  | [], id, B, h => by simp [mkHeap, Tr.get] at h
  | (i, b) :: r, id, B, h => by
    simp only [mkHeap, Tr.get_set] at h
    split at h
    · rename_i e; subst e; obtain rfl := Option.some.inj h; exact List.mem_cons_self
    · exact List.mem_cons_of_mem _ (mkHeap_mem h)

/-- A loop that has a lemma: what must be so ahead of it, and what is known behind it. -/
noncomputable def hookF (N : Nat) (b : Code) (pre : List (Nat × AV)) (nx : Nat) (bl : List (Nat × Blk)) (fl : Flow) (post : List (Nat × AV)) (nx' : Nat) (bl' : List (Nat × Blk)) : LoopHook :=
  fun body tr ds σ K => ⟨fun h pc => (K fl (mkTrU N post) [] (stOf nx' bl')).run h (pc ∧ (body = b ∧ At pre nx bl tr ds σ)), fun h pc hr => ((K _ _ _ _).ent _ _ hr).1⟩

def LoopLem (m : Int) (e : ExtF) (N : Nat) (b : Code) (pre : List (Nat × AV)) (nx : Nat) (bl : List (Nat × Blk)) (fl : Flow) (post : List (Nat × AV)) (nx' : Nat) (bl' : List (Nat × Blk)) : Prop :=
  ∃ tr' ts' σ', RoundsN P (cfgOf m e) b (stOf nx bl) ⟨tsU N pre, []⟩ (stOf nx bl) fl ⟨ts', []⟩ σ' ∧ TR N tr' ts' ∧ At post nx' bl' tr' [] σ'

theorem hookF_ok {m : Int} {e : ExtF} {N : Nat} {b : Code} {pre : List (Nat × AV)} {nx : Nat} {bl : List (Nat × Blk)} {fl : Flow} {post : List (Nat × AV)} {nx' : Nat} {bl' : List (Nat × Blk)} (h : LoopLem m e N b pre nx bl fl post nx' bl')
    (hp : (pre.map (·.1)).all (Nat.blt · N) = true) (hq : (post.map (·.1)).all (Nat.blt · N) = true) (hfl : ∀ v, fl ≠ .panic v) : HookOK P (cfgOf m e) N (hookF N b pre nx bl fl post nx' bl') := by
  intro body tr ts ds σ K hT hg
  obtain ⟨hh, pc, hr⟩ := hg
  have hr : (K fl (mkTrU N post) [] (stOf nx' bl')).run hh (pc ∧ (body = b ∧ At pre nx bl tr ds σ)) := hr
  obtain ⟨_, rfl, rfl, hh1, hn, hw, hb⟩ := (K _ _ _ _).ent _ _ hr
  obtain ⟨tr', ts', σ', h1, h2, _, h4, h5, h6, h7⟩ := h
  obtain ⟨e1, e2⟩ := has_ts h2 (below hq) h4
  refine ⟨fl, mkTrU N post, tsU N post, [], stOf nx' bl', ?_, trU N post, hh, _, hr⟩
  refine frames_pre (σ2 := stOf nx bl) ?_ hT (below hp) hh1 hn.symm hw rfl (fun id B hg => mkHeap_get hb id B hg)
  exact h1.loop.post hfl (fun id B hg => mkHeap_get h7 id B hg) (fun id hid => by rw [h6] at hid; exact absurd hid (Nat.not_lt_zero _)) h5.symm h6.symm rfl e1 e2

theorem iRoom {n : Nat} (h : n ≤ 9223372036854775806) : IntKind.i64.wrap ((n : Int) + 1) = ((n + 1 : Nat) : Int) := by rw [IntWalk.i64_in _ (by omega)]; omega

mutual
theorem renV_closed (π : Nat → Option Nat) : ∀ v : AV, closedV v = true → renV π v = some v
  | .undef, _ => rfl
  | .bool _, _ => rfl
  | .int .., _ => rfl
  | .str _, _ => rfl
  | .nilp, _ => rfl
  | .nils, _ => rfl
  | .nilf, _ => rfl
  | .nilif, _ => rfl
  | .nilm, _ => rfl
  | .ptr .., h => by simp [closedV] at h
  | .sl .., h => by simp [closedV] at h
  | .map _, h => by simp [closedV] at h
  | .iter _, h => by simp [closedV] at h
  | .rptr x o, h => by simp only [renV, renV_closed π x (by simpa [closedV] using h), Option.map_some]
  | .lst xs none, h => by simp only [renV, renVs_closed π xs (by simpa [closedV] using h), Option.map_some]
  | .lst xs (some t), h => by simp [closedV] at h
  | .agg xs, h => by simp only [renV, renVs_closed π xs (by simpa [closedV] using h), Option.map_some]
  | .tup xs, h => by simp only [renV, renVs_closed π xs (by simpa [closedV] using h), Option.map_some]
  | .func f a b, h => by
    simp only [closedV, Bool.and_eq_true] at h
    simp only [renV, renVs_closed π a h.1, renVs_closed π b h.2]
  | .iface t v, h => by simp only [renV, renV_closed π v (by simpa [closedV] using h), Option.map_some]
  | .pmap a b, h => by
    simp only [closedV, Bool.and_eq_true] at h
    simp only [renV, renVs_closed π a h.1, renVs_closed π b h.2]
theorem renVs_closed (π : Nat → Option Nat) : ∀ l : List AV, closedV.closedVs l = true → renVs π l = some l
  | [], _ => rfl
  | x :: l, h => by
    simp only [closedV.closedVs, Bool.and_eq_true] at h
    simp only [renVs, renV_closed π x h.1, renVs_closed π l h.2]
end

/-- What lives on under its old name. -/
def RenL (π : Nat → Option Nat) : List (Nat × AV) → Prop
  | [] => True
  | (_, v) :: r => renV π v = some v ∧ RenL π r
theorem lives_ren {π : Nat → Option Nat} {tr : Tr AV} : ∀ {l : List (Nat × AV)}, Has tr l → RenL π l → Lives π tr l
  | [], _, _ => trivial
  | (i, v) :: r, h, hc => ⟨by rw [h.1]; exact hc.1, lives_ren h.2 hc.2⟩

def all2 (f : AV → AV → Bool) : List AV → List AV → Bool
  | [], [] => true
  | x :: xs, y :: ys => f x y && all2 f xs ys
  | _, _ => false
theorem all2_len {f : AV → AV → Bool} : ∀ {l l' : List AV}, l.length ≠ l'.length → all2 f l l' = false
  | [], [], h => absurd rfl h
  | [], _ :: _, _ => rfl
  | _ :: _, [], _ => rfl
  | x :: l, y :: l', h => by simp only [all2, all2_len (l := l) (l' := l') (by simpa using h), Bool.and_false]
theorem all2_drop {f : AV → AV → Bool} {l l' : List AV} {k : Nat} {x y : AV} (hx : l[k]? = some x) (hy : l'[k]? = some y) : all2 f (l.drop k) (l'.drop k) = (f x y && all2 f (l.drop (k + 1)) (l'.drop (k + 1))) := by
  obtain ⟨h1, e1⟩ := List.getElem?_eq_some_iff.1 hx
  obtain ⟨h2, e2⟩ := List.getElem?_eq_some_iff.1 hy
  rw [List.drop_eq_getElem_cons h1, List.drop_eq_getElem_cons h2, e1, e2]
  rfl

/-- One round's end: the next round, a return, or out of the loop. -/
def GI (L : Int → List (Nat × AV)) (bl : List (Nat × Blk)) (lE : List (Nat × AV)) (nxE : Nat) (blE : List (Nat × Blk)) (lR : List (Nat × AV)) (nxR : Nat) (blR : List (Nat × Blk)) (want : Flow) (k : Int) : Flow → Tr AV → DS → ASt → Prop := fun fl tr ds σ =>
  fl = want ∧ match fl with
    | .norm => ds = [] ∧ σ.wp = 0 ∧ Has tr (L (IntKind.i64.wrap (k + 1))) ∧ HasB σ bl
    | .ret => At lR nxR blR tr ds σ
    | .exit _ => At lE nxE blE tr ds σ
    | .panic _ => False
def NormR (l : List (Nat × AV)) (bl : List (Nat × Blk)) : Prop := ([] : DS) = [] ∧ (0 : Nat) = 0 ∧ Refl l ∧ ReflB bl
theorem normR (l : List (Nat × AV)) (bl : List (Nat × Blk)) : NormR l bl := ⟨rfl, rfl, refl_ok l, reflB_ok bl⟩

theorem pairLoop {m : Int} {e : ExtF} (pf : PF P (cfgOf m e)) {N nx ex nxE nxR : Nat} {rm : Bool} {c : Code} {L : Int → List (Nat × AV)} {bl blE blR : List (Nat × Blk)} {lE lR : List (Nat × AV)} {l l' : List AV} {f : AV → AV → Bool}
    (hlen : l.length = l'.length) (hbig : l.length ≤ 9223372036854775807) (hN : ∀ k, ((L k).map (·.1)).all (Nat.blt · N) = true) (hren : ∀ k, RenL (keepOld nx) (L k)) (hrb : ∀ p ∈ bl, keepOld nx p.1 = some p.1 ∧ renB (keepOld nx) p.2 = some p.2)
    (step : ∀ (k : Nat) x y, l[k]? = some x → l'[k]? = some y → ∃ hs, Q (((ecode P (cfgOf m e) forceT N rm c).run (ecall P (cfgOf m e) forceT 20) 20 (mkTrU N (L k)) [] (stOf nx bl) (endS (GI L bl lE nxE blE lR nxR blR (cond (f x y) .norm .ret) k))).run hs True))
    (out : ∃ hs, Q (((ecode P (cfgOf m e) forceT N rm c).run (ecall P (cfgOf m e) forceT 20) 20 (mkTrU N (L l.length)) [] (stOf nx bl) (endS (GI L bl lE nxE blE lR nxR blR (.exit ex) l.length))).run hs True)) :
    ∀ (d k : Nat), d + k = l.length →
      (all2 f (l.drop k) (l'.drop k) = true → LoopLem m e N c (L k) nx bl (.exit ex) lE nxE blE) ∧ (all2 f (l.drop k) (l'.drop k) = false → LoopLem m e N c (L k) nx bl .ret lR nxR blR) := by
  intro d
  induction d with
  | zero =>
    intro k hk
    have hk : k = l.length := by omega
    subst hk
    refine ⟨fun _ => ?_, fun h => ?_⟩
    · obtain ⟨hs, hq⟩ := out
      obtain ⟨fl, tr', ts', ds', σ', h1, h2, h3, h4⟩ := code_runs pf (mode0 m e) forceT_good (trU N (L l.length)) hq
      subst h3
      obtain rfl := h4.1
      exact ⟨tr', ts', σ', .out (by simp) h1, h2, h4⟩
    · rw [List.drop_length, hlen, List.drop_length] at h
      cases h
  | succ d ih =>
    intro k hk
    have hlt : k < l.length := by omega
    have hx : l[k]? = some l[k] := by simp [hlt]
    have hy : l'[k]? = some (l'[k]'(by omega)) := by rw [List.getElem?_eq_getElem]
    generalize l[k] = x at hx
    generalize l'[k]'(by omega) = y at hy
    obtain ⟨hs, hq⟩ := step k x y hx hy
    obtain ⟨fl, tr', ts', ds', σ', h1, h2, h3, h4⟩ := code_runs pf (mode0 m e) forceT_good (trU N (L k)) hq
    rw [all2_drop hx hy]
    cases hf : f x y with
    | false =>
      rw [hf] at h3
      subst h3
      obtain rfl := h4.1
      refine ⟨fun h => by simp at h, fun _ => ⟨tr', ts', σ', .out (by simp) h1, h2, h4⟩⟩
    | true =>
      rw [hf] at h3
      subst h3
      obtain ⟨rfl, h5, h6, h7⟩ := h4
      rw [iRoom (by omega)] at h6
      rw [Bool.true_and]
      have hrn : Renames (stOf nx bl).next (stOf nx bl).wp (stOf nx bl) ⟨ts', []⟩ σ' ⟨tsU N (L ((k + 1 : Nat) : Int)), []⟩ (stOf nx bl) := by
        refine renames_of (l := L ((k + 1 : Nat) : Int)) h2 (below (hN _)) (keepOld_names nx) (lives_ren h6 (hren _)) (fun j B h => ?_) (by rw [h5]; rfl) (fun id h => absurd h (Nat.not_lt_zero _))
        obtain ⟨r1, r2⟩ := hrb _ (mkHeap_mem h)
        exact ⟨j, B, r1, mkHeap_get h7 j B h, r2⟩
      obtain ⟨i1, i2⟩ := ih (k + 1) (by omega)
      refine ⟨fun h => ?_, fun h => ?_⟩
      · obtain ⟨tr2, ts2, σ2, g1, g2, g3⟩ := i1 h
        exact ⟨tr2, ts2, σ2, .more h1 hrn g1, g2, g3⟩
      · obtain ⟨tr2, ts2, σ2, g1, g2, g3⟩ := i2 h
        exact ⟨tr2, ts2, σ2, .more h1 hrn g1, g2, g3⟩
end Go.Proofs.Mn
