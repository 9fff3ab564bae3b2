/-
EvalCopies: what a call comes to, said of the world; and the row.
-/
import Derived.Test.YtphihegaandnhaaGreatRows
import Derived.Test.YtphihegaandnhaaGreatE1
import Derived.WalkKit
import Derived.ProofKit
import Derived.OpenShut
import Derived.ShutString
import Derived.ChangeOld
import Derived.Below
import Derived.HandedShaped
import Derived.Shelf.Vars
set_option linter.unusedVariables false
set_option linter.unusedSimpArgs false
namespace Go.Proofs.Ec
open Go Go.Am

/-- All that was there may be read. -/
def topC (W : World) : Ctx := ⟨W, fun b _ => b < W.heap.size, fun b => b < W.heap.size, fun _ => ⟨0, 0, 0⟩, fun _ => False⟩
theorem topC_inv (W : World) : Inv (topC W) none0 :=
  ⟨fun id B h => (nomatch (none0_get id).symm.trans h), fun id id' B B' h => (nomatch (none0_get id).symm.trans h), fun id B h => (nomatch (none0_get id).symm.trans h), fun b c h => h, fun b h => h, fun id h => (h : False).elim⟩

theorem cell_lt {W : World} {b c : Nat} {v : Value} (h : W.cell? (at0 b c) = some v) : b < W.heap.size := by
  unfold World.cell? at h
  by_cases hb : b < W.heap.size
  · exact hb
  · rw [Array.getElem?_eq_none (by simpa using hb)] at h
    cases h

theorem topC_gr {W : World} {m : Int} {e : ExtF} (hm : W.cell? (at0 0 0) = some (.int .i64 m)) : GR (topC W) (cfgOf m e) := by
  intro g
  show VR _ (cond (Nat.beq g 0) (.rptr (.int .i64 m) 0) .undef) _
  cases h : Nat.beq g 0 with
  | false => exact .undef _
  | true =>
    obtain rfl := Nat.eq_of_beq_eq_true h
    refine .rptr (.int .i64 m) 0 0 0 (fun _ => .int .i64 m) (fun j hj => ?_) (fun j hj => ?_)
    · have : j = 0 := by simpa [AV.cells] using hj
      subst this
      exact ⟨cell_lt hm, hm, rfl⟩
    · have : j = 0 := by simpa [AV.cells] using hj
      subst this
      exact .int .i64 m

theorem is_getD (l : List Int) (i : Nat) (h : i < l.length) : (is l).getD i .undef = .int .i64 (l.getD i 0) := by
  simp [is, List.getD, h]

/-- A slice of ints, as it came in. -/
theorem topC_ints {W : World} {a : Option Addr} {cap : Nat} {l : List Int} (hcap : l.length ≤ cap) (h : l ≠ [] → ∃ x, a = some x ∧ ∀ i, i < l.length → W.cell? (x.add i) = some (.int .i64 (l.getD i 0))) :
    VR (topC W) (.lst (is l) none) (.slice a l.length cap) := by
  have hlen : (is l).length = l.length := is_len l
  rw [← hlen]
  cases l with
  | nil => exact .lst (is []) none a 0 0 1 cap (fun _ _ => undef) (fun h => absurd rfl h) (fun i hi => absurd hi (Nat.not_lt_zero _)) (fun i j hi => absurd hi (Nat.not_lt_zero _)) (fun i j hi => absurd hi (Nat.not_lt_zero _)) (fun tk h => by cases h) (Nat.zero_le _)
  | cons y r =>
    obtain ⟨x, rfl, hx⟩ := h (by simp)
    obtain ⟨b, o, sp⟩ := x
    have hsp : sp = none := by
      have h0 := hx 0 (by simp)
      simpa [Addr.add] using World.cell?_spot h0
    subst hsp
    have hx' : ∀ i, i < (y :: r).length → W.cell? (at0 b (o + i)) = some (.int .i64 ((y :: r).getD i 0)) := by
      intro i hi
      have := hx i hi
      unfold Addr.add at this
      split at this
      · rename_i e; subst e; exact this
      · exact this
    refine .lst (is (y :: r)) none (some (at0 b o)) b o 1 cap (fun i _ => .int .i64 ((y :: r).getD i 0)) (fun _ => rfl) (fun i hi => ?_) (fun i j hi hj => ?_) (fun i j hi hj => ?_) (fun tk h => by cases h) (by rw [hlen]; exact hcap)
    · rw [is_getD _ _ (by rw [← hlen]; exact hi)]; rfl
    · have hj0 : j = 0 := by omega
      subst hj0
      have := hx' i (by rw [← hlen]; exact hi)
      rw [show o + (i * 1 + 0) = o + i by omega]
      exact ⟨cell_lt this, this, rfl⟩
    · have hj0 : j = 0 := by omega
      subst hj0
      rw [is_getD _ _ (by rw [← hlen]; exact hi)]
      exact .int .i64 _

theorem has3 : (P.funcs[3]?).any (fun fn => fn.body.isSome) = true := by kernel_rfl
theorem noGo3 : (P.funcs[3]?).all (fun fn => !(fn.name == "runtime.NumGoroutine")) = true := by kernel_rfl

/-- A call of the law that the machine says true of. -/
theorem law_calls {W : World} {m : Int} {l : List Int} {a n : Int} {p : Option Addr} {cap : Nat} {σ' : ASt} (hr : CallRuns P (cfgOf m ext0) 3 [.lst (is l) none, .int .i64 a, .int .i64 n] none0 (.ret (.bool true) σ'))
    (hm : W.cell? (at0 0 0) = some (.int .i64 m)) (hcap : l.length ≤ cap) (h : l ≠ [] → ∃ x, p = some x ∧ ∀ i, i < l.length → W.cell? (x.add i) = some (.int .i64 (l.getD i 0))) :
    Calls P 3 #[.slice p l.length cap, .int .i64 a, .int .i64 n] W fun e w' => e = .returned (.bool true) ∧ RowKit.Below W.heap.size W w' := by
  have hf : FR (topC W) [.lst (is l) none, .int .i64 a, .int .i64 n] #[.slice p l.length cap, .int .i64 a, .int .i64 n] := by
    refine ⟨rfl, fun i hi => ?_⟩
    have : i = 0 ∨ i = 1 ∨ i = 2 := by simp at hi; omega
    rcases this with rfl | rfl | rfl
    · exact topC_ints hcap h
    · exact .int .i64 a
    · exact .int .i64 n
  have hc := hr (topC W) _ (Nat.le_refl _) (topC_inv W) (topC_gr hm) hf
  have hpost : ∀ e w', CallPost (topC W) none0 (.ret (.bool true) σ') e w' → e = .returned (.bool true) ∧ RowKit.Below W.heap.size W w' := by
    rintro e w' ⟨y, Γ', rfl, rfl, hv, hG⟩
    have hs := hG.step
    cases hv
    exact ⟨rfl, hs.os, hs.tape, hs.output, hs.size, fun k hk => hs.frame k hk (fun id B hg => (nomatch (none0_get id).symm.trans hg))⟩
  rcases hc with ⟨_, hc⟩ | ⟨y, w', h1, _⟩
  · exact hc.mono hpost
  · exfalso
    have hb := has3
    cases hfn : P.funcs[3]? with
    | none => rw [hfn] at hb; cases hb
    | some fn =>
      rw [hfn] at hb
      obtain ⟨c, hbody⟩ := Option.isSome_iff_exists.1 (by simpa using hb : fn.body.isSome = true)
      have hng : (fn.name == "runtime.NumGoroutine") = false := by
        have h1 := noGo3
        rw [hfn] at h1
        simpa using h1
      have h2 := MuLone.run_callFunc_enter hfn hng hbody #[.slice p l.length cap, .int .i64 a, .int .i64 n] W
      rw [show (topC W).w = W from rfl, h2] at h1
      cases h1
end Go.Proofs.Ec

namespace Go.Proofs.YtphihegaandnhaaGreat
open Go.ChangeShapes Go.WideShapes Go.ChangeAt Go.RowKit Go.Am
theorem Tryz.own : ownKnob Tryz.prog.godebug = none := by kernel_rfl
theorem Tryz.laidOut : laidOutB Tryz.prog = true := by kernel_rfl

theorem maxLen_cell {W : World} (hsh : W.ShapedOpen Tryz.prog) : ∃ m, W.cell? ⟨0, 0, none⟩ = some (.int .i64 m) :=
  cell_of_shapedOpen_int (g := 0) (t := 3) (zero := #[.int .i64 0]) hsh (of_decide_eq_true (by kernel_rfl)) (by kernel_rfl) rfl (by kernel_rfl) (by kernel_rfl) Tryz.underlying3

set_option maxRecDepth 100000 in
theorem lifted (hrun : ∀ (m : Int) (l : List Int) (a n : Int), ∃ σ', CallRuns Ec.P (Ec.cfgOf m Ec.ext0) 3 [.lst (Ec.is l) none, .int .i64 a, .int .i64 n] none0 (.ret (.bool true) σ'))
    (os : Os) (started : os.Started) (H : Type) (enc : TypeId × Value → H) :
    ReturnsInHanded {} Tryz.checked os 3 .any (Rows.evalCopiesSpec.pre6 enc Tryz.prog Tryz.f3 Rows.evalCopiesRow.domain false) (Rows.evalCopiesSpec.post enc Tryz.prog Tryz.f3 false true false false) := by
  refine returnsInHanded_of_change_shaped (C := Tryz.checked) Tryz.own started (by kernel_rfl) Tryz.func3
    (ChangeSpec.witness6 (enc := enc) (C := Tryz.checked) false ⟨#[], #[.slice none 0 0, .int .i64 0, .int .i64 0], []⟩ 8 (by kernel_rfl) (by kernel_rfl) (by kernel_rfl) (by kernel_rfl)) ?_
  intro W base args ds gs before hval0 hW hcnd _ hsh _
  have hval : ∀ (j : Nat) t v, Tryz.f3.params[j]? = some t → args[j]? = some v → Value.okWide Tryz.prog W .any base t v := hval0
  have hW' := hW
  obtain ⟨p, q, hA0, hV, rfl, hfz, hnd⟩ := hW
  have hA : DataW.TrodAll enc Tryz.prog W 0 (fun _ => true) true Tryz.f3.params.toList args.toList ds p := hA0
  rw [Tryz.params3] at hA hval
  obtain ⟨v0, vs0, d0, ds0, p0, q0, hargs, rfl, rfl, h0, r0⟩ := trodAll_cons hA
  obtain ⟨v1, vs1, d1, ds1, p1, q1, rfl, rfl, rfl, h1, r1⟩ := trodAll_cons r0
  obtain ⟨v2, vs2, d2, ds2, p2, q2, rfl, rfl, rfl, h2, r2⟩ := trodAll_cons r1
  obtain ⟨rfl, rfl, rfl⟩ := trodAll_nil r2
  obtain rfl : args = #[v0, v1, v2] := by cases args; simp_all
  obtain ⟨rfl, rfl⟩ := trodVars_none hV
  obtain ⟨a0, len0, cap0, rfl⟩ := okWide_slice Tryz.underlying22 (hval 0 22 v0 rfl rfl)
  have k0 := h0
  have lt0 : ∀ x ∈ p0, x.block < W.heap.size := by obtain ⟨m, hm⟩ := k0; exact DataW.trod_lt m _ _ _ hm
  obtain ⟨l, hl, hcap, hcell⟩ : ∃ l : List Int, len0 = l.length ∧ l.length ≤ cap0 ∧ (l ≠ [] → ∃ x, a0 = some x ∧ ∀ i, i < l.length → W.cell? (x.add i) = some (.int .i64 (l.getD i 0))) := by
    obtain ⟨fuel, hf⟩ := h0
    rcases open_ints Tryz.underlying22 Tryz.underlying3 (by kernel_rfl) hf with ⟨hcs, _⟩ | ⟨x, len, c, zs, hcs, _, hl, hm, hz, _, hcell, hwz⟩
    · simp [Value.cells] at hcs
      obtain ⟨rfl, rfl, rfl⟩ := hcs
      exact ⟨[], rfl, Nat.le_refl _, fun h => absurd rfl h⟩
    · simp [Value.cells] at hcs
      obtain ⟨rfl, rfl, rfl⟩ := hcs
      have hz' : zs.length = cap0 := by simpa using hz
      refine ⟨zs.take len0, by simp; omega, by simp; omega, fun _ => ⟨x, rfl, fun i hi => ?_⟩⟩
      have hi' : i < len0 ∧ i < zs.length := by simp at hi; omega
      rw [hcell i hi'.2]
      congr 2
      simp [List.getD, List.getElem?_take, hi'.1]
  subst hl
  obtain ⟨a1, rfl, rfl, rfl, w1⟩ := open_int Tryz.underlying3 (hval 1 3 v1 rfl rfl) h1
  obtain ⟨a2, rfl, rfl, rfl, w2⟩ := open_int Tryz.underlying3 (hval 2 3 v2 rfl rfl) h2
  obtain ⟨m, hm⟩ := maxLen_cell hsh
  clear hA0 hval0
  obtain ⟨σ', hr⟩ := hrun m l a1 a2
  refine (Ec.law_calls hr hm hcap hcell).mono fun e W' ⟨he, bel⟩ => ?_
  subst he
  exact ⟨_, rfl, _, _, _, [], _, [], hW', trodAll_mk1 (shut_bool Tryz.underlying4 _), (trodAll_cons_mk (Below.trod Tryz.laidOut (by kernel_rfl) (of_decide_eq_true (by kernel_rfl)) k0 bel lt0) (trodAll_cons_mk (shut_int Tryz.underlying3 w1) (trodAll_cons_mk (shut_int Tryz.underlying3 w2) trodAll_mk0))), rfl, bel.frame _, fun h => by cases h⟩

theorem holds_of (hrun : ∀ (m : Int) (l : List Int) (a n : Int), ∃ σ', CallRuns Ec.P (Ec.cfgOf m Ec.ext0) 3 [.lst (Ec.is l) none, .int .i64 a, .int .i64 n] none0 (.ret (.bool true) σ')) : Rows.evalCopiesRow.holds Tryz.pinned (OpenSpec.ofChange Rows.evalCopiesSpec) :=
  OpenClaim.holds_of_wide 3 Tryz.f3 rfl rfl rfl rfl rfl rfl rfl ⟨rfl, rfl, rfl, rfl, rfl⟩ rfl rfl rfl rfl rfl (by kernel_rfl) Tryz.func3 (by kernel_rfl)
    (of_decide_eq_true (by kernel_rfl)) (by unfold Func.isWrapper; first | (rw [if_pos (by decide +kernel)]; kernel_rfl) | (rw [if_neg (by decide +kernel)]; exact ⟨rfl, rfl⟩))
    (fun os started H enc _ => lifted hrun os started H enc)
end Go.Proofs.YtphihegaandnhaaGreat
