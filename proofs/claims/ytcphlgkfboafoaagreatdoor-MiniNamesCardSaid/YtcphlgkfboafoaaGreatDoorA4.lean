/-
What comes of a call is closed: it reads as before, and hangs on nothing that the call made.
Closing what comes of a call, and the state behind a call that only read.
Calls, and one operation of a region.
Regions in the order of their text.
What the operations hang on: their operands; equality of abstract values is told soundly.
States that are part of a state; ancestors; temporaries by who wrote them.
Regions whose order is drawn: from the tables of a run in the text's order to every order.
-/
import Derived.Test.YtcphlgkfboafoaaGreatDoorA3
import Derived.Conc.MuLone
set_option linter.unusedVariables false
set_option linter.unusedSimpArgs false
namespace Go.Am
open Go

theorem shutWs_get {J : AV → Option AV} : ∀ {xs ys : List AV}, shutWs J xs = some ys → ys.length = xs.length ∧ ∀ i, i < xs.length → shutW J (xs.getD i .undef) = some (ys.getD i .undef)
  | [], ys, h => by
    simp only [shutWs, Option.some.injEq] at h
    subst h
    exact ⟨rfl, fun i hi => by simp at hi⟩
  | x :: xs, ys, h => by
    simp only [shutWs] at h
    cases hx : shutW J x with
    | none => rw [hx] at h; simp at h
    | some y =>
      cases hs : shutWs J xs with
      | none => rw [hx, hs] at h; simp at h
      | some zs =>
        rw [hx, hs] at h
        obtain rfl := Option.some.inj h
        obtain ⟨h1, h2⟩ := shutWs_get hs
        refine ⟨by simp [h1], fun i hi => ?_⟩
        cases i with
        | zero => simpa using hx
        | succ i => simpa using h2 i (by simpa using hi)

theorem mapO_get {S : AV → Option AV} : ∀ {xs ys : List AV}, mapO S xs = some ys → ys.length = xs.length ∧ ∀ i, i < xs.length → S (xs.getD i .undef) = some (ys.getD i .undef)
  | [], ys, h => by
    simp only [mapO, Option.some.injEq] at h
    subst h
    exact ⟨rfl, fun i hi => by simp at hi⟩
  | x :: xs, ys, h => by
    simp only [mapO] at h
    cases hx : S x with
    | none => rw [hx] at h; simp at h
    | some y =>
      cases hs : mapO S xs with
      | none => rw [hx, hs] at h; simp at h
      | some zs =>
        rw [hx, hs] at h
        obtain rfl := Option.some.inj h
        obtain ⟨h1, h2⟩ := mapO_get hs
        refine ⟨by simp [h1], fun i hi => ?_⟩
        cases i with
        | zero => simpa using hx
        | succ i => simpa using h2 i (by simpa using hi)

/-- Cell by cell. -/
def CellWise (S : AV → Option AV) (x y : AV) : Prop := y.cells.length = x.cells.length ∧ ∀ j, j < x.cells.length → S (x.cell j) = some (y.cell j)

/-- What 'J' may make of the values that lead to blocks: values of one cell. -/
def OneJ (J : AV → Option AV) : Prop := ∀ v u, J v = some u → v.cells = [v] → u.cells = [u]

theorem shutW_cells {J : AV → Option AV} (hJ : OneJ J) {x y : AV} (h : shutW J x = some y) : CellWise (shutW J) x y := by
  have one : x.cells = [x] → y.cells = [y] → CellWise (shutW J) x y := by
    intro h1 h2
    refine ⟨by rw [h1, h2]; rfl, fun j hj => ?_⟩
    rw [h1] at hj
    have : j = 0 := by simpa using hj
    subst this
    simp only [AV.cell, h1, h2]
    exact h
  cases x with
  | agg cs =>
    simp only [shutW] at h
    obtain ⟨ys, hy, rfl⟩ := map_some_inv h
    obtain ⟨h1, h2⟩ := shutWs_get hy
    exact ⟨h1, fun j hj => h2 j hj⟩
  | lst xs t => simp only [shutW] at h; obtain ⟨ys, hy, rfl⟩ := map_some_inv h; exact one rfl rfl
  | rptr z off => simp only [shutW] at h; obtain ⟨ys, hy, rfl⟩ := map_some_inv h; exact one rfl rfl
  | tup xs => simp only [shutW] at h; obtain ⟨ys, hy, rfl⟩ := map_some_inv h; exact one rfl rfl
  | iface t v => simp only [shutW] at h; obtain ⟨ys, hy, rfl⟩ := map_some_inv h; exact one rfl rfl
  | func g a b =>
    simp only [shutW] at h
    split at h
    · obtain rfl := Option.some.inj h; exact one rfl rfl
    · cases h
  | pmap ks vs =>
    simp only [shutW] at h
    split at h
    · obtain rfl := Option.some.inj h; exact one rfl rfl
    · cases h
  | sl k id a n => simp only [shutW] at h; exact one rfl (hJ _ _ h rfl)
  | ptr id i off => simp only [shutW] at h; exact one rfl (hJ _ _ h rfl)
  | map id => simp only [shutW] at h; exact one rfl (hJ _ _ h rfl)
  | iter id => simp only [shutW] at h; exact one rfl (hJ _ _ h rfl)
  | _ => simp only [shutW] at h; obtain rfl := Option.some.inj h; exact one rfl rfl

theorem shutW_storable {J : AV → Option AV} (hJ : OneJ J) (hJs : ∀ v u, J v = some u → u.storable = true) {x y : AV} (h : shutW J x = some y) (hs : x.storable = true) : y.storable = true := by
  cases x with
  | undef => simp [AV.storable] at hs
  | tup xs => simp [AV.storable] at hs
  | agg cs => simp only [shutW] at h; obtain ⟨ys, hy, rfl⟩ := map_some_inv h; rfl
  | lst xs t => simp only [shutW] at h; obtain ⟨ys, hy, rfl⟩ := map_some_inv h; rfl
  | rptr z off => simp only [shutW] at h; obtain ⟨ys, hy, rfl⟩ := map_some_inv h; rfl
  | iface t v => simp only [shutW] at h; obtain ⟨ys, hy, rfl⟩ := map_some_inv h; rfl
  | func g a b =>
    simp only [shutW] at h
    split at h
    · obtain rfl := Option.some.inj h; rfl
    · cases h
  | pmap ks vs =>
    simp only [shutW] at h
    split at h
    · obtain rfl := Option.some.inj h; rfl
    · cases h
  | sl k id a n => simp only [shutW] at h; exact hJs _ _ h
  | ptr id i off => simp only [shutW] at h; exact hJs _ _ h
  | map id => simp only [shutW] at h; exact hJs _ _ h
  | iter id => simp only [shutW] at h; exact hJs _ _ h
  | _ => simp only [shutW] at h; obtain rfl := Option.some.inj h; rfl

section
variable {Γ₁ Γ₂ : Ctx} {J : AV → Option AV}

theorem shutW_vr (hJ1 : OneJ J) (hJs : ∀ v u, J v = some u → u.storable = true) (hw : Γ₂.w = Γ₁.w) (hst : ∀ b c, Γ₁.St b c → Γ₂.St b c) (hsto : ∀ b, Γ₁.StO b → Γ₂.StO b)
    (hJ : ∀ v u y, J v = some u → VR Γ₁ v y → VR Γ₂ u y) {v : AV} {y : Value} (h : VR Γ₁ v y) : ∀ u, shutW J v = some u → VR Γ₂ u y := by
  induction h with
  | undef v => intro u hu; simp only [shutW, Option.some.injEq] at hu; subst hu; exact .undef _
  | bool b => intro u hu; simp only [shutW, Option.some.injEq] at hu; subst hu; exact .bool _
  | int k n => intro u hu; simp only [shutW, Option.some.injEq] at hu; subst hu; exact .int _ _
  | str s => intro u hu; simp only [shutW, Option.some.injEq] at hu; subst hu; exact .str _
  | nilp => intro u hu; simp only [shutW, Option.some.injEq] at hu; subst hu; exact .nilp
  | ptr id i off h => intro u hu; simp only [shutW] at hu; exact hJ _ _ _ hu (.ptr id i off h)
  | rptr x off b o f hc hv ih =>
    intro u hu
    simp only [shutW] at hu
    obtain ⟨z, hz, rfl⟩ := map_some_inv hu
    obtain ⟨h1, h2⟩ := shutW_cells hJ1 hz
    exact .rptr z off b o f (fun j hj => by rw [h1] at hj; obtain ⟨a1, a2, a3⟩ := hc j hj; exact ⟨hst _ _ a1, by rw [hw]; exact a2, a3⟩)
      (fun j hj => by rw [h1] at hj; exact ih j hj _ (h2 j hj))
  | nils a =>
    intro u hu
    simp only [shutW, Option.some.injEq] at hu
    subst hu
    exact .lst [] none a 0 0 0 0 (fun _ _ => Go.undef) (fun h => absurd rfl h) (fun i hi => by simp at hi) (fun i j hi => by simp at hi) (fun i j hi => by simp at hi) (fun tk h => by cases h) (Nat.le_refl _)
  | lst xs t a b o k cap f ha hk hc hv ht hl ih =>
    intro u hu
    simp only [shutW] at hu
    obtain ⟨ys, hy, rfl⟩ := map_some_inv hu
    obtain ⟨h1, h2⟩ := shutWs_get hy
    have hcw : ∀ i, i < xs.length → CellWise (shutW J) (xs.getD i .undef) (ys.getD i .undef) := fun i hi => shutW_cells hJ1 (h2 i hi)
    rw [← h1]
    refine .lst ys none a b o k cap f (fun hne => ha (by rintro rfl; exact hne (List.eq_nil_of_length_eq_zero (by simpa using h1)))) (fun i hi => ?_) (fun i j hi hj => ?_) (fun i j hi hj => ?_) (fun tk h => by cases h) (by omega)
    · rw [h1] at hi; rw [(hcw i hi).1]; exact hk i hi
    · rw [h1] at hi; obtain ⟨a1, a2, a3⟩ := hc i j hi hj; exact ⟨hst _ _ a1, by rw [hw]; exact a2, a3⟩
    · rw [h1] at hi; exact ih i j hi hj _ ((hcw i hi).2 j (by rw [hk i hi]; exact hj))
  | sl k id lo n off cap h1 h2 h3 h4 h5 => intro u hu; simp only [shutW] at hu; exact hJ _ _ _ hu (.sl k id lo n off cap h1 h2 h3 h4 h5)
  | agg cs vs h1 h2 h3 ih =>
    intro u hu
    simp only [shutW] at hu
    obtain ⟨ys, hy, rfl⟩ := map_some_inv hu
    obtain ⟨e1, e2⟩ := shutWs_get hy
    exact .agg ys vs (by rw [e1]; exact h1) (fun i hi => h2 i (by omega)) (fun i hi => ih i (by omega) _ (e2 i (by omega)))
  | tup cs vs h1 h3 ih =>
    intro u hu
    simp only [shutW] at hu
    obtain ⟨ys, hy, rfl⟩ := map_some_inv hu
    obtain ⟨e1, e2⟩ := shutWs_get hy
    exact .tup ys vs (by rw [e1]; exact h1) (fun i hi => ih i (by omega) _ (e2 i (by omega)))
  | func f a b va vb h1 h2 h3 h4 ih1 ih2 =>
    intro u hu
    simp only [shutW] at hu
    split at hu
    · rename_i a' b' ha' hb'
      obtain rfl := Option.some.inj hu
      obtain ⟨e1, e2⟩ := shutWs_get ha'
      obtain ⟨g1, g2⟩ := shutWs_get hb'
      exact .func f a' b' va vb (by rw [e1]; exact h1) (by rw [g1]; exact h2) (fun i hi => ih1 i (by omega) _ (e2 i (by omega))) (fun i hi => ih2 i (by omega) _ (g2 i (by omega)))
    · cases hu
  | nilf => intro u hu; simp only [shutW, Option.some.injEq] at hu; subst hu; exact .nilf
  | iface t v x h hs ih =>
    intro u hu
    simp only [shutW] at hu
    obtain ⟨z, hz, rfl⟩ := map_some_inv hu
    exact .iface t z x (ih z hz) (shutW_storable hJ1 hJs hz hs)
  | nilif => intro u hu; simp only [shutW, Option.some.injEq] at hu; subst hu; exact .nilif
  | nilm => intro u hu; simp only [shutW, Option.some.injEq] at hu; subst hu; exact .nilm
  | map id h => intro u hu; simp only [shutW] at hu; exact hJ _ _ _ hu (.map id h)
  | pmap ks vs b es clock h1 h2 h3 h4 h5 h6 ih1 ih2 =>
    intro u hu
    simp only [shutW] at hu
    split at hu
    · rename_i a' b' ha' hb'
      obtain rfl := Option.some.inj hu
      obtain ⟨e1, e2⟩ := shutWs_get ha'
      obtain ⟨g1, g2⟩ := shutWs_get hb'
      exact .pmap a' b' b es clock (hsto b h1) (by rw [hw]; exact h2) (by rw [e1]; exact h3) (by rw [g1]; exact h4) (fun i hi => ih1 i hi _ (e2 i (by omega))) (fun i hi => ih2 i hi _ (g2 i (by omega)))
    · cases hu
end
end Go.Am

set_option linter.unusedVariables false
set_option linter.unusedSimpArgs false
namespace Go.Am
open Go

/-- Behind a closed call: what it made stands still from now on. -/
def Ctx.seal (Γ₁ : Ctx) (σ₁ : ASt) (lo : Nat) : Ctx :=
  ⟨Γ₁.w, fun b c => Γ₁.St b c ∨ ∃ id B, σ₁.get id = some B ∧ lo ≤ id ∧ (Γ₁.ρ id).b = b, fun b => Γ₁.StO b ∨ ∃ id B, σ₁.get id = some B ∧ lo ≤ id ∧ (Γ₁.ρ id).b = b,
   Γ₁.ρ, fun id => Γ₁.dom id ∧ id < lo⟩

section
variable {Γ₁ : Ctx} {σ₁ : ASt} {lo : Nat}

structure GoodS (Γ₁ Γ₂ : Ctx) (S : AV → Option AV) : Prop where
  cw : ∀ x y, S x = some y → CellWise S x y
  st : ∀ x y, S x = some y → x.storable = true → y.storable = true
  vr : ∀ v u y, S v = some u → VR Γ₁ v y → VR Γ₂ u y

theorem jump_one (S : AV → Option AV) : OneJ (jump σ₁ lo S) ∧ ∀ v u, jump σ₁ lo S v = some u → u.storable = true := by
  have key : ∀ v u, jump σ₁ lo S v = some u → u.cells = [u] ∧ u.storable = true := by
    intro v u h
    unfold jump at h
    split at h
    · split at h
      · obtain rfl := Option.some.inj h; exact ⟨rfl, rfl⟩
      · split at h
        · split at h
          · obtain ⟨ys, _, rfl⟩ := map_some_inv h; exact ⟨rfl, rfl⟩
          · cases h
        · cases h
    · split at h
      · obtain rfl := Option.some.inj h; exact ⟨rfl, rfl⟩
      · split at h
        · split at h
          · obtain ⟨ys, _, rfl⟩ := map_some_inv h; exact ⟨rfl, rfl⟩
          · cases h
        · cases h
    · split at h
      · obtain rfl := Option.some.inj h; exact ⟨rfl, rfl⟩
      · split at h
        · split at h
          · obtain rfl := Option.some.inj h; exact ⟨rfl, rfl⟩
          · cases h
        · cases h
    · cases h
  exact ⟨fun v u h _ => (key v u h).1, fun v u h => (key v u h).2⟩

theorem jump_vr (hI : Inv Γ₁ σ₁) {S : AV → Option AV} (hS : GoodS Γ₁ (Γ₁.seal σ₁ lo) S) : ∀ v u y, jump σ₁ lo S v = some u → VR Γ₁ v y → VR (Γ₁.seal σ₁ lo) u y := by
  intro v u y h hv
  have hle : ∀ id, ¬ id < lo → lo ≤ id := fun id h => Nat.le_of_not_lt h
  unfold jump at h
  split at h
  · rename_i k id a n
    cases hv with
    | sl _ _ _ _ off cap hd hρ hc hn hoff =>
      split at h
      · rename_i hlt
        obtain rfl := Option.some.inj h
        exact .sl (Γ := Γ₁.seal σ₁ lo) k id a n off cap ⟨hd, hlt⟩ hρ hc hn hoff
      · rename_i hnl
        split at h
        · rename_i k' xs ty hblk
          have hi := hblk
          split at h
          · rename_i hb
            obtain ⟨rfl, hle'⟩ := hb
            obtain ⟨ys, hys, rfl⟩ := map_some_inv h
            obtain ⟨e1, e2⟩ := mapO_get hys
            obtain ⟨_, _, hk, hcap, arr, e, hh, hsz, hrow⟩ := hI.blk id _ hi
            have hlen : ((xs.drop a).take n).length = n := by simp; omega
            have hget : ∀ i, i < n → ((xs.drop a).take n).getD i .undef = xs.getD (a + i) .undef := by
              intro i hi; simp [List.getD, List.getElem?_take, hi]
            rw [hlen] at e1 e2
            have hin : ∀ i j, i < n → j < k' → (a + i) * k' + j < arr.size := by
              intro i j hi hj
              rw [hsz]
              calc (a + i) * k' + j < (a + i) * k' + k' := by omega
                _ = (a + i + 1) * k' := by rw [Nat.succ_mul]
                _ ≤ (Γ₁.ρ id).cap * k' := Nat.mul_le_mul_right _ (by omega)
            have hcw : ∀ i, i < n → CellWise S (xs.getD (a + i) .undef) (ys.getD i .undef) := fun i hi => by
              have := e2 i hi
              rw [hget i hi] at this
              exact hS.cw _ _ this
            rw [← e1]
            refine .lst ys none _ (Γ₁.ρ id).b off k' cap (fun i j => arr.getD ((a + i) * k' + j) Go.undef) (fun _ => rfl) (fun i hi => ?_) (fun i j hi hj => ?_) (fun i j hi hj => ?_) (fun tk h => by cases h) (by omega)
            · rw [e1] at hi
              rw [(hcw i hi).1]
              exact (hrow (a + i) (by omega)).1
            · rw [e1] at hi
              have hoff' : off = a * k' := by
                rcases hoff with h | h
                · exact h
                · omega
              have e3 : off + (i * k' + j) = (a + i) * k' + j := by rw [hoff', Nat.add_mul]; omega
              have hlt := hin i j hi hj
              refine ⟨.inr ⟨id, _, hblk, hle _ hnl, rfl⟩, ?_, ((hrow (a + i) (by omega)).2 j hj).1⟩
              show Γ₁.w.cell? _ = _
              rw [e3]
              simp [World.cell?, at0, hh, hlt]
            · rw [e1] at hi
              have hl := (hrow (a + i) (by omega)).1
              exact hS.vr _ _ _ ((hcw i hi).2 j (by rw [hl]; exact hj)) ((hrow (a + i) (by omega)).2 j hj).2
          · cases h
        · cases h
  · rename_i id i off
    cases hv with
    | ptr _ _ _ hd =>
      split at h
      · rename_i hlt
        obtain rfl := Option.some.inj h
        exact .ptr (Γ := Γ₁.seal σ₁ lo) id i off ⟨hd, hlt⟩
      · rename_i hnl
        split at h
        · rename_i k' xs ty hi
          split at h
          · rename_i x hx
            obtain ⟨z, hz, rfl⟩ := map_some_inv h
            obtain ⟨_, _, hk, hcap, arr, e, hh, hsz, hrow⟩ := hI.blk id _ hi
            obtain ⟨hj, _⟩ := List.getElem?_eq_some_iff.1 hx
            have hxd : xs.getD i .undef = x := by simp [List.getD, hx]
            obtain ⟨hlen, hcells⟩ := hrow i hj
            rw [hxd] at hlen hcells
            have hcw := hS.cw _ _ hz
            have hin : ∀ c, c < k' → i * k' + c < arr.size := by
              intro c hc
              rw [hsz]
              calc i * k' + c < i * k' + k' := by omega
                _ = (i + 1) * k' := by rw [Nat.succ_mul]
                _ ≤ (Γ₁.ρ id).cap * k' := Nat.mul_le_mul_right _ (by omega)
            rw [hk]
            refine .rptr z off (Γ₁.ρ id).b (i * k') (fun c => arr.getD (i * k' + c) Go.undef) (fun j hj => ?_) (fun j hj => ?_)
            · rw [hcw.1, hlen] at hj
              refine ⟨.inr ⟨id, _, hi, hle _ hnl, rfl⟩, ?_, (hcells j hj).1⟩
              have := hin j hj
              show Γ₁.w.cell? _ = _
              simp [World.cell?, at0, hh, this]
            · rw [hcw.1] at hj
              exact hS.vr _ _ _ (hcw.2 j hj) (hcells j (by rw [← hlen]; exact hj)).2
          · cases h
        · cases h
  · rename_i id
    cases hv with
    | map _ hd =>
      split at h
      · rename_i hlt
        obtain rfl := Option.some.inj h
        exact .map (Γ := Γ₁.seal σ₁ lo) id ⟨hd, hlt⟩
      · rename_i hnl
        split at h
        · rename_i ks vs hi
          split at h
          · rename_i as bs ha hb
            obtain rfl := Option.some.inj h
            obtain ⟨e1, e2⟩ := mapO_get ha
            obtain ⟨g1, g2⟩ := mapO_get hb
            obtain ⟨_, _, es, clock, hh, hk, hl, hks, hvs⟩ := hI.blk id _ hi
            exact .pmap as bs (Γ₁.ρ id).b es clock (.inr ⟨id, _, hi, hle _ hnl, rfl⟩) hh (by rw [e1]; exact hk) (by rw [g1]; exact hl)
              (fun i hi => hS.vr _ _ _ (e2 i (by omega)) (hks i hi)) (fun i hi => hS.vr _ _ _ (g2 i (by omega)) (hvs i hi))
          · cases h
        · cases h
  · cases h

theorem shutW_good (hI : Inv Γ₁ σ₁) {S : AV → Option AV} (hS : GoodS Γ₁ (Γ₁.seal σ₁ lo) S) : GoodS Γ₁ (Γ₁.seal σ₁ lo) (shutW (jump σ₁ lo S)) where
  cw := fun x y h => shutW_cells (jump_one S).1 h
  st := fun x y h hs => shutW_storable (jump_one S).1 (jump_one S).2 h hs
  vr := fun v u y h hv => shutW_vr (Γ₁ := Γ₁) (Γ₂ := Γ₁.seal σ₁ lo) (jump_one S).1 (jump_one S).2 rfl (fun _ _ h => Or.inl h) (fun _ h => Or.inl h) (jump_vr hI hS) hv u h

theorem shut_good (hI : Inv Γ₁ σ₁) : ∀ f, GoodS Γ₁ (Γ₁.seal σ₁ lo) (shut σ₁ lo f)
  | 0 => shutW_good hI (S := fun _ => none) ⟨fun _ _ h => (nomatch h), fun _ _ h _ => (nomatch h), fun _ _ _ h _ => (nomatch h)⟩
  | f + 1 => shutW_good hI (shut_good hI f)

/-- Behind a call that touched nothing that was there. -/
theorem seal_step {Γ : Ctx} {σ : ASt} (hI : Inv Γ σ) (hI₁ : Inv Γ₁ σ₁) (hs : Step Γ { σ with wp := σ.next } Γ₁ σ₁) :
    Step Γ σ (Γ₁.seal σ₁ σ.next) σ ∧ Inv (Γ₁.seal σ₁ σ.next) σ := by
  have hro : ∀ id, id < σ.next → σ₁.get id = σ.get id := fun id h => hs.ro id h
  have hheap : ∀ b, b < Γ.w.heap.size → Γ₁.w.heap[b]? = Γ.w.heap[b]? := fun b hb => hs.frame b hb (fun id B hg hw => by
    have h1 := (hI.blk id B hg).2.1
    have h2 : σ.next ≤ id := hw
    omega)
  have he : Ext Γ (Γ₁.seal σ₁ σ.next) := ⟨fun id h => ⟨hs.ext.dom id h, hI.domlt id h⟩, hs.ext.ρ, fun b c h => .inl (hs.ext.st b c h), hs.ext.cell, fun b h => .inl (hs.ext.sto b h), hs.ext.obj⟩
  have hρ : ∀ id B, σ.get id = some B → Γ₁.ρ id = Γ.ρ id := fun id B h => hs.ext.ρ id (hI.blk id B h).1
  refine ⟨⟨he, hs.size, hs.os, hs.tape, hs.output, fun b hb _ => hheap b hb, fun id B h hw => .inr ⟨id, B, h, hw, ?_⟩, fun _ _ => rfl, rfl, Nat.le_refl _, fun b c h => ?_, fun b h => ?_⟩, ?_⟩
  · exact (congrArg BI.b (hρ id B h)).symm
  · rcases h with h | ⟨id, B, h, hle, e⟩
    · rcases hs.stg b c h with h | h | ⟨id, B, h, hw, e⟩
      · exact .inl h
      · exact .inr (.inl h)
      · exact absurd (hI.blk id B h).2.1 (Nat.not_lt.2 hw)
    · rcases hs.own id B h hle with h' | ⟨id, B, h, hw, e⟩
      · exact .inr (.inl (by rw [← e]; exact h'))
      · exact absurd (hI.blk id B h).2.1 (Nat.not_lt.2 hw)
  · rcases h with h | ⟨id, B, h, hle, e⟩
    · rcases hs.stog b h with h | h | ⟨id, B, h, hw, e⟩
      · exact .inl h
      · exact .inr (.inl h)
      · exact absurd (hI.blk id B h).2.1 (Nat.not_lt.2 hw)
    · rcases hs.own id B h hle with h' | ⟨id, B, h, hw, e⟩
      · exact .inr (.inl (by rw [← e]; exact h'))
      · exact absurd (hI.blk id B h).2.1 (Nat.not_lt.2 hw)
  · refine ⟨fun id B h => ⟨he.dom id (hI.blk id B h).1, (hI.blk id B h).2.1, ?_⟩, fun id id' B B' h h' hne => ?_, fun id B h => ?_, fun b c h => ?_, fun b h => ?_, fun id h => h.2⟩
    · show BlkR _ (Γ₁.ρ id) B
      rw [hρ id B h]
      exact (hI.blk id B h).2.2.ext he (hheap _ (hI.blt h))
    · show (Γ₁.ρ id).b ≠ (Γ₁.ρ id').b
      rw [hρ id B h, hρ id' B' h']
      exact hI.inj id id' B B' h h' hne
    · have hlt := (hI.blk id B h).2.1
      have h1 : σ₁.get id = some B := (hro id hlt).trans h
      have hn : ∀ id' B', σ₁.get id' = some B' → σ.next ≤ id' → (Γ₁.ρ id').b ≠ (Γ₁.ρ id).b := fun id' B' h' hle => hI₁.inj id' id B' B h' h1 (by omega)
      refine ⟨fun c hc hx => ?_, fun hx => ?_⟩
      · rcases hx with hx | ⟨id', B', h', hle, e⟩
        · exact (hI₁.free id B h1).1 c hc hx
        · exact hn id' B' h' hle e
      · rcases hx with hx | ⟨id', B', h', hle, e⟩
        · exact (hI₁.free id B h1).2 hx
        · exact hn id' B' h' hle e
    · rcases h with h | ⟨id', B', h', hle, e⟩
      · exact hI₁.lt b c h
      · rw [← e]; exact hI₁.blt h'
    · rcases h with h | ⟨id', B', h', hle, e⟩
      · exact hI₁.lto b h
      · rw [← e]; exact hI₁.blt h'

theorem Inv.wpn {Γ : Ctx} {σ : ASt} (hI : Inv Γ σ) : Inv Γ { σ with wp := σ.next } := ⟨hI.blk, hI.inj, hI.free, hI.lt, hI.lto, hI.domlt⟩
end
end Go.Am

set_option linter.unusedVariables false
set_option linter.unusedSimpArgs false
namespace Go.Am
open Go

/-- What a call of function f comes to: entered, or reckoned at once. -/
def CallW (P : Program) (f : FuncId) (vs : Array Value) (w : World) (R : Ending → World → Prop) : Prop :=
  ((callFunc f vs).run P w = .ok (.enter f vs) w ∧ Calls P f vs w R) ∨ ∃ y w', (callFunc f vs).run P w = .ok (.value y) w' ∧ R (.returned y) w'

theorem CallW.mono {P : Program} {f : FuncId} {vs : Array Value} {w : World} {R R' : Ending → World → Prop} (h : CallW P f vs w R) (hr : ∀ e w', R e w' → R' e w') : CallW P f vs w R' := by
  rcases h with ⟨h1, h2⟩ | ⟨y, w', h1, h2⟩
  · exact .inl ⟨h1, h2.mono hr⟩
  · exact .inr ⟨y, w', h1, hr _ _ h2⟩

structure Good (Γ : Ctx) (σ : ASt) (Γ' : Ctx) (σ' : ASt) (D : Nat → Prop) : Prop where
  step : Step Γ σ Γ' σ'
  inv : Inv Γ' σ'
  dom : ∀ j, Γ'.dom j → Γ.dom j ∨ D j

theorem Good.refl {Γ : Ctx} {σ : ASt} {D : Nat → Prop} (hI : Inv Γ σ) : Good Γ σ Γ σ D := ⟨.refl Γ σ, hI, fun j h => .inl h⟩
theorem Good.trans {Γ₁ Γ₂ Γ₃ : Ctx} {σ₁ σ₂ σ₃ : ASt} {D D₁ D₂ : Nat → Prop} (h : Good Γ₁ σ₁ Γ₂ σ₂ D₁) (k : Good Γ₂ σ₂ Γ₃ σ₃ D₂)
    (h1 : ∀ j, D₁ j → D j) (h2 : ∀ j, D₂ j → D j) : Good Γ₁ σ₁ Γ₃ σ₃ D :=
  ⟨h.step.trans k.step, k.inv, fun j hj => (k.dom j hj).elim (fun hj => (h.dom j hj).elim .inl fun x => .inr (h1 j x)) fun x => .inr (h2 j x)⟩

/-- What the abstract machine says of a call. -/
def CallPost (Γ : Ctx) (σ : ASt) (r : CR) (e : Ending) (w' : World) : Prop :=
  match r with
  | .ret v σ' => ∃ y Γ', e = .returned y ∧ Γ'.w = w' ∧ VR Γ' v y ∧ Good Γ σ Γ' σ' (σ.next ≤ ·)
  | .panic v σ' => ∃ y Γ', e = .panicked [{ v := y, recovered := false }] ∧ Γ'.w = w' ∧ VR Γ' v y ∧ Good Γ σ Γ' σ' (σ.next ≤ ·)

def CallOK (P : Program) (cfg : Cfg) (call : FuncId → List AV → ASt → Option CR) : Prop :=
  ∀ f args σ r Γ vs, call f args σ = some r → σ.wp ≤ σ.next → Inv Γ σ → GR Γ cfg → FR Γ args vs → CallW P f vs Γ.w (CallPost Γ σ r)

section
variable {P : Program} {cfg : Cfg} {call : FuncId → List AV → ASt → Option CR} {fuel : Nat} {Γ : Ctx} {σ : ASt}

theorem FR.append {xs ys : List AV} {vs us : Array Value} (h : FR Γ xs vs) (g : FR Γ ys us) : FR Γ (xs ++ ys) (vs ++ us) := by
  refine ⟨by simp [h.1, g.1], fun i hi => ?_⟩
  by_cases hx : i < xs.length
  · have e1 : (xs ++ ys).getD i .undef = xs.getD i .undef := by simp [List.getD, List.getElem?_append_left hx]
    have e2 : (vs ++ us).getD i undef = vs.getD i undef := by
      simp only [Array.getD_eq_getD_getElem?]
      rw [Array.getElem?_append_left (by rw [h.1]; exact hx)]
    rw [e1, e2]; exact h.2 i hx
  · have hx' : xs.length ≤ i := Nat.le_of_not_lt hx
    have e1 : (xs ++ ys).getD i .undef = ys.getD (i - xs.length) .undef := by simp [List.getD, List.getElem?_append_right hx']
    have e2 : (vs ++ us).getD i undef = us.getD (i - xs.length) undef := by
      simp only [Array.getD_eq_getD_getElem?]
      rw [Array.getElem?_append_right (by rw [h.1]; exact hx'), h.1]
    rw [e1, e2]; exact g.2 _ (by simp at hi; omega)

theorem FR.of_list {xs : List AV} {vs : Array Value} (h1 : vs.size = xs.length) (h2 : ∀ i, i < xs.length → VR Γ (xs.getD i .undef) (vs.getD i undef)) : FR Γ xs vs := ⟨h1, h2⟩

theorem doCall_ok (hC : CallOK P cfg call) {f : FuncId} {args : List AV} {r : CR} {vs : Array Value} (h : doCall cfg call fuel f args σ = some r) (hwp : σ.wp ≤ σ.next) (hI : Inv Γ σ) (hg : GR Γ cfg) (hf : FR Γ args vs) :
    CallW P f vs Γ.w (CallPost Γ σ r) := by
  unfold doCall at h
  cases hm : Nat.beq (cfg.mode f) 0 with
  | true => rw [hm] at h; exact hC f args σ r Γ vs h hwp hI hg hf
  | false =>
    rw [hm] at h
    simp only [cond, pureCall] at h
    have key : ∀ {v u : AV} {σ' : ASt} {y : Value} {Γ₁ : Ctx}, shut σ' σ.next fuel v = some u → VR Γ₁ v y → Good Γ { σ with wp := σ.next } Γ₁ σ' (σ.next ≤ ·) →
        ∃ Γ', Γ'.w = Γ₁.w ∧ VR Γ' u y ∧ Good Γ σ Γ' σ (σ.next ≤ ·) := by
      intro v u σ' y Γ₁ hu hv hG
      obtain ⟨s1, s2⟩ := seal_step hI hG.inv hG.step
      exact ⟨Γ₁.seal σ' σ.next, rfl, (shut_good hG.inv fuel).vr v u y hu hv, s1, s2, fun j hj => hG.dom j hj.1⟩
    split at h
    · rename_i v σ' hc
      obtain ⟨u, hu, rfl⟩ := map_some_inv h
      refine (hC f args _ _ Γ vs hc (Nat.le_refl _) hI.wpn hg hf).mono fun e w' hp => ?_
      obtain ⟨y, Γ₁, he, hw, hv, hG⟩ := hp
      obtain ⟨Γ', e1, e2, e3⟩ := key hu hv hG
      exact ⟨y, Γ', he, e1.trans hw, e2, e3⟩
    · rename_i v σ' hc
      obtain ⟨u, hu, rfl⟩ := map_some_inv h
      refine (hC f args _ _ Γ vs hc (Nat.le_refl _) hI.wpn hg hf).mono fun e w' hp => ?_
      obtain ⟨y, Γ₁, he, hw, hv, hG⟩ := hp
      obtain ⟨Γ', e1, e2, e3⟩ := key hu hv hG
      exact ⟨y, Γ', he, e1.trans hw, e2, e3⟩
    · cases h

/-- Deferred calls. -/
inductive DefR (Γ : Ctx) : List (AV × List AV) → List Deferred → Prop
  | nil : DefR Γ [] []
  | cons (f : FuncId) (caps args : List AV) (vc va : Array Value) (ds : List (AV × List AV)) (vs : List Deferred) : FR Γ caps vc → FR Γ args va → DefR Γ ds vs →
      DefR Γ ((.func f [] caps, args) :: ds) ({ target := .fn (.func f) vc, args := va } :: vs)

theorem DefR.ext {Γ' : Ctx} (e : Ext Γ Γ') {ds : List (AV × List AV)} {vs : List Deferred} (h : DefR Γ ds vs) : DefR Γ' ds vs := by
  induction h with
  | nil => exact .nil
  | cons f caps args vc va ds vs h1 h2 h3 ih => exact .cons f caps args vc va ds vs (h1.ext e) (h2.ext e) ih

/-- The frame. -/
structure FRel (Γ : Ctx) (fr : AFr) (a : Act) : Prop where
  ts : FR Γ fr.ts a.tmps
  ds : DefR Γ fr.ds a.defers

theorem FRel.ext {Γ' : Ctx} (e : Ext Γ Γ') {fr : AFr} {a : Act} (h : FRel Γ fr a) : FRel Γ' fr a := ⟨h.ts.ext e, h.ds.ext e⟩
theorem FRel.put {fr : AFr} {a : Act} (h : FRel Γ fr a) (d : Option Tmp) {v : AV} {y : Value} (hv : VR Γ v y) : FRel Γ (fr.put d v) (a.put d y) := by
  cases d with
  | none => exact h
  | some d => exact ⟨h.ts.set d hv, h.ds⟩
theorem VR.undefT : VR Γ (.tup []) Go.undef := .tup [] #[] rfl (fun i hi => by simp at hi)

/-- What the callee is. -/
theorem calleeA_ok {ts : List AV} {a : Act} {o : Oper} {f : FuncId} {args : List AV} (hg : GR Γ cfg) (hf : FR Γ ts a.tmps) (h : calleeA (aval cfg ts) o = some (f, args)) :
    ∃ vs, FR Γ args vs ∧ ∀ w, (execOp a.eval o).run P w = (callFunc f vs).run P w := by
  unfold calleeA at h
  split at h
  · rename_i g xs tys ho
    split at h
    · rename_i f' first caps hgv
      simp only [Option.some.injEq, Prod.mk.injEq] at h
      obtain ⟨rfl, rfl⟩ := h
      have hv := aval_vr hg hf g
      rw [hgv] at hv
      generalize hG : a.eval g = G at hv
      cases hv with
      | func _ _ _ va vb h1 h2 h3 h4 =>
        have hm := map_vr hg hf xs
        refine ⟨va ++ xs.map a.eval ++ vb, ((FR.of_list h1 h3).append ⟨hm.1, fun i hi => hm.2 i hi⟩).append (FR.of_list h2 h4), fun w => ?_⟩
        simp only [execOp, ho, resolve, hG, Deferred.ofValue, Sem.run_bind, Sem.run_pure, Result.andThen_ok, invoke]
    · cases h
  · cases h

theorem stepA_ok {fr : AFr} {a : Act} {o : Oper} {id : Nat} {rm : Bool} {r : SR} {K : Act → World → Prop} {Q : Exit → Act → World → Prop}
    (hC : CallOK P cfg call) (hI : Inv Γ σ) (hg : GR Γ cfg) (hf : FRel Γ fr a) (hF : Fresh Γ σ id) (h : stepA P cfg call fuel rm id o fr σ = some r)
    (hK : match r with
      | .go fr' σ' => ∀ Γ' a', Good Γ σ Γ' σ' (fun j => j = id ∨ σ.next ≤ j) → FRel Γ' fr' a' → K a' Γ'.w
      | .bad v σ' => ∀ Γ' y, Good Γ σ Γ' σ' (fun j => j = id ∨ σ.next ≤ j) → VR Γ' v y → Q (.panic [{ v := y, recovered := false }]) a Γ'.w) : o.wp P a Γ.w K Q := by
  have call_ok : ∀ {f : FuncId} {args : List AV} {c : CR} {vs : Array Value}, CallW P f vs Γ.w (CallPost Γ σ c) → (∀ w, (execOp a.eval o).run P w = (callFunc f vs).run P w) →
      (match c with
        | .ret v σ' => ∀ Γ' y, Good Γ σ Γ' σ' (σ.next ≤ ·) → VR Γ' v y → K (a.put o.dst y) Γ'.w
        | .panic v σ' => ∀ Γ' y, Good Γ σ Γ' σ' (σ.next ≤ ·) → VR Γ' v y → Q (.panic [{ v := y, recovered := false }]) a Γ'.w) → o.wp P a Γ.w K Q := by
    intro f args c vs hW he hk
    unfold Oper.wp
    rw [he]
    have post : ∀ e w', CallPost Γ σ c e w' → (match e with
        | .returned v => K (a.put o.dst v) w'
        | .panicked ch => Q (.panic ch) a w'
        | .outgrown => LetsOut Q) := by
      intro e w' hp
      cases c with
      | ret v σ' => obtain ⟨y, Γ', rfl, rfl, hv, hG⟩ := hp; exact hk Γ' y hG hv
      | panic v σ' => obtain ⟨y, Γ', rfl, rfl, hv, hG⟩ := hp; exact hk Γ' y hG hv
    rcases hW with ⟨h1, h2⟩ | ⟨y, w', h1, h2⟩
    · rw [h1, Oper.upon_enter]
      exact h2.mono fun e w' hp => by cases e <;> exact post _ _ hp
    · rw [h1, Oper.upon_value]
      exact post _ _ h2
  unfold stepA at h
  split at h
  · rename_i x ho
    split at h
    · rename_i t v hx
      obtain rfl := Option.some.inj h
      have hv := aval_vr hg hf.ts x
      rw [hx] at hv
      generalize hX : a.eval x = X at hv
      have hv' := hv
      cases hv with
      | iface _ _ y hy hs =>
        unfold Oper.wp
        have : (execOp a.eval o).run P Γ.w = .halt (.panic (.iface t y)) Γ.w := by
          simp only [execOp, ho, hX, Instr.panic, Sem.run_bind, run_goPanic, Result.andThen]
        rw [this, Oper.upon_panic]
        exact hK Γ _ (.refl hI) hv'
    · cases h
  · rename_i g xs tys ho
    split at h
    · rename_i f first caps hgv
      obtain rfl := Option.some.inj h
      have hv := aval_vr hg hf.ts g
      rw [hgv] at hv
      generalize hG : a.eval g = G at hv
      cases hv with
      | func _ _ _ va vb h1 h2 h3 h4 =>
        have hm := map_vr hg hf.ts xs
        unfold Oper.wp
        have : (execOp a.eval o).run P Γ.w = .ok (.defer { target := .fn (.func f) vb, args := va ++ xs.map a.eval }) Γ.w := by
          simp only [execOp, ho, resolve, hG, Deferred.ofValue, Sem.run_bind, Sem.run_pure, Result.andThen_ok]
        rw [this, Oper.upon_defer]
        have hfr : FRel Γ { fr with ds := (.func f [] caps, first ++ xs.toList.map (aval cfg fr.ts)) :: fr.ds } { a with defers := { target := .fn (.func f) vb, args := va ++ xs.map a.eval } :: a.defers } :=
          ⟨hf.ts, .cons f caps _ vb _ _ _ (FR.of_list h2 h4) ((FR.of_list h1 h3).append ⟨hm.1, fun i hi => hm.2 i hi⟩) hf.ds⟩
        exact hK Γ _ (.refl hI) (hfr.put _ .undefT)
    · cases h
  · split at h
    · rename_i f args hc
      obtain ⟨vs, hvs, he⟩ := calleeA_ok (P := P) hg hf.ts hc
      split at h
      · rename_i v σ' hd
        obtain rfl := Option.some.inj h
        refine call_ok (args := args) (doCall_ok hC hd (Nat.le_trans hF.wp (Nat.le_of_lt hF.lt)) hI hg hvs) he fun Γ' y hG hv => ?_
        exact hK Γ' _ ⟨hG.step, hG.inv, fun j hj => (hG.dom j hj).imp_right .inr⟩ ((hf.ext hG.step.ext).put _ hv)
      · rename_i v σ' hd
        obtain rfl := Option.some.inj h
        refine call_ok (args := args) (doCall_ok hC hd (Nat.le_trans hF.wp (Nat.le_of_lt hF.lt)) hI hg hvs) he fun Γ' y hG hv => ?_
        exact hK Γ' y ⟨hG.step, hG.inv, fun j hj => (hG.dom j hj).imp_right .inr⟩ hv
      · cases h
    · have fin : ∀ v eff, aop P cfg rm σ id (aval cfg fr.ts) o = some (v, eff) → r = .go (fr.put o.dst v) (σ.app id eff) → o.wp P a Γ.w K Q := by
        intro v eff ha hr
        subst hr
        obtain ⟨Γ', nx, y, hrun, hnv, hv, hst, hin, hdom⟩ := aop_ok hI hg hf.ts hF rm eff ha
        unfold Oper.wp
        rw [hrun]
        have hk := hK Γ' (a.put o.dst y) ⟨hst, hin, fun j hj => (hdom j hj).imp_right .inl⟩ ((hf.ext hst.ext).put _ hv)
        rcases hnv with rfl | ⟨rfl, rfl⟩
        · exact hk
        · exact hk
      split at h
      · rename_i v ha; exact fin v _ ha (Option.some.inj h).symm
      · rename_i v b ha; exact fin v _ ha (Option.some.inj h).symm
      · rename_i v σ' ha; exact fin v _ ha (Option.some.inj h).symm
      · cases h
end
end Go.Am

set_option linter.unusedVariables false
set_option linter.unusedSimpArgs false
namespace Go.Am
open Go

/-- What is asked behind a run of the abstract machine. -/
def XPost (Γ : Ctx) (σ : ASt) (D : Nat → Prop) (Q : Exit → Act → World → Prop) (fl : Flow) (fr' : AFr) (σ' : ASt) : Prop :=
  ∀ Γ' a', Good Γ σ Γ' σ' D → FRel Γ' fr' a' → match fl with
    | .norm => Q .normal a' Γ'.w
    | .ret => Q .ret a' Γ'.w
    | .exit b => Q (.exit b) a' Γ'.w
    | .panic v => ∀ y, VR Γ' v y → Q (.panic [{ v := y, recovered := false }]) a' Γ'.w

theorem XPost.of_good {Γ Γ₁ : Ctx} {σ σ₁ : ASt} {D D₁ D₂ : Nat → Prop} {Q : Exit → Act → World → Prop} {fl : Flow} {fr' : AFr} {σ' : ASt} (h : XPost Γ σ D Q fl fr' σ') (hG : Good Γ σ Γ₁ σ₁ D₁)
    (h1 : ∀ j, D₁ j → D j) (h2 : ∀ j, D₂ j → D j) : XPost Γ₁ σ₁ D₂ Q fl fr' σ' := fun Γ' a' hG' hf => h Γ' a' (hG.trans hG' h1 h2) hf

section
variable {P : Program} {cfg : Cfg} {call : FuncId → List AV → ASt → Option CR} {fuel : Nat}

theorem FR.getElem {Γ : Ctx} {ts : List AV} {tmps : Array Value} (h : FR Γ ts tmps) {d : Nat} {v : AV} (hv : ts[d]? = some v) : ∃ x, tmps[d]? = some x ∧ VR Γ v x := by
  obtain ⟨hd, rfl⟩ := List.getElem?_eq_some_iff.1 hv
  have h1 := h.2 d hd
  have hd' : d < tmps.size := by rw [h.1]; exact hd
  have e1 : ts.getD d .undef = ts[d] := by simp [List.getD, hd]
  have e2 : tmps.getD d undef = tmps[d] := by simp [Array.getD, hd']
  rw [e1, e2] at h1
  exact ⟨tmps[d], by simp [hd'], h1⟩

theorem wanted_ok {Γ : Ctx} {ops : Array Oper} {ts : List AV} {tmps : Array Value} (h : FR Γ ts tmps) {o : Oper} (hg : guardOk ops.toList ts o = true) :
    Region.wanted o (yielded ops tmps) = wantedA ops.toList ts o := by
  unfold guardOk at hg
  unfold Region.wanted wantedA
  split at hg
  · rename_i hn; simp [hn]
  · rename_i j want hn
    simp only [hn, Array.getElem?_toList] at hg ⊢
    unfold yielded
    split at hg
    · rename_i d hd
      simp only [hd, Option.bind_some]
      split at hg
      · rename_i b hb
        obtain ⟨x, hx, hv⟩ := h.getElem hb
        cases hv
        rw [hx, hb]
        simp
      · rename_i hb
        obtain ⟨x, hx, hv⟩ := h.getElem hb
        cases hv
        rw [hx, hb]
        simp
      · cases hg
    · cases hg

theorem seqA_ok {ops : Array Oper} {rm : Bool} {base : Nat} {Q : Exit → Act → World → Prop} (hC : CallOK P cfg call) : ∀ (rest : List Oper) (i : Nat) (fr : AFr) (σ : ASt) (Γ : Ctx) (a : Act) (fl : Flow) (fr' : AFr) (σ' : ASt),
    (∀ k, rest[k]? = ops[i + k]?) → (∀ k, k < rest.length → ¬ Γ.dom (base + i + k)) → base + i + rest.length ≤ σ.next → σ.wp ≤ base → Inv Γ σ → GR Γ cfg → FRel Γ fr a →
    seqA P cfg call fuel rm ops.toList base i rest fr σ = some (fl, fr', σ') → XPost Γ σ (base ≤ ·) Q fl fr' σ' → wpOps P ops Q (List.range' i rest.length) a Γ.w := by
  intro rest
  induction rest with
  | nil =>
    intro i fr σ Γ a fl fr' σ' ho hfr hnx hwp hI hg hf h hQ
    simp only [seqA, Option.some.injEq, Prod.mk.injEq] at h
    obtain ⟨rfl, rfl, rfl⟩ := h
    exact hQ Γ a (.refl hI) hf
  | cons o rest ih =>
    intro i fr σ Γ a fl fr' σ' ho hfr hnx hwp hI hg hf h hQ
    have hoi : ops[i]? = some o := by simpa using (ho 0).symm
    have ho' : ∀ k, rest[k]? = ops[i + 1 + k]? := fun k => by
      have := ho (k + 1)
      simp only [List.getElem?_cons_succ] at this
      rw [this]; congr 1; omega
    simp only [List.length_cons] at hfr hnx ⊢
    rw [List.range'_succ]
    simp only [wpOps, hoi]
    simp only [seqA] at h
    cases hgo : guardOk ops.toList fr.ts o with
    | false => rw [hgo] at h; simp only [cond_false, reduceCtorEq] at h
    | true =>
      rw [hgo] at h
      simp only [cond_true] at h
      rw [wanted_ok hf.ts hgo]
      cases hw : wantedA ops.toList fr.ts o with
      | false =>
        rw [hw] at h
        simp only [cond_false] at h
        simp only [Bool.false_eq_true, if_false]
        exact ih (i + 1) _ σ Γ _ fl fr' σ' ho' (fun k hk => by have := hfr (k + 1) (by omega); rwa [show base + (i + 1) + k = base + i + (k + 1) by omega]) (by omega) hwp hI hg (hf.put _ .undefT) h hQ
      | true =>
        rw [hw] at h
        simp only [cond_true] at h
        simp only [if_true]
        refine .inl ?_
        have hF : Fresh Γ σ (base + i) := ⟨by simpa using hfr 0 (by omega), by omega, by omega⟩
        split at h
        · rename_i fr₁ σ₁ hs
          refine stepA_ok hC hI hg hf hF hs fun Γ₁ a₁ hG hf₁ => ?_
          refine ih (i + 1) fr₁ σ₁ Γ₁ a₁ fl fr' σ' ho' (fun k hk hd => ?_) (by have := hG.step.next; omega) (by rw [hG.step.wp]; exact hwp) hG.inv (hg.ext hG.step.ext) hf₁ h (hQ.of_good hG (fun j hj => by omega) (fun j hj => hj))
          rcases hG.dom _ hd with h1 | h1 | h1
          · exact hfr (k + 1) (by omega) (by rwa [show base + i + (k + 1) = base + (i + 1) + k by omega])
          · omega
          · omega
        · rename_i v σ₁ hs
          simp only [Option.some.injEq, Prod.mk.injEq] at h
          obtain ⟨rfl, rfl, rfl⟩ := h
          refine stepA_ok hC hI hg hf hF hs fun Γ₁ y hG hv => ?_
          exact hQ Γ₁ a ⟨hG.step, hG.inv, fun j hj => (hG.dom j hj).imp_right fun h => by omega⟩ (hf.ext hG.step.ext) y hv
        · cases h

theorem region_ok {id : Nat} {ops : Array Oper} {rm : Bool} {fr fr' : AFr} {σ σ' : ASt} {Γ : Ctx} {a : Act} {fl : Flow} {Q : Exit → Act → World → Prop} (hC : CallOK P cfg call) (hI : Inv Γ σ) (hwp : σ.wp ≤ σ.next)
    (hg : GR Γ cfg) (hf : FRel Γ fr a) (h : seqA P cfg call fuel rm ops.toList σ.next 0 ops.toList fr ⟨σ.next + ops.toList.length, σ.wp, σ.heap⟩ = some (fl, fr', σ'))
    (hQ : XPost Γ σ (σ.next ≤ ·) Q fl fr' σ') : (Code.region id ops false).wp P Q a Γ.w := by
  have hI' : Inv Γ ⟨σ.next + ops.toList.length, σ.wp, σ.heap⟩ :=
    ⟨fun j B hj => ⟨(hI.blk j B hj).1, Nat.lt_of_lt_of_le (hI.blk j B hj).2.1 (Nat.le_add_right _ _), (hI.blk j B hj).2.2⟩, hI.inj, hI.free, hI.lt, hI.lto, fun j hj => Nat.lt_of_lt_of_le (hI.domlt j hj) (Nat.le_add_right _ _)⟩
  have hst : Good Γ σ Γ ⟨σ.next + ops.toList.length, σ.wp, σ.heap⟩ (fun _ => False) :=
    ⟨⟨.refl Γ, Nat.le_refl _, rfl, rfl, rfl, fun _ _ _ => rfl, fun id B h hw => .inr ⟨id, B, h, hw, rfl⟩, fun _ _ => rfl, rfl, Nat.le_add_right _ _, fun _ _ h => .inl h, fun _ h => .inl h⟩, hI', fun j h => .inl h⟩
  refine wp_region ?_
  have e : List.range ops.size = List.range' 0 ops.toList.length := by rw [List.range_eq_range']; simp
  rw [e]
  refine seqA_ok hC ops.toList 0 fr ⟨σ.next + ops.toList.length, σ.wp, σ.heap⟩ Γ a fl fr' σ' (fun k => by simp) (fun k hk hd => ?_) (by simp) hwp hI' hg hf h (hQ.of_good hst (fun j hj => hj.elim) (fun j hj => hj))
  have := hI.domlt _ hd
  omega
end
end Go.Am

set_option linter.unusedVariables false
set_option linter.unusedSimpArgs false
namespace Go.Am
open Go

theorem sameNew_eq {a b : Option Blk} (h : sameNew a b = true) : a = b := by
  unfold sameNew at h
  split at h
  · rfl
  · simp only [Bool.and_eq_true, Nat.beq_eq, decide_eq_true_eq] at h; rw [h.1.1, AV.beqs_eq _ _ h.1.2, h.2]
  · simp only [Bool.and_eq_true, Nat.beq_eq, decide_eq_true_eq] at h; rw [h.1.1, h.1.2, h.2]
  · simp only [Bool.and_eq_true] at h; rw [AV.beqs_eq _ _ h.1, AV.beqs_eq _ _ h.2]
  · cases h

section
variable {P : Program} {cfg : Cfg} {rm : Bool} {σ : ASt} {id : Nat} {o : Oper} {ρ ρ' : Operand → AV}

theorem calleeA_congr (h : ∀ x ∈ o.op.operands, ρ x = ρ' x) : calleeA ρ o = calleeA ρ' o := by
  obtain ⟨dst, op, type, pos, after, guard⟩ := o
  unfold calleeA
  cases op <;> simp only
  case call c =>
    obtain ⟨callee, args, tys⟩ := c
    cases callee <;> simp only
    case value g =>
      have hg : ρ g = ρ' g := h g (by simp [Op.operands, Call.operands])
      have ha : args.toList.map ρ = args.toList.map ρ' := List.map_congr_left fun x hx => h x (by simp [Op.operands, Call.operands]; exact .inr (by simpa using hx))
      simp only [hg, ha]

theorem aop_congr (h : ∀ x ∈ o.op.operands, ρ x = ρ' x) : aop P cfg rm σ id ρ o = aop P cfg rm σ id ρ' o := by
  obtain ⟨dst, op, type, pos, after, guard⟩ := o
  have pairs : ∀ ps : Array (Nat × Operand), (∀ x ∈ ps.map (·.2), ρ x = ρ' x) → (ps.toList.map fun p => (p.1, ρ p.2)) = (ps.toList.map fun p => (p.1, ρ' p.2)) := fun ps hp =>
    List.map_congr_left fun p hm => by
      obtain ⟨i, x⟩ := p
      simp only [hp x (Array.mem_map.2 ⟨(i, x), by simpa using hm, rfl⟩)]
  have arr : ∀ xs : Array Operand, (∀ x ∈ xs, ρ x = ρ' x) → xs.toList.map ρ = xs.toList.map ρ' := fun xs hx => List.map_congr_left fun x hm => hx x (by simpa using hm)
  cases op <;> simp only [Op.operands] at h <;> simp only [aop]
  case build t ps => rw [pairs ps fun x hx => h x (by simpa using hx)]
  case buildSlice t n ps => rw [pairs ps fun x hx => h x (by simpa using hx)]
  case makeFunc fn first captured => rw [arr first fun x hx => h x (by simp [hx]), arr captured fun x hx => h x (by simp [hx])]
  case slice t x lo hi mx => cases lo <;> cases hi <;> cases mx <;> simp_all
  case call c =>
    obtain ⟨callee, args, tys⟩ := c
    cases callee
    case value g => rfl
    case invoke r m => rfl
    case builtin b =>
      have ha : ∀ x ∈ args, ρ x = ρ' x := fun x hx => h x (by simp [Call.operands, hx])
      cases b <;> (try simp only)
      case len =>
        split
        · rename_i x t hx ht; rw [ha x (by rw [← Array.mem_toList_iff, hx]; simp)]
        · rfl
      case append =>
        split
        · rename_i s x t u hx ht; rw [ha x (by rw [← Array.mem_toList_iff, hx]; simp), ha s (by rw [← Array.mem_toList_iff, hx]; simp)]
        · rfl
      case unsafeSliceData =>
        split
        · rename_i x hx; rw [ha x (by rw [← Array.mem_toList_iff, hx]; simp)]
        · rfl
      case unsafeString =>
        split
        · rename_i p x pt it hx ht; rw [ha x (by rw [← Array.mem_toList_iff, hx]; simp), ha p (by rw [← Array.mem_toList_iff, hx]; simp)]
        · rfl
      case max => rw [arr args ha]
      case min => rw [arr args ha]
  all_goals (first | rfl | (simp_all; done))

theorem aop_still {σ' : ASt} (hr : readsMem o = false) {v : AV} {e : Eff} (h : aop P cfg rm σ id ρ o = some (v, e)) (he : ∀ s, e ≠ .upd s) : aop P cfg rm σ' id ρ o = some (v, e) := by
  obtain ⟨dst, op, type, pos, after, guard⟩ := o
  cases op
  case store t a x =>
    exfalso
    simp only [aop] at h
    split at h
    · rename_i i j off hp
      split at h
      · rename_i k xs ty _
        cases hx : xs[j]? with
        | none => rw [hx] at h; cases h
        | some y =>
          rw [hx] at h
          simp only [Option.bind_some] at h
          split at h
          · simp only [Option.some.injEq, Prod.mk.injEq] at h; exact he _ h.2.symm
          · cases h
      · cases h
    · cases h
  case mapUpdate t m k x =>
    exfalso
    simp only [aop] at h
    split at h
    · split at h
      · cases hc : keyD _ && (ρ x).storable with
        | false => rw [hc] at h; cases h
        | true =>
          rw [hc] at h
          simp only [cond_true] at h
          split at h
          · split at h
            · obtain ⟨z, _, hz⟩ := map_some_inv h
              simp only [Prod.mk.injEq] at hz; exact he _ hz.2.symm
            · cases h
          · cases h
      · cases h
    · cases h
  case insert t m k x =>
    exfalso
    simp only [aop] at h
    split at h
    · split at h
      · cases hc : keyD _ && (ρ x).storable with
        | false => rw [hc] at h; cases h
        | true =>
          rw [hc] at h
          simp only [cond_true] at h
          split at h
          · split at h
            · obtain ⟨z, _, hz⟩ := map_some_inv h
              simp only [Prod.mk.injEq] at hz; exact he _ hz.2.symm
            · cases h
          · cases h
      · cases h
    · cases h
  all_goals first
    | (simp only [readsMem, Bool.true_eq_false] at hr; done)
    | (simp only [aop] at h ⊢; exact h)
    | exact h
end
end Go.Am

set_option linter.unusedVariables false
set_option linter.unusedSimpArgs false
namespace Go.Am
open Go

theorem Inv.sub {Γ : Ctx} {big small : ASt} (hI : Inv Γ big) (sub : ∀ id B, small.get id = some B → big.get id = some B) (hn : small.next = big.next) : Inv Γ small :=
  ⟨fun id B h => ⟨(hI.blk id B (sub id B h)).1, by rw [hn]; exact (hI.blk id B (sub id B h)).2.1, (hI.blk id B (sub id B h)).2.2⟩, fun id id' B B' h h' hne => hI.inj id id' B B' (sub _ _ h) (sub _ _ h') hne,
   fun id B h => hI.free id B (sub id B h), hI.lt, hI.lto, fun id h => by rw [hn]; exact hI.domlt id h⟩

/-- Blocks are let go of. -/
theorem Good.drop {Γ : Ctx} {big small : ASt} {D : Nat → Prop} (hI : Inv Γ big) (sub : ∀ id B, small.get id = some B → big.get id = some B) (hro : ∀ id, id < big.wp → small.get id = big.get id)
    (hw : small.wp = big.wp) (hn : small.next = big.next) : Good Γ big Γ small D :=
  ⟨⟨.refl Γ, Nat.le_refl _, rfl, rfl, rfl, fun _ _ _ => rfl, fun id B h hw' => .inr ⟨id, B, sub id B h, hw', rfl⟩, hro, hw, Nat.le_of_eq hn.symm, fun _ _ h => .inl h, fun _ h => .inl h⟩, hI.sub sub hn, fun j h => .inl h⟩

/-- What is true of a part is true of the whole. -/
theorem Good.frame {Γ Γ' : Ctx} {big small small' big' : ASt} {D : Nat → Prop} (hI : Inv Γ big) (sub : ∀ id B, small.get id = some B → big.get id = some B) (hG : Good Γ small Γ' small' D)
    (hb : ∀ id B, big'.get id = some B → small'.get id = some B ∨ (big.get id = some B ∧ small.get id = none)) (hro : ∀ id, id < big.wp → big'.get id = big.get id)
    (hw : small.wp = big.wp) (hn : small.next = big.next) (hw' : big'.wp = big.wp) (hn' : big'.next = small'.next) :
    Good Γ big Γ' big' D ∧ ∀ id B, big.get id = some B → small.get id = none → small'.get id = none := by
  have drop : ∀ id B, big.get id = some B → small.get id = none → ∀ id1 B1, small'.get id1 = some B1 → (Γ'.ρ id1).b ≠ (Γ.ρ id).b := by
    intro id B hg hs id1 B1 h1 he
    by_cases hlt : id1 < small.wp
    · have h1' := hG.step.ro id1 hlt
      rw [h1'] at h1
      have hne : id1 ≠ id := by rintro rfl; rw [hs] at h1; cases h1
      have h2 := hI.inj id1 id B1 B (sub _ _ h1) hg hne
      rw [hG.step.ext.ρ id1 (hI.blk id1 B1 (sub _ _ h1)).1] at he
      exact h2 he
    · rcases hG.step.own id1 B1 h1 (Nat.le_of_not_lt hlt) with hf | ⟨id0, B0, h0, hw0, he0⟩
      · have := hI.blt hg
        omega
      · have hne : id0 ≠ id := by rintro rfl; rw [hs] at h0; cases h0
        exact hI.inj id0 id B0 B (sub _ _ h0) hg hne (he0.trans he)
  have dropn : ∀ id B, big.get id = some B → small.get id = none → small'.get id = none := by
    intro id B hg hs
    cases h : small'.get id with
    | none => rfl
    | some B' => exact absurd (congrArg BI.b (hG.step.ext.ρ id (hI.blk id B hg).1)) (drop id B hg hs id B' h)
  have heap : ∀ id B, big.get id = some B → small.get id = none → Γ'.w.heap[(Γ.ρ id).b]? = Γ.w.heap[(Γ.ρ id).b]? := by
    intro id B hg hs
    refine hG.step.frame _ (hI.blt hg) fun id1 B1 h1 hw1 he => ?_
    have hne : id1 ≠ id := by rintro rfl; rw [hs] at h1; cases h1
    exact hI.inj id1 id B1 B (sub _ _ h1) hg hne he
  refine ⟨⟨⟨hG.step.ext, hG.step.size, hG.step.os, hG.step.tape, hG.step.output, fun b hb' hnb => ?_, fun id B h hw1 => ?_, hro, hw', ?_, fun b c h => ?_, fun b h => ?_⟩, ?_, hG.dom⟩, dropn⟩
  · exact hG.step.frame b hb' fun id1 B1 h1 hw1 => hnb id1 B1 (sub _ _ h1) (by rw [← hw]; exact hw1)
  · rcases hb id B h with h | ⟨h, hs⟩
    · rcases hG.step.own id B h (by rw [hw]; exact hw1) with hf | ⟨id0, B0, h0, hw0, he0⟩
      · exact .inl hf
      · exact .inr ⟨id0, B0, sub _ _ h0, by rw [← hw]; exact hw0, he0⟩
    · exact .inr ⟨id, B, h, hw1, (congrArg BI.b (hG.step.ext.ρ id (hI.blk id B h).1)).symm⟩
  · rw [hn', ← hn]; exact hG.step.next
  · rcases hG.step.stg b c h with h | h | ⟨id0, B0, h0, hw0, he0⟩
    · exact .inl h
    · exact .inr (.inl h)
    · exact .inr (.inr ⟨id0, B0, sub _ _ h0, by rw [← hw]; exact hw0, he0⟩)
  · rcases hG.step.stog b h with h | h | ⟨id0, B0, h0, hw0, he0⟩
    · exact .inl h
    · exact .inr (.inl h)
    · exact .inr (.inr ⟨id0, B0, sub _ _ h0, by rw [← hw]; exact hw0, he0⟩)
  · have hρ : ∀ id B, big.get id = some B → Γ'.ρ id = Γ.ρ id := fun id B h => hG.step.ext.ρ id (hI.blk id B h).1
    refine ⟨fun id B h => ?_, fun id id' B B' h h' hne => ?_, fun id B h => ?_, hG.inv.lt, hG.inv.lto, fun id h => by rw [hn']; exact hG.inv.domlt id h⟩
    · rcases hb id B h with h | ⟨h, hs⟩
      · obtain ⟨h1, h2, h3⟩ := hG.inv.blk id B h
        exact ⟨h1, by rw [hn']; exact h2, h3⟩
      · obtain ⟨h1, h2, h3⟩ := hI.blk id B h
        refine ⟨hG.step.ext.dom id h1, by rw [hn']; have := hG.step.next; rw [hn] at this; omega, ?_⟩
        rw [hρ id B h]
        exact h3.ext hG.step.ext (heap id B h hs)
    · rcases hb id B h with h1 | ⟨h1, hs1⟩
      · rcases hb id' B' h' with h2 | ⟨h2, hs2⟩
        · exact hG.inv.inj id id' B B' h1 h2 hne
        · rw [hρ id' B' h2]
          exact drop id' B' h2 hs2 id B h1
      · rcases hb id' B' h' with h2 | ⟨h2, hs2⟩
        · rw [hρ id B h1]
          exact fun e => drop id B h1 hs1 id' B' h2 e.symm
        · rw [hρ id B h1, hρ id' B' h2]
          exact hI.inj id id' B B' h1 h2 hne
    · rcases hb id B h with h1 | ⟨h1, hs1⟩
      · exact hG.inv.free id B h1
      · rw [hρ id B h1]
        have key : ∀ id0 B0, small.get id0 = some B0 → (Γ.ρ id0).b ≠ (Γ.ρ id).b := fun id0 B0 h0 => hI.inj id0 id B0 B (sub _ _ h0) h1 (by rintro rfl; rw [hs1] at h0; cases h0)
        refine ⟨fun c hc hx => ?_, fun hx => ?_⟩
        · rcases hG.step.stg _ c hx with hx | hx | ⟨id0, B0, h0, hw0, he0⟩
          · exact (hI.free id B h1).1 c hc hx
          · have := hI.blt h1; omega
          · exact key id0 B0 h0 he0
        · rcases hG.step.stog _ hx with hx | hx | ⟨id0, B0, h0, hw0, he0⟩
          · exact (hI.free id B h1).2 hx
          · have := hI.blt h1; omega
          · exact key id0 B0 h0 he0

/-! ### The state behind a core -/
def viewF (base : Nat) (c : Core) (S : Nat → Bool) (news : List (Nat × Blk)) : ASt :=
  news.foldr (fun p σ => cond (S p.1 && !c.anc.testBit p.1) (σ.put (base + p.1) p.2) σ) c.σ

theorem viewC_eq (base : Nat) (c : Core) (anc : Nat) (news : List (Nat × Blk)) : viewC base c anc news = viewF base c anc.testBit news := rfl

theorem viewF_next (base : Nat) (c : Core) (S : Nat → Bool) : ∀ news, (viewF base c S news).next = c.σ.next ∧ (viewF base c S news).wp = c.σ.wp
  | [] => ⟨rfl, rfl⟩
  | p :: r => by
    have ih := viewF_next base c S r
    unfold viewF at ih ⊢
    simp only [List.foldr_cons]
    cases S p.1 && !c.anc.testBit p.1 <;> simp only [cond_true, cond_false] <;> exact ih

def newAt (news : List (Nat × Blk)) (p : Nat) : Option Blk := (news.find? fun q => q.1 == p).map (·.2)

theorem newAt_cons (i : Nat) (b : Blk) (r : List (Nat × Blk)) (p : Nat) : newAt ((i, b) :: r) p = if i = p then some b else newAt r p := by
  unfold newAt
  simp only [List.find?_cons]
  by_cases h : i = p
  · subst h; simp
  · have : (i == p) = false := by simpa using h
    simp [this, h]

theorem viewF_get (base : Nat) (c : Core) (S : Nat → Bool) (id : Nat) : ∀ news, (viewF base c S news).get id =
    (if base ≤ id ∧ S (id - base) = true ∧ c.anc.testBit (id - base) = false then (newAt news (id - base)).or (c.σ.get id) else c.σ.get id)
  | [] => by unfold viewF newAt; simp
  | (i, b) :: r => by
    have ih := viewF_get base c S id r
    rw [newAt_cons]
    unfold viewF at ih ⊢
    simp only [List.foldr_cons]
    cases hc : S i && !c.anc.testBit i with
    | false =>
      simp only [cond_false]
      rw [ih]
      by_cases h : base ≤ id ∧ S (id - base) = true ∧ c.anc.testBit (id - base) = false
      · have : ¬ i = id - base := by rintro rfl; simp [h.2.1, h.2.2] at hc
        simp only [h, this, if_false]
      · rw [if_neg h, if_neg h]
    | true =>
      simp only [cond_true]
      simp only [Bool.and_eq_true, Bool.not_eq_true'] at hc
      rw [ASt.get_put, ih]
      by_cases he : id = base + i
      · subst he
        simp [hc.1, hc.2]
      · by_cases h : base ≤ id ∧ S (id - base) = true ∧ c.anc.testBit (id - base) = false
        · have : ¬ i = id - base := by omega
          simp only [he, h, this, if_false]
        · rw [if_neg he, if_neg h, if_neg h]

theorem viewF_skip (base : Nat) (c : Core) (S : Nat → Bool) (i : Nat) (b : Blk) (news : List (Nat × Blk)) (h : S i = false) : viewF base c S ((i, b) :: news) = viewF base c S news := by
  unfold viewF
  simp [h]

/-! ### Ancestors -/
theorem edgeFold_bit (anc : List Nat) (p : Nat) : ∀ (l : List Edge) (s : Nat), (l.foldl (fun s e => if Region.binds .any e = true then s ||| 2 ^ e.on ||| anc.getD e.on 0 else s) s).testBit p = true ↔
    s.testBit p = true ∨ ∃ e ∈ l, Region.binds .any e = true ∧ (p = e.on ∨ (anc.getD e.on 0).testBit p = true)
  | [], s => by simp
  | e :: l, s => by
    simp only [List.foldl_cons]
    rw [edgeFold_bit anc p l]
    by_cases hb : Region.binds .any e = true
    · simp only [hb, if_true, Nat.testBit_or, Bool.or_eq_true, Nat.testBit_two_pow, decide_eq_true_eq, List.mem_cons, exists_eq_or_imp, true_and]
      constructor
      · rintro (((h | h) | h) | h)
        · exact .inl h
        · exact .inr (.inl (.inl h.symm))
        · exact .inr (.inl (.inr h))
        · exact .inr (.inr h)
      · rintro (h | (h | h) | h)
        · exact .inl (.inl (.inl h))
        · exact .inl (.inl (.inr h.symm))
        · exact .inl (.inr h)
        · exact .inr h
    · simp [hb]

structure Anc (ops : Array Oper) (anc : List Nat) : Prop where
  edge : ∀ (i : Nat) (o : Oper) (e : Edge), ops[i]? = some o → e ∈ o.after → Region.binds .any e = true → e.on < i ∧ (anc.getD i 0).testBit e.on = true
  from_ : ∀ (i : Nat) (o : Oper) (p : Nat), ops[i]? = some o → (anc.getD i 0).testBit p = true → ∃ e, e ∈ o.after ∧ Region.binds .any e = true ∧ (p = e.on ∨ (anc.getD e.on 0).testBit p = true)
  sub : ∀ (i : Nat) (o : Oper) (e : Edge) (p : Nat), ops[i]? = some o → e ∈ o.after → Region.binds .any e = true → (anc.getD e.on 0).testBit p = true → (anc.getD i 0).testBit p = true
  apart : ∀ (i j : Nat) (x y : Oper), j < i → ops[i]? = some x → ops[j]? = some y → (anc.getD i 0).testBit j = true ∨ x.apart ops y = true

theorem drawOk_anc {ops : Array Oper} (h : drawOk ops = true) : Anc ops (ancs ops.toList) := by
  simp only [drawOk, Bool.and_eq_true, okAnc, tidy, List.all_eq_true, List.mem_range] at h
  generalize ancs ops.toList = anc at h
  have hi : ∀ (i : Nat) (o : Oper), ops[i]? = some o → anc.getD i 0 = edgeFold anc o ∧ ∀ e ∈ o.after, Region.binds .any e = true → e.on < i := by
    intro i o ho
    have hlt : i < ops.toList.length := by simpa using (Array.getElem?_eq_some_iff.1 ho).1
    have := h.1 i hlt
    simp only [Array.getElem?_toList, ho, Bool.and_eq_true, Nat.beq_eq, List.all_eq_true, Bool.or_eq_true, Bool.not_eq_true'] at this
    refine ⟨this.1, fun e he hb => ?_⟩
    rcases this.2 e (by simpa using he) with h | h
    · rw [hb] at h; cases h
    · simpa [Nat.blt_eq] using h
  refine ⟨fun i o e ho he hb => ⟨(hi i o ho).2 e he hb, ?_⟩, fun i o p ho hp => ?_, fun i o e p ho he hb hp => ?_, fun i j x y hj hx hy => ?_⟩
  · rw [(hi i o ho).1, edgeFold, edgeFold_bit]
    exact .inr ⟨e, by simpa using he, hb, .inl rfl⟩
  · rw [(hi i o ho).1, edgeFold, edgeFold_bit] at hp
    rcases hp with hp | ⟨e, he, hb, hp⟩
    · simp at hp
    · exact ⟨e, by simpa using he, hb, hp⟩
  · rw [(hi i o ho).1, edgeFold, edgeFold_bit]
    exact .inr ⟨e, by simpa using he, hb, .inr hp⟩
  · have hlt : i < ops.size := (Array.getElem?_eq_some_iff.1 hx).1
    have := h.2 i hlt j hj
    simp only [hx, hy, Bool.or_eq_true] at this
    exact this

theorem Anc.lt {ops : Array Oper} {anc : List Nat} (h : Anc ops anc) : ∀ (i : Nat) (o : Oper) (p : Nat), ops[i]? = some o → (anc.getD i 0).testBit p = true → p < i := by
  intro i
  induction i using Nat.strongRecOn with
  | _ i ih =>
    intro o p ho hp
    obtain ⟨e, he, hb, hp⟩ := h.from_ i o p ho hp
    have hlt := (h.edge i o e ho he hb).1
    rcases hp with rfl | hp
    · exact hlt
    · have hi : i < ops.size := (Array.getElem?_eq_some_iff.1 ho).1
      exact Nat.lt_trans (ih e.on hlt _ p (Array.getElem?_eq_getElem (by omega)) hp) hlt

theorem Anc.trans {ops : Array Oper} {anc : List Nat} (h : Anc ops anc) : ∀ (i : Nat) (o : Oper) (p q : Nat), ops[i]? = some o → (anc.getD i 0).testBit p = true → (anc.getD p 0).testBit q = true → (anc.getD i 0).testBit q = true := by
  intro i
  induction i using Nat.strongRecOn with
  | _ i ih =>
    intro o p q ho hp hq
    obtain ⟨e, he, hb, hp⟩ := h.from_ i o p ho hp
    have hlt := (h.edge i o e ho he hb).1
    rcases hp with rfl | hp
    · exact h.sub i o e q ho he hb hq
    · have hi : i < ops.size := (Array.getElem?_eq_some_iff.1 ho).1
      exact h.sub i o e q ho he hb (ih e.on hlt _ p q (Array.getElem?_eq_getElem (by omega)) hp hq)

/-! ### Temporaries -/
def tv (ops : Array Oper) (g : Nat → Option AV) (ts0 : List AV) (t : Nat) : Nat → AV
  | 0 => ts0.getD t .undef
  | j + 1 => if (ops[j]?).bind (·.dst) = some t then (g j).getD (tv ops g ts0 t j) else tv ops g ts0 t j

theorem tv_congr {ops : Array Oper} {g g' : Nat → Option AV} {ts0 : List AV} {t : Nat} : ∀ n, (∀ p, p < n → (ops[p]?).bind (·.dst) = some t → g p = g' p) → tv ops g ts0 t n = tv ops g' ts0 t n
  | 0, _ => rfl
  | n + 1, h => by
    simp only [tv]
    rw [tv_congr n fun p hp => h p (by omega)]
    by_cases hd : (ops[n]?).bind (·.dst) = some t
    · rw [if_pos hd, if_pos hd, h n (by omega) hd]
    · rw [if_neg hd, if_neg hd]

/-- None from some place on. -/
theorem tv_top {ops : Array Oper} {g : Nat → Option AV} {ts0 : List AV} {t : Nat} (m : Nat) : ∀ n, m ≤ n → (∀ p, m ≤ p → p < n → (ops[p]?).bind (·.dst) = some t → g p = none) → tv ops g ts0 t n = tv ops g ts0 t m
  | 0, h, _ => by have : m = 0 := by omega
                  subst this; rfl
  | n + 1, h, hg => by
    by_cases he : m = n + 1
    · subst he; rfl
    · simp only [tv]
      rw [← tv_top m n (by omega) fun p h1 h2 => hg p h1 (by omega)]
      by_cases hd : (ops[n]?).bind (·.dst) = some t
      · rw [if_pos hd, hg n (by omega) (by omega) hd]; rfl
      · rw [if_neg hd]

/-- The temporaries of a run in which the operations of g have been. -/
structure Ag (ops : Array Oper) (g : Nat → Option AV) (ts0 ts : List AV) : Prop where
  len : ts.length = ts0.length
  val : ∀ t, t < ts0.length → ts.getD t .undef = tv ops g ts0 t ops.size

theorem Ag.congr {ops : Array Oper} {g g' : Nat → Option AV} {ts0 ts : List AV} (h : Ag ops g ts0 ts) (he : ∀ p, p < ops.size → g p = g' p) : Ag ops g' ts0 ts :=
  ⟨h.len, fun t ht => (h.val t ht).trans (tv_congr _ fun p hp _ => he p hp)⟩

theorem Ag.eq {ops : Array Oper} {g : Nat → Option AV} {ts0 ts ts' : List AV} (h : Ag ops g ts0 ts) (h' : Ag ops g ts0 ts') : ts = ts' := by
  refine List.ext_getElem (h.len.trans h'.len.symm) fun i h1 h2 => ?_
  have a := h.val i (by rw [← h.len]; exact h1)
  have b := h'.val i (by rw [← h.len]; exact h1)
  have := a.trans b.symm
  simpa [List.getD, h1, h2] using this

theorem getD_put (ts : List AV) (d : Option Tmp) (v : AV) (ds : List (AV × List AV)) (t : Nat) (ht : t < ts.length) :
    (AFr.put ⟨ts, ds⟩ d v).ts.getD t .undef = if d = some t then v else ts.getD t .undef := by
  cases d with
  | none => simp [AFr.put]
  | some d =>
    simp only [AFr.put, Option.some.injEq, List.getD_eq_getElem?_getD, List.getElem?_set]
    by_cases e : d = t
    · subst e; simp [ht]
    · simp [e]

/-- One more operation has been, and none that wrote the same temporary lies behind it. -/
theorem Ag.put {ops : Array Oper} {g g' : Nat → Option AV} {ts0 ts : List AV} {ds : List (AV × List AV)} (h : Ag ops g ts0 ts) {i : Nat} {o : Oper} (ho : ops[i]? = some o) {v : AV}
    (hg : ∀ p, p ≠ i → g' p = g p) (hi : g' i = some v) (hlate : ∀ p, i < p → p < ops.size → ∀ d, o.dst = some d → (ops[p]?).bind (·.dst) = some d → g p = none) :
    Ag ops g' ts0 (AFr.put ⟨ts, ds⟩ o.dst v).ts := by
  have hlt : i < ops.size := (Array.getElem?_eq_some_iff.1 ho).1
  refine ⟨?_, fun t ht => ?_⟩
  · rw [← h.len]; cases o.dst <;> simp [AFr.put]
  · rw [getD_put _ _ _ _ _ (by rw [h.len]; exact ht)]
    have hd : (ops[i]?).bind (·.dst) = o.dst := by rw [ho]; rfl
    by_cases e : o.dst = some t
    · rw [if_pos e]
      rw [tv_top (i + 1) ops.size (by omega) fun p h1 h2 h3 => by rw [hg p (by omega)]; exact hlate p (by omega) h2 t e h3]
      simp only [tv]
      rw [if_pos (by rw [hd]; exact e), hi]; rfl
    · rw [if_neg e, h.val t ht]
      refine tv_congr _ fun p hp hpd => ?_
      by_cases hpi : p = i
      · subst hpi; rw [hd] at hpd; exact absurd hpd e
      · rw [hg p hpi]
end Go.Am

set_option linter.unusedVariables false
set_option linter.unusedSimpArgs false
namespace Go.Am
open Go

structure Tab where
  cs : List Core
  news : List (Nat × Blk)
  val : Nat → Option AV
  bad : Option (Nat × AV × ASt)

def lim (S : Nat → Bool) (val : Nat → Option AV) : Nat → Option AV := fun p => if S p = true then val p else none

section
variable (P : Program) (cfg : Cfg) (call : FuncId → List AV → ASt → Option CR) (fuel : Nat) (rm : Bool) (ops : Array Oper) (anc : List Nat) (base : Nat) (fr0 : AFr) (T : Tab)

def Still (j : Nat) (o : Oper) (ts : List AV) : Prop :=
  ∃ v, T.val j = some v ∧ ∀ (k : Nat) (c : Core), T.cs[k]? = some c → (∀ (k' : Nat) (c' : Core) (w : Nat), k' ≤ k → T.cs[k']? = some c' → c'.w = some w → (anc.getD w 0).testBit j = false) →
    (∀ (k' : Nat) (c' : Core) (w : Nat), k < k' → T.cs[k']? = some c' → c'.w = some w → (anc.getD j 0).testBit w = false) →
    stillA P cfg call fuel rm (base + j) ts o (viewF base c (anc.getD j 0).testBit T.news) = some (v, newAt T.news j)

def WRun (j : Nat) (o : Oper) (ts : List AV) (σ : ASt) (v : AV) (σ' : ASt) : Prop :=
  (∃ f args, calleeA (aval cfg ts) o = some (f, args) ∧ Nat.beq (cfg.mode f) 0 = true ∧ call f args σ = some (.ret v σ')) ∨
  (calleeA (aval cfg ts) o = none ∧ aop P cfg rm σ (base + j) (aval cfg ts) o = some (v, .upd σ'))

def Writer (j : Nat) (o : Oper) (ts : List AV) : Prop :=
  ∃ (k : Nat) (c c' : Core) (v : AV), T.cs[k]? = some c ∧ T.cs[k + 1]? = some c' ∧ c'.w = some j ∧ T.val j = some v ∧ newAt T.news j = none ∧
    (∀ (k' : Nat) (c'' : Core) (w : Nat), k' ≤ k → T.cs[k']? = some c'' → c''.w = some w → (anc.getD j 0).testBit w = true) ∧
    WRun P cfg call rm base j o ts (viewF base c (anc.getD j 0).testBit T.news) v c'.σ

def BRun (j : Nat) (o : Oper) (ts : List AV) (σ : ASt) (v : AV) (σ' : ASt) : Prop :=
  (∃ x t u, o.op = .panic x ∧ aval cfg ts x = .iface t u ∧ v = .iface t u ∧ σ' = σ) ∨
  (∃ f args, calleeA (aval cfg ts) o = some (f, args) ∧ Nat.beq (cfg.mode f) 0 = true ∧ call f args σ = some (.panic v σ'))

def Bad (j : Nat) (o : Oper) (ts : List AV) : Prop :=
  ∃ (k : Nat) (c : Core) (v : AV) (σ' : ASt), T.bad = some (j, v, σ') ∧ T.cs[k]? = some c ∧ T.cs.length = k + 1 ∧ (∀ (k' : Nat) (c'' : Core) (w : Nat), T.cs[k']? = some c'' → c''.w = some w → (anc.getD j 0).testBit w = true) ∧
    BRun cfg call j o ts (viewF base c (anc.getD j 0).testBit T.news) v σ'

/-- No writer, and no panic comes of it. -/
def NW (j : Nat) : Prop := ∀ (k : Nat) (c : Core), T.cs[k]? = some c → c.w ≠ some j
def NB (j : Nat) : Prop := ∀ v σ, T.bad ≠ some (j, v, σ)

def Fact (j : Nat) (o : Oper) : Prop :=
  ∃ ts, Ag ops (lim (fun p => decide (p < j)) T.val) fr0.ts ts ∧
    ((∃ b v σ, T.bad = some (b, v, σ) ∧ (anc.getD j 0).testBit b = true) ∨
     (guardOk ops.toList ts o = true ∧
       ((wantedA ops.toList ts o = false ∧ T.val j = some (.tup []) ∧ newAt T.news j = none ∧ NW T j ∧ NB T j) ∨
        (wantedA ops.toList ts o = true ∧ ((Still P cfg call fuel rm anc base T j o ts ∧ NW T j ∧ NB T j) ∨ (Writer P cfg call rm anc base T j o ts ∧ NB T j) ∨ Bad cfg call anc base T j o ts)))))

structure TabOK (σ0 : ASt) (m : Nat) : Prop where
  c0 : ∃ c, T.cs[0]? = some c ∧ c.w = none ∧ c.anc = 0 ∧ c.σ = σ0
  cw : ∀ (k : Nat) (c : Core), T.cs[k]? = some c → k ≠ 0 → ∃ w, w < ops.size ∧ c.w = some w ∧ c.anc = anc.getD w 0
  cinj : ∀ (k k' : Nat) (c c' : Core) (w : Nat), T.cs[k]? = some c → T.cs[k']? = some c' → c.w = some w → c'.w = some w → k = k'
  badlt : ∀ b v σ, T.bad = some (b, v, σ) → b < ops.size
  facts : ∀ j o, j < m → ops[j]? = some o → Fact P cfg call fuel rm ops anc base fr0 T j o

structure J (Γ0 : Ctx) (σ0 : ASt) (S : Nat → Bool) (a : Act) (Γ : Ctx) (k : Nat) (c : Core) (ts : List AV) : Prop where
  good : Good Γ0 σ0 Γ (viewF base c S T.news) (base ≤ ·)
  core : T.cs[k]? = some c
  inS : ∀ (k' : Nat) (c' : Core) (w : Nat), k' ≤ k → T.cs[k']? = some c' → c'.w = some w → S w = true
  notS : ∀ (k' : Nat) (c' : Core), k < k' → T.cs[k']? = some c' → ∃ w, c'.w = some w ∧ S w = false
  ag : Ag ops (lim S T.val) fr0.ts ts
  fr : FRel Γ ⟨ts, fr0.ds⟩ a
  fresh : ∀ p, p < ops.size → S p = false → ¬ Γ.dom (base + p)
  hold : ∀ p, S p = true → c.anc.testBit p = false → (newAt T.news p).isSome = true → c.σ.get (base + p) = none
  down : ∀ p q, S p = true → (anc.getD p 0).testBit q = true → S q = true
  slt : ∀ p, S p = true → p < ops.size
  nbad : ∀ b v σ, T.bad = some (b, v, σ) → S b = false
end

section
variable {P : Program} {cfg : Cfg} {call : FuncId → List AV → ASt → Option CR} {fuel : Nat} {rm : Bool} {ops : Array Oper} {anc : List Nat} {base : Nat} {fr0 : AFr} {T : Tab}

def putN (σ : ASt) (id : Nat) : Option Blk → ASt
  | none => σ
  | some b => σ.put id b

theorem stepA_still {id : Nat} {ts : List AV} {ds : List (AV × List AV)} {o : Oper} {σ : ASt} {v : AV} {b : Option Blk} (h : stillA P cfg call fuel rm id ts o σ = some (v, b)) :
    stepA P cfg call fuel rm id o ⟨ts, ds⟩ σ = some (.go (AFr.put ⟨ts, ds⟩ o.dst v) (putN σ id b)) := by
  unfold stillA at h
  unfold stepA
  split
  · rename_i x ho
    simp only [calleeA, ho, aop] at h
    cases h
  · rename_i g xs tys ho
    simp only [calleeA, ho, aop] at h
    cases h
  · simp only
    split
    · rename_i f args hc
      rw [hc] at h
      simp only at h
      cases hm : Nat.beq (cfg.mode f) 0 with
      | true => rw [hm] at h; cases h
      | false =>
        rw [hm] at h
        simp only [cond_false] at h
        simp only [doCall, hm, cond_false]
        split at h
        · rename_i v' σ' hp
          simp only [Option.some.injEq, Prod.mk.injEq] at h
          obtain ⟨rfl, rfl⟩ := h
          rw [hp]
          have : σ' = σ := by
            unfold pureCall at hp
            split at hp
            · obtain ⟨u, _, hu⟩ := map_some_inv hp; simp only [CR.ret.injEq] at hu; exact hu.2.symm
            · obtain ⟨u, _, hu⟩ := map_some_inv hp; cases hu
            · cases hp
          subst this
          rfl
        · cases h
    · rename_i hc
      rw [hc] at h
      simp only at h
      split at h
      · rename_i v' ha
        simp only [Option.some.injEq, Prod.mk.injEq] at h
        obtain ⟨rfl, rfl⟩ := h
        rw [ha]
        rfl
      · rename_i v' b' ha
        simp only [Option.some.injEq, Prod.mk.injEq] at h
        obtain ⟨rfl, rfl⟩ := h
        rw [ha]
        rfl
      · cases h

theorem stepA_writer {j : Nat} {ts : List AV} {ds : List (AV × List AV)} {o : Oper} {σ σ' : ASt} {v : AV} (h : WRun P cfg call rm base j o ts σ v σ') :
    stepA P cfg call fuel rm (base + j) o ⟨ts, ds⟩ σ = some (.go (AFr.put ⟨ts, ds⟩ o.dst v) σ') := by
  unfold stepA
  rcases h with ⟨f, args, hc, hm, hr⟩ | ⟨hc, ha⟩
  · split
    · rename_i x ho
      simp only [calleeA, ho] at hc
      cases hc
    · rename_i g xs tys ho
      simp only [calleeA, ho] at hc
      cases hc
    · simp only [hc, doCall, hm, cond_true, hr]
  · split
    · rename_i x ho
      simp only [aop, ho] at ha
      cases ha
    · rename_i g xs tys ho
      simp only [aop, ho] at ha
      cases ha
    · simp only [hc, ha]

theorem stepA_bad {j id : Nat} {ts : List AV} {ds : List (AV × List AV)} {o : Oper} {σ σ' : ASt} {v : AV} (h : BRun cfg call j o ts σ v σ') :
    stepA P cfg call fuel rm id o ⟨ts, ds⟩ σ = some (.bad v σ') := by
  unfold stepA
  rcases h with ⟨x, t, u, ho, hx, rfl, rfl⟩ | ⟨f, args, hc, hm, hr⟩
  · simp only [ho, hx]
  · split
    · rename_i x ho
      simp only [calleeA, ho] at hc
      cases hc
    · rename_i g xs tys ho
      simp only [calleeA, ho] at hc
      cases hc
    · simp only [hc, doCall, hm, cond_true, hr]

/-! ### What an operation sees -/
theorem look_eq (hA : Anc ops anc) {S : Nat → Bool} {ts ts' : List AV} {j : Nat} {o : Oper} (ho : ops[j]? = some o) (hj : S j = false) (hrd : ∀ q, (anc.getD j 0).testBit q = true → S q = true)
    (down : ∀ p q, S p = true → (anc.getD p 0).testBit q = true → S q = true) (h : Ag ops (lim S T.val) fr0.ts ts) (h' : Ag ops (lim (fun p => decide (p < j)) T.val) fr0.ts ts') :
    ∀ t, t ∈ o.looksAt ops → ts'[t]? = ts[t]? := by
  intro t ht
  by_cases hlt : t < fr0.ts.length
  · have e1 := h.val t hlt
    have e2 := h'.val t hlt
    have : tv ops (lim (fun p => decide (p < j)) T.val) fr0.ts t ops.size = tv ops (lim S T.val) fr0.ts t ops.size := by
      refine tv_congr _ fun p hp hd => ?_
      have hop : ops[p]? = some ops[p] := Array.getElem?_eq_getElem hp
      rw [hop] at hd
      simp only [Option.bind_some] at hd
      unfold lim
      rcases Nat.lt_trichotomy p j with hpj | rfl | hpj
      · rcases hA.apart j p o _ hpj ho hop with ha | ha
        · simp [hpj, hrd p ha]
        · exact absurd ht ((Oper.apart_spec ha).2.2 t hd)
      · simp [hj]
      · rcases hA.apart p j _ o hpj hop ho with ha | ha
        · have : S p = false := by
            cases hs : S p with
            | false => rfl
            | true => rw [down p j hs ha] at hj; cases hj
          have hnp : ¬ p < j := by omega
          simp [hnp, this]
        · exact absurd ht ((Oper.apart_spec ha).1 t hd)
    rw [← e1, ← e2] at this
    have l1 : t < ts.length := by rw [h.len]; exact hlt
    have l2 : t < ts'.length := by rw [h'.len]; exact hlt
    simp only [List.getD, List.getElem?_eq_getElem l1, List.getElem?_eq_getElem l2, Option.getD_some] at this ⊢
    rw [this]
  · have l1 : ts'.length ≤ t := by rw [h'.len]; exact Nat.le_of_not_lt hlt
    have l2 : ts.length ≤ t := by rw [h.len]; exact Nat.le_of_not_lt hlt
    rw [List.getElem?_eq_none l1, List.getElem?_eq_none l2]

theorem aval_look {ts ts' : List AV} {o : Oper} (h : ∀ t, t ∈ o.looksAt ops → ts'[t]? = ts[t]?) : ∀ x ∈ o.op.operands, aval cfg ts' x = aval cfg ts x := by
  intro x hx
  cases x with
  | tmp t =>
    have : t ∈ o.looksAt ops := List.mem_append_left _ (List.mem_filterMap.2 ⟨.tmp t, by simpa using hx, rfl⟩)
    simp only [aval, List.getD, h t this]
  | _ => rfl

theorem guard_look {ts ts' : List AV} {o : Oper} (h : ∀ t, t ∈ o.looksAt ops → ts'[t]? = ts[t]?) : guardOk ops.toList ts' o = guardOk ops.toList ts o ∧ wantedA ops.toList ts' o = wantedA ops.toList ts o := by
  unfold guardOk wantedA
  cases hg : o.guard with
  | none => exact ⟨rfl, rfl⟩
  | some gw =>
    obtain ⟨g, want⟩ := gw
    simp only [Array.getElem?_toList]
    cases hd : (ops[g]?).bind (·.dst) with
    | none => exact ⟨rfl, rfl⟩
    | some d =>
      have : d ∈ o.looksAt ops := List.mem_append_right _ (by simp [hg, hd])
      simp [h d this]

theorem stillA_look {id : Nat} {ts ts' : List AV} {o : Oper} {σ : ASt} (h : ∀ t, t ∈ o.looksAt ops → ts'[t]? = ts[t]?) : stillA P cfg call fuel rm id ts' o σ = stillA P cfg call fuel rm id ts o σ := by
  unfold stillA
  rw [calleeA_congr (aval_look (cfg := cfg) h), aop_congr (aval_look (cfg := cfg) h)]
theorem WRun_look {j : Nat} {ts ts' : List AV} {o : Oper} {σ σ' : ASt} {v : AV} (h : ∀ t, t ∈ o.looksAt ops → ts'[t]? = ts[t]?) (hw : WRun P cfg call rm base j o ts' σ v σ') : WRun P cfg call rm base j o ts σ v σ' := by
  unfold WRun at *
  rw [calleeA_congr (aval_look (cfg := cfg) h), aop_congr (aval_look (cfg := cfg) h)] at hw
  exact hw
theorem BRun_look {j : Nat} {ts ts' : List AV} {o : Oper} {σ σ' : ASt} {v : AV} (h : ∀ t, t ∈ o.looksAt ops → ts'[t]? = ts[t]?) (hw : BRun cfg call j o ts' σ v σ') : BRun cfg call j o ts σ v σ' := by
  unfold BRun at *
  rw [calleeA_congr (aval_look (cfg := cfg) h)] at hw
  refine hw.imp_left ?_
  rintro ⟨x, t, u, ho, hx, e⟩
  exact ⟨x, t, u, ho, by rw [← aval_look (cfg := cfg) h x (by rw [ho]; simp [Op.operands])]; exact hx, e⟩
end
end Go.Am
