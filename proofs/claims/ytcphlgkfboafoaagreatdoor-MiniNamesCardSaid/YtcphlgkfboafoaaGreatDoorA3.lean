/-
Structs and literals built: what the abstract machine says of them is so.
Operations that make a block, or write one: what the abstract machine says of them is so.
Appending: what the abstract machine says of it is so.
Appending (2): what the abstract machine says of it is so.
Literals, make, stores: what the abstract machine says of them is so.
Stores: what the abstract machine says of them is so.
Maps written; all operations together.
A Builder's operations, an array's elements: what the abstract machine says of them is so.
All operations together.
-/
import Derived.Test.YtcphlgkfboafoaaGreatDoorA2
import Derived.Deep.AppendSrc
import Derived.IntWalk
import Derived.Lib.Builder
import Derived.Lib.UnsafeStr
set_option linter.unusedVariables false
set_option linter.unusedSimpArgs false
namespace Go.Am
open Go

theorem getD_set (arr : Array Value) (i j : Nat) (v : Value) (hi : i < arr.size) : (arr.setIfInBounds i v).getD j undef = if j = i then v else arr.getD j undef := by
  simp only [Array.getD_eq_getD_getElem?, Array.getElem?_setIfInBounds]
  by_cases e : i = j
  · subst e; simp [hi]
  · have : ¬ j = i := fun x => e x.symm
    simp [e, this]

theorem splice_list (off : Nat) : ∀ (l : List Value) (i0 : Nat) (arr : Array Value), off + i0 + l.length ≤ arr.size →
    ((l.zipIdx i0).foldl (fun cs (p : Value × Nat) => cs.setIfInBounds (off + p.2) p.1) arr).size = arr.size ∧
    ∀ j, ((l.zipIdx i0).foldl (fun cs (p : Value × Nat) => cs.setIfInBounds (off + p.2) p.1) arr).getD j undef =
      if off + i0 ≤ j ∧ j < off + i0 + l.length then l.getD (j - (off + i0)) undef else arr.getD j undef
  | [], i0, arr, _ => by
    refine ⟨rfl, fun j => ?_⟩
    rw [if_neg (by simp)]
    rfl
  | v :: r, i0, arr, h => by
    simp only [List.length_cons] at h
    obtain ⟨h1, h2⟩ := splice_list off r (i0 + 1) (arr.setIfInBounds (off + i0) v) (by simp; omega)
    simp only [List.zipIdx_cons, List.foldl_cons]
    refine ⟨by rw [h1]; simp, fun j => ?_⟩
    rw [h2 j, getD_set _ _ _ _ (by omega)]
    by_cases e : j = off + i0
    · subst e
      rw [if_neg (by omega), if_pos rfl, if_pos (by simp)]
      simp
    · rw [if_neg e]
      by_cases hb : off + (i0 + 1) ≤ j ∧ j < off + (i0 + 1) + r.length
      · rw [if_pos hb, if_pos (by simp; omega)]
        have : j - (off + i0) = (j - (off + (i0 + 1))) + 1 := by omega
        rw [this]
        simp
      · rw [if_neg hb, if_neg (by simp; omega)]

def CellR (Γ : Ctx) (cs : List AV) (arr : Array Value) : Prop := arr.size = cs.length ∧ ∀ j, j < cs.length → (arr.getD j undef).oneCell' = true ∧ VR Γ (cs.getD j .undef) (arr.getD j undef)

theorem splice_cr {Γ : Ctx} {cs : List AV} {arr : Array Value} (h : CellR Γ cs arr) {v : AV} {V : Value} (hv : VR Γ v V) (hs : v.storable = true) (off : Nat) (hle : off + v.cells.length ≤ cs.length) :
    CellR Γ (cs.take off ++ v.cells ++ cs.drop (off + v.cells.length)) (V.cells.zipIdx.foldl (fun cs (c, j) => cs.setIfInBounds (off + j) c) arr) := by
  obtain ⟨h1, h2⟩ := hv.cells hs
  have hl := splice_list off V.cells.toList 0 arr (by simp [h.1, h1]; omega)
  have e : V.cells.zipIdx.foldl (fun cs (c, j) => cs.setIfInBounds (off + j) c) arr = (V.cells.toList.zipIdx 0).foldl (fun cs (p : Value × Nat) => cs.setIfInBounds (off + p.2) p.1) arr := by
    rw [← Array.foldl_toList, Array.toList_zipIdx]
  rw [e]
  have hlen : (cs.take off ++ v.cells ++ cs.drop (off + v.cells.length)).length = cs.length := by simp; omega
  refine ⟨by rw [hl.1, h.1, hlen], fun j hj => ?_⟩
  rw [hlen] at hj
  rw [hl.2 j]
  have hget : (cs.take off ++ v.cells ++ cs.drop (off + v.cells.length)).getD j .undef = if off ≤ j ∧ j < off + v.cells.length then v.cells.getD (j - off) .undef else cs.getD j .undef := by
    simp only [List.getD_eq_getElem?_getD, List.getElem?_append, List.length_append, List.length_take, List.getElem?_take, List.getElem?_drop]
    by_cases a1 : j < off
    · rw [if_pos (by omega), if_pos (by omega), if_pos a1, if_neg (by omega)]
    · by_cases a2 : j < off + v.cells.length
      · rw [if_pos (by omega), if_neg (by omega), if_pos (by omega)]
        congr 2; omega
      · rw [if_neg (by omega), if_neg (by omega)]
        congr 2; omega
  rw [hget]
  have hsz : V.cells.toList.length = v.cells.length := by simp [h1]
  by_cases hb : off ≤ j ∧ j < off + v.cells.length
  · rw [if_pos (by rw [hsz]; omega), if_pos hb]
    have := h2 (j - off) (by omega)
    have e1 : V.cells.toList.getD (j - (off + 0)) undef = V.cells.getD (j - off) undef := by
      simp only [List.getD_eq_getElem?_getD, Array.getD_eq_getD_getElem?, Array.getElem?_toList, Nat.add_zero]
    rw [e1]
    exact this
  · rw [if_neg (by rw [hsz]; omega), if_neg hb]
    exact h.2 j hj

theorem fillA_run {Γ : Ctx} {place : Nat → Option (Nat × Nat)} : ∀ (ps : List (Nat × AV)) (Ps : List (Nat × Value)) (cs cs' : List AV) (arr : Array Value), fillA place cs ps = some cs' → CellR Γ cs arr →
    Ps.length = ps.length → (∀ i, i < ps.length → (Ps.getD i (0, undef)).1 = (ps.getD i (0, .undef)).1 ∧ VR Γ (ps.getD i (0, .undef)).2 (Ps.getD i (0, undef)).2) →
    ∃ arr', Instr.fill place arr Ps = some arr' ∧ CellR Γ cs' arr'
  | [], Ps, cs, cs', arr, h, hc, hl, _ => by
    obtain rfl := List.eq_nil_of_length_eq_zero (by simpa using hl)
    obtain rfl := Option.some.inj h
    exact ⟨arr, rfl, hc⟩
  | (i, v) :: r, Ps, cs, cs', arr, h, hc, hl, hp => by
    cases Ps with
    | nil => simp at hl
    | cons Q R =>
      obtain ⟨i', V⟩ := Q
      have h0 := hp 0 (by simp)
      simp only [List.getD_cons_zero] at h0
      obtain ⟨rfl, hv⟩ := h0
      simp only [fillA] at h
      cases hpl : place i' with
      | none => rw [hpl] at h; cases h
      | some on =>
        obtain ⟨off, n⟩ := on
        rw [hpl] at h
        simp only at h
        cases hb : (v.storable && Nat.beq v.cells.length n && Nat.ble (off + n) cs.length) with
        | false => rw [hb] at h; cases h
        | true =>
          rw [hb] at h
          simp only [cond] at h
          simp only [Bool.and_eq_true] at hb
          obtain ⟨⟨hs, hn⟩, hle⟩ := hb
          obtain rfl := Nat.eq_of_beq_eq_true hn
          have hle' : off + v.cells.length ≤ cs.length := by simpa [Nat.ble_eq] using hle
          have hsz := (hv.cells hs).1
          have ih := fillA_run r R _ cs' _ h (splice_cr hc hv hs off hle') (by simpa using hl) (fun i hi => by have := hp (i + 1) (by simpa using hi); simpa using this)
          obtain ⟨arr', h1, h2⟩ := ih
          refine ⟨arr', ?_, h2⟩
          simp only [Instr.fill, hpl]
          rw [if_neg (by simp [hsz, hc.1]; omega)]
          exact h1

section
variable {P : Program} {cfg : Cfg} {σ : ASt} {id : Nat} {ts : List AV} {o : Oper} {v : AV} {Γ : Ctx} {a : Act}

theorem parts_vr (hg : GR Γ cfg) (hf : FR Γ ts a.tmps) (parts : Array (Nat × Operand)) :
    ((parts.map fun (i, x) => (i, a.eval x)).toList).length = (parts.toList.map fun p => (p.1, aval cfg ts p.2)).length ∧
    ∀ i, i < (parts.toList.map fun p => (p.1, aval cfg ts p.2)).length → (((parts.map fun (i, x) => (i, a.eval x)).toList).getD i (0, undef)).1 = ((parts.toList.map fun p => (p.1, aval cfg ts p.2)).getD i (0, .undef)).1 ∧
      VR Γ ((parts.toList.map fun p => (p.1, aval cfg ts p.2)).getD i (0, .undef)).2 (((parts.map fun (i, x) => (i, a.eval x)).toList).getD i (0, undef)).2 := by
  refine ⟨by simp, fun i hi => ?_⟩
  have hi' : i < parts.size := by simpa using hi
  have e1 : (parts.toList.map fun p => (p.1, aval cfg ts p.2)).getD i (0, .undef) = (parts[i].1, aval cfg ts parts[i].2) := by simp [List.getD, hi']
  have e2 : ((parts.map fun (i, x) => (i, a.eval x)).toList).getD i (0, undef) = (parts[i].1, a.eval parts[i].2) := by simp [List.getD, hi']
  rw [e1, e2]
  exact ⟨rfl, aval_vr hg hf _⟩

theorem VR.agg_cr {cs : List AV} {X : Value} (h : VR Γ (.agg cs) X) : CellR Γ cs X.cells ∧ X = .agg X.cells := by
  obtain ⟨vs, rfl, h1, h2⟩ := h.agg_inv
  exact ⟨⟨h1, h2⟩, rfl⟩
theorem mapM_run {α β : Type} {f : α → Sem β} {g : α → β} {w : World} : ∀ (l : List α), (∀ x ∈ l, (f x).run P w = .ok (g x) w) → (l.mapM f).run P w = .ok (l.map g) w
  | [], _ => by simp
  | x :: r, h => by
    have ih := mapM_run r (fun y hy => h y (by simp [hy]))
    simp only [List.mapM_cons, Sem.run_bind, h x (by simp), Result.andThen_ok, ih, Sem.run_pure, List.map_cons]
theorem mapMA_run {α β : Type} {f : α → Sem β} {g : α → β} {w : World} (l : Array α) (h : ∀ x ∈ l.toList, (f x).run P w = .ok (g x) w) : (l.mapM f).run P w = .ok (l.map g) w := by
  rw [Array.mapM_eq_mapM_toList, Sem.run_map, mapM_run l.toList h]
  simp only [Result.andThen_ok]
  congr 1
  apply Array.ext'
  simp

theorem CellR.agg {cs : List AV} {arr : Array Value} (h : CellR Γ cs arr) : VR Γ (.agg cs) (.agg arr) := .agg cs arr h.1 (fun i hi => (h.2 i hi).1) (fun i hi => (h.2 i hi).2)

theorem ok_build (hI : Inv Γ σ) (hg : GR Γ cfg) (hf : FR Γ ts a.tmps) (t : TypeId) (parts : Array (Nat × Operand)) (ho : o.op = .build t parts) (z cs : List AV) (hz : zeroA P t = some (.agg z)) (d : TypeDesc) (hd : P.underlying t = some d)
    (h : (∃ fs : Array Field, d = .struct fs ∧ (∀ f : Field, f ∈ fs.toList → ∃ j, P.info? f.type = some j) ∧ fillA (fun i => (fs[i]?).map fun (f : Field) => (f.offset, szT P f.type)) z (parts.toList.map fun p => (p.1, aval cfg ts p.2)) = some cs) ∨
      (∃ n e, d = .array n e ∧ szT P e ≠ 0 ∧ fillA (fun i => some (i * szT P e, szT P e)) z (parts.toList.map fun p => (p.1, aval cfg ts p.2)) = some cs)) : OpOK P o a Γ σ id (.agg cs) σ := by
  obtain ⟨Z, i, hi, hiz, hzr, hze, hzs, hz1⟩ := zeroA_run hz Γ.w
  have hZ : VR Γ (.agg z) Z := by rw [hze]; exact ofVal_vr Γ Z
  obtain ⟨hc, hZe⟩ := hZ.agg_cr
  obtain ⟨hp1, hp2⟩ := parts_vr hg hf parts
  have run : ∀ y, (Instr.build t (parts.map fun (i, x) => (i, a.eval x))).run P Γ.w = .ok y Γ.w → (execOp a.eval o).run P Γ.w = .ok (.value y) Γ.w := by
    intro y hr
    simp only [execOp, ho, Sem.run_bind, hr, Result.andThen_ok, Sem.run_pure]
  rcases h with ⟨fs, rfl, hfs, hfl⟩ | ⟨n, e, rfl, hez, hfl⟩
  · obtain ⟨arr, ha, hca⟩ := fillA_run _ _ _ _ _ hfl hc hp1 hp2
    refine .still hI (run (.agg arr) ?_) hca.agg
    have hpl : (fs.mapM (m := Sem) fun f => do pure (f.offset, ← sizeOf f.type)).run P Γ.w = .ok (fs.map fun f => (f.offset, szT P f.type)) Γ.w := by
      refine mapMA_run fs fun f hf' => ?_
      obtain ⟨j, hj⟩ := hfs f hf'
      simp [sizeOf, typeInfo, hj, szT, Program.cellsOf]
    simp only [Instr.build, Sem.run_bind, hzr, Result.andThen_ok, run_underlying hd]
    rw [hpl]
    simp only [Result.andThen_ok]
    have epl : (fun (x : Nat) => (fs.map fun (f : Field) => (f.offset, szT P f.type))[x]?) = fun (i : Nat) => (fs[i]?).map fun (f : Field) => (f.offset, szT P f.type) := by
      funext i; simp
    rw [epl, ha]
    simp
  · obtain ⟨arr, ha, hca⟩ := fillA_run _ _ _ _ _ hfl hc hp1 hp2
    refine .still hI (run (.agg arr) ?_) hca.agg
    simp only [Instr.build, Sem.run_bind, hzr, Result.andThen_ok, run_underlying hd, sz_run hez Γ.w, ha, Sem.run_pure]
end
end Go.Am

set_option linter.unusedVariables false
set_option linter.unusedSimpArgs false
namespace Go.Am
open Go

section
variable {P : Program} {cfg : Cfg} {σ : ASt} {id : Nat} {ts : List AV} {o : Oper} {v : AV} {Γ : Ctx} {a : Act}

/-- Where a new block may come. -/
structure Fresh (Γ : Ctx) (σ : ASt) (id : Nat) : Prop where
  dom : ¬ Γ.dom id
  lt : id < σ.next
  wp : σ.wp ≤ id

theorem Fresh.none (hI : Inv Γ σ) (h : Fresh Γ σ id) : σ.get id = none := by
  cases hg : σ.get id with
  | none => rfl
  | some B => exact absurd (hI.blk id B hg).1 h.dom

theorem change_new (hI : Inv Γ σ) (h : Fresh Γ σ id) (w' : World) (obj : Obj) (B : Blk) (k cap : Nat) (S : Nat → Prop) (hw : w'.heap = Γ.w.heap.push obj)
    (ho : w'.os = Γ.w.os) (ht : w'.tape = Γ.w.tape) (hp : w'.output = Γ.w.output) (hS : ∀ c, B.lo ≤ c → ¬ S c) :
    Change Γ σ w' (σ.put id B) id ⟨Γ.w.heap.size, k, cap⟩ B S where
  size := by rw [hw]; simp
  os := ho
  tape := ht
  output := hp
  other := fun b hb _ => by rw [hw, Array.getElem?_push]; simp; omega
  stay := fun c hs => absurd (hI.lt _ c hs) (Nat.lt_irrefl _)
  own := .inl (Nat.le_refl _)
  get := by rw [ASt.get_put]; simp
  get' := fun j C hj hg => by
    rw [ASt.get_put, if_neg hj] at hg
    exact ⟨hg, Nat.ne_of_lt (hI.blt hg)⟩
  ro := fun j hj => by rw [ASt.get_put, if_neg (by have := h.wp; omega)]
  wp := rfl
  next := Nat.le_refl _
  idlt := h.lt
  old := fun hd => absurd hd h.dom
  free := fun c hc => ⟨fun hs => absurd (hI.lt _ c hs) (Nat.lt_irrefl _), hS c hc⟩
  freeo := fun hs => absurd (hI.lto _ hs) (Nat.lt_irrefl _)
  blt := by show Γ.w.heap.size < _; rw [hw]; simp

theorem heap_new {w w' : World} {obj : Obj} (hw : w'.heap = w.heap.push obj) : w'.heap[w.heap.size]? = some obj := by rw [hw]; simp

theorem with_dom {w' : World} {bi : BI} {S : Nat → Prop} (j : Nat) (h : (Γ.with w' id bi S).dom j) : Γ.dom j ∨ j = id := h

/-- A new variable, or a new row of a literal. -/
theorem new_row {ty : Option TypeId} {e : TypeId} (hty : tyOf ty e = e) (hI : Inv Γ σ) (h : Fresh Γ σ id) (w' : World) (arr : Array Value) (k cap : Nat) (xs : List AV) (hw : w'.heap = Γ.w.heap.push (.cells arr e (0, 0)))
    (ho : w'.os = Γ.w.os) (ht : w'.tape = Γ.w.tape) (hp : w'.output = Γ.w.output) (hsz : arr.size = cap * k) (hx : xs.length ≤ cap)
    (hrow : ∀ a, a < xs.length → (xs.getD a .undef).cells.length = k ∧ ∀ j, j < k → (arr.getD (a * k + j) undef).oneCell' = true ∧ VR Γ ((xs.getD a .undef).cell j) (arr.getD (a * k + j) undef)) :
    Step Γ σ (Γ.with w' id ⟨Γ.w.heap.size, k, cap⟩ fun _ => False) (σ.put id (.row k xs ty)) ∧ Inv (Γ.with w' id ⟨Γ.w.heap.size, k, cap⟩ fun _ => False) (σ.put id (.row k xs ty)) := by
  have hc := change_new hI h w' _ (.row k xs ty) k cap (fun _ => False) hw ho ht hp (fun _ _ h => h)
  have he := hc.ext hI
  refine ⟨hc.step hI, hc.inv hI ⟨rfl, hx, arr, e, by rw [hty]; exact heap_new hw, hsz, fun a ha => ⟨(hrow a ha).1, fun j hj => ⟨((hrow a ha).2 j hj).1, ((hrow a ha).2 j hj).2.ext he⟩⟩⟩⟩

theorem with_ρ {w' : World} {bi : BI} {S : Nat → Prop} : (Γ.with w' id bi S).ρ id = bi := if_pos rfl
theorem with_id {w' : World} {bi : BI} {S : Nat → Prop} : (Γ.with w' id bi S).dom id := .inr rfl

/-- A new row that is a list's. -/
theorem new_list {ty : Option TypeId} {e : TypeId} (hty : tyOf ty e = e) (hI : Inv Γ σ) (h : Fresh Γ σ id) (w' : World) (arr : Array Value) (k cap : Nat) (xs : List AV) (hw : w'.heap = Γ.w.heap.push (.cells arr e (0, 0)))
    (ho : w'.os = Γ.w.os) (ht : w'.tape = Γ.w.tape) (hp : w'.output = Γ.w.output) (hsz : arr.size = cap * k) (hk : 0 < k) (hx : xs.length ≤ cap) (hne : xs ≠ [])
    (hrow : ∀ a, a < xs.length → (xs.getD a .undef).cells.length = k ∧ ∀ j, j < k → (arr.getD (a * k + j) undef).oneCell' = true ∧ VR Γ ((xs.getD a .undef).cell j) (arr.getD (a * k + j) undef)) :
    ∃ Γ' : Ctx, Γ'.w = w' ∧ Step Γ σ Γ' (σ.put id (.tok k xs.length ty)) ∧ Inv Γ' (σ.put id (.tok k xs.length ty)) ∧ (∀ j, Γ'.dom j → Γ.dom j ∨ j = id) ∧
      VR Γ' (.lst xs (some id)) (.slice (some (at0 Γ.w.heap.size 0)) xs.length cap) := by
  have hc := change_new hI h w' _ (.tok k xs.length ty) k cap (fun c => c < xs.length * k) hw ho ht hp (fun c hc h => by simp only [Blk.lo] at hc; omega)
  have he := hc.ext hI
  refine ⟨_, rfl, hc.step hI, hc.inv hI ⟨rfl, hk, hx, arr, e, by rw [hty]; exact heap_new hw, hsz⟩, fun j h => h, ?_⟩
  have hin : ∀ i j, i < xs.length → j < k → i * k + j < xs.length * k := by
    intro i j hi hj
    calc i * k + j < i * k + k := by omega
      _ = (i + 1) * k := by rw [Nat.succ_mul]
      _ ≤ xs.length * k := Nat.mul_le_mul_right _ (by omega)
  refine .lst xs (some id) _ Γ.w.heap.size 0 k cap (fun i j => arr.getD (i * k + j) undef) (fun _ => rfl) (fun i hi => (hrow i hi).1) (fun i j hi hj => ⟨.inr ⟨rfl, by rw [Nat.zero_add]; exact hin i j hi hj⟩, ?_, ((hrow i hi).2 j hj).1⟩)
    (fun i j hi hj => ((hrow i hi).2 j hj).2.ext he) (fun tk htk => ?_) hx
  · have hlt : i * k + j < arr.size := by rw [hsz]; exact Nat.lt_of_lt_of_le (hin i j hi hj) (Nat.mul_le_mul_right _ hx)
    show w'.cell? _ = _
    simp [World.cell?, at0, heap_new hw, hlt]
  · obtain rfl := Option.some.inj htk
    exact ⟨with_id, by rw [with_ρ], by rw [with_ρ], hne, by rw [with_ρ]⟩

theorem ofScalar_cells (Z : Value) : (ofScalar Z).cells = [ofScalar Z] := by unfold ofScalar; split <;> rfl

theorem ofVal_cells (Γ : Ctx) (Z : Value) (hz1 : ∀ c ∈ Z.cells, c.oneCell' = true) : (ofVal Z).cells.length = Z.cells.size ∧ ∀ j, j < (ofVal Z).cells.length → VR Γ ((ofVal Z).cell j) (Z.cells.getD j undef) := by
  have hv := ofVal_vr Γ Z
  have hs : ∀ Z : Value, ofVal Z = ofScalar Z → Z.cells = #[Z] → VR Γ (ofVal Z) Z → (ofVal Z).cells.length = Z.cells.size ∧ ∀ j, j < (ofVal Z).cells.length → VR Γ ((ofVal Z).cell j) (Z.cells.getD j undef) := by
    intro Z h1 h2 h3
    rw [h2]
    have hc : (ofVal Z).cells = [ofVal Z] := by rw [h1]; exact ofScalar_cells Z
    refine ⟨by rw [hc]; rfl, fun j hj => ?_⟩
    rw [hc] at hj
    have : j = 0 := by simpa using hj
    subst this
    simp only [AV.cell, hc]
    exact h3
  cases Z with
  | agg cs =>
    have hall : cs.toList.all (·.oneCell') = true := by
      rw [List.all_eq_true]; intro c hc; exact hz1 c (by simpa [Value.cells] using hc)
    have e1 : ofVal (.agg cs) = .agg (cs.toList.map ofScalar) := by simp only [ofVal, hall, cond]
    rw [e1] at hv ⊢
    obtain ⟨⟨h1, h2⟩, _⟩ := hv.agg_cr
    exact ⟨h1.symm, fun j hj => (h2 j hj).2⟩
  | _ => exact hs _ rfl rfl hv

theorem ok_alloc (hI : Inv Γ σ) (h : Fresh Γ σ id) (e : TypeId) (z : AV) (ho : o.op = .alloc e) (hz : zeroA P e = some z) : OpOK P o a Γ σ id (.ptr id 0 0) (σ.put id (.row z.cells.length [z] (some e))) := by
  obtain ⟨Z, i, hi, hiz, hzr, hze, hzs, hz1⟩ := zeroA_run hz Γ.w
  have hv : VR Γ z Z := by rw [hze]; exact ofVal_vr Γ Z
  have hzl : z.cells.length = Z.cells.size ∧ ∀ j, j < z.cells.length → VR Γ (z.cell j) (Z.cells.getD j undef) := by
    subst hze
    exact ofVal_cells Γ Z hz1
  have hst := new_row (ty := some e) (e := e) rfl hI h (Γ.w.alloc (.cells Z.cells e)) Z.cells z.cells.length 1 [z] rfl rfl rfl rfl (by rw [hzl.1, Nat.one_mul]) (by simp) (fun b hb => by
    have : b = 0 := by simpa using hb
    subst this
    refine ⟨rfl, fun j hj => ?_⟩
    have hj' : j < Z.cells.size := by omega
    simp only [Nat.zero_mul, Nat.zero_add, List.getD_cons_zero]
    refine ⟨?_, hzl.2 j hj⟩
    have : Z.cells.getD j undef = Z.cells[j] := by simp [Array.getD, hj']
    rw [this]; exact hz1 _ (by simp))
  refine ⟨_, .value (.pointer (some (at0 Γ.w.heap.size 0))), _, ?_, .inl rfl, ?_, hst.1, hst.2, fun j h => h⟩
  · simp only [execOp, ho, Instr.alloc, newVar, newRow, Sem.run_bind, hzr, Result.andThen_ok, run_newObj, Sem.run_pure]
    rfl
  · have := VR.ptr (Γ := Γ.with (Γ.w.alloc (.cells Z.cells e)) id ⟨Γ.w.heap.size, z.cells.length, 1⟩ fun _ => False) id 0 0 with_id
    rw [with_ρ] at this
    simpa using this

theorem ok_box (hI : Inv Γ σ) (hg : GR Γ cfg) (hf : FR Γ ts a.tmps) (h : Fresh Γ σ id) (e : TypeId) (x : Operand) (ho : o.op = .box e x) (hs : (aval cfg ts x).storable = true) :
    OpOK P o a Γ σ id (.ptr id 0 0) (σ.put id (.row (aval cfg ts x).cells.length [aval cfg ts x] (some e))) := by
  have hX := aval_vr hg hf x
  generalize aval cfg ts x = z at hX hs
  obtain ⟨h1, h2⟩ := hX.cells hs
  have hst := new_row (ty := some e) (e := e) rfl hI h (Γ.w.alloc (.cells (a.eval x).cells e)) (a.eval x).cells z.cells.length 1 [z] rfl rfl rfl rfl (by rw [h1, Nat.one_mul]) (by simp) (fun b hb => by
    have : b = 0 := by simpa using hb
    subst this
    refine ⟨rfl, fun j hj => ?_⟩
    simp only [Nat.zero_mul, Nat.zero_add, List.getD_cons_zero]
    exact h2 j hj)
  refine ⟨_, .value (.pointer (some (at0 Γ.w.heap.size 0))), _, ?_, .inl rfl, ?_, hst.1, hst.2, fun j h => h⟩
  · simp only [execOp, ho, Instr.box, newVar, newRow, Sem.run_bind, Result.andThen_ok, run_newObj, Sem.run_pure]
    rfl
  · have := VR.ptr (Γ := Γ.with (Γ.w.alloc (.cells (a.eval x).cells e)) id ⟨Γ.w.heap.size, z.cells.length, 1⟩ fun _ => False) id 0 0 with_id
    rw [with_ρ] at this
    simpa using this

theorem ok_makeMap (hI : Inv Γ σ) (h : Fresh Γ σ id) (t : TypeId) (ho : o.op = .makeMap t none) : OpOK P o a Γ σ id (.map id) (σ.put id (.map [] [])) := by
  have hc := change_new hI h (Γ.w.alloc (.map #[] 0)) _ (.map [] []) 0 0 (fun _ => False) rfl rfl rfl rfl (fun _ _ h => h)
  refine ⟨_, .value (.map (some Γ.w.heap.size)), _, ?_, .inl rfl, ?_, hc.step hI, hc.inv hI ⟨#[], 0, heap_new rfl, rfl, rfl, fun a ha => by simp at ha, fun a ha => by simp at ha⟩, fun j h => h⟩
  · simp only [execOp, ho, Instr.makeMap, Option.map_none, Sem.run_bind, Result.andThen_ok, run_newObj, Sem.run_pure]
    rfl
  · have := VR.map (Γ := Γ.with (Γ.w.alloc (.map #[] 0)) id ⟨Γ.w.heap.size, 0, 0⟩ fun _ => False) id with_id
    rw [with_ρ] at this
    exact this
end
end Go.Am

set_option linter.unusedVariables false
set_option linter.unusedSimpArgs false
namespace Go.Am
open Go

/-- A list of cells reads as a list of elements. -/
def ListR (Γ : Ctx) (k : Nat) (xs : List AV) (L : List Value) : Prop :=
  L.length = xs.length * k ∧ ∀ i, i < xs.length → (xs.getD i .undef).cells.length = k ∧ ∀ j, j < k → (L.getD (i * k + j) undef).oneCell' = true ∧ VR Γ ((xs.getD i .undef).cell j) (L.getD (i * k + j) undef)

theorem idx_lt {i j k n : Nat} (hi : i < n) (hj : j < k) : i * k + j < n * k := by
  calc i * k + j < i * k + k := by omega
    _ = (i + 1) * k := by rw [Nat.succ_mul]
    _ ≤ n * k := Nat.mul_le_mul_right _ (by omega)

theorem ListR.append {Γ : Ctx} {k : Nat} {xs ys : List AV} {L M : List Value} (h : ListR Γ k xs L) (g : ListR Γ k ys M) : ListR Γ k (xs ++ ys) (L ++ M) := by
  refine ⟨by rw [List.length_append, List.length_append, h.1, g.1, Nat.add_mul], fun i hi => ?_⟩
  rw [List.length_append] at hi
  by_cases hx : i < xs.length
  · have e1 : (xs ++ ys).getD i .undef = xs.getD i .undef := by simp [List.getD, List.getElem?_append, hx]
    rw [e1]
    refine ⟨(h.2 i hx).1, fun j hj => ?_⟩
    have hlt : i * k + j < L.length := by rw [h.1]; exact idx_lt hx hj
    have e2 : (L ++ M).getD (i * k + j) undef = L.getD (i * k + j) undef := by simp [List.getD, List.getElem?_append, hlt]
    rw [e2]
    exact (h.2 i hx).2 j hj
  · have e1 : (xs ++ ys).getD i .undef = ys.getD (i - xs.length) .undef := by simp [List.getD, List.getElem?_append, hx]
    rw [e1]
    have hy : i - xs.length < ys.length := by omega
    refine ⟨(g.2 _ hy).1, fun j hj => ?_⟩
    have hge : ¬ i * k + j < L.length := by
      rw [h.1]
      have : xs.length * k ≤ i * k := Nat.mul_le_mul_right _ (by omega)
      omega
    have e2 : (L ++ M).getD (i * k + j) undef = M.getD ((i - xs.length) * k + j) undef := by
      simp only [List.getD_eq_getElem?_getD, List.getElem?_append, if_neg hge]
      congr 2
      rw [h.1, Nat.sub_mul]
      have : xs.length * k ≤ i * k := Nat.mul_le_mul_right _ (by omega)
      omega
    rw [e2]
    exact (g.2 _ hy).2 j hj

theorem ListR.of_fun {Γ : Ctx} {k : Nat} {xs : List AV} (hk : 0 < k) (g : Nat → Nat → Value) (h1 : ∀ i, i < xs.length → (xs.getD i .undef).cells.length = k)
    (h2 : ∀ i j, i < xs.length → j < k → (g i j).oneCell' = true ∧ VR Γ ((xs.getD i .undef).cell j) (g i j)) :
    ListR Γ k xs ((List.range (xs.length * k)).map fun c => g (c / k) (c % k)) := by
  refine ⟨by simp, fun i hi => ⟨h1 i hi, fun j hj => ?_⟩⟩
  have hlt := idx_lt hi hj
  have e : ((List.range (xs.length * k)).map fun c => g (c / k) (c % k)).getD (i * k + j) undef = g i j := by
    simp only [List.getD_eq_getElem?_getD, List.getElem?_map, List.getElem?_range hlt, Option.map_some, Option.getD_some]
    have e1 : (i * k + j) / k = i := by rw [Nat.add_comm, Nat.add_mul_div_right _ _ hk, Nat.div_eq_of_lt hj, Nat.zero_add]
    have e2 : (i * k + j) % k = j := by rw [Nat.add_comm, Nat.add_mul_mod_self_right, Nat.mod_eq_of_lt hj]
    rw [e1, e2]
  rw [e]
  exact h2 i j hi hj

theorem ListR.one {Γ : Ctx} {k : Nat} {xs : List AV} {L : List Value} (hk : 0 < k) (h : ListR Γ k xs L) : ∀ u ∈ L, u.oneCell' = true := by
  intro u hu
  obtain ⟨c, hc, rfl⟩ := List.getElem_of_mem hu
  rw [h.1] at hc
  have hi : c / k < xs.length := Nat.div_lt_of_lt_mul (by rw [Nat.mul_comm]; exact hc)
  have := ((h.2 _ hi).2 (c % k) (Nat.mod_lt _ hk)).1
  have e : c / k * k + c % k = c := by rw [Nat.mul_comm]; exact Nat.div_add_mod c k
  rw [e] at this
  simpa [List.getD, h.1, hc] using this

section
variable {P : Program} {cfg : Cfg} {σ : ASt} {id : Nat} {ts : List AV} {o : Oper} {v : AV} {Γ : Ctx} {a : Act}

/-- The cells of what a slice reads as, one behind the other. -/
theorem listA_flat (hI : Inv Γ σ) {x : AV} {X : Value} {xs : List AV} {k : Nat} (hk : 0 < k) (h : listA σ x = some xs) (hX : VR Γ x X) (hall : ∀ y ∈ xs, y.cells.length = k) :
    ∃ ad cap L, X = .slice ad xs.length cap ∧ ListR Γ k xs L ∧ (xs ≠ [] → ∃ b o, ad = some (at0 b o) ∧ ∀ c u, L[c]? = some u → Γ.w.cell? ((at0 b o).add c) = some u) := by
  obtain ⟨ad, cap, k', g, hXe, hc, hk', hv⟩ := listA_cells hI h hX
  have hlen : ∀ i, i < xs.length → (xs.getD i .undef).cells.length = k := by
    intro i hi
    have e : xs.getD i .undef = xs[i] := by simp [List.getD, hi]
    rw [e]; exact hall _ (List.getElem_mem hi)
  have hkk : xs ≠ [] → k' = k := by
    intro hne
    have h0 : 0 < xs.length := List.length_pos_iff.2 hne
    rw [← hk' 0 h0, hlen 0 h0]
  refine ⟨ad, cap, _, hXe, ListR.of_fun hk g hlen (fun i j hi hj => ?_), fun hne => ?_⟩
  · have hne : xs ≠ [] := by rintro rfl; simp at hi
    exact hv i j hi (by rw [hkk hne]; exact hj)
  · obtain ⟨b, o', hb, hcell⟩ := hc hne
    refine ⟨b, o', hb, fun c u hu => ?_⟩
    have hlt : c < xs.length * k := by
      obtain ⟨h1, _⟩ := List.getElem?_eq_some_iff.1 hu
      simpa using h1
    simp only [List.getElem?_map, List.getElem?_range hlt, Option.map_some, Option.some.injEq] at hu
    subst hu
    have hi : c / k < xs.length := Nat.div_lt_of_lt_mul (by rw [Nat.mul_comm]; exact hlt)
    have := hcell (c / k) (c % k) hi (by rw [hkk hne]; exact Nat.mod_lt _ hk)
    rw [hkk hne] at this
    have e : c / k * k + c % k = c := by rw [Nat.mul_comm]; exact Nat.div_add_mod c k
    rw [e] at this
    rw [at0_add]
    exact this

theorem append_roomS (w : World) (t u ty e e' : TypeId) (i : TypeInfo) (ht : P.underlying t = some (.slice e)) (hi : P.info? e = some i)
    (g sLen sCap : Nat) (cur : Array Value) (hg : w.heap[g]? = some (.cells cur e' (0, 0))) (X : Value) (m : Nat) (news : List Value) (hs : Src P i.size u X m news w)
    (hroom : sLen + m ≤ sCap) (hfit : sLen * i.size + news.length ≤ cur.size) :
    (Builtin.append_ #[t, u] ty #[.slice (some ⟨g, 0, none⟩) sLen sCap, X]).run P w =
      .ok (.slice (some ⟨g, 0, none⟩) (sLen + m) sCap) (w.setRow g (cur.toList.take (sLen * i.size) ++ news ++ cur.toList.drop (sLen * i.size + news.length)).toArray) := by
  have hst := run_storeCells_at P g (sLen * i.size) e' news 0 cur w hg (by simpa using hfit) hs.one
  simp only [Nat.add_zero] at hst
  rcases hs.kind with ⟨e'', hk⟩ | hk <;> simp [Builtin.append_, run_underlying ht, run_underlying hk, sizeOf, typeInfo, hi, hs.len, hroom, hs.cells, Addr.add_lit, hst]

theorem append_growS (w : World) (t u ty e : TypeId) (i : TypeInfo) (z : Value) (ht : P.underlying t = some (.slice e)) (hi : P.info? e = some i) (hz : i.zero = some z)
    (ad : Option Addr) (n cap : Nat) (olds : List Value) (hlo : olds.length = n * i.size) (hold : n ≠ 0 → ∃ b, ad = some b ∧ ∀ j v, olds[j]? = some v → w.cell? (b.add j) = some v) (hnil : ad = none → cap = 0)
    (X : Value) (m : Nat) (news : List Value) (hs : Src P i.size u X m news w)
    (hg : cap < n + m) (hm : 0 < m) (hb : (n + m) * i.bytes ≤ limit) (hb0 : 0 < i.bytes) :
    ∃ cap', n + m ≤ cap' ∧ (Builtin.append_ #[t, u] ty #[.slice ad n cap, X]).run P w =
      .ok (.slice (some ⟨w.heap.size, 0, none⟩) (n + m) cap') (w.drew.alloc (.cells (olds.toArray ++ news.toArray ++ Builtin.zeroCells z.cells (cap' - (n + m))) e)) := by
  have hb' : (n + m) * i.bytes ≤ 140737488355328 := hb
  have hle : n + m ≤ 140737488355328 := Nat.le_trans (Nat.le_mul_of_pos_right _ hb0) hb'
  refine ⟨grownCap w (n + m) cap e, grownCap_ge w (n + m) cap e, ?_⟩
  have hof : (Builtin.firstCells i.size n (.slice ad n cap)).run P w.drew = .ok olds.toArray w.drew := by
    cases ad with
    | none =>
      have hn0 : n = 0 := by
        rcases Nat.eq_zero_or_pos n with h | h
        · exact h
        · obtain ⟨b, hb, _⟩ := hold (by omega); cases hb
      subst hn0
      obtain rfl := List.eq_nil_of_length_eq_zero (by simpa using hlo)
      exact run_firstCells_none w.drew i.size 0 0 cap
    | some b =>
      have holds : ∀ j v, olds[j]? = some v → w.cell? (b.add j) = some v := by
        rcases Nat.eq_zero_or_pos n with h | h
        · subst h
          obtain rfl := List.eq_nil_of_length_eq_zero (by simpa using hlo)
          intro j v hv; simp at hv
        · obtain ⟨b', hb, h2⟩ := hold (by omega)
          obtain rfl := Option.some.inj hb
          exact h2
      exact run_firstCells_some (P := P) w.drew i.size n b n cap olds hlo (by simpa using holds)
  have := run_append_grow_src (P := P) w t u ty e i z ht hi hz ad n cap olds hof X m news hs hg (by omega) (growslice_fits hg hb')
  rw [this]
  simp only [List.append_toArray]

theorem append_zeroS (w : World) (t u ty e : TypeId) (i : TypeInfo) (ht : P.underlying t = some (.slice e)) (hi : P.info? e = some i) (base : Option Addr) (n cap : Nat) (hn : n ≤ cap) (X : Value) (hs : Src P i.size u X 0 [] w) :
    (Builtin.append_ #[t, u] ty #[.slice base n cap, X]).run P w = .ok (.slice base n cap) w := by
  rcases hs.kind with ⟨e'', hk⟩ | hk <;> cases base <;> simp [Builtin.append_, run_underlying ht, run_underlying hk, sizeOf, typeInfo, hi, hs.len, hn, hs.cells, storeCells]

/-- What a list, and what a text, gives to an append. -/
theorem src_list (hI : Inv Γ σ) {x : AV} {X : Value} {xs : List AV} {k : Nat} {t e : TypeId} (hu : P.underlying t = some (.slice e)) (hk : 0 < k) (h : listA σ x = some xs) (hX : VR Γ x X) (hall : ∀ y ∈ xs, y.cells.length = k) :
    ∃ M, Src P k t X xs.length M Γ.w ∧ ListR Γ k xs M := by
  obtain ⟨ad, cap, M, rfl, hM, hc⟩ := listA_flat hI hk h hX hall
  have one : ∀ u ∈ M, u.oneCell' = true := hM.one hk
  cases ad with
  | none =>
    have hx : xs = [] := by
      cases xs with
      | nil => rfl
      | cons y r => obtain ⟨b, o, h1, _⟩ := hc (by simp); cases h1
    subst hx
    obtain rfl : M = [] := List.eq_nil_of_length_eq_zero (by have := hM.1; simpa using this)
    exact ⟨[], Src.ofNil Γ.w hu cap, hM⟩
  | some a =>
    by_cases hx : xs = []
    · subst hx
      obtain rfl : M = [] := List.eq_nil_of_length_eq_zero (by have := hM.1; simpa using this)
      exact ⟨[], Src.ofSlice Γ.w hu a 0 cap [] (by simp) (fun j u h => by simp at h) (fun u h => by cases h), hM⟩
    · obtain ⟨b, o, h1, h2⟩ := hc hx
      obtain rfl := Option.some.inj h1
      exact ⟨M, Src.ofSlice Γ.w hu (at0 b o) xs.length cap M hM.1 h2 one, hM⟩

theorem src_str {s : List UInt8} {k : Nat} {t : TypeId} (hu : P.underlying t = some .string) (hk : 0 < k) (hall : ∀ y ∈ (s.map fun b => AV.int .u8 b.toNat), y.cells.length = k) :
    ∃ M, Src P k t (.string ⟨s.toArray⟩) (s.map fun b => AV.int .u8 b.toNat).length M Γ.w ∧ ListR Γ k (s.map fun b => AV.int .u8 b.toNat) M := by
  cases s with
  | nil =>
    refine ⟨[], ⟨.inr hu, fun _ => rfl, ?_, ?_, by simp, fun u h => by cases h⟩, by simp, fun i hi => by simp at hi⟩
    · simp [Builtin.firstCells]
    · simp [Builtin.firstCells]
  | cons b r =>
    have hk1 : k = 1 := by
      have := hall (AV.int .u8 b.toNat) (by simp)
      simpa [AV.cells] using this.symm
    subst hk1
    have hsz : (⟨(b :: r).toArray⟩ : ByteArray).size = ((b :: r).map fun b => AV.int .u8 b.toNat).length := by
      show ((b :: r).toArray).size = _
      simp
    have hS := Src.ofString (P := P) Γ.w hu ⟨(b :: r).toArray⟩
    rw [hsz] at hS
    refine ⟨_, hS, ?_, fun i hi => ?_⟩
    · rw [byteCells_length, hsz, Nat.mul_one]
    · simp only [List.length_map] at hi
      have e1 : ((b :: r).map fun b => AV.int .u8 b.toNat).getD i .undef = AV.int .u8 ((b :: r)[i]).toNat := by
        simp only [List.getD_eq_getElem?_getD, List.getElem?_map, List.getElem?_eq_getElem hi, Option.map_some, Option.getD_some]
      rw [e1]
      refine ⟨rfl, fun j hj => ?_⟩
      have hj0 : j = 0 := by omega
      subst hj0
      have e2 : (byteCells ⟨(b :: r).toArray⟩).getD (i * 1 + 0) undef = Value.int .u8 ((b :: r)[i]).toNat := by
        simp only [byteCells, Nat.mul_one, Nat.add_zero, List.getD_eq_getElem?_getD, List.getElem?_map, List.getElem?_eq_getElem hi, Option.map_some, Option.getD_some]
      rw [e2]
      exact ⟨rfl, .int _ _⟩

theorem run_append_room' (w : World) (t ty e e' : TypeId) (i : TypeInfo) (ht : P.underlying t = some (.slice e)) (hi : P.info? e = some i)
    (g sLen sCap : Nat) (cur : Array Value) (hg : w.heap[g]? = some (.cells cur e' (0, 0)))
    (a : Addr) (m c : Nat) (news : List Value) (hl : news.length = m * i.size) (hnews : ∀ j u, news[j]? = some u → w.cell? (a.add j) = some u) (h1 : ∀ u ∈ news, u.oneCell' = true)
    (hroom : sLen + m ≤ sCap) (hfit : sLen * i.size + news.length ≤ cur.size) :
    (Builtin.append_ #[t, t] ty #[.slice (some ⟨g, 0, none⟩) sLen sCap, .slice (some a) m c]).run P w =
      .ok (.slice (some ⟨g, 0, none⟩) (sLen + m) sCap) (w.setRow g (cur.toList.take (sLen * i.size) ++ news ++ cur.toList.drop (sLen * i.size + news.length)).toArray) := by
  have hf := run_firstCells_some (P := P) w i.size m a m c news hl hnews
  have hst := run_storeCells_at P g (sLen * i.size) e' news 0 cur w hg (by simpa using hfit) h1
  simp only [Nat.add_zero] at hst
  simp [Builtin.append_, run_underlying ht, sizeOf, typeInfo, hi, Builtin.lenOf, hroom, hf, Addr.add_lit, hst]

/-- Behind an append: the row that the slice has. -/
structure Appended (P : Program) (t ty : TypeId) (k : Nat) (Γ : Ctx) (b0 : Option Nat) (lo n : Nat) (S X : Value) (L M : List Value) (len : Nat) : Prop where
  run : ∃ (w' : World) (g cap : Nat) (arr : Array Value) (e : TypeId), (Builtin.append_ #[t, t] ty #[S, X]).run P Γ.w = .ok (.slice (some (at0 g 0)) len cap) w' ∧
    w'.heap[g]? = some (.cells arr e (0, 0)) ∧ arr.size = cap * k ∧ len ≤ cap ∧ (∃ rest, arr.toList = L ++ M ++ rest) ∧
    Γ.w.heap.size ≤ w'.heap.size ∧ w'.os = Γ.w.os ∧ w'.tape = Γ.w.tape ∧ w'.output = Γ.w.output ∧
    (∀ b, b < Γ.w.heap.size → b ≠ g → w'.heap[b]? = Γ.w.heap[b]?) ∧ (Γ.w.heap.size = g ∨ (b0 = some g ∧ ∀ c, c < L.length → w'.cell? (at0 g c) = Γ.w.cell? (at0 g c)))

theorem append_grow' (w : World) (t ty e : TypeId) (i : TypeInfo) (z : Value) (ht : P.underlying t = some (.slice e)) (hi : P.info? e = some i) (hz : i.zero = some z) (hzs : z.cells.size = i.size) (hsz : 0 < i.size)
    (ad : Option Addr) (n cap : Nat) (olds : List Value) (hlo : olds.length = n * i.size) (hold : n ≠ 0 → ∃ b, ad = some b ∧ ∀ j v, olds[j]? = some v → w.cell? (b.add j) = some v) (hnil : ad = none → cap = 0)
    (a : Addr) (m c : Nat) (news : List Value) (hl : news.length = m * i.size) (hnews : ∀ j v, news[j]? = some v → w.cell? (a.add j) = some v)
    (hg : cap < n + m) (hm : 0 < m) (hb : (n + m) * i.bytes ≤ limit) (hb0 : 0 < i.bytes) :
    ∃ cap', n + m ≤ cap' ∧ (Builtin.append_ #[t, t] ty #[.slice ad n cap, .slice (some a) m c]).run P w =
      .ok (.slice (some ⟨w.heap.size, 0, none⟩) (n + m) cap') (w.drew.alloc (.cells (olds.toArray ++ news.toArray ++ Builtin.zeroCells z.cells (cap' - (n + m))) e)) := by
  have hb' : (n + m) * i.bytes ≤ 140737488355328 := hb
  have hle : n + m ≤ 140737488355328 := Nat.le_trans (Nat.le_mul_of_pos_right _ hb0) hb'
  cases ad with
  | none =>
    obtain rfl := hnil rfl
    have hn0 : n = 0 := by
      rcases Nat.eq_zero_or_pos n with h | h
      · exact h
      · obtain ⟨b, hb, _⟩ := hold (by omega); cases hb
    subst hn0
    obtain rfl := List.eq_nil_of_length_eq_zero (by simpa using hlo)
    simp only [Nat.zero_add] at hb' hle ⊢
    refine ⟨grownCap w m 0 e, grownCap_ge w m 0 e, ?_⟩
    have := run_append_nil (P := P) w t ty e i z ht hi hz a m c news hl hnews hm (by omega) (by omega)
    rw [this]
    simp
  | some b =>
    have holds : ∀ j v, olds[j]? = some v → w.cell? (b.add j) = some v := by
      rcases Nat.eq_zero_or_pos n with h | h
      · subst h
        obtain rfl := List.eq_nil_of_length_eq_zero (by simpa using hlo)
        intro j v hv; simp at hv
      · obtain ⟨b', hb, h2⟩ := hold (by omega)
        obtain rfl := Option.some.inj hb
        exact h2
    exact ⟨grownCap w (n + m) cap e, grownCap_ge w (n + m) cap e, run_append_grow (P := P) w t ty e i z ht hi hz b n cap olds hlo holds a m c news hl hnews hg (by omega) (growslice_fits hg hb')⟩
end
end Go.Am

set_option linter.unusedVariables false
set_option linter.unusedSimpArgs false
namespace Go.Am
open Go

/-- The state behind an operation. -/
def ASt.app (σ : ASt) (id : Nat) : Eff → ASt
  | .pure => σ
  | .new b => σ.put id b
  | .upd σ' => σ'

section
variable {P : Program} {cfg : Cfg} {σ : ASt} {id : Nat} {ts : List AV} {o : Oper} {v : AV} {Γ : Ctx} {a : Act}

theorem getD_prefix (arr : Array Value) (L rest : List Value) (h : arr.toList = L ++ rest) (c : Nat) (hc : c < L.length) : arr.getD c undef = L.getD c undef := by
  have e : arr.getD c undef = arr.toList.getD c undef := by simp only [List.getD_eq_getElem?_getD, Array.getD_eq_getD_getElem?, Array.getElem?_toList]
  rw [e, h]
  simp [List.getD, List.getElem?_append, hc]

theorem rowfacts {k : Nat} {xs : List AV} {L : List Value} (h : ListR Γ k xs L) (arr : Array Value) (rest : List Value) (he : arr.toList = L ++ rest) :
    ∀ a, a < xs.length → (xs.getD a .undef).cells.length = k ∧ ∀ j, j < k → (arr.getD (a * k + j) undef).oneCell' = true ∧ VR Γ ((xs.getD a .undef).cell j) (arr.getD (a * k + j) undef) := by
  intro a ha
  refine ⟨(h.2 a ha).1, fun j hj => ?_⟩
  rw [getD_prefix arr L rest he _ (by rw [h.1]; exact idx_lt ha hj)]
  exact (h.2 a ha).2 j hj

/-- Behind an append in new memory, or to a slice that has a block of its own. -/
theorem append_own {k : Nat} {xs ys : List AV} {L M : List Value} (hI : Inv Γ σ) (h : Fresh Γ σ id) (hk : 0 < k) (hL : ListR Γ k xs L) (hM : ListR Γ k ys M) (hne : ys ≠ [])
    (w' : World) (arr : Array Value) {ty : Option TypeId} {e : TypeId} (hty : tyOf ty e = e) (cap : Nat) (rest : List Value) (harr : arr.toList = L ++ M ++ rest) (hsz : arr.size = cap * k) (hcap : xs.length + ys.length ≤ cap)
    (g : Nat) (hg : w'.heap[g]? = some (.cells arr e (0, 0))) (hsize : Γ.w.heap.size ≤ w'.heap.size) (ho : w'.os = Γ.w.os) (ht : w'.tape = Γ.w.tape) (hp : w'.output = Γ.w.output)
    (hoth : ∀ b, b < Γ.w.heap.size → b ≠ g → w'.heap[b]? = Γ.w.heap[b]?)
    (σ1 : ASt)
    (hg' : ∀ j C, σ1.get j = some C → σ.get j = some C ∧ (Γ.ρ j).b ≠ g) (hro : ∀ j, j < σ.wp → σ1.get j = σ.get j) (hwp : σ1.wp = σ.wp) (hnx : σ1.next = σ.next)
    (hst : ∀ c, Γ.St g c → c < L.length ∧ w'.cell? (at0 g c) = Γ.w.cell? (at0 g c)) (hsto : ¬ Γ.StO g)
    (hown' : Γ.w.heap.size ≤ g ∨ ∃ id0 B0, σ.get id0 = some B0 ∧ σ.wp ≤ id0 ∧ (Γ.ρ id0).b = g) :
    (∃ Γ' : Ctx, Γ'.w = w' ∧ Step Γ σ Γ' (σ1.put id (.tok k (xs.length + ys.length) ty)) ∧ Inv Γ' (σ1.put id (.tok k (xs.length + ys.length) ty)) ∧ (∀ j, Γ'.dom j → Γ.dom j ∨ j = id) ∧
      VR Γ' (.lst (xs ++ ys) (some id)) (.slice (some (at0 g 0)) (xs.length + ys.length) cap)) ∧
    ((∀ c, ¬ Γ.St g c) → ∃ Γ' : Ctx, Γ'.w = w' ∧ Step Γ σ Γ' (σ1.put id (.row k (xs ++ ys) ty)) ∧ Inv Γ' (σ1.put id (.row k (xs ++ ys) ty)) ∧ (∀ j, Γ'.dom j → Γ.dom j ∨ j = id) ∧
      VR Γ' (.sl k id 0 (xs.length + ys.length)) (.slice (some (at0 g 0)) (xs.length + ys.length) cap)) := by
  have hLM := hL.append hM
  have hrow := rowfacts hLM arr rest harr
  have hgl : g < w'.heap.size := (Array.getElem?_eq_some_iff.1 hg).1
  have mk : ∀ (B : Blk) (S : Nat → Prop), (∀ c, B.lo ≤ c → ¬ Γ.St g c ∧ ¬ S c) → Change Γ σ w' (σ1.put id B) id ⟨g, k, cap⟩ B S := by
    intro B S hS
    exact {
      size := hsize, os := ho, tape := ht, output := hp, other := hoth, stay := fun c hc => (hst c hc).2, own := hown',
      get := by rw [ASt.get_put]; simp
      get' := fun j C hj hgj => by rw [ASt.get_put, if_neg hj] at hgj; exact hg' j C hgj
      ro := fun j hj => by rw [ASt.get_put, if_neg (by have := h.wp; omega)]; exact hro j hj
      wp := hwp
      next := by show σ.next ≤ σ1.next; omega
      idlt := by show id < σ1.next; have := h.lt; omega
      old := fun hd => absurd hd h.dom
      free := hS
      freeo := hsto
      blt := hgl }
  have hlen : (xs ++ ys).length = xs.length + ys.length := List.length_append
  have hLl : L.length = xs.length * k := hL.1
  refine ⟨?_, fun hfree => ?_⟩
  · have hc := mk (.tok k (xs.length + ys.length) ty) (fun c => c < (xs.length + ys.length) * k) (fun c hc => ⟨fun hs => by
      have := (hst c hs).1
      simp only [Blk.lo] at hc
      rw [Nat.add_mul] at hc
      omega, fun hs => by simp only [Blk.lo] at hc; omega⟩)
    have he := hc.ext hI
    refine ⟨_, rfl, hc.step hI, hc.inv hI ⟨rfl, hk, hcap, arr, e, by rw [hty]; exact hg, hsz⟩, fun j h => h, ?_⟩
    have key := VR.lst (Γ := Γ.with w' id ⟨g, k, cap⟩ fun c => c < (xs.length + ys.length) * k) (xs ++ ys) (some id) (some (at0 g 0)) g 0 k cap (fun i j => arr.getD (i * k + j) undef) (fun _ => rfl) (fun i hi => (hrow i hi).1) (fun i j hi hj => ⟨.inr ⟨rfl, ?_⟩, ?_, ((hrow i hi).2 j hj).1⟩)
      (fun i j hi hj => ((hrow i hi).2 j hj).2.ext he) (fun tk htk => ?_) (by rw [hlen]; exact hcap)
    · rw [hlen] at key; exact key
    · show 0 + (i * k + j) < (xs.length + ys.length) * k
      rw [Nat.zero_add, ← hlen]; exact idx_lt hi hj
    · have hlt : i * k + j < arr.size := by rw [hsz]; exact Nat.lt_of_lt_of_le (idx_lt hi hj) (Nat.mul_le_mul_right _ (by rw [hlen]; exact hcap))
      show w'.cell? _ = _
      simp [World.cell?, at0, hg, hlt]
    · obtain rfl := Option.some.inj htk
      exact ⟨with_id, by rw [with_ρ], by rw [with_ρ], by simp [hne], by rw [with_ρ]⟩
  · have hc := mk (.row k (xs ++ ys) ty) (fun _ => False) (fun c _ => ⟨hfree c, fun h => h⟩)
    have he := hc.ext hI
    refine ⟨_, rfl, hc.step hI, hc.inv hI ⟨rfl, by rw [hlen]; exact hcap, arr, e, by rw [hty]; exact hg, hsz, fun a ha => ⟨(hrow a ha).1, fun j hj => ⟨((hrow a ha).2 j hj).1, ((hrow a ha).2 j hj).2.ext he⟩⟩⟩, fun j h => h, ?_⟩
    have := VR.sl (Γ := Γ.with w' id ⟨g, k, cap⟩ fun _ => False) k id 0 (xs.length + ys.length) 0 cap with_id (by rw [with_ρ]) (by rw [with_ρ]; exact Nat.zero_add _) hcap (.inl (by simp))
    rw [with_ρ] at this
    exact this

theorem ok_append (hI : Inv Γ σ) (hg : GR Γ cfg) (hf : FR Γ ts a.tmps) (h : Fresh Γ σ id) (rm : Bool) (s x : Operand) (t u : TypeId) (args : Array Operand) (tys : Array TypeId) (hargs : args.toList = [s, x]) (htys : tys.toList = [t, u])
    (ho : o.op = .call { callee := .builtin .append, args := args, argTypes := tys }) (eff : Eff) (ax : AV)
    (hsrc : ∀ e ys, P.underlying t = some (.slice e) → listA σ ax = some ys → 0 < szT P e → (∀ y ∈ ys, y.cells.length = szT P e) → ∃ M, Src P (szT P e) u (a.eval x) ys.length M Γ.w ∧ ListR Γ (szT P e) ys M)
    (hA : appendA P cfg σ rm id t (aval cfg ts s) ax = some (v, eff)) :
    OpOK P o a Γ σ id v (σ.app id eff) := by
  have hS := aval_vr hg hf s
  obtain rfl : args = #[s, x] := by apply Array.ext'; simpa using hargs
  obtain rfl : tys = #[t, u] := by apply Array.ext'; simpa using htys
  generalize aval cfg ts s = as at hA hS
  generalize hse : a.eval s = S at hS
  generalize hxe : a.eval x = X at hsrc
  have run : ∀ y w', (Builtin.append_ #[t, u] o.type #[S, X]).run P Γ.w = .ok y w' → (execOp a.eval o).run P Γ.w = .ok (.value y) w' := by
    intro y w' hr
    simp only [execOp, ho, resolve, invoke, builtin, Sem.run_bind, Sem.run_pure, Result.andThen_ok, List.map_toArray, List.map_cons, List.map_nil, hse, hxe, hr]
  unfold appendA at hA
  cases he : elemT P t with
  | none => simp [he] at hA
  | some e =>
    cases hl : listA σ ax with
    | none => simp [he, hl] at hA
    | some ys =>
      simp only [he, hl] at hA
      have hu : P.underlying t = some (.slice e) := by
        unfold elemT at he
        split at he
        · rename_i e' h'; rw [← Option.some.inj he]; exact h'
        · cases he
      cases hb : (Nat.beq (P.bytesOf e) 0 || Nat.beq (szT P e) 0 || !(ys.all fun y => Nat.beq y.cells.length (szT P e)) || (zeroA P e).isNone) with
      | true => rw [hb] at hA; cases hA
      | false =>
        rw [hb] at hA
        simp only [cond] at hA
        simp only [Bool.or_eq_false_iff] at hb
        obtain ⟨⟨⟨hb1, hb2⟩, hb3⟩, hb4⟩ := hb
        have hby : 0 < P.bytesOf e := by
          rcases Nat.eq_zero_or_pos (P.bytesOf e) with h | h
          · rw [h] at hb1; cases hb1
          · exact h
        have hk : 0 < szT P e := by
          rcases Nat.eq_zero_or_pos (szT P e) with h | h
          · rw [h] at hb2; cases hb2
          · exact h
        have hall : ∀ y ∈ ys, y.cells.length = szT P e := by
          intro y hy
          have hb3' : (ys.all fun y => Nat.beq y.cells.length (szT P e)) = true := by simpa using hb3
          rw [List.all_eq_true] at hb3'
          exact Nat.eq_of_beq_eq_true (hb3' y hy)
        obtain ⟨zz, hzz⟩ : ∃ zz, zeroA P e = some zz := by
          cases hz : zeroA P e with
          | none => rw [hz] at hb4; cases hb4
          | some z => exact ⟨z, rfl⟩
        obtain ⟨Z, i, hi, hiz, _, _, hzs, _⟩ := zeroA_run hzz Γ.w
        have his : i.size = szT P e := by simp [szT, Program.cellsOf, hi]
        have hib : i.bytes = P.bytesOf e := by simp [Program.bytesOf, hi]
        obtain ⟨M, hs, hM⟩ := hsrc e ys hu hl hk hall
        have hs : Src P i.size u X ys.length M Γ.w := by rw [his]; exact hs
        have hMl : M.length = ys.length * i.size := by rw [his]; exact hM.1
        have lim : limit = 140737488355328 := rfl
        have bnd : ∀ n, n * P.bytesOf e ≤ limit → n ≤ 9223372036854775807 := fun n hn => by
          have := Nat.le_trans (Nat.le_mul_of_pos_right n hby) hn; omega
        -- growing
        have growing : ∀ (base : Option Addr) (n cap : Nat) (xs : List AV) (L : List Value), S = .slice base n cap → xs.length = n → ListR Γ (szT P e) xs L → (n ≠ 0 → ∃ b, base = some b ∧ ∀ j u, L[j]? = some u → Γ.w.cell? (b.add j) = some u) →
            (base = none → cap = 0) → ys ≠ [] → cap < n + ys.length → (n + ys.length) * P.bytesOf e ≤ limit → ∀ σ1 : ASt, (∀ j C, σ1.get j = some C → σ.get j = some C) → (∀ j, j < σ.wp → σ1.get j = σ.get j) → σ1.wp = σ.wp → σ1.next = σ.next → ∀ ty, tyOf ty e = e →
            OpOK P o a Γ σ id (.lst (xs ++ ys) (some id)) (σ1.put id (.tok (szT P e) (n + ys.length) ty)) ∧ OpOK P o a Γ σ id (.sl (szT P e) id 0 (n + ys.length)) (σ1.put id (.row (szT P e) (xs ++ ys) ty)) := by
          intro base n cap xs L hSe hn hL hold hnil hne hlt hlim σ1 hs1 hro hwp hnx ty hty
          have hy0 : 0 < ys.length := List.length_pos_iff.2 hne
          obtain ⟨cap', hc', hr⟩ := append_growS (P := P) Γ.w t u o.type e i Z hu hi hiz base n cap L (by rw [his, hL.1, hn]) hold hnil X ys.length M hs hlt hy0 (by rw [hib]; exact hlim) (by rw [hib]; exact hby)
          have hnew := heap_new (w := Γ.w) (w' := Γ.w.drew.alloc (.cells (L.toArray ++ M.toArray ++ Builtin.zeroCells Z.cells (cap' - (n + ys.length))) e)) (obj := .cells (L.toArray ++ M.toArray ++ Builtin.zeroCells Z.cells (cap' - (n + ys.length))) e) rfl
          have hsz : (L.toArray ++ M.toArray ++ Builtin.zeroCells Z.cells (cap' - (n + ys.length))).size = cap' * szT P e := by
            simp only [Array.size_append, List.size_toArray, size_zeroCells, hzs, hL.1, hM.1, hn, ← Nat.add_mul]
            congr 1; omega
          have := append_own (id := id) hI h hk hL hM hne (Γ.w.drew.alloc (.cells (L.toArray ++ M.toArray ++ Builtin.zeroCells Z.cells (cap' - (n + ys.length))) e)) (L.toArray ++ M.toArray ++ Builtin.zeroCells Z.cells (cap' - (n + ys.length))) hty cap'
            (Builtin.zeroCells Z.cells (cap' - (n + ys.length))).toList (by simp) hsz (by rw [hn]; exact hc') Γ.w.heap.size hnew (by show Γ.w.heap.size ≤ (Γ.w.heap.push _).size; simp) rfl rfl rfl
            (fun b hb _ => heap_alloc_old Γ.w.drew _ b hb) σ1 (fun j C hj => ⟨hs1 j C hj, Nat.ne_of_lt (hI.blt (hs1 j C hj))⟩) hro hwp hnx (fun c hc => absurd (hI.lt _ c hc) (Nat.lt_irrefl _)) (fun hc => absurd (hI.lto _ hc) (Nat.lt_irrefl _)) (.inl (Nat.le_refl _))
          rw [hn] at this
          obtain ⟨⟨Γ1, hw1, h1, h2, h3, h4⟩, h5⟩ := this
          obtain ⟨Γ2, hw2, g1, g2, g3, g4⟩ := h5 (fun c hc => absurd (hI.lt _ c hc) (Nat.lt_irrefl _))
          have hr' := run _ _ (by rw [hSe]; exact hr)
          exact ⟨⟨Γ1, _, _, by rw [hw1]; exact hr', .inl rfl, h4, h1, h2, h3⟩, ⟨Γ2, _, _, by rw [hw2]; exact hr', .inl rfl, g4, g1, g2, g3⟩⟩
        -- nothing appended
        have zero : ∀ (base : Option Addr) (n cap : Nat), S = .slice base n cap → n ≤ cap → ys = [] → (Builtin.append_ #[t, u] o.type #[S, X]).run P Γ.w = .ok S Γ.w := by
          intro base n cap hSe hn hy
          subst hy hSe
          obtain rfl : M = [] := List.eq_nil_of_length_eq_zero (by simpa using hMl)
          exact append_zeroS Γ.w t u o.type e i hu hi base n cap hn X hs
        -- room
        have room : ∀ (i0 g n cap : Nat) (B : Blk) (xs : List AV) (L : List Value) (cur : Array Value) (e' : TypeId), S = .slice (some (at0 g 0)) n cap → xs.length = n → ListR Γ (szT P e) xs L → σ.get i0 = some B → σ.wp ≤ i0 → (Γ.ρ i0).b = g → B.lo ≤ n * szT P e →
            Γ.w.heap[g]? = some (.cells cur e' (0, 0)) → cur.size = cap * szT P e → (∃ rest, cur.toList = L ++ rest) → ys ≠ [] → n + ys.length ≤ cap → i0 ≠ id → ∀ ty, tyOf ty e' = e' →
            OpOK P o a Γ σ id (.lst (xs ++ ys) (some id)) ((σ.del i0).put id (.tok (szT P e) (n + ys.length) ty)) ∧ (B.lo = 0 → OpOK P o a Γ σ id (.sl (szT P e) id 0 (n + ys.length)) ((σ.del i0).put id (.row (szT P e) (xs ++ ys) ty))) := by
          intro i0 g n cap B xs L cur e' hSe hn hL hi0 hw0 hg0 hlo hcur hcsz hpre hne hcap hi0n ty hty
          obtain ⟨rest, hrest⟩ := hpre
          have hLl : L.length = n * szT P e := by rw [hL.1, hn]
          have hr := append_roomS (P := P) Γ.w t u o.type e e' i hu hi g n cap cur hcur X ys.length M hs hcap (by rw [his, hM.1, ← Nat.add_mul, hcsz]; exact Nat.mul_le_mul_right _ hcap)
          rw [his] at hr
          have htake : cur.toList.take (n * szT P e) = L := by rw [hrest, ← hLl]; exact List.take_left
          rw [htake] at hr
          have hb := hI.blk i0 B hi0
          have hnew := setRow_heap Γ.w g cur (L ++ M ++ cur.toList.drop (n * szT P e + M.length)).toArray e' (0, 0) hcur
          have hsz : (L ++ M ++ cur.toList.drop (n * szT P e + M.length)).toArray.size = cap * szT P e := by
            have : (n + ys.length) * szT P e ≤ cap * szT P e := Nat.mul_le_mul_right _ hcap
            rw [Nat.add_mul] at this
            simp only [List.size_toArray, List.length_append, List.length_drop, Array.length_toList, hLl, hM.1, hcsz]
            omega
          have hfree := hI.free i0 B hi0
          rw [hg0] at hfree
          have := append_own (id := id) hI h hk hL hM hne (Γ.w.setRow g (L ++ M ++ cur.toList.drop (n * szT P e + M.length)).toArray) (L ++ M ++ cur.toList.drop (n * szT P e + M.length)).toArray hty cap
            (cur.toList.drop (n * szT P e + M.length)) (by simp) hsz (by rw [hn]; exact hcap) g hnew (by simp) rfl rfl rfl
            (fun b _ hbg => setRow_other Γ.w g b _ hbg) (σ.del i0) (fun j C hj => by
              rw [ASt.get_del] at hj
              by_cases hji : j = i0
              · rw [if_pos hji] at hj; cases hj
              · rw [if_neg hji] at hj
                exact ⟨hj, by rw [← hg0]; exact hI.inj j i0 C B hj hi0 hji⟩)
            (fun j hj => by rw [ASt.get_del, if_neg (by omega)]) rfl rfl (fun c hc => by
              have hcl : c < B.lo := by
                rcases Nat.lt_or_ge c B.lo with h | h
                · exact h
                · exact absurd hc (hfree.1 c h)
              have hcL : c < L.length := by omega
              refine ⟨hcL, ?_⟩
              have hc1 : c < cur.size := by rw [hcsz]; have : n * szT P e ≤ cap * szT P e := Nat.mul_le_mul_right _ (by omega); omega
              have hc2 : c < (L ++ M ++ cur.toList.drop (n * szT P e + M.length)).toArray.size := by rw [hsz, ← hcsz]; exact hc1
              simp only [World.cell?, at0, hnew, hcur]
              simp only [Option.isSome_none, Bool.false_eq_true, if_false]
              rw [List.getElem?_toArray, ← Array.getElem?_toList, hrest, List.append_assoc, List.getElem?_append_left hcL, List.getElem?_append_left hcL])
            hfree.2 (.inr ⟨i0, B, hi0, hw0, hg0⟩)
          rw [hn] at this
          obtain ⟨⟨Γ1, hw1, h1, h2, h3, h4⟩, h5⟩ := this
          have hr' := run _ _ (by rw [hSe]; exact hr)
          refine ⟨⟨Γ1, _, _, by rw [hw1]; exact hr', .inl rfl, h4, h1, h2, h3⟩, fun hB0 => ?_⟩
          obtain ⟨Γ2, hw2, g1, g2, g3, g4⟩ := h5 (fun c hc => hfree.1 c (by omega) hc)
          exact ⟨Γ2, _, _, by rw [hw2]; exact hr', .inl rfl, g4, g1, g2, g3⟩
        cases as with
        | nils =>
          cases hS with
          | nils ad0 =>
            simp only at hA
            by_cases hy : ys = []
            · subst hy
              simp only [Option.some.injEq, Prod.mk.injEq] at hA
              obtain ⟨rfl, rfl⟩ := hA
              exact .still hI (run _ _ (zero ad0 0 0 rfl (Nat.le_refl _) rfl)) (.nils ad0)
            · have hA' : (if ys.length * P.bytesOf e ≤ limit then cond rm (some (.sl (szT P e) id 0 ys.length, .new (.row (szT P e) ys (some e)))) (some (.lst ys (some id), .new (.tok (szT P e) ys.length (some e)))) else none : Option (AV × Eff)) = some (v, eff) := by
                cases ys with
                | nil => exact absurd rfl hy
                | cons y0 yr => exact hA
              by_cases hlim : ys.length * P.bytesOf e ≤ limit
              · rw [if_pos hlim] at hA'
                have hy0 : 0 < ys.length := List.length_pos_iff.2 hy
                have gr := growing ad0 0 0 [] [] rfl rfl ⟨by simp, fun i hi => by simp at hi⟩ (fun h => absurd rfl h) (fun _ => rfl) hy (by omega) (by rw [Nat.zero_add]; exact hlim) σ (fun _ _ h => h) (fun _ _ => rfl) rfl rfl (some e) rfl
                simp only [Nat.zero_add, List.nil_append] at gr
                cases rm with
                | false =>
                  simp only [cond, Option.some.injEq, Prod.mk.injEq] at hA'
                  obtain ⟨rfl, rfl⟩ := hA'
                  exact gr.1
                | true =>
                  simp only [cond, Option.some.injEq, Prod.mk.injEq] at hA'
                  obtain ⟨rfl, rfl⟩ := hA'
                  exact gr.2
              · rw [if_neg hlim] at hA'; cases hA'
        | lst xs tk =>
          have hS0 := hS
          cases hS with
          | lst _ _ ad0 b0 o0 k0 cap0 f ha hk0 hc0 hv0 ht hlc =>
            by_cases hy : ys = []
            · subst hy
              have : v = .lst xs tk ∧ eff = .pure := by
                cases tk <;> simp only [Option.some.injEq, Prod.mk.injEq] at hA <;> exact ⟨hA.1.symm, hA.2.symm⟩
              obtain ⟨rfl, rfl⟩ := this
              exact .still hI (run _ _ (zero ad0 xs.length cap0 rfl hlc rfl)) hS0
            · cases tk with
              | none =>
                exfalso
                cases ys with
                | nil => exact hy rfl
                | cons y0 yr => cases hA
              | some tk =>
                cases htk : σ.get tk with
                | none =>
                  exfalso
                  cases ys with
                  | nil => exact hy rfl
                  | cons y0 yr => simp [htk] at hA
                | some B =>
                  cases B with
                  | tok k' n ty =>
                    have hA' : (if k' = szT P e ∧ n = xs.length ∧ σ.wp ≤ tk ∧ (xs.length + ys.length) * P.bytesOf e ≤ limit ∧ tk ≠ id then
                        some (.lst (xs ++ ys) (some id), .upd ((σ.del tk).put id (.tok (szT P e) (xs.length + ys.length) (keepT ty e)))) else none : Option (AV × Eff)) = some (v, eff) := by
                      cases ys with
                      | nil => exact absurd rfl hy
                      | cons y0 yr => simpa only [htk] using hA
                    by_cases hcond : k' = szT P e ∧ n = xs.length ∧ σ.wp ≤ tk ∧ (xs.length + ys.length) * P.bytesOf e ≤ limit ∧ tk ≠ id
                    · rw [if_pos hcond] at hA'
                      obtain ⟨rfl, rfl, hw, hlim, htid⟩ := hcond
                      simp only [Option.some.injEq, Prod.mk.injEq] at hA'
                      obtain ⟨rfl, rfl⟩ := hA'
                      obtain ⟨hd, hade, hcape, hxne, hk0e⟩ := ht tk rfl
                      obtain ⟨_, _, hbk, hkpos, hncap, arr, e', hh, hasz⟩ := hI.blk tk _ htk
                      have hx0 : 0 < xs.length := List.length_pos_iff.2 hxne
                      -- the list's cells are the block's
                      have hb0 : b0 = (Γ.ρ tk).b ∧ o0 = 0 := by
                        have := ha hxne
                        rw [hade] at this
                        have := Option.some.inj this
                        simp only [at0, Addr.mk.injEq] at this
                        exact ⟨this.1.symm, this.2.1.symm⟩
                      obtain ⟨rfl, rfl⟩ := hb0
                      have hkk : k0 = szT P e := by rw [hk0e, hbk]
                      subst hkk
                      have hle2 : xs.length * szT P e ≤ arr.size := by rw [hasz]; exact Nat.mul_le_mul_right _ (by rw [← hcape]; exact hlc)
                      have hLr : ListR Γ (szT P e) xs (arr.toList.take (xs.length * szT P e)) := by
                        refine ⟨by simp; omega, fun i hi => ⟨hk0 i hi, fun j hj => ?_⟩⟩
                        have hlt := idx_lt hi hj
                        have hc := hc0 i j hi hj
                        have e1 : (arr.toList.take (xs.length * szT P e)).getD (i * szT P e + j) undef = f i j := by
                          have h2 := hc.2.1
                          simp only [World.cell?, at0, hh, Nat.zero_add, Option.isSome_none, Bool.false_eq_true, if_false] at h2
                          simp only [List.getD_eq_getElem?_getD, List.getElem?_take, if_pos hlt, Array.getElem?_toList, h2, Option.getD_some]
                        rw [e1]
                        exact ⟨hc.2.2, hv0 i j hi hj⟩
                      by_cases hroom : xs.length + ys.length ≤ cap0
                      · exact (room tk (Γ.ρ tk).b xs.length cap0 (.tok (szT P e) xs.length ty) xs _ arr _ (by rw [hade]) rfl hLr htk hw rfl (Nat.le_refl _) hh (by rw [hasz, hcape]) ⟨_, (List.take_append_drop _ _).symm⟩ hy hroom htid _ (keepT_eq ty e e')).1
                      · refine (growing ad0 xs.length cap0 xs _ rfl rfl hLr (fun _ => ⟨_, hade, fun j u hu => ?_⟩) (fun h => by rw [hade] at h; cases h) hy (by omega) hlim (σ.del tk) (fun j C hj => ?_) (fun j hj => ?_) rfl rfl _ (keepT_new ty e)).1
                        · rw [at0_add, Nat.zero_add]
                          rw [List.getElem?_take] at hu
                          split at hu
                          · rw [Array.getElem?_toList] at hu
                            simp only [World.cell?, at0, hh, Option.isSome_none, Bool.false_eq_true, if_false, hu]
                          · cases hu
                        · rw [ASt.get_del] at hj
                          split at hj
                          · cases hj
                          · exact hj
                        · rw [ASt.get_del, if_neg (by omega)]
                    · rw [if_neg hcond] at hA'; cases hA'
                  | _ =>
                    exfalso
                    cases ys with
                    | nil => exact hy rfl
                    | cons y0 yr => simp [htk] at hA
        | sl k1 i0 lo n =>
          have hS0 := hS
          cases hS with
          | sl _ _ _ _ off cap0 hd hρk hcap0 hn hoff =>
            by_cases hy : ys = []
            · subst hy
              simp only [Option.some.injEq, Prod.mk.injEq] at hA
              obtain ⟨rfl, rfl⟩ := hA
              exact .still hI (run _ _ (zero _ n cap0 rfl hn rfl)) hS0
            · cases hi0 : σ.get i0 with
              | none =>
                exfalso
                cases ys with
                | nil => exact hy rfl
                | cons y0 yr => simp [hi0] at hA
              | some B =>
                cases B with
                | row k2 zs ty =>
                  have hA' : (if k1 = szT P e ∧ k2 = szT P e ∧ lo = 0 ∧ n ≤ zs.length ∧ σ.wp ≤ i0 ∧ (n + ys.length) * P.bytesOf e ≤ limit ∧ i0 ≠ id then
                      some (.sl (szT P e) id 0 (n + ys.length), .upd ((σ.del i0).put id (.row (szT P e) (zs.take n ++ ys) (keepT ty e)))) else none : Option (AV × Eff)) = some (v, eff) := by
                    cases ys with
                    | nil => exact absurd rfl hy
                    | cons y0 yr => simpa only [hi0] using hA
                  by_cases hcond : k1 = szT P e ∧ k2 = szT P e ∧ lo = 0 ∧ n ≤ zs.length ∧ σ.wp ≤ i0 ∧ (n + ys.length) * P.bytesOf e ≤ limit ∧ i0 ≠ id
                  · rw [if_pos hcond] at hA'
                    obtain ⟨hk1, hk2, rfl, hnz, hw, hlim, hii⟩ := hcond
                    subst hk1 hk2
                    simp only [Option.some.injEq, Prod.mk.injEq] at hA'
                    obtain ⟨rfl, rfl⟩ := hA'
                    obtain ⟨_, _, hbk, hzc, arr, e', hh, hasz, hrow⟩ := hI.blk i0 _ hi0
                    have hcap1 : cap0 = (Γ.ρ i0).cap := by omega
                    have hlen : (zs.take n).length = n := by simp; omega
                    have hle2 : n * szT P e ≤ arr.size := by rw [hasz]; exact Nat.mul_le_mul_right _ (by omega)
                    have hLr : ListR Γ (szT P e) (zs.take n) (arr.toList.take (n * szT P e)) := by
                      refine ⟨by rw [hlen]; simp; omega, fun i hi => ?_⟩
                      rw [hlen] at hi
                      have e0 : (zs.take n).getD i .undef = zs.getD i .undef := by simp [List.getD, List.getElem?_take, hi]
                      rw [e0]
                      refine ⟨(hrow i (by omega)).1, fun j hj => ?_⟩
                      have hlt := idx_lt hi hj
                      have e1 : (arr.toList.take (n * szT P e)).getD (i * szT P e + j) undef = arr.getD (i * szT P e + j) undef := by
                        simp only [List.getD_eq_getElem?_getD, List.getElem?_take, if_pos hlt, Array.getElem?_toList, Array.getD_eq_getD_getElem?]
                      rw [e1]
                      exact (hrow i (by omega)).2 j hj
                    have hy0 : 0 < ys.length := List.length_pos_iff.2 hy
                    by_cases hroom : n + ys.length ≤ cap0
                    · have hoff0 : off = 0 := by
                        rcases hoff with h | h
                        · simpa using h
                        · omega
                      subst hoff0
                      exact (room i0 (Γ.ρ i0).b n cap0 (.row (szT P e) zs ty) (zs.take n) _ arr _ rfl hlen hLr hi0 hw rfl (Nat.zero_le _) hh (by rw [hasz, hcap1]) ⟨_, (List.take_append_drop _ _).symm⟩ hy hroom hii _ (keepT_eq ty e e')).2 rfl
                    · refine (growing (some (at0 (Γ.ρ i0).b off)) n cap0 (zs.take n) _ rfl hlen hLr (fun hn0 => ⟨_, rfl, fun j u hu => ?_⟩) (fun h => by cases h) hy (by omega) hlim (σ.del i0) (fun j C hj => ?_) (fun j hj => ?_) rfl rfl _ (keepT_new ty e)).2
                      · have hoff0 : off = 0 := by
                          rcases hoff with h | h
                          · simpa using h
                          · omega
                        subst hoff0
                        rw [at0_add, Nat.zero_add]
                        rw [List.getElem?_take] at hu
                        split at hu
                        · rw [Array.getElem?_toList] at hu
                          simp only [World.cell?, at0, hh, Option.isSome_none, Bool.false_eq_true, if_false, hu]
                        · cases hu
                      · rw [ASt.get_del] at hj
                        split at hj
                        · cases hj
                        · exact hj
                      · rw [ASt.get_del, if_neg (by omega)]
                  · rw [if_neg hcond] at hA'; cases hA'
                | _ =>
                  exfalso
                  cases ys with
                  | nil => exact hy rfl
                  | cons y0 yr => simp [hi0] at hA
        | _ => simp at hA
end
end Go.Am

set_option linter.unusedVariables false
set_option linter.unusedSimpArgs false
namespace Go.Am
open Go

section
variable {P : Program} {cfg : Cfg} {σ : ASt} {id : Nat} {ts : List AV} {o : Oper} {v : AV} {Γ : Ctx} {a : Act}

theorem elems_run {k : Nat} : ∀ (ps : List (Nat × AV)) (Ps : List (Nat × Value)) (i0 : Nat) (xs : List AV) (arr : Array Value), elemsA k i0 ps = some xs →
    Ps.length = ps.length → (∀ i, i < ps.length → (Ps.getD i (0, undef)).1 = (ps.getD i (0, .undef)).1 ∧ VR Γ (ps.getD i (0, .undef)).2 (Ps.getD i (0, undef)).2) → (i0 + ps.length) * k ≤ arr.size →
    ∃ arr', Instr.fill (fun i => some (i * k, k)) arr Ps = some arr' ∧ arr'.size = arr.size ∧ (∀ c, c < i0 * k → arr'.getD c undef = arr.getD c undef) ∧ xs.length = ps.length ∧
      ∀ i, i < xs.length → (xs.getD i .undef).cells.length = k ∧ ∀ j, j < k → (arr'.getD ((i0 + i) * k + j) undef).oneCell' = true ∧ VR Γ ((xs.getD i .undef).cell j) (arr'.getD ((i0 + i) * k + j) undef)
  | [], Ps, i0, xs, arr, h, hl, _, _ => by
    obtain rfl := List.eq_nil_of_length_eq_zero (by simpa using hl)
    obtain rfl := Option.some.inj h
    exact ⟨arr, rfl, rfl, fun _ _ => rfl, rfl, fun i hi => by simp at hi⟩
  | (m, v) :: r, Ps, i0, xs, arr, h, hl, hp, hsz => by
    cases Ps with
    | nil => simp at hl
    | cons Q R =>
      obtain ⟨m', V⟩ := Q
      have h0 := hp 0 (by simp)
      simp only [List.getD_cons_zero] at h0
      obtain ⟨rfl, hv⟩ := h0
      simp only [elemsA] at h
      cases hb : (Nat.beq i0 m' && v.storable && Nat.beq v.cells.length k) with
      | false => rw [hb] at h; cases h
      | true =>
        rw [hb] at h
        simp only [cond] at h
        simp only [Bool.and_eq_true] at hb
        obtain ⟨⟨hm, hs⟩, hk⟩ := hb
        obtain rfl := Nat.eq_of_beq_eq_true hm
        obtain rfl := Nat.eq_of_beq_eq_true hk
        cases hr : elemsA v.cells.length (i0 + 1) r with
        | none => rw [hr] at h; cases h
        | some ys =>
          rw [hr] at h
          obtain rfl := Option.some.inj h
          obtain ⟨c1, c2⟩ := hv.cells hs
          have hfit : i0 * v.cells.length + V.cells.size ≤ arr.size := by
            rw [c1]
            have : (i0 + 1) * v.cells.length ≤ (i0 + (r.length + 1)) * v.cells.length := Nat.mul_le_mul_right _ (by omega)
            rw [Nat.succ_mul] at this
            simp only [List.length_cons] at hsz
            omega
          have hsp := splice_list (i0 * v.cells.length) V.cells.toList 0 arr (by simpa using hfit)
          have e : V.cells.zipIdx.foldl (fun cs (c, j) => cs.setIfInBounds (i0 * v.cells.length + j) c) arr = (V.cells.toList.zipIdx 0).foldl (fun cs (p : Value × Nat) => cs.setIfInBounds (i0 * v.cells.length + p.2) p.1) arr := by
            rw [← Array.foldl_toList, Array.toList_zipIdx]
          generalize hA : (V.cells.toList.zipIdx 0).foldl (fun cs (p : Value × Nat) => cs.setIfInBounds (i0 * v.cells.length + p.2) p.1) arr = A at hsp e
          obtain ⟨s1, s2⟩ := hsp
          obtain ⟨arr', f1, f2, f3, f4, f5⟩ := elems_run r R (i0 + 1) ys A hr (by simpa using hl) (fun i hi => by have := hp (i + 1) (by simpa using hi); simpa using this) (by rw [s1]; simp only [List.length_cons] at hsz; rw [show i0 + 1 + r.length = i0 + (r.length + 1) by omega]; exact hsz)
          refine ⟨arr', ?_, by rw [f2, s1], fun c hc => ?_, by simp [f4], fun i hi => ?_⟩
          · simp only [Instr.fill]
            rw [if_neg (by simp [c1]; omega), e]
            exact f1
          · rw [f3 c (by rw [Nat.succ_mul]; omega), s2 c, if_neg (by omega)]
          · cases i with
            | zero =>
              refine ⟨rfl, fun j hj => ?_⟩
              simp only [List.getD_cons_zero, Nat.add_zero]
              rw [f3 _ (by rw [Nat.succ_mul]; omega), s2, if_pos (by simp [c1]; omega)]
              have e2 : V.cells.toList.getD (i0 * v.cells.length + j - (i0 * v.cells.length + 0)) undef = V.cells.getD j undef := by
                rw [show i0 * v.cells.length + j - (i0 * v.cells.length + 0) = j by omega, getD_toList]
              rw [e2]
              exact c2 j hj
            | succ i =>
              have := f5 i (by simpa using hi)
              simp only [List.getD_cons_succ]
              rw [show i0 + (i + 1) = i0 + 1 + i by omega]
              exact this

theorem ok_buildSlice (hI : Inv Γ σ) (hg : GR Γ cfg) (hf : FR Γ ts a.tmps) (h : Fresh Γ σ id) (t e : TypeId) (len : Nat) (parts : Array (Nat × Operand)) (ho : o.op = .buildSlice t len parts) (he : elemT P t = some e)
    (hlim : len * szT P e ≤ 16777216) (hk : 0 < szT P e) (xs : List AV) (hxs : elemsA (szT P e) 0 (parts.toList.map fun p => (p.1, aval cfg ts p.2)) = some xs) (hlen : xs.length = len) (z : AV) (hz : zeroA P e = some z) :
    (len = 0 → OpOK P o a Γ σ id .nils σ) ∧
    (0 < len → OpOK P o a Γ σ id (.lst xs (some id)) (σ.put id (.tok (szT P e) len none)) ∧ OpOK P o a Γ σ id (.sl (szT P e) id 0 len) (σ.put id (.row (szT P e) xs none))) := by
  have hu : P.underlying t = some (.slice e) := by
    unfold elemT at he
    split at he
    · rename_i e' h'; rw [← Option.some.inj he]; exact h'
    · cases he
  obtain ⟨Z, i, hi, hiz, hzr, _, hzs, _⟩ := zeroA_run hz Γ.w
  obtain ⟨hp1, hp2⟩ := parts_vr hg hf parts
  have fin : ∀ (w : World) (arr' : Array Value) (zero : Array Value), (len * szT P e = 0 ∧ zero = #[]) ∨ (len * szT P e ≠ 0 ∧ zero = Z.cells) →
      Instr.fill (fun i => some (i * szT P e, szT P e)) ((Array.range (len * szT P e)).map (zero[· % zero.size]!)) ((parts.map fun (i, x) => (i, a.eval x)).toList) = some arr' →
      (execOp a.eval o).run P Γ.w = .ok (.value (.slice (some (at0 Γ.w.heap.size 0)) len len)) (Γ.w.alloc (.cells arr' e)) := by
    intro w arr' zero hzero hfill
    rcases hzero with ⟨h0, rfl⟩ | ⟨h0, rfl⟩
    · simp only [execOp, ho, Instr.buildSlice, Sem.run_bind, run_underlying hu, Result.andThen_ok, sz_run (Nat.ne_of_gt hk) Γ.w]
      rw [if_neg (by omega)]
      simp only [h0] at hfill
      simp only [h0, if_true, Sem.run_bind, Sem.run_pure, Result.andThen_ok, hfill, newRow, run_newObj]
      rfl
    · simp only [execOp, ho, Instr.buildSlice, Sem.run_bind, run_underlying hu, Result.andThen_ok, sz_run (Nat.ne_of_gt hk) Γ.w]
      rw [if_neg (by omega)]
      simp only [h0, if_false, Sem.run_bind, Sem.run_pure, Result.andThen_ok, hzr, hfill, newRow, run_newObj]
      rfl
  have mk : ∀ zero : Array Value, ∃ arr', Instr.fill (fun i => some (i * szT P e, szT P e)) ((Array.range (len * szT P e)).map (zero[· % zero.size]!)) ((parts.map fun (i, x) => (i, a.eval x)).toList) = some arr' ∧
      arr'.size = len * szT P e ∧ ∀ i, i < xs.length → (xs.getD i .undef).cells.length = szT P e ∧ ∀ j, j < szT P e → (arr'.getD (i * szT P e + j) undef).oneCell' = true ∧ VR Γ ((xs.getD i .undef).cell j) (arr'.getD (i * szT P e + j) undef) := by
    intro zero
    have hps : (parts.toList.map fun p => (p.1, aval cfg ts p.2)).length = len := by
      rw [← hlen]
      have : ∀ (ps : List (Nat × AV)) (i0 : Nat) (xs : List AV), elemsA (szT P e) i0 ps = some xs → xs.length = ps.length := by
        intro ps
        induction ps with
        | nil => intro i0 xs h; obtain rfl := Option.some.inj h; rfl
        | cons p r ih =>
          intro i0 xs h
          obtain ⟨m, v⟩ := p
          simp only [elemsA] at h
          cases hb : (Nat.beq i0 m && v.storable && Nat.beq v.cells.length (szT P e)) with
          | false => rw [hb] at h; cases h
          | true =>
            rw [hb] at h
            simp only [cond] at h
            cases hr : elemsA (szT P e) (i0 + 1) r with
            | none => rw [hr] at h; cases h
            | some ys =>
              rw [hr] at h
              obtain rfl := Option.some.inj h
              simp [ih _ _ hr]
      exact (this _ _ _ hxs).symm
    obtain ⟨arr', f1, f2, _, _, f5⟩ := elems_run (Γ := Γ) _ _ 0 xs ((Array.range (len * szT P e)).map (zero[· % zero.size]!)) hxs hp1 hp2 (by rw [hps]; simp)
    refine ⟨arr', f1, by rw [f2]; simp, fun i hi => ?_⟩
    have := f5 i hi
    simpa only [Nat.zero_add] using this
  refine ⟨fun hl0 => ?_, fun hl0 => ?_⟩
  · subst hl0
    obtain ⟨arr', f1, f2, f5⟩ := mk #[]
    have hr := fin Γ.w arr' #[] (.inl ⟨by simp, rfl⟩) f1
    obtain ⟨g1, g2⟩ := grow hI (Γ.w.alloc (.cells arr' e)) (by show _ ≤ (Γ.w.heap.push _).size; simp) rfl rfl rfl (fun b hb => heap_alloc_old Γ.w _ b hb)
    exact ⟨_, _, _, hr, .inl rfl, .nils _, g1, g2, fun j h => .inl h⟩
  · obtain ⟨arr', f1, f2, f5⟩ := mk Z.cells
    have hr := fin Γ.w arr' Z.cells (.inr ⟨Nat.mul_ne_zero (by omega) (by omega), rfl⟩) f1
    have hne : xs ≠ [] := by rintro rfl; simp at hlen; omega
    obtain ⟨Γ1, hw1, l1, l2, l3, l4⟩ := new_list (ty := none) (e := e) rfl hI h (Γ.w.alloc (.cells arr' e)) arr' (szT P e) len xs rfl rfl rfl rfl f2 hk (by omega) hne f5
    obtain ⟨r1, r2⟩ := new_row (ty := none) (e := e) rfl hI h (Γ.w.alloc (.cells arr' e)) arr' (szT P e) len xs rfl rfl rfl rfl f2 (by omega) f5
    rw [hlen] at l1 l2 l4
    refine ⟨⟨Γ1, _, _, by rw [hw1]; exact hr, .inl rfl, l4, l1, l2, l3⟩, ⟨_, _, _, hr, .inl rfl, ?_, r1, r2, fun j h => h⟩⟩
    have := VR.sl (Γ := Γ.with (Γ.w.alloc (.cells arr' e)) id ⟨Γ.w.heap.size, szT P e, len⟩ fun _ => False) (szT P e) id 0 len 0 len with_id (by rw [with_ρ]) (by rw [with_ρ]; exact Nat.zero_add _) (Nat.le_refl _) (.inl (by simp))
    rw [with_ρ] at this
    exact this

theorem ok_makeSlice (hI : Inv Γ σ) (hg : GR Γ cfg) (hf : FR Γ ts a.tmps) (h : Fresh Γ σ id) (t e : TypeId) (l c : Operand) (ho : o.op = .makeSlice t l c) (he : elemT P t = some e) (n : Int)
    (hl : aval cfg ts l = .int .i64 n) (hc : aval cfg ts c = .int .i64 n) (h0 : 0 ≤ n) (hlim : n.toNat * P.bytesOf e ≤ limit) (hby : 0 < P.bytesOf e) (hk : 0 < szT P e) (z : AV) (hz : zeroA P e = some z) :
    (n.toNat = 0 → OpOK P o a Γ σ id .nils σ) ∧ (0 < n.toNat → OpOK P o a Γ σ id (.sl (szT P e) id 0 n.toNat) (σ.put id (.row (szT P e) (List.replicate n.toNat z) none))) := by
  have hu : P.underlying t = some (.slice e) := by
    unfold elemT at he
    split at he
    · rename_i e' h'; rw [← Option.some.inj he]; exact h'
    · cases he
  obtain ⟨Z, i, hi, hiz, hzr, hze, hzs, hz1⟩ := zeroA_run hz Γ.w
  have hL := aval_vr hg hf l
  have hC := aval_vr hg hf c
  rw [hl] at hL
  rw [hc] at hC
  have hlv := hL.int_inv
  have hcv := hC.int_inv
  have hib : i.bytes = P.bytesOf e := by simp [Program.bytesOf, hi]
  obtain ⟨m, rfl⟩ := Int.eq_ofNat_of_zero_le h0
  simp only [Int.toNat_natCast] at hlim ⊢
  have hlim' : m * P.bytesOf e ≤ 140737488355328 := hlim
  have hm : m ≤ 140737488355328 := Nat.le_trans (Nat.le_mul_of_pos_right _ hby) hlim'
  have hw : IntKind.i64.wrap (m : Int) = m := IntWalk.i64_in _ ⟨by omega, by omega⟩
  have run : ∀ (zero : Array Value), (m * szT P e = 0 ∧ zero = #[]) ∨ (m * szT P e ≠ 0 ∧ zero = Z.cells) →
      (execOp a.eval o).run P Γ.w = .ok (.value (.slice (some (at0 Γ.w.heap.size 0)) m m)) (Γ.w.alloc (.cells ((Array.range (m * szT P e)).map (zero[· % zero.size]!)) e)) := by
    intro zero hzero
    have hbig : (decide ((m : Int) < 0) || decide ((P.bytesOf e : Int) * (m : Int) > 2 ^ 48)) = false := by
      have e1 : (P.bytesOf e : Int) * (m : Int) = ((m * P.bytesOf e : Nat) : Int) := by rw [Int.natCast_mul, Int.mul_comm]
      rw [e1]
      simp
      omega
    have htb : (typeInfo e).run P Γ.w = .ok i Γ.w := by simp [typeInfo, hi]
    simp only [execOp, ho, hlv, hcv, Instr.makeSlice, asInt, asIntOf, Sem.run_bind, Sem.run_pure, run_underlying hu, Result.andThen_ok, htb, hib, hw, Int.toNat_natCast]
    have hcond : (decide ((m : Int) < 0) || decide ((P.bytesOf e : Int) * (m : Int) > 2 ^ 48) || decide ((m : Int) < 0) || decide ((m : Int) > (m : Int))) = false := by
      rw [hbig]; simp
    rw [if_neg (by rw [hcond]; simp)]
    rcases hzero with ⟨h0, rfl⟩ | ⟨h0, rfl⟩
    · simp only [Sem.run_bind, run_askRoom, Result.andThen_ok, sz_run (Nat.ne_of_gt hk) Γ.w, h0, if_true, Sem.run_pure, newRow, run_newObj]
      rfl
    · simp only [Sem.run_bind, run_askRoom, Result.andThen_ok, sz_run (Nat.ne_of_gt hk) Γ.w, h0, if_false, hzr, Sem.run_pure, newRow, run_newObj]
      rfl
  refine ⟨fun hm0 => ?_, fun hm0 => ?_⟩
  · subst hm0
    have hr := run #[] (.inl ⟨by simp, rfl⟩)
    obtain ⟨g1, g2⟩ := grow hI (Γ.w.alloc (.cells ((Array.range (0 * szT P e)).map ((#[] : Array Value)[· % (#[] : Array Value).size]!)) e)) (by show _ ≤ (Γ.w.heap.push _).size; simp) rfl rfl rfl (fun b hb => heap_alloc_old Γ.w _ b hb)
    exact ⟨_, _, _, hr, .inl rfl, .nils _, g1, g2, fun j h => .inl h⟩
  · have hr := run Z.cells (.inr ⟨Nat.mul_ne_zero (by omega) (by omega), rfl⟩)
    obtain ⟨z1, z2⟩ := ofVal_cells Γ Z hz1
    rw [← hze] at z1 z2
    obtain ⟨r1, r2⟩ := new_row (ty := none) (e := e) rfl hI h (Γ.w.alloc (.cells ((Array.range (m * szT P e)).map (Z.cells[· % Z.cells.size]!)) e)) ((Array.range (m * szT P e)).map (Z.cells[· % Z.cells.size]!)) (szT P e) m (List.replicate m z) rfl rfl rfl rfl (by simp) (by simp)
      (fun i hi => by
        have hi' : i < m := by simpa using hi
        have e1 : (List.replicate m z).getD i .undef = z := by simp [List.getD, hi']
        rw [e1]
        refine ⟨by rw [z1, hzs], fun j hj => ?_⟩
        have hlt := idx_lt hi' hj
        have e2 : ((Array.range (m * szT P e)).map (Z.cells[· % Z.cells.size]!)).getD (i * szT P e + j) undef = Z.cells.getD j undef := by
          have hj' : j < Z.cells.size := by omega
          have hmod : (i * szT P e + j) % Z.cells.size = j := by rw [hzs, Nat.add_comm, Nat.add_mul_mod_self_right, Nat.mod_eq_of_lt hj]
          simp [Array.getD_eq_getD_getElem?, hlt, hmod, hj']
        rw [e2]
        have hj' : j < Z.cells.size := by omega
        refine ⟨?_, z2 j (by omega)⟩
        have : Z.cells.getD j undef = Z.cells[j] := by simp [Array.getD, hj']
        rw [this]; exact hz1 _ (by simp))
    refine ⟨_, _, _, hr, .inl rfl, ?_, r1, r2, fun j h => h⟩
    have := VR.sl (Γ := Γ.with (Γ.w.alloc (.cells ((Array.range (m * szT P e)).map (Z.cells[· % Z.cells.size]!)) e)) id ⟨Γ.w.heap.size, szT P e, m⟩ fun _ => False) (szT P e) id 0 m 0 m with_id (by rw [with_ρ]) (by rw [with_ρ]; exact Nat.zero_add _) (Nat.le_refl _) (.inl (by simp))
    rw [with_ρ] at this
    exact this
end
end Go.Am

set_option linter.unusedVariables false
set_option linter.unusedSimpArgs false
namespace Go.Am
open Go

section
variable {P : Program} {cfg : Cfg} {σ : ASt} {id : Nat} {ts : List AV} {o : Oper} {v : AV} {Γ : Ctx} {a : Act}

/-- A block that changes in its place. -/
theorem change_here (hI : Inv Γ σ) {i : Nat} {B0 B : Blk} (hi : σ.get i = some B0) (hw : σ.wp ≤ i) (w' : World) (hsz : w'.heap.size = Γ.w.heap.size) (ho : w'.os = Γ.w.os) (ht : w'.tape = Γ.w.tape) (hp : w'.output = Γ.w.output)
    (hoth : ∀ b, b ≠ (Γ.ρ i).b → w'.heap[b]? = Γ.w.heap[b]?) (h0 : B0.lo = 0) : Change Γ σ w' (σ.put i B) i (Γ.ρ i) B (fun _ => False) where
  size := by omega
  os := ho
  tape := ht
  output := hp
  other := fun b _ hb => hoth b hb
  stay := fun c hc => absurd hc ((hI.free i B0 hi).1 c (by omega))
  own := .inr ⟨i, B0, hi, hw, rfl⟩
  get := by rw [ASt.get_put]; simp
  get' := fun j C hj hg => by
    rw [ASt.get_put, if_neg hj] at hg
    exact ⟨hg, hI.inj j i C B0 hg hi hj⟩
  ro := fun j hj => by rw [ASt.get_put, if_neg (by omega)]
  wp := rfl
  next := Nat.le_refl _
  idlt := (hI.blk i B0 hi).2.1
  old := fun _ => rfl
  free := fun c _ => ⟨(hI.free i B0 hi).1 c (by omega), fun h => h⟩
  freeo := (hI.free i B0 hi).2
  blt := by have := hI.blt hi; omega

theorem with_same (hI : Inv Γ σ) {i : Nat} {B0 : Blk} (hi : σ.get i = some B0) {w' : World} : (Γ.with w' i (Γ.ρ i) fun _ => False) = { Γ with w := w' } := by
  have hd := (hI.blk i B0 hi).1
  unfold Ctx.with
  congr
  · funext b c; simp
  · funext j; split
    · rename_i e; rw [e]
    · rfl
  · funext j
    apply propext
    constructor
    · rintro (h | rfl)
      · exact h
      · exact hd
    · exact .inl

theorem ok_store (hI : Inv Γ σ) (hg : GR Γ cfg) (hf : FR Γ ts a.tmps) (t : TypeId) (p x : Operand) (ho : o.op = .store t p x) (i j off k : Nat) (xs : List AV) {ty : Option TypeId} (y : AV) (hp : aval cfg ts p = .ptr i j off) (hi : σ.get i = some (.row k xs ty)) (hy : xs[j]? = some y)
    (hs : (aval cfg ts x).storable = true) (hsz : (aval cfg ts x).cells.length = szT P t) (hle : off + (aval cfg ts x).cells.length ≤ y.cells.length) (hw : σ.wp ≤ i) (hinfo : ∃ q, P.info? t = some q) (y' : AV)
    (hy' : y'.cells = y.cells.take off ++ (aval cfg ts x).cells ++ y.cells.drop (off + (aval cfg ts x).cells.length)) : OpOK P o a Γ σ id .undef (σ.put i (.row k (xs.set j y') ty)) := by
  have hP := aval_vr hg hf p
  have hX := aval_vr hg hf x
  generalize aval cfg ts x = ax at hX hs hsz hle hy'
  generalize hxe : a.eval x = X at hX
  rw [hp] at hP
  generalize hpe : a.eval p = Pv at hP
  cases hP with
  | ptr _ _ _ hd =>
    obtain ⟨_, _, hk, hcap, arr, e, hh, hasz, hrow⟩ := hI.blk i _ hi
    obtain ⟨hj, hje⟩ := List.getElem?_eq_some_iff.1 hy
    have hyd : xs.getD j .undef = y := by simp [List.getD, hy]
    obtain ⟨hyl, hyc⟩ := hrow j hj
    rw [hyd] at hyl hyc
    obtain ⟨c1, c2⟩ := hX.cells hs
    have hin : j * k + k ≤ arr.size := by
      rw [hasz]
      calc j * k + k = (j + 1) * k := by rw [Nat.succ_mul]
        _ ≤ (Γ.ρ i).cap * k := Nat.mul_le_mul_right _ (by omega)
    have h1 : ∀ u ∈ X.cells.toList, u.oneCell' = true := by
      intro u hu
      obtain ⟨n, hn, rfl⟩ := List.getElem_of_mem hu
      have hn' : n < X.cells.size := by simpa using hn
      have := (c2 n (by omega)).1
      simpa [Array.getD, hn'] using this
    have hst := run_storeCells_at P (Γ.ρ i).b (j * k + off) (tyOf ty e) X.cells.toList 0 arr Γ.w hh (by simp [c1]; omega) h1
    simp only [Nat.add_zero] at hst
    generalize harr' : (arr.toList.take (j * k + off) ++ X.cells.toList ++ arr.toList.drop (j * k + off + X.cells.toList.length)).toArray = arr' at hst
    have hc := change_here (B := .row k (xs.set j y') ty) hI hi hw (Γ.w.setRow (Γ.ρ i).b arr') (by simp) rfl rfl rfl (fun b hb => setRow_other Γ.w _ b _ hb) rfl
    have he := hc.ext hI
    have hlen' : arr'.size = arr.size := by
      rw [← harr']; simp [c1]; omega
    have hget : ∀ c, arr'.getD c undef = if j * k + off ≤ c ∧ c < j * k + off + ax.cells.length then X.cells.getD (c - (j * k + off)) undef else arr.getD c undef := by
      intro c
      rw [← harr']
      simp only [Array.getD_eq_getD_getElem?, List.getElem?_toArray, List.getElem?_append, List.length_append, List.length_take, List.getElem?_take, List.getElem?_drop, Array.length_toList, Array.getElem?_toList, c1]
      by_cases a1 : c < j * k + off
      · rw [if_pos (by omega), if_pos (by omega), if_pos a1, if_neg (by omega)]
      · by_cases a2 : c < j * k + off + ax.cells.length
        · rw [if_pos (by omega), if_neg (by omega), if_pos (by omega)]
          congr 2; omega
        · rw [if_neg (by omega), if_neg (by omega)]
          congr 2; omega
    have hB : BlkR (Γ.with (Γ.w.setRow (Γ.ρ i).b arr') i (Γ.ρ i) fun _ => False) (Γ.ρ i) (.row k (xs.set j y') ty) := by
      refine ⟨hk, by simpa using hcap, arr', e, setRow_heap Γ.w _ arr arr' (tyOf ty e) (0, 0) hh, by rw [hlen', hasz], fun q hq => ?_⟩
      have hq' : q < xs.length := by simpa using hq
      by_cases hqj : q = j
      · subst hqj
        have e1 : (xs.set q y').getD q .undef = y' := by simp [List.getD, hq']
        rw [e1]
        have hyl' : y'.cells.length = k := by rw [hy']; simp; omega
        refine ⟨hyl', fun c hc => ?_⟩
        have e2 : y'.cell c = if off ≤ c ∧ c < off + ax.cells.length then ax.cell (c - off) else y.cell c := by
          simp only [AV.cell, hy']
          simp only [List.getD_eq_getElem?_getD, List.getElem?_append, List.length_append, List.length_take, List.getElem?_take, List.getElem?_drop]
          by_cases a1 : c < off
          · rw [if_pos (by omega), if_pos (by omega), if_pos a1, if_neg (by omega)]
          · by_cases a2 : c < off + ax.cells.length
            · rw [if_pos (by omega), if_neg (by omega), if_pos (by omega)]
              congr 2; omega
            · rw [if_neg (by omega), if_neg (by omega)]
              congr 2; omega
        rw [e2, hget]
        by_cases hb : off ≤ c ∧ c < off + ax.cells.length
        · rw [if_pos hb, if_pos (by omega)]
          have := c2 (c - off) (by omega)
          rw [show q * k + c - (q * k + off) = c - off by omega]
          exact ⟨this.1, this.2.ext he⟩
        · rw [if_neg hb, if_neg (by omega)]
          have := hyc c hc
          exact ⟨this.1, this.2.ext he⟩
      · have e1 : (xs.set j y').getD q .undef = xs.getD q .undef := by
          simp only [List.getD_eq_getElem?_getD, List.getElem?_set]
          rw [if_neg (fun h => hqj h.symm)]
        rw [e1]
        obtain ⟨r1, r2⟩ := hrow q hq'
        refine ⟨r1, fun c hc => ?_⟩
        rw [hget, if_neg ?_]
        · exact ⟨(r2 c hc).1, (r2 c hc).2.ext he⟩
        · intro hb
          rcases Nat.lt_or_gt_of_ne hqj with h | h
          · have : (q + 1) * k ≤ j * k := Nat.mul_le_mul_right _ (by omega)
            rw [Nat.succ_mul] at this
            omega
          · have : (j + 1) * k ≤ q * k := Nat.mul_le_mul_right _ (by omega)
            rw [Nat.succ_mul] at this
            omega
    refine ⟨_, .skip, undef, ?_, .inr ⟨rfl, rfl⟩, .undef _, hc.step hI, hc.inv hI hB, fun q hq => hq.elim .inl fun h => .inl (by rw [h]; exact (hI.blk i _ hi).1)⟩
    obtain ⟨q, hq⟩ := hinfo
    have hszr : (sizeOf t).run P Γ.w = .ok (szT P t) Γ.w := by simp [sizeOf, typeInfo, hq, szT, Program.cellsOf]
    simp only [execOp, ho, hpe, hxe, Instr.storeAt, Instr.sureAddr, storeVar, Sem.run_bind, Sem.run_pure, Result.andThen_ok, hszr, hk]
    rw [if_neg (by rw [c1, hsz]; simp)]
    rw [hst]
    rfl
end
end Go.Am

set_option linter.unusedVariables false
set_option linter.unusedSimpArgs false
namespace Go.Am
open Go

section
variable {P : Program} {cfg : Cfg} {σ : ASt} {id : Nat} {ts : List AV} {o : Oper} {v : AV} {Γ : Ctx} {a : Act}

theorem updA_run {d : TypeDesc} {key : AV} {K : Value} (v : AV) (hK : VR Γ key K) : ∀ (ks vs : List AV) (es : List MapEntry) (i : Nat) (ks' vs' : List AV), updA d key v ks vs = some (ks', vs') →
    es.length = ks.length → vs.length = ks.length → (∀ j, j < es.length → VR Γ (ks.getD j .undef) (es.getD j default).key) →
    (Instr.findNow d K es i = some none ∧ ks' = ks ++ [key] ∧ vs' = vs ++ [v]) ∨
    (∃ j V, j < es.length ∧ Instr.findNow d K es i = some (some (i + j, V)) ∧ ks' = ks.set j key ∧ vs' = vs.set j v ∧ Instr.sameBits 10000 (es.getD j default).key K = true)
  | [], vs, es, i, ks', vs', h, hl, hl2, _ => by
    obtain rfl := List.eq_nil_of_length_eq_zero (by simpa using hl)
    obtain rfl := List.eq_nil_of_length_eq_zero (by simpa using hl2)
    obtain ⟨rfl, rfl⟩ := Prod.mk.inj (Option.some.inj h)
    exact .inl ⟨rfl, rfl, rfl⟩
  | k :: ks, vs, es, i, ks', vs', h, hl, hl2, h1 => by
    cases vs with
    | nil => cases h
    | cons u us =>
      cases es with
      | nil => simp at hl
      | cons e es =>
        have hk := h1 0 (by simp)
        simp only [List.getD_cons_zero] at hk
        simp only [updA] at h
        cases hq : keyEq d key k with
        | none => rw [hq] at h; cases h
        | some b =>
          rw [hq] at h
          obtain ⟨hs, hb⟩ := keyEq_run hq hK hk
          cases b with
          | true =>
            obtain ⟨rfl, rfl⟩ := Prod.mk.inj (Option.some.inj h)
            exact .inr ⟨0, e.val, by simp, by simp [Instr.findNow, hs], rfl, rfl, (hb rfl).1⟩
          | false =>
            simp only at h
            cases hr : updA d key v ks us with
            | none => rw [hr] at h; cases h
            | some r =>
              obtain ⟨r1, r2⟩ := r
              rw [hr] at h
              obtain ⟨rfl, rfl⟩ := Prod.mk.inj (Option.some.inj h)
              have ih := updA_run v hK ks us es (i + 1) r1 r2 hr (by simpa using hl) (by simpa using hl2) (fun j hj => by have := h1 (j + 1) (by simpa using hj); simpa using this)
              rcases ih with ⟨hf, rfl, rfl⟩ | ⟨j, V, hj, hf, rfl, rfl, hsb⟩
              · exact .inl ⟨by simp [Instr.findNow, hs, hf], rfl, rfl⟩
              · refine .inr ⟨j + 1, V, by simpa using hj, ?_, rfl, rfl, by simpa using hsb⟩
                simp only [Instr.findNow, hs, hf]
                congr 3
                omega

theorem ok_mapUpdate (hI : Inv Γ σ) (hg : GR Γ cfg) (hf : FR Γ ts a.tmps) (t : TypeId) (m k x : Operand) (ho : o.op = .mapUpdate t m k x ∨ o.op = .insert t m k x) (kt et : TypeId) (hu : P.underlying t = some (.map kt et)) (i : Nat) (hm : aval cfg ts m = .map i)
    (d : TypeDesc) (hd : P.underlying kt = some d) (hk : keyD d = true) (ks vs ks' vs' : List AV) (hi : σ.get i = some (.map ks vs)) (hw : σ.wp ≤ i) (h : updA d (aval cfg ts k) (aval cfg ts x) ks vs = some (ks', vs')) :
    OpOK P o a Γ σ id .undef (σ.put i (.map ks' vs')) := by
  have hM := aval_vr hg hf m
  have hK := aval_vr hg hf k
  have hX := aval_vr hg hf x
  generalize aval cfg ts k = ak at h hK
  generalize aval cfg ts x = ax at h hX
  rw [hm] at hM
  generalize hme : a.eval m = Mv at hM
  generalize hke : a.eval k = K at hK
  generalize hxe : a.eval x = X at hX
  cases hM with
  | map _ hdm =>
    obtain ⟨_, _, es, clock, hh, hs1, hs2, hkv, hvv⟩ := hI.blk i _ hi
    have hgo : (getObj (Γ.ρ i).b).run P Γ.w = .ok (.map es clock) Γ.w := by simp [getObj, Sem.run, hh]
    have hset : ∀ o', (setObj (Γ.ρ i).b o').run P Γ.w = .ok () { Γ.w with heap := Γ.w.heap.setIfInBounds (Γ.ρ i).b o' } := by
      intro o'; simp [setObj, Sem.run, hh]
    have run : ∀ w', (Instr.mapUpdate t (.map (some (Γ.ρ i).b)) K X).run P Γ.w = .ok () w' → (execOp a.eval o).run P Γ.w = .ok .skip w' := by
      intro w' hr
      rcases ho with ho | ho <;> simp only [execOp, ho, hme, hke, hxe, Sem.run_bind, hr, Result.andThen_ok, Sem.run_pure]
    have hlt := hI.blt hi
    have fin : ∀ es' clock', es'.size = ks'.length → es'.size = vs'.length → (∀ j, j < es'.size → VR Γ (ks'.getD j .undef) (es'.getD j default).key) → (∀ j, j < es'.size → VR Γ (vs'.getD j .undef) (es'.getD j default).val) →
        (Instr.mapUpdate t (.map (some (Γ.ρ i).b)) K X).run P Γ.w = .ok () { Γ.w with heap := Γ.w.heap.setIfInBounds (Γ.ρ i).b (.map es' clock') } → OpOK P o a Γ σ id .undef (σ.put i (.map ks' vs')) := by
      intro es' clock' e1 e2 e3 e4 hr
      have hc := change_here (B := .map ks' vs') hI hi hw { Γ.w with heap := Γ.w.heap.setIfInBounds (Γ.ρ i).b (.map es' clock') } (by simp) rfl rfl rfl (fun b hb => by simp only [Array.getElem?_setIfInBounds]; rw [if_neg (fun h => hb h.symm)]) rfl
      have he := hc.ext hI
      refine ⟨_, .skip, undef, run _ hr, .inr ⟨rfl, rfl⟩, .undef _, hc.step hI, hc.inv hI ⟨es', clock', ?_, e1, e2, fun j hj => (e3 j hj).ext he, fun j hj => (e4 j hj).ext he⟩, fun q hq => hq.elim .inl fun h => .inl (by rw [h]; exact (hI.blk i _ hi).1)⟩
      show (Γ.w.heap.setIfInBounds (Γ.ρ i).b (.map es' clock'))[(Γ.ρ i).b]? = _
      simp [Array.getElem?_setIfInBounds, hlt]
    have ed : ∀ j, es.toList.getD j default = es.getD j default := by
      intro j; simp only [List.getD_eq_getElem?_getD, Array.getD_eq_getD_getElem?, Array.getElem?_toList]
    rcases updA_run ax hK ks vs es.toList 0 ks' vs' h (by simpa using hs1) (by omega) (fun j hj => by rw [ed]; exact hkv j (by simpa using hj)) with ⟨hfn, rfl, rfl⟩ | ⟨j, V, hj, hfn, rfl, rfl, hsb⟩
    · refine fin (es.push { key := K, val := X, born := clock }) (clock + 1) (by simp [hs1]) (by simp [hs2]) (fun j hj => ?_) (fun j hj => ?_) ?_
      · have hj' : j < es.size + 1 := by simpa using hj
        by_cases hje : j = es.size
        · subst hje
          have e1 : (ks ++ [ak]).getD es.size .undef = ak := by simp [List.getD, List.getElem?_append, hs1]
          have e2 : (es.push { key := K, val := X, born := clock }).getD es.size default = { key := K, val := X, born := clock } := by simp [Array.getD_eq_getD_getElem?]
          rw [e1, e2]; exact hK
        · have e1 : (ks ++ [ak]).getD j .undef = ks.getD j .undef := by simp [List.getD, List.getElem?_append, show j < ks.length by omega]
          have e2 : (es.push { key := K, val := X, born := clock }).getD j default = es.getD j default := by simp [Array.getD_eq_getD_getElem?, Array.getElem?_push, hje]
          rw [e1, e2]; exact hkv j (by omega)
      · have hj' : j < es.size + 1 := by simpa using hj
        by_cases hje : j = es.size
        · subst hje
          have e1 : (vs ++ [ax]).getD es.size .undef = ax := by simp [List.getD, List.getElem?_append, hs2]
          have e2 : (es.push { key := K, val := X, born := clock }).getD es.size default = { key := K, val := X, born := clock } := by simp [Array.getD_eq_getD_getElem?]
          rw [e1, e2]; exact hX
        · have e1 : (vs ++ [ax]).getD j .undef = vs.getD j .undef := by simp [List.getD, List.getElem?_append, show j < vs.length by omega]
          have e2 : (es.push { key := K, val := X, born := clock }).getD j default = es.getD j default := by simp [Array.getD_eq_getD_getElem?, Array.getElem?_push, hje]
          rw [e1, e2]; exact hvv j (by omega)
      · simp only [Instr.mapUpdate, Sem.run_bind, run_underlying hu, Result.andThen_ok, hgo, checkKey_run Γ.w _ _ hd hk, Instr.findKey, run_underlying hd, hfn, Sem.run_pure, hset]
    · have hj' : j < es.size := by simpa using hj
      rw [Nat.zero_add] at hfn
      rw [ed] at hsb
      refine fin (es.modify j fun e => { e with key := K, val := X }) clock (by simp [hs1]) (by simp [hs2]) (fun q hq => ?_) (fun q hq => ?_) ?_
      · have hq' : q < es.size := by simpa using hq
        by_cases hqj : q = j
        · subst hqj
          have e1 : (ks.set q ak).getD q .undef = ak := by simp [List.getD, show q < ks.length by omega]
          have e2 : ((es.modify q fun e => { e with key := K, val := X }).getD q default).key = K := by
            simp only [Array.getD_eq_getD_getElem?, Array.getElem?_modify, if_true, Array.getElem?_eq_getElem hq', Option.map_some, Option.getD_some]
          rw [e1, e2]; exact hK
        · have e1 : (ks.set j ak).getD q .undef = ks.getD q .undef := by simp only [List.getD_eq_getElem?_getD, List.getElem?_set]; rw [if_neg (fun h => hqj h.symm)]
          have e2 : (es.modify j fun e => { e with key := K, val := X }).getD q default = es.getD q default := by simp only [Array.getD_eq_getD_getElem?, Array.getElem?_modify]; rw [if_neg (fun h => hqj h.symm)]
          rw [e1, e2]; exact hkv q hq'
      · have hq' : q < es.size := by simpa using hq
        by_cases hqj : q = j
        · subst hqj
          have e1 : (vs.set q ax).getD q .undef = ax := by simp [List.getD, show q < vs.length by omega]
          have e2 : ((es.modify q fun e => { e with key := K, val := X }).getD q default).val = X := by
            simp only [Array.getD_eq_getD_getElem?, Array.getElem?_modify, if_true, Array.getElem?_eq_getElem hq', Option.map_some, Option.getD_some]
          rw [e1, e2]; exact hX
        · have e1 : (vs.set j ax).getD q .undef = vs.getD q .undef := by simp only [List.getD_eq_getElem?_getD, List.getElem?_set]; rw [if_neg (fun h => hqj h.symm)]
          have e2 : (es.modify j fun e => { e with key := K, val := X }).getD q default = es.getD q default := by simp only [Array.getD_eq_getD_getElem?, Array.getElem?_modify]; rw [if_neg (fun h => hqj h.symm)]
          rw [e1, e2]; exact hvv q hq'
      · have e0 : ((es[j]?).map (·.key)).getD K = (es.getD j default).key := by simp [Array.getD_eq_getD_getElem?, hj']
        simp only [Instr.mapUpdate, Sem.run_bind, run_underlying hu, Result.andThen_ok, hgo, checkKey_run Γ.w _ _ hd hk, Instr.findKey, run_underlying hd, hfn, Sem.run_pure, Instr.keyThatStays, e0, hsb, if_true, hset]
end
end Go.Am

set_option linter.unusedVariables false
set_option linter.unusedSimpArgs false
namespace Go.Am
open Go

mutual
theorem AV.beq_eq : ∀ (x y : AV), x.beq y = true → x = y := by
  intro x y h
  cases x <;> cases y <;> simp only [AV.beq, Bool.false_eq_true] at h <;> first
    | rfl
    | (try simp only [Bool.and_eq_true, decide_eq_true_eq, beq_iff_eq, Nat.beq_eq] at h)
  · rw [h]
  · rw [h.1, h.2]
  · rw [beqBytes_eq] at h; rw [eq_of_beq h]
  · rw [h.1.1, h.1.2, h.2]
  · rw [AV.beq_eq _ _ h.1, h.2]
  · rw [AV.beqs_eq _ _ h.1, h.2]
  · rw [h.1.1.1, h.1.1.2, h.1.2, h.2]
  · rw [AV.beqs_eq _ _ h]
  · rw [AV.beqs_eq _ _ h]
  · rw [h.1.1, AV.beqs_eq _ _ h.1.2, AV.beqs_eq _ _ h.2]
  · rw [h.1, AV.beq_eq _ _ h.2]
  · rw [h]
  · rw [AV.beqs_eq _ _ h.1, AV.beqs_eq _ _ h.2]
  · rw [h]
theorem AV.beqs_eq : ∀ (x y : List AV), AV.beqs x y = true → x = y := by
  intro x y h
  cases x <;> cases y <;> simp only [AV.beqs, Bool.false_eq_true] at h
  · rfl
  · simp only [Bool.and_eq_true] at h
    rw [AV.beq_eq _ _ h.1, AV.beqs_eq _ _ h.2]
end

section
variable {P : Program} {cfg : Cfg} {σ : ASt} {id : Nat} {ts : List AV} {o : Oper} {v : AV} {Γ : Ctx} {a : Act}

/-- An element of an array that is a value. -/
theorem ok_index_arr (hI : Inv Γ σ) (hg : GR Γ cfg) (hf : FR Γ ts a.tmps) (t e : TypeId) (len : Nat) (x i : Operand) (ho : o.op = .index t x i) (hu : P.underlying t = some (.array len e)) (cs : List AV) (k : IntKind) (n : Int)
    (hx : aval cfg ts x = .agg cs) (hi : aval cfg ts i = .int k n) (h0 : 0 ≤ n) (hn : n < len) (hz : szT P e ≠ 0) (hl : loadA P e cs (n.toNat * szT P e) = some v) : OpOK P o a Γ σ id v σ := by
  have hX := aval_vr hg hf x
  have hN := aval_vr hg hf i
  rw [hx] at hX
  rw [hi] at hN
  obtain ⟨vs, hxe, h1, h2⟩ := hX.agg_inv
  obtain ⟨y, hy, hv⟩ := part_run (w := Γ.w) hl h1 h2
  refine .still hI (y := y) ?_ hv
  simp only [execOp, ho, hxe, hN.int_inv, Instr.index, asIntOf, Sem.run_bind, Sem.run_pure, run_underlying hu, Result.andThen_ok]
  rw [if_pos ⟨h0, hn⟩]
  simp only [Sem.run_bind, sz_run hz, Result.andThen_ok, hy]

/-- A block goes, and what it was in memory turns. -/
theorem drop_change (hI : Inv Γ σ) {i : Nat} {B : Blk} (hi : σ.get i = some B) (hw : σ.wp ≤ i) (hlo : B.lo = 0) (w' : World) (hs : w'.heap.size = Γ.w.heap.size) (ho : w'.os = Γ.w.os) (ht : w'.tape = Γ.w.tape) (hp : w'.output = Γ.w.output)
    (hoth : ∀ b, b ≠ (Γ.ρ i).b → w'.heap[b]? = Γ.w.heap[b]?) : Step Γ σ ⟨w', Γ.St, Γ.StO, Γ.ρ, Γ.dom⟩ (σ.del i) ∧ Inv ⟨w', Γ.St, Γ.StO, Γ.ρ, Γ.dom⟩ (σ.del i) := by
  have hfr := hI.free i B hi
  have hcell : ∀ b c, Γ.St b c → w'.cell? (at0 b c) = Γ.w.cell? (at0 b c) := by
    intro b c h
    have hb : b ≠ (Γ.ρ i).b := by rintro rfl; exact hfr.1 c (by omega) h
    simp only [World.cell?, at0, hoth b hb]
  have hobj : ∀ b, Γ.StO b → w'.heap[b]? = Γ.w.heap[b]? := fun b h => hoth b (by rintro rfl; exact hfr.2 h)
  have he : Ext Γ ⟨w', Γ.St, Γ.StO, Γ.ρ, Γ.dom⟩ := ⟨fun _ h => h, fun _ _ => rfl, fun _ _ h => h, hcell, fun _ h => h, hobj⟩
  have hget : ∀ j C, (σ.del i).get j = some C → j ≠ i ∧ σ.get j = some C := by
    intro j C h
    rw [ASt.get_del] at h
    split at h
    · cases h
    · rename_i hj; exact ⟨hj, h⟩
  refine ⟨⟨he, by rw [hs]; exact Nat.le_refl _, ho, ht, hp, fun b hb hn => hoth b (fun e => hn i B hi hw e.symm), fun j C hj hjw => .inr ⟨j, C, (hget j C hj).2, hjw, rfl⟩, fun j hj => by rw [ASt.get_del, if_neg (by omega)], rfl, Nat.le_refl _, fun _ _ h => .inl h, fun _ h => .inl h⟩,
    ⟨fun j C hj => ?_, fun j j' C C' hj hj' hne => hI.inj j j' C C' (hget j C hj).2 (hget j' C' hj').2 hne, fun j C hj => hI.free j C (hget j C hj).2, fun b c h => by rw [hs]; exact hI.lt b c h, fun b h => by rw [hs]; exact hI.lto b h, hI.domlt⟩⟩
  obtain ⟨hji, hj⟩ := hget j C hj
  have hb := hI.blk j C hj
  exact ⟨hb.1, hb.2.1, hb.2.2.ext he (hoth _ (hI.inj j i C B hj hi hji))⟩

/-- The address of a slice's first element. -/
theorem ok_sliceData (hI : Inv Γ σ) (hg : GR Γ cfg) (hf : FR Γ ts a.tmps) (x : Operand) (args : Array Operand) (tys : Array TypeId) (hargs : args.toList = [x]) (ho : o.op = .call { callee := .builtin .unsafeSliceData, args := args, argTypes := tys })
    (k i lo n : Nat) (hx : aval cfg ts x = .sl k i lo n) (hn : n ≠ 0) : OpOK P o a Γ σ id (.ptr i lo 0) σ := by
  have hX := aval_vr hg hf x
  obtain rfl : args = #[x] := by apply Array.ext'; simpa using hargs
  rw [hx] at hX
  generalize hxe : a.eval x = X at hX
  cases hX with
  | sl _ _ _ _ off cap h1 h2 h3 h4 h5 =>
    have hc : cap ≠ 0 := by omega
    have ho' : off = lo * k := by
      rcases h5 with h | h
      · exact h
      · exact absurd h hc
    refine .still hI (y := .pointer (some (at0 (Γ.ρ i).b off))) ?_ ?_
    · simp only [execOp, ho, resolve, invoke, builtin, Sem.run_bind, Sem.run_pure, Result.andThen_ok, List.map_toArray, List.map_cons, List.map_nil, hxe, Lib.run_unsafeSliceData_row Γ.w _ _ _ _ _ hc]
    · have := VR.ptr (Γ := Γ) i lo 0 h1
      rw [h2, Nat.add_zero, ← ho'] at this
      exact this

theorem freeze_other (w : World) (p : Addr) (n b : Nat) (h : b ≠ p.block) : (w.freeze p n).heap[b]? = w.heap[b]? := by
  unfold World.freeze
  split
  · rfl
  · simp only [Array.getElem?_modify]
    rw [if_neg (fun e => h e.symm)]

theorem freeze_size (w : World) (p : Addr) (n : Nat) : (w.freeze p n).heap.size = w.heap.size := by
  unfold World.freeze
  split
  · rfl
  · simp

/-- A text out of a row of bytes. -/
theorem ok_unsafeString (hI : Inv Γ σ) (hg : GR Γ cfg) (hf : FR Γ ts a.tmps) (p x : Operand) (args : Array Operand) (tys : Array TypeId) (pt it e : TypeId) (hargs : args.toList = [p, x]) (htys : tys.toList = [pt, it])
    (ho : o.op = .call { callee := .builtin .unsafeString, args := args, argTypes := tys }) (hpt : P.underlying pt = some (.pointer e)) (hc : P.cellsOf e = 1)
    (i : Nat) (zs : List AV) (l : List UInt8) (hp : aval cfg ts p = .ptr i 0 0) (hx : aval cfg ts x = .int .i64 l.length) (hi : σ.get i = some (.row 1 zs (some e))) (hw : σ.wp ≤ i) (h0 : l ≠ []) (hz : zs.take l.length = l.map fun b => AV.int .u8 b.toNat) (hlz : l.length ≤ zs.length)
    (h63 : l.length ≤ 9223372036854775807) : OpOK P o a Γ σ id (.str l) (σ.del i) := by
  have hP := aval_vr hg hf p
  have hX := aval_vr hg hf x
  obtain rfl : args = #[p, x] := by apply Array.ext'; simpa using hargs
  obtain rfl : tys = #[pt, it] := by apply Array.ext'; simpa using htys
  rw [hp] at hP
  rw [hx] at hX
  have hxe := hX.int_inv
  generalize hpe : a.eval p = Y at hP
  cases hP with
  | ptr _ _ _ hd =>
    obtain ⟨_, _, hk, hle, arr, e', hh, hsz, hrow⟩ := hI.blk i _ hi
    have hoff : 0 * (Γ.ρ i).k + 0 = 0 := by simp
    rw [hoff] at hpe
    have hsh : Γ.w.shape? (Γ.ρ i).b = some (e, arr.size) := by simp [World.shape?, hh, tyOf]
    have hn : l.length ≤ arr.size := by rw [hsz]; omega
    have hcell : ∀ j y, l[j]? = some y → Γ.w.cell? ((⟨(Γ.ρ i).b, 0, none⟩ : Addr).add j) = some (.int .u8 y.toNat) := by
      intro j y hy
      obtain ⟨hj, hye⟩ := List.getElem?_eq_some_iff.1 hy
      have hv := (hrow j (by omega)).2 0 (by omega)
      have hzj : zs.getD j .undef = .int .u8 y.toNat := by
        have e1 : (zs.take l.length).getD j .undef = zs.getD j .undef := by simp [List.getD, List.getElem?_take, hj]
        rw [← e1, hz]
        simp only [List.getD_eq_getElem?_getD, List.getElem?_map, hy, Option.map_some, Option.getD_some]
      rw [hzj] at hv
      have hv2 : VR Γ (.int .u8 y.toNat) (arr.getD (j * 1 + 0) undef) := hv.2
      have hval := hv2.int_inv
      have hlt : j < arr.size := by omega
      rw [at0_add]
      simp only [World.cell?, at0, hh, Option.isSome_none, Bool.false_eq_true, if_false, Nat.zero_add]
      rw [Array.getElem?_eq_getElem hlt]
      have : arr.getD (j * 1 + 0) undef = arr[j] := by simp [Array.getD, hlt]
      rw [this] at hval
      rw [hval]
    have hr := Lib.run_unsafeString_row (P := P) Γ.w pt it o.type e hpt hc (Γ.ρ i).b arr.size hsh l h0 hn h63 hcell
    obtain ⟨hS, hI'⟩ := drop_change hI hi hw rfl (Γ.w.freeze ⟨(Γ.ρ i).b, 0, none⟩ l.length) (freeze_size ..) (by unfold World.freeze; split <;> rfl) (by unfold World.freeze; split <;> rfl) (by unfold World.freeze; split <;> rfl) (fun b hb => freeze_other _ _ _ _ hb)
    refine ⟨_, .value (.string ⟨l.toArray⟩), _, ?_, .inl rfl, .str l, hS, hI', fun j h => .inl h⟩
    simp only [execOp, ho, resolve, invoke, builtin, Sem.run_bind, Sem.run_pure, Result.andThen_ok, List.map_toArray, List.map_cons, List.map_nil, hpe, hxe]
    show ((Builtin.unsafeString_ #[pt, it] o.type #[.pointer (some ⟨(Γ.ρ i).b, 0, none⟩), .int .i64 l.length]).run P Γ.w).andThen _ = _
    rw [hr]
    rfl
end
end Go.Am

set_option linter.unusedVariables false
set_option linter.unusedSimpArgs false
namespace Go.Am
open Go

section
variable {P : Program} {cfg : Cfg} {σ : ASt} {id : Nat} {ts : List AV} {o : Oper} {v : AV} {Γ : Ctx} {a : Act}

theorem map_some_inv {α β : Type} {f : α → β} {x : Option α} {y : β} (h : x.map f = some y) : ∃ z, x = some z ∧ f z = y := by
  cases x with
  | none => cases h
  | some z => exact ⟨z, rfl, Option.some.inj h⟩

theorem aop_ok (hI : Inv Γ σ) (hg : GR Γ cfg) (hf : FR Γ ts a.tmps) (hF : Fresh Γ σ id) (rm : Bool) (eff : Eff) (h : aop P cfg rm σ id (aval cfg ts) o = some (v, eff)) : OpOK P o a Γ σ id v (σ.app id eff) := by
  cases hop : o.op with
  | move x =>
    simp only [aop, hop] at h
    obtain ⟨rfl, rfl⟩ := Prod.mk.inj (Option.some.inj h)
    exact ok_move hI hg hf x (.inl hop)
  | assign x =>
    simp only [aop, hop] at h
    obtain ⟨rfl, rfl⟩ := Prod.mk.inj (Option.some.inj h)
    exact ok_move hI hg hf x (.inr hop)
  | pick c x y =>
    simp only [aop, hop] at h
    split at h
    · rename_i t hc
      obtain ⟨rfl, rfl⟩ := Prod.mk.inj (Option.some.inj h)
      exact ok_pick hI hg hf c x y t hop hc
    · cases h
  | alloc e =>
    simp only [aop, hop] at h
    obtain ⟨z, hz, he⟩ := map_some_inv h
    obtain ⟨rfl, rfl⟩ := Prod.mk.inj he
    exact ok_alloc hI hF e z hop hz
  | box e x =>
    simp only [aop, hop] at h
    split at h
    · cases h
    · cases h
    · rename_i h1 h2
      obtain ⟨rfl, rfl⟩ := Prod.mk.inj (Option.some.inj h)
      refine ok_box hI hg hf hF e x hop ?_
      cases hx : aval cfg ts x <;> first | rfl | (exact absurd hx h1) | (exact absurd hx (h2 _))
  | build t parts =>
    simp only [aop, hop] at h
    split at h
    · rename_i fs z hu hz
      cases hb : (fs.toList.all fun f => (P.info? f.type).isSome) with
      | false => rw [hb] at h; cases h
      | true =>
        rw [hb] at h
        obtain ⟨cs, hc, he⟩ := map_some_inv h
        obtain ⟨rfl, rfl⟩ := Prod.mk.inj he
        refine ok_build hI hg hf t parts hop z cs hz _ hu (.inl ⟨fs, rfl, fun f hf' => ?_, hc⟩)
        rw [List.all_eq_true] at hb
        exact Option.isSome_iff_exists.1 (hb f hf')
    · rename_i n e z hu hz
      cases hb : Nat.beq (szT P e) 0 with
      | true => rw [hb] at h; cases h
      | false =>
        rw [hb] at h
        obtain ⟨cs, hc, he⟩ := map_some_inv h
        obtain ⟨rfl, rfl⟩ := Prod.mk.inj he
        exact ok_build hI hg hf t parts hop z cs hz _ hu (.inr ⟨n, e, rfl, (fun e0 => by rw [e0] at hb; cases hb), hc⟩)
    · cases h
  | buildSlice t len parts =>
    simp only [aop, hop] at h
    split at h
    · rename_i e he
      split at h
      · rename_i hc
        obtain ⟨hlim, hk⟩ := hc
        split at h
        · cases hp : (parts.isEmpty && (zeroA P e).isSome) with
          | false => rw [hp] at h; cases h
          | true =>
            rw [hp] at h
            obtain ⟨rfl, rfl⟩ := Prod.mk.inj (Option.some.inj h)
            simp only [Bool.and_eq_true] at hp
            obtain ⟨z, hz⟩ := Option.isSome_iff_exists.1 hp.2
            have hpe : parts.toList = [] := by simpa using hp.1
            exact (ok_buildSlice hI hg hf hF t e 0 parts hop he hlim hk [] (by rw [hpe]; rfl) rfl z hz).1 rfl
        · rename_i hne
          cases hxs : elemsA (szT P e) 0 (parts.toList.map fun p => (p.1, aval cfg ts p.2)) with
          | none => rw [hxs] at h; cases h
          | some xs =>
            rw [hxs] at h
            simp only [Option.bind_some] at h
            cases hb : (Nat.beq xs.length len && (zeroA P e).isSome) with
            | false => rw [hb] at h; cases h
            | true =>
              rw [hb] at h
              simp only [cond, Option.some.injEq] at h
              simp only [Bool.and_eq_true] at hb
              obtain ⟨z, hz⟩ := Option.isSome_iff_exists.1 hb.2
              have hl := Nat.eq_of_beq_eq_true hb.1
              have hlen : 0 < len := Nat.pos_of_ne_zero fun e0 => hne e0
              have := (ok_buildSlice hI hg hf hF t e len parts hop he hlim hk xs hxs hl z hz).2 hlen
              cases rm with
              | false => obtain ⟨rfl, rfl⟩ := Prod.mk.inj h; exact this.1
              | true => obtain ⟨rfl, rfl⟩ := Prod.mk.inj h; exact this.2
      · cases h
    · cases h
  | load t p =>
    simp only [aop, hop] at h
    split at h
    · rename_i i j off hp
      split at h
      · rename_i k xs ty hi
        cases hx : xs[j]? with
        | none => rw [hx] at h; cases h
        | some x =>
          rw [hx] at h
          obtain ⟨y, hy, he⟩ := map_some_inv h
          obtain ⟨rfl, rfl⟩ := Prod.mk.inj he
          exact ok_load_ptr hI hg hf t p i j off k xs x hop hp hi hx hy
      · cases h
    · rename_i x off hp
      obtain ⟨y, hy, he⟩ := map_some_inv h
      obtain ⟨rfl, rfl⟩ := Prod.mk.inj he
      exact ok_load_rptr hI hg hf t p off x hop hp hy
    · cases h
  | store t p x =>
    simp only [aop, hop] at h
    split at h
    · rename_i i j off hp
      split at h
      · rename_i k xs ty hi
        cases hy : xs[j]? with
        | none => rw [hy] at h; cases h
        | some y =>
          rw [hy] at h
          simp only [Option.bind_some] at h
          split at h
          · rename_i hc
            obtain ⟨hs, hsz, hz, hle, hw⟩ := hc
            obtain ⟨rfl, rfl⟩ := Prod.mk.inj (Option.some.inj h)
            obtain ⟨q, hq, _⟩ := sz_info hz
            refine ok_store hI hg hf t p x hop i j off k xs y hp hi hy hs hsz hle hw ⟨q, hq⟩ _ ?_
            cases y with
            | agg cs => rfl
            | _ =>
              have hle' : off + (aval cfg ts x).cells.length ≤ 1 := hle
              have h1 : (aval cfg ts x).cells.length = 1 := by omega
              have h0 : off = 0 := by omega
              subst h0
              rw [h1]
              simp only [List.take_zero, List.nil_append, Nat.zero_add]
              show (aval cfg ts x).cells = (aval cfg ts x).cells ++ []
              simp
          · cases h
      · cases h
    · cases h
  | nilCheck x =>
    simp only [aop, hop] at h
    split at h
    · rename_i i j off hx
      obtain ⟨rfl, rfl⟩ := Prod.mk.inj (Option.some.inj h)
      have := ok_nilCheck (P := P) (id := id) hI hg hf x hop (.inl ⟨i, j, off, hx⟩)
      rwa [hx] at this
    · rename_i y off hx
      obtain ⟨rfl, rfl⟩ := Prod.mk.inj (Option.some.inj h)
      have := ok_nilCheck (P := P) (id := id) hI hg hf x hop (.inr ⟨y, off, hx⟩)
      rwa [hx] at this
    · cases h
  | binOp op t x y t' =>
    simp only [aop, hop] at h
    obtain ⟨z, hz, he⟩ := map_some_inv h
    obtain ⟨rfl, rfl⟩ := Prod.mk.inj he
    exact ok_binOp hI hg hf op t t' x y hop hz
  | unOp op t x =>
    simp only [aop, hop] at h
    obtain ⟨z, hz, he⟩ := map_some_inv h
    obtain ⟨rfl, rfl⟩ := Prod.mk.inj he
    exact ok_unOp hI hg hf op t x hop hz
  | convert s d x =>
    simp only [aop, hop] at h
    obtain ⟨h1, rfl⟩ := ok_convert hI hg hf s d x hop h
    exact h1
  | makeInterface t x =>
    simp only [aop, hop] at h
    split at h
    · cases h
    · rename_i d hn hd
      cases hs : (aval cfg ts x).storable with
      | false => rw [hs] at h; cases h
      | true =>
        rw [hs] at h
        obtain ⟨rfl, rfl⟩ := Prod.mk.inj (Option.some.inj h)
        exact ok_makeInterface hI hg hf t x hop d hd (fun ms e => hn ms e) hs
    · cases h
  | makeFunc fn first caps =>
    simp only [aop, hop] at h
    split at h
    · obtain ⟨rfl, rfl⟩ := Prod.mk.inj (Option.some.inj h)
      exact ok_makeFunc hI hg hf _ first caps hop
    · cases h
  | makeMap t r =>
    simp only [aop, hop] at h
    split at h
    · obtain ⟨rfl, rfl⟩ := Prod.mk.inj (Option.some.inj h)
      exact ok_makeMap hI hF t hop
    · cases h
  | makeSlice t l c =>
    simp only [aop, hop] at h
    split at h
    · rename_i e n m he hl hc
      split at h
      · rename_i hcond
        obtain ⟨h0, rfl, hlim, hby, hk⟩ := hcond
        split at h
        · rename_i z hz
          have := ok_makeSlice hI hg hf hF t e l c hop he n hl hc h0 hlim hby hk z hz
          cases hb : Nat.beq n.toNat 0 with
          | true =>
            rw [hb] at h
            obtain ⟨rfl, rfl⟩ := Prod.mk.inj (Option.some.inj h)
            exact this.1 (Nat.eq_of_beq_eq_true hb)
          | false =>
            rw [hb] at h
            obtain ⟨rfl, rfl⟩ := Prod.mk.inj (Option.some.inj h)
            exact this.2 (Nat.pos_of_ne_zero fun e0 => by rw [e0] at hb; cases hb)
        · cases h
      · cases h
    · cases h
  | slice t x lo hi mx =>
    simp only [aop, hop] at h
    obtain ⟨z, hz, he⟩ := map_some_inv h
    obtain ⟨rfl, rfl⟩ := Prod.mk.inj he
    exact ok_slice hI hg hf t x lo hi mx hop hz
  | fieldAddr t x f =>
    simp only [aop, hop] at h
    split at h
    · rename_i fd hfd
      cases hb : Nat.beq (szT P fd.type) 0 with
      | true => rw [hb] at h; cases h
      | false =>
        rw [hb] at h
        simp only [cond] at h
        have hz : szT P fd.type ≠ 0 := fun e0 => by rw [e0] at hb; cases hb
        split at h
        · rename_i i j off hx
          obtain ⟨rfl, rfl⟩ := Prod.mk.inj (Option.some.inj h)
          exact ok_fieldAddr hI hg hf t x f fd hop hfd hz (.inl ⟨i, j, off, hx, rfl⟩)
        · rename_i y off hx
          obtain ⟨rfl, rfl⟩ := Prod.mk.inj (Option.some.inj h)
          exact ok_fieldAddr hI hg hf t x f fd hop hfd hz (.inr ⟨y, off, hx, rfl⟩)
        · cases h
    · cases h
  | field t x f =>
    simp only [aop, hop] at h
    split at h
    · rename_i fd cs hfd hx
      obtain ⟨z, hz, he⟩ := map_some_inv h
      obtain ⟨rfl, rfl⟩ := Prod.mk.inj he
      exact ok_field hI hg hf t x f fd cs hop hfd hx hz
    · cases h
  | indexAddr t x i =>
    simp only [aop, hop] at h
    obtain ⟨z, hz, he⟩ := map_some_inv h
    obtain ⟨rfl, rfl⟩ := Prod.mk.inj he
    exact ok_indexAddr hI hg hf t x i hop hz
  | index t x i =>
    simp only [aop, hop] at h
    split at h
    · rename_i s k n hu hx hi
      split at h
      · rename_i h0
        obtain ⟨b, hb, he⟩ := map_some_inv h
        obtain ⟨rfl, rfl⟩ := Prod.mk.inj he
        exact ok_index hI hg hf t x i hop hu s k n b hx hi h0 hb
      · cases h
    · rename_i len e cs k n hu hx hi
      split at h
      · rename_i h0
        obtain ⟨b, hb, he⟩ := map_some_inv h
        obtain ⟨rfl, rfl⟩ := Prod.mk.inj he
        exact ok_index_arr hI hg hf t e len x i hop hu cs k n hx hi h0.1 h0.2.1 h0.2.2 hb
      · cases h
    · cases h
  | lookup t x i ok =>
    simp only [aop, hop] at h
    obtain ⟨z, hz, he⟩ := map_some_inv h
    obtain ⟨rfl, rfl⟩ := Prod.mk.inj he
    exact ok_lookup hI hg hf t x i ok hop hz
  | mapUpdate t m k x =>
    simp only [aop, hop] at h
    split at h
    · rename_i kt et i hu hm
      split at h
      · rename_i d hd
        cases hb : (keyD d && (aval cfg ts x).storable) with
        | false => rw [hb] at h; cases h
        | true =>
          rw [hb] at h
          simp only [cond] at h
          simp only [Bool.and_eq_true] at hb
          split at h
          · rename_i ks vs hi
            split at h
            · rename_i hw
              obtain ⟨r, hr, he⟩ := map_some_inv h
              obtain ⟨rfl, rfl⟩ := Prod.mk.inj he
              exact ok_mapUpdate hI hg hf t m k x (.inl hop) kt et hu i hm d hd hb.1 ks vs r.1 r.2 hi hw hr
            · cases h
          · cases h
      · cases h
    · cases h
  | insert t m k x =>
    simp only [aop, hop] at h
    split at h
    · rename_i kt et i hu hm
      split at h
      · rename_i d hd
        cases hb : (keyD d && (aval cfg ts x).storable) with
        | false => rw [hb] at h; cases h
        | true =>
          rw [hb] at h
          simp only [cond] at h
          simp only [Bool.and_eq_true] at hb
          split at h
          · rename_i ks vs hi
            split at h
            · rename_i hw
              obtain ⟨r, hr, he⟩ := map_some_inv h
              obtain ⟨rfl, rfl⟩ := Prod.mk.inj he
              exact ok_mapUpdate hI hg hf t m k x (.inr hop) kt et hu i hm d hd hb.1 ks vs r.1 r.2 hi hw hr
            · cases h
          · cases h
      · cases h
    · cases h
  | typeAssert x xt t ok =>
    simp only [aop, hop] at h
    split at h
    · cases h
    · rename_i d hn hd hx
      cases ok with
      | false => cases h
      | true =>
        obtain ⟨z, hz, he⟩ := map_some_inv h
        obtain ⟨rfl, rfl⟩ := Prod.mk.inj he
        exact ok_typeAssert hI hg hf x xt t true hop d hd (fun ms e => hn ms e) (.inl ⟨hx, rfl, z, hz, rfl⟩)
    · rename_i d u y hn hd hx
      split at h
      · rename_i hut
        obtain ⟨rfl, rfl⟩ := Prod.mk.inj (Option.some.inj h)
        exact ok_typeAssert hI hg hf x xt t ok hop d hd (fun ms e => hn ms e) (.inr ⟨u, y, hx, .inl ⟨hut, rfl⟩⟩)
      · rename_i hut
        cases ok with
        | false => cases h
        | true =>
          obtain ⟨z, hz, he⟩ := map_some_inv h
          obtain ⟨rfl, rfl⟩ := Prod.mk.inj he
          exact ok_typeAssert hI hg hf x xt t true hop d hd (fun ms e => hn ms e) (.inr ⟨u, y, hx, .inr ⟨hut, rfl, z, hz, rfl⟩⟩)
    · cases h
  | extract x i =>
    simp only [aop, hop] at h
    split at h
    · rename_i vs hx
      obtain ⟨z, hz, he⟩ := map_some_inv h
      obtain ⟨rfl, rfl⟩ := Prod.mk.inj he
      exact ok_extract hI hg hf x i vs hop hx hz
    · cases h
  | call c =>
    obtain ⟨cal, args, tys⟩ := c
    cases cal with
    | value f => simp only [aop, hop] at h; cases h
    | invoke r m => simp only [aop, hop] at h; cases h
    | builtin b =>
      cases b <;> simp only [aop, hop] at h
      case len =>
        split at h
        · rename_i x t ha ht
          obtain ⟨z, hz, he⟩ := map_some_inv h
          obtain ⟨rfl, rfl⟩ := Prod.mk.inj he
          exact ok_len hI hg hf x t tys args ha ht hop hz
        · cases h
      case append =>
        split at h
        · rename_i s x t u ha ht
          split at h
          · rename_i hut
            subst hut
            exact ok_append hI hg hf hF rm s x u u args tys ha ht hop eff _ (fun e ys hu hl hk hall => src_list hI hu hk hl (aval_vr hg hf x) hall) h
          · split at h
            · rename_i l hu hx
              have hX := aval_vr hg hf x
              rw [hx] at hX
              refine ok_append hI hg hf hF rm s x t u args tys ha ht hop eff _ (fun e ys hs hl hk hall => ?_) h
              obtain rfl := Option.some.inj hl
              rw [hX.str_inv]
              exact src_str hu hk hall
            · cases h
        · cases h
      case unsafeSliceData =>
        split at h
        · rename_i x ha
          split at h
          · rename_i k i lo n hx
            cases hn : Nat.beq n 0 with
            | true => rw [hn] at h; cases h
            | false =>
              rw [hn] at h
              obtain ⟨rfl, rfl⟩ := Prod.mk.inj (Option.some.inj h)
              exact ok_sliceData hI hg hf x args tys ha hop k i lo n hx (Nat.ne_of_beq_eq_false hn)
          · cases h
        · cases h
      case unsafeString =>
        split at h
        · rename_i p x pt it ha ht
          split at h
          · rename_i e i n hpt hp hx
            split at h
            · rename_i zs e' hi
              split at h
              · rename_i l hl
                cases hc : (decide (n = l.length) && !(l.isEmpty) && Nat.beq e e' && Nat.beq (P.cellsOf e) 1 && Nat.ble σ.wp i && Nat.ble l.length zs.length && Nat.ble l.length limit && AV.beqs (zs.take n.toNat) (l.map fun b => .int .u8 b.toNat)) with
                | false => rw [hc] at h; cases h
                | true =>
                  rw [hc] at h
                  obtain ⟨rfl, rfl⟩ := Prod.mk.inj (Option.some.inj h)
                  simp only [Bool.and_eq_true, decide_eq_true_eq, Nat.ble_eq, Bool.not_eq_true'] at hc
                  obtain ⟨⟨⟨⟨⟨⟨⟨rfl, c2⟩, c3⟩, c4⟩, c5⟩, c6⟩, c7⟩, c8⟩ := hc
                  obtain rfl := Nat.eq_of_beq_eq_true c3
                  have c8 := AV.beqs_eq _ _ c8
                  rw [Int.toNat_natCast] at c8
                  exact ok_unsafeString hI hg hf p x args tys pt it e ha ht hop hpt (Nat.eq_of_beq_eq_true c4) i zs l hp hx hi c5 (by simpa using c2) c8 c6 (by unfold limit at c7; omega)
              · cases h
            · cases h
          · cases h
        · cases h
      case max =>
        split at h
        · rename_i x r hx
          obtain ⟨z, hz, he⟩ := map_some_inv h
          obtain ⟨rfl, rfl⟩ := Prod.mk.inj he
          have hm := map_vr hg hf args
          have hl : (args.map a.eval).toList.length = (x :: r).length := by rw [← hx]; simp
          cases hV : (args.map a.eval).toList with
          | nil => rw [hV] at hl; simp at hl
          | cons X R =>
            rw [hV] at hl
            rw [hx] at hm
            have hv0 : VR Γ x X := by
              have := hm.2 0 (by simp)
              rw [← getD_toList, hV] at this
              simpa using this
            obtain ⟨y, hy, hv⟩ := maxA_run r x z X R Γ.w hz hv0 (by simpa using hl) (fun i hi => by
              have := hm.2 (i + 1) (by simpa using hi)
              rw [← getD_toList, hV] at this
              simpa using this)
            refine .still hI (y := y) ?_ hv
            simp only [execOp, hop, resolve, invoke, builtin, Sem.run_bind, Sem.run_pure, Result.andThen_ok, Builtin.max_, hV]
            rw [hy]
            rfl
        · cases h
      case min =>
        split at h
        · rename_i x r hx
          obtain ⟨z, hz, he⟩ := map_some_inv h
          obtain ⟨rfl, rfl⟩ := Prod.mk.inj he
          have hm := map_vr hg hf args
          have hl : (args.map a.eval).toList.length = (x :: r).length := by rw [← hx]; simp
          cases hV : (args.map a.eval).toList with
          | nil => rw [hV] at hl; simp at hl
          | cons X R =>
            rw [hV] at hl
            rw [hx] at hm
            have hv0 : VR Γ x X := by
              have := hm.2 0 (by simp)
              rw [← getD_toList, hV] at this
              simpa using this
            obtain ⟨y, hy, hv⟩ := minA_run r x z X R Γ.w hz hv0 (by simpa using hl) (fun i hi => by
              have := hm.2 (i + 1) (by simpa using hi)
              rw [← getD_toList, hV] at this
              simpa using this)
            refine .still hI (y := y) ?_ hv
            simp only [execOp, hop, resolve, invoke, builtin, Sem.run_bind, Sem.run_pure, Result.andThen_ok, Builtin.min_, hV]
            rw [hy]
            rfl
        · cases h
      all_goals cases h
  | _ => simp only [aop, hop] at h; cases h
end
end Go.Am
