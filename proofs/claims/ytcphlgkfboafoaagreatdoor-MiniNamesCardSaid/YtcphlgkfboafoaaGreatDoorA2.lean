/-
The operations that write nothing: what the abstract machine says of them is so.
The operations that write nothing: what the abstract machine says of them is so (2).
'==', the operators, and what is left of the operations that write nothing.
The operators; texts; places: what the abstract machine says of them is so.
Places, parts, cuts, lengths: what the abstract machine says of them is so.
Cuts, conversions, look-ups, assertions, structs built: what the abstract machine says of them is so.
Cuts, look-ups, assertions, structs built: what the abstract machine says of them is so (2).
Look-ups, assertions, structs built: what the abstract machine says of them is so.
-/
import Derived.Test.YtcphlgkfboafoaaGreatDoorA1
import Derived.Laws.Entries
import Derived.Laws.Strings
import Derived.Lib.Builder
import Derived.Lib.ConvBytes
set_option linter.unusedVariables false
set_option linter.unusedSimpArgs false
namespace Go.Am
open Go

theorem ofScalar_vr (Γ : Ctx) (v : Value) : VR Γ (ofScalar v) v := by
  unfold ofScalar
  split <;> try exact .undef _
  · exact .bool _
  · exact .int _ _
  · rename_i s
    have : s = ⟨s.data.toList.toArray⟩ := by cases s; simp
    rw [this]
    exact .str _
  · exact .nilp
  · exact .nils _
  · exact .nilm
  · exact .nilf
  · exact .nilif

theorem ofVal_vr (Γ : Ctx) (v : Value) : VR Γ (ofVal v) v := by
  unfold ofVal
  split
  · rename_i cs
    cases h : cs.toList.all (·.oneCell') with
    | false => exact .undef _
    | true =>
      simp only [cond]
      refine .agg _ _ (by simp) (fun i hi => ?_) (fun i hi => ?_)
      · have hi' : i < cs.size := by simpa using hi
        rw [List.all_eq_true] at h
        have := h cs[i] (by simp)
        simpa [Array.getD, hi'] using this
      · have hi' : i < cs.size := by simpa using hi
        have e1 : (cs.toList.map ofScalar).getD i .undef = ofScalar cs[i] := by simp [List.getD, hi']
        have e2 : cs.getD i undef = cs[i] := by simp [Array.getD, hi']
        rw [e1, e2]
        exact ofScalar_vr Γ _
  · exact ofScalar_vr Γ _

def GR (Γ : Ctx) (cfg : Cfg) : Prop := ∀ g, VR Γ (cfg.glob g) (.pointer (some (at0 g 0)))
theorem GR.ext {Γ Γ' : Ctx} {cfg : Cfg} (e : Ext Γ Γ') (h : GR Γ cfg) : GR Γ' cfg := fun g => (h g).ext e

theorem aval_vr {Γ : Ctx} {cfg : Cfg} {ts : List AV} {a : Act} (hg : GR Γ cfg) (hf : FR Γ ts a.tmps) (x : Operand) : VR Γ (aval cfg ts x) (a.eval x) := by
  cases x with
  | tmp t => exact hf.get t
  | const v => exact ofVal_vr Γ v
  | global g => exact hg g
  | func f => exact .func f [] [] #[] #[] rfl rfl (fun i hi => by simp at hi) (fun i hi => by simp at hi)

def NV (nx : Next) (y : Value) : Prop := nx = .value y ∨ (nx = .skip ∧ y = undef)

/-- What an operation comes to. -/
def OpOK (P : Program) (o : Oper) (a : Act) (Γ : Ctx) (σ : ASt) (id : Nat) (v : AV) (σ' : ASt) : Prop :=
  ∃ Γ' nx y, (execOp a.eval o).run P Γ.w = .ok nx Γ'.w ∧ NV nx y ∧ VR Γ' v y ∧ Step Γ σ Γ' σ' ∧ Inv Γ' σ' ∧ (∀ j, Γ'.dom j → Γ.dom j ∨ j = id)

theorem OpOK.still {P : Program} {o : Oper} {a : Act} {Γ : Ctx} {σ : ASt} {id : Nat} {v : AV} {y : Value} (hI : Inv Γ σ)
    (h : (execOp a.eval o).run P Γ.w = .ok (.value y) Γ.w) (hv : VR Γ v y) : OpOK P o a Γ σ id v σ :=
  ⟨Γ, _, y, h, .inl rfl, hv, .refl Γ σ, hI, fun _ h => .inl h⟩

theorem VR.storable_cell {Γ : Ctx} {v : AV} {x : Value} (h : VR Γ v x) (hs : v.isCell = true) : x.oneCell' = true ∧ x.cells = #[x] := by
  cases h <;> first | (simp [AV.isCell] at hs; done) | exact ⟨rfl, rfl⟩

theorem VR.cells {Γ : Ctx} {v : AV} {x : Value} (h : VR Γ v x) (hs : v.storable = true) :
    x.cells.size = v.cells.length ∧ ∀ j, j < v.cells.length → (x.cells.getD j Go.undef).oneCell' = true ∧ VR Γ (v.cell j) (x.cells.getD j Go.undef) := by
  cases v with
  | agg cs =>
    cases h with
    | agg _ vs h1 h2 h3 =>
      refine ⟨h1, fun j hj => ⟨h2 j hj, h3 j hj⟩⟩
  | undef => simp [AV.storable] at hs
  | tup _ => simp [AV.storable] at hs
  | _ =>
    obtain ⟨h1, h2⟩ := h.storable_cell rfl
    rw [h2]
    refine ⟨rfl, fun j hj => ?_⟩
    have : j = 0 := by simp [AV.cells] at hj; omega
    subst this
    exact ⟨h1, h⟩

section
variable {P : Program} {cfg : Cfg} {rm : Bool} {σ : ASt} {id : Nat} {ts : List AV} {o : Oper} {v : AV} {Γ : Ctx} {a : Act}

theorem und_info {t : TypeId} {d : TypeDesc} (h : P.underlying t = some d) : ∃ i, P.info? t = some i ∧ i.size = szT P t ∧ i.bytes = P.bytesOf t := by
  unfold Program.underlying at h
  cases hi : P.info? t with
  | none => rw [hi] at h; simp at h
  | some i => exact ⟨i, rfl, by simp [szT, Program.cellsOf, hi], by simp [Program.bytesOf, hi]⟩

theorem isAgg_run (w : World) {t : TypeId} {d : TypeDesc} (h : P.underlying t = some d) : (isAgg t).run P w = .ok (isAggD d) w := by
  unfold isAgg
  simp only [Sem.run_bind, run_underlying h, Result.andThen_ok]
  cases d <;> rfl

theorem sizeOf_run (w : World) {t : TypeId} {d : TypeDesc} (h : P.underlying t = some d) : (sizeOf t).run P w = .ok (szT P t) w := by
  obtain ⟨i, hi, hs, _⟩ := und_info h
  simp [sizeOf, typeInfo, hi, hs]

/-- A part of a row of cells, read as a value. -/
theorem loadA_vr {t : TypeId} {cs : List AV} {off : Nat} (h : loadA P t cs off = some v) {g : Nat → Value}
    (hg : ∀ j, j < cs.length → (g j).oneCell' = true ∧ VR Γ (cs.getD j .undef) (g j)) :
    ∃ d, P.underlying t = some d ∧
    ((isAggD d = true ∧ off + szT P t ≤ cs.length ∧ VR Γ v (.agg ((List.range (szT P t)).map fun j => g (off + j)).toArray)) ∨
    (isAggD d = false ∧ off < cs.length ∧ VR Γ v (g off))) := by
  unfold loadA at h
  cases hd : P.underlying t with
  | none => rw [hd] at h; simp at h
  | some d =>
    rw [hd] at h
    refine ⟨d, rfl, ?_⟩
    cases ha : isAggD d with
    | true =>
      simp only [ha, cond] at h
      cases hb : Nat.ble (off + szT P t) cs.length with
      | false => rw [hb] at h; simp at h
      | true =>
        have hle : off + szT P t ≤ cs.length := by simpa [Nat.ble_eq] using hb
        rw [hb] at h
        refine .inl ⟨rfl, hle, ?_⟩
        obtain rfl := Option.some.inj h
        refine .agg _ _ (by simp; omega) (fun i hi => ?_) (fun i hi => ?_)
        · have hi' : i < szT P t := by simp at hi; omega
          simp [Array.getD, hi']
          exact (hg _ (by omega)).1
        · have hi' : i < szT P t := by simp at hi; omega
          have e1 : (((cs.drop off).take (szT P t)).getD i .undef) = cs.getD (off + i) .undef := by
            simp [List.getD, List.getElem?_take, hi']
          rw [e1]
          simp [Array.getD, hi']
          exact (hg _ (by omega)).2
    | false =>
      simp only [ha, cond] at h
      obtain ⟨hlt, e⟩ := List.getElem?_eq_some_iff.1 h
      refine .inr ⟨rfl, hlt, ?_⟩
      have := (hg off hlt).2
      simpa [List.getD, List.getElem?_eq_getElem hlt, e] using this

theorem at0_add (b n j : Nat) : (at0 b n).add j = at0 b (n + j) := by unfold Addr.add at0; split <;> simp_all

theorem loadVar_run {t : TypeId} {w : World} {b o : Nat} {cs : List AV} {off : Nat} (h : loadA P t cs off = some v) {g : Nat → Value}
    (hc : ∀ j, j < cs.length → w.cell? (at0 b (o + j)) = some (g j)) (hg : ∀ j, j < cs.length → (g j).oneCell' = true ∧ VR Γ (cs.getD j .undef) (g j)) :
    ∃ y, (loadVar t (at0 b (o + off))).run P w = .ok y w ∧ VR Γ v y := by
  obtain ⟨d, hd, ⟨ha, hle, hv⟩ | ⟨ha, hlt, hv⟩⟩ := loadA_vr h hg
  · refine ⟨_, ?_, hv⟩
    unfold loadVar
    simp only [Sem.run_bind, isAgg_run w hd, ha, Result.andThen_ok, if_true, sizeOf_run w hd]
    rw [run_loadCells w (at0 b (o + off)) (szT P t) (fun j => g (off + j)) (fun j hj => by rw [at0_add, Nat.add_assoc]; exact hc _ (by omega))]
    rfl
  · refine ⟨_, ?_, hv⟩
    unfold loadVar
    simp only [Sem.run_bind, isAgg_run w hd, ha, Result.andThen_ok]
    simp [hc off hlt]

theorem part_run {t : TypeId} {w : World} {vs : Array Value} {cs : List AV} {off : Nat} (h : loadA P t cs off = some v) (hs : vs.size = cs.length)
    (hg : ∀ j, j < cs.length → (vs.getD j undef).oneCell' = true ∧ VR Γ (cs.getD j .undef) (vs.getD j undef)) :
    ∃ y, (part t vs off).run P w = .ok y w ∧ VR Γ v y := by
  obtain ⟨d, hd, ⟨ha, hle, hv⟩ | ⟨ha, hlt, hv⟩⟩ := loadA_vr h hg
  · refine ⟨_, ?_, hv⟩
    unfold part
    simp only [Sem.run_bind, isAgg_run w hd, ha, Result.andThen_ok, if_true, sizeOf_run w hd, Sem.run_pure]
    congr 2
    apply Array.ext
    · simp; omega
    · intro i h1 h2
      have : off + i < vs.size := by simp at h1; omega
      simp [Array.getD, this]
  · refine ⟨_, ?_, hv⟩
    unfold part
    simp only [Sem.run_bind, isAgg_run w hd, ha, Result.andThen_ok]
    have : off < vs.size := by omega
    simp [this, Array.getD]
end
end Go.Am

set_option linter.unusedVariables false
set_option linter.unusedSimpArgs false
namespace Go.Am
open Go

section
variable {P : Program} {cfg : Cfg} {σ : ASt} {id : Nat} {ts : List AV} {o : Oper} {v : AV} {Γ : Ctx} {a : Act}

theorem ok_move (hI : Inv Γ σ) (hg : GR Γ cfg) (hf : FR Γ ts a.tmps) (x : Operand) (ho : o.op = .move x ∨ o.op = .assign x) : OpOK P o a Γ σ id (aval cfg ts x) σ := by
  refine .still hI (y := a.eval x) ?_ (aval_vr hg hf x)
  rcases ho with ho | ho <;> simp [execOp, ho]

theorem ok_pick (hI : Inv Γ σ) (hg : GR Γ cfg) (hf : FR Γ ts a.tmps) (c x y : Operand) (t : Bool) (ho : o.op = .pick c x y) (hc : aval cfg ts c = .bool t) :
    OpOK P o a Γ σ id (cond t (aval cfg ts x) (aval cfg ts y)) σ := by
  have h := aval_vr hg hf c
  rw [hc] at h
  generalize hcv : a.eval c = cv at h
  cases h
  refine .still hI (y := if t then a.eval x else a.eval y) ?_ ?_
  · simp [execOp, ho, hcv, asBool]
  · cases t
    · exact aval_vr hg hf y
    · exact aval_vr hg hf x

theorem ok_load_ptr (hI : Inv Γ σ) (hg : GR Γ cfg) (hf : FR Γ ts a.tmps) (t : TypeId) (p : Operand) (i j off k : Nat) (xs : List AV) {ty : Option TypeId} (x : AV) (ho : o.op = .load t p)
    (hp : aval cfg ts p = .ptr i j off) (hi : σ.get i = some (.row k xs ty)) (hx : xs[j]? = some x) (hl : loadA P t x.cells off = some v) : OpOK P o a Γ σ id v σ := by
  have h := aval_vr hg hf p
  rw [hp] at h
  generalize hcv : a.eval p = cv at h
  cases h with
  | ptr _ _ _ hd =>
    obtain ⟨_, _, hk, hle, arr, e, hh, hsz, hrow⟩ := hI.blk i _ hi
    obtain ⟨hj, hxe⟩ := List.getElem?_eq_some_iff.1 hx
    have hxd : xs.getD j .undef = x := by simp [List.getD, hx]
    obtain ⟨hlen, hcells⟩ := hrow j hj
    rw [hxd] at hlen hcells
    have hin : ∀ c, c < k → j * k + c < arr.size := by
      intro c hc
      rw [hsz]
      calc j * k + c < j * k + k := by omega
        _ = (j + 1) * k := by rw [Nat.succ_mul]
        _ ≤ (Γ.ρ i).cap * k := Nat.mul_le_mul_right _ (by omega)
    obtain ⟨y, hy, hv⟩ := loadVar_run (Γ := Γ) (w := Γ.w) (b := (Γ.ρ i).b) (o := j * k) hl (g := fun c => arr.getD (j * k + c) undef)
      (fun c hc => by
        have := hin c (by omega)
        simp [World.cell?, at0, hh, this])
      (fun c hc => hcells c (by omega))
    refine .still hI (y := y) ?_ hv
    simp only [execOp, ho, hcv, Instr.loadAt, Instr.sureAddr, Sem.run_bind, Sem.run_pure, Result.andThen_ok, hk]
    rw [hy]
    rfl

theorem ok_load_rptr (hI : Inv Γ σ) (hg : GR Γ cfg) (hf : FR Γ ts a.tmps) (t : TypeId) (p : Operand) (off : Nat) (x : AV) (ho : o.op = .load t p)
    (hp : aval cfg ts p = .rptr x off) (hl : loadA P t x.cells off = some v) : OpOK P o a Γ σ id v σ := by
  have h := aval_vr hg hf p
  rw [hp] at h
  generalize hcv : a.eval p = cv at h
  cases h with
  | rptr _ _ b oo f hc hv' =>
    obtain ⟨y, hy, hv⟩ := loadVar_run (Γ := Γ) (w := Γ.w) (b := b) (o := oo) hl (g := f) (fun c hc' => (hc c hc').2.1) (fun c hc' => ⟨(hc c hc').2.2, hv' c hc'⟩)
    refine .still hI (y := y) ?_ hv
    simp only [execOp, ho, hcv, Instr.loadAt, Instr.sureAddr, Sem.run_bind, Sem.run_pure, Result.andThen_ok]
    rw [hy]
    rfl

theorem ok_nilCheck (hI : Inv Γ σ) (hg : GR Γ cfg) (hf : FR Γ ts a.tmps) (x : Operand) (ho : o.op = .nilCheck x)
    (hx : (∃ i j off, aval cfg ts x = .ptr i j off) ∨ ∃ y off, aval cfg ts x = .rptr y off) : OpOK P o a Γ σ id (aval cfg ts x) σ := by
  have h := aval_vr hg hf x
  refine .still hI (y := a.eval x) ?_ h
  rcases hx with ⟨i, j, off, hx⟩ | ⟨y, off, hx⟩ <;> rw [hx] at h <;> generalize hcv : a.eval x = cv at h ⊢ <;> cases h <;> simp [execOp, ho, hcv]

theorem beqBytes_eq : ∀ (x y : List UInt8), beqBytes x y = (x == y)
  | [], [] => rfl
  | [], _ :: _ => rfl
  | _ :: _, [] => rfl
  | p :: x, q :: y => by
    simp only [beqBytes]
    have ih := beqBytes_eq x y
    by_cases h : p = q
    · subst h
      have : Nat.beq p.toNat p.toNat = true := Nat.beq_refl _
      rw [this]
      simp only [cond, ih]
      simp
    · have hn : p.toNat ≠ q.toNat := fun e => h (UInt8.toNat_inj.1 e)
      have : Nat.beq p.toNat q.toNat = false := by
        cases hb : Nat.beq p.toNat q.toNat with
        | false => rfl
        | true => exact absurd (Nat.eq_of_beq_eq_true hb) hn
      rw [this]
      simp [h]

theorem lessB_eq : ∀ (x y : List UInt8), lessB x y = Op.bytesLess x y
  | [], [] => rfl
  | [], _ :: _ => rfl
  | _ :: _, [] => rfl
  | p :: x, q :: y => by
    simp only [lessB, Op.bytesLess, lessB_eq x y]
    have h1 : Nat.blt p.toNat q.toNat = decide (p < q) := by
      rw [Bool.eq_iff_iff]; simp [Nat.blt_eq, UInt8.lt_iff_toNat_lt]
    have h2 : Nat.beq p.toNat q.toNat = (p == q) := by
      rw [Bool.eq_iff_iff]
      simp only [beq_iff_eq]
      rw [← UInt8.toNat_inj]
      exact ⟨fun h => Nat.eq_of_beq_eq_true h, fun h => by rw [h]; exact Nat.beq_refl _⟩
    rw [h1, h2]
    cases decide (p < q) <;> cases (p == q) <;> simp

theorem strA_run (w : World) {op : BinOp} {x y : List UInt8} (h : strA op x y = some v) :
    ∃ z, (Op.stringOp op ⟨x.toArray⟩ ⟨y.toArray⟩).run P w = .ok z w ∧ VR Γ v z := by
  unfold strA at h
  unfold Op.stringOp
  simp only [ByteArray.toList_mk, ← lessB_eq, ← beqBytes_eq]
  cases op <;> simp only at h ⊢ <;> try (obtain rfl := Option.some.inj h; exact ⟨_, rfl, .bool _⟩)
  case add =>
    split at h
    · rename_i hle
      obtain rfl := Option.some.inj h
      refine ⟨.string ⟨(x ++ y).toArray⟩, ?_, .str _⟩
      have hs : ¬ ((((⟨x.toArray⟩ : ByteArray).size + (⟨y.toArray⟩ : ByteArray).size : Nat) : Int) > IntKind.i64.max) := by
        have e1 : (⟨x.toArray⟩ : ByteArray).size = x.length := by simp [ByteArray.size]
        have e2 : (⟨y.toArray⟩ : ByteArray).size = y.length := by simp [ByteArray.size]
        rw [e1, e2]
        have : IntKind.i64.max = 9223372036854775807 := by decide
        rw [this]; omega
      rw [if_neg hs]
      simp only [Sem.run_pure]
      congr 2
    · simp at h
  all_goals simp at h

theorem intA_run (w : World) {op : BinOp} {k : IntKind} {x y : Int} (t : TypeId) (hs : op ≠ .shl) (hr : op ≠ .shr) (h : intA op k x y = some v) :
    ∃ z, (binOp op t (.int k x) (.int k y)).run P w = .ok z w ∧ VR Γ v z := by
  unfold intA at h
  cases op <;> simp only at h <;> first
    | (exact absurd rfl hs)
    | (exact absurd rfl hr)
    | (obtain rfl := Option.some.inj h
       refine ⟨_, ?_, by first | exact .int _ _ | exact .bool _⟩
       simp only [binOp, ne_eq, not_true, if_false]
       rfl)
    | (split at h
       · cases h
       · rename_i hy
         obtain rfl := Option.some.inj h
         refine ⟨_, ?_, .int _ _⟩
         simp only [binOp, ne_eq, not_true, if_false, Op.intDiv, hy]
         rfl)
    | (cases h)
end
end Go.Am

set_option linter.unusedVariables false
set_option linter.unusedSimpArgs false
namespace Go.Am
open Go

section
variable {P : Program} {Γ : Ctx}

theorem eqFields_run {E : TypeId → AV → AV → Option Bool} {d : Nat} (w : World)
    (hE : ∀ t x y b X Y, E t x y = some b → VR Γ x X → VR Γ y Y → (Op.equalIn d t X Y).run P w = .ok b w) {xs ys : List AV} {vx vy : Array Value}
    (hx : vx.size = xs.length) (hy : vy.size = ys.length)
    (gx : ∀ j, j < xs.length → (vx.getD j undef).oneCell' = true ∧ VR Γ (xs.getD j .undef) (vx.getD j undef))
    (gy : ∀ j, j < ys.length → (vy.getD j undef).oneCell' = true ∧ VR Γ (ys.getD j .undef) (vy.getD j undef)) :
    ∀ (fs : List Field) (b : Bool), eqCells.eqFields E P xs ys fs = some b →
      (forIn (m := Sem) fs ((none, ()) : Option Bool × Unit) fun f r => (if f.name ≠ "_" then do
          let A ← part f.type vx f.offset
          let B ← part f.type vy f.offset
          let q ← Op.equalIn d f.type A B
          if (!q) = true then pure (ForInStep.done (some false, ())) else pure (ForInStep.yield (none, ()))
        else pure (ForInStep.yield (none, ())))).run P w = .ok (if b then (none, ()) else (some false, ())) w
  | [], b, h => by
    simp only [eqCells.eqFields, Option.some.injEq] at h
    subst h
    simp
  | f :: r, b, h => by
    simp only [eqCells.eqFields] at h
    split at h
    · cases h
    · rename_i hn
      split at h
      · rename_i A B hA hB
        obtain ⟨X, hX, vX⟩ := part_run (w := w) hA hx gx
        obtain ⟨Y, hY, vY⟩ := part_run (w := w) hB hy gy
        split at h
        · rename_i hq
          have := hE _ _ _ _ X Y hq vX vY
          have ih := eqFields_run w hE hx hy gx gy r b h
          simp only [List.forIn_cons, Sem.run_bind, ne_eq, hn, not_false_eq_true, if_true, hX, hY, this, Result.andThen_ok]
          simpa using ih
        · rename_i hq
          have := hE _ _ _ _ X Y hq vX vY
          obtain rfl := Option.some.inj h
          simp only [List.forIn_cons, Sem.run_bind, ne_eq, hn, not_false_eq_true, if_true, hX, hY, this, Result.andThen_ok]
          simp
        · cases h
      · cases h

theorem VR.agg_inv {cs : List AV} {X : Value} (h : VR Γ (.agg cs) X) : ∃ vs, X = .agg vs ∧ vs.size = cs.length ∧
    ∀ j, j < cs.length → (vs.getD j Go.undef).oneCell' = true ∧ VR Γ (cs.getD j .undef) (vs.getD j Go.undef) := by
  cases h with
  | agg _ vs h1 h2 h3 => exact ⟨vs, rfl, h1, fun j hj => ⟨h2 j hj, h3 j hj⟩⟩

theorem toList_mk' (s : List UInt8) : (⟨s.toArray⟩ : ByteArray).toList = s := ByteArray.toList_mk s

theorem beqBA (a b : List UInt8) : ((⟨a.toArray⟩ : ByteArray) == (⟨b.toArray⟩ : ByteArray)) = beqBytes a b := by
  rw [beqBytes_eq, Bool.eq_iff_iff]
  simp only [beq_iff_eq]
  constructor
  · intro h
    have e : a.toArray = b.toArray := by simpa using (show (a.toArray == b.toArray) = true from h)
    simpa using e
  · rintro rfl
    show (a.toArray == a.toArray) = true
    simp

theorem eqCells_run (w : World) : ∀ (d d' : Nat), d ≤ d' → ∀ (t : TypeId) (x y : AV) (b : Bool) (X Y : Value), eqCells P d t x y = some b → VR Γ x X → VR Γ y Y →
    (Op.equalIn d' t X Y).run P w = .ok b w
  | 0, _, _, _, _, _, _, _, _, h, _, _ => by simp [eqCells] at h
  | d + 1, 0, hd, _, _, _, _, _, _, _, _, _ => by omega
  | d + 1, d' + 1, hd, t, x, y, b, X, Y, h, hX, hY => by
    have ih := eqCells_run w d d' (by omega)
    unfold eqCells at h
    unfold Op.equalIn
    split at h
    · rename_i hu; cases hX; cases hY; obtain rfl := Option.some.inj h; simp [run_underlying hu]
    · rename_i hu; cases hX; cases hY
      split at h
      · rename_i hk; subst hk; obtain rfl := Option.some.inj h; simp [run_underlying hu]
      · cases h
    · rename_i hu; cases hX; cases hY; obtain rfl := Option.some.inj h; simp [run_underlying hu, beqBA]
    · rename_i hu; cases hX; cases hY; obtain rfl := Option.some.inj h; simp [run_underlying hu]
    · rename_i e i j k i' j' k' hu
      cases hX; cases hY
      cases hc : (Nat.beq i i' && Nat.beq j j' && Nat.beq k k' && (P.info? e).isSome) with
      | false => rw [hc] at h; cases h
      | true =>
        rw [hc] at h
        obtain rfl := Option.some.inj h
        simp only [Bool.and_eq_true, Nat.beq_eq] at hc
        obtain ⟨⟨⟨rfl, rfl⟩, rfl⟩, hinf⟩ := hc
        obtain ⟨q, hq⟩ := Option.isSome_iff_exists.1 hinf
        simp [run_underlying hu, sizeOf, typeInfo, hq, sameAddr]
    · rename_i hu; cases hX; cases hY; obtain rfl := Option.some.inj h; simp [run_underlying hu]
    · rename_i hu; cases hX; cases hY; obtain rfl := Option.some.inj h; simp [run_underlying hu]
    · rename_i hu; cases hX; cases hY; obtain rfl := Option.some.inj h; simp [run_underlying hu]
    · rename_i hu; cases hX; cases hY; obtain rfl := Option.some.inj h; simp [run_underlying hu]
    · rename_i hu; cases hX; cases hY; obtain rfl := Option.some.inj h; simp [run_underlying hu]
    · rename_i hu; cases hX; cases hY; obtain rfl := Option.some.inj h; simp [run_underlying hu]
    · rename_i hu; cases hX; cases hY; obtain rfl := Option.some.inj h; simp [run_underlying hu]
    · rename_i hu; cases hX; cases hY; obtain rfl := Option.some.inj h; simp [run_underlying hu]
    · rename_i hu; cases hX; cases hY; obtain rfl := Option.some.inj h; simp [run_underlying hu]
    · rename_i hu; cases hX; cases hY; obtain rfl := Option.some.inj h; simp [run_underlying hu]
    · rename_i tx vx ty vy hu
      cases hX with
      | iface _ _ X' hX' =>
        cases hY with
        | iface _ _ Y' hY' =>
          split at h
          · rename_i ht
            subst ht
            cases hc : ((P.info? tx).map (·.comparable)).getD false with
            | false => rw [hc] at h; cases h
            | true =>
              rw [hc] at h
              simp only [cond] at h
              cases hi : P.info? tx with
              | none => simp [hi] at hc
              | some i =>
                have hcc : i.comparable = true := by simpa [hi] using hc
                have := ih _ _ _ _ _ _ h hX' hY'
                simp [run_underlying hu, typeInfo, hi, hcc, this]
          · rename_i ht
            obtain rfl := Option.some.inj h
            simp [run_underlying hu, ht]
    · rename_i fs xs ys hu
      obtain ⟨vx, rfl, h1, gx⟩ := hX.agg_inv
      obtain ⟨vy, rfl, h2, gy⟩ := hY.agg_inv
      cases hs : P.stoodInHeld t with
      | true => rw [hs] at h; cases h
      | false =>
        rw [hs] at h
        simp only [cond] at h
        have := eqFields_run w (fun t x y b X Y h hX hY => ih t x y b X Y h hX hY) h1 h2 gx gy fs.toList b h
        simp only [Sem.run_bind, run_underlying hu, Result.andThen_ok, run_program, hs]
        rw [if_neg (by simp), ← Array.forIn_toList]
        rw [Sem.run_bind, this]
        cases b <;> simp
    · cases h
end
end Go.Am

set_option linter.unusedVariables false
set_option linter.unusedSimpArgs false
namespace Go.Am
open Go

def nonNumV : Value → Bool
  | .int .. | .float .. | .complex .. | .string _ => false
  | _ => true

section
variable {P : Program} {cfg : Cfg} {σ : ASt} {id : Nat} {ts : List AV} {o : Oper} {v : AV} {Γ : Ctx} {a : Act}

theorem VR.nonNum {x : AV} {X : Value} (h : VR Γ x X) (hx : x.nonNum = true) : nonNumV X = true := by
  cases h <;> first | rfl | (simp [AV.nonNum] at hx)

theorem binOp_eql (t : TypeId) {X Y : Value} (hX : nonNumV X = true) : binOp .eql t X Y = (do pure (.bool (← Op.equal t X Y))) := by
  cases X <;> first | rfl | (simp [nonNumV] at hX)
theorem binOp_neq (t : TypeId) {X Y : Value} (hX : nonNumV X = true) : binOp .neq t X Y = (do pure (.bool (!(← Op.equal t X Y)))) := by
  cases X <;> first | rfl | (simp [nonNumV] at hX)

theorem eqA_run {t : TypeId} {cx cy : Bool} {x y : AV} {b : Bool} {X Y : Value} (h : eqA P t cx cy x y = some b) (hX : VR Γ x X) (hY : VR Γ y Y) (w : World) :
    (Op.equal t X Y).run P w = .ok b w := by
  have h' : eqCells P 40 t x y = some b := by
    unfold eqA at h
    split at h
    · cases hc : (cx || cy) <;> rw [hc] at h
      · cases h
      · exact h
    · cases hc : P.eqGuardType P.depth t <;> rw [hc] at h
      · exact h
      · cases h
    · exact h
  exact eqCells_run w 40 Op.maxDepth (by decide) t x y b X Y h' hX hY

theorem eqGuard_run {op : BinOp} {t : TypeId} {ox oy : Operand} {x y : AV} {X Y : Value} (w : World)
    (h : (op ≠ .eql ∧ op ≠ .neq) ∨ (∃ b, eqA P t (isConstO ox) (isConstO oy) x y = some b) ∨ (x.nonNum = false)) (hx : x ≠ .undef) (hX : VR Γ x X) (hY : VR Γ y Y) :
    (eqGuard op t ox oy X Y).run P w = .ok () w := by
  unfold eqGuard
  rcases h with ⟨h1, h2⟩ | ⟨b, h⟩ | h
  · have : (!(op matches .eql | .neq)) = true := by cases op <;> first | rfl | (exact absurd rfl h1) | (exact absurd rfl h2)
    simp [this]
  · cases hop : (!(op matches .eql | .neq)) with
    | true => simp
    | false =>
      simp only [Bool.false_eq_true, if_false]
      cases hX with
      | undef => exact absurd rfl hx
      | agg cs vs h1 h2 h3 =>
        cases hY with
        | agg cs' vs' h1' h2' h3' =>
          have : P.eqGuardType P.depth t = false := by
            cases hc : P.eqGuardType P.depth t with
            | false => rfl
            | true => simp [eqA, hc] at h
          simp [this]
        | undef v => simp [eqA, eqCells] at h
        | _ => simp
      | nilif =>
        cases hY with
        | nilif =>
          have : (isConstO ox || isConstO oy) = true := by
            cases hc : (isConstO ox || isConstO oy) with
            | true => rfl
            | false => simp [eqA, hc] at h
          clear h hop
          cases ox <;> cases oy <;> first | (simp; done) | (exact absurd this (by simp [isConstO]))
        | undef v => simp [eqA, eqCells] at h
        | _ => simp
      | _ => simp
  · cases hop : (!(op matches .eql | .neq)) with
    | true => simp
    | false =>
      simp only [Bool.false_eq_true, if_false]
      cases hX with
      | undef => exact absurd rfl hx
      | int => simp
      | str => simp
      | _ => simp [AV.nonNum] at h

theorem ok_binOp (hI : Inv Γ σ) (hg : GR Γ cfg) (hf : FR Γ ts a.tmps) (op : BinOp) (t t' : TypeId) (x y : Operand) (ho : o.op = .binOp op t x y t')
    (h : binA P op t (isConstO x) (isConstO y) (aval cfg ts x) (aval cfg ts y) = some v) : OpOK P o a Γ σ id v σ := by
  have hX := aval_vr hg hf x
  have hY := aval_vr hg hf y
  have key : ∃ z, (eqGuard op t x y (a.eval x) (a.eval y)).run P Γ.w = .ok () Γ.w ∧ (binOp op t (a.eval x) (a.eval y)).run P Γ.w = .ok z Γ.w ∧ VR Γ v z := by
    generalize aval cfg ts x = ax at h hX
    generalize aval cfg ts y = ay at h hY
    generalize hxe : a.eval x = X at hX ⊢
    generalize hye : a.eval y = Y at hY ⊢
    unfold binA at h
    split at h
    · rename_i k n kb m
      split at h
      · cases h
      · rename_i hb
        obtain rfl := Option.some.inj h
        refine ⟨_, eqGuard_run Γ.w (.inl ⟨by simp, by simp⟩) (by simp) hX hY, ?_, .int _ _⟩
        cases hX; cases hY
        simp [binOp, Op.shift, hb]
    · rename_i k n kb m
      split at h
      · cases h
      · rename_i hb
        obtain rfl := Option.some.inj h
        refine ⟨_, eqGuard_run Γ.w (.inl ⟨by simp, by simp⟩) (by simp) hX hY, ?_, .int _ _⟩
        cases hX; cases hY
        simp [binOp, Op.shift, hb]
    · rename_i op' k n k' m h1 h2
      split at h
      · rename_i hk
        subst hk
        have g := eqGuard_run (P := P) (op := op) (t := t) (ox := x) (oy := y) Γ.w (.inr (.inr rfl)) (by simp) hX hY
        cases hX; cases hY
        obtain ⟨z, hz, hv⟩ := intA_run (P := P) (Γ := Γ) Γ.w t (fun e => h1 e) (fun e => h2 e) h
        exact ⟨z, g, hz, hv⟩
      · cases h
    · rename_i op' p q
      have g := eqGuard_run (P := P) (op := op) (t := t) (ox := x) (oy := y) Γ.w (.inr (.inr rfl)) (by simp) hX hY
      cases hX; cases hY
      obtain ⟨z, hz, hv⟩ := strA_run (P := P) (Γ := Γ) Γ.w h
      exact ⟨z, g, by rw [← hz]; cases op <;> rfl, hv⟩
    · skip
      cases hn : (ax.nonNum && ay.nonNum) with
      | false => rw [hn] at h; cases h
      | true =>
        rw [hn] at h
        simp only [cond] at h
        simp only [Bool.and_eq_true] at hn
        cases he : eqA P t (isConstO x) (isConstO y) ax ay with
        | none => rw [he] at h; cases h
        | some b =>
          rw [he] at h
          obtain rfl := Option.some.inj h
          refine ⟨.bool b, eqGuard_run Γ.w (.inr (.inl ⟨b, he⟩)) (by rintro rfl; simp [AV.nonNum] at hn) hX hY, ?_, .bool b⟩
          rw [binOp_eql t (hX.nonNum hn.1)]
          simp [eqA_run he hX hY Γ.w]
    · skip
      cases hn : (ax.nonNum && ay.nonNum) with
      | false => rw [hn] at h; cases h
      | true =>
        rw [hn] at h
        simp only [cond] at h
        simp only [Bool.and_eq_true] at hn
        cases he : eqA P t (isConstO x) (isConstO y) ax ay with
        | none => rw [he] at h; cases h
        | some b =>
          rw [he] at h
          obtain rfl := Option.some.inj h
          refine ⟨.bool (!b), eqGuard_run Γ.w (.inr (.inl ⟨b, he⟩)) (by rintro rfl; simp [AV.nonNum] at hn) hX hY, ?_, .bool (!b)⟩
          rw [binOp_neq t (hX.nonNum hn.1)]
          simp [eqA_run he hX hY Γ.w]
    · cases h
  obtain ⟨z, h1, h2, h3⟩ := key
  refine .still hI (y := z) ?_ h3
  simp only [execOp, ho, Sem.run_bind, h1, Result.andThen_ok, h2, Sem.run_pure]

theorem ok_unOp (hI : Inv Γ σ) (hg : GR Γ cfg) (hf : FR Γ ts a.tmps) (op : UnOp) (t : TypeId) (x : Operand) (ho : o.op = .unOp op t x)
    (h : unA op (aval cfg ts x) = some v) : OpOK P o a Γ σ id v σ := by
  have hX := aval_vr hg hf x
  generalize aval cfg ts x = ax at h hX
  generalize hxe : a.eval x = X at hX
  unfold unA at h
  split at h
  · cases hX; obtain rfl := Option.some.inj h
    exact .still hI (y := .bool _) (by simp [execOp, ho, hxe, Op.unary]) (.bool _)
  · cases hX; obtain rfl := Option.some.inj h
    exact .still hI (y := .int _ _) (by simp [execOp, ho, hxe, Op.unary, Op.intArith]) (.int _ _)
  · cases h

theorem ok_makeInterface (hI : Inv Γ σ) (hg : GR Γ cfg) (hf : FR Γ ts a.tmps) (t : TypeId) (x : Operand) (ho : o.op = .makeInterface t x) (d : TypeDesc) (hd : P.underlying t = some d)
    (hn : ∀ ms, d ≠ .interface ms) (hs : (aval cfg ts x).storable = true) : OpOK P o a Γ σ id (.iface t (aval cfg ts x)) σ := by
  refine .still hI (y := .iface t (a.eval x)) ?_ (.iface t _ _ (aval_vr hg hf x) hs)
  cases d <;> first | (simp [execOp, ho, Instr.makeInterface, run_underlying hd]; done) | (exact absurd rfl (hn _))

theorem map_vr (hg : GR Γ cfg) (hf : FR Γ ts a.tmps) (xs : Array Operand) : (xs.map a.eval).size = (xs.toList.map (aval cfg ts)).length ∧
    ∀ i, i < (xs.toList.map (aval cfg ts)).length → VR Γ ((xs.toList.map (aval cfg ts)).getD i .undef) ((xs.map a.eval).getD i undef) := by
  refine ⟨by simp, fun i hi => ?_⟩
  have hi' : i < xs.size := by simpa using hi
  have e1 : (xs.toList.map (aval cfg ts)).getD i .undef = aval cfg ts xs[i] := by simp [List.getD, hi']
  have e2 : (xs.map a.eval).getD i undef = a.eval xs[i] := by simp [Array.getD, hi']
  rw [e1, e2]
  exact aval_vr hg hf _

theorem ok_makeFunc (hI : Inv Γ σ) (hg : GR Γ cfg) (hf : FR Γ ts a.tmps) (f : FuncId) (first caps : Array Operand) (ho : o.op = .makeFunc (.func f) first caps) :
    OpOK P o a Γ σ id (.func f (first.toList.map (aval cfg ts)) (caps.toList.map (aval cfg ts))) σ := by
  refine .still hI (y := .func (.func f) (first.map a.eval) (caps.map a.eval)) (by simp [execOp, ho, Instr.makeFunc]) ?_
  exact .func _ _ _ _ _ (map_vr hg hf first).1 (map_vr hg hf caps).1 (map_vr hg hf first).2 (map_vr hg hf caps).2

theorem ok_extract (hI : Inv Γ σ) (hg : GR Γ cfg) (hf : FR Γ ts a.tmps) (x : Operand) (i : Nat) (vs : List AV) (ho : o.op = .extract x i) (hx : aval cfg ts x = .tup vs) (hv : vs[i]? = some v) :
    OpOK P o a Γ σ id v σ := by
  have hX := aval_vr hg hf x
  rw [hx] at hX
  generalize hxe : a.eval x = X at hX
  cases hX with
  | tup _ us h1 h2 =>
    obtain ⟨hi, e⟩ := List.getElem?_eq_some_iff.1 hv
    have hu : i < us.size := by omega
    have := h2 i hi
    have e1 : vs.getD i .undef = v := by simp [List.getD, hv]
    have e2 : us.getD i undef = us[i] := by simp [Array.getD, hu]
    rw [e1, e2] at this
    refine .still hI (y := us[i]) ?_ this
    simp [execOp, ho, hxe, Instr.extract, hu]
end
end Go.Am

set_option linter.unusedVariables false
set_option linter.unusedSimpArgs false
namespace Go.Am
open Go

section
variable {P : Program} {cfg : Cfg} {σ : ASt} {id : Nat} {ts : List AV} {o : Oper} {v : AV} {Γ : Ctx} {a : Act}

theorem fieldOf_some {t : TypeId} {f : Nat} {fd : Field} (h : fieldOf P t f = some fd) : ∃ fs, P.underlying t = some (.struct fs) ∧ fs[f]? = some fd := by
  unfold fieldOf at h
  split at h
  · rename_i fs hu; exact ⟨fs, hu, h⟩
  · cases h

/-- A type whose size is not nothing is there. -/
theorem sz_info {t : TypeId} (h : szT P t ≠ 0) : ∃ i, P.info? t = some i ∧ i.size = szT P t := by
  unfold szT Program.cellsOf at *
  cases hi : P.info? t with
  | none => simp [hi] at h
  | some i => exact ⟨i, rfl, by simp [hi]⟩
theorem sz_run {t : TypeId} (h : szT P t ≠ 0) (w : World) : (sizeOf t).run P w = .ok (szT P t) w := by
  obtain ⟨i, hi, hs⟩ := sz_info h
  simp [sizeOf, typeInfo, hi, hs]

theorem ok_fieldAddr (hI : Inv Γ σ) (hg : GR Γ cfg) (hf : FR Γ ts a.tmps) (t : TypeId) (x : Operand) (f : Nat) (fd : Field) (ho : o.op = .fieldAddr t x f) (hfd : fieldOf P t f = some fd) (hz : szT P fd.type ≠ 0)
    (hx : (∃ i j off, aval cfg ts x = .ptr i j off ∧ v = .ptr i j (off + fd.offset)) ∨ (∃ y off, aval cfg ts x = .rptr y off ∧ v = .rptr y (off + fd.offset))) : OpOK P o a Γ σ id v σ := by
  obtain ⟨fs, hu, hfs⟩ := fieldOf_some hfd
  have hX := aval_vr hg hf x
  have run : ∀ b n, a.eval x = .pointer (some (at0 b n)) → (execOp a.eval o).run P Γ.w = .ok (.value (.pointer (some (at0 b (n + fd.offset))))) Γ.w := by
    intro b n hxe
    simp only [execOp, ho, hxe, Instr.fieldAt, Sem.run_bind, run_underlying hu, Result.andThen_ok, hfs, Instr.sureAddr, Sem.run_pure, fieldPlace, sz_run hz]
    rw [if_neg hz]
    simp [at0_add]
  rcases hx with ⟨i, j, off, hx, rfl⟩ | ⟨y, off, hx, rfl⟩
  · rw [hx] at hX
    generalize hxe : a.eval x = X at hX
    cases hX with
    | ptr _ _ _ hd =>
      refine .still hI (run _ _ hxe) ?_
      rw [Nat.add_assoc]
      exact .ptr i j (off + fd.offset) hd
  · rw [hx] at hX
    generalize hxe : a.eval x = X at hX
    cases hX with
    | rptr _ _ b oo f hc hv =>
      refine .still hI (run _ _ hxe) ?_
      rw [Nat.add_assoc]
      exact .rptr y (off + fd.offset) b oo f hc hv

theorem ok_field (hI : Inv Γ σ) (hg : GR Γ cfg) (hf : FR Γ ts a.tmps) (t : TypeId) (x : Operand) (f : Nat) (fd : Field) (cs : List AV) (ho : o.op = .field t x f) (hfd : fieldOf P t f = some fd)
    (hx : aval cfg ts x = .agg cs) (hl : loadA P fd.type cs fd.offset = some v) : OpOK P o a Γ σ id v σ := by
  obtain ⟨fs, hu, hfs⟩ := fieldOf_some hfd
  have hX := aval_vr hg hf x
  rw [hx] at hX
  obtain ⟨vs, hxe, h1, h2⟩ := hX.agg_inv
  obtain ⟨y, hy, hv⟩ := part_run (w := Γ.w) hl h1 h2
  refine .still hI (y := y) ?_ hv
  simp only [execOp, ho, hxe, Instr.field, Sem.run_bind, run_underlying hu, Result.andThen_ok, hfs, asAgg, Sem.run_pure]
  rw [hy]
  rfl

theorem VR.int_inv {k : IntKind} {n : Int} {X : Value} (h : VR Γ (.int k n) X) : X = .int k n := by cases h; rfl
theorem VR.str_inv {s : List UInt8} {X : Value} (h : VR Γ (.str s) X) : X = .string ⟨s.toArray⟩ := by cases h; rfl

theorem ok_indexAddr (hI : Inv Γ σ) (hg : GR Γ cfg) (hf : FR Γ ts a.tmps) (t : TypeId) (x i : Operand) (ho : o.op = .indexAddr t x i) (h : idxA P t (aval cfg ts x) (aval cfg ts i) = some v) : OpOK P o a Γ σ id v σ := by
  have hX := aval_vr hg hf x
  have hN := aval_vr hg hf i
  generalize aval cfg ts x = ax at h hX
  generalize aval cfg ts i = ai at h hN
  generalize hxe : a.eval x = X at hX
  generalize hie : a.eval i = N at hN
  unfold idxA at h
  split at h
  · rename_i e xs t' k n hu
    split at h
    · rename_i hb
      obtain ⟨h0, h1, hz⟩ := hb
      cases hy : xs[n.toNat]? with
      | none => rw [hy] at h; cases h
      | some y =>
        rw [hy] at h
        simp only [Option.bind_some] at h
        cases hb : Nat.beq y.cells.length (szT P e) with
        | false => rw [hb] at h; cases h
        | true =>
          rw [hb] at h
          obtain rfl := Option.some.inj h
          have hsz : y.cells.length = szT P e := Nat.eq_of_beq_eq_true hb
          obtain ⟨hlt, he⟩ := List.getElem?_eq_some_iff.1 hy
          have hne : xs ≠ [] := by rintro rfl; simp at hlt
          cases hX with
          | lst _ _ ad b oo kk cap f ha hk hc hv ht hl =>
            obtain rfl := ha hne
            obtain rfl := hN.int_inv
            have hyd : xs.getD n.toNat .undef = y := by simp [List.getD, hy]
            have hkk : kk = szT P e := by rw [← hk n.toNat hlt, hyd, hsz]
            refine .still hI (y := .pointer (some (at0 b (oo + n.toNat * kk + 0)))) ?_ (.rptr y 0 b (oo + n.toNat * kk) (f n.toNat) (fun j hj => ?_) (fun j hj => ?_))
            · simp only [execOp, ho, hxe, hie, Instr.indexAt, asIntOf, Sem.run_bind, Sem.run_pure, run_underlying hu, Result.andThen_ok]
              rw [if_pos ⟨h0, h1⟩]
              simp only [Sem.run_bind, sz_run hz, Result.andThen_ok, Sem.run_pure, at0_add, hkk, Nat.add_zero]
            · have := hc n.toNat j hlt (by omega)
              rwa [← Nat.add_assoc] at this
            · have := hv n.toNat j hlt (by omega)
              rwa [hyd] at this
    · cases h
  · rename_i e k i0 lo len k' n hu
    split at h
    · rename_i hb
      obtain ⟨h0, h1, hk, hz⟩ := hb
      obtain rfl := Option.some.inj h
      obtain rfl := hN.int_inv
      cases hX with
      | sl _ _ _ _ off cap hd hρ hcap hn hoff =>
        have hoff' : off = lo * k := by
          rcases hoff with h | h
          · exact h
          · omega
        refine .still hI (y := .pointer (some (at0 (Γ.ρ i0).b ((lo + n.toNat) * (Γ.ρ i0).k + 0)))) ?_ (.ptr i0 (lo + n.toNat) 0 hd)
        simp only [execOp, ho, hxe, hie, Instr.indexAt, asIntOf, Sem.run_bind, Sem.run_pure, run_underlying hu, Result.andThen_ok]
        rw [if_pos ⟨h0, h1⟩]
        simp only [Sem.run_bind, sz_run hz, Result.andThen_ok, Sem.run_pure, at0_add, Nat.add_zero]
        rw [hoff', hρ, ← hk, Nat.add_mul]
    · cases h
  · rename_i len e i0 j off k' n hu
    split at h
    · rename_i hb
      obtain ⟨h0, h1, hz⟩ := hb
      obtain rfl := Option.some.inj h
      obtain rfl := hN.int_inv
      cases hX with
      | ptr _ _ _ hd =>
        refine .still hI (y := .pointer (some (at0 (Γ.ρ i0).b (j * (Γ.ρ i0).k + (off + n.toNat * szT P e))))) ?_ (.ptr i0 j _ hd)
        simp only [execOp, ho, hxe, hie, Instr.indexAt, asIntOf, Sem.run_bind, Sem.run_pure, run_underlying hu, Result.andThen_ok, Instr.sureAddr]
        rw [if_pos ⟨h0, h1⟩]
        simp only [Sem.run_bind, sz_run hz, Result.andThen_ok, Sem.run_pure, at0_add, Nat.add_assoc]
    · cases h
  · rename_i len e y off k' n hu
    split at h
    · rename_i hb
      obtain ⟨h0, h1, hz⟩ := hb
      obtain rfl := Option.some.inj h
      obtain rfl := hN.int_inv
      cases hX with
      | rptr _ _ b oo f hc hv =>
        refine .still hI (y := .pointer (some (at0 b (oo + (off + n.toNat * szT P e))))) ?_ (.rptr y _ b oo f hc hv)
        simp only [execOp, ho, hxe, hie, Instr.indexAt, asIntOf, Sem.run_bind, Sem.run_pure, run_underlying hu, Result.andThen_ok, Instr.sureAddr]
        rw [if_pos ⟨h0, h1⟩]
        simp only [Sem.run_bind, sz_run hz, Result.andThen_ok, Sem.run_pure, at0_add, Nat.add_assoc]
    · cases h
  · cases h

theorem ok_index (hI : Inv Γ σ) (hg : GR Γ cfg) (hf : FR Γ ts a.tmps) (t : TypeId) (x i : Operand) (ho : o.op = .index t x i) (hu : P.underlying t = some .string) (s : List UInt8) (k : IntKind) (n : Int) (b : UInt8)
    (hx : aval cfg ts x = .str s) (hi : aval cfg ts i = .int k n) (h0 : 0 ≤ n) (hb : s[n.toNat]? = some b) : OpOK P o a Γ σ id (.int .u8 b.toNat) σ := by
  have hX := aval_vr hg hf x
  have hN := aval_vr hg hf i
  rw [hx] at hX
  rw [hi] at hN
  refine .still hI (y := .int .u8 b.toNat) ?_ (.int _ _)
  simp only [execOp, ho, hX.str_inv, hN.int_inv, Instr.index, asIntOf, Sem.run_bind, Sem.run_pure, run_underlying hu, Result.andThen_ok]
  have : (⟨s.toArray⟩ : ByteArray)[n.toNat]? = some b := by
    obtain ⟨hlt, he⟩ := List.getElem?_eq_some_iff.1 hb
    have h2 : n.toNat < (⟨s.toArray⟩ : ByteArray).size := by simpa [ByteArray.size] using hlt
    refine (getElem?_pos (⟨s.toArray⟩ : ByteArray) n.toNat h2).trans ?_
    show some (s.toArray[n.toNat]'(by simpa using hlt)) = some b
    simp [he]
  simp [h0, this]

theorem ok_len (hI : Inv Γ σ) (hg : GR Γ cfg) (hf : FR Γ ts a.tmps) (x : Operand) (t : TypeId) (tys : Array TypeId) (args : Array Operand) (hargs : args.toList = [x]) (htys : tys.toList = [t])
    (ho : o.op = .call { callee := .builtin .len, args := args, argTypes := tys }) (h : lenA P σ t (aval cfg ts x) = some v) : OpOK P o a Γ σ id v σ := by
  have hX := aval_vr hg hf x
  obtain rfl : args = #[x] := by apply Array.ext'; simpa using hargs
  obtain rfl : tys = #[t] := by apply Array.ext'; simpa using htys
  generalize aval cfg ts x = ax at h hX
  generalize hxe : a.eval x = X at hX
  have run : ∀ (d : TypeDesc) (n : Nat), P.underlying t = some d → ((Builtin.len_ #[t] o.type #[X]).run P Γ.w = .ok (goInt n) Γ.w) → (execOp a.eval o).run P Γ.w = .ok (.value (goInt n)) Γ.w := by
    intro d n hd hr
    simp only [execOp, ho, resolve, invoke, builtin, Sem.run_bind, Sem.run_pure, Result.andThen_ok, List.map_toArray, List.map_cons, List.map_nil, hxe, hr]
  unfold lenA at h
  split at h
  · rename_i s hu
    obtain rfl := Option.some.inj h
    refine .still hI (run _ s.length hu ?_) (.int .i64 _)
    have hs : (⟨s.toArray⟩ : ByteArray).size = s.length := by simp [ByteArray.size]
    rw [hX.str_inv]
    simp only [Builtin.len_, List.getElem?_toArray, List.getElem?_cons_zero, Sem.run_bind, run_underlying hu, Result.andThen_ok, Sem.run_pure, hs]
  · rename_i e hu
    obtain rfl := Option.some.inj h
    refine .still hI (run _ 0 hu ?_) (.int .i64 _)
    cases hX
    simp [Builtin.len_, run_underlying hu]
  · rename_i e xs t' hu
    obtain rfl := Option.some.inj h
    refine .still hI (run _ xs.length hu ?_) (.int .i64 _)
    cases hX
    simp [Builtin.len_, run_underlying hu]
  · rename_i e k i0 lo n hu
    obtain rfl := Option.some.inj h
    refine .still hI (run _ n hu ?_) (.int .i64 _)
    cases hX
    simp [Builtin.len_, run_underlying hu]
  · rename_i kt et hu
    obtain rfl := Option.some.inj h
    refine .still hI (run _ 0 hu ?_) (.int .i64 _)
    cases hX
    simp [Builtin.len_, run_underlying hu]
  · rename_i kt et ks vs hu
    obtain rfl := Option.some.inj h
    refine .still hI (run _ ks.length hu ?_) (.int .i64 _)
    cases hX with
    | pmap _ _ b es clock h1 h2 h3 h4 h5 h6 =>
      have : (getObj b).run P Γ.w = .ok (.map es clock) Γ.w := by simp [getObj, Sem.run, h2]
      simp [Builtin.len_, run_underlying hu, this, h3]
  · rename_i kt et i0 hu
    split at h
    · rename_i ks vs hi
      obtain rfl := Option.some.inj h
      refine .still hI (run _ ks.length hu ?_) (.int .i64 _)
      obtain ⟨_, _, es, clock, h2, h3, h4, h5, h6⟩ := hI.blk i0 _ hi
      cases hX with
      | map _ hd =>
        have : (getObj (Γ.ρ i0).b).run P Γ.w = .ok (.map es clock) Γ.w := by simp [getObj, Sem.run, h2]
        simp [Builtin.len_, run_underlying hu, this, h3]
    · cases h
  · cases h

theorem maxA_run : ∀ (xs : List AV) (x v : AV) (X : Value) (Xs : List Value) (w : World), maxA x xs = some v → VR Γ x X → Xs.length = xs.length → (∀ i, i < xs.length → VR Γ (xs.getD i .undef) (Xs.getD i undef)) →
    ∃ y, (Xs.foldlM Builtin.max2 X).run P w = .ok y w ∧ VR Γ v y
  | [], x, v, X, Xs, w, h, hx, hl, _ => by
    obtain rfl := List.eq_nil_of_length_eq_zero (by simpa using hl)
    obtain rfl := Option.some.inj h
    exact ⟨X, rfl, hx⟩
  | y :: r, x, v, X, Xs, w, h, hx, hl, hs => by
    cases Xs with
    | nil => simp at hl
    | cons Y R =>
      have h0 := hs 0 (by simp)
      simp only [List.getD_cons_zero] at h0
      cases x with
      | int k a =>
        cases y with
        | int k' b =>
          simp only [maxA] at h
          obtain rfl := hx.int_inv
          obtain rfl := h0.int_inv
          obtain ⟨z, hz, hv⟩ := maxA_run r _ v (.int k (if b > a then b else a)) R w h (.int _ _) (by simpa using hl) (fun i hi => by have := hs (i + 1) (by simpa using hi); simpa using this)
          exact ⟨z, by simp only [List.foldlM_cons, Builtin.max2, Sem.run_bind, Sem.run_pure, Result.andThen_ok]; exact hz, hv⟩
        | _ => simp [maxA] at h
      | _ => simp [maxA] at h

theorem minA_run : ∀ (xs : List AV) (x v : AV) (X : Value) (Xs : List Value) (w : World), minA x xs = some v → VR Γ x X → Xs.length = xs.length → (∀ i, i < xs.length → VR Γ (xs.getD i .undef) (Xs.getD i undef)) →
    ∃ y, (Xs.foldlM Builtin.min2 X).run P w = .ok y w ∧ VR Γ v y
  | [], x, v, X, Xs, w, h, hx, hl, _ => by
    obtain rfl := List.eq_nil_of_length_eq_zero (by simpa using hl)
    obtain rfl := Option.some.inj h
    exact ⟨X, rfl, hx⟩
  | y :: r, x, v, X, Xs, w, h, hx, hl, hs => by
    cases Xs with
    | nil => simp at hl
    | cons Y R =>
      have h0 := hs 0 (by simp)
      simp only [List.getD_cons_zero] at h0
      cases x with
      | int k a =>
        cases y with
        | int k' b =>
          simp only [minA] at h
          obtain rfl := hx.int_inv
          obtain rfl := h0.int_inv
          obtain ⟨z, hz, hv⟩ := minA_run r _ v (.int k (if b < a then b else a)) R w h (.int _ _) (by simpa using hl) (fun i hi => by have := hs (i + 1) (by simpa using hi); simpa using this)
          exact ⟨z, by simp only [List.foldlM_cons, Builtin.min2, Sem.run_bind, Sem.run_pure, Result.andThen_ok]; exact hz, hv⟩
        | _ => simp [minA] at h
      | _ => simp [minA] at h

end
end Go.Am

set_option linter.unusedVariables false
set_option linter.unusedSimpArgs false
namespace Go.Am
open Go

theorem rowAt_mono {P : Program} {fits : TypeId → Bool} {d : Nat} {e : TypeId} {c c' off n : Nat} (h : c ≤ c') (hr : rowAt P fits d e c off n = true) : rowAt P fits d e c' off n = true := by
  cases d with
  | zero => simp [rowAt] at hr
  | succ d =>
    unfold rowAt at hr ⊢
    by_cases hs : P.cellsOf e = 0
    · simp [hs] at hr
    · simp only [hs, if_false, Bool.or_eq_true, Bool.and_eq_true, decide_eq_true_eq] at hr ⊢
      rcases hr with ⟨⟨h1, h2⟩, h3⟩ | ⟨h1, h2⟩
      · exact .inl ⟨⟨h1, by omega⟩, h3⟩
      · exact .inr ⟨by omega, h2⟩

theorem liesAt_mono {P : Program} : ∀ {d : Nat} {e : TypeId} {c c' off : Nat} {u : TypeId} {n : Nat}, c ≤ c' → liesAt P d e c off u n = true → liesAt P d e c' off u n = true
  | 0, _, _, _, _, _, _, _, hr => by simp [liesAt] at hr
  | d + 1, e, c, c', off, u, n, h, hr => by
    unfold liesAt at hr ⊢
    simp only [Bool.or_eq_true] at hr ⊢
    rcases hr with hr | hr
    · exact .inl (rowAt_mono h hr)
    · right
      split at hr
      · exact liesAt_mono h hr
      · cases hr


section
variable {P : Program} {cfg : Cfg} {σ : ASt} {id : Nat} {ts : List AV} {o : Oper} {v : AV} {Γ : Ctx} {a : Act}

theorem zeroA_run {t : TypeId} {z : AV} (h : zeroA P t = some z) (w : World) : ∃ Z i, P.info? t = some i ∧ i.zero = some Z ∧ (zeroValue t).run P w = .ok Z w ∧ z = ofVal Z ∧ Z.cells.size = szT P t ∧ (∀ c ∈ Z.cells, c.oneCell' = true) := by
  unfold zeroA at h
  cases hi : P.info? t with
  | none => simp [hi] at h
  | some i =>
    cases hz : i.zero with
    | none => simp [hi, hz] at h
    | some Z =>
      simp only [hi, hz, Option.bind_some] at h
      cases hb : (okZ Z && decide (Z.cells.size = szT P t)) with
      | false => rw [hb] at h; cases h
      | true =>
        rw [hb] at h
        simp only [Bool.and_eq_true, decide_eq_true_eq] at hb
        refine ⟨Z, i, rfl, hz, ?_, (Option.some.inj h).symm, hb.2, ?_⟩
        · simp [zeroValue, typeInfo, hi, hz]
        · have := hb.1
          unfold okZ at this
          rw [Array.all_eq_true'] at this
          exact this

theorem bytes_run {F : Value → ByteArray → Sem (ForInStep ByteArray)} (hF : ∀ n r, F (.int .u8 n) r = pure (ForInStep.yield (r.push (UInt8.ofNat n.toNat)))) :
    ∀ (xs : List AV) (s : List UInt8) (Xs : List Value) (acc : ByteArray) (w : World), bytesOf xs = some s → Xs.length = xs.length → (∀ i, i < xs.length → VR Γ (xs.getD i .undef) (Xs.getD i undef)) →
    (forIn (m := Sem) Xs acc F).run P w = .ok ⟨acc.data ++ s.toArray⟩ w
  | [], s, Xs, acc, w, h, hl, _ => by
    obtain rfl := List.eq_nil_of_length_eq_zero (by simpa using hl)
    obtain rfl := Option.some.inj h
    simp
  | x :: r, s, Xs, acc, w, h, hl, hs => by
    cases Xs with
    | nil => simp at hl
    | cons X R =>
      have h0 := hs 0 (by simp)
      simp only [List.getD_cons_zero] at h0
      unfold bytesOf at h
      split at h
      · rename_i heq; cases heq
      · rename_i n r' heq
        obtain ⟨rfl, rfl⟩ := List.cons.inj heq
        obtain rfl := h0.int_inv
        cases hb : bytesOf r with
        | none => rw [hb] at h; cases h
        | some q =>
          rw [hb] at h
          obtain rfl := Option.some.inj h
          have ih := bytes_run hF r q R (acc.push (UInt8.ofNat n.toNat)) w hb (by simpa using hl) (fun i hi => by have := hs (i + 1) (by simpa using hi); simpa using this)
          simp only [List.forIn_cons, hF, Sem.run_bind, Sem.run_pure, Result.andThen_ok]
          rw [ih]
          congr 2
          show (acc.data.push _) ++ q.toArray = acc.data ++ (_ :: q).toArray
          simp
      · cases h

/-- A slice's cells in a world. -/
theorem listA_cells (hI : Inv Γ σ) {x : AV} {X : Value} {xs : List AV} (h : listA σ x = some xs) (hX : VR Γ x X) :
    ∃ (ad : Option Addr) (cap k : Nat) (g : Nat → Nat → Value), X = .slice ad xs.length cap ∧ (xs ≠ [] → ∃ b o, ad = some (at0 b o) ∧ ∀ i j, i < xs.length → j < k → Γ.w.cell? (at0 b (o + (i * k + j))) = some (g i j)) ∧
      (∀ i, i < xs.length → (xs.getD i .undef).cells.length = k) ∧
      (∀ i j, i < xs.length → j < k → (g i j).oneCell' = true ∧ VR Γ ((xs.getD i .undef).cell j) (g i j)) := by
  cases x with
  | nils =>
    obtain rfl := Option.some.inj h
    cases hX
    exact ⟨_, 0, 0, fun _ _ => undef, rfl, fun h => absurd rfl h, fun i hi => by simp at hi, fun i j hi => by simp at hi⟩
  | lst xs' t =>
    obtain rfl := Option.some.inj h
    cases hX with
    | lst _ _ ad b o k cap f ha hk hc hv ht hl =>
      exact ⟨ad, cap, k, f, rfl, fun hne => ⟨b, o, ha hne, fun i j hi hj => (hc i j hi hj).2.1⟩, hk, fun i j hi hj => ⟨(hc i j hi hj).2.2, hv i j hi hj⟩⟩
  | sl k i0 lo n =>
    simp only [listA] at h
    split at h
    · rename_i k' zs ty hi
      split at h
      · rename_i hb
        obtain ⟨rfl, hle⟩ := hb
        obtain rfl := Option.some.inj h
        obtain ⟨_, _, hk, hcap, arr, e, hh, hsz, hrow⟩ := hI.blk i0 _ hi
        cases hX with
        | sl _ _ _ _ off cap hd hρ hc hn hoff =>
          have hlen : ((zs.drop lo).take n).length = n := by simp; omega
          have hget : ∀ i, i < n → ((zs.drop lo).take n).getD i .undef = zs.getD (lo + i) .undef := by
            intro i hi; simp [List.getD, List.getElem?_take, hi]
          have hin : ∀ i j, i < n → j < k' → (lo + i) * k' + j < arr.size := by
            intro i j hi hj
            rw [hsz]
            calc (lo + i) * k' + j < (lo + i) * k' + k' := by omega
              _ = (lo + i + 1) * k' := by rw [Nat.succ_mul]
              _ ≤ (Γ.ρ i0).cap * k' := Nat.mul_le_mul_right _ (by omega)
          refine ⟨some (at0 (Γ.ρ i0).b off), cap, k', fun i j => arr.getD ((lo + i) * k' + j) undef, ?_, fun hne => ?_, fun i hi => ?_, fun i j hi hj => ?_⟩
          · rw [hlen]
          · have hn0 : 0 < n := by
              rcases Nat.eq_zero_or_pos n with h | h
              · subst h; simp at hne
              · exact h
            have hoff' : off = lo * k' := by
              rcases hoff with h | h
              · exact h
              · omega
            refine ⟨_, _, rfl, fun i j hi hj => ?_⟩
            rw [hlen] at hi
            have hlt := hin i j hi hj
            have e1 : off + (i * k' + j) = (lo + i) * k' + j := by rw [hoff', Nat.add_mul]; omega
            rw [e1]
            simp [World.cell?, at0, hh, hlt]
          · rw [hlen] at hi
            rw [hget i hi]
            exact (hrow (lo + i) (by omega)).1
          · rw [hlen] at hi
            rw [hget i hi]
            exact (hrow (lo + i) (by omega)).2 j hj
      · cases h
    · cases h
  | _ => simp [listA] at h

theorem bytesOf_one : ∀ {l : List AV} {b : List UInt8}, bytesOf l = some b → ∀ i, i < l.length → (l.getD i .undef).cells.length = 1 ∧ (l.getD i .undef).cell 0 = l.getD i .undef
  | [], _, _, i, hi => by simp at hi
  | x :: r, b, h, i, hi => by
    unfold bytesOf at h
    split at h
    · rename_i heq; cases heq
    · rename_i n r' heq
      obtain ⟨rfl, rfl⟩ := List.cons.inj heq
      cases i with
      | zero => exact ⟨rfl, rfl⟩
      | succ i =>
        cases hb : bytesOf r with
        | none => rw [hb] at h; cases h
        | some q =>
          have := bytesOf_one hb i (by simpa using hi)
          simpa using this
    · cases h

theorem getD_toList (xs : Array Value) (i : Nat) : xs.toList.getD i undef = xs.getD i undef := by
  simp only [List.getD_eq_getElem?_getD, Array.getD_eq_getD_getElem?, Array.getElem?_toList]

/-- A pointer as an unsafe.Pointer. -/
theorem ok_to_unsafe (hI : Inv Γ σ) (hg : GR Γ cfg) (hf : FR Γ ts a.tmps) (s d t : TypeId) (x : Operand) (ho : o.op = .convert s d x) (hs : P.underlying s = some (.pointer t)) (hd : P.underlying d = some .unsafePointer)
    (i j c k : Nat) (xs : List AV) (ty : Option TypeId) (hx : aval cfg ts x = .ptr i j c) (hi : σ.get i = some (.row k xs ty)) (hj : j < xs.length) (hc : c < k) (hz : szT P t ≠ 0) : OpOK P o a Γ σ id (.ptr i j c) σ := by
  have hX := aval_vr hg hf x
  rw [hx] at hX
  generalize hxe : a.eval x = X at hX
  have hX0 := hX
  cases hX with
  | ptr _ _ _ hdm =>
    obtain ⟨_, _, hk, hle, arr, e, hh, hsz, hrow⟩ := hI.blk i _ hi
    obtain ⟨q, hq, hqs⟩ := sz_info hz
    refine .still hI (y := _) ?_ hX0
    have hsh : Γ.w.shape? (at0 (Γ.ρ i).b (j * (Γ.ρ i).k + c)).block = some (tyOf ty e, arr.size) := by simp [World.shape?, at0, hh]
    have hlt : (at0 (Γ.ρ i).b (j * (Γ.ρ i).k + c)).off < arr.size := by
      show j * (Γ.ρ i).k + c < arr.size
      rw [hsz, hk]
      calc j * k + c < j * k + k := by omega
        _ = (j + 1) * k := by rw [Nat.succ_mul]
        _ ≤ (Γ.ρ i).cap * k := Nat.mul_le_mul_right _ (by omega)
    simp only [execOp, ho, hxe, Sem.run_bind, Lib.run_to_unsafe Γ.w _ hs hd hq (by rw [hqs]; exact hz) hsh hlt, Result.andThen_ok, Sem.run_pure]

/-- And back. -/
theorem ok_from_unsafe (hI : Inv Γ σ) (hg : GR Γ cfg) (hf : FR Γ ts a.tmps) (s d u e : TypeId) (x : Operand) (ho : o.op = .convert s d x) (hs : P.underlying s = some .unsafePointer) (hd : P.underlying d = some (.pointer u))
    (i j c k : Nat) (xs : List AV) (hx : aval cfg ts x = .ptr i j c) (hi : σ.get i = some (.row k xs (some e))) (hz : szT P u ≠ 0) (hk0 : k ≠ 0) (hke : P.cellsOf e = k)
    (hl : liesAt P P.depth e xs.length (j * k + c) u 1 = true) : OpOK P o a Γ σ id (.ptr i j c) σ := by
  have hX := aval_vr hg hf x
  rw [hx] at hX
  generalize hxe : a.eval x = X at hX
  have hX0 := hX
  cases hX with
  | ptr _ _ _ hdm =>
    obtain ⟨_, _, hk, hle, arr, e', hh, hsz, hrow⟩ := hI.blk i _ hi
    obtain ⟨q, hq, hqs⟩ := sz_info hz
    refine .still hI (y := _) ?_ hX0
    have hsh : Γ.w.shape? (at0 (Γ.ρ i).b (j * (Γ.ρ i).k + c)).block = some (e, arr.size) := by simp [World.shape?, at0, hh, tyOf]
    have hcap : arr.size / P.cellsOf e = (Γ.ρ i).cap := by rw [hke, hsz]; exact Nat.mul_div_cancel _ (by omega)
    have hlies : liesAt P P.depth e (arr.size / P.cellsOf e) (at0 (Γ.ρ i).b (j * (Γ.ρ i).k + c)).off u 1 = true := by
      rw [hcap]
      show liesAt P P.depth e (Γ.ρ i).cap (j * (Γ.ρ i).k + c) u 1 = true
      rw [hk]
      exact liesAt_mono hle hl
    simp only [execOp, ho, hxe, Sem.run_bind, Lib.run_from_unsafe Γ.w _ hs hd hq hsh hlies, Result.andThen_ok, Sem.run_pure]

/-- A text as bytes: a new row that is only read. -/
theorem ok_to_bytes (hI : Inv Γ σ) (hg : GR Γ cfg) (hf : FR Γ ts a.tmps) (s d e : TypeId) (x : Operand) (ho : o.op = .convert s d x) (hs : P.underlying s = some .string) (hd : P.underlying d = some (.slice e)) (he : P.underlying e = some (.int .u8))
    (l : List UInt8) (hx : aval cfg ts x = .str l) : OpOK P o a Γ σ id (.lst (l.map fun b => .int .u8 b.toNat) none) σ := by
  have hX := aval_vr hg hf x
  rw [hx] at hX
  have hxe := hX.str_inv
  have hsz : (⟨l.toArray⟩ : ByteArray).size = l.length := by show l.toArray.size = _; simp
  have hrun := Lib.run_convert_string_bytes (P := P) Γ.w s d e ⟨l.toArray⟩ hs hd he
  have hold := Lib.bytesWorld_at_old Γ.w e ⟨l.toArray⟩
  have hcell : ∀ j, j < l.length → (Lib.bytesWorld Γ.w e ⟨l.toArray⟩).cell? ⟨Γ.w.heap.size, j, none⟩ = some (.int .u8 (l.getD j 0).toNat) := fun j hj => Lib.bytesWorld_cell Γ.w e ⟨l.toArray⟩ j (by rw [hsz]; exact hj)
  have hns := Lib.bytesWorld_size Γ.w e ⟨l.toArray⟩
  have hcap := grownCap_ge Γ.w (⟨l.toArray⟩ : ByteArray).size 0 e
  rw [hsz] at hcap hrun
  generalize hcp : grownCap Γ.w l.length 0 e = cap at hcap hrun
  have hos : (Lib.bytesWorld Γ.w e ⟨l.toArray⟩).os = Γ.w.os := by unfold Lib.bytesWorld World.freeze; split <;> rfl
  have htp : (Lib.bytesWorld Γ.w e ⟨l.toArray⟩).tape = Γ.w.tape := by unfold Lib.bytesWorld World.freeze; split <;> rfl
  have hout : (Lib.bytesWorld Γ.w e ⟨l.toArray⟩).output = Γ.w.output := by unfold Lib.bytesWorld World.freeze; split <;> rfl
  generalize hw' : Lib.bytesWorld Γ.w e ⟨l.toArray⟩ = w' at hrun hold hcell hns hos htp hout
  have heap : ∀ b, b < Γ.w.heap.size → w'.heap[b]? = Γ.w.heap[b]? := fun b hb => hold b hb
  have hE : Ext Γ ⟨w', fun b c => Γ.St b c ∨ (b = Γ.w.heap.size ∧ c < l.length), Γ.StO, Γ.ρ, Γ.dom⟩ :=
    ⟨fun _ h => h, fun _ _ => rfl, fun b c h => .inl h, fun b c h => by simp only [World.cell?, at0, heap b (hI.lt b c h)], fun _ h => h, fun b h => heap b (hI.lto b h)⟩
  refine ⟨⟨w', fun b c => Γ.St b c ∨ (b = Γ.w.heap.size ∧ c < l.length), Γ.StO, Γ.ρ, Γ.dom⟩, .value (.slice (some ⟨Γ.w.heap.size, 0, none⟩) l.length cap), _, ?_, .inl rfl, ?_, ?_, ?_, fun j h => .inl h⟩
  · simp only [execOp, ho, hxe, Sem.run_bind, hrun, Result.andThen_ok, Sem.run_pure]
  · have hlen : (l.map fun b => AV.int .u8 b.toNat).length = l.length := by simp
    have hget : ∀ i, i < l.length → (l.map fun b => AV.int .u8 b.toNat).getD i .undef = AV.int .u8 (l.getD i 0).toNat := by
      intro i hi; simp only [List.getD_eq_getElem?_getD, List.getElem?_map, List.getElem?_eq_getElem hi, Option.map_some, Option.getD_some]
    have := VR.lst (Γ := ⟨w', fun b c => Γ.St b c ∨ (b = Γ.w.heap.size ∧ c < l.length), Γ.StO, Γ.ρ, Γ.dom⟩) (l.map fun b => AV.int .u8 b.toNat) none (some ⟨Γ.w.heap.size, 0, none⟩) Γ.w.heap.size 0 1 cap (fun i _ => .int .u8 (l.getD i 0).toNat) (fun _ => rfl)
      (fun i hi => by rw [hget i (by rw [← hlen]; exact hi)]; rfl)
      (fun i j hi hj => by
        have hj0 : j = 0 := by omega
        subst hj0
        rw [hlen] at hi
        refine ⟨.inr ⟨rfl, by omega⟩, ?_, rfl⟩
        rw [show 0 + (i * 1 + 0) = i by omega]
        exact hcell i hi)
      (fun i j hi hj => by
        have hj0 : j = 0 := by omega
        subst hj0
        rw [hget i (by rw [← hlen]; exact hi)]
        exact .int _ _)
      (fun tk h => by cases h) (by rw [hlen]; exact hcap)
    rw [hlen] at this
    exact this
  · exact ⟨hE, by show Γ.w.heap.size ≤ w'.heap.size; omega, hos, htp, hout, fun b hb _ => heap b hb, fun id B h hw => .inr ⟨id, B, h, hw, rfl⟩, fun _ _ => rfl, rfl, Nat.le_refl _, fun b c h => h.imp_right fun h => .inl (by omega), fun b h => .inl h⟩
  · refine ⟨fun id B h => ⟨(hI.blk id B h).1, (hI.blk id B h).2.1, (hI.blk id B h).2.2.ext hE (heap _ (hI.blt h))⟩, hI.inj, fun id B h => ⟨fun c hc hx => ?_, (hI.free id B h).2⟩, fun b c h => ?_, fun b h => ?_, hI.domlt⟩
    · rcases hx with hx | ⟨hb, _⟩
      · exact (hI.free id B h).1 c hc hx
      · have h1 := hI.blt h
        have h2 : (Γ.ρ id).b = Γ.w.heap.size := hb
        omega
    · show b < w'.heap.size
      rcases h with h | h
      · have := hI.lt b c h; omega
      · omega
    · show b < w'.heap.size
      have := hI.lto b h; omega

theorem ok_convert (hI : Inv Γ σ) (hg : GR Γ cfg) (hf : FR Γ ts a.tmps) (s d : TypeId) (x : Operand) (ho : o.op = .convert s d x) {eff : Eff} (h : convA P σ id s d (aval cfg ts x) = some (v, eff)) : OpOK P o a Γ σ id v σ ∧ eff = .pure := by
  have hX := aval_vr hg hf x
  generalize hax : aval cfg ts x = ax at h hX
  generalize hxe : a.eval x = X at hX
  have run : ∀ y, (convert s d X).run P Γ.w = .ok y Γ.w → (execOp a.eval o).run P Γ.w = .ok (.value y) Γ.w := by
    intro y hr
    simp only [execOp, ho, hxe, Sem.run_bind, hr, Result.andThen_ok, Sem.run_pure]
  unfold convA at h
  split at h
  · rename_i t i j c hs hd
    split at h
    · rename_i k xs ty hi
      cases hc : (Nat.blt j xs.length && Nat.blt c k && !(Nat.beq (szT P t) 0)) with
      | false => rw [hc] at h; cases h
      | true =>
        rw [hc] at h
        obtain ⟨rfl, rfl⟩ := Prod.mk.inj (Option.some.inj h)
        simp only [Bool.and_eq_true, Nat.blt_eq, Bool.not_eq_true'] at hc
        exact ⟨ok_to_unsafe hI hg hf s d t x ho hs hd i j c k xs ty hax hi hc.1.1 hc.1.2 (Nat.ne_of_beq_eq_false hc.2), rfl⟩
    · cases h
  · rename_i u i j c hs hd
    split at h
    · rename_i k xs e hi
      cases hc : (!(Nat.beq (szT P u) 0) && !(Nat.beq k 0) && Nat.beq (P.cellsOf e) k && liesAt P P.depth e xs.length (j * k + c) u 1) with
      | false => rw [hc] at h; cases h
      | true =>
        rw [hc] at h
        obtain ⟨rfl, rfl⟩ := Prod.mk.inj (Option.some.inj h)
        simp only [Bool.and_eq_true, Bool.not_eq_true'] at hc
        exact ⟨ok_from_unsafe hI hg hf s d u e x ho hs hd i j c k xs hax hi (Nat.ne_of_beq_eq_false hc.1.1.1) (Nat.ne_of_beq_eq_false hc.1.1.2) (Nat.eq_of_beq_eq_true hc.1.2) hc.2, rfl⟩
    · cases h
  · rename_i ds k kk n hs hd
    obtain ⟨rfl, rfl⟩ := Prod.mk.inj (Option.some.inj h)
    obtain rfl := hX.int_inv
    refine ⟨.still hI (run (.int k (k.wrap n)) ?_) (.int _ _), rfl⟩
    simp [convert, run_underlying hs, run_underlying hd, Conv.intToInt]
  · rename_i b hs hd
    obtain ⟨rfl, rfl⟩ := Prod.mk.inj (Option.some.inj h)
    obtain rfl := hX.str_inv
    refine ⟨.still hI (run _ ?_) (.str _), rfl⟩
    simp [convert, run_underlying hs, run_underlying hd]
  · rename_i e l hs hd
    split at h
    · rename_i he
      obtain ⟨rfl, rfl⟩ := Prod.mk.inj (Option.some.inj h)
      exact ⟨ok_to_bytes hI hg hf s d e x ho hs hd he l hax, rfl⟩
    · cases h
  · rename_i ax _ _ _ e hs hd
    split at h
    · rename_i he
      cases hl : listA σ ax with
      | none => simp [hl] at h
      | some l =>
        simp only [hl] at h
        cases hb : bytesOf l with
        | none => simp [hb] at h
        | some b =>
          simp only [hb, Option.map_some] at h
          obtain ⟨rfl, rfl⟩ := Prod.mk.inj (Option.some.inj h)
          obtain ⟨ad, cap, k, g, rfl, hc, hk, hv⟩ := listA_cells hI hl hX
          refine ⟨.still hI (run (.string ⟨b.toArray⟩) ?_) (.str _), rfl⟩
          simp only [convert, Sem.run_bind, run_underlying hs, run_underlying hd, run_underlying he, Result.andThen_ok]
          have h1 := bytesOf_one hb
          cases hne : l with
          | nil =>
            subst hne
            obtain rfl := Option.some.inj hb
            cases ad with
            | none => simp [Conv.bytesToString]; rfl
            | some ad => simp [Conv.bytesToString, loadCells, loadCellsFrom]; rfl
          | cons x0 l0 =>
            have hn : l ≠ [] := by rw [hne]; simp
            have hlt : 0 < l.length := by rw [hne]; simp
            rw [← hne]
            obtain ⟨bb, oo, rfl, hcell⟩ := hc hn
            have hk1 : k = 1 := by rw [← hk 0 hlt]; exact (h1 0 hlt).1
            subst hk1
            have hld := run_loadCells (P := P) Γ.w (at0 bb oo) l.length (fun i => g i 0) (fun j hj => by
              rw [at0_add]; have := hcell j 0 hj (by omega); simpa using this)
            simp only [Conv.bytesToString, Sem.run_bind, hld, Result.andThen_ok]
            rw [← Array.forIn_toList, List.toList_toArray]
            rw [bytes_run (Γ := Γ) (P := P) (fun n r => rfl) l b ((List.range l.length).map fun i => g i 0) ByteArray.empty Γ.w hb (by simp) (fun i hi => by
              have e1 : ((List.range l.length).map fun i => g i 0).getD i undef = g i 0 := by simp [List.getD, hi]
              rw [e1, ← (h1 i hi).2]
              exact (hv i 0 hi (by omega)).2)]
            simp only [Result.andThen_ok, Sem.run_pure]
            congr 3
            show (#[] : Array UInt8) ++ b.toArray = b.toArray
            simp
    · cases h
  · cases h

theorem cutA_run (len cap : Nat) (isS : Bool) (w : World) {lo hi : Option AV} {l h : Nat} {Lo Hi : Option Value} (hlc : len ≤ cap) (hc : cutA len lo hi = some (l, h))
    (hlo : (lo = none ∧ Lo = none) ∨ ∃ x X, lo = some x ∧ Lo = some X ∧ VR Γ x X) (hhi : (hi = none ∧ Hi = none) ∨ ∃ x X, hi = some x ∧ Hi = some X ∧ VR Γ x X) :
    (Instr.sliceBounds isS len cap Lo Hi none).run P w = .ok (l, h, cap) w ∧ l ≤ h ∧ h ≤ len := by
  have pos : ∀ {x : AV} {X : Value} {n : Int}, slicePos x = some n → VR Γ x X → ∃ k, X = .int k n := by
    intro x X n hp hX
    cases x <;> simp [slicePos] at hp
    subst hp
    cases hX
    exact ⟨_, rfl⟩
  have bound : ∀ {k : IntKind} {n : Int} {y : Nat} (c : BoundsCode), 0 ≤ n ∧ n ≤ y → (Instr.sliceBound (.int k n) y c).run P w = .ok n.toNat w := by
    intro k n y c hn
    simp [Instr.sliceBound, asIntOf, hn]
  unfold cutA at hc
  rcases hhi with ⟨rfl, rfl⟩ | ⟨y, Y, rfl, rfl, hY⟩
  · rcases hlo with ⟨rfl, rfl⟩ | ⟨x, X, rfl, rfl, hX⟩
    · simp only [Option.some.injEq, Prod.mk.injEq] at hc
      obtain ⟨rfl, rfl⟩ := hc
      exact ⟨by simp [Instr.sliceBounds], Nat.zero_le _, Nat.le_refl _⟩
    · simp only at hc
      cases hp : slicePos x with
      | none => simp [hp] at hc
      | some n =>
        simp only [hp] at hc
        by_cases hb : 0 ≤ n ∧ n ≤ len
        · rw [if_pos hb] at hc
          simp only [Option.some.injEq, Prod.mk.injEq] at hc
          obtain ⟨rfl, rfl⟩ := hc
          obtain ⟨k, rfl⟩ := pos hp hX
          exact ⟨by simp [Instr.sliceBounds, bound _ hb], by omega, Nat.le_refl _⟩
        · rw [if_neg hb] at hc; simp at hc
  · simp only at hc
    cases hq : slicePos y with
    | none => simp [hq] at hc
    | some m =>
      simp only [hq] at hc
      by_cases hm : 0 ≤ m ∧ m ≤ len
      · rw [if_pos hm] at hc
        obtain ⟨ky, rfl⟩ := pos hq hY
        have hmc : 0 ≤ m ∧ m ≤ cap := by omega
        rcases hlo with ⟨rfl, rfl⟩ | ⟨x, X, rfl, rfl, hX⟩
        · simp only [Option.some.injEq, Prod.mk.injEq] at hc
          obtain ⟨rfl, rfl⟩ := hc
          exact ⟨by simp [Instr.sliceBounds, bound _ hmc], Nat.zero_le _, by omega⟩
        · simp only at hc
          cases hp : slicePos x with
          | none => simp [hp] at hc
          | some n =>
            simp only [hp] at hc
            by_cases hb : 0 ≤ n ∧ n ≤ (m.toNat : Nat)
            · rw [if_pos hb] at hc
              simp only [Option.some.injEq, Prod.mk.injEq] at hc
              obtain ⟨rfl, rfl⟩ := hc
              obtain ⟨k, rfl⟩ := pos hp hX
              exact ⟨by simp [Instr.sliceBounds, bound _ hmc, bound _ hb], by omega, by omega⟩
            · rw [if_neg hb] at hc; simp at hc
      · rw [if_neg hm] at hc; simp at hc
end
end Go.Am

set_option linter.unusedVariables false
set_option linter.unusedSimpArgs false
namespace Go.Am
open Go

section
variable {P : Program} {cfg : Cfg} {σ : ASt} {id : Nat} {ts : List AV} {o : Oper} {v : AV} {Γ : Ctx} {a : Act}

theorem opt_vr (hg : GR Γ cfg) (hf : FR Γ ts a.tmps) (x : Option Operand) :
    (x.map (aval cfg ts) = none ∧ x.map a.eval = none) ∨ ∃ y Y, x.map (aval cfg ts) = some y ∧ x.map a.eval = some Y ∧ VR Γ y Y := by
  cases x with
  | none => exact .inl ⟨rfl, rfl⟩
  | some x => exact .inr ⟨_, _, rfl, rfl, aval_vr hg hf x⟩

theorem extract_str (s : List UInt8) (l h : Nat) (hl : l ≤ h) (hh : h ≤ s.length) : (⟨s.toArray⟩ : ByteArray).extract l h = ⟨((s.take h).drop l).toArray⟩ := by
  apply ByteArray.ext
  simp [ByteArray.data_extract]
  rw [List.drop_take]

theorem VR.sub {xs : List AV} {t : Option Nat} {ad : Option Addr} {n cap : Nat} (h : VR Γ (.lst xs t) (.slice ad n cap)) (l m : Nat) (hl : l ≤ m) (hm : m ≤ xs.length) {ad' : Option Addr} {c' k : Nat}
    (hk : ∀ i, i < xs.length → (xs.getD i .undef).cells.length = k) (hc' : m - l ≤ c')
    (had : l < m → ∀ b o, ad = some (at0 b o) → ad' = some (at0 b (o + l * k))) : VR Γ (.lst ((xs.take m).drop l) none) (.slice ad' (m - l) c') := by
  cases h with
  | lst _ _ _ b o kk cap f ha hk' hc hv ht hle =>
    have hlen : ((xs.take m).drop l).length = m - l := by simp; omega
    have hget : ∀ i, i < m - l → ((xs.take m).drop l).getD i .undef = xs.getD (l + i) .undef := by
      intro i hi; simp [List.getD, List.getElem?_take, show l + i < m by omega]
    rw [← hlen]
    refine .lst _ none ad' b (o + l * k) k c' (fun i j => f (l + i) j) (fun hne => ?_) (fun i hi => ?_) (fun i j hi hj => ?_) (fun i j hi hj => ?_) (fun tk h => by cases h) (by omega)
    · have h0 : l < m := by
        rcases Nat.lt_or_ge l m with h | h
        · exact h
        · exfalso; apply hne; apply List.eq_nil_of_length_eq_zero; omega
      exact had h0 b o (ha (by rintro rfl; simp at hm; omega))
    · rw [hlen] at hi; rw [hget i hi]; exact hk _ (by omega)
    · rw [hlen] at hi
      have hkk : kk = k := by rw [← hk' (l + i) (by omega), hk _ (by omega)]
      subst hkk
      have := hc (l + i) j (by omega) hj
      have e : o + ((l + i) * kk + j) = o + l * kk + (i * kk + j) := by rw [Nat.add_mul]; omega
      rwa [e] at this
    · rw [hlen] at hi
      have hkk : kk = k := by rw [← hk' (l + i) (by omega), hk _ (by omega)]
      subst hkk
      rw [hget i hi]; exact hv (l + i) j (by omega) hj

theorem cut3_run (len cap : Nat) (w : World) {lo : Option AV} {l h : Nat} {Lo : Option Value} {m q : AV} {M Q : Value} {n : Int} (hlc : len ≤ cap) (hc : cutA len lo (some q) = some (l, h))
    (hlo : (lo = none ∧ Lo = none) ∨ ∃ x X, lo = some x ∧ Lo = some X ∧ VR Γ x X) (hm : slicePos m = some n) (hq : slicePos q = some n) (hM : VR Γ m M) (hQ : VR Γ q Q) :
    (Instr.sliceBounds true len cap Lo (some Q) (some M)).run P w = .ok (l, h, h) w ∧ l ≤ h ∧ h ≤ len := by
  have pos : ∀ {x : AV} {X : Value} {n : Int}, slicePos x = some n → VR Γ x X → ∃ k, X = .int k n := by
    intro x X n hp hX
    cases x <;> simp [slicePos] at hp
    subst hp
    cases hX
    exact ⟨_, rfl⟩
  have bound : ∀ {k : IntKind} {n : Int} {y : Nat} (c : BoundsCode), 0 ≤ n ∧ n ≤ y → (Instr.sliceBound (.int k n) y c).run P w = .ok n.toNat w := by
    intro k n y c hn
    simp [Instr.sliceBound, asIntOf, hn]
  obtain ⟨km, rfl⟩ := pos hm hM
  obtain ⟨kq, rfl⟩ := pos hq hQ
  unfold cutA at hc
  simp only [hq] at hc
  by_cases hb : 0 ≤ n ∧ n ≤ len
  · rw [if_pos hb] at hc
    have h1 : 0 ≤ n ∧ n ≤ cap := by omega
    have h2 : 0 ≤ n ∧ n ≤ (n.toNat : Nat) := by omega
    rcases hlo with ⟨rfl, rfl⟩ | ⟨x, X, rfl, rfl, hX⟩
    · simp only [Option.some.injEq, Prod.mk.injEq] at hc
      obtain ⟨rfl, rfl⟩ := hc
      refine ⟨?_, Nat.zero_le _, by omega⟩
      simp only [Instr.sliceBounds, Sem.run_bind, Sem.run_pure, bound _ h1, bound _ h2, Result.andThen_ok]
    · simp only at hc
      cases hp : slicePos x with
      | none => simp [hp] at hc
      | some r =>
        simp only [hp] at hc
        by_cases hr : 0 ≤ r ∧ r ≤ (n.toNat : Nat)
        · rw [if_pos hr] at hc
          simp only [Option.some.injEq, Prod.mk.injEq] at hc
          obtain ⟨rfl, rfl⟩ := hc
          obtain ⟨k, rfl⟩ := pos hp hX
          refine ⟨?_, by omega, by omega⟩
          simp only [Instr.sliceBounds, Sem.run_bind, Sem.run_pure, bound _ h1, bound _ h2, bound _ hr, Result.andThen_ok]
        · rw [if_neg hr] at hc; simp at hc
  · rw [if_neg hb] at hc; simp at hc

theorem ok_slice (hI : Inv Γ σ) (hg : GR Γ cfg) (hf : FR Γ ts a.tmps) (t : TypeId) (x : Operand) (lo hi mx : Option Operand) (ho : o.op = .slice t x lo hi mx)
    (h : sliceA P t (aval cfg ts x) (lo.map (aval cfg ts)) (hi.map (aval cfg ts)) (mx.map (aval cfg ts)) = some v) : OpOK P o a Γ σ id v σ := by
  have hX := aval_vr hg hf x
  have hL := opt_vr hg hf lo
  have hH := opt_vr hg hf hi
  have hM := opt_vr hg hf mx
  generalize aval cfg ts x = ax at h hX
  generalize hxe : a.eval x = X at hX
  generalize lo.map (aval cfg ts) = al at h hL
  generalize hle : lo.map a.eval = L at hL
  generalize hi.map (aval cfg ts) = ah at h hH
  generalize hhe : hi.map a.eval = H at hH
  generalize mx.map (aval cfg ts) = am at h hM
  generalize hme : mx.map a.eval = M at hM
  have run : ∀ y, (Instr.sliceAt t X L H M).run P Γ.w = .ok y Γ.w → (execOp a.eval o).run P Γ.w = .ok (.value y) Γ.w := by
    intro y hr
    simp only [execOp, ho, hxe, hle, hhe, hme, Sem.run_bind, hr, Result.andThen_ok, Sem.run_pure]
  unfold sliceA at h
  split at h
  · rename_i hu
    split at h
    · rename_i s
      split at h
      · rename_i l hh hc
        obtain rfl := Option.some.inj h
        obtain rfl := hX.str_inv
        rcases hM with ⟨_, rfl⟩ | ⟨_, _, hm, _⟩
        · have e : (⟨s.toArray⟩ : ByteArray).size = s.length := by simp [ByteArray.size]
          obtain ⟨h1, h2, h3⟩ := cutA_run (P := P) (Γ := Γ) s.length s.length false Γ.w (Nat.le_refl _) hc hL hH
          refine .still hI (run (.string ⟨((s.take hh).drop l).toArray⟩) ?_) (.str _)
          simp only [Instr.sliceAt, Instr.slice, Sem.run_bind, run_underlying hu, Result.andThen_ok, e, Option.isSome_none, Bool.false_eq_true, if_false]
          rw [h1]
          simp only [Result.andThen_ok, Sem.run_pure, extract_str s l hh h2 h3]
        · cases hm
      · cases h
    · cases h
  · rename_i e hu
    cases hz : Nat.beq (szT P e) 0 with
    | true => rw [hz] at h; cases h
    | false =>
      rw [hz] at h
      simp only [cond] at h
      have hz' : szT P e ≠ 0 := fun e0 => by rw [e0] at hz; cases hz
      have slc : ∀ (ad : Option Addr) (n cap l h m : Nat), (Instr.sliceBounds true n cap L H M).run P Γ.w = .ok (l, h, m) Γ.w →
          (Instr.sliceAt t (.slice ad n cap) L H M).run P Γ.w = .ok (.slice (if m = l then ad else ad.map (·.add (l * szT P e))) (h - l) (m - l)) Γ.w := by
        intro ad n cap l h m hb
        simp only [Instr.sliceAt, Instr.slice, Sem.run_bind, run_underlying hu, Result.andThen_ok]
        rw [hb]
        simp only [Result.andThen_ok, sz_run hz' Γ.w, Sem.run_pure]
      unfold sliceL at h
      split at h
      · cases hX with
        | nils ad =>
          split at h
          · split at h
            · rename_i r hc
              obtain ⟨l, hh⟩ := r
              obtain rfl := Option.some.inj h
              rcases hM with ⟨_, rfl⟩ | ⟨_, _, hm, _⟩
              · obtain ⟨h1, h2, h3⟩ := cutA_run (P := P) (Γ := Γ) 0 0 true Γ.w (Nat.le_refl _) hc hL hH
                obtain rfl : hh = 0 := by omega
                obtain rfl : l = 0 := by omega
                exact .still hI (run _ (slc ad 0 0 0 0 0 h1)) (.nils _)
              · cases hm
            · cases h
          · split at h
            · rename_i m q
              split at h
              · rename_i n n' r hm hq hc
                split at h
                · rename_i hn
                  subst hn
                  obtain ⟨l, hh⟩ := r
                  obtain rfl := Option.some.inj h
                  rcases hM with ⟨hm', _⟩ | ⟨mm, M', hm', rfl, hMv⟩
                  · cases hm'
                  · obtain rfl := Option.some.inj hm'
                    rcases hH with ⟨hq', _⟩ | ⟨qq, Q', hq', rfl, hQv⟩
                    · cases hq'
                    · obtain rfl := Option.some.inj hq'
                      obtain ⟨h1, h2, h3⟩ := cut3_run (P := P) (Γ := Γ) 0 0 Γ.w (Nat.le_refl _) hc hL hm hq hMv hQv
                      obtain rfl : hh = 0 := by omega
                      obtain rfl : l = 0 := by omega
                      exact .still hI (run _ (slc ad 0 0 0 0 0 h1)) (.nils _)
                · cases h
              · cases h
            · cases h
      · rename_i xs tk
        cases hX with
        | lst _ _ ad b oo kk cap f ha hk hc0 hv ht hlc =>
          split at h
          · split at h
            · rename_i l hh hc
              rcases hM with ⟨_, rfl⟩ | ⟨_, _, hm, _⟩
              · obtain ⟨h1, h2, h3⟩ := cutA_run (P := P) (Γ := Γ) xs.length cap true Γ.w hlc hc hL hH
                have hr := slc ad xs.length cap l hh cap h1
                cases hq : (Nat.beq l 0 && Nat.beq hh xs.length) with
                | true =>
                  rw [hq] at h
                  obtain rfl := Option.some.inj h
                  simp only [Bool.and_eq_true] at hq
                  obtain rfl := Nat.eq_of_beq_eq_true hq.1
                  obtain rfl := Nat.eq_of_beq_eq_true hq.2
                  refine .still hI (run _ hr) ?_
                  have e1 : (if cap = 0 then ad else ad.map (·.add (0 * szT P e))) = ad := by
                    split
                    · rfl
                    · cases ad with
                      | none => rfl
                      | some ad => simp [Addr.add]
                  rw [e1, Nat.sub_zero, Nat.sub_zero]
                  exact .lst xs tk ad b oo kk cap f ha hk hc0 hv ht hlc
                | false =>
                  rw [hq] at h
                  simp only [cond] at h
                  cases hall : (xs.all fun x => Nat.beq x.cells.length (szT P e)) with
                  | false => rw [hall] at h; cases h
                  | true =>
                    rw [hall] at h
                    obtain rfl := Option.some.inj h
                    refine .still hI (run _ hr) ?_
                    have hkx : ∀ i, i < xs.length → (xs.getD i .undef).cells.length = szT P e := by
                      intro i hi
                      rw [List.all_eq_true] at hall
                      have := hall xs[i] (List.getElem_mem hi)
                      have e2 : xs.getD i .undef = xs[i] := by simp [List.getD, hi]
                      rw [e2]; exact Nat.eq_of_beq_eq_true this
                    refine VR.sub (.lst xs tk ad b oo kk cap f ha hk hc0 hv ht hlc) l hh h2 h3 hkx (by omega) (fun hlt b' o' had => ?_)
                    rw [if_neg (by omega), had]
                    simp [at0_add]
              · cases hm
            · cases h
          · split at h
            · rename_i m q
              split at h
              · rename_i n n' l hh hm hq hc
                split at h
                · rename_i hn
                  obtain ⟨rfl, rfl⟩ := hn
                  obtain rfl := Option.some.inj h
                  rcases hM with ⟨hm', _⟩ | ⟨mm, M', hm', rfl, hMv⟩
                  · cases hm'
                  · obtain rfl := Option.some.inj hm'
                    rcases hH with ⟨hq', _⟩ | ⟨qq, Q', hq', rfl, hQv⟩
                    · cases hq'
                    · obtain rfl := Option.some.inj hq'
                      obtain ⟨h1, h2, h3⟩ := cut3_run (P := P) (Γ := Γ) xs.length cap Γ.w hlc hc hL hm hq hMv hQv
                      have hr := slc ad xs.length cap _ _ _ h1
                      rw [Nat.sub_self] at hr
                      exact .still hI (run _ hr) (.nils _)
                · cases h
              · cases h
            · cases h
      · rename_i k i0 lo' n
        split at h
        · rename_i l hh hc
          split at h
          · rename_i hk
            obtain rfl := Option.some.inj h
            rcases hM with ⟨_, rfl⟩ | ⟨_, _, hm, _⟩
            · cases hX with
              | sl _ _ _ _ off cap hd hρ hcap hn hoff =>
                obtain ⟨h1, h2, h3⟩ := cutA_run (P := P) (Γ := Γ) n cap true Γ.w hn hc hL hH
                have hr := slc (some (at0 (Γ.ρ i0).b off)) n cap l hh cap h1
                by_cases hcl : cap = l
                · rw [if_pos hcl] at hr
                  refine .still hI (run _ hr) ?_
                  exact .sl k i0 (lo' + l) (hh - l) off (cap - l) hd hρ (by omega) (by omega) (.inr (by omega))
                · rw [if_neg hcl] at hr
                  refine .still hI (run _ hr) ?_
                  simp only [Option.map_some, at0_add]
                  refine .sl k i0 (lo' + l) (hh - l) (off + l * szT P e) (cap - l) hd hρ (by omega) (by omega) (.inl ?_)
                  rcases hoff with h | h
                  · rw [h, ← hk, Nat.add_mul]
                  · omega
            · cases hm
          · cases h
        · cases h
      · cases h
  · cases h
end
end Go.Am

set_option linter.unusedVariables false
set_option linter.unusedSimpArgs false
namespace Go.Am
open Go

section
variable {P : Program} {cfg : Cfg} {σ : ASt} {id : Nat} {ts : List AV} {o : Oper} {v : AV} {Γ : Ctx} {a : Act}

theorem keyEq_run {d : TypeDesc} {x y : AV} {b : Bool} {X Y : Value} (h : keyEq d x y = some b) (hX : VR Γ x X) (hY : VR Γ y Y) :
    Instr.sameNow d X Y = some b ∧ (b = true → Instr.sameBits 10000 Y X = true ∧ Instr.sameBits 10000 X Y = true) := by
  unfold keyEq at h
  split at h
  · rename_i i j p k q
    split at h
    · rename_i hk
      subst hk
      obtain rfl := hX.int_inv
      obtain rfl := hY.int_inv
      obtain rfl := Option.some.inj h
      refine ⟨by simp [Instr.sameNow], fun e => ?_⟩
      simp only [beq_iff_eq] at e
      subst e
      simp [Instr.sameBits]
    · cases h
  · rename_i p q
    obtain rfl := hX.str_inv
    obtain rfl := hY.str_inv
    obtain rfl := Option.some.inj h
    refine ⟨by simp [Instr.sameNow, beqBA], fun e => ?_⟩
    simp only [Instr.sameBits, beqBA]
    refine ⟨?_, e⟩
    rw [beqBytes_eq] at e ⊢
    simp only [beq_iff_eq] at e ⊢
    exact e.symm
  · rename_i p q
    cases hX; cases hY
    obtain rfl := Option.some.inj h
    refine ⟨by simp [Instr.sameNow], fun e => ?_⟩
    simp only [beq_iff_eq] at e
    subst e
    simp [Instr.sameBits]
  · cases h

theorem findA_run {d : TypeDesc} {key : AV} {K : Value} (hK : VR Γ key K) : ∀ (ks vs : List AV) (es : List MapEntry) (i : Nat) (r : Option AV), findA d key ks vs = some r →
    es.length = ks.length → (∀ j, j < es.length → VR Γ (ks.getD j .undef) (es.getD j default).key) → (∀ j, j < es.length → VR Γ (vs.getD j .undef) (es.getD j default).val) →
    (r = none ∧ Instr.findNow d K es i = some none) ∨ (∃ v j V, r = some v ∧ Instr.findNow d K es i = some (some (i + j, V)) ∧ VR Γ v V ∧ j < es.length)
  | [], vs, es, i, r, h, hl, _, _ => by
    obtain rfl := List.eq_nil_of_length_eq_zero (by simpa using hl)
    cases vs with
    | nil => obtain rfl := Option.some.inj h; exact .inl ⟨rfl, rfl⟩
    | cons a b => cases h
  | k :: ks, vs, es, i, r, h, hl, h1, h2 => by
    cases vs with
    | nil => cases h
    | cons u us =>
      cases es with
      | nil => simp at hl
      | cons e es =>
        have hk := h1 0 (by simp)
        have hv := h2 0 (by simp)
        simp only [List.getD_cons_zero] at hk hv
        simp only [findA] at h
        cases hq : keyEq d key k with
        | none => rw [hq] at h; cases h
        | some b =>
          rw [hq] at h
          have hs := (keyEq_run hq hK hk).1
          cases b with
          | true =>
            obtain rfl := Option.some.inj h
            exact .inr ⟨u, 0, e.val, rfl, by simp [Instr.findNow, hs], hv, by simp⟩
          | false =>
            simp only at h
            have ih := findA_run hK ks us es (i + 1) r h (by simpa using hl) (fun j hj => by have := h1 (j + 1) (by simpa using hj); simpa using this) (fun j hj => by have := h2 (j + 1) (by simpa using hj); simpa using this)
            rcases ih with ⟨rfl, hf⟩ | ⟨v, j, V, rfl, hf, hv', hj⟩
            · exact .inl ⟨rfl, by simp [Instr.findNow, hs, hf]⟩
            · refine .inr ⟨v, j + 1, V, rfl, ?_, hv', by simpa using hj⟩
              simp only [Instr.findNow, hs, hf]
              congr 3
              omega

theorem checkKey_run {d : TypeDesc} {t : TypeId} (w : World) (b : Bool) (X : Value) (hd : P.underlying t = some d) (hk : keyD d = true) : (Instr.checkKey b 10000 t X).run P w = .ok () w := by
  unfold Instr.checkKey
  cases d <;> first | (simp [keyD] at hk; done) | (simp [run_underlying hd])

theorem ok_lookup (hI : Inv Γ σ) (hg : GR Γ cfg) (hf : FR Γ ts a.tmps) (t : TypeId) (x i : Operand) (ok : Bool) (ho : o.op = .lookup t x i ok) (h : lookA P σ t (aval cfg ts x) (aval cfg ts i) ok = some v) : OpOK P o a Γ σ id v σ := by
  have hX := aval_vr hg hf x
  have hK := aval_vr hg hf i
  generalize aval cfg ts x = ax at h hX
  generalize aval cfg ts i = ak at h hK
  generalize hxe : a.eval x = X at hX
  generalize hie : a.eval i = K at hK
  unfold lookA at h
  split at h
  · rename_i kt et hu
    split at h
    · rename_i d hd
      cases hk : keyD d with
      | false => rw [hk] at h; cases h
      | true =>
        rw [hk] at h
        simp only [cond] at h
        -- the entries
        have hes : ∃ (es : Array MapEntry) (r : Option AV), ((X = .map none ∧ es = #[]) ∨ ∃ b clock, X = .map (some b) ∧ (getObj b).run P Γ.w = .ok (.map es clock) Γ.w) ∧
            ((r = none ∧ Instr.findNow d K es.toList 0 = some none) ∨ (∃ v j V, r = some v ∧ Instr.findNow d K es.toList 0 = some (some (0 + j, V)) ∧ VR Γ v V ∧ j < es.toList.length)) ∧
            (match r with
              | some v => some (cond ok (.tup [v, .bool true]) v)
              | none => (zeroA P et).map fun z => cond ok (.tup [z, .bool false]) z) = some v := by
          cases ax with
          | nilm =>
            cases hX
            exact ⟨#[], none, .inl ⟨rfl, rfl⟩, .inl ⟨rfl, rfl⟩, h⟩
          | pmap ks vs =>
            cases hX with
            | pmap _ _ b es clock h1 h2 h3 h4 h5 h6 =>
              have hgo : (getObj b).run P Γ.w = .ok (.map es clock) Γ.w := by simp [getObj, Sem.run, h2]
              cases hfa : findA d ak ks vs with
              | none => simp [hfa] at h
              | some r =>
                simp only [hfa] at h
                refine ⟨es, r, .inr ⟨b, clock, rfl, hgo⟩, ?_, by cases r <;> exact h⟩
                exact findA_run hK ks vs es.toList 0 r hfa (by simpa using h3) (fun j hj => by have := h5 j (by simpa using hj); simpa [List.getD, Array.getD_eq_getD_getElem?] using this) (fun j hj => by have := h6 j (by simpa using hj); simpa [List.getD, Array.getD_eq_getD_getElem?] using this)
          | map i0 =>
            simp only at h
            cases hi : σ.get i0 with
            | none => simp [hi] at h
            | some B =>
              cases B with
              | map ks vs =>
                obtain ⟨_, _, es, clock, h2, h3, h4, h5, h6⟩ := hI.blk i0 _ hi
                cases hX with
                | map _ hdm =>
                  have hgo : (getObj (Γ.ρ i0).b).run P Γ.w = .ok (.map es clock) Γ.w := by simp [getObj, Sem.run, h2]
                  cases hfa : findA d ak ks vs with
                  | none => simp [hi, hfa] at h
                  | some r =>
                    simp only [hi, hfa] at h
                    refine ⟨es, r, .inr ⟨_, clock, rfl, hgo⟩, ?_, by cases r <;> exact h⟩
                    exact findA_run hK ks vs es.toList 0 r hfa (by simpa using h3) (fun j hj => by have := h5 j (by simpa using hj); simpa [List.getD, Array.getD_eq_getD_getElem?] using this) (fun j hj => by have := h6 j (by simpa using hj); simpa [List.getD, Array.getD_eq_getD_getElem?] using this)
              | _ => simp [hi] at h
          | _ => simp at h
        obtain ⟨es, r, hes1, hfind, hr⟩ := hes
        have tupv : ∀ (y : AV) (Y : Value) (b : Bool), VR Γ y Y → VR Γ (.tup [y, .bool b]) (.tuple #[Y, .bool b]) := by
          intro y Y b hY
          refine .tup _ _ rfl (fun i hi => ?_)
          have : i = 0 ∨ i = 1 := by simp at hi; omega
          rcases this with rfl | rfl
          · exact hY
          · exact .bool b
        have fin : ∀ (V : Value) (b : Bool), (Instr.lookup t X K ok).run P Γ.w = .ok (if ok then .tuple #[V, .bool b] else V) Γ.w →
            (execOp a.eval o).run P Γ.w = .ok (.value (if ok then .tuple #[V, .bool b] else V)) Γ.w := by
          intro V b hr
          simp only [execOp, ho, hxe, hie, Sem.run_bind, hr, Result.andThen_ok, Sem.run_pure]
        rcases hfind with ⟨rfl, hn⟩ | ⟨v', j, V, rfl, hn, hv', _⟩
        · simp only at hr
          cases hz : zeroA P et with
          | none => simp [hz] at hr
          | some z =>
            simp only [hz, Option.map_some, Option.some.injEq] at hr
            obtain ⟨Z, _, _, _, hzr, rfl, _, _⟩ := zeroA_run hz Γ.w
            have hl : (Instr.lookup t X K ok).run P Γ.w = .ok (if ok then .tuple #[Z, .bool false] else Z) Γ.w := by
              unfold Instr.lookup
              rcases hes1 with ⟨rfl, rfl⟩ | ⟨b, clock, rfl, hgo⟩
              · simp only [Sem.run_bind, run_underlying hu, Result.andThen_ok, checkKey_run Γ.w _ _ hd hk, Instr.findKey, run_underlying hd, hn, Sem.run_pure, hzr]
              · simp only [Sem.run_bind, run_underlying hu, Result.andThen_ok, hgo, checkKey_run Γ.w _ _ hd hk, Instr.findKey, run_underlying hd, hn, Sem.run_pure, hzr]
            refine .still hI (fin Z false hl) ?_
            subst hr
            cases ok
            · exact ofVal_vr Γ Z
            · exact tupv _ _ _ (ofVal_vr Γ Z)
        · simp only [Option.some.injEq] at hr
          have hl : (Instr.lookup t X K ok).run P Γ.w = .ok (if ok then .tuple #[V, .bool true] else V) Γ.w := by
            unfold Instr.lookup
            rcases hes1 with ⟨rfl, rfl⟩ | ⟨b, clock, rfl, hgo⟩
            · simp only [Sem.run_bind, run_underlying hu, Result.andThen_ok, checkKey_run Γ.w _ _ hd hk, Instr.findKey, run_underlying hd, hn, Sem.run_pure]
            · simp only [Sem.run_bind, run_underlying hu, Result.andThen_ok, hgo, checkKey_run Γ.w _ _ hd hk, Instr.findKey, run_underlying hd, hn, Sem.run_pure]
          refine .still hI (fin V true hl) ?_
          subst hr
          cases ok
          · exact hv'
          · exact tupv _ _ _ hv'
    · cases h
  · cases h

theorem ok_typeAssert (hI : Inv Γ σ) (hg : GR Γ cfg) (hf : FR Γ ts a.tmps) (x : Operand) (xt t : TypeId) (ok : Bool) (ho : o.op = .typeAssert x xt t ok) (d : TypeDesc) (hd : P.underlying t = some d) (hn : ∀ ms, d ≠ .interface ms)
    (h : (aval cfg ts x = .nilif ∧ ok = true ∧ ∃ z, zeroA P t = some z ∧ v = .tup [z, .bool false]) ∨
      (∃ u y, aval cfg ts x = .iface u y ∧ ((u = t ∧ v = cond ok (.tup [y, .bool true]) y) ∨ (u ≠ t ∧ ok = true ∧ ∃ z, zeroA P t = some z ∧ v = .tup [z, .bool false])))) : OpOK P o a Γ σ id v σ := by
  have hX := aval_vr hg hf x
  have tupv : ∀ (y : AV) (Y : Value) (b : Bool), VR Γ y Y → VR Γ (.tup [y, .bool b]) (.tuple #[Y, .bool b]) := by
    intro y Y b hY
    refine .tup _ _ rfl (fun i hi => ?_)
    have : i = 0 ∨ i = 1 := by simp at hi; omega
    rcases this with rfl | rfl
    · exact hY
    · exact .bool b
  have run : ∀ y, (Instr.typeAssert (a.eval x) xt t ok).run P Γ.w = .ok y Γ.w → (execOp a.eval o).run P Γ.w = .ok (.value y) Γ.w := by
    intro y hr
    simp only [execOp, ho, Sem.run_bind, hr, Result.andThen_ok, Sem.run_pure]
  rcases h with ⟨hx, rfl, z, hz, rfl⟩ | ⟨u, y, hx, ⟨rfl, rfl⟩ | ⟨hne, rfl, z, hz, rfl⟩⟩
  · rw [hx] at hX
    generalize hxe : a.eval x = X at hX run
    cases hX
    obtain ⟨Z, _, _, _, hzr, rfl, _, _⟩ := zeroA_run hz Γ.w
    refine .still hI (run (.tuple #[Z, .bool false]) ?_) (tupv _ _ _ (ofVal_vr Γ Z))
    unfold Instr.typeAssert
    cases d <;> first | (exact absurd rfl (hn _)) | (simp [run_underlying hd, hzr])
  · rw [hx] at hX
    generalize hxe : a.eval x = X at hX run
    cases hX with
    | iface _ _ Y hY hs =>
      refine .still hI (run (if ok then .tuple #[Y, .bool true] else Y) ?_) ?_
      · unfold Instr.typeAssert
        cases d <;> first | (exact absurd rfl (hn _)) | (simp [run_underlying hd])
      · cases ok
        · exact hY
        · exact tupv _ _ _ hY
  · rw [hx] at hX
    generalize hxe : a.eval x = X at hX run
    cases hX with
    | iface _ _ Y hY hs =>
      obtain ⟨Z, _, _, _, hzr, rfl, _, _⟩ := zeroA_run hz Γ.w
      refine .still hI (run (.tuple #[Z, .bool false]) ?_) (tupv _ _ _ (ofVal_vr Γ Z))
      unfold Instr.typeAssert
      cases d <;> first | (exact absurd rfl (hn _)) | (simp [run_underlying hd, hzr, hne])
end
end Go.Am
