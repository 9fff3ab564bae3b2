/-
An abstract machine over the model's code: lists are values, blocks have abstract ids. Definitions alone.
The abstract machine's operations and its run over code. Definitions alone.
The abstract machine: regions whose order is drawn; code; calls. Definitions alone.
How the abstract machine's values and blocks read in a world.
One block that changes or comes: the state goes on reading as the abstract one.
-/
import Derived.Orders
import Derived.Calls
import Derived.Laws.Sem
import Derived.Laws.AppendOwn
import Derived.Below
set_option linter.unusedVariables false
set_option linter.unusedSimpArgs false
namespace Go.Am
open Go

/-- Abstract values. -/
inductive AV where
  | undef
  | bool (b : Bool)
  | int (k : IntKind) (n : Int)
  | str (s : List UInt8)
  | nilp
  | ptr (id i off : Nat)
  | rptr (x : AV) (off : Nat)
  | nils
  | lst (xs : List AV) (t : Option Nat)
  | sl (k id lo len : Nat)
  | agg (cs : List AV)
  | tup (vs : List AV)
  | func (f : FuncId) (first caps : List AV)
  | nilf
  | iface (t : TypeId) (v : AV)
  | nilif
  | nilm
  | map (id : Nat)
  | pmap (ks vs : List AV)
  | iter (id : Nat)
  deriving Inhabited

def AV.cells : AV → List AV
  | .agg cs => cs
  | v => [v]

/-- A value that one cell can hold, whatever it is. -/
def AV.isCell : AV → Bool
  | .undef | .agg _ | .tup _ => false
  | _ => true

def AV.storable : AV → Bool
  | .undef | .tup _ => false
  | _ => true

/-- A trie over numbers. -/
inductive Tr (α : Type) where
  | leaf
  | node (v : Option α) (l r : Tr α)

def Tr.get {α : Type} : Tr α → Nat → Option α
  | .leaf, _ => none
  | .node v l r, n => cond (Nat.beq n 0) v (cond (Nat.beq (n % 2) 1) (l.get ((n - 1) / 2)) (r.get ((n - 1) / 2)))

def Tr.root {α : Type} : Tr α → Option α
  | .leaf => none
  | .node v _ _ => v
def Tr.left {α : Type} : Tr α → Tr α
  | .leaf => .leaf
  | .node _ l _ => l
def Tr.right {α : Type} : Tr α → Tr α
  | .leaf => .leaf
  | .node _ _ r => r

def Tr.setF {α : Type} (x : Option α) : Nat → Tr α → Nat → Tr α
  | 0, t, _ => t
  | f + 1, t, n => cond (Nat.beq n 0) (.node x t.left t.right)
      (cond (Nat.beq (n % 2) 1) (.node t.root (Tr.setF x f t.left ((n - 1) / 2)) t.right) (.node t.root t.left (Tr.setF x f t.right ((n - 1) / 2))))

def Tr.set {α : Type} (t : Tr α) (n : Nat) (x : Option α) : Tr α := Tr.setF x (Nat.log2 (n + 1) + 1) t n

theorem Tr.get_root {α : Type} (t : Tr α) : t.get 0 = t.root := by cases t <;> simp [Tr.get, Tr.root]
theorem Tr.get_left {α : Type} (t : Tr α) (m : Nat) : t.left.get m = t.get (2 * m + 1) := by
  cases t with
  | leaf => simp [Tr.get, Tr.left]
  | node v l r =>
    have h1 : Nat.beq (2 * m + 1) 0 = false := rfl
    have h2 : (2 * m + 1) % 2 = 1 := by omega
    simp [Tr.get, Tr.left, h1, h2]
theorem Tr.get_right {α : Type} (t : Tr α) (m : Nat) : t.right.get m = t.get (2 * m + 2) := by
  cases t with
  | leaf => simp [Tr.get, Tr.right]
  | node v l r =>
    have h1 : Nat.beq (2 * m + 2) 0 = false := rfl
    have h2 : Nat.beq ((2 * m + 2) % 2) 1 = false := by rw [show (2 * m + 2) % 2 = 0 by omega]; rfl
    have h3 : (2 * m + 2 - 1) / 2 = m := by omega
    simp only [Tr.get, Tr.right, h1, h2, h3, cond]
theorem Tr.get_setF {α : Type} (x : Option α) : ∀ (f : Nat) (t : Tr α) (n j : Nat), n + 1 < 2 ^ f → (Tr.setF x f t n).get j = if j = n then x else t.get j := by
  intro f
  induction f with
  | zero => intro t n j h; simp at h
  | succ f ih =>
    intro t n j h
    by_cases hn : n = 0
    · subst hn
      simp only [Tr.setF, cond]
      by_cases hj : j = 0
      · subst hj; simp [Tr.get]
      · have hb : Nat.beq j 0 = false := by cases j <;> simp_all [Nat.beq]
        simp only [Tr.get, hb, cond, hj, if_false]
        by_cases ho : j % 2 = 1
        · have : Nat.beq (j % 2) 1 = true := by rw [ho]; rfl
          rw [this, Tr.get_left]; show t.get _ = _; congr 1; omega
        · have hz : j % 2 = 0 := by omega
          have : Nat.beq (j % 2) 1 = false := by rw [hz]; rfl
          rw [this, Tr.get_right]; show t.get _ = _; congr 1; omega
    · have hb : Nat.beq n 0 = false := by cases n <;> simp_all [Nat.beq]
      have hm : (n - 1) / 2 + 1 < 2 ^ f := by rw [Nat.pow_succ] at h; omega
      simp only [Tr.setF, hb, cond]
      by_cases ho : n % 2 = 1
      · have hB : Nat.beq (n % 2) 1 = true := by rw [ho]; rfl
        rw [hB]
        simp only [Tr.get]
        by_cases hj : j = 0
        · subst hj; have : ¬ 0 = n := fun e => hn e.symm
          simp only [cond, this, if_false, Tr.get_root]
        · have hjb : Nat.beq j 0 = false := by cases j <;> simp_all [Nat.beq]
          simp only [hjb, cond]
          by_cases hjo : j % 2 = 1
          · have : Nat.beq (j % 2) 1 = true := by rw [hjo]; rfl
            rw [this]; simp only [ih _ _ _ hm, Tr.get_left]
            have e : 2 * ((j - 1) / 2) + 1 = j := by omega
            rw [e]
            by_cases hjn : j = n
            · subst hjn; simp
            · have : ¬ (j - 1) / 2 = (n - 1) / 2 := by omega
              simp [this, hjn]
          · have hz : j % 2 = 0 := by omega
            have : Nat.beq (j % 2) 1 = false := by rw [hz]; rfl
            rw [this]; simp only [Tr.get_right]
            have e : 2 * ((j - 1) / 2) + 2 = j := by omega
            have hjn : ¬ j = n := by omega
            rw [e]; simp [hjn]
      · have hz : n % 2 = 0 := by omega
        have hB : Nat.beq (n % 2) 1 = false := by rw [hz]; rfl
        rw [hB]
        simp only [Tr.get]
        by_cases hj : j = 0
        · subst hj; have : ¬ 0 = n := fun e => hn e.symm
          simp only [cond, this, if_false, Tr.get_root]
        · have hjb : Nat.beq j 0 = false := by cases j <;> simp_all [Nat.beq]
          simp only [hjb, cond]
          by_cases hjo : j % 2 = 1
          · have : Nat.beq (j % 2) 1 = true := by rw [hjo]; rfl
            rw [this]; simp only [Tr.get_left]
            have e : 2 * ((j - 1) / 2) + 1 = j := by omega
            have hjn : ¬ j = n := by omega
            rw [e]; simp [hjn]
          · have hz' : j % 2 = 0 := by omega
            have : Nat.beq (j % 2) 1 = false := by rw [hz']; rfl
            rw [this]; simp only [ih _ _ _ hm, Tr.get_right]
            have e : 2 * ((j - 1) / 2) + 2 = j := by omega
            rw [e]
            by_cases hjn : j = n
            · subst hjn; simp
            · have : ¬ (j - 1) / 2 = (n - 1) / 2 := by omega
              simp [this, hjn]
theorem Tr.get_set {α : Type} (t : Tr α) (n : Nat) (x : Option α) (j : Nat) : (t.set n x).get j = if j = n then x else t.get j :=
  Tr.get_setF x _ t n j Nat.lt_log2_self

/-- What an abstract block holds. -/
inductive Blk where
  | row (k : Nat) (xs : List AV) (ty : Option TypeId)
  | tok (k n : Nat) (ty : Option TypeId)
  | map (ks vs : List AV)
  | iterS (s : List UInt8) (pos : Nat)

/-- The type of a block's elements, as it is known. -/
def tyOf : Option TypeId → TypeId → TypeId
  | some e, _ => e
  | none, t => t

def keepT (ty : Option TypeId) (e : TypeId) : Option TypeId := if ty = some e then some e else none
theorem keepT_eq (ty : Option TypeId) (e t : TypeId) : tyOf (keepT ty e) (tyOf ty t) = tyOf ty t := by
  unfold keepT
  split
  · rename_i h; subst h; rfl
  · rfl
theorem keepT_new (ty : Option TypeId) (e : TypeId) : tyOf (keepT ty e) e = e := by
  unfold keepT
  split <;> rfl

structure ASt where
  next : Nat
  wp : Nat
  heap : Tr Blk

def ASt.get (σ : ASt) (id : Nat) : Option Blk := σ.heap.get id
def ASt.put (σ : ASt) (id : Nat) (b : Blk) : ASt := { σ with heap := σ.heap.set id (some b) }
def ASt.del (σ : ASt) (id : Nat) : ASt := { σ with heap := σ.heap.set id none }
theorem ASt.get_put (σ : ASt) (id : Nat) (b : Blk) (j : Nat) : (σ.put id b).get j = if j = id then some b else σ.get j := Tr.get_set ..
theorem ASt.get_del (σ : ASt) (id : Nat) (j : Nat) : (σ.del id).get j = if j = id then none else σ.get j := Tr.get_set ..


/-! ### Types -/
def isAggD : TypeDesc → Bool
  | .struct _ | .array _ _ => true
  | _ => false
def szT (P : Program) (t : TypeId) : Nat := P.cellsOf t
def elemT (P : Program) (t : TypeId) : Option TypeId :=
  match P.underlying t with
  | some (.slice e) => some e
  | _ => none

def ofScalar : Value → AV
  | .bool b => .bool b
  | .int k n => .int k n
  | .string s => .str s.data.toList
  | .pointer none => .nilp
  | .slice _ 0 0 => .nils
  | .map none => .nilm
  | .nilFunc => .nilf
  | .nilIface => .nilif
  | _ => .undef
def ofVal : Value → AV
  | .agg cs => cond (cs.toList.all (·.oneCell')) (.agg (cs.toList.map ofScalar)) .undef
  | v => ofScalar v

def zeroT (P : Program) (t : TypeId) : Option AV := ((P.info? t).bind (·.zero)).map ofVal

/-- New blocks, at the next ids. -/
def addB (σ : ASt) (bs : List Blk) : ASt := bs.foldl (fun σ b => ⟨σ.next + 1, σ.wp, σ.heap.set σ.next (some b)⟩) σ

structure AFr where
  ts : List AV
  ds : List (AV × List AV)

def AFr.put (fr : AFr) (d : Option Tmp) (v : AV) : AFr :=
  match d with
  | some d => { fr with ts := fr.ts.set d v }
  | none => fr

/-- How functions are called: 0 plainly; 1 without touching what was there, what comes is sealed. -/
structure Cfg where
  mode : FuncId → Nat
  rows : FuncId → Bool
  glob : Nat → AV
  ext : FuncId → List AV → ASt → Option (Bool × AV × List Blk)

def aval (cfg : Cfg) (ts : List AV) : Operand → AV
  | .tmp t => ts.getD t .undef
  | .const v => ofVal v
  | .global g => cfg.glob g
  | .func f => .func f [] []

/-! ### Equality of abstract values (a sound test) -/
def beqBytes : List UInt8 → List UInt8 → Bool
  | [], [] => true
  | a :: x, b :: y => cond (Nat.beq a.toNat b.toNat) (beqBytes x y) false
  | _, _ => false

mutual
def AV.beq : AV → AV → Bool
  | .undef, .undef => true
  | .bool a, .bool b => a == b
  | .int j a, .int k b => decide (j = k) && decide (a = b)
  | .str a, .str b => beqBytes a b
  | .nilp, .nilp => true
  | .ptr a b c, .ptr a' b' c' => Nat.beq a a' && Nat.beq b b' && Nat.beq c c'
  | .rptr a b, .rptr a' b' => a.beq a' && Nat.beq b b'
  | .nils, .nils => true
  | .lst xs t, .lst xs' t' => AV.beqs xs xs' && decide (t = t')
  | .sl a b c d, .sl a' b' c' d' => Nat.beq a a' && Nat.beq b b' && Nat.beq c c' && Nat.beq d d'
  | .agg xs, .agg ys => AV.beqs xs ys
  | .tup xs, .tup ys => AV.beqs xs ys
  | .func f a b, .func f' a' b' => Nat.beq f f' && AV.beqs a a' && AV.beqs b b'
  | .nilf, .nilf => true
  | .iface t v, .iface t' v' => Nat.beq t t' && v.beq v'
  | .nilif, .nilif => true
  | .nilm, .nilm => true
  | .map a, .map b => Nat.beq a b
  | .pmap a b, .pmap a' b' => AV.beqs a a' && AV.beqs b b'
  | .iter a, .iter b => Nat.beq a b
  | _, _ => false
def AV.beqs : List AV → List AV → Bool
  | [], [] => true
  | x :: xs, y :: ys => x.beq y && AV.beqs xs ys
  | _, _ => false
end

/-! ### Closing: what comes of a call has no ids from a number on; its lists are plain -/
def mapO (g : AV → Option AV) : List AV → Option (List AV)
  | [] => some []
  | x :: xs => match g x, mapO g xs with
    | some y, some ys => some (y :: ys)
    | _, _ => none

mutual
def shutW (J : AV → Option AV) : AV → Option AV
  | .lst xs _ => (shutWs J xs).map fun ys => .lst ys none
  | .nils => some (.lst [] none)
  | .rptr x off => (shutW J x).map fun y => .rptr y off
  | .agg cs => (shutWs J cs).map .agg
  | .tup cs => (shutWs J cs).map .tup
  | .func g a b => match shutWs J a, shutWs J b with
    | some a', some b' => some (.func g a' b')
    | _, _ => none
  | .iface t v => (shutW J v).map (.iface t)
  | .pmap ks vs => match shutWs J ks, shutWs J vs with
    | some a, some b => some (.pmap a b)
    | _, _ => none
  | .sl k id a n => J (.sl k id a n)
  | .ptr id i off => J (.ptr id i off)
  | .map id => J (.map id)
  | .iter id => J (.iter id)
  | v => some v
def shutWs (J : AV → Option AV) : List AV → Option (List AV)
  | [] => some []
  | x :: xs => match shutW J x, shutWs J xs with
    | some y, some ys => some (y :: ys)
    | _, _ => none
end

def jump (σ : ASt) (lo : Nat) (S : AV → Option AV) : AV → Option AV
  | .sl k id a n => if id < lo then some (.sl k id a n) else
      match σ.get id with
      | some (.row k' xs _) => if k' = k ∧ a + n ≤ xs.length then (mapO S ((xs.drop a).take n)).map fun ys => .lst ys none else none
      | _ => none
  | .ptr id i off => if id < lo then some (.ptr id i off) else
      match σ.get id with
      | some (.row _ xs _) => match xs[i]? with
        | some x => (S x).map fun y => .rptr y off
        | none => none
      | _ => none
  | .map id => if id < lo then some (.map id) else
      match σ.get id with
      | some (.map ks vs) => match mapO S ks, mapO S vs with
        | some a, some b => some (.pmap a b)
        | _, _ => none
      | _ => none
  | _ => none

def shut (σ : ASt) (lo : Nat) : Nat → AV → Option AV
  | 0 => shutW (jump σ lo fun _ => none)
  | f + 1 => shutW (jump σ lo (shut σ lo f))
end Go.Am

set_option linter.unusedVariables false
namespace Go.Am
open Go

inductive Eff where
  | pure
  | new (b : Blk)
  | upd (σ : ASt)

def okZ (v : Value) : Bool := v.cells.all (·.oneCell')
def zeroA (P : Program) (t : TypeId) : Option AV :=
  match (P.info? t).bind (·.zero) with
  | some z => cond (okZ z && decide (z.cells.size = szT P t)) (some (ofVal z)) none
  | none => none

def loadA (P : Program) (t : TypeId) (cs : List AV) (off : Nat) : Option AV :=
  match P.underlying t with
  | none => none
  | some d => cond (isAggD d) (cond (Nat.ble (off + szT P t) cs.length) (some (.agg ((cs.drop off).take (szT P t)))) none) (cs[off]?)

def fillA (place : Nat → Option (Nat × Nat)) : List AV → List (Nat × AV) → Option (List AV)
  | cs, [] => some cs
  | cs, (i, v) :: r =>
    match place i with
    | none => none
    | some (off, n) =>
      cond (v.storable && Nat.beq v.cells.length n && Nat.ble (off + n) cs.length)
        (fillA place (cs.take off ++ v.cells ++ cs.drop (off + n)) r) none

/-- The elements of a literal, one behind the other. -/
def elemsA (n : Nat) : Nat → List (Nat × AV) → Option (List AV)
  | _, [] => some []
  | i, (j, v) :: r => cond (Nat.beq i j && v.storable && Nat.beq v.cells.length n) ((elemsA n (i + 1) r).map (v :: ·)) none

def intA (op : BinOp) (k : IntKind) (x y : Int) : Option AV :=
  match op with
  | .add => some (.int k (k.wrap (x + y)))
  | .sub => some (.int k (k.wrap (x - y)))
  | .mul => some (.int k (k.wrap (x * y)))
  | .quo => if y = 0 then none else some (.int k (k.wrap (x.tdiv y)))
  | .rem => if y = 0 then none else some (.int k (x.tmod y))
  | .and => some (.int k (k.wrap (BitVec.ofInt k.bits x &&& BitVec.ofInt k.bits y).toNat))
  | .or => some (.int k (k.wrap (BitVec.ofInt k.bits x ||| BitVec.ofInt k.bits y).toNat))
  | .xor => some (.int k (k.wrap (BitVec.ofInt k.bits x ^^^ BitVec.ofInt k.bits y).toNat))
  | .andNot => some (.int k (k.wrap (BitVec.ofInt k.bits x &&& ~~~ BitVec.ofInt k.bits y).toNat))
  | .eql => some (.bool (x == y))
  | .neq => some (.bool (x != y))
  | .lss => some (.bool (decide (x < y)))
  | .leq => some (.bool (decide (x ≤ y)))
  | .gtr => some (.bool (decide (x > y)))
  | .geq => some (.bool (decide (x ≥ y)))
  | _ => none

def lessB : List UInt8 → List UInt8 → Bool
  | _, [] => false
  | [], _ :: _ => true
  | a :: x, b :: y => cond (Nat.blt a.toNat b.toNat) true (cond (Nat.beq a.toNat b.toNat) (lessB x y) false)

def strA (op : BinOp) (x y : List UInt8) : Option AV :=
  match op with
  | .add => if x.length + y.length ≤ 9223372036854775807 then some (.str (x ++ y)) else none
  | .eql => some (.bool (beqBytes x y))
  | .neq => some (.bool (!beqBytes x y))
  | .lss => some (.bool (lessB x y))
  | .leq => some (.bool (lessB x y || beqBytes x y))
  | .gtr => some (.bool (!(lessB x y || beqBytes x y)))
  | .geq => some (.bool (!lessB x y))
  | _ => none

/-- '==' by the type, over cells. -/
def eqCells (P : Program) : Nat → TypeId → AV → AV → Option Bool
  | 0, _, _, _ => none
  | d + 1, t, x, y =>
    match P.underlying t, x, y with
    | some .bool, .bool a, .bool b => some (a == b)
    | some (.int _), .int k a, .int k' b => if k = k' then some (a == b) else none
    | some .string, .str a, .str b => some (beqBytes a b)
    | some (.pointer _), .nilp, .nilp => some true
    | some (.pointer e), .ptr i j k, .ptr i' j' k' => cond (Nat.beq i i' && Nat.beq j j' && Nat.beq k k' && (P.info? e).isSome) (some true) none
    | some (.pointer _), .nilp, .ptr .. => some false
    | some (.pointer _), .ptr .., .nilp => some false
    | some (.pointer _), .nilp, .rptr .. => some false
    | some (.pointer _), .rptr .., .nilp => some false
    | some (.func ..), .nilf, .nilf => some true
    | some (.func ..), .func .., .nilf => some false
    | some (.func ..), .nilf, .func .. => some false
    | some (.interface _), .nilif, .nilif => some true
    | some (.interface _), .nilif, .iface .. => some false
    | some (.interface _), .iface .., .nilif => some false
    | some (.interface _), .iface tx vx, .iface ty vy =>
      if tx = ty then cond (((P.info? tx).map (·.comparable)).getD false) (eqCells P d tx vx vy) none else some false
    | some (.struct fs), .agg xs, .agg ys =>
      cond (P.stoodInHeld t) none (eqFields (eqCells P d) P xs ys fs.toList)
    | _, _, _ => none
  where
  eqFields (E : TypeId → AV → AV → Option Bool) (P : Program) (xs ys : List AV) : List Field → Option Bool
    | [] => some true
    | f :: r =>
      if f.name = "_" then none else
      match loadA P f.type xs f.offset, loadA P f.type ys f.offset with
      | some a, some b =>
        match E f.type a b with
        | some true => eqFields E P xs ys r
        | some false => some false
        | none => none
      | _, _ => none

def isConstO : Operand → Bool
  | .const _ => true
  | _ => false

def eqA (P : Program) (t : TypeId) (cx cy : Bool) (x y : AV) : Option Bool :=
  match x, y with
  | .nilif, .nilif => cond (cx || cy) (eqCells P 40 t x y) none
  | .agg _, .agg _ => cond (P.eqGuardType P.depth t) none (eqCells P 40 t x y)
  | _, _ => eqCells P 40 t x y

def AV.nonNum : AV → Bool
  | .undef | .int .. | .str _ => false
  | _ => true

def binA (P : Program) (op : BinOp) (t : TypeId) (cx cy : Bool) (x y : AV) : Option AV :=
  match op, x, y with
  | .shl, .int k a, .int _ b => if b < 0 then none else some (.int k (k.wrap (a * 2 ^ (min b.toNat k.bits))))
  | .shr, .int k a, .int _ b => if b < 0 then none else some (.int k (a.fdiv (2 ^ (min b.toNat k.bits))))
  | op, .int k a, .int k' b => if k = k' then intA op k a b else none
  | op, .str a, .str b => strA op a b
  | .eql, x, y => cond (x.nonNum && y.nonNum) ((eqA P t cx cy x y).map .bool) none
  | .neq, x, y => cond (x.nonNum && y.nonNum) ((eqA P t cx cy x y).map fun b => .bool (!b)) none
  | _, _, _ => none

def unA (op : UnOp) (x : AV) : Option AV :=
  match op, x with
  | .not, .bool b => some (.bool (!b))
  | .neg, .int k n => some (.int k (k.wrap (0 - n)))
  | _, _ => none

def bytesOf : List AV → Option (List UInt8)
  | [] => some []
  | .int .u8 n :: r => (bytesOf r).map (UInt8.ofNat n.toNat :: ·)
  | _ :: _ => none

/-- The elements that a slice reads as. -/
def listA (σ : ASt) : AV → Option (List AV)
  | .nils => some []
  | .lst xs _ => some xs
  | .sl k id lo n =>
    match σ.get id with
    | some (.row k' xs _) => if k' = k ∧ lo + n ≤ xs.length then some ((xs.drop lo).take n) else none
    | _ => none
  | _ => none

def convA (P : Program) (σ : ASt) (id : Nat) (src dst : TypeId) (x : AV) : Option (AV × Eff) :=
  match P.underlying src, P.underlying dst, x with
  | some (.pointer t), some .unsafePointer, .ptr i j c =>
    match σ.get i with
    | some (.row k xs _) => cond (Nat.blt j xs.length && Nat.blt c k && !(Nat.beq (szT P t) 0)) (some (.ptr i j c, .pure)) none
    | _ => none
  | some .unsafePointer, some (.pointer u), .ptr i j c =>
    match σ.get i with
    | some (.row k xs (some e)) => cond (!(Nat.beq (szT P u) 0) && !(Nat.beq k 0) && Nat.beq (P.cellsOf e) k && liesAt P P.depth e xs.length (j * k + c) u 1) (some (.ptr i j c, .pure)) none
    | _ => none
  | some _, some (.int k), .int _ n => some (.int k (k.wrap n), .pure)
  | some .string, some .string, .str s => some (.str s, .pure)
  | some .string, some (.slice e), .str s =>
    match P.underlying e with
    | some (.int .u8) => some (.lst (s.map fun b => .int .u8 b.toNat) none, .pure)
    | _ => none
  | some (.slice e), some .string, x =>
    match P.underlying e with
    | some (.int .u8) =>
      match listA σ x with
      | some l => (bytesOf l).map fun s => (.str s, .pure)
      | none => none
    | _ => none
  | _, _, _ => none

def limit : Nat := 140737488355328

def keyEq : TypeDesc → AV → AV → Option Bool
  | .int _, .int j a, .int k b => if j = k then some (a == b) else none
  | .string, .str a, .str b => some (beqBytes a b)
  | .bool, .bool a, .bool b => some (a == b)
  | _, _, _ => none

def findA (d : TypeDesc) (key : AV) : List AV → List AV → Option (Option AV)
  | [], [] => some none
  | k :: ks, v :: vs =>
    match keyEq d key k with
    | some true => some (some v)
    | some false => findA d key ks vs
    | none => none
  | _, _ => none

def keyD : TypeDesc → Bool
  | .int _ | .string | .bool => true
  | _ => false

def lookA (P : Program) (σ : ASt) (t : TypeId) (m key : AV) (ok : Bool) : Option AV :=
  match P.underlying t with
  | some (.map kt et) =>
    match P.underlying kt with
    | some d => cond (keyD d)
      (match (match m with
        | .nilm => some none
        | .pmap ks vs => findA d key ks vs
        | .map id => match σ.get id with
          | some (.map ks vs) => findA d key ks vs
          | _ => none
        | _ => none : Option (Option AV)) with
      | some (some v) => some (cond ok (.tup [v, .bool true]) v)
      | some none => (zeroA P et).map fun z => cond ok (.tup [z, .bool false]) z
      | none => none) none
    | none => none
  | _ => none

def updA (d : TypeDesc) (key v : AV) : List AV → List AV → Option (List AV × List AV)
  | [], [] => some ([key], [v])
  | k :: ks, u :: vs =>
    match keyEq d key k with
    | some true => some (key :: ks, v :: vs)
    | some false => (updA d key v ks vs).map fun r => (k :: r.1, u :: r.2)
    | none => none
  | _, _ => none

def appendA (P : Program) (cfg : Cfg) (σ : ASt) (rowMode : Bool) (id : Nat) (t : TypeId) (s x : AV) : Option (AV × Eff) :=
  match elemT P t, listA σ x with
  | some e, some ys =>
    let k := szT P e
    let by_ := P.bytesOf e
    cond (Nat.beq by_ 0 || Nat.beq k 0 || !(ys.all fun y => Nat.beq y.cells.length k) || (zeroA P e).isNone) none
    (match s with
    | .nils => match ys with
      | [] => some (.nils, .pure)
      | _ => if ys.length * by_ ≤ limit then
          cond rowMode (some (.sl k id 0 ys.length, .new (.row k ys (some e)))) (some (.lst ys (some id), .new (.tok k ys.length (some e))))
        else none
    | .lst xs (some tk) => match ys with
      | [] => some (s, .pure)
      | _ => match σ.get tk with
        | some (.tok k' n ty) =>
          if k' = k ∧ n = xs.length ∧ σ.wp ≤ tk ∧ (xs.length + ys.length) * by_ ≤ limit ∧ tk ≠ id then
            some (.lst (xs ++ ys) (some id), .upd ((σ.del tk).put id (.tok k (xs.length + ys.length) (keepT ty e))))
          else none
        | _ => none
    | .lst xs none => match ys with
      | [] => some (s, .pure)
      | _ => none
    | .sl k' i0 lo n => match ys with
      | [] => some (s, .pure)
      | _ => match σ.get i0 with
      | some (.row k'' zs ty) =>
        if k' = k ∧ k'' = k ∧ lo = 0 ∧ n ≤ zs.length ∧ σ.wp ≤ i0 ∧ (n + ys.length) * by_ ≤ limit ∧ i0 ≠ id then
          some (.sl k id 0 (n + ys.length), .upd ((σ.del i0).put id (.row k (zs.take n ++ ys) (keepT ty e))))
        else none
      | _ => none
    | _ => none)
  | _, _ => none

def slicePos (x : AV) : Option Int :=
  match x with
  | .int _ n => some n
  | _ => none

/-- Low and high bounds over a length. -/
def cutA (len : Nat) (lo hi : Option AV) : Option (Nat × Nat) :=
  match (match hi with
    | none => some len
    | some v => match slicePos v with
      | some n => if 0 ≤ n ∧ n ≤ len then some n.toNat else none
      | none => none : Option Nat) with
  | none => none
  | some h =>
    match lo with
    | none => some (0, h)
    | some v => match slicePos v with
      | some n => if 0 ≤ n ∧ n ≤ h then some (n.toNat, h) else none
      | none => none

def sliceL (P : Program) (e : TypeId) (x : AV) (lo hi mx : Option AV) : Option AV :=
  match x with
  | .nils =>
    match mx with
    | none => match cutA 0 lo hi with
      | some _ => some .nils
      | none => none
    | some m => match hi with
      | some q => match slicePos m, slicePos q, cutA 0 lo hi with
        | some n, some n', some _ => if n = n' then some .nils else none
        | _, _, _ => none
      | none => none
  | .lst xs tk =>
    match mx with
    | none => match cutA xs.length lo hi with
      | some (l, h) => cond (Nat.beq l 0 && Nat.beq h xs.length) (some (.lst xs tk))
          (cond (xs.all fun x => Nat.beq x.cells.length (szT P e)) (some (.lst ((xs.take h).drop l) none)) none)
      | none => none
    | some m => match hi with
      | some q => match slicePos m, slicePos q, cutA xs.length lo hi with
        | some n, some n', some (l, h) => if n = n' ∧ l = h then some .nils else none
        | _, _, _ => none
      | none => none
  | .sl k id a n =>
    match mx, cutA n lo hi with
    | none, some (l, h) => if k = szT P e then some (.sl k id (a + l) (h - l)) else none
    | _, _ => none
  | _ => none

def sliceA (P : Program) (t : TypeId) (x : AV) (lo hi mx : Option AV) : Option AV :=
  match P.underlying t with
  | some .string => match x with
    | .str s => match mx, cutA s.length lo hi with
      | none, some (l, h) => some (.str ((s.take h).drop l))
      | _, _ => none
    | _ => none
  | some (.slice e) => cond (Nat.beq (szT P e) 0) none (sliceL P e x lo hi mx)
  | _ => none

def fieldOf (P : Program) (t : TypeId) (f : Nat) : Option Field :=
  match P.underlying t with
  | some (.struct fs) => fs[f]?
  | _ => none

def idxA (P : Program) (t : TypeId) (x i : AV) : Option AV :=
  match P.underlying t, x, i with
  | some (.slice e), .lst xs _, .int _ n =>
    if 0 ≤ n ∧ n < xs.length ∧ szT P e ≠ 0 then (xs[n.toNat]?).bind fun y => cond (Nat.beq y.cells.length (szT P e)) (some (.rptr y 0)) none else none
  | some (.slice e), .sl k id lo len, .int _ n =>
    if 0 ≤ n ∧ n < len ∧ k = szT P e ∧ szT P e ≠ 0 then some (.ptr id (lo + n.toNat) 0) else none
  | some (.array len e), .ptr id j off, .int _ n =>
    if 0 ≤ n ∧ n < len ∧ szT P e ≠ 0 then some (.ptr id j (off + n.toNat * szT P e)) else none
  | some (.array len e), .rptr y off, .int _ n =>
    if 0 ≤ n ∧ n < len ∧ szT P e ≠ 0 then some (.rptr y (off + n.toNat * szT P e)) else none
  | _, _, _ => none

def lenA (P : Program) (σ : ASt) (t : TypeId) (x : AV) : Option AV :=
  match P.underlying t, x with
  | some .string, .str s => some (.int .i64 s.length)
  | some (.slice _), .nils => some (.int .i64 0)
  | some (.slice _), .lst xs _ => some (.int .i64 xs.length)
  | some (.slice _), .sl _ _ _ n => some (.int .i64 n)
  | some (.map ..), .nilm => some (.int .i64 0)
  | some (.map ..), .pmap ks _ => some (.int .i64 ks.length)
  | some (.map ..), .map id => match σ.get id with
    | some (.map ks _) => some (.int .i64 ks.length)
    | _ => none
  | _, _ => none

def maxA : AV → List AV → Option AV
  | x, [] => some x
  | .int k x, .int _ y :: r => maxA (.int k (if y > x then y else x)) r
  | _, _ => none
def minA : AV → List AV → Option AV
  | x, [] => some x
  | .int k x, .int _ y :: r => minA (.int k (if y < x then y else x)) r
  | _, _ => none

/-- One operation that is no call of a function, no panic, no defer. -/
def aop (P : Program) (cfg : Cfg) (rowMode : Bool) (σ : ASt) (id : Nat) (ρ : Operand → AV) (o : Oper) : Option (AV × Eff) :=
  match o.op with
  | .move x => some (ρ x, .pure)
  | .assign x => some (ρ x, .pure)
  | .pick c a b => match ρ c with
    | .bool t => some (cond t (ρ a) (ρ b), .pure)
    | _ => none
  | .alloc e => (zeroA P e).map fun z => (.ptr id 0 0, .new (.row z.cells.length [z] (some e)))
  | .box e x => match ρ x with
    | .undef | .tup _ => none
    | v => some (.ptr id 0 0, .new (.row v.cells.length [v] (some e)))
  | .build t parts =>
    match P.underlying t, zeroA P t with
    | some (.struct fs), some (.agg z) => cond (fs.toList.all fun f => (P.info? f.type).isSome)
        ((fillA (fun i => (fs[i]?).map fun f => (f.offset, szT P f.type)) z (parts.toList.map fun p => (p.1, ρ p.2))).map fun cs => (.agg cs, .pure)) none
    | some (.array _ e), some (.agg z) => cond (Nat.beq (szT P e) 0) none ((fillA (fun i => some (i * szT P e, szT P e)) z (parts.toList.map fun p => (p.1, ρ p.2))).map fun cs => (.agg cs, .pure))
    | _, _ => none
  | .buildSlice t len parts =>
    match elemT P t with
    | some e => if len * szT P e ≤ 16777216 ∧ 0 < szT P e then
        match len with
        | 0 => cond (parts.isEmpty && (zeroA P e).isSome) (some (.nils, .pure)) none
        | _ => (elemsA (szT P e) 0 (parts.toList.map fun p => (p.1, ρ p.2))).bind fun xs =>
              cond (Nat.beq xs.length len && (zeroA P e).isSome) (some (cond rowMode (.sl (szT P e) id 0 len, .new (.row (szT P e) xs none)) (.lst xs (some id), .new (.tok (szT P e) len none)))) none
        else none
    | none => none
  | .load t a => match ρ a with
    | .ptr i j off => match σ.get i with
      | some (.row _ xs _) => (xs[j]?).bind fun x => (loadA P t x.cells off).map fun v => (v, .pure)
      | _ => none
    | .rptr x off => (loadA P t x.cells off).map fun v => (v, .pure)
    | _ => none
  | .store t a x => match ρ a with
    | .ptr i j off => match σ.get i with
      | some (.row k xs ty) =>
        let v := ρ x
        (xs[j]?).bind fun y =>
          if v.storable = true ∧ v.cells.length = szT P t ∧ szT P t ≠ 0 ∧ off + v.cells.length ≤ y.cells.length ∧ σ.wp ≤ i then
            let cs := y.cells.take off ++ v.cells ++ y.cells.drop (off + v.cells.length)
            some (.undef, .upd (σ.put i (.row k (xs.set j (match y with
              | .agg _ => .agg cs
              | _ => v)) ty)))
          else none
      | _ => none
    | _ => none
  | .nilCheck x => match ρ x with
    | .ptr i j off => some (.ptr i j off, .pure)
    | .rptr y off => some (.rptr y off, .pure)
    | _ => none
  | .binOp op t x y _ => (binA P op t (isConstO x) (isConstO y) (ρ x) (ρ y)).map fun v => (v, .pure)
  | .unOp op _ x => (unA op (ρ x)).map fun v => (v, .pure)
  | .convert s d x => convA P σ id s d (ρ x)
  | .makeInterface t x => match P.underlying t with
    | some (.interface _) => none
    | some _ => cond (ρ x).storable (some (.iface t (ρ x), .pure)) none
    | none => none
  | .makeFunc fn first caps => match fn with
    | .func f => some (.func f (first.toList.map ρ) (caps.toList.map ρ), .pure)
    | _ => none
  | .makeMap t r => match r with
    | none => some (.map id, .new (.map [] []))
    | some _ => none
  | .makeSlice t l c => match elemT P t, ρ l, ρ c with
    | some e, .int .i64 n, .int .i64 m =>
      if 0 ≤ n ∧ n = m ∧ n.toNat * P.bytesOf e ≤ limit ∧ 0 < P.bytesOf e ∧ 0 < szT P e then
        match zeroA P e with
        | some z => cond (Nat.beq n.toNat 0) (some (.nils, .pure)) (some (.sl (szT P e) id 0 n.toNat, .new (.row (szT P e) (List.replicate n.toNat z) none)))
        | none => none
      else none
    | _, _, _ => none
  | .slice t x lo hi mx => (sliceA P t (ρ x) (lo.map ρ) (hi.map ρ) (mx.map ρ)).map fun v => (v, .pure)
  | .fieldAddr t x f => match fieldOf P t f with
    | some fd => cond (Nat.beq (szT P fd.type) 0) none (match ρ x with
      | .ptr i j off => some (.ptr i j (off + fd.offset), .pure)
      | .rptr y off => some (.rptr y (off + fd.offset), .pure)
      | _ => none)
    | none => none
  | .field t x f => match fieldOf P t f, ρ x with
    | some fd, .agg cs => (loadA P fd.type cs fd.offset).map fun v => (v, .pure)
    | _, _ => none
  | .indexAddr t x i => (idxA P t (ρ x) (ρ i)).map fun v => (v, .pure)
  | .index t x i => match P.underlying t, ρ x, ρ i with
    | some .string, .str s, .int _ n => if 0 ≤ n then (s[n.toNat]?).map fun b => (.int .u8 b.toNat, .pure) else none
    | some (.array len e), .agg cs, .int _ n => if 0 ≤ n ∧ n < len ∧ szT P e ≠ 0 then (loadA P e cs (n.toNat * szT P e)).map fun v => (v, .pure) else none
    | _, _, _ => none
  | .lookup t x i ok => (lookA P σ t (ρ x) (ρ i) ok).map fun v => (v, .pure)
  | .mapUpdate t m k v | .insert t m k v => match P.underlying t, ρ m with
    | some (.map kt _), .map i => match P.underlying kt with
      | some d => cond (keyD d && (ρ v).storable)
        (match σ.get i with
        | some (.map ks vs) => if σ.wp ≤ i then (updA d (ρ k) (ρ v) ks vs).map fun r => (.undef, .upd (σ.put i (.map r.1 r.2))) else none
        | _ => none) none
      | none => none
    | _, _ => none
  | .typeAssert x xt t ok => match P.underlying t, ρ x with
    | some (.interface _), _ => none
    | some _, .nilif => cond ok ((zeroA P t).map fun z => (.tup [z, .bool false], .pure)) none
    | some _, .iface u v => if u = t then some (cond ok (.tup [v, .bool true]) v, .pure) else cond ok ((zeroA P t).map fun z => (.tup [z, .bool false], .pure)) none
    | _, _ => none
  | .extract x i => match ρ x with
    | .tup vs => (vs[i]?).map fun v => (v, .pure)
    | _ => none
  | .call { callee := .builtin .len, args, argTypes } => match args.toList, argTypes.toList with
    | [x], [t] => (lenA P σ t (ρ x)).map fun v => (v, .pure)
    | _, _ => none
  | .call { callee := .builtin .append, args, argTypes } => match args.toList, argTypes.toList with
    | [s, x], [t, u] => if u = t then appendA P cfg σ rowMode id t (ρ s) (ρ x) else
      match P.underlying u, ρ x with
      | some .string, .str l => appendA P cfg σ rowMode id t (ρ s) (.lst (l.map fun b => .int .u8 b.toNat) none)
      | _, _ => none
    | _, _ => none
  | .call { callee := .builtin .unsafeSliceData, args, .. } => match args.toList with
    | [x] => match ρ x with
      | .sl _ i lo n => cond (Nat.beq n 0) none (some (.ptr i lo 0, .pure))
      | _ => none
    | _ => none
  | .call { callee := .builtin .unsafeString, args, argTypes } => match args.toList, argTypes.toList with
    | [p, x], [pt, _] => match P.underlying pt, ρ p, ρ x with
      | some (.pointer e), .ptr i 0 0, .int .i64 n => match σ.get i with
        | some (.row 1 zs (some e')) => match bytesOf (zs.take n.toNat) with
          | some l => cond (decide (n = l.length) && !(l.isEmpty) && Nat.beq e e' && Nat.beq (P.cellsOf e) 1 && Nat.ble σ.wp i && Nat.ble l.length zs.length && Nat.ble l.length limit && AV.beqs (zs.take n.toNat) (l.map fun b => .int .u8 b.toNat))
              (some (.str l, .upd (σ.del i))) none
          | none => none
        | _ => none
      | _, _, _ => none
    | _, _ => none
  | .call { callee := .builtin .max, args, .. } => match args.toList.map ρ with
    | x :: r => (maxA x r).map fun v => (v, .pure)
    | [] => none
  | .call { callee := .builtin .min, args, .. } => match args.toList.map ρ with
    | x :: r => (minA x r).map fun v => (v, .pure)
    | [] => none
  | _ => none

inductive Flow where
  | norm
  | ret
  | exit (b : Nat)
  | panic (v : AV)

/-- How a call ends. -/
inductive CR where
  | ret (v : AV) (σ : ASt)
  | panic (v : AV) (σ : ASt)

abbrev XR := Option (Flow × AFr × ASt)

def wantedA (ops : List Oper) (ts : List AV) (o : Oper) : Bool :=
  match o.guard with
  | none => true
  | some (j, want) => match (ops[j]?).bind (·.dst) with
    | some d => match ts[d]? with
      | some (.bool b) => b == want
      | _ => false
    | none => false

/-- A guard whose answer is known. -/
def guardOk (ops : List Oper) (ts : List AV) (o : Oper) : Bool :=
  match o.guard with
  | none => true
  | some (j, _) => match (ops[j]?).bind (·.dst) with
    | some d => match ts[d]? with
      | some (.bool _) => true
      | some (.tup []) => true
      | _ => false
    | none => false

section
variable (P : Program) (cfg : Cfg) (call : FuncId → List AV → ASt → Option CR) (fuel : Nat)

def pureCall (f : FuncId) (args : List AV) (σ : ASt) : Option CR :=
  match call f args { σ with wp := σ.next } with
  | some (.ret v σ') => (shut σ' σ.next fuel v).map fun u => .ret u σ
  | some (.panic v σ') => (shut σ' σ.next fuel v).map fun u => .panic u σ
  | none => none

def doCall (f : FuncId) (args : List AV) (σ : ASt) : Option CR :=
  cond (Nat.beq (cfg.mode f) 0) (call f args σ) (pureCall call fuel f args σ)

/-- What is called, with which arguments. -/
def calleeA (ρ : Operand → AV) (o : Oper) : Option (FuncId × List AV) :=
  match o.op with
  | .call { callee := .value g, args, .. } => match ρ g with
    | .func f first caps => some (f, first ++ args.toList.map ρ ++ caps)
    | _ => none
  | _ => none

/-- One operation, in the order of the text. -/
inductive SR where
  | go (fr : AFr) (σ : ASt)
  | bad (v : AV) (σ : ASt)

def stepA (rowMode : Bool) (id : Nat) (o : Oper) (fr : AFr) (σ : ASt) : Option SR :=
  match o.op with
  | .panic x => match aval cfg fr.ts x with
    | .iface t v => some (.bad (.iface t v) σ)
    | _ => none
  | .defer { callee := .value g, args, .. } => match aval cfg fr.ts g with
    | .func f first caps => some (.go ({ fr with ds := (.func f [] caps, first ++ args.toList.map (aval cfg fr.ts)) :: fr.ds }.put o.dst (.tup [])) σ)
    | _ => none
  | _ => match calleeA (aval cfg fr.ts) o with
    | some (f, args) => match doCall cfg call fuel f args σ with
      | some (.ret v σ') => some (.go (fr.put o.dst v) σ')
      | some (.panic v σ') => some (.bad v σ')
      | none => none
    | none => match aop P cfg rowMode σ id (aval cfg fr.ts) o with
      | some (v, .pure) => some (.go (fr.put o.dst v) σ)
      | some (v, .new b) => some (.go (fr.put o.dst v) (σ.put id b))
      | some (v, .upd σ') => some (.go (fr.put o.dst v) σ')
      | none => none

/-- A region in the order of its text. -/
def seqA (rowMode : Bool) (ops : List Oper) (base : Nat) : Nat → List Oper → AFr → ASt → XR
  | _, [], fr, σ => some (.norm, fr, σ)
  | i, o :: rest, fr, σ =>
    cond (guardOk ops fr.ts o)
    (cond (wantedA ops fr.ts o)
      (match stepA P cfg call fuel rowMode (base + i) o fr σ with
      | some (.go fr' σ') => seqA rowMode ops base (i + 1) rest fr' σ'
      | some (.bad v σ') => some (.panic v, fr, σ')
      | none => none)
      (seqA rowMode ops base (i + 1) rest (fr.put o.dst (.tup [])) σ))
    none

def iterA (body : AFr → ASt → XR) : Nat → AFr → ASt → XR
  | 0, _, _ => none
  | n + 1, fr, σ => match body fr σ with
    | some (.norm, fr', σ') => iterA body n fr' σ'
    | r => r

end
end Go.Am

set_option linter.unusedVariables false
namespace Go.Am
open Go

/-- Does what an operation gives hang on memory? -/
def readsMem (o : Oper) : Bool :=
  match o.op with
  | .load .. | .lookup .. | .convert .. | .call _ => true
  | _ => false

structure Core where
  σ : ASt
  anc : Nat            -- the ancestors of the last writer
  w : Option Nat       -- the last writer

structure Rd where
  i : Nat
  ts : List AV
  v : AV
  b : Option Blk

structure DSt where
  fr : AFr
  cores : List Core            -- the newest first; the last is the start
  news : List (Nat × Blk)
  rds : List Rd

def viewC (base : Nat) (c : Core) (anc : Nat) (news : List (Nat × Blk)) : ASt :=
  news.foldr (fun p σ => cond (anc.testBit p.1 && !c.anc.testBit p.1) (σ.put (base + p.1) p.2) σ) c.σ

section
variable (P : Program) (cfg : Cfg) (call : FuncId → List AV → ASt → Option CR) (fuel : Nat)

/-- What an operation gives that writes nothing that was there: its value, and a new block. -/
def stillA (rowMode : Bool) (id : Nat) (ts : List AV) (o : Oper) (σ : ASt) : Option (AV × Option Blk) :=
  match calleeA (aval cfg ts) o with
  | some (f, args) => cond (Nat.beq (cfg.mode f) 0) none
      (match pureCall call fuel f args σ with
      | some (.ret v _) => some (v, none)
      | _ => none)
  | none => match aop P cfg rowMode σ id (aval cfg ts) o with
    | some (v, .pure) => some (v, none)
    | some (v, .new b) => some (v, some b)
    | _ => none

def sameNew : Option Blk → Option Blk → Bool
  | none, none => true
  | some (.row k xs e), some (.row k' ys e') => Nat.beq k k' && AV.beqs xs ys && decide (e = e')
  | some (.tok k n e), some (.tok k' m e') => Nat.beq k k' && Nat.beq n m && decide (e = e')
  | some (.map a b), some (.map a' b') => AV.beqs a a' && AV.beqs b b'
  | _, _ => false

/-- The same at all states between the last writer that is an ancestor and now. -/
def stable (rowMode : Bool) (base i : Nat) (anc : Nat) (ts : List AV) (o : Oper) (news : List (Nat × Blk)) (v : AV) (b : Option Blk) : List Core → Bool
  | [] => true
  | c :: r =>
    cond (match stillA P cfg call fuel rowMode (base + i) ts o (viewC base c anc news) with
      | some (v', b') => v.beq v' && sameNew b b'
      | none => false)
    (match c.w with
      | some j => cond (anc.testBit j) true (stable rowMode base i anc ts o news v b r)
      | none => true)
    false

/-- As 'stable', where the newest core has been looked at. -/
def stableT (rowMode : Bool) (base i : Nat) (anc : Nat) (ts : List AV) (o : Oper) (news : List (Nat × Blk)) (v : AV) (b : Option Blk) : List Core → Bool
  | [] => true
  | c :: r => match c.w with
    | some j => cond (anc.testBit j) true (stable P cfg call fuel rowMode base i anc ts o news v b r)
    | none => true

def recheck (rowMode : Bool) (ops : List Oper) (anc : List Nat) (base i : Nat) (c : Core) (news : List (Nat × Blk)) : List Rd → Bool
  | [] => true
  | r :: rs =>
    cond ((anc.getD i 0).testBit r.i) (recheck rowMode ops anc base i c news rs)
    (match ops[r.i]? with
    | some o => match stillA P cfg call fuel rowMode (base + r.i) r.ts o (viewC base c (anc.getD r.i 0) news) with
      | some (v', b') => cond (r.v.beq v' && sameNew r.b b') (recheck rowMode ops anc base i c news rs) false
      | none => false
    | none => false)

def ancs (ops : List Oper) : List Nat := (Region.before ops.toArray).toList

/-- Ancestors are what the edges say, and lie ahead in the text. -/
def edgeFold (anc : List Nat) (o : Oper) : Nat :=
  o.after.toList.foldl (fun s e => if Region.binds .any e = true then s ||| 2 ^ e.on ||| anc.getD e.on 0 else s) 0
def okAnc (ops : List Oper) (anc : List Nat) : Bool :=
  (List.range ops.length).all fun i => match ops[i]? with
    | some o => Nat.beq (anc.getD i 0) (edgeFold anc o) && o.after.toList.all fun e => !Region.binds .any e || Nat.blt e.on i
    | none => true
/-- Operations whose order is not told do not touch the same operands. -/
def tidy (ops : Array Oper) (anc : List Nat) : Bool :=
  (List.range ops.size).all fun i => (List.range i).all fun j => match ops[i]?, ops[j]? with
    | some x, some y => (anc.getD i 0).testBit j || x.apart ops y
    | _, _ => true
def drawOk (ops : Array Oper) : Bool := okAnc ops.toList (ancs ops.toList) && tidy ops (ancs ops.toList)

def wipe (ops : List Oper) (ts : List AV) : List AV :=
  ops.foldl (fun ts o => match o.dst with | some d => ts.set d .undef | none => ts) ts

def chained (anc : Nat) : List Core → Bool
  | [] => true
  | c :: r => match c.w with
    | some j => anc.testBit j && chained anc r
    | none => true

/-- What comes of one operation of a region whose order is drawn. -/
inductive DR where
  | ok (D : DSt)
  | bad (v : AV) (σ : ASt)

def addNew (i : Nat) (news : List (Nat × Blk)) : Option Blk → List (Nat × Blk)
  | some b => (i, b) :: news
  | none => news

/-- An operation that writes nothing that was there. -/
def stepStill (rowMode : Bool) (base i a : Nat) (o : Oper) (D : DSt) (σ : ASt) : Option DR :=
  match stillA P cfg call fuel rowMode (base + i) D.fr.ts o σ with
  | some (v, b) =>
    cond (!readsMem o || stableT P cfg call fuel rowMode base i a D.fr.ts o D.news v b D.cores)
      (some (.ok { D with fr := D.fr.put o.dst v,
                          news := addNew i D.news b,
                          rds := cond (readsMem o) (⟨i, D.fr.ts, v, b⟩ :: D.rds) D.rds }))
      none
  | none => none

/-- A writer's state is the next core. -/
def stepCore (rowMode : Bool) (ops : List Oper) (anc : List Nat) (base i a : Nat) (o : Oper) (D : DSt) (v : AV) (σ' : ASt) : Option DR :=
  cond (chained a D.cores && recheck P cfg call fuel rowMode ops anc base i ⟨σ', a, some i⟩ D.news D.rds)
    (some (.ok { D with fr := D.fr.put o.dst v, cores := ⟨σ', a, some i⟩ :: D.cores })) none

def stepD (rowMode : Bool) (ops : List Oper) (anc : List Nat) (base i : Nat) (o : Oper) (D : DSt) (isBad : Bool) : Option DR :=
  match D.cores with
  | [] => none
  | c :: _ =>
    match o.op with
    | .panic x => match aval cfg D.fr.ts x with
      | .iface t v => cond (!isBad && chained (anc.getD i 0) D.cores) (some (.bad (.iface t v) (viewC base c (anc.getD i 0) D.news))) none
      | _ => none
    | .defer _ => none
    | _ => match calleeA (aval cfg D.fr.ts) o with
      | some (f, args) => cond (Nat.beq (cfg.mode f) 0)
          (match call f args (viewC base c (anc.getD i 0) D.news) with
            | some (.ret v σ') => cond isBad none (stepCore P cfg call fuel rowMode ops anc base i (anc.getD i 0) o D v σ')
            | some (.panic v σ') => cond (!isBad && chained (anc.getD i 0) D.cores) (some (.bad v σ')) none
            | none => none)
          (stepStill P cfg call fuel rowMode base i (anc.getD i 0) o D (viewC base c (anc.getD i 0) D.news))
      | none => match aop P cfg rowMode (viewC base c (anc.getD i 0) D.news) (base + i) (aval cfg D.fr.ts) o with
        | some (v, .upd σ') => cond isBad none (stepCore P cfg call fuel rowMode ops anc base i (anc.getD i 0) o D v σ')
        | some _ => stepStill P cfg call fuel rowMode base i (anc.getD i 0) o D (viewC base c (anc.getD i 0) D.news)
        | none => none

/-- Does an operation with these ancestors hang on the one that panics? -/
def isBad (a : Nat) : Option (Nat × AV × ASt) → Bool
  | some b => a.testBit b.1
  | none => false

/-- A region whose order is drawn. 'bad': a panic is under way from operation j on; what does not hang on it is still looked at. -/
def drawA (rowMode : Bool) (ops : List Oper) (anc : List Nat) (base : Nat) : Nat → List Oper → DSt → Option (Nat × AV × ASt) → XR
  | _, [], D, none => match D.cores with
    | c :: _ => some (.norm, D.fr, viewC base c (2 ^ ops.length - 1) D.news)
    | [] => none
  | _, [], D, some (_, v, σ) => some (.panic v, { D.fr with ts := wipe ops D.fr.ts }, σ)
  | i, o :: rest, D, bad =>
    cond (isBad (anc.getD i 0) bad) (drawA rowMode ops anc base (i + 1) rest D bad)
      (cond (guardOk ops D.fr.ts o)
        (cond (wantedA ops D.fr.ts o)
          (match stepD P cfg call fuel rowMode ops anc base i o D bad.isSome with
            | some (.ok D') => drawA rowMode ops anc base (i + 1) rest D' bad
            | some (.bad v σ) => drawA rowMode ops anc base (i + 1) rest D (some (i, v, σ))
            | none => none)
          (drawA rowMode ops anc base (i + 1) rest { D with fr := D.fr.put o.dst (.tup []) } bad))
        none)

/-- Where a region's tail begins: from there on each operation stands behind all that is ahead of that place, and is plain: it touches no memory, or is a store. -/
def isStore (o : Oper) : Bool :=
  match o.op with
  | .store .. => true
  | _ => false
def isPlain (o : Oper) : Bool :=
  match o.op with
  | .move .. | .nilCheck .. | .fieldAddr .. | .indexAddr .. | .field .. | .extract .. => true
  | _ => false
def cutAt (ops : List Oper) (anc : List Nat) : Option Nat :=
  (List.range ops.length).find? fun p => Nat.blt 0 p && (List.range (ops.length - p)).all (fun k => Nat.beq (Nat.land (anc.getD (p + k) 0) (2 ^ p - 1)) (2 ^ p - 1)) &&
    (ops.drop p).all (fun o => o.guard.isNone && (isStore o || isPlain o)) && Nat.ble 2 ((ops.drop p).filter isStore).length

/-- A tail: the stores go to unlike blocks. -/
def tailA (rowMode : Bool) (base : Nat) : Nat → List Oper → AFr → ASt → List Nat → XR
  | _, [], fr, σ, _ => some (.norm, fr, σ)
  | i, o :: rest, fr, σ, ids =>
    match o.op with
    | .store _ a _ => match aval cfg fr.ts a with
      | .ptr q _ _ => cond (ids.all fun r => !(Nat.beq r q))
          (match aop P cfg rowMode σ (base + i) (aval cfg fr.ts) o with
          | some (v, .upd σ') => tailA rowMode base (i + 1) rest (fr.put o.dst v) σ' (q :: ids)
          | _ => none) none
      | _ => none
    | _ => match aop P cfg rowMode σ (base + i) (aval cfg fr.ts) o with
      | some (v, .pure) => tailA rowMode base (i + 1) rest (fr.put o.dst v) σ ids
      | _ => none

def drawT (rowMode : Bool) (l : List Oper) (anc : List Nat) (base : Nat) (fr : AFr) (σ : ASt) : XR :=
  match cutAt l anc with
  | none => drawA P cfg call fuel rowMode l anc base 0 l ⟨fr, [⟨σ, 0, none⟩], [], []⟩ none
  | some p => match drawA P cfg call fuel rowMode l anc base 0 (l.take p) ⟨fr, [⟨σ, 0, none⟩], [], []⟩ none with
    | some (.norm, fr', σ') => tailA P cfg rowMode base p (l.drop p) fr' σ' []
    | r => r

/-- Code. 'lf': how many rounds a loop may take. -/
def exec (rowMode : Bool) (lf : Nat) : Code → AFr → ASt → XR
  | .skip, fr, σ => some (.norm, fr, σ)
  | .region _ ops draw, fr, σ =>
    let l := ops.toList
    cond draw (cond (drawOk ops) (drawT P cfg call fuel rowMode l (ancs l) σ.next fr ⟨σ.next + l.length, σ.wp, σ.heap⟩) none)
      (seqA P cfg call fuel rowMode l σ.next 0 l fr ⟨σ.next + l.length, σ.wp, σ.heap⟩)
  | .seq a b, fr, σ => match exec rowMode lf a fr σ with
    | some (.norm, fr', σ') => exec rowMode lf b fr' σ'
    | r => r
  | .cond c t e, fr, σ => match aval cfg fr.ts c with
    | .bool x => cond x (exec rowMode lf t fr σ) (exec rowMode lf e fr σ)
    | _ => none
  | .block id body, fr, σ => match exec rowMode lf body fr σ with
    | some (.exit j, fr', σ') => cond (Nat.beq j id) (some (.norm, fr', σ')) (some (.exit j, fr', σ'))
    | r => r
  | .loop body, fr, σ => iterA (exec rowMode lf body) lf fr σ
  | .exit id, fr, σ => some (.exit id, fr, σ)
  | .label _, fr, σ => some (.norm, fr, σ)
  | .ret, fr, σ => some (.ret, fr, σ)
  | _, _, _ => none

def resA (σ : ASt) (ts : List AV) : List ResultVar → Option (List AV)
  | [] => some []
  | .tmp t :: r => (resA σ ts r).map (ts.getD t .undef :: ·)
  | .cell a t :: r => match ts.getD a .undef with
    | .ptr i j off => match σ.get i with
      | some (.row _ xs _) => match (xs[j]?).bind fun x => loadA P t x.cells off, resA σ ts r with
        | some v, some vs => some (v :: vs)
        | _, _ => none
      | _ => none
    | _ => none

def oneOf : List AV → AV
  | [v] => v
  | vs => .tup vs
end

/-! ### Deferred calls and recover -/
/-- How a frame leaves: it returns; it panics; its panic has been recovered. -/
inductive UA where
  | ret
  | pan (v : AV)
  | rcv (v : AV)
def UA.settle : UA → UA
  | .rcv _ => .ret
  | u => u

def isRecover (o : Oper) : Bool :=
  match o.op with
  | .call { callee := .builtin .recover, .. } => true
  | _ => false

section
variable (P : Program) (cfg : Cfg) (call : FuncId → List AV → ASt → Option CR) (fuel : Nat)

/-- A region of a deferred function: it may recover. -/
def seqR (rowMode : Bool) (ops : List Oper) (base : Nat) : Nat → List Oper → AFr → ASt → UA → Option (Flow × AFr × ASt × UA)
  | _, [], fr, σ, u => some (.norm, fr, σ, u)
  | i, o :: rest, fr, σ, u =>
    cond (guardOk ops fr.ts o)
    (cond (wantedA ops fr.ts o)
      (cond (isRecover o)
        (match u with
          | .pan v => seqR rowMode ops base (i + 1) rest (fr.put o.dst v) σ (.rcv v)
          | _ => seqR rowMode ops base (i + 1) rest (fr.put o.dst .nilif) σ u)
        (match stepA P cfg call fuel rowMode (base + i) o fr σ with
          | some (.go fr' σ') => seqR rowMode ops base (i + 1) rest fr' σ' u
          | some (.bad v σ') => some (.panic v, fr, σ', u)
          | none => none))
      (seqR rowMode ops base (i + 1) rest (fr.put o.dst (.tup [])) σ u))
    none

def execR (rowMode : Bool) (lf : Nat) : Code → AFr → ASt → UA → Option (Flow × AFr × ASt × UA)
  | .seq a b, fr, σ, u => match execR rowMode lf a fr σ u with
    | some (.norm, fr', σ', u') => execR rowMode lf b fr' σ' u'
    | r => r
  | .cond c t e, fr, σ, u => match aval cfg fr.ts c with
    | .bool x => cond x (execR rowMode lf t fr σ u) (execR rowMode lf e fr σ u)
    | _ => none
  | .region _ ops false, fr, σ, u => seqR P cfg call fuel rowMode ops.toList σ.next 0 ops.toList fr ⟨σ.next + ops.toList.length, σ.wp, σ.heap⟩ u
  | c, fr, σ, u => (exec P cfg call fuel rowMode lf c fr σ).map fun r => (r.1, r.2.1, r.2.2, u)

/-- A deferred function runs. -/
def callDA (f : FuncId) (args : List AV) (u : UA) (σ : ASt) : Option (UA × ASt) :=
  match P.funcs[f]? with
  | none => none
  | some fn => match fn.body with
    | none => none
    | some c => match execR P cfg call fuel (cfg.rows f) fuel c ⟨args ++ List.replicate (fn.ntmps - args.length) (.tup []), []⟩ σ u with
      | some (.norm, fr, σ', u') | some (.ret, fr, σ', u') => cond (fr.ds.isEmpty && (resA P σ' fr.ts fn.results.toList).isSome) (some (u', σ')) none
      | _ => none

def leaveA : List (AV × List AV) → UA → ASt → Option (UA × ASt)
  | [], u, σ => some (u, σ)
  | (.func f [] caps, args) :: ds, u, σ => match callDA P cfg call fuel f (args ++ caps) u σ with
    | some (u', σ') => leaveA ds u'.settle σ'
    | none => none
  | _ :: _, _, _ => none

def doneA (fn : Func) (fr : AFr) (σ : ASt) (u : UA) : Option CR :=
  match leaveA P cfg call fuel fr.ds u σ with
  | some (.ret, σ') => (resA P σ' fr.ts fn.results.toList).map fun vs => .ret (oneOf vs) σ'
  | some (.pan v, σ') => some (.panic v σ')
  | _ => none
end

def acall (P : Program) (cfg : Cfg) : Nat → FuncId → List AV → ASt → Option CR
  | 0, _, _, _ => none
  | n + 1, f, args, σ =>
    match cfg.ext f args σ with
    | some (b, v, bs) => cond b (some (.ret v (addB σ bs))) none
    | none =>
    match P.funcs[f]? with
    | none => none
    | some fn => match fn.body with
      | none => none
      | some c =>
        match exec P cfg (acall P cfg n) n (cfg.rows f) n c ⟨args ++ List.replicate (fn.ntmps - args.length) (.tup []), []⟩ σ with
        | some (.norm, fr, σ') => doneA P cfg (acall P cfg n) n fn fr σ' .ret
        | some (.ret, fr, σ') => doneA P cfg (acall P cfg n) n fn fr σ' .ret
        | some (.panic v, fr, σ') => doneA P cfg (acall P cfg n) n fn fr σ' (.pan v)
        | _ => none
end Go.Am

set_option linter.unusedVariables false
set_option linter.unusedSimpArgs false
namespace Go.Am
open Go

structure BI where
  b : Nat
  k : Nat
  cap : Nat

structure Ctx where
  w : World
  St : Nat → Nat → Prop
  StO : Nat → Prop
  ρ : Nat → BI
  dom : Nat → Prop

abbrev at0 (b c : Nat) : Addr := ⟨b, c, none⟩

def AV.cell (x : AV) (j : Nat) : AV := x.cells.getD j .undef

inductive VR (Γ : Ctx) : AV → Value → Prop
  | undef (v : Value) : VR Γ .undef v
  | bool (b : Bool) : VR Γ (.bool b) (.bool b)
  | int (k : IntKind) (n : Int) : VR Γ (.int k n) (.int k n)
  | str (s : List UInt8) : VR Γ (.str s) (.string ⟨s.toArray⟩)
  | nilp : VR Γ .nilp (.pointer none)
  | ptr (id i off : Nat) : Γ.dom id → VR Γ (.ptr id i off) (.pointer (some (at0 (Γ.ρ id).b (i * (Γ.ρ id).k + off))))
  | rptr (x : AV) (off b o : Nat) (f : Nat → Value) :
      (∀ j, j < x.cells.length → Γ.St b (o + j) ∧ Γ.w.cell? (at0 b (o + j)) = some (f j) ∧ (f j).oneCell' = true) →
      (∀ j, j < x.cells.length → VR Γ (x.cell j) (f j)) → VR Γ (.rptr x off) (.pointer (some (at0 b (o + off))))
  | nils (a : Option Addr) : VR Γ .nils (.slice a 0 0)
  | lst (xs : List AV) (t : Option Nat) (a : Option Addr) (b o k cap : Nat) (f : Nat → Nat → Value) :
      (xs ≠ [] → a = some (at0 b o)) → (∀ i, i < xs.length → (xs.getD i .undef).cells.length = k) →
      (∀ i j, i < xs.length → j < k → Γ.St b (o + (i * k + j)) ∧ Γ.w.cell? (at0 b (o + (i * k + j))) = some (f i j) ∧ (f i j).oneCell' = true) →
      (∀ i j, i < xs.length → j < k → VR Γ ((xs.getD i .undef).cell j) (f i j)) →
      (∀ tk, t = some tk → Γ.dom tk ∧ a = some (at0 (Γ.ρ tk).b 0) ∧ cap = (Γ.ρ tk).cap ∧ xs ≠ [] ∧ k = (Γ.ρ tk).k) →
      xs.length ≤ cap → VR Γ (.lst xs t) (.slice a xs.length cap)
  | sl (k id lo n off cap : Nat) : Γ.dom id → (Γ.ρ id).k = k → lo + cap = (Γ.ρ id).cap → n ≤ cap → (off = lo * k ∨ cap = 0) →
      VR Γ (.sl k id lo n) (.slice (some (at0 (Γ.ρ id).b off)) n cap)
  | agg (cs : List AV) (vs : Array Value) : vs.size = cs.length → (∀ i, i < cs.length → (vs.getD i undef).oneCell' = true) →
      (∀ i, i < cs.length → VR Γ (cs.getD i .undef) (vs.getD i undef)) → VR Γ (.agg cs) (.agg vs)
  | tup (cs : List AV) (vs : Array Value) : vs.size = cs.length → (∀ i, i < cs.length → VR Γ (cs.getD i .undef) (vs.getD i undef)) → VR Γ (.tup cs) (.tuple vs)
  | func (f : FuncId) (a b : List AV) (va vb : Array Value) : va.size = a.length → vb.size = b.length →
      (∀ i, i < a.length → VR Γ (a.getD i .undef) (va.getD i undef)) → (∀ i, i < b.length → VR Γ (b.getD i .undef) (vb.getD i undef)) →
      VR Γ (.func f a b) (.func (.func f) va vb)
  | nilf : VR Γ .nilf .nilFunc
  | iface (t : TypeId) (v : AV) (x : Value) : VR Γ v x → v.storable = true → VR Γ (.iface t v) (.iface t x)
  | nilif : VR Γ .nilif .nilIface
  | nilm : VR Γ .nilm (.map none)
  | map (id : Nat) : Γ.dom id → VR Γ (.map id) (.map (some (Γ.ρ id).b))
  | pmap (ks vs : List AV) (b : Nat) (es : Array MapEntry) (clock : Nat) : Γ.StO b → Γ.w.heap[b]? = some (.map es clock) → es.size = ks.length → es.size = vs.length →
      (∀ i, i < es.size → VR Γ (ks.getD i .undef) (es.getD i default).key) → (∀ i, i < es.size → VR Γ (vs.getD i .undef) (es.getD i default).val) →
      VR Γ (.pmap ks vs) (.map (some b))

structure Ext (Γ Γ' : Ctx) : Prop where
  dom : ∀ id, Γ.dom id → Γ'.dom id
  ρ : ∀ id, Γ.dom id → Γ'.ρ id = Γ.ρ id
  st : ∀ b c, Γ.St b c → Γ'.St b c
  cell : ∀ b c, Γ.St b c → Γ'.w.cell? (at0 b c) = Γ.w.cell? (at0 b c)
  sto : ∀ b, Γ.StO b → Γ'.StO b
  obj : ∀ b, Γ.StO b → Γ'.w.heap[b]? = Γ.w.heap[b]?

theorem Ext.refl (Γ : Ctx) : Ext Γ Γ := ⟨fun _ h => h, fun _ _ => rfl, fun _ _ h => h, fun _ _ _ => rfl, fun _ h => h, fun _ _ => rfl⟩
theorem Ext.trans {Γ₁ Γ₂ Γ₃ : Ctx} (h : Ext Γ₁ Γ₂) (k : Ext Γ₂ Γ₃) : Ext Γ₁ Γ₃ :=
  ⟨fun i hi => k.dom i (h.dom i hi), fun i hi => (k.ρ i (h.dom i hi)).trans (h.ρ i hi), fun b c hs => k.st b c (h.st b c hs),
   fun b c hs => (k.cell b c (h.st b c hs)).trans (h.cell b c hs), fun b hs => k.sto b (h.sto b hs), fun b hs => (k.obj b (h.sto b hs)).trans (h.obj b hs)⟩

theorem VR.ext {Γ Γ' : Ctx} (e : Ext Γ Γ') {v : AV} {x : Value} (h : VR Γ v x) : VR Γ' v x := by
  induction h with
  | undef v => exact .undef v
  | bool b => exact .bool b
  | int k n => exact .int k n
  | str s => exact .str s
  | nilp => exact .nilp
  | ptr id i off h => rw [← e.ρ id h]; exact .ptr id i off (e.dom id h)
  | rptr x off b o f hc hv ih => exact .rptr x off b o f (fun j hj => ⟨e.st _ _ (hc j hj).1, (e.cell _ _ (hc j hj).1).trans (hc j hj).2.1, (hc j hj).2.2⟩) ih
  | nils a => exact .nils a
  | lst xs t a b o k cap f ha hk hc hv ht hl ih =>
    refine .lst xs t a b o k cap f ha hk (fun i j hi hj => ⟨e.st _ _ (hc i j hi hj).1, (e.cell _ _ (hc i j hi hj).1).trans (hc i j hi hj).2.1, (hc i j hi hj).2.2⟩) ih (fun tk htk => ?_) hl
    obtain ⟨h1, h2, h3, h4, h5⟩ := ht tk htk
    exact ⟨e.dom tk h1, by rw [e.ρ tk h1]; exact h2, by rw [e.ρ tk h1]; exact h3, h4, by rw [e.ρ tk h1]; exact h5⟩
  | sl k id lo n off cap h1 h2 h3 h4 h5 => rw [← e.ρ id h1] at h2 h3 ⊢; exact .sl k id lo n off cap (e.dom id h1) h2 h3 h4 h5
  | agg cs vs h1 h2 h3 ih => exact .agg cs vs h1 h2 ih
  | tup cs vs h1 h3 ih => exact .tup cs vs h1 ih
  | func f a b va vb h1 h2 h3 h4 ih1 ih2 => exact .func f a b va vb h1 h2 ih1 ih2
  | nilf => exact .nilf
  | iface t v x h hs ih => exact .iface t v x ih hs
  | nilif => exact .nilif
  | nilm => exact .nilm
  | map id h => rw [← e.ρ id h]; exact .map id (e.dom id h)
  | pmap ks vs b es clock h1 h2 h3 h4 h5 h6 ih1 ih2 => exact .pmap ks vs b es clock (e.sto b h1) ((e.obj b h1).trans h2) h3 h4 ih1 ih2

/-- How a block reads. -/
def BlkR (Γ : Ctx) (i : BI) : Blk → Prop
  | .row k xs ty => i.k = k ∧ xs.length ≤ i.cap ∧ ∃ arr e, Γ.w.heap[i.b]? = some (.cells arr (tyOf ty e) (0, 0)) ∧ arr.size = i.cap * k ∧
      ∀ a, a < xs.length → (xs.getD a .undef).cells.length = k ∧ ∀ j, j < k → (arr.getD (a * k + j) undef).oneCell' = true ∧ VR Γ ((xs.getD a .undef).cell j) (arr.getD (a * k + j) undef)
  | .tok k n ty => i.k = k ∧ 0 < k ∧ n ≤ i.cap ∧ ∃ arr e, Γ.w.heap[i.b]? = some (.cells arr (tyOf ty e) (0, 0)) ∧ arr.size = i.cap * k
  | .map ks vs => ∃ es clock, Γ.w.heap[i.b]? = some (.map es clock) ∧ es.size = ks.length ∧ es.size = vs.length ∧
      (∀ a, a < es.size → VR Γ (ks.getD a .undef) (es.getD a default).key) ∧ (∀ a, a < es.size → VR Γ (vs.getD a .undef) (es.getD a default).val)
  | .iterS s pos => Γ.w.heap[i.b]? = some (.stringIter ⟨s.toArray⟩ pos)

theorem BlkR.ext {Γ Γ' : Ctx} (e : Ext Γ Γ') {i : BI} {B : Blk} (hh : Γ'.w.heap[i.b]? = Γ.w.heap[i.b]?) (h : BlkR Γ i B) : BlkR Γ' i B := by
  cases B with
  | row k xs ty =>
    obtain ⟨h1, h2, arr, t, h3, h4, h5⟩ := h
    exact ⟨h1, h2, arr, t, hh.trans h3, h4, fun a ha => ⟨(h5 a ha).1, fun j hj => ⟨((h5 a ha).2 j hj).1, ((h5 a ha).2 j hj).2.ext e⟩⟩⟩
  | tok k n ty =>
    obtain ⟨h1, h2, h3, arr, t, h4, h5⟩ := h
    exact ⟨h1, h2, h3, arr, t, hh.trans h4, h5⟩
  | map ks vs =>
    obtain ⟨es, c, h1, h2, h3, h4, h5⟩ := h
    exact ⟨es, c, hh.trans h1, h2, h3, fun a ha => (h4 a ha).ext e, fun a ha => (h5 a ha).ext e⟩
  | iterS s pos => exact hh.trans h

/-- From which cell on a block may be written. -/
def Blk.lo : Blk → Nat
  | .tok k n _ => n * k
  | _ => 0

/-- The world's state reads as the abstract one. -/
structure Inv (Γ : Ctx) (σ : ASt) : Prop where
  blk : ∀ id B, σ.get id = some B → Γ.dom id ∧ id < σ.next ∧ BlkR Γ (Γ.ρ id) B
  inj : ∀ id id' B B', σ.get id = some B → σ.get id' = some B' → id ≠ id' → (Γ.ρ id).b ≠ (Γ.ρ id').b
  free : ∀ id B, σ.get id = some B → (∀ c, B.lo ≤ c → ¬ Γ.St (Γ.ρ id).b c) ∧ ¬ Γ.StO (Γ.ρ id).b
  lt : ∀ b c, Γ.St b c → b < Γ.w.heap.size
  lto : ∀ b, Γ.StO b → b < Γ.w.heap.size
  domlt : ∀ id, Γ.dom id → id < σ.next

/-- From one state to the next. -/
structure Step (Γ : Ctx) (σ : ASt) (Γ' : Ctx) (σ' : ASt) : Prop where
  ext : Ext Γ Γ'
  size : Γ.w.heap.size ≤ Γ'.w.heap.size
  os : Γ'.w.os = Γ.w.os
  tape : Γ'.w.tape = Γ.w.tape
  output : Γ'.w.output = Γ.w.output
  frame : ∀ b, b < Γ.w.heap.size → (∀ id B, σ.get id = some B → σ.wp ≤ id → (Γ.ρ id).b ≠ b) → Γ'.w.heap[b]? = Γ.w.heap[b]?
  own : ∀ id B, σ'.get id = some B → σ.wp ≤ id → Γ.w.heap.size ≤ (Γ'.ρ id).b ∨ ∃ id0 B0, σ.get id0 = some B0 ∧ σ.wp ≤ id0 ∧ (Γ.ρ id0).b = (Γ'.ρ id).b
  ro : ∀ id, id < σ.wp → σ'.get id = σ.get id
  wp : σ'.wp = σ.wp
  next : σ.next ≤ σ'.next
  stg : ∀ b c, Γ'.St b c → Γ.St b c ∨ Γ.w.heap.size ≤ b ∨ ∃ id0 B0, σ.get id0 = some B0 ∧ σ.wp ≤ id0 ∧ (Γ.ρ id0).b = b
  stog : ∀ b, Γ'.StO b → Γ.StO b ∨ Γ.w.heap.size ≤ b ∨ ∃ id0 B0, σ.get id0 = some B0 ∧ σ.wp ≤ id0 ∧ (Γ.ρ id0).b = b

theorem Step.refl (Γ : Ctx) (σ : ASt) : Step Γ σ Γ σ :=
  ⟨.refl Γ, Nat.le_refl _, rfl, rfl, rfl, fun _ _ _ => rfl, fun id B h hw => .inr ⟨id, B, h, hw, rfl⟩, fun _ _ => rfl, rfl, Nat.le_refl _, fun _ _ h => .inl h, fun _ h => .inl h⟩

theorem Step.trans {Γ₁ Γ₂ Γ₃ : Ctx} {σ₁ σ₂ σ₃ : ASt} (h : Step Γ₁ σ₁ Γ₂ σ₂) (k : Step Γ₂ σ₂ Γ₃ σ₃) : Step Γ₁ σ₁ Γ₃ σ₃ := by
  refine ⟨h.ext.trans k.ext, Nat.le_trans h.size k.size, k.os.trans h.os, k.tape.trans h.tape, k.output.trans h.output, ?_, ?_, ?_, k.wp.trans h.wp, Nat.le_trans h.next k.next, ?_, ?_⟩
  · intro b hb hn
    rw [k.frame b (Nat.lt_of_lt_of_le hb h.size), h.frame b hb hn]
    intro id B hid hw he
    rw [h.wp] at hw
    rcases h.own id B hid hw with hf | ⟨id0, B0, h0, hw0, he0⟩
    · rw [he] at hf; omega
    · exact hn id0 B0 h0 hw0 (he0.trans he)
  · intro id B hid hw
    rcases k.own id B hid (by rw [h.wp]; exact hw) with hf | ⟨id0, B0, h0, hw0, he0⟩
    · exact .inl (Nat.le_trans h.size hf)
    · rw [h.wp] at hw0
      rcases h.own id0 B0 h0 hw0 with hf' | ⟨id1, B1, h1, hw1, he1⟩
      · exact .inl (by rw [← he0]; exact hf')
      · exact .inr ⟨id1, B1, h1, hw1, he1.trans he0⟩
  · intro id hid
    rw [k.ro id (by rw [h.wp]; exact hid), h.ro id hid]
  · intro b c hs
    rcases k.stg b c hs with hs | hs | ⟨id0, B0, h0, hw0, he0⟩
    · exact h.stg b c hs
    · exact .inr (.inl (Nat.le_trans h.size hs))
    · rw [h.wp] at hw0
      rcases h.own id0 B0 h0 hw0 with hf | ⟨id1, B1, h1, hw1, he1⟩
      · exact .inr (.inl (by rw [← he0]; exact hf))
      · exact .inr (.inr ⟨id1, B1, h1, hw1, he1.trans he0⟩)
  · intro b hs
    rcases k.stog b hs with hs | hs | ⟨id0, B0, h0, hw0, he0⟩
    · exact h.stog b hs
    · exact .inr (.inl (Nat.le_trans h.size hs))
    · rw [h.wp] at hw0
      rcases h.own id0 B0 h0 hw0 with hf | ⟨id1, B1, h1, hw1, he1⟩
      · exact .inr (.inl (by rw [← he0]; exact hf))
      · exact .inr (.inr ⟨id1, B1, h1, hw1, he1.trans he0⟩)

/-- The operands' values. -/
def FR (Γ : Ctx) (ts : List AV) (tmps : Array Value) : Prop := tmps.size = ts.length ∧ ∀ i, i < ts.length → VR Γ (ts.getD i .undef) (tmps.getD i undef)

theorem FR.ext {Γ Γ' : Ctx} (e : Ext Γ Γ') {ts : List AV} {tmps : Array Value} (h : FR Γ ts tmps) : FR Γ' ts tmps := ⟨h.1, fun i hi => (h.2 i hi).ext e⟩

theorem FR.get {Γ : Ctx} {ts : List AV} {tmps : Array Value} (h : FR Γ ts tmps) (i : Nat) : VR Γ (ts.getD i .undef) (tmps.getD i undef) := by
  by_cases hi : i < ts.length
  · exact h.2 i hi
  · have e : ts.getD i .undef = .undef := by simp [List.getD, List.getElem?_eq_none (Nat.le_of_not_lt hi)]
    rw [e]; exact .undef _

theorem FR.set {Γ : Ctx} {ts : List AV} {tmps : Array Value} (h : FR Γ ts tmps) (d : Nat) {v : AV} {x : Value} (hv : VR Γ v x) : FR Γ (ts.set d v) (tmps.setIfInBounds d x) := by
  refine ⟨by simp [h.1], fun i hi => ?_⟩
  have hi' : i < ts.length := by simpa using hi
  have hs : i < tmps.size := by rw [h.1]; exact hi'
  have h1 : (ts.set d v).getD i .undef = if d = i then v else ts.getD i .undef := by
    simp only [List.getD_eq_getElem?_getD, List.getElem?_set]
    by_cases e : d = i
    · subst e; simp [hi']
    · simp [e]
  have h2 : (tmps.setIfInBounds d x).getD i undef = if d = i then x else tmps.getD i undef := by
    simp only [Array.getD_eq_getD_getElem?, Array.getElem?_setIfInBounds]
    by_cases e : d = i
    · subst e; simp [hs]
    · simp [e]
  rw [h1, h2]
  by_cases e : d = i
  · rw [if_pos e, if_pos e]; exact hv
  · rw [if_neg e, if_neg e]; exact h.2 i hi'
end Go.Am

set_option linter.unusedVariables false
set_option linter.unusedSimpArgs false
namespace Go.Am
open Go

theorem cell_of_heap {w w' : World} {b c : Nat} (h : w'.heap[b]? = w.heap[b]?) : w'.cell? (at0 b c) = w.cell? (at0 b c) := by
  simp only [World.cell?, at0, h]

/-- The context behind a change of block 'bi.b', which is abstract block 'id' from now on; 'S': its cells that stay as they are. -/
def Ctx.with (Γ : Ctx) (w' : World) (id : Nat) (bi : BI) (S : Nat → Prop) : Ctx :=
  ⟨w', fun b c => Γ.St b c ∨ (b = bi.b ∧ S c), Γ.StO, fun j => if j = id then bi else Γ.ρ j, fun j => Γ.dom j ∨ j = id⟩

structure Change (Γ : Ctx) (σ : ASt) (w' : World) (σ' : ASt) (id : Nat) (bi : BI) (B : Blk) (S : Nat → Prop) : Prop where
  size : Γ.w.heap.size ≤ w'.heap.size
  os : w'.os = Γ.w.os
  tape : w'.tape = Γ.w.tape
  output : w'.output = Γ.w.output
  other : ∀ b, b < Γ.w.heap.size → b ≠ bi.b → w'.heap[b]? = Γ.w.heap[b]?
  stay : ∀ c, Γ.St bi.b c → w'.cell? (at0 bi.b c) = Γ.w.cell? (at0 bi.b c)
  own : Γ.w.heap.size ≤ bi.b ∨ ∃ id0 B0, σ.get id0 = some B0 ∧ σ.wp ≤ id0 ∧ (Γ.ρ id0).b = bi.b
  get : σ'.get id = some B
  get' : ∀ j C, j ≠ id → σ'.get j = some C → σ.get j = some C ∧ (Γ.ρ j).b ≠ bi.b
  ro : ∀ j, j < σ.wp → σ'.get j = σ.get j
  wp : σ'.wp = σ.wp
  next : σ.next ≤ σ'.next
  idlt : id < σ'.next
  old : Γ.dom id → Γ.ρ id = bi
  free : ∀ c, B.lo ≤ c → ¬ Γ.St bi.b c ∧ ¬ S c
  freeo : ¬ Γ.StO bi.b
  blt : bi.b < w'.heap.size

theorem Change.ext {Γ : Ctx} {σ σ' : ASt} {w' : World} {id : Nat} {bi : BI} {B : Blk} {S : Nat → Prop} (hI : Inv Γ σ) (h : Change Γ σ w' σ' id bi B S) : Ext Γ (Γ.with w' id bi S) := by
  refine ⟨fun j hj => .inl hj, fun j hj => ?_, fun b c hs => .inl hs, fun b c hs => ?_, fun b hb => hb, fun b hb => ?_⟩
  · show (if j = id then bi else Γ.ρ j) = Γ.ρ j
    split
    · rename_i e; subst e; exact (h.old hj).symm
    · rfl
  · by_cases e : b = bi.b
    · subst e; exact h.stay c hs
    · exact cell_of_heap (h.other b (hI.lt b c hs) e)
  · exact h.other b (hI.lto b hb) (fun e => h.freeo (e ▸ hb))

theorem Change.step {Γ : Ctx} {σ σ' : ASt} {w' : World} {id : Nat} {bi : BI} {B : Blk} {S : Nat → Prop} (hI : Inv Γ σ) (h : Change Γ σ w' σ' id bi B S) : Step Γ σ (Γ.with w' id bi S) σ' := by
  refine ⟨h.ext hI, h.size, h.os, h.tape, h.output, fun b hb hn => ?_, fun j C hj hw => ?_, h.ro, h.wp, h.next, fun b c hs => ?_, fun b hs => .inl hs⟩
  rotate_left 2
  · rcases hs with hs | ⟨rfl, _⟩
    · exact .inl hs
    · rcases h.own with hf | hf
      · exact .inr (.inl hf)
      · exact .inr (.inr hf)
  · refine h.other b hb fun e => ?_
    rcases h.own with hf | ⟨id0, B0, h0, hw0, he0⟩
    · omega
    · exact hn id0 B0 h0 hw0 (he0.trans e.symm)
  · by_cases e : j = id
    · subst e
      show Γ.w.heap.size ≤ (if j = j then bi else Γ.ρ j).b ∨ _
      rw [if_pos rfl]
      rcases h.own with hf | ⟨id0, B0, h0, hw0, he0⟩
      · exact .inl hf
      · refine .inr ⟨id0, B0, h0, hw0, ?_⟩
        show _ = (if j = j then bi else Γ.ρ j).b
        rw [if_pos rfl]; exact he0
    · obtain ⟨h1, h2⟩ := h.get' j C e hj
      refine .inr ⟨j, C, h1, hw, ?_⟩
      show _ = (if j = id then bi else Γ.ρ j).b
      rw [if_neg e]

theorem Change.inv {Γ : Ctx} {σ σ' : ASt} {w' : World} {id : Nat} {bi : BI} {B : Blk} {S : Nat → Prop} (hI : Inv Γ σ) (h : Change Γ σ w' σ' id bi B S)
    (hB : BlkR (Γ.with w' id bi S) bi B) : Inv (Γ.with w' id bi S) σ' := by
  have hρ : ∀ j, j ≠ id → (Γ.with w' id bi S).ρ j = Γ.ρ j := fun j hj => if_neg hj
  have hρ' : (Γ.with w' id bi S).ρ id = bi := if_pos rfl
  have hlt' : ∀ j C, σ.get j = some C → (Γ.ρ j).b < Γ.w.heap.size := by
    intro j C hj
    have := (hI.blk j C hj).2.2
    cases C with
    | row k xs ty => obtain ⟨_, _, arr, e, hh, _⟩ := this; exact (Array.getElem?_eq_some_iff.1 hh).1
    | tok k n ty => obtain ⟨_, _, _, arr, e, hh, _⟩ := this; exact (Array.getElem?_eq_some_iff.1 hh).1
    | map a b => obtain ⟨es, c, hh, _⟩ := this; exact (Array.getElem?_eq_some_iff.1 hh).1
    | iterS s p => exact (Array.getElem?_eq_some_iff.1 this).1
  refine ⟨fun j C hj => ?_, fun j j' C C' hj hj' hne => ?_, fun j C hj => ?_, fun b c hs => ?_, fun b hb => ?_, fun j hj => ?_⟩
  · by_cases e : j = id
    · subst e
      rw [h.get] at hj
      obtain rfl := Option.some.inj hj
      exact ⟨.inr rfl, h.idlt, by rw [hρ']; exact hB⟩
    · obtain ⟨h1, h2⟩ := h.get' j C e hj
      obtain ⟨d, l, r⟩ := hI.blk j C h1
      refine ⟨.inl d, Nat.lt_of_lt_of_le l h.next, ?_⟩
      rw [hρ j e]
      exact r.ext (h.ext hI) (h.other _ (hlt' j C h1) h2)
  · by_cases e : j = id
    · subst e
      have e' : j' ≠ j := fun x => hne x.symm
      obtain ⟨h1, h2⟩ := h.get' j' C' e' hj'
      rw [hρ', hρ j' e']
      exact fun x => h2 x.symm
    · obtain ⟨h1, h2⟩ := h.get' j C e hj
      by_cases e' : j' = id
      · subst e'; rw [hρ', hρ j e]; exact h2
      · obtain ⟨h1', h2'⟩ := h.get' j' C' e' hj'
        rw [hρ j e, hρ j' e']
        exact hI.inj j j' C C' h1 h1' hne
  · by_cases e : j = id
    · subst e
      rw [h.get] at hj
      obtain rfl := Option.some.inj hj
      rw [hρ']
      exact ⟨fun c hc hs => hs.elim (h.free c hc).1 fun x => (h.free c hc).2 x.2, h.freeo⟩
    · obtain ⟨h1, h2⟩ := h.get' j C e hj
      rw [hρ j e]
      exact ⟨fun c hc hs => hs.elim ((hI.free j C h1).1 c hc) fun x => h2 x.1, (hI.free j C h1).2⟩
  · rcases hs with hs | ⟨rfl, _⟩
    · exact Nat.lt_of_lt_of_le (hI.lt b c hs) h.size
    · exact h.blt
  · exact Nat.lt_of_lt_of_le (hI.lto b hb) h.size
  · rcases hj with hj | rfl
    · exact Nat.lt_of_lt_of_le (hI.domlt j hj) h.next
    · exact h.idlt

theorem Inv.blt {Γ : Ctx} {σ : ASt} (hI : Inv Γ σ) {j : Nat} {C : Blk} (hj : σ.get j = some C) : (Γ.ρ j).b < Γ.w.heap.size := by
  have := (hI.blk j C hj).2.2
  cases C with
  | row k xs ty => obtain ⟨_, _, arr, e, hh, _⟩ := this; exact (Array.getElem?_eq_some_iff.1 hh).1
  | tok k n ty => obtain ⟨_, _, _, arr, e, hh, _⟩ := this; exact (Array.getElem?_eq_some_iff.1 hh).1
  | map a b => obtain ⟨es, c, hh, _⟩ := this; exact (Array.getElem?_eq_some_iff.1 hh).1
  | iterS s p => exact (Array.getElem?_eq_some_iff.1 this).1

/-- Blocks that nothing abstract speaks of may come; draws may be made. -/
theorem grow {Γ : Ctx} {σ : ASt} (hI : Inv Γ σ) (w' : World) (hsz : Γ.w.heap.size ≤ w'.heap.size) (ho : w'.os = Γ.w.os) (ht : w'.tape = Γ.w.tape) (hp : w'.output = Γ.w.output)
    (hh : ∀ b, b < Γ.w.heap.size → w'.heap[b]? = Γ.w.heap[b]?) : Step Γ σ { Γ with w := w' } σ ∧ Inv { Γ with w := w' } σ := by
  have e : Ext Γ { Γ with w := w' } := ⟨fun _ h => h, fun _ _ => rfl, fun _ _ h => h, fun b c h => cell_of_heap (hh b (hI.lt b c h)), fun _ h => h, fun b h => hh b (hI.lto b h)⟩
  refine ⟨⟨e, hsz, ho, ht, hp, fun b hb _ => hh b hb, fun id B h hw => .inr ⟨id, B, h, hw, rfl⟩, fun _ _ => rfl, rfl, Nat.le_refl _, fun _ _ h => .inl h, fun _ h => .inl h⟩, ?_⟩
  exact ⟨fun id B h => ⟨(hI.blk id B h).1, (hI.blk id B h).2.1, (hI.blk id B h).2.2.ext e (hh _ (hI.blt h))⟩, hI.inj, hI.free,
    fun b c h => Nat.lt_of_lt_of_le (hI.lt b c h) hsz, fun b h => Nat.lt_of_lt_of_le (hI.lto b h) hsz, hI.domlt⟩
end Go.Am
