/-
The evaluator E: the machine's operations in continuation style, made for the kernel. Definitions alone.
The evaluator E: regions, code, calls. Definitions alone.
The evaluator E: what its operations say is so.
The evaluator E: each operation.
The evaluator E: regions, code, calls: what it says, the machine says.
-/
import Derived.Test.YtcphlgkfboafoaaGreatDoorA6
set_option linter.unusedVariables false
namespace Go.Am
open Go
noncomputable section

/-- How values are forced on the way: an answer of type α. -/
structure Force (α : Type) where
  nat : Nat → (Nat → α) → α
  int : Int → (Int → α) → α
  bool : Bool → (Bool → α) → α
  bytes : List UInt8 → (List UInt8 → α) → α
  list : List AV → (List AV → α) → α
  nth : List AV → Nat → (AV → α) → α
  bidx : List UInt8 → Nat → (Nat → α) → α
  hget : ASt → Nat → (Blk → α) → α
  hset : ASt → Nat → Option Blk → (ASt → α) → α
  bad : α

structure Force.Good {α : Type} (F : Force α) (good : α → Prop) : Prop where
  nat : ∀ n k, good (F.nat n k) → good (k n)
  int : ∀ n k, good (F.int n k) → good (k n)
  bool : ∀ n k, good (F.bool n k) → good (k n)
  bytes : ∀ n k, good (F.bytes n k) → good (k n)
  list : ∀ n k, good (F.list n k) → good (k n)
  nth : ∀ l n k, good (F.nth l n k) → ∃ x, l[n]? = some x ∧ good (k x)
  bidx : ∀ l n k, good (F.bidx l n k) → ∃ x, l[n]? = some x ∧ good (k x.toNat)
  hget : ∀ σ id k, good (F.hget σ id k) → ∃ b, σ.get id = some b ∧ good (k b)
  hset : ∀ σ id x k, good (F.hset σ id x k) → good (k ⟨σ.next, σ.wp, σ.heap.set id x⟩)
  bad : ¬ good F.bad

/-! ### Forcing, for closed runs -/
def natK {α : Type} (n : Nat) (k : Nat → α) : α := Nat.rec (k 0) (fun m _ => k (Nat.succ m)) n
def intK {α : Type} (i : Int) (k : Int → α) : α := Int.rec (fun n => natK n fun m => k (.ofNat m)) (fun n => natK n fun m => k (.negSucc m)) i
def boolK {α : Type} (b : Bool) (k : Bool → α) : α := Bool.rec (k false) (k true) b
def listK {α β : Type} (l : List β) (k : List β → α) : α :=
  List.rec (motive := fun _ => (List β → α) → α) (fun k => k []) (fun x _ ih k => ih fun r => k (x :: r)) l k
theorem natK_eq {α : Type} (n : Nat) (k : Nat → α) : natK n k = k n := by cases n <;> rfl
theorem intK_eq {α : Type} (n : Int) (k : Int → α) : intK n k = k n := by cases n <;> simp [intK, natK_eq]
theorem boolK_eq {α : Type} (n : Bool) (k : Bool → α) : boolK n k = k n := by cases n <;> rfl
theorem listK_eq {α β : Type} (l : List β) : ∀ (k : List β → α), listK l k = k l := by
  induction l with
  | nil => intro k; rfl
  | cons x l ih => intro k; exact ih fun r => k (x :: r)
section
variable {α : Type}
/-- Heaps: ids are numbers of the run. -/
def hgetK (bad : α) (σ : ASt) (id : Nat) (k : Blk → α) : α :=
  Tr.rec (motive := fun _ => Nat → α) (fun _ => bad)
    (fun v _ _ ihl ihr n => Bool.rec (Bool.rec (ihr (Nat.div (Nat.sub n 1) 2)) (ihl (Nat.div (Nat.sub n 1) 2)) (Nat.beq (Nat.mod n 2) 1)) (Option.rec bad k v) (Nat.beq n 0)) σ.heap id
def hsetF (x : Option Blk) (f : Nat) : Tr Blk → Nat → (Tr Blk → α) → α :=
  Nat.rec (motive := fun _ => Tr Blk → Nat → (Tr Blk → α) → α) (fun t _ k => k t)
    (fun _ ih t n k => Bool.rec
      (natK (Nat.div (Nat.sub n 1) 2) fun m => Tr.rec
        (Bool.rec (ih .leaf m fun r' => k (.node none .leaf r')) (ih .leaf m fun l' => k (.node none l' .leaf)) (Nat.beq (Nat.mod n 2) 1))
        (fun v l r _ _ => Bool.rec (ih r m fun r' => k (.node v l r')) (ih l m fun l' => k (.node v l' r)) (Nat.beq (Nat.mod n 2) 1)) t)
      (Tr.rec (k (.node x .leaf .leaf)) (fun _ l r _ _ => k (.node x l r)) t) (Nat.beq n 0)) f
def hsetK (σ : ASt) (id : Nat) (x : Option Blk) (k : ASt → α) : α := ASt.rec (fun n w t => hsetF x (Nat.log2 (id + 1) + 1) t id fun h => k ⟨n, w, h⟩) σ

/-! ### Lists -/
def nthK (bad : α) {β : Type} (l : List β) (n : Nat) (k : β → α) : α :=
  List.rec (motive := fun _ => Nat → α) (fun _ => bad) (fun x _ ih n => Nat.rec (k x) (fun m _ => ih m) n) l n
end

/-- All is forced, and heaps are tries of the run. -/
def force {α : Type} (bad : α) : Force α := ⟨natK, intK, boolK, listK, listK, fun l n k => nthK bad l n k, fun s n k => nthK bad s n fun b => natK b.toNat k, hgetK bad, hsetK, bad⟩

section
variable {α : Type} (F : Force α)

def Force.chk (b : Bool) (a : α) : α := F.bool b fun x => Bool.rec F.bad a x
def Force.opt {β : Type} (o : Option β) (k : β → α) : α := Option.rec F.bad k o

/-! ### Tries -/
def pathF : Nat → Nat → List Bool
  | 0, _ => []
  | f + 1, n => cond (Nat.beq n 0) [] (Nat.beq (n % 2) 1 :: pathF f ((n - 1) / 2))
def pathOf (n : Nat) : List Bool := pathF (Nat.log2 (n + 1) + 1) n
def getP {β : Type} (d : α) (k : β → α) (p : List Bool) (t : Tr β) : α :=
  List.rec (motive := fun _ => Tr β → α) (fun t => Tr.rec d (fun v _ _ _ _ => Option.rec d k v) t)
    (fun b _ ih t => Tr.rec d (fun _ l r _ _ => Bool.rec (ih r) (ih l) b) t) p t
def setP {β : Type} (v : β) (p : List Bool) (t : Tr β) (k : Tr β → α) : α :=
  List.rec (motive := fun _ => Tr β → (Tr β → α) → α)
    (fun t k => Tr.rec (k (.node (some v) .leaf .leaf)) (fun _ l r _ _ => k (.node (some v) l r)) t)
    (fun b _ ih t k => Tr.rec (Bool.rec (ih .leaf fun r' => k (.node none .leaf r')) (ih .leaf fun l' => k (.node none l' .leaf)) b)
      (fun x l r _ _ => Bool.rec (ih r fun r' => k (.node x l r')) (ih l fun l' => k (.node x l' r)) b) t) p t k

end

/-! ### Numbers are compared so that the kernel comes through -/
def ltI (x y : Int) : Bool :=
  match x, y with
  | .ofNat a, .ofNat b => Nat.blt a b
  | .negSucc _, .ofNat _ => true
  | .ofNat _, .negSucc _ => false
  | .negSucc a, .negSucc b => Nat.blt b a
def eqI (x y : Int) : Bool :=
  match x, y with
  | .ofNat a, .ofNat b => Nat.beq a b
  | .negSucc a, .negSucc b => Nat.beq b a
  | _, _ => false
def binX (P : Program) (op : BinOp) (t : TypeId) (cx cy : Bool) (x y : AV) : Option AV :=
  match op, x, y with
  | .lss, .int k a, .int k' b => if k = k' then some (.bool (ltI a b)) else none
  | .gtr, .int k a, .int k' b => if k = k' then some (.bool (ltI b a)) else none
  | .leq, .int k a, .int k' b => if k = k' then some (.bool (!(ltI b a))) else none
  | .geq, .int k a, .int k' b => if k = k' then some (.bool (!(ltI a b))) else none
  | .eql, .int k a, .int k' b => if k = k' then some (.bool (eqI a b)) else none
  | .neq, .int k a, .int k' b => if k = k' then some (.bool (!(eqI a b))) else none
  | op, x, y => binA P op t cx cy x y
theorem ltI_eq (x y : Int) : ltI x y = decide (x < y) := by
  cases x with
  | ofNat a => cases y with
    | ofNat b =>
      show Nat.blt a b = _
      rw [Bool.eq_iff_iff, Nat.blt_eq, decide_eq_true_iff]
      show a < b ↔ (a : Int) < (b : Int)
      omega
    | negSucc b =>
      show false = _
      have : ¬ (Int.ofNat a < Int.negSucc b) := by have := Int.negSucc_lt_zero b; have : (0 : Int) ≤ Int.ofNat a := Int.natCast_nonneg a; omega
      exact (decide_eq_false this).symm
  | negSucc a => cases y with
    | ofNat b =>
      show true = _
      have : Int.negSucc a < Int.ofNat b := by have := Int.negSucc_lt_zero a; have : (0 : Int) ≤ Int.ofNat b := Int.natCast_nonneg b; omega
      exact (decide_eq_true this).symm
    | negSucc b =>
      show Nat.blt b a = _
      rw [Bool.eq_iff_iff, Nat.blt_eq, decide_eq_true_iff]
      rw [Int.negSucc_eq, Int.negSucc_eq]
      omega
theorem eqI_eq (x y : Int) : eqI x y = decide (x = y) := by
  cases x with
  | ofNat a => cases y with
    | ofNat b =>
      show Nat.beq a b = _
      rw [Bool.eq_iff_iff, Nat.beq_eq, decide_eq_true_iff]
      show a = b ↔ (a : Int) = (b : Int)
      omega
    | negSucc b => show false = _; simp
  | negSucc a => cases y with
    | ofNat b => show false = _; simp
    | negSucc b =>
      show Nat.beq b a = _
      rw [Bool.eq_iff_iff, Nat.beq_eq, decide_eq_true_iff]
      rw [Int.negSucc_eq, Int.negSucc_eq]
      omega
theorem binX_eq (P : Program) (op : BinOp) (t : TypeId) (cx cy : Bool) (x y : AV) : binX P op t cx cy x y = binA P op t cx cy x y := by
  have key : ∀ k k' a b, binX P op t cx cy (.int k a) (.int k' b) = binA P op t cx cy (.int k a) (.int k' b) := by
    intro k k' a b
    by_cases hk : k = k'
    · subst hk
      cases op <;> simp [binX, binA, intA, ltI_eq, eqI_eq] <;> first | rfl | (rw [Bool.eq_iff_iff]; simp) | skip
    · cases op <;> simp [binX, binA, hk]
  cases x <;> cases y <;> first | exact key _ _ _ _ | (cases op <;> rfl)

section
variable {α : Type} (P : Program) (cfg : Cfg) (F : Force α) (N : Nat)

/-- An operand's value. -/
def rd (x : Operand) (tr : Tr AV) (k : AV → α) : α :=
  match x with
  | .tmp t => Bool.rec (k .undef) (getP (k (.tup [])) k (pathOf t) tr) (Nat.blt t N)
  | .const v => k (ofVal v)
  | .global g => k (cfg.glob g)
  | .func f => k (.func f [] [])
def rdL (l : List Operand) (tr : Tr AV) (k : List AV → α) : α :=
  List.rec (motive := fun _ => (List AV → α) → α) (fun k => k []) (fun x _ ih k => rd cfg N x tr fun v => ih fun r => k (v :: r)) l k
def rdO (x : Option Operand) (tr : Tr AV) (k : Option AV → α) : α :=
  Option.rec (k none) (fun x => rd cfg N x tr fun v => k (some v)) x
def wr (d : Option Tmp) (v : AV) (tr : Tr AV) (k : Tr AV → α) : α :=
  Option.rec (k tr) (fun d => setP v (pathOf d) tr k) d

/-- What an operation does: it gives a value; a value and a new block; a value and another state. -/
structure OpBox (α : Type) where
  run : Tr AV → ASt → Nat → (AV → α) → (AV → Blk → α) → (AV → ASt → α) → α

/-- The head of a value, and what is plain in it. -/
def valK (v : AV) (k : AV → α) : α :=
  match v with
  | .bool b => F.bool b fun b => k (.bool b)
  | .int i n => F.int n fun n => k (.int i n)
  | .str s => F.bytes s fun s => k (.str s)
  | .ptr a b c => F.nat b fun b => F.nat c fun c => k (.ptr a b c)
  | .rptr x o => F.nat o fun o => k (.rptr x o)
  | .sl a b c d => F.nat c fun c => F.nat d fun d => k (.sl a b c d)
  | .lst xs t => F.list xs fun xs => k (.lst xs t)
  | .agg cs => F.list cs fun cs => k (.agg cs)
  | v => k v

def loadK (t : TypeId) (cs : List AV) (off : Nat) (k : AV → α) : α :=
  match P.underlying t with
  | none => F.bad
  | some d => Bool.rec (F.nth cs off k) (F.chk (Nat.ble (off + szT P t) cs.length) (F.list ((cs.drop off).take (szT P t)) fun l => k (.agg l))) (isAggD d)

/-- Lists of bytes, numbers: what needs no memory. -/
def plainK (o : Option AV) (k : AV → α) : α := F.opt o fun v => valK F v k

/-- '==' on structs, field by field. -/
def eqFsK (E : TypeId → AV → AV → (Bool → α) → α) (xs ys : List AV) : List Field → (Bool → α) → α
  | [], k => k true
  | f :: r, k => Bool.rec (match loadA P f.type xs f.offset, loadA P f.type ys f.offset with
    | some a, some b => E f.type a b fun v => Bool.rec (k false) (eqFsK E xs ys r k) v
    | _, _ => F.bad) F.bad (decide (f.name = "_"))
def eqK : Nat → TypeId → AV → AV → (Bool → α) → α
  | 0, _, _, _, _ => F.bad
  | d + 1, t, x, y, k => match P.underlying t, x, y with
    | some (.struct fs), .agg xs, .agg ys => Bool.rec (eqFsK P F (eqK d) xs ys fs.toList k) F.bad (P.stoodInHeld t)
    | _, _, _ => F.opt (eqCells P (d + 1) t x y) fun b => F.bool b k
def eqX (t : TypeId) (cx cy : Bool) (a b : AV) (k : Bool → α) : α :=
  match a, b with
  | .agg xs, .agg ys => Bool.rec (eqK P F 40 t (.agg xs) (.agg ys) k) F.bad (P.eqGuardType P.depth t)
  | .int i x, .int j y => Bool.rec F.bad (F.bool (eqI x y) k) (decide (i = j))
  | .str x, .str y => F.bool (beqBytes x y) k
  | a, b => F.opt (cond (a.nonNum && b.nonNum) (eqA P t cx cy a b) none) fun v => F.bool v k

/-- '+', strings by a check of their length. -/
def addX (t : TypeId) (cx cy : Bool) (a b : AV) (k : AV → α) : α :=
  match a with
  | .str x => match b with
    | .str y => F.chk (Nat.ble (x.length + y.length) 9223372036854775807) (F.bytes (x ++ y) fun s => k (.str s))
    | _ => F.bad
  | a => plainK F (binX P .add t cx cy a b) k

/-- Bounds over a length. -/
def cutLoK (h : Nat) (lo : Option AV) (k : Nat → α) : α :=
  match lo with
  | none => k 0
  | some v => match v with
    | .int _ n => F.chk (decide (0 ≤ n) && decide (n ≤ h)) (F.nat n.toNat k)
    | _ => F.bad
def cutK (len : Nat) (lo hi : Option AV) (k : Nat → Nat → α) : α :=
  match hi with
  | none => cutLoK F len lo fun l => k l len
  | some v => match v with
    | .int _ n => F.chk (decide (0 ≤ n) && decide (n ≤ len)) (F.nat n.toNat fun h => cutLoK F h lo fun l => k l h)
    | _ => F.bad

/-- x[lo:hi:mx]. -/
def sliceX (t : TypeId) (x : AV) (lo hi mx : Option AV) (k : AV → α) : α :=
  match P.underlying t with
  | some .string => match x with
    | .str s => match mx with
      | none => cutK F s.length lo hi fun l h => F.bytes ((s.take h).drop l) fun s' => k (.str s')
      | some _ => F.bad
    | _ => F.bad
  | some (.slice e) => Bool.rec (match x with
    | .lst xs tk => match mx with
      | none => cutK F xs.length lo hi fun l h => F.bool (Nat.beq l 0 && Nat.beq h xs.length) fun b =>
          Bool.rec (F.chk (xs.all fun x => Nat.beq x.cells.length (szT P e)) (F.list ((xs.take h).drop l) fun ys => k (.lst ys none))) (k (.lst xs tk)) b
      | some m => plainK F (sliceL P e (.lst xs tk) lo hi (some m)) k
    | .sl q id a n => match mx with
      | none => cutK F n lo hi fun l h => F.chk (Nat.beq q (szT P e)) (F.nat (a + l) fun a' => F.nat (h - l) fun n' => k (.sl q id a' n'))
      | some _ => F.bad
    | x => plainK F (sliceL P e x lo hi mx) k) F.bad (Nat.beq (szT P e) 0)
  | _ => F.bad

def storeK (sz : Nat) (i j off : Nat) (v : AV) (σ : ASt) (k : AV → ASt → α) : α :=
  F.hget σ i fun b => match b with
    | .row n xs ty => F.nth xs j fun y =>
      F.chk (v.storable && Nat.beq v.cells.length sz && !(Nat.beq sz 0) && Nat.ble (off + v.cells.length) y.cells.length && Nat.ble σ.wp i)
        (match y with
          | .agg ys => F.list (ys.take off ++ v.cells ++ ys.drop (off + v.cells.length)) fun cs => F.list (xs.set j (.agg cs)) fun xs' => F.hset σ i (some (.row n xs' ty)) fun σ' => k .undef σ'
          | _ => F.list (xs.set j v) fun xs' => F.hset σ i (some (.row n xs' ty)) fun σ' => k .undef σ')
    | _ => F.bad

def effK (r : Option (AV × Eff)) (σ : ASt) (kP : AV → α) (kN : AV → Blk → α) (kU : AV → ASt → α) : α :=
  F.opt r fun r => match r with
    | (v, .pure) => valK F v kP
    | (v, .new b) => valK F v fun v => match b with
      | .row k xs ty => F.list xs fun xs => kN v (.row k xs ty)
      | .tok k n ty => F.nat n fun n => kN v (.tok k n ty)
      | b => kN v b
    | (v, .upd σ') => valK F v fun v => kU v σ'

def keepK (ty : Option TypeId) (e : TypeId) (k : Option TypeId → α) : α :=
  match ty with
  | none => k none
  | some t => Bool.rec (k none) (k (some e)) (Nat.beq t e)
theorem keepK_eq (ty : Option TypeId) (e : TypeId) (k : Option TypeId → α) : keepK ty e k = k (keepT ty e) := by
  cases ty with
  | none => rfl
  | some t =>
    unfold keepK keepT
    cases h : Nat.beq t e with
    | true => obtain rfl := Nat.eq_of_beq_eq_true h; simp
    | false => have := Nat.ne_of_beq_eq_false h; simp [h, this]

/-- Appending. -/
def appendK (rm : Bool) (id : Nat) (t : TypeId) (s x : AV) (σ : ASt) (kP : AV → α) (kN : AV → Blk → α) (kU : AV → ASt → α) : α :=
  match elemT P t with
  | none => F.bad
  | some e => F.opt (listA σ x) fun ys => F.list ys fun ys =>
    F.nat (szT P e) fun k =>
    F.chk (!(Nat.beq (P.bytesOf e) 0 || Nat.beq k 0 || !(ys.all fun y => Nat.beq y.cells.length k) || (zeroA P e).isNone))
    (match s with
    | .nils => match ys with
      | [] => kP .nils
      | y :: r => F.nat (r.length + 1) fun n => F.chk (Nat.ble (n * P.bytesOf e) limit) (Bool.rec (kN (.lst (y :: r) (some id)) (.tok k n (some e))) (kN (.sl k id 0 n) (.row k (y :: r) (some e))) rm)
    | .lst xs tk => match ys with
      | [] => kP (.lst xs tk)
      | y :: r => match tk with
        | none => F.bad
        | some tk => F.hget σ tk fun b => match b with
          | .tok k' n ty => F.chk (Nat.beq k' k && Nat.beq n xs.length && Nat.ble σ.wp tk && Nat.ble ((xs.length + (r.length + 1)) * P.bytesOf e) limit && !(Nat.beq tk id))
              (F.nat (xs.length + (r.length + 1)) fun n' => F.list (xs ++ y :: r) fun l => F.hset σ tk none fun σ1 => keepK ty e fun ty' => F.hset σ1 id (some (.tok k n' ty')) fun σ2 => kU (.lst l (some id)) σ2)
          | _ => F.bad
    | .sl k' i0 lo n => match ys with
      | [] => kP (.sl k' i0 lo n)
      | y :: r => F.hget σ i0 fun b => match b with
        | .row k'' zs ty => F.chk (Nat.beq k' k && Nat.beq k'' k && Nat.beq lo 0 && Nat.ble n zs.length && Nat.ble σ.wp i0 && Nat.ble ((n + (r.length + 1)) * P.bytesOf e) limit && !(Nat.beq i0 id))
              (F.nat (n + (r.length + 1)) fun n' => F.list (zs.take n ++ y :: r) fun l => F.hset σ i0 none fun σ1 => keepK ty e fun ty' => F.hset σ1 id (some (.row k l ty')) fun σ2 => kU (.sl k id 0 n') σ2)
        | _ => F.bad
    | _ => F.bad)

def eop (rm : Bool) (o : Oper) : OpBox α :=
  match o.op with
  | .move x => ⟨fun tr σ id kP kN kU => rd cfg N x tr kP⟩
  | .assign x => ⟨fun tr σ id kP kN kU => rd cfg N x tr kP⟩
  | .pick c a b => ⟨fun tr σ id kP kN kU => rd cfg N c tr fun c => rd cfg N a tr fun a => rd cfg N b tr fun b => match c with
      | .bool t => F.bool t fun t => Bool.rec (kP b) (kP a) t
      | _ => F.bad⟩
  | .box e x => ⟨fun tr σ id kP kN kU => rd cfg N x tr fun v => match v with
      | .undef => F.bad
      | .tup _ => F.bad
      | v => F.nat v.cells.length fun n => kN (.ptr id 0 0) (.row n [v] (some e))⟩
  | .alloc e => ⟨fun tr σ id kP kN kU => F.opt (zeroA P e) fun z => F.nat z.cells.length fun n => kN (.ptr id 0 0) (.row n [z] (some e))⟩
  | .load t a => ⟨fun tr σ id kP kN kU => rd cfg N a tr fun p => match p with
      | .ptr i j off => F.hget σ i fun b => match b with
        | .row _ xs _ => F.nth xs j fun x => loadK P F t x.cells off kP
        | _ => F.bad
      | .rptr x off => loadK P F t x.cells off kP
      | _ => F.bad⟩
  | .store t a x => ⟨fun tr σ id kP kN kU => rd cfg N a tr fun p => rd cfg N x tr fun v => match p with
      | .ptr i j off => storeK F (szT P t) i j off v σ kU
      | _ => F.bad⟩
  | .nilCheck x => ⟨fun tr σ id kP kN kU => rd cfg N x tr fun p => match p with
      | .ptr i j off => kP (.ptr i j off)
      | .rptr x off => kP (.rptr x off)
      | _ => F.bad⟩
  | .binOp op t x y _ => match op with
    | .add => ⟨fun tr σ id kP kN kU => rd cfg N x tr fun a => rd cfg N y tr fun b => addX P F t (isConstO x) (isConstO y) a b kP⟩
    | .eql => ⟨fun tr σ id kP kN kU => rd cfg N x tr fun a => rd cfg N y tr fun b => eqX P F t (isConstO x) (isConstO y) a b fun v => kP (.bool v)⟩
    | .neq => ⟨fun tr σ id kP kN kU => rd cfg N x tr fun a => rd cfg N y tr fun b => eqX P F t (isConstO x) (isConstO y) a b fun v => kP (.bool (!v))⟩
    | op => ⟨fun tr σ id kP kN kU => rd cfg N x tr fun a => rd cfg N y tr fun b => plainK F (binX P op t (isConstO x) (isConstO y) a b) kP⟩
  | .unOp op _ x => ⟨fun tr σ id kP kN kU => rd cfg N x tr fun a => plainK F (unA op a) kP⟩
  | .convert s d x => ⟨fun tr σ id kP kN kU => rd cfg N x tr fun a => effK F (convA P σ id s d a) σ kP kN kU⟩
  | .build t parts => ⟨fun tr σ id kP kN kU => rdL cfg N (parts.toList.map (·.2)) tr fun vs =>
      match P.underlying t, zeroA P t with
      | some (.struct fs), some (.agg z) => Bool.rec F.bad (F.opt (fillA (fun i => (fs[i]?).map fun f => (f.offset, szT P f.type)) z ((parts.toList.map (·.1)).zip vs)) fun cs => F.list cs fun cs => kP (.agg cs)) (fs.toList.all fun f => (P.info? f.type).isSome)
      | some (.array _ e), some (.agg z) => Bool.rec (F.opt (fillA (fun i => some (i * szT P e, szT P e)) z ((parts.toList.map (·.1)).zip vs)) fun cs => F.list cs fun cs => kP (.agg cs)) F.bad (Nat.beq (szT P e) 0)
      | _, _ => F.bad⟩
  | .buildSlice t len parts => ⟨fun tr σ id kP kN kU => rdL cfg N (parts.toList.map (·.2)) tr fun vs =>
      match elemT P t with
      | some e => F.chk (Nat.ble (len * szT P e) 16777216 && Nat.blt 0 (szT P e))
        (match len with
        | 0 => F.chk (parts.isEmpty && (zeroA P e).isSome) (kP .nils)
        | _ => F.opt (elemsA (szT P e) 0 ((parts.toList.map (·.1)).zip vs)) fun xs => F.chk (Nat.beq xs.length len && (zeroA P e).isSome)
            (F.list xs fun xs => F.nat (szT P e) fun n => Bool.rec (kN (.lst xs (some id)) (.tok n len none)) (kN (.sl n id 0 len) (.row n xs none)) rm))
      | none => F.bad⟩
  | .makeInterface t x => ⟨fun tr σ id kP kN kU => rd cfg N x tr fun v => match P.underlying t with
      | some (.interface _) => F.bad
      | some _ => F.chk v.storable (kP (.iface t v))
      | none => F.bad⟩
  | .makeFunc fn first caps => ⟨fun tr σ id kP kN kU => match fn with
      | .func f => rdL cfg N first.toList tr fun a => rdL cfg N caps.toList tr fun b => kP (.func f a b)
      | _ => F.bad⟩
  | .makeMap t r => ⟨fun tr σ id kP kN kU => match r with
      | none => kN (.map id) (.map [] [])
      | some _ => F.bad⟩
  | .makeSlice t l c => ⟨fun tr σ id kP kN kU => rd cfg N l tr fun l => rd cfg N c tr fun c => match elemT P t, l, c with
      | some e, .int .i64 n, .int .i64 m => F.chk (decide (0 ≤ n) && decide (n = m) && decide (n.toNat * P.bytesOf e ≤ limit) && Nat.blt 0 (P.bytesOf e) && Nat.blt 0 (szT P e))
        (F.opt (zeroA P e) fun z => F.nat n.toNat fun q => F.bool (Nat.beq q 0) fun y => Bool.rec (F.nat (szT P e) fun s => F.list (List.replicate q z) fun xs => kN (.sl s id 0 q) (.row s xs none)) (kP .nils) y)
      | _, _, _ => F.bad⟩
  | .slice t x lo hi mx => ⟨fun tr σ id kP kN kU => rd cfg N x tr fun x => rdO cfg N lo tr fun lo => rdO cfg N hi tr fun hi => rdO cfg N mx tr fun mx => sliceX P F t x lo hi mx kP⟩
  | .fieldAddr t x f => ⟨fun tr σ id kP kN kU => match fieldOf P t f with
      | some fd => Bool.rec (rd cfg N x tr fun p => match p with
        | .ptr i j off => F.nat (off + fd.offset) fun off => kP (.ptr i j off)
        | .rptr y off => F.nat (off + fd.offset) fun off => kP (.rptr y off)
        | _ => F.bad) F.bad (Nat.beq (szT P fd.type) 0)
      | none => F.bad⟩
  | .field t x f => ⟨fun tr σ id kP kN kU => match fieldOf P t f with
      | some fd => rd cfg N x tr fun v => match v with
        | .agg cs => loadK P F fd.type cs fd.offset kP
        | _ => F.bad
      | none => F.bad⟩
  | .indexAddr t x i => ⟨fun tr σ id kP kN kU => rd cfg N x tr fun x => rd cfg N i tr fun i => match P.underlying t, x, i with
      | some (.slice e), .lst xs _, .int _ n => F.chk (decide (0 ≤ n) && decide (n < xs.length) && !(Nat.beq (szT P e) 0)) (F.nth xs n.toNat fun y => F.chk (Nat.beq y.cells.length (szT P e)) (kP (.rptr y 0)))
      | some (.slice e), .sl k j lo len, .int _ n => F.chk (decide (0 ≤ n) && decide (n < len) && Nat.beq k (szT P e) && !(Nat.beq (szT P e) 0)) (F.nat (lo + n.toNat) fun q => kP (.ptr j q 0))
      | _, _, _ => plainK F (idxA P t x i) kP⟩
  | .index t x i => ⟨fun tr σ id kP kN kU => rd cfg N x tr fun x => rd cfg N i tr fun i => match P.underlying t, x, i with
      | some .string, .str s, .int _ n => F.chk (decide (0 ≤ n)) (F.bidx s n.toNat fun b => F.int b fun m => kP (.int .u8 m))
      | some (.array len e), .agg cs, .int _ n => F.chk (decide (0 ≤ n) && decide (n < len) && !(Nat.beq (szT P e) 0)) (loadK P F e cs (n.toNat * szT P e) kP)
      | _, _, _ => F.bad⟩
  | .lookup t x i ok => ⟨fun tr σ id kP kN kU => rd cfg N x tr fun x => rd cfg N i tr fun i => F.opt (lookA P σ t x i ok) fun v => valK F v kP⟩
  | .mapUpdate t m k v => ⟨fun tr σ id kP kN kU => rd cfg N m tr fun m => rd cfg N k tr fun k => rd cfg N v tr fun v => match P.underlying t, m with
      | some (.map kt _), .map i => match P.underlying kt with
        | some d => F.chk (keyD d && v.storable) (F.hget σ i fun b => match b with
          | .map ks vs => F.chk (Nat.ble σ.wp i) (F.opt (updA d k v ks vs) fun r => F.list r.1 fun ks => F.list r.2 fun vs => F.hset σ i (some (.map ks vs)) fun σ' => kU .undef σ')
          | _ => F.bad)
        | none => F.bad
      | _, _ => F.bad⟩
  | .insert t m k v => ⟨fun tr σ id kP kN kU => rd cfg N m tr fun m => rd cfg N k tr fun k => rd cfg N v tr fun v => match P.underlying t, m with
      | some (.map kt _), .map i => match P.underlying kt with
        | some d => F.chk (keyD d && v.storable) (F.hget σ i fun b => match b with
          | .map ks vs => F.chk (Nat.ble σ.wp i) (F.opt (updA d k v ks vs) fun r => F.list r.1 fun ks => F.list r.2 fun vs => F.hset σ i (some (.map ks vs)) fun σ' => kU .undef σ')
          | _ => F.bad)
        | none => F.bad
      | _, _ => F.bad⟩
  | .typeAssert x xt t ok => ⟨fun tr σ id kP kN kU => rd cfg N x tr fun v => match P.underlying t, v with
      | some (.interface _), _ => F.bad
      | some _, .nilif => Bool.rec F.bad (F.opt (zeroA P t) fun z => kP (.tup [z, .bool false])) ok
      | some _, .iface u v => F.bool (decide (u = t)) fun e => Bool.rec (Bool.rec F.bad (F.opt (zeroA P t) fun z => kP (.tup [z, .bool false])) ok) (Bool.rec (kP v) (kP (.tup [v, .bool true])) ok) e
      | _, _ => F.bad⟩
  | .extract x i => ⟨fun tr σ id kP kN kU => rd cfg N x tr fun v => match v with
      | .tup vs => F.nth vs i kP
      | _ => F.bad⟩
  | .call { callee := .builtin .len, args, argTypes } => ⟨fun tr σ id kP kN kU => match args.toList, argTypes.toList with
      | [x], [t] => rd cfg N x tr fun v => plainK F (lenA P σ t v) kP
      | _, _ => F.bad⟩
  | .call { callee := .builtin .append, args, argTypes } => ⟨fun tr σ id kP kN kU => match args.toList, argTypes.toList with
      | [s, x], [t, u] => rd cfg N s tr fun s => rd cfg N x tr fun x => Bool.rec (match P.underlying u, x with
        | some .string, .str l => appendK P F rm id t s (.lst (l.map fun b => .int .u8 b.toNat) none) σ kP kN kU
        | _, _ => F.bad) (appendK P F rm id t s x σ kP kN kU) (decide (u = t))
      | _, _ => F.bad⟩
  | .call { callee := .builtin .unsafeSliceData, args, .. } => ⟨fun tr σ id kP kN kU => match args.toList with
      | [x] => rd cfg N x tr fun x => match x with
        | .sl _ i lo n => F.chk (!(Nat.beq n 0)) (kP (.ptr i lo 0))
        | _ => F.bad
      | _ => F.bad⟩
  | .call { callee := .builtin .unsafeString, args, argTypes } => ⟨fun tr σ id kP kN kU => match args.toList, argTypes.toList with
      | [p, x], [pt, _] => rd cfg N p tr fun p => rd cfg N x tr fun x => effK F (match P.underlying pt, p, x with
        | some (.pointer e), .ptr i 0 0, .int .i64 n => match σ.get i with
          | some (.row 1 zs (some e')) => match bytesOf (zs.take n.toNat) with
            | some l => cond (decide (n = l.length) && !(l.isEmpty) && Nat.beq e e' && Nat.beq (P.cellsOf e) 1 && Nat.ble σ.wp i && Nat.ble l.length zs.length && Nat.ble l.length limit && AV.beqs (zs.take n.toNat) (l.map fun b => .int .u8 b.toNat))
                (some (.str l, .upd (σ.del i))) none
            | none => none
          | _ => none
        | _, _, _ => none) σ kP kN kU
      | _, _ => F.bad⟩
  | .call { callee := .builtin .max, args, .. } => ⟨fun tr σ id kP kN kU => rdL cfg N args.toList tr fun vs => match vs with
      | x :: r => plainK F (maxA x r) kP
      | [] => F.bad⟩
  | .call { callee := .builtin .min, args, .. } => ⟨fun tr σ id kP kN kU => rdL cfg N args.toList tr fun vs => match vs with
      | x :: r => plainK F (minA x r) kP
      | [] => F.bad⟩
  | _ => ⟨fun _ _ _ _ _ _ => F.bad⟩
end
end
end Go.Am

set_option linter.unusedVariables false
namespace Go.Am
open Go
noncomputable section

abbrev DS := List (AV × List AV)
abbrev CallK (α : Type) := FuncId → List AV → ASt → (CR → α) → α

structure RegBox (α : Type) where
  run : CallK α → Tr AV → DS → ASt → Nat → (Tr AV → DS → ASt → α) → (AV → Tr AV → DS → ASt → α) → α
structure StepBox (α : Type) where
  run : CallK α → Tr AV → DS → ASt → Nat → (Tr AV → DS → ASt → α) → (AV → ASt → α) → α
structure ERd where
  i : Nat
  tr : Tr AV
  v : AV
  b : Option Blk
structure DBox (α : Type) where
  run : CallK α → Tr AV → DS → List Core → List (Nat × Blk) → List ERd → Option (Nat × AV × ASt) → Nat → (Tr AV → DS → ASt → α) → (AV → Tr AV → DS → ASt → α) → α
structure TailBox (α : Type) where
  run : Tr AV → ASt → List Nat → Nat → (Tr AV → ASt → α) → α
structure CodeBox (α : Type) where
  run : CallK α → Nat → Tr AV → DS → ASt → (Flow → Tr AV → DS → ASt → α) → α
structure RBox (α : Type) where
  run : CallK α → Tr AV → DS → ASt → Nat → UA → (Tr AV → DS → ASt → UA → α) → (AV → Tr AV → DS → ASt → UA → α) → α
structure CodeRBox (α : Type) where
  run : CallK α → Nat → Tr AV → DS → ASt → UA → (Flow → Tr AV → DS → ASt → UA → α) → α
structure FunBox (α : Type) where
  run : CallK α → Nat → List AV → ASt → (CR → α) → α
structure FunRBox (α : Type) where
  run : CallK α → Nat → List AV → UA → ASt → (UA → ASt → α) → α

section
variable {α : Type} (P : Program) (cfg : Cfg) (F : Force α) (N : Nat)

def guardK (ops : List Oper) (o : Oper) (tr : Tr AV) (yes no : α) : α :=
  match o.guard with
  | none => yes
  | some (j, want) => match (ops[j]?).bind (·.dst) with
    | none => F.bad
    | some d => rd cfg N (.tmp d) tr fun v => match v with
      | .bool b => F.bool b fun b => Bool.rec no yes (b == want)
      | .tup l => match l with
        | [] => no
        | _ => F.bad
      | _ => F.bad

def estep (rm : Bool) (o : Oper) : StepBox α :=
  match o.op with
  | .panic x => ⟨fun call tr ds σ id kn kb => rd cfg N x tr fun v => match v with
      | .iface t v => kb (.iface t v) σ
      | _ => F.bad⟩
  | .defer { callee := .value g, args, .. } => ⟨fun call tr ds σ id kn kb => rd cfg N g tr fun g => rdL cfg N args.toList tr fun vs => match g with
      | .func f first caps => F.list (first ++ vs) fun l => wr o.dst (.tup []) tr fun tr' => kn tr' ((.func f [] caps, l) :: ds) σ
      | _ => F.bad⟩
  | .call { callee := .value g, args, .. } => ⟨fun call tr ds σ id kn kb => rd cfg N g tr fun g => rdL cfg N args.toList tr fun vs => match g with
      | .func f first caps => F.list (first ++ vs ++ caps) fun l => call f l σ fun r => match r with
        | .ret v σ' => wr o.dst v tr fun tr' => kn tr' ds σ'
        | .panic v σ' => kb v σ'
      | _ => F.bad⟩
  | _ => ⟨fun call tr ds σ id kn kb => (eop P cfg F N rm o).run tr σ id (fun v => wr o.dst v tr fun tr' => kn tr' ds σ) (fun v b => F.hset σ id (some b) fun σ' => wr o.dst v tr fun tr' => kn tr' ds σ')
      (fun v σ' => wr o.dst v tr fun tr' => kn tr' ds σ')⟩

def eseq (rm : Bool) (ops : List Oper) : Nat → List Oper → RegBox α
  | _, [] => ⟨fun call tr ds σ base kn kb => kn tr ds σ⟩
  | i, o :: rest => ⟨fun call tr ds σ base kn kb => guardK cfg F N ops o tr
      (F.nat (base + i) fun id => (estep P cfg F N rm o).run call tr ds σ id (fun tr' ds' σ' => (eseq rm ops (i + 1) rest).run call tr' ds' σ' base kn kb) (fun v σ' => kb v tr ds σ'))
      (wr o.dst (.tup []) tr fun tr' => (eseq rm ops (i + 1) rest).run call tr' ds σ base kn kb)⟩

/-! ### Drawn regions -/
def viewK (base : Nat) (c : Core) (a : Nat) (news : List (Nat × Blk)) (k : ASt → α) : α :=
  List.rec (motive := fun _ => (ASt → α) → α) (fun k => k c.σ)
    (fun p _ ih k => ih fun σ => Bool.rec (k σ) (F.hset σ (base + p.1) (some p.2) k) (a.testBit p.1 && !c.anc.testBit p.1)) news k

def wipeK (ops : List Oper) (tr : Tr AV) (k : Tr AV → α) : α :=
  List.rec (motive := fun _ => Tr AV → α) (fun tr => k tr) (fun o _ ih tr => Option.rec (ih tr) (fun d => setP .undef (pathOf d) tr ih) o.dst) ops tr

def stableK (box : OpBox α) (tr : Tr AV) (base id a : Nat) (news : List (Nat × Blk)) (v : AV) (b : Option Blk) (cores : List Core) (k : α) : α :=
  List.rec (motive := fun _ => α) k (fun c _ ih => viewK F base c a news fun σ => box.run tr σ id (fun v' => F.chk (v.beq v' && sameNew b none) (Option.rec k (fun j => Bool.rec ih k (a.testBit j)) c.w))
    (fun v' b' => F.chk (v.beq v' && sameNew b (some b')) (Option.rec k (fun j => Bool.rec ih k (a.testBit j)) c.w)) (fun _ _ => F.bad)) cores

/-- What writes nothing that was there: it is the same wherever it can stand. -/
def stillK (box : OpBox α) (rmem : Bool) (tr : Tr AV) (base id i a : Nat) (news : List (Nat × Blk)) (v : AV) (b : Option Blk) (c : Core) (cs : List Core) (rds : List ERd) (k : List ERd → α) : α :=
  Bool.rec (k rds) (Option.rec (k (⟨i, tr, v, b⟩ :: rds)) (fun j => Bool.rec (stableK F box tr base id a news v b cs (k (⟨i, tr, v, b⟩ :: rds))) (k (⟨i, tr, v, b⟩ :: rds)) (a.testBit j)) c.w) rmem

def opAt (rm : Bool) (ops : List Oper) (j : Nat) : OpBox α :=
  match ops[j]? with
  | some o => eop P cfg F N rm o
  | none => ⟨fun _ _ _ _ _ _ => F.bad⟩

def recheckK (rm : Bool) (ops : List Oper) (anc : List Nat) (base i : Nat) (c : Core) (news : List (Nat × Blk)) (rds : List ERd) (k : α) : α :=
  List.rec (motive := fun _ => α) k (fun r _ ih => Bool.rec (viewK F base c (anc.getD r.i 0) news fun σ => F.nat (base + r.i) fun id => (opAt P cfg F N rm ops r.i).run r.tr σ id (fun v' => F.chk (r.v.beq v' && sameNew r.b none) ih)
    (fun v' b' => F.chk (r.v.beq v' && sameNew r.b (some b')) ih) (fun _ _ => F.bad)) ih
    ((anc.getD i 0).testBit r.i)) rds

def edraw (rm : Bool) (ops : List Oper) (anc : List Nat) : Nat → List Oper → DBox α
  | _, [] => ⟨fun call tr ds cores news rds bad base kn kb => match bad with
      | none => match cores with
        | c :: _ => viewK F base c (2 ^ ops.length - 1) news fun σ => kn tr ds σ
        | [] => F.bad
      | some (_, v, σ) => wipeK ops tr fun tr' => kb v tr' ds σ⟩
  | i, o :: rest => ⟨fun call tr ds cores news rds bad base kn kb =>
      Bool.rec
        (guardK cfg F N ops o tr
          (match cores with
          | [] => F.bad
          | c :: cs =>
            match o.op with
            | .panic x => rd cfg N x tr fun v => match v with
              | .iface t v => F.chk (bad.isNone && chained (anc.getD i 0) cores) (viewK F base c (anc.getD i 0) news fun σ => (edraw rm ops anc (i + 1) rest).run call tr ds cores news rds (some (i, .iface t v, σ)) base kn kb)
              | _ => F.bad
            | .defer _ => F.bad
            | .call { callee := .value g, args, .. } => rd cfg N g tr fun g => rdL cfg N args.toList tr fun vs => match g with
              | .func f first caps => F.list (first ++ vs ++ caps) fun l => viewK F base c (anc.getD i 0) news fun σ => call f l σ fun r => match r with
                | .ret v σ' => F.chk (bad.isNone && chained (anc.getD i 0) cores) (recheckK P cfg F N rm ops anc base i ⟨σ', anc.getD i 0, some i⟩ news rds
                    (wr o.dst v tr fun tr' => (edraw rm ops anc (i + 1) rest).run call tr' ds (⟨σ', anc.getD i 0, some i⟩ :: c :: cs) news rds bad base kn kb))
                | .panic v σ' => F.chk (bad.isNone && chained (anc.getD i 0) cores) ((edraw rm ops anc (i + 1) rest).run call tr ds cores news rds (some (i, v, σ')) base kn kb)
              | _ => F.bad
            | _ => viewK F base c (anc.getD i 0) news fun σ => F.nat (base + i) fun id => (eop P cfg F N rm o).run tr σ id
                (fun v => stillK F (eop P cfg F N rm o) (readsMem o) tr base id i (anc.getD i 0) news v none c cs rds fun rds' => wr o.dst v tr fun tr' => (edraw rm ops anc (i + 1) rest).run call tr' ds cores news rds' bad base kn kb)
                (fun v b => stillK F (eop P cfg F N rm o) (readsMem o) tr base id i (anc.getD i 0) news v (some b) c cs rds fun rds' => wr o.dst v tr fun tr' => (edraw rm ops anc (i + 1) rest).run call tr' ds cores ((i, b) :: news) rds' bad base kn kb)
                (fun v σ' => F.chk (bad.isNone && chained (anc.getD i 0) cores) (recheckK P cfg F N rm ops anc base i ⟨σ', anc.getD i 0, some i⟩ news rds
                    (wr o.dst v tr fun tr' => (edraw rm ops anc (i + 1) rest).run call tr' ds (⟨σ', anc.getD i 0, some i⟩ :: c :: cs) news rds bad base kn kb))))
          (wr o.dst (.tup []) tr fun tr' => (edraw rm ops anc (i + 1) rest).run call tr' ds cores news rds bad base kn kb))
        ((edraw rm ops anc (i + 1) rest).run call tr ds cores news rds bad base kn kb)
        (isBad (anc.getD i 0) bad)⟩

def etail (rm : Bool) : Nat → List Oper → TailBox α
  | _, [] => ⟨fun tr σ ids base k => k tr σ⟩
  | i, o :: rest => match o.op with
    | .store t a x => ⟨fun tr σ ids base k => rd cfg N a tr fun p => match p with
        | .ptr q _ _ => F.chk (ids.all fun r => !(Nat.beq r q)) ((eop P cfg F N rm o).run tr σ (base + i) (fun _ => F.bad) (fun _ _ => F.bad) fun v σ' => wr o.dst v tr fun tr' => (etail rm (i + 1) rest).run tr' σ' (q :: ids) base k)
        | _ => F.bad⟩
    | _ => ⟨fun tr σ ids base k => (eop P cfg F N rm o).run tr σ (base + i) (fun v => wr o.dst v tr fun tr' => (etail rm (i + 1) rest).run tr' σ ids base k) (fun _ _ => F.bad) fun _ _ => F.bad⟩

def eregion (rm : Bool) (ops : Array Oper) (draw : Bool) : RegBox α :=
  match draw with
  | false => eseq P cfg F N rm ops.toList 0 ops.toList
  | true => match drawOk ops with
    | false => ⟨fun _ _ _ _ _ _ _ => F.bad⟩
    | true => match cutAt ops.toList (ancs ops.toList) with
      | none => ⟨fun call tr ds σ base kn kb => (edraw P cfg F N rm ops.toList (ancs ops.toList) 0 ops.toList).run call tr ds [⟨σ, 0, none⟩] [] [] none base kn kb⟩
      | some p => ⟨fun call tr ds σ base kn kb => (edraw P cfg F N rm ops.toList (ancs ops.toList) 0 (ops.toList.take p)).run call tr ds [⟨σ, 0, none⟩] [] [] none base
          (fun tr ds σ => (etail P cfg F N rm p (ops.toList.drop p)).run tr σ [] base fun tr σ => kn tr ds σ) kb⟩

def ecode (rm : Bool) : Code → CodeBox α
  | .skip => ⟨fun call lf tr ds σ K => K .norm tr ds σ⟩
  | .region _ ops draw => ⟨fun call lf tr ds σ K => ASt.rec (fun n w h => F.nat (n + ops.toList.length) fun nx => (eregion P cfg F N rm ops draw).run call tr ds ⟨nx, w, h⟩ n (fun tr ds σ => K .norm tr ds σ) (fun v tr ds σ => K (.panic v) tr ds σ)) σ⟩
  | .seq a b => ⟨fun call lf tr ds σ K => (ecode rm a).run call lf tr ds σ fun fl tr ds σ => match fl with
      | .norm => (ecode rm b).run call lf tr ds σ K
      | .ret => K .ret tr ds σ
      | .exit j => K (.exit j) tr ds σ
      | .panic v => K (.panic v) tr ds σ⟩
  | .cond c t e => ⟨fun call lf tr ds σ K => rd cfg N c tr fun v => match v with
      | .bool x => F.bool x fun x => Bool.rec ((ecode rm e).run call lf tr ds σ K) ((ecode rm t).run call lf tr ds σ K) x
      | _ => F.bad⟩
  | .block id body => ⟨fun call lf tr ds σ K => (ecode rm body).run call lf tr ds σ fun fl tr ds σ => match fl with
      | .norm => K .norm tr ds σ
      | .ret => K .ret tr ds σ
      | .exit j => Bool.rec (K (.exit j) tr ds σ) (K .norm tr ds σ) (Nat.beq j id)
      | .panic v => K (.panic v) tr ds σ⟩
  | .loop body => ⟨fun call lf tr ds σ K => Nat.rec (motive := fun _ => Tr AV → DS → ASt → α) (fun _ _ _ => F.bad) (fun _ ih tr ds σ => (ecode rm body).run call lf tr ds σ fun fl tr ds σ => match fl with
      | .norm => ih tr ds σ
      | .ret => K .ret tr ds σ
      | .exit j => K (.exit j) tr ds σ
      | .panic v => K (.panic v) tr ds σ) lf tr ds σ⟩
  | .exit id => ⟨fun call lf tr ds σ K => K (.exit id) tr ds σ⟩
  | .label _ => ⟨fun call lf tr ds σ K => K .norm tr ds σ⟩
  | .ret => ⟨fun call lf tr ds σ K => K .ret tr ds σ⟩
  | _ => ⟨fun _ _ _ _ _ _ => F.bad⟩

/-! ### Deferred functions -/
def eseqR (rm : Bool) (ops : List Oper) : Nat → List Oper → RBox α
  | _, [] => ⟨fun call tr ds σ base u kn kb => kn tr ds σ u⟩
  | i, o :: rest => match isRecover o with
    | true => ⟨fun call tr ds σ base u kn kb => guardK cfg F N ops o tr
        (match u with
          | .pan v => wr o.dst v tr fun tr' => (eseqR rm ops (i + 1) rest).run call tr' ds σ base (.rcv v) kn kb
          | .ret => wr o.dst .nilif tr fun tr' => (eseqR rm ops (i + 1) rest).run call tr' ds σ base .ret kn kb
          | .rcv v => wr o.dst .nilif tr fun tr' => (eseqR rm ops (i + 1) rest).run call tr' ds σ base (.rcv v) kn kb)
        (wr o.dst (.tup []) tr fun tr' => (eseqR rm ops (i + 1) rest).run call tr' ds σ base u kn kb)⟩
    | false => ⟨fun call tr ds σ base u kn kb => guardK cfg F N ops o tr
        (F.nat (base + i) fun id => (estep P cfg F N rm o).run call tr ds σ id (fun tr' ds' σ' => (eseqR rm ops (i + 1) rest).run call tr' ds' σ' base u kn kb) (fun v σ' => kb v tr ds σ' u))
        (wr o.dst (.tup []) tr fun tr' => (eseqR rm ops (i + 1) rest).run call tr' ds σ base u kn kb)⟩

def ecodeR (rm : Bool) : Code → CodeRBox α
  | .seq a b => ⟨fun call lf tr ds σ u K => (ecodeR rm a).run call lf tr ds σ u fun fl tr ds σ u => match fl with
      | .norm => (ecodeR rm b).run call lf tr ds σ u K
      | .ret => K .ret tr ds σ u
      | .exit j => K (.exit j) tr ds σ u
      | .panic v => K (.panic v) tr ds σ u⟩
  | .cond c t e => ⟨fun call lf tr ds σ u K => rd cfg N c tr fun v => match v with
      | .bool x => F.bool x fun x => Bool.rec ((ecodeR rm e).run call lf tr ds σ u K) ((ecodeR rm t).run call lf tr ds σ u K) x
      | _ => F.bad⟩
  | .region id ops draw => match draw with
    | false => ⟨fun call lf tr ds σ u K => ASt.rec (fun n w h => F.nat (n + ops.toList.length) fun nx => (eseqR P cfg F N rm ops.toList 0 ops.toList).run call tr ds ⟨nx, w, h⟩ n u (fun tr ds σ u => K .norm tr ds σ u) (fun v tr ds σ u => K (.panic v) tr ds σ u)) σ⟩
    | true => ⟨fun call lf tr ds σ u K => (ecode P cfg F N rm (.region id ops true)).run call lf tr ds σ fun fl tr ds σ => K fl tr ds σ u⟩
  | c => ⟨fun call lf tr ds σ u K => (ecode P cfg F N rm c).run call lf tr ds σ fun fl tr ds σ => K fl tr ds σ u⟩

def eres (l : List ResultVar) (tr : Tr AV) (σ : ASt) (k : List AV → α) : α :=
  List.rec (motive := fun _ => (List AV → α) → α) (fun k => k [])
    (fun r _ ih k => match r with
      | .tmp t => rd cfg N (.tmp t) tr fun v => ih fun vs => k (v :: vs)
      | .cell a t => rd cfg N (.tmp a) tr fun p => match p with
        | .ptr i j off => F.hget σ i fun b => match b with
          | .row _ xs _ => F.nth xs j fun x => loadK P F t x.cells off fun v => ih fun vs => k (v :: vs)
          | _ => F.bad
        | _ => F.bad) l k

def argsK (l : List AV) (i : Nat) (tr : Tr AV) (k : Tr AV → α) : α :=
  List.rec (motive := fun _ => Nat → Tr AV → α) (fun _ tr => k tr) (fun v _ ih i tr => setP v (pathOf i) tr fun tr' => ih (Nat.succ i) tr') l i tr
end

section
variable {α : Type} (P : Program) (cfg : Cfg) (F : Force α)

def efunR (f : FuncId) : FunRBox α :=
  match P.funcs[f]? with
  | none => ⟨fun _ _ _ _ _ _ => F.bad⟩
  | some fn => match fn.body with
    | none => ⟨fun _ _ _ _ _ _ => F.bad⟩
    | some c => ⟨fun call n args u σ K => F.chk (Nat.ble args.length fn.ntmps) (argsK args 0 .leaf fun tr => (ecodeR P cfg F fn.ntmps (cfg.rows f) c).run call n tr [] σ u fun fl tr ds σ u => match ds with
        | [] => match fl with
          | .norm => eres P cfg F fn.ntmps fn.results.toList tr σ fun _ => K u σ
          | .ret => eres P cfg F fn.ntmps fn.results.toList tr σ fun _ => K u σ
          | _ => F.bad
        | _ :: _ => F.bad)⟩

def eleave (call : CallK α) (n : Nat) (ds : DS) (u : UA) (σ : ASt) (K : UA → ASt → α) : α :=
  List.rec (motive := fun _ => UA → ASt → α) (fun u σ => K u σ)
    (fun d _ ih u σ => match d.1 with
      | .func f first caps => match first with
        | [] => F.list (d.2 ++ caps) fun l => (efunR P cfg F f).run call n l u σ fun u' σ' => ih u'.settle σ'
        | _ :: _ => F.bad
      | _ => F.bad) ds u σ

def edone (fn : Func) (call : CallK α) (n : Nat) (tr : Tr AV) (ds : DS) (σ : ASt) (u : UA) (K : CR → α) : α :=
  eleave P cfg F call n ds u σ fun u σ => match u with
    | .ret => eres P cfg F fn.ntmps fn.results.toList tr σ fun vs => K (.ret (oneOf vs) σ)
    | .pan v => K (.panic v σ)
    | .rcv _ => F.bad

def efun (f : FuncId) : FunBox α :=
  match P.funcs[f]? with
  | none => ⟨fun _ _ _ _ _ => F.bad⟩
  | some fn => match fn.body with
    | none => ⟨fun _ _ _ _ _ => F.bad⟩
    | some c => ⟨fun call n args σ K => F.chk (Nat.ble args.length fn.ntmps) (argsK args 0 .leaf fun tr => (ecode P cfg F fn.ntmps (cfg.rows f) c).run call n tr [] σ fun fl tr ds σ => match fl with
        | .norm => edone P cfg F fn call n tr ds σ .ret K
        | .ret => edone P cfg F fn call n tr ds σ .ret K
        | .panic v => edone P cfg F fn call n tr ds σ (.pan v) K
        | .exit _ => F.bad)⟩

def addK (bs : List Blk) (σ : ASt) (k : ASt → α) : α :=
  List.rec (motive := fun _ => ASt → α) (fun σ => k σ) (fun b _ ih σ => F.hset σ σ.next (some b) fun σ => ASt.rec (fun n w h => F.nat (n + 1) fun n => ih ⟨n, w, h⟩) σ) bs σ

def ecall : Nat → CallK α
  | 0 => fun _ _ _ _ => F.bad
  | n + 1 => fun f args σ K => match cfg.ext f args σ with
    | some r => F.chk r.1 (valK F r.2.1 fun v => addK F r.2.2 σ fun σ => K (.ret v σ))
    | none => (efun P cfg F f).run (ecall n) n args σ K
end
end
end Go.Am

set_option linter.unusedVariables false
set_option linter.unusedSimpArgs false
namespace Go.Am
open Go

/-- The trie of temporaries and the list of them. -/
structure TR (N : Nat) (tr : Tr AV) (ts : List AV) : Prop where
  len : ts.length = N
  val : ∀ i, i < N → ts.getD i .undef = (tr.get i).getD (.tup [])

section
variable {α : Type}

theorem beq1_t {n : Nat} (h : Nat.beq n 1 = true) : n = 1 := Nat.eq_of_beq_eq_true h
theorem beq1_f {n : Nat} (h : Nat.beq n 1 = false) : n ≠ 1 := Nat.ne_of_beq_eq_false h
theorem not_t {b : Bool} (h : ¬ b = true) : b = false := by cases b <;> simp_all

theorem getP_eq {β : Type} (d : α) (k : β → α) : ∀ (f n : Nat) (t : Tr β), n + 1 < 2 ^ f → getP d k (pathF f n) t = match t.get n with | some v => k v | none => d := by
  intro f
  induction f with
  | zero => intro n t h; simp at h
  | succ f ih =>
    intro n t h
    by_cases hn : n = 0
    · subst hn
      show getP d k [] t = _
      cases t with
      | leaf => rfl
      | node v l r => rw [Tr.get_root]; cases v <;> rfl
    · have hb : Nat.beq n 0 = false := by cases n <;> simp_all [Nat.beq]
      have hp : pathF (f + 1) n = Nat.beq (n % 2) 1 :: pathF f ((n - 1) / 2) := by simp only [pathF, hb, cond_false]
      rw [hp]
      have hm : (n - 1) / 2 + 1 < 2 ^ f := by rw [Nat.pow_succ] at h; omega
      cases t with
      | leaf => rfl
      | node v l r =>
        show (Bool.rec (getP d k (pathF f ((n - 1) / 2)) r) (getP d k (pathF f ((n - 1) / 2)) l) (Nat.beq (n % 2) 1) : α) = _
        rw [ih _ r hm, ih _ l hm]
        have : (Tr.node v l r).get n = cond (Nat.beq (n % 2) 1) (l.get ((n - 1) / 2)) (r.get ((n - 1) / 2)) := by simp only [Tr.get, hb, cond_false]
        rw [this]
        cases Nat.beq (n % 2) 1 <;> rfl

theorem path_eq {β : Type} (d : α) (k : β → α) (n : Nat) (t : Tr β) : getP d k (pathOf n) t = match t.get n with | some v => k v | none => d := getP_eq d k _ n t Nat.lt_log2_self

theorem setP_eq {β : Type} (v : β) : ∀ (f n : Nat) (t : Tr β), n + 1 < 2 ^ f → ∃ t', (∀ k : Tr β → α, setP v (pathF f n) t k = k t') ∧ ∀ j, t'.get j = if j = n then some v else t.get j := by
  intro f
  induction f with
  | zero => intro n t h; simp at h
  | succ f ih =>
    intro n t h
    by_cases hn : n = 0
    · subst hn
      cases t with
      | leaf =>
        refine ⟨.node (some v) .leaf .leaf, fun k => rfl, fun j => ?_⟩
        by_cases hj : j = 0
        · subst hj; simp [Tr.get]
        · have hb : Nat.beq j 0 = false := by cases j <;> simp_all [Nat.beq]
          simp only [Tr.get, hb, cond_false, hj, if_false]
          cases Nat.beq (j % 2) 1 <;> rfl
      | node x l r =>
        refine ⟨.node (some v) l r, fun k => rfl, fun j => ?_⟩
        by_cases hj : j = 0
        · subst hj; simp [Tr.get]
        · have hb : Nat.beq j 0 = false := by cases j <;> simp_all [Nat.beq]
          simp only [Tr.get, hb, cond_false, hj, if_false]
    · have hb : Nat.beq n 0 = false := by cases n <;> simp_all [Nat.beq]
      have hp : pathF (f + 1) n = Nat.beq (n % 2) 1 :: pathF f ((n - 1) / 2) := by simp only [pathF, hb, cond_false]
      rw [hp]
      have hm : (n - 1) / 2 + 1 < 2 ^ f := by rw [Nat.pow_succ] at h; omega
      have key : ∀ (x : Option β) (l r l' r' : Tr β), (∀ j, l'.get j = if j = (n - 1) / 2 then some v else l.get j) → (∀ j, r'.get j = if j = (n - 1) / 2 then some v else r.get j) →
          ∀ j, (cond (Nat.beq (n % 2) 1) (Tr.node x l' r) (Tr.node x l r')).get j = if j = n then some v else (Tr.node x l r).get j := by
        intro x l r l' r' hl hr j
        by_cases hj : j = 0
        · subst hj
          have : ¬ 0 = n := fun e => hn e.symm
          rw [if_neg this]
          cases Nat.beq (n % 2) 1 <;> simp [Tr.get]
        · have hjb : Nat.beq j 0 = false := by cases j <;> simp_all [Nat.beq]
          cases hB : Nat.beq (n % 2) 1 with
          | true =>
            simp only [cond_true, Tr.get, hjb, cond_false]
            have ho : n % 2 = 1 := beq1_t hB
            by_cases hjo : Nat.beq (j % 2) 1 = true
            · rw [hjo, cond_true, cond_true, hl]
              have hjo' : j % 2 = 1 := beq1_t hjo
              by_cases hjn : j = n
              · subst hjn; simp
              · have : ¬ (j - 1) / 2 = (n - 1) / 2 := by omega
                simp [this, hjn]
            · have hjo2 : Nat.beq (j % 2) 1 = false := not_t hjo
              have hjo' : ¬ j % 2 = 1 := beq1_f hjo2
              have hjn : ¬ j = n := by rintro rfl; exact hjo' ho
              rw [hjo2, if_neg hjn, cond_false, cond_false]
          | false =>
            simp only [cond_false, Tr.get, hjb]
            have ho : ¬ n % 2 = 1 := beq1_f hB
            by_cases hjo : Nat.beq (j % 2) 1 = true
            · have hjo' : j % 2 = 1 := beq1_t hjo
              have hjn : ¬ j = n := by rintro rfl; exact ho hjo'
              rw [hjo, if_neg hjn, cond_true, cond_true]
            · have hjo2 : Nat.beq (j % 2) 1 = false := not_t hjo
              have hjo' : ¬ j % 2 = 1 := beq1_f hjo2
              rw [hjo2, cond_false, cond_false, hr]
              by_cases hjn : j = n
              · subst hjn; simp
              · have : ¬ (j - 1) / 2 = (n - 1) / 2 := by omega
                simp [this, hjn]
      cases t with
      | leaf =>
        obtain ⟨t', h1, h2⟩ := ih ((n - 1) / 2) .leaf hm
        refine ⟨cond (Nat.beq (n % 2) 1) (.node none t' .leaf) (.node none .leaf t'), fun k => ?_, fun j => ?_⟩
        · show (Bool.rec (setP v (pathF f ((n - 1) / 2)) .leaf fun r' => k (.node none .leaf r')) (setP v (pathF f ((n - 1) / 2)) .leaf fun l' => k (.node none l' .leaf)) (Nat.beq (n % 2) 1) : α) = _
          rw [h1, h1]
          cases Nat.beq (n % 2) 1 <;> rfl
        · rw [key none .leaf .leaf t' t' h2 h2 j]
          by_cases hjn : j = n
          · simp [hjn]
          · simp only [hjn, if_false, Tr.get]
            cases Nat.beq j 0 <;> cases Nat.beq (j % 2) 1 <;> rfl
      | node x l r =>
        obtain ⟨l', h1, h2⟩ := ih ((n - 1) / 2) l hm
        obtain ⟨r', h3, h4⟩ := ih ((n - 1) / 2) r hm
        refine ⟨cond (Nat.beq (n % 2) 1) (.node x l' r) (.node x l r'), fun k => ?_, key x l r l' r' h2 h4⟩
        show (Bool.rec (setP v (pathF f ((n - 1) / 2)) r fun r' => k (.node x l r')) (setP v (pathF f ((n - 1) / 2)) l fun l' => k (.node x l' r)) (Nat.beq (n % 2) 1) : α) = _
        rw [h1, h3]
        cases Nat.beq (n % 2) 1 <;> rfl

variable {F : Force α} {bad : α}

theorem hgetK_eq (σ : ASt) (id : Nat) (k : Blk → α) : hgetK bad σ id k = match σ.get id with | some b => k b | none => bad := by
  unfold hgetK ASt.get
  generalize σ.heap = t
  induction t generalizing id with
  | leaf => rfl
  | node v l r ihl ihr =>
    show (Bool.rec (Bool.rec _ _ (Nat.beq (Nat.mod id 2) 1)) (Option.rec bad k v) (Nat.beq id 0) : α) = _
    rw [ihl, ihr]
    have e1 : Nat.mod id 2 = id % 2 := rfl
    have e2 : Nat.div (Nat.sub id 1) 2 = (id - 1) / 2 := rfl
    rw [e1, e2]
    simp only [Tr.get]
    cases Nat.beq id 0 with
    | true => cases v <;> rfl
    | false => cases Nat.beq (id % 2) 1 <;> rfl

theorem hsetF_eq (x : Option Blk) : ∀ (f : Nat) (t : Tr Blk) (n : Nat) (k : Tr Blk → α), hsetF x f t n k = k (Tr.setF x f t n) := by
  intro f
  induction f with
  | zero => intro t n k; rfl
  | succ f ih =>
    intro t n k
    show (Bool.rec (natK (Nat.div (Nat.sub n 1) 2) fun m => Tr.rec
        (Bool.rec (hsetF x f .leaf m fun r' => k (.node none .leaf r')) (hsetF x f .leaf m fun l' => k (.node none l' .leaf)) (Nat.beq (Nat.mod n 2) 1))
        (fun v l r _ _ => Bool.rec (hsetF x f r m fun r' => k (.node v l r')) (hsetF x f l m fun l' => k (.node v l' r)) (Nat.beq (Nat.mod n 2) 1)) t)
      (Tr.rec (k (.node x .leaf .leaf)) (fun _ l r _ _ => k (.node x l r)) t) (Nat.beq n 0) : α) = _
    rw [natK_eq]
    have e1 : Nat.mod n 2 = n % 2 := rfl
    have e2 : Nat.div (Nat.sub n 1) 2 = (n - 1) / 2 := rfl
    rw [e1, e2]
    simp only [ih, Tr.setF]
    cases Nat.beq n 0 with
    | true => cases t <;> rfl
    | false => cases t <;> cases Nat.beq (n % 2) 1 <;> rfl

theorem hsetK_eq (σ : ASt) (id : Nat) (x : Option Blk) (k : ASt → α) : hsetK σ id x k = k ⟨σ.next, σ.wp, σ.heap.set id x⟩ := by
  obtain ⟨n, w, h⟩ := σ
  show hsetF x (Nat.log2 (id + 1) + 1) h id (fun h => k ⟨n, w, h⟩) = _
  rw [hsetF_eq]
  rfl
theorem nthK_eq {β : Type} (l : List β) : ∀ (n : Nat) (k : β → α), nthK bad l n k = match l[n]? with | some x => k x | none => bad := by
  induction l with
  | nil => intro n k; rfl
  | cons x l ih =>
    intro n k
    cases n with
    | zero => rfl
    | succ n => show nthK bad l n k = _; rw [ih]; rfl

theorem force_good {good : α → Prop} (h : ¬ good bad) : (force bad).Good good :=
  ⟨fun n k => by simp only [force, natK_eq]; exact id, fun n k => by simp only [force, intK_eq]; exact id, fun n k => by simp only [force, boolK_eq]; exact id, fun n k => by simp only [force, listK_eq]; exact id,
   fun n k => by simp only [force, listK_eq]; exact id, fun l n k => by
    simp only [force, nthK_eq]
    split
    · rename_i x hx; exact fun hg => ⟨x, hx, hg⟩
    · exact fun hg => absurd hg h, fun l n k => by
    simp only [force, nthK_eq, natK_eq]
    split
    · rename_i x hx; exact fun hg => ⟨x, hx, hg⟩
    · exact fun hg => absurd hg h, fun σ id k => by
    simp only [force, hgetK_eq]
    split
    · rename_i x hx; exact fun hg => ⟨x, hx, hg⟩
    · exact fun hg => absurd hg h, fun σ id x k => by simp only [force, hsetK_eq]; exact fun hg => hg, h⟩

variable {good : α → Prop}

theorem chk_ok (hF : F.Good good) {b : Bool} {a : α} (h : good (F.chk b a)) : b = true ∧ good a := by
  have := hF.bool _ _ h
  cases b with
  | true => exact ⟨rfl, this⟩
  | false => exact absurd this hF.bad
theorem opt_ok (hF : F.Good good) {β : Type} {o : Option β} {k : β → α} (h : good (F.opt o k)) : ∃ v, o = some v ∧ good (k v) := by
  cases o with
  | none => exact absurd h hF.bad
  | some v => exact ⟨v, rfl, h⟩
theorem bad_no (hF : F.Good good) {p : Prop} (h : good F.bad) : p := absurd h hF.bad
theorem hget_ok (hF : F.Good good) {σ : ASt} {id : Nat} {k : Blk → α} (h : good (F.hget σ id k)) : ∃ b, σ.get id = some b ∧ good (k b) := hF.hget _ _ _ h
theorem nth_ok (hF : F.Good good) {l : List AV} {n : Nat} {k : AV → α} (h : good (F.nth l n k)) : ∃ x, l[n]? = some x ∧ good (k x) := hF.nth _ _ _ h
theorem nthK_ok (hF : F.Good good) {β : Type} {l : List β} {n : Nat} {k : β → α} (h : good (nthK F.bad l n k)) : ∃ x, l[n]? = some x ∧ good (k x) := by
  rw [nthK_eq] at h
  split at h
  · rename_i b hb; exact ⟨b, hb, h⟩
  · exact bad_no hF h
theorem hset_put (hF : F.Good good) {σ : ASt} {id : Nat} {b : Blk} {k : ASt → α} (h : good (F.hset σ id (some b) k)) : good (k (σ.put id b)) := hF.hset _ _ _ _ h
theorem hset_del (hF : F.Good good) {σ : ASt} {id : Nat} {k : ASt → α} (h : good (F.hset σ id none k)) : good (k (σ.del id)) := hF.hset _ _ _ _ h
theorem valK_ok (hF : F.Good good) {v : AV} {k : AV → α} (h : good (valK F v k)) : good (k v) := by
  cases v with
  | bool b => exact hF.bool _ _ h
  | int i n => exact hF.int _ _ h
  | str s => exact hF.bytes _ _ h
  | ptr a b c => exact hF.nat _ _ (hF.nat _ _ h)
  | rptr x o => exact hF.nat _ _ h
  | sl a b c d => exact hF.nat _ _ (hF.nat _ _ h)
  | lst xs t => exact hF.list _ _ h
  | agg cs => exact hF.list _ _ h
  | _ => exact h
theorem plain_ok (hF : F.Good good) {o : Option AV} {k : AV → α} (h : good (plainK F o k)) : ∃ v, o = some v ∧ good (k v) := by
  obtain ⟨v, h1, h2⟩ := opt_ok hF h
  exact ⟨v, h1, valK_ok hF h2⟩
theorem cutLoK_ok (hF : F.Good good) {h : Nat} {lo : Option AV} {k : Nat → α} (hg : good (cutLoK F h lo k)) :
    ∃ l, (match lo with
      | none => some (0, h)
      | some v => match slicePos v with
        | some n => if 0 ≤ n ∧ n ≤ h then some (n.toNat, h) else none
        | none => none : Option (Nat × Nat)) = some (l, h) ∧ good (k l) := by
  unfold cutLoK at hg
  split at hg
  · exact ⟨0, rfl, hg⟩
  · split at hg
    · rename_i kk n
      obtain ⟨h1, h2⟩ := chk_ok hF hg
      simp only [Bool.and_eq_true, decide_eq_true_eq] at h1
      exact ⟨n.toNat, by simp only [slicePos]; rw [if_pos h1], hF.nat _ _ h2⟩
    · exact bad_no hF hg
theorem cutK_ok (hF : F.Good good) {len : Nat} {lo hi : Option AV} {k : Nat → Nat → α} (hg : good (cutK F len lo hi k)) : ∃ l h, cutA len lo hi = some (l, h) ∧ good (k l h) := by
  unfold cutK at hg
  unfold cutA
  split at hg
  · obtain ⟨l, h1, h2⟩ := cutLoK_ok hF hg
    exact ⟨l, len, h1, h2⟩
  · split at hg
    · rename_i kk n
      obtain ⟨h1, h2⟩ := chk_ok hF hg
      simp only [Bool.and_eq_true, decide_eq_true_eq] at h1
      obtain ⟨l, h3, h4⟩ := cutLoK_ok hF (hF.nat _ _ h2)
      refine ⟨l, n.toNat, ?_, h4⟩
      simp only [slicePos]
      rw [if_pos h1]
      exact h3
    · exact bad_no hF hg
theorem eqFsK_ok {P : Program} (hF : F.Good good) {E : TypeId → AV → AV → (Bool → α) → α} {E' : TypeId → AV → AV → Option Bool} (hE : ∀ t x y k, good (E t x y k) → ∃ b, E' t x y = some b ∧ good (k b)) {xs ys : List AV} :
    ∀ (l : List Field) (k : Bool → α), good (eqFsK P F E xs ys l k) → ∃ b, eqCells.eqFields E' P xs ys l = some b ∧ good (k b)
  | [], k, h => ⟨true, rfl, h⟩
  | f :: r, k, h => by
    unfold eqFsK at h
    unfold eqCells.eqFields
    by_cases hn : f.name = "_"
    · have : decide (f.name = "_") = true := by simpa using hn
      rw [this] at h
      exact bad_no hF h
    · have : decide (f.name = "_") = false := by simpa using hn
      rw [this] at h
      rw [if_neg hn]
      dsimp only at h
      split at h
      · rename_i a b ha hb
        rw [ha, hb]
        obtain ⟨v, hv, h⟩ := hE _ _ _ _ h
        simp only [hv]
        cases v with
        | true => exact eqFsK_ok hF hE r k h
        | false => exact ⟨false, rfl, h⟩
      · exact bad_no hF h
theorem eqK_ok {P : Program} (hF : F.Good good) : ∀ (d : Nat) (t : TypeId) (x y : AV) (k : Bool → α), good (eqK P F d t x y k) → ∃ b, eqCells P d t x y = some b ∧ good (k b)
  | 0, t, x, y, k, h => bad_no hF h
  | d + 1, t, x, y, k, h => by
    unfold eqK at h
    split at h
    · rename_i fs xs ys hu
      cases hs : P.stoodInHeld t with
      | true => rw [hs] at h; exact bad_no hF h
      | false =>
        rw [hs] at h
        obtain ⟨b, hb, h⟩ := eqFsK_ok hF (fun t x y k h => eqK_ok hF d t x y k h) _ _ h
        exact ⟨b, by unfold eqCells; simp only [hu, hs, cond_false]; exact hb, h⟩
    · obtain ⟨b, hb, h⟩ := opt_ok hF h
      exact ⟨b, hb, hF.bool _ _ h⟩
theorem eqX_ok {P : Program} (hF : F.Good good) {t : TypeId} {cx cy : Bool} {a b : AV} {k : Bool → α} (h : good (eqX P F t cx cy a b k)) :
    ∃ v, binA P .eql t cx cy a b = some (.bool v) ∧ binA P .neq t cx cy a b = some (.bool (!v)) ∧ good (k v) := by
  unfold eqX at h
  split at h
  · rename_i xs ys
    cases hg : P.eqGuardType P.depth t with
    | true => rw [hg] at h; exact bad_no hF h
    | false =>
      rw [hg] at h
      obtain ⟨v, hv, h⟩ := eqK_ok hF _ _ _ _ _ h
      exact ⟨v, by simp [binA, AV.nonNum, eqA, hg, hv], by simp [binA, AV.nonNum, eqA, hg, hv], h⟩
  · rename_i i x j y
    by_cases hij : i = j
    · have : decide (i = j) = true := by simpa using hij
      rw [this] at h
      have h := hF.bool _ _ h
      exact ⟨eqI x y, by rw [← binX_eq]; simp [binX, hij], by rw [← binX_eq]; simp [binX, hij], h⟩
    · have : decide (i = j) = false := by simpa using hij
      rw [this] at h
      exact bad_no hF h
  · rename_i x y
    exact ⟨_, by simp [binA, strA], by simp [binA, strA], hF.bool _ _ h⟩
  · rename_i h1 h2 h3
    obtain ⟨v, hv, h⟩ := opt_ok hF h
    have h := hF.bool _ _ h
    have e1 : binA P .eql t cx cy a b = (cond (a.nonNum && b.nonNum) (eqA P t cx cy a b) none).map .bool ∧ binA P .neq t cx cy a b = (cond (a.nonNum && b.nonNum) (eqA P t cx cy a b) none).map fun v => .bool (!v) := by
      cases a <;> cases b <;> first | exact (h2 _ _ _ _ rfl rfl).elim | exact (h3 _ _ rfl rfl).elim | (simp only [binA, AV.nonNum, Bool.and_true, Bool.and_false, Bool.true_and, Bool.false_and, cond_true, cond_false, Option.map_none, and_self]; done) | (constructor <;> rfl)
    exact ⟨v, by rw [e1.1, hv]; rfl, by rw [e1.2, hv]; rfl, h⟩
theorem addX_ok (hF : F.Good good) {P : Program} {t : TypeId} {cx cy : Bool} {a b : AV} {k : AV → α} (h : good (addX P F t cx cy a b k)) : ∃ v, binA P .add t cx cy a b = some v ∧ good (k v) := by
  unfold addX at h
  split at h
  · rename_i x
    split at h
    · rename_i y
      obtain ⟨h1, h2⟩ := chk_ok hF h
      refine ⟨.str (x ++ y), ?_, hF.bytes _ _ h2⟩
      simp only [binA, strA]
      rw [if_pos (by simpa [Nat.ble_eq] using h1)]
    · exact bad_no hF h
  · obtain ⟨v, hv, h⟩ := plain_ok hF h
    rw [binX_eq] at hv
    exact ⟨v, hv, h⟩
theorem sliceX_ok (hF : F.Good good) {P : Program} {t : TypeId} {x : AV} {lo hi mx : Option AV} {k : AV → α} (h : good (sliceX P F t x lo hi mx k)) : ∃ v, sliceA P t x lo hi mx = some v ∧ good (k v) := by
  unfold sliceX at h
  unfold sliceA
  split at h
  · rename_i hu
    rw [hu]
    split at h
    · split at h
      · obtain ⟨l, hh, h1, h2⟩ := cutK_ok hF h
        exact ⟨_, by simp only [h1], hF.bytes _ _ h2⟩
      · exact bad_no hF h
    · exact bad_no hF h
  · rename_i e hu
    rw [hu]
    cases hz : Nat.beq (szT P e) 0 with
    | true => rw [hz] at h; exact bad_no hF h
    | false =>
      rw [hz] at h
      dsimp only at h
      simp only [hz, cond_false]
      split at h
      · rename_i xs tk
        split at h
        · obtain ⟨l, hh, h1, h2⟩ := cutK_ok hF h
          have h2 := hF.bool _ _ h2
          cases hb : (Nat.beq l 0 && Nat.beq hh xs.length) with
          | true => rw [hb] at h2; exact ⟨_, by simp only [sliceL, h1, hb, cond_true], h2⟩
          | false =>
            rw [hb] at h2
            obtain ⟨h3, h4⟩ := chk_ok hF h2
            exact ⟨_, by simp only [sliceL, h1, hb, cond_false, h3, cond_true], hF.list _ _ h4⟩
        · obtain ⟨v, hv, h⟩ := plain_ok hF h
          exact ⟨v, hv, h⟩
      · split at h
        · obtain ⟨l, hh, h1, h2⟩ := cutK_ok hF h
          obtain ⟨h3, h4⟩ := chk_ok hF h2
          exact ⟨_, by simp only [sliceL, h1]; rw [if_pos (Nat.eq_of_beq_eq_true h3)], hF.nat _ _ (hF.nat _ _ h4)⟩
        · exact bad_no hF h
      · obtain ⟨v, hv, h⟩ := plain_ok hF h
        exact ⟨v, hv, h⟩
  · exact bad_no hF h
theorem loadK_ok (hF : F.Good good) {P : Program} {t : TypeId} {cs : List AV} {off : Nat} {k : AV → α} (h : good (loadK P F t cs off k)) : ∃ v, loadA P t cs off = some v ∧ good (k v) := by
  unfold loadK at h
  unfold loadA
  split at h
  · exact bad_no hF h
  · rename_i d hd
    rw [hd]
    cases ha : isAggD d with
    | true =>
      rw [ha] at h
      obtain ⟨h1, h2⟩ := chk_ok hF h
      exact ⟨_, by simp only [ha, cond_true, h1], hF.list _ _ h2⟩
    | false =>
      rw [ha] at h
      obtain ⟨v, h1, h2⟩ := nth_ok hF h
      exact ⟨v, by simp only [ha, cond_false, h1], h2⟩

section
variable {P : Program} {cfg : Cfg} {N : Nat} {tr : Tr AV} {ts : List AV}
theorem rd_eq (hT : TR N tr ts) {x : Operand} {k : AV → α} : rd cfg N x tr k = k (aval cfg ts x) := by
  cases x with
  | tmp t =>
    show (Bool.rec (k .undef) (getP (k (.tup [])) k (pathOf t) tr) (Nat.blt t N) : α) = _
    by_cases hlt : t < N
    · have hb : Nat.blt t N = true := by simpa [Nat.blt_eq] using hlt
      rw [hb]
      show getP (k (.tup [])) k (pathOf t) tr = k (ts.getD t .undef)
      rw [path_eq, hT.val t hlt]
      cases tr.get t <;> rfl
    · have hb : Nat.blt t N = false := by
        cases h : Nat.blt t N with
        | false => rfl
        | true => exact absurd (by simpa [Nat.blt_eq] using h) hlt
      rw [hb]
      show k .undef = k (ts.getD t .undef)
      rw [List.getD, List.getElem?_eq_none (by rw [hT.len]; exact Nat.le_of_not_lt hlt)]
      rfl
  | const v => rfl
  | global g => rfl
  | func f => rfl
theorem rdL_eq (hT : TR N tr ts) {l : List Operand} : ∀ {k : List AV → α}, rdL cfg N l tr k = k (l.map (aval cfg ts)) := by
  induction l with
  | nil => intro k; rfl
  | cons x l ih =>
    intro k
    show rd cfg N x tr (fun v => rdL cfg N l tr fun r => k (v :: r)) = _
    rw [rd_eq hT, ih]
    rfl
theorem rdO_eq (hT : TR N tr ts) {x : Option Operand} {k : Option AV → α} : rdO cfg N x tr k = k (x.map (aval cfg ts)) := by
  cases x with
  | none => rfl
  | some x => show rd cfg N x tr (fun v => k (some v)) = _; rw [rd_eq hT]; rfl
end
end
end Go.Am

set_option linter.unusedVariables false
set_option linter.unusedSimpArgs false
namespace Go.Am
open Go

def OpPost {α : Type} (good : α → Prop) (kP : AV → α) (kN : AV → Blk → α) (kU : AV → ASt → α) (v : AV) : Eff → Prop
  | .pure => good (kP v)
  | .new b => good (kN v b)
  | .upd σ' => good (kU v σ')

section
variable {α : Type} {F : Force α} {good : α → Prop} {P : Program} {cfg : Cfg} {N : Nat} {tr : Tr AV} {ts : List AV} {σ : ASt} {id : Nat} {kP : AV → α} {kN : AV → Blk → α} {kU : AV → ASt → α} {rm : Bool}

theorem storeK_ok (hF : F.Good good) {sz i j off : Nat} {v : AV} {k : AV → ASt → α} (h : good (storeK F sz i j off v σ k)) :
    ∃ n xs ty y, σ.get i = some (.row n xs ty) ∧ xs[j]? = some y ∧ (v.storable = true ∧ v.cells.length = sz ∧ sz ≠ 0 ∧ off + v.cells.length ≤ y.cells.length ∧ σ.wp ≤ i) ∧
      good (k .undef (σ.put i (.row n (xs.set j (match y with | .agg _ => .agg (y.cells.take off ++ v.cells ++ y.cells.drop (off + v.cells.length)) | _ => v)) ty))) := by
  unfold storeK at h
  obtain ⟨b, hb, h⟩ := hget_ok hF h
  split at h
  rotate_left
  · exact bad_no hF h
  rename_i n xs ty
  obtain ⟨y, hy, h⟩ := nth_ok hF h
  obtain ⟨hc, h⟩ := chk_ok hF h
  simp only [Bool.and_eq_true, Bool.not_eq_true', Nat.ble_eq] at hc
  obtain ⟨⟨⟨⟨c1, c2⟩, c3⟩, c4⟩, c5⟩ := hc
  have c2' : v.cells.length = sz := Nat.eq_of_beq_eq_true c2
  have c3' : sz ≠ 0 := by rintro rfl; cases c3
  refine ⟨n, xs, ty, y, hb, hy, ⟨c1, c2', c3', c4, c5⟩, ?_⟩
  cases y with
  | agg ys =>
    have h := hF.list _ _ (hF.list _ _ h)
    have h := hset_put hF h
    exact h
  | _ =>
    have h := hF.list _ _ h
    have h := hset_put hF h
    exact h

theorem effK_ok (hF : F.Good good) {r : Option (AV × Eff)} (h0 : good (effK F r σ kP kN kU)) : ∃ v e, r = some (v, e) ∧ OpPost good kP kN kU v e := by
  unfold effK at h0
  obtain ⟨r, rfl, h1⟩ := opt_ok hF h0
  obtain ⟨v, e⟩ := r
  refine ⟨v, e, rfl, ?_⟩
  cases e with
  | pure => exact valK_ok hF h1
  | new b =>
    simp only at h1
    have h2 := valK_ok hF h1
    cases b with
    | row k xs ty => exact hF.list _ _ h2
    | tok k n ty => exact hF.nat _ _ h2
    | _ => exact h2
  | upd σ' => exact valK_ok hF h1

theorem appendK_ok (hF : F.Good good) {t : TypeId} {s x : AV} (h : good (appendK P F rm id t s x σ kP kN kU)) : ∃ v e, appendA P cfg σ rm id t s x = some (v, e) ∧ OpPost good kP kN kU v e := by
  unfold appendK at h
  unfold appendA
  split at h
  · exact bad_no hF h
  rename_i e he
  obtain ⟨ys, hy, h⟩ := opt_ok hF h
  have h := hF.nat _ _ (hF.list _ _ h)
  obtain ⟨hc, h⟩ := chk_ok hF h
  rw [he, hy]
  simp only [Bool.not_eq_true'] at hc
  simp only [hc, cond_false]
  cases s with
  | nils =>
    cases ys with
    | nil => exact ⟨_, _, rfl, h⟩
    | cons y r =>
      simp only at h ⊢
      have h := hF.nat _ _ h
      obtain ⟨h1, h⟩ := chk_ok hF h
      rw [Nat.ble_eq] at h1
      rw [if_pos (by simpa using h1)]
      cases rm with
      | true => exact ⟨_, _, rfl, h⟩
      | false => exact ⟨_, _, rfl, h⟩
  | lst xs tk =>
    cases ys with
    | nil => cases tk <;> exact ⟨_, _, rfl, h⟩
    | cons y r =>
      simp only at h ⊢
      cases tk with
      | none => exact bad_no hF h
      | some tk =>
        simp only at h ⊢
        obtain ⟨b, hb, h⟩ := hget_ok hF h
        rw [hb]
        split at h
        rotate_left
        · exact bad_no hF h
        rename_i k' n ty
        obtain ⟨h1, h⟩ := chk_ok hF h
        simp only [Bool.and_eq_true, Nat.ble_eq, Bool.not_eq_true'] at h1
        obtain ⟨⟨⟨⟨a1, a2⟩, a3⟩, a4⟩, a5⟩ := h1
        have h := hF.list _ _ (hF.nat _ _ h)
        have h := hset_del hF h
        rw [keepK_eq] at h
        have h := hset_put hF h
        simp only
        rw [if_pos ⟨Nat.eq_of_beq_eq_true a1, Nat.eq_of_beq_eq_true a2, a3, by simpa using a4, Nat.ne_of_beq_eq_false a5⟩]
        exact ⟨_, _, rfl, h⟩
  | sl k' i0 lo n =>
    cases ys with
    | nil => exact ⟨_, _, rfl, h⟩
    | cons y r =>
      simp only at h ⊢
      obtain ⟨b, hb, h⟩ := hget_ok hF h
      rw [hb]
      split at h
      rotate_left
      · exact bad_no hF h
      rename_i k'' zs ty
      obtain ⟨h1, h⟩ := chk_ok hF h
      simp only [Bool.and_eq_true, Nat.ble_eq, Bool.not_eq_true'] at h1
      obtain ⟨⟨⟨⟨⟨⟨a1, a2⟩, a3⟩, a4⟩, a5⟩, a6⟩, a7⟩ := h1
      have h := hF.list _ _ (hF.nat _ _ h)
      have h := hset_del hF h
      rw [keepK_eq] at h
      have h := hset_put hF h
      simp only
      rw [if_pos ⟨Nat.eq_of_beq_eq_true a1, Nat.eq_of_beq_eq_true a2, Nat.eq_of_beq_eq_true a3, a4, a5, by simpa using a6, Nat.ne_of_beq_eq_false a7⟩]
      exact ⟨_, _, rfl, h⟩
  | _ => exact bad_no hF h

theorem mapK_ok (hF : F.Good good) {t : TypeId} {m k v : AV} (h : good (match P.underlying t, m with
      | some (.map kt _), .map i => match P.underlying kt with
        | some d => F.chk (keyD d && v.storable) (F.hget σ i fun b => match b with
          | .map ks vs => F.chk (Nat.ble σ.wp i) (F.opt (updA d k v ks vs) fun r => F.list r.1 fun ks => F.list r.2 fun vs => F.hset σ i (some (.map ks vs)) fun σ' => kU .undef σ')
          | _ => F.bad)
        | none => F.bad
      | _, _ => F.bad)) : ∃ v' e, (match P.underlying t, m with
    | some (.map kt _), .map i => match P.underlying kt with
      | some d => cond (keyD d && v.storable)
        (match σ.get i with
        | some (.map ks vs) => if σ.wp ≤ i then (updA d k v ks vs).map fun r => (AV.undef, Eff.upd (σ.put i (.map r.1 r.2))) else none
        | _ => none) none
      | none => none
    | _, _ => none) = some (v', e) ∧ OpPost good kP kN kU v' e := by
  split at h
  rotate_left
  · exact bad_no hF h
  rename_i kt et i hu
  try rw [hu]
  try simp only
  split at h
  rotate_left
  · exact bad_no hF h
  rename_i d hd
  try rw [hd]
  try simp only
  obtain ⟨h1, h⟩ := chk_ok hF h
  obtain ⟨b, hb, h⟩ := hget_ok hF h
  split at h
  rotate_left
  · exact bad_no hF h
  rename_i ks vs
  obtain ⟨h2, h⟩ := chk_ok hF h
  obtain ⟨r, hr, h⟩ := opt_ok hF h
  have h := hF.list _ _ (hF.list _ _ h)
  have h := hset_put hF h
  rw [Nat.ble_eq] at h2
  rw [h1, hb]
  simp only [cond_true]
  rw [if_pos h2, hr]
  exact ⟨_, _, rfl, h⟩

theorem eop_ok (hF : F.Good good) (hT : TR N tr ts) {o : Oper} (h : good ((eop P cfg F N rm o).run tr σ id kP kN kU)) : ∃ v e, aop P cfg rm σ id (aval cfg ts) o = some (v, e) ∧ OpPost good kP kN kU v e := by
  unfold eop at h
  split at h
  · rename_i x ho; simp only [rd_eq hT] at h; simp only [aop, ho]; exact ⟨_, _, rfl, h⟩
  · rename_i x ho; simp only [rd_eq hT] at h; simp only [aop, ho]; exact ⟨_, _, rfl, h⟩
  · rename_i c a b ho
    simp only [rd_eq hT] at h
    simp only [aop, ho]
    split at h
    · rename_i t hc
      rw [hc]
      have h := hF.bool _ _ h
      cases t <;> exact ⟨_, _, rfl, h⟩
    · exact bad_no hF h
  · rename_i e x ho
    simp only [rd_eq hT] at h
    simp only [aop, ho]
    split at h
    · exact bad_no hF h
    · exact bad_no hF h
    · rename_i h1 h2
      have h := hF.nat _ _ h
      generalize aval cfg ts x = v at h h1 h2 ⊢
      cases v <;> first | exact absurd rfl h1 | exact absurd rfl (h2 _) | exact ⟨_, _, rfl, h⟩
  · rename_i e ho
    simp only [aop, ho]
    obtain ⟨z, hz, h⟩ := opt_ok hF h
    rw [hz]
    exact ⟨_, _, rfl, hF.nat _ _ h⟩
  · rename_i t a ho
    simp only [rd_eq hT] at h
    simp only [aop, ho]
    split at h
    · rename_i i j off hp
      rw [hp]
      obtain ⟨b, hb, h⟩ := hget_ok hF h
      split at h
      · obtain ⟨x, hx, h⟩ := nth_ok hF h
        obtain ⟨v, hv, h⟩ := loadK_ok hF h
        simp only [hb, hx, Option.bind_some, hv, Option.map_some]
        exact ⟨_, _, rfl, h⟩
      · exact bad_no hF h
    · rename_i x off hp
      rw [hp]
      obtain ⟨v, hv, h⟩ := loadK_ok hF h
      simp only [hv, Option.map_some]
      exact ⟨_, _, rfl, h⟩
    · exact bad_no hF h
  · rename_i t a x ho
    simp only [rd_eq hT] at h
    simp only [aop, ho]
    split at h
    · rename_i i j off hp
      rw [hp]
      obtain ⟨n, xs, ty, y, h1, h2, h3, h⟩ := storeK_ok hF h
      simp only [h1, h2, Option.bind_some]
      rw [if_pos ⟨h3.1, h3.2.1, h3.2.2.1, h3.2.2.2.1, h3.2.2.2.2⟩]
      exact ⟨_, _, rfl, h⟩
    · exact bad_no hF h
  · rename_i x ho
    simp only [rd_eq hT] at h
    simp only [aop, ho]
    split at h
    · rename_i hp; rw [hp]; exact ⟨_, _, rfl, h⟩
    · rename_i hp; rw [hp]; exact ⟨_, _, rfl, h⟩
    · exact bad_no hF h
  · rename_i op t x y c ho
    simp only [aop, ho]
    split at h
    · simp only [rd_eq hT] at h
      obtain ⟨v, hv, h⟩ := addX_ok hF h
      rw [hv]; exact ⟨_, _, rfl, h⟩
    · simp only [rd_eq hT] at h
      obtain ⟨v, hv, _, h⟩ := eqX_ok hF h
      rw [hv]; exact ⟨_, _, rfl, h⟩
    · simp only [rd_eq hT] at h
      obtain ⟨v, _, hv, h⟩ := eqX_ok hF h
      rw [hv]; exact ⟨_, _, rfl, h⟩
    · simp only [rd_eq hT, binX_eq] at h
      obtain ⟨v, hv, h⟩ := plain_ok hF h
      rw [hv]; exact ⟨_, _, rfl, h⟩
  · rename_i op t x ho
    simp only [rd_eq hT] at h
    simp only [aop, ho]
    obtain ⟨v, hv, h⟩ := plain_ok hF h
    rw [hv]; exact ⟨_, _, rfl, h⟩
  · rename_i s d x ho
    simp only [rd_eq hT] at h
    simp only [aop, ho]
    exact effK_ok hF h
  · rename_i t parts ho
    simp only [rdL_eq hT] at h
    simp only [aop, ho]
    have hz : (parts.toList.map (·.1)).zip ((parts.toList.map (·.2)).map (aval cfg ts)) = parts.toList.map fun p => (p.1, aval cfg ts p.2) := by
      generalize parts.toList = l
      induction l with
      | nil => rfl
      | cons p l ih => simp only [List.map_cons, List.zip_cons_cons, ih]
    rw [hz] at h
    split at h
    · rename_i fs z hu hzr
      rw [hu, hzr]
      simp only
      cases hall : fs.toList.all fun f => (P.info? f.type).isSome with
      | false => rw [hall] at h; exact bad_no hF h
      | true =>
        rw [hall] at h
        obtain ⟨cs, hc, h⟩ := opt_ok hF h
        rw [hc]
        exact ⟨_, _, rfl, hF.list _ _ h⟩
    · rename_i n e z hu hzr
      rw [hu, hzr]
      simp only
      cases hb : Nat.beq (szT P e) 0 with
      | true => rw [hb] at h; exact bad_no hF h
      | false =>
        rw [hb] at h
        obtain ⟨cs, hc, h⟩ := opt_ok hF h
        rw [hc]
        exact ⟨_, _, rfl, hF.list _ _ h⟩
    · exact bad_no hF h
  · rename_i t len parts ho
    simp only [rdL_eq hT] at h
    simp only [aop, ho]
    have hz : (parts.toList.map (·.1)).zip ((parts.toList.map (·.2)).map (aval cfg ts)) = parts.toList.map fun p => (p.1, aval cfg ts p.2) := by
      generalize parts.toList = l
      induction l with
      | nil => rfl
      | cons p l ih => simp only [List.map_cons, List.zip_cons_cons, ih]
    rw [hz] at h
    split at h
    rotate_left
    · exact bad_no hF h
    rename_i e he
    rw [he]
    simp only
    obtain ⟨h1, h⟩ := chk_ok hF h
    simp only [Bool.and_eq_true, Nat.ble_eq, Nat.blt_eq] at h1
    rw [if_pos h1]
    cases len with
    | zero =>
      simp only at h ⊢
      obtain ⟨h2, h⟩ := chk_ok hF h
      rw [h2]
      exact ⟨_, _, rfl, h⟩
    | succ len =>
      simp only at h ⊢
      obtain ⟨xs, hx, h⟩ := opt_ok hF h
      obtain ⟨h2, h⟩ := chk_ok hF h
      have h := hF.nat _ _ (hF.list _ _ h)
      rw [hx]
      simp only [Option.bind_some]
      rw [h2]
      simp only [cond_true]
      cases rm <;> exact ⟨_, _, rfl, h⟩
  · rename_i t x ho
    simp only [rd_eq hT] at h
    simp only [aop, ho]
    split at h
    · exact bad_no hF h
    · rename_i d hne hu
      rw [hu]
      obtain ⟨h1, h⟩ := chk_ok hF h
      cases d <;> first | exact absurd rfl (hne _) | (simp only [h1, cond_true]; exact ⟨_, _, rfl, h⟩)
    · exact bad_no hF h
  · rename_i fn first caps ho
    simp only [aop, ho]
    split at h
    · simp only [rdL_eq hT] at h
      exact ⟨_, _, rfl, h⟩
    · exact bad_no hF h
  · rename_i t r ho
    simp only [aop, ho]
    split at h
    · exact ⟨_, _, rfl, h⟩
    · exact bad_no hF h
  · rename_i t l c ho
    simp only [rd_eq hT] at h
    simp only [aop, ho]
    split at h
    · rename_i e n m he hl hc
      rw [he, hl, hc]
      simp only
      obtain ⟨h1, h⟩ := chk_ok hF h
      simp only [Bool.and_eq_true, decide_eq_true_eq, Nat.blt_eq] at h1
      obtain ⟨⟨⟨⟨a1, a2⟩, a3⟩, a4⟩, a5⟩ := h1
      rw [if_pos ⟨a1, a2, a3, a4, a5⟩]
      obtain ⟨z, hz, h⟩ := opt_ok hF h
      rw [hz]
      simp only
      have h := hF.bool _ _ (hF.nat _ _ h)
      cases hb : Nat.beq n.toNat 0 with
      | true => rw [hb] at h; exact ⟨_, _, rfl, h⟩
      | false => rw [hb] at h; exact ⟨_, _, rfl, hF.list _ _ (hF.nat _ _ h)⟩
    · exact bad_no hF h
  · rename_i t x lo hi mx ho
    simp only [rd_eq hT, rdO_eq hT] at h
    simp only [aop, ho]
    obtain ⟨v, hv, h⟩ := sliceX_ok hF h
    rw [hv]; exact ⟨_, _, rfl, h⟩
  · rename_i t x f ho
    simp only [aop, ho]
    split at h
    rotate_left
    · exact bad_no hF h
    rename_i fd hfd
    rw [hfd]
    simp only
    cases hb : Nat.beq (szT P fd.type) 0 with
    | true => rw [hb] at h; exact bad_no hF h
    | false =>
      rw [hb] at h
      simp only [rd_eq hT] at h
      simp only [cond_false]
      split at h
      · rename_i hp; rw [hp]; exact ⟨_, _, rfl, hF.nat _ _ h⟩
      · rename_i hp; rw [hp]; exact ⟨_, _, rfl, hF.nat _ _ h⟩
      · exact bad_no hF h
  · rename_i t x f ho
    simp only [aop, ho]
    split at h
    rotate_left
    · exact bad_no hF h
    rename_i fd hfd
    rw [hfd]
    simp only [rd_eq hT] at h
    split at h
    · rename_i cs hp
      rw [hp]
      obtain ⟨v, hv, h⟩ := loadK_ok hF h
      simp only [hv, Option.map_some]
      exact ⟨_, _, rfl, h⟩
    · exact bad_no hF h
  · rename_i t x i ho
    simp only [rd_eq hT] at h
    simp only [aop, ho]
    split at h
    · rename_i e xs tk k n hu hx hi
      obtain ⟨h1, h⟩ := chk_ok hF h
      obtain ⟨y, hy, h⟩ := nth_ok hF h
      obtain ⟨h2, h⟩ := chk_ok hF h
      simp only [Bool.and_eq_true, decide_eq_true_eq, Bool.not_eq_true'] at h1
      simp only [idxA, hu, hx, hi]
      rw [if_pos ⟨h1.1.1, h1.1.2, Nat.ne_of_beq_eq_false h1.2⟩, hy]
      simp only [Option.bind_some, h2, cond_true, Option.map_some]
      exact ⟨_, _, rfl, h⟩
    · rename_i e k j lo len k' n hu hx hi
      obtain ⟨h1, h⟩ := chk_ok hF h
      have h := hF.nat _ _ h
      simp only [Bool.and_eq_true, decide_eq_true_eq, Bool.not_eq_true'] at h1
      simp only [idxA, hu, hx, hi]
      rw [if_pos ⟨h1.1.1.1, h1.1.1.2, Nat.eq_of_beq_eq_true h1.1.2, Nat.ne_of_beq_eq_false h1.2⟩]
      exact ⟨_, _, rfl, h⟩
    · obtain ⟨v, hv, h⟩ := plain_ok hF h
      rw [hv]; exact ⟨_, _, rfl, h⟩
  · rename_i t x i ho
    simp only [rd_eq hT] at h
    simp only [aop, ho]
    split at h
    · rename_i s k n hu hx hi
      rw [hu, hx, hi]
      simp only
      obtain ⟨h1, h⟩ := chk_ok hF h
      simp only [decide_eq_true_eq] at h1
      rw [if_pos h1]
      obtain ⟨b, hb, h⟩ := hF.bidx _ _ _ h
      rw [hb]
      exact ⟨_, _, rfl, hF.int _ _ h⟩
    · rename_i len e cs k n hu hx hi
      rw [hu, hx, hi]
      simp only
      obtain ⟨h1, h⟩ := chk_ok hF h
      simp only [Bool.and_eq_true, decide_eq_true_eq, Bool.not_eq_true'] at h1
      rw [if_pos ⟨h1.1.1, h1.1.2, Nat.ne_of_beq_eq_false h1.2⟩]
      obtain ⟨v, hv, h⟩ := loadK_ok hF h
      rw [hv]
      exact ⟨_, _, rfl, h⟩
    · exact bad_no hF h
  · rename_i t x i ok ho
    simp only [rd_eq hT] at h
    simp only [aop, ho]
    obtain ⟨v, hv, h⟩ := opt_ok hF h
    rw [hv]; exact ⟨_, _, rfl, valK_ok hF h⟩
  · rename_i t m k v ho
    simp only [rd_eq hT] at h
    simp only [aop, ho]
    exact mapK_ok hF h
  · rename_i t m k v ho
    simp only [rd_eq hT] at h
    simp only [aop, ho]
    exact mapK_ok hF h
  · rename_i x xt t ok ho
    simp only [rd_eq hT] at h
    simp only [aop, ho]
    split at h
    · exact bad_no hF h
    · rename_i d hne hu hv
      rw [hu, hv]
      have e : ∀ (A : Option (AV × Eff)), (match some d, AV.nilif with | some (.interface _), _ => none | some _, .nilif => A | some _, .iface u v => none | _, _ => none) = A := by
        intro A
        cases d <;> first | rfl | exact absurd rfl (hne _)
      cases ok with
      | false => exact bad_no hF h
      | true =>
        obtain ⟨z, hz, h⟩ := opt_ok hF h
        rw [hz]
        cases d <;> first | exact absurd rfl (hne _) | exact ⟨_, _, rfl, h⟩
    · rename_i d u v hne hu hv
      rw [hu, hv]
      have h := hF.bool _ _ h
      by_cases hut : u = t
      · have : decide (u = t) = true := by simpa using hut
        rw [this] at h
        cases ok with
        | false => cases d <;> first | exact absurd rfl (hne _) | (simp only [hut, if_true]; exact ⟨_, _, rfl, h⟩)
        | true => cases d <;> first | exact absurd rfl (hne _) | (simp only [hut, if_true]; exact ⟨_, _, rfl, h⟩)
      · have : decide (u = t) = false := by simpa using hut
        rw [this] at h
        cases ok with
        | false => exact bad_no hF h
        | true =>
          obtain ⟨z, hz, h⟩ := opt_ok hF h
          rw [hz]
          cases d <;> first | exact absurd rfl (hne _) | (simp only [hut, if_false]; exact ⟨_, _, rfl, h⟩)
    · exact bad_no hF h
  · rename_i x i ho
    simp only [rd_eq hT] at h
    simp only [aop, ho]
    split at h
    · rename_i vs hp
      rw [hp]
      obtain ⟨v, hv, h⟩ := nth_ok hF h
      simp only [hv, Option.map_some]
      exact ⟨_, _, rfl, h⟩
    · exact bad_no hF h
  · rename_i args tys ho
    simp only [aop, ho]
    split at h
    · rename_i x t h1 h2
      simp only [rd_eq hT] at h
      simp only [h1, h2]
      obtain ⟨v, hv, h⟩ := plain_ok hF h
      rw [hv]; exact ⟨_, _, rfl, h⟩
    · exact bad_no hF h
  · rename_i args tys ho
    simp only [aop, ho]
    split at h
    · rename_i s x t u h1 h2
      simp only [rd_eq hT] at h
      simp only [h1, h2]
      by_cases hut : u = t
      · have : decide (u = t) = true := by simpa using hut
        rw [this] at h
        rw [if_pos hut]
        exact appendK_ok hF h
      · have : decide (u = t) = false := by simpa using hut
        rw [this] at h
        rw [if_neg hut]
        dsimp only at h
        split at h
        · rename_i l hu hx
          rw [hu, hx]
          exact appendK_ok hF h
        · exact bad_no hF h
    · exact bad_no hF h
  · rename_i args tys ho
    simp only [aop, ho]
    split at h
    · rename_i x h1
      simp only [rd_eq hT] at h
      simp only [h1]
      split at h
      · rename_i k i lo n hx
        rw [hx]
        obtain ⟨h2, h⟩ := chk_ok hF h
        simp only [Bool.not_eq_true'] at h2
        simp only [h2, cond_false]
        exact ⟨_, _, rfl, h⟩
      · exact bad_no hF h
    · exact bad_no hF h
  · rename_i args tys ho
    simp only [aop, ho]
    split at h
    · rename_i p x pt it h1 h2
      simp only [rd_eq hT] at h
      simp only [h1, h2]
      exact effK_ok hF h
    · exact bad_no hF h
  · rename_i args tys ho
    simp only [aop, ho]
    simp only [rdL_eq hT] at h
    split at h
    · rename_i x r h1
      simp only [h1]
      obtain ⟨v, hv, h⟩ := plain_ok hF h
      rw [hv]; exact ⟨_, _, rfl, h⟩
    · exact bad_no hF h
  · rename_i args tys ho
    simp only [aop, ho]
    simp only [rdL_eq hT] at h
    split at h
    · rename_i x r h1
      simp only [h1]
      obtain ⟨v, hv, h⟩ := plain_ok hF h
      rw [hv]; exact ⟨_, _, rfl, h⟩
    · exact bad_no hF h
  · exact bad_no hF h
end
end Go.Am

set_option linter.unusedVariables false
set_option linter.unusedSimpArgs false
namespace Go.Am
open Go

section
variable {α : Type} {F : Force α} {good : α → Prop} {P : Program} {cfg : Cfg} {N : Nat} {fuel : Nat} {callK : CallK α} {call : FuncId → List AV → ASt → Option CR}

theorem wr_ok {tr : Tr AV} {ts : List AV} (hT : TR N tr ts) (ds : DS) (d : Option Tmp) (v : AV) : ∃ tr', (∀ k : Tr AV → α, wr d v tr k = k tr') ∧ TR N tr' (AFr.put ⟨ts, ds⟩ d v).ts := by
  cases d with
  | none => exact ⟨tr, fun k => rfl, hT⟩
  | some d =>
    obtain ⟨tr', h1, h2⟩ := setP_eq (α := α) v _ d tr Nat.lt_log2_self
    refine ⟨tr', fun k => h1 k, by simp [AFr.put, hT.len], fun i hi => ?_⟩
    simp only [AFr.put, List.getD_eq_getElem?_getD, List.getElem?_set]
    rw [h2]
    have hv := hT.val i hi
    have hl := hT.len
    by_cases e : i = d
    · subst e
      simp [hl, hi]
    · have e' : ¬ d = i := fun x => e x.symm
      simp only [e, e', if_false]
      rw [← hv, List.getD_eq_getElem?_getD]

theorem guardK_ok (hF : F.Good good) {ops : List Oper} {o : Oper} {tr : Tr AV} {ts : List AV} (hT : TR N tr ts) {yes no : α} (h : good (guardK cfg F N ops o tr yes no)) :
    guardOk ops ts o = true ∧ ((wantedA ops ts o = true ∧ good yes) ∨ (wantedA ops ts o = false ∧ good no)) := by
  unfold guardK at h
  unfold guardOk wantedA
  split at h
  · rename_i hg
    rw [hg]
    exact ⟨rfl, .inl ⟨rfl, h⟩⟩
  · rename_i j want hg
    rw [hg]
    simp only
    split at h
    · exact bad_no hF h
    · rename_i d hd
      rw [hd]
      simp only [rd_eq hT, aval] at h ⊢
      have key : ∀ v, ts.getD d .undef = v → v ≠ .undef → ts[d]? = some v := by
        intro v hv hne
        rw [List.getD_eq_getElem?_getD] at hv
        cases h : ts[d]? with
        | none => rw [h] at hv; exact absurd hv.symm hne
        | some x => rw [h] at hv; exact congrArg some hv
      split at h
      · rename_i b hb
        rw [key _ hb (by simp)]
        have h := hF.bool _ _ h
        cases hw : b == want with
        | true => rw [hw] at h; exact ⟨rfl, .inl ⟨hw, h⟩⟩
        | false => rw [hw] at h; exact ⟨rfl, .inr ⟨hw, h⟩⟩
      · rename_i l hl
        split at h
        · rw [key _ hl (by simp)]
          exact ⟨rfl, .inr ⟨rfl, h⟩⟩
        · exact bad_no hF h
      · exact bad_no hF h

def StepPost (good : α → Prop) (N : Nat) (kn : Tr AV → DS → ASt → α) (kb : AV → ASt → α) : SR → Prop
  | .go fr' σ' => ∃ tr', TR N tr' fr'.ts ∧ good (kn tr' fr'.ds σ')
  | .bad v σ' => good (kb v σ')

theorem put_ds2 (ts : List AV) (ds : DS) (d : Option Tmp) (v : AV) : (AFr.put ⟨ts, ds⟩ d v).ds = ds := by cases d <;> rfl

theorem aop_callee {σ : ASt} {id : Nat} {ts : List AV} {o : Oper} {r : AV × Eff} {rm : Bool} (h : aop P cfg rm σ id (aval cfg ts) o = some r) : calleeA (aval cfg ts) o = none ∧ (∀ x, o.op ≠ .panic x) ∧ ∀ c, o.op ≠ .defer c := by
  refine ⟨?_, fun x ho => (by simp only [aop, ho] at h; cases h), fun c ho => (by simp only [aop, ho] at h; cases h)⟩
  unfold calleeA
  split
  · rename_i ho; simp only [aop, ho] at h; cases h
  · rfl

theorem estep_ok (hF : F.Good good) (hm : ∀ f, Nat.beq (cfg.mode f) 0 = true) (hC : ∀ f args σ K, good (callK f args σ K) → ∃ r, call f args σ = some r ∧ good (K r)) {rm : Bool} {o : Oper} {tr : Tr AV} {ts : List AV} {ds : DS} {σ : ASt} {id : Nat} {kn : Tr AV → DS → ASt → α} {kb : AV → ASt → α} (hT : TR N tr ts)
    (h : good ((estep P cfg F N rm o).run callK tr ds σ id kn kb)) : ∃ r, stepA P cfg call fuel rm id o ⟨ts, ds⟩ σ = some r ∧ StepPost good N kn kb r := by
  unfold estep at h
  split at h
  · rename_i x ho
    simp only [rd_eq hT] at h
    unfold stepA
    simp only [ho]
    split at h
    · rename_i t v hx
      rw [hx]
      exact ⟨_, rfl, h⟩
    · exact bad_no hF h
  · rename_i g args tys ho
    simp only [rd_eq hT, rdL_eq hT] at h
    unfold stepA
    simp only [ho]
    split at h
    · rename_i f first caps hx
      rw [hx]
      have h := hF.list _ _ h
      obtain ⟨tr', h1, h2⟩ := wr_ok (α := α) hT ((.func f [] caps, first ++ args.toList.map (aval cfg ts)) :: ds) o.dst (.tup [])
      rw [h1] at h
      refine ⟨_, rfl, tr', h2, ?_⟩
      rw [put_ds2]
      exact h
    · exact bad_no hF h
  · rename_i g args tys ho
    simp only [rd_eq hT, rdL_eq hT] at h
    unfold stepA
    simp only [ho, calleeA]
    split at h
    · rename_i f first caps hx
      rw [hx]
      have h := hF.list _ _ h
      obtain ⟨r, hr, h⟩ := hC _ _ _ _ h
      simp only [doCall, hm, cond_true, hr]
      cases r with
      | ret v σ' =>
        obtain ⟨tr', h1, h2⟩ := wr_ok (α := α) hT ds o.dst v
        simp only [h1] at h
        refine ⟨_, rfl, tr', h2, ?_⟩
        rw [put_ds2]
        exact h
      | panic v σ' => exact ⟨_, rfl, h⟩
    · exact bad_no hF h
  · obtain ⟨v, e, ha, hp⟩ := eop_ok hF hT h
    obtain ⟨hc, hnp, hnd⟩ := aop_callee ha
    refine ⟨_, stepA_aop (call := call) (fuel := fuel) (fr := ⟨ts, ds⟩) hc hnp hnd ha, ?_⟩
    obtain ⟨tr', h1, h2⟩ := wr_ok (α := α) hT ds o.dst v
    cases e with
    | pure =>
      simp only [OpPost, h1] at hp
      exact ⟨tr', h2, by rw [put_ds2]; exact hp⟩
    | new b =>
      have hp := hset_put hF hp
      simp only [h1] at hp
      exact ⟨tr', h2, by rw [put_ds2]; exact hp⟩
    | upd σ' =>
      simp only [OpPost, h1] at hp
      exact ⟨tr', h2, by rw [put_ds2]; exact hp⟩

/-- What is asked behind a region. -/
def RegPost (good : α → Prop) (N : Nat) (kn : Tr AV → DS → ASt → α) (kb : AV → Tr AV → DS → ASt → α) : Flow × AFr × ASt → Prop
  | (.norm, fr', σ') => ∃ tr', TR N tr' fr'.ts ∧ good (kn tr' fr'.ds σ')
  | (.panic v, fr', σ') => ∃ tr', TR N tr' fr'.ts ∧ good (kb v tr' fr'.ds σ')
  | _ => False

theorem eseq_ok (hF : F.Good good) (hm : ∀ f, Nat.beq (cfg.mode f) 0 = true) (hC : ∀ f args σ K, good (callK f args σ K) → ∃ r, call f args σ = some r ∧ good (K r)) {rm : Bool} {ops : List Oper} {base : Nat} {kn : Tr AV → DS → ASt → α} {kb : AV → Tr AV → DS → ASt → α} : ∀ (rest : List Oper) (i : Nat) (tr : Tr AV) (ts : List AV) (ds : DS) (σ : ASt), TR N tr ts →
    good ((eseq P cfg F N rm ops i rest).run callK tr ds σ base kn kb) → ∃ r, seqA P cfg call fuel rm ops base i rest ⟨ts, ds⟩ σ = some r ∧ RegPost good N kn kb r
  | [], i, tr, ts, ds, σ, hT, h => ⟨_, rfl, tr, hT, h⟩
  | o :: rest, i, tr, ts, ds, σ, hT, h => by
    unfold eseq at h
    obtain ⟨hg, h⟩ := guardK_ok hF hT h
    simp only [seqA, hg, cond_true]
    rcases h with ⟨hw, h⟩ | ⟨hw, h⟩
    · rw [hw, cond_true]
      have h := hF.nat _ _ h
      obtain ⟨r, hr, hp⟩ := estep_ok (fuel := fuel) hF hm hC hT h
      rw [hr]
      cases r with
      | go fr' σ' =>
        obtain ⟨tr', hT', h⟩ := hp
        exact eseq_ok hF hm hC rest (i + 1) tr' fr'.ts fr'.ds σ' hT' h
      | bad v σ' => exact ⟨_, rfl, tr, hT, hp⟩
    · rw [hw, cond_false]
      obtain ⟨tr', h1, h2⟩ := wr_ok (α := α) hT ds o.dst (.tup [])
      rw [h1] at h
      have := eseq_ok hF hm hC rest (i + 1) tr' _ ds σ h2 h
      have e : (⟨(AFr.put ⟨ts, ds⟩ o.dst (.tup [])).ts, ds⟩ : AFr) = AFr.put ⟨ts, ds⟩ o.dst (.tup []) := by cases o.dst <;> rfl
      rwa [e] at this

/-! ### Drawn regions -/
theorem viewK_ok (hF : F.Good good) (base : Nat) (c : Core) (a : Nat) (news : List (Nat × Blk)) : ∀ (k : ASt → α), good (viewK F base c a news k) → good (k (viewC base c a news)) := by
  induction news with
  | nil => intro k h; exact h
  | cons p r ih =>
    intro k h
    have h : good (viewK F base c a r (fun σ => (Bool.rec (k σ) (F.hset σ (base + p.1) (some p.2) k) (a.testBit p.1 && !c.anc.testBit p.1) : α))) := h
    have h := ih _ h
    unfold viewC
    simp only [List.foldr_cons]
    cases hb : a.testBit p.1 && !c.anc.testBit p.1 with
    | true => rw [hb] at h; rw [cond_true]; exact hset_put hF h
    | false => rw [hb] at h; exact h

theorem wipeK_ok : ∀ (ops : List Oper) {tr : Tr AV} {ts : List AV}, TR N tr ts → ∃ tr', (∀ k : Tr AV → α, wipeK ops tr k = k tr') ∧ TR N tr' (wipe ops ts)
  | [], tr, ts, hT => ⟨tr, fun k => rfl, hT⟩
  | o :: ops, tr, ts, hT => by
    obtain ⟨tr1, h1, h2⟩ := wr_ok (α := α) hT [] o.dst .undef
    obtain ⟨tr', h3, h4⟩ := wipeK_ok ops h2
    refine ⟨tr', fun k => ?_, ?_⟩
    · have : wipeK (o :: ops) tr k = wr o.dst .undef tr (fun tr => wipeK ops tr k) := by
        show (Option.rec _ _ o.dst : α) = _
        cases o.dst <;> rfl
      rw [this, h1, h3]
    · have : wipe (o :: ops) ts = wipe ops (AFr.put ⟨ts, []⟩ o.dst .undef).ts := by
        unfold wipe
        simp only [List.foldl_cons]
        cases o.dst <;> rfl
      rw [this]; exact h4

theorem still_of_aop {rm : Bool} {o : Oper} {ts : List AV} {σ : ASt} {id : Nat} {v : AV} {e : Eff} (h : aop P cfg rm σ id (aval cfg ts) o = some (v, e)) :
    stillA P cfg call fuel rm id ts o σ = match e with | .pure => some (v, none) | .new b => some (v, some b) | .upd _ => none := by
  unfold stillA
  rw [(aop_callee h).1]
  simp only [h]
  cases e <;> rfl

theorem stableK_ok (hF : F.Good good) {rm : Bool} {o : Oper} {tr : Tr AV} {ts : List AV} (hT : TR N tr ts) {base i a : Nat} {news : List (Nat × Blk)} {v : AV} {b : Option Blk} {k : α} : ∀ (cores : List Core),
    good (stableK F (eop P cfg F N rm o) tr base (base + i) a news v b cores k) → stable P cfg call fuel rm base i a ts o news v b cores = true ∧ good k
  | [], h => ⟨rfl, h⟩
  | c :: r, h => by
    have h : good (viewK F base c a news fun σ => (eop P cfg F N rm o).run tr σ (base + i) (fun v' => F.chk (v.beq v' && sameNew b none) (Option.rec k (fun j => Bool.rec (stableK F (eop P cfg F N rm o) tr base (base + i) a news v b r k) k (a.testBit j)) c.w))
      (fun v' b' => F.chk (v.beq v' && sameNew b (some b')) (Option.rec k (fun j => Bool.rec (stableK F (eop P cfg F N rm o) tr base (base + i) a news v b r k) k (a.testBit j)) c.w)) (fun _ _ => F.bad)) := h
    have h := viewK_ok hF _ _ _ _ _ h
    obtain ⟨v', e, ha, hp⟩ := eop_ok hF hT h
    have hs := still_of_aop (call := call) (fuel := fuel) ha
    have fin : ∀ b', good (F.chk (v.beq v' && sameNew b b') (Option.rec k (fun j => Bool.rec (stableK F (eop P cfg F N rm o) tr base (base + i) a news v b r k) k (a.testBit j)) c.w)) → stillA P cfg call fuel rm (base + i) ts o (viewC base c a news) = some (v', b') →
        stable P cfg call fuel rm base i a ts o news v b (c :: r) = true ∧ good k := by
      intro b' h1 h2
      obtain ⟨h3, h4⟩ := chk_ok hF h1
      simp only [stable, h2, h3, cond_true]
      cases hw : c.w with
      | none => rw [hw] at h4; exact ⟨rfl, h4⟩
      | some j =>
        rw [hw] at h4
        cases ht : a.testBit j with
        | true =>
          simp only [ht] at h4
          exact ⟨by simp only [ht, cond_true], h4⟩
        | false =>
          simp only [ht] at h4
          have := stableK_ok hF hT r h4
          exact ⟨by simp only [ht, cond_false]; exact this.1, this.2⟩
    cases e with
    | pure => exact fin none hp hs
    | new b' => exact fin (some b') hp hs
    | upd σ' => exact bad_no hF hp

inductive RdsR (R : ERd → Rd → Prop) : List ERd → List Rd → Prop
  | nil : RdsR R [] []
  | cons {e es r rs} : R e r → RdsR R es rs → RdsR R (e :: es) (r :: rs)

def RdR (N : Nat) (e : ERd) (r : Rd) : Prop := e.i = r.i ∧ TR N e.tr r.ts ∧ e.v = r.v ∧ e.b = r.b

theorem recheckK_ok (hF : F.Good good) {rm : Bool} {ops : List Oper} {anc : List Nat} {base i : Nat} {c : Core} {news : List (Nat × Blk)} {k : α} : ∀ (es : List ERd) (rs : List Rd), RdsR (RdR N) es rs →
    good (recheckK P cfg F N rm ops anc base i c news es k) → recheck P cfg call fuel rm ops anc base i c news rs = true ∧ good k
  | [], _, .nil, h => ⟨rfl, h⟩
  | e :: es, r :: rs, .cons hr hrs, h => by
    obtain ⟨h1, hT, h3, h4⟩ := hr
    have h : good (Bool.rec (viewK F base c (anc.getD e.i 0) news fun σ => F.nat (base + e.i) fun id => (opAt P cfg F N rm ops e.i).run e.tr σ id (fun v' => F.chk (e.v.beq v' && sameNew e.b none) (recheckK P cfg F N rm ops anc base i c news es k))
      (fun v' b' => F.chk (e.v.beq v' && sameNew e.b (some b')) (recheckK P cfg F N rm ops anc base i c news es k)) (fun _ _ => F.bad)) (recheckK P cfg F N rm ops anc base i c news es k) ((anc.getD i 0).testBit e.i)) := h
    rw [h1, h3, h4] at h
    simp only [recheck]
    cases ht : (anc.getD i 0).testBit r.i with
    | true =>
      rw [ht] at h
      simp only [cond_true]
      exact recheckK_ok hF es rs hrs h
    | false =>
      rw [ht] at h
      simp only [cond_false]
      have h := hF.nat _ _ (viewK_ok hF _ _ _ _ _ h)
      unfold opAt at h
      cases ho : ops[r.i]? with
      | none => rw [ho] at h; exact bad_no hF h
      | some o =>
        rw [ho] at h
        obtain ⟨v', ef, ha, hp⟩ := eop_ok hF hT h
        have hs := still_of_aop (call := call) (fuel := fuel) ha
        have fin : ∀ b', good (F.chk (r.v.beq v' && sameNew r.b b') (recheckK P cfg F N rm ops anc base i c news es k)) → stillA P cfg call fuel rm (base + r.i) r.ts o (viewC base c (anc.getD r.i 0) news) = some (v', b') →
            (match (some o : Option Oper) with
              | some o => match stillA P cfg call fuel rm (base + r.i) r.ts o (viewC base c (anc.getD r.i 0) news) with
                | some (v', b') => cond (r.v.beq v' && sameNew r.b b') (recheck P cfg call fuel rm ops anc base i c news rs) false
                | none => false
              | none => false) = true ∧ good k := by
          intro b' g1 g2
          obtain ⟨g3, g4⟩ := chk_ok hF g1
          have := recheckK_ok hF es rs hrs g4
          simp only [g2, g3, cond_true]
          exact this
        cases ef with
        | pure => exact fin none hp hs
        | new b' => exact fin (some b') hp hs
        | upd σ' => exact bad_no hF hp

theorem stillK_ok (hF : F.Good good) {rm rmem : Bool} {o : Oper} {tr : Tr AV} {ts : List AV} (hT : TR N tr ts) {base i a : Nat} {news : List (Nat × Blk)} {v : AV} {b : Option Blk} {c : Core} {cs : List Core} {es : List ERd} {rs : List Rd} {k : List ERd → α}
    (hr : RdsR (RdR N) es rs) (hrm : rmem = readsMem o) (h : good (stillK F (eop P cfg F N rm o) rmem tr base (base + i) i a news v b c cs es k)) :
    (!readsMem o || stableT P cfg call fuel rm base i a ts o news v b (c :: cs)) = true ∧ ∃ es', RdsR (RdR N) es' (cond (readsMem o) (⟨i, ts, v, b⟩ :: rs) rs) ∧ good (k es') := by
  unfold stillK at h
  subst hrm
  cases hm : readsMem o with
  | false => rw [hm] at h; exact ⟨rfl, es, hr, h⟩
  | true =>
    rw [hm] at h
    have hr' : RdsR (RdR N) (⟨i, tr, v, b⟩ :: es) (⟨i, ts, v, b⟩ :: rs) := .cons ⟨rfl, hT, rfl, rfl⟩ hr
    simp only [stableT, Bool.not_true, Bool.false_or, cond_true]
    cases hw : c.w with
    | none => rw [hw] at h; exact ⟨rfl, _, hr', h⟩
    | some j =>
      rw [hw] at h
      simp only
      cases ht : a.testBit j with
      | true => simp only [ht] at h; exact ⟨rfl, _, hr', h⟩
      | false =>
        simp only [ht] at h
        obtain ⟨h1, h2⟩ := stableK_ok (call := call) (fuel := fuel) hF hT cs h
        exact ⟨h1, _, hr', h2⟩
end
end Go.Am
