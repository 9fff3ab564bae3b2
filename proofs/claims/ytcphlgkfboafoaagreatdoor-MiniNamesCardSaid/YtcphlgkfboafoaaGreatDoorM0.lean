/-
DERIVED: THE SHELF's CONTRACTS AT THIS DUMP, IN PLAIN WORDS (tools/lay-plain.mjs out of 'TryzShelf.lean', which tools/lay-shelf.mjs wrote): THE SAME DECLARATIONS UNDER THE SAME NAMES: 'import', 'namespace', 'open', 'def', 'theorem' AND NOTHING ELSE: no command of the shelf's: FOR A HAND-IN. Each laying: the table of numbers ('.._ren') and one theorem, a field a fact of the dump's own or the kernel's comparison; each contract: ONE APPLICATION.
MiniNames: the set-up.
-/
import Derived.Shelf.LaysM
import Derived.Shelf.Strings.Search1
import Derived.Shelf.Strings.Search2
import Derived.Test.YtcphlgkfboafoaaGreatDoorProg
import Derived.Test.YtcphlgkfboafoaaGreatDoorA9
import Derived.KernelRfl
import Derived.IntWalk
import Derived.Lib.Bytealg
import Derived.Laws.Externs
namespace Go.Proofs
open Go.Shelf
def Tryz.lays219_ren : Go.Shelf.Ren := ⟨fun | 219 => 79 | 217 => 112 | 225 => 113 | 224 => 114 | 267 => 115 | 266 => 136 | 314 => 137 | n => n, fun | 9 => 9 | 3 => 3 | 4 => 4 | 5 => 5 | 46 => 139 | 146 => 159 | 51 => 158 | n => n, fun | 1 => 0 | n => n⟩
theorem Tryz.lays219 : Go.Proofs.Lays.n219 Tryz.prog Tryz.lays219_ren := {
  mixed := by kernel_rfl
  f217 := Tryz.func112.trans (congrArg some (by kernel_rfl))
  f219 := Tryz.func79.trans (congrArg some (by kernel_rfl))
  f224 := Tryz.func114.trans (congrArg some (by kernel_rfl))
  f225 := Tryz.func113.trans (congrArg some (by kernel_rfl))
  f266 := Tryz.func136.trans (congrArg some (by kernel_rfl))
  f267 := Tryz.func115.trans (congrArg some (by kernel_rfl))
  f314 := Tryz.func137.trans (congrArg some (by kernel_rfl))
  t3 := Tryz.underlying3
  a3 := Tryz.isAgg3
  z3 := Tryz.sizeOf3
  v3 := Tryz.zeroValue3
  t4 := Tryz.underlying4
  a4 := Tryz.isAgg4
  z4 := Tryz.sizeOf4
  v4 := Tryz.zeroValue4
  t5 := Tryz.underlying5
  a5 := Tryz.isAgg5
  z5 := Tryz.sizeOf5
  v5 := Tryz.zeroValue5
  t9 := Tryz.underlying9
  a9 := Tryz.isAgg9
  z9 := Tryz.sizeOf9
  v9 := Tryz.zeroValue9
  t46 := Tryz.underlying139
  a46 := Tryz.isAgg139
  z46 := Tryz.sizeOf139
  v46 := Tryz.zeroValue139
  t51 := Tryz.underlying158
  a51 := Tryz.isAgg158
  z51 := Tryz.sizeOf158
  v51 := Tryz.zeroValue158
  t146 := Tryz.underlying159
  a146 := Tryz.isAgg159
  z146 := Tryz.sizeOf159
  v146 := Tryz.zeroValue159
  g1 := by kernel_rfl }
open Go.RowKit Go.Lib in
/-- internal/stringslite.Index (what strings.Index calls) AT A substr OF ONE BYTE c: IT RETURNS 'Lib.indexByte s c'; the world is as it was. (LAID: no walk: one application.) -/
theorem Tryz.stringslite_Index_one (s : ByteArray) (c : UInt8) (w : World) :
    Calls Tryz.prog 79 #[.string s, .string ⟨#[c]⟩] w fun e w' => e = .returned (.int .i64 (Lib.indexByte s.data.toList c)) ∧ w' = w := Any.stringslite_Index_one Tryz.lays219 s c w
open Go.RowKit Go.Lib in
/-- internal/stringslite.Index (what strings.Index calls) AT A substr OF WHATEVER LENGTH: IT RETURNS 'Lib.index s substr'; the world is as it was. 'm': what internal/bytealg.MaxLen holds: whatever. (LAID: no walk: one application.) -/
theorem Tryz.stringslite_Index (s sub : ByteArray) (m : Int) (w : World) (hs : s.size < 4294967281) (hm : w.cell? ⟨0, 0, none⟩ = some (.int .i64 m)) :
    Calls Tryz.prog 79 #[.string s, .string sub] w fun e w' => e = .returned (.int .i64 (Lib.index s.data.toList sub.data.toList)) ∧ w' = w := Any.stringslite_Index Tryz.lays219 s sub m w hs hm
end Go.Proofs

set_option linter.unusedVariables false
set_option linter.unusedSimpArgs false
namespace Go.Proofs.Mn
open Go Go.Am

noncomputable abbrev P : Program := Tryz.prog
def preB : List UInt8 → List UInt8 → Bool
  | [], _ => true
  | _ :: _, [] => false
  | a :: x, b :: y => cond (Nat.beq a.toNat b.toNat) (preB x y) false
def idxB (t : List UInt8) : Nat → List UInt8 → Int
  | i, [] => cond (preB t []) (Int.ofNat i) (-1)
  | i, a :: s => cond (preB t (a :: s)) (Int.ofNat i) (idxB t (Nat.succ i) s)
/-- Not longer than so many. -/
noncomputable def shortB (s : List UInt8) (n : Nat) : Bool := List.rec (motive := fun _ => Nat → Bool) (fun _ => true) (fun _ _ ih n => Nat.rec false (fun m _ => ih m) n) s n
theorem shortB_ok : ∀ (s : List UInt8) (n : Nat), shortB s n = true → s.length ≤ n
  | [], n, _ => Nat.zero_le _
  | a :: s, 0, h => by cases h
  | a :: s, n + 1, h => by
    have h : shortB s n = true := h
    have := shortB_ok s n h
    simp; omega
theorem shortB_of : ∀ (s : List UInt8) (n : Nat), s.length ≤ n → shortB s n = true
  | [], n, _ => by cases n <;> rfl
  | a :: s, 0, h => by simp at h
  | a :: s, n + 1, h => shortB_of s n (by simpa using h)
abbrev ExtF := FuncId → List AV → ASt → Option (Bool × AV × List Blk)
noncomputable def extIdx : List AV → ASt → Option (Bool × AV × List Blk) := fun args _ => match args with
  | [.str s, .str t] => some (shortB s 100000, .int .i64 (idxB t 0 s), [])
  | _ => none
def extByte : List AV → ASt → Option (Bool × AV × List Blk) := fun args _ => match args with
  | [.str s, .int .u8 c] => some (true, .int .i64 (idxB [UInt8.ofNat c.toNat] 0 s), [])
  | _ => none
def extSame : List AV → ASt → Option (Bool × AV × List Blk) := fun args _ => match args with
  | [p] => some (true, p, [])
  | _ => none
def noExt : List AV → ASt → Option (Bool × AV × List Blk) := fun _ _ => none
/-- The library's functions: 79 internal/stringslite.Index, 136 internal/bytealg.IndexByteString, 123 internal/abi.NoEscape. -/
noncomputable def ext0 : ExtF := fun f => cond (Nat.beq f 79) extIdx (cond (Nat.beq f 136) extByte (cond (Nat.beq f 123) extSame noExt))
def cfgOf (m : Int) (e : ExtF) : Cfg where
  mode _ := 0
  rows f := Nat.beq f 69
  glob g := cond (Nat.beq g 0) (.rptr (.int .i64 m) 0) .undef
  ext := e
theorem mode0 (m : Int) (e : ExtF) : ∀ f, Nat.beq ((cfgOf m e).mode f) 0 = true := fun _ => rfl
theorem globC (m : Int) (e : ExtF) : ∀ g, closedV ((cfgOf m e).glob g) = true := fun g => by
  show closedV (cond (Nat.beq g 0) (.rptr (.int .i64 m) 0) .undef) = true
  cases Nat.beq g 0 <;> rfl
noncomputable def body (f : Nat) : Code := ((P.funcs[f]?).bind (·.body)).getD .skip
def testT (cr : CR) : Bool :=
  match cr with
  | .ret v _ => v.beq (.bool true)
  | .panic _ _ => false
end Go.Proofs.Mn
