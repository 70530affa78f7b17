/- Plain words of the store: keys, hashes, values; no program. -/
import Derived.WalkKit
import Derived.WalkSpells
import Derived.WalkLawsBesides
import Derived.Lib.Hide
import Derived.Lib.Bytealg
import Derived.BigQuiet
import Derived.Deep.QuietTactic
namespace Go.Proofs.YtobccbakmcckiaaDoor
open Go.RowKit

/-- The bytes that may stand in a key. -/
def keyBytes : List UInt8 := [97, 98, 99, 100, 101, 102, 103, 104, 105, 106, 107, 108, 109, 110, 111, 112, 113, 114, 115, 116, 117, 118, 119, 120, 121, 122, 48, 49, 50, 51, 52, 53, 54, 55, 56, 57, 47, 58, 46, 95, 45]
def keyByte (c : UInt8) : Bool := !decide (Lib.indexByte keyBytes c < 0)
def validKey (l : List UInt8) : Bool := l.all keyByte && (decide (1 ≤ l.length) && decide (l.length ≤ 32))

theorem all_take_succ {α : Type} (p : α → Bool) (l : List α) (k : Nat) (h : k < l.length) : (l.take (k + 1)).all p = ((l.take k).all p && p l[k]) := by
  rw [List.take_succ_eq_append_getElem h, List.all_append]; simp
theorem all_of_take_false {α : Type} (p : α → Bool) (l : List α) (k : Nat) (h : (l.take k).all p = false) : l.all p = false := by
  rw [← List.take_append_drop k l, List.all_append, h]; rfl

/-- The FNV-1a step and sum. -/
def hashStep (h : Int) (c : UInt8) : Int := IntKind.u64.wrap (Go.bits BinOp.xor IntKind.u64 h c.toNat * 1099511628211)
def hashFrom (h : Int) (l : List UInt8) : Int := l.foldl hashStep h
def hash0 : Int := 14695981039346656037

theorem bytes_at (s : ByteArray) (k : Nat) (h : k < s.size) : s.data.toList[k]? = some s[k] := by
  simp [h]; rfl
end Go.Proofs.YtobccbakmcckiaaDoor
