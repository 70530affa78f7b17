/- foot.Valid, foot.Hash, foot.Partition: what they return. -/
import Derived.Test.YtobccbakmcckiaaDoorProg
import Derived.Test.YtobccbakmcckiaaDoorShelf
import Derived.Test.YtobccbakmcckiaaDoorWords
namespace Go.Proofs.YtobccbakmcckiaaDoor
open Go.RowKit

theorem key_byte (c : UInt8) (w : World) :
    Calls Tryd.prog 52 #[.string ⟨#[97, 98, 99, 100, 101, 102, 103, 104, 105, 106, 107, 108, 109, 110, 111, 112, 113, 114, 115, 116, 117, 118, 119, 120, 121, 122, 48, 49, 50, 51, 52, 53, 54, 55, 56, 57, 47, 58, 46, 95, 45]⟩, .int .u8 c.toNat] w fun e w' => ∃ n : Int, e = .returned (.int .i64 n) ∧ Hid (keyByte c = !decide (n < 0)) ∧ w = w' := by
  refine (Tryd.strings_IndexByte _ _ _).mono ?_
  rintro e w' ⟨rfl, rfl⟩
  refine ⟨_, rfl, ?_, rfl⟩
  show keyByte c = _
  unfold keyByte keyBytes
  simp

theorem validKey_of (s : ByteArray) (h : s.data.toList.all keyByte = true) : validKey s.data.toList = (decide (1 ≤ s.size) && decide (s.size ≤ 32)) := by
  unfold validKey; rw [h]; simp
theorem validKey_no (s : ByteArray) (k : Nat) (hk : k < s.size) (h : keyByte s[k] = false) : validKey s.data.toList = false := by
  unfold validKey
  have : s.data.toList.all keyByte = false := by
    rw [List.all_eq_false]
    exact ⟨s[k], by rw [Array.mem_toList_iff]; exact Array.getElem_mem _, by simp [h]⟩
  rw [this]; rfl
theorem all_key_succ (s : ByteArray) (k : Nat) (h : k < s.size) (ha : (s.data.toList.take k).all keyByte = true) (hb : keyByte s[k] = true) : (s.data.toList.take (k + 1)).all keyByte = true := by
  rw [all_take_succ _ _ _ (by simpa using h), ha]; simp; exact hb

set_option maxHeartbeats 400000 in
theorem valid_any (s : ByteArray) (w : World) (hs : s.size ≤ maxLen) :
    Calls Tryd.prog 39 #[.string s] w fun e w' => e = .returned (.bool (validKey s.data.toList)) ∧ w = w' := by
  unfold maxLen at hs
  go_enter Tryd.func39, Tryd.ntmps39
  go_wp2
  go_loop [3, 6] (fun _ i => ∃ k : Nat, k ≤ s.size ∧ i = .int .i64 k ∧ (s.data.toList.take k).all keyByte = true) (fun _ i => s.size - (intOf i).toNat)
  case atStart => exact ⟨0, Nat.zero_le _, rfl, rfl⟩
  case round =>
    obtain ⟨k, hk, rfl, hall⟩ := hrel
    have H := Lib.hid hall; clear hall
    by_cases hlt : k < s.size
    · go_wp2_with (go_at_call 52; refine (key_byte _ _).mono ?_; rintro e w' ⟨n, rfl, hn, rfl⟩)
      · have h1 : n < 0 := by assumption
        go_ret
        rw [validKey_no s k hlt (by rw [hn.out]; simp [h1])]
        exact ⟨rfl, rfl⟩
      · have h1 : 0 ≤ n := by assumption
        go_round
        case rel => exact ⟨k + 1, by omega, by go_num, all_key_succ s k hlt H.out (by rw [hn.out]; simp [h1])⟩
        case measure => simp [intOf]; omega
    · obtain rfl : k = s.size := by omega
      have hv := validKey_of s (by have := H.out; rwa [List.take_of_length_le (by simp)] at this)
      have HV := Lib.hid hv; clear hv
      clear H hs hlt
      by_cases h1 : 1 ≤ s.size
      · by_cases h2 : s.size ≤ 32 <;> (go_wp2; go_ret; rw [HV.out]; simp [h1, h2]; omega)
      · go_wp2; go_ret; rw [HV.out]; simp [h1]

theorem hash_snoc (s : ByteArray) (k : Nat) (h : k < s.size) : hashFrom hash0 (s.data.toList.take (k + 1)) = hashStep (hashFrom hash0 (s.data.toList.take k)) s[k] := by
  unfold hashFrom
  rw [List.take_succ_eq_append_getElem (by simpa using h), List.foldl_append]; rfl

theorem u64_byte (c : UInt8) : IntKind.u64.wrap (c.toNat : Int) = c.toNat := by
  have := c.toNat_lt
  simp [IntKind.wrap, IntKind.bits, IntKind.signed]; omega
theorem u64_range (x : Int) : 0 ≤ IntKind.u64.wrap x ∧ IntKind.u64.wrap x < 18446744073709551616 := by
  simp only [IntKind.wrap, IntKind.bits, IntKind.signed]; simp; omega

set_option maxHeartbeats 400000 in
theorem hash_any (s : ByteArray) (w : World) (hs : s.size ≤ maxLen) :
    Calls Tryd.prog 53 #[.string s] w fun e w' => e = .returned (.int .u64 (hashFrom hash0 s.data.toList)) ∧ w = w' := by
  unfold maxLen at hs
  go_enter Tryd.func53, Tryd.ntmps53
  go_wp2
  go_loop [3, 7] (fun h i => ∃ k : Nat, k ≤ s.size ∧ i = .int .i64 k ∧ h = .int .u64 (hashFrom hash0 (s.data.toList.take k))) (fun _ i => s.size - (intOf i).toNat)
  case atStart => exact ⟨0, Nat.zero_le _, rfl, rfl⟩
  case round =>
    obtain ⟨k, hk, rfl, rfl⟩ := hrel
    by_cases hlt : k < s.size
    · have HS := Lib.hid (hash_snoc s k hlt)
      generalize hashFrom hash0 (List.take k s.data.toList) = h at HS ⊢
      go_wp2
      go_round
      case rel => exact ⟨k + 1, by omega, by go_num, by rw [HS.out]; unfold hashStep; rw [u64_byte]⟩
      case measure => simp [intOf]; omega
    · obtain rfl : k = s.size := by omega
      have ht : List.take s.size s.data.toList = s.data.toList := List.take_of_length_le (by simp)
      rw [ht]
      clear ht
      go_wp2
      go_ret
      exact ⟨rfl, rfl⟩

theorem hash_range (l : List UInt8) : 0 ≤ hashFrom hash0 l ∧ hashFrom hash0 l < 18446744073709551616 := by
  unfold hashFrom
  have : ∀ (l : List UInt8) (h : Int), (0 ≤ h ∧ h < 18446744073709551616) → (0 ≤ l.foldl hashStep h ∧ l.foldl hashStep h < 18446744073709551616) := by
    intro l
    induction l with
    | nil => intro h hh; exact hh
    | cons c l ih => intro h _; exact ih _ (u64_range _)
  exact this l hash0 (by unfold hash0; omega)

/-- The partition of a key, of n. -/
def partOf (l : List UInt8) (n : Nat) : Nat := (hashFrom hash0 l).toNat % n
theorem partOf_lt (l : List UInt8) (n : Nat) (h : 1 ≤ n) : partOf l n < n := Nat.mod_lt _ h

theorem part_eq (h : Int) (n : Nat) (h0 : 0 ≤ h) (h1 : 1 ≤ n) (h2 : n ≤ 64) : wrap64 (h % n) = ((h.toNat % n : Nat) : Int) := by
  obtain ⟨k, rfl⟩ := Int.eq_ofNat_of_zero_le h0
  simp only [Int.toNat_natCast]
  have := Nat.mod_lt k h1
  rw [← Int.natCast_emod]
  unfold wrap64; omega
set_option maxHeartbeats 400000 in
theorem part_any (s : ByteArray) (n : Nat) (w : World) (hs : s.size ≤ maxLen) (h1 : 1 ≤ n) (h2 : n ≤ 64) :
    Calls Tryd.prog 41 #[.string s, .int .i64 n] w fun e w' => e = .returned (.int .i64 (partOf s.data.toList n)) ∧ w = w' := by
  have hr := hash_range s.data.toList
  go_enter Tryd.func41, Tryd.ntmps41
  go_wp2_with (go_at_call 53; refine (hash_any _ _ hs).mono ?_; rintro e w' ⟨rfl, rfl⟩)
  go_ret
  refine ⟨?_, rfl⟩
  unfold partOf
  rw [← part_eq _ n hr.1 h1 h2]
  rfl
end Go.Proofs.YtobccbakmcckiaaDoor
