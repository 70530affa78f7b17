/- value.Valid; == and != between values. -/
import Derived.Test.YtobccbakmcckiaaDoorLeaf
import Derived.Test.YtobccbakmcckiaaDoorFrames
namespace Go.Proofs.YtobccbakmcckiaaDoor
open Go Go.RowKit

def nothing : Nat → Prop := fun _ => False

theorem val_fields : Tryd.prog.underlying 47 = some (.struct (Tryd.prog.fieldsOf 47)) := by kernel_rfl
theorem val_held : Tryd.prog.stoodInHeld 47 = false := by kernel_rfl
theorem val_guard : Tryd.prog.eqGuardType Tryd.prog.depth 47 = false := by kernel_rfl

theorem val_equalIn (a b a' b' : Int) (s s' : ByteArray) (w : World) :
    (Op.equalIn 10000 47 (.agg #[.int .i64 a, .int .i64 b, .string s]) (.agg #[.int .i64 a', .int .i64 b', .string s'])).run Tryd.prog w = .ok (a == a' && (b == b' && s.toList == s'.toList)) w := by
  rw [show (10000 : Nat) = 9999 + 1 from rfl, run_equalIn_agg w 9999 47 _ _ val_fields val_held]
  simp only [Program.fieldsOf, Tryd.underlying47]
  go_simp
  by_cases h1 : a = a' <;> by_cases h2 : b = b' <;> by_cases h3 : s.toList = s'.toList <;> simp [h1, h2, h3]
theorem val_eq (a b a' b' : Int) (s s' : ByteArray) (w : World) :
    (binOp .eql 47 (.agg #[.int .i64 a, .int .i64 b, .string s]) (.agg #[.int .i64 a', .int .i64 b', .string s'])).run Tryd.prog w = .ok (.bool (a == a' && (b == b' && s.toList == s'.toList))) w := by
  rw [run_eql_struct, val_equalIn]; rfl
theorem val_neq (a b a' b' : Int) (s s' : ByteArray) (w : World) :
    (binOp .neq 47 (.agg #[.int .i64 a, .int .i64 b, .string s]) (.agg #[.int .i64 a', .int .i64 b', .string s'])).run Tryd.prog w = .ok (.bool (!(a == a' && (b == b' && s.toList == s'.toList)))) w := by
  rw [run_neq_struct, val_equalIn]; rfl

set_option maxHeartbeats 400000 in
theorem plain_any (c : UInt8) (w : World) :
    Calls Tryd.prog 84 #[.int .u8 c.toNat] w fun e w' => e = .returned (.bool (plainByte c)) ∧ w = w' := by
  by_cases h1 : 32 ≤ c.toNat
  · by_cases h2 : c.toNat ≤ 126 <;> (go_enter Tryd.func84, Tryd.ntmps84; go_wp2; go_ret; simp [plainByte, h1, h2]; try omega)
  · go_enter Tryd.func84, Tryd.ntmps84; go_wp2; go_ret; simp [plainByte, h1]; try omega

theorem all_plain_no (s : ByteArray) (k : Nat) (hk : k < s.size) (h : plainByte s[k] = false) : allPlain s.data.toList = false := by
  unfold allPlain
  rw [List.all_eq_false]
  exact ⟨s[k], by rw [Array.mem_toList_iff]; exact Array.getElem_mem _, by simp [h]⟩

set_option maxHeartbeats 400000 in
theorem printable_any (s : ByteArray) (w : World) (hs : s.size ≤ maxLen) :
    Calls Tryd.prog 72 #[.string s] w fun e w' => e = .returned (.bool (allPlain s.data.toList)) ∧ w = w' := by
  unfold maxLen at hs
  go_enter Tryd.func72, Tryd.ntmps72
  go_wp2
  go_loop [3, 6] (fun _ i => ∃ k : Nat, k ≤ s.size ∧ i = .int .i64 k ∧ (s.data.toList.take k).all plainByte = true) (fun _ i => s.size - (intOf i).toNat)
  case atStart => exact ⟨0, Nat.zero_le _, rfl, rfl⟩
  case round =>
    obtain ⟨k, hk, rfl, hall⟩ := hrel
    have H := Lib.hid hall; clear hall
    by_cases hlt : k < s.size
    · cases hkb : plainByte s[k]
      · have hno := Lib.hid (all_plain_no s k hlt hkb)
        go_wp2_with (go_at_call 84; refine (plain_any _ _).mono ?_; rintro e w' ⟨rfl, rfl⟩)
        go_ret
        rw [hno.out]
        exact ⟨rfl, rfl⟩
      · have hsu := Lib.hid (show (s.data.toList.take (k + 1)).all plainByte = true by rw [all_take_succ _ _ _ (by simpa using hlt), H.out]; simp; exact hkb)
        go_wp2_with (go_at_call 84; refine (plain_any _ _).mono ?_; rintro e w' ⟨rfl, rfl⟩)
        go_round
        case rel => exact ⟨k + 1, by omega, by go_num, hsu.out⟩
        case measure => simp [intOf]; omega
    · obtain rfl : k = s.size := by omega
      have hv := Lib.hid (show allPlain s.data.toList = true by have := H.out; unfold allPlain; rwa [List.take_of_length_le (by simp)] at this)
      clear H
      go_wp2
      go_ret
      rw [hv.out]
      exact ⟨rfl, rfl⟩

set_option maxHeartbeats 800000 in
theorem validVal_any (v : SVal) (w : World) (hs : v.text.length ≤ maxLen) :
    Calls Tryd.prog 56 #[v.enc] w fun e w' => e = .returned (.bool (validVal v)) ∧ Fr nothing w w' := by
  obtain ⟨kind, num, text⟩ := v
  unfold SVal.enc SVal.cells SVal.str
  dsimp only at *
  have hf : ∀ n, Fr nothing w (((w.alloc (.cells #[.int .i64 kind, .int .i64 num, .string ⟨text.toArray⟩] 47))).drewN n) := fun n => ((Fr.refl _ _).alloc _).drewN n
  have hd : ∃ r, r = validVal ⟨kind, num, text⟩ := ⟨_, rfl⟩
  obtain ⟨r, hr⟩ := hd
  have HR := Lib.hid hr
  rw [← hr]
  clear hr
  by_cases h0 : kind = 0
  · subst h0
    have hve := val_eq
    go_enter Tryd.func56, Tryd.ntmps56
    go_wp2
    go_ret
    exact ⟨by rw [HR.out]; simp [validVal, Bool.beq_eq_decide_eq], hf 0⟩
  · by_cases h1 : kind = 1
    · subst h1
      go_enter Tryd.func56, Tryd.ntmps56
      go_wp2
      go_ret
      exact ⟨by rw [HR.out]; simp [validVal], hf 0⟩
    · by_cases h2 : kind = 2
      · subst h2
        clear h0 h1
        by_cases h3 : num = 0
        · subst h3
          by_cases h4 : text.length ≤ 64
          · go_enter Tryd.func56, Tryd.ntmps56
            go_wp2_with (go_at_call 72; refine (printable_any _ _ (by simpa [ByteArray.size] using hs)).mono ?_; rintro e w' ⟨rfl, rfl⟩)
            go_ret
            exact ⟨by rw [HR.out]; simp [validVal, h4], hf 0⟩
          · go_enter Tryd.func56, Tryd.ntmps56
            go_wp2_with (go_at_call 72; refine (printable_any _ _ (by simpa [ByteArray.size] using hs)).mono ?_; rintro e w' ⟨rfl, rfl⟩)
            go_ret
            exact ⟨by rw [HR.out]; simp [validVal, h4]; try omega, hf 0⟩
        · go_enter Tryd.func56, Tryd.ntmps56
          go_wp2_with (go_at_call 72; refine (printable_any _ _ (by simpa [ByteArray.size] using hs)).mono ?_; rintro e w' ⟨rfl, rfl⟩)
          go_ret
          exact ⟨by rw [HR.out]; simp [validVal, h3], hf 0⟩
      · go_enter Tryd.func56, Tryd.ntmps56
        go_wp2
        go_ret
        exact ⟨by rw [HR.out]; simp [validVal, h0, h1, h2], hf 0⟩
end Go.Proofs.YtobccbakmcckiaaDoor
