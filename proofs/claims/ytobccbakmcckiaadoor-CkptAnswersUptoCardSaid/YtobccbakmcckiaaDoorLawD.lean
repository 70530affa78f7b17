/- The law's helpers: same, the walk. -/
import Derived.Test.YtobccbakmcckiaaDoorLawC
namespace Go.Proofs.YtobccbakmcckiaaDoor
open Go Go.RowKit Go.Sort

set_option maxHeartbeats 2000000 in
theorem same_any (p q : Option Addr) (c d : Nat) (xs ys : List SVal) (w : World) (ha : ValsAt w p xs) (hb : ValsAt w q ys) (hla : xs.length ≤ 1000000) :
    Calls Tryd.prog 26 #[.slice p xs.length c, .slice q ys.length d] w fun e w' => e = .returned (.bool (decide (xs = ys))) ∧ Fr nothing w w' := by
  have hvn := val_neq
  have HA := Lib.hid ha
  have HB := Lib.hid hb
  clear ha hb
  by_cases hl : xs.length = ys.length
  · have HL := Lib.hid hl
    rw [← hl]
    clear hl
    go_enter Tryd.func26, Tryd.ntmps26
    go_wp2
    go_loopw [5] (fun i wr => ∃ k : Nat, i = .int .i64 k ∧ k ≤ xs.length ∧ xs.take k = ys.take k ∧ Fr nothing w wr) (fun i _ => xs.length - (intOf i).toNat)
    case atStart => exact ⟨0, rfl, Nat.zero_le _, rfl, Fr.refl _ _⟩
    case round =>
      obtain ⟨k, rfl, hk1, heq, hfr⟩ := hrel
      have HEQ := Lib.hid heq
      have HF := Lib.hid hfr
      clear heq hfr
      by_cases hlt : k < xs.length
      · have hlt2 : k < ys.length := by rw [← HL.out]; exact hlt
        obtain ⟨b1, o1, rfl, a0, a1, a2⟩ := (HA.out.frame HF.out fun _ _ => nothing_not).cell hlt
        obtain ⟨b2, o2, rfl, e0, e1, e2⟩ := (HB.out.frame HF.out fun _ _ => nothing_not).cell hlt2
        have hb := sval_beq xs[k] ys[k]
        have hk0 : (0 : Int) ≤ k := by omega
        have hk2 : (k : Int) < (xs.length : Int) := by omega
        clear hb
        go_wp2_with fail
        go_quiet (fail)
        go_wp2
        · have hne : xs[k] ≠ ys[k] := sval_no (by assumption)
          go_ret
          exact ⟨by rw [decide_eq_false fun e => hne (by subst e; rfl)]; rfl, HF.out.drewN _⟩
        · have he : xs[k] = ys[k] := sval_yes (by assumption)
          go_roundw
          case rel => exact ⟨k + 1, by go_num, hlt, by rw [List.take_succ_eq_append_getElem hlt, List.take_succ_eq_append_getElem hlt2, HEQ.out, he], HF.out.drewN _⟩
          case measure => simp [intOf]; omega
      · obtain rfl : k = xs.length := by omega
        have hab : xs = ys := by have := HEQ.out; rwa [List.take_of_length_le (Nat.le_refl _), List.take_of_length_le (by rw [HL.out]; exact Nat.le_refl _)] at this
        have HAB := Lib.hid hab
        clear hab
        go_wp2
        go_ret
        exact ⟨by rw [decide_eq_true HAB.out]; rfl, HF.out⟩
  · have hne : Hid (xs ≠ ys) := Lib.hid fun e => hl (by rw [e])
    have hli : ¬ (xs.length : Int) = (ys.length : Int) := by omega
    go_enter Tryd.func26, Tryd.ntmps26
    go_wp2
    go_ret
    exact ⟨by rw [decide_eq_false hne.out]; rfl, Fr.refl _ _⟩
end Go.Proofs.YtobccbakmcckiaaDoor
