/- Claim: its test of the keys. -/
import Derived.Test.YtobccbakmcckiaaDoorStore1
namespace Go.Proofs.YtobccbakmcckiaaDoor
open Go Go.RowKit

/-- p leads to a row that begins with these strings. -/
def StrsAt (w : World) (p : Option Addr) (ss : List Key) : Prop := ss = [] ∨ ∃ b o, p = some ⟨b, o, none⟩ ∧ ∀ i (h : i < ss.length), w.cell? ⟨b, o + i, none⟩ = some (.string ⟨ss[i].toArray⟩)
theorem StrsAt.frame {w w' : World} {p : Option Addr} {ss : List Key} (h : StrsAt w p ss) {S : Nat → Prop} (hf : Fr S w w') (hs : ∀ a, p = some a → ¬ S a.block) : StrsAt w' p ss := by
  rcases h with h | ⟨b, o, rfl, h⟩
  · exact .inl h
  · exact .inr ⟨b, o, rfl, fun i hi => hf.cellOf (h i hi) (hs ⟨b, o, none⟩ rfl)⟩

set_option maxHeartbeats 400000 in
theorem claim1_any (k : Key) (w : World) (hk : k.length ≤ maxLen) :
    Calls Tryd.prog 38 #[.string ⟨k.toArray⟩] w fun e w' => e = .returned (.bool (!validKey k)) ∧ w = w' := by
  have hv := Lib.hid (valid_any ⟨k.toArray⟩ w (by simpa [ByteArray.size] using hk))
  go_enter Tryd.func38, Tryd.ntmps38
  go_wp2_with (go_at_call 39; refine hv.out.mono ?_; rintro e w' ⟨rfl, rfl⟩)
  go_ret
  exact ⟨rfl, rfl⟩

theorem StrsAt.cell {w : World} {p : Option Addr} {ss : List Key} (h : StrsAt w p ss) {k : Nat} (hk : k < ss.length) : ∃ b o, p = some ⟨b, o, none⟩ ∧ w.cell? ⟨b, o + k, none⟩ = some (.string ⟨ss[k].toArray⟩) := by
  rcases h with h | ⟨b, o, rfl, h⟩
  · subst h; cases hk
  · exact ⟨b, o, rfl, h k hk⟩
/-- Are all of these keys? -/
def allKeys (ss : List Key) : Bool := ss.all validKey
theorem allKeys_no {ss : List Key} {k : Nat} (hk : k < ss.length) (h : validKey ss[k] = false) : allKeys ss = false := by
  unfold allKeys; rw [List.all_eq_false]; exact ⟨ss[k], List.getElem_mem _, by simp [h]⟩
theorem allKeys_succ {ss : List Key} {k : Nat} (hk : k < ss.length) (ha : allKeys (ss.take k) = true) (h : validKey ss[k] = true) : allKeys (ss.take (k + 1)) = true := by
  unfold allKeys at *; rw [all_take_succ _ _ _ hk, ha, h]; rfl

set_option maxHeartbeats 400000 in
theorem indexFunc_any (p : Option Addr) (cap : Nat) (ss : List Key) (w : World) (h : StrsAt w p ss) (hn : ss.length ≤ 1000000) (hk : ∀ k ∈ ss, k.length ≤ maxLen) :
    Calls Tryd.prog 51 #[.slice p ss.length cap, .func (.func 38) #[] #[]] w fun e w' => (∃ r : Int, e = .returned (.int .i64 r) ∧ Hid (allKeys ss = decide (r < 0))) ∧ w = w' := by
  have HK := Lib.hid hk; clear hk
  have HS := Lib.hid h; clear h
  go_enter Tryd.func51, Tryd.ntmps51
  go_wp2
  go_loop [5, 8] (fun _ i => ∃ k : Nat, k ≤ ss.length ∧ i = .int .i64 k ∧ allKeys (ss.take k) = true) (fun _ i => ss.length - (intOf i).toNat)
  case atStart => exact ⟨0, Nat.zero_le _, rfl, rfl⟩
  case round =>
    obtain ⟨k, hk, rfl, hall⟩ := hrel
    have H := Lib.hid hall; clear hall
    by_cases hlt : k < ss.length
    · obtain ⟨b, o, rfl, hc⟩ := HS.out.cell hlt
      have hcl := Lib.hid (fun w => claim1_any ss[k] w (HK.out _ (List.getElem_mem hlt)))
      cases hv : validKey ss[k]
      · have hno := Lib.hid (allKeys_no hlt hv)
        have hcl2 := Lib.hid (fun w => (hcl.out w).mono (R' := fun e w' => e = .returned (.bool true) ∧ w = w') fun e w' ⟨h1, h2⟩ => ⟨by rw [h1, hv]; rfl, h2⟩)
        clear hcl hv
        go_wp2_with (go_at_call 38; refine (hcl2.out _).mono ?_; rintro e w' ⟨rfl, rfl⟩)
        go_ret
        exact ⟨⟨_, rfl, by show allKeys ss = _; rw [hno.out]; simp⟩, rfl⟩
      · have hsu := Lib.hid (allKeys_succ hlt H.out hv)
        have hcl2 := Lib.hid (fun w => (hcl.out w).mono (R' := fun e w' => e = .returned (.bool false) ∧ w = w') fun e w' ⟨h1, h2⟩ => ⟨by rw [h1, hv]; rfl, h2⟩)
        clear hcl hv
        go_wp2_with (go_at_call 38; refine (hcl2.out _).mono ?_; rintro e w' ⟨rfl, rfl⟩)
        go_round
        case rel => exact ⟨k + 1, by omega, by go_num, hsu.out⟩
        case measure => simp [intOf]; omega
    · obtain rfl : k = ss.length := by omega
      have hv := Lib.hid (show allKeys ss = true by have := H.out; rwa [List.take_of_length_le (Nat.le_refl _)] at this)
      clear H
      go_wp2
      go_ret
      exact ⟨⟨_, rfl, by show allKeys ss = _; rw [hv.out]; rfl⟩, rfl⟩

set_option maxHeartbeats 400000 in
theorem containsFunc_any (p : Option Addr) (cap : Nat) (ss : List Key) (w : World) (h : StrsAt w p ss) (hn : ss.length ≤ 1000000) (hk : ∀ k ∈ ss, k.length ≤ maxLen) :
    Calls Tryd.prog 37 #[.slice p ss.length cap, .func (.func 38) #[] #[]] w fun e w' => e = .returned (.bool (!allKeys ss)) ∧ w = w' := by
  have HI := Lib.hid (indexFunc_any p cap ss w h hn hk)
  clear h hk
  go_enter Tryd.func37, Tryd.ntmps37
  go_wp2_with (go_at_call 51; refine HI.out.mono ?_; rintro e w' ⟨⟨r, rfl, hr⟩, rfl⟩)
  go_ret
  refine ⟨?_, rfl⟩
  rw [hr.out]
  by_cases h0 : r < 0 <;> simp [h0] <;> omega
end Go.Proofs.YtobccbakmcckiaaDoor
