/- may: may these writes be applied? -/
import Derived.Test.YtobccbakmcckiaaDoorClaim1
import Derived.Test.YtobccbakmcckiaaDoorApplyPure
namespace Go.Proofs.YtobccbakmcckiaaDoor
open Go Go.RowKit

/-- p leads to a row that begins with these writes. -/
def WrsAt (w : World) (p : Option Addr) (ws : List SWr) : Prop := ws = [] ∨ ∃ b o, p = some ⟨b, o, none⟩ ∧ ∀ i (h : i < ws.length),
  w.cell? ⟨b, o + i * 5, none⟩ = some (.string ⟨ws[i].key.toArray⟩) ∧ w.cell? ⟨b, o + i * 5 + 1, none⟩ = some (.bool ws[i].gone) ∧ w.cell? ⟨b, o + i * 5 + 2, none⟩ = some (.int .i64 ws[i].val.kind) ∧
  w.cell? ⟨b, o + i * 5 + 3, none⟩ = some (.int .i64 ws[i].val.num) ∧ w.cell? ⟨b, o + i * 5 + 4, none⟩ = some (.string ⟨ws[i].val.text.toArray⟩)
theorem WrsAt.frame {w w' : World} {p : Option Addr} {ws : List SWr} (h : WrsAt w p ws) {S : Nat → Prop} (hf : Fr S w w') (hs : ∀ a, p = some a → ¬ S a.block) : WrsAt w' p ws := by
  rcases h with h | ⟨b, o, rfl, h⟩
  · exact .inl h
  · have hb : ¬ S b := hs ⟨b, o, none⟩ rfl
    exact .inr ⟨b, o, rfl, fun i hi => let ⟨a0, a1, a2, a3, a4⟩ := h i hi
      ⟨hf.cellOf a0 hb, hf.cellOf a1 hb, hf.cellOf a2 hb, hf.cellOf a3 hb, hf.cellOf a4 hb⟩⟩
theorem WrsAt.cell {w : World} {p : Option Addr} {ws : List SWr} (h : WrsAt w p ws) {i : Nat} (hi : i < ws.length) : ∃ b o, p = some ⟨b, o, none⟩ ∧
  w.cell? ⟨b, o + i * 5, none⟩ = some (.string ⟨ws[i].key.toArray⟩) ∧ w.cell? ⟨b, o + i * 5 + 1, none⟩ = some (.bool ws[i].gone) ∧ w.cell? ⟨b, o + i * 5 + 2, none⟩ = some (.int .i64 ws[i].val.kind) ∧
  w.cell? ⟨b, o + i * 5 + 3, none⟩ = some (.int .i64 ws[i].val.num) ∧ w.cell? ⟨b, o + i * 5 + 4, none⟩ = some (.string ⟨ws[i].val.text.toArray⟩) := by
  rcases h with h | ⟨b, o, rfl, h⟩
  · subst h; cases hi
  · exact ⟨b, o, rfl, h i hi⟩

theorem cell_new {w : World} {c : Array Value} {e : TypeId} (j : Nat) : (w.alloc (.cells c e)).cell? ⟨w.heap.size, j, none⟩ = c[j]? := cell_heap (heap_alloc_new w _) j
theorem WrsAt.key {w : World} {p : Option Addr} {ws : List SWr} (h : WrsAt w p ws) {b o : Nat} (hp : p = some ⟨b, o, none⟩) {i : Nat} (hi : i < ws.length) : w.cell? ⟨b, o + i * 5, none⟩ = some (.string ⟨ws[i].key.toArray⟩) := by
  obtain ⟨b', o', h1, h2, _⟩ := h.cell hi
  rw [hp] at h1
  injection h1 with h1
  injection h1 with h3 h4
  subst h3; subst h4
  exact h2

theorem notZero {kind num : Int} {text : List UInt8} (h : (!kind == 0) = true ∨ (!num == 0) = true ∨ (!text.isEmpty) = true) : isZero ⟨kind, num, text⟩ = false := by
  unfold isZero
  rcases h with h | h | h <;> simp at h <;> simp [h]
theorem yesZero {kind num : Int} {text : List UInt8} (h : (!kind == 0) = false ∧ (!num == 0) = false ∧ (!text.isEmpty) = false) : isZero ⟨kind, num, text⟩ = true := by
  unfold isZero
  obtain ⟨h1, h2, h3⟩ := h
  simp at h1 h2 h3
  simp [h1, h2, h3]

set_option maxHeartbeats 4000000 in
theorem may_any (σ : SB) (L : SL) (p : Option Addr) (cap : Nat) (ws : List SWr) (w : World) (h : IsStore w σ L) (hw : WrsAt w p ws) (hn : ws.length ≤ 1000000) (hk : ∀ x ∈ ws, x.key.length ≤ maxLen ∧ x.val.text.length ≤ maxLen) :
    Calls Tryd.prog 44 #[.pointer (some ⟨σ.bs, 0, none⟩), .slice p ws.length cap] w fun e w' => e = .returned (.int .i64 (applyE L ws)) ∧ Fr nothing w w' := by
  have H := Lib.hid h; clear h
  have HW := Lib.hid hw; clear hw
  have HK := Lib.hid hk; clear hk
  have hve := val_neq
  go_enter Tryd.func44, Tryd.ntmps44
  go_wp2
  go_loopw [9] (fun i wr => ∃ k : Nat, i = .int .i64 k ∧ k ≤ ws.length ∧ applyE L ws = mayFrom L (prevKey ws k) (ws.drop k) ∧ Fr nothing w wr) (fun i _ => ws.length - (intOf i).toNat)
  case atStart => exact ⟨0, rfl, Nat.zero_le _, rfl, Fr.refl _ _⟩
  case round =>
    obtain ⟨k, rfl, hk1, hm, hfr⟩ := hrel
    have HM := Lib.hid hm; clear hm
    have HF := Lib.hid hfr; clear hfr
    by_cases hlt : k < ws.length
    · obtain ⟨b, o, rfl, a0, a1, a2, a3, a4⟩ := (HW.out.frame HF.out fun _ _ => nothing_not).cell hlt
      have hb := cell_lt a0
      dsimp only at hb
      have hkk := HK.out _ (List.getElem_mem hlt)
      have hxm := Lib.hid (mayFrom_drop L (prevKey ws k) ws k hlt)
      obtain ⟨x, hx⟩ : ∃ x, x = ws[k] := ⟨_, rfl⟩
      have HX := Lib.hid hx
      rw [← hx] at a0 a1 a2 a3 a4 hkk
      clear hx
      obtain ⟨key, gone, val⟩ := x
      obtain ⟨kind, num, text⟩ := val
      dsimp only at a0 a1 a2 a3 a4 hkk
      have hvk := Lib.hid (fun w => valid_any ⟨key.toArray⟩ w (by simpa [ByteArray.size] using hkk.1))
      have hF1 := Lib.hid (fun n => (HF.out.alloc (.cells #[.string ⟨key.toArray⟩, .bool gone, .int .i64 kind, .int .i64 num, .string ⟨text.toArray⟩] 67)).drewN n)
      cases hv : validKey key
      · have hmy := Lib.hid (show may1 L (prevKey ws k) ⟨key, gone, ⟨kind, num, text⟩⟩ = 30 by simp [may1, hv])
        have hvk2 := Lib.hid (fun w => (hvk.out w).mono (R' := fun e w' => e = .returned (.bool false) ∧ w = w') fun e w' ⟨h1, h2⟩ => ⟨by rw [h1]; simp [hv], h2⟩)
        clear hvk hv
        go_wp2_with (go_at_call 39; refine (hvk2.out _).mono ?_; rintro e w' ⟨rfl, rfl⟩)
        go_ret
        exact ⟨by rw [HM.out, hxm.out, ← HX.out, hmy.out, if_neg (by decide)]; rfl, hF1.out 0⟩
      · have hvk2 := Lib.hid (fun w => (hvk.out w).mono (R' := fun e w' => e = .returned (.bool true) ∧ w = w') fun e w' ⟨h1, h2⟩ => ⟨by rw [h1]; simp [hv], h2⟩)
        have HV := Lib.hid hv
        clear hvk hv
        have hprev : Hid (∀ k', k = k' + 1 → ∃ pk : Key, prevKey ws k = some pk ∧ wr.cell? ⟨b, o + k' * 5, none⟩ = some (.string ⟨pk.toArray⟩)) := by
          rintro k' rfl
          exact ⟨_, prevKey_succ ws k' (by omega), (HW.out.frame HF.out fun _ _ => nothing_not).key rfl (by omega)⟩
        cases hbh : behind (prevKey ws k) key
        · have hmy := Lib.hid (show may1 L (prevKey ws k) ⟨key, gone, ⟨kind, num, text⟩⟩ = 40 by simp [may1, HV.out, hbh])
          cases k with
          | zero => simp [prevKey, behind] at hbh
          | succ k' =>
            obtain ⟨pk, hpk, hpc⟩ := hprev.out k' rfl
            have hbl : Op.bytesLess pk key = false := by rw [hpk] at hbh; exact hbh
            have hi1 : (0 : Int) ≤ k' := by omega
            clear hprev hbh hpk
            go_wp2_with (go_at_call 39; refine (hvk2.out _).mono ?_; rintro e w' ⟨rfl, rfl⟩)
            go_quiet (fail)
            go_wp2
            go_ret
            exact ⟨by rw [HM.out, hxm.out, ← HX.out, hmy.out, if_neg (by decide)]; rfl, hF1.out _⟩
        · have hqs := Lib.hid (show ∀ n j v, (#[.string ⟨key.toArray⟩, .bool gone, .int .i64 kind, .int .i64 num, .string ⟨text.toArray⟩] : Array Value)[j]? = some v → ((wr.alloc (.cells #[.string ⟨key.toArray⟩, .bool gone, .int .i64 kind, .int .i64 num, .string ⟨text.toArray⟩] 67)).drewN n).cell? ⟨wr.heap.size, j, none⟩ = some v from fun n j v h => (cell_new j).trans h)
          have hI1 := Lib.hid (fun n => H.out.frame (hF1.out n) fun _ _ => nothing_not)
          have hcl := Lib.hid (fun n => claimed_any σ L key _ (hI1.out n) hkk.1)
          have hvv := Lib.hid (fun w => validVal_any ⟨kind, num, text⟩ w hkk.2)
          have hmy := Lib.hid (show may1 L (prevKey ws k) ⟨key, gone, ⟨kind, num, text⟩⟩ = if claimed L key then (if validVal ⟨kind, num, text⟩ then (if gone && !isZero ⟨kind, num, text⟩ then 2 else 0) else 20) else 41 by simp [may1, HV.out, hbh])
          clear HV
          cases k with
          | zero =>
            clear hprev hbh
            simp only [Nat.zero_mul, Nat.add_zero] at a0 a1 a2 a3 a4
            cases hc : claimed L key
            · have hcl2 := Lib.hid (fun n => (hcl.out n).mono (R' := fun e w' => e = .returned (.bool false) ∧ ∃ m, w' = _) fun e w' ⟨h1, h2⟩ => ⟨by rw [h1, hc], h2⟩)
              have hmy2 := Lib.hid (show may1 L (prevKey ws 0) ⟨key, gone, ⟨kind, num, text⟩⟩ = 41 from hmy.out.trans (by simp [hc]))
              clear hc hcl
              go_wp2_with (go_at_call 39; refine (hvk2.out _).mono ?_; rintro e w' ⟨rfl, rfl⟩)
              go_quiet (fail)
              go_wp2_with (go_at_call 40; refine (hcl2.out _).mono ?_; rintro e w' ⟨rfl, m, rfl⟩)
              go_ret
              exact ⟨by rw [HM.out, hxm.out, ← HX.out, hmy2.out, if_neg (by decide)]; rfl, hF1.out _⟩
            · have hcl2 := Lib.hid (fun n => (hcl.out n).mono (R' := fun e w' => e = .returned (.bool true) ∧ ∃ m, w' = _) fun e w' ⟨h1, h2⟩ => ⟨by rw [h1, hc], h2⟩)
              have hmy2 := Lib.hid (hmy.out.trans (by rw [hc, if_pos rfl]))
              clear hc hcl hmy
              cases hv : validVal ⟨kind, num, text⟩
              · have hvv2 := Lib.hid (fun w => (hvv.out w).mono (R' := fun e w' => e = .returned (.bool false) ∧ Fr nothing w w') fun e w' ⟨h1, h2⟩ => ⟨by rw [h1, hv], h2⟩)
                have hmy3 := Lib.hid (show may1 L (prevKey ws 0) ⟨key, gone, ⟨kind, num, text⟩⟩ = 20 from hmy2.out.trans (by simp [hv]))
                clear hv hvv hmy2
                go_wp2_with (go_at_call 39; refine (hvk2.out _).mono ?_; rintro e w' ⟨rfl, rfl⟩)
                go_quiet (fail)
                go_wp2_with (first | (go_at_call 40; refine (hcl2.out _).mono ?_; rintro e w' ⟨rfl, m, rfl⟩) | (go_at_call 56; refine (hvv2.out _).mono ?_; rintro e w2 ⟨rfl, hf2⟩; have HF2 := Lib.hid hf2; clear hf2))
                go_ret
                exact ⟨by rw [HM.out, hxm.out, ← HX.out, hmy3.out, if_neg (by decide)]; rfl, (hF1.out _).trans (by exact HF2.out)⟩
              · have hvv2 := Lib.hid (fun w => (hvv.out w).mono (R' := fun e w' => e = .returned (.bool true) ∧ Fr nothing w w') fun e w' ⟨h1, h2⟩ => ⟨by rw [h1, hv], h2⟩)
                have hmy3 := Lib.hid (hmy2.out.trans (by rw [hv, if_pos rfl]))
                clear hv hvv hmy2
                go_wp2_with (go_at_call 39; refine (hvk2.out _).mono ?_; rintro e w' ⟨rfl, rfl⟩)
                go_quiet (fail)
                go_wp2_with (first | (go_at_call 40; refine (hcl2.out _).mono ?_; rintro e w' ⟨rfl, m, rfl⟩) | (go_at_call 56; refine (hvv2.out _).mono ?_; rintro e w2 ⟨rfl, hf2⟩; have HF2 := Lib.hid hf2; have g1 := hf2.cellOf (hqs.out _ 1 _ rfl) nothing_not; have g2 := hf2.cellOf (hqs.out _ 2 _ rfl) nothing_not; have g3 := hf2.cellOf (hqs.out _ 3 _ rfl) nothing_not; have g4 := hf2.cellOf (hqs.out _ 4 _ rfl) nothing_not; clear hf2))
                · have h1 : gone = true := by assumption
                  have h2 : (!kind == 0) = true ∨ (!num == 0) = true ∨ (!text.isEmpty) = true := by assumption
                  have hmy4 := hmy3.out.trans (if_pos (by rw [h1, notZero h2]; rfl))
                  go_ret
                  exact ⟨by rw [HM.out, hxm.out, ← HX.out, hmy4, if_neg (by decide)]; rfl, (hF1.out _).trans (by exact HF2.out)⟩
                all_goals
                  go_roundw
                  case rel =>
                    refine ⟨0 + 1, by go_num, by omega, ?_, (hF1.out _).trans (by exact HF2.out)⟩
                    have hmy4 := hmy3.out.trans (if_neg (by first | (rename_i h1; rw [Bool.eq_false_iff.2 h1]; simp) | (rename_i h2; rw [yesZero h2]; simp)))
                    rw [HM.out, hxm.out, ← HX.out, if_pos hmy4, prevKey_succ ws 0 hlt, ← HX.out]
                  case measure => simp [intOf]; omega
          | succ k' =>
            obtain ⟨pk, hpk, hpc⟩ := hprev.out k' rfl
            have hbl : Op.bytesLess pk key = true := by rw [hpk] at hbh; exact hbh
            have hi1 : (0 : Int) ≤ k' := by omega
            clear hprev hbh hpk
            cases hc : claimed L key
            · have hcl2 := Lib.hid (fun n => (hcl.out n).mono (R' := fun e w' => e = .returned (.bool false) ∧ ∃ m, w' = _) fun e w' ⟨h1, h2⟩ => ⟨by rw [h1, hc], h2⟩)
              have hmy2 := Lib.hid (show may1 L (prevKey ws (k' + 1)) ⟨key, gone, ⟨kind, num, text⟩⟩ = 41 from hmy.out.trans (by simp [hc]))
              clear hc hcl
              go_wp2_with (go_at_call 39; refine (hvk2.out _).mono ?_; rintro e w' ⟨rfl, rfl⟩)
              go_quiet (fail)
              go_wp2_with (go_at_call 40; refine (hcl2.out _).mono ?_; rintro e w' ⟨rfl, m, rfl⟩)
              go_ret
              exact ⟨by rw [HM.out, hxm.out, ← HX.out, hmy2.out, if_neg (by decide)]; rfl, hF1.out _⟩
            · have hcl2 := Lib.hid (fun n => (hcl.out n).mono (R' := fun e w' => e = .returned (.bool true) ∧ ∃ m, w' = _) fun e w' ⟨h1, h2⟩ => ⟨by rw [h1, hc], h2⟩)
              have hmy2 := Lib.hid (hmy.out.trans (by rw [hc, if_pos rfl]))
              clear hc hcl hmy
              cases hv : validVal ⟨kind, num, text⟩
              · have hvv2 := Lib.hid (fun w => (hvv.out w).mono (R' := fun e w' => e = .returned (.bool false) ∧ Fr nothing w w') fun e w' ⟨h1, h2⟩ => ⟨by rw [h1, hv], h2⟩)
                have hmy3 := Lib.hid (show may1 L (prevKey ws (k' + 1)) ⟨key, gone, ⟨kind, num, text⟩⟩ = 20 from hmy2.out.trans (by simp [hv]))
                clear hv hvv hmy2
                go_wp2_with (go_at_call 39; refine (hvk2.out _).mono ?_; rintro e w' ⟨rfl, rfl⟩)
                go_quiet (fail)
                go_wp2_with (first | (go_at_call 40; refine (hcl2.out _).mono ?_; rintro e w' ⟨rfl, m, rfl⟩) | (go_at_call 56; refine (hvv2.out _).mono ?_; rintro e w2 ⟨rfl, hf2⟩; have HF2 := Lib.hid hf2; clear hf2))
                go_ret
                exact ⟨by rw [HM.out, hxm.out, ← HX.out, hmy3.out, if_neg (by decide)]; rfl, (hF1.out _).trans (by exact HF2.out)⟩
              · have hvv2 := Lib.hid (fun w => (hvv.out w).mono (R' := fun e w' => e = .returned (.bool true) ∧ Fr nothing w w') fun e w' ⟨h1, h2⟩ => ⟨by rw [h1, hv], h2⟩)
                have hmy3 := Lib.hid (hmy2.out.trans (by rw [hv, if_pos rfl]))
                clear hv hvv hmy2
                go_wp2_with (go_at_call 39; refine (hvk2.out _).mono ?_; rintro e w' ⟨rfl, rfl⟩)
                go_quiet (fail)
                go_wp2_with (first | (go_at_call 40; refine (hcl2.out _).mono ?_; rintro e w' ⟨rfl, m, rfl⟩) | (go_at_call 56; refine (hvv2.out _).mono ?_; rintro e w2 ⟨rfl, hf2⟩; have HF2 := Lib.hid hf2; have g1 := hf2.cellOf (hqs.out _ 1 _ rfl) nothing_not; have g2 := hf2.cellOf (hqs.out _ 2 _ rfl) nothing_not; have g3 := hf2.cellOf (hqs.out _ 3 _ rfl) nothing_not; have g4 := hf2.cellOf (hqs.out _ 4 _ rfl) nothing_not; clear hf2))
                · have h1 : gone = true := by assumption
                  have h2 : (!kind == 0) = true ∨ (!num == 0) = true ∨ (!text.isEmpty) = true := by assumption
                  have hmy4 := hmy3.out.trans (if_pos (by rw [h1, notZero h2]; rfl))
                  go_ret
                  exact ⟨by rw [HM.out, hxm.out, ← HX.out, hmy4, if_neg (by decide)]; rfl, (hF1.out _).trans (by exact HF2.out)⟩
                all_goals
                  go_roundw
                  case rel =>
                    refine ⟨(k' + 1) + 1, by go_num, by omega, ?_, (hF1.out _).trans (by exact HF2.out)⟩
                    have hmy4 := hmy3.out.trans (if_neg (by first | (rename_i h1; rw [Bool.eq_false_iff.2 h1]; simp) | (rename_i h2; rw [yesZero h2]; simp)))
                    rw [HM.out, hxm.out, ← HX.out, if_pos hmy4, prevKey_succ ws (k' + 1) hlt, ← HX.out]
                  case measure => simp [intOf]; omega
    · obtain rfl : k = ws.length := by omega
      go_wp2
      go_ret
      exact ⟨by rw [HM.out, List.drop_of_length_le (Nat.le_refl _)]; rfl, HF.out⟩
end Go.Proofs.YtobccbakmcckiaaDoor
