/- The store: Get, Parts. -/
import Derived.Test.YtobccbakmcckiaaDoorStore0
import Derived.Handy
namespace Go.Proofs.YtobccbakmcckiaaDoor
open Go Go.RowKit

theorem enc_of_kind0 {v : SVal} (h : validVal v = true) (h0 : v.kind = 0) : v.enc = SVal.zero.enc := by
  obtain ⟨k, n, t⟩ := v
  simp only at h0
  subst h0
  simp [validVal] at h
  obtain ⟨rfl, rfl⟩ := h
  rfl
theorem look_vals {σ : SB} {L : SL} {w : World} (h : IsStore w σ L) (k : Key) (hk : k.length ≤ maxLen) :
    (Instr.lookup 78 (.map (some σ.bv)) (.string ⟨k.toArray⟩) false).run Tryd.prog w = .ok (getV L k).enc w := by
  rw [h.vals.look Tryd.underlying9 Tryd.underlying78 (zero_val w) k hk, look_valsOf h.ris]
  unfold getV
  cases hl : lookM L k with
  | none => rfl
  | some v =>
    by_cases h0 : v.kind = 0
    · simp [h0, enc_of_kind0 (h.good _ (lookM_mem hl)) h0]
    · simp [h0]

set_option maxHeartbeats 400000 in
theorem get_any (σ : SB) (L : SL) (k : Key) (w : World) (h : IsStore w σ L) (hk : k.length ≤ maxLen) :
    Calls Tryd.prog 50 #[.pointer (some ⟨σ.bs, 0, none⟩), .string ⟨k.toArray⟩] w fun e w' => e = .returned (getV L k).enc ∧ Fr nothing w w' := by
  have hl := look_vals (h.frame ((Fr.refl nothing w).alloc (.cells #[.int .i64 0, .int .i64 0, .string ⟨#[]⟩] 47)) fun _ _ => nothing_not) k hk
  have hc2 := h.c2
  have hb := cell_lt hc2
  have hfr : ∀ o, Fr nothing w (w.alloc o) := fun o => (Fr.refl _ _).alloc o
  obtain ⟨v, hv⟩ : ∃ v, v = getV L k := ⟨_, rfl⟩
  rw [← hv] at hl ⊢
  clear h hv
  obtain ⟨a, b, s⟩ := v
  simp only [SVal.enc, SVal.cells, SVal.str] at hl ⊢
  go_enter Tryd.func50, Tryd.ntmps50
  go_wp2
  go_returns
  exact ⟨rfl, hfr _⟩

set_option maxHeartbeats 400000 in
theorem parts_any (σ : SB) (L : SL) (w : World) (h : IsStore w σ L) :
    Calls Tryd.prog 47 #[.pointer (some ⟨σ.bs, 0, none⟩)] w fun e w' => e = .returned (.int .i64 σ.parts) ∧ w = w' := by
  have hc := h.c1
  clear h
  go_enter Tryd.func47, Tryd.ntmps47
  go_wp2
  go_ret
  exact ⟨rfl, rfl⟩
end Go.Proofs.YtobccbakmcckiaaDoor
