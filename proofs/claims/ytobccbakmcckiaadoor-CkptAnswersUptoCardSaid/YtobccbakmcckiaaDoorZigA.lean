/- ckpt.Zig: Step, whole. -/
import Derived.Test.YtobccbakmcckiaaDoorZig9
namespace Go.Proofs.YtobccbakmcckiaaDoor
open Go Go.RowKit

set_option maxHeartbeats 1000000 in
theorem step_none (ζ : ZG) (n : Int) (w : World) (h : IsZig w ζ) (hs : ζ.snap.isSome = false ∨ n < 1) :
    Calls Tryd.prog 15 #[.pointer (some ⟨ζ.bz, 0, none⟩), .int .i64 n] w fun e w' => e = .returned (.int .i64 0) ∧ w = w' := by
  have c4 : w.cell? ⟨ζ.bz, 4, none⟩ = some (.bool ζ.snap.isSome) := h.cell 4
  clear h
  cases hb : ζ.snap.isSome
  · rw [hb] at c4
    clear hs hb
    go_enter Tryd.func15, Tryd.ntmps15
    go_wp2
    go_ret
    exact ⟨rfl, rfl⟩
  · rw [hb] at c4 hs
    have hn : n < 1 := by rcases hs with hs | hs; cases hs; exact hs
    clear hs hb
    go_enter Tryd.func15, Tryd.ntmps15
    go_wp2
    go_ret
    exact ⟨rfl, rfl⟩

theorem step_any (ζ : ZG) (n : Int) (w : World) (h : IsZig w ζ) (hl : ∀ L0 j, ζ.snap = some (L0, j) → L0.length ≤ 1000000) :
    Calls Tryd.prog 15 #[.pointer (some ⟨ζ.bz, 0, none⟩), .int .i64 n] w fun e w' => e = .returned (.int .i64 (stepN ζ n)) ∧ ∃ ζ', ZStep w ζ w' ζ' ∧ ζ'.L = ζ.L ∧ ζ'.Cs = ζ.Cs ∧ ζ'.mark = ζ.mark ∧ ζ'.snap = ζ.snap.map fun p => (p.1, p.2 + stepN ζ n) := by
  have hz : ∀ k, ζ.snap.map (fun p : SL × Nat => (p.1, p.2 + k)) = ζ.snap → stepN ζ n = k → ∃ ζ', ZStep w ζ w ζ' ∧ ζ'.L = ζ.L ∧ ζ'.Cs = ζ.Cs ∧ ζ'.mark = ζ.mark ∧ ζ'.snap = ζ.snap.map fun p => (p.1, p.2 + stepN ζ n) :=
    fun k hk e => ⟨ζ, ⟨h, rfl, rfl, Fr.refl _ _, fun k hk => .inl hk⟩, rfl, rfl, rfl, by rw [e]; exact hk.symm⟩
  cases hs : ζ.snap with
  | none =>
    have e : stepN ζ n = 0 := by unfold stepN; rw [hs]
    refine (step_none ζ n w h (.inl (by rw [hs]; rfl))).mono ?_
    rintro _ _ ⟨rfl, rfl⟩
    refine ⟨by rw [e]; rfl, ?_⟩
    have := hz 0 (by rw [hs]; rfl) e
    rw [hs] at this; exact this
  | some x =>
    obtain ⟨L0, j⟩ := x
    by_cases hn : n < 1
    · have e : stepN ζ n = 0 := by unfold stepN; rw [hs]; simp [hn]
      refine (step_none ζ n w h (.inr hn)).mono ?_
      rintro _ _ ⟨rfl, rfl⟩
      refine ⟨by rw [e]; rfl, ?_⟩
      have := hz 0 (by rw [hs]; rfl) e
      rw [hs] at this; exact this
    · have hsn := h.snap L0 j hs
      have e : stepN ζ n = min n.toNat (L0.length - j) := by unfold stepN; rw [hs]; simp [hn]
      have hln := hsn.ln
      refine (step_go ζ L0 j (stepN ζ n) n w h hs (by omega) (by rw [e, hln]; exact Nat.min_le_right _ _) (by rw [e, hln]; omega) (hl L0 j hs)).mono ?_
      rintro _ w' ⟨rfl, p, c, hst⟩
      exact ⟨rfl, _, hst, rfl, rfl, rfl, rfl⟩
end Go.Proofs.YtobccbakmcckiaaDoor
