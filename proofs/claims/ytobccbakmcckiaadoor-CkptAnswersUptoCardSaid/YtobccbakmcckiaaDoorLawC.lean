/- The law's helpers: same. -/
import Derived.Test.YtobccbakmcckiaaDoorLawB
import Derived.BigQuiet
namespace Go.Proofs.YtobccbakmcckiaaDoor
open Go Go.RowKit Go.Sort

def ValsAt (w : World) (p : Option Addr) (vs : List SVal) : Prop := vs = [] ∨ ∃ b o, p = some ⟨b, o, none⟩ ∧ ∀ i (h : i < vs.length),
  w.cell? ⟨b, o + i * 3, none⟩ = some (.int .i64 vs[i].kind) ∧ w.cell? ⟨b, o + i * 3 + 1, none⟩ = some (.int .i64 vs[i].num) ∧ w.cell? ⟨b, o + i * 3 + 2, none⟩ = some (.string ⟨vs[i].text.toArray⟩)
theorem ValsAt.cell {w : World} {p : Option Addr} {vs : List SVal} (h : ValsAt w p vs) {i : Nat} (hi : i < vs.length) : ∃ b o, p = some ⟨b, o, none⟩ ∧
    w.cell? ⟨b, o + i * 3, none⟩ = some (.int .i64 vs[i].kind) ∧ w.cell? ⟨b, o + i * 3 + 1, none⟩ = some (.int .i64 vs[i].num) ∧ w.cell? ⟨b, o + i * 3 + 2, none⟩ = some (.string ⟨vs[i].text.toArray⟩) := by
  rcases h with h | ⟨b, o, hp, h⟩
  · subst h; cases hi
  · exact ⟨b, o, hp, h i hi⟩
theorem ValsAt.frame {w w' : World} {p : Option Addr} {vs : List SVal} (h : ValsAt w p vs) {S : Nat → Prop} (hf : Fr S w w') (hs : ∀ a, p = some a → ¬ S a.block) : ValsAt w' p vs := by
  rcases h with h | ⟨b, o, rfl, h⟩
  · exact .inl h
  · have hb : ¬ S b := hs ⟨b, o, none⟩ rfl
    exact .inr ⟨b, o, rfl, fun i hi => let ⟨a0, a1, a2⟩ := h i hi; ⟨hf.cellOf a0 hb, hf.cellOf a1 hb, hf.cellOf a2 hb⟩⟩
theorem vals_of_owns {w : World} {base n c : Nat} {p : Option Addr} {vs : List SVal} (h : w.ownsRow base 47 3 (.slice p n c) n (valCells vs)) : ValsAt w p vs := by
  by_cases h0 : vs = []
  · exact .inl h0
  · have hlen : ∀ l : List SVal, (valCells l).length = l.length * 3 := by
      intro l
      induction l with
      | nil => rfl
      | cons a r ih => unfold valCells at *; rw [List.flatMap_cons, List.length_append, ih]; simp; omega
    have hne : valCells vs ≠ [] := by
      cases vs with
      | nil => exact absurd rfl h0
      | cons a r => unfold valCells; simp
    obtain ⟨g, rfl, _, _, hc⟩ := cells_owned h hne
    refine .inr ⟨g, 0, rfl, fun i hi => ?_⟩
    have hg : ∀ j, j < 3 → w.cell? ⟨g, i * 3 + j, none⟩ = ([Value.int .i64 vs[i].kind, .int .i64 vs[i].num, .string ⟨vs[i].text.toArray⟩])[j]? := fun j hj => by
      rw [hc _ (by rw [hlen]; omega)]
      unfold valCells
      rw [flat_get (n := 3) (fun _ => rfl) vs i j hi hj]
    simp only [Nat.zero_add]
    exact ⟨hg 0 (by decide), hg 1 (by decide), hg 2 (by decide)⟩
theorem sval_beq (a b : SVal) : (a.kind == b.kind && (a.num == b.num && (⟨a.text.toArray⟩ : ByteArray).toList == (⟨b.text.toArray⟩ : ByteArray).toList)) = true ↔ a = b := by
  obtain ⟨a0, a1, a2⟩ := a
  obtain ⟨b0, b1, b2⟩ := b
  simp
theorem sval_yes {a b : SVal} (h : (!a.kind == b.kind) = false ∧ (!a.num == b.num) = false ∧ (!a.text == b.text) = false) : a = b := by
  obtain ⟨a0, a1, a2⟩ := a
  obtain ⟨b0, b1, b2⟩ := b
  simpa using h
theorem sval_no {a b : SVal} (h : (!a.kind == b.kind) = true ∨ (!a.num == b.num) = true ∨ (!a.text == b.text) = true) : a ≠ b := by
  rintro rfl
  simp at h
instance : DecidableEq SVal := fun a b => decidable_of_iff _ (sval_beq a b)
end Go.Proofs.YtobccbakmcckiaaDoor
