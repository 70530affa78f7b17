/- ckpt.Zig: Take, its parts. -/
import Derived.Test.YtobccbakmcckiaaDoorZigB
namespace Go.Proofs.YtobccbakmcckiaaDoor
open Go Go.RowKit Go.Sort

/-- The cells of the api.Writes that Take lays. -/
def writeCells (L : SL) : List Value := L.flatMap fun p => [.string ⟨p.1.toArray⟩, .bool false, .int .i64 p.2.kind, .int .i64 p.2.num, .string ⟨p.2.text.toArray⟩]
theorem writeCells_succ {L : SL} {k : Nat} (h : k < L.length) : writeCells (L.take (k + 1)) = writeCells (L.take k) ++ [.string ⟨L[k].1.toArray⟩, .bool false, .int .i64 L[k].2.kind, .int .i64 L[k].2.num, .string ⟨L[k].2.text.toArray⟩] := by
  unfold writeCells
  rw [List.take_succ_eq_append_getElem h, List.flatMap_append]
  simp
theorem keyCells_succ {L : SL} {k : Nat} (h : k < L.length) : (keysOf (L.take (k + 1))).map encStr = (keysOf (L.take k)).map encStr ++ [.string ⟨L[k].1.toArray⟩] := by
  unfold keysOf
  rw [List.take_succ_eq_append_getElem h, List.map_append, List.map_append]
  rfl
theorem flat_get {α : Type} {f : α → List Value} {n : Nat} (hf : ∀ a, (f a).length = n) : ∀ (l : List α) (i j : Nat) (h : i < l.length), j < n → (l.flatMap f)[i * n + j]? = (f l[i])[j]? := by
  intro l
  induction l with
  | nil => intro i j h; cases h
  | cons a r ih =>
    intro i j h hj
    rw [List.flatMap_cons]
    cases i with
    | zero => rw [List.getElem?_append_left (by rw [hf]; omega)]; simp
    | succ i =>
      rw [List.getElem?_append_right (by rw [hf, Nat.succ_mul]; omega), hf]
      have : (i + 1) * n + j - n = i * n + j := by rw [Nat.succ_mul]; omega
      rw [this, ih i j (by simpa using h) hj]
      simp
theorem cells_owned {w : World} {base e size n c : Nat} {p : Option Addr} {xs : List Value} (h : w.ownsRow base e size (.slice p n c) n xs) (hn : xs ≠ []) : ∃ g, p = some ⟨g, 0, none⟩ ∧ g < w.heap.size ∧ base ≤ g ∧ ∀ i, i < xs.length → w.cell? ⟨g, i, none⟩ = xs[i]? := by
  have hlt := h.lt
  rcases h.2 with ⟨hv, h0⟩ | ⟨g, cap, cur, hv, hb, hh, h1, h2, h3, h4⟩
  · injection hv with _ hv _
    have := h.1
    rw [h0, Nat.zero_mul] at this
    exact absurd (List.length_eq_zero_iff.1 this) hn
  · injection hv with hp _ _
    subst hp
    refine ⟨g, rfl, (hlt g rfl).2, (hlt g rfl).1, fun i hi => ?_⟩
    rw [cell_heap hh i, ← h4, List.getElem?_take]
    have : i < n * size := by have := h.1; omega
    rw [if_pos this]; simp
/-- The writes as Apply wants them. -/
theorem wrs_of_owns {w : World} {base n c : Nat} {p : Option Addr} {L : SL} (h : w.ownsRow base 67 5 (.slice p n c) n (writeCells L)) : WrsAt w p (wsOf L) := by
  by_cases h0 : L = []
  · subst h0; exact .inl rfl
  · have hne : writeCells L ≠ [] := by
      cases L with
      | nil => exact absurd rfl h0
      | cons a r => unfold writeCells; simp
    have hlen : (writeCells L).length = L.length * 5 := by
      have : ∀ l : SL, (writeCells l).length = l.length * 5 := by
        intro l
        induction l with
        | nil => rfl
        | cons a r ih => unfold writeCells at *; rw [List.flatMap_cons, List.length_append, ih]; simp; omega
      exact this L
    obtain ⟨g, rfl, _, _, hc⟩ := cells_owned h hne
    refine .inr ⟨g, 0, rfl, fun i hi => ?_⟩
    have hi' : i < L.length := by unfold wsOf at hi; simpa using hi
    have hg : ∀ j, j < 5 → w.cell? ⟨g, i * 5 + j, none⟩ = ([Value.string ⟨L[i].1.toArray⟩, .bool false, .int .i64 L[i].2.kind, .int .i64 L[i].2.num, .string ⟨L[i].2.text.toArray⟩])[j]? := fun j hj => by
      rw [hc _ (by rw [hlen]; omega)]
      unfold writeCells
      rw [flat_get (n := 5) (fun _ => rfl) L i j hi' hj]
    have hx : (wsOf L)[i] = ⟨L[i].1, false, L[i].2⟩ := List.getElem_map ..
    rw [hx]
    simp only [Nat.zero_add]
    refine ⟨?_, ?_, ?_, ?_, ?_⟩
    · exact hg 0 (by decide)
    · exact hg 1 (by decide)
    · exact hg 2 (by decide)
    · exact hg 3 (by decide)
    · exact hg 4 (by decide)
/-- An item's cells. -/
theorem item_cells {w : World} {base n c : Nat} {p : Option Addr} {L : SL} (h : w.ownsRow base 77 4 (.slice p n c) n (itemCells L)) {i : Nat} (hi : i < L.length) : ∃ g, p = some ⟨g, 0, none⟩ ∧ g < w.heap.size ∧
    w.cell? ⟨g, i * 4, none⟩ = some (.string ⟨L[i].1.toArray⟩) ∧ w.cell? ⟨g, i * 4 + 1, none⟩ = some (.int .i64 L[i].2.kind) ∧ w.cell? ⟨g, i * 4 + 2, none⟩ = some (.int .i64 L[i].2.num) ∧ w.cell? ⟨g, i * 4 + 3, none⟩ = some (.string ⟨L[i].2.text.toArray⟩) := by
  have hlen : ∀ l : SL, (itemCells l).length = l.length * 4 := by
    intro l
    induction l with
    | nil => rfl
    | cons a r ih => unfold itemCells at *; rw [List.flatMap_cons, List.length_append, ih]; simp; omega
  have hne : itemCells L ≠ [] := by
    intro e
    have := hlen L
    rw [e] at this; simp at this; omega
  obtain ⟨g, rfl, hg, _, hc⟩ := cells_owned h hne
  have hx : ∀ j, j < 4 → w.cell? ⟨g, i * 4 + j, none⟩ = ([Value.string ⟨L[i].1.toArray⟩, .int .i64 L[i].2.kind, .int .i64 L[i].2.num, .string ⟨L[i].2.text.toArray⟩])[j]? := fun j hj => by
    rw [hc _ (by rw [hlen]; omega)]
    unfold itemCells
    rw [flat_get (n := 4) (fun _ => rfl) L i j hi hj]
  exact ⟨g, rfl, hg, hx 0 (by decide), hx 1 (by decide), hx 2 (by decide), hx 3 (by decide)⟩
/-- The two rows that Take lays, k items on. -/
def Laid2 (w2 wr : World) (L0 : SL) (k : Nat) (p1 : Option Addr) (c1 : Nat) (p2 : Option Addr) (c2 : Nat) : Prop :=
  wr.ownsRow w2.heap.size 9 1 (.slice p1 k c1) k ((keysOf (L0.take k)).map encStr) ∧ wr.ownsRow w2.heap.size 67 5 (.slice p2 k c2) k (writeCells (L0.take k)) ∧ (∀ a b, p1 = some a → p2 = some b → a.block ≠ b.block) ∧ Fr nothing w2 wr
theorem heap_new2 (w : World) (X Y : Obj) : ((w.alloc X).alloc Y).heap[w.heap.size + 1]? = some Y := by
  have := heap_alloc_new (w.alloc X) Y
  simpa using this
theorem own_ne {p q : Option Addr} {n m c d : Nat} (h : ∀ a b, p = some a → q = some b → a.block ≠ b.block) : (Value.slice q n c).ownBlock = none ∨ (Value.slice q n c).ownBlock ≠ (Value.slice p m d).ownBlock := by
  cases q with
  | none => exact .inl rfl
  | some b =>
    refine .inr fun e => ?_
    cases p with
    | none => cases e
    | some a => exact h a b rfl rfl (Option.some.inj e).symm
/-- Behind the first append. -/
theorem laid_first {w2 wr w3 : World} {L0 : SL} {k : Nat} {p1 : Option Addr} {c1 : Nat} {p2 : Option Addr} {c2 : Nat} (h : Laid2 w2 wr L0 k p1 c1 p2 c2) {X Y : Obj} (hg : ((wr.alloc X).alloc Y).grownBy w3 (Value.slice p1 k c1).ownBlock) :
    w3.ownsRow w2.heap.size 67 5 (.slice p2 k c2) k (writeCells (L0.take k)) ∧ w3.heap[wr.heap.size]? = some X ∧ wr.heap.size + 2 ≤ w3.heap.size ∧ Fr nothing w2 w3 := by
  obtain ⟨h1, h2, h3, h4⟩ := h
  have hlt : ∀ b, (Value.slice p1 k c1).ownBlock = some b → w2.heap.size ≤ b ∧ b < wr.heap.size := fun b hb => h1.lt b hb
  refine ⟨((h2.alloc X).alloc Y).kept hg (own_ne h3), ?_, ?_, ?_⟩
  · have hX := heap_alloc_new wr X
    have hY := ((Fr.refl nothing (wr.alloc X)).alloc Y).block _ (heap_lt hX) nothing_not
    refine (hg.block _ ?_ fun e => ?_).trans (hY.trans hX)
    · simp; omega
    · have := (hlt _ e.symm).2; omega
  · have := hg.size
    simpa using this
  · refine ((h4.alloc X).alloc Y).next (Fr.grown hg) fun i hi e => ?_
    have := (hlt _ e).1
    exact absurd hi (by omega)
/-- Behind the second. -/
theorem laid_second {w2 wr w3 w4 : World} {L0 : SL} {k : Nat} {p1 : Option Addr} {c1 : Nat} {p2 : Option Addr} {c2 : Nat} (h : Laid2 w2 wr L0 k p1 c1 p2 c2) (hk : k < L0.length) {X Y Z : Obj} (hg : ((wr.alloc X).alloc Y).grownBy w3 (Value.slice p1 k c1).ownBlock)
    {g1 d1 g2 d2 : Nat} (o1 : w3.ownsRow w2.heap.size 9 1 (.slice (some ⟨g1, 0, none⟩) (k + 1) d1) (k + 1) ((keysOf (L0.take k)).map encStr ++ [.string ⟨L0[k].1.toArray⟩])) (hat1 : (Value.slice p1 k c1).ownBlock = some g1 ∨ g1 = wr.heap.size + 1 + 1) (hl1 : g1 < w3.heap.size)
    (hg2 : (w3.alloc Z).grownBy w4 (Value.slice p2 k c2).ownBlock) (o2 : w4.ownsRow w2.heap.size 67 5 (.slice (some ⟨g2, 0, none⟩) (k + 1) d2) (k + 1) (writeCells (L0.take k) ++ [.string ⟨L0[k].1.toArray⟩, .bool false, .int .i64 L0[k].2.kind, .int .i64 L0[k].2.num, .string ⟨L0[k].2.text.toArray⟩]))
    (hat2 : (Value.slice p2 k c2).ownBlock = some g2 ∨ g2 = w3.heap.size + 1) : Laid2 w2 w4 L0 (k + 1) (some ⟨g1, 0, none⟩) d1 (some ⟨g2, 0, none⟩) d2 := by
  obtain ⟨l1, l2, l3, l4⟩ := laid_first h hg
  obtain ⟨h1, h2, h3, h4⟩ := h
  rw [← keyCells_succ hk] at o1
  rw [← writeCells_succ hk] at o2
  have hp2 : ∀ b, (Value.slice p2 k c2).ownBlock = some b → w2.heap.size ≤ b ∧ b < wr.heap.size := fun b hb => h2.lt b hb
  have hne : ∀ b, (Value.slice p2 k c2).ownBlock = some b → g1 ≠ b := fun b hb e => by
    subst e
    rcases hat1 with e | e
    · obtain ⟨a, ha, ea⟩ := own_some e
      obtain ⟨b, hb, eb⟩ := own_some hb
      exact h3 a b ha hb (ea.trans eb.symm)
    · have := (hp2 _ hb).2; omega
  refine ⟨(o1.alloc Z).kept hg2 (.inr fun e => hne g1 e.symm rfl), o2, fun a b ha hb => ?_, (l4.alloc Z).next (Fr.grown hg2) fun i hi e => ?_⟩
  · injection ha with ha; injection hb with hb; subst ha; subst hb
    dsimp only
    rcases hat2 with e | e
    · exact hne _ e
    · omega
  · have := (hp2 _ e).1
    exact absurd hi (by omega)
end Go.Proofs.YtobccbakmcckiaaDoor
