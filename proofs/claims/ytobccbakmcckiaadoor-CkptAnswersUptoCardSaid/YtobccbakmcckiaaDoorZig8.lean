/- ckpt.Zig: Step. -/
import Derived.Test.YtobccbakmcckiaaDoorZig7
namespace Go.Proofs.YtobccbakmcckiaaDoor
open Go Go.RowKit

/-- The head of 'left[m:]'. -/
def lcut (p : Option Addr) (m c : Nat) : Option Addr := if c = m then p else p.map (fun x => x.add m)
theorem lcut_block {p : Option Addr} {m c : Nat} {a : Addr} (h : lcut p m c = some a) : ∃ b, p = some b ∧ b.block = a.block := by
  unfold lcut at h
  split at h
  · exact ⟨a, h, rfl⟩
  · obtain ⟨b, hb, rfl⟩ := Option.map_eq_some_iff.1 h
    refine ⟨b, hb, ?_⟩
    unfold Addr.add; split <;> rfl
abbrev ZG.stepped (ζ : ZG) (L0 : SL) (j m : Nat) (p : Option Addr) (c : Nat) : ZG := { ζ with snap := some (L0, j + m), lp := lcut ζ.lp m ζ.lc, ln := ζ.ln - m, lc := ζ.lc - m, tp := p, tn := j + m, tc := c }

theorem strs_drop {w : World} {p : Option Addr} {ss : List Key} {m c : Nat} (h : StrsAt w p ss) (hc : ss.length ≤ c) : StrsAt w (lcut p m c) (ss.drop m) := by
  by_cases he : ss.drop m = []
  · exact .inl he
  · have hlt : m < ss.length := by
      rcases Nat.lt_or_ge m ss.length with h1 | h1
      · exact h1
      · exact absurd (List.drop_eq_nil_of_le h1) he
    rcases h with h0 | ⟨b, o, rfl, hcell⟩
    · rw [h0] at hlt; simp at hlt
    · refine .inr ⟨b, o + m, ?_, fun i hi => ?_⟩
      · unfold lcut
        rw [if_neg (by omega)]
        simp [Addr.add]
      · rw [List.length_drop] at hi
        rw [Nat.add_assoc, hcell (m + i) (by omega), List.getElem_drop]

theorem IsZigX.stepped {w w' : World} {ζ : ZG} (h : IsZig w ζ) {L0 : SL} {j m : Nat} (hs : ζ.snap = some (L0, j)) (hm : j + m ≤ L0.length) {p : Option Addr} {c : Nat} (hf : Fr (fun b => b = ζ.bz ∨ ∃ a, ζ.tp = some a ∧ b = a.block) w w')
    (hh : w'.heap[ζ.bz]? = some (.cells (ζ.stepped L0 j m p c).row 71 (0, 0)))
    (ho : w'.ownsRow 0 77 4 (.slice p (j + m) c) (j + m) (itemCells (L0.take (j + m)))) (hp : ∀ a, p = some a → (∃ b, ζ.tp = some b ∧ b.block = a.block) ∨ w.heap.size ≤ a.block) : IsZig w' (ζ.stepped L0 j m p c) := by
  have hsn := h.snap L0 j hs
  have hsome : ζ.snap.isSome = true := by rw [hs]; rfl
  have hnot : ∀ b, (b ≠ ζ.bz ∧ ∀ a, ζ.tp = some a → b ≠ a.block) → ¬ (b = ζ.bz ∨ ∃ a, ζ.tp = some a ∧ b = a.block) := fun b hb e => by
    rcases e with e | ⟨a, ha, e⟩
    · exact hb.1 e
    · exact hb.2 a ha e
  exact {
    head := hh
    st := h.st.frame hf fun k hk => hnot k ⟨fun e => h.ap2.1 (e ▸ hk), fun a ha e => (hsn.tne a ha).2.2.1 (e ▸ hk)⟩
    map := h.map.kept (hf.block _ h.map.lt (hnot _ ⟨fun e => h.ap1 e.symm, fun a ha e => (hsn.tne a ha).2.1 e.symm⟩))
    cells := fun q hq => (hf.block _ (heap_lt (h.cells q hq)) (hnot _ ⟨(h.ap3 q hq).1, fun a ha => (hsn.tne a ha).2.2.2.1 q hq⟩)).trans (h.cells q hq)
    keys := h.keys
    bits := h.bits
    cur := h.cur
    nums := h.nums
    ap1 := h.ap1
    ap2 := h.ap2
    ap3 := h.ap3
    ap4 := h.ap4
    snap := fun L1 j1 hs1 => by
      have e : ((L0, j + m) : SL × Nat) = (L1, j1) := Option.some.inj hs1
      cases e
      have hln := hsn.ln
      have hcap := hsn.cap
      have hl : StrsAt w' ζ.lp (keysOf (L0.drop j)) := hsn.left.frame hf fun a ha => hnot _ ⟨(hsn.lne a ha).1, fun b hb e => (hsn.tne b hb).2.2.2.2 a ha e⟩
      exact {
        jle := hm
        ln := by show ζ.ln - m = _; omega
        cap := by show ζ.ln - m ≤ ζ.lc - m; omega
        left := by
          have := strs_drop (m := m) (c := ζ.lc) hl (by simp [keysOf]; omega)
          show StrsAt w' (lcut ζ.lp m ζ.lc) (keysOf (L0.drop (j + m)))
          rw [show keysOf (L0.drop (j + m)) = (keysOf (L0.drop j)).drop m from by unfold keysOf; rw [← List.map_drop, List.drop_drop]]
          exact this
        tn := rfl
        taken := ho
        ris := hsn.ris
        keys := hsn.keys
        good := hsn.good
        nums := hsn.nums
        full := hsn.full
        froz := hsn.froz
        llt := fun a ha => by
          obtain ⟨b, hb, e⟩ := lcut_block (p := ζ.lp) (m := m) (c := ζ.lc) ha
          rw [← e]
          exact Nat.lt_of_lt_of_le (hsn.llt b hb) hf.size
        lne := fun a ha => by
          obtain ⟨b, hb, e⟩ := lcut_block (p := ζ.lp) (m := m) (c := ζ.lc) ha
          rw [← e]
          exact hsn.lne b hb
        tne := fun a ha => by
          rcases hp a ha with ⟨b, hb, e⟩ | hge
          · obtain ⟨a1, a2, a3, a4, a5⟩ := hsn.tne b hb
            rw [← e]
            refine ⟨a1, a2, a3, a4, fun d hd => ?_⟩
            obtain ⟨d', hd', e'⟩ := lcut_block (p := ζ.lp) (m := m) (c := ζ.lc) hd
            rw [← e']
            exact a5 d' hd'
          · refine ⟨?_, ?_, fun hb => ?_, fun q hq => ?_, fun d hd => ?_⟩
            · have := heap_lt h.head; show a.block ≠ ζ.bz; omega
            · have := h.map.lt; show a.block ≠ ζ.bm; omega
            · have := h.st.lt hb; omega
            · have := heap_lt (h.cells q hq); omega
            · obtain ⟨d', hd', e'⟩ := lcut_block (p := ζ.lp) (m := m) (c := ζ.lc) hd
              have := hsn.llt d' hd'
              omega } }
theorem fp_stepped {w : World} {ζ : ZG} {L0 : SL} {j m : Nat} (hs : ζ.snap = some (L0, j)) {p : Option Addr} {c : Nat} (hp : ∀ a, p = some a → (∃ b, ζ.tp = some b ∧ b.block = a.block) ∨ w.heap.size ≤ a.block) {k : Nat} (h : (ζ.stepped L0 j m p c).fp k) : ζ.fp k ∨ w.heap.size ≤ k := by
  have hsome : ζ.snap.isSome = true := by rw [hs]; rfl
  rcases h with h | h | h | h | ⟨_, ⟨a, ha, rfl⟩ | ⟨a, ha, rfl⟩⟩
  · exact .inl (.inl h)
  · exact .inl (.inr (.inl h))
  · exact .inl (.inr (.inr (.inl h)))
  · exact .inl (.inr (.inr (.inr (.inl h))))
  · obtain ⟨b, hb, e⟩ := lcut_block (p := ζ.lp) (m := m) (c := ζ.lc) ha
    exact .inl (.inr (.inr (.inr (.inr ⟨hsome, .inl ⟨b, hb, e.symm⟩⟩))))
  · rcases hp a ha with ⟨b, hb, e⟩ | hge
    · exact .inl (.inr (.inr (.inr (.inr ⟨hsome, .inr ⟨b, hb, e.symm⟩⟩))))
    · exact .inr hge

/-- What Step answers. -/
def stepN (ζ : ZG) (n : Int) : Nat := match ζ.snap with | some (L0, j) => if n < 1 then 0 else min n.toNat (L0.length - j) | none => 0
theorem itemCells_succ {L : SL} {k : Nat} (h : k < L.length) : itemCells (L.take (k + 1)) = itemCells (L.take k) ++ [.string ⟨L[k].1.toArray⟩, .int .i64 L[k].2.kind, .int .i64 L[k].2.num, .string ⟨L[k].2.text.toArray⟩] := by
  unfold itemCells
  rw [List.take_succ_eq_append_getElem h, List.flatMap_append]
  simp
/-- The slot that Step reads: the copy that is not written. -/
theorem froz_row {c : CC} (h : c.w ≤ 1) : c.row[(1 - c.w) * 3]? = some (.int .i64 c.froz.kind) ∧ c.row[(1 - c.w) * 3 + 1]? = some (.int .i64 c.froz.num) ∧ c.row[(1 - c.w) * 3 + 2]? = some (.string ⟨c.froz.text.toArray⟩) := by
  unfold CC.froz CC.row
  by_cases h0 : c.w = 0
  · rw [if_pos h0, h0]; exact ⟨rfl, rfl, rfl⟩
  · obtain h1 : c.w = 1 := by omega
    rw [if_neg h0, h1]; exact ⟨rfl, rfl, rfl⟩
theorem tp_ne_bz {w : World} {ζ : ZG} {L0 : SL} {j : Nat} (h : IsZig w ζ) (hs : ζ.snap = some (L0, j)) {p : Option Addr} (hp : ∀ a, p = some a → (∃ b, ζ.tp = some b ∧ b.block = a.block) ∨ w.heap.size ≤ a.block) {a : Addr} (ha : p = some a) : a.block ≠ ζ.bz := by
  rcases hp a ha with ⟨b, hb, e⟩ | hge
  · rw [← e]; exact ((h.snap L0 j hs).tne b hb).1
  · have := heap_lt h.head; omega
theorem own_some {p : Option Addr} {n c g : Nat} (h : (Value.slice p n c).ownBlock = some g) : ∃ a, p = some a ∧ a.block = g := by
  cases p with
  | none => cases h
  | some a => exact ⟨a, rfl, Option.some.inj h⟩
/-- One round of Step: the item has been laid behind the others. -/
theorem take_cells {w wr wa w1 : World} {ζ : ZG} {L0 : SL} {j k : Nat} {p : Option Addr} {c : Nat} {row : Array Value} (h : IsZig w ζ) (hs : ζ.snap = some (L0, j))
    (hhd : wr.heap[ζ.bz]? = some (.cells row 71 (0, 0))) (hp : ∀ a, p = some a → (∃ b, ζ.tp = some b ∧ b.block = a.block) ∨ w.heap.size ≤ a.block)
    (hfa : Fr nothing wr wa) (hg : wa.grownBy w1 (Value.slice p (j + k) c).ownBlock) : w1.heap[ζ.bz]? = some (.cells row 71 (0, 0)) := by
  have h1 := (hfa.block _ (heap_lt hhd) nothing_not).trans hhd
  refine (hg.block _ (heap_lt h1) fun e => ?_).trans h1
  obtain ⟨a, ha, e2⟩ := own_some e.symm
  exact tp_ne_bz h hs hp ha e2
/-- .. and the field set. -/
theorem take_world {w wr wa w1 : World} {ζ : ZG} {L0 : SL} {j k : Nat} {p : Option Addr} {c g cap : Nat} {row : Array Value} (h : IsZig w ζ) (hs : ζ.snap = some (L0, j))
    (hhd : wr.heap[ζ.bz]? = some (.cells row 71 (0, 0))) (hp : ∀ a, p = some a → (∃ b, ζ.tp = some b ∧ b.block = a.block) ∨ w.heap.size ≤ a.block) (hfr : Fr (fun b => b = ζ.bz ∨ ∃ a, ζ.tp = some a ∧ b = a.block) w wr)
    (hfa : Fr nothing wr wa) (ho : w1.ownsRow 0 77 4 (.slice (some ⟨g, 0, none⟩) (j + k + 1) cap) (j + k + 1) (itemCells (L0.take (j + k + 1)))) (hg : wa.grownBy w1 (Value.slice p (j + k) c).ownBlock)
    (hat : (Value.slice p (j + k) c).ownBlock = some g ∨ g = wr.heap.size + 1) :
    (w1.setCell ⟨ζ.bz, 7, none⟩ (.slice (some ⟨g, 0, none⟩) (j + k + 1) cap)).heap[ζ.bz]? = some (.cells (row.setIfInBounds 7 (.slice (some ⟨g, 0, none⟩) (j + k + 1) cap)) 71 (0, 0))
    ∧ (w1.setCell ⟨ζ.bz, 7, none⟩ (.slice (some ⟨g, 0, none⟩) (j + k + 1) cap)).ownsRow 0 77 4 (.slice (some ⟨g, 0, none⟩) (j + (k + 1)) cap) (j + (k + 1)) (itemCells (L0.take (j + (k + 1))))
    ∧ (∀ a, some (⟨g, 0, none⟩ : Addr) = some a → (∃ b, ζ.tp = some b ∧ b.block = a.block) ∨ w.heap.size ≤ a.block)
    ∧ Fr (fun b => b = ζ.bz ∨ ∃ a, ζ.tp = some a ∧ b = a.block) w (w1.setCell ⟨ζ.bz, 7, none⟩ (.slice (some ⟨g, 0, none⟩) (j + k + 1) cap)) := by
  have h1 := take_cells h hs hhd hp hfa hg
  have hgp : ∀ a, some (⟨g, 0, none⟩ : Addr) = some a → (∃ b, ζ.tp = some b ∧ b.block = a.block) ∨ w.heap.size ≤ a.block := fun a ha => by
    injection ha with ha; subst ha
    rcases hat with e | e
    · obtain ⟨a, ha, e2⟩ := own_some e
      rcases hp a ha with ⟨b, hb, e3⟩ | hge
      · exact .inl ⟨b, hb, e3.trans e2⟩
      · right; dsimp only; omega
    · have := hfr.size; right; dsimp only; omega
  have hset := (Fr.refl (fun b => b = ζ.bz) w1).setCell (p := ⟨ζ.bz, 7, none⟩) (fun _ => rfl) (.slice (some ⟨g, 0, none⟩) (j + k + 1) cap)
  have hgne : g ≠ ζ.bz := tp_ne_bz h hs hgp rfl
  refine ⟨heap_set h1 7 _, ?_, hgp, ?_⟩
  · have := ownsRow_same (w' := w1.setCell ⟨ζ.bz, 7, none⟩ (.slice (some ⟨g, 0, none⟩) (j + k + 1) cap)) ho fun a ha => by
      injection ha with ha; subst ha
      have hl := (ho.lt g rfl).2
      exact hset.block g hl hgne
    exact this
  · refine ((hfr.next hfa fun _ _ e => e.elim).next (Fr.grown hg) fun i hi e => ?_).next hset fun i _ e => .inl e
    obtain ⟨a, ha, e2⟩ := own_some e
    rcases hp a ha with ⟨b, hb, e3⟩ | hge
    · exact .inr ⟨b, hb, by omega⟩
    · omega
theorem infoItem : (Tryd.prog.info? 77).map (fun i => (i.zero, i.size, i.bytes)) = some (some (.agg #[.string ⟨#[]⟩, .int .i64 0, .int .i64 0, .string ⟨#[]⟩]), 4, 48) := by kernel_rfl
theorem infoWrite : (Tryd.prog.info? 67).map (fun i => (i.zero, i.size, i.bytes)) = some (some (.agg #[.string ⟨#[]⟩, .bool false, .int .i64 0, .int .i64 0, .string ⟨#[]⟩]), 5, 56) := by kernel_rfl
end Go.Proofs.YtobccbakmcckiaaDoor
