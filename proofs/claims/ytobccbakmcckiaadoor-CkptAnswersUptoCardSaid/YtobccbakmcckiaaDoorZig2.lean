/- ckpt.Zig: Copies, Rest, Drop, New. -/
import Derived.Test.YtobccbakmcckiaaDoorZig1
namespace Go.Proofs.YtobccbakmcckiaaDoor
open Go Go.RowKit

def copiesOf (Cs : CL) (k : Key) : SVal × SVal := match lookM Cs k with | some c => (c.c0, c.c1) | none => (SVal.zero, SVal.zero)
def zvBox : Obj := .cells #[.int .i64 0, .int .i64 0, .string ⟨#[]⟩] 47

set_option maxHeartbeats 1000000 in
theorem copies_any (ζ : ZG) (k : Key) (w : World) (h : IsZig w ζ) (hk : k.length ≤ maxLen) :
    Calls Tryd.prog 36 #[.pointer (some ⟨ζ.bz, 0, none⟩), .string ⟨k.toArray⟩] w fun e w' => e = .returned (.tuple #[(copiesOf ζ.Cs k).1.enc, (copiesOf ζ.Cs k).2.enc]) ∧ Fr nothing w w' := by
  have hbz : ζ.bz < w.heap.size := h.lt (.inl rfl)
  have c3 : w.cell? ⟨ζ.bz, 3, none⟩ = some (.map (some ζ.bm)) := h.cell 3
  have hl0 := look_ptr ((h.alloc zvBox).alloc zvBox).map k hk
  unfold zvBox at hl0
  unfold ptrOf at hl0
  unfold copiesOf
  have hfr : ∀ o o' n, Fr nothing w (((w.alloc o).alloc o').drewN n) := fun o o' n => (((Fr.refl _ _).alloc o).alloc o').drewN n
  cases hc : lookM ζ.Cs k with
  | none =>
    simp only [hc] at hl0
    clear hc h
    go_enter Tryd.func36, Tryd.ntmps36
    go_wp2
    go_returns
    exact ⟨rfl, hfr _ _ 0⟩
  | some c =>
    simp only [hc] at hl0
    have d0 : w.cell? ⟨c.blk, 0, none⟩ = some (.int .i64 c.c0.kind) := h.ccell hc 0
    have d1 : w.cell? ⟨c.blk, 1, none⟩ = some (.int .i64 c.c0.num) := h.ccell hc 1
    have d2 : w.cell? ⟨c.blk, 2, none⟩ = some (.string ⟨c.c0.text.toArray⟩) := h.ccell hc 2
    have d3 : w.cell? ⟨c.blk, 3, none⟩ = some (.int .i64 c.c1.kind) := h.ccell hc 3
    have d4 : w.cell? ⟨c.blk, 4, none⟩ = some (.int .i64 c.c1.num) := h.ccell hc 4
    have d5 : w.cell? ⟨c.blk, 5, none⟩ = some (.string ⟨c.c1.text.toArray⟩) := h.ccell hc 5
    have hcb := cell_lt d0
    dsimp only at hcb
    clear hc h
    obtain ⟨blk, x, y, r, wr⟩ := c
    obtain ⟨x0, x1, x2⟩ := x
    obtain ⟨y0, y1, y2⟩ := y
    dsimp only at *
    simp only [SVal.enc, SVal.cells, SVal.str]
    go_enter Tryd.func36, Tryd.ntmps36
    go_wp2_with fail
    go_region
    all_goals go_wp2
    all_goals go_returns
    all_goals exact ⟨rfl, hfr _ _ 1⟩

set_option maxHeartbeats 1000000 in
theorem rest_any (ζ : ZG) (w : World) (h : IsZig w ζ) :
    Calls Tryd.prog 29 #[.pointer (some ⟨ζ.bz, 0, none⟩)] w fun e w' => e = .returned (.int .i64 (match ζ.snap with | some (L0, j) => ((L0.length - j : Nat) : Int) | none => 0)) ∧ w = w' := by
  have c4 : w.cell? ⟨ζ.bz, 4, none⟩ = some (.bool ζ.snap.isSome) := h.cell 4
  have c6 : w.cell? ⟨ζ.bz, 6, none⟩ = some (.slice ζ.lp ζ.ln ζ.lc) := h.cell 6
  cases hs : ζ.snap with
  | none =>
    simp only [hs, Option.isSome_none] at c4
    clear h hs
    go_enter Tryd.func29, Tryd.ntmps29
    go_wp2
    go_ret
    exact ⟨rfl, rfl⟩
  | some x =>
    obtain ⟨L0, j⟩ := x
    have hln := (h.snap L0 j hs).ln
    rw [hln] at c6
    simp only [hs, Option.isSome_some] at c4
    clear h hs hln
    go_enter Tryd.func29, Tryd.ntmps29
    go_wp2
    go_ret
    exact ⟨rfl, rfl⟩

/-- The struct's cells turned; the rest as it was. -/
theorem IsZigX.turn {w w' : World} {ζ ζ' : ZG} (h : IsZigX w ζ ζ.L) (hf : Fr (fun k => k = ζ.bz) w w') (hbz : ζ'.bz = ζ.bz) (hbm : ζ'.bm = ζ.bm) (hσ : ζ'.σ = ζ.σ) (hL : ζ'.L = ζ.L) (hC : ζ'.Cs = ζ.Cs)
    (hhead : w'.heap[ζ.bz]? = some (.cells ζ'.row 71 (0, 0))) (hs : ∀ L0 j, ζ'.snap = some (L0, j) → SnapOK w' ζ' L0 j) : IsZig w' ζ' where
  head := by rw [hbz]; exact hhead
  st := by rw [hσ, hL]; exact h.st.frame hf fun k hk e => h.ap2.1 (e ▸ hk)
  map := by rw [hbm, hC]; exact h.map.kept (hf.block _ h.map.lt fun e => h.ap1 e.symm)
  cells p hp := by rw [hC] at hp; exact (hf.block _ (heap_lt (h.cells p hp)) fun e => (h.ap3 p hp).1 e).trans (h.cells p hp)
  keys := by rw [hC, hL]; exact h.keys
  bits := by rw [hC]; exact h.bits
  cur := by rw [hC, hL]; exact h.cur
  nums := by rw [hL]; exact h.nums
  ap1 := by rw [hbz, hbm]; exact h.ap1
  ap2 := by rw [hbz, hbm, hσ]; exact h.ap2
  ap3 := by rw [hbz, hbm, hσ, hC]; exact h.ap3
  ap4 := by rw [hC]; exact h.ap4
  snap := hs

set_option maxHeartbeats 1000000 in
theorem drop_any (ζ : ZG) (w : World) (h : IsZig w ζ) :
    Calls Tryd.prog 17 #[.pointer (some ⟨ζ.bz, 0, none⟩)] w fun e w' => e = .returned (.bool ζ.snap.isSome) ∧ ∃ ζ', ZStep w ζ w' ζ' ∧ ζ'.L = ζ.L ∧ ζ'.Cs = ζ.Cs ∧ ζ'.snap = none := by
  have c4 : w.cell? ⟨ζ.bz, 4, none⟩ = some (.bool ζ.snap.isSome) := h.cell 4
  have c6 : w.cell? ⟨ζ.bz, 6, none⟩ = some (.slice ζ.lp ζ.ln ζ.lc) := h.cell 6
  have f4 := frozen_heap h.head 4
  have f6 := frozen_heap h.head 6
  cases hs : ζ.snap with
  | none =>
    have hz : ∃ ζ', ZStep w ζ w ζ' ∧ ζ'.L = ζ.L ∧ ζ'.Cs = ζ.Cs ∧ ζ'.snap = none := ⟨ζ, ⟨h, rfl, rfl, Fr.refl _ _, fun k hk => .inl hk⟩, rfl, rfl, hs⟩
    have HZ := Lib.hid hz
    simp only [hs, Option.isSome_none] at c4
    clear h hs hz
    go_enter Tryd.func17, Tryd.ntmps17
    go_wp2
    go_ret
    exact ⟨rfl, HZ.out⟩
  | some x =>
    have hfin : ∀ w', Fr (fun k => k = ζ.bz) w w' → w'.heap[ζ.bz]? = some (.cells ({ ζ with snap := none, lp := none, ln := 0, lc := 0 } : ZG).row 71 (0, 0)) → ∃ ζ', ZStep w ζ w' ζ' ∧ ζ'.L = ζ.L ∧ ζ'.Cs = ζ.Cs ∧ ζ'.snap = none := fun w' hf hh => by
      refine ⟨{ ζ with snap := none, lp := none, ln := 0, lc := 0 }, ⟨h.turn hf rfl rfl rfl rfl rfl hh (fun L0 j e => by cases e), rfl, rfl, hf.mono fun k _ e => .inl e, fun k hk => .inl ?_⟩, rfl, rfl, rfl⟩
      rcases hk with hk | hk | hk | hk | ⟨hk, _⟩
      · exact .inl hk
      · exact .inr (.inl hk)
      · exact .inr (.inr (.inl hk))
      · exact .inr (.inr (.inr (.inl hk)))
      · cases hk
    have HF := Lib.hid hfin
    have hh := h.head
    have hset : Hid (((w.setCell ⟨ζ.bz, 4, none⟩ (.bool false)).setCell ⟨ζ.bz, 6, none⟩ (.slice none 0 0)).heap[ζ.bz]? = some (.cells ({ ζ with snap := none, lp := none, ln := 0, lc := 0 } : ZG).row 71 (0, 0))) := by
      show _ = _
      rw [heap_set (heap_set hh 4 _) 6 _]
      rfl
    have hfr : Hid (Fr (fun k => k = ζ.bz) w ((w.setCell ⟨ζ.bz, 4, none⟩ (.bool false)).setCell ⟨ζ.bz, 6, none⟩ (.slice none 0 0))) := Lib.hid (((Fr.refl (fun k => k = ζ.bz) w).setCell (fun _ => rfl) _).setCell (fun _ => rfl) _)
    simp only [hs, Option.isSome_some] at c4
    clear h hs hh hfin
    go_enter Tryd.func17, Tryd.ntmps17
    go_wp2
    go_ret
    exact ⟨rfl, HF.out _ hfr.out hset.out⟩

set_option maxHeartbeats 1000000 in
theorem znew_bad (parts room : Int) (w : World) (h : newBad parts room = true) :
    Calls Tryd.prog 9 #[.int .i64 parts, .int .i64 room] w fun e w' => e = .returned (.tuple #[.pointer none, .int .i64 2]) ∧ w = w' := by
  have hn := Lib.hid (new_bad parts room w h)
  clear h
  go_enter Tryd.func9, Tryd.ntmps9
  go_wp2_with (go_at_call 20; refine hn.out.mono ?_; rintro e w' ⟨rfl, rfl⟩)
  go_ret2
  exact ⟨rfl, rfl⟩

set_option maxHeartbeats 1000000 in
theorem znew_any (P room : Nat) (w : World) (h1 : 1 ≤ P) (h2 : P ≤ 64) (h3 : 1 ≤ room) (h4 : room ≤ 4096) :
    Calls Tryd.prog 9 #[.int .i64 P, .int .i64 room] w fun e w' => ∃ ζ : ZG, e = .returned (.tuple #[.pointer (some ⟨ζ.bz, 0, none⟩), .int .i64 0]) ∧ ζ.σ.parts = P ∧ ζ.σ.room = room ∧ ζ.L = [] ∧ ζ.Cs = [] ∧ ζ.snap = none ∧ IsZig w' ζ ∧ Fr nothing w w' ∧ (∀ k, ζ.fp k → w.heap.size ≤ k) := by
  have hn := Lib.hid (new_any P room w h1 h2 h3 h4)
  have hmm := @run_makeMap Tryd.prog
  clear h1 h2 h3 h4
  go_enter Tryd.func9, Tryd.ntmps9
  go_wp2_with (go_at_call 20; refine hn.out.mono ?_; rintro e w1 ⟨σ, rfl, e1, e2, hst, hf, hlo⟩; have E1 := Lib.hid e1; have E2 := Lib.hid e2; have HS := Lib.hid hst; have HF := Lib.hid hf; have HLO := Lib.hid hlo; clear e1 e2 hst hf hlo)
  go_ret2
  have hall : ∀ k, σ.all k → k < w1.heap.size := fun k hk => HS.out.lt hk
  have hsz := HF.out.size
  have hz : (w1.alloc (.map #[] 0)).heap.size = w1.heap.size + 1 := by simp
  refine ⟨{ bz := w1.heap.size + 1, bm := w1.heap.size, σ := σ, L := [], Cs := [], snap := none, mark := 0, lp := none, ln := 0, lc := 0, tp := none, tn := 0, tc := 0 }, rfl, E1.out, E2.out, rfl, rfl, rfl, ?_, (HF.out.alloc _).alloc _, ?_⟩
  · exact {
      head := by
        have := heap_alloc_new (w1.alloc (.map #[] 0)) (.cells #[.int .i64 P, .int .i64 room, .pointer (some ⟨σ.bs, 0, none⟩), .map (some w1.heap.size), .bool false, .int .i64 0, .slice none 0 0, .slice none 0 0] 71)
        rw [hz] at this
        unfold ZG.row
        dsimp only
        rw [E1.out, E2.out]
        exact this
      st := HS.out.frame (((Fr.refl nothing w1).alloc _).alloc _) fun _ _ => nothing_not
      map := (MapAt.made w1).kept (Below.heap_alloc _ _ _ (by simp))
      cells := fun p hp => by cases hp
      keys := rfl
      bits := fun p hp => by cases hp
      cur := fun p hp => by cases hp
      nums := fun p hp => by cases hp
      ap1 := by dsimp only; omega
      ap2 := ⟨fun hk => by have := hall _ hk; dsimp only at this; omega, fun hk => by have := hall _ hk; dsimp only at this; omega⟩
      ap3 := fun p hp => by cases hp
      ap4 := fun p hp => by cases hp
      snap := fun L0 j e => by cases e }
  · rintro k (rfl | rfl | hk | ⟨p, hp, rfl⟩ | ⟨hk, _⟩)
    · dsimp only; omega
    · dsimp only; omega
    · exact HLO.out k hk
    · cases hp
    · cases hk
end Go.Proofs.YtobccbakmcckiaaDoor
