/- ckpt.Zig: Bytes, Get, Bits, Copies, Rest, Drop. -/
import Derived.Test.YtobccbakmcckiaaDoorZig0
namespace Go.Proofs.YtobccbakmcckiaaDoor
open Go Go.RowKit

theorem IsZigX.cell {w : World} {ζ : ZG} {Ls : SL} (h : IsZigX w ζ Ls) (j : Nat) : w.cell? ⟨ζ.bz, j, none⟩ = ζ.row[j]? := cell_heap h.head j
theorem IsZigX.ccell {w : World} {ζ : ZG} {Ls : SL} (h : IsZigX w ζ Ls) {k : Key} {c : CC} (hc : lookM ζ.Cs k = some c) (j : Nat) : w.cell? ⟨c.blk, j, none⟩ = c.row[j]? := cell_heap (h.cells (k, c) (lookM_mem hc)) j
theorem IsZigX.drewN {w : World} {ζ : ZG} {Ls : SL} (h : IsZigX w ζ Ls) (n : Nat) : IsZigX (w.drewN n) ζ Ls := h.frame (Fr.draw w n nothing) fun _ _ => nothing_not
theorem IsZigX.alloc {w : World} {ζ : ZG} {Ls : SL} (h : IsZigX w ζ Ls) (o : Obj) : IsZigX (w.alloc o) ζ Ls := h.frame ((Fr.refl nothing w).alloc o) fun _ _ => nothing_not

set_option maxHeartbeats 400000 in
theorem zbytes_any (ζ : ZG) (w : World) (h : IsZig w ζ) (he : Env w) :
    Calls Tryd.prog 19 #[.pointer (some ⟨ζ.bz, 0, none⟩)] w fun e w' => ∃ p c n, e = .returned (.slice p n c) ∧ w'.ownsRow w.heap.size 5 1 (.slice p n c) n (Lib.byteCells (bytesOf ζ.σ.parts ζ.σ.room ζ.L)) ∧ Fr nothing w w' := by
  have c2 : w.cell? ⟨ζ.bz, 2, none⟩ = some (.pointer (some ⟨ζ.σ.bs, 0, none⟩)) := h.cell 2
  have hb := Lib.hid (bytes_any ζ.σ ζ.L w h.st he h.nums)
  clear h he
  go_enter Tryd.func19, Tryd.ntmps19
  go_wp2_with (go_at_call 28; refine hb.out.mono ?_; rintro e w' ⟨p, c, n, rfl, ho, hf⟩; have HO := Lib.hid ho; have HF := Lib.hid hf; clear ho hf)
  go_ret
  exact ⟨p, c, n, rfl, HO.out, HF.out⟩

def bitsOf (Cs : CL) (k : Key) : Nat × Nat := match lookM Cs k with | some c => (c.r, c.w) | none => (0, 0)
set_option maxHeartbeats 1000000 in
theorem bits_any (ζ : ZG) (k : Key) (w : World) (h : IsZig w ζ) (hk : k.length ≤ maxLen) :
    Calls Tryd.prog 25 #[.pointer (some ⟨ζ.bz, 0, none⟩), .string ⟨k.toArray⟩] w fun e w' => e = .returned (.tuple #[.int .i64 (bitsOf ζ.Cs k).1, .int .i64 (bitsOf ζ.Cs k).2]) ∧ ∃ n, w' = w.drewN n := by
  have c3 : w.cell? ⟨ζ.bz, 3, none⟩ = some (.map (some ζ.bm)) := h.cell 3
  have hl0 := look_ptr h.map k hk
  have hln := fun n => look_ptr (h.drewN n).map k hk
  unfold ptrOf at hl0 hln
  unfold bitsOf
  cases hc : lookM ζ.Cs k with
  | none =>
    simp only [hc] at hl0 hln
    clear hc h
    go_enter Tryd.func25, Tryd.ntmps25
    go_wp2
    go_ret2
    exact ⟨rfl, 0, rfl⟩
  | some c =>
    simp only [hc] at hl0 hln
    have d6 : w.cell? ⟨c.blk, 6, none⟩ = some (.int .i64 c.r) := h.ccell hc 6
    have d7 : w.cell? ⟨c.blk, 7, none⟩ = some (.int .i64 c.w) := h.ccell hc 7
    clear hc h
    go_enter Tryd.func25, Tryd.ntmps25
    go_wp2_with fail
    go_quiet (fail)
    go_wp2
    go_ret2
    exact ⟨rfl, _, rfl⟩

set_option maxHeartbeats 1000000 in
theorem zget_any (ζ : ZG) (k : Key) (w : World) (h : IsZig w ζ) (hk : k.length ≤ maxLen) :
    Calls Tryd.prog 18 #[.pointer (some ⟨ζ.bz, 0, none⟩), .string ⟨k.toArray⟩] w fun e w' => e = .returned (getV ζ.L k).enc ∧ Fr nothing w w' := by
  rw [← h.get k]
  have hbz : ζ.bz < w.heap.size := h.lt (.inl rfl)
  have c3 : w.cell? ⟨ζ.bz, 3, none⟩ = some (.map (some ζ.bm)) := h.cell 3
  have hl0 := look_ptr (h.alloc (.cells #[.int .i64 0, .int .i64 0, .string ⟨#[]⟩] 47)).map k hk
  unfold ptrOf at hl0
  unfold zget
  have hfr : ∀ o n, Fr nothing w ((w.alloc o).drewN n) := fun o n => ((Fr.refl _ _).alloc o).drewN n
  cases hc : lookM ζ.Cs k with
  | none =>
    simp only [hc] at hl0
    clear hc h
    go_enter Tryd.func18, Tryd.ntmps18
    go_wp2
    go_returns
    exact ⟨rfl, hfr _ 0⟩
  | some c =>
    simp only [hc] at hl0
    have hb := (h.bits (k, c) (lookM_mem hc)).1
    have d0 : w.cell? ⟨c.blk, 0, none⟩ = some (.int .i64 c.c0.kind) := h.ccell hc 0
    have d1 : w.cell? ⟨c.blk, 1, none⟩ = some (.int .i64 c.c0.num) := h.ccell hc 1
    have d2 : w.cell? ⟨c.blk, 2, none⟩ = some (.string ⟨c.c0.text.toArray⟩) := h.ccell hc 2
    have d3 : w.cell? ⟨c.blk, 3, none⟩ = some (.int .i64 c.c1.kind) := h.ccell hc 3
    have d4 : w.cell? ⟨c.blk, 4, none⟩ = some (.int .i64 c.c1.num) := h.ccell hc 4
    have d5 : w.cell? ⟨c.blk, 5, none⟩ = some (.string ⟨c.c1.text.toArray⟩) := h.ccell hc 5
    have d6 : w.cell? ⟨c.blk, 6, none⟩ = some (.int .i64 c.r) := h.ccell hc 6
    have hcb := cell_lt d0
    dsimp only at hcb hb
    clear hc h
    obtain ⟨blk, x, y, r, wr⟩ := c
    obtain ⟨x0, x1, x2⟩ := x
    obtain ⟨y0, y1, y2⟩ := y
    dsimp only at *
    by_cases hr : r = 0
    · subst hr
      simp only [SVal.enc, SVal.cells, SVal.str, CC.cur, if_true]
      go_enter Tryd.func18, Tryd.ntmps18
      go_wp2_with fail
      go_region
      go_wp2
      go_returns
      exact ⟨rfl, hfr _ 1⟩
    · obtain rfl : r = 1 := by omega
      simp only [SVal.enc, SVal.cells, SVal.str, CC.cur, Nat.one_ne_zero, if_false]
      go_enter Tryd.func18, Tryd.ntmps18
      go_wp2_with fail
      go_region
      go_wp2
      go_returns
      exact ⟨rfl, hfr _ 1⟩
end Go.Proofs.YtobccbakmcckiaaDoor
