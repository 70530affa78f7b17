/- ckpt.Zig: Step, the walk. -/
import Derived.Test.YtobccbakmcckiaaDoorZig8
import Derived.Deep.RegionLaw
import Derived.Deep.AppendLies
namespace Go.Proofs.YtobccbakmcckiaaDoor
open Go Go.RowKit

set_option maxRecDepth 100000 in
set_option maxHeartbeats 4000000 in
theorem step_go (ζ : ZG) (L0 : SL) (j m : Nat) (n : Int) (w : World) (h : IsZig w ζ) (hs : ζ.snap = some (L0, j)) (hn : 1 ≤ n) (hm : m ≤ ζ.ln) (hmin : min n (ζ.ln : Int) = (m : Int)) (hlen : L0.length ≤ 1000000) :
    Calls Tryd.prog 15 #[.pointer (some ⟨ζ.bz, 0, none⟩), .int .i64 n] w fun e w' => e = .returned (.int .i64 (m : Nat)) ∧ ∃ p c, ZStep w ζ w' (ζ.stepped L0 j m p c) := by
  have hsn := h.snap L0 j hs
  have hln := hsn.ln
  have hjle := hsn.jle
  have hcap := hsn.cap
  have c4 : w.cell? ⟨ζ.bz, 4, none⟩ = some (.bool true) := by rw [h.cell 4]; show some (Value.bool ζ.snap.isSome) = _; rw [hs]; rfl
  have c6 : w.cell? ⟨ζ.bz, 6, none⟩ = some (.slice ζ.lp ζ.ln ζ.lc) := h.cell 6
  have c7 : w.cell? ⟨ζ.bz, 7, none⟩ = some (.slice ζ.tp ζ.tn ζ.tc) := h.cell 7
  have hbz := heap_lt h.head
  obtain ⟨lq, hlq⟩ : ∃ q, q = ζ.lp := ⟨_, rfl⟩
  rw [← hlq] at c6
  have HLQ := Lib.hid hlq
  clear hlq
  have H := Lib.hid h
  have HSN := Lib.hid hsn
  have HS := Lib.hid hs
  have HLN := Lib.hid hln
  have HJLE := Lib.hid hjle
  have hmax : max (m : Int) 0 = (m : Int) := by omega
  have hm2 : (m : Int) ≤ (ζ.lc : Int) := by omega
  have htn := Lib.hid hsn.tn
  have hjm := Lib.hid (show j + m ≤ L0.length by omega)
  have hlcl := Lib.hid (show ζ.ln ≤ 1000000 by omega)
  clear h hsn hs hln hjle
  go_enter Tryd.func15, Tryd.ntmps15
  go_wp2_with fail
  go_loopw [35] (fun i wr => ∃ (k : Nat) (p : Option Addr) (c : Nat), i = .int .i64 k ∧ k ≤ m ∧ wr.heap[ζ.bz]? = some (.cells (ζ.row.setIfInBounds 7 (.slice p (j + k : Nat) c)) 71 (0, 0)) ∧
      wr.ownsRow 0 77 4 (.slice p (j + k) c) (j + k) (itemCells (L0.take (j + k))) ∧ (∀ a, p = some a → (∃ b, ζ.tp = some b ∧ b.block = a.block) ∨ w.heap.size ≤ a.block) ∧ Fr (fun b => b = ζ.bz ∨ ∃ a, ζ.tp = some a ∧ b = a.block) w wr) (fun i _ => m - (intOf i).toNat)
  case atStart =>
    refine ⟨0, ζ.tp, ζ.tc, rfl, Nat.zero_le _, ?_, ?_, fun a ha => .inl ⟨a, ha, rfl⟩, Fr.refl _ _⟩
    · rw [H.out.head]
      congr 2
      have := htn.out
      unfold ZG.row
      rw [this]; rfl
    · have := HSN.out.taken
      simpa using this
  case round =>
    obtain ⟨k, p, c, rfl, hk1, hhd, hown, hp, hfr⟩ := hrel
    have HHD := Lib.hid hhd
    have HOWN := Lib.hid hown
    have HP := Lib.hid hp
    have HFR := Lib.hid hfr
    have d3 : wr.cell? ⟨ζ.bz, 3, none⟩ = some (.map (some ζ.bm)) := cell_heap hhd 3
    have d6 : wr.cell? ⟨ζ.bz, 6, none⟩ = some (.slice lq ζ.ln ζ.lc) := by rw [HLQ.out]; exact cell_heap hhd 6
    have d7 : wr.cell? ⟨ζ.bz, 7, none⟩ = some (.slice p (j + k : Nat) c) := cell_heap hhd 7
    have f6 := frozen_heap hhd 6
    have f7 := frozen_heap hhd 7
    by_cases hlt : k < m
    · have hjk : j + k < L0.length := by have := hjm.out; omega
      have hnot : ∀ b, b ≠ ζ.bz → (∀ a, ζ.tp = some a → b ≠ a.block) → ¬ (b = ζ.bz ∨ ∃ a, ζ.tp = some a ∧ b = a.block) := fun b h1 h2 e => by
        rcases e with e | ⟨a, ha, e⟩
        · exact h1 e
        · exact h2 a ha e
      obtain ⟨b, o, hlp, hcell⟩ := (HSN.out.left.frame hfr fun a ha => hnot _ (HSN.out.lne a ha).1 fun b hb e => (HSN.out.tne b hb).2.2.2.2 a ha e).cell (k := k) (by simp [keysOf]; omega)
      rw [← HLQ.out] at hlp
      subst hlp
      have hkey : (keysOf (L0.drop j))[k]'(by simp [keysOf]; omega) = L0[j + k].1 := by simp [keysOf]
      rw [hkey] at hcell
      have hb := cell_lt hcell
      dsimp only at hb
      have hmem : L0[j + k] ∈ L0 := List.getElem_mem _
      obtain ⟨d, hd, hdf⟩ := HSN.out.froz _ hmem
      have hkl := validKey_max (HSN.out.keys _ hmem)
      have hdm := lookM_mem hd
      have hlk := look_ptr (H.out.map.kept (hfr.block _ H.out.map.lt (hnot _ (fun e => H.out.ap1 e.symm) fun a ha e => (HSN.out.tne a ha).2.1 e.symm))) L0[j + k].1 hkl
      unfold ptrOf at hlk
      rw [hd] at hlk
      dsimp only at hlk
      have hcb := (hfr.block _ (heap_lt (H.out.cells _ hdm)) (hnot _ (H.out.ap3 _ hdm).1 fun a ha => (HSN.out.tne a ha).2.2.2.1 _ hdm)).trans (H.out.cells _ hdm)
      dsimp only at hcb
      have g7 : wr.cell? ⟨d.blk, 7, none⟩ = some (.int .i64 d.w) := cell_heap hcb 7
      have hdw := (H.out.bits _ hdm).2
      dsimp only at hdw
      have hfz := froz_row hdw
      rw [hdf] at hfz
      have r0 := (cell_heap hcb ((1 - d.w) * 3)).trans hfz.1
      have r1 := (cell_heap hcb ((1 - d.w) * 3 + 1)).trans hfz.2.1
      have r2 := (cell_heap hcb ((1 - d.w) * 3 + 2)).trans hfz.2.2
      obtain ⟨i0, hi0, hz0, hz1, hz2⟩ := info_parts infoItem
      have hb1 : j + k + 1 ≤ maxLen := by unfold maxLen; omega
      have hb2 : (j + k + 1) * 48 ≤ 140737488355328 := by omega
      have hbz2 := heap_lt hhd
      have hdb := heap_lt hcb
      have hround : Hid (∀ {wa w1 : World} {g cap : Nat}, Fr nothing wr wa → w1.ownsRow 0 77 4 (.slice (some ⟨g, 0, none⟩) (j + k + 1) cap) (j + k + 1) (itemCells (L0.take (j + k)) ++ [.string ⟨L0[j + k].1.toArray⟩, .int .i64 L0[j + k].2.kind, .int .i64 L0[j + k].2.num, .string ⟨L0[j + k].2.text.toArray⟩]) → wa.grownBy w1 (Value.slice p (j + k) c).ownBlock →
          ((Value.slice p (j + k) c).ownBlock = some g ∨ g = wr.heap.size + 1) → ∃ (k' : Nat) (p' : Option Addr) (c' : Nat), Value.int .i64 ((k : Int) + 1) = .int .i64 k' ∧ k' ≤ m ∧ (w1.setCell ⟨ζ.bz, 7, none⟩ (.slice (some ⟨g, 0, none⟩) (j + k + 1) cap)).heap[ζ.bz]? = some (.cells (ζ.row.setIfInBounds 7 (.slice p' (j + k' : Nat) c')) 71 (0, 0)) ∧
            (w1.setCell ⟨ζ.bz, 7, none⟩ (.slice (some ⟨g, 0, none⟩) (j + k + 1) cap)).ownsRow 0 77 4 (.slice p' (j + k') c') (j + k') (itemCells (L0.take (j + k'))) ∧ (∀ a, p' = some a → (∃ b, ζ.tp = some b ∧ b.block = a.block) ∨ w.heap.size ≤ a.block) ∧ Fr (fun b => b = ζ.bz ∨ ∃ a, ζ.tp = some a ∧ b = a.block) w (w1.setCell ⟨ζ.bz, 7, none⟩ (.slice (some ⟨g, 0, none⟩) (j + k + 1) cap))) := by
        show ∀ {wa w1 : World} {g cap : Nat}, _
        intro wa w1 g cap h1 h2 h3 h4
        rw [← itemCells_succ hjk] at h2
        obtain ⟨t1, t2, t3, t4⟩ := take_world H.out HS.out HHD.out HP.out HFR.out h1 h2 h3 h4
        exact ⟨k + 1, _, cap, by go_num, hlt, t1, t2, t3, t4⟩
      clear hhd hown hp hfr hnot hkey hmem hkl hdm hcb hfz hd hdf
      have hwr1 : IntKind.i64.wrap 1 = 1 := by decide
      have hwr0 : IntKind.i64.wrap 0 = 0 := by decide
      by_cases hw0 : d.w = 0
      · rw [hw0] at g7 r0 r1 r2
        clear hw0
        change _ = some (Value.int .i64 0) at g7
        simp only [Nat.sub_zero, Nat.one_mul, Nat.reduceAdd] at r0 r1 r2
        go_wp2_with fail
        go_region_law ((refine step_append_lies _ (by rfl) _ _ _ (by rfl) 0 77 i0 _ 4 48 Tryd.underlying69 hi0 hz0 hz1 hz2 rfl (by decide) (.slice p (j + k : Nat) c) (j + k) (itemCells (L0.take (j + k))) (by rfl) ((HOWN.out.alloc _).drew) ⟨wr.heap.size, 0, none⟩ 1 1 [.string ⟨L0[j + k].1.toArray⟩, .int .i64 L0[j + k].2.kind, .int .i64 L0[j + k].2.num, .string ⟨L0[j + k].2.text.toArray⟩] (by rfl) (by rfl) (World.news_of_block (cs := #[.string ⟨L0[j + k].1.toArray⟩, .int .i64 L0[j + k].2.kind, .int .i64 L0[j + k].2.num, .string ⟨L0[j + k].2.text.toArray⟩]) (t := 77) (fr := (0, 0)) (heap_alloc_new wr _)) (by simp [Value.oneCell']) (by omega) hb1 hb2 (by simp) (wr.heap.size + 1) (by simp) ?_; intro g cap w1 hown1 hgrow hat hlt1; have hhd1 := take_cells H.out HS.out HHD.out HP.out (((Fr.refl nothing wr).alloc _).drewN 1) hgrow; have e7 : w1.cell? ⟨ζ.bz, 7, none⟩ = some (.slice p (j + k : Nat) c) := cell_heap hhd1 7; have k7 := frozen_heap hhd1 7; have HRL := Lib.hid (hround.out (((Fr.refl nothing wr).alloc _).drewN 1) hown1 hgrow hat); clear hown1 hgrow hat hhd1))
        all_goals go_wp2
        all_goals (go_roundw; (case rel => exact HRL.out); (case measure => simp [intOf]; omega))
      · obtain hw1 : d.w = 1 := by omega
        rw [hw1] at g7 r0 r1 r2
        clear hw0 hw1
        change _ = some (Value.int .i64 1) at g7
        simp only [Nat.sub_self, Nat.zero_mul, Nat.zero_add] at r0 r1 r2
        go_wp2_with fail
        go_region_law ((refine step_append_lies _ (by rfl) _ _ _ (by rfl) 0 77 i0 _ 4 48 Tryd.underlying69 hi0 hz0 hz1 hz2 rfl (by decide) (.slice p (j + k : Nat) c) (j + k) (itemCells (L0.take (j + k))) (by rfl) ((HOWN.out.alloc _).drew) ⟨wr.heap.size, 0, none⟩ 1 1 [.string ⟨L0[j + k].1.toArray⟩, .int .i64 L0[j + k].2.kind, .int .i64 L0[j + k].2.num, .string ⟨L0[j + k].2.text.toArray⟩] (by rfl) (by rfl) (World.news_of_block (cs := #[.string ⟨L0[j + k].1.toArray⟩, .int .i64 L0[j + k].2.kind, .int .i64 L0[j + k].2.num, .string ⟨L0[j + k].2.text.toArray⟩]) (t := 77) (fr := (0, 0)) (heap_alloc_new wr _)) (by simp [Value.oneCell']) (by omega) hb1 hb2 (by simp) (wr.heap.size + 1) (by simp) ?_; intro g cap w1 hown1 hgrow hat hlt1; have hhd1 := take_cells H.out HS.out HHD.out HP.out (((Fr.refl nothing wr).alloc _).drewN 1) hgrow; have e7 : w1.cell? ⟨ζ.bz, 7, none⟩ = some (.slice p (j + k : Nat) c) := cell_heap hhd1 7; have k7 := frozen_heap hhd1 7; have HRL := Lib.hid (hround.out (((Fr.refl nothing wr).alloc _).drewN 1) hown1 hgrow hat); clear hown1 hgrow hat hhd1))
        all_goals go_wp2
        all_goals (go_roundw; (case rel => exact HRL.out); (case measure => simp [intOf]; omega))
    · obtain rfl : k = m := by omega
      have hfin : Hid (∀ v, v = Value.slice (lcut lq k ζ.lc) (ζ.ln - k) (ζ.lc - k) → ZStep w ζ (wr.setCell ⟨ζ.bz, 6, none⟩ v) (ζ.stepped L0 j k p c)) := fun v hv => by
        rw [HLQ.out] at hv
        subst hv
        have hset := (Fr.refl (fun b => b = ζ.bz) wr).setCell (p := ⟨ζ.bz, 6, none⟩) (fun _ => rfl) (.slice (lcut ζ.lp k ζ.lc) (ζ.ln - k) (ζ.lc - k))
        have hF := HFR.out.next hset fun i _ e => .inl e
        refine ⟨H.out.stepped HS.out hjm.out hF ?_ ?_ HP.out, rfl, rfl, hF.mono fun b _ e => ?_, fun b hb => fp_stepped HS.out HP.out hb⟩
        · rw [heap_set HHD.out 6 _]
          have e1 : (ζ.snap.isSome) = true := by rw [HS.out]; rfl
          unfold ZG.row
          dsimp only
          rw [e1]; rfl
        · refine ownsRow_same HOWN.out fun a ha => hset.block _ (HOWN.out.lt a.block (by rw [ha]; rfl)).2 (tp_ne_bz H.out HS.out HP.out ha)
        · rcases e with e | ⟨a, ha, e⟩
          · exact .inl e
          · exact .inr (.inr (.inr (.inr ⟨by rw [HS.out]; rfl, .inr ⟨a, ha, e⟩⟩)))
      clear hhd hown hp hfr
      go_wp2
      all_goals go_ret
      all_goals exact ⟨rfl, p, c, hfin.out _ (by unfold lcut; simp [*])⟩
end Go.Proofs.YtobccbakmcckiaaDoor
