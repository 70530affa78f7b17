/- ckpt.Zig: Apply, the walk. -/
import Derived.Test.YtobccbakmcckiaaDoorZig4
namespace Go.Proofs.YtobccbakmcckiaaDoor
open Go Go.RowKit

theorem put_row0 {c : CC} {v : SVal} (h : c.w = 0) : (c.put v).row = ((((c.row.setIfInBounds 0 (.int .i64 v.kind)).setIfInBounds 1 (.int .i64 v.num)).setIfInBounds 2 (.string ⟨v.text.toArray⟩)).setIfInBounds 6 (.int .i64 0)) := by unfold CC.put; rw [if_pos h]; rfl
theorem put_row1 {c : CC} {v : SVal} (h : ¬ c.w = 0) : (c.put v).row = ((((c.row.setIfInBounds 3 (.int .i64 v.kind)).setIfInBounds 4 (.int .i64 v.num)).setIfInBounds 5 (.string ⟨v.text.toArray⟩)).setIfInBounds 6 (.int .i64 1)) := by unfold CC.put; rw [if_neg h]; rfl

/-- The four stores of a round. -/
theorem put_world {w : World} {c : CC} {v : SVal} (hb : w.heap[c.blk]? = some (.cells c.row 75 (0, 0))) (X : Obj) {a0 a1 a2 : Nat} {r : Int}
    (hr : (c.put v).row = ((((c.row.setIfInBounds a0 (.int .i64 v.kind)).setIfInBounds a1 (.int .i64 v.num)).setIfInBounds a2 (.string ⟨v.text.toArray⟩)).setIfInBounds 6 (.int .i64 r))) :
    Fr (fun b => b = c.blk) w (((((w.setCell ⟨c.blk, a0, none⟩ (.int .i64 v.kind)).setCell ⟨c.blk, a1, none⟩ (.int .i64 v.num)).setCell ⟨c.blk, a2, none⟩ (.string ⟨v.text.toArray⟩)).setCell ⟨c.blk, 6, none⟩ (.int .i64 r)).alloc X).drew.drew
      ∧ (((((w.setCell ⟨c.blk, a0, none⟩ (.int .i64 v.kind)).setCell ⟨c.blk, a1, none⟩ (.int .i64 v.num)).setCell ⟨c.blk, a2, none⟩ (.string ⟨v.text.toArray⟩)).setCell ⟨c.blk, 6, none⟩ (.int .i64 r)).alloc X).drew.drew.heap[c.blk]? = some (.cells (c.put v).row 75 (0, 0)) := by
  have h4 := heap_set (heap_set (heap_set (heap_set hb a0 (.int .i64 v.kind)) a1 (.int .i64 v.num)) a2 (.string ⟨v.text.toArray⟩)) 6 (.int .i64 r)
  rw [← hr] at h4
  have hf := (((((Fr.refl (fun b => b = c.blk) w).setCell (p := ⟨c.blk, a0, none⟩) (fun _ => rfl) (.int .i64 v.kind)).setCell (p := ⟨c.blk, a1, none⟩) (fun _ => rfl) (.int .i64 v.num)).setCell (p := ⟨c.blk, a2, none⟩) (fun _ => rfl) (.string ⟨v.text.toArray⟩)).setCell (p := ⟨c.blk, 6, none⟩) (fun _ => rfl) (.int .i64 r))
  generalize (((w.setCell ⟨c.blk, a0, none⟩ (.int .i64 v.kind)).setCell ⟨c.blk, a1, none⟩ (.int .i64 v.num)).setCell ⟨c.blk, a2, none⟩ (.string ⟨v.text.toArray⟩)).setCell ⟨c.blk, 6, none⟩ (.int .i64 r) = W at h4 hf
  refine ⟨((hf.alloc X).drewN 1).drewN 1, ?_⟩
  exact (((((Fr.refl nothing W).alloc X).drewN 1).drewN 1).block _ (heap_lt h4) nothing_not).trans h4

set_option maxRecDepth 100000 in
set_option maxHeartbeats 4000000 in
theorem zapply_any (ζ : ZG) (p : Option Addr) (cap : Nat) (ws : List SWr) (w : World) (h : IsZig w ζ) (hw : WrsAt w p ws) (hn : ws.length ≤ 1000000) (hk : ∀ x ∈ ws, (x.key.length ≤ maxLen ∧ x.val.text.length ≤ maxLen) ∧ i64 x.val.num) (hd : ∀ a, p = some a → ¬ ζ.fp a.block) :
    Calls Tryd.prog 13 #[.pointer (some ⟨ζ.bz, 0, none⟩), .slice p ws.length cap] w fun e w' => e = .returned (.int .i64 (applyE ζ.L ws)) ∧ ∃ ζ', ZStep w ζ w' ζ' ∧ ζ'.L = applyTo ζ.L ws ∧ ζ'.snap = ζ.snap ∧ ζ'.mark = ζ.mark ∧ Keep ζ.Cs ζ'.Cs := by
  have c2 : w.cell? ⟨ζ.bz, 2, none⟩ = some (.pointer (some ⟨ζ.σ.bs, 0, none⟩)) := h.cell 2
  have hcl := Lib.hid (apply_any ζ.σ ζ.L p cap ws w h.st hw hn (fun x hx => (hk x hx).1) (fun a ha hb => hd a ha (.inr (.inr (.inl (.inr (.inr hb)))))))
  have H := Lib.hid h; clear h
  have HW := Lib.hid hw; clear hw
  have HK := Lib.hid hk; clear hk
  have hmf : Hid (∀ b, ζ.σ.maps b → ζ.fp b) := fun b hb => .inr (.inr (.inl (.inr (.inr hb))))
  by_cases hE : applyE ζ.L ws = 0
  · have hcl2 := Lib.hid (hcl.out.mono (R' := fun e w' => e = .returned (.int .i64 0) ∧ IsStore w' ζ.σ (applyL ζ.L ws) ∧ Fr ζ.σ.maps w w') fun e w' ⟨h1, h2, h3⟩ => ⟨by rw [h1, hE], by have := h2; unfold applyTo at this; rwa [if_pos hE] at this, h3⟩)
    have HE := Lib.hid hE
    have hall := Lib.hid (may_all (show mayFrom ζ.L none ws = 0 from hE))
    clear hcl hE
    go_enter Tryd.func13, Tryd.ntmps13
    go_wp2_with (go_at_call 27; refine hcl2.out.mono ?_; rintro e w1 ⟨rfl, hst, hf⟩; have HST := Lib.hid hst; have HF := Lib.hid hf; clear hst hf)
    have hz1 := Lib.hid (H.out.restore HF.out HST.out)
    go_loopw [22] (fun i wr => ∃ (k : Nat) (ζk : ZG), i = .int .i64 k ∧ k ≤ ws.length ∧ IsZigX wr ζk (applyL ζ.L ws) ∧ ζk.bz = ζ.bz ∧ ζk.bm = ζ.bm ∧ ζk.σ = ζ.σ ∧ ζk.L = applyL ζ.L (ws.take k) ∧ ζk.snap = ζ.snap ∧ ζk.mark = ζ.mark ∧ Keep ζ.Cs ζk.Cs ∧ Fr ζ.fp w wr ∧ ∀ b, ζk.fp b → ζ.fp b) (fun i _ => ws.length - (intOf i).toNat)
    case atStart => exact ⟨0, ζ, rfl, Nat.zero_le _, hz1.out, rfl, rfl, rfl, rfl, rfl, rfl, Keep.refl _, HF.out.mono fun b _ hb => hmf.out b hb, fun b hb => hb⟩
    case round =>
      obtain ⟨k, ζk, rfl, hk1, hz, e1, e2, e3, e4, e5, e6, hkeep, hfr, hfp⟩ := hrel
      have HZ := Lib.hid hz; clear hz
      have HKP := Lib.hid hkeep; clear hkeep
      have HFR := Lib.hid hfr; clear hfr
      have HFP := Lib.hid hfp; clear hfp
      have E1 := Lib.hid e1
      have E2 := Lib.hid e2
      have E3 := Lib.hid e3
      have E4 := Lib.hid e4
      have E5 := Lib.hid e5
      have E6 := Lib.hid e6
      by_cases hlt : k < ws.length
      · obtain ⟨b, o, rfl, a0, a1, a2, a3, a4⟩ := (HW.out.frame HFR.out hd).cell hlt
        have hb := cell_lt a0
        dsimp only at hb
        have hkx := HK.out _ (List.getElem_mem hlt)
        have hx := hall.out _ (List.getElem_mem hlt)
        have hsucc := Lib.hid (applyL_succ ζ.L ws k hlt)
        have HRK : Hid (RisM ζk.L) := by show RisM ζk.L; rw [e4]; exact ris_applyL H.out.st.ris _
        have hcl : claimed ζk.L ws[k].key = true := by
          rw [e4, claimed_applyL H.out.st.ris (fun y hy => (hall.out y (List.mem_of_mem_take hy)).2.1)]
          exact hx.2.1
        obtain ⟨c, hc⟩ : ∃ c, lookM ζk.Cs ws[k].key = some c := by
          have := look_some_iff HZ.out.keys ws[k].key
          unfold claimed at hcl
          rw [hcl] at this
          exact Option.isSome_iff_exists.1 this
        have HC := Lib.hid hc
        have d3 : wr.cell? ⟨ζ.bz, 3, none⟩ = some (.map (some ζ.bm)) := by rw [← e1, ← e2]; exact HZ.out.cell 3
        have hbz : ζ.bz < wr.heap.size := by rw [← e1]; exact HZ.out.lt (.inl rfl)
        obtain ⟨X, hX⟩ : ∃ X : Obj, X = .cells #[.string ⟨ws[k].key.toArray⟩, .bool ws[k].gone, .int .i64 ws[k].val.kind, .int .i64 ws[k].val.num, .string ⟨ws[k].val.text.toArray⟩] 67 := ⟨_, rfl⟩
        have hlk := look_ptr ((HZ.out.alloc X).drewN 1).map ws[k].key hkx.1.1
        rw [e2, show (wr.alloc X).drewN 1 = (wr.alloc X).drew from rfl] at hlk
        unfold ptrOf at hlk
        rw [hc] at hlk
        dsimp only at hlk
        have hbits := HZ.out.bits _ (lookM_mem hc)
        dsimp only at hbits
        have hcb : wr.heap[c.blk]? = some (.cells c.row 75 (0, 0)) := HZ.out.cells _ (lookM_mem hc)
        have hcs := heap_lt hcb
        have g7 : wr.cell? ⟨c.blk, 7, none⟩ = some (.int .i64 c.w) := cell_heap hcb 7
        have f0 := frozen_heap hcb 0
        have f1 := frozen_heap hcb 1
        have f2 := frozen_heap hcb 2
        have f3 := frozen_heap hcb 3
        have f4 := frozen_heap hcb 4
        have f5 := frozen_heap hcb 5
        have f6 := frozen_heap hcb 6
        have g0 : wr.cell? ⟨c.blk, 0, none⟩ = some (.int .i64 c.c0.kind) := cell_heap hcb 0
        have g1 : wr.cell? ⟨c.blk, 1, none⟩ = some (.int .i64 c.c0.num) := cell_heap hcb 1
        have g2 : wr.cell? ⟨c.blk, 2, none⟩ = some (.string ⟨c.c0.text.toArray⟩) := cell_heap hcb 2
        have g3 : wr.cell? ⟨c.blk, 3, none⟩ = some (.int .i64 c.c1.kind) := cell_heap hcb 3
        have g4 : wr.cell? ⟨c.blk, 4, none⟩ = some (.int .i64 c.c1.num) := cell_heap hcb 4
        have g5 : wr.cell? ⟨c.blk, 5, none⟩ = some (.string ⟨c.c1.text.toArray⟩) := cell_heap hcb 5
        have g6 : wr.cell? ⟨c.blk, 6, none⟩ = some (.int .i64 c.r) := cell_heap hcb 6
        have hfin : Hid (∀ w', Fr (fun b => b = c.blk) wr w' → w'.heap[c.blk]? = some (.cells (c.put ws[k].val).row 75 (0, 0)) → IsZigX w' (ζk.set ws[k]) (applyL ζ.L ws) ∧ Fr ζ.fp w w') := fun w' hf hb => by
          refine ⟨HZ.out.setCell HRK.out HC.out hkx.2 hf hb, HFR.out.next hf fun i _ e => ?_⟩
          rw [e]
          exact HFP.out _ (.inr (.inr (.inr (.inl ⟨_, lookM_mem HC.out, rfl⟩))))
        have hrel : Hid (∀ w', Fr (fun b => b = c.blk) wr w' → w'.heap[c.blk]? = some (.cells (c.put ws[k].val).row 75 (0, 0)) → ∃ (k' : Nat) (ζ' : ZG), Value.int .i64 ((k : Int) + 1) = .int .i64 k' ∧ k' ≤ ws.length ∧ IsZigX w' ζ' (applyL ζ.L ws) ∧ ζ'.bz = ζ.bz ∧ ζ'.bm = ζ.bm ∧ ζ'.σ = ζ.σ ∧ ζ'.L = applyL ζ.L (ws.take k') ∧ ζ'.snap = ζ.snap ∧ ζ'.mark = ζ.mark ∧ Keep ζ.Cs ζ'.Cs ∧ Fr ζ.fp w w' ∧ ∀ b, ζ'.fp b → ζ.fp b) := fun w' hf hb => by
          obtain ⟨h1, h2⟩ := hfin.out w' hf hb
          refine ⟨k + 1, ζk.set ws[k], by go_num, by omega, h1, E1.out, E2.out, E3.out, ?_, E5.out, E6.out, HKP.out.trans (Keep.upd _ _ _), h2, fun b hb => HFP.out b (fp_set hb)⟩
          rw [hsucc.out, ← E4.out]
        have HCB := Lib.hid hcb
        clear e1 e2 e3 e4 e5 e6 hkx hx hcl hc hfin hcb
        subst hX
        by_cases hw0 : c.w = 0
        · have HW0 := Lib.hid hw0
          rw [hw0] at g7
          have hset := Lib.hid (put_world HCB.out (.cells #[.string ⟨ws[k].key.toArray⟩, .bool ws[k].gone, .int .i64 ws[k].val.kind, .int .i64 ws[k].val.num, .string ⟨ws[k].val.text.toArray⟩] 67) (put_row0 (v := ws[k].val) HW0.out))
          clear hw0
          go_wp2_with fail
          go_region
          go_wp2_with fail
          go_region
          go_wp2
          go_roundw
          case rel => exact hrel.out _ hset.out.1 hset.out.2
          case measure => simp [intOf]; omega
        · obtain hw1 : c.w = 1 := by omega
          have HW0 := Lib.hid hw0
          rw [hw1] at g7
          clear hw1
          have hset := Lib.hid (put_world HCB.out (.cells #[.string ⟨ws[k].key.toArray⟩, .bool ws[k].gone, .int .i64 ws[k].val.kind, .int .i64 ws[k].val.num, .string ⟨ws[k].val.text.toArray⟩] 67) (put_row1 (v := ws[k].val) HW0.out))
          clear hw0
          go_wp2_with fail
          go_region
          go_wp2_with fail
          go_region
          go_wp2
          go_roundw
          case rel => exact hrel.out _ hset.out.1 hset.out.2
          case measure => simp [intOf]; omega
      · obtain rfl : k = ws.length := by omega
        have hfin : Hid (∃ ζ', ZStep w ζ wr ζ' ∧ ζ'.L = applyTo ζ.L ws ∧ ζ'.snap = ζ.snap ∧ ζ'.mark = ζ.mark ∧ Keep ζ.Cs ζ'.Cs) := by
          have hL : ζk.L = applyL ζ.L ws := by rw [E4.out, List.take_of_length_le (Nat.le_refl _)]
          refine ⟨ζk, ⟨?_, E1.out, E3.out, HFR.out, fun b hb => .inl (HFP.out b hb)⟩, ?_, E5.out, E6.out, HKP.out⟩
          · show IsZigX wr ζk ζk.L
            rw [hL]; exact HZ.out
          · unfold applyTo; rw [if_pos HE.out]; exact hL
        clear e1 e2 e3 e4 e5 e6
        go_wp2
        go_ret
        exact ⟨by rw [HE.out]; rfl, hfin.out⟩
  · have hne : (applyE ζ.L ws == 0) = false := by simp [hE]
    have hL : applyTo ζ.L ws = ζ.L := by unfold applyTo; rw [if_neg hE]
    have HL := Lib.hid hL
    rw [hL] at hcl
    obtain ⟨r, hr⟩ : ∃ r, r = applyE ζ.L ws := ⟨_, rfl⟩
    have hcl2 := Lib.hid hcl.out
    rw [← hr] at hcl2 hne
    have HR := Lib.hid hr
    clear hcl hE hr hL
    go_enter Tryd.func13, Tryd.ntmps13
    go_wp2_with (go_at_call 27; refine hcl2.out.mono ?_; rintro e w1 ⟨rfl, hst, hf⟩; have HST := Lib.hid hst; have HF := Lib.hid hf; clear hst hf)
    go_ret
    refine ⟨by rw [← HR.out]; rfl, ζ, ⟨H.out.restore HF.out HST.out, rfl, rfl, HF.out.mono fun b _ hb => hmf.out b hb, fun b hb => .inl hb⟩, HL.out.symm, rfl, rfl, Keep.refl _⟩
end Go.Proofs.YtobccbakmcckiaaDoor
