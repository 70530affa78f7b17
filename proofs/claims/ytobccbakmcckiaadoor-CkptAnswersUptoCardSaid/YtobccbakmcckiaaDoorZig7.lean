/- ckpt.Zig: Begin, the walk. -/
import Derived.Test.YtobccbakmcckiaaDoorZig6
namespace Go.Proofs.YtobccbakmcckiaaDoor
open Go Go.RowKit Go.Sort

set_option maxRecDepth 100000 in
set_option maxHeartbeats 4000000 in
theorem begin_any (ζ : ZG) (mark : Int) (w : World) (h : IsZig w ζ) :
    Calls Tryd.prog 14 #[.pointer (some ⟨ζ.bz, 0, none⟩), .int .i64 mark] w fun e w' => e = .returned (.int .i64 (beginE ζ mark)) ∧ ∃ ζ', ZStep w ζ w' ζ' ∧ ζ'.L = ζ.L ∧
      (beginE ζ mark ≠ 0 → ζ' = ζ) ∧ (beginE ζ mark = 0 → ζ'.snap = some (ζ.L, 0) ∧ ζ'.mark = mark ∧ ζ'.Cs = flipA ζ.Cs) := by
  have c4 : w.cell? ⟨ζ.bz, 4, none⟩ = some (.bool ζ.snap.isSome) := h.cell 4
  by_cases h1 : mark < 0
  · have hE : beginE ζ mark = 2 := by unfold beginE; rw [if_pos h1]
    have HZ := Lib.hid (show ∃ ζ', ZStep w ζ w ζ' ∧ ζ'.L = ζ.L ∧ (beginE ζ mark ≠ 0 → ζ' = ζ) ∧ (beginE ζ mark = 0 → ζ'.snap = some (ζ.L, 0) ∧ ζ'.mark = mark ∧ ζ'.Cs = flipA ζ.Cs) from ⟨ζ, ⟨h, rfl, rfl, Fr.refl _ _, fun k hk => .inl hk⟩, rfl, fun _ => rfl, fun e => by rw [hE] at e; cases e⟩)
    have HE := Lib.hid hE
    clear h hE
    go_enter Tryd.func14, Tryd.ntmps14
    go_wp2
    go_ret
    exact ⟨by rw [HE.out]; rfl, HZ.out⟩
  · cases hs : ζ.snap.isSome
    · have hE : beginE ζ mark = 0 := by unfold beginE; rw [if_neg h1, hs]; rfl
      have HE := Lib.hid hE
      have hk := Lib.hid (keys_own ζ.σ ζ.L w h.st)
      have c2 : w.cell? ⟨ζ.bz, 2, none⟩ = some (.pointer (some ⟨ζ.σ.bs, 0, none⟩)) := h.cell 2
      rw [hs] at c4
      have hbz := heap_lt h.head
      have H := Lib.hid h
      have HS := Lib.hid hs
      clear h hE hs
      go_enter Tryd.func14, Tryd.ntmps14
      go_wp2_with (first
        | (go_at_call 22; refine hk.out.mono ?_; rintro e w1 ⟨p, c, rfl, hown, hfr⟩; have HO := Lib.hid hown; have HF := Lib.hid hfr
           have hh1 := (hfr.block _ hbz nothing_not).trans H.out.head
           have g4 : w1.cell? ⟨ζ.bz, 4, none⟩ = some (.bool ζ.snap.isSome) := cell_heap hh1 4
           have g5 : w1.cell? ⟨ζ.bz, 5, none⟩ = some (.int .i64 ζ.mark) := cell_heap hh1 5
           have g6 : w1.cell? ⟨ζ.bz, 6, none⟩ = some (.slice ζ.lp ζ.ln ζ.lc) := cell_heap hh1 6
           have g7 : w1.cell? ⟨ζ.bz, 7, none⟩ = some (.slice ζ.tp ζ.tn ζ.tc) := cell_heap hh1 7
           have g3 : w1.cell? ⟨ζ.bz, 3, none⟩ = some (.map (some ζ.bm)) := cell_heap hh1 3
           have f4 := frozen_heap hh1 4
           have f5 := frozen_heap hh1 5
           have f6 := frozen_heap hh1 6
           have f7 := frozen_heap hh1 7
           have HH1 := Lib.hid hh1
           clear hown hfr hh1)
        | (at_range
           have hbw := begin_world H.out HF.out mark HO.out
           obtain ⟨W, hW⟩ : ∃ W : World, W = beginW ζ mark p c w1 := ⟨_, rfl⟩
           rw [← hW] at hbw
           unfold beginW at hW
           rw [← hW]
           obtain ⟨hfW, hhW, hsW, howm⟩ := hbw
           have HFW := Lib.hid hfW
           have HHW := Lib.hid hhW
           have HSW := Lib.hid hsW
           have HOM := Lib.hid howm
           clear hfW hhW hsW hW howm
           refine wpList_range_own W rfl _ 68 rfl 9 72 lawStr Tryd.underlying68 RV ζ.bm _ _ rfl HOM.out ?_; intro w0 hrg0 hg0 hs0; have HRG0 := Lib.hid hrg0; have HG0 := Lib.hid hg0; clear hrg0 hg0 hs0)
        | go_in)
      go_frame
      have hfold : Hid (∀ q ∈ ζ.Cs, W.heap[q.2.blk]? = some (.cells q.2.row 75 (0, 0))) := fun q hq => (HFW.out.block _ (heap_lt (H.out.cells q hq)) fun e => (H.out.ap3 q hq).1 e).trans (H.out.cells q hq)
      go_loopw [] (fun wr => ∃ (left : Lit → Bool) (cnt : Nat), wr.ranges Tryd.prog 9 RV ζ.bm W.heap.size (ptrs ζ.Cs).length (dm (ptrs ζ.Cs)) left cnt ∧ Fr (fun b => ∃ q ∈ ζ.Cs, b = q.2.blk) W wr ∧ ∀ q ∈ ζ.Cs, wr.heap[q.2.blk]? = some (.cells (if left (.string q.1) then q.2 else q.2.flip).row 75 (0, 0)))
        (fun wr => wr.rangeLeft ζ.bm W.heap.size)
      case atStart =>
        refine ⟨_, _, HRG0.out, (Fr.grown HG0.out).mono fun _ _ e => (by cases e), fun q hq => ?_⟩
        have hl := lookM_of_mem H.out.ris (k := q.1) (v := q.2) hq
        rw [dm_has, look_ptrs, hl]
        exact ((Fr.grown HG0.out).block _ (heap_lt (hfold.out q hq)) fun e => by cases e).trans (hfold.out q hq)
      case round =>
        obtain ⟨left, cnt, hrg, hfr, hcs⟩ := hrel
        have HRG := Lib.hid hrg; clear hrg
        have HFR := Lib.hid hfr; clear hfr
        have HCS := Lib.hid hcs; clear hcs
        go_wp2_with (first
          | (at_next; refine wpList_next_ranges _ rfl _ rfl 9 lawStr RV encStr id (fun key kl hk => by obtain ⟨x, hx, _⟩ := Maps.keyOf_str Tryd.underlying9 hk; exact ⟨x, hx⟩) (fun v _ _ => ⟨v, rfl⟩) ζ.bm W.heap.size _ _ _ _ rfl HRG.out ?_ ?_)
          | go_in)
        · intro hc0 hl0
          have hall := Lib.hid (show ∀ q ∈ ζ.Cs, wr.heap[q.2.blk]? = some (.cells q.2.flip.row 75 (0, 0)) from fun q hq => by rw [HCS.out q hq, hl0, if_neg (by decide)])
          go_wp2
          go_ret
          refine ⟨by rw [HE.out]; rfl, ζ.begun mark p c, ⟨H.out.begun ?_ ?_ ?_ ?_ ?_ (cap_of_owns HO.out), rfl, rfl, ?_, fun k hk => fp_begun (w := w) (fun a ha => (HSW.out.2 a ha).1) hk⟩, rfl, fun e => absurd HE.out e, fun _ => ⟨rfl, rfl, rfl⟩⟩
          · exact (HFW.out.mono fun _ _ e => .inl e).next HFR.out fun i _ e => .inr e
          · refine (HFR.out.block _ (heap_lt HHW.out) ?_).trans HHW.out
            rintro ⟨q, hq, e⟩
            exact (H.out.ap3 q hq).1 e.symm
          · exact hall.out
          · refine HSW.out.1.frame HFR.out fun a ha => ?_
            rintro ⟨q, hq, e⟩
            have := (HSW.out.2 a ha).1
            have := heap_lt (H.out.cells q hq)
            omega
          · exact fun a ha => ⟨(HSW.out.2 a ha).1, Nat.lt_of_lt_of_le (HSW.out.2 a ha).2 HFR.out.size⟩
          · refine (HFW.out.mono fun _ _ e => .inl e).next HFR.out fun i _ e => ?_
            obtain ⟨q, hq, rfl⟩ := e
            exact .inr (.inr (.inr (.inl ⟨q, hq, rfl⟩)))
        · intro x v kl yd yp w2 cnt2 hkey hlk hv hat hrg2 hltc hg2 hs2 hen
          obtain ⟨x', ex, rfl, hxl⟩ := Maps.keyOf_str Tryd.underlying9 hkey
          obtain rfl : x = x' := encStr_inj ex
          unfold RV at hv
          injection hv with hv
          injection hv with hv1 hv2
          rw [← hv1] at hat
          have hlm := look_of_at hat
          rw [look_ptrs] at hlm
          obtain ⟨d, hd, rfl⟩ := Option.map_eq_some_iff.1 hlm
          have hmd := lookM_mem hd
          have hW2 := HFR.out.next (T := fun b => b = W.heap.size) ((Fr.grown hg2).mono fun k _ e => by injection e with e; exact e.symm) (fun i hi e => absurd hi (by omega))
          have hcb : w2.heap[d.blk]? = some (.cells d.row 75 (0, 0)) := by
            have h1 := HCS.out _ hmd
            rw [hlk, if_pos rfl] at h1
            refine (((Fr.grown hg2).block _ (heap_lt h1) fun e => ?_)).trans h1
            injection e with e
            have := heap_lt (hfold.out _ hmd)
            dsimp only at this e; omega
          have g6 : w2.cell? ⟨d.blk, 6, none⟩ = some (.int .i64 d.r) := cell_heap hcb 6
          have g7 : w2.cell? ⟨d.blk, 7, none⟩ = some (.int .i64 d.w) := cell_heap hcb 7
          have f7 := frozen_heap hcb 7
          have hr1 := (H.out.bits _ hmd).1
          dsimp only at hr1
          have hwr : ((1 - d.r : Nat) : Int) = 1 - (d.r : Int) := by omega
          have hset := Lib.hid (show (w2.setCell ⟨d.blk, 7, none⟩ (.int .i64 (1 - (d.r : Int)))).heap[d.blk]? = some (.cells d.flip.row 75 (0, 0)) from by rw [heap_set hcb 7, ← hwr]; rfl)
          have HD := Lib.hid hd
          have HW2 := Lib.hid hW2
          have HRG2 := Lib.hid hrg2
          have HG2 := Lib.hid hg2
          have HLK := Lib.hid hlk
          have HMD := Lib.hid hmd
          clear hwr hd hW2 hrg2 hg2 hlk hmd hkey hv1 hv2 ex hxl hat hlm hs2 hcb
          unfold encStr at hen
          go_wp2
          have hfs := (Fr.refl (fun b => b = d.blk) w2).setCell (p := ⟨d.blk, 7, none⟩) (fun _ => rfl) (.int .i64 (1 - (d.r : Int)))
          have hrg3 := HRG2.out.kept (w' := w2.setCell ⟨d.blk, 7, none⟩ (.int .i64 (1 - (d.r : Int)))) (row := some d.blk) ⟨hfs.os, hfs.tape, hfs.output, hfs.size, fun i hi hn => hfs.block i hi fun e => hn (by rw [e])⟩ (fun e => by injection e with e; exact (H.out.ap3 _ HMD.out).2.1 e.symm)
            (fun e => by injection e with e; have := heap_lt (hfold.out _ HMD.out); dsimp only at this; omega)
          go_roundw
          case rel =>
            refine ⟨_, cnt2, hrg3, ?_, fun q hq => ?_⟩
            · exact HW2.out.next hfs fun i hi e => ⟨_, HMD.out, e⟩
            · by_cases hqx : q.1 = x
              · have hqd : q.2 = d := by
                  have := lookM_of_mem H.out.ris (k := q.1) (v := q.2) hq
                  rw [hqx, HD.out] at this
                  injection this with this; exact this.symm
                rw [hqd, hset.out]
                have : (left (Lit.string q.1) && !(Lit.string q.1).sameKey (Lit.string x)) = false := by rw [hqx]; simp [Lit.sameKey]
                rw [this]; rfl
              · have hne : q.2.blk ≠ d.blk := fun e => by
                  have := H.out.ap4 q hq _ HMD.out e
                  rw [this] at hqx; exact hqx rfl
                have : (left (Lit.string q.1) && !(Lit.string q.1).sameKey (Lit.string x)) = left (Lit.string q.1) := by simp [Lit.sameKey, hqx]
                rw [this]
                refine ((hfs.block _ ?_ hne).trans ((Fr.grown HG2.out).block _ (heap_lt (HCS.out q hq)) fun e => ?_)).trans (HCS.out q hq)
                · exact Nat.lt_of_lt_of_le (heap_lt (HCS.out q hq)) (Fr.grown HG2.out).size
                · injection e with e
                  have := heap_lt (hfold.out _ hq)
                  omega
          case measure => rw [hrg3.left_eq, HRG.out.left_eq]; exact hltc
    · have hE : beginE ζ mark = 220 := by unfold beginE; rw [if_neg h1, hs]; rfl
      have HZ := Lib.hid (show ∃ ζ', ZStep w ζ w ζ' ∧ ζ'.L = ζ.L ∧ (beginE ζ mark ≠ 0 → ζ' = ζ) ∧ (beginE ζ mark = 0 → ζ'.snap = some (ζ.L, 0) ∧ ζ'.mark = mark ∧ ζ'.Cs = flipA ζ.Cs) from ⟨ζ, ⟨h, rfl, rfl, Fr.refl _ _, fun k hk => .inl hk⟩, rfl, fun _ => rfl, fun e => by rw [hE] at e; cases e⟩)
      have HE := Lib.hid hE
      rw [hs] at c4
      clear h hE hs
      go_enter Tryd.func14, Tryd.ntmps14
      go_wp2
      go_ret
      exact ⟨by rw [HE.out]; rfl, HZ.out⟩
end Go.Proofs.YtobccbakmcckiaaDoor
