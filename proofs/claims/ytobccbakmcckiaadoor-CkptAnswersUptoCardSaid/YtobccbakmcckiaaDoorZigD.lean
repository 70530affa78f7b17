/- ckpt.Zig: Take, the walk. -/
import Derived.Test.YtobccbakmcckiaaDoorZigC
import Derived.Deep.RegionHeld3
import Derived.Deep.AppendLies
namespace Go.Proofs.YtobccbakmcckiaaDoor
open Go Go.RowKit Go.Sort

theorem len_of_full {L : SL} {P room : Nat} (h1 : 1 ≤ P) (h2 : P ≤ 64) (h3 : room ≤ 4096) (hf : ∀ i, i < P → (claimsOf L P i).length ≤ room) : L.length ≤ 262144 := by
  rw [len_parts L P h1]
  have h4 := sum_le_of (l := (List.range P).map fun i => (claimsOf L P i).length) (b := 4096) fun x hx => by
    obtain ⟨i, hi, rfl⟩ := List.mem_map.1 hx
    exact Nat.le_trans (hf i (List.mem_range.1 hi)) h3
  rw [List.length_map, List.length_range] at h4
  omega

theorem validVal_max {v : SVal} (h : validVal v = true) : v.text.length ≤ maxLen := by
  obtain ⟨a, b, c⟩ := v
  unfold validVal at h
  unfold maxLen
  dsimp only at *
  have h2 : c.length ≤ 64 := by
    by_cases h0 : a = 0
    · rw [if_pos h0] at h; simp at h; rw [h.2]; simp
    · rw [if_neg h0] at h
      by_cases h1 : a = 1
      · rw [if_pos h1] at h; simp at h; rw [h]; simp
      · rw [if_neg h1] at h
        by_cases h2 : a = 2
        · rw [if_pos h2] at h; simp at h; exact h.2.1
        · rw [if_neg h2] at h; cases h
  omega
theorem owns_base {w : World} {b b' e size n : Nat} {v : Value} {xs : List Value} (h : w.ownsRow b e size v n xs) (hb : b' ≤ b) : w.ownsRow b' e size v n xs := by
  obtain ⟨h1, h2 | ⟨g, cap, cur, h3, h4, h5⟩⟩ := h
  · exact ⟨h1, .inl h2⟩
  · exact ⟨h1, .inr ⟨g, cap, cur, h3, Nat.le_trans hb h4, h5⟩⟩

set_option maxRecDepth 100000 in
set_option maxHeartbeats 4000000 in
theorem take_go (ζ : ZG) (L0 : SL) (w : World) (h : IsZig w ζ) (hs : ζ.snap = some (L0, L0.length)) (he : Env w) (hgf : ζ.bz ≠ 2) :
    Calls Tryd.prog 16 #[.pointer (some ⟨ζ.bz, 0, none⟩)] w fun e w' => ∃ p n c ζ', e = .returned (.tuple #[.agg #[.int .i64 ζ.mark, .slice p n c], .bool true]) ∧ w'.ownsRow w.heap.size 5 1 (.slice p n c) n (Lib.byteCells (bytesOf ζ.σ.parts ζ.σ.room L0)) ∧ ZStep w ζ w' ζ' ∧ ζ'.L = ζ.L ∧ ζ'.Cs = ζ.Cs ∧ ζ'.snap = none := by
  have hsn := h.snap L0 _ hs
  have hln : ζ.ln = 0 := by have := hsn.ln; omega
  have htn := hsn.tn
  have hlen := len_of_full h.st.p1 h.st.p2 h.st.r2 hsn.full
  have c0 : w.cell? ⟨ζ.bz, 0, none⟩ = some (.int .i64 ζ.σ.parts) := h.cell 0
  have c1 : w.cell? ⟨ζ.bz, 1, none⟩ = some (.int .i64 ζ.σ.room) := h.cell 1
  have c4 : w.cell? ⟨ζ.bz, 4, none⟩ = some (.bool true) := by rw [h.cell 4]; show some (Value.bool ζ.snap.isSome) = _; rw [hs]; rfl
  have c5 : w.cell? ⟨ζ.bz, 5, none⟩ = some (.int .i64 ζ.mark) := h.cell 5
  have c6 : w.cell? ⟨ζ.bz, 6, none⟩ = some (.slice ζ.lp 0 ζ.lc) := by rw [← hln]; exact h.cell 6
  obtain ⟨tq, htq⟩ : ∃ q, q = ζ.tp := ⟨_, rfl⟩
  have c7 : w.cell? ⟨ζ.bz, 7, none⟩ = some (.slice tq (L0.length : Nat) ζ.tc) := by rw [← htn, htq]; exact h.cell 7
  have f4 := frozen_heap h.head 4
  have hbz := heap_lt h.head
  have hnew := Lib.hid fun w => new_any ζ.σ.parts ζ.σ.room w h.st.p1 h.st.p2 h.st.r1 h.st.r2
  have H := Lib.hid h
  have HSN := Lib.hid hsn
  have HS := Lib.hid hs
  have HE := Lib.hid he
  have HTQ := Lib.hid htq
  have HLN := Lib.hid hln
  clear h hsn hs he htq hln htn
  go_enter Tryd.func16, Tryd.ntmps16
  go_wp2_with fail
  obtain ⟨W, hW⟩ : ∃ W : World, W = (w.setCell ⟨ζ.bz, 4, none⟩ (.bool false)).alloc (.cells #[.int .i64 0, .slice none 0 0] 43) := ⟨_, rfl⟩
  rw [← hW]
  have hF1 : Fr (fun b => b = ζ.bz) w W := by
    have := ((Fr.refl (fun b => b = ζ.bz) w).setCell (p := ⟨ζ.bz, 4, none⟩) (fun _ => rfl) (.bool false)).alloc (.cells #[.int .i64 0, .slice none 0 0] 43)
    rw [hW]; exact this
  have hH1 : W.heap[ζ.bz]? = some (.cells (ζ.row.setIfInBounds 4 (.bool false)) 71 (0, 0)) := by
    have h1 := heap_set H.out.head 4 (.bool false)
    rw [hW]
    exact (((Fr.refl nothing _).alloc (.cells #[.int .i64 0, .slice none 0 0] 43)).block _ (heap_lt h1) nothing_not).trans h1
  have hX1 : W.heap[w.heap.size]? = some (.cells #[.int .i64 0, .slice none 0 0] 43 (0, 0)) := by
    have := heap_alloc_new (w.setCell ⟨ζ.bz, 4, none⟩ (.bool false)) (.cells #[.int .i64 0, .slice none 0 0] 43)
    rw [hW]
    simpa using this
  have q0 : W.cell? ⟨ζ.bz, 0, none⟩ = some (.int .i64 ζ.σ.parts) := cell_heap hH1 0
  have q1 : W.cell? ⟨ζ.bz, 1, none⟩ = some (.int .i64 ζ.σ.room) := cell_heap hH1 1
  have HF1 := Lib.hid hF1
  have HH1 := Lib.hid hH1
  have HX1 := Lib.hid hX1
  clear hF1 hH1 hX1 hW c0 c1 c4 c5 c6 c7 f4 hbz
  go_region_held3 (fun w' => w'.cell? ⟨ζ.bz, 0, none⟩ = some (.int .i64 ζ.σ.parts) ∧ w'.cell? ⟨ζ.bz, 1, none⟩ = some (.int .i64 ζ.σ.room)) (go_keep)
    ((first
      | (go_at_call 20; refine (hnew.out _).mono ?_; rintro e w2 ⟨σ, rfl, e1, e2, hst, hfr, hge⟩
         have hF2 : Fr nothing W w2 := ((Fr.refl nothing W).drewN 1).trans hfr
         have t0 : w2.cell? ⟨ζ.bz, 0, none⟩ = some (.int .i64 ζ.σ.parts) := hF2.cellOf q0 nothing_not
         have t1 : w2.cell? ⟨ζ.bz, 1, none⟩ = some (.int .i64 ζ.σ.room) := hF2.cellOf q1 nothing_not
         have HF2 := Lib.hid hF2
         have HST := Lib.hid hst
         have HGE := Lib.hid (show ∀ k, σ.all k → W.heap.size ≤ k from hge)
         have E1 := Lib.hid e1
         have E2 := Lib.hid e2
         clear hF2 hst hge e1 e2 hfr)))
  have hH2 := (HF2.out.block _ (heap_lt HH1.out) nothing_not).trans HH1.out
  have c7 : w2.cell? ⟨ζ.bz, 7, none⟩ = some (.slice tq (L0.length : Nat) ζ.tc) := by
    have := cell_heap hH2 7
    rw [this, HTQ.out, ← HSN.out.tn]; rfl
  have hbz := heap_lt hH2
  have HH2 := Lib.hid hH2
  clear hH2 q0 q1 t0 t1
  go_wp2_with fail
  have hfw2 : Fr (fun b => b = ζ.bz) w w2 := HF1.out.next HF2.out fun _ _ e => e.elim
  have HFW2 := Lib.hid hfw2
  clear hfw2
  obtain ⟨s0, hsi, hsz0, hsz1, hsz2⟩ := info_parts infoStr
  obtain ⟨i0, hi0, hz0, hz1, hz2⟩ := info_parts infoWrite
  go_loopw [6, 7, 48] (fun kv wv i wr => ∃ (k : Nat) (p1 : Option Addr) (c1 : Nat) (p2 : Option Addr) (c2 : Nat), i = .int .i64 k ∧ k ≤ L0.length ∧ kv = .slice p1 k c1 ∧ wv = .slice p2 k c2 ∧ Laid2 w2 wr L0 k p1 c1 p2 c2) (fun _ _ i _ => L0.length - (intOf i).toNat)
  case atStart => exact ⟨0, none, 0, none, 0, rfl, Nat.zero_le _, rfl, rfl, World.ownsRow_nil _ _ _ _, World.ownsRow_nil _ _ _ _, fun a b h => (by cases h), Fr.refl _ _⟩
  case round =>
    obtain ⟨k, p1, c1, p2, c2, rfl, hk1, rfl, rfl, hl⟩ := hrel
    have HL := Lib.hid hl
    clear hl
    by_cases hlt : k < L0.length
    · have hfw : Fr (fun b => b = ζ.bz) w wr := HFW2.out.next HL.out.2.2.2 fun _ _ e => e.elim
      have htk := HSN.out.taken
      rw [List.take_of_length_le (Nat.le_refl _)] at htk
      obtain ⟨t, htp, htl, b0, b1, b2, b3⟩ := item_cells (ownsRow_same htk fun a ha => hfw.block _ (H.out.lt (.inr (.inr (.inr (.inr ⟨by rw [HS.out]; rfl, .inr ⟨a, ha, rfl⟩⟩))))) (HSN.out.tne a ha).1) hlt
      rw [← HTQ.out] at htp
      subst htp
      obtain ⟨X, hX⟩ : ∃ X : Obj, X = .cells #[.string ⟨L0[k].1.toArray⟩, .int .i64 L0[k].2.kind, .int .i64 L0[k].2.num, .string ⟨L0[k].2.text.toArray⟩] 77 := ⟨_, rfl⟩
      obtain ⟨Y, hY⟩ : ∃ Y : Obj, Y = .cells #[.string ⟨L0[k].1.toArray⟩] 9 := ⟨_, rfl⟩
      have hf1 := Lib.hid fun w3 (hg : ((wr.alloc X).alloc Y).grownBy w3 (Value.slice p1 k c1).ownBlock) => laid_first HL.out hg
      have hY1 := heap_new2 wr X Y
      have hb1 : k + 1 ≤ maxLen := by unfold maxLen; omega
      have hb2 : (k + 1) * 16 ≤ 140737488355328 := by omega
      have hb3 : (k + 1) * 56 ≤ 140737488355328 := by omega
      have hwl := HL.out.2.2.2.size
      have HY1 := Lib.hid hY1
      clear hfw htk hY1
      subst hX hY
      go_wp2_with (first
        | (at_builtin; refine wpList_append_lies _ rfl (.tmp 52) (.tmp 55) 26 rfl w2.heap.size 9 s0 (.string ⟨#[]⟩) 1 16 Tryd.underlying26 hsi hsz0 hsz1 hsz2 rfl (by decide) (.slice p1 k c1) k ((keysOf (L0.take k)).map encStr) (by rfl) ((HL.out.1.alloc _).alloc _) ⟨wr.heap.size + 1, 0, none⟩ 1 1 [.string ⟨L0[k].1.toArray⟩] (by rfl) (by rfl) (World.news_of_block (cs := #[.string ⟨L0[k].1.toArray⟩]) HY1.out) (by simp [Value.oneCell']) (by decide) hb1 hb2 (by simp; omega) (wr.heap.size + 1 + 1) (by simp) ?_
           intro g1 d1 w3 hown1 hg1 hat1 hlt1
           have hx3 := (hf1.out w3 hg1).2.1
           have x0 := cell_heap hx3 0
           have x1 := cell_heap hx3 1
           have x2 := cell_heap hx3 2
           have x3 := cell_heap hx3 3
           have HO1 := Lib.hid hown1
           have HG1 := Lib.hid hg1
           have HAT1 := Lib.hid hat1
           have HW2 := Lib.hid (hf1.out w3 hg1).1
           have hsz3 := (hf1.out w3 hg1).2.2.1
           clear hown1 hg1 hat1 hx3)
        | (at_builtin; refine wpList_append_lies _ rfl (.tmp 57) (.tmp 63) 34 rfl w2.heap.size 67 i0 _ 5 56 Tryd.underlying34 hi0 hz0 hz1 hz2 rfl (by decide) (.slice p2 k c2) k (writeCells (L0.take k)) (by rfl) (HW2.out.alloc _) ⟨w3.heap.size, 0, none⟩ 1 1 [.string ⟨L0[k].1.toArray⟩, .bool false, .int .i64 L0[k].2.kind, .int .i64 L0[k].2.num, .string ⟨L0[k].2.text.toArray⟩] (by rfl) (by rfl) (World.news_of_block (cs := #[.string ⟨L0[k].1.toArray⟩, .bool false, .int .i64 L0[k].2.kind, .int .i64 L0[k].2.num, .string ⟨L0[k].2.text.toArray⟩]) (heap_alloc_new w3 _)) (by simp [Value.oneCell']) (by decide) hb1 hb3 (by simp; omega) (w3.heap.size + 1) (by simp) ?_
           intro g2 d2 w4 hown2 hg2 hat2 hlt2
           have HL4 := Lib.hid (laid_second HL.out hlt HG1.out HO1.out HAT1.out hlt1 hg2 hown2 hat2)
           clear hown2 hg2 hat2 hlt2)
        | go_in)
      go_roundw
      case rel => exact ⟨k + 1, _, d1, _, d2, by go_num, hlt, by go_num, by go_num, HL4.out⟩
      case measure => simp [intOf]; omega
    · obtain rfl : k = L0.length := by omega
      have hl := HL.out
      unfold Laid2 at hl
      rw [List.take_of_length_le (Nat.le_refl _)] at hl
      obtain ⟨l1, l2, l3, l4⟩ := hl
      have hkl : (keysOf L0).length = L0.length := by simp [keysOf]
      have hwl : (wsOf L0).length = L0.length := by simp [wsOf]
      have hfw : Fr (fun b => b = ζ.bz) w wr := HFW2.out.next l4 fun _ _ e => e.elim
      have hmap : ∀ b, σ.maps b → b < w2.heap.size ∧ w.heap.size ≤ b := fun b hb => ⟨HST.out.lt (.inr (.inr hb)), Nat.le_trans HF1.out.size (HGE.out b (.inr (.inr hb)))⟩
      have hcl := Lib.hid (by
        have := claim_any σ [] p1 c1 (keysOf L0) wr (HST.out.frame l4 fun _ _ => nothing_not) (strs_of_owns (by rw [hkl]; exact l1)).2.1 (by rw [hkl]; omega) (fun k hk => by obtain ⟨q, hq, rfl⟩ := List.mem_map.1 hk; exact validKey_max (HSN.out.keys q hq)) (fun a ha hb => by
          have h1 := (l1.lt a.block (by rw [ha]; rfl)).1
          have := (hmap _ hb).1
          omega)
        have hE : claimE σ.parts σ.room [] (keysOf L0) = 0 := by rw [E1.out, E2.out]; exact claimE_build _ _ HSN.out.ris HSN.out.keys HSN.out.full
        unfold claimTo at this
        rw [hE, if_pos rfl, hkl] at this
        exact this)
      have hap := Lib.hid (fun w5 (h5 : IsStore w5 σ (claimL [] (keysOf L0))) (f5 : Fr σ.maps wr w5) => by
        have := apply_any σ (claimL [] (keysOf L0)) p2 c2 (wsOf L0) w5 h5 ((wrs_of_owns l2).frame f5 fun a ha hb => by
          have h1 := (l2.lt a.block (by rw [ha]; rfl)).1
          have := (hmap _ hb).1
          omega) (by rw [hwl]; omega) (fun x hx => by obtain ⟨q, hq, rfl⟩ := List.mem_map.1 hx; exact ⟨validKey_max (HSN.out.keys q hq), validVal_max (HSN.out.good q hq)⟩) (fun a ha hb => by
          have h1 := (l2.lt a.block (by rw [ha]; rfl)).1
          have := (hmap _ hb).1
          omega)
        have hE := applyE_build HSN.out.ris HSN.out.keys HSN.out.good
        unfold applyTo at this
        rw [hE, if_pos rfl, build_eq HSN.out.ris, hwl] at this
        exact this)
      have hby := Lib.hid (fun w6 (h6 : IsStore w6 σ L0) (f6 : Fr σ.maps wr w6) => bytes_any σ L0 w6 h6 ((HE.out.frame hfw fun e => hgf e.symm).frame f6 fun hb => by have := (hmap _ hb).2; have := HE.out.lt; omega) HSN.out.nums)
      have hwW := HF1.out.size
      have hmapf := Lib.hid (show ∀ i, i < w.heap.size → σ.maps i → i = ζ.bz from fun i hi hb => by have := (hmap _ hb).2; omega)
      have hbzm : ¬ σ.maps ζ.bz := fun hb => by have := (hmap _ hb).2; have := heap_lt H.out.head; omega
      have hxm : ¬ σ.maps w.heap.size := fun hb => by
        have h1 := HGE.out _ (.inr (.inr hb))
        have := heap_lt HX1.out; omega
      have HFWR := Lib.hid hfw
      have hhr := (l4.block _ hbz nothing_not).trans HH2.out
      have hxr : wr.heap[w.heap.size]? = some (.cells #[.int .i64 0, .slice none 0 0] 43 (0, 0)) := ((HF2.out.trans l4).block _ (heap_lt HX1.out) nothing_not).trans HX1.out
      have HHR := Lib.hid hhr
      have HXR := Lib.hid hxr
      clear l1 l2 l3 l4 hkl hwl hfw hmap hhr hxr
      go_wp2_with (first
        | (go_at_call 21; refine hcl.out.mono ?_; rintro e w5 ⟨rfl, hst5, hf5⟩; have hap5 := Lib.hid (hap.out w5 hst5 hf5); have HF5 := Lib.hid hf5; clear hst5 hf5)
        | (go_at_call 27; refine hap5.out.mono ?_; rintro e w6 ⟨rfl, hst6, hf6⟩
           have hf56 := HF5.out.trans hf6
           have hby6 := Lib.hid (hby.out w6.drew (hst6.frame ((Fr.refl nothing w6).drewN 1) fun _ _ => nothing_not) (hf56.drewN 1))
           have h6 := (hf56.block _ (heap_lt HHR.out) hbzm).trans HHR.out
           have x6 := (hf56.block _ (heap_lt HXR.out) hxm).trans HXR.out
           have y5 : w6.cell? ⟨ζ.bz, 5, none⟩ = some (.int .i64 ζ.mark) := cell_heap h6 5
           have HF6 := Lib.hid hf56
           have H6 := Lib.hid h6
           have X6 := Lib.hid x6
           clear hst6 hf6 hf56 h6 x6)
        | fail)
      have hbzx : ζ.bz ≠ w.heap.size := by have := heap_lt H.out.head; omega
      go_region_held3 (fun w' => w'.cell? ⟨ζ.bz, 5, none⟩ = some (.int .i64 ζ.mark)) (first | go_keep | exact sfar _ _)
        ((first
          | (go_at_call 28; refine hby6.out.mono ?_; rintro e w7 ⟨p, c, n, rfl, hown, hfr⟩
             have hf7 : Fr nothing w6 w7 := ((Fr.refl nothing w6).drewN 1).trans hfr
             have z5 : w7.cell? ⟨ζ.bz, 5, none⟩ = some (.int .i64 ζ.mark) := hf7.cellOf y5 nothing_not
             have x7 := (hf7.block _ (heap_lt X6.out) nothing_not).trans X6.out
             have xc0 : w7.cell? ⟨w.heap.size, 0, none⟩ = some (.int .i64 0) := cell_heap x7 0
             have xc1 : w7.cell? ⟨w.heap.size, 1, none⟩ = some (.slice none 0 0) := cell_heap x7 1
             have xf0 := frozen_heap x7 0
             have xf1 := frozen_heap x7 1
             have sfar : ∀ u v, ((w7.setCell ⟨w.heap.size, 0, none⟩ u).setCell ⟨w.heap.size, 1, none⟩ v).cell? ⟨ζ.bz, 5, none⟩ = some (.int .i64 ζ.mark) := fun u v =>
               (((Fr.refl (fun b => b = w.heap.size) w7).setCell (p := ⟨w.heap.size, 0, none⟩) (fun _ => rfl) u).setCell (p := ⟨w.heap.size, 1, none⟩) (fun _ => rfl) v).cellOf z5 hbzx
             have HOWN := Lib.hid hown
             have HF7 := Lib.hid hf7
             have X7 := Lib.hid x7
             clear hown hfr hf7 x7)))
      clear sfar
      have hsz6 := Lib.hid (show w.heap.size < w6.heap.size from heap_lt X6.out)
      have hend := Lib.hid (show Fr (fun b => b = w.heap.size) w7 ((w7.setCell ⟨w.heap.size, 0, none⟩ (.int .i64 ζ.mark)).setCell ⟨w.heap.size, 1, none⟩ (.slice p n c)) from ((Fr.refl (fun b => b = w.heap.size) w7).setCell (p := ⟨w.heap.size, 0, none⟩) (fun _ => rfl) _).setCell (p := ⟨w.heap.size, 1, none⟩) (fun _ => rfl) _)
      have hall : Hid (Fr (fun b => b = ζ.bz) w ((w7.setCell ⟨w.heap.size, 0, none⟩ (.int .i64 ζ.mark)).setCell ⟨w.heap.size, 1, none⟩ (.slice p n c))) :=
        Lib.hid ((((HFWR.out.next HF6.out hmapf.out).next HF7.out fun _ _ e => e.elim).next hend.out fun i hi e => absurd hi (by omega)))
      have hhead : Hid (((w7.setCell ⟨w.heap.size, 0, none⟩ (.int .i64 ζ.mark)).setCell ⟨w.heap.size, 1, none⟩ (.slice p n c)).heap[ζ.bz]? = some (.cells (ζ.row.setIfInBounds 4 (.bool false)) 71 (0, 0))) := by
        show _ = _
        have h7 := (HF7.out.block _ (heap_lt H6.out) nothing_not).trans H6.out
        exact (hend.out.block _ (heap_lt h7) hbzx).trans h7
      have hrow : Hid (((w7.setCell ⟨w.heap.size, 0, none⟩ (.int .i64 ζ.mark)).setCell ⟨w.heap.size, 1, none⟩ (.slice p n c)).ownsRow w.heap.size 5 1 (.slice p n c) n (Lib.byteCells (bytesOf ζ.σ.parts ζ.σ.room L0))) := by
        have ho := HOWN.out
        rw [E1.out, E2.out] at ho
        refine owns_base (ownsRow_same ho fun a ha => hend.out.block _ (ho.lt a.block (by rw [ha]; rfl)).2 fun e => ?_) (Nat.le_of_lt hsz6.out)
        have h1 := (ho.lt a.block (by rw [ha]; rfl)).1
        have h2 := hsz6.out
        have h3 : w6.drew.heap.size = w6.heap.size := rfl
        omega
      have e0 := heap_set (heap_set X7.out 0 (.int .i64 ζ.mark)) 1 (.slice p n c)
      have v0 : ((w7.setCell ⟨w.heap.size, 0, none⟩ (.int .i64 ζ.mark)).setCell ⟨w.heap.size, 1, none⟩ (.slice p n c)).cell? ⟨w.heap.size, 0, none⟩ = some (.int .i64 ζ.mark) := cell_heap e0 0
      have v1 : ((w7.setCell ⟨w.heap.size, 0, none⟩ (.int .i64 ζ.mark)).setCell ⟨w.heap.size, 1, none⟩ (.slice p n c)).cell? ⟨w.heap.size, 1, none⟩ = some (.slice p n c) := cell_heap e0 1
      clear e0
      go_wp2_with fail
      generalize (w7.setCell ⟨w.heap.size, 0, none⟩ (.int .i64 ζ.mark)).setCell ⟨w.heap.size, 1, none⟩ (.slice p n c) = w8 at *
      (try simp only [Exit.inBlock, Exit.then])
      refine bodyPost_ret (by simp [results, Tryd.results16, go_sem, v0, v1]; try rfl) rfl ?_
      refine ⟨p, n, c, { ζ with snap := none }, rfl, hrow.out, ⟨H.out.turn hall.out rfl rfl rfl rfl rfl ?_ (fun L0 j e => by cases e), rfl, rfl, hall.out.mono fun k _ e => .inl e, fun k hk => .inl ?_⟩, rfl, rfl, rfl⟩
      · exact hhead.out
      · rcases hk with hk | hk | hk | hk | ⟨hk, _⟩
        · exact .inl hk
        · exact .inr (.inl hk)
        · exact .inr (.inr (.inl hk))
        · exact .inr (.inr (.inr (.inl hk)))
        · cases hk
end Go.Proofs.YtobccbakmcckiaaDoor
