/- Claim, whole. -/
import Derived.Test.YtobccbakmcckiaaDoorClaim0
import Derived.Test.YtobccbakmcckiaaDoorStorePure
namespace Go.Proofs.YtobccbakmcckiaaDoor
open Go Go.RowKit

theorem validKey_len {k : Key} (h : validKey k = true) : 1 ≤ k.length ∧ k.length ≤ 32 := by
  unfold validKey at h; simp at h; exact ⟨by have := h.2.1; cases k <;> simp_all, h.2.2⟩
theorem validKey_max {k : Key} (h : validKey k = true) : k.length ≤ maxLen := by have := (validKey_len h).2; unfold maxLen; omega

theorem IsStore.claim1 {w : World} {σ : SB} {L : SL} (h : IsStore w σ L) {k : Key} (hk : validKey k = true) (hf : ∀ i, i < σ.parts → (claimsOf (claim1 L k) σ.parts i).length ≤ σ.room) :
    ∃ w', (Instr.mapUpdate 82 (.map (some (σ.bm (partOf k σ.parts)))) (.string ⟨k.toArray⟩) (.int .i64 1)).run Tryd.prog w = .ok () w' ∧ IsStore w' σ (YtobccbakmcckiaaDoor.claim1 L k) ∧ Fr (fun b => b = σ.bm (partOf k σ.parts)) w w' := by
  have hp := partOf_lt k σ.parts h.p1
  have hfl := h.full _ hp
  have hr2 := h.r2
  obtain ⟨w', hrun, hm, ht⟩ := (h.claims _ hp).store Tryd.underlying9 Tryd.underlying82 (by unfold maxLen; omega) k (.int .i64 1) (validKey_max hk)
  have hfr := Fr.turned ht
  refine ⟨w', hrun, ?_, hfr⟩
  have hris := ris_claim1 h.ris k
  have e1 : putM (claimsOf L σ.parts (partOf k σ.parts)) k (.int .i64 1) = claimsOf (YtobccbakmcckiaaDoor.claim1 L k) σ.parts (partOf k σ.parts) := by
    refine risM_ext (risM_putM (risM_claimsOf h.ris _ _) _ _) (risM_claimsOf hris _ _) fun k' => ?_
    rw [lookM_putM (risM_claimsOf h.ris _ _), look_claimsOf h.ris, look_claimsOf hris, look_claim1 h.ris]
    by_cases he : k' = k
    · subst he
      unfold claimed
      cases lookM L k' <;> simp
    · simp [he]
  have e2 : ∀ i, i ≠ partOf k σ.parts → claimsOf (YtobccbakmcckiaaDoor.claim1 L k) σ.parts i = claimsOf L σ.parts i := fun i hi => by
    refine risM_ext (risM_claimsOf hris _ _) (risM_claimsOf h.ris _ _) fun k' => ?_
    rw [look_claimsOf h.ris, look_claimsOf hris, look_claim1 h.ris]
    by_cases he : k' = k
    · subst he
      have : ¬ partOf k' σ.parts = i := fun e => hi e.symm
      simp [this]
    · simp [he]
  have e3 : valsOf (YtobccbakmcckiaaDoor.claim1 L k) = valsOf L := by
    refine risM_ext (risM_valsOf hris) (risM_valsOf h.ris) fun k' => ?_
    rw [look_valsOf h.ris, look_valsOf hris, look_claim1 h.ris]
    split
    · rename_i hc
      obtain ⟨rfl, hc⟩ := hc
      unfold claimed at hc
      cases hl : lookM L k' with
      | none => rfl
      | some v => rw [hl] at hc; cases hc
    · rfl
  have hbm : ∀ b, σ.maps b → b ≠ σ.bs ∧ b ≠ σ.bc := h.ne2
  have hmm := hbm _ (.inr ⟨_, hp, rfl⟩)
  exact {
    p1 := h.p1, p2 := h.p2, pc := h.pc, r1 := h.r1, r2 := h.r2
    c0 := hfr.cellOf h.c0 (fun e => hmm.1 e.symm)
    c1 := hfr.cellOf h.c1 (fun e => hmm.1 e.symm)
    c2 := hfr.cellOf h.c2 (fun e => hmm.1 e.symm)
    rows := fun i hi => hfr.cellOf (h.rows i hi) (fun e => hmm.2 e.symm)
    claims := fun i hi => by
      by_cases he : i = partOf k σ.parts
      · subst he; rw [← e1]; exact hm
      · rw [e2 i he]
        exact (h.claims i hi).kept (hfr.block _ (h.claims i hi).lt (fun e => he (h.ne4 _ _ hi hp e)))
    vals := by
      rw [e3]
      exact h.vals.kept (hfr.block _ h.vals.lt (fun e => h.ne3 _ hp e.symm))
    ris := hris
    keys := fun p hp' => by
      unfold YtobccbakmcckiaaDoor.claim1 at hp'
      split at hp'
      · exact h.keys p hp'
      · rcases mem_putM.1 hp' with rfl | ⟨hp', _⟩
        · exact hk
        · exact h.keys p hp'
    good := fun p hp' => by
      unfold YtobccbakmcckiaaDoor.claim1 at hp'
      split at hp'
      · exact h.good p hp'
      · rcases mem_putM.1 hp' with rfl | ⟨hp', _⟩
        · rfl
        · exact h.good p hp'
    full := hf
    ne1 := h.ne1, ne2 := h.ne2, ne3 := h.ne3, ne4 := h.ne4 }

/-- A row of numbers. -/
def intRow (P : Nat) (f : Nat → Nat) : Array Value := (Array.range P).map fun i => .int .i64 (f i)
theorem intRow_get {P : Nat} {f : Nat → Nat} {i : Nat} (h : i < P) : (intRow P f)[i]? = some (.int .i64 (f i)) := by simp [intRow, h]
theorem intRow_set (P : Nat) (f g : Nat → Nat) (j : Nat) (v : Value) (hv : v = .int .i64 (g j)) (hg : ∀ i, i ≠ j → g i = f i) : (intRow P f).setIfInBounds j v = intRow P g := by
  apply Array.ext_getElem?
  intro i
  simp only [intRow, Array.getElem?_setIfInBounds, Array.getElem?_map, Array.size_map, Array.size_range]
  by_cases h : j = i
  · subst h
    by_cases hj : j < P <;> simp [hj, hv]
  · simp only [h, if_false]
    by_cases hi : i < P <;> simp [hi, hg i (fun e => h e.symm)]
theorem made_intRow (P : Nat) : madeCells #[.int .i64 0] P = intRow P fun _ => 0 := by
  apply Array.ext_getElem?
  intro i
  simp only [madeCells, intRow, Array.getElem?_map]
  by_cases hi : i < P <;> simp [hi, Nat.mod_one]

theorem run_make_ints (P : Nat) (hP : P ≤ 64) (w : World) : (Instr.makeSlice 55 (.int .i64 P) (.int .i64 P)).run Tryd.prog w = .ok (.slice (some ⟨w.heap.size, 0, none⟩) P P) (w.alloc (.cells (intRow P fun _ => 0) 3)) := by
  obtain ⟨i, hi, hz, hs, hb⟩ := info_parts (show (Tryd.prog.info? 3).map (fun i => (i.zero, i.size, i.bytes)) = some (some (.int .i64 0), 1, 8) by kernel_rfl)
  have := run_make (P := Tryd.prog) w 55 3 i (.int .i64 0) Tryd.underlying55 hi hz .i64 .i64 P P (by omega) (by omega) (by rw [hb]; omega) (by omega)
  rw [this, hs]
  simp only [Int.toNat_natCast, Nat.mul_one]
  rw [show (Value.int IntKind.i64 0).cells = #[.int .i64 0] from rfl, made_intRow]

theorem cell_heap {w : World} {b : Nat} {c : Array Value} {e : TypeId} {z : Nat × Nat} (h : w.heap[b]? = some (.cells c e z)) (j : Nat) : w.cell? ⟨b, j, none⟩ = c[j]? := by simp [World.cell?, h]
theorem frozen_heap {w : World} {b : Nat} {c : Array Value} {e : TypeId} (h : w.heap[b]? = some (.cells c e (0, 0))) (j : Nat) : w.frozen? ⟨b, j, none⟩ = false := by simp [World.frozen?, h]
theorem heap_set {w : World} {b : Nat} {c : Array Value} {e : TypeId} {z : Nat × Nat} (h : w.heap[b]? = some (.cells c e z)) (j : Nat) (v : Value) : (w.setCell ⟨b, j, none⟩ v).heap[b]? = some (.cells (c.setIfInBounds j v) e z) := by
  simp [World.setCell, Array.getElem?_modify, h]

theorem drewN_add (w : World) (a b : Nat) : (w.drewN a).drewN b = w.drewN (a + b) := by simp only [World.drewN, Nat.add_assoc]
theorem roomFor_of {L : SL} {ss : List Key} {P room : Nat} (h : ∀ i, i < P → (claimsOf L P i).length + newCount L ss P i ≤ room) : roomFor L ss P room := h

set_option maxHeartbeats 2000000 in
theorem claim_any (σ : SB) (L : SL) (p : Option Addr) (cap : Nat) (ss : List Key) (w : World) (h : IsStore w σ L) (hs : StrsAt w p ss) (hn : ss.length ≤ 1000000) (hk : ∀ k ∈ ss, k.length ≤ maxLen) (hd : ∀ a, p = some a → ¬ σ.maps a.block) :
    Calls Tryd.prog 21 #[.pointer (some ⟨σ.bs, 0, none⟩), .slice p ss.length cap] w fun e w' => e = .returned (.int .i64 (claimE σ.parts σ.room L ss)) ∧ IsStore w' σ (claimTo σ.parts σ.room L ss) ∧ Fr σ.maps w w' := by
  have hcf := Lib.hid (containsFunc_any p cap ss w hs hn hk)
  have hc1 := h.c1
  have hc0 := h.c0
  cases hal : allKeys ss
  · have hcf2 := Lib.hid (hcf.out.mono (R' := fun e w' => e = .returned (.bool true) ∧ w = w') fun e w' ⟨h1, h2⟩ => ⟨by rw [h1, hal]; rfl, h2⟩)
    have hE : claimE σ.parts σ.room L ss = 30 := by
      unfold claimE
      rw [show claimE.allKeysP ss = allKeys ss from rfl, hal]; rfl
    have hL : claimTo σ.parts σ.room L ss = L := by unfold claimTo; rw [hE]; rfl
    rw [hE, hL]
    have H := Lib.hid h
    clear hcf h hal hE hL
    go_enter Tryd.func21, Tryd.ntmps21
    go_wp2_with (go_at_call 37; refine hcf2.out.mono ?_; rintro e w' ⟨rfl, rfl⟩)
    go_ret
    exact ⟨rfl, H.out, Fr.refl _ _⟩
  · have hcf2 := Lib.hid (hcf.out.mono (R' := fun e w' => e = .returned (.bool false) ∧ w = w') fun e w' ⟨h1, h2⟩ => ⟨by rw [h1, hal]; rfl, h2⟩)
    clear hcf
    have HA := Lib.hid hal; clear hal
    have H := Lib.hid h; clear h
    have HS := Lib.hid hs; clear hs
    go_enter Tryd.func21, Tryd.ntmps21
    go_wp2_with (go_at_call 37; refine hcf2.out.mono ?_; rintro e w' ⟨rfl, rfl⟩)
    go_loopw [5] (fun i wr => ∃ k n : Nat, i = .int .i64 (k + 1) ∧ k ≤ ss.length ∧ rises (ss.take (k + 1)) ∧ wr = w.drewN n) (fun i _ => ss.length - (intOf i).toNat)
    case atStart => exact ⟨0, 0, rfl, Nat.zero_le _, by cases ss <;> simp [rises], rfl⟩
    case round =>
      obtain ⟨k, n, rfl, hk1, hri, rfl⟩ := hrel
      have HR := Lib.hid hri; clear hri
      by_cases hlt : k + 1 < ss.length
      · obtain ⟨b, o, rfl, hc⟩ := HS.out.cell hlt
        obtain ⟨b', o', hbo, hc'⟩ := HS.out.cell (show k < ss.length by omega)
        obtain ⟨rfl, rfl⟩ : b' = b ∧ o' = o := by injection hbo with hbo; injection hbo with h1 h2; exact ⟨h1.symm, h2.symm⟩
        clear hbo
        have hi1 : (0 : Int) ≤ k := by omega
        cases hbl : Op.bytesLess ss[k] ss[k + 1]
        · have hno := Lib.hid (rises_no hlt hbl)
          go_wp2_with fail
          go_quiet (fail)
          go_wp2
          go_ret
          have hE : claimE σ.parts σ.room L ss = 40 := by
            unfold claimE
            rw [show claimE.allKeysP ss = allKeys ss from rfl, HA.out, if_pos rfl, if_neg hno.out]
          have hL : claimTo σ.parts σ.room L ss = L := by unfold claimTo; rw [hE]; rfl
          rw [hE, hL]
          exact ⟨rfl, H.out.frame ((Fr.draw w n nothing).drewN _) (fun _ _ => nothing_not), (Fr.draw _ _ _).drewN _⟩
        · have hsu := Lib.hid (rises_succ hlt HR.out hbl)
          go_wp2_with fail
          go_quiet (fail)
          go_wp2
          go_roundw
          case rel => exact ⟨k + 1, _, by go_num, by omega, hsu.out, rfl⟩
          case measure => simp [intOf]; omega
      · have hris := Lib.hid (show rises ss by have := HR.out; rwa [List.take_of_length_le (by omega)] at this)
        clear HR hcf2
        have hP := H.out.p2
        have hmk := fun w => run_make_ints σ.parts hP w
        go_wp2
        have hf0 : Fr nothing w ((w.drewN n).alloc (.cells (intRow σ.parts fun _ => 0) 3)) := (Fr.draw w n nothing).alloc _
        go_loopw [41] (fun i wr => ∃ k2 : Nat, i = .int .i64 k2 ∧ k2 ≤ ss.length ∧ Fr nothing w wr ∧ wr.heap[w.heap.size]? = some (.cells (intRow σ.parts (newCount L (ss.take k2) σ.parts)) 3 (0, 0))) (fun i _ => ss.length - (intOf i).toNat)
        case atStart => exact ⟨0, rfl, Nat.zero_le _, hf0, heap_alloc_new (w.drewN n) _⟩
        case round =>
          obtain ⟨k2, rfl, hk2, hfr, hrow⟩ := hrel
          have hI := Lib.hid (H.out.frame hfr fun _ _ => nothing_not)
          have hfS := Lib.hid hfr; clear hfr
          have hrowS := Lib.hid hrow; clear hrow
          have d1 : wr.cell? ⟨σ.bs, 1, none⟩ = some (.slice (some ⟨σ.bc, 0, none⟩) σ.parts σ.cap) := hI.out.c1
          by_cases hlt2 : k2 < ss.length
          · obtain ⟨b, o, rfl, hc⟩ := (HS.out.frame hfS.out fun _ _ => nothing_not).cell hlt2
            have hkl := hk _ (List.getElem_mem hlt2)
            have hcl := Lib.hid (claimed_any σ L ss[k2] wr hI.out hkl)
            have hp1 := H.out.p1
            have hpt := Lib.hid (fun w => part_any ⟨ss[k2].toArray⟩ σ.parts w (by simpa [ByteArray.size] using hkl) hp1 hP)
            have hpl := partOf_lt ss[k2] σ.parts hp1
            cases hcv : claimed L ss[k2]
            · have hcl2 := Lib.hid (hcl.out.mono (R' := fun e w' => e = .returned (.bool false) ∧ ∃ n, w' = wr.drewN n) fun e w' ⟨h1, h2⟩ => ⟨by rw [h1, hcv], h2⟩)
              have hle : newCount L (ss.take k2) σ.parts (partOf ss[k2] σ.parts) ≤ 1000000 := by
                refine Nat.le_trans (newCount_take_le _ _ _ _ _) (Nat.le_trans (List.length_filter_le _ _) hn)
              have dm : wr.cell? ⟨w.heap.size, partOf ss[k2] σ.parts, none⟩ = some (.int .i64 (newCount L (ss.take k2) σ.parts (partOf ss[k2] σ.parts))) := by
                rw [cell_heap hrowS.out, intRow_get hpl]
              have df := frozen_heap hrowS.out (partOf ss[k2] σ.parts)
              have hnew := Lib.hid (fun i => newCount_succ L ss k2 σ.parts i hlt2)
              have HC := Lib.hid hcv
              clear hcl hcv hk
              go_wp2_with (first | (go_at_call 40; refine hcl2.out.mono ?_; rintro e w' ⟨rfl, m, rfl⟩) | (go_at_call 41; refine (hpt.out _).mono ?_; rintro e w' ⟨rfl, rfl⟩))
              go_roundw
              case rel =>
                refine ⟨k2 + 1, by go_num, by omega, (hfS.out.drewN m).setCell (p := ⟨w.heap.size, _, none⟩) (fun hlt => absurd hlt (Nat.lt_irrefl _)) _, ?_⟩
                refine (heap_set (w := wr.drewN m) hrowS.out _ _).trans ?_
                rw [intRow_set _ _ (newCount L (ss.take (k2 + 1)) σ.parts) _ _ (by rw [hnew.out, HC.out]; simp) (fun i hi => (hnew.out i).trans (by rw [if_neg (by simp; exact fun _ e => hi e.symm)]; rfl))]
              case measure => simp [intOf]; omega
            · have hcl2 := Lib.hid (hcl.out.mono (R' := fun e w' => e = .returned (.bool true) ∧ ∃ n, w' = wr.drewN n) fun e w' ⟨h1, h2⟩ => ⟨by rw [h1, hcv], h2⟩)
              have hnew := Lib.hid (fun i => newCount_succ L ss k2 σ.parts i hlt2)
              have HC := Lib.hid hcv
              clear hcl hcv hk
              go_wp2_with (first | (go_at_call 40; refine hcl2.out.mono ?_; rintro e w' ⟨rfl, m, rfl⟩))
              go_roundw
              case rel =>
                refine ⟨k2 + 1, by go_num, by omega, hfS.out.drewN m, ?_⟩
                refine Eq.trans (b := wr.heap[w.heap.size]?) rfl (hrowS.out.trans ?_)
                rw [show newCount L (ss.take (k2 + 1)) σ.parts = newCount L (ss.take k2) σ.parts from funext fun i => by rw [hnew.out, HC.out]; simp]
              case measure => simp [intOf]; omega
          · obtain rfl : k2 = ss.length := by omega
            rw [List.take_of_length_le (Nat.le_refl _)] at hrowS
            have d0 : wr.cell? ⟨σ.bs, 0, none⟩ = some (.int .i64 σ.room) := hI.out.c0
            obtain ⟨wo, rfl⟩ : ∃ wo : World, wo = wr := ⟨_, rfl⟩
            go_wp2
            go_loopw [64] (fun i wr => ∃ k3 m : Nat, i = .int .i64 k3 ∧ k3 ≤ σ.parts ∧ (∀ i, i < k3 → (claimsOf L σ.parts i).length + newCount L ss σ.parts i ≤ σ.room) ∧ wr = wo.drewN m) (fun i _ => σ.parts - (intOf i).toNat)
            case atStart => exact ⟨0, 0, rfl, Nat.zero_le _, fun i hi => absurd hi (Nat.not_lt_zero _), rfl⟩
            case round =>
              obtain ⟨k3, m3, rfl, hk3, hok, rfl⟩ := hrel
              have HO := Lib.hid hok; clear hok
              by_cases hlt3 : k3 < σ.parts
              · have dr := hI.out.rows k3 hlt3
                have dm : wo.cell? ⟨w.heap.size, k3, none⟩ = some (.int .i64 (newCount L ss σ.parts k3)) := by
                  rw [cell_heap hrowS.out, intRow_get hlt3]
                have hlen := fun m => ((hI.out.drewN m).claims k3 hlt3).len Tryd.underlying82 3
                have hle : newCount L ss σ.parts k3 ≤ 1000000 := Nat.le_trans (List.length_filter_le _ _) hn
                have hfl := hI.out.full k3 hlt3
                have hr2 := hI.out.r2
                have hpc := hI.out.pc
                generalize hcnt : newCount L ss σ.parts k3 = cnt at *
                generalize hcl : (claimsOf L σ.parts k3).length = cl at *
                have HCN := Lib.hid hcnt; clear hcnt
                have HCL := Lib.hid hcl; clear hcl
                by_cases hz : 0 < cnt
                · by_cases hov : σ.room < cl + cnt
                  · go_wp2_with fail
                    go_quiet (fail)
                    go_wp2
                    go_ret
                    have hE : claimE σ.parts σ.room L ss = 5 := by
                      unfold claimE
                      rw [show claimE.allKeysP ss = allKeys ss from rfl, HA.out, if_pos rfl, if_pos hris.out, if_neg]
                      intro hro
                      have := hro k3 hlt3
                      rw [HCN.out, HCL.out] at this
                      omega
                    have hL : claimTo σ.parts σ.room L ss = L := by unfold claimTo; rw [hE]; rfl
                    rw [hE, hL]
                    exact ⟨rfl, hI.out.frame ((Fr.draw wo m3 nothing).drewN _) (fun _ _ => nothing_not), ((hfS.out.drewN _).drewN _).mono fun _ _ h => h.elim⟩
                  · go_wp2_with fail
                    go_quiet (fail)
                    go_wp2
                    go_roundw
                    case rel =>
                      refine ⟨k3 + 1, m3 + nq, by go_num, by omega, fun i hi => ?_, rfl⟩
                      by_cases he : i = k3
                      · subst he; rw [HCN.out, HCL.out]; omega
                      · exact HO.out i (by omega)
                    case measure => simp [intOf]; omega
                · have hz0 : cnt = 0 := by omega
                  subst hz0
                  go_wp2_with fail
                  go_quiet (fail)
                  go_wp2
                  go_roundw
                  case rel =>
                    refine ⟨k3 + 1, m3 + nq, by go_num, by omega, fun i hi => ?_, rfl⟩
                    by_cases he : i = k3
                    · subst he; rw [HCN.out, HCL.out]; omega
                    · exact HO.out i (by omega)
                  case measure => simp [intOf]; omega
              · obtain rfl : k3 = σ.parts := by omega
                have hroom := Lib.hid (roomFor_of HO.out)
                have HE := Lib.hid (show claimE σ.parts σ.room L ss = 0 by
                  unfold claimE
                  rw [show claimE.allKeysP ss = allKeys ss from rfl, HA.out, if_pos rfl, if_pos hris.out, if_pos hroom.out])
                clear HO hmk
                have hfm := Lib.hid ((hfS.out.drewN m3).mono (T := σ.maps) fun _ _ h => h.elim)
                go_wp2
                go_loopw [91] (fun i wr => ∃ k4 : Nat, i = .int .i64 k4 ∧ k4 ≤ ss.length ∧ IsStore wr σ (claimL L (ss.take k4)) ∧ Fr σ.maps w wr) (fun i _ => ss.length - (intOf i).toNat)
                case atStart => exact ⟨0, rfl, Nat.zero_le _, by simpa [claimL] using hI.out.drewN m3, hfm.out⟩
                case round =>
                  obtain ⟨k4, rfl, hk4, hst, hf4⟩ := hrel
                  have hS4 := Lib.hid hst; clear hst
                  have hF4 := Lib.hid hf4; clear hf4
                  by_cases hlt4 : k4 < ss.length
                  · obtain ⟨b, o, rfl, hc⟩ := (HS.out.frame hF4.out hd).cell hlt4
                    have hvk : validKey ss[k4] = true := List.all_eq_true.1 HA.out _ (List.getElem_mem hlt4)
                    have HVK := Lib.hid hvk; clear hvk
                    have hof := Lib.hid (of_any σ _ ss[k4] wr hS4.out (validKey_max HVK.out))
                    have hup : Hid (∀ m, ∃ w', (Instr.mapUpdate 82 (.map (some (σ.bm (partOf ss[k4] σ.parts)))) (.string ⟨ss[k4].toArray⟩) (.int .i64 1)).run Tryd.prog (wr.drewN m) = .ok () w' ∧ IsStore w' σ (claimL L (ss.take (k4 + 1))) ∧ Fr (fun b => b = σ.bm (partOf ss[k4] σ.parts)) (wr.drewN m) w') := by
                      intro m
                      rw [claimL_succ _ _ _ hlt4]
                      refine (hS4.out.drewN m).claim1 HVK.out fun i hi => ?_
                      rw [← claimL_succ _ _ _ hlt4, len_claimL H.out.ris ((rises_nodup hris.out).sublist (List.take_sublist _ _))]
                      have := hroom.out i hi
                      have := newCount_take_le L ss (k4 + 1) σ.parts i
                      omega
                    have hpl := partOf_lt ss[k4] σ.parts H.out.p1
                    clear hk
                    go_wp2_with (first | (go_at_call 42; refine hof.out.mono ?_; rintro e w' ⟨rfl, m, rfl⟩; obtain ⟨w5, hrun, hs5, hf5⟩ := hup.out m; have HS5 := Lib.hid hs5; clear hs5; have HF5 := Lib.hid hf5; clear hf5))
                    go_roundw
                    case rel => exact ⟨k4 + 1, by go_num, by omega, HS5.out, (hF4.out.drewN m).next HF5.out fun i _ e => by subst e; exact .inr ⟨_, hpl, rfl⟩⟩
                    case measure => simp [intOf]; omega
                  · obtain rfl : k4 = ss.length := by omega
                    rw [List.take_of_length_le (Nat.le_refl _)] at hS4
                    go_wp2
                    go_ret
                    rw [show claimTo σ.parts σ.room L ss = claimL L ss by unfold claimTo; rw [HE.out]; rfl, HE.out]
                    exact ⟨rfl, hS4.out, hF4.out⟩
end Go.Proofs.YtobccbakmcckiaaDoor
