/- Apply, whole. -/
import Derived.Test.YtobccbakmcckiaaDoorMay
import Derived.StillTailTactics
namespace Go.Proofs.YtobccbakmcckiaaDoor
open Go Go.RowKit

theorem enc_zero_of {v : SVal} (h : validVal v = true) (h0 : v.kind = 0) : v = SVal.zero := by
  obtain ⟨k, n, t⟩ := v
  simp only at h0
  subst h0
  simp [validVal] at h
  obtain ⟨rfl, rfl⟩ := h
  rfl

/-- What the loop's round leaves: the value stored; struck out again where it is none. -/
theorem IsStore.set {w : World} {σ : SB} {L : SL} (h : IsStore w σ L) {x : SWr} (hk : validKey x.key = true) (hc : claimed L x.key = true) (hv : validVal x.val = true) {w' : World} {m : M}
    (hm : MapAt Tryd.prog 9 w' σ.bv m) (he : m = if x.val.kind = 0 then delM (putM (valsOf L) x.key x.val.enc) x.key else putM (valsOf L) x.key x.val.enc) (hfr : Fr (fun b => b = σ.bv) w w') : IsStore w' σ (setL L x) := by
  have hris := ris_setL h.ris x
  have e1 : ∀ i, claimsOf (setL L x) σ.parts i = claimsOf L σ.parts i := fun i => by
    refine risM_ext (risM_claimsOf hris _ _) (risM_claimsOf h.ris _ _) fun k' => ?_
    rw [look_claimsOf h.ris, look_claimsOf hris]
    have := claimed_setL h.ris hc k'
    unfold claimed at this
    rw [this]
  have e2 : m = valsOf (setL L x) := by
    rw [he]
    have hr := risM_putM (risM_valsOf h.ris) x.key x.val.enc
    refine risM_ext ?_ (risM_valsOf hris) fun k' => ?_
    · split
      · exact risM_delM hr _
      · exact hr
    · rw [look_valsOf hris, look_setL h.ris]
      split
      · rename_i h0
        rw [lookM_delM, lookM_putM (risM_valsOf h.ris), look_valsOf h.ris]
        by_cases hkk : k' = x.key
        · simp [hkk, h0]
        · simp [hkk]
      · rename_i h0
        rw [lookM_putM (risM_valsOf h.ris), look_valsOf h.ris]
        by_cases hkk : k' = x.key
        · simp [hkk, h0]
        · simp [hkk]
  have hmm := h.ne2 _ (.inl rfl)
  exact {
    p1 := h.p1, p2 := h.p2, pc := h.pc, r1 := h.r1, r2 := h.r2
    c0 := hfr.cellOf h.c0 (fun e => hmm.1 e.symm)
    c1 := hfr.cellOf h.c1 (fun e => hmm.1 e.symm)
    c2 := hfr.cellOf h.c2 (fun e => hmm.1 e.symm)
    rows := fun i hi => hfr.cellOf (h.rows i hi) (fun e => hmm.2 e.symm)
    claims := fun i hi => by
      rw [e1 i]
      exact (h.claims i hi).kept (hfr.block _ (h.claims i hi).lt (h.ne3 i hi))
    vals := by rw [← e2]; exact hm
    ris := hris
    keys := fun p hp' => by
      rcases mem_putM.1 hp' with rfl | ⟨hp', _⟩
      · exact hk
      · exact h.keys p hp'
    good := fun p hp' => by
      rcases mem_putM.1 hp' with rfl | ⟨hp', _⟩
      · exact hv
      · exact h.good p hp'
    full := fun i hi => by rw [e1]; exact h.full i hi
    ne1 := h.ne1, ne2 := h.ne2, ne3 := h.ne3, ne4 := h.ne4 }

theorem valsOf_len (L : SL) : (valsOf L).length ≤ L.length := by unfold valsOf; rw [List.length_map]; exact List.length_filter_le _ _
/-- All claims together. -/
theorem len_parts (L : SL) (P : Nat) (h1 : 1 ≤ P) : L.length = ((List.range P).map fun i => (claimsOf L P i).length).sum := by
  induction L with
  | nil =>
    simp only [claimsOf, List.filter_nil, List.map_nil, List.length_nil]
    generalize List.range P = l
    induction l with
    | nil => rfl
    | cons a r ih => simp only [List.map_cons, List.sum_cons]; omega
  | cons p r ih =>
    have hp := partOf_lt p.1 P h1
    have : (List.range P).map (fun i => (claimsOf (p :: r) P i).length) = (List.range P).map fun i => (claimsOf r P i).length + if i = partOf p.1 P then 1 else 0 := by
      refine List.map_congr_left fun i _ => ?_
      unfold claimsOf
      rw [List.filter_cons, List.length_map, List.length_map]
      by_cases hi : i = partOf p.1 P
      · subst hi; simp
      · have : (partOf p.1 P == i) = false := by rw [beq_eq_false_iff_ne]; exact fun e => hi e.symm
        simp [this, hi]
    rw [this, List.length_cons, ih]
    generalize partOf p.1 P = j at hp
    clear this ih
    have : ∀ n, ((List.range n).map fun i => (claimsOf r P i).length + if i = j then 1 else 0).sum = ((List.range n).map fun i => (claimsOf r P i).length).sum + if j < n then 1 else 0 := by
      intro n
      induction n with
      | zero => simp
      | succ n ih =>
        rw [List.range_succ, List.map_append, List.sum_append, List.map_append, List.sum_append, ih]
        by_cases hj : j < n
        · have : ¬ n = j := by omega
          simp [hj, this, Nat.lt_succ_of_lt hj]; omega
        · by_cases hj2 : n = j
          · subst hj2; simp; omega
          · have : ¬ j < n + 1 := by omega
            simp [hj, hj2, this]
    rw [this, if_pos hp]
theorem sum_le_of {l : List Nat} {b : Nat} (h : ∀ x ∈ l, x ≤ b) : l.sum ≤ l.length * b := by
  induction l with
  | nil => simp
  | cons x r ih =>
    rw [List.sum_cons, List.length_cons, Nat.succ_mul]
    have := h x (by simp)
    have := ih fun y hy => h y (by simp [hy])
    omega
theorem IsStore.len {w : World} {σ : SB} {L : SL} (h : IsStore w σ L) : L.length ≤ 262144 := by
  rw [len_parts L σ.parts h.p1]
  have h1 := sum_le_of (l := (List.range σ.parts).map fun i => (claimsOf L σ.parts i).length) (b := 4096) fun x hx => by
    obtain ⟨i, hi, rfl⟩ := List.mem_map.1 hx
    exact Nat.le_trans (h.full i (List.mem_range.1 hi)) h.r2
  rw [List.length_map, List.length_range] at h1
  have := h.p2
  omega

set_option maxHeartbeats 2000000 in
theorem apply_any (σ : SB) (L : SL) (p : Option Addr) (cap : Nat) (ws : List SWr) (w : World) (h : IsStore w σ L) (hw : WrsAt w p ws) (hn : ws.length ≤ 1000000) (hk : ∀ x ∈ ws, x.key.length ≤ maxLen ∧ x.val.text.length ≤ maxLen) (hd : ∀ a, p = some a → ¬ σ.maps a.block) :
    Calls Tryd.prog 27 #[.pointer (some ⟨σ.bs, 0, none⟩), .slice p ws.length cap] w fun e w' => e = .returned (.int .i64 (applyE L ws)) ∧ IsStore w' σ (applyTo L ws) ∧ Fr σ.maps w w' := by
  have hmay := Lib.hid (may_any σ L p cap ws w h hw hn hk)
  have H := Lib.hid h; clear h
  have HW := Lib.hid hw; clear hw
  have HK := Lib.hid hk; clear hk
  by_cases hE : applyE L ws = 0
  · have hmay2 := Lib.hid (hmay.out.mono (R' := fun e w' => e = .returned (.int .i64 0) ∧ Fr nothing w w') fun e w' ⟨h1, h2⟩ => ⟨by rw [h1, hE], h2⟩)
    have HE := Lib.hid hE
    have hall := Lib.hid (may_all (show mayFrom L none ws = 0 from hE))
    clear hmay hE
    go_enter Tryd.func27, Tryd.ntmps27
    go_wp2_with (go_at_call 44; refine hmay2.out.mono ?_; rintro e w1 ⟨rfl, hf1⟩; have HF1 := Lib.hid hf1; clear hf1)
    go_loopw [18] (fun i wr => ∃ k : Nat, i = .int .i64 k ∧ k ≤ ws.length ∧ IsStore wr σ (applyL L (ws.take k)) ∧ Fr σ.maps w wr) (fun i _ => ws.length - (intOf i).toNat)
    case atStart => exact ⟨0, rfl, Nat.zero_le _, H.out.frame HF1.out fun _ _ => nothing_not, HF1.out.mono fun _ _ h => h.elim⟩
    case round =>
      obtain ⟨k, rfl, hk1, hst, hfr⟩ := hrel
      have HS := Lib.hid hst; clear hst
      have HF := Lib.hid hfr; clear hfr
      by_cases hlt : k < ws.length
      · obtain ⟨b, o, rfl, a0, a1, a2, a3, a4⟩ := (HW.out.frame HF.out hd).cell hlt
        have hb := cell_lt a0
        dsimp only at hb
        have hx := hall.out _ (List.getElem_mem hlt)
        have hsucc := Lib.hid (applyL_succ L ws k hlt)
        have hcl : claimed (applyL L (ws.take k)) ws[k].key = true := by
          rw [claimed_applyL H.out.ris (fun y hy => (hall.out y (List.mem_of_mem_take hy)).2.1)]
          exact hx.2.1
        obtain ⟨X, hX⟩ : ∃ X : Obj, X = .cells #[.string ⟨ws[k].key.toArray⟩, .bool ws[k].gone, .int .i64 ws[k].val.kind, .int .i64 ws[k].val.num, .string ⟨ws[k].val.text.toArray⟩] 67 := ⟨_, rfl⟩
        have hs1 := (HS.out.frame (show Fr nothing wr (wr.alloc X).drew from ((Fr.refl nothing wr).alloc X).drewN 1) fun _ _ => nothing_not)
        have hlen := hs1.len
        have hvl := valsOf_len (applyL L (ws.take k))
        obtain ⟨w5, hrun, hm5, ht5⟩ := hs1.vals.store Tryd.underlying9 Tryd.underlying78 (by unfold maxLen; omega) ws[k].key ws[k].val.enc (validKey_max hx.1)
        have hf5 := Fr.turned ht5
        obtain ⟨w6, hrun6, hm6, ht6⟩ := (hm5.kept (w' := w5.drew) rfl).drop Tryd.underlying9 Tryd.underlying78 ws[k].key (validKey_max hx.1) 0
        have hf6 := Fr.turned ht6
        have c2 : wr.cell? ⟨σ.bs, 2, none⟩ = some (.map (some σ.bv)) := HS.out.c2
        have hbs := HS.out.lt (.inl rfl)
        subst hX
        simp only [SVal.enc, SVal.cells, SVal.str] at hrun
        clear hlen hvl
        have hbv : σ.bv < wr.heap.size := HS.out.lt (.inr (.inr (.inl rfl)))
        have g0 := hf5.cellOf (p := ⟨wr.heap.size, 0, none⟩) (cell_new (w := wr) 0) (by show ¬ wr.heap.size = σ.bv; omega)
        have g2 := hf5.cellOf (p := ⟨wr.heap.size, 2, none⟩) (cell_new (w := wr) 2) (by show ¬ wr.heap.size = σ.bv; omega)
        have d2 := hf5.cellOf (p := ⟨σ.bs, 2, none⟩) hs1.c2 (by have := hs1.ne2 _ (.inl rfl); exact fun e => this.1 e.symm)
        have HF5 := Lib.hid hf5; clear hf5
        have HF6 := Lib.hid hf6; clear hf6
        have HS1 := Lib.hid hs1; clear hs1
        have HM5 := Lib.hid hm5; clear hm5
        have HM6 := Lib.hid hm6; clear hm6
        have HX := Lib.hid hx; clear hx
        have HC := Lib.hid hcl; clear hcl
        clear ht5 ht6
        have hF1 := Lib.hid (show Fr σ.maps w (wr.alloc (.cells #[.string ⟨ws[k].key.toArray⟩, .bool ws[k].gone, .int .i64 ws[k].val.kind, .int .i64 ws[k].val.num, .string ⟨ws[k].val.text.toArray⟩] 67)).drew from (HF.out.alloc _).drewN 1)
        by_cases h0 : ws[k].val.kind = 0
        · have H0 := Lib.hid h0
          have hb0 : (ws[k].val.kind == 0) = true := by simp [h0]
          clear h0
          go_wp2_with fail
          go_region
          go_wp2_with fail
          go_region
          go_wp2
          go_roundw
          case rel =>
            refine ⟨k + 1, by go_num, by omega, ?_, (hF1.out.next HF5.out fun i _ e => .inl e).next (T := fun b => b = σ.bv) (by have := HF6.out; exact (show Fr _ w5 w5.drew from (Fr.refl _ _).drewN 1).trans this) fun i _ e => .inl e⟩
            rw [hsucc.out]
            exact HS1.out.set HX.out.1 HC.out HX.out.2.2 HM6.out (if_pos H0.out).symm (HF5.out.trans ((show Fr _ w5 w5.drew from (Fr.refl _ _).drewN 1).trans HF6.out))
          case measure => simp [intOf]; omega
        · have H0 := Lib.hid h0
          have hb0 : (ws[k].val.kind == 0) = false := by simp [h0]
          clear h0
          go_wp2_with fail
          go_region
          go_wp2
          go_roundw
          case rel =>
            refine ⟨k + 1, by go_num, by omega, ?_, hF1.out.next HF5.out fun i _ e => .inl e⟩
            rw [hsucc.out]
            exact HS1.out.set HX.out.1 HC.out HX.out.2.2 HM5.out (if_neg H0.out).symm HF5.out
          case measure => simp [intOf]; omega
      · obtain rfl : k = ws.length := by omega
        rw [List.take_of_length_le (Nat.le_refl _)] at HS
        go_wp2
        go_ret
        exact ⟨by rw [HE.out]; rfl, by unfold applyTo; rw [if_pos HE.out]; exact HS.out, HF.out⟩
  · have hmay2 := Lib.hid hmay.out
    have HE := Lib.hid hE
    have hne : (applyE L ws == 0) = false := by simp [hE]
    obtain ⟨r, hr⟩ : ∃ r, r = applyE L ws := ⟨_, rfl⟩
    rw [← hr] at hmay2 hne
    have HR := Lib.hid hr
    clear hmay hE hr
    go_enter Tryd.func27, Tryd.ntmps27
    go_wp2_with (go_at_call 44; refine hmay2.out.mono ?_; rintro e w1 ⟨rfl, hf1⟩; have HF1 := Lib.hid hf1; clear hf1)
    go_ret
    exact ⟨by rw [← HR.out]; rfl, by unfold applyTo; rw [if_neg HE.out]; exact H.out.frame HF1.out fun _ _ => nothing_not, HF1.out.mono fun _ _ h => h.elim⟩
end Go.Proofs.YtobccbakmcckiaaDoor
