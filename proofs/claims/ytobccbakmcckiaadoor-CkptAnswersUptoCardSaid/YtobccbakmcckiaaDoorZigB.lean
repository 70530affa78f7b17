/- What Take builds anew: the list itself; no program. -/
import Derived.Test.YtobccbakmcckiaaDoorZigA
namespace Go.Proofs.YtobccbakmcckiaaDoor
open Go Go.RowKit

def wsOf (L : SL) : List SWr := L.map fun p => ⟨p.1, false, p.2⟩
theorem look_applyL_out {L : SL} (h : RisM L) : ∀ (ws : List SWr) {k : Key}, (∀ x ∈ ws, x.key ≠ k) → lookM (applyL L ws) k = lookM L k := by
  intro ws
  induction ws generalizing L with
  | nil => intro k _; rfl
  | cons x r ih =>
    intro k hk
    show lookM (applyL (setL L x) r) k = _
    rw [ih (ris_setL h x) fun y hy => hk y (by simp [hy]), look_setL h, if_neg fun e => hk x (by simp) e.symm]
theorem look_applyL_in {L : SL} (h : RisM L) : ∀ (ws : List SWr), ws.Pairwise (fun a b => a.key ≠ b.key) → ∀ x ∈ ws, lookM (applyL L ws) x.key = some x.val := by
  intro ws
  induction ws generalizing L with
  | nil => intro _ x hx; cases hx
  | cons y r ih =>
    intro hd x hx
    obtain ⟨h1, h2⟩ := List.pairwise_cons.1 hd
    show lookM (applyL (setL L y) r) x.key = _
    rcases List.mem_cons.1 hx with rfl | hx
    · rw [look_applyL_out (ris_setL h x) r fun z hz => (h1 z hz).symm, look_setL h, if_pos rfl]
    · exact ih (ris_setL h y) h2 x hx
theorem ris_less {L : SL} (h : RisM L) : L.Pairwise fun a b => Op.bytesLess a.1 b.1 = true := h.imp fun {a b} e => by rw [← before_less]; exact e
theorem ris_nil : RisM ([] : SL) := List.Pairwise.nil
theorem claimed_nil (k : Key) : claimed [] k = false := rfl
theorem wsOf_apart {L : SL} (h : RisM L) : (wsOf L).Pairwise fun a b => a.key ≠ b.key := by
  unfold wsOf
  rw [List.pairwise_map]
  refine (ris_less h).imp fun {a b} e he => ?_
  dsimp only at he
  rw [he, less_irrefl] at e; cases e
theorem build_eq {L : SL} (h : RisM L) : applyL (claimL [] (keysOf L)) (wsOf L) = L := by
  have hr := ris_claimL ris_nil (keysOf L)
  refine risM_ext (ris_applyL hr _) h fun k => ?_
  cases hl : lookM L k with
  | some v =>
    have hm := lookM_mem hl
    exact look_applyL_in hr (wsOf L) (wsOf_apart h) ⟨k, false, v⟩ (List.mem_map.2 ⟨(k, v), hm, rfl⟩)
  | none =>
    have hn : ∀ p ∈ L, p.1 ≠ k := fun p hp e => by
      have := lookM_of_mem h (k := p.1) (v := p.2) hp
      rw [e, hl] at this; cases this
    rw [look_applyL_out hr _ fun x hx => by obtain ⟨p, hp, rfl⟩ := List.mem_map.1 hx; exact hn p hp]
    have hc : claimed (claimL [] (keysOf L)) k = false := by
      rw [claimed_claimL ris_nil, claimed_nil, Bool.false_or]
      rw [Bool.eq_false_iff]
      intro e
      have e : k ∈ keysOf L := by simpa using e
      obtain ⟨p, hp, e⟩ := List.mem_map.1 e
      exact hn p hp e
    unfold claimed at hc
    cases hx : lookM (claimL [] (keysOf L)) k with
    | none => rfl
    | some v => rw [hx] at hc; cases hc
theorem mayFrom_wsOf {L L0 : SL} (hr : RisM L0) (hk : ∀ p ∈ L0, validKey p.1 = true) (hv : ∀ p ∈ L0, validVal p.2 = true) (hc : ∀ p ∈ L0, claimed L p.1 = true) :
    ∀ (prev : Option Key), (∀ p ∈ L0, behind prev p.1 = true) → mayFrom L prev (wsOf L0) = 0 := by
  induction L0 with
  | nil => intro _ _; rfl
  | cons p r ih =>
    intro prev hp
    obtain ⟨h1, h2⟩ := List.pairwise_cons.1 hr
    have h0 : may1 L prev ⟨p.1, false, p.2⟩ = 0 := by
      unfold may1
      rw [if_pos (hk p (by simp)), if_pos (hp p (by simp)), if_pos (hc p (by simp)), if_pos (hv p (by simp))]
      rfl
    show (if may1 L prev ⟨p.1, false, p.2⟩ = 0 then mayFrom L (some p.1) (wsOf r) else _) = 0
    rw [if_pos h0]
    refine ih h2 (fun q hq => hk q (by simp [hq])) (fun q hq => hv q (by simp [hq])) (fun q hq => hc q (by simp [hq])) _ fun q hq => ?_
    have := h1 q hq
    show Op.bytesLess p.1 q.1 = true
    rw [← before_less]; exact this
theorem claimE_build {L : SL} (P room : Nat) (h : RisM L) (hk : ∀ p ∈ L, validKey p.1 = true) (hf : ∀ i, i < P → (claimsOf L P i).length ≤ room) : claimE P room [] (keysOf L) = 0 := by
  unfold claimE
  have h1 : claimE.allKeysP (keysOf L) = true := by
    unfold claimE.allKeysP
    rw [List.all_eq_true]
    intro k hk'
    obtain ⟨p, hp, rfl⟩ := List.mem_map.1 hk'
    exact hk p hp
  have h2 : rises (keysOf L) := by
    unfold rises keysOf
    rw [List.pairwise_map]; exact ris_less h
  have h3 : roomFor [] (keysOf L) P room := fun i hi => by
    have e : newCount [] (keysOf L) P i = (claimsOf L P i).length := by
      unfold newCount claimsOf keysOf
      rw [List.filter_map, List.length_map, List.length_map]
      rfl
    rw [e]
    have := hf i hi
    simpa [claimsOf] using this
  rw [if_pos h1, if_pos h2, if_pos h3]
theorem applyE_build {L : SL} (h : RisM L) (hk : ∀ p ∈ L, validKey p.1 = true) (hv : ∀ p ∈ L, validVal p.2 = true) : applyE (claimL [] (keysOf L)) (wsOf L) = 0 := by
  refine mayFrom_wsOf h hk hv (fun p hp => ?_) none fun _ _ => rfl
  rw [claimed_claimL ris_nil]
  have : p.1 ∈ keysOf L := List.mem_map.2 ⟨p, hp, rfl⟩
  simp [this]
end Go.Proofs.YtobccbakmcckiaaDoor
