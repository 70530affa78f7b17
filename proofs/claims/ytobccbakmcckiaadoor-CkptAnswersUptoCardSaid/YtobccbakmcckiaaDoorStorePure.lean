/- What claims and writes do to a store's list; no program. -/
import Derived.Test.YtobccbakmcckiaaDoorStore0
namespace Go.Proofs.YtobccbakmcckiaaDoor
open Go Go.RowKit

theorem before_less : ∀ (a b : List UInt8), bytesBefore a b = Op.bytesLess a b
  | [], [] => by simp [bytesBefore, Op.bytesLess]
  | [], _ :: _ => by simp [bytesBefore, Op.bytesLess]
  | _ :: _, [] => by simp [bytesBefore, Op.bytesLess]
  | a :: x, b :: y => by simp [bytesBefore, Op.bytesLess, before_less x y]

def claim1 (L : SL) (k : Key) : SL := if claimed L k then L else putM L k SVal.zero
def claimL (L : SL) (ss : List Key) : SL := ss.foldl claim1 L
def newCount (L : SL) (ss : List Key) (P i : Nat) : Nat := (ss.filter fun k => !claimed L k && partOf k P == i).length
/-- Do these rise? -/
def rises (ss : List Key) : Prop := ss.Pairwise fun a b => Op.bytesLess a b = true
instance (ss : List Key) : Decidable (rises ss) := by unfold rises; infer_instance
def roomFor (L : SL) (ss : List Key) (P room : Nat) : Prop := ∀ i, i < P → (claimsOf L P i).length + newCount L ss P i ≤ room
instance (L : SL) (ss : List Key) (P room : Nat) : Decidable (roomFor L ss P room) := by unfold roomFor; infer_instance
/-- What Claim answers, and leaves. -/
def claimE (P room : Nat) (L : SL) (ss : List Key) : Int :=
  if allKeysP ss then (if rises ss then (if roomFor L ss P room then 0 else 5) else 40) else 30
where allKeysP (ss : List Key) : Bool := ss.all validKey
def claimTo (P room : Nat) (L : SL) (ss : List Key) : SL := if claimE P room L ss = 0 then claimL L ss else L

theorem less_irrefl (a : Key) : Op.bytesLess a a = false := by rw [← before_less]; exact bb_irrefl a
theorem less_trans {a b c : Key} (h1 : Op.bytesLess a b = true) (h2 : Op.bytesLess b c = true) : Op.bytesLess a c = true := by
  rw [← before_less] at *
  have a1 : (Lit.string a).before (Lit.string b) = true := h1
  have a2 : (Lit.string b).before (Lit.string c) = true := h2
  exact WideShapes.before_trans a1 a2
theorem less_total {a b : Key} (h : Op.bytesLess a b = false) (hne : a ≠ b) : Op.bytesLess b a = true := by
  rw [← before_less] at *
  rcases ChangeMaps.before_total (a := Lit.string a) (b := Lit.string b) ⟨_, rfl⟩ ⟨_, rfl⟩ (fun e => hne (by injection e)) with h' | h'
  · have h'' : bytesBefore a b = true := h'
    rw [h] at h''; cases h''
  · exact h'
theorem rises_nodup {ss : List Key} (h : rises ss) : ss.Nodup := List.Pairwise.imp (fun {a b} hab e => by rw [e, less_irrefl] at hab; cases hab) h
/-- From neighbour to neighbour. -/
theorem rises_succ {ss : List Key} {k : Nat} (hk : k + 1 < ss.length) (h : rises (ss.take (k + 1))) (hl : Op.bytesLess ss[k] ss[k + 1] = true) : rises (ss.take (k + 2)) := by
  unfold rises at *
  rw [List.take_succ_eq_append_getElem (i := k + 1) hk, List.pairwise_append]
  refine ⟨h, List.pairwise_singleton _ _, fun a ha b hb => ?_⟩
  rw [List.mem_singleton.1 hb]
  rw [List.take_succ_eq_append_getElem (i := k) (by omega), List.mem_append, List.mem_singleton] at ha
  rcases ha with ha | rfl
  · refine less_trans ?_ hl
    rw [List.take_succ_eq_append_getElem (i := k) (by omega), List.pairwise_append] at h
    exact h.2.2 a ha _ (by simp)
  · exact hl
theorem rises_no {ss : List Key} {k : Nat} (hk : k + 1 < ss.length) (hl : Op.bytesLess ss[k] ss[k + 1] = false) : ¬ rises ss := by
  intro h
  have := (List.pairwise_iff_getElem.1 h) k (k + 1) (by omega) hk (by omega)
  rw [hl] at this; cases this

theorem claimed_iff {L : SL} (h : RisM L) {k : Key} : claimed L k = true ↔ ∃ v, (k, v) ∈ L := by
  unfold claimed
  rw [Option.isSome_iff_exists]
  exact ⟨fun ⟨v, hv⟩ => ⟨v, lookM_mem hv⟩, fun ⟨v, hv⟩ => ⟨v, lookM_of_mem h hv⟩⟩
theorem ris_claim1 {L : SL} (h : RisM L) (k : Key) : RisM (claim1 L k) := by
  unfold claim1; split
  · exact h
  · exact risM_putM h _ _
theorem look_claim1 {L : SL} (h : RisM L) (k k' : Key) : lookM (claim1 L k) k' = if k' = k ∧ claimed L k = false then some SVal.zero else lookM L k' := by
  unfold claim1
  cases hc : claimed L k
  · simp only [Bool.false_eq_true, if_false, and_true]
    rw [lookM_putM h]
  · simp
theorem claimed_claim1 {L : SL} (h : RisM L) (k k' : Key) : claimed (claim1 L k) k' = (claimed L k' || k' == k) := by
  unfold claimed
  rw [look_claim1 h]
  by_cases he : k' = k
  · subst he
    cases hc : claimed L k'
    · simp
    · unfold claimed at hc; simp [hc]
  · simp [he]
theorem get_claim1 {L : SL} (h : RisM L) (k k' : Key) : getV (claim1 L k) k' = getV L k' := by
  unfold getV
  rw [look_claim1 h]
  split
  · rename_i hc
    obtain ⟨rfl, hc⟩ := hc
    unfold claimed at hc
    cases hl : lookM L k' with
    | none => rfl
    | some v => rw [hl] at hc; cases hc
  · rfl
theorem ris_claimL {L : SL} (h : RisM L) (ss : List Key) : RisM (claimL L ss) := by
  unfold claimL
  induction ss generalizing L with
  | nil => exact h
  | cons k r ih => exact ih (ris_claim1 h k)
theorem get_claimL {L : SL} (h : RisM L) (ss : List Key) (k' : Key) : getV (claimL L ss) k' = getV L k' := by
  unfold claimL
  induction ss generalizing L with
  | nil => rfl
  | cons k r ih => rw [List.foldl_cons, ih (ris_claim1 h k), get_claim1 h]
theorem claimed_claimL {L : SL} (h : RisM L) (ss : List Key) (k' : Key) : claimed (claimL L ss) k' = (claimed L k' || ss.contains k') := by
  unfold claimL
  induction ss generalizing L with
  | nil => simp
  | cons k r ih =>
    rw [List.foldl_cons, ih (ris_claim1 h k), claimed_claim1 h, List.contains_cons, Bool.or_assoc]
theorem len_claim1 {L : SL} (k : Key) (P i : Nat) : (claimsOf (claim1 L k) P i).length = (claimsOf L P i).length + if !claimed L k && partOf k P == i then 1 else 0 := by
  unfold claim1
  cases hc : claimed L k
  · simp only [Bool.false_eq_true, if_false, Bool.not_false, Bool.true_and]
    have hn : lookM L k = none := by
      unfold claimed at hc
      cases hl : lookM L k with
      | none => rfl
      | some v => rw [hl] at hc; cases hc
    unfold claimsOf
    rw [List.length_map, List.length_map, ((perm_putM_new hn).filter _).length_eq, List.filter_cons]
    split <;> simp_all
  · simp
theorem new_claim1 {L : SL} (h : RisM L) {k : Key} {r : List Key} (hk : k ∉ r) (P i : Nat) : newCount (claim1 L k) r P i = newCount L r P i := by
  unfold newCount
  congr 1
  refine List.filter_congr fun x hx => ?_
  rw [claimed_claim1 h]
  have : (x == k) = false := by rw [beq_eq_false_iff_ne]; rintro rfl; exact hk hx
  rw [this, Bool.or_false]
theorem len_claimL {L : SL} (h : RisM L) {ss : List Key} (hn : ss.Nodup) (P i : Nat) : (claimsOf (claimL L ss) P i).length = (claimsOf L P i).length + newCount L ss P i := by
  unfold claimL
  induction ss generalizing L with
  | nil => simp [newCount]
  | cons k r ih =>
    obtain ⟨h1, h2⟩ := List.nodup_cons.1 hn
    rw [List.foldl_cons, ih (ris_claim1 h k) h2, len_claim1, new_claim1 h h1]
    unfold newCount
    rw [List.filter_cons]
    split <;> simp_all <;> omega
theorem newCount_take_le (L : SL) (ss : List Key) (k P i : Nat) : newCount L (ss.take k) P i ≤ newCount L ss P i := by
  unfold newCount
  exact ((List.take_sublist k ss).filter _).length_le
theorem newCount_succ (L : SL) (ss : List Key) (k P i : Nat) (hk : k < ss.length) : newCount L (ss.take (k + 1)) P i = newCount L (ss.take k) P i + if !claimed L ss[k] && partOf ss[k] P == i then 1 else 0 := by
  unfold newCount
  rw [List.take_succ_eq_append_getElem hk, List.filter_append, List.length_append]
  congr 1
  rw [List.filter_cons]
  split <;> simp
theorem claimL_succ (L : SL) (ss : List Key) (k : Nat) (hk : k < ss.length) : claimL L (ss.take (k + 1)) = claim1 (claimL L (ss.take k)) ss[k] := by
  unfold claimL
  rw [List.take_succ_eq_append_getElem hk, List.foldl_append]; rfl
end Go.Proofs.YtobccbakmcckiaaDoor
