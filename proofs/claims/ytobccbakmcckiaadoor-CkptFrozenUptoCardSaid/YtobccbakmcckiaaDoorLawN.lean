/- CkptFrozen: a Zig and a store's claims; no program but the store's list. -/
import Derived.Test.YtobccbakmcckiaaDoorLawM
namespace Go.Proofs.YtobccbakmcckiaaDoor
open Go Go.RowKit Go.Sort

theorem claimed_keys {L L' : SL} (h : keysOf L = keysOf L') (k : Key) : claimed L k = claimed L' k := by
  unfold claimed
  exact look_some_iff h k
theorem claimsOf_eq (L : SL) (P i : Nat) : claimsOf L P i = ((keysOf L).filter fun k => partOf k P == i).map fun k => (k, .int .i64 1) := by
  unfold claimsOf keysOf
  rw [List.filter_map, List.map_map]
  rfl
theorem claimE_keys {L L' : SL} (h : keysOf L = keysOf L') (P R : Nat) (ss : List Key) : claimE P R L ss = claimE P R L' ss := by
  have h1 : ∀ i, newCount L ss P i = newCount L' ss P i := fun i => by
    unfold newCount
    congr 1
    exact List.filter_congr fun k _ => by rw [claimed_keys h]
  have h2 : roomFor L ss P R ↔ roomFor L' ss P R := by
    unfold roomFor
    simp only [h1, claimsOf_eq, h]
  unfold claimE
  by_cases h3 : roomFor L ss P R
  · rw [if_pos h3, if_pos (h2.1 h3)]
  · rw [if_neg h3, if_neg (fun e => h3 (h2.2 e))]
theorem keysOf_claim1 {L L' : SL} (h : keysOf L = keysOf L') (k : Key) : keysOf (claim1 L k) = keysOf (claim1 L' k) := by
  unfold claim1
  rw [claimed_keys h]
  split
  · exact h
  · exact fst_putM k _ _ h
theorem keysOf_claimL : ∀ (ss : List Key) {L L' : SL}, keysOf L = keysOf L' → keysOf (claimL L ss) = keysOf (claimL L' ss)
  | [], _, _, h => h
  | k :: r, L, L', h => by
    show keysOf (claimL (claim1 L k) r) = keysOf (claimL (claim1 L' k) r)
    exact keysOf_claimL r (keysOf_claim1 h k)
theorem keysOf_claimTo {L L' : SL} (h : keysOf L = keysOf L') (P R : Nat) (ss : List Key) : keysOf (claimTo P R L ss) = keysOf (claimTo P R L' ss) := by
  unfold claimTo
  rw [claimE_keys h]
  split
  · exact keysOf_claimL ss h
  · exact h
theorem keysOf_applyL : ∀ (ws : List SWr) {L : SL}, RisM L → (∀ x ∈ ws, claimed L x.key = true) → keysOf (applyL L ws) = keysOf L
  | [], _, _, _ => rfl
  | x :: r, L, hr, hc => by
    show keysOf (applyL (setL L x) r) = _
    rw [keysOf_applyL r (ris_setL hr x) (fun y hy => by rw [claimed_setL hr (hc x (by simp))]; exact hc y (by simp [hy])), keys_setL hr (hc x (by simp))]
theorem keysOf_applyTo {L : SL} (h : RisM L) (ws : List SWr) : keysOf (applyTo L ws) = keysOf L := by
  unfold applyTo
  split
  · rename_i he
    exact keysOf_applyL ws h fun x hx => (may_all he x hx).2.1
  · rfl

/-- A Zig and a store, apart, of the same parts and room. -/
structure ZS (w0 w : World) (ζ : ZG) (σ : SB) (Ls : SL) : Prop where
  z : IsZig w ζ
  s : IsStore w σ Ls
  sh : ζ.σ.parts = σ.parts ∧ ζ.σ.room = σ.room
  ap : ∀ k, ζ.fp k → σ.all k → False
  lz : ∀ k, ζ.fp k → w0.heap.size ≤ k
  ls : ∀ k, σ.all k → w0.heap.size ≤ k
  fr : Fr nothing w0 w
  env : Env w
  glob : 2 < w0.heap.size
theorem ZS.next {w0 w w' : World} {ζ : ZG} {σ : SB} {Ls : SL} (h : ZS w0 w ζ σ Ls) (hf : Fr nothing w w') : ZS w0 w' ζ σ Ls :=
  ⟨h.z.frame hf fun _ _ => nothing_not, h.s.frame hf fun _ _ => nothing_not, h.sh, h.ap, h.lz, h.ls, h.fr.trans hf, h.env.frame hf nothing_not, h.glob⟩
theorem ZS.step {w0 w w' : World} {ζ ζ' : ZG} {σ : SB} {Ls : SL} (h : ZS w0 w ζ σ Ls) (hs : ZStep w ζ w' ζ') : ZS w0 w' ζ' σ Ls where
  z := hs.is
  s := h.s.frame hs.fr fun k hk hz => h.ap k hz hk
  sh := by rw [hs.σ]; exact h.sh
  ap k hk hy := by
    rcases hs.fp k hk with h1 | h1
    · exact h.ap k h1 hy
    · have := h.s.lt hy; omega
  lz k hk := by
    rcases hs.fp k hk with h1 | h1
    · exact h.lz k h1
    · have := h.fr.size; omega
  ls := h.ls
  fr := h.fr.next hs.fr fun i hi hk => by have := h.lz _ hk; omega
  env := h.env.frame hs.fr fun hk => by have := h.lz _ hk; have := h.glob; omega
  glob := h.glob
theorem maps_all {σ : SB} {k : Nat} (h : σ.maps k) : σ.all k := .inr (.inr h)
theorem ZS.store {w0 w w' : World} {ζ : ZG} {σ : SB} {Ls Ls' : SL} (h : ZS w0 w ζ σ Ls) (hs : IsStore w' σ Ls') (hf : Fr σ.maps w w') : ZS w0 w' ζ σ Ls' where
  z := h.z.frame hf fun k hk hm => h.ap k hk (maps_all hm)
  s := hs
  sh := h.sh
  ap := h.ap
  lz := h.lz
  ls := h.ls
  fr := h.fr.next hf fun i hi hk => by have := h.ls _ (maps_all hk); omega
  env := h.env.frame hf fun hk => by have := h.ls _ (maps_all hk); have := h.glob; omega
  glob := h.glob
theorem ZS.start {w0 w1 w2 : World} {ζ : ZG} {σ : SB} {P R : Nat} (hz : IsZig w1 ζ) (hy : IsStore w2 σ []) (hf1 : Fr nothing w0 w1) (hf2 : Fr nothing w1 w2) (pz : ζ.σ.parts = P) (rz : ζ.σ.room = R) (py : σ.parts = P) (ry : σ.room = R)
    (lz : ∀ k, ζ.fp k → w0.heap.size ≤ k) (ly : ∀ k, σ.all k → w1.heap.size ≤ k) (he : Env w0) : ZS w0 w2 ζ σ [] where
  z := hz.frame hf2 fun _ _ => nothing_not
  s := hy
  sh := ⟨pz.trans py.symm, rz.trans ry.symm⟩
  ap k h1 h2 := by have := hz.lt h1; have := ly k h2; omega
  lz := lz
  ls k hk := by have := ly k hk; have := hf1.size; omega
  fr := hf1.trans hf2
  env := he.frame (hf1.trans hf2) nothing_not
  glob := he.lt

/-- Where the keys, the copies, the bits of the last Begin lie: far from both. -/
structure Row (w : World) (ζ : ZG) (σ : SB) (p : Option Addr) (n : Nat) : Prop where
  far : 0 < n → ∀ a, p = some a → ¬ ζ.fp a.block ∧ ¬ σ.all a.block ∧ a.block < w.heap.size
end Go.Proofs.YtobccbakmcckiaaDoor
