/- The store in memory: what its blocks hold; of, Claimed, Get, Parts. -/
import Derived.Test.YtobccbakmcckiaaDoorValue
namespace Go.Proofs.YtobccbakmcckiaaDoor
open Go Go.RowKit

abbrev SL := List (Key × SVal)
/-- The claims of partition i, and the values, as the maps hold them. -/
def claimsOf (L : SL) (P i : Nat) : M := (L.filter fun p => partOf p.1 P == i).map fun p => (p.1, .int .i64 1)
def valsOf (L : SL) : M := (L.filter fun p => !(p.2.kind == 0)).map fun p => (p.1, p.2.enc)

theorem lookM_map {α β : Type} (L : List (Key × α)) (f : α → β) (k : Key) : lookM (L.map fun p => (p.1, f p.2)) k = (lookM L k).map f := by
  unfold lookM
  rw [List.find?_map]
  have : ((fun p : Key × β => p.1 == k) ∘ fun p : Key × α => (p.1, f p.2)) = fun p => p.1 == k := rfl
  rw [this]
  cases List.find? (fun p => p.1 == k) L <;> rfl
theorem risM_map {α β : Type} {L : List (Key × α)} (h : RisM L) (f : α → β) : RisM (L.map fun p => (p.1, f p.2)) := by
  unfold RisM; rw [List.pairwise_map]; exact h
theorem lookM_filter {α : Type} {L : List (Key × α)} (h : RisM L) (q : Key × α → Bool) (k : Key) : lookM (L.filter q) k = (lookM L k).filter fun v => q (k, v) := by
  cases hl : lookM L k with
  | none =>
    rw [lookM_none] at hl
    rw [Option.filter_none, lookM_none]
    exact fun p hp => hl p (List.mem_filter.1 hp).1
  | some v =>
    have hm := lookM_mem hl
    cases hq : q (k, v) with
    | true => rw [Option.filter_some_pos (by simpa using hq)]; exact lookM_of_mem (h.filter _) (List.mem_filter.2 ⟨hm, hq⟩)
    | false =>
      rw [Option.filter_some_neg (by simp [hq]), lookM_none]
      intro p hp e
      obtain ⟨h1, h2⟩ := List.mem_filter.1 hp
      have : lookM L k = some p.2 := lookM_of_mem h (by rw [← e]; exact h1)
      rw [hl] at this
      injection this with this
      rw [this, ← e] at hq
      rw [h2] at hq
      cases hq
theorem risM_claimsOf {L : SL} (h : RisM L) (P i : Nat) : RisM (claimsOf L P i) := risM_map (h.filter _) (fun _ => Value.int .i64 1)
theorem risM_valsOf {L : SL} (h : RisM L) : RisM (valsOf L) := risM_map (h.filter _) SVal.enc
theorem look_claimsOf {L : SL} (h : RisM L) (P i : Nat) (k : Key) : lookM (claimsOf L P i) k = if partOf k P = i ∧ (lookM L k).isSome then some (.int .i64 1) else none := by
  unfold claimsOf
  rw [lookM_map _ (fun _ => Value.int .i64 1), lookM_filter h]
  cases hl : lookM L k <;> by_cases h1 : partOf k P = i <;> simp [h1, Option.filter]
theorem look_valsOf {L : SL} (h : RisM L) (k : Key) : lookM (valsOf L) k = (lookM L k).bind fun v => if v.kind = 0 then none else some v.enc := by
  unfold valsOf
  rw [lookM_map _ SVal.enc, lookM_filter h]
  cases hl : lookM L k with
  | none => rfl
  | some v => by_cases h1 : v.kind = 0 <;> simp [h1, Option.filter]

/-- A store's blocks: the struct, the row of claims, the map of values, the maps of claims; how many; the room. -/
structure SB where
  bs : Nat
  bc : Nat
  bv : Nat
  cap : Nat
  parts : Nat
  room : Nat
  bm : Nat → Nat
def SB.maps (σ : SB) (k : Nat) : Prop := k = σ.bv ∨ ∃ i, i < σ.parts ∧ k = σ.bm i
def SB.all (σ : SB) (k : Nat) : Prop := k = σ.bs ∨ k = σ.bc ∨ σ.maps k

structure IsStore (w : World) (σ : SB) (L : SL) : Prop where
  p1 : 1 ≤ σ.parts
  p2 : σ.parts ≤ 64
  pc : σ.parts ≤ σ.cap
  r1 : 1 ≤ σ.room
  r2 : σ.room ≤ 4096
  c0 : w.cell? ⟨σ.bs, 0, none⟩ = some (.int .i64 σ.room)
  c1 : w.cell? ⟨σ.bs, 1, none⟩ = some (.slice (some ⟨σ.bc, 0, none⟩) σ.parts σ.cap)
  c2 : w.cell? ⟨σ.bs, 2, none⟩ = some (.map (some σ.bv))
  rows : ∀ i, i < σ.parts → w.cell? ⟨σ.bc, i, none⟩ = some (.map (some (σ.bm i)))
  claims : ∀ i, i < σ.parts → MapAt Tryd.prog 9 w (σ.bm i) (claimsOf L σ.parts i)
  vals : MapAt Tryd.prog 9 w σ.bv (valsOf L)
  ris : RisM L
  keys : ∀ p ∈ L, validKey p.1 = true
  good : ∀ p ∈ L, validVal p.2 = true
  full : ∀ i, i < σ.parts → (claimsOf L σ.parts i).length ≤ σ.room
  ne1 : σ.bs ≠ σ.bc
  ne2 : ∀ k, σ.maps k → k ≠ σ.bs ∧ k ≠ σ.bc
  ne3 : ∀ i, i < σ.parts → σ.bm i ≠ σ.bv
  ne4 : ∀ i j, i < σ.parts → j < σ.parts → σ.bm i = σ.bm j → i = j

theorem IsStore.lt {w : World} {σ : SB} {L : SL} (h : IsStore w σ L) {k : Nat} (hk : σ.all k) : k < w.heap.size := by
  rcases hk with rfl | rfl | rfl | ⟨i, hi, rfl⟩
  · exact cell_lt h.c0
  · exact cell_lt (h.rows 0 h.p1)
  · exact h.vals.lt
  · exact (h.claims i hi).lt
theorem IsStore.frame {w w' : World} {σ : SB} {L : SL} (h : IsStore w σ L) {S : Nat → Prop} (hf : Fr S w w') (hs : ∀ k, σ.all k → ¬ S k) : IsStore w' σ L where
  p1 := h.p1
  p2 := h.p2
  pc := h.pc
  r1 := h.r1
  r2 := h.r2
  c0 := hf.cellOf h.c0 (hs _ (.inl rfl))
  c1 := hf.cellOf h.c1 (hs _ (.inl rfl))
  c2 := hf.cellOf h.c2 (hs _ (.inl rfl))
  rows i hi := hf.cellOf (h.rows i hi) (hs _ (.inr (.inl rfl)))
  claims i hi := (h.claims i hi).kept (hf.block _ (h.claims i hi).lt (hs _ (.inr (.inr (.inr ⟨i, hi, rfl⟩)))))
  vals := h.vals.kept (hf.block _ h.vals.lt (hs _ (.inr (.inr (.inl rfl)))))
  ris := h.ris
  keys := h.keys
  good := h.good
  full := h.full
  ne1 := h.ne1
  ne2 := h.ne2
  ne3 := h.ne3
  ne4 := h.ne4
theorem nothing_not {k : Nat} : ¬ nothing k := fun h => h
theorem Fr.draw (w : World) (n : Nat) (S : Nat → Prop) : Fr S w (w.drewN n) := (Fr.refl S w).drewN n
theorem IsStore.drewN {w : World} {σ : SB} {L : SL} (h : IsStore w σ L) (n : Nat) : IsStore (w.drewN n) σ L := h.frame (Fr.draw w n nothing) fun _ _ => nothing_not

set_option maxHeartbeats 400000 in
theorem of_any (σ : SB) (L : SL) (k : Key) (w : World) (h : IsStore w σ L) (hk : k.length ≤ maxLen) :
    Calls Tryd.prog 42 #[.pointer (some ⟨σ.bs, 0, none⟩), .string ⟨k.toArray⟩] w fun e w' => e = .returned (.map (some (σ.bm (partOf k σ.parts)))) ∧ ∃ n, w' = w.drewN n := by
  have hc1 := h.c1
  have hp := partOf_lt k σ.parts h.p1
  have hrow := h.rows _ hp
  have h1 := h.p1
  have h2 := h.p2
  have h3 := h.pc
  have hpart := fun w => part_any ⟨k.toArray⟩ σ.parts w (by simpa [ByteArray.size] using hk) h1 h2
  dsimp only at hpart
  have HP := Lib.hid hpart; clear hpart
  clear h
  go_enter Tryd.func42, Tryd.ntmps42
  go_wp2
  go_quiet ((go_at_call 41; exact Calls.quiet_of_same ((HP.out _).mono fun e w' h => ⟨h.1, h.2.symm⟩)))
  go_wp2
  go_ret
  exact ⟨rfl, nq, rfl⟩

def claimed (L : SL) (k : Key) : Bool := (lookM L k).isSome
def getV (L : SL) (k : Key) : SVal := (lookM L k).getD SVal.zero

theorem zero_int (w : World) : (zeroValue 3).run Tryd.prog w = .ok (.int .i64 0) w := by kernel_rfl
theorem zero_val (w : World) : (zeroValue 47).run Tryd.prog w = .ok SVal.zero.enc w := by kernel_rfl

theorem look_claims {σ : SB} {L : SL} {w : World} (h : IsStore w σ L) (k : Key) (hk : k.length ≤ maxLen) (i : Nat) (hi : i = partOf k σ.parts) :
    (Instr.lookup 82 (.map (some (σ.bm i))) (.string ⟨k.toArray⟩) false).run Tryd.prog w = .ok (.int .i64 (if claimed L k then 1 else 0)) w := by
  subst hi
  rw [(h.claims _ (partOf_lt k σ.parts h.p1)).look Tryd.underlying9 Tryd.underlying82 (zero_int w) k hk, look_claimsOf h.ris]
  unfold claimed
  cases (lookM L k).isSome <;> simp

set_option maxHeartbeats 400000 in
theorem claimed_any (σ : SB) (L : SL) (k : Key) (w : World) (h : IsStore w σ L) (hk : k.length ≤ maxLen) :
    Calls Tryd.prog 40 #[.pointer (some ⟨σ.bs, 0, none⟩), .string ⟨k.toArray⟩] w fun e w' => e = .returned (.bool (claimed L k)) ∧ ∃ n, w' = w.drewN n := by
  have hl := fun n => look_claims (h.drewN n) k hk _ rfl
  have hof := Lib.hid (of_any σ L k w h hk)
  have hc : (if claimed L k then (1 : Int) else 0) = 1 ↔ claimed L k = true := by cases claimed L k <;> simp
  cases hcl : claimed L k
  all_goals
    rw [hcl] at hl
    simp only [Bool.false_eq_true, if_false, if_true] at hl
    clear h hc hcl
    go_enter Tryd.func40, Tryd.ntmps40
    go_wp2_with (go_at_call 42; refine hof.out.mono ?_; rintro e w' ⟨rfl, n, rfl⟩)
    go_ret
    exact ⟨rfl, n, rfl⟩
end Go.Proofs.YtobccbakmcckiaaDoor
