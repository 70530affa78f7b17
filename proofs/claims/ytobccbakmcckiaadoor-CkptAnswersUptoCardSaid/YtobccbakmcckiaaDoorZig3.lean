/- ckpt.Zig: Claim. -/
import Derived.Test.YtobccbakmcckiaaDoorZig2
namespace Go.Proofs.YtobccbakmcckiaaDoor
open Go Go.RowKit

theorem fst_insM {α β : Type} (k : Key) (x : α) (y : β) : ∀ (A : List (Key × α)) (B : List (Key × β)), A.map (·.1) = B.map (·.1) → (insM (k, x) A).map (·.1) = (insM (k, y) B).map (·.1)
  | [], [], _ => rfl
  | [], _ :: _, h => by cases h
  | _ :: _, [], h => by cases h
  | a :: r, b :: s, h => by
    simp only [List.map_cons, List.cons.injEq] at h
    unfold insM
    dsimp only
    rw [h.1]
    split
    · simp [h.1, h.2]
    · simp only [List.map_cons, h.1, fst_insM k x y r s h.2]
theorem fst_delM {α β : Type} (k : Key) : ∀ (A : List (Key × α)) (B : List (Key × β)), A.map (·.1) = B.map (·.1) → (delM A k).map (·.1) = (delM B k).map (·.1)
  | [], [], _ => rfl
  | [], _ :: _, h => by cases h
  | _ :: _, [], h => by cases h
  | a :: r, b :: s, h => by
    simp only [List.map_cons, List.cons.injEq] at h
    have ih := fst_delM k r s h.2
    unfold delM at *
    rw [List.filter_cons, List.filter_cons, h.1]
    split
    · simp [h.1, ih]
    · exact ih
theorem fst_putM {α β : Type} {A : List (Key × α)} {B : List (Key × β)} (k : Key) (x : α) (y : β) (h : A.map (·.1) = B.map (·.1)) : (putM A k x).map (·.1) = (putM B k y).map (·.1) := fst_insM k x y _ _ (fst_delM k A B h)
theorem ris_of_keys {α β : Type} {A : List (Key × α)} {B : List (Key × β)} (h : RisM B) (hk : A.map (·.1) = B.map (·.1)) : RisM A := by
  have h2 : (B.map (·.1)).Pairwise fun a b => bytesBefore a b = true := by rw [List.pairwise_map]; exact h
  rw [← hk, List.pairwise_map] at h2
  exact h2
theorem look_ptrs (Cs : CL) (k : Key) : lookM (ptrs Cs) k = (lookM Cs k).map fun c => .pointer (some ⟨c.blk, 0, none⟩) := lookM_map Cs (fun c : CC => Value.pointer (some ⟨c.blk, 0, none⟩)) k
theorem ptrs_put {Cs : CL} (h : RisM Cs) (k : Key) (c : CC) : ptrs (putM Cs k c) = putM (ptrs Cs) k (.pointer (some ⟨c.blk, 0, none⟩)) := by
  have hp : ∀ {A : CL}, RisM A → RisM (ptrs A) := fun hA => risM_map hA (fun c : CC => Value.pointer (some ⟨c.blk, 0, none⟩))
  refine risM_ext (hp (risM_putM h _ _)) (risM_putM (hp h) _ _) fun k' => ?_
  rw [look_ptrs, lookM_putM h, lookM_putM (hp h), look_ptrs]
  split <;> rfl

/-- The cell that Claim lays. -/
def newCC (b : Nat) (u : Bool) : CC := ⟨b, SVal.zero, SVal.zero, 0, if u then 1 else 0⟩
def ZG.add (ζ : ZG) (b : Nat) (k : Key) : ZG := { ζ with L := claim1 ζ.L k, Cs := putM ζ.Cs k (newCC b ζ.snap.isSome) }

theorem IsZigX.addCell {w w' : World} {ζ : ZG} {Ls : SL} (h : IsZigX w ζ Ls) (hr : RisM ζ.L) {k : Key} (hk : lookM ζ.Cs k = none) (hst : IsStore w' ζ.σ Ls)
    (hf : Fr (fun b => b = ζ.bm) w w') (hnew : w'.heap[w.heap.size]? = some (.cells (newCC w.heap.size ζ.snap.isSome).row 75 (0, 0)))
    (hm : MapAt Tryd.prog 9 w' ζ.bm (putM (ptrs ζ.Cs) k (.pointer (some ⟨w.heap.size, 0, none⟩)))) : IsZigX w' (ζ.add w.heap.size k) Ls := by
  have hrC : RisM ζ.Cs := ris_of_keys hr h.keys
  have hcl : claimed ζ.L k = false := by
    unfold claimed
    rw [← look_some_iff h.keys k, hk]; rfl
  have hc1 : claim1 ζ.L k = putM ζ.L k SVal.zero := by unfold claim1; rw [hcl]; rfl
  have hmem : ∀ p, p ∈ putM ζ.Cs k (newCC w.heap.size ζ.snap.isSome) → p = (k, newCC w.heap.size ζ.snap.isSome) ∨ p ∈ ζ.Cs := fun p hp => by
    rcases mem_putM.1 hp with rfl | ⟨hp, _⟩
    · exact .inl rfl
    · exact .inr hp
  have hbz : ζ.bz < w.heap.size := heap_lt h.head
  have hblk : ∀ p ∈ ζ.Cs, p.2.blk < w.heap.size := fun p hp => heap_lt (h.cells p hp)
  have hlt : ∀ b, ζ.σ.all b → b < w.heap.size := fun b hb => h.st.lt hb
  exact {
    head := (hf.block _ hbz fun e => h.ap1 e).trans h.head
    st := hst
    map := by
      show MapAt _ _ w' ζ.bm (ptrs (putM ζ.Cs k (newCC w.heap.size ζ.snap.isSome)))
      rw [ptrs_put hrC]; exact hm
    cells := fun p hp => by
      rcases hmem p hp with rfl | hp
      · exact hnew
      · exact (hf.block _ (hblk p hp) fun e => (h.ap3 p hp).2.1 e).trans (h.cells p hp)
    keys := by
      show (putM ζ.Cs k _).map (·.1) = keysOf (claim1 ζ.L k)
      rw [hc1]
      exact fst_putM k _ _ h.keys
    bits := fun p hp => by
      rcases hmem p hp with rfl | hp
      · unfold newCC; dsimp only; split <;> simp
      · exact h.bits p hp
    cur := fun p hp => by
      show p.2.cur = getV (claim1 ζ.L k) p.1
      rw [get_claim1 hr]
      rcases hmem p hp with rfl | hp
      · have : lookM ζ.L k = none := by
          unfold claimed at hcl
          cases hl : lookM ζ.L k with
          | none => rfl
          | some v => rw [hl] at hcl; cases hcl
        unfold getV; rw [this]; rfl
      · exact h.cur p hp
    nums := fun p hp => by
      have hp : p ∈ claim1 ζ.L k := hp
      rw [hc1] at hp
      rcases mem_putM.1 hp with rfl | ⟨hp, _⟩
      · unfold i64 SVal.zero; dsimp only; omega
      · exact h.nums p hp
    ap1 := h.ap1
    ap2 := h.ap2
    ap3 := fun p hp => by
      rcases hmem p hp with rfl | hp
      · refine ⟨?_, ?_, fun hb => ?_⟩
        · unfold newCC; dsimp only; show w.heap.size ≠ ζ.bz; omega
        · have := h.map.lt; unfold newCC; dsimp only; show w.heap.size ≠ ζ.bm; omega
        · have := hlt _ hb; unfold newCC at this; dsimp only at this; omega
      · exact h.ap3 p hp
    ap4 := fun p hp q hq e => by
      rcases hmem p hp with rfl | hp <;> rcases hmem q hq with rfl | hq
      · rfl
      · have := hblk q hq; unfold newCC at e; dsimp only at e; omega
      · have := hblk p hp; unfold newCC at e; dsimp only at e; omega
      · exact h.ap4 p hp q hq e
    snap := fun L0 j hs => by
      have hsn := h.snap L0 j hs
      have hsome : ζ.snap.isSome = true := by have : ζ.snap = some (L0, j) := hs; rw [this]; rfl
      have htlt : ∀ a, ζ.tp = some a → a.block < w.heap.size := fun a ha => h.lt (.inr (.inr (.inr (.inr ⟨hsome, .inr ⟨a, ha, rfl⟩⟩))))
      exact {
        jle := hsn.jle
        ln := hsn.ln
        cap := hsn.cap
        left := hsn.left.frame hf fun a ha => (hsn.lne a ha).2.1
        tn := hsn.tn
        taken := ownsRow_same hsn.taken fun a ha => hf.block _ (htlt a ha) (hsn.tne a ha).2.1
        ris := hsn.ris
        keys := hsn.keys
        good := hsn.good
        nums := hsn.nums
        full := hsn.full
        froz := fun p hp => by
          obtain ⟨c, hc, hcf⟩ := hsn.froz p hp
          refine ⟨c, ?_, hcf⟩
          show lookM (putM ζ.Cs k _) p.1 = some c
          rw [lookM_putM hrC, if_neg]
          · exact hc
          · intro e; rw [e, hk] at hc; cases hc
        llt := fun a ha => Nat.lt_of_lt_of_le (hsn.llt a ha) hf.size
        lne := fun a ha => by
          obtain ⟨a1, a2, a3, a4⟩ := hsn.lne a ha
          refine ⟨a1, a2, a3, fun p hp => ?_⟩
          rcases hmem p hp with rfl | hp
          · have := hsn.llt a ha; unfold newCC; dsimp only; omega
          · exact a4 p hp
        tne := fun a ha => by
          obtain ⟨a1, a2, a3, a4, a5⟩ := hsn.tne a ha
          refine ⟨a1, a2, a3, fun p hp => ?_, a5⟩
          rcases hmem p hp with rfl | hp
          · have := htlt a ha; unfold newCC; dsimp only; omega
          · exact a4 p hp } }

theorem Keep.add {Cs : CL} (h : RisM Cs) {k : Key} (hk : lookM Cs k = none) (c : CC) : Keep Cs (putM Cs k c) := fun k' x hx => by
  refine ⟨x, ?_, rfl, rfl⟩
  rw [lookM_putM h, if_neg]
  · exact hx
  · intro e; rw [e, hk] at hx; cases hx
theorem fp_add {ζ : ZG} {b : Nat} {k : Key} {n : Nat} (hb : n ≤ b) {i : Nat} (h : (ζ.add b k).fp i) : ζ.fp i ∨ n ≤ i := by
  rcases h with h | h | h | ⟨p, hp, rfl⟩ | h
  · exact .inl (.inl h)
  · exact .inl (.inr (.inl h))
  · exact .inl (.inr (.inr (.inl h)))
  · rcases mem_putM.1 hp with rfl | ⟨hp, _⟩
    · right; unfold newCC; dsimp only; exact hb
    · exact .inl (.inr (.inr (.inr (.inl ⟨p, hp, rfl⟩))))
  · exact .inl (.inr (.inr (.inr (.inr h))))
theorem IsZigX.restore {w w' : World} {ζ : ZG} {Ls Ls' : SL} (h : IsZigX w ζ Ls) (hf : Fr ζ.σ.maps w w') (hst : IsStore w' ζ.σ Ls') : IsZigX w' ζ Ls' := by
  have hm : ∀ b, ζ.σ.maps b → ζ.σ.all b := fun b hb => .inr (.inr hb)
  have hbl : ∀ p ∈ ζ.Cs, ¬ ζ.σ.maps p.2.blk := fun p hp hb => (h.ap3 p hp).2.2 (hm _ hb)
  exact { h with
    head := (hf.block _ (heap_lt h.head) fun e => h.ap2.1 (hm _ e)).trans h.head
    st := hst
    map := h.map.kept (hf.block _ h.map.lt fun e => h.ap2.2 (hm _ e))
    cells := fun p hp => (hf.block _ (heap_lt (h.cells p hp)) (hbl p hp)).trans (h.cells p hp)
    snap := fun L0 j hs => by
      have hsn := h.snap L0 j hs
      have hsome : ζ.snap.isSome = true := by rw [hs]; rfl
      exact { hsn with
        left := hsn.left.frame hf fun a ha hb => (hsn.lne a ha).2.2.1 (hm _ hb)
        taken := ownsRow_same hsn.taken fun a ha => hf.block _ (h.lt (.inr (.inr (.inr (.inr ⟨hsome, .inr ⟨a, ha, rfl⟩⟩))))) fun hb => (hsn.tne a ha).2.2.1 (hm _ hb)
        llt := fun a ha => Nat.lt_of_lt_of_le (hsn.llt a ha) hf.size } }
/-- What a claim has made anew: the write bit, the copy that is not written next. -/
def Fresh (u : Bool) (Cs Cs' : CL) : Prop := ∀ k c', lookM Cs k = none → lookM Cs' k = some c' → c'.w = (if u then 1 else 0) ∧ c'.froz = SVal.zero
def KF (u : Bool) (Cs Cs' : CL) : Prop := Keep Cs Cs' ∧ Fresh u Cs Cs'
theorem KF.refl (u : Bool) (Cs : CL) : KF u Cs Cs := ⟨Keep.refl _, fun k c' h h' => by rw [h] at h'; cases h'⟩
theorem KF.add {u : Bool} {Cs : CL} {ζ : ZG} {b : Nat} {k : Key} (h : KF u Cs ζ.Cs) (hr : RisM ζ.Cs) (hk : lookM ζ.Cs k = none) (hs : ζ.snap.isSome = u) : KF u Cs (ζ.add b k).Cs := by
  refine ⟨h.1.trans (Keep.add hr hk _), fun k' c' h1 h2 => ?_⟩
  have h3 : lookM (putM ζ.Cs k (newCC b ζ.snap.isSome)) k' = some c' := h2
  rw [lookM_putM hr] at h3
  by_cases e : k' = k
  · rw [if_pos e] at h3
    injection h3 with h3
    subst h3
    rw [hs]
    cases u <;> exact ⟨rfl, rfl⟩
  · rw [if_neg e] at h3
    exact h.2 k' c' h1 h3
theorem claim1_of {L : SL} {k : Key} (h : claimed L k = true) : claim1 L k = L := by unfold claim1; rw [h]; rfl

set_option maxRecDepth 100000 in
set_option maxHeartbeats 4000000 in
theorem zclaim_any (ζ : ZG) (p : Option Addr) (cap : Nat) (ss : List Key) (w : World) (h : IsZig w ζ) (hs : StrsAt w p ss) (hn : ss.length ≤ 1000000) (hk : ∀ k ∈ ss, k.length ≤ maxLen) (hd : ∀ a, p = some a → ¬ ζ.fp a.block) :
    Calls Tryd.prog 12 #[.pointer (some ⟨ζ.bz, 0, none⟩), .slice p ss.length cap] w fun e w' => e = .returned (.int .i64 (claimE ζ.σ.parts ζ.σ.room ζ.L ss)) ∧ ∃ ζ', ZStep w ζ w' ζ' ∧ ζ'.L = claimTo ζ.σ.parts ζ.σ.room ζ.L ss ∧ ζ'.snap = ζ.snap ∧ ζ'.mark = ζ.mark ∧ KF ζ.snap.isSome ζ.Cs ζ'.Cs := by
  have c2 : w.cell? ⟨ζ.bz, 2, none⟩ = some (.pointer (some ⟨ζ.σ.bs, 0, none⟩)) := h.cell 2
  have hcl := Lib.hid (claim_any ζ.σ ζ.L p cap ss w h.st hs hn hk (fun a ha hb => hd a ha (.inr (.inr (.inl (.inr (.inr hb)))))))
  have H := Lib.hid h; clear h
  have HS := Lib.hid hs; clear hs
  have hmf : Hid (∀ b, ζ.σ.maps b → ζ.fp b) := fun b hb => .inr (.inr (.inl (.inr (.inr hb))))
  by_cases hE : claimE ζ.σ.parts ζ.σ.room ζ.L ss = 0
  · have hcl2 := Lib.hid (hcl.out.mono (R' := fun e w' => e = .returned (.int .i64 0) ∧ IsStore w' ζ.σ (claimL ζ.L ss) ∧ Fr ζ.σ.maps w w') fun e w' ⟨h1, h2, h3⟩ => ⟨by rw [h1, hE], by have := h2; unfold claimTo at this; rwa [if_pos hE] at this, h3⟩)
    have HE := Lib.hid hE
    clear hcl hE
    go_enter Tryd.func12, Tryd.ntmps12
    go_wp2_with (go_at_call 21; refine hcl2.out.mono ?_; rintro e w1 ⟨rfl, hst, hf⟩; have HST := Lib.hid hst; have HF := Lib.hid hf; clear hst hf)
    have hz1 := Lib.hid (H.out.restore HF.out HST.out)
    go_loopw [21] (fun i wr => ∃ (k : Nat) (ζk : ZG), i = .int .i64 k ∧ k ≤ ss.length ∧ IsZigX wr ζk (claimL ζ.L ss) ∧ ζk.bz = ζ.bz ∧ ζk.bm = ζ.bm ∧ ζk.σ = ζ.σ ∧ ζk.L = claimL ζ.L (ss.take k) ∧ ζk.snap = ζ.snap ∧ ζk.mark = ζ.mark ∧ KF ζ.snap.isSome ζ.Cs ζk.Cs ∧ Fr ζ.fp w wr ∧ ∀ b, ζk.fp b → ζ.fp b ∨ w.heap.size ≤ b) (fun i _ => ss.length - (intOf i).toNat)
    case atStart => exact ⟨0, ζ, rfl, Nat.zero_le _, hz1.out, rfl, rfl, rfl, rfl, rfl, rfl, KF.refl _ _, HF.out.mono fun b _ hb => hmf.out b hb, fun b hb => .inl hb⟩
    case round =>
      obtain ⟨k, ζk, rfl, hk1, hz, e1, e2, e3, e4, e5, e6, hkeep, hfr, hfp⟩ := hrel
      have HZ := Lib.hid hz; clear hz
      have HKP := Lib.hid hkeep; clear hkeep
      have HFR := Lib.hid hfr; clear hfr
      have HFP := Lib.hid hfp; clear hfp
      have E1 := Lib.hid e1
      have E2 := Lib.hid e2
      have E3 := Lib.hid e3
      have E4 := Lib.hid e4
      have E5 := Lib.hid e5
      have E6 := Lib.hid e6
      by_cases hlt : k < ss.length
      · obtain ⟨b, o, rfl, hc⟩ := (HS.out.frame HFR.out hd).cell hlt
        have hkl := hk _ (List.getElem_mem hlt)
        have hsu := Lib.hid (claimL_succ ζ.L ss k hlt)
        have hrk : RisM ζk.L := by rw [e4]; exact ris_claimL H.out.st.ris _
        have HRK := Lib.hid hrk
        have d3 : wr.cell? ⟨ζ.bz, 3, none⟩ = some (.map (some ζ.bm)) := by rw [← e1, ← e2]; exact HZ.out.cell 3
        have d4 : wr.cell? ⟨ζ.bz, 4, none⟩ = some (.bool ζ.snap.isSome) := by rw [← e1, ← e5]; exact HZ.out.cell 4
        have hbz : ζ.bz < wr.heap.size := by rw [← e1]; exact HZ.out.lt (.inl rfl)
        have hbm : ζ.bm < wr.heap.size := by rw [← e2]; exact HZ.out.map.lt
        have hlk := look_ptr HZ.out.map ss[k] hkl
        rw [e2] at hlk
        have hbne : ζ.bz ≠ ζ.bm := H.out.ap1
        clear e1 e2 e3 e4 e5 e6 hrk
        cases hlc : lookM ζk.Cs ss[k] with
        | some c =>
          have hcl := Lib.hid (show claim1 ζk.L ss[k] = ζk.L from claim1_of (by unfold claimed; rw [← look_some_iff HZ.out.keys, hlc]; rfl))
          unfold ptrOf at hlk
          rw [hlc] at hlk
          dsimp only at hlk
          clear hlc
          go_wp2
          go_roundw
          case rel => exact ⟨k + 1, ζk, by go_num, by omega, HZ.out, E1.out, E2.out, E3.out, by rw [hsu.out, ← E4.out, hcl.out], E5.out, E6.out, HKP.out, HFR.out, HFP.out⟩
          case measure => simp [intOf]; omega
        | none =>
          have hcl := Lib.hid (show claim1 (claimL ζ.L (ss.take k)) ss[k] = (ζk.add wr.heap.size ss[k]).L from by rw [← E4.out]; rfl)
          have HN := Lib.hid hlc
          unfold ptrOf at hlk
          rw [hlc] at hlk
          dsimp only at hlk
          clear hlc
          obtain ⟨X, hX⟩ : ∃ X : Obj, X = .cells #[.int .i64 0, .int .i64 0, .string ⟨#[]⟩, .int .i64 0, .int .i64 0, .string ⟨#[]⟩, .int .i64 0, .int .i64 0] 75 := ⟨_, rfl⟩
          have hmap1 : MapAt Tryd.prog 9 (wr.alloc X) ζ.bm (ptrs ζk.Cs) := by rw [← E2.out]; exact HZ.out.map.kept (Below.heap_alloc _ _ _ HZ.out.map.lt)
          have hplen : (ptrs ζk.Cs).length < maxLen := by
            have h1 : (ptrs ζk.Cs).length = ζk.L.length := by
              have := congrArg List.length HZ.out.keys
              simpa [ptrs, keysOf] using this
            have h2 : ζk.L.length ≤ ζ.L.length + k := by
              rw [E4.out]
              have : ∀ (l : List Key) (A : SL), (claimL A l).length ≤ A.length + l.length := by
                intro l
                induction l with
                | nil => intro A; exact Nat.le_refl _
                | cons x r ih =>
                  intro A
                  have := ih (claim1 A x)
                  have h3 : (claim1 A x).length ≤ A.length + 1 := by
                    unfold claim1
                    split
                    · omega
                    · unfold putM delM
                      rw [(insM_perm _ _).length_eq, List.length_cons]
                      have := List.length_filter_le (fun p : Key × SVal => !(p.1 == x)) A
                      omega
                  show (claimL (claim1 A x) r).length ≤ _
                  rw [List.length_cons]; omega
              refine Nat.le_trans (this _ _) ?_
              rw [List.length_take]; omega
            have := H.out.st.len
            unfold maxLen; omega
          obtain ⟨w5, hrun, hm5, ht5⟩ := hmap1.store Tryd.underlying9 Tryd.underlying68 hplen ss[k] (.pointer (some ⟨wr.heap.size, 0, none⟩)) hkl
          have hf5 := Fr.turned ht5
          have d3' := hf5.cellOf (((Fr.refl nothing wr).alloc X).cellOf d3 nothing_not) hbne
          have d4' := hf5.cellOf (((Fr.refl nothing wr).alloc X).cellOf d4 nothing_not) hbne
          have hnb : w5.heap[wr.heap.size]? = some X := (hf5.block _ (by simp) (by omega)).trans (heap_alloc_new wr X)
          have hF5 := Lib.hid (show Fr (fun b => b = ζ.bm) wr w5 from ((Fr.refl _ wr).alloc X).trans hf5)
          have hlk5 := hm5.look Tryd.underlying9 Tryd.underlying68 (zero_ptr w5) ss[k] hkl
          rw [lookM_putM (by exact risM_map (ris_of_keys HRK.out HZ.out.keys) (fun c : CC => Value.pointer (some ⟨c.blk, 0, none⟩))), if_pos rfl] at hlk5
          dsimp only [Option.getD_some] at hlk5
          have HM5 := Lib.hid hm5
          have hstep : Hid (∀ w', Fr (fun b => b = ζ.bm) wr w' → w'.heap[wr.heap.size]? = some (.cells (newCC wr.heap.size ζ.snap.isSome).row 75 (0, 0)) → MapAt Tryd.prog 9 w' ζ.bm (putM (ptrs ζk.Cs) ss[k] (.pointer (some ⟨wr.heap.size, 0, none⟩))) →
              IsZigX w' (ζk.add wr.heap.size ss[k]) (claimL ζ.L ss)) := fun w' hf hb hm => by
            refine HZ.out.addCell HRK.out HN.out ?_ ?_ ?_ ?_
            · refine HZ.out.st.frame hf fun b hb e => ?_
              rw [E3.out] at hb
              exact H.out.ap2.2 (e ▸ hb)
            · rw [E2.out]; exact hf
            · rw [E5.out]; exact hb
            · rw [E2.out]; exact hm
          have hkeep2 : Hid (KF ζ.snap.isSome ζ.Cs (ζk.add wr.heap.size ss[k]).Cs) := Lib.hid (HKP.out.add (ris_of_keys HRK.out HZ.out.keys) HN.out (by rw [E5.out]))
          have hfp2 : Hid (∀ b, (ζk.add wr.heap.size ss[k]).fp b → ζ.fp b ∨ w.heap.size ≤ b) := fun b hb => by
            rcases fp_add HFR.out.size hb with h1 | h1
            · exact HFP.out b h1
            · exact .inr h1
          have hbmf : Hid (∀ b, b = ζ.bm → ζ.fp b) := fun b e => .inr (.inl e)
          subst hX
          clear hf5 ht5 hm5 hmap1 hplen
          have f7 := frozen_heap hnb 7
          have g7 : w5.cell? ⟨wr.heap.size, 7, none⟩ = some (.int .i64 0) := cell_heap hnb 7
          cases hsn : ζ.snap.isSome
          · have HSN := Lib.hid hsn
            have HNB := Lib.hid hnb
            rw [hsn] at d4 d4'
            clear hsn hnb hlk5
            go_wp2
            go_roundw
            case rel =>
              refine ⟨k + 1, ζk.add wr.heap.size ss[k], by go_num, by omega, hstep.out w5 hF5.out (by rw [HSN.out]; exact HNB.out) HM5.out, E1.out, E2.out, E3.out, by rw [hsu.out, hcl.out], E5.out, E6.out, (by have := hkeep2.out; rwa [HSN.out] at this), HFR.out.next hF5.out fun b _ e => hbmf.out b e, hfp2.out⟩
            case measure => simp [intOf]; omega
          · have HSN := Lib.hid hsn
            have HNB := Lib.hid hnb
            rw [hsn] at d4 d4'
            have hset := Lib.hid (heap_set hnb 7 (.int .i64 1))
            have hF6 := Lib.hid (show Fr (fun b => b = ζ.bm) wr (w5.setCell ⟨wr.heap.size, 7, none⟩ (.int .i64 1)) from hF5.out.setCell (fun h => absurd h (Nat.lt_irrefl _)) _)
            have hM6 := Lib.hid (HM5.out.kept (Below.heap_setCell w5 ⟨wr.heap.size, 7, none⟩ (.int .i64 1) ζ.bm (by dsimp only; omega)))
            clear hsn hnb
            go_wp2
            go_roundw
            case rel =>
              refine ⟨k + 1, ζk.add wr.heap.size ss[k], by go_num, by omega, hstep.out _ hF6.out (by rw [HSN.out]; exact hset.out) hM6.out, E1.out, E2.out, E3.out, by rw [hsu.out, hcl.out], E5.out, E6.out, (by have := hkeep2.out; rwa [HSN.out] at this), HFR.out.next hF6.out fun b _ e => hbmf.out b e, hfp2.out⟩
            case measure => simp [intOf]; omega
      · obtain rfl : k = ss.length := by omega
        have hfin : Hid (∃ ζ', ZStep w ζ wr ζ' ∧ ζ'.L = claimTo ζ.σ.parts ζ.σ.room ζ.L ss ∧ ζ'.snap = ζ.snap ∧ ζ'.mark = ζ.mark ∧ KF ζ.snap.isSome ζ.Cs ζ'.Cs) := by
          have hL : ζk.L = claimL ζ.L ss := by rw [E4.out, List.take_of_length_le (Nat.le_refl _)]
          refine ⟨ζk, ⟨?_, E1.out, E3.out, HFR.out, HFP.out⟩, ?_, E5.out, E6.out, HKP.out⟩
          · show IsZigX wr ζk ζk.L
            rw [hL]; exact HZ.out
          · unfold claimTo; rw [if_pos HE.out]; exact hL
        clear e1 e2 e3 e4 e5 e6
        go_wp2
        go_ret
        exact ⟨by rw [HE.out]; rfl, hfin.out⟩
  · have hne : (claimE ζ.σ.parts ζ.σ.room ζ.L ss == 0) = false := by simp [hE]
    have hL : claimTo ζ.σ.parts ζ.σ.room ζ.L ss = ζ.L := by unfold claimTo; rw [if_neg hE]
    have HL := Lib.hid hL
    rw [hL] at hcl
    obtain ⟨r, hr⟩ : ∃ r, r = claimE ζ.σ.parts ζ.σ.room ζ.L ss := ⟨_, rfl⟩
    have hcl2 := Lib.hid hcl.out
    rw [← hr] at hcl2 hne
    have HR := Lib.hid hr
    clear hcl hE hr hL
    go_enter Tryd.func12, Tryd.ntmps12
    go_wp2_with (go_at_call 21; refine hcl2.out.mono ?_; rintro e w1 ⟨rfl, hst, hf⟩; have HST := Lib.hid hst; have HF := Lib.hid hf; clear hst hf)
    go_ret
    refine ⟨by rw [← HR.out]; rfl, ζ, ⟨H.out.restore HF.out HST.out, rfl, rfl, HF.out.mono fun b _ hb => hmf.out b hb, fun b hb => .inl hb⟩, HL.out.symm, rfl, rfl, KF.refl _ _⟩
end Go.Proofs.YtobccbakmcckiaaDoor
