/- ckpt.Zig: Apply. -/
import Derived.Test.YtobccbakmcckiaaDoorZig3
namespace Go.Proofs.YtobccbakmcckiaaDoor
open Go Go.RowKit

/-- The cells with the cell at a key turned. -/
def updC (Cs : CL) (k : Key) (f : CC → CC) : CL := Cs.map fun p => (p.1, if p.1 = k then f p.2 else p.2)
theorem look_updC (Cs : CL) (k k' : Key) (f : CC → CC) : lookM (updC Cs k f) k' = (lookM Cs k').map fun c => if k' = k then f c else c := by
  unfold lookM updC
  rw [List.find?_map]
  have : ((fun p : Key × CC => p.1 == k') ∘ fun p : Key × CC => (p.1, if p.1 = k then f p.2 else p.2)) = fun p => p.1 == k' := rfl
  rw [this]
  cases h : List.find? (fun p => p.1 == k') Cs with
  | none => rfl
  | some p =>
    have := List.find?_some h
    simp at this
    simp [this]
theorem mem_updC {Cs : CL} {k : Key} {f : CC → CC} {p : Key × CC} : p ∈ updC Cs k f ↔ ∃ q ∈ Cs, p = (q.1, if q.1 = k then f q.2 else q.2) := by
  unfold updC; rw [List.mem_map]; exact ⟨fun ⟨q, h1, h2⟩ => ⟨q, h1, h2.symm⟩, fun ⟨q, h1, h2⟩ => ⟨q, h1, h2.symm⟩⟩
def CC.put (c : CC) (v : SVal) : CC := if c.w = 0 then { c with c0 := v, r := 0 } else { c with c1 := v, r := 1 }
theorem put_blk (c : CC) (v : SVal) : (c.put v).blk = c.blk := by unfold CC.put; split <;> rfl
theorem put_w (c : CC) (v : SVal) : (c.put v).w = c.w := by unfold CC.put; split <;> rfl
theorem put_cur (c : CC) (v : SVal) : (c.put v).cur = v := by unfold CC.put CC.cur; split <;> simp
theorem put_froz (c : CC) (v : SVal) : (c.put v).froz = c.froz := by unfold CC.put CC.froz; split <;> simp_all
theorem put_bits (c : CC) (v : SVal) (h : c.w ≤ 1) : (c.put v).r ≤ 1 ∧ (c.put v).w ≤ 1 := by unfold CC.put; split <;> simp_all

theorem keys_setL {L : SL} (h : RisM L) {x : SWr} (hc : claimed L x.key = true) : keysOf (setL L x) = keysOf L := by
  have h1 : (setL L x).map (fun p => (p.1, ())) = L.map (fun p => (p.1, ())) := by
    refine risM_ext (risM_map (ris_setL h x) (fun _ => ())) (risM_map h (fun _ => ())) fun k => ?_
    rw [lookM_map _ (fun _ : SVal => ()), lookM_map _ (fun _ : SVal => ()), look_setL h]
    split
    · rename_i e; subst e
      unfold claimed at hc
      cases hl : lookM L x.key with
      | none => rw [hl] at hc; cases hc
      | some v => rfl
    · rfl
  have := congrArg (List.map (·.1)) h1
  simpa [keysOf, List.map_map, Function.comp_def] using this

abbrev ZG.set (ζ : ZG) (x : SWr) : ZG := { ζ with L := setL ζ.L x, Cs := updC ζ.Cs x.key fun c => c.put x.val }

theorem IsZigX.setCell {w w' : World} {ζ : ZG} {Ls : SL} (h : IsZigX w ζ Ls) (hr : RisM ζ.L) {x : SWr} {c : CC} (hc : lookM ζ.Cs x.key = some c) (hn : i64 x.val.num)
    (hf : Fr (fun b => b = c.blk) w w') (hb : w'.heap[c.blk]? = some (.cells (c.put x.val).row 75 (0, 0))) : IsZigX w' (ζ.set x) Ls := by
  have hmc : (x.key, c) ∈ ζ.Cs := lookM_mem hc
  obtain ⟨n1, n2, n3⟩ := h.ap3 _ hmc
  dsimp only at n1 n2 n3
  have hcl : claimed ζ.L x.key = true := by unfold claimed; rw [← look_some_iff h.keys, hc]; rfl
  have hkx : ∀ q ∈ ζ.Cs, q.1 = x.key → q.2 = c := fun q hq e => by
    have hrC : RisM ζ.Cs := ris_of_keys hr h.keys
    have := lookM_of_mem hrC (k := q.1) (v := q.2) hq
    rw [e, hc] at this; injection this with this; exact this.symm
  have hblk : ∀ p ∈ updC ζ.Cs x.key (fun c => c.put x.val), ∃ q ∈ ζ.Cs, p.1 = q.1 ∧ p.2.blk = q.2.blk := fun p hp => by
    obtain ⟨q, hq, rfl⟩ := mem_updC.1 hp
    refine ⟨q, hq, rfl, ?_⟩
    dsimp only; split
    · exact put_blk _ _
    · rfl
  have hptr : ptrs (updC ζ.Cs x.key fun c => c.put x.val) = ptrs ζ.Cs := by
    unfold ptrs updC
    rw [List.map_map]
    refine List.map_congr_left fun q _ => ?_
    dsimp only [Function.comp]
    split
    · rw [put_blk]
    · rfl
  have hlt : c.blk < w.heap.size := heap_lt (h.cells _ hmc)
  exact {
    head := (hf.block _ (heap_lt h.head) fun e => n1 e.symm).trans h.head
    st := h.st.frame hf fun b hb e => n3 (e ▸ hb)
    map := by
      show MapAt _ _ w' ζ.bm (ptrs (updC ζ.Cs x.key fun c => c.put x.val))
      rw [hptr]; exact h.map.kept (hf.block _ h.map.lt fun e => n2 e.symm)
    cells := fun p hp => by
      have hp : p ∈ updC ζ.Cs x.key (fun c => c.put x.val) := hp
      obtain ⟨q, hq, rfl⟩ := mem_updC.1 hp
      dsimp only
      split
      · rename_i e
        rw [hkx q hq e, put_blk]; exact hb
      · rename_i e
        refine (hf.block _ (heap_lt (h.cells q hq)) fun e2 => ?_).trans (h.cells q hq)
        have := h.ap4 q hq (x.key, c) hmc e2
        rw [this] at e; exact e rfl
    keys := by
      show (updC ζ.Cs x.key fun c => c.put x.val).map (·.1) = keysOf (setL ζ.L x)
      rw [keys_setL hr hcl, ← h.keys]
      unfold updC
      rw [List.map_map]; rfl
    bits := fun p hp => by
      have hp : p ∈ updC ζ.Cs x.key (fun c => c.put x.val) := hp
      obtain ⟨q, hq, rfl⟩ := mem_updC.1 hp
      dsimp only
      split
      · exact put_bits _ _ (h.bits q hq).2
      · exact h.bits q hq
    cur := fun p hp => by
      have hp : p ∈ updC ζ.Cs x.key (fun c => c.put x.val) := hp
      obtain ⟨q, hq, rfl⟩ := mem_updC.1 hp
      show _ = getV (setL ζ.L x) q.1
      rw [get_setL hr]
      dsimp only
      split
      · exact put_cur _ _
      · exact h.cur q hq
    nums := fun p hp => by
      rcases mem_putM.1 hp with rfl | ⟨hp, _⟩
      · exact hn
      · exact h.nums p hp
    ap1 := h.ap1
    ap2 := h.ap2
    ap3 := fun p hp => by
      obtain ⟨q, hq, _, e⟩ := hblk p hp
      rw [e]; exact h.ap3 q hq
    ap4 := fun p hp q hq e => by
      have hp : p ∈ updC ζ.Cs x.key (fun c => c.put x.val) := hp
      have hq : q ∈ updC ζ.Cs x.key (fun c => c.put x.val) := hq
      obtain ⟨p', hp', rfl⟩ := mem_updC.1 hp
      obtain ⟨q', hq', rfl⟩ := mem_updC.1 hq
      have hb1 : ∀ r : Key × CC, (if r.1 = x.key then r.2.put x.val else r.2).blk = r.2.blk := fun r => by split; exact put_blk _ _; rfl
      dsimp only at e
      rw [hb1, hb1] at e
      rw [h.ap4 p' hp' q' hq' e]
    snap := fun L0 j hs => by
      have hsn := h.snap L0 j hs
      have hsome : ζ.snap.isSome = true := by have : ζ.snap = some (L0, j) := hs; rw [this]; rfl
      exact {
        jle := hsn.jle
        ln := hsn.ln
        cap := hsn.cap
        left := hsn.left.frame hf fun a ha e => (hsn.lne a ha).2.2.2 _ hmc e.symm
        tn := hsn.tn
        taken := ownsRow_same hsn.taken fun a ha => hf.block _ (h.lt (.inr (.inr (.inr (.inr ⟨hsome, .inr ⟨a, ha, rfl⟩⟩))))) fun e => (hsn.tne a ha).2.2.2.1 _ hmc e.symm
        ris := hsn.ris
        keys := hsn.keys
        good := hsn.good
        nums := hsn.nums
        full := hsn.full
        froz := fun p hp => by
          obtain ⟨d, hd, hdf⟩ := hsn.froz p hp
          refine ⟨if p.1 = x.key then d.put x.val else d, ?_, ?_⟩
          · show lookM (updC ζ.Cs x.key fun c => c.put x.val) p.1 = some _
            rw [look_updC, hd]; rfl
          · split
            · rw [put_froz]; exact hdf
            · exact hdf
        llt := fun a ha => Nat.lt_of_lt_of_le (hsn.llt a ha) hf.size
        lne := fun a ha => by
          obtain ⟨a1, a2, a3, a4⟩ := hsn.lne a ha
          refine ⟨a1, a2, a3, fun p hp => ?_⟩
          obtain ⟨q, hq, _, e⟩ := hblk p hp
          rw [e]; exact a4 q hq
        tne := fun a ha => by
          obtain ⟨a1, a2, a3, a4, a5⟩ := hsn.tne a ha
          refine ⟨a1, a2, a3, fun p hp => ?_, a5⟩
          obtain ⟨q, hq, _, e⟩ := hblk p hp
          rw [e]; exact a4 q hq } }
theorem Keep.upd (Cs : CL) (k : Key) (v : SVal) : Keep Cs (updC Cs k fun c => c.put v) := fun k' c hc => by
  refine ⟨if k' = k then c.put v else c, by rw [look_updC, hc]; rfl, ?_, ?_⟩
  · split
    · exact put_w _ _
    · rfl
  · split
    · exact put_froz _ _
    · rfl
theorem fp_set {ζ : ZG} {x : SWr} {i : Nat} (h : (ζ.set x).fp i) : ζ.fp i := by
  rcases h with h | h | h | ⟨p, hp, rfl⟩ | h
  · exact .inl h
  · exact .inr (.inl h)
  · exact .inr (.inr (.inl h))
  · have hp : p ∈ updC ζ.Cs x.key (fun c => c.put x.val) := hp
    obtain ⟨q, hq, rfl⟩ := mem_updC.1 hp
    refine .inr (.inr (.inr (.inl ⟨q, hq, ?_⟩)))
    dsimp only; split
    · exact put_blk _ _
    · rfl
  · exact .inr (.inr (.inr (.inr h)))
end Go.Proofs.YtobccbakmcckiaaDoor
