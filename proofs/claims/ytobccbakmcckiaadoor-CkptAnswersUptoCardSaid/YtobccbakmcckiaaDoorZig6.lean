/- ckpt.Zig: Begin. -/
import Derived.Test.YtobccbakmcckiaaDoorZig5
namespace Go.Proofs.YtobccbakmcckiaaDoor
open Go Go.RowKit Go.Sort

theorem look_of_at {m : M} {k : Key} {c : Value} (h : ∀ zd, (dm m).atKey (.string k) zd = .held c) : lookM m k = some c := by
  cases hl : lookM m k with
  | some v => have := h (.held (.bool true)); rw [dm_at, hl] at this; injection this with this; rw [← this]; rfl
  | none =>
    have h1 := h (.held (.bool true))
    have h2 := h (.held (.bool false))
    rw [dm_at, hl] at h1 h2
    injection h1 with h1; injection h2 with h2
    rw [← h2] at h1
    injection h1 with h1; cases h1

theorem cap_of_owns {w : World} {base n c : Nat} {e size : Nat} {p : Option Addr} {xs : List Value} {m : Nat} (h : w.ownsRow base e size (.slice p n c) m xs) : n ≤ c := by
  rcases h.2 with ⟨h1, _⟩ | ⟨g, cap, cur, h1, _, _, h2, _⟩
  · injection h1 with _ h1 h3; omega
  · injection h1 with _ h1 h3; omega
/-- What Begin makes of a cell. -/
def CC.flip (c : CC) : CC := { c with w := 1 - c.r }
theorem flip_cur (c : CC) : c.flip.cur = c.cur := rfl
theorem flip_froz (c : CC) (h : c.r ≤ 1) : c.flip.froz = c.cur := by
  obtain ⟨b, c0, c1, r, w⟩ := c
  unfold CC.flip CC.froz CC.cur
  dsimp only at *
  by_cases h0 : r = 0
  · subst h0; rfl
  · obtain rfl : r = 1 := by omega
    rfl
/-- The cells, those that are still to come unturned. -/
def flips (Cs : CL) (left : Lit → Bool) : CL := Cs.map fun p => (p.1, if left (.string p.1) then p.2 else p.2.flip)
def flipA (Cs : CL) : CL := Cs.map fun p => (p.1, p.2.flip)
abbrev ZG.begun (ζ : ZG) (mark : Int) (p : Option Addr) (c : Nat) : ZG := { ζ with Cs := flipA ζ.Cs, snap := some (ζ.L, 0), mark := mark, lp := p, ln := ζ.L.length, lc := c, tp := none, tn := 0, tc := 0 }

theorem look_flipA (Cs : CL) (k : Key) : lookM (flipA Cs) k = (lookM Cs k).map CC.flip := lookM_map Cs CC.flip k
theorem IsZigX.begun {w w' : World} {ζ : ZG} (h : IsZig w ζ) {mark : Int} {p : Option Addr} {c : Nat} (hf : Fr (fun b => b = ζ.bz ∨ ∃ q ∈ ζ.Cs, b = q.2.blk) w w')
    (hh : w'.heap[ζ.bz]? = some (.cells (ζ.begun mark p c).row 71 (0, 0))) (hc : ∀ q ∈ ζ.Cs, w'.heap[q.2.blk]? = some (.cells q.2.flip.row 75 (0, 0)))
    (hs : StrsAt w' p (keysOf ζ.L)) (hp : ∀ a, p = some a → w.heap.size ≤ a.block ∧ a.block < w'.heap.size) (hcap : ζ.L.length ≤ c) : IsZig w' (ζ.begun mark p c) := by
  have hmem : ∀ q, q ∈ flipA ζ.Cs → ∃ r ∈ ζ.Cs, q = (r.1, r.2.flip) := fun q hq => by
    obtain ⟨r, hr, rfl⟩ := List.mem_map.1 hq
    exact ⟨r, hr, rfl⟩
  have hptr : ptrs (flipA ζ.Cs) = ptrs ζ.Cs := by
    unfold ptrs flipA
    rw [List.map_map]; rfl
  have hrC := h.ris
  exact {
    head := hh
    st := h.st.frame hf fun k hk e => by
      rcases e with rfl | ⟨q, hq, rfl⟩
      · exact h.ap2.1 hk
      · exact (h.ap3 q hq).2.2 hk
    map := by
      show MapAt _ _ w' ζ.bm (ptrs (flipA ζ.Cs))
      rw [hptr]
      refine h.map.kept (hf.block _ h.map.lt fun e => ?_)
      rcases e with e | ⟨q, hq, e⟩
      · exact h.ap1 e.symm
      · exact (h.ap3 q hq).2.1 e.symm
    cells := fun q hq => by
      obtain ⟨r, hr, rfl⟩ := hmem q hq
      exact hc r hr
    keys := by
      show (flipA ζ.Cs).map (·.1) = keysOf ζ.L
      rw [← h.keys]; unfold flipA; rw [List.map_map]; rfl
    bits := fun q hq => by
      obtain ⟨r, hr, rfl⟩ := hmem q hq
      have := h.bits r hr
      unfold CC.flip; dsimp only; omega
    cur := fun q hq => by
      obtain ⟨r, hr, rfl⟩ := hmem q hq
      exact h.cur r hr
    nums := h.nums
    ap1 := h.ap1
    ap2 := h.ap2
    ap3 := fun q hq => by
      obtain ⟨r, hr, rfl⟩ := hmem q hq
      exact h.ap3 r hr
    ap4 := fun q hq q' hq' e => by
      obtain ⟨r, hr, rfl⟩ := hmem q hq
      obtain ⟨r', hr', rfl⟩ := hmem q' hq'
      rw [h.ap4 r hr r' hr' e]
    snap := fun L0 j hs' => by
      have e : ((ζ.L, 0) : SL × Nat) = (L0, j) := Option.some.inj hs'
      cases e
      exact {
        jle := Nat.zero_le _
        ln := rfl
        cap := hcap
        left := hs
        tn := rfl
        taken := World.ownsRow_nil _ _ _ _
        ris := h.st.ris
        keys := h.st.keys
        good := h.st.good
        nums := h.nums
        full := h.st.full
        froz := fun q hq => by
          have hs := look_some_iff h.keys q.1
          have hl := lookM_of_mem h.st.ris (k := q.1) (v := q.2) hq
          rw [hl] at hs
          obtain ⟨d, hd⟩ := Option.isSome_iff_exists.1 hs
          refine ⟨d.flip, by show lookM (flipA ζ.Cs) q.1 = _; rw [look_flipA, hd]; rfl, ?_⟩
          have hm := lookM_mem hd
          rw [flip_froz _ (h.bits _ hm).1, h.cur _ hm]
          unfold getV; rw [hl]; rfl
        llt := fun a ha => (hp a ha).2
        lne := fun a ha => by
          have hge := (hp a ha).1
          refine ⟨?_, ?_, fun hb => ?_, fun q hq => ?_⟩
          · have := heap_lt h.head; show a.block ≠ ζ.bz; omega
          · have := h.map.lt; show a.block ≠ ζ.bm; omega
          · have := h.st.lt hb; omega
          · obtain ⟨r, hr, rfl⟩ := hmem q hq
            have := heap_lt (h.cells r hr)
            show r.2.blk ≠ a.block; omega
        tne := fun a ha => by cases ha } }
theorem fp_begun {w : World} {ζ : ZG} {mark : Int} {p : Option Addr} {c : Nat} (hp : ∀ a, p = some a → w.heap.size ≤ a.block) {k : Nat} (h : (ζ.begun mark p c).fp k) : ζ.fp k ∨ w.heap.size ≤ k := by
  rcases h with h | h | h | ⟨q, hq, rfl⟩ | ⟨_, ⟨a, ha, rfl⟩ | ⟨a, ha, rfl⟩⟩
  · exact .inl (.inl h)
  · exact .inl (.inr (.inl h))
  · exact .inl (.inr (.inr (.inl h)))
  · obtain ⟨r, hr, rfl⟩ := List.mem_map.1 hq
    exact .inl (.inr (.inr (.inr (.inl ⟨r, hr, rfl⟩))))
  · exact .inr (hp a ha)
  · cases ha

/-- The world as it stands ahead of the loop. -/
def beginW (ζ : ZG) (mark : Int) (p : Option Addr) (c : Nat) (w1 : World) : World := (((w1.setCell ⟨ζ.bz, 4, none⟩ (.bool true)).setCell ⟨ζ.bz, 5, none⟩ (.int .i64 mark)).setCell ⟨ζ.bz, 6, none⟩ (.slice p ζ.L.length c)).setCell ⟨ζ.bz, 7, none⟩ (.slice none 0 0)
theorem begin_world {w w1 : World} {ζ : ZG} (h : IsZig w ζ) (hf : Fr nothing w w1) (mark : Int) {p : Option Addr} {c : Nat}
    (ho : w1.ownsRow w.heap.size 9 1 (.slice p ζ.L.length c) (keysOf ζ.L).length ((keysOf ζ.L).map encStr)) :
    Fr (fun b => b = ζ.bz) w (beginW ζ mark p c w1) ∧ (beginW ζ mark p c w1).heap[ζ.bz]? = some (.cells (ζ.begun mark p c).row 71 (0, 0))
      ∧ (StrsAt (beginW ζ mark p c w1) p (keysOf ζ.L) ∧ ∀ a, p = some a → w.heap.size ≤ a.block ∧ a.block < (beginW ζ mark p c w1).heap.size)
      ∧ (beginW ζ mark p c w1).ownsMap Tryd.prog 9 RV ζ.bm (ptrs ζ.Cs).length (dm (ptrs ζ.Cs)) := by
  have hbz := heap_lt h.head
  have hh1 := (hf.block _ hbz nothing_not).trans h.head
  have h4 := heap_set (heap_set (heap_set (heap_set hh1 4 (.bool true)) 5 (.int .i64 mark)) 6 (.slice p ζ.L.length c)) 7 (.slice none 0 0)
  have f1 := (((Fr.refl (fun b => b = ζ.bz) w1).setCell (p := ⟨ζ.bz, 4, none⟩) (fun _ => rfl) (.bool true)).setCell (p := ⟨ζ.bz, 5, none⟩) (fun _ => rfl) (.int .i64 mark)).setCell (p := ⟨ζ.bz, 6, none⟩) (fun _ => rfl) (.slice p ζ.L.length c)
  have f2 := f1.setCell (p := ⟨ζ.bz, 7, none⟩) (fun _ => rfl) (.slice none 0 0)
  have f3 : Fr (fun b => b = ζ.bz) w1 (beginW ζ mark p c w1) := f2
  have f4 : Fr (fun b => b = ζ.bz) w (beginW ζ mark p c w1) := (hf.mono fun _ _ e => e.elim).trans f3
  refine ⟨f4, h4, ?_, ?_⟩
  · obtain ⟨_, s2, s3⟩ := strs_of_owns ho
    exact ⟨s2.frame f3 fun a ha e => by have := (s3 a ha).1; omega, fun a ha => ⟨(s3 a ha).1, Nat.lt_of_lt_of_le (s3 a ha).2 f3.size⟩⟩
  · exact (h.map.kept (f4.block _ h.map.lt fun e => h.ap1 e.symm)).1

/-- What Begin answers. -/
def beginE (ζ : ZG) (mark : Int) : Int := if mark < 0 then 2 else if ζ.snap.isSome then 220 else 0

end Go.Proofs.YtobccbakmcckiaaDoor
