/- ckpt.Zig: Take, whole. -/
import Derived.Test.YtobccbakmcckiaaDoorZigD
namespace Go.Proofs.YtobccbakmcckiaaDoor
open Go Go.RowKit

/-- Is there a checkpoint to take? -/
def takeB (ζ : ZG) : Bool := match ζ.snap with | some (L0, j) => decide (L0.length - j = 0) | none => false

set_option maxHeartbeats 1000000 in
theorem take_none (ζ : ZG) (w : World) (h : IsZig w ζ) (hb : takeB ζ = false) :
    Calls Tryd.prog 16 #[.pointer (some ⟨ζ.bz, 0, none⟩)] w fun e w' => e = .returned (.tuple #[.agg #[.int .i64 0, .slice none 0 0], .bool false]) ∧ Fr nothing w w' := by
  have c4 : w.cell? ⟨ζ.bz, 4, none⟩ = some (.bool ζ.snap.isSome) := h.cell 4
  have c6 : w.cell? ⟨ζ.bz, 6, none⟩ = some (.slice ζ.lp ζ.ln ζ.lc) := h.cell 6
  have hbz := heap_lt h.head
  have hx := heap_alloc_new w (.cells #[.int .i64 0, .slice none 0 0] 43)
  have x0 : (w.alloc (.cells #[.int .i64 0, .slice none 0 0] 43)).cell? ⟨w.heap.size, 0, none⟩ = some (.int .i64 0) := cell_heap hx 0
  have x1 : (w.alloc (.cells #[.int .i64 0, .slice none 0 0] 43)).cell? ⟨w.heap.size, 1, none⟩ = some (.slice none 0 0) := cell_heap hx 1
  cases hs : ζ.snap with
  | none =>
    rw [hs] at c4
    simp only [Option.isSome_none] at c4
    clear h hs hb hx
    go_enter Tryd.func16, Tryd.ntmps16
    go_wp2_with fail
    (try simp only [Exit.inBlock, Exit.then])
    refine bodyPost_ret (by simp [results, Tryd.results16, go_sem, x0, x1]; try rfl) rfl ?_
    exact ⟨rfl, (Fr.refl nothing w).alloc _⟩
  | some x =>
    obtain ⟨L0, j⟩ := x
    have hsn := h.snap L0 j hs
    have hln : 0 < ζ.ln := by
      unfold takeB at hb
      rw [hs] at hb
      simp at hb
      have := hsn.ln
      omega
    have hcap := hsn.cap
    rw [hs] at c4
    simp only [Option.isSome_some] at c4
    clear h hs hb hx hsn
    go_enter Tryd.func16, Tryd.ntmps16
    go_wp2_with fail
    (try simp only [Exit.inBlock, Exit.then])
    refine bodyPost_ret (by simp [results, Tryd.results16, go_sem, x0, x1]; try rfl) rfl ?_
    exact ⟨rfl, (Fr.refl nothing w).alloc _⟩

/-- What Take gives. -/
def takeMark (ζ : ZG) : Int := if takeB ζ then ζ.mark else 0
def takeBytes (ζ : ZG) : List UInt8 := match ζ.snap with | some (L0, j) => if L0.length - j = 0 then bytesOf ζ.σ.parts ζ.σ.room L0 else [] | none => []
theorem take_any (ζ : ZG) (w : World) (h : IsZig w ζ) (he : Env w) (hgf : ζ.bz ≠ 2) :
    Calls Tryd.prog 16 #[.pointer (some ⟨ζ.bz, 0, none⟩)] w fun e w' => ∃ p n c ζ', e = .returned (.tuple #[.agg #[.int .i64 (takeMark ζ), .slice p n c], .bool (takeB ζ)]) ∧ w'.ownsRow w.heap.size 5 1 (.slice p n c) n (Lib.byteCells (takeBytes ζ)) ∧ ZStep w ζ w' ζ' ∧ ζ'.L = ζ.L ∧ ζ'.Cs = ζ.Cs ∧
      (takeB ζ = true → ζ'.snap = none) ∧ (takeB ζ = false → ζ' = ζ) := by
  cases hb : takeB ζ
  · refine (take_none ζ w h hb).mono ?_
    rintro _ w' ⟨rfl, hf⟩
    have hm : takeMark ζ = 0 := by unfold takeMark; rw [hb]; rfl
    have hy : takeBytes ζ = [] := by
      unfold takeBytes
      unfold takeB at hb
      split
      · rename_i L0 j hs
        rw [hs] at hb
        simp at hb
        rw [if_neg (by omega)]
      · rfl
    refine ⟨none, 0, 0, ζ, by rw [hm], ?_, ⟨h.frame hf fun _ _ => nothing_not, rfl, rfl, hf.mono fun _ _ e => e.elim, fun k hk => .inl hk⟩, rfl, rfl, fun e => (by cases e), fun _ => rfl⟩
    rw [hy]; exact World.ownsRow_nil _ _ _ _
  · cases hs : ζ.snap with
    | none => unfold takeB at hb; rw [hs] at hb; cases hb
    | some x =>
      obtain ⟨L0, j⟩ := x
      have h0 : L0.length - j = 0 := by unfold takeB at hb; rw [hs] at hb; simpa using hb
      have hj : j = L0.length := by have := (h.snap L0 j hs).jle; omega
      subst hj
      refine (take_go ζ L0 w h hs he hgf).mono ?_
      rintro _ w' ⟨p, n, c, ζ', rfl, ho, hst, h1, h2, h3⟩
      have hm : takeMark ζ = ζ.mark := by unfold takeMark; rw [hb]; rfl
      have hy : takeBytes ζ = bytesOf ζ.σ.parts ζ.σ.room L0 := by
        unfold takeBytes; rw [hs]; simp
      exact ⟨p, n, c, ζ', by rw [hm], by rw [hy]; exact ho, hst, h1, h2, fun _ => h3, fun e => by cases e⟩
end Go.Proofs.YtobccbakmcckiaaDoor
