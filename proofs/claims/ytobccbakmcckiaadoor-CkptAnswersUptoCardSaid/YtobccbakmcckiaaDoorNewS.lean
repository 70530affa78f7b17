/- store.New. -/
import Derived.Test.YtobccbakmcckiaaDoorApply
import Derived.Maps.AppendAt
import Derived.Test.YtobccbakmcckiaaDoorApp
namespace Go.Proofs.YtobccbakmcckiaaDoor
open Go Go.RowKit

/-- What New refuses. -/
def newBad (parts room : Int) : Bool := decide (parts < 1) || decide (64 < parts) || (decide (room < 1) || decide (4096 < room))

set_option maxHeartbeats 2000000 in
theorem new_bad (parts room : Int) (w : World) (h : newBad parts room = true) :
    Calls Tryd.prog 20 #[.int .i64 parts, .int .i64 room] w fun e w' => e = .returned (.tuple #[.pointer none, .int .i64 2]) ∧ w = w' := by
  unfold newBad at h
  by_cases h1 : parts < 1
  · clear h; go_enter Tryd.func20, Tryd.ntmps20; go_wp2; go_ret2; exact ⟨rfl, rfl⟩
  · by_cases h2 : 64 < parts
    · clear h; go_enter Tryd.func20, Tryd.ntmps20; go_wp2; go_ret2; exact ⟨rfl, rfl⟩
    · by_cases h3 : room < 1
      · clear h; go_enter Tryd.func20, Tryd.ntmps20; go_wp2; go_ret2; exact ⟨rfl, rfl⟩
      · have h4 : 4096 < room := by simp [h1, h2, h3] at h; exact h
        clear h; go_enter Tryd.func20, Tryd.ntmps20; go_wp2; go_ret2; exact ⟨rfl, rfl⟩

/-- The maps of claims, as the row holds them. -/
def mapRow (bm : Nat → Nat) (k : Nat) : List Value := (List.range k).map fun i => .map (some (bm i))
theorem mapRow_succ (bm : Nat → Nat) (k b : Nat) : mapRow bm k ++ [.map (some b)] = mapRow (fun i => if i = k then b else bm i) (k + 1) := by
  unfold mapRow
  rw [List.range_succ, List.map_append]
  congr 1
  · refine List.map_congr_left fun i hi => ?_
    have := List.mem_range.1 hi
    have hne : ¬ i = k := by omega
    simp [hne]
  · simp

/-- What the loop keeps. -/
structure NewInv (w wr : World) (room : Nat) (k : Nat) (v : Value) (bm : Nat → Nat) : Prop where
  head : wr.heap[w.heap.size + 1]? = some (.cells #[.int .i64 room, v, .map (some w.heap.size)] 81 (0, 0))
  row : wr.ownsRow (w.heap.size + 2) 82 1 v k (mapRow bm k)
  vals : MapAt Tryd.prog 9 wr w.heap.size []
  maps : ∀ i, i < k → MapAt Tryd.prog 9 wr (bm i) []
  low : ∀ i, i < k → w.heap.size + 2 ≤ bm i
  apart : ∀ i, i < k → some (bm i) ≠ v.ownBlock
  inj : ∀ i j, i < k → j < k → bm i = bm j → i = j
  fr : Fr nothing w wr
  size : w.heap.size + 2 ≤ wr.heap.size

theorem NewInv.step {w wr : World} {room k : Nat} {v : Value} {bm : Nat → Nat} (h : NewInv w wr room k v bm) {v' : Value} {w1 : World} {X : Value}
    (hown : w1.ownsRow (w.heap.size + 2) 82 1 v' (k + 1) (mapRow bm k ++ [.map (some wr.heap.size)]))
    (hg : ((wr.alloc (.map #[] 0)).alloc (.cells #[X] 82)).grownBy w1 v.ownBlock)
    (hloc0 : v'.ownBlock = v.ownBlock ∨ v'.ownBlock = some ((wr.alloc (.map #[] 0)).alloc (.cells #[X] 82)).heap.size) :
    NewInv w (w1.setCell ⟨w.heap.size + 1, 1, none⟩ v') room (k + 1) v' (fun i => if i = k then wr.heap.size else bm i) := by
  have hloc : v'.ownBlock = v.ownBlock ∨ v'.ownBlock = some (wr.heap.size + 2) := by simpa using hloc0
  have hz := h.size
  have hvb : ∀ b, v.ownBlock = some b → w.heap.size + 2 ≤ b ∧ b < wr.heap.size := fun b hb => h.row.lt b hb
  have hkeep : ∀ b, b < wr.heap.size → some b ≠ v.ownBlock → w1.heap[b]? = wr.heap[b]? := fun b hb hn => by
    rw [hg.block b (by simp; omega) hn, Below.heap_alloc _ _ _ (by simp; omega), Below.heap_alloc _ _ _ hb]
  have hhead : w1.heap[w.heap.size + 1]? = some (.cells #[.int .i64 room, v, .map (some w.heap.size)] 81 (0, 0)) := by
    rw [hkeep _ (by omega) (fun e => by have := hvb _ e.symm; omega)]; exact h.head
  have hset : ∀ b, b ≠ w.heap.size + 1 → (w1.setCell ⟨w.heap.size + 1, 1, none⟩ v').heap[b]? = w1.heap[b]? := fun b hb => Below.heap_setCell _ _ _ _ hb
  have hnew : w1.heap[wr.heap.size]? = some (.map #[] 0) := by
    rw [hg.block _ (by simp; omega) (fun e => by have := hvb _ e.symm; omega), Below.heap_alloc _ _ _ (by simp), heap_alloc_new]
  have hmade : MapAt Tryd.prog 9 (wr.alloc (.map #[] 0)) wr.heap.size [] := MapAt.made wr
  exact {
    head := (heap_set hhead 1 v').trans (by rfl)
    row := by rw [← mapRow_succ]; exact RowKit.ownsRow_setCell_below hown (by simp) v'
    vals := h.vals.kept (by rw [hset _ (by omega), hkeep _ (by omega) (fun e => by have := hvb _ e.symm; omega)])
    maps := fun i hi => by
      by_cases he : i = k
      · subst he
        simp only [if_true]
        exact hmade.kept (by rw [hset _ (by omega), hnew, heap_alloc_new])
      · simp only [he, if_false]
        have := h.maps i (by omega)
        have hlo := h.low i (by omega)
        exact this.kept (by rw [hset _ (by omega), hkeep _ this.lt (h.apart i (by omega))])
    low := fun i hi => by
      by_cases he : i = k
      · subst he; simp; omega
      · simp only [he, if_false]; exact h.low i (by omega)
    apart := fun i hi => by
      by_cases he : i = k
      · subst he
        simp only [if_true]
        rcases hloc with hl | hl
        · rw [hl]; intro e; have := hvb _ e.symm; omega
        · rw [hl]; intro e; injection e with e; omega
      · simp only [he, if_false]
        rcases hloc with hl | hl
        · rw [hl]; exact h.apart i (by omega)
        · rw [hl]; intro e; injection e with e; have := (h.maps i (by omega)).lt; omega
    inj := fun i j hi hj => by
      by_cases h1 : i = k <;> by_cases h2 : j = k
      · intro _; omega
      · subst h1; simp only [if_true, h2, if_false]; intro e; have := (h.maps j (by omega)).lt; omega
      · subst h2; simp only [if_true, h1, if_false]; intro e; have := (h.maps i (by omega)).lt; omega
      · simp only [h1, h2, if_false]; exact h.inj i j (by omega) (by omega)
    fr := by
      refine Fr.setCell ?_ (fun hlt => by dsimp only at hlt; omega) _
      refine (((h.fr.alloc (.map #[] 0)).alloc (.cells #[X] 82))).next (Fr.grown hg) fun i hi e => ?_
      have := hvb _ e
      omega
    size := by
      have := hg.size
      simp [World.setCell] at this ⊢
      omega }

theorem cell_owned {w : World} {base e n : Nat} {p : Option Addr} {c : Nat} {xs : List Value} (h : w.ownsRow base e 1 (.slice p n c) n xs) (hn : 1 ≤ n) : ∃ g, p = some ⟨g, 0, none⟩ ∧ base ≤ g ∧ n ≤ c ∧ ∀ i, i < n → w.cell? ⟨g, i, none⟩ = xs[i]? := by
  obtain ⟨hl, ⟨_, h0⟩ | ⟨g, cap, cur, hv, hb, hh, h1, h2, h3, h4⟩⟩ := h
  · omega
  · injection hv with hv _ hc
    subst hc
    refine ⟨g, hv, hb, h1, fun i hi => ?_⟩
    rw [cell_heap hh, ← h4]
    simp [hi]

theorem NewInv.store {w wr : World} {room P : Nat} {v : Value} {bm : Nat → Nat} (h : NewInv w wr room P v bm) (h1 : 1 ≤ P) (h2 : P ≤ 64) (h3 : 1 ≤ room) (h4 : room ≤ 4096) :
    ∃ σ : SB, σ.bs = w.heap.size + 1 ∧ σ.parts = P ∧ σ.room = room ∧ IsStore wr σ [] ∧ ∀ k, σ.all k → w.heap.size ≤ k := by
  obtain ⟨p, c, rfl⟩ := slice_of_owns h.row
  obtain ⟨g, rfl, hg, hc, hcell⟩ := cell_owned h.row h1
  have hgb : ∀ i, i < P → bm i ≠ g := fun i hi e => h.apart i hi (by rw [e]; rfl)
  refine ⟨{ bs := w.heap.size + 1, bc := g, bv := w.heap.size, cap := c, parts := P, room := room, bm := bm }, rfl, rfl, rfl, ?_, ?_⟩
  · exact {
      p1 := h1, p2 := h2, pc := hc, r1 := h3, r2 := h4
      c0 := cell_heap h.head 0
      c1 := cell_heap h.head 1
      c2 := cell_heap h.head 2
      rows := fun i hi => (hcell i hi).trans (by dsimp only at hi; simp [mapRow, hi])
      claims := fun i hi => h.maps i hi
      vals := h.vals
      ris := List.Pairwise.nil
      keys := fun p hp => by cases hp
      good := fun p hp => by cases hp
      full := fun i hi => by simp [claimsOf]
      ne1 := by dsimp only; omega
      ne2 := fun k hk => by
        rcases hk with rfl | ⟨i, hi, rfl⟩
        · dsimp only; omega
        · have := h.low i hi; have := hgb i hi; dsimp only; omega
      ne3 := fun i hi => by have := h.low i hi; dsimp only; omega
      ne4 := h.inj }
  · rintro k (rfl | rfl | rfl | ⟨i, hi, rfl⟩)
    · (try dsimp only); omega
    · (try dsimp only); omega
    · (try dsimp only); omega
    · have := h.low i hi; (try dsimp only); omega
theorem infoMap : (Tryd.prog.info? 82).map (fun i => (i.zero, i.size, i.bytes)) = some (some (.map none), 1, 8) := by kernel_rfl

set_option maxRecDepth 100000 in
set_option maxHeartbeats 2000000 in
theorem new_any (P room : Nat) (w : World) (h1 : 1 ≤ P) (h2 : P ≤ 64) (h3 : 1 ≤ room) (h4 : room ≤ 4096) :
    Calls Tryd.prog 20 #[.int .i64 P, .int .i64 room] w fun e w' => ∃ σ : SB, e = .returned (.tuple #[.pointer (some ⟨σ.bs, 0, none⟩), .int .i64 0]) ∧ σ.parts = P ∧ σ.room = room ∧ IsStore w' σ [] ∧ Fr nothing w w' ∧ (∀ k, σ.all k → w.heap.size ≤ k) := by
  have hmm := @run_makeMap Tryd.prog
  obtain ⟨i0, hi, hz0, hz1, hz2⟩ := info_parts infoMap
  go_enter Tryd.func20, Tryd.ntmps20
  go_wp2
  go_loopw [26] (fun i wr => ∃ (k : Nat) (v : Value) (bm : Nat → Nat), i = .int .i64 k ∧ k ≤ P ∧ NewInv w wr room k v bm) (fun i _ => P - (intOf i).toNat)
  case atStart =>
    refine ⟨0, .slice none 0 0, fun _ => 0, rfl, Nat.zero_le _, ?_⟩
    have e1 : (w.alloc (.map #[] 0)).heap.size = w.heap.size + 1 := by simp
    exact {
      head := by have := heap_alloc_new (w.alloc (.map #[] 0)) (.cells #[.int .i64 room, .slice none 0 0, .map (some w.heap.size)] 81); rw [e1] at this; exact this
      row := World.ownsRow_nil _ _ _ _
      vals := (MapAt.made w).kept (Below.heap_alloc _ _ _ (by simp))
      maps := fun i hi => absurd hi (Nat.not_lt_zero _)
      low := fun i hi => absurd hi (Nat.not_lt_zero _)
      apart := fun i hi => absurd hi (Nat.not_lt_zero _)
      inj := fun i j hi => absurd hi (Nat.not_lt_zero _)
      fr := ((Fr.refl _ _).alloc _).alloc _
      size := by simp }
  case round =>
    obtain ⟨k, v, bm, rfl, hk, hinv⟩ := hrel
    have HI := Lib.hid hinv; clear hinv
    have hz := HI.out.size
    have c1 : wr.cell? ⟨w.heap.size + 1, 1, none⟩ = some v := cell_heap HI.out.head 1
    have hown := Lib.hid HI.out.row
    by_cases hlt : k < P
    · have hcell : ∀ (v' : Value) (w1 : World), ((wr.alloc (.map #[] 0)).alloc (.cells #[.map (some wr.heap.size)] 82)).grownBy w1 v.ownBlock → w1.cell? ⟨w.heap.size + 1, 1, none⟩ = some v ∧ w1.frozen? ⟨w.heap.size + 1, 1, none⟩ = false := fun v' w1 hg => by
        have hb : w1.heap[w.heap.size + 1]? = wr.heap[w.heap.size + 1]? := by
          rw [hg.block _ (by simp; omega) (fun e => by have := HI.out.row.lt _ e.symm; omega), Below.heap_alloc _ _ _ (by simp; omega), Below.heap_alloc _ _ _ (by omega)]
        rw [HI.out.head] at hb
        exact ⟨cell_heap hb 1, frozen_heap hb 1⟩
      have HC := Lib.hid hcell; clear hcell
      go_wp2_with (first | (at_builtin; refine wpList_append_own_at _ rfl _ _ 79 rfl (w.heap.size + 2) 82 i0 (.map none) 1 8 Tryd.underlying79 hi hz0 hz1 hz2 rfl (by decide) _ _ _ rfl ((hown.out.alloc _).alloc _) ⟨wr.heap.size + 1, 0, none⟩ 1 1 [.map (some wr.heap.size)] rfl rfl ?c1 ?c2 ?c3 ?c4 ?c5 ?_; rotate_right; intro v' w1 hown1 hgrow hnil hloc; clear hnil; obtain ⟨d1, d2⟩ := HC.out v' w1 hgrow; have HO := Lib.hid (HI.out.step hown1 hgrow hloc); obtain ⟨pp, cc, rfl⟩ := slice_of_owns hown1; clear hown1 hgrow hloc))
      · go_roundw
        case rel => exact ⟨k + 1, _, _, by go_num, by omega, HO.out⟩
        case measure => simp [intOf]; omega
      case c1 => have := cell_one_new (wr.alloc (.map #[] 0)) (.map (some wr.heap.size)) 82; simpa using this
      case c2 => simp [Value.oneCell']
      case c3 => unfold maxLen; omega
      case c4 => omega
      case c5 => simp; omega
    · obtain rfl : k = P := by omega
      have hfin := Lib.hid (HI.out.store h1 h2 h3 h4)
      go_wp2
      go_ret2
      obtain ⟨σ, e1, e2, e3, e4, e5⟩ := hfin.out
      exact ⟨σ, by rw [e1]; rfl, e2, e3, e4, HI.out.fr, e5⟩
end Go.Proofs.YtobccbakmcckiaaDoor
