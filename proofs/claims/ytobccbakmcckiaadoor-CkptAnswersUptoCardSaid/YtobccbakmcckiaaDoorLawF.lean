/- The law's input: long, the walk. -/
import Derived.Test.YtobccbakmcckiaaDoorLawE
import Derived.BigQuiet
namespace Go.Proofs.YtobccbakmcckiaaDoor
open Go Go.RowKit Go.Sort

theorem acts_cells {w : World} {p : Option Addr} {l : List AG} (h : ActsAt w p l) {i : Nat} (hi : i < l.length) : ∃ b o, p = some ⟨b, o, none⟩ ∧ w.cell? ⟨b, o + i * 5, none⟩ = some (.int .i64 l[i].kind) ∧ w.cell? ⟨b, o + i * 5 + 1, none⟩ = some (.slice l[i].kp l[i].keys.length l[i].kc) ∧ w.cell? ⟨b, o + i * 5 + 2, none⟩ = some (.slice l[i].wp l[i].ws.length l[i].wc) ∧ w.cell? ⟨b, o + i * 5 + 3, none⟩ = some (.int .i64 l[i].mark) ∧ w.cell? ⟨b, o + i * 5 + 4, none⟩ = some (.int .i64 l[i].n) := by
  rcases h.1 with h1 | ⟨b, o, rfl, h1⟩
  · subst h1; cases hi
  · exact ⟨b, o, rfl, h1 i hi 0 (by decide), h1 i hi 1 (by decide), h1 i hi 2 (by decide), h1 i hi 3 (by decide), h1 i hi 4 (by decide)⟩
theorem acts_fr {w w' : World} {p : Option Addr} {l : List AG} (h : ActsAt w p l) (hf : Fr nothing w w') : ActsAt w' p l := by
  obtain ⟨h1, h2⟩ := h
  refine ⟨?_, fun x hx => ⟨(h2 x hx).1.frame hf fun _ _ => nothing_not, (h2 x hx).2.frame hf fun _ _ => nothing_not⟩⟩
  rcases h1 with h1 | ⟨b, o, rfl, h1⟩
  · exact .inl h1
  · refine .inr ⟨b, o, rfl, fun i hi j hj => ?_⟩
    have hr := h1 i hi j hj
    obtain ⟨v, hv⟩ : ∃ v, l[i].row[j]? = some v := ⟨l[i].row[j]'(show j < 5 from hj), Array.getElem?_eq_getElem (show j < 5 from hj)⟩
    rw [hv] at hr ⊢
    exact hf.cellOf hr nothing_not

theorem long_int (bn : Nat) (l : List AG) : (decide ((200 : Int) < l.length) || decide ((3000 : Int) < sumLens l) || decide ((100000 : Int) < bn)) = longB bn l := by
  unfold longB
  rw [Bool.or_assoc]
  have h1 : decide ((200 : Int) < l.length) = decide (200 < l.length) := decide_eq_decide.2 (by omega)
  have h2 : decide ((3000 : Int) < sumLens l) = decide (3000 < sumLens l) := decide_eq_decide.2 (by omega)
  have h3 : decide ((100000 : Int) < bn) = decide (100000 < bn) := decide_eq_decide.2 (by omega)
  rw [h1, h2, h3]
set_option maxRecDepth 100000 in
set_option maxHeartbeats 4000000 in
theorem long_any (bp : Option Addr) (bn bc : Nat) (parts room : Int) (ap : Option Addr) (l : List AG) (ac : Nat) (w : World) (ha : ActsAt w ap l) (hl : l.length ≤ 2000000) (hs : sumLens l ≤ 2000000) :
    Calls Tryd.prog 7 #[storyV bp bn bc parts room ap l ac] w fun e w' => e = .returned (.bool (longB bn l)) ∧ Fr nothing w w' := by
  unfold storyV
  have HA := Lib.hid ha
  clear ha
  go_enter Tryd.func7, Tryd.ntmps7
  go_wp2
  go_loopw [3, 4] (fun v i wr => ∃ k : Nat, i = .int .i64 k ∧ k ≤ l.length ∧ v = .int .i64 (sumLens (l.take k)) ∧ Fr nothing (w.alloc (.cells #[.slice bp bn bc, .int .i64 parts, .int .i64 room, .slice ap l.length ac] 25)) wr) (fun _ i _ => l.length - (intOf i).toNat)
  case atStart => exact ⟨0, rfl, Nat.zero_le _, rfl, Fr.refl _ _⟩
  case round =>
    obtain ⟨k, rfl, hk1, rfl, hfr⟩ := hrel
    have hx := heap_alloc_new w (.cells #[.slice bp bn bc, .int .i64 parts, .int .i64 room, .slice ap l.length ac] 25)
    have hx2 := (hfr.block _ (heap_lt hx) nothing_not).trans hx
    have x0 : wr.cell? ⟨w.heap.size, 0, none⟩ = some (.slice bp bn bc) := cell_heap hx2 0
    have x3 : wr.cell? ⟨w.heap.size, 3, none⟩ = some (.slice ap l.length ac) := cell_heap hx2 3
    have hwall := Lib.hid (((Fr.refl nothing w).alloc (.cells #[.slice bp bn bc, .int .i64 parts, .int .i64 room, .slice ap l.length ac] 25)).trans hfr)
    have HF := Lib.hid hfr
    clear hfr hx hx2
    have hle := sumLens_le l k
    by_cases hlt : k < l.length
    · obtain ⟨b, o, rfl, _, a1, a2, _, _⟩ := acts_cells (acts_fr HA.out hwall.out) hlt
      have hsu := sumLens_succ hlt
      have hle2 := sumLens_le l (k + 1)
      have hk0 : (0 : Int) ≤ k := by omega
      have hk2 : (k : Int) < (l.length : Int) := by omega
      go_wp2_with fail
      go_quiet (fail)
      go_wp2
      go_roundw
      case rel => exact ⟨k + 1, by go_num, hlt, by go_num, HF.out.drewN _⟩
      case measure => simp [intOf]; omega
    · obtain rfl : k = l.length := by omega
      rw [List.take_of_length_le (Nat.le_refl _)] at hle
      rw [List.take_of_length_le (Nat.le_refl _)]
      go_wp2
      all_goals go_ret
      all_goals refine ⟨?_, hwall.out⟩
      all_goals first | exact congrArg (fun b => Ending.returned (.bool b)) (long_int bn l) | exact congrArg (fun b => Ending.returned (.bool b)) (by rw [← long_int]; simp [*])
end Go.Proofs.YtobccbakmcckiaaDoor
