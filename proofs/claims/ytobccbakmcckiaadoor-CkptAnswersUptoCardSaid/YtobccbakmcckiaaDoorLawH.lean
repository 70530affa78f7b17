/- own, the walk. -/
import Derived.Test.YtobccbakmcckiaaDoorLawG
namespace Go.Proofs.YtobccbakmcckiaaDoor
open Go Go.RowKit Go.Sort

def AG.ok (a : AG) : Prop := (a.kp = none → a.keys = [] ∧ a.kc = 0) ∧ (a.wp = none → a.ws = [] ∧ a.wc = 0)

theorem wr_one (ws : List SWr) : ∀ v ∈ wrCells ws, v.oneCell' = true := by
  intro v hv
  unfold wrCells at hv
  obtain ⟨x, _, hv⟩ := List.mem_flatMap.1 hv
  simp at hv
  rcases hv with rfl | rfl | rfl | rfl | rfl <;> rfl
set_option maxRecDepth 100000 in
set_option maxHeartbeats 4000000 in
theorem own_any (a : AG) (w : World) (hk : StrsAt w a.kp a.keys) (hw : WrsAt w a.wp a.ws) (hok : a.ok) (h1 : a.keys.length ≤ 2000000) (h2 : a.ws.length ≤ 2000000) :
    Calls Tryd.prog 11 #[.agg a.row] w fun e w' => ∃ kp kc wp wc, e = .returned (.agg ({ a with kp := kp, kc := kc, wp := wp, wc := wc } : AG).row) ∧ StrsAt w' kp a.keys ∧ WrsAt w' wp a.ws ∧ (∀ b, kp = some b → w.heap.size ≤ b.block ∧ b.block < w'.heap.size) ∧ (∀ b, wp = some b → w.heap.size ≤ b.block ∧ b.block < w'.heap.size) ∧ Fr nothing w w' := by
  obtain ⟨kind, keys, kp, kc, ws, wp, wc, mark, n⟩ := a
  unfold AG.row
  obtain ⟨ok1, ok2⟩ := hok
  dsimp only at *
  obtain ⟨X, hX⟩ : ∃ X : Obj, X = .cells #[.int .i64 kind, .slice kp keys.length kc, .slice wp ws.length wc, .int .i64 mark, .int .i64 n] 36 := ⟨_, rfl⟩
  obtain ⟨Y, hY⟩ : ∃ Y : Obj, Y = .cells #[.int .i64 0, .slice none 0 0, .slice none 0 0, .int .i64 0, .int .i64 0] 36 := ⟨_, rfl⟩
  have hfr3 : Hid (Fr nothing w (((w.alloc X).alloc Y).alloc (.cells #[] 9))) := Lib.hid ((((Fr.refl nothing w).alloc X).alloc Y).alloc _)
  have e1 : Hid ((((w.alloc X).alloc Y).alloc (.cells #[] 9)).heap[w.heap.size + 1 + 1]? = some (.cells #[] 9 (0, 0))) := by
    have := heap_alloc_new ((w.alloc X).alloc Y) (.cells #[] 9)
    show _ = _
    simpa using this
  have hKE : Hid (keys.map encStr = keys.map encStr) := Lib.hid rfl
  have HK := Lib.hid hk
  have HW := Lib.hid hw
  have OK1 := Lib.hid ok1
  have OK2 := Lib.hid ok2
  have HXX := Lib.hid (heap_alloc_new w X)
  have HYY := Lib.hid (heap_new2 w X Y)
  clear hk hw ok1 ok2 hKE
  have HX := Lib.hid hX
  have HY := Lib.hid hY
  subst hX hY
  go_enter Tryd.func11, Tryd.ntmps11
  go_wp2_with (first
    | (at_builtin; (
       refine wpList_app_src rfl (.tmp 3) (.tmp 5) 26 rfl (w.heap.size + 1 + 1) 9 (.string ⟨#[]⟩) 1 16 Tryd.underlying26 infoStr rfl (by decide) (some ⟨w.heap.size + 1 + 1, 0, none⟩) 0 0 [] (by rfl) (owns_empty e1.out) kp keys.length kc (keys.map encStr) (by rfl) (fun h => by obtain ⟨h1, h2⟩ := OK1.out h; exact ⟨by rw [h1]; rfl, h2⟩) (by simp) (strs_src (HK.out.frame hfr3.out fun _ _ => nothing_not)) (by simp [encStr, Value.oneCell']) (by unfold maxLen; omega) (by omega) (by simp) ?_
       intro kp' kc' w3 hown hf3 hsz3
       have hsz3' : w.heap.size + 3 ≤ w3.heap.size := by simpa using hsz3
       clear hsz3
       have hlt3 : w.heap.size < w3.heap.size := by omega
       have hx3 := (hf3.block _ (by simp <;> omega) (by omega)).trans ((((Fr.refl nothing _).alloc _).alloc _).block _ (heap_lt HXX.out) nothing_not |>.trans HXX.out)
       have hy3 := (hf3.block _ (by simp <;> omega) (by omega)).trans (((Fr.refl nothing _).alloc _).block _ (heap_lt HYY.out) nothing_not |>.trans HYY.out)
       have x1 : w3.cell? ⟨w.heap.size, 1, none⟩ = some (.slice kp keys.length kc) := cell_heap hx3 1
       have x2 : w3.cell? ⟨w.heap.size, 2, none⟩ = some (.slice wp ws.length wc) := cell_heap hx3 2
       have xf1 := frozen_heap hx3 1
       have HX3 := Lib.hid hx3
       have HY3 := Lib.hid hy3
       have HO3 := Lib.hid hown
       have HF3 := Lib.hid hf3
       have hs4 := (Fr.refl (fun b => b = w.heap.size) w3).setCell (p := ⟨w.heap.size, 1, none⟩) (fun _ => rfl) (.slice kp' keys.length kc')
       have hx4 := heap_set hx3 1 (.slice kp' keys.length kc')
       have hy4 := (hs4.block _ (heap_lt hy3) (by omega)).trans hy3
       have e4 : Hid (((w3.setCell ⟨w.heap.size, 1, none⟩ (.slice kp' keys.length kc')).alloc (.cells #[] 67)).heap[w3.heap.size]? = some (.cells #[] 67 (0, 0))) := by
         have := heap_alloc_new (w3.setCell ⟨w.heap.size, 1, none⟩ (.slice kp' keys.length kc')) (.cells #[] 67)
         show _ = _
         simpa using this
       have hw4 := HW.out.frame (S := nothing) (((hfr3.out.next hf3 (S := nothing) fun i hi e => absurd hi (by omega)).next (hs4.alloc (.cells #[] 67)) fun i hi e => absurd hi (by omega))) fun _ _ => nothing_not
       have HW4 := Lib.hid hw4
       have HS4 := Lib.hid hs4
       have HX4 := Lib.hid hx4
       have HY4 := Lib.hid hy4
       clear hx3 hy3 hown hf3 hs4 hx4 hy4 hw4))
    | (at_builtin; (
       refine wpList_app_src rfl (.tmp 8) (.tmp 10) 34 rfl w3.heap.size 67 (.agg #[.string ⟨#[]⟩, .bool false, .int .i64 0, .int .i64 0, .string ⟨#[]⟩]) 5 56 Tryd.underlying34 infoWrite rfl (by decide) (some ⟨w3.heap.size, 0, none⟩) 0 0 [] (by rfl) (owns_empty e4.out) wp ws.length wc (wrCells ws) (by rfl) (fun h => by obtain ⟨h1, h2⟩ := OK2.out h; exact ⟨by rw [h1]; rfl, h2⟩) (wrCells_len ws) (wrs_src HW4.out) (wr_one ws) (by unfold maxLen; omega) (by omega) (by simp) ?_
       intro wp' wc' w5 hown hf5 hsz5
       have hx5 := (hf5.block _ (by simp <;> omega) (by omega)).trans (((Fr.refl nothing _).alloc _).block _ (heap_lt HX4.out) nothing_not |>.trans HX4.out)
       have hy5 := (hf5.block _ (by simp <;> omega) (by omega)).trans (((Fr.refl nothing _).alloc _).block _ (heap_lt HY4.out) nothing_not |>.trans HY4.out)
       have y0 : w5.cell? ⟨w.heap.size, 0, none⟩ = some (.int .i64 kind) := cell_heap hx5 0
       have y1 : w5.cell? ⟨w.heap.size, 1, none⟩ = some (.slice kp' keys.length kc') := cell_heap hx5 1
       have y2 : w5.cell? ⟨w.heap.size, 2, none⟩ = some (.slice wp ws.length wc) := cell_heap hx5 2
       have y3 : w5.cell? ⟨w.heap.size, 3, none⟩ = some (.int .i64 mark) := cell_heap hx5 3
       have y4 : w5.cell? ⟨w.heap.size, 4, none⟩ = some (.int .i64 n) := cell_heap hx5 4
       have yf2 := frozen_heap hx5 2
       have z0 : w5.cell? ⟨w.heap.size + 1, 0, none⟩ = some (.int .i64 0) := cell_heap hy5 0
       have z1 : w5.cell? ⟨w.heap.size + 1, 1, none⟩ = some (.slice none 0 0) := cell_heap hy5 1
       have z2 : w5.cell? ⟨w.heap.size + 1, 2, none⟩ = some (.slice none 0 0) := cell_heap hy5 2
       have z3 : w5.cell? ⟨w.heap.size + 1, 3, none⟩ = some (.int .i64 0) := cell_heap hy5 3
       have z4 : w5.cell? ⟨w.heap.size + 1, 4, none⟩ = some (.int .i64 0) := cell_heap hy5 4
       have zf : ∀ j, w5.frozen? ⟨w.heap.size + 1, j, none⟩ = false := fun j => frozen_heap hy5 j
       have HX5 := Lib.hid hx5
       have HY5 := Lib.hid hy5
       have HO5 := Lib.hid hown
       have HF5 := Lib.hid hf5
       clear hx5 hy5 hown hf5))
    | go_in)
  (try simp only [Exit.inBlock, Exit.then])
  refine bodyPost_ret (v := .agg #[.int .i64 kind, .slice kp' keys.length kc', .slice wp' ws.length wc', .int .i64 mark, .int .i64 n]) (by simp [results, Tryd.results11, go_sem, z0, z1, z2, z3, z4]; try rfl) rfl ?_
  have o3 := strs_of_owns (by simpa using HO3.out : w3.ownsRow (w.heap.size + 1 + 1) 9 1 (.slice kp' keys.length kc') keys.length (keys.map encStr))
  have o5 : w5.ownsRow w3.heap.size 67 5 (.slice wp' ws.length wc') ws.length (wrCells ws) := by simpa using HO5.out
  have hw5 := wrs_of_cells o5
  have hs3 := o3.2.1
  have hb3 := o3.2.2
  have f34 := HS4.out.alloc (.cells #[] 67)
  have f35 := f34.next HF5.out (S := fun k => k = w.heap.size) (T := fun k => w3.heap.size ≤ k) fun i hi e => absurd hi (by omega)
  have f5 : ∀ u0 u1 u2 u3 u4 u5, Fr (fun k => k = w.heap.size ∨ k = w.heap.size + 1) w5 ((((((w5.setCell ⟨w.heap.size, 2, none⟩ u0).setCell ⟨w.heap.size + 1, 0, none⟩ u1).setCell ⟨w.heap.size + 1, 1, none⟩ u2).setCell ⟨w.heap.size + 1, 2, none⟩ u3).setCell ⟨w.heap.size + 1, 3, none⟩ u4).setCell ⟨w.heap.size + 1, 4, none⟩ u5) := fun u0 u1 u2 u3 u4 u5 =>
    ((((((Fr.refl _ w5).setCell (fun _ => .inl rfl) u0).setCell (fun _ => .inr rfl) u1).setCell (fun _ => .inr rfl) u2).setCell (fun _ => .inr rfl) u3).setCell (fun _ => .inr rfl) u4).setCell (fun _ => .inr rfl) u5
  have hs5 := f35.size
  have fall := ((hfr3.out.next HF3.out fun i hi e => absurd hi (by omega)).next f35 fun i hi e => absurd hi (by omega)).next (f5 (.slice wp' ws.length wc') (.int .i64 kind) (.slice kp' keys.length kc') (.slice wp' ws.length wc') (.int .i64 mark) (.int .i64 n)) fun i hi e => absurd hi (by omega)
  have f5' := f5 (.slice wp' ws.length wc') (.int .i64 kind) (.slice kp' keys.length kc') (.slice wp' ws.length wc') (.int .i64 mark) (.int .i64 n)
  have hs6 := f5'.size
  refine ⟨kp', kc', wp', ⟨wc', rfl⟩, (hs3.frame f35 fun a ha e => ?_).frame f5' (fun a ha e => ?_), hw5.frame f5' (fun a ha e => ?_), fun a ha => ?_, fun a ha => ?_, fall⟩
  · have := hb3 a ha; omega
  · have := hb3 a ha; omega
  · have := (o5.lt a.block (by rw [ha]; rfl)).1; omega
  · have := hb3 a ha; exact ⟨by omega, by omega⟩
  · have := o5.lt a.block (by rw [ha]; rfl); exact ⟨by omega, by omega⟩
end Go.Proofs.YtobccbakmcckiaaDoor
