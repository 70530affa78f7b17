/- CkptNil, the walk. -/
import Derived.Test.YtobccbakmcckiaaDoorLawJ
import Derived.Deep.DeepCutAuto
namespace Go.Proofs.YtobccbakmcckiaaDoor
open Go Go.RowKit Go.Sort

set_option maxRecDepth 100000 in
set_option maxHeartbeats 40000000 in
theorem nil_any (w : World) (he : Env w) :
    Calls Tryd.prog 6 #[] w fun e w' => e = .returned (.bool true) ∧ Fr nothing w w' := by
  have HE := Lib.hid he
  clear he
  have hve := val_eq
  have hvn := val_neq
  go_enter Tryd.func6, Tryd.ntmps6
  go_wp2_with (first
    | (go_at_call 10; refine (num_any _ _).mono ?_; rintro e w' ⟨rfl, rfl⟩)
    | (go_at_call 8
       refine (live_any _ (HE.out.frame (S := nothing) (by repeat (first | exact Fr.refl _ _ | apply Fr.alloc)) nothing_not)).mono ?_
       rintro e w2 ⟨rfl, hf⟩
       have hF : Fr nothing w w2 := Fr.trans (by repeat (first | exact Fr.refl _ _ | apply Fr.alloc)) hf
       have a0 : w2.cell? ⟨w.heap.size + 7, 0, none⟩ = some (.int .i64 0) := (hf.cell (by simp <;> omega) nothing_not).trans (by go_simp)
       have a1 : w2.cell? ⟨w.heap.size + 7, 1, none⟩ = some (.int .i64 0) := (hf.cell (by simp <;> omega) nothing_not).trans (by go_simp)
       have a2 : w2.cell? ⟨w.heap.size + 7, 2, none⟩ = some (.string ⟨#[]⟩) := (hf.cell (by simp <;> omega) nothing_not).trans (by go_simp)
       have b0 : w2.cell? ⟨w.heap.size + 8, 0, none⟩ = some (.int .i64 0) := (hf.cell (by simp) nothing_not).trans (by go_simp)
       have b1 : w2.cell? ⟨w.heap.size + 8, 1, none⟩ = some (.int .i64 0) := (hf.cell (by simp) nothing_not).trans (by go_simp)
       have b2 : w2.cell? ⟨w.heap.size + 8, 2, none⟩ = some (.string ⟨#[]⟩) := (hf.cell (by simp) nothing_not).trans (by go_simp)
       have HF := Lib.hid hF
       clear hf hF)
    | go_in)
  go_ret
  refine ⟨rfl, ?_⟩
  repeat (first | exact HF.out | apply Fr.alloc)
end Go.Proofs.YtobccbakmcckiaaDoor
