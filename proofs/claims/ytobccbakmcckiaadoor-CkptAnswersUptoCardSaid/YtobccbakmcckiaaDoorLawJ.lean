/- live, the walk. -/
import Derived.Test.YtobccbakmcckiaaDoorLawI
import Derived.Deep.RegionHeld3
namespace Go.Proofs.YtobccbakmcckiaaDoor
open Go Go.RowKit Go.Sort

def X1 : Obj := .cells #[.int .i64 1, .int .i64 1, .string ⟨#[]⟩] 47
def X2 : Obj := .cells #[.int .i64 1, .int .i64 2, .string ⟨#[]⟩] 47
theorem LVs.one {P : ZG → Prop} {bz : Nat} {B : List (Nat × Obj)} {w0 w : World} (h : LVs P bz B w0 w) {b : Nat} (hm : (b, X1) ∈ B) : w.cell? ⟨b, 0, none⟩ = some (.int .i64 1) ∧ w.cell? ⟨b, 1, none⟩ = some (.int .i64 1) ∧ w.cell? ⟨b, 2, none⟩ = some (.string ⟨#[]⟩) :=
  ⟨h.cell hm 0, h.cell hm 1, h.cell hm 2⟩
theorem LVs.two {P : ZG → Prop} {bz : Nat} {B : List (Nat × Obj)} {w0 w : World} (h : LVs P bz B w0 w) {b : Nat} (hm : (b, X2) ∈ B) : w.cell? ⟨b, 0, none⟩ = some (.int .i64 1) ∧ w.cell? ⟨b, 1, none⟩ = some (.int .i64 2) ∧ w.cell? ⟨b, 2, none⟩ = some (.string ⟨#[]⟩) :=
  ⟨h.cell hm 0, h.cell hm 1, h.cell hm 2⟩

set_option maxRecDepth 100000 in
set_option maxHeartbeats 4000000 in
theorem live_any (w : World) (he : Env w) :
    Calls Tryd.prog 8 #[] w fun e w' => e = .returned (.bool true) ∧ Fr nothing w w' := by
  have HE := Lib.hid he
  clear he
  have HN := Lib.hid (znew_any 1 3 w (by decide) (by decide) (by decide) (by decide))
  have hve := val_eq
  go_enter Tryd.func8, Tryd.ntmps8
  go_wp2_with (first
    | (go_at_call 9; refine HN.out.mono ?_; rintro e w1 ⟨ζ0, rfl, ep, er, eL, eC, es, hz, hf, hlo⟩
       obtain ⟨bz, hbz⟩ : ∃ bz, bz = ζ0.bz := ⟨_, rfl⟩
       have h0 : LVs P0 bz [] w w1 := ⟨ζ0, hbz.symm, ⟨hz, HE.out.frame hf nothing_not, hf, hlo, fun p hp => (by cases hp), HE.out.lt⟩, ⟨ep, er⟩, eL, eC, es⟩
       rw [← hbz]
       have H0 := Lib.hid ((h0.box X1 rfl).box X2 (n := w1.heap.size + 1) (by simp))
       clear ep er eL eC es hz hf hlo h0 hbz)
    | (go_at_call 10; refine (num_any _ _).mono ?_; rintro e w' ⟨rfl, rfl⟩)
    | (go_at_call 12; (refine (c_claim H0.out (by simp)).mono ?_); rintro e w2 ⟨rfl, h1⟩
       obtain ⟨a0, a1, a2⟩ := h1.one (.tail _ (.head _))
       obtain ⟨b0, b1, b2⟩ := h1.two (.head _)
       have H1 := Lib.hid h1; clear H0 h1)
    | (go_at_call 13; (refine (c_apply1 H1.out rfl).mono ?_); rintro e w3 ⟨rfl, h2⟩; clear a0 a1 a2 b0 b1 b2
       obtain ⟨b0, b1, b2⟩ := h2.two (.head _)
       have H2 := Lib.hid h2; clear H1 h2)
    | (go_at_call 14; (refine (c_begin H2.out).mono ?_); rintro e w4 ⟨rfl, h3⟩; clear b0 b1 b2
       obtain ⟨b0, b1, b2⟩ := h3.two (.head _)
       have H3 := Lib.hid h3; clear H2 h3)
    | (go_at_call 13; (refine (c_apply2 H3.out rfl).mono ?_); rintro e w5 ⟨rfl, h4⟩; clear b0 b1 b2
       have H4 := Lib.hid h4; clear H3 h4)
    | (go_at_call 36; (refine (c_copies H4.out).mono ?_); rintro e w6 ⟨rfl, h4⟩
       have H5 := Lib.hid ((h4.box X1 rfl).box X2 (n := w6.heap.size + 1) (by simp)); clear H4 h4)
    | (go_at_call 25; (refine (c_bits H5.out).mono ?_); rintro e w7 ⟨rfl, h4⟩
       have H6 := Lib.hid h4; clear H5 h4)
    | (go_at_call 14; (refine (c_begin2 H6.out).mono ?_); rintro e w8 ⟨rfl, h4⟩
       have H7 := Lib.hid h4; clear H6 h4)
    | (go_at_call 15; (refine (c_step H7.out).mono ?_); rintro e w9 ⟨rfl, h4⟩
       have H8 := Lib.hid h4; clear H7 h4)
    | (go_at_call 16; (refine (c_take H8.out).mono ?_); rintro e w10 ⟨p, n, c, rfl, ho, h6⟩
       obtain ⟨a0, a1, a2⟩ := h6.one (b := w1.heap.size) (.tail _ (.tail _ (.tail _ (.head _))))
       obtain ⟨b0, b1, b2⟩ := h6.two (b := w1.heap.size + 1) (.tail _ (.tail _ (.head _)))
       obtain ⟨c0, c1, c2⟩ := h6.one (b := w6.heap.size) (.tail _ (.head _))
       obtain ⟨d0, d1, d2⟩ := h6.two (b := w6.heap.size + 1) (.head _)
       have HO := Lib.hid ho
       have H9 := Lib.hid h6; clear H8 h6 ho)
    | fail)
  have e0 := heap_alloc_new w10 (.cells #[.int .i64 7, .slice p n c] 43)
  have hW := ((Fr.refl nothing w10).alloc (.cells #[.int .i64 7, .slice p n c] 43))
  have h9 := H9.out.next hW
  have ho := owns_fr HO.out hW
  obtain ⟨W, eW⟩ : ∃ W, W = w10.alloc (.cells #[.int .i64 7, .slice p n c] 43) := ⟨_, rfl⟩
  rw [← eW] at e0 hW h9 ho ⊢
  have HW := Lib.hid hW
  have hx : ∀ w', Fr nothing W w' → ((w'.cell? ⟨w1.heap.size, 0, none⟩ = some (.int .i64 1) ∧ w'.cell? ⟨w1.heap.size, 1, none⟩ = some (.int .i64 1) ∧ w'.cell? ⟨w1.heap.size, 2, none⟩ = some (.string ⟨#[]⟩)) ∧ (w'.cell? ⟨w1.heap.size + 1, 0, none⟩ = some (.int .i64 1) ∧ w'.cell? ⟨w1.heap.size + 1, 1, none⟩ = some (.int .i64 2) ∧ w'.cell? ⟨w1.heap.size + 1, 2, none⟩ = some (.string ⟨#[]⟩)) ∧ (w'.cell? ⟨w6.heap.size, 0, none⟩ = some (.int .i64 1) ∧ w'.cell? ⟨w6.heap.size, 1, none⟩ = some (.int .i64 1) ∧ w'.cell? ⟨w6.heap.size, 2, none⟩ = some (.string ⟨#[]⟩)) ∧ (w'.cell? ⟨w6.heap.size + 1, 0, none⟩ = some (.int .i64 1) ∧ w'.cell? ⟨w6.heap.size + 1, 1, none⟩ = some (.int .i64 2) ∧ w'.cell? ⟨w6.heap.size + 1, 2, none⟩ = some (.string ⟨#[]⟩)) ∧ (w'.cell? ⟨w10.heap.size, 0, none⟩ = some (.int .i64 7) ∧ w'.cell? ⟨w10.heap.size, 1, none⟩ = some (.slice p n c)) ∧ (convert 22 9 (.slice p n c)).run Tryd.prog w' = .ok (.string ⟨#[49, 10, 51, 10, 97, 32, 49, 10]⟩) w') := fun w' hf =>
    have g := h9.next hf
    have e1 := (hf.block _ (heap_lt e0) nothing_not).trans e0
    ⟨g.one (.tail _ (.tail _ (.tail _ (.head _)))), g.two (.tail _ (.tail _ (.head _))), g.one (.tail _ (.head _)), g.two (.head _), ⟨cell_heap e1 0, cell_heap e1 1⟩, bytes_of_owns (owns_fr ho hf) (by decide)⟩
  have HX := Lib.hid hx
  have H10 := Lib.hid h9
  have hF : Fr nothing W W := Fr.refl _ _
  clear a0 a1 a2 b0 b1 b2 c0 c1 c2 d0 d1 d2 hx h9 ho e0 hW eW HO
  simp only [List.append]
  go_region_held (fun w' => ((w'.cell? ⟨w1.heap.size, 0, none⟩ = some (.int .i64 1) ∧ w'.cell? ⟨w1.heap.size, 1, none⟩ = some (.int .i64 1) ∧ w'.cell? ⟨w1.heap.size, 2, none⟩ = some (.string ⟨#[]⟩)) ∧ (w'.cell? ⟨w1.heap.size + 1, 0, none⟩ = some (.int .i64 1) ∧ w'.cell? ⟨w1.heap.size + 1, 1, none⟩ = some (.int .i64 2) ∧ w'.cell? ⟨w1.heap.size + 1, 2, none⟩ = some (.string ⟨#[]⟩)) ∧ (w'.cell? ⟨w6.heap.size, 0, none⟩ = some (.int .i64 1) ∧ w'.cell? ⟨w6.heap.size, 1, none⟩ = some (.int .i64 1) ∧ w'.cell? ⟨w6.heap.size, 2, none⟩ = some (.string ⟨#[]⟩)) ∧ (w'.cell? ⟨w6.heap.size + 1, 0, none⟩ = some (.int .i64 1) ∧ w'.cell? ⟨w6.heap.size + 1, 1, none⟩ = some (.int .i64 2) ∧ w'.cell? ⟨w6.heap.size + 1, 2, none⟩ = some (.string ⟨#[]⟩)) ∧ (w'.cell? ⟨w10.heap.size, 0, none⟩ = some (.int .i64 7) ∧ w'.cell? ⟨w10.heap.size, 1, none⟩ = some (.slice p n c)) ∧ (convert 22 9 (.slice p n c)).run Tryd.prog w' = .ok (.string ⟨#[49, 10, 51, 10, 97, 32, 49, 10]⟩) w'))
    (first | exact HX.out _ (by assumption) | exact HX.out _ (Fr.drewN (by assumption) 1))
    (first
      | (go_at_call 10; refine (num_any _ _).mono ?_; rintro e w' ⟨rfl, rfl⟩)
      | (go_at_call 18; refine (c_get (H10.out.next (by first | assumption | exact Fr.drewN (by assumption) 1))).mono ?_; rintro e w11 ⟨rfl, h11, hf11⟩
         have hF11 : Fr nothing W w11 := Fr.trans (by first | assumption | exact Fr.drewN (by assumption) 1) hf11
         clear h11 hf11)
      | (go_at_call 19; refine (c_bytes (H10.out.next (by first | assumption | exact Fr.drewN (by assumption) 1))).mono ?_; rintro e w12 ⟨p2, n2, cc2, rfl, ho2, hf12⟩
         have hF12 : Fr nothing W w12 := Fr.trans (by first | assumption | exact Fr.drewN (by assumption) 1) hf12
         have hcv := bytes_of_owns ho2 (by decide)
         clear ho2 hf12))
  go_wp2
  go_ret
  exact ⟨rfl, H10.out.fr.trans hF12⟩
end Go.Proofs.YtobccbakmcckiaaDoor
