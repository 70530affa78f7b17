/- live: the state between its calls. -/
import Derived.Test.YtobccbakmcckiaaDoorLawH
namespace Go.Proofs.YtobccbakmcckiaaDoor
open Go Go.RowKit Go.Sort

def v1 : SVal := ⟨1, 1, []⟩
def v2 : SVal := ⟨1, 2, []⟩
def kA : Key := [97]
/-- Between live's calls: the Zig, and boxes of others. -/
structure LV (w0 wr : World) (ζ : ZG) (B : List (Nat × Obj)) : Prop where
  is : IsZig wr ζ
  env : Env wr
  fr : Fr nothing w0 wr
  lo : ∀ k, ζ.fp k → w0.heap.size ≤ k
  bx : ∀ p ∈ B, wr.heap[p.1]? = some p.2 ∧ ¬ ζ.fp p.1
  glob : 2 < w0.heap.size
theorem LV.next {w0 wr w' : World} {ζ : ZG} {B : List (Nat × Obj)} (h : LV w0 wr ζ B) (hf : Fr nothing wr w') : LV w0 w' ζ B where
  is := h.is.frame hf fun _ _ => nothing_not
  env := h.env.frame hf nothing_not
  fr := h.fr.trans hf
  lo := h.lo
  bx p hp := ⟨(hf.block _ (heap_lt (h.bx p hp).1) nothing_not).trans (h.bx p hp).1, (h.bx p hp).2⟩
  glob := h.glob
theorem LV.step {w0 wr w' : World} {ζ ζ' : ZG} {B : List (Nat × Obj)} (h : LV w0 wr ζ B) (hs : ZStep wr ζ w' ζ') : LV w0 w' ζ' B where
  is := hs.is
  env := h.env.frame hs.fr fun hk => by have := h.lo _ hk; have := h.glob; omega
  fr := h.fr.next hs.fr fun i hi hk => by have := h.lo _ hk; omega
  lo k hk := by
    rcases hs.fp k hk with h1 | h1
    · exact h.lo k h1
    · have := h.fr.size; omega
  bx p hp := by
    obtain ⟨h1, h2⟩ := h.bx p hp
    refine ⟨(hs.fr.block _ (heap_lt h1) h2).trans h1, fun hk => ?_⟩
    rcases hs.fp _ hk with h3 | h3
    · exact h2 h3
    · have := heap_lt h1; omega
  glob := h.glob
theorem LV.far {w0 wr : World} {ζ : ZG} {B : List (Nat × Obj)} (h : LV w0 wr ζ B) {b : Nat} (hb : wr.heap.size ≤ b) : ¬ ζ.fp b := fun hk => by have := h.is.lt hk; omega
theorem LV.box {w0 wr : World} {ζ : ZG} {B : List (Nat × Obj)} (h : LV w0 wr ζ B) (o : Obj) {n : Nat} (hn : wr.heap.size = n) : LV w0 (wr.alloc o) ζ ((n, o) :: B) := by
  subst hn
  have h' := h.next ((Fr.refl nothing wr).alloc o)
  exact { h' with
    bx := fun p hp => by
      rcases List.mem_cons.1 hp with rfl | hp
      · exact ⟨heap_alloc_new wr o, h.far (Nat.le_refl _)⟩
      · exact h'.bx p hp }
/-- The same, the Zig being some one of which P holds. -/
def LVs (P : ZG → Prop) (bz : Nat) (B : List (Nat × Obj)) (w0 w : World) : Prop := ∃ ζ : ZG, ζ.bz = bz ∧ LV w0 w ζ B ∧ P ζ
theorem LVs.next {P : ZG → Prop} {bz : Nat} {B : List (Nat × Obj)} {w0 w w' : World} (h : LVs P bz B w0 w) (hf : Fr nothing w w') : LVs P bz B w0 w' :=
  let ⟨ζ, h1, h2, h3⟩ := h; ⟨ζ, h1, h2.next hf, h3⟩
theorem LVs.alloc {P : ZG → Prop} {bz : Nat} {B : List (Nat × Obj)} {w0 w : World} (h : LVs P bz B w0 w) (o : Obj) : LVs P bz B w0 (w.alloc o) := h.next ((Fr.refl _ _).alloc o)
theorem LVs.box {P : ZG → Prop} {bz : Nat} {B : List (Nat × Obj)} {w0 w : World} (h : LVs P bz B w0 w) (o : Obj) {n : Nat} (hn : w.heap.size = n) : LVs P bz ((n, o) :: B) w0 (w.alloc o) :=
  let ⟨ζ, h1, h2, h3⟩ := h; ⟨ζ, h1, h2.box o hn, h3⟩
theorem LVs.cell {P : ZG → Prop} {bz : Nat} {B : List (Nat × Obj)} {w0 w : World} (h : LVs P bz B w0 w) {b : Nat} {c : Array Value} {e : TypeId} (hm : (b, Obj.cells c e (0, 0)) ∈ B) (j : Nat) : w.cell? ⟨b, j, none⟩ = c[j]? :=
  let ⟨_, _, h2, _⟩ := h; cell_heap (h2.bx _ hm).1 j
theorem LVs.fr {P : ZG → Prop} {bz : Nat} {B : List (Nat × Obj)} {w0 w : World} (h : LVs P bz B w0 w) : Fr nothing w0 w := let ⟨_, _, h2, _⟩ := h; h2.fr
theorem strs_one (W : World) (k : Key) {n : Nat} (hn : W.heap.size = n) : StrsAt (W.alloc (.cells #[.string ⟨k.toArray⟩] 9)) (some ⟨n, 0, none⟩) [k] :=
  .inr ⟨n, 0, rfl, fun i hi => by
    have : i = 0 := by simp at hi; exact hi
    subst this
    subst hn
    exact cell_heap (heap_alloc_new W _) 0⟩
theorem wrs_one (W : World) (x : SWr) {n : Nat} (hn : W.heap.size = n) : WrsAt (W.alloc (.cells #[.string ⟨x.key.toArray⟩, .bool x.gone, .int .i64 x.val.kind, .int .i64 x.val.num, .string ⟨x.val.text.toArray⟩] 67)) (some ⟨n, 0, none⟩) [x] :=
  .inr ⟨n, 0, rfl, fun i hi => by
    have : i = 0 := by simp at hi; exact hi
    subst this
    subst hn
    exact ⟨cell_heap (heap_alloc_new W _) 0, cell_heap (heap_alloc_new W _) 1, cell_heap (heap_alloc_new W _) 2, cell_heap (heap_alloc_new W _) 3, cell_heap (heap_alloc_new W _) 4⟩⟩
/-! what the stages come to -/
def L1 : SL := [(kA, SVal.zero)]
def L2 : SL := [(kA, v1)]
def L3 : SL := [(kA, v2)]
theorem st1 : claimE 1 3 [] [kA] = 0 ∧ claimTo 1 3 [] [kA] = L1 := by
  have h : claimE 1 3 [] [kA] = 0 := by decide +kernel
  refine ⟨h, ?_⟩
  unfold claimTo; rw [if_pos h]; rfl
theorem st2 : applyE L1 [⟨kA, false, v1⟩] = 0 ∧ applyTo L1 [⟨kA, false, v1⟩] = L2 := by
  have h : applyE L1 [⟨kA, false, v1⟩] = 0 := by decide +kernel
  refine ⟨h, ?_⟩
  unfold applyTo; rw [if_pos h]; rfl
theorem st3 : applyE L2 [⟨kA, false, v2⟩] = 0 ∧ applyTo L2 [⟨kA, false, v2⟩] = L3 := by
  have h : applyE L2 [⟨kA, false, v2⟩] = 0 := by decide +kernel
  refine ⟨h, ?_⟩
  unfold applyTo; rw [if_pos h]; rfl
theorem bytes2 : bytesOf 1 3 L2 = [49, 10, 51, 10, 97, 32, 49, 10] := by decide +kernel
theorem bytes3 : bytesOf 1 3 L3 = [49, 10, 51, 10, 97, 32, 50, 10] := by decide +kernel
theorem look_of_keys {w : World} {ζ : ZG} {Ls : SL} (h : IsZigX w ζ Ls) {k : Key} {v : SVal} (hl : lookM ζ.L k = some v) : ∃ c, lookM ζ.Cs k = some c ∧ c.cur = v ∧ c.r ≤ 1 ∧ c.w ≤ 1 := by
  have := look_some_iff (A := ζ.Cs) (B := ζ.L) h.keys k
  rw [hl] at this
  obtain ⟨c, hc⟩ := Option.isSome_iff_exists.1 this
  have h1 := h.cur _ (lookM_mem hc)
  have h2 := h.bits _ (lookM_mem hc)
  refine ⟨c, hc, ?_, h2⟩
  rw [h1]
  unfold getV; rw [hl]; rfl
theorem stage2 {w1 w2 : World} {ζ1 ζ2 : ZG} (h1 : IsZig w1 ζ1) (e1 : ζ1.L = L1) (kf : KF false [] ζ1.Cs) (h2 : IsZig w2 ζ2) (e2 : ζ2.L = L2) (kp : Keep ζ1.Cs ζ2.Cs) :
    ∃ c, lookM ζ2.Cs kA = some c ∧ c.r = 0 ∧ c.c0 = v1 := by
  obtain ⟨c1, hc1, _⟩ := look_of_keys h1 (k := kA) (v := SVal.zero) (by rw [e1]; rfl)
  obtain ⟨hw, hf⟩ := kf.2 kA c1 rfl hc1
  obtain ⟨c2, hc2, hw2, hf2⟩ := kp kA c1 hc1
  obtain ⟨c2', hc2', hcur, hr, _⟩ := look_of_keys h2 (k := kA) (v := v1) (by rw [e2]; rfl)
  rw [hc2] at hc2'
  injection hc2' with e
  subst e
  refine ⟨c2, hc2, ?_⟩
  simp at hw
  rw [hw] at hw2
  rw [hf] at hf2
  unfold CC.froz at hf2
  rw [if_pos hw2] at hf2
  unfold CC.cur at hcur
  by_cases h0 : c2.r = 0
  · rw [if_pos h0] at hcur
    exact ⟨h0, hcur⟩
  · rw [if_neg h0, hf2] at hcur
    cases hcur
theorem stage4 {w4 : World} {Cs2 : CL} {ζ4 : ZG} {c : CC} (hc : lookM Cs2 kA = some c) (h0 : c.r = 0) (hv : c.c0 = v1) (h4 : IsZig w4 ζ4) (e4 : ζ4.L = L3) (kp : Keep (flipA Cs2) ζ4.Cs) :
    bitsOf ζ4.Cs kA = (1, 1) ∧ copiesOf ζ4.Cs kA = (v1, v2) := by
  obtain ⟨c4, hc4, hw, hf⟩ := kp kA c.flip (by rw [look_flipA, hc]; rfl)
  obtain ⟨c4', hc4', hcur, hr, _⟩ := look_of_keys h4 (k := kA) (v := v2) (by rw [e4]; rfl)
  rw [hc4] at hc4'
  injection hc4' with e
  subst e
  have hw1 : c4.w = 1 := by rw [hw]; show 1 - c.r = 1; omega
  rw [flip_froz c (by omega)] at hf
  have hcc : c.cur = v1 := by unfold CC.cur; rw [if_pos h0]; exact hv
  rw [hcc] at hf
  unfold CC.froz at hf
  rw [if_neg (by omega)] at hf
  unfold CC.cur at hcur
  by_cases hr0 : c4.r = 0
  · rw [if_pos hr0, hf] at hcur
    cases hcur
  · rw [if_neg hr0] at hcur
    unfold bitsOf copiesOf
    rw [hc4]
    have : c4.r = 1 := by omega
    simp only [this, hw1, hf, hcur, and_self]
/-! the stages -/
def Sh (ζ : ZG) : Prop := ζ.σ.parts = 1 ∧ ζ.σ.room = 3
def P0 (ζ : ZG) : Prop := Sh ζ ∧ ζ.L = [] ∧ ζ.Cs = [] ∧ ζ.snap = none
def P1 (ζ : ZG) : Prop := Sh ζ ∧ ζ.L = L1 ∧ KF false [] ζ.Cs ∧ ζ.snap = none
def P2 (ζ : ZG) : Prop := Sh ζ ∧ ζ.L = L2 ∧ (∃ c, lookM ζ.Cs kA = some c ∧ c.r = 0 ∧ c.c0 = v1) ∧ ζ.snap = none
def P3 (ζ : ZG) : Prop := Sh ζ ∧ ζ.L = L2 ∧ (∃ Cs c, ζ.Cs = flipA Cs ∧ lookM Cs kA = some c ∧ c.r = 0 ∧ c.c0 = v1) ∧ ζ.snap = some (L2, 0) ∧ ζ.mark = 7
def P4 (j : Nat) (ζ : ZG) : Prop := Sh ζ ∧ ζ.L = L3 ∧ (bitsOf ζ.Cs kA = (1, 1) ∧ copiesOf ζ.Cs kA = (v1, v2)) ∧ ζ.snap = some (L2, j) ∧ ζ.mark = 7
def P6 (ζ : ZG) : Prop := Sh ζ ∧ ζ.L = L3
theorem kA_max : kA.length ≤ maxLen := by unfold maxLen kA; decide
theorem c_claim {bz : Nat} {B : List (Nat × Obj)} {w0 W : World} (h : LVs P0 bz B w0 W) {n : Nat} (hn : W.heap.size = n) :
    Calls Tryd.prog 12 #[.pointer (some ⟨bz, 0, none⟩), .slice (some ⟨n, 0, none⟩) 1 1] (W.alloc (.cells #[.string ⟨#[97]⟩] 9)) fun e w' => e = .returned (.int .i64 0) ∧ LVs P1 bz B w0 w' := by
  obtain ⟨ζ, rfl, lv, hsh, hL, hC, hs⟩ := h
  refine (zclaim_any ζ (some ⟨n, 0, none⟩) 1 [kA] _ (lv.next ((Fr.refl _ _).alloc _)).is (strs_one W kA hn) (by decide) (fun k hk => by rw [List.mem_singleton.1 hk]; exact kA_max) (fun a ha => by injection ha with ha; subst ha; exact lv.far (by dsimp only; omega))).mono ?_
  rintro e w' ⟨rfl, ζ', hst, hL', hs', _, hkf⟩
  rw [hsh.1, hsh.2, hL] at *
  refine ⟨by rw [st1.1], ζ', hst.bz, (lv.next ((Fr.refl _ _).alloc _)).step hst, ⟨by rw [hst.σ]; exact hsh.1, by rw [hst.σ]; exact hsh.2⟩, hL'.trans st1.2, ?_, hs'.trans hs⟩
  rw [hs, hC] at hkf
  exact hkf
theorem c_write {P Q : ZG → Prop} {bz : Nat} {B : List (Nat × Obj)} {w0 W : World} (h : LVs P bz B w0 W) {n : Nat} (hn : W.heap.size = n) (x : SWr) (hx : (x.key.length ≤ maxLen ∧ x.val.text.length ≤ maxLen) ∧ i64 x.val.num) (hE : ∀ ζ, P ζ → applyE ζ.L [x] = 0)
    (hq : ∀ ζ ζ' w w', P ζ → IsZig w ζ → IsZig w' ζ' → ζ'.σ = ζ.σ → ζ'.L = applyTo ζ.L [x] → ζ'.snap = ζ.snap → ζ'.mark = ζ.mark → Keep ζ.Cs ζ'.Cs → Q ζ') :
    Calls Tryd.prog 13 #[.pointer (some ⟨bz, 0, none⟩), .slice (some ⟨n, 0, none⟩) 1 1] (W.alloc (.cells #[.string ⟨x.key.toArray⟩, .bool x.gone, .int .i64 x.val.kind, .int .i64 x.val.num, .string ⟨x.val.text.toArray⟩] 67)) fun e w' => e = .returned (.int .i64 0) ∧ LVs Q bz B w0 w' := by
  obtain ⟨ζ, rfl, lv, hP⟩ := h
  have lv' := lv.next ((Fr.refl nothing W).alloc (.cells #[.string ⟨x.key.toArray⟩, .bool x.gone, .int .i64 x.val.kind, .int .i64 x.val.num, .string ⟨x.val.text.toArray⟩] 67))
  refine (zapply_any ζ (some ⟨n, 0, none⟩) 1 [x] _ lv'.is (wrs_one W x hn) (by simp) (fun k hk => by rw [List.mem_singleton.1 hk]; exact hx) (fun a ha => by injection ha with ha; subst ha; exact lv.far (by dsimp only; omega))).mono ?_
  rintro e w' ⟨rfl, ζ', hst, hL', hs', hm', hkf⟩
  exact ⟨by rw [hE ζ hP], ζ', hst.bz, lv'.step hst, hq ζ ζ' _ _ hP lv'.is hst.is hst.σ hL' hs' hm' hkf⟩
theorem Sh.of {ζ ζ' : ZG} (h : Sh ζ) (e : ζ'.σ = ζ.σ) : Sh ζ' := by unfold Sh; rw [e]; exact h
theorem x_ok (v : SVal) (h : v.text = []) (hi : i64 v.num) : (kA.length ≤ maxLen ∧ v.text.length ≤ maxLen) ∧ i64 v.num := ⟨⟨kA_max, by rw [h]; unfold maxLen; decide⟩, hi⟩
theorem c_apply1 {bz : Nat} {B : List (Nat × Obj)} {w0 W : World} (h : LVs P1 bz B w0 W) {n : Nat} (hn : W.heap.size = n) :
    Calls Tryd.prog 13 #[.pointer (some ⟨bz, 0, none⟩), .slice (some ⟨n, 0, none⟩) 1 1] (W.alloc (.cells #[.string ⟨#[97]⟩, .bool false, .int .i64 1, .int .i64 1, .string ⟨#[]⟩] 67)) fun e w' => e = .returned (.int .i64 0) ∧ LVs P2 bz B w0 w' :=
  c_write h hn ⟨kA, false, v1⟩ (x_ok v1 rfl (by unfold i64 v1; decide)) (fun ζ hP => by rw [hP.2.1]; exact st2.1) fun ζ ζ' w w' hP hz hz' hσ hL hs hm hk => by
    obtain ⟨hsh, h1, hkf, hsn⟩ := hP
    have e2 : ζ'.L = L2 := by rw [hL, h1]; exact st2.2
    exact ⟨hsh.of hσ, e2, stage2 hz h1 hkf hz' e2 hk, hs.trans hsn⟩
theorem c_apply2 {bz : Nat} {B : List (Nat × Obj)} {w0 W : World} (h : LVs P3 bz B w0 W) {n : Nat} (hn : W.heap.size = n) :
    Calls Tryd.prog 13 #[.pointer (some ⟨bz, 0, none⟩), .slice (some ⟨n, 0, none⟩) 1 1] (W.alloc (.cells #[.string ⟨#[97]⟩, .bool false, .int .i64 1, .int .i64 2, .string ⟨#[]⟩] 67)) fun e w' => e = .returned (.int .i64 0) ∧ LVs (P4 0) bz B w0 w' :=
  c_write h hn ⟨kA, false, v2⟩ (x_ok v2 rfl (by unfold i64 v2; decide)) (fun ζ hP => by rw [hP.2.1]; exact st3.1) fun ζ ζ' w w' hP hz hz' hσ hL hs hm hk => by
    obtain ⟨hsh, h1, ⟨Cs, c, hC, hc, hr, h0⟩, hsn, hmk⟩ := hP
    have e2 : ζ'.L = L3 := by rw [hL, h1]; exact st3.2
    rw [hC] at hk
    exact ⟨hsh.of hσ, e2, stage4 hc hr h0 hz' e2 hk, hs.trans hsn, hm.trans hmk⟩
theorem c_begin {bz : Nat} {B : List (Nat × Obj)} {w0 W : World} (h : LVs P2 bz B w0 W) :
    Calls Tryd.prog 14 #[.pointer (some ⟨bz, 0, none⟩), .int .i64 7] W fun e w' => e = .returned (.int .i64 0) ∧ LVs P3 bz B w0 w' := by
  obtain ⟨ζ, rfl, lv, hsh, hL, ⟨c, hc, hr, h0⟩, hs⟩ := h
  refine (begin_any ζ 7 W lv.is).mono ?_
  have hE : beginE ζ 7 = 0 := by unfold beginE; rw [hs]; rfl
  rintro e w' ⟨rfl, ζ', hst, hL', _, h2⟩
  obtain ⟨h3, h4, h5⟩ := h2 hE
  exact ⟨by rw [hE], ζ', hst.bz, lv.step hst, hsh.of hst.σ, hL'.trans hL, ⟨ζ.Cs, c, h5, hc, hr, h0⟩, by rw [h3, hL], h4⟩
theorem c_begin2 {bz j : Nat} {B : List (Nat × Obj)} {w0 W : World} (h : LVs (P4 j) bz B w0 W) :
    Calls Tryd.prog 14 #[.pointer (some ⟨bz, 0, none⟩), .int .i64 8] W fun e w' => e = .returned (.int .i64 220) ∧ LVs (P4 j) bz B w0 w' := by
  obtain ⟨ζ, rfl, lv, hP⟩ := h
  refine (begin_any ζ 8 W lv.is).mono ?_
  have hE : beginE ζ 8 = 220 := by unfold beginE; rw [hP.2.2.2.1]; rfl
  rintro e w' ⟨rfl, ζ', hst, hL', h2, _⟩
  obtain rfl := h2 (by rw [hE]; decide)
  exact ⟨by rw [hE], ζ', rfl, lv.step hst, hP⟩
theorem c_copies {bz j : Nat} {B : List (Nat × Obj)} {w0 W : World} (h : LVs (P4 j) bz B w0 W) :
    Calls Tryd.prog 36 #[.pointer (some ⟨bz, 0, none⟩), .string ⟨#[97]⟩] W fun e w' => e = .returned (.tuple #[.agg #[.int .i64 1, .int .i64 1, .string ⟨#[]⟩], .agg #[.int .i64 1, .int .i64 2, .string ⟨#[]⟩]]) ∧ LVs (P4 j) bz B w0 w' := by
  obtain ⟨ζ, rfl, lv, hP⟩ := h
  refine (copies_any ζ kA W lv.is kA_max).mono ?_
  rintro e w' ⟨rfl, hf⟩
  exact ⟨by rw [hP.2.2.1.2]; rfl, ζ, rfl, lv.next hf, hP⟩
theorem c_bits {bz j : Nat} {B : List (Nat × Obj)} {w0 W : World} (h : LVs (P4 j) bz B w0 W) :
    Calls Tryd.prog 25 #[.pointer (some ⟨bz, 0, none⟩), .string ⟨#[97]⟩] W fun e w' => e = .returned (.tuple #[.int .i64 1, .int .i64 1]) ∧ LVs (P4 j) bz B w0 w' := by
  obtain ⟨ζ, rfl, lv, hP⟩ := h
  refine (bits_any ζ kA W lv.is kA_max).mono ?_
  rintro e w' ⟨rfl, n, rfl⟩
  exact ⟨by rw [hP.2.2.1.1]; rfl, ζ, rfl, lv.next ((Fr.refl _ _).drewN n), hP⟩
theorem c_step {bz : Nat} {B : List (Nat × Obj)} {w0 W : World} (h : LVs (P4 0) bz B w0 W) :
    Calls Tryd.prog 15 #[.pointer (some ⟨bz, 0, none⟩), .int .i64 9] W fun e w' => e = .returned (.int .i64 1) ∧ LVs (P4 1) bz B w0 w' := by
  obtain ⟨ζ, rfl, lv, hP⟩ := h
  have hs := hP.2.2.2.1
  refine (step_any ζ 9 W lv.is (fun L0 j e => by rw [hs] at e; injection e with e; injection e with e _; rw [← e]; decide)).mono ?_
  have hN : stepN ζ 9 = 1 := by unfold stepN; rw [hs]; rfl
  rintro e w' ⟨rfl, ζ', hst, hL', hC', hm', hs'⟩
  refine ⟨by rw [hN]; rfl, ζ', hst.bz, lv.step hst, hP.1.of hst.σ, hL'.trans hP.2.1, by rw [hC']; exact hP.2.2.1, ?_, hm'.trans hP.2.2.2.2⟩
  rw [hs', hN, hs]; rfl
theorem c_take {bz : Nat} {B : List (Nat × Obj)} {w0 W : World} (h : LVs (P4 1) bz B w0 W) :
    Calls Tryd.prog 16 #[.pointer (some ⟨bz, 0, none⟩)] W fun e w' => ∃ p n c, e = .returned (.tuple #[.agg #[.int .i64 7, .slice p n c], .bool true]) ∧ w'.ownsRow W.heap.size 5 1 (.slice p n c) n (Lib.byteCells [49, 10, 51, 10, 97, 32, 49, 10]) ∧ LVs P6 bz B w0 w' := by
  obtain ⟨ζ, rfl, lv, hP⟩ := h
  have hs := hP.2.2.2.1
  refine (take_any ζ W lv.is lv.env (fun e => by have := lv.lo ζ.bz (.inl rfl); have := lv.glob; omega)).mono ?_
  have hB : takeB ζ = true := by unfold takeB; rw [hs]; rfl
  have hY : takeBytes ζ = [49, 10, 51, 10, 97, 32, 49, 10] := by
    unfold takeBytes; rw [hs, hP.1.1, hP.1.2]
    exact bytes2
  have hM : takeMark ζ = 7 := by unfold takeMark; rw [hB]; exact hP.2.2.2.2
  rintro e w' ⟨p, n, c, ζ', rfl, ho, hst, hL', hC', _, _⟩
  rw [hY] at ho
  exact ⟨p, n, c, by rw [hB, hM], ho, ζ', hst.bz, lv.step hst, hP.1.of hst.σ, hL'.trans hP.2.1⟩
theorem c_get {bz : Nat} {B : List (Nat × Obj)} {w0 W : World} (h : LVs P6 bz B w0 W) :
    Calls Tryd.prog 18 #[.pointer (some ⟨bz, 0, none⟩), .string ⟨#[97]⟩] W fun e w' => e = .returned (.agg #[.int .i64 1, .int .i64 2, .string ⟨#[]⟩]) ∧ LVs P6 bz B w0 w' ∧ Fr nothing W w' := by
  obtain ⟨ζ, rfl, lv, hP⟩ := h
  refine (zget_any ζ kA W lv.is kA_max).mono ?_
  rintro e w' ⟨rfl, hf⟩
  exact ⟨by rw [hP.2]; rfl, ⟨ζ, rfl, lv.next hf, hP⟩, hf⟩
theorem c_bytes {bz : Nat} {B : List (Nat × Obj)} {w0 W : World} (h : LVs P6 bz B w0 W) :
    Calls Tryd.prog 19 #[.pointer (some ⟨bz, 0, none⟩)] W fun e w' => ∃ p n c, e = .returned (.slice p n c) ∧ w'.ownsRow W.heap.size 5 1 (.slice p n c) n (Lib.byteCells [49, 10, 51, 10, 97, 32, 50, 10]) ∧ Fr nothing W w' := by
  obtain ⟨ζ, rfl, lv, hP⟩ := h
  refine (zbytes_any ζ W lv.is lv.env).mono ?_
  rintro e w' ⟨p, c, n, rfl, ho, hf⟩
  rw [hP.1.1, hP.1.2, hP.2, bytes3] at ho
  exact ⟨p, n, c, rfl, ho, hf⟩
end Go.Proofs.YtobccbakmcckiaaDoor
