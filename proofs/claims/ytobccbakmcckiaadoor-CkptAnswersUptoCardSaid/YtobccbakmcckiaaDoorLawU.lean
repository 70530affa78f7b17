/- Two copies of one act, made and laid into variables in whatever order: how each way closes. -/
import Derived.Test.YtobccbakmcckiaaDoorLawM
namespace Go.Proofs.YtobccbakmcckiaaDoor
open Go Go.RowKit Go.Sort

def AG.at_ (a : AG) (kp : Option Addr) (kc : Nat) (wp : Option Addr) (wc : Nat) : AG := { a with kp := kp, kc := kc, wp := wp, wc := wc }
/-- A copy of the act a, made behind wr, in the block g. -/
def Owned (wr wx : World) (a : AG) (g : Nat) : Prop := ∃ kp kc wp wc, wx.heap[g]? = some (.cells (a.at_ kp kc wp wc).row 36 (0, 0)) ∧ StrsAt wx kp a.keys ∧ WrsAt wx wp a.ws ∧ wr.heap.size ≤ g ∧ (∀ b, kp = some b → wr.heap.size ≤ b.block) ∧ (∀ b, wp = some b → wr.heap.size ≤ b.block)
def OwnT (wr : World) (a : AG) (s10 s11 : Value) (wx : World) : Prop := ∃ g h, s10 = .pointer (some ⟨g, 0, none⟩) ∧ s11 = .pointer (some ⟨h, 0, none⟩) ∧ Owned wr wx a g ∧ Owned wr wx a h ∧ Fr nothing wr wx
abbrev ZO : Obj := .cells #[.int .i64 0, .slice none 0 0, .slice none 0 0, .int .i64 0, .int .i64 0] 36
theorem Fr.drew {S : Nat → Prop} {a b : World} (h : Fr S a b) : Fr S a b.drew := h.drewN 1
theorem z_one {W0 w5 : World} (f : Fr nothing (W0.alloc ZO) w5) : w5.heap[W0.heap.size]? = some ZO := (f.block _ (by simp) nothing_not).trans (heap_alloc_new W0 _)
theorem z_two {W0 w5 : World} (f : Fr nothing ((W0.alloc ZO).alloc ZO) w5) : w5.heap[W0.heap.size]? = some ZO ∧ w5.heap[W0.heap.size + 1]? = some ZO :=
  ⟨(f.block _ (by simp; omega) nothing_not).trans ((((Fr.refl nothing _).alloc _).block _ (by simp) nothing_not).trans (heap_alloc_new W0 _)), (f.block _ (by simp) nothing_not).trans (heap_new2 W0 _ _)⟩
theorem z_oned {W0 w5 : World} (f : Fr nothing (W0.alloc ZO).drew w5) : w5.heap[W0.heap.size]? = some ZO := z_one (((Fr.refl nothing _).drewN 1).trans f)
theorem z_twod {W0 w5 : World} (f : Fr nothing ((W0.alloc ZO).alloc ZO).drew w5) : w5.heap[W0.heap.size]? = some ZO ∧ w5.heap[W0.heap.size + 1]? = some ZO := z_two (((Fr.refl nothing _).drewN 1).trans f)
theorem Fr.setFar {a b : World} {p : Addr} {u : Value} (h : Fr nothing a b) (hp : a.heap.size ≤ p.block) : Fr nothing a (b.setCell p u) := h.setCell (fun hlt => absurd hlt (by omega)) u
theorem fr_a1 {W0 w5 : World} {X : Obj} (f : Fr nothing (W0.alloc X) w5) : Fr nothing W0 w5 := ((Fr.refl _ _).alloc _).trans f
theorem fr_a2 {W0 w5 : World} {X Y : Obj} (f : Fr nothing ((W0.alloc X).alloc Y) w5) : Fr nothing W0 w5 := (((Fr.refl _ _).alloc _).alloc _).trans f
theorem z_cells {w : World} {g : Nat} (h : w.heap[g]? = some ZO) : (w.cell? ⟨g, 0, none⟩ = some (.int .i64 0) ∧ w.cell? ⟨g, 1, none⟩ = some (.slice none 0 0) ∧ w.cell? ⟨g, 2, none⟩ = some (.slice none 0 0) ∧ w.cell? ⟨g, 3, none⟩ = some (.int .i64 0) ∧ w.cell? ⟨g, 4, none⟩ = some (.int .i64 0)) ∧ (w.frozen? ⟨g, 0, none⟩ = false ∧ w.frozen? ⟨g, 1, none⟩ = false ∧ w.frozen? ⟨g, 2, none⟩ = false ∧ w.frozen? ⟨g, 3, none⟩ = false ∧ w.frozen? ⟨g, 4, none⟩ = false) :=
  ⟨⟨cell_heap h 0, cell_heap h 1, cell_heap h 2, cell_heap h 3, cell_heap h 4⟩, frozen_heap h 0, frozen_heap h 1, frozen_heap h 2, frozen_heap h 3, frozen_heap h 4⟩
theorem z_string {w : World} {g o : Nat} {s : ByteArray} (h : w.heap[g]? = some ZO) (hc : w.cell? ⟨g, o, none⟩ = some (.string s)) : False := by
  rw [cell_heap h] at hc
  match o, hc with
  | 0, hc => cases hc
  | 1, hc => cases hc
  | 2, hc => cases hc
  | 3, hc => cases hc
  | 4, hc => cases hc
  | n + 5, hc => simp at hc
theorem strs_set {w w' : World} {g : Nat} {p : Option Addr} {ss : List Key} (h : StrsAt w p ss) (hz : w.heap[g]? = some ZO) (hf : Fr (fun b => b = g) w w') : StrsAt w' p ss := by
  rcases h with h | ⟨b, o, rfl, h⟩
  · exact .inl h
  · by_cases h0 : ss = []
    · exact .inl h0
    · refine .inr ⟨b, o, rfl, fun i hi => hf.cellOf (h i hi) ?_⟩
      intro e
      dsimp only at e
      subst e
      exact z_string hz (h i hi)
theorem wrs_set {w w' : World} {g : Nat} {p : Option Addr} {ws : List SWr} (h : WrsAt w p ws) (hz : w.heap[g]? = some ZO) (hf : Fr (fun b => b = g) w w') : WrsAt w' p ws := by
  by_cases h0 : ws = []
  · exact .inl h0
  · refine h.frame hf fun a ha e => ?_
    subst ha
    have hl : 0 < ws.length := by cases ws with | nil => exact absurd rfl h0 | cons => simp
    obtain ⟨b, o, hp, c, _⟩ := h.cell hl
    injection hp with hp
    subst hp
    dsimp only at e
    subst e
    exact z_string hz c
/-- The five stores of a row. -/
abbrev set5 (w : World) (g : Nat) (k : Int) (kp : Option Addr) (kn kc : Nat) (wp : Option Addr) (wn wc : Nat) (m n : Int) : World :=
  ((((w.setCell ⟨g, 0, none⟩ (.int .i64 k)).setCell ⟨g, 1, none⟩ (.slice kp kn kc)).setCell ⟨g, 2, none⟩ (.slice wp wn wc)).setCell ⟨g, 3, none⟩ (.int .i64 m)).setCell ⟨g, 4, none⟩ (.int .i64 n)
theorem set5_row {w : World} {g : Nat} (h : w.heap[g]? = some ZO) (k : Int) (kp : Option Addr) (kn kc : Nat) (wp : Option Addr) (wn wc : Nat) (m n : Int) :
    (set5 w g k kp kn kc wp wn wc m n).heap[g]? = some (.cells #[.int .i64 k, .slice kp kn kc, .slice wp wn wc, .int .i64 m, .int .i64 n] 36 (0, 0)) :=
  heap_set (heap_set (heap_set (heap_set (heap_set h 0 _) 1 _) 2 _) 3 _) 4 _
theorem set5_fr (w : World) (g : Nat) (k : Int) (kp : Option Addr) (kn kc : Nat) (wp : Option Addr) (wn wc : Nat) (m n : Int) : Fr (fun b => b = g) w (set5 w g k kp kn kc wp wn wc m n) :=
  (((((Fr.refl (fun b => b = g) w).setCell (p := ⟨g, 0, none⟩) (fun _ => rfl) _).setCell (p := ⟨g, 1, none⟩) (fun _ => rfl) _).setCell (p := ⟨g, 2, none⟩) (fun _ => rfl) _).setCell (p := ⟨g, 3, none⟩) (fun _ => rfl) _).setCell (p := ⟨g, 4, none⟩) (fun _ => rfl) _
/-- Both copies lie in w6; the variables do not yet hold them. -/
structure TwoO (wr w6 : World) (a : AG) (kp1 wp1 kp2 wp2 : Option Addr) : Prop where
  s1 : StrsAt w6 kp1 a.keys
  t1 : WrsAt w6 wp1 a.ws
  s2 : StrsAt w6 kp2 a.keys
  t2 : WrsAt w6 wp2 a.ws
  b1 : ∀ b, kp1 = some b → wr.heap.size ≤ b.block
  d1 : ∀ b, wp1 = some b → wr.heap.size ≤ b.block
  b2 : ∀ b, kp2 = some b → wr.heap.size ≤ b.block
  d2 : ∀ b, wp2 = some b → wr.heap.size ≤ b.block
  fr : Fr nothing wr w6
theorem TwoO.set {wr w6 w7 : World} {a : AG} {kp1 wp1 kp2 wp2 : Option Addr} (t : TwoO wr w6 a kp1 wp1 kp2 wp2) {g : Nat} (hz : w6.heap[g]? = some ZO) (hg : wr.heap.size ≤ g) (hf : Fr (fun b => b = g) w6 w7) : TwoO wr w7 a kp1 wp1 kp2 wp2 :=
  ⟨strs_set t.s1 hz hf, wrs_set t.t1 hz hf, strs_set t.s2 hz hf, wrs_set t.t2 hz hf, t.b1, t.d1, t.b2, t.d2, t.fr.next hf fun i hi e => by omega⟩
theorem TwoO.next {wr w6 w7 : World} {a : AG} {kp1 wp1 kp2 wp2 : Option Addr} (t : TwoO wr w6 a kp1 wp1 kp2 wp2) (hf : Fr nothing w6 w7) : TwoO wr w7 a kp1 wp1 kp2 wp2 :=
  ⟨t.s1.frame hf fun _ _ => nothing_not, t.t1.frame hf fun _ _ => nothing_not, t.s2.frame hf fun _ _ => nothing_not, t.t2.frame hf fun _ _ => nothing_not, t.b1, t.d1, t.b2, t.d2, t.fr.trans hf⟩
abbrev rowO (a : AG) (kp : Option Addr) (kc : Nat) (wp : Option Addr) (wc : Nat) : Obj := .cells #[.int .i64 a.kind, .slice kp a.keys.length kc, .slice wp a.ws.length wc, .int .i64 a.mark, .int .i64 a.n] 36
theorem TwoO.fin {wr wx : World} {a : AG} {kp1 wp1 kp2 wp2 : Option Addr} (t : TwoO wr wx a kp1 wp1 kp2 wp2) {g h kc1 wc1 kc2 wc2 : Nat} (hg : wx.heap[g]? = some (rowO a kp1 kc1 wp1 wc1)) (hh : wx.heap[h]? = some (rowO a kp2 kc2 wp2 wc2)) (lg : wr.heap.size ≤ g) (lh : wr.heap.size ≤ h) :
    OwnT wr a (.pointer (some ⟨g, 0, none⟩)) (.pointer (some ⟨h, 0, none⟩)) wx :=
  ⟨g, h, rfl, rfl, ⟨kp1, kc1, wp1, wc1, hg, t.s1, t.t1, lg, t.b1, t.d1⟩, ⟨kp2, kc2, wp2, wc2, hh, t.s2, t.t2, lh, t.b2, t.d2⟩, t.fr⟩
section
variable {wr w6 : World} {a : AG} {kp1 wp1 kp2 wp2 : Option Addr} {kc1 wc1 kc2 wc2 : Nat} (t : TwoO wr w6 a kp1 wp1 kp2 wp2)
include t
theorem close_A : OwnT wr a (.pointer (some ⟨w6.heap.size, 0, none⟩)) (.pointer (some ⟨w6.heap.size + 1, 0, none⟩)) ((w6.alloc (rowO a kp1 kc1 wp1 wc1)).alloc (rowO a kp2 kc2 wp2 wc2)) := by
  have hs := t.fr.size
  refine TwoO.fin (kc1 := kc1) (wc1 := wc1) (kc2 := kc2) (wc2 := wc2) (t.next (((Fr.refl _ _).alloc _).alloc _)) ?_ (heap_new2 w6 _ _) hs (by omega)
  exact (((Fr.refl nothing _).alloc _).block _ (by simp) nothing_not).trans (heap_alloc_new w6 _)
theorem close_B : OwnT wr a (.pointer (some ⟨w6.heap.size + 1, 0, none⟩)) (.pointer (some ⟨w6.heap.size, 0, none⟩)) ((w6.alloc (rowO a kp2 kc2 wp2 wc2)).alloc (rowO a kp1 kc1 wp1 wc1)) := by
  have hs := t.fr.size
  refine TwoO.fin (kc1 := kc1) (wc1 := wc1) (kc2 := kc2) (wc2 := wc2) (t.next (((Fr.refl _ _).alloc _).alloc _)) (heap_new2 w6 _ _) ?_ (by omega) hs
  exact (((Fr.refl nothing _).alloc _).block _ (by simp) nothing_not).trans (heap_alloc_new w6 _)
theorem close_C {g : Nat} (hz : w6.heap[g]? = some ZO) (hg : wr.heap.size ≤ g) : OwnT wr a (.pointer (some ⟨g, 0, none⟩)) (.pointer (some ⟨w6.heap.size, 0, none⟩)) ((set5 w6 g a.kind kp1 a.keys.length kc1 wp1 a.ws.length wc1 a.mark a.n).alloc (rowO a kp2 kc2 wp2 wc2)) := by
  have hs := t.fr.size
  have hf := set5_fr w6 g a.kind kp1 a.keys.length kc1 wp1 a.ws.length wc1 a.mark a.n
  have hr := set5_row hz a.kind kp1 a.keys.length kc1 wp1 a.ws.length wc1 a.mark a.n
  have hsz : (set5 w6 g a.kind kp1 a.keys.length kc1 wp1 a.ws.length wc1 a.mark a.n).heap.size = w6.heap.size := by simp [set5, World.setCell]
  have h1 := (t.set hz hg hf).next ((Fr.refl nothing _).alloc (rowO a kp2 kc2 wp2 wc2))
  refine TwoO.fin (kc1 := kc1) (wc1 := wc1) (kc2 := kc2) (wc2 := wc2) h1 ((((Fr.refl nothing _).alloc _).block _ (heap_lt hr) nothing_not).trans hr) ?_ hg hs
  rw [← hsz]
  exact heap_alloc_new _ _
theorem close_D {h : Nat} (hz : w6.heap[h]? = some ZO) (hh : wr.heap.size ≤ h) : OwnT wr a (.pointer (some ⟨w6.heap.size, 0, none⟩)) (.pointer (some ⟨h, 0, none⟩)) ((set5 w6 h a.kind kp2 a.keys.length kc2 wp2 a.ws.length wc2 a.mark a.n).alloc (rowO a kp1 kc1 wp1 wc1)) := by
  have hs := t.fr.size
  have hf := set5_fr w6 h a.kind kp2 a.keys.length kc2 wp2 a.ws.length wc2 a.mark a.n
  have hr := set5_row hz a.kind kp2 a.keys.length kc2 wp2 a.ws.length wc2 a.mark a.n
  have hsz : (set5 w6 h a.kind kp2 a.keys.length kc2 wp2 a.ws.length wc2 a.mark a.n).heap.size = w6.heap.size := by simp [set5, World.setCell]
  have h1 := (t.set hz hh hf).next ((Fr.refl nothing _).alloc (rowO a kp1 kc1 wp1 wc1))
  refine TwoO.fin (kc1 := kc1) (wc1 := wc1) (kc2 := kc2) (wc2 := wc2) h1 ?_ ((((Fr.refl nothing _).alloc _).block _ (heap_lt hr) nothing_not).trans hr) hs hh
  rw [← hsz]
  exact heap_alloc_new _ _
theorem close_E {g h : Nat} (hz : w6.heap[g]? = some ZO) (hg : wr.heap.size ≤ g) (hz2 : w6.heap[h]? = some ZO) (hh : wr.heap.size ≤ h) (hne : g ≠ h) : OwnT wr a (.pointer (some ⟨g, 0, none⟩)) (.pointer (some ⟨h, 0, none⟩)) (set5 (set5 w6 g a.kind kp1 a.keys.length kc1 wp1 a.ws.length wc1 a.mark a.n) h a.kind kp2 a.keys.length kc2 wp2 a.ws.length wc2 a.mark a.n) := by
  have hf := set5_fr w6 g a.kind kp1 a.keys.length kc1 wp1 a.ws.length wc1 a.mark a.n
  have hr := set5_row hz a.kind kp1 a.keys.length kc1 wp1 a.ws.length wc1 a.mark a.n
  have hz3 := (hf.block h (heap_lt hz2) (fun e => hne e.symm)).trans hz2
  generalize set5 w6 g a.kind kp1 a.keys.length kc1 wp1 a.ws.length wc1 a.mark a.n = w7 at hf hr hz3 ⊢
  have hf2 := set5_fr w7 h a.kind kp2 a.keys.length kc2 wp2 a.ws.length wc2 a.mark a.n
  exact TwoO.fin (kc1 := kc1) (wc1 := wc1) (kc2 := kc2) (wc2 := wc2) ((t.set hz hg hf).set hz3 hh hf2) ((hf2.block g (heap_lt hr) hne).trans hr) (set5_row hz3 _ _ _ _ _ _ _ _ _) hg hh
end
theorem own_wr {wr : World} (a : AG) (W : World) (hf : Fr nothing wr W) (hk : StrsAt wr a.kp a.keys) (hw : WrsAt wr a.wp a.ws) (hok : a.ok) (h1 : a.keys.length ≤ 2000000) (h2 : a.ws.length ≤ 2000000) :
    Calls Tryd.prog 11 #[.agg a.row] W fun e w' => ∃ kp kc wp wc, e = .returned (.agg ({ a with kp := kp, kc := kc, wp := wp, wc := wc } : AG).row) ∧ StrsAt w' kp a.keys ∧ WrsAt w' wp a.ws ∧ (∀ b, kp = some b → wr.heap.size ≤ b.block) ∧ (∀ b, wp = some b → wr.heap.size ≤ b.block) ∧ Fr nothing W w' ∧ Fr nothing wr w' := by
  refine (own_any a W (hk.frame hf fun _ _ => nothing_not) (hw.frame hf fun _ _ => nothing_not) hok h1 h2).mono ?_
  rintro e w' ⟨kp, kc, wp, wc, he, s, t, b, d, f⟩
  exact ⟨kp, kc, wp, wc, he, s, t, fun x hx => Nat.le_trans hf.size (b x hx).1, fun x hx => Nat.le_trans hf.size (d x hx).1, f, hf.trans f⟩
end Go.Proofs.YtobccbakmcckiaaDoor
