/- CkptAnswers: two Zigs side by side; the law's input. -/
import Derived.Test.YtobccbakmcckiaaDoorLawJ
namespace Go.Proofs.YtobccbakmcckiaaDoor
open Go Go.RowKit Go.Sort

/-- Two Zigs, apart, of the same parts and room. -/
structure TW (w0 w : World) (ζ η : ZG) : Prop where
  z : IsZig w ζ
  y : IsZig w η
  sh : ζ.σ.parts = η.σ.parts ∧ ζ.σ.room = η.σ.room
  ap : ∀ k, ζ.fp k → η.fp k → False
  lz : ∀ k, ζ.fp k → w0.heap.size ≤ k
  ly : ∀ k, η.fp k → w0.heap.size ≤ k
  fr : Fr nothing w0 w
  env : Env w
  glob : 2 < w0.heap.size
theorem TW.symm {w0 w : World} {ζ η : ZG} (h : TW w0 w ζ η) : TW w0 w η ζ := ⟨h.y, h.z, ⟨h.sh.1.symm, h.sh.2.symm⟩, fun k a b => h.ap k b a, h.ly, h.lz, h.fr, h.env, h.glob⟩
theorem TW.next {w0 w w' : World} {ζ η : ZG} (h : TW w0 w ζ η) (hf : Fr nothing w w') : TW w0 w' ζ η :=
  ⟨h.z.frame hf fun _ _ => nothing_not, h.y.frame hf fun _ _ => nothing_not, h.sh, h.ap, h.lz, h.ly, h.fr.trans hf, h.env.frame hf nothing_not, h.glob⟩
theorem TW.step {w0 w w' : World} {ζ ζ' η : ZG} (h : TW w0 w ζ η) (hs : ZStep w ζ w' ζ') : TW w0 w' ζ' η where
  z := hs.is
  y := h.y.frame hs.fr fun k hk hz => h.ap k hz hk
  sh := by rw [hs.σ]; exact h.sh
  ap k hk hy := by
    rcases hs.fp k hk with h1 | h1
    · exact h.ap k h1 hy
    · have := h.y.lt hy; omega
  lz k hk := by
    rcases hs.fp k hk with h1 | h1
    · exact h.lz k h1
    · have := h.fr.size; omega
  ly := h.ly
  fr := h.fr.next hs.fr fun i hi hk => by have := h.lz _ hk; omega
  env := h.env.frame hs.fr fun hk => by have := h.lz _ hk; have := h.glob; omega
  glob := h.glob
/-- The law's state: pointers bz and bz', the same list. -/
def TWs (bz bz' : Nat) (w0 w : World) : Prop := ∃ ζ η : ZG, ζ.bz = bz ∧ η.bz = bz' ∧ TW w0 w ζ η ∧ ζ.L = η.L
theorem TWs.next {bz bz' : Nat} {w0 w w' : World} (h : TWs bz bz' w0 w) (hf : Fr nothing w w') : TWs bz bz' w0 w' :=
  let ⟨ζ, η, h1, h2, h3, h4⟩ := h; ⟨ζ, η, h1, h2, h3.next hf, h4⟩
theorem TWs.fr {bz bz' : Nat} {w0 w : World} (h : TWs bz bz' w0 w) : Fr nothing w0 w := let ⟨_, _, _, _, h3, _⟩ := h; h3.fr
theorem TWs.env {bz bz' : Nat} {w0 w : World} (h : TWs bz bz' w0 w) : Env w := let ⟨_, _, _, _, h3, _⟩ := h; h3.env
theorem TWs.glob {bz bz' : Nat} {w0 w : World} (h : TWs bz bz' w0 w) : 2 < w0.heap.size := let ⟨_, _, _, _, h3, _⟩ := h; h3.glob

/-- The law's Story, as it lies in memory. -/
structure StoryOK (w : World) (ap : Option Addr) (l : List AG) : Prop where
  acts : ActsAt w ap l
  ok : ∀ a ∈ l, a.ok
  n1 : l.length ≤ 2000000
  n2 : sumLens l ≤ 2000000
  keys : ∀ a ∈ l, ∀ k ∈ a.keys, k.length ≤ maxLen
  ws : ∀ a ∈ l, ∀ x ∈ a.ws, (x.key.length ≤ maxLen ∧ x.val.text.length ≤ maxLen) ∧ i64 x.val.num
theorem StoryOK.next {w w' : World} {ap : Option Addr} {l : List AG} (h : StoryOK w ap l) (hf : Fr nothing w w') : StoryOK w' ap l :=
  ⟨acts_fr h.acts hf, h.ok, h.n1, h.n2, h.keys, h.ws⟩
theorem sum_part : ∀ (l : List AG) (a : AG), a ∈ l → a.keys.length + a.ws.length ≤ sumLens l
  | b :: r, a, h => by
    unfold sumLens
    rw [List.map_cons, List.sum_cons]
    rcases List.mem_cons.1 h with rfl | h
    · omega
    · have := sum_part r a h
      unfold sumLens at this
      omega
theorem StoryOK.lens {w : World} {ap : Option Addr} {l : List AG} (h : StoryOK w ap l) {a : AG} (ha : a ∈ l) : a.keys.length ≤ 2000000 ∧ a.ws.length ≤ 2000000 := by
  have := sum_part l a ha
  have := h.n2
  exact ⟨by omega, by omega⟩
theorem StoryOK.short {l : List AG} {bn : Nat} (h : longB bn l = false) {a : AG} (ha : a ∈ l) : a.keys.length ≤ 1000000 ∧ a.ws.length ≤ 1000000 := by
  unfold longB at h
  simp at h
  have := sum_part l a ha
  exact ⟨by omega, by omega⟩
/-- The box of a Story. -/
def storyX (bp : Option Addr) (bn bc : Nat) (parts room : Int) (ap : Option Addr) (l : List AG) (ac : Nat) : Obj := .cells #[.slice bp bn bc, .int .i64 parts, .int .i64 room, .slice ap l.length ac] 25

set_option maxRecDepth 100000 in
set_option maxHeartbeats 4000000 in
theorem answers_long (bp : Option Addr) (bn bc : Nat) (parts room : Int) (ap : Option Addr) (l : List AG) (ac : Nat) (qp : Option Addr) (qc : Nat) (ask : List Key) (w : World) (he : Env w) (hs : StoryOK w ap l) (hn : ask.length ≤ 2000000) (hl : longB bn l = true ∨ 100 < ask.length) :
    Calls Tryd.prog 3 #[storyV bp bn bc parts room ap l ac, .slice qp ask.length qc] w fun e w' => e = .returned (.bool true) ∧ Fr nothing w w' := by
  have HLg := Lib.hid (fun W (hf : Fr nothing w W) => long_any bp bn bc parts room ap l ac W (acts_fr hs.acts hf) hs.n1 hs.n2)
  have HE := Lib.hid he
  have HA := Lib.hid ((Fr.refl nothing w).alloc (storyX bp bn bc parts room ap l ac))
  unfold storyX at HA
  clear hs he
  cases hB : longB bn l
  · have hask : 100 < ask.length := by rcases hl with h | h; · rw [hB] at h; cases h
                                       · exact h
    rw [hB] at HLg
    clear hl hB
    unfold storyV at HLg ⊢
    go_enter Tryd.func3, Tryd.ntmps3
    go_wp2_with (first
      | (go_at_call 7; refine (HLg.out _ HA.out).mono ?_; rintro e w2 ⟨rfl, hf2⟩; have HF2 := Lib.hid hf2; clear hf2)
      | (go_at_call 8; refine (live_any _ (HE.out.frame (HA.out.trans HF2.out) nothing_not)).mono ?_; rintro e w3 ⟨rfl, hf3⟩; have HF3 := Lib.hid hf3; clear hf3))
    go_ret
    exact ⟨rfl, (HA.out.trans HF2.out).trans HF3.out⟩
  · rw [hB] at HLg
    clear hl hB
    unfold storyV at HLg ⊢
    go_enter Tryd.func3, Tryd.ntmps3
    go_wp2_with (first
      | (go_at_call 7; refine (HLg.out _ HA.out).mono ?_; rintro e w2 ⟨rfl, hf2⟩; have HF2 := Lib.hid hf2; clear hf2)
      | (go_at_call 8; refine (live_any _ (HE.out.frame (HA.out.trans HF2.out) nothing_not)).mono ?_; rintro e w3 ⟨rfl, hf3⟩; have HF3 := Lib.hid hf3; clear hf3))
    go_ret
    exact ⟨rfl, (HA.out.trans HF2.out).trans HF3.out⟩

set_option maxRecDepth 100000 in
set_option maxHeartbeats 4000000 in
theorem answers_bad (bp : Option Addr) (bn bc : Nat) (parts room : Int) (ap : Option Addr) (l : List AG) (ac : Nat) (qp : Option Addr) (qc : Nat) (ask : List Key) (w : World) (he : Env w) (hs : StoryOK w ap l) (hl : longB bn l = false) (hask : ask.length ≤ 100) (hb : newBad parts room = true) :
    Calls Tryd.prog 3 #[storyV bp bn bc parts room ap l ac, .slice qp ask.length qc] w fun e w' => e = .returned (.bool true) ∧ Fr nothing w w' := by
  have HLg := Lib.hid (fun W (hf : Fr nothing w W) => long_any bp bn bc parts room ap l ac W (acts_fr hs.acts hf) hs.n1 hs.n2)
  have HE := Lib.hid he
  have HA := Lib.hid ((Fr.refl nothing w).alloc (storyX bp bn bc parts room ap l ac))
  have HX := Lib.hid (heap_alloc_new w (.cells #[.slice bp bn bc, .int .i64 parts, .int .i64 room, .slice ap l.length ac] 25))
  have HB := Lib.hid (fun W => znew_bad parts room W hb)
  unfold storyX at HA
  clear hs he hb
  rw [hl] at HLg
  clear hl
  unfold storyV at HLg ⊢
  go_enter Tryd.func3, Tryd.ntmps3
  go_wp2_with (first
    | (go_at_call 7; refine (HLg.out _ HA.out).mono ?_; rintro e w2 ⟨rfl, hf2⟩
       have hx2 := (hf2.block _ (heap_lt HX.out) nothing_not).trans HX.out
       have x1 : w2.cell? ⟨w.heap.size, 1, none⟩ = some (.int .i64 parts) := cell_heap hx2 1
       have x2 : w2.cell? ⟨w.heap.size, 2, none⟩ = some (.int .i64 room) := cell_heap hx2 2
       have HF2 := Lib.hid hf2; clear hf2 hx2)
    | (go_at_call 10; refine (num_any _ _).mono ?_; rintro e w' ⟨rfl, rfl⟩)
    | (go_at_call 9; refine (HB.out _).mono ?_; rintro e w' ⟨rfl, rfl⟩)
    | (go_at_call 8; refine (live_any _ (HE.out.frame (HA.out.trans HF2.out) nothing_not)).mono ?_; rintro e w3 ⟨rfl, hf3⟩; have HF3 := Lib.hid hf3; clear hf3))
  go_ret
  exact ⟨rfl, (HA.out.trans HF2.out).trans HF3.out⟩
end Go.Proofs.YtobccbakmcckiaaDoor
