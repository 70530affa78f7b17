/- CkptFrozen: what was laid aside at the last Begin. -/
import Derived.Test.YtobccbakmcckiaaDoorLawN
namespace Go.Proofs.YtobccbakmcckiaaDoor
open Go Go.RowKit Go.Sort

def IntsAt (w : World) (p : Option Addr) (ns : List Nat) : Prop := ns = [] ∨ ∃ b o, p = some ⟨b, o, none⟩ ∧ ∀ i (h : i < ns.length), w.cell? ⟨b, o + i, none⟩ = some (.int .i64 (ns[i] : Nat))
theorem IntsAt.frame {w w' : World} {p : Option Addr} {ns : List Nat} (h : IntsAt w p ns) {S : Nat → Prop} (hf : Fr S w w') (hs : ∀ a, p = some a → ¬ S a.block) : IntsAt w' p ns := by
  rcases h with h | ⟨b, o, rfl, h⟩
  · exact .inl h
  · exact .inr ⟨b, o, rfl, fun i hi => hf.cellOf (h i hi) (hs ⟨b, o, none⟩ rfl)⟩
theorem IntsAt.cell {w : World} {p : Option Addr} {ns : List Nat} (h : IntsAt w p ns) {i : Nat} (hi : i < ns.length) : ∃ b o, p = some ⟨b, o, none⟩ ∧ w.cell? ⟨b, o + i, none⟩ = some (.int .i64 (ns[i] : Nat)) := by
  rcases h with h | ⟨b, o, hp, h⟩
  · subst h; cases hi
  · exact ⟨b, o, hp, h i hi⟩
def bitL (Cs : CL) (ks : List Key) : List Nat := ks.map fun k => (bitsOf Cs k).2
theorem ints_of_owns {w : World} {base n c : Nat} {p : Option Addr} {Cs : CL} {ks : List Key} (h : w.ownsRow base 3 1 (.slice p n c) n (wBits Cs ks)) : IntsAt w p (bitL Cs ks) := by
  by_cases h0 : ks = []
  · subst h0; exact .inl rfl
  · have hne : wBits Cs ks ≠ [] := by
      cases ks with
      | nil => exact absurd rfl h0
      | cons a r => unfold wBits; simp
    obtain ⟨g, rfl, _, _, hc⟩ := cells_owned h hne
    refine .inr ⟨g, 0, rfl, fun i hi => ?_⟩
    have hi' : i < ks.length := by simpa [bitL] using hi
    rw [Nat.zero_add, hc i (by simpa [wBits] using hi')]
    simp [wBits, bitL, hi']
/-- The rows that the law keeps. -/
structure FRow (w : World) (ζ : ZG) (σ : SB) (pk : Option Addr) (ks : List Key) (pw : Option Addr) (vs : List SVal) (pt : Option Addr) (bs : List Nat) : Prop where
  k : StrsAt w pk ks
  v : ValsAt w pw vs
  t : IntsAt w pt bs
  far : ∀ a, pk = some a ∨ pw = some a ∨ pt = some a → ¬ ζ.fp a.block ∧ ¬ σ.all a.block ∧ a.block < w.heap.size
  kl : ks.length ≤ 1000000
  kk : ∀ k ∈ ks, k.length ≤ maxLen
  lv : vs.length = ks.length
  lb : bs.length = ks.length
theorem FRow.move {w w' : World} {ζ ζ' : ZG} {σ : SB} {pk pw pt : Option Addr} {ks : List Key} {vs : List SVal} {bs : List Nat} (h : FRow w ζ σ pk ks pw vs pt bs) {S : Nat → Prop} (hf : Fr S w w') (hs : ∀ k, S k → ζ.fp k ∨ σ.all k) (hz : ∀ k, ζ'.fp k → ζ.fp k ∨ w.heap.size ≤ k) : FRow w' ζ' σ pk ks pw vs pt bs := by
  have hn : ∀ a, pk = some a ∨ pw = some a ∨ pt = some a → ¬ S a.block := fun a ha e => by
    obtain ⟨h1, h2, _⟩ := h.far a ha
    rcases hs _ e with e | e
    · exact h1 e
    · exact h2 e
  exact {
    k := h.k.frame hf fun a ha => hn a (.inl ha)
    v := h.v.frame hf fun a ha => hn a (.inr (.inl ha))
    t := h.t.frame hf fun a ha => hn a (.inr (.inr ha))
    far := fun a ha => by
      obtain ⟨h1, h2, h3⟩ := h.far a ha
      refine ⟨fun hk => ?_, h2, Nat.lt_of_lt_of_le h3 hf.size⟩
      rcases hz _ hk with e | e
      · exact h1 e
      · omega
    kl := h.kl
    kk := h.kk
    lv := h.lv
    lb := h.lb }
theorem FRow.next {w w' : World} {ζ : ZG} {σ : SB} {pk pw pt : Option Addr} {ks : List Key} {vs : List SVal} {bs : List Nat} (h : FRow w ζ σ pk ks pw vs pt bs) (hf : Fr nothing w w') : FRow w' ζ σ pk ks pw vs pt bs :=
  h.move hf (fun _ e => e.elim) fun _ e => .inl e
theorem FRow.nil (w : World) (ζ : ZG) (σ : SB) : FRow w ζ σ none [] none [] none [] where
  k := .inl rfl
  v := .inl rfl
  t := .inl rfl
  far a ha := by rcases ha with h | h | h <;> cases h
  kl := by simp
  kk k hk := by cases hk
  lv := rfl
  lb := rfl
/-- While a checkpoint is under way the cells are as then. -/
def FI (u : Bool) (Cs : CL) (ks : List Key) (vs : List SVal) (bs : List Nat) : Prop := u = true → vs = ks.map (frozV Cs) ∧ bs = bitL Cs ks ∧ ∀ k ∈ ks, ∃ c, lookM Cs k = some c
theorem frozV_of {Cs : CL} {k : Key} {c : CC} (h : lookM Cs k = some c) : frozV Cs k = c.froz := by
  unfold frozV bitsOf copiesOf CC.froz
  rw [h]
theorem bits_of {Cs : CL} {k : Key} {c : CC} (h : lookM Cs k = some c) : bitsOf Cs k = (c.r, c.w) := by
  unfold bitsOf; rw [h]
theorem FI.keep {u : Bool} {Cs Cs' : CL} {ks : List Key} {vs : List SVal} {bs : List Nat} (h : FI u Cs ks vs bs) (hk : Keep Cs Cs') : FI u Cs' ks vs bs := fun hu => by
  obtain ⟨h1, h2, h3⟩ := h hu
  have hs : ∀ k ∈ ks, ∃ c, lookM Cs' k = some c ∧ frozV Cs k = frozV Cs' k ∧ (bitsOf Cs k).2 = (bitsOf Cs' k).2 := fun k hkm => by
    obtain ⟨c, hc⟩ := h3 k hkm
    obtain ⟨c', hc', hw, hf⟩ := hk k c hc
    exact ⟨c', hc', by rw [frozV_of hc, frozV_of hc', hf], by rw [bits_of hc, bits_of hc', hw]⟩
  refine ⟨?_, ?_, fun k hkm => let ⟨c, hc, _⟩ := hs k hkm; ⟨c, hc⟩⟩
  · rw [h1]; exact List.map_congr_left fun k hkm => (hs k hkm).choose_spec.2.1
  · rw [h2]; exact List.map_congr_left fun k hkm => (hs k hkm).choose_spec.2.2
theorem FI.mono {u u' : Bool} {Cs Cs' : CL} {ks : List Key} {vs : List SVal} {bs : List Nat} (h : FI u Cs ks vs bs) (hc : Cs' = Cs) (hu : u' = true → u = true) : FI u' Cs' ks vs bs := fun h' => by subst hc; exact h (hu h')
theorem FI.fresh (Cs : CL) (ks : List Key) (h : ∀ k ∈ ks, ∃ c, lookM Cs k = some c) : FI true Cs ks (ks.map (frozV Cs)) (bitL Cs ks) := fun _ => ⟨rfl, rfl, h⟩
/-- Behind a Begin the bits of a key differ. -/
theorem flip_bits {Cs : CL} {k : Key} {c : CC} (h : lookM Cs k = some c) (hr : c.r ≤ 1) : (bitsOf (flipA Cs) k).1 ≠ (bitsOf (flipA Cs) k).2 := by
  have : lookM (flipA Cs) k = some c.flip := by rw [look_flipA, h]; rfl
  rw [bits_of this]
  show c.r ≠ 1 - c.r
  omega
theorem flip_some {Cs : CL} {k : Key} {c : CC} (h : lookM Cs k = some c) : ∃ c', lookM (flipA Cs) k = some c' := ⟨c.flip, by rw [look_flipA, h]; rfl⟩
end Go.Proofs.YtobccbakmcckiaaDoor
