/- ckpt.Zig in memory. -/
import Derived.Test.YtobccbakmcckiaaDoorBytes
namespace Go.Proofs.YtobccbakmcckiaaDoor
open Go Go.RowKit

/-- A cell: its block, its copies, its bits. -/
structure CC where
  blk : Nat
  c0 : SVal
  c1 : SVal
  r : Nat
  w : Nat
def CC.row (c : CC) : Array Value := #[.int .i64 c.c0.kind, .int .i64 c.c0.num, .string ⟨c.c0.text.toArray⟩, .int .i64 c.c1.kind, .int .i64 c.c1.num, .string ⟨c.c1.text.toArray⟩, .int .i64 c.r, .int .i64 c.w]
/-- The copy that is read; the one that is not written next. -/
def CC.cur (c : CC) : SVal := if c.r = 0 then c.c0 else c.c1
def CC.froz (c : CC) : SVal := if c.w = 0 then c.c1 else c.c0
abbrev CL := List (Key × CC)
/-- The cells of api.Items. -/
def itemCells (L : SL) : List Value := L.flatMap fun p => [.string ⟨p.1.toArray⟩, .int .i64 p.2.kind, .int .i64 p.2.num, .string ⟨p.2.text.toArray⟩]

/-- What a Zig is: blocks, the store's list, the cells; the checkpoint under way: its mark, the list as it was, how many were taken. -/
structure ZG where
  bz : Nat
  bm : Nat
  σ : SB
  L : SL
  Cs : CL
  snap : Option (SL × Nat)
  mark : Int
  lp : Option Addr
  ln : Nat
  lc : Nat
  tp : Option Addr
  tn : Nat
  tc : Nat
def ptrs (Cs : CL) : M := Cs.map fun p => (p.1, .pointer (some ⟨p.2.blk, 0, none⟩))
def ZG.row (ζ : ZG) : Array Value := #[.int .i64 ζ.σ.parts, .int .i64 ζ.σ.room, .pointer (some ⟨ζ.σ.bs, 0, none⟩), .map (some ζ.bm), .bool ζ.snap.isSome, .int .i64 ζ.mark, .slice ζ.lp ζ.ln ζ.lc, .slice ζ.tp ζ.tn ζ.tc]
/-- The blocks that are its own. -/
def ZG.fp (ζ : ZG) (k : Nat) : Prop := k = ζ.bz ∨ k = ζ.bm ∨ ζ.σ.all k ∨ (∃ p ∈ ζ.Cs, k = p.2.blk) ∨ (ζ.snap.isSome = true ∧ ((∃ a, ζ.lp = some a ∧ k = a.block) ∨ ∃ a, ζ.tp = some a ∧ k = a.block))

/-- While a checkpoint is under way. -/
structure SnapOK (w : World) (ζ : ZG) (L0 : SL) (j : Nat) : Prop where
  jle : j ≤ L0.length
  ln : ζ.ln = L0.length - j
  cap : ζ.ln ≤ ζ.lc
  left : StrsAt w ζ.lp (keysOf (L0.drop j))
  tn : ζ.tn = j
  taken : w.ownsRow 0 77 4 (.slice ζ.tp j ζ.tc) j (itemCells (L0.take j))
  ris : RisM L0
  keys : ∀ p ∈ L0, validKey p.1 = true
  good : ∀ p ∈ L0, validVal p.2 = true
  nums : ∀ p ∈ L0, i64 p.2.num
  full : ∀ i, i < ζ.σ.parts → (claimsOf L0 ζ.σ.parts i).length ≤ ζ.σ.room
  froz : ∀ p ∈ L0, ∃ c, lookM ζ.Cs p.1 = some c ∧ c.froz = p.2
  llt : ∀ a, ζ.lp = some a → a.block < w.heap.size
  lne : ∀ a, ζ.lp = some a → a.block ≠ ζ.bz ∧ a.block ≠ ζ.bm ∧ ¬ ζ.σ.all a.block ∧ ∀ p ∈ ζ.Cs, p.2.blk ≠ a.block
  tne : ∀ a, ζ.tp = some a → a.block ≠ ζ.bz ∧ a.block ≠ ζ.bm ∧ ¬ ζ.σ.all a.block ∧ (∀ p ∈ ζ.Cs, p.2.blk ≠ a.block) ∧ ∀ b, ζ.lp = some b → b.block ≠ a.block

/-- The Zig, its store's list being Ls (that of its cells, L, may be behind while keys are claimed). -/
structure IsZigX (w : World) (ζ : ZG) (Ls : SL) : Prop where
  head : w.heap[ζ.bz]? = some (.cells ζ.row 71 (0, 0))
  st : IsStore w ζ.σ Ls
  map : MapAt Tryd.prog 9 w ζ.bm (ptrs ζ.Cs)
  cells : ∀ p ∈ ζ.Cs, w.heap[p.2.blk]? = some (.cells p.2.row 75 (0, 0))
  keys : ζ.Cs.map (·.1) = keysOf ζ.L
  bits : ∀ p ∈ ζ.Cs, p.2.r ≤ 1 ∧ p.2.w ≤ 1
  cur : ∀ p ∈ ζ.Cs, p.2.cur = getV ζ.L p.1
  nums : ∀ p ∈ ζ.L, i64 p.2.num
  ap1 : ζ.bz ≠ ζ.bm
  ap2 : ¬ ζ.σ.all ζ.bz ∧ ¬ ζ.σ.all ζ.bm
  ap3 : ∀ p ∈ ζ.Cs, p.2.blk ≠ ζ.bz ∧ p.2.blk ≠ ζ.bm ∧ ¬ ζ.σ.all p.2.blk
  ap4 : ∀ p ∈ ζ.Cs, ∀ q ∈ ζ.Cs, p.2.blk = q.2.blk → p = q
  snap : ∀ L0 j, ζ.snap = some (L0, j) → SnapOK w ζ L0 j
abbrev IsZig (w : World) (ζ : ZG) : Prop := IsZigX w ζ ζ.L

theorem heap_lt {w : World} {b : Nat} {o : Obj} (h : w.heap[b]? = some o) : b < w.heap.size := (Array.getElem?_eq_some_iff.1 h).1
theorem ownsRow_same {w w' : World} {base e size n : Nat} {p : Option Addr} {m c : Nat} {xs : List Value} (h : w.ownsRow base e size (.slice p m c) n xs) (hb : ∀ a, p = some a → w'.heap[a.block]? = w.heap[a.block]?) : w'.ownsRow base e size (.slice p m c) n xs := by
  obtain ⟨hl, hr⟩ := h
  refine ⟨hl, ?_⟩
  rcases hr with hr | ⟨g, cap, cur, hv, hg, hh, h1⟩
  · exact .inl hr
  · refine .inr ⟨g, cap, cur, hv, hg, ?_, h1⟩
    injection hv with hv _ _
    exact (hb _ hv).trans hh
theorem IsZigX.lt {w : World} {ζ : ZG} {Ls : SL} (h : IsZigX w ζ Ls) {k : Nat} (hk : ζ.fp k) : k < w.heap.size := by
  rcases hk with rfl | rfl | hk | ⟨p, hp, rfl⟩ | ⟨hs, ⟨a, ha, rfl⟩ | ⟨a, ha, rfl⟩⟩
  · exact heap_lt h.head
  · exact h.map.lt
  · exact h.st.lt hk
  · exact heap_lt (h.cells p hp)
  · obtain ⟨⟨L0, j⟩, hs⟩ := Option.isSome_iff_exists.1 hs
    exact (h.snap L0 j hs).llt a ha
  · obtain ⟨⟨L0, j⟩, hs⟩ := Option.isSome_iff_exists.1 hs
    have := (h.snap L0 j hs).taken
    rw [ha] at this
    exact (this.lt a.block rfl).2
theorem IsZigX.frame {w w' : World} {ζ : ZG} {Ls : SL} (h : IsZigX w ζ Ls) {S : Nat → Prop} (hf : Fr S w w') (hs : ∀ k, ζ.fp k → ¬ S k) : IsZigX w' ζ Ls where
  head := (hf.block _ (heap_lt h.head) (hs _ (.inl rfl))).trans h.head
  st := h.st.frame hf fun k hk => hs k (.inr (.inr (.inl hk)))
  map := h.map.kept (hf.block _ h.map.lt (hs _ (.inr (.inl rfl))))
  cells p hp := (hf.block _ (heap_lt (h.cells p hp)) (hs _ (.inr (.inr (.inr (.inl ⟨p, hp, rfl⟩)))))).trans (h.cells p hp)
  keys := h.keys
  bits := h.bits
  cur := h.cur
  nums := h.nums
  ap1 := h.ap1
  ap2 := h.ap2
  ap3 := h.ap3
  ap4 := h.ap4
  snap L0 j he := by
    have hsn := h.snap L0 j he
    have hsome : ζ.snap.isSome = true := by rw [he]; rfl
    have hl : ∀ a, ζ.lp = some a → ¬ S a.block := fun a ha => hs _ (.inr (.inr (.inr (.inr ⟨hsome, .inl ⟨a, ha, rfl⟩⟩))))
    have ht : ∀ a, ζ.tp = some a → ¬ S a.block := fun a ha => hs _ (.inr (.inr (.inr (.inr ⟨hsome, .inr ⟨a, ha, rfl⟩⟩))))
    exact { hsn with
      left := hsn.left.frame hf hl
      taken := ownsRow_same hsn.taken fun a ha => hf.block _ (h.lt (.inr (.inr (.inr (.inr ⟨hsome, .inr ⟨a, ha, rfl⟩⟩))))) (ht a ha)
      llt := fun a ha => Nat.lt_of_lt_of_le (hsn.llt a ha) hf.size }

/-- The cells stay: the write bits and the copies that are not written next. -/
def Keep (Cs Cs' : CL) : Prop := ∀ k c, lookM Cs k = some c → ∃ c', lookM Cs' k = some c' ∧ c'.w = c.w ∧ c'.froz = c.froz
theorem Keep.refl (Cs : CL) : Keep Cs Cs := fun _ c h => ⟨c, h, rfl, rfl⟩
theorem Keep.trans {a b c : CL} (h : Keep a b) (h' : Keep b c) : Keep a c := fun k x hx => by
  obtain ⟨y, hy, e1, e2⟩ := h k x hx
  obtain ⟨z, hz, e3, e4⟩ := h' k y hy
  exact ⟨z, hz, e3.trans e1, e4.trans e2⟩
/-- One step of a Zig: the same Zig; nothing else has turned but what is its own. -/
structure ZStep (w : World) (ζ : ZG) (w' : World) (ζ' : ZG) : Prop where
  is : IsZig w' ζ'
  bz : ζ'.bz = ζ.bz
  σ : ζ'.σ = ζ.σ
  fr : Fr ζ.fp w w'
  fp : ∀ k, ζ'.fp k → ζ.fp k ∨ w.heap.size ≤ k
theorem IsZigX.ris {w : World} {ζ : ZG} (h : IsZigX w ζ ζ.L) : RisM ζ.Cs := by
  have h1 : RisM ζ.L := h.st.ris
  have h2 : (keysOf ζ.L).Pairwise fun a b => bytesBefore a b = true := by unfold keysOf; rw [List.pairwise_map]; exact h1
  rw [← h.keys, List.pairwise_map] at h2
  exact h2
theorem look_some_iff {α β : Type} {A : List (Key × α)} {B : List (Key × β)} (h : A.map (·.1) = B.map (·.1)) (k : Key) : (lookM A k).isSome = (lookM B k).isSome := by
  have : ∀ {γ : Type} (l : List (Key × γ)), (lookM l k).isSome = (l.map (·.1)).any (· == k) := by
    intro γ l
    unfold lookM
    rw [Option.isSome_map, List.any_map]
    induction l with
    | nil => rfl
    | cons x r ih =>
      rw [List.find?_cons, List.any_cons]
      cases hx : (x.1 == k) <;> simp_all
  rw [this A, this B, h]
/-- What a cell's lookup gives. -/
def ptrOf (Cs : CL) (k : Key) : Value := match lookM Cs k with | some c => .pointer (some ⟨c.blk, 0, none⟩) | none => .pointer none
theorem zero_ptr (w : World) : (zeroValue 72).run Tryd.prog w = .ok (.pointer none) w := by kernel_rfl
theorem look_ptr {w : World} {bm : Nat} {Cs : CL} (h : MapAt Tryd.prog 9 w bm (ptrs Cs)) (k : Key) (hk : k.length ≤ maxLen) :
    (Instr.lookup 68 (.map (some bm)) (.string ⟨k.toArray⟩) false).run Tryd.prog w = .ok (ptrOf Cs k) w := by
  rw [h.look Tryd.underlying9 Tryd.underlying68 (zero_ptr w) k hk]
  unfold ptrs ptrOf
  rw [lookM_map Cs (fun c : CC => Value.pointer (some ⟨c.blk, 0, none⟩))]
  cases lookM Cs k <;> rfl
/-- What Get, Bits, Copies tell. -/
def zget (Cs : CL) (k : Key) : SVal := match lookM Cs k with | some c => c.cur | none => SVal.zero
theorem IsZigX.get {w : World} {ζ : ZG} {Ls : SL} (h : IsZigX w ζ Ls) (k : Key) : zget ζ.Cs k = getV ζ.L k := by
  unfold zget
  have hs := look_some_iff (A := ζ.Cs) (B := ζ.L) h.keys k
  cases hl : lookM ζ.Cs k with
  | some c => exact h.cur (k, c) (lookM_mem hl)
  | none =>
    rw [hl] at hs
    unfold getV
    cases hl2 : lookM ζ.L k with
    | none => rfl
    | some v => rw [hl2] at hs; cases hs
end Go.Proofs.YtobccbakmcckiaaDoor
