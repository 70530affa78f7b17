/- Maps keyed by strings, whatever they hold: a block that reads as a list of keys and values. No program. -/
import Derived.Test.YtobccbakmcckiaaDoorWords
import Derived.Maps.OwnSet
import Derived.Maps.RangeWalk
namespace Go.Proofs.YtobccbakmcckiaaDoor
open Go Go.RowKit Go.Maps

abbrev Key := List UInt8
abbrev M := List (Key × Value)
variable {α : Type}
def RV (v : Value) : Option (DataW Value × List MemPlace) := some (.held v, [])
def dm (m : M) : DataW Value := .map (m.map fun p => (Lit.string p.1, DataW.held p.2))
def lookM (m : List (Key × α)) (k : Key) : Option α := (m.find? fun p => p.1 == k).map (·.2)
def delM (m : List (Key × α)) (k : Key) : List (Key × α) := m.filter fun p => !(p.1 == k)
def insM (x : Key × α) : List (Key × α) → List (Key × α)
  | [] => [x]
  | y :: r => if bytesBefore x.1 y.1 then x :: y :: r else y :: insM x r
def putM (m : List (Key × α)) (k : Key) (v : α) : List (Key × α) := insM (k, v) (delM m k)
def RisM (m : List (Key × α)) : Prop := m.Pairwise fun p q => bytesBefore p.1 q.1 = true

/-- Block b of w is a map that holds m. -/
def MapAt (P : Program) (K : TypeId) (w : World) (b : Nat) (m : M) : Prop := w.ownsMap P K RV b m.length (dm m) ∧ m.length ≤ maxLen

theorem dm_put (m : M) (k : Key) (v : Value) : (dm m).put (.string k) (.held v) = dm (putM m k v) := by
  have hi : ∀ (x : Key × Value) (l : M), DataW.insert (Lit.string x.1, DataW.held x.2) (l.map fun p => (Lit.string p.1, DataW.held p.2)) = (insM x l).map fun p => (Lit.string p.1, DataW.held p.2) := by
    intro x l
    induction l with
    | nil => rfl
    | cons y r ih =>
      simp only [List.map_cons, DataW.insert, insM, Lit.before]
      split <;> simp_all
  have hf : (m.map fun p => (Lit.string p.1, DataW.held p.2)).filter (fun p => !p.1.sameKey (.string k)) = (delM m k).map fun p => (Lit.string p.1, DataW.held p.2) := by
    unfold delM
    rw [List.filter_map]
    rfl
  unfold dm putM
  simp only [DataW.put]
  rw [hf, hi (k, v)]
theorem dm_del (m : M) (k : Key) : (dm m).del (.string k) = dm (delM m k) := by
  unfold dm delM
  simp only [DataW.del]
  rw [List.filter_map]
  rfl
theorem dm_at (m : M) (k : Key) (z : Value) : (dm m).atKey (.string k) (.held z) = .held ((lookM m k).getD z) := by
  unfold dm lookM
  simp only [DataW.atKey]
  rw [List.find?_map]
  have : ((fun p : Lit × DataW Value => p.1.sameKey (.string k)) ∘ fun p : Key × Value => (Lit.string p.1, DataW.held p.2)) = fun p => p.1 == k := rfl
  rw [this]
  cases List.find? (fun p => p.1 == k) m <;> rfl
theorem dm_size (m : M) : Maps.size (dm m) = m.length := by simp [dm, Maps.size]
theorem dm_has (m : M) (k : Key) : Maps.has (dm m) (.string k) = (lookM m k).isSome := by
  unfold dm lookM
  simp only [Maps.has, List.any_map]
  rw [Option.isSome_map]
  cases h : List.find? (fun p => p.1 == k) m with
  | none =>
    rw [List.find?_eq_none] at h
    simp only [Option.isSome_none, List.any_eq_false]
    exact h
  | some x =>
    simp only [Option.isSome_some, List.any_eq_true]
    exact ⟨x, List.mem_of_find?_eq_some h, List.find?_some h⟩

theorem owns_shrink {P : Program} {K : TypeId} {w : World} {b n : Nat} {m : M} (h : w.ownsMap P K RV b n (dm m)) : MapAt P K w b m := by
  obtain ⟨es, clock, hb, F, hs, hD⟩ := h
  have hl : m.length = es.size := by
    have e1 : es.size = ((es.toList.map (WideElems.rg P K RV)).foldr DataW.insert []).length := by rw [length_sorted]; simp
    have := congrArg Maps.size hD
    rw [dm_size] at this
    rw [this, e1]; rfl
  exact ⟨⟨es, clock, hb, F, by omega, hD⟩, by rw [hl]; exact F.size⟩
theorem MapAt.ris {P : Program} {K : TypeId} {w : World} {b : Nat} {m : M} (hk : P.underlying K = some .string) (h : MapAt P K w b m) : RisM m := by
  obtain ⟨es, clock, hb, F, hs, hD⟩ := h.1
  have h1 := Maps.fit_rising (Maps.string_keyed hk) F
  have h2 : m.map (fun p => (Lit.string p.1, DataW.held p.2)) = (es.toList.map (WideElems.rg P K RV)).foldr DataW.insert [] := by
    unfold dm at hD; injection hD
  rw [← h2] at h1
  have h3 := sorted_sorted (Maps.string_keyed hk).one _ (Maps.fit_keys F) (Maps.fit_apart (Maps.string_keyed hk) F)
  rw [← h2] at h3
  rw [List.pairwise_map] at h3
  exact h3
section
variable {P : Program} {K T E : TypeId} {w : World} {b : Nat} {m : M} (hk : P.underlying K = some .string) (ht : P.underlying T = some (.map K E))
include hk

theorem key_of (k : Key) (h : k.length ≤ maxLen) : keyOf P K (.string ⟨k.toArray⟩) = some (.string k) := by
  have := Go.WideMaps.keyOf_string_mk (P := P) hk (s := ⟨k.toArray⟩) (by simpa [ByteArray.size] using h)
  simpa using this

include ht in
theorem MapAt.look (h : MapAt P K w b m) {z : Value} (hz : (zeroValue E).run P w = .ok z w) (k : Key) (hl : k.length ≤ maxLen) :
    (Instr.lookup T (.map (some b)) (.string ⟨k.toArray⟩) false).run P w = .ok ((lookM m k).getD z) w := by
  obtain ⟨v, ps, hrun, hv⟩ := h.1.lookup (string_keyed hk) ht (R := RV) hz (zd := .held z) (zp := []) rfl (key_of hk k hl)
  rw [dm_at] at hv
  simp only [RV, Option.some.injEq, Prod.mk.injEq, DataW.held.injEq] at hv
  rw [hrun, hv.1]

include ht in
theorem MapAt.store (h : MapAt P K w b m) (hr : m.length < maxLen) (k : Key) (v : Value) (hl : k.length ≤ maxLen) :
    ∃ w', (Instr.mapUpdate T (.map (some b)) (.string ⟨k.toArray⟩) v).run P w = .ok () w' ∧ MapAt P K w' b (putM m k v) ∧ w.mapTurned w' b := by
  obtain ⟨w', hrun, ho, htn⟩ := h.1.store (string_keyed hk) ht hr (key_of hk k hl) (d := .held v) (ps := []) (val := v) rfl
  rw [dm_put] at ho
  exact ⟨w', hrun, owns_shrink ho, htn⟩

include ht in
theorem MapAt.drop (h : MapAt P K w b m) (k : Key) (hl : k.length ≤ maxLen) (ty : TypeId) :
    ∃ w', (Builtin.delete_ #[T, K] ty #[.map (some b), .string ⟨k.toArray⟩]).run P w = .ok (.tuple #[]) w' ∧ MapAt P K w' b (delM m k) ∧ w.mapTurned w' b := by
  obtain ⟨w', hrun, ho, htn⟩ := h.1.drop (string_keyed hk) ht (key_of hk k hl) ty
  rw [dm_del] at ho
  exact ⟨w', hrun, owns_shrink ho, htn⟩

omit hk in
include ht in
theorem MapAt.len (h : MapAt P K w b m) (ty : TypeId) : (Builtin.len_ #[T] ty #[.map (some b)]).run P w = .ok (.int .i64 m.length) w := by
  rw [h.1.len ht ty, dm_size]
end

theorem MapAt.kept {P : Program} {K : TypeId} {w w' : World} {b : Nat} {m : M} (h : MapAt P K w b m) (hb : w'.heap[b]? = w.heap[b]?) : MapAt P K w' b m := by
  obtain ⟨⟨es, clock, hb', F, hs, hD⟩, hm⟩ := h
  exact ⟨⟨es, clock, hb.trans hb', F, hs, hD⟩, hm⟩
theorem MapAt.lt {P : Program} {K : TypeId} {w : World} {b : Nat} {m : M} (h : MapAt P K w b m) : b < w.heap.size := h.1.lt
theorem MapAt.made {P : Program} {K : TypeId} (w : World) : MapAt P K (w.alloc (.map #[] 0)) w.heap.size [] := ⟨World.ownsMap_made w P K RV, by simp⟩

/-! the list of keys and values -/
theorem lookM_mem {m : List (Key × α)} {k : Key} {v : α} (h : lookM m k = some v) : (k, v) ∈ m := by
  unfold lookM at h
  obtain ⟨p, hp, rfl⟩ := Option.map_eq_some_iff.1 h
  have h1 := List.mem_of_find?_eq_some hp
  have h2 := List.find?_some hp
  simp at h2
  rw [← h2]; exact h1
theorem bb_irrefl (a : Key) : bytesBefore a a = false := by
  cases h : bytesBefore a a
  · rfl
  · have := WideShapes.before_irrefl (.string a)
    simp [Lit.before, h] at this
theorem lookM_of_mem {m : List (Key × α)} (hr : RisM m) {k : Key} {v : α} (h : (k, v) ∈ m) : lookM m k = some v := by
  induction m with
  | nil => cases h
  | cons x r ih =>
    obtain ⟨h1, h2⟩ := List.pairwise_cons.1 hr
    unfold lookM
    rw [List.find?_cons]
    rcases List.mem_cons.1 h with rfl | h
    · simp
    · have hne : (x.1 == k) = false := by
        have := h1 _ h
        rw [beq_eq_false_iff_ne]
        rintro e
        rw [e, bb_irrefl] at this
        cases this
      rw [hne]
      exact ih h2 h
theorem lookM_none {m : List (Key × α)} {k : Key} : lookM m k = none ↔ ∀ p ∈ m, p.1 ≠ k := by
  unfold lookM
  rw [Option.map_eq_none_iff, List.find?_eq_none]
  simp
theorem lookM_delM (m : List (Key × α)) (k k' : Key) : lookM (delM m k) k' = if k' = k then none else lookM m k' := by
  unfold lookM delM
  induction m with
  | nil => simp
  | cons x r ih =>
    rw [List.filter_cons, List.find?_cons]
    cases h3 : (x.1 == k') <;> cases h1 : (x.1 == k) <;> by_cases h2 : k' = k <;> simp_all
theorem insM_perm (x : Key × α) (m : List (Key × α)) : (insM x m).Perm (x :: m) := by
  induction m with
  | nil => exact .refl _
  | cons y r ih =>
    unfold insM
    split
    · exact .refl _
    · exact (ih.cons y).trans (.swap x y r)
theorem risM_insM {x : Key × α} {m : List (Key × α)} (h : RisM m) (hn : ∀ p ∈ m, p.1 ≠ x.1) : RisM (insM x m) := by
  induction m with
  | nil => exact List.pairwise_singleton _ _
  | cons y r ih =>
    obtain ⟨h1, h2⟩ := List.pairwise_cons.1 h
    unfold insM
    split
    · rename_i hb
      refine List.pairwise_cons.2 ⟨fun q hq => ?_, h⟩
      rcases List.mem_cons.1 hq with rfl | hq
      · exact hb
      · have a1 : (Lit.string x.1).before (Lit.string y.1) = true := hb
        have a2 : (Lit.string y.1).before (Lit.string q.1) = true := h1 q hq
        exact WideShapes.before_trans a1 a2
    · rename_i hb
      refine List.pairwise_cons.2 ⟨fun q hq => ?_, ih h2 (fun p hp => hn p (List.mem_cons_of_mem _ hp))⟩
      rcases List.mem_cons.1 ((insM_perm x r).mem_iff.1 hq) with rfl | hq
      · rcases ChangeMaps.before_total (a := Lit.string y.1) (b := Lit.string q.1) ⟨_, rfl⟩ ⟨_, rfl⟩ (fun e => hn y (by simp) (by injection e)) with h' | h'
        · exact h'
        · exact absurd h' hb
      · exact h1 q hq
theorem risM_delM {m : List (Key × α)} (h : RisM m) (k : Key) : RisM (delM m k) := List.Pairwise.filter _ h
theorem mem_delM {m : List (Key × α)} {k : Key} {p : Key × α} : p ∈ delM m k ↔ p ∈ m ∧ p.1 ≠ k := by simp [delM]
theorem risM_putM {m : List (Key × α)} (h : RisM m) (k : Key) (v : α) : RisM (putM m k v) := risM_insM (risM_delM h k) fun _ hp => (mem_delM.1 hp).2
theorem mem_putM {m : List (Key × α)} {k : Key} {v : α} {p : Key × α} : p ∈ putM m k v ↔ p = (k, v) ∨ (p ∈ m ∧ p.1 ≠ k) := by
  unfold putM
  rw [(insM_perm _ _).mem_iff, List.mem_cons, mem_delM]
theorem lookM_putM {m : List (Key × α)} (h : RisM m) (k k' : Key) (v : α) : lookM (putM m k v) k' = if k' = k then some v else lookM m k' := by
  split
  · rename_i e; subst e
    exact lookM_of_mem (risM_putM h _ _) (mem_putM.2 (.inl rfl))
  · rename_i hne
    cases hl : lookM m k' with
    | none =>
      rw [lookM_none]
      intro p hp
      rcases mem_putM.1 hp with rfl | ⟨hp, _⟩
      · exact fun e => hne e.symm
      · exact lookM_none.1 hl p hp
    | some v' => exact lookM_of_mem (risM_putM h _ _) (mem_putM.2 (.inr ⟨lookM_mem hl, hne⟩))
theorem perm_putM_new {m : List (Key × α)} {k : Key} {v : α} (h : lookM m k = none) : (putM m k v).Perm ((k, v) :: m) := by
  unfold putM
  have : delM m k = m := by
    unfold delM
    rw [List.filter_eq_self]
    intro p hp
    simpa using lookM_none.1 h p hp
  rw [this]
  exact insM_perm _ _
/-- Two rising lists that tell the same are one. -/
theorem risM_ext {a b : List (Key × α)} (ha : RisM a) (hb : RisM b) (h : ∀ k, lookM a k = lookM b k) : a = b := by
  have hp : ∀ p, p ∈ a ↔ p ∈ b := fun p => ⟨fun hp => lookM_mem (by rw [← h]; exact lookM_of_mem ha hp), fun hp => lookM_mem (by rw [h]; exact lookM_of_mem hb hp)⟩
  have na : a.Nodup := ha.imp (fun {p q} hpq e => by rw [e, bb_irrefl] at hpq; cases hpq)
  have nb : b.Nodup := hb.imp (fun {p q} hpq e => by rw [e, bb_irrefl] at hpq; cases hpq)
  have hperm : a.Perm b := (List.perm_ext_iff_of_nodup na nb).2 hp
  exact hperm.eq_of_pairwise (fun p q _ _ h1 h2 => by
    have a1 : (Lit.string p.1).before (Lit.string q.1) = true := h1
    have a2 : (Lit.string q.1).before (Lit.string p.1) = true := h2
    have a3 := WideShapes.before_trans a1 a2
    rw [show (Lit.string p.1).before (Lit.string p.1) = bytesBefore p.1 p.1 from rfl, bb_irrefl] at a3
    cases a3) ha hb
end Go.Proofs.YtobccbakmcckiaaDoor
