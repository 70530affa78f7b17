/- own. -/
import Derived.Test.YtobccbakmcckiaaDoorLawF
import Derived.Laws.AppendOwnNone
namespace Go.Proofs.YtobccbakmcckiaaDoor
open Go Go.RowKit Go.Sort

/-- 'append(x, ys...)' onto a row of the call's own, ys whatever (nil too). -/
theorem wpList_app_src {P : Program} {W : World} {ops : Array Oper} {rest : List Oper} {o : Oper} {a : Act} {Q : Exit → Act → World → Prop} (hgd : o.guard = none) (s x : Operand) (t : TypeId)
    (ho : o.op = .call { callee := .builtin .append, args := #[s, x], argTypes := #[t, t] })
    (base : Nat) (e : TypeId) (z : Value) (size bytes : Nat) (ht : P.underlying t = some (.slice e)) (hi : (P.info? e).map (fun i => (i.zero, i.size, i.bytes)) = some (some z, size, bytes)) (hz1 : z.cells.size = size) (hs0 : 0 < size)
    (p : Option Addr) (n c : Nat) (xs : List Value) (hs : a.eval s = .slice p n c) (hown : W.ownsRow base e size (.slice p n c) n xs)
    (q : Option Addr) (m d : Nat) (news : List Value) (hx : a.eval x = .slice q m d) (hnone : q = none → m = 0 ∧ d = 0) (hl : news.length = m * size) (hsrc : ∀ ad, q = some ad → ∀ j u, news[j]? = some u → W.cell? (ad.add j) = some u) (hv : ∀ v ∈ news, v.oneCell' = true)
    (hn : n + m ≤ maxLen) (hby : (n + m) * bytes ≤ 140737488355328) (hbase : base ≤ W.heap.size)
    (h : ∀ p' c' w', w'.ownsRow base e size (.slice p' (n + m) c') (n + m) (xs ++ news) → Fr (fun k => base ≤ k) W w' → W.heap.size ≤ w'.heap.size → wpList P ops Q rest (a.put o.dst (.slice p' (n + m) c')) w') :
    wpList P ops Q (o :: rest) a W := by
  obtain ⟨i, hi, hz, hs1, hb⟩ := info_parts hi
  cases q with
  | none =>
    obtain ⟨rfl, rfl⟩ := hnone rfl
    have hnil : news = [] := List.eq_nil_of_length_eq_zero (by simpa using hl)
    subst hnil
    refine wpList_append_own_none hgd s x t ho base e i size ht hi _ n xs hs hown hx ?_
    have := h p c W (by simpa using hown) (Fr.refl _ _) (Nat.le_refl _)
    simpa using this
  | some ad =>
    refine wpList_append_own W hgd s x t ho base e i z size bytes ht hi hz hs1 hb hz1 hs0 _ n xs hs hown ad m d news hx hl (hsrc ad rfl) hv hn hby hbase ?_
    intro v' w' hown' hg _
    obtain ⟨p', c', rfl⟩ := slice_of_owns hown'
    exact h p' c' w' hown' ((Fr.grown hg).mono fun k _ hk => (hown.lt k hk).1) hg.size
theorem owns_empty {w : World} {b e size : Nat} (hb : w.heap[b]? = some (.cells #[] e (0, 0))) : w.ownsRow b e size (.slice (some ⟨b, 0, none⟩) 0 0) 0 [] :=
  ⟨by simp, .inr ⟨b, 0, #[], rfl, Nat.le_refl _, hb, Nat.le_refl _, Nat.zero_le _, by simp, by simp⟩⟩
theorem strs_src {w : World} {p : Option Addr} {ss : List Key} (h : StrsAt w p ss) : ∀ ad, p = some ad → ∀ j u, (ss.map encStr)[j]? = some u → w.cell? (ad.add j) = some u := by
  intro ad hp j u hu
  rw [List.getElem?_map] at hu
  obtain ⟨k, hk, rfl⟩ := Option.map_eq_some_iff.1 hu
  obtain ⟨hj, rfl⟩ := List.getElem?_eq_some_iff.1 hk
  obtain ⟨b, o, hp2, hc⟩ := h.cell hj
  rw [hp] at hp2
  injection hp2 with hp2
  subst hp2
  have hadd : (⟨b, o, none⟩ : Addr).add j = ⟨b, o + j, none⟩ := by unfold Addr.add; split <;> simp_all
  rw [hadd, hc]
def wrCells (ws : List SWr) : List Value := ws.flatMap fun x => [.string ⟨x.key.toArray⟩, .bool x.gone, .int .i64 x.val.kind, .int .i64 x.val.num, .string ⟨x.val.text.toArray⟩]
theorem wrCells_len (ws : List SWr) : (wrCells ws).length = ws.length * 5 := by
  induction ws with
  | nil => rfl
  | cons a r ih => unfold wrCells at *; rw [List.flatMap_cons, List.length_append, ih]; simp; omega
theorem wrs_src {w : World} {p : Option Addr} {ws : List SWr} (h : WrsAt w p ws) : ∀ ad, p = some ad → ∀ j u, (wrCells ws)[j]? = some u → w.cell? (ad.add j) = some u := by
  intro ad hp j u hu
  have hj : j < ws.length * 5 := by
    rw [← wrCells_len]
    exact (List.getElem?_eq_some_iff.1 hu).1
  have hi : j / 5 < ws.length := by omega
  have hm : j % 5 < 5 := Nat.mod_lt _ (by decide)
  obtain ⟨b, o, hp2, a0, a1, a2, a3, a4⟩ := h.cell hi
  rw [hp] at hp2
  injection hp2 with hp2
  subst hp2
  have hadd : (⟨b, o, none⟩ : Addr).add j = ⟨b, o + j / 5 * 5 + j % 5, none⟩ := by
    have : o + j / 5 * 5 + j % 5 = o + j := by omega
    unfold Addr.add; split <;> simp_all
  have he : (wrCells ws)[j]? = ([Value.string ⟨ws[j / 5].key.toArray⟩, .bool ws[j / 5].gone, .int .i64 ws[j / 5].val.kind, .int .i64 ws[j / 5].val.num, .string ⟨ws[j / 5].val.text.toArray⟩])[j % 5]? := by
    have := flat_get (n := 5) (f := fun x : SWr => [Value.string ⟨x.key.toArray⟩, .bool x.gone, .int .i64 x.val.kind, .int .i64 x.val.num, .string ⟨x.val.text.toArray⟩]) (fun _ => rfl) ws (j / 5) (j % 5) hi hm
    have e : j / 5 * 5 + j % 5 = j := by omega
    rw [e] at this
    exact this
  rw [he] at hu
  rw [hadd]
  generalize j % 5 = r at hm hu ⊢
  match r, hm with
  | 0, _ => exact a0.trans hu
  | 1, _ => exact a1.trans hu
  | 2, _ => exact a2.trans hu
  | 3, _ => exact a3.trans hu
  | 4, _ => exact a4.trans hu
theorem wrs_of_cells {w : World} {base n c : Nat} {p : Option Addr} {ws : List SWr} (h : w.ownsRow base 67 5 (.slice p n c) n (wrCells ws)) : WrsAt w p ws := by
  by_cases h0 : ws = []
  · exact .inl h0
  · have hne : wrCells ws ≠ [] := by
      cases ws with
      | nil => exact absurd rfl h0
      | cons a r => unfold wrCells; simp
    obtain ⟨g, rfl, _, _, hc⟩ := cells_owned h hne
    refine .inr ⟨g, 0, rfl, fun i hi => ?_⟩
    have hg : ∀ j, j < 5 → w.cell? ⟨g, i * 5 + j, none⟩ = ([Value.string ⟨ws[i].key.toArray⟩, .bool ws[i].gone, .int .i64 ws[i].val.kind, .int .i64 ws[i].val.num, .string ⟨ws[i].val.text.toArray⟩])[j]? := fun j hj => by
      rw [hc _ (by rw [wrCells_len]; omega)]
      unfold wrCells
      rw [flat_get (n := 5) (fun _ => rfl) ws i j hi hj]
    simp only [Nat.zero_add]
    exact ⟨hg 0 (by decide), hg 1 (by decide), hg 2 (by decide), hg 3 (by decide), hg 4 (by decide)⟩
end Go.Proofs.YtobccbakmcckiaaDoor
