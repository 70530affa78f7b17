/- An append of one value to a row of the call's own. No program. -/
import Derived.Test.YtobccbakmcckiaaDoorFrames
import Derived.Maps.AppendAt
namespace Go.Proofs.YtobccbakmcckiaaDoor
open Go Go.RowKit

theorem slice_of_owns {w : World} {base e size n : Nat} {v : Value} {xs : List Value} (h : w.ownsRow base e size v n xs) : ∃ p c, v = .slice p n c := by
  rcases h.2 with ⟨h, h0⟩ | ⟨g, cap, cur, h, _⟩
  · exact ⟨_, _, by rw [h, h0]⟩
  · exact ⟨_, _, h⟩

/-- 's = append(s, x)': x of one cell, s owned from base on. -/
theorem wpList_app1 {P : Program} {W : World} {ops : Array Oper} {rest : List Oper} {o : Oper} {a : Act} {Q : Exit → Act → World → Prop} (hgd : o.guard = none) (s x : Operand) (t : TypeId)
    (ho : o.op = .call { callee := .builtin .append, args := #[s, x], argTypes := #[t, t] })
    (base : Nat) (e : TypeId) (z : Value) (bytes : Nat) (ht : P.underlying t = some (.slice e)) (hi : (P.info? e).map (fun i => (i.zero, i.size, i.bytes)) = some (some z, 1, bytes)) (hz1 : z.cells.size = 1)
    (p : Option Addr) (n c : Nat) (xs : List Value) (v : Value) (hs : a.eval s = .slice p n c) (hown : W.ownsRow base e 1 (.slice p n c) n xs) (hv : v.oneCell' = true)
    (hx : a.eval x = .slice (some ⟨W.heap.size, 0, none⟩) 1 1) (hn : n + 1 ≤ maxLen) (hby : (n + 1) * bytes ≤ 140737488355328) (hbase : base ≤ W.heap.size)
    (h : ∀ p' c' w', w'.ownsRow base e 1 (.slice p' (n + 1) c') (n + 1) (xs ++ [v]) → Fr (fun k => base ≤ k) W w' → W.heap.size < w'.heap.size → wpList P ops Q rest (a.put o.dst (.slice p' (n + 1) c')) w') :
    wpList P ops Q (o :: rest) a (W.alloc (.cells #[v] e)) := by
  obtain ⟨i, hi, hz, hs1, hb⟩ := info_parts hi
  refine wpList_append_own (W.alloc (.cells #[v] e)) hgd s x t ho base e i z 1 bytes ht hi hz hs1 hb hz1 (by decide) _ n xs hs (hown.alloc _) ⟨W.heap.size, 0, none⟩ 1 1 [v] hx rfl (cell_one_new _ _ _) (by simpa using hv) hn hby (by simp; omega) ?_
  intro v' w' hown' hg _
  obtain ⟨p', c', rfl⟩ := slice_of_owns hown'
  refine h p' c' w' hown' (((Fr.refl _ W).alloc _).next (Fr.grown hg) fun k _ hk => (hown.lt k hk).1) ?_
  have := hg.size
  simp at this
  omega
end Go.Proofs.YtobccbakmcckiaaDoor
