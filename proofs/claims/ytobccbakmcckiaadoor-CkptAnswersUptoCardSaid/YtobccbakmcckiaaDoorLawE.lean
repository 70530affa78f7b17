/- The law's input: a story in memory; long. -/
import Derived.Test.YtobccbakmcckiaaDoorLawD
namespace Go.Proofs.YtobccbakmcckiaaDoor
open Go Go.RowKit Go.Sort

/-- An Act. -/
structure AG where
  kind : Int
  keys : List Key
  kp : Option Addr
  kc : Nat
  ws : List SWr
  wp : Option Addr
  wc : Nat
  mark : Int
  n : Int
def AG.row (a : AG) : Array Value := #[.int .i64 a.kind, .slice a.kp a.keys.length a.kc, .slice a.wp a.ws.length a.wc, .int .i64 a.mark, .int .i64 a.n]
/-- The Acts lie at p. -/
def ActsAt (w : World) (p : Option Addr) (l : List AG) : Prop := (l = [] ∨ ∃ b o, p = some ⟨b, o, none⟩ ∧ ∀ i (h : i < l.length), ∀ j, j < 5 → w.cell? ⟨b, o + i * 5 + j, none⟩ = l[i].row[j]?) ∧ ∀ a ∈ l, StrsAt w a.kp a.keys ∧ WrsAt w a.wp a.ws
theorem ActsAt.frame {w w' : World} {p : Option Addr} {l : List AG} (h : ActsAt w p l) {B : Nat} (hf : Fr (fun k => B ≤ k) w w') (hp : ∀ a, p = some a → a.block < B) (hl : ∀ x ∈ l, (∀ a, x.kp = some a → a.block < B) ∧ ∀ a, x.wp = some a → a.block < B) : ActsAt w' p l := by
  obtain ⟨h1, h2⟩ := h
  refine ⟨?_, fun x hx => ⟨(h2 x hx).1.frame hf fun a ha => ?_, (h2 x hx).2.frame hf fun a ha => ?_⟩⟩
  · rcases h1 with h1 | ⟨b, o, rfl, h1⟩
    · exact .inl h1
    · refine .inr ⟨b, o, rfl, fun i hi j hj => ?_⟩
      have hb := hp _ rfl
      dsimp only at hb
      have hr := h1 i hi j hj
      obtain ⟨v, hv⟩ : ∃ v, l[i].row[j]? = some v := by
        have : j < l[i].row.size := hj
        exact ⟨l[i].row[j], Array.getElem?_eq_getElem this⟩
      rw [hv] at hr ⊢
      exact hf.cellOf hr (by dsimp only; omega)
  · have := (hl x hx).1 a ha; omega
  · have := (hl x hx).2 a ha; omega
def sumLens (l : List AG) : Nat := (l.map fun a => a.keys.length + a.ws.length).sum
theorem sumLens_succ {l : List AG} {k : Nat} (h : k < l.length) : sumLens (l.take (k + 1)) = sumLens (l.take k) + (l[k].keys.length + l[k].ws.length) := by
  unfold sumLens
  rw [List.take_succ_eq_append_getElem h, List.map_append, List.sum_append]; simp
theorem sumLens_le (l : List AG) (k : Nat) : sumLens (l.take k) ≤ sumLens l := by
  have : sumLens l = sumLens (l.take k) + sumLens (l.drop k) := by
    unfold sumLens
    rw [← List.sum_append, ← List.map_append, List.take_append_drop]
  omega
/-- The value of a Story. -/
def storyV (bp : Option Addr) (bn bc : Nat) (parts room : Int) (ap : Option Addr) (l : List AG) (ac : Nat) : Value := .agg #[.slice bp bn bc, .int .i64 parts, .int .i64 room, .slice ap l.length ac]
def longB (bn : Nat) (l : List AG) : Bool := decide (200 < l.length) || (decide (3000 < sumLens l) || decide (100000 < bn))
end Go.Proofs.YtobccbakmcckiaaDoor
