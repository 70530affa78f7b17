/- What a Story that came in reads as, and where it lies. -/
import Derived.Test.YtobccbakmcckiaaDoorLawK
import Derived.Test.YtobccbakmcckiaaDoorRows
import Derived.SliceStrings
import Derived.Deep.Slices
import Derived.ChangeSame
import Derived.OpenShut
namespace Go.Proofs.YtobccbakmcckiaaDoor
open Go Go.RowKit Go.ChangeShapes Go.WideShapes Go.Deep

theorem bulk_one {H : Type} (d : DataW H) : 1 ≤ Rows.uptoBulk d := by
  cases d with
  | lit l => cases l <;> simp [Rows.uptoBulk]
  | nil => simp [Rows.uptoBulk]
  | ptr d => simp [Rows.uptoBulk]
  | slice elems spare => simp [Rows.uptoBulk]
  | agg parts => simp [Rows.uptoBulk]
  | iface t d => simp [Rows.uptoBulk]
  | map entries => simp [Rows.uptoBulk]
  | held h => simp [Rows.uptoBulk]
theorem bulk_len {H : Type} (l : List (DataW H)) : l.length ≤ Rows.uptoBulkAll l := by
  induction l with
  | nil => simp [Rows.uptoBulkAll]
  | cons x r ih => have := bulk_one x; simp only [Rows.uptoBulkAll, List.length_cons]; omega
theorem bulk_part {H : Type} {d : DataW H} : ∀ {l : List (DataW H)}, d ∈ l → Rows.uptoBulk d ≤ Rows.uptoBulkAll l
  | x :: r, h => by
    simp only [Rows.uptoBulkAll]
    rcases List.mem_cons.1 h with rfl | h
    · omega
    · have := bulk_part h; omega
theorem bulk_app {H : Type} (l r : List (DataW H)) : Rows.uptoBulkAll (l ++ r) = Rows.uptoBulkAll l + Rows.uptoBulkAll r := by
  induction l with
  | nil => simp [Rows.uptoBulkAll]
  | cons x l ih => simp only [List.cons_append, Rows.uptoBulkAll, ih]; omega
/-- So much for each of the first n: so much in all. -/
theorem bulk_sum {H : Type} (D : Nat → DataW H) (f : Nat → Nat) : ∀ n, (∀ i, i < n → f i ≤ Rows.uptoBulk (D i)) → ((List.range n).map f).sum ≤ Rows.uptoBulkAll ((List.range n).map D)
  | 0, _ => by simp
  | n + 1, h => by
    rw [List.range_succ, List.map_append, List.map_append, List.sum_append, bulk_app]
    have h1 := bulk_sum D f n fun i hi => h i (by omega)
    have h2 := h n (by omega)
    simp only [List.map_cons, List.map_nil, List.sum_cons, List.sum_nil, Rows.uptoBulkAll]
    omega
theorem list_of {α : Type} {Q : Nat → α → Prop} : ∀ n, (∀ i, i < n → ∃ a, Q i a) → ∃ l : List α, l.length = n ∧ ∀ i (hi : i < l.length), Q i l[i]
  | 0, _ => ⟨[], rfl, fun i hi => by cases hi⟩
  | n + 1, h => by
    obtain ⟨l, hl, hq⟩ := list_of n fun i hi => h i (by omega)
    obtain ⟨a, ha⟩ := h n (by omega)
    refine ⟨l ++ [a], by simp [hl], fun i hi => ?_⟩
    by_cases h1 : i < l.length
    · rw [List.getElem_append_left h1]; exact hq i h1
    · have h2 : i = n := by simp at hi; omega
      subst h2
      rw [List.getElem_append_right (by omega)]
      simpa using ha
theorem plainA {w : World} {a : Addr} {v : Value} (h : w.cell? a = some v) : ∃ b o, a = ⟨b, o, none⟩ := by
  obtain ⟨b, o, s⟩ := a
  cases s with
  | none => exact ⟨b, o, rfl⟩
  | some x =>
    unfold World.cell? at h
    split at h
    · simp at h
    · cases h
theorem plainB {w : World} {a : Addr} {v : Value} (h : w.cell? (a.add 0) = some v) : ∃ b o, a = ⟨b, o, none⟩ := by
  have e : a.add 0 = a := by unfold Addr.add; simp
  rw [e] at h
  exact plainA h
theorem add_lit (b o i : Nat) : (⟨b, o, none⟩ : Addr).add i = ⟨b, o + i, none⟩ := by unfold Addr.add; split <;> simp_all

section
variable {H : Type} {enc : TypeId × Value → H} {w : World} {base : Nat} {spare : Nat → Bool} {held : Bool} {fuel : Nat} {cs : List Value} {x : DataW H × List MemPlace}

theorem rd_keys (h : DataW.trod enc Tryd.prog w base spare held fuel 26 cs = some x) :
    ∃ p cap ss, cs = [.slice p (ss : List Key).length cap] ∧ StrsAt w p ss ∧ (p = none → ss = [] ∧ cap = 0) ∧ (∀ k ∈ ss, k.length ≤ maxLen) ∧ ss.length + 1 ≤ Rows.uptoBulk x.1 := by
  rcases open_strings Tryd.underlying26 Tryd.underlying9 (by kernel_rfl) h with ⟨rfl, rfl⟩ | ⟨a, len, cap, ss, rfl, _, hl, _, hn, hx, hc, hm⟩
  · exact ⟨none, 0, [], rfl, .inl rfl, fun _ => ⟨rfl, rfl⟩, (fun k hk => by cases hk), by simp [Rows.uptoBulk]⟩
  · have hle : len ≤ ss.length := by rw [hn]; split <;> omega
    have hlen : ((ss.take len).map fun s => s.data.toList).length = len := by simp; omega
    refine ⟨some a, cap, (ss.take len).map fun s => s.data.toList, by rw [hlen], ?_, (fun e => by cases e), fun k hk => ?_, ?_⟩
    · by_cases h0 : len = 0
      · subst h0; exact .inl (by simp)
      · obtain ⟨b, o, rfl⟩ := plainB (hc 0 (by omega))
        refine .inr ⟨b, o, rfl, fun i hi => ?_⟩
        have hi' : i < len := by rw [hlen] at hi; exact hi
        have := hc i (by omega)
        rw [add_lit] at this
        rw [this]
        have hs : i < ss.length := by omega
        simp [List.getD, hs]
    · obtain ⟨s, hs, rfl⟩ := List.mem_map.1 hk
      have := hm s (List.mem_of_mem_take hs)
      simpa using this
    · rw [hx, hlen]
      simp only [Rows.uptoBulk]
      have := bulk_len (strs (H := H) (ss.take len))
      have h2 : (strs (H := H) (ss.take len)).length = len := by simp [strs]; omega
      omega

set_option maxRecDepth 100000 in
theorem rd_val (h : DataW.trod enc Tryd.prog w base spare held fuel 47 cs = some x) : ∃ v : SVal, cs = [.int .i64 v.kind, .int .i64 v.num, .string ⟨v.text.toArray⟩] ∧ i64 v.num ∧ v.text.length ≤ maxLen := by
  obtain ⟨xs, n, _, hx, hl, hlen, hf⟩ := DataW.trod_struct Tryd.underlying47 h
  have hC : Tryd.prog.cellsOf 47 = 3 := by kernel_rfl
  have k1 : Tryd.prog.cellsOf 3 = 1 := by kernel_rfl
  have k2 : Tryd.prog.cellsOf 2 = 1 := by kernel_rfl
  have k3 : Tryd.prog.cellsOf 9 = 1 := by kernel_rfl
  rw [hC] at hl
  match cs, hl with
  | [c0, c1, c2], _ =>
    match xs, hlen with
    | [y0, y1, y2], _ =>
      have h0 : DataW.trod enc Tryd.prog w base spare held n 3 (([c0, c1, c2].drop 0).take (Tryd.prog.cellsOf 3)) = some y0 := hf 0 _ rfl
      rw [k1] at h0
      have h1 : DataW.trod enc Tryd.prog w base spare held n 2 (([c0, c1, c2].drop 1).take (Tryd.prog.cellsOf 2)) = some y1 := hf 1 _ rfl
      rw [k2] at h1
      have h2 : DataW.trod enc Tryd.prog w base spare held n 9 (([c0, c1, c2].drop 2).take (Tryd.prog.cellsOf 9)) = some y2 := hf 2 _ rfl
      rw [k3] at h2
      obtain ⟨a, e0, _, _⟩ := DataW.trod_int Tryd.underlying3 h0
      obtain ⟨b, e1, _, w1⟩ := DataW.trod_int Tryd.underlying2 h1
      obtain ⟨s, e2, _, w2⟩ := DataW.trod_string Tryd.underlying9 h2
      simp at e0 e1 e2
      subst e0 e1 e2
      refine ⟨⟨a, b, s.data.toList⟩, rfl, ?_, by simpa using w2⟩
      exact bounds_i64 w1

set_option maxRecDepth 100000 in
theorem rd_write (h : DataW.trod enc Tryd.prog w base spare held fuel 67 cs = some x) : ∃ r : SWr, cs = [.string ⟨r.key.toArray⟩, .bool r.gone, .int .i64 r.val.kind, .int .i64 r.val.num, .string ⟨r.val.text.toArray⟩] ∧ (r.key.length ≤ maxLen ∧ r.val.text.length ≤ maxLen) ∧ i64 r.val.num := by
  obtain ⟨xs, n, _, hx, hl, hlen, hf⟩ := DataW.trod_struct Tryd.underlying67 h
  have hC : Tryd.prog.cellsOf 67 = 5 := by kernel_rfl
  have k1 : Tryd.prog.cellsOf 9 = 1 := by kernel_rfl
  have k2 : Tryd.prog.cellsOf 4 = 1 := by kernel_rfl
  have k3 : Tryd.prog.cellsOf 47 = 3 := by kernel_rfl
  rw [hC] at hl
  match cs, hl with
  | [c0, c1, c2, c3, c4], _ =>
    match xs, hlen with
    | [y0, y1, y2], _ =>
      have h0 : DataW.trod enc Tryd.prog w base spare held n 9 (([c0, c1, c2, c3, c4].drop 0).take (Tryd.prog.cellsOf 9)) = some y0 := hf 0 _ rfl
      rw [k1] at h0
      have h1 : DataW.trod enc Tryd.prog w base spare held n 4 (([c0, c1, c2, c3, c4].drop 1).take (Tryd.prog.cellsOf 4)) = some y1 := hf 1 _ rfl
      rw [k2] at h1
      have h2 : DataW.trod enc Tryd.prog w base spare held n 47 (([c0, c1, c2, c3, c4].drop 2).take (Tryd.prog.cellsOf 47)) = some y2 := hf 2 _ rfl
      rw [k3] at h2
      obtain ⟨s, e0, _, w0⟩ := DataW.trod_string Tryd.underlying9 h0
      obtain ⟨b, e1, _⟩ := DataW.trod_bool Tryd.underlying4 h1
      obtain ⟨v, e2, w2, w3⟩ := rd_val h2
      simp at e0 e1 e2
      obtain ⟨rfl, rfl, rfl⟩ := e2
      subst e0 e1
      exact ⟨⟨s.data.toList, b, v⟩, rfl, ⟨by simpa using w0, w3⟩, w2⟩

theorem rd_writes (h : DataW.trod enc Tryd.prog w base spare held fuel 34 cs = some x) :
    ∃ p cap ws, cs = [.slice p (ws : List SWr).length cap] ∧ WrsAt w p ws ∧ (p = none → ws = [] ∧ cap = 0) ∧ (∀ r ∈ ws, (r.key.length ≤ maxLen ∧ r.val.text.length ≤ maxLen) ∧ i64 r.val.num) ∧ ws.length + 1 ≤ Rows.uptoBulk x.1 := by
  rcases open_slice Tryd.underlying34 h with ⟨rfl, rfl⟩ | ⟨a, len, cap, m, n, D, Pl, rfl, _, hl, _, hmm, hx, hi⟩
  · exact ⟨none, 0, [], rfl, .inl rfl, fun _ => ⟨rfl, rfl⟩, (fun k hk => by cases hk), by simp [Rows.uptoBulk]⟩
  · have hC : Tryd.prog.cellsOf 67 = 5 := by kernel_rfl
    have hle : len ≤ m := by rw [hmm]; split <;> omega
    obtain ⟨ws, hwl, hq⟩ := list_of (Q := fun i (r : SWr) => (w.cell? (a.add (i * 5)) = some (.string ⟨r.key.toArray⟩) ∧ w.cell? (a.add (i * 5 + 1)) = some (.bool r.gone) ∧ w.cell? (a.add (i * 5 + 2)) = some (.int .i64 r.val.kind) ∧ w.cell? (a.add (i * 5 + 3)) = some (.int .i64 r.val.num) ∧ w.cell? (a.add (i * 5 + 4)) = some (.string ⟨r.val.text.toArray⟩)) ∧ (r.key.length ≤ maxLen ∧ r.val.text.length ≤ maxLen) ∧ i64 r.val.num) len fun i hil => by
      obtain ⟨cs', hc, ht⟩ := hi i (by omega)
      obtain ⟨r, e, hr⟩ := rd_write ht
      rw [hC] at hc
      obtain ⟨_, _, hat⟩ := World.cells?_some hc
      subst e
      refine ⟨r, ⟨?_, ?_, ?_, ?_, ?_⟩, hr⟩
      · have := hat 0 (by decide); rw [Go.Deep.add_add] at this; exact this
      · have := hat 1 (by decide); rw [Go.Deep.add_add] at this; exact this
      · have := hat 2 (by decide); rw [Go.Deep.add_add] at this; exact this
      · have := hat 3 (by decide); rw [Go.Deep.add_add] at this; exact this
      · have := hat 4 (by decide); rw [Go.Deep.add_add] at this; exact this
    refine ⟨some a, cap, ws, by rw [hwl], ?_, fun e => (by cases e), fun r hr => ?_, ?_⟩
    · by_cases h0 : len = 0
      · exact .inl (List.eq_nil_of_length_eq_zero (by omega))
      · obtain ⟨b, o, rfl⟩ := plainB (hq 0 (by omega)).1.1
        refine .inr ⟨b, o, rfl, fun i hi' => ?_⟩
        have := (hq i hi').1
        simp only [add_lit, ← Nat.add_assoc] at this
        exact this
    · obtain ⟨i, hi', rfl⟩ := List.mem_iff_getElem.1 hr
      exact (hq i hi').2
    · rw [hx]
      simp only [Rows.uptoBulk]
      have := bulk_len ((List.range len).map D)
      simp at this
      omega

theorem bulk_agg {l : List (DataW H)} {d : DataW H} (h : d ∈ l) : Rows.uptoBulk d + 1 ≤ Rows.uptoBulk (DataW.agg l) := by
  simp only [Rows.uptoBulk]
  have := bulk_part h
  omega
theorem bulk_two {a b : DataW H} {l r m : List (DataW H)} : Rows.uptoBulk a + Rows.uptoBulk b + 1 ≤ Rows.uptoBulk (DataW.agg (l ++ a :: (m ++ b :: r))) := by
  simp only [Rows.uptoBulk, bulk_app, Rows.uptoBulkAll]
  omega

/-- What an act's fields must be. -/
def ActOK (w : World) (a : AG) : Prop := StrsAt w a.kp a.keys ∧ WrsAt w a.wp a.ws ∧ a.ok ∧ (∀ k ∈ a.keys, k.length ≤ maxLen) ∧ ∀ r ∈ a.ws, (r.key.length ≤ maxLen ∧ r.val.text.length ≤ maxLen) ∧ i64 r.val.num
set_option maxRecDepth 100000 in
theorem rd_act (h : DataW.trod enc Tryd.prog w base spare held fuel 36 cs = some x) : ∃ a : AG, cs = a.row.toList ∧ ActOK w a ∧ a.keys.length + a.ws.length ≤ Rows.uptoBulk x.1 := by
  obtain ⟨xs, n, _, hx, hl, hlen, hf⟩ := DataW.trod_struct Tryd.underlying36 h
  have hC : Tryd.prog.cellsOf 36 = 5 := by kernel_rfl
  have k1 : Tryd.prog.cellsOf 3 = 1 := by kernel_rfl
  have k2 : Tryd.prog.cellsOf 26 = 1 := by kernel_rfl
  have k3 : Tryd.prog.cellsOf 34 = 1 := by kernel_rfl
  have k4 : Tryd.prog.cellsOf 2 = 1 := by kernel_rfl
  rw [hC] at hl
  match cs, hl with
  | [c0, c1, c2, c3, c4], _ =>
    match xs, hlen with
    | [y0, y1, y2, y3, y4], _ =>
      have h0 : DataW.trod enc Tryd.prog w base spare held n 3 (([c0, c1, c2, c3, c4].drop 0).take (Tryd.prog.cellsOf 3)) = some y0 := hf 0 _ rfl
      rw [k1] at h0
      have h1 : DataW.trod enc Tryd.prog w base spare held n 26 (([c0, c1, c2, c3, c4].drop 1).take (Tryd.prog.cellsOf 26)) = some y1 := hf 1 _ rfl
      rw [k2] at h1
      have h2 : DataW.trod enc Tryd.prog w base spare held n 34 (([c0, c1, c2, c3, c4].drop 2).take (Tryd.prog.cellsOf 34)) = some y2 := hf 2 _ rfl
      rw [k3] at h2
      have h3 : DataW.trod enc Tryd.prog w base spare held n 2 (([c0, c1, c2, c3, c4].drop 3).take (Tryd.prog.cellsOf 2)) = some y3 := hf 3 _ rfl
      rw [k4] at h3
      have h4 : DataW.trod enc Tryd.prog w base spare held n 3 (([c0, c1, c2, c3, c4].drop 4).take (Tryd.prog.cellsOf 3)) = some y4 := hf 4 _ rfl
      rw [k1] at h4
      obtain ⟨kind, e0, _, _⟩ := DataW.trod_int Tryd.underlying3 h0
      obtain ⟨kp, kc, keys, e1, s1, ok1, q1, b1⟩ := rd_keys h1
      obtain ⟨wp, wc, ws, e2, s2, ok2, q2, b2⟩ := rd_writes h2
      obtain ⟨mark, e3, _, _⟩ := DataW.trod_int Tryd.underlying2 h3
      obtain ⟨nn, e4, _, _⟩ := DataW.trod_int Tryd.underlying3 h4
      simp at e0 e1 e2 e3 e4
      subst e0 e1 e2 e3 e4
      refine ⟨⟨kind, keys, kp, kc, ws, wp, wc, mark, nn⟩, rfl, ⟨s1, s2, ⟨ok1, ok2⟩, q1, q2⟩, ?_⟩
      have hd : x.1 = .agg [y0.1, y1.1, y2.1, y3.1, y4.1] := by rw [hx]; rfl
      have := bulk_two (a := y1.1) (b := y2.1) (l := [y0.1]) (m := []) (r := [y3.1, y4.1])
      rw [hd]
      dsimp only
      have hh : Rows.uptoBulk y1.1 + Rows.uptoBulk y2.1 + 1 ≤ Rows.uptoBulk (DataW.agg [y0.1, y1.1, y2.1, y3.1, y4.1]) := this
      omega

theorem sum_map_range {l : List AG} (f : AG → Nat) : ∀ n, n ≤ l.length → ((List.range n).map fun i => (l[i]?.map f).getD 0).sum = ((l.take n).map f).sum
  | 0, _ => by simp
  | n + 1, h => by
    have hn : n < l.length := h
    rw [List.range_succ, List.map_append, List.sum_append, sum_map_range f n (by omega), List.take_succ_eq_append_getElem hn, List.map_append, List.sum_append]
    simp [hn]
theorem rd_acts (h : DataW.trod enc Tryd.prog w base spare held fuel 23 cs = some x) :
    ∃ p cap l, cs = [.slice p (l : List AG).length cap] ∧ (l = [] ∨ ∃ b o, p = some ⟨b, o, none⟩ ∧ ∀ i (h : i < l.length), ∀ j, j < 5 → w.cell? ⟨b, o + i * 5 + j, none⟩ = l[i].row[j]?) ∧ (∀ a ∈ l, ActOK w a) ∧ sumLens l ≤ Rows.uptoBulk x.1 ∧ l.length ≤ Rows.uptoBulk x.1 := by
  rcases open_slice Tryd.underlying23 h with ⟨rfl, rfl⟩ | ⟨a, len, cap, m, n, D, Pl, rfl, _, hl, _, hmm, hx, hi⟩
  · exact ⟨none, 0, [], rfl, .inl rfl, (fun k hk => by cases hk), by simp [sumLens], by simp⟩
  · have hC : Tryd.prog.cellsOf 36 = 5 := by kernel_rfl
    have hle : len ≤ m := by rw [hmm]; split <;> omega
    obtain ⟨l, hwl, hq⟩ := list_of (Q := fun i (r : AG) => (∀ j, j < 5 → w.cell? (a.add (i * 5 + j)) = r.row[j]?) ∧ ActOK w r ∧ r.keys.length + r.ws.length ≤ Rows.uptoBulk (D i)) len fun i hil => by
      obtain ⟨cs', hc, ht⟩ := hi i (by omega)
      obtain ⟨r, e, hr, hb⟩ := rd_act ht
      rw [hC] at hc
      obtain ⟨_, _, hat⟩ := World.cells?_some hc
      subst e
      refine ⟨r, fun j hj => ?_, hr, hb⟩
      have := hat j hj
      rw [Go.Deep.add_add] at this
      rw [this]
      simp
    have hsum : sumLens l ≤ Rows.uptoBulkAll ((List.range len).map D) := by
      have h1 := bulk_sum D (fun i => (l[i]?.map fun a => a.keys.length + a.ws.length).getD 0) len fun i hil => by
        have hi' : i < l.length := by omega
        have := (hq i hi').2.2
        simpa [hi'] using this
      rw [sum_map_range (fun a : AG => a.keys.length + a.ws.length) len (by omega), List.take_of_length_le (by omega)] at h1
      exact h1
    refine ⟨some a, cap, l, by rw [hwl], ?_, fun r hr => ?_, ?_, ?_⟩
    · by_cases h0 : len = 0
      · exact .inl (List.eq_nil_of_length_eq_zero (by omega))
      · have h00 := (hq 0 (by omega)).1 0 (by decide)
        obtain ⟨b, o, rfl⟩ := plainB (v := .int .i64 l[0].kind) (h00.trans rfl)
        refine .inr ⟨b, o, rfl, fun i hi' j hj => ?_⟩
        have := (hq i hi').1 j hj
        simp only [add_lit, ← Nat.add_assoc] at this
        exact this
    · obtain ⟨i, hi', rfl⟩ := List.mem_iff_getElem.1 hr
      exact (hq i hi').2.1
    · rw [hx]; simp only [Rows.uptoBulk]; omega
    · rw [hx]
      simp only [Rows.uptoBulk]
      have := bulk_len ((List.range len).map D)
      simp at this
      omega

/-- A whole Story. -/
def StoryIs (w : World) (v : Value) (B : Nat) : Prop := ∃ bp bn bc parts room ap l ac, v = storyV bp bn bc parts room ap l ac ∧ StoryOK w ap l ∧ (bn : Nat) ≤ maxLen ∧ i64 parts ∧ i64 room ∧ sumLens l ≤ B ∧ l.length ≤ B
set_option maxRecDepth 100000 in
theorem rd_story {r : Reach} {b0 : Nat} {v : Value} {d : DataW H} {ps : List MemPlace} (hv : Value.okWide Tryd.prog w r b0 25 v) (h : DataW.Trod enc Tryd.prog w base spare held 25 v d ps) (hB : Rows.uptoBulk d ≤ 2000000) : StoryIs w v (Rows.uptoBulk d) := by
  obtain ⟨cs, rfl, hsz⟩ := okWide_struct Tryd.underlying25 hv
  obtain ⟨fuel, h⟩ := h
  obtain ⟨xs, n, _, hx, hl, hlen, hf⟩ := DataW.trod_struct Tryd.underlying25 h
  have hC : Tryd.prog.cellsOf 25 = 4 := by kernel_rfl
  have k1 : Tryd.prog.cellsOf 22 = 1 := by kernel_rfl
  have k2 : Tryd.prog.cellsOf 3 = 1 := by kernel_rfl
  have k3 : Tryd.prog.cellsOf 23 = 1 := by kernel_rfl
  obtain ⟨l⟩ := cs
  match l, hsz.trans hC with
  | [c0, c1, c2, c3], _ =>
    match xs, hlen with
    | [y0, y1, y2, y3], _ =>
      have h0 : DataW.trod enc Tryd.prog w base spare held n 22 (([c0, c1, c2, c3].drop 0).take (Tryd.prog.cellsOf 22)) = some y0 := hf 0 _ rfl
      rw [k1] at h0
      have h1 : DataW.trod enc Tryd.prog w base spare held n 3 (([c0, c1, c2, c3].drop 1).take (Tryd.prog.cellsOf 3)) = some y1 := hf 1 _ rfl
      rw [k2] at h1
      have h2 : DataW.trod enc Tryd.prog w base spare held n 3 (([c0, c1, c2, c3].drop 2).take (Tryd.prog.cellsOf 3)) = some y2 := hf 2 _ rfl
      rw [k2] at h2
      have h3 : DataW.trod enc Tryd.prog w base spare held n 23 (([c0, c1, c2, c3].drop 3).take (Tryd.prog.cellsOf 23)) = some y3 := hf 3 _ rfl
      rw [k3] at h3
      obtain ⟨parts, e1, _, p1⟩ := DataW.trod_int Tryd.underlying3 h1
      obtain ⟨room, e2, _, p2⟩ := DataW.trod_int Tryd.underlying3 h2
      obtain ⟨ap, ac, l, e3, a1, a2, b1, b2⟩ := rd_acts h3
      have hd : d = .agg [y0.1, y1.1, y2.1, y3.1] := (congrArg Prod.fst hx)
      have hb : Rows.uptoBulk y3.1 + 1 ≤ Rows.uptoBulk d := by rw [hd]; exact bulk_agg (by simp)
      have hbytes : ∃ bp bn bc, [c0] = [Value.slice bp bn bc] ∧ bn ≤ maxLen := by
        rcases open_slice Tryd.underlying22 h0 with ⟨e, _⟩ | ⟨a, len, cap, m, n, D, Pl, e, _, hl, hm, _⟩
        · exact ⟨none, 0, 0, e, by unfold maxLen; omega⟩
        · exact ⟨some a, len, cap, e, by omega⟩
      obtain ⟨bp, bn, bc, e0, hbn⟩ := hbytes
      simp at e0 e1 e2 e3
      subst e0 e1 e2 e3
      refine ⟨bp, bn, bc, parts, room, ap, l, ac, rfl, ?_, hbn, bounds_i64 p1, bounds_i64 p2, by omega, by omega⟩
      exact {
        acts := ⟨a1, fun a ha => ⟨(a2 a ha).1, (a2 a ha).2.1⟩⟩
        ok := fun a ha => (a2 a ha).2.2.1
        n1 := by omega
        n2 := by omega
        keys := fun a ha => (a2 a ha).2.2.2.1
        ws := fun a ha => (a2 a ha).2.2.2.2 }
end
end Go.Proofs.YtobccbakmcckiaaDoor
