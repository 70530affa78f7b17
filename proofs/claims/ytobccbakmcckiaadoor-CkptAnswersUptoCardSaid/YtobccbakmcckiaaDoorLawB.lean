/- The law's helpers: frozen, same. -/
import Derived.Test.YtobccbakmcckiaaDoorLawA
namespace Go.Proofs.YtobccbakmcckiaaDoor
open Go Go.RowKit Go.Sort

/-- 'x = append(x, v)' of one element of several cells, at the list of operations. -/
theorem wpList_appS {P : Program} {W : World} {ops : Array Oper} {rest : List Oper} {o : Oper} {a : Act} {Q : Exit → Act → World → Prop} (hgd : o.guard = none) (s x : Operand) (t : TypeId)
    (ho : o.op = .call { callee := .builtin .append, args := #[s, x], argTypes := #[t, t] })
    (base : Nat) (e : TypeId) (z : Value) (size bytes : Nat) (ht : P.underlying t = some (.slice e)) (hi : (P.info? e).map (fun i => (i.zero, i.size, i.bytes)) = some (some z, size, bytes)) (hz1 : z.cells.size = size) (hs0 : 0 < size)
    (p : Option Addr) (n c : Nat) (xs : List Value) (vs : Array Value) (hs : a.eval s = .slice p n c) (hown : W.ownsRow base e size (.slice p n c) n xs) (hvs : vs.toList.length = size) (hv : ∀ v ∈ vs.toList, v.oneCell' = true)
    (hx : a.eval x = .slice (some ⟨W.heap.size, 0, none⟩) 1 1) (hn : n + 1 ≤ maxLen) (hby : (n + 1) * bytes ≤ 140737488355328) (hbase : base ≤ W.heap.size)
    (h : ∀ p' c' w', w'.ownsRow base e size (.slice p' (n + 1) c') (n + 1) (xs ++ vs.toList) → Fr (fun k => base ≤ k) W w' → W.heap.size < w'.heap.size → wpList P ops Q rest (a.put o.dst (.slice p' (n + 1) c')) w') :
    wpList P ops Q (o :: rest) a (W.alloc (.cells vs e)) := by
  obtain ⟨i, hi, hz, hs1, hb⟩ := info_parts hi
  refine wpList_append_own (W.alloc (.cells vs e)) hgd s x t ho base e i z size bytes ht hi hz hs1 hb hz1 hs0 _ n xs hs (hown.alloc _) ⟨W.heap.size, 0, none⟩ 1 1 vs.toList hx (by rw [hvs, Nat.one_mul]) (fun j u hu => ?_) hv hn hby (by simp; omega) ?_
  · have hadd : (⟨W.heap.size, 0, none⟩ : Addr).add j = ⟨W.heap.size, j, none⟩ := by unfold Addr.add; split <;> simp_all
    rw [hadd, cell_heap (heap_alloc_new W _) j]
    simpa using hu
  · intro v' w' hown' hg _
    obtain ⟨p', c', rfl⟩ := slice_of_owns hown'
    refine h p' c' w' hown' (((Fr.refl _ W).alloc _).next (Fr.grown hg) fun k _ hk => (hown.lt k hk).1) ?_
    have := hg.size
    simp at this
    omega

def frozV (Cs : CL) (k : Key) : SVal := if (bitsOf Cs k).2 = 0 then (copiesOf Cs k).2 else (copiesOf Cs k).1
def valCells (vs : List SVal) : List Value := vs.flatMap fun v => [.int .i64 v.kind, .int .i64 v.num, .string ⟨v.text.toArray⟩]

set_option maxRecDepth 100000 in
set_option maxHeartbeats 4000000 in
theorem lawfrozen_any (ζ : ZG) (q : Option Addr) (cap : Nat) (ks : List Key) (w : World) (h : IsZig w ζ) (hs : StrsAt w q ks) (hn : ks.length ≤ 1000000) (hk : ∀ k ∈ ks, k.length ≤ maxLen) :
    Calls Tryd.prog 23 #[.pointer (some ⟨ζ.bz, 0, none⟩), .slice q ks.length cap] w fun e w' => ∃ p c, e = .returned (.slice p ks.length c) ∧ w'.ownsRow w.heap.size 47 3 (.slice p ks.length c) ks.length (valCells (ks.map (frozV ζ.Cs))) ∧ Fr nothing w w' := by
  have H := Lib.hid h
  have HS := Lib.hid hs
  clear h hs
  go_enter Tryd.func23, Tryd.ntmps23
  go_wp2
  go_loopw [5, 6] (fun v i wr => ∃ (k : Nat) (p : Option Addr) (c : Nat), i = .int .i64 k ∧ k ≤ ks.length ∧ v = .slice p k c ∧ wr.ownsRow w.heap.size 47 3 (.slice p k c) k (valCells ((ks.take k).map (frozV ζ.Cs))) ∧ Fr nothing w wr) (fun _ i _ => ks.length - (intOf i).toNat)
  case atStart => exact ⟨0, none, 0, rfl, Nat.zero_le _, rfl, World.ownsRow_nil _ _ _ _, Fr.refl _ _⟩
  case round =>
    obtain ⟨k, p, c, rfl, hk1, rfl, hrow, hfr⟩ := hrel
    have HR := Lib.hid hrow; clear hrow
    have HF := Lib.hid hfr; clear hfr
    by_cases hlt : k < ks.length
    · obtain ⟨b, o, rfl, hc⟩ := (HS.out.frame HF.out fun _ _ => nothing_not).cell hlt
      have hb := cell_lt hc
      dsimp only at hb
      have hkl := hk _ (List.getElem_mem hlt)
      have hcp := Lib.hid (copies_any ζ ks[k] wr (H.out.frame HF.out fun _ _ => nothing_not) hkl)
      have hbt := Lib.hid fun w' (hf : Fr nothing wr w') => ((bits_any ζ ks[k] w' (H.out.frame (HF.out.trans hf) fun _ _ => nothing_not) hkl).mono (R' := fun e w'' => e = .returned (.tuple #[.int .i64 (bitsOf ζ.Cs ks[k]).1, .int .i64 (bitsOf ζ.Cs ks[k]).2]) ∧ Fr nothing w' w'') fun e w'' ⟨h1, n, h2⟩ => ⟨h1, h2 ▸ (Fr.refl nothing w').drewN n⟩)
      have hsucc : Hid (∀ v, v = frozV ζ.Cs ks[k] → valCells ((ks.take (k + 1)).map (frozV ζ.Cs)) = valCells ((ks.take k).map (frozV ζ.Cs)) ++ [.int .i64 v.kind, .int .i64 v.num, .string ⟨v.text.toArray⟩]) := by
        show ∀ v, _
        intro v hv
        subst hv
        unfold valCells; rw [List.take_succ_eq_append_getElem hlt, List.map_append, List.flatMap_append]; simp
      have hwl := HF.out.size
      have hfv : Hid (frozV ζ.Cs ks[k] = if (bitsOf ζ.Cs ks[k]).2 = 0 then (copiesOf ζ.Cs ks[k]).2 else (copiesOf ζ.Cs ks[k]).1) := Lib.hid rfl
      generalize (copiesOf ζ.Cs ks[k]).1 = va at hcp hfv
      generalize (copiesOf ζ.Cs ks[k]).2 = vb at hcp hfv
      generalize (bitsOf ζ.Cs ks[k]).1 = r0 at hbt
      generalize (bitsOf ζ.Cs ks[k]).2 = b0 at hbt hfv
      by_cases hw : b0 = 0
      · subst hw
        have hv := Lib.hid (hfv.out.trans (if_pos rfl)).symm
        have hsu := Lib.hid (hsucc.out _ hv.out)
        simp only [SVal.enc, SVal.cells, SVal.str] at hcp
        go_wp2_with (first
          | (go_at_call 36; refine hcp.out.mono ?_; rintro e w1 ⟨rfl, hf1⟩; have hc1 := hf1.cellOf hc nothing_not; have hb1 := Nat.lt_of_lt_of_le hb hf1.size; have HF1 := Lib.hid hf1; clear hf1)
          | (go_at_call 25; refine (hbt.out _ ((HF1.out.alloc _).alloc _)).mono ?_; rintro e w2 ⟨rfl, hf2⟩
             have hA := (hf2.block _ (by simp; omega) nothing_not).trans ((((Fr.refl nothing _).alloc (.cells #[.int .i64 vb.kind, .int .i64 vb.num, .string ⟨vb.text.toArray⟩] 47)).block _ (by simp) nothing_not).trans (heap_alloc_new w1 (.cells #[.int .i64 va.kind, .int .i64 va.num, .string ⟨va.text.toArray⟩] 47)))
             have hB := (hf2.block _ (by simp) nothing_not).trans (heap_new2 w1 (.cells #[.int .i64 va.kind, .int .i64 va.num, .string ⟨va.text.toArray⟩] 47) (.cells #[.int .i64 vb.kind, .int .i64 vb.num, .string ⟨vb.text.toArray⟩] 47))
             have a0 : w2.cell? ⟨w1.heap.size, 0, none⟩ = some (.int .i64 va.kind) := cell_heap hA 0
             have a1 : w2.cell? ⟨w1.heap.size, 1, none⟩ = some (.int .i64 va.num) := cell_heap hA 1
             have a2 : w2.cell? ⟨w1.heap.size, 2, none⟩ = some (.string ⟨va.text.toArray⟩) := cell_heap hA 2
             have b0 : w2.cell? ⟨w1.heap.size + 1, 0, none⟩ = some (.int .i64 vb.kind) := cell_heap hB 0
             have b1 : w2.cell? ⟨w1.heap.size + 1, 1, none⟩ = some (.int .i64 vb.num) := cell_heap hB 1
             have b2 : w2.cell? ⟨w1.heap.size + 1, 2, none⟩ = some (.string ⟨vb.text.toArray⟩) := cell_heap hB 2
             have hf3 := ((HF1.out.alloc _).alloc _).trans hf2
             have HF3 := Lib.hid hf3
             have hsz := Nat.le_trans hwl hf3.size
             have HR2 := Lib.hid (owns_fr HR.out hf3)
             clear hA hB hf2 hf3)
          | (at_builtin; refine wpList_appS rfl (.tmp 37) (.tmp 39) 54 rfl w.heap.size 47 (.agg #[.int .i64 0, .int .i64 0, .string ⟨#[]⟩]) 3 32 Tryd.underlying54 infoVal rfl (by decide) p k c (valCells ((ks.take k).map (frozV ζ.Cs))) #[.int .i64 vb.kind, .int .i64 vb.num, .string ⟨vb.text.toArray⟩] (by rfl) HR2.out rfl (by simp [Value.oneCell']) (by rfl) (by unfold maxLen; omega) (by omega) hsz ?_; intro p' c' w3 hown hfr3 hlt3; have HO := Lib.hid hown; have HF4 := Lib.hid hfr3; clear hown hfr3)
          | go_in)
        go_roundw
        case rel => exact ⟨k + 1, p', c', by go_num, hlt, by go_num, by rw [hsu.out]; exact HO.out, (HF.out.trans HF3.out).next HF4.out fun i hi e => absurd hi (by omega)⟩
        case measure => simp [intOf]; omega
      · have hv := Lib.hid (hfv.out.trans (if_neg hw)).symm
        have hwi : ((b0 : Int) == 0) = false := by simp; omega
        have hsu := Lib.hid (hsucc.out _ hv.out)
        simp only [SVal.enc, SVal.cells, SVal.str] at hcp
        go_wp2_with (first
          | (go_at_call 36; refine hcp.out.mono ?_; rintro e w1 ⟨rfl, hf1⟩; have hc1 := hf1.cellOf hc nothing_not; have hb1 := Nat.lt_of_lt_of_le hb hf1.size; have HF1 := Lib.hid hf1; clear hf1)
          | (go_at_call 25; refine (hbt.out _ ((HF1.out.alloc _).alloc _)).mono ?_; rintro e w2 ⟨rfl, hf2⟩
             have hA := (hf2.block _ (by simp; omega) nothing_not).trans ((((Fr.refl nothing _).alloc (.cells #[.int .i64 vb.kind, .int .i64 vb.num, .string ⟨vb.text.toArray⟩] 47)).block _ (by simp) nothing_not).trans (heap_alloc_new w1 (.cells #[.int .i64 va.kind, .int .i64 va.num, .string ⟨va.text.toArray⟩] 47)))
             have hB := (hf2.block _ (by simp) nothing_not).trans (heap_new2 w1 (.cells #[.int .i64 va.kind, .int .i64 va.num, .string ⟨va.text.toArray⟩] 47) (.cells #[.int .i64 vb.kind, .int .i64 vb.num, .string ⟨vb.text.toArray⟩] 47))
             have a0 : w2.cell? ⟨w1.heap.size, 0, none⟩ = some (.int .i64 va.kind) := cell_heap hA 0
             have a1 : w2.cell? ⟨w1.heap.size, 1, none⟩ = some (.int .i64 va.num) := cell_heap hA 1
             have a2 : w2.cell? ⟨w1.heap.size, 2, none⟩ = some (.string ⟨va.text.toArray⟩) := cell_heap hA 2
             have b0 : w2.cell? ⟨w1.heap.size + 1, 0, none⟩ = some (.int .i64 vb.kind) := cell_heap hB 0
             have b1 : w2.cell? ⟨w1.heap.size + 1, 1, none⟩ = some (.int .i64 vb.num) := cell_heap hB 1
             have b2 : w2.cell? ⟨w1.heap.size + 1, 2, none⟩ = some (.string ⟨vb.text.toArray⟩) := cell_heap hB 2
             have hf3 := ((HF1.out.alloc _).alloc _).trans hf2
             have HF3 := Lib.hid hf3
             have hsz := Nat.le_trans hwl hf3.size
             have HR2 := Lib.hid (owns_fr HR.out hf3)
             clear hA hB hf2 hf3)
          | (at_builtin; refine wpList_appS rfl (.tmp 41) (.tmp 43) 54 rfl w.heap.size 47 (.agg #[.int .i64 0, .int .i64 0, .string ⟨#[]⟩]) 3 32 Tryd.underlying54 infoVal rfl (by decide) p k c (valCells ((ks.take k).map (frozV ζ.Cs))) #[.int .i64 va.kind, .int .i64 va.num, .string ⟨va.text.toArray⟩] (by rfl) HR2.out rfl (by simp [Value.oneCell']) (by rfl) (by unfold maxLen; omega) (by omega) hsz ?_; intro p' c' w3 hown hfr3 hlt3; have HO := Lib.hid hown; have HF4 := Lib.hid hfr3; clear hown hfr3)
          | go_in)
        go_roundw
        case rel => exact ⟨k + 1, p', c', by go_num, hlt, by go_num, by rw [hsu.out]; exact HO.out, (HF.out.trans HF3.out).next HF4.out fun i hi e => absurd hi (by omega)⟩
        case measure => simp [intOf]; omega
    · obtain rfl : k = ks.length := by omega
      rw [List.take_of_length_le (Nat.le_refl _)] at HR
      go_wp2
      go_ret
      exact ⟨p, c, rfl, HR.out, HF.out⟩
end Go.Proofs.YtobccbakmcckiaaDoor
