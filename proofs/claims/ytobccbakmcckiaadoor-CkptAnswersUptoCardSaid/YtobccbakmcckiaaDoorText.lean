/- value.Digits and value.Print. -/
import Derived.Test.YtobccbakmcckiaaDoorKeys
namespace Go.Proofs.YtobccbakmcckiaaDoor
open Go Go.RowKit Go.Sort

/-- The library's table of powers of ten lies in its variable. -/
def Env (w : World) : Prop := Lib.TabIs Tryd.prog w "internal/strconv.uint64pow10" .u64 Lib.pow10Tab
theorem tab_at : Tryd.prog.globalNamed "internal/strconv.uint64pow10" = some 2 := by kernel_rfl
theorem Env.lt {w : World} (h : Env w) : 2 < w.heap.size := by
  unfold Env Lib.TabIs World.var? at h
  rw [tab_at] at h
  simp only [Option.bind_some] at h
  cases hb : w.heap[2]? with
  | none => rw [hb] at h; cases h
  | some o => exact (Array.getElem?_eq_some_iff.1 hb).1
theorem Env.frame {w w' : World} (h : Env w) {S : Nat → Prop} (hf : Fr S w w') (hs : ¬ S 2) : Env w' := by
  have := hf.block _ h.lt hs
  unfold Env Lib.TabIs World.var? at *
  rw [tab_at] at *
  simp only [Option.bind_some] at *
  rw [this]; exact h
theorem Fr.growS (w : World) (n : Nat) (os : Array Obj) (S : Nat → Prop) : Fr S w (grow (w.drewN n) os) :=
  ⟨rfl, rfl, rfl, by simp [grow, World.drewN], fun k hk _ => by
    show (w.heap ++ os)[k]? = _
    rw [Array.getElem?_append_left hk]⟩

/-- Numbers that an int64 holds. -/
def i64 (n : Int) : Prop := -9223372036854775808 ≤ n ∧ n ≤ 9223372036854775807

set_option maxHeartbeats 400000 in
theorem digits_any (n : Int) (hn : i64 n) (w : World) (he : Env w) :
    Calls Tryd.prog 46 #[.int .i64 n] w fun e w' => e = .returned (.string ⟨(Lib.itoa n).toArray⟩) ∧ Fr nothing w w' := by
  have hc := Lib.hid (Tryd.strconv_FormatInt_10 n hn.1 hn.2 w he)
  clear hn he
  go_enter Tryd.func46, Tryd.ntmps46
  go_wp2_with (go_at_call 59; refine hc.out.mono ?_; rintro e w' ⟨rfl, k, os, rfl⟩)
  go_ret
  exact ⟨rfl, Fr.growS _ _ _ _⟩

def escB (c : UInt8) : List UInt8 := if c = 34 ∨ c = 92 then [92, c] else [c]
def esc (l : List UInt8) : List UInt8 := l.flatMap escB
/-- A value's literal. -/
def printV (v : SVal) : List UInt8 := if v.kind = 1 then Lib.itoa v.num else if v.kind = 0 then [110, 111, 110, 101] else 34 :: esc v.text ++ [34]
theorem esc_len (l : List UInt8) : (esc l).length ≤ 2 * l.length := by
  unfold esc
  induction l with
  | nil => simp
  | cons c r ih =>
    rw [List.flatMap_cons, List.length_append, List.length_cons]
    have : (escB c).length ≤ 2 := by unfold escB; split <;> simp
    omega
theorem esc_succ (l : List UInt8) (k : Nat) (h : k < l.length) : esc (l.take (k + 1)) = esc (l.take k) ++ escB l[k] := by
  unfold esc
  rw [List.take_succ_eq_append_getElem h, List.flatMap_append]; simp

theorem infoByte : (Tryd.prog.info? 5).map (fun i => (i.zero, i.size, i.bytes)) = some (some (.int .u8 0), 1, 1) := by kernel_rfl
theorem bytes_of_owns {w : World} {base : Nat} {p : Option Addr} {c n : Nat} {l : List UInt8} (h : w.ownsRow base 5 1 (.slice p n c) n (Lib.byteCells l)) (h0 : l ≠ []) :
    (convert 22 9 (.slice p n c)).run Tryd.prog w = .ok (.string ⟨l.toArray⟩) w := by
  have hl : n = l.length := by have := h.1; simp [Lib.byteCells] at this; omega
  subst hl
  obtain ⟨g, rfl, _, _, hc⟩ := cell_owned h (by cases l with | nil => exact absurd rfl h0 | cons => simp)
  refine run_convert_bytes_back (P := Tryd.prog) w 22 9 5 ⟨g, 0, none⟩ c l Tryd.underlying22 Tryd.underlying5 Tryd.underlying9 fun j hj => ?_
  have := hc j hj
  have e : (⟨g, 0, none⟩ : Addr).add j = ⟨g, j, none⟩ := by unfold Addr.add; split <;> simp_all
  rw [e]
  simpa [Lib.byteCells, hj] using this

set_option maxRecDepth 100000 in
set_option maxHeartbeats 4000000 in
theorem print_any (v : SVal) (w : World) (hv : validVal v = true) (hi : i64 v.num) (he : Env w) :
    Calls Tryd.prog 48 #[v.enc] w fun e w' => e = .returned (.tuple #[.string ⟨(printV v).toArray⟩, .int .i64 0]) ∧ Fr nothing w w' := by
  obtain ⟨i0, hi0, hz0, hz1, hz2⟩ := info_parts infoByte
  have htl : v.text.length ≤ 64 := by
    unfold validVal at hv
    split at hv
    · simp at hv; simp [hv.2]
    · split at hv
      · simp at hv; simp [hv]
      · split at hv
        · simp at hv; exact hv.2.1
        · cases hv
  have hval := Lib.hid (fun w => (validVal_any v w (by unfold maxLen; omega)).mono (R' := fun e w' => e = .returned (.bool true) ∧ Fr nothing w w') fun e w' ⟨h1, h2⟩ => ⟨by rw [h1, hv], h2⟩)
  obtain ⟨kind, num, text⟩ := v
  unfold SVal.enc SVal.cells SVal.str at *
  dsimp only at *
  have hf0 : Fr nothing w (w.alloc (.cells #[.int .i64 kind, .int .i64 num, .string ⟨text.toArray⟩] 47)) := (Fr.refl _ _).alloc _
  have HF0 := Lib.hid hf0; clear hf0
  have HE := Lib.hid he; clear he
  have HI := Lib.hid hi; clear hi
  have HV := Lib.hid hv; clear hv
  by_cases h1 : kind = 1
  · subst h1
    have hpr := Lib.hid (show printV ⟨1, num, text⟩ = Lib.itoa num by simp [printV])
    go_enter Tryd.func48, Tryd.ntmps48
    go_wp2_with (first
      | (go_at_call 56; refine (hval.out _).mono ?_; rintro e w1 ⟨rfl, hf1⟩; have HF1 := Lib.hid hf1; have g0 := hf1.cellOf (v := .int .i64 1) ((cell_new (w := w) 0).trans rfl) nothing_not; have g1 := hf1.cellOf (v := .int .i64 num) ((cell_new (w := w) 1).trans rfl) nothing_not; clear hf1)
      | (go_at_call 46; refine (digits_any _ HI.out _ ((HE.out.frame HF0.out nothing_not).frame HF1.out nothing_not)).mono ?_; rintro e w2 ⟨rfl, hf2⟩; have HF2 := Lib.hid hf2; clear hf2))
    go_ret2
    exact ⟨by rw [hpr.out]; rfl, (HF0.out.trans HF1.out).trans HF2.out⟩
  · by_cases h0 : kind = 0
    · subst h0
      clear h1
      go_enter Tryd.func48, Tryd.ntmps48
      go_wp2_with (first
        | (go_at_call 56; refine (hval.out _).mono ?_; rintro e w1 ⟨rfl, hf1⟩; have HF1 := Lib.hid hf1; have g0 := hf1.cellOf (v := .int .i64 0) ((cell_new (w := w) 0).trans rfl) nothing_not; clear hf1))
      go_ret2
      exact ⟨rfl, HF0.out.trans HF1.out⟩
    · have hpr := Lib.hid (show printV ⟨kind, num, text⟩ = 34 :: esc text ++ [34] by simp [printV, h1, h0])
      have h2 : kind = 2 := by
        have := HV.out
        unfold validVal at this
        simp [h0, h1] at this
        exact this.1
      subst h2
      clear h0 h1
      go_enter Tryd.func48, Tryd.ntmps48
      go_wp2_with (first
        | (go_at_call 56; refine (hval.out _).mono ?_; rintro e w1 ⟨rfl, hf1⟩; have HF1 := Lib.hid hf1; have g2 := hf1.cellOf (v := .string ⟨text.toArray⟩) ((cell_new (w := w) 2).trans rfl) nothing_not; have g0 := hf1.cellOf (v := .int .i64 2) ((cell_new (w := w) 0).trans rfl) nothing_not; have hw1 : w.heap.size < w1.heap.size := cell_lt g2; clear hf1))
      go_loopw [4, 25] (fun out i wr => ∃ (k : Nat) (p : Option Addr) (c n : Nat), i = .int .i64 k ∧ k ≤ text.length ∧ out = .slice p n c ∧ n = 1 + (esc (text.take k)).length ∧ wr.ownsRow w1.heap.size 5 1 (.slice p n c) n (Lib.byteCells (34 :: esc (text.take k))) ∧ wr.cell? ⟨w.heap.size, 2, none⟩ = some (.string ⟨text.toArray⟩) ∧ Fr nothing w1 wr) (fun _ i _ => text.length - (intOf i).toNat)
      case atStart => exact ⟨0, _, _, _, rfl, Nat.zero_le _, rfl, rfl, ⟨by simp [esc, Lib.byteCells], .inr ⟨w1.heap.size, 1, #[.int .u8 34], rfl, Nat.le_refl _, heap_alloc_new w1 _, Nat.le_refl _, by decide, rfl, rfl⟩⟩, ((Fr.refl nothing w1).alloc _).cellOf g2 nothing_not, (Fr.refl _ _).alloc _⟩
      case round =>
        obtain ⟨k, p, c, n, rfl, hk, rfl, hn, hrow, g2', hfr⟩ := hrel
        have HR := Lib.hid hrow; clear hrow
        have HF := Lib.hid hfr; clear hfr
        have hesc := esc_len (text.take k)
        have hlt' : (text.take k).length ≤ 64 := by rw [List.length_take]; omega
        have hnb : n ≤ 129 := by omega
        have HN := Lib.hid hn; clear hn
        have HSZ := HF.out.size
        have lowS : ∀ i, i < w1.heap.size → w1.heap.size ≤ i → nothing i := fun i h1 h2 => absurd h2 (by omega)
        by_cases hlt : k < text.length
        · have hstep := Lib.hid (esc_succ text k hlt)
          have hb0 : (0 : Int) ≤ (text[k].toNat : Int) ∧ (text[k].toNat : Int) ≤ 255 := by have := text[k].toNat_lt; omega
          have hlow : ¬ w1.heap.size ≤ w.heap.size := by omega
          have hesc0 : Hid (∀ c : UInt8, ((c.toNat : Int) == 34) = decide (c = 34)) := fun c => by
            by_cases h : c = 34
            · subst h; rfl
            · have hn : c.toNat ≠ 34 := fun e => h (UInt8.toNat_inj.1 (by rw [e]; rfl))
              simp [h]; omega
          have hesc1 : Hid (∀ c : UInt8, ((c.toNat : Int) == 92) = decide (c = 92)) := fun c => by
            by_cases h : c = 92
            · subst h; rfl
            · have hn : c.toNat ≠ 92 := fun e => h (UInt8.toNat_inj.1 (by rw [e]; rfl))
              simp [h]; omega
          obtain ⟨q0, hq0⟩ : ∃ q, q = decide (text[k] = 34) := ⟨_, rfl⟩
          obtain ⟨q1, hq1⟩ : ∃ q, q = decide (text[k] = 92) := ⟨_, rfl⟩
          have hbs : k < (⟨text.toArray⟩ : ByteArray).size := by simpa [ByteArray.size] using hlt
          have t0 : ((((⟨text.toArray⟩ : ByteArray)[k]'hbs).toNat : Int) == 34) = q0 := (hesc0.out _).trans hq0.symm
          have t1 : ((((⟨text.toArray⟩ : ByteArray)[k]'hbs).toNat : Int) == 92) = q1 := (hesc1.out _).trans hq1.symm
          have hbe : Hid (((⟨text.toArray⟩ : ByteArray)[k]'hbs) = text[k]) := rfl
          have HQ0 := Lib.hid hq0
          have HQ1 := Lib.hid hq1
          clear hq0 hq1
          by_cases hq : q0 = true ∨ q1 = true
          · have hb : Hid (escB text[k] = [92, text[k]]) := by
              show _ = _
              unfold escB
              rw [if_pos]
              rcases hq with hq | hq
              · left; have := HQ0.out; rw [hq] at this; simpa using this.symm
              · right; have := HQ1.out; rw [hq] at this; simpa using this.symm
            cases q0
            · obtain rfl : q1 = true := by simpa using hq
              clear hq
              go_wp2_with (at_builtin; refine wpList_app1 rfl (.tmp 40) (.tmp 41) 22 rfl w1.heap.size 5 (.int .u8 0) 1 Tryd.underlying22 infoByte rfl _ _ _ _ _ rfl HR.out rfl rfl (by unfold maxLen; omega) (by omega) (by omega) ?_; intro p2 c2 w2 hown2 hf2 hz2; have HO2 := Lib.hid hown2; have HF2 := Lib.hid hf2; have g3 := hf2.cellOf g2' hlow; clear hown2 hf2; refine Hid.out ?_)
              refine Lib.hid ?_
              go_wp2_with (at_builtin; refine wpList_app1 rfl (.tmp 43) (.tmp 48) 22 rfl w1.heap.size 5 (.int .u8 0) 1 Tryd.underlying22 infoByte rfl _ _ _ _ _ rfl HO2.out rfl rfl (by unfold maxLen; omega) (by omega) (by omega) ?_; intro p3 c3 w3 hown3 hf3 hz3; have HO3 := Lib.hid hown3; have HF3 := Lib.hid hf3; have g4 := hf3.cellOf g3 hlow; clear hown3 hf3; refine Hid.out ?_)
              refine Lib.hid ?_
              go_wp2
              go_roundw
              case rel =>
                refine ⟨k + 1, p3, c3, _, by go_num, by omega, rfl, by rw [hstep.out, hb.out, HN.out]; simp; omega, ?_, g4, (HF.out.next HF2.out lowS).next HF3.out lowS⟩
                have := HO3.out
                rw [hstep.out, hb.out]
                simpa [Lib.byteCells, hbe.out] using this
              case measure => simp [intOf]; omega
            · obtain rfl : q1 = false := by
                have h34 : text[k] = 34 := by have := HQ0.out; simpa using this.symm
                rw [HQ1.out, h34]; rfl
              clear hq
              go_wp2_with (at_builtin; refine wpList_app1 rfl (.tmp 40) (.tmp 41) 22 rfl w1.heap.size 5 (.int .u8 0) 1 Tryd.underlying22 infoByte rfl _ _ _ _ _ rfl HR.out rfl rfl (by unfold maxLen; omega) (by omega) (by omega) ?_; intro p2 c2 w2 hown2 hf2 hz2; have HO2 := Lib.hid hown2; have HF2 := Lib.hid hf2; have g3 := hf2.cellOf g2' hlow; clear hown2 hf2; refine Hid.out ?_)
              refine Lib.hid ?_
              go_wp2_with (at_builtin; refine wpList_app1 rfl (.tmp 43) (.tmp 48) 22 rfl w1.heap.size 5 (.int .u8 0) 1 Tryd.underlying22 infoByte rfl _ _ _ _ _ rfl HO2.out rfl rfl (by unfold maxLen; omega) (by omega) (by omega) ?_; intro p3 c3 w3 hown3 hf3 hz3; have HO3 := Lib.hid hown3; have HF3 := Lib.hid hf3; have g4 := hf3.cellOf g3 hlow; clear hown3 hf3; refine Hid.out ?_)
              refine Lib.hid ?_
              go_wp2
              go_roundw
              case rel =>
                refine ⟨k + 1, p3, c3, _, by go_num, by omega, rfl, by rw [hstep.out, hb.out, HN.out]; simp; omega, ?_, g4, (HF.out.next HF2.out lowS).next HF3.out lowS⟩
                have := HO3.out
                rw [hstep.out, hb.out]
                simpa [Lib.byteCells, hbe.out] using this
              case measure => simp [intOf]; omega
          · obtain rfl : q0 = false := by cases q0 <;> simp_all
            obtain rfl : q1 = false := by cases q1 <;> simp_all
            have hb : Hid (escB text[k] = [text[k]]) := by
              show _ = _
              unfold escB
              rw [if_neg]
              rintro (h | h)
              · have := HQ0.out; rw [h] at this; simp at this
              · have := HQ1.out; rw [h] at this; simp at this
            clear hq
            go_wp2_with (at_builtin; refine wpList_app1 rfl (.tmp 43) (.tmp 48) 22 rfl w1.heap.size 5 (.int .u8 0) 1 Tryd.underlying22 infoByte rfl _ _ _ _ _ rfl HR.out rfl rfl (by unfold maxLen; omega) (by omega) (by omega) ?_; intro p3 c3 w3 hown3 hf3 hz3; have HO3 := Lib.hid hown3; have HF3 := Lib.hid hf3; have g4 := hf3.cellOf g2' hlow; clear hown3 hf3; refine Hid.out ?_)
            refine Lib.hid ?_
            go_wp2
            go_roundw
            case rel =>
              refine ⟨k + 1, p3, c3, _, by go_num, by omega, rfl, by rw [hstep.out, hb.out, HN.out]; simp; omega, ?_, g4, HF.out.next HF3.out lowS⟩
              have := HO3.out
              rw [hstep.out, hb.out]
              simpa [Lib.byteCells, hbe.out] using this
            case measure => simp [intOf]; omega
        · obtain rfl : k = text.length := by omega
          rw [List.take_of_length_le (Nat.le_refl _)] at HR HN
          go_wp2_with (at_builtin; refine wpList_app1 rfl (.tmp 51) (.tmp 52) 22 rfl w1.heap.size 5 (.int .u8 0) 1 Tryd.underlying22 infoByte rfl _ _ _ _ _ rfl HR.out rfl rfl (by unfold maxLen; omega) (by omega) (by omega) ?_; intro p3 c3 w3 hown3 hf3 hz3; have HO3 := Lib.hid hown3; have HF3 := Lib.hid hf3; have hcv := bytes_of_owns (l := 34 :: esc text ++ [34]) (by have := hown3; simpa [Lib.byteCells] using this) (by simp); clear hown3 hf3; refine Hid.out ?_)
          refine Lib.hid ?_
          have HCV := Lib.hid hcv
          obtain ⟨l, hl⟩ : ∃ l, l = 34 :: esc text ++ [34] := ⟨_, rfl⟩
          rw [← hl] at hcv
          have HL := Lib.hid hl
          clear hl
          go_wp2
          go_ret2
          exact ⟨by rw [hpr.out, ← HL.out]; rfl, ((HF0.out.trans HF1.out).next (HF.out.next HF3.out lowS) fun _ _ h => h)⟩
end Go.Proofs.YtobccbakmcckiaaDoor
