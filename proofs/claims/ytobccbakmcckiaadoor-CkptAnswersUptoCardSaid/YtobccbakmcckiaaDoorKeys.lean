/- The store's Keys. -/
import Derived.Test.YtobccbakmcckiaaDoorNewS
import Derived.Sort.OwnSorted
import Derived.Sort.KeysCollected
namespace Go.Proofs.YtobccbakmcckiaaDoor
open Go Go.RowKit Go.Sort

/-- The keys, rising. -/
def keysOf (L : SL) : List Key := L.map (·.1)
/-- The keys of the first n partitions. -/
def colK (L : SL) (P n : Nat) : List Key := (List.range n).flatMap fun i => (claimsOf L P i).map (·.1)
theorem colK_perm (L : SL) (P n : Nat) : (colK L P n).Perm ((L.filter fun p => decide (partOf p.1 P < n)).map (·.1)) := by
  induction n with
  | zero => simp [colK]
  | succ n ih =>
    have h1 : colK L P (n + 1) = colK L P n ++ (claimsOf L P n).map (·.1) := by unfold colK; rw [List.range_succ, List.flatMap_append]; simp
    rw [h1]
    have h2 : (claimsOf L P n).map (·.1) = (L.filter fun p => partOf p.1 P == n).map (·.1) := by unfold claimsOf; rw [List.map_map]; rfl
    rw [h2]
    refine (ih.append_right _).trans ?_
    rw [← List.map_append]
    refine List.Perm.map _ ?_
    have h3 := List.filter_append_perm (fun p => decide (partOf p.1 P < n)) (L.filter fun p => decide (partOf p.1 P < n + 1))
    rw [List.filter_filter, List.filter_filter] at h3
    refine List.Perm.trans (List.Perm.of_eq ?_) h3
    congr 1
    · refine List.filter_congr fun p _ => ?_
      by_cases hp : partOf p.1 P < n
      · simp [hp, Nat.lt_succ_of_lt hp]
      · simp [hp]
    · refine List.filter_congr fun p _ => ?_
      by_cases hp : partOf p.1 P = n
      · simp [hp]
      · by_cases hp2 : partOf p.1 P < n
        · simp [hp, hp2]
        · have : ¬ partOf p.1 P < n + 1 := by omega
          simp [hp, this]
theorem colK_all (L : SL) (P : Nat) (h : 1 ≤ P) : (colK L P P).Perm (keysOf L) := by
  refine (colK_perm L P P).trans (List.Perm.of_eq ?_)
  unfold keysOf
  congr 1
  rw [List.filter_eq_self]
  intro p _
  simpa using partOf_lt p.1 P h
theorem less_le {a b : Key} (h : Op.bytesLess a b = true) : a ≤ b := by
  rw [bytesLess_eq] at h
  exact List.le_of_lt (by simpa using h)
theorem sort_keys {L : SL} (hr : RisM L) {ss : List Key} (h : ss.Perm (keysOf L)) : (ss.mergeSort fun x y => decide (x ≤ y)) = keysOf L := by
  have h1 : ss.mergeSort leB = (keysOf L).mergeSort leB := mergeSort_of_perm h
  have h2 : (keysOf L).mergeSort leB = keysOf L := by
    refine List.mergeSort_of_pairwise ?_
    unfold keysOf
    rw [List.pairwise_map]
    refine hr.imp fun {p q} hpq => ?_
    rw [before_less] at hpq
    simpa [leB] using less_le hpq
  exact h1.trans h2
theorem strKeys_dm (m : M) : strKeys (dm m) = m.map (·.1) := by simp [strKeys, dm, strOf, Function.comp_def]

theorem infoStr : (Tryd.prog.info? 9).map (fun i => (i.zero, i.size, i.bytes)) = some (some (.string ⟨#[]⟩), 1, 16) := by kernel_rfl
theorem lawStr : Maps.Keyed Tryd.prog 9 := Maps.string_keyed Tryd.underlying9

theorem strs_of_owns {w : World} {base n : Nat} {p : Option Addr} {c : Nat} {ss : List Key} (h : w.ownsRow base 9 1 (.slice p n c) ss.length (ss.map encStr)) : n = ss.length ∧ StrsAt w p ss ∧ (∀ a, p = some a → base ≤ a.block ∧ a.block < w.heap.size) := by
  have hn : n = ss.length := by
    rcases h.2 with ⟨h1, h0⟩ | ⟨g, cap, cur, h1, _⟩
    · injection h1 with _ h1 _; omega
    · injection h1
  subst hn
  refine ⟨rfl, ?_, fun a ha => ?_⟩
  · by_cases h0 : ss = []
    · exact .inl h0
    · obtain ⟨g, rfl, _, _, hc⟩ := cell_owned h (by cases ss with | nil => exact absurd rfl h0 | cons => simp)
      refine .inr ⟨g, 0, rfl, fun i hi => ?_⟩
      rw [Nat.zero_add, hc i hi]
      simp [hi, encStr]
  · subst ha; exact h.lt a.block rfl

/-- slices.Sort on a row of the call's own. -/
theorem sort_owned {w : World} {base : Nat} {p : Option Addr} {c : Nat} {ss : List Key} (h : w.ownsRow base 9 1 (.slice p ss.length c) ss.length (ss.map encStr)) (hs : ss.length ≤ 1000000) :
    Calls Tryd.prog 43 #[.slice p ss.length c] w fun e w' => e = .returned (.tuple #[]) ∧ w'.ownsRow base 9 1 (.slice p ss.length c) ss.length ((ss.mergeSort fun x y => decide (x ≤ y)).map encStr) ∧ Fr (fun b => base ≤ b) w w' := by
  rcases h.2 with ⟨hv, h0⟩ | ⟨g, cap, cur, hv, hbase, hb, h1, h2, h3, h4⟩
  · obtain rfl : ss = [] := List.length_eq_zero_iff.1 h0
    refine (Tryd.slices_Sort_string_none p c w).mono ?_
    rintro e w' ⟨rfl, rfl⟩
    exact ⟨rfl, by simpa using h, Fr.refl _ _⟩
  · injection hv with hp _ hc
    subst hp; subst hc
    have hH : Holds encStr w g 0 ss.toArray := holds_of_block hb (by simpa using h4)
    refine (Tryd.slices_Sort_string g 0 c ss w hH (Array.getElem?_eq_some_iff.1 hb).1 (by omega)).mono ?_
    rintro e w' ⟨rfl, n, os, rfl⟩
    refine ⟨rfl, ?_, (Fr.grown (grownBy_sorted _)).mono fun k _ e => by injection e with e; omega⟩
    have := ownsRow_sorted (n := n) (os := os) (ts := ss.mergeSort fun x y => decide (x ≤ y)) (ss := ss) (by simp) hbase hb h1 h2 h3
    simpa using this

set_option maxRecDepth 100000 in
set_option maxHeartbeats 4000000 in
theorem keys_own (σ : SB) (L : SL) (w : World) (h : IsStore w σ L) :
    Calls Tryd.prog 22 #[.pointer (some ⟨σ.bs, 0, none⟩)] w fun e w' => ∃ p c, e = .returned (.slice p L.length c) ∧ w'.ownsRow w.heap.size 9 1 (.slice p L.length c) (keysOf L).length ((keysOf L).map encStr) ∧ Fr nothing w w' := by
  obtain ⟨i0, hi, hz0, hz1, hz2⟩ := info_parts infoStr
  have c1 := h.c1
  have hlen := h.len
  have H := Lib.hid h; clear h
  have hp2 := H.out.p2
  go_enter Tryd.func22, Tryd.ntmps22
  go_wp2
  go_loopw [3, 14] (fun v i wr => ∃ (k : Nat) (ss : List Key) (p : Option Addr) (c : Nat), i = .int .i64 k ∧ k ≤ σ.parts ∧ v = .slice p ss.length c ∧ wr.ownsRow w.heap.size 9 1 (.slice p ss.length c) ss.length (ss.map encStr) ∧ ss.Perm (colK L σ.parts k) ∧ Fr nothing w wr) (fun _ i _ => σ.parts - (intOf i).toNat)
  case atStart => exact ⟨0, [], none, 0, rfl, Nat.zero_le _, rfl, World.ownsRow_nil _ _ _ _, by simp [colK], Fr.refl _ _⟩
  case round =>
    obtain ⟨k, ss, p, c, rfl, hk, rfl, hrow, hperm, hfr⟩ := hrel
    have HR := Lib.hid hrow; clear hrow
    have HP := Lib.hid hperm; clear hperm
    have HF := Lib.hid hfr; clear hfr
    by_cases hlt : k < σ.parts
    · have hI := Lib.hid (H.out.frame HF.out fun _ _ => nothing_not)
      have dr : wr.cell? ⟨σ.bc, k, none⟩ = some (.map (some (σ.bm k))) := hI.out.rows k hlt
      have hpc := H.out.pc
      have hown := Lib.hid (hI.out.claims k hlt).1
      obtain ⟨wo, rfl⟩ : ∃ wo : World, wo = wr := ⟨_, rfl⟩
      go_wp2_with (first | (at_range; refine wpList_range_own _ rfl _ 82 rfl 9 3 lawStr Tryd.underlying82 RV (σ.bm k) _ _ rfl hown.out ?_; intro w0 hrg0 hg0 hs0; have HRG0 := Lib.hid hrg0; have HG0 := Lib.hid hg0; clear hrg0 hg0 hs0) | go_in)
      go_frame
      have hbl : σ.bm k < w.heap.size := H.out.lt (.inr (.inr (.inr ⟨k, hlt, rfl⟩)))
      have hml : (claimsOf L σ.parts k).length ≤ L.length := by unfold claimsOf; rw [List.length_map]; exact List.length_filter_le _ _
      have hss : ss.length ≤ L.length := by
        rw [HP.out.length_eq, (colK_perm L σ.parts k).length_eq, List.length_map]; exact List.length_filter_le _ _
      go_loopw [3] (fun v wr => ∃ (left : Lit → Bool) (cnt : Nat) (ss2 : List Key) (p : Option Addr) (c : Nat), wr.ranges Tryd.prog 9 RV (σ.bm k) wo.heap.size (claimsOf L σ.parts k).length (dm (claimsOf L σ.parts k)) left cnt ∧ ss2.length + cnt ≤ (claimsOf L σ.parts k).length ∧ v = .slice p (ss.length + ss2.length : Nat) c ∧
          wr.ownsRow w.heap.size 9 1 (.slice p (ss.length + ss2.length) c) (ss.length + ss2.length) ((ss ++ ss2).map encStr) ∧ Collected (dm (claimsOf L σ.parts k)) left ss2 ∧ Fr nothing w wr)
        (fun _ wr => wr.rangeLeft (σ.bm k) wo.heap.size)
      case atStart =>
        refine ⟨_, _, [], p, c, HRG0.out, by rw [dm_size]; exact Nat.le_of_eq (Nat.zero_add _), rfl, ?_, Collected.start _, HF.out.next (Fr.grown HG0.out) fun i _ e => by cases e⟩
        rw [List.append_nil]
        exact HR.out.kept HG0.out (by cases hob : (Value.slice p ss.length c).ownBlock with | none => exact .inl rfl | some x => exact .inr (by simp))
      case round =>
        obtain ⟨left, cnt, ss2, p2, c2, hrg, hcs, rfl, hrow2, hC, hfr2⟩ := hrel
        have HRG := Lib.hid hrg; clear hrg
        have HR2 := Lib.hid hrow2; clear hrow2
        have HC := Lib.hid hC; clear hC
        have HF2 := Lib.hid hfr2; clear hfr2
        go_wp2_with (first
          | (at_next; refine wpList_next_ranges _ rfl _ rfl 9 lawStr RV encStr id (fun key kl hk => by obtain ⟨x, hx, _⟩ := Maps.keyOf_str Tryd.underlying9 hk; exact ⟨x, hx⟩) (fun v _ _ => ⟨v, rfl⟩) (σ.bm k) wo.heap.size _ _ _ _ rfl HRG.out ?_ ?_)
          | go_in)
        · intro hc0 hl0
          have hpm := Lib.hid (HC.out.perm hown.out lawStr Tryd.underlying9 hl0)
          rw [strKeys_dm] at hpm
          go_wp2
          go_roundw
          case rel =>
            refine ⟨k + 1, ss ++ ss2, p2, c2, by go_num, by omega, by simp, by simpa using HR2.out, ?_, HF2.out⟩
            unfold colK
            rw [List.range_succ, List.flatMap_append]
            refine HP.out.append (hpm.out.trans (List.Perm.of_eq ?_))
            simp
          case measure => simp [intOf]; omega
        · intro x c kl yd yp w2 cnt2 hkey hlk hv hat hrg2 hltc hg2 hs2 hen
          obtain ⟨x', ex, rfl, hxl⟩ := Maps.keyOf_str Tryd.underlying9 hkey
          obtain rfl : x = x' := encStr_inj ex
          have hrow3 := HR2.out.kept hg2 (Or.inr (row_ne_iter HR2.out HRG.out).symm)
          have HR3 := Lib.hid hrow3; clear hrow3
          have HRG2 := Lib.hid hrg2; clear hrg2
          have HG2 := Lib.hid hg2; clear hg2
          have HAT := Lib.hid hat; clear hat
          have HLK := Lib.hid hlk; clear hlk
          have HW := Lib.hid (HF2.out.next (Fr.grown HG2.out) (fun i hi e => by injection e with e; have := HF.out.size; omega))
          have hsz2 := HW.out.size
          clear hs2 hkey hv ex hxl
          go_wp2_with (first
            | (at_builtin; refine wpList_append_own _ rfl _ _ 26 rfl w.heap.size 9 i0 (.string ⟨#[]⟩) 1 16 Tryd.underlying26 hi hz0 hz1 hz2 rfl (by decide) _ _ _ rfl (HR3.out.alloc _) ⟨w2.heap.size, 0, none⟩ 1 1 [encStr x] rfl rfl (cell_one_new _ _ _) (by simp [Value.oneCell', encStr]) (by unfold maxLen; omega) (by omega) (by simp; omega) ?_; intro v' w3 hown' hg3 hnil3; obtain ⟨p3, c3, rfl⟩ := slice_of_owns hown'; have HO3 := Lib.hid hown'; have HG3 := Lib.hid hg3; clear hown' hg3 hnil3)
            | go_in)
          have hrg3 := (HRG2.out.alloc (.cells #[encStr x] 9)).kept HG3.out (row_ne_low HR3.out hbl) (row_ne_iter HR3.out HRG2.out)
          go_roundw
          case rel =>
            refine ⟨_, cnt2, ss2 ++ [x], p3, c3, hrg3, by simp; omega, by simp; omega, ?_, HC.out.step HLK.out HAT.out, (HW.out.alloc (.cells #[encStr x] 9)).next (Fr.grown HG3.out) (fun i hi e => ?_)⟩
            · have := HO3.out
              simpa [Nat.add_assoc] using this
            · have := HR3.out.lt i e
              omega
          case measure => rw [hrg3.left_eq, HRG.out.left_eq]; exact hltc
    · obtain rfl : k = σ.parts := by omega
      have hpm := HP.out.trans (colK_all L σ.parts H.out.p1)
      have hl : ss.length = L.length := by rw [hpm.length_eq]; simp [keysOf]
      have hsort := sort_owned HR.out (by omega)
      rw [sort_keys H.out.ris hpm] at hsort
      have HS := Lib.hid hsort
      have HL := Lib.hid hl
      clear hpm hsort hl
      go_wp2_with (go_at_call 43; refine HS.out.mono ?_; rintro e w' ⟨rfl, hown, hfr⟩; have HO := Lib.hid hown; have HFR := Lib.hid hfr; clear hown hfr)
      go_ret
      have hkl : ss.length = (keysOf L).length := by rw [HL.out]; simp [keysOf]
      have hown := HO.out
      rw [hkl] at hown
      refine ⟨p, c, by rw [← HL.out]; rfl, ?_, HF.out.next HFR.out fun i hi e => ?_⟩
      · rw [← HL.out, hkl]; exact hown
      · omega
theorem keys_any (σ : SB) (L : SL) (w : World) (h : IsStore w σ L) :
    Calls Tryd.prog 22 #[.pointer (some ⟨σ.bs, 0, none⟩)] w fun e w' => ∃ p c, e = .returned (.slice p L.length c) ∧ StrsAt w' p (keysOf L) ∧ (∀ a, p = some a → w.heap.size ≤ a.block) ∧ Fr nothing w w' := by
  refine (keys_own σ L w h).mono ?_
  rintro e w' ⟨p, c, rfl, ho, hf⟩
  obtain ⟨_, h2, h3⟩ := strs_of_owns ho
  exact ⟨p, c, rfl, h2, fun a ha => (h3 a ha).1, hf⟩
end Go.Proofs.YtobccbakmcckiaaDoor
