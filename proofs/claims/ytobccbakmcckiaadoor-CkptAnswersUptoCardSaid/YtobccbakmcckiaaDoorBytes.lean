/- The store's Bytes. -/
import Derived.Test.YtobccbakmcckiaaDoorText
import Derived.Deep.RegionHeld3
import Derived.Lib.BufferOld
import Derived.Lib.ItoaLen
namespace Go.Proofs.YtobccbakmcckiaaDoor
open Go Go.RowKit Go.Sort

def lineOf (p : Key × SVal) : List UInt8 := p.1 ++ [32] ++ printV p.2 ++ [10]
def headOf (P room : Nat) : List UInt8 := Lib.itoa P ++ [10] ++ Lib.itoa room ++ [10]
def bytesOf (P room : Nat) (L : SL) : List UInt8 := headOf P room ++ L.flatMap lineOf

theorem isBuffer_frame {T e : TypeId} {B b : Nat} {bs : List Value} {w w' : World} (h : Lib.IsBuffer T e B b bs w) {S : Nat → Prop} (hf : Fr S w w') (hs : ∀ k, B ≤ k → ¬ S k) : Lib.IsBuffer T e B b bs w' := by
  obtain ⟨hB, v, lr, hb, ⟨hl, hr⟩, hne⟩ := h
  refine ⟨hB, v, lr, (hf.block b (Array.getElem?_eq_some_iff.1 hb).1 (hs b hB)).trans hb, ⟨hl, ?_⟩, hne⟩
  rcases hr with hr | ⟨g, cap, cur, hv, hg, hh, h1⟩
  · exact .inl hr
  · exact .inr ⟨g, cap, cur, hv, hg, (hf.block g (Array.getElem?_eq_some_iff.1 hh).1 (hs g hg)).trans hh, h1⟩

/-- While the bytes are written: the store, the table, the buffer in block B with what it holds. -/
structure BSt (σ : SB) (L : SL) (w0 : World) (bs : List Value) (W : World) : Prop where
  st : IsStore W σ L
  env : Env W
  buf : Lib.IsBuffer 91 5 w0.heap.size w0.heap.size bs W
  fr : Fr nothing w0 W
  one : ∀ v ∈ bs, v.oneCell' = true

variable {σ : SB} {L : SL} {w0 W : World} {bs : List Value}
theorem BSt.next {W' : World} (h : BSt σ L w0 bs W) (hf : Fr nothing W W') : BSt σ L w0 bs W' :=
  ⟨h.st.frame hf fun _ _ => nothing_not, h.env.frame hf nothing_not, isBuffer_frame h.buf hf fun _ _ => nothing_not, h.fr.trans hf, h.one⟩
theorem BSt.parts (h : BSt σ L w0 bs W) : Calls Tryd.prog 47 #[.pointer (some ⟨σ.bs, 0, none⟩)] W fun e W' => e = .returned (.int .i64 σ.parts) ∧ BSt σ L w0 bs W' := by
  refine (parts_any σ L W h.st).mono ?_
  rintro e w' ⟨rfl, rfl⟩
  exact ⟨rfl, h⟩
theorem BSt.digits (h : BSt σ L w0 bs W) {n : Int} (hn : i64 n) : Calls Tryd.prog 46 #[.int .i64 n] W fun e W' => e = .returned (.string ⟨(Lib.itoa n).toArray⟩) ∧ BSt σ L w0 bs W' := by
  refine (digits_any n hn W h.env).mono ?_
  rintro e w' ⟨rfl, hf⟩
  exact ⟨rfl, h.next hf⟩
theorem BSt.print (h : BSt σ L w0 bs W) {v : SVal} (hv : validVal v = true) (hi : i64 v.num) : Calls Tryd.prog 48 #[v.enc] W fun e W' => e = .returned (.tuple #[.string ⟨(printV v).toArray⟩, .int .i64 0]) ∧ Fr nothing W W' ∧ BSt σ L w0 bs W' := by
  refine (print_any v W hv hi h.env).mono ?_
  rintro e w' ⟨rfl, hf⟩
  exact ⟨rfl, hf, h.next hf⟩
theorem byteCells_one (l : List UInt8) : ∀ v ∈ Lib.byteCells l, v.oneCell' = true := by
  intro v hv
  obtain ⟨b, _, rfl⟩ := List.mem_map.1 hv
  rfl
theorem BSt.write (h : BSt σ L w0 bs W) (hlo : ∀ k, σ.all k → k < w0.heap.size) (he0 : Env w0) (s : ByteArray) (hl : bs.length + s.size ≤ 100000000) : Calls Tryd.prog 45 #[.pointer (some ⟨w0.heap.size, 0, none⟩), .string s] W fun e W' =>
    (∃ v, e = .returned (.tuple #[.int .i64 s.size, v]) ∧ v = .nilIface) ∧ BSt σ L w0 (bs ++ Lib.byteCells s.data.toList) W' ∧ Lib.OthersKept 5 (some w0.heap.size) W W' := by
  refine (Tryd.Buffer_WriteString_k w0.heap.size w0.heap.size bs s W h.buf h.fr.size h.one (by omega)).mono ?_
  rintro e w' ⟨rfl, hb, hbe, hok⟩
  have hf := Fr.below hbe
  refine ⟨⟨_, rfl, rfl⟩, ⟨h.st.frame hf fun k hk hle => ?_, h.env.frame hf ?_, hb, h.fr.next hf fun i hi hle => ?_, fun v hv => ?_⟩, hok⟩
  · have := hlo k hk; omega
  · have := he0.lt; omega
  · omega
  · rcases List.mem_append.1 hv with hv | hv
    · exact h.one v hv
    · exact byteCells_one _ v hv

theorem get_of_mem {L : SL} (h : RisM L) {p : Key × SVal} (hp : p ∈ L) : getV L p.1 = p.2 := by
  unfold getV; rw [lookM_of_mem h (k := p.1) (v := p.2) hp]; rfl
theorem itoa_len (n : Int) (h : i64 n) : (Lib.itoa n).length ≤ 21 := Lib.itoa_length_le n h.1 h.2
theorem print_len {v : SVal} (hv : validVal v = true) (hi : i64 v.num) : (printV v).length ≤ 130 := by
  unfold printV
  split
  · have := itoa_len _ hi; omega
  · split
    · simp
    · have h2 := esc_len v.text
      have h3 : v.text.length ≤ 64 := by
        unfold validVal at hv
        simp_all
      simp; omega
theorem line_len {p : Key × SVal} (hk : validKey p.1 = true) (hv : validVal p.2 = true) (hi : i64 p.2.num) : (lineOf p).length ≤ 164 := by
  have h1 := (validKey_len hk).2
  have h2 := print_len hv hi
  unfold lineOf
  simp; omega
theorem lines_len {L : SL} (hk : ∀ p ∈ L, validKey p.1 = true) (hv : ∀ p ∈ L, validVal p.2 = true) (hi : ∀ p ∈ L, i64 p.2.num) : (L.flatMap lineOf).length ≤ 164 * L.length := by
  induction L with
  | nil => simp
  | cons p r ih =>
    rw [List.flatMap_cons, List.length_append, List.length_cons]
    have h1 := line_len (hk p (by simp)) (hv p (by simp)) (hi p (by simp))
    have h2 := ih (fun q hq => hk q (by simp [hq])) (fun q hq => hv q (by simp [hq])) (fun q hq => hi q (by simp [hq]))
    omega
theorem lines_succ (L : SL) (k : Nat) (h : k < L.length) : (L.take (k + 1)).flatMap lineOf = (L.take k).flatMap lineOf ++ lineOf L[k] := by
  rw [List.take_succ_eq_append_getElem h, List.flatMap_append]; simp

set_option maxRecDepth 100000 in
set_option maxHeartbeats 4000000 in
theorem bytes_any (σ : SB) (L : SL) (w : World) (h : IsStore w σ L) (he : Env w) (hi : ∀ p ∈ L, i64 p.2.num) :
    Calls Tryd.prog 28 #[.pointer (some ⟨σ.bs, 0, none⟩)] w fun e w' => ∃ p c n, e = .returned (.slice p n c) ∧ w'.ownsRow w.heap.size 5 1 (.slice p n c) n (Lib.byteCells (bytesOf σ.parts σ.room L)) ∧ Fr nothing w w' := by
  have hp1 := h.p2
  have hr1 := h.r2
  have c0 := h.c0
  have hbs : σ.bs < w.heap.size := h.lt (.inl rfl)
  have hst0 : BSt σ L w [] (w.alloc (.cells #[.slice none 0 0, .int .i64 0, .int .i8 0] 91)) :=
    ⟨h.frame ((Fr.refl nothing w).alloc _) fun _ _ => nothing_not, he.frame ((Fr.refl nothing w).alloc _) nothing_not, Lib.fresh_isBuffer _ _ w, (Fr.refl _ _).alloc _, fun v hv => by cases hv⟩
  have hst := hst0.next ((Fr.refl nothing _).drewN 1)
  have hlo := Lib.hid (fun k hk => h.lt (k := k) hk)
  have H := Lib.hid h; clear h
  have HE := Lib.hid he; clear he
  have HI := Lib.hid hi; clear hi hst0
  go_enter Tryd.func28, Tryd.ntmps28
  have hl1 : (Lib.itoa (σ.parts : Int)).length ≤ 21 := itoa_len _ (by unfold i64; omega)
  have hl2 : (Lib.itoa (σ.room : Int)).length ≤ 21 := itoa_len _ (by unfold i64; omega)
  have k1 : ¬ 9223372036854775807 < (Lib.itoa (σ.parts : Int)).length + 1 := by omega
  have k2 : ¬ 9223372036854775807 < (Lib.itoa (σ.parts : Int)).length + 1 + (Lib.itoa (σ.room : Int)).length := by omega
  have k3 : ¬ 9223372036854775807 < (Lib.itoa (σ.parts : Int)).length + 1 + (Lib.itoa (σ.room : Int)).length + 1 := by omega
  go_wp2_with fail
  go_region_held3 (fun w' => w'.cell? ⟨σ.bs, 0, none⟩ = some (.int .i64 σ.room)) (first | (exact IsStore.c0 (BSt.st (by assumption))) | go_keep) (first | (go_at_call 47; refine (BSt.parts (by assumption)).mono ?_; rintro e w' ⟨rfl, hst'⟩) | (go_at_call 46; refine (BSt.digits (by assumption) (by unfold i64; omega)).mono ?_; rintro e w' ⟨rfl, hst'⟩) | (go_at_call 45; refine (BSt.write (by assumption) hlo.out HE.out _ (by simp [ByteArray.size_mk']; omega)).mono ?_; rintro e w' ⟨⟨v, rfl, rfl⟩, hst', hok⟩))
  have hst1 := Lib.hid (show BSt σ L w (Lib.byteCells (headOf σ.parts σ.room)) w' by
    have := hst'
    unfold headOf
    simpa [ByteArray.data_append] using this)
  have hk := Lib.hid (keys_own σ L w' hst1.out.st)
  have hww := hst1.out.fr.size
  have hwb : w.heap.size < w'.heap.size := hst1.out.buf.lt
  clear hst hst' hok k1 k2 k3
  go_wp2_with (go_at_call 22; refine hk.out.mono ?_; rintro e w2 ⟨p, c, rfl, hown, hf2⟩; have HO := Lib.hid hown; have HF2 := Lib.hid hf2; clear hown hf2)
  go_loopw [25] (fun i wr => ∃ k : Nat, i = .int .i64 k ∧ k ≤ L.length ∧ BSt σ L w (Lib.byteCells (headOf σ.parts σ.room ++ (L.take k).flatMap lineOf)) wr ∧ wr.ownsRow w'.heap.size 9 1 (.slice p L.length c) (keysOf L).length ((keysOf L).map encStr)) (fun i _ => L.length - (intOf i).toNat)
  case atStart => exact ⟨0, rfl, Nat.zero_le _, by simpa using hst1.out.next HF2.out, HO.out⟩
  case round =>
    obtain ⟨k, rfl, hkl, hstk, hownk⟩ := hrel
    have HS := Lib.hid hstk; clear hstk
    have HK := Lib.hid hownk; clear hownk
    have hlen := H.out.len
    have hLL := lines_len (L := L.take k) (fun q hq => H.out.keys q (List.mem_of_mem_take hq)) (fun q hq => H.out.good q (List.mem_of_mem_take hq)) (fun q hq => HI.out q (List.mem_of_mem_take hq))
    have htk : (L.take k).length ≤ L.length := List.length_take_le' _ _
    have hhd : (headOf σ.parts σ.room).length ≤ 44 := by unfold headOf; simp; omega
    by_cases hlt : k < L.length
    · have hmem := List.getElem_mem hlt
      have hvk := H.out.keys _ hmem
      have hvv := H.out.good _ hmem
      have hii := HI.out _ hmem
      obtain ⟨-, hsa, hrg⟩ := strs_of_owns HK.out
      have HRG := Lib.hid hrg; clear hrg
      obtain ⟨b, o, rfl, hc⟩ := hsa.cell (show k < (keysOf L).length by simpa [keysOf] using hlt)
      rw [show (keysOf L)[k]'(by simpa [keysOf] using hlt) = L[k].1 from by simp [keysOf]] at hc
      have c2 := HS.out.st.c2
      have hlk := look_vals HS.out.st L[k].1 (validKey_max hvk)
      rw [get_of_mem H.out.ris hmem] at hlk
      have hpr := Lib.hid (HS.out.print hvv hii)
      have hl1' := (validKey_len hvk).2
      have hl2' := print_len hvv hii
      have hsu := Lib.hid (lines_succ L k hlt)
      have hline : lineOf L[k] = L[k].1 ++ [32] ++ printV L[k].2 ++ [10] := rfl
      have HLN := Lib.hid hline; clear hline
      generalize L[k].1 = key at *
      generalize L[k].2 = val at *
      have hwr := Lib.hid (fun (W : World) (s : ByteArray) (hW : BSt σ L w (Lib.byteCells (headOf σ.parts σ.room ++ (L.take k).flatMap lineOf)) W) (hs : s.size ≤ 1000) => hW.write hlo.out HE.out s (by simp only [Lib.byteCells, List.length_map, List.length_append]; omega))
      obtain ⟨pv, hpv⟩ : ∃ pv, pv = printV val := ⟨_, rfl⟩
      rw [← hpv] at hpr hl2' HLN
      clear hpv
      obtain ⟨va, vb, vt⟩ := val
      simp only [SVal.enc, SVal.cells, SVal.str] at hlk hpr
      clear hLL htk hhd hmem hvk hvv hii hk hsa
      have z1 : ¬ 9223372036854775807 < key.length + 1 := by omega
      have z2 : ¬ 9223372036854775807 < key.length + 1 + pv.length := by omega
      have z3 : ¬ 9223372036854775807 < key.length + 1 + pv.length + 1 := by omega
      go_wp2_with (first
        | (go_at_call 48; refine hpr.out.mono ?_; rintro e W1 ⟨rfl, hf1, hs1⟩; have HF1 := Lib.hid hf1; have HS1 := Lib.hid hs1; clear hf1 hs1)
        | (go_at_call 45; refine (hwr.out _ _ HS1.out (by simp [ByteArray.size_mk']; omega)).mono ?_; rintro e W2 ⟨⟨v, rfl, rfl⟩, hs2, hok⟩; have HS2 := Lib.hid hs2; have HOK := Lib.hid hok; clear hs2 hok))
      go_roundw
      case rel =>
        refine ⟨k + 1, by go_num, by omega, ?_, ?_⟩
        · rw [hsu.out, HLN.out]
          have := HS2.out
          simpa [ByteArray.data_append, Lib.byteCells] using this
        · obtain ⟨hl0, h0 | ⟨g, cap, cur, hv, hg, hh, hrest⟩⟩ := HK.out
          · exact absurd h0.1 (by simp)
          · refine ⟨hl0, .inr ⟨g, cap, cur, hv, hg, HOK.out g _ ?_ ?_ ?_, hrest⟩⟩
            · exact (HF1.out.block g (Array.getElem?_eq_some_iff.1 hh).1 nothing_not).trans hh
            · intro e; injection e with e; omega
            · intro cc fz e; injection e with _ e _; cases e
      case measure => simp [intOf]; omega
    · obtain rfl : k = L.length := by omega
      rw [List.take_of_length_le (Nat.le_refl _)] at HS
      have hby := Lib.hid (Tryd.Buffer_Bytes w.heap.size w.heap.size _ wr HS.out.buf)
      go_wp2_with (go_at_call 49; refine hby.out.mono ?_; rintro e W3 ⟨v, rfl, hown, m, rfl⟩; obtain ⟨p3, c3, rfl⟩ := slice_of_owns hown; have HO3 := Lib.hid hown; clear hown)
      go_ret
      exact ⟨p3, c3, _, rfl, HO3.out, HS.out.fr.drewN m⟩
end Go.Proofs.YtobccbakmcckiaaDoor
