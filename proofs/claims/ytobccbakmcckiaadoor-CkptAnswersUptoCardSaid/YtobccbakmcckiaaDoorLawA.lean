/- The law's helpers: num, bits, frozen, same. -/
import Derived.Test.YtobccbakmcckiaaDoorZigE
namespace Go.Proofs.YtobccbakmcckiaaDoor
open Go Go.RowKit Go.Sort

theorem owns_fr {w w' : World} {base e size n m c : Nat} {p : Option Addr} {xs : List Value} (h : w.ownsRow base e size (.slice p m c) n xs) (hf : Fr nothing w w') : w'.ownsRow base e size (.slice p m c) n xs :=
  ownsRow_same h fun a ha => hf.block _ (h.lt a.block (by rw [ha]; rfl)).2 nothing_not
theorem num_any (e : Int) (w : World) : Calls Tryd.prog 10 #[.int .i64 e] w fun r w' => r = .returned (.int .i64 e) ∧ w = w' := by
  go_enter Tryd.func10, Tryd.ntmps10
  go_wp2
  go_ret
  exact ⟨rfl, rfl⟩

theorem infoInt : (Tryd.prog.info? 3).map (fun i => (i.zero, i.size, i.bytes)) = some (some (.int .i64 0), 1, 8) := by kernel_rfl
theorem infoVal : (Tryd.prog.info? 47).map (fun i => (i.zero, i.size, i.bytes)) = some (some (.agg #[.int .i64 0, .int .i64 0, .string ⟨#[]⟩]), 3, 32) := by kernel_rfl
def wBits (Cs : CL) (ks : List Key) : List Value := ks.map fun k => .int .i64 (bitsOf Cs k).2

set_option maxRecDepth 100000 in
set_option maxHeartbeats 4000000 in
theorem lawbits_any (ζ : ZG) (q : Option Addr) (cap : Nat) (ks : List Key) (w : World) (h : IsZig w ζ) (hs : StrsAt w q ks) (hn : ks.length ≤ 1000000) (hk : ∀ k ∈ ks, k.length ≤ maxLen) :
    Calls Tryd.prog 24 #[.pointer (some ⟨ζ.bz, 0, none⟩), .slice q ks.length cap] w fun e w' => ∃ p c, e = .returned (.slice p ks.length c) ∧ w'.ownsRow w.heap.size 3 1 (.slice p ks.length c) ks.length (wBits ζ.Cs ks) ∧ Fr nothing w w' := by
  have H := Lib.hid h
  have HS := Lib.hid hs
  clear h hs
  go_enter Tryd.func24, Tryd.ntmps24
  go_wp2
  go_loopw [5, 6] (fun v i wr => ∃ (k : Nat) (p : Option Addr) (c : Nat), i = .int .i64 k ∧ k ≤ ks.length ∧ v = .slice p k c ∧ wr.ownsRow w.heap.size 3 1 (.slice p k c) k (wBits ζ.Cs (ks.take k)) ∧ Fr nothing w wr) (fun _ i _ => ks.length - (intOf i).toNat)
  case atStart => exact ⟨0, none, 0, rfl, Nat.zero_le _, rfl, World.ownsRow_nil _ _ _ _, Fr.refl _ _⟩
  case round =>
    obtain ⟨k, p, c, rfl, hk1, rfl, hrow, hfr⟩ := hrel
    have HR := Lib.hid hrow; clear hrow
    have HF := Lib.hid hfr; clear hfr
    by_cases hlt : k < ks.length
    · obtain ⟨b, o, rfl, hc⟩ := (HS.out.frame HF.out fun _ _ => nothing_not).cell hlt
      have hb := cell_lt hc
      dsimp only at hb
      have hbt := Lib.hid ((bits_any ζ ks[k] wr (H.out.frame HF.out fun _ _ => nothing_not) (hk _ (List.getElem_mem hlt))).mono (R' := fun e w' => e = .returned (.tuple #[.int .i64 (bitsOf ζ.Cs ks[k]).1, .int .i64 (bitsOf ζ.Cs ks[k]).2]) ∧ Fr nothing wr w') fun e w' ⟨h1, n, h2⟩ => ⟨h1, h2 ▸ (Fr.refl nothing wr).drewN n⟩)
      have hsucc : Hid (wBits ζ.Cs (ks.take (k + 1)) = wBits ζ.Cs (ks.take k) ++ [.int .i64 (bitsOf ζ.Cs ks[k]).2]) := by
        show _ = _
        unfold wBits; rw [List.take_succ_eq_append_getElem hlt, List.map_append]; rfl
      have hwl := HF.out.size
      go_wp2_with (first
        | (go_at_call 25; refine hbt.out.mono ?_; rintro e w1 ⟨rfl, hf1⟩; have hr1 := owns_fr HR.out hf1; have HF1 := Lib.hid hf1; have HR1 := Lib.hid hr1; have hsz1 := hf1.size; clear hf1 hr1)
        | (at_builtin; refine wpList_app1 rfl (.tmp 24) (.tmp 26) 55 rfl w.heap.size 3 (.int .i64 0) 8 Tryd.underlying55 infoInt rfl p k c (wBits ζ.Cs (ks.take k)) (.int .i64 (bitsOf ζ.Cs ks[k]).2) (by rfl) HR1.out (by simp [Value.oneCell']) (by rfl) (by unfold maxLen; omega) (by omega) (Nat.le_trans hwl hsz1) ?_; intro p' c' w2 hown hfr2 hlt2; have HO := Lib.hid hown; have HF2 := Lib.hid hfr2; clear hown hfr2)
        | go_in)
      go_roundw
      case rel => exact ⟨k + 1, p', c', by go_num, hlt, by go_num, by rw [hsucc.out]; exact HO.out, (HF.out.trans HF1.out).next HF2.out fun i hi e => absurd hi (by omega)⟩
      case measure => simp [intOf]; omega
    · obtain rfl : k = ks.length := by omega
      rw [List.take_of_length_le (Nat.le_refl _)] at HR
      go_wp2
      go_ret
      exact ⟨p, c, rfl, HR.out, HF.out⟩
end Go.Proofs.YtobccbakmcckiaaDoor
