/- CkptAnswers: the steps. -/
import Derived.Test.YtobccbakmcckiaaDoorLawK
namespace Go.Proofs.YtobccbakmcckiaaDoor
open Go Go.RowKit Go.Sort

/-! the steps of the one -/
theorem TW.claim_z {w0 W : World} {ζ η : ZG} (tw : TW w0 W ζ η) (p : Option Addr) (cap : Nat) (ss : List Key) (hs : StrsAt W p ss) (hn : ss.length ≤ 1000000) (hk : ∀ k ∈ ss, k.length ≤ maxLen) (hd : ∀ a, p = some a → ¬ ζ.fp a.block) :
    Calls Tryd.prog 12 #[.pointer (some ⟨ζ.bz, 0, none⟩), .slice p ss.length cap] W fun e w' => e = .returned (.int .i64 (claimE ζ.σ.parts ζ.σ.room ζ.L ss)) ∧ ∃ ζ', ζ'.bz = ζ.bz ∧ TW w0 w' ζ' η ∧ ζ'.L = claimTo ζ.σ.parts ζ.σ.room ζ.L ss ∧ Fr ζ.fp W w' := by
  refine (zclaim_any ζ p cap ss W tw.z hs hn hk hd).mono ?_
  rintro e w' ⟨rfl, ζ', hst, hL, _⟩
  exact ⟨rfl, ζ', hst.bz, tw.step hst, hL, hst.fr⟩
theorem TW.claim_y {w0 W : World} {ζ η : ZG} (tw : TW w0 W ζ η) (P R : Nat) (L : SL) (hP : η.σ.parts = P) (hR : η.σ.room = R) (hL : η.L = L) (p : Option Addr) (cap : Nat) (ss : List Key) (hs : StrsAt W p ss) (hn : ss.length ≤ 1000000) (hk : ∀ k ∈ ss, k.length ≤ maxLen) (hd : ∀ a, p = some a → ¬ η.fp a.block) :
    Calls Tryd.prog 12 #[.pointer (some ⟨η.bz, 0, none⟩), .slice p ss.length cap] W fun e w' => e = .returned (.int .i64 (claimE P R L ss)) ∧ ∃ η', η'.bz = η.bz ∧ TW w0 w' ζ η' ∧ η'.L = claimTo P R L ss ∧ Fr η.fp W w' := by
  subst hP hR hL
  refine (tw.symm.claim_z p cap ss hs hn hk hd).mono ?_
  rintro e w' ⟨rfl, η', hb, ht, hL, hf⟩
  exact ⟨rfl, η', hb, ht.symm, hL, hf⟩
theorem TW.apply_z {w0 W : World} {ζ η : ZG} (tw : TW w0 W ζ η) (p : Option Addr) (cap : Nat) (ws : List SWr) (hs : WrsAt W p ws) (hn : ws.length ≤ 1000000) (hk : ∀ x ∈ ws, (x.key.length ≤ maxLen ∧ x.val.text.length ≤ maxLen) ∧ i64 x.val.num) (hd : ∀ a, p = some a → ¬ ζ.fp a.block) :
    Calls Tryd.prog 13 #[.pointer (some ⟨ζ.bz, 0, none⟩), .slice p ws.length cap] W fun e w' => e = .returned (.int .i64 (applyE ζ.L ws)) ∧ ∃ ζ', ζ'.bz = ζ.bz ∧ TW w0 w' ζ' η ∧ ζ'.L = applyTo ζ.L ws ∧ Fr ζ.fp W w' := by
  refine (zapply_any ζ p cap ws W tw.z hs hn hk hd).mono ?_
  rintro e w' ⟨rfl, ζ', hst, hL, _⟩
  exact ⟨rfl, ζ', hst.bz, tw.step hst, hL, hst.fr⟩
theorem TW.apply_y {w0 W : World} {ζ η : ZG} (tw : TW w0 W ζ η) (L : SL) (hL : η.L = L) (p : Option Addr) (cap : Nat) (ws : List SWr) (hs : WrsAt W p ws) (hn : ws.length ≤ 1000000) (hk : ∀ x ∈ ws, (x.key.length ≤ maxLen ∧ x.val.text.length ≤ maxLen) ∧ i64 x.val.num) (hd : ∀ a, p = some a → ¬ η.fp a.block) :
    Calls Tryd.prog 13 #[.pointer (some ⟨η.bz, 0, none⟩), .slice p ws.length cap] W fun e w' => e = .returned (.int .i64 (applyE L ws)) ∧ ∃ η', η'.bz = η.bz ∧ TW w0 w' ζ η' ∧ η'.L = applyTo L ws ∧ Fr η.fp W w' := by
  subst hL
  refine (tw.symm.apply_z p cap ws hs hn hk hd).mono ?_
  rintro e w' ⟨rfl, η', hb, ht, hL, hf⟩
  exact ⟨rfl, η', hb, ht.symm, hL, hf⟩
/-- One has stepped; its list is as it was. -/
def ZP (w0 : World) (ζ η : ZG) (e : Ending) (w' : World) : Prop := ∃ v, e = .returned v ∧ TWs ζ.bz η.bz w0 w'
theorem TW.begin_z {w0 W : World} {ζ η : ZG} (tw : TW w0 W ζ η) (hL : ζ.L = η.L) (m : Int) : Calls Tryd.prog 14 #[.pointer (some ⟨ζ.bz, 0, none⟩), .int .i64 m] W (ZP w0 ζ η) := by
  refine (begin_any ζ m W tw.z).mono ?_
  rintro e w' ⟨rfl, ζ', hst, hl, _⟩
  exact ⟨_, rfl, ζ', η, hst.bz, rfl, tw.step hst, hl.trans hL⟩
theorem IsZigX.snap_len {w : World} {ζ : ZG} {Ls : SL} (h : IsZigX w ζ Ls) : ∀ L0 j, ζ.snap = some (L0, j) → L0.length ≤ 1000000 := fun L0 j e => by
  have := len_of_full (L := L0) h.st.p1 h.st.p2 h.st.r2 (h.snap L0 j e).full
  omega
theorem TW.step_z {w0 W : World} {ζ η : ZG} (tw : TW w0 W ζ η) (hL : ζ.L = η.L) (n : Int) : Calls Tryd.prog 15 #[.pointer (some ⟨ζ.bz, 0, none⟩), .int .i64 n] W (ZP w0 ζ η) := by
  refine (step_any ζ n W tw.z tw.z.snap_len).mono ?_
  rintro e w' ⟨rfl, ζ', hst, hl, _⟩
  exact ⟨_, rfl, ζ', η, hst.bz, rfl, tw.step hst, hl.trans hL⟩
theorem TW.take_z {w0 W : World} {ζ η : ZG} (tw : TW w0 W ζ η) (hL : ζ.L = η.L) : Calls Tryd.prog 16 #[.pointer (some ⟨ζ.bz, 0, none⟩)] W (ZP w0 ζ η) := by
  refine (take_any ζ W tw.z tw.env (fun e => by have := tw.lz ζ.bz (.inl rfl); have := tw.glob; omega)).mono ?_
  rintro e w' ⟨p, n, c, ζ', rfl, _, hst, hl, _⟩
  exact ⟨_, rfl, ζ', η, hst.bz, rfl, tw.step hst, hl.trans hL⟩
theorem TW.drop_z {w0 W : World} {ζ η : ZG} (tw : TW w0 W ζ η) (hL : ζ.L = η.L) : Calls Tryd.prog 17 #[.pointer (some ⟨ζ.bz, 0, none⟩)] W (ZP w0 ζ η) := by
  refine (drop_any ζ W tw.z).mono ?_
  rintro e w' ⟨rfl, ζ', hst, hl, _⟩
  exact ⟨_, rfl, ζ', η, hst.bz, rfl, tw.step hst, hl.trans hL⟩
theorem TWs.of {w0 W : World} {ζ η : ZG} (tw : TW w0 W ζ η) (hL : ζ.L = η.L) {bz by_ : Nat} (h1 : ζ.bz = bz) (h2 : η.bz = by_) : TWs bz by_ w0 W := ⟨ζ, η, h1, h2, tw, hL⟩
/-- Get on either: the same. -/
theorem TW.get_z {w0 W : World} {ζ η : ZG} (tw : TW w0 W ζ η) (k : Key) (hk : k.length ≤ maxLen) (L : SL) (hL : ζ.L = L) :
    Calls Tryd.prog 18 #[.pointer (some ⟨ζ.bz, 0, none⟩), .string ⟨k.toArray⟩] W fun e w' => e = .returned (getV L k).enc ∧ Fr nothing W w' := by
  subst hL
  exact zget_any ζ k W tw.z hk
theorem TW.bytes_z {w0 W : World} {ζ η : ZG} (tw : TW w0 W ζ η) (P R : Nat) (L : SL) (hP : ζ.σ.parts = P) (hR : ζ.σ.room = R) (hL : ζ.L = L) :
    Calls Tryd.prog 19 #[.pointer (some ⟨ζ.bz, 0, none⟩)] W fun e w' => ∃ p c n, e = .returned (.slice p n c) ∧ w'.ownsRow W.heap.size 5 1 (.slice p n c) n (Lib.byteCells (bytesOf P R L)) ∧ Fr nothing W w' := by
  subst hP hR hL
  exact zbytes_any ζ W tw.z tw.env
end Go.Proofs.YtobccbakmcckiaaDoor
