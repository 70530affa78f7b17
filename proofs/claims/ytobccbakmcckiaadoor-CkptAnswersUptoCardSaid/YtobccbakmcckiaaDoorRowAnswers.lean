/- CkptAnswers holds: two Zigs given the same calls, a checkpoint begun in one of them, answer alike; where what it reads is of bulk at most 1048576. -/
import Derived.Test.YtobccbakmcckiaaDoorLawS
import Derived.Test.YtobccbakmcckiaaDoorLawL
namespace Go.Proofs.YtobccbakmcckiaaDoor.ckptAnswers
open Go Go.RowKit Go.ChangeShapes Go.WideShapes Go.ChangeAt Go.Deep

theorem answers_any (v : Value) (B : Nat) (qp : Option Addr) (qc : Nat) (ask : List Key) (w : World) (hv : StoryIs w v B) (hqs : StrsAt w qp ask) (hqk : ∀ k ∈ ask, k.length ≤ maxLen) (hqn : ask.length ≤ 2000000) (he : Env w) : Calls Tryd.prog 3 #[v, .slice qp ask.length qc] w fun e w' => e = .returned (.bool true) ∧ Fr nothing w w' := by
  obtain ⟨bp, bn, bc, parts, room, ap, l, ac, rfl, hs, _, _, _, _, _⟩ := hv
  cases hl : longB bn l
  · by_cases ha : ask.length ≤ 100
    · cases hb : newBad parts room
      · unfold newBad at hb
        simp at hb
        obtain ⟨P, rfl⟩ : ∃ P : Nat, parts = P := ⟨parts.toNat, by omega⟩
        obtain ⟨R, rfl⟩ : ∃ R : Nat, room = R := ⟨room.toNat, by omega⟩
        exact answers_go bp bn bc P R ap l ac qp qc ask w he hs hl ha hqs hqk (by omega) (by omega) (by omega) (by omega)
      · exact answers_bad bp bn bc parts room ap l ac qp qc ask w he hs hl ha hb
    · exact answers_long bp bn bc parts room ap l ac qp qc ask w he hs hqn (.inr (by omega))
  · exact answers_long bp bn bc parts room ap l ac qp qc ask w he hs hqn (.inl hl)

section
variable {H : Type} {enc : TypeId × Value → H} {w : World} {base : Nat} {spare : Nat → Bool} {held : Bool}
set_option maxRecDepth 100000 in
theorem rd_ask {r : Reach} {b0 : Nat} {v : Value} {d : DataW H} {ps : List MemPlace} (hv : Value.okWide Tryd.prog w r b0 26 v) (h : DataW.Trod enc Tryd.prog w base spare held 26 v d ps) : ∃ p cap ss, v = .slice p (ss : List Key).length cap ∧ StrsAt w p ss ∧ (∀ k ∈ ss, k.length ≤ maxLen) ∧ ss.length + 1 ≤ Rows.uptoBulk d := by
  obtain ⟨a, len, cap, rfl⟩ := okWide_slice Tryd.underlying26 hv
  obtain ⟨fuel, h⟩ := h
  obtain ⟨p, cap', ss, e, h1, _, h2, h3⟩ := rd_keys (x := (d, ps)) h
  simp [Value.cells] at e
  obtain ⟨rfl, rfl, rfl⟩ := e
  exact ⟨_, _, ss, rfl, h1, h2, h3⟩
end

set_option maxRecDepth 100000 in
theorem contract (H : Type) (enc : TypeId × Value → H) (W : World) (base : Nat) (args : Array Value) (ds gs : List (DataW H)) (before : List MemPlace)
    (hval : ∀ (j : Nat) t v, Tryd.f3.params[j]? = some t → args[j]? = some v → Value.okWide Tryd.prog W .any base t v)
    (hW : DataW.Whole enc Tryd.prog Tryd.f3.params.toList Rows.ckptAnswersSpec.vars false W args.toList ds gs before) (hk : Rows.uptoSmall H (ds ++ gs) = true) (hL : laidMetH Tryd.prog laidL W) :
    Calls Tryd.prog 3 args W fun e W' => ∃ v, e = .returned v ∧ Rows.ckptAnswersSpec.post enc Tryd.prog Tryd.f3 false true false false W args v W' := by
  have hW' := hW
  obtain ⟨p, q, hA0, hV, rfl, hfz, hnd⟩ := hW
  have hA : DataW.TrodAll enc Tryd.prog W 0 (fun _ => true) true Tryd.f3.params.toList args.toList ds p := hA0
  rw [Tryd.params3] at hA hval
  obtain ⟨v0, v1, d0, d1, p0, p1, rfl, rfl, rfl, h0, h1⟩ := trodAll_two hA
  obtain ⟨rfl, rfl⟩ := trodVars_none hV
  have hbulk := of_decide_eq_true hk
  rw [List.append_nil] at hbulk
  simp only [Rows.uptoBulkAll] at hbulk
  have hst := rd_story (hval 0 25 v0 rfl rfl) h0 (by omega)
  obtain ⟨qp, qc, ask, rfl, q1, q2, q3⟩ := rd_ask (hval 1 26 v1 rfl rfl) h1
  refine (answers_any v0 _ qp qc ask W hst q1 q2 (by omega) (env_of hL)).mono ?_
  rintro e W' ⟨rfl, hf⟩
  refine ⟨_, rfl, law_post hW' rfl ?_ rfl (by kernel_rfl) hf⟩
  intro t ht
  rw [Tryd.params3] at ht
  obtain rfl | rfl : t = 25 ∨ t = 26 := by simpa using ht
  · exact ⟨by kernel_rfl, of_decide_eq_true (by kernel_rfl)⟩
  · exact ⟨by kernel_rfl, of_decide_eq_true (by kernel_rfl)⟩

noncomputable abbrev wargs : Array Value := #[.agg #[.slice none 0 0, .int .i64 0, .int .i64 0, .slice none 0 0], .slice none 0 0]
theorem witness_row (os : Os) {H : Type} (enc : TypeId × Value → H) :
    (Rows.OpenSpec.upto Rows.ckptAnswersSpec).preRow enc Tryd.prog Tryd.f3 Rows.ckptAnswersUptoRow.domain false Rows.ckptAnswersUptoRow.laid ((laidWorld os).forCall (fun _ _ => 0) ⟨#[], wargs, []⟩).memory wargs := by
  have hw : (DataW.whole enc Tryd.prog ((laidWorld os).forCall (fun _ _ => 0) ⟨#[], wargs, []⟩).memory Tryd.f3.params.toList Rows.ckptAnswersSpec.vars false wargs.toList 8).map (fun x => (x.1, x.2.1)) =
      some ([.agg [.nil, .lit (.int .i64 0), .lit (.int .i64 0), .nil], .nil], []) := by kernel_rfl
  obtain ⟨⟨x1, x2, x3⟩, hx, hx1⟩ := Option.map_eq_some_iff.1 hw
  simp only [Prod.mk.injEq] at hx1
  obtain ⟨rfl, rfl⟩ := hx1
  exact OpenSpec.preRow_of_cond 8 hx (by kernel_rfl) (fun k hk => by cases hk; kernel_rfl) (by kernel_rfl) (laid_met os _)

set_option maxRecDepth 100000 in
theorem liftedUpto (os : Os) (started : os.Started) (H : Type) (enc : TypeId × Value → H) (F : Stop.Interp) :
    ReturnsInHanded {} Tryd.checked os 3 .any ((Rows.OpenSpec.upto Rows.ckptAnswersSpec).preRow enc Tryd.prog Tryd.f3 Rows.ckptAnswersUptoRow.domain false Rows.ckptAnswersUptoRow.laid) (((Rows.OpenSpec.upto Rows.ckptAnswersSpec).at F).post enc Tryd.prog Tryd.f3 false true false false) := by
  refine returnsInHanded_of_row (C := Tryd.checked) (s := Rows.OpenSpec.upto Rows.ckptAnswersSpec) ownG started (by kernel_rfl) Tryd.func3
    (witness_row_atRef (enc := enc) (C := Tryd.checked) false (laidWorld os) wargs rfl (by kernel_rfl) (by kernel_rfl) (by kernel_rfl) (witness_row os enc)) ?_
  intro W base args ds gs before hval hW _ hcond _ hL _ _
  exact contract H enc W base args ds gs before hval hW (hcond _ rfl) hL

theorem saidUpto : Rows.CkptAnswersUptoSaid :=
  OpenClaim.holds_of_cond 3 Tryd.f3 rfl rfl rfl rfl rfl rfl rfl ⟨rfl, rfl, rfl, rfl, rfl⟩ rfl rfl rfl rfl rfl (by kernel_rfl) Tryd.func3 (by kernel_rfl)
    (of_decide_eq_true (by kernel_rfl)) (by unfold Func.isWrapper; first | (rw [if_pos (by decide +kernel)]; kernel_rfl) | (rw [if_neg (by decide +kernel)]; exact ⟨rfl, rfl⟩))
    (fun os started H enc _ F => by rw [OpenClaim.pre_eq_preRow]; exact liftedUpto os started H enc F)

theorem plain (f : FuncId) (fn : Func) (hf : Tryd.pinned.checked.prog.funcNamed "tranche/tranchelaw22.CkptAnswers" = some f) (hfn : Tryd.pinned.checked.prog.funcs[f]? = some fn) :
    false = Tryd.pinned.checked.prog.looks [] ∧ ∀ (j : Nat) t, fn.params[j]? = some t → Tryd.pinned.checked.prog.wantsStandIn t = false := by
  obtain rfl : f = 3 := Option.some.inj ((show Tryd.prog.funcNamed "tranche/tranchelaw22.CkptAnswers" = some 3 by kernel_rfl).symm.trans hf) |>.symm
  obtain rfl : fn = Tryd.f3 := (Option.some.inj (Tryd.func3.symm.trans hfn)).symm
  refine ⟨by kernel_rfl, fun j t ht => ?_⟩
  rw [Tryd.params3] at ht
  obtain rfl | rfl : t = 25 ∨ t = 26 := by simpa using Array.mem_of_getElem? ht
  · exact (show Tryd.prog.wantsStandIn 25 = false by kernel_rfl)
  · exact (show Tryd.prog.wantsStandIn 26 = false by kernel_rfl)

theorem cardUpto : Rows.CkptAnswersUptoCardSaid :=
  Claim7.holds_tied_plain_at .later [] _ _ _ _ saidUpto (fun _ h => by cases h) (by kernel_rfl) (fun _ h => by cases h) ckptAnswersUpto_row_tie rfl ⟨rfl, rfl⟩ (by kernel_rfl) rfl plain (by kernel_rfl)
end Go.Proofs.YtobccbakmcckiaaDoor.ckptAnswers
