/- CkptAnswers, the walk. -/
import Derived.Test.YtobccbakmcckiaaDoorLawU
import Derived.Deep.RegionHeld3
import Derived.Deep.DeepCutAuto
import Derived.Deep.CutBlock
namespace Go.Proofs.YtobccbakmcckiaaDoor
open Go Go.RowKit Go.Sort

theorem TW.start {w0 w1 w2 : World} {ζ η : ZG} {P R : Nat} (hz : IsZig w1 ζ) (hy : IsZig w2 η) (hf1 : Fr nothing w0 w1) (hf2 : Fr nothing w1 w2) (pz : ζ.σ.parts = P) (rz : ζ.σ.room = R) (py : η.σ.parts = P) (ry : η.σ.room = R)
    (lz : ∀ k, ζ.fp k → w0.heap.size ≤ k) (ly : ∀ k, η.fp k → w1.heap.size ≤ k) (he : Env w0) : TW w0 w2 ζ η where
  z := hz.frame hf2 fun _ _ => nothing_not
  y := hy
  sh := ⟨pz.trans py.symm, rz.trans ry.symm⟩
  ap k h1 h2 := by have := hz.lt h1; have := ly k h2; omega
  lz := lz
  ly k hk := by have := ly k hk; have := hf1.size; omega
  fr := hf1.trans hf2
  env := he.frame (hf1.trans hf2) nothing_not
  glob := he.lt

theorem bytes_ne (P R : Nat) (L : SL) : bytesOf P R L ≠ [] := by
  unfold bytesOf headOf
  simp
set_option maxRecDepth 100000 in
set_option maxHeartbeats 40000000 in
theorem answers_go (bp : Option Addr) (bn bc : Nat) (P R : Nat) (ap : Option Addr) (l : List AG) (ac : Nat) (qp : Option Addr) (qc : Nat) (ask : List Key) (w : World) (he : Env w) (hs : StoryOK w ap l) (hl : longB bn l = false) (hask : ask.length ≤ 100) (hqs : StrsAt w qp ask) (hqk : ∀ k ∈ ask, k.length ≤ maxLen) (h1 : 1 ≤ P) (h2 : P ≤ 64) (h3 : 1 ≤ R) (h4 : R ≤ 4096) :
    Calls Tryd.prog 3 #[storyV bp bn bc P R ap l ac, .slice qp ask.length qc] w fun e w' => e = .returned (.bool true) ∧ Fr nothing w w' := by
  have HLg := Lib.hid (fun W (hf : Fr nothing w W) => long_any bp bn bc P R ap l ac W (acts_fr hs.acts hf) hs.n1 hs.n2)
  rw [hl] at HLg
  have HSH := Lib.hid (fun a (ha : a ∈ l) => StoryOK.short (bn := bn) hl ha)
  have HE := Lib.hid he
  have HS := Lib.hid hs
  have HQ := Lib.hid hqs
  have HQK := Lib.hid hqk
  have hln : l.length ≤ 200 := by unfold longB at hl; simp at hl; exact hl.1
  have HA := Lib.hid ((Fr.refl nothing w).alloc (storyX bp bn bc P R ap l ac))
  have HX := Lib.hid (heap_alloc_new w (storyX bp bn bc P R ap l ac))
  have HN := Lib.hid (fun W => znew_any P R W h1 h2 h3 h4)
  unfold storyX at HA HX
  clear hs he hl hqs hqk h1 h2 h3 h4
  unfold storyV at HLg ⊢
  go_enter Tryd.func3, Tryd.ntmps3
  go_wp2_with (first
    | (go_at_call 7; refine (HLg.out _ HA.out).mono ?_; rintro e w2 ⟨rfl, hf2⟩
       have hx2 := (hf2.block _ (heap_lt HX.out) nothing_not).trans HX.out
       have x1 : w2.cell? ⟨w.heap.size, 1, none⟩ = some (.int .i64 P) := cell_heap hx2 1
       have x2 : w2.cell? ⟨w.heap.size, 2, none⟩ = some (.int .i64 R) := cell_heap hx2 2
       have HX2 := Lib.hid hx2
       have HF2 := Lib.hid hf2; clear hf2 hx2)
    | (go_at_call 10; refine (num_any _ _).mono ?_; rintro e w' ⟨rfl, rfl⟩)
    | (go_at_call 9; refine (HN.out w2).mono ?_; rintro e w3 ⟨ζ, rfl, pz, rz, lz, _, _, iz, fz, oz⟩
       have hx3 := (fz.block _ (heap_lt HX2.out) nothing_not).trans HX2.out
       have x1 : w3.cell? ⟨w.heap.size, 1, none⟩ = some (.int .i64 P) := cell_heap hx3 1
       have x2 : w3.cell? ⟨w.heap.size, 2, none⟩ = some (.int .i64 R) := cell_heap hx3 2
       have HX3 := Lib.hid hx3
       have PZ := Lib.hid pz
       have RZ := Lib.hid rz
       have LZ := Lib.hid lz
       have IZ := Lib.hid iz
       have FZ := Lib.hid fz
       have OZ := Lib.hid oz
       clear pz rz lz iz fz oz hx3)
    | (go_at_call 9; refine (HN.out w3).mono ?_; rintro e w4 ⟨η, rfl, py, ry, ly, _, _, iy, fy, oy⟩
       have tw0 := Lib.hid (TW.start IZ.out iy FZ.out fy PZ.out RZ.out py ry OZ.out oy (HE.out.frame (HA.out.trans HF2.out) nothing_not))
       have HL0 := Lib.hid (LZ.out.trans ly.symm)
       have hx4 := (fy.block _ (heap_lt HX3.out) nothing_not).trans HX3.out
       have HX4 := Lib.hid hx4
       have FY := Lib.hid fy
       clear py ry ly iy fy oy hx4 HX3))
  obtain ⟨bz, ebz⟩ : ∃ b, b = ζ.bz := ⟨_, rfl⟩
  obtain ⟨by_, eby⟩ : ∃ b, b = η.bz := ⟨_, rfl⟩
  rw [← ebz, ← eby]
  have HT0 : Hid (TWs bz by_ w2 w4) := Lib.hid ⟨ζ, η, ebz.symm, eby.symm, tw0.out, HL0.out⟩
  clear ebz eby x1 x2
  go_loopw [9] (fun i wr => ∃ k : Nat, i = .int .i64 k ∧ k ≤ l.length ∧ TWs bz by_ w2 wr  ) (fun i _ => l.length - (intOf i).toNat)
  case atStart => exact ⟨0, rfl, Nat.zero_le _, HT0.out⟩
  case round =>
    obtain ⟨k, rfl, hk1, ht⟩ := hrel
    have HT := Lib.hid ht
    have x3 : wr.cell? ⟨w.heap.size, 3, none⟩ = some (.slice ap l.length ac) := cell_heap ((ht.fr.block _ (heap_lt HX2.out) nothing_not).trans HX2.out) 3
    clear ht
    by_cases hlt : k < l.length
    · have hsr := HS.out.next ((HA.out.trans HF2.out).trans HT.out.fr)
      have hka := List.getElem_mem hlt
      obtain ⟨b, o, rfl, a0, a1, a2, a3, a4⟩ := acts_cells hsr.acts hlt
      have hk0 : (0 : Int) ≤ k := by omega
      have hk2 : (k : Int) < (l.length : Int) := by omega
      go_wp2_with fail
      go_cut [10, 11] (OwnT wr l[k])
      case first =>
        have hO := Lib.hid (fun W (hf : Fr nothing wr W) => own_wr l[k] W hf (hsr.acts.2 _ hka).1 (hsr.acts.2 _ hka).2 (hsr.ok _ hka) (hsr.lens hka).1 (hsr.lens hka).2)
        unfold AG.row at hO
        have hSx : Hid (∀ W, Fr nothing wr W → (W.cell? ⟨w.heap.size, 3, none⟩ = some (.slice (some ⟨b, o, none⟩) l.length ac) ∧ W.cell? ⟨b, o + k * 5, none⟩ = some (.int .i64 l[k].kind) ∧ W.cell? ⟨b, o + k * 5 + 1, none⟩ = some (.slice l[k].kp l[k].keys.length l[k].kc) ∧ W.cell? ⟨b, o + k * 5 + 2, none⟩ = some (.slice l[k].wp l[k].ws.length l[k].wc) ∧ W.cell? ⟨b, o + k * 5 + 3, none⟩ = some (.int .i64 l[k].mark) ∧ W.cell? ⟨b, o + k * 5 + 4, none⟩ = some (.int .i64 l[k].n))) := Lib.hid fun W hf => ⟨hf.cellOf x3 nothing_not, hf.cellOf a0 nothing_not, hf.cellOf a1 nothing_not, hf.cellOf a2 nothing_not, hf.cellOf a3 nothing_not, hf.cellOf a4 nothing_not⟩
        have hF : Fr nothing wr wr := Fr.refl _ _
        clear a0 a1 a2 a3 a4 x3 hsr
        go_region_held (fun W => (W.cell? ⟨w.heap.size, 3, none⟩ = some (.slice (some ⟨b, o, none⟩) l.length ac) ∧ W.cell? ⟨b, o + k * 5, none⟩ = some (.int .i64 l[k].kind) ∧ W.cell? ⟨b, o + k * 5 + 1, none⟩ = some (.slice l[k].kp l[k].keys.length l[k].kc) ∧ W.cell? ⟨b, o + k * 5 + 2, none⟩ = some (.slice l[k].wp l[k].ws.length l[k].wc) ∧ W.cell? ⟨b, o + k * 5 + 3, none⟩ = some (.int .i64 l[k].mark) ∧ W.cell? ⟨b, o + k * 5 + 4, none⟩ = some (.int .i64 l[k].n)))
          ((refine hSx.out _ ?_; (repeat (first | with_reducible assumption | with_reducible apply Fr.drew | with_reducible apply Fr.alloc | (with_reducible refine Fr.setFar ?_ ?_; rotate_left; (try dsimp only); omega)))))
          (first
            | (go_at_call 11; have _t := TOK
               refine (hO.out _ (by (repeat (first | with_reducible assumption | with_reducible apply Fr.drew | with_reducible apply Fr.alloc | (with_reducible refine Fr.setFar ?_ ?_; rotate_left; (try dsimp only); omega))))).mono ?_
               rintro e w6 ⟨kp2, kc2, wp2, wc2, rfl, s6, t6, b6, d6, f6, F6⟩
               first
                 | (with_reducible (have f56 : Fr nothing w5 w6 := f6))
                 | (with_reducible (have f56 : Fr nothing w5 w6 := fr_a1 f6))
                 | (with_reducible (have f56 : Fr nothing w5 w6 := fr_a2 f6))
               have hn6 : w5.heap.size ≤ w6.heap.size := f56.size
               try (have q6 : w6.heap[wr.heap.size]? = some ZO := (f56.block _ (heap_lt Q1.out) nothing_not).trans Q1.out
                    obtain ⟨⟨q0, q1, q2, q3, q4⟩, p0, p1, p2, p3, p4⟩ := z_cells q6
                    have hq6 := heap_lt q6
                    have Q1' := Lib.hid q6; clear q6)
               try (have q6 : w6.heap[wr.heap.size + 1]? = some ZO := (f56.block _ (heap_lt Q2.out) nothing_not).trans Q2.out
                    obtain ⟨⟨r0, r1, r2, r3, r4⟩, t0, t1, t2, t3, t4⟩ := z_cells q6
                    have hr6 := heap_lt q6
                    have Q2' := Lib.hid q6; clear q6)
               first
                 | (with_reducible (have q67 := z_two f6)
                    obtain ⟨q6, q7⟩ := q67
                    have hr6 : w5.heap.size + 1 < w6.heap.size := heap_lt q7
                    obtain ⟨⟨q0, q1, q2, q3, q4⟩, p0, p1, p2, p3, p4⟩ := z_cells q6
                    obtain ⟨⟨r0, r1, r2, r3, r4⟩, t0, t1, t2, t3, t4⟩ := z_cells q7
                    have Q3' := Lib.hid q6
                    have Q4' := Lib.hid q7; clear q6 q7)
                 | (with_reducible (have q6 := z_one f6)
                    have hu6 : w5.heap.size < w6.heap.size := heap_lt q6
                    obtain ⟨⟨u0, u1, u2, u3, u4⟩, v0, v1, v2, v3, v4⟩ := z_cells q6
                    have Q3' := Lib.hid q6; clear q6)
                 | skip
               have S6 := Lib.hid s6
               have T6 := Lib.hid t6
               have B6 := Lib.hid b6
               have D6 := Lib.hid d6
               have HF56 := Lib.hid f56
               clear F5 s6 t6 b6 d6 f6 f56)
            | (go_at_call 11
               refine (hO.out _ (by (repeat (first | with_reducible assumption | with_reducible apply Fr.drew | with_reducible apply Fr.alloc | (with_reducible refine Fr.setFar ?_ ?_; rotate_left; (try dsimp only); omega))))).mono ?_
               rintro e w5 ⟨kp1, kc1, wp1, wc1, rfl, s5, t5, b5, d5, f5, F5⟩
               have hn5 : wr.heap.size ≤ w5.heap.size := F5.size
               first
                 | (with_reducible (have q67 := z_twod f5)
                    obtain ⟨q6, q7⟩ := q67
                    have hq5 : wr.heap.size + 1 < w5.heap.size := heap_lt q7
                    have Q1 : Hid (w5.heap[wr.heap.size]? = some ZO) := Lib.hid q6
                    have Q2 : Hid (w5.heap[wr.heap.size + 1]? = some ZO) := Lib.hid q7; clear q6 q7)
                 | (with_reducible (have q6 := z_oned f5)
                    have hq5 : wr.heap.size < w5.heap.size := heap_lt q6
                    have Q1 : Hid (w5.heap[wr.heap.size]? = some ZO) := Lib.hid q6; clear q6)
                 | skip
               have S5 := Lib.hid s5
               have T5 := Lib.hid t5
               have B5 := Lib.hid b5
               have D5 := Lib.hid d5
               clear hF s5 t5 b5 d5 f5
               have TOK : True := trivial)
            | fail)
        all_goals (have T : TwoO wr w6 l[k] kp1 wp1 kp2 wp2 := ⟨S5.out.frame HF56.out fun _ _ => nothing_not, T5.out.frame HF56.out fun _ _ => nothing_not, S6.out, T6.out, B5.out, D5.out, B6.out, D6.out, F6⟩)
        all_goals clear hSx hO
        all_goals go_wp2_with fail
        all_goals go_meet
        all_goals (show OwnT _ _ _ _ _)
        all_goals (first
          | (with_reducible exact close_A T)
          | (with_reducible exact close_B T)
          | (with_reducible exact close_C T Q1'.out (by omega))
          | (with_reducible exact close_D T Q1'.out (by omega))
          | (with_reducible exact close_C T Q2'.out (by omega))
          | (with_reducible exact close_D T Q2'.out (by omega))
          | (with_reducible exact close_C T Q3'.out (by omega))
          | (with_reducible exact close_D T Q3'.out (by omega))
          | (with_reducible exact close_C T Q4'.out (by omega))
          | (with_reducible exact close_D T Q4'.out (by omega))
          | (with_reducible exact close_E T Q1'.out (by omega) Q2'.out (by omega) (by omega))
          | (with_reducible exact close_E T Q1'.out (by omega) Q3'.out (by omega) (by omega))
          | (with_reducible exact close_E T Q1'.out (by omega) Q4'.out (by omega) (by omega))
          | (with_reducible exact close_E T Q2'.out (by omega) Q1'.out (by omega) (by omega))
          | (with_reducible exact close_E T Q2'.out (by omega) Q3'.out (by omega) (by omega))
          | (with_reducible exact close_E T Q2'.out (by omega) Q4'.out (by omega) (by omega))
          | (with_reducible exact close_E T Q3'.out (by omega) Q1'.out (by omega) (by omega))
          | (with_reducible exact close_E T Q3'.out (by omega) Q2'.out (by omega) (by omega))
          | (with_reducible exact close_E T Q3'.out (by omega) Q4'.out (by omega) (by omega))
          | (with_reducible exact close_E T Q4'.out (by omega) Q1'.out (by omega) (by omega))
          | (with_reducible exact close_E T Q4'.out (by omega) Q2'.out (by omega) (by omega))
          | (with_reducible exact close_E T Q4'.out (by omega) Q3'.out (by omega) (by omega)))
      case rest =>
        obtain ⟨g, h, rfl, rfl, ⟨kp1, kc1, wp1, wc1, hg, sg, tg, lg, bg, dg⟩, ⟨kp2, kc2, wp2, wc2, hh, sh, th, lh, bh, dh⟩, hf⟩ := hcut
        unfold AG.row AG.at_ at hg hh
        dsimp only at hg hh
        have g0 : wc.cell? ⟨g, 0, none⟩ = some (.int .i64 l[k].kind) := cell_heap hg 0
        have g1 : wc.cell? ⟨g, 1, none⟩ = some (.slice kp1 l[k].keys.length kc1) := cell_heap hg 1
        have g2 : wc.cell? ⟨g, 2, none⟩ = some (.slice wp1 l[k].ws.length wc1) := cell_heap hg 2
        have g3 : wc.cell? ⟨g, 3, none⟩ = some (.int .i64 l[k].mark) := cell_heap hg 3
        have g4 : wc.cell? ⟨g, 4, none⟩ = some (.int .i64 l[k].n) := cell_heap hg 4
        have h1 : wc.cell? ⟨h, 1, none⟩ = some (.slice kp2 l[k].keys.length kc2) := cell_heap hh 1
        have h2 : wc.cell? ⟨h, 2, none⟩ = some (.slice wp2 l[k].ws.length wc2) := cell_heap hh 2
        have hsr' := hsr.next hf
        have hkx := hsr.keys _ hka
        have hwx := hsr.ws _ hka
        have hsho := HSH.out _ hka
        have hwr : Hid (Fr nothing w wr) := Lib.hid ((HA.out.trans HF2.out).trans HT.out.fr)
        obtain ⟨ζ, η, ez, ey, tw0', hL⟩ := HT.out
        have fz : ∀ b, wr.heap.size ≤ b → ¬ ζ.fp b := fun b hb hk => by have := tw0'.z.lt hk; omega
        have fy : ∀ b, wr.heap.size ≤ b → ¬ η.fp b := fun b hb hk => by have := tw0'.y.lt hk; omega
        have TW1 := Lib.hid (tw0'.next hf)
        have FZ1 := Lib.hid fz
        have FY1 := Lib.hid fy
        have HLe := Lib.hid hL
        have SG := Lib.hid sg
        have TG := Lib.hid tg
        have SH := Lib.hid sh
        have TH := Lib.hid th
        have BG := Lib.hid bg
        have DG := Lib.hid dg
        have BH := Lib.hid bh
        have DH := Lib.hid dh
        have KX := Lib.hid hkx
        have WX := Lib.hid hwx
        have EZ := Lib.hid ez
        have EY := Lib.hid ey
        have gl : g < wc.heap.size := heap_lt hg
        have hl' : h < wc.heap.size := heap_lt hh
        rw [← ez, ← ey]
        clear tw0' fz fy hL sg tg sh th bg dg bh dh hkx hwx hsr hsr' hg hh hf ez ey a0 a1 a2 a3 a4 x3 tw0 HT0 HX4 HN
        obtain ⟨κ, hκ⟩ : ∃ κ, κ = l[k].kind := ⟨_, rfl⟩
        rw [← hκ] at g0
        clear hκ
        go_upto_block 2 with (fail)
        go_cut [] (fun wx => TWs ζ.bz η.bz w2 wx)
        case first =>
          have HTd := Lib.hid (TW1.out.next ((Fr.refl nothing wc).drewN 1))
          have hmet : Hid (∀ W, TWs ζ.bz η.bz w2 W → TWs ζ.bz η.bz w2 W) := fun _ h => h
          by_cases k1 : κ = 1
          · subst k1
            have hgz : ¬ ζ.fp g := FZ1.out g lg
            have hhz : ¬ ζ.fp h := FZ1.out h lh
            have hgy : ¬ η.fp g := FY1.out g lg
            have hhy : ¬ η.fp h := FY1.out h lh
            obtain ⟨E, hE⟩ : ∃ E, E = claimE ζ.σ.parts ζ.σ.room ζ.L l[k].keys := ⟨_, rfl⟩
            obtain ⟨T, hT⟩ : ∃ T, T = claimTo ζ.σ.parts ζ.σ.room ζ.L l[k].keys := ⟨_, rfl⟩
            have hc1 := HTd.out.claim_z kp1 kc1 l[k].keys (SG.out.frame (Fr.draw wc 1 nothing) fun _ _ => nothing_not) hsho.1 KX.out (fun a ha => FZ1.out _ (BG.out a ha))
            rw [← hE, ← hT] at hc1
            have HC1 := Lib.hid hc1
            have hc2 : Hid (∀ W ζ', TW w2 W ζ' η → Fr ζ.fp (wc.drewN 1) W → Calls Tryd.prog 12 #[.pointer (some ⟨η.bz, 0, none⟩), .slice kp2 l[k].keys.length kc2] W fun e w' => e = .returned (.int .i64 E) ∧ ∃ η', η'.bz = η.bz ∧ TW w2 w' ζ' η' ∧ η'.L = T ∧ Fr η.fp W w') := fun W ζ' tw hf => by
              rw [hE, hT]
              exact tw.claim_y _ _ _ TW1.out.sh.1.symm TW1.out.sh.2.symm HLe.out.symm kp2 kc2 l[k].keys ((SH.out.frame (Fr.draw wc 1 nothing) fun _ _ => nothing_not).frame hf fun a ha => FZ1.out _ (BH.out a ha)) hsho.1 KX.out (fun a ha => FY1.out _ (BH.out a ha))
            clear hc1 hE hT g0 g2 g3 g4 h2
            go_wp2_with fail
            go_region_held (fun W => W.cell? ⟨g, 1, none⟩ = some (.slice kp1 l[k].keys.length kc1) ∧ W.cell? ⟨h, 1, none⟩ = some (.slice kp2 l[k].keys.length kc2)) (first | exact ⟨by assumption, by assumption⟩ | go_keep)
              (first
                | (go_at_call 12; have _t := TOK; refine (hc2.out _ _ TW2.out HF7.out).mono ?_; rintro e w8 ⟨rfl, η', eb2, tw8, eL2, hf8⟩
                   have i3 : w8.cell? ⟨g, 1, none⟩ = some (.slice kp1 l[k].keys.length kc1) := hf8.cellOf i1 hgy
                   have i4 : w8.cell? ⟨h, 1, none⟩ = some (.slice kp2 l[k].keys.length kc2) := hf8.cellOf i2 hhy
                   have TW3 := Lib.hid tw8
                   have EB2 := Lib.hid eb2
                   have EL2 := Lib.hid eL2
                   clear eb2 tw8 eL2 hf8)
                | (go_at_call 12; refine HC1.out.mono ?_; rintro e w7 ⟨rfl, ζ', eb1, tw7, eL1, hf7⟩
                   have i1 : w7.cell? ⟨g, 1, none⟩ = some (.slice kp1 l[k].keys.length kc1) := hf7.cellOf ((Fr.draw wc 1 nothing).cellOf g1 nothing_not) hgz
                   have i2 : w7.cell? ⟨h, 1, none⟩ = some (.slice kp2 l[k].keys.length kc2) := hf7.cellOf ((Fr.draw wc 1 nothing).cellOf h1 nothing_not) hhz
                   have TW2 := Lib.hid tw7
                   have EB1 := Lib.hid eb1
                   have EL1 := Lib.hid eL1
                   have HF7 := Lib.hid hf7
                   have TOK : True := trivial
                   clear eb1 tw7 eL1 hf7))
            go_wp2_with fail
            go_meet
            case rel => exact ⟨ζ', η', EB1.out, EB2.out, TW3.out, EL1.out.trans EL2.out.symm⟩
          by_cases k2 : κ = 2
          · subst k2
            have hgz : ¬ ζ.fp g := FZ1.out g lg
            have hhz : ¬ ζ.fp h := FZ1.out h lh
            have hgy : ¬ η.fp g := FY1.out g lg
            have hhy : ¬ η.fp h := FY1.out h lh
            obtain ⟨E, hE⟩ : ∃ E, E = applyE ζ.L l[k].ws := ⟨_, rfl⟩
            obtain ⟨T, hT⟩ : ∃ T, T = applyTo ζ.L l[k].ws := ⟨_, rfl⟩
            have hc1 := HTd.out.apply_z wp1 wc1 l[k].ws (TG.out.frame (Fr.draw wc 1 nothing) fun _ _ => nothing_not) hsho.2 WX.out (fun a ha => FZ1.out _ (DG.out a ha))
            rw [← hE, ← hT] at hc1
            have HC1 := Lib.hid hc1
            have hc2 : Hid (∀ W ζ', TW w2 W ζ' η → Fr ζ.fp (wc.drewN 1) W → Calls Tryd.prog 13 #[.pointer (some ⟨η.bz, 0, none⟩), .slice wp2 l[k].ws.length wc2] W fun e w' => e = .returned (.int .i64 E) ∧ ∃ η', η'.bz = η.bz ∧ TW w2 w' ζ' η' ∧ η'.L = T ∧ Fr η.fp W w') := fun W ζ' tw hf => by
              rw [hE, hT]
              exact tw.apply_y _ HLe.out.symm wp2 wc2 l[k].ws ((TH.out.frame (Fr.draw wc 1 nothing) fun _ _ => nothing_not).frame hf fun a ha => FZ1.out _ (DH.out a ha)) hsho.2 WX.out (fun a ha => FY1.out _ (DH.out a ha))
            clear hc1 hE hT g0 g1 g3 g4 h1
            go_wp2_with fail
            go_region_held (fun W => W.cell? ⟨g, 2, none⟩ = some (.slice wp1 l[k].ws.length wc1) ∧ W.cell? ⟨h, 2, none⟩ = some (.slice wp2 l[k].ws.length wc2)) (first | exact ⟨by assumption, by assumption⟩ | go_keep)
              (first
                | (go_at_call 13; have _t := TOK; refine (hc2.out _ _ TW2.out HF7.out).mono ?_; rintro e w8 ⟨rfl, η', eb2, tw8, eL2, hf8⟩
                   have i3 : w8.cell? ⟨g, 2, none⟩ = some (.slice wp1 l[k].ws.length wc1) := hf8.cellOf i1 hgy
                   have i4 : w8.cell? ⟨h, 2, none⟩ = some (.slice wp2 l[k].ws.length wc2) := hf8.cellOf i2 hhy
                   have TW3 := Lib.hid tw8
                   have EB2 := Lib.hid eb2
                   have EL2 := Lib.hid eL2
                   clear eb2 tw8 eL2 hf8)
                | (go_at_call 13; refine HC1.out.mono ?_; rintro e w7 ⟨rfl, ζ', eb1, tw7, eL1, hf7⟩
                   have i1 : w7.cell? ⟨g, 2, none⟩ = some (.slice wp1 l[k].ws.length wc1) := hf7.cellOf ((Fr.draw wc 1 nothing).cellOf g2 nothing_not) hgz
                   have i2 : w7.cell? ⟨h, 2, none⟩ = some (.slice wp2 l[k].ws.length wc2) := hf7.cellOf ((Fr.draw wc 1 nothing).cellOf h2 nothing_not) hhz
                   have TW2 := Lib.hid tw7
                   have EB1 := Lib.hid eb1
                   have EL1 := Lib.hid eL1
                   have HF7 := Lib.hid hf7
                   have TOK : True := trivial
                   clear eb1 tw7 eL1 hf7))
            go_wp2_with fail
            go_meet
            case rel => exact ⟨ζ', η', EB1.out, EB2.out, TW3.out, EL1.out.trans EL2.out.symm⟩
          by_cases k3 : κ = 3
          · subst k3
            go_wp2_with (go_at_call 14; refine (TW1.out.begin_z HLe.out _).mono ?_; rintro e w7 ⟨v, rfl, ht7⟩; have HT7 := Lib.hid ht7; clear ht7)
            go_meet
            case rel => exact HT7.out
          by_cases k4 : κ = 4
          · subst k4
            go_wp2_with (go_at_call 15; refine (TW1.out.step_z HLe.out _).mono ?_; rintro e w7 ⟨v, rfl, ht7⟩; have HT7 := Lib.hid ht7; clear ht7)
            go_meet
            case rel => exact HT7.out
          by_cases k5 : κ = 5
          · subst k5
            go_wp2_with (go_at_call 16; refine (TW1.out.take_z HLe.out).mono ?_; rintro e w7 ⟨v, rfl, ht7⟩; have HT7 := Lib.hid ht7; clear ht7)
            go_meet
            case rel => exact HT7.out
          by_cases k6 : κ = 6
          · subst k6
            go_wp2_with (go_at_call 17; refine (TW1.out.drop_z HLe.out).mono ?_; rintro e w7 ⟨v, rfl, ht7⟩; have HT7 := Lib.hid ht7; clear ht7)
            go_meet
            case rel => exact HT7.out
          have b1 : (κ == 1) = false := by simp [k1]
          have b2 : (κ == 2) = false := by simp [k2]
          have b3 : (κ == 3) = false := by simp [k3]
          have b4 : (κ == 4) = false := by simp [k4]
          have b5 : (κ == 5) = false := by simp [k5]
          have b6 : (κ == 6) = false := by simp [k6]
          have HTn : Hid (TWs ζ.bz η.bz w2 wc) := Lib.hid ⟨ζ, η, rfl, rfl, TW1.out, HLe.out⟩
          clear k1 k2 k3 k4 k5 k6
          go_wp2_with fail
          go_meet
          case rel => exact HTn.out
        case rest =>
          have HC := Lib.hid hcut
          rw [EZ.out, EY.out] at HC ⊢
          clear hcut TW1 FZ1 FY1 HLe SG TG SH TH BG DG BH DH KX WX g0 g1 g2 g3 g4 h1 h2
          go_wp2_with fail
          obtain ⟨wo, rfl⟩ : ∃ wo : World, wo = wr := ⟨_, rfl⟩
          go_loopw [12] (fun i W => ∃ j : Nat, i = .int .i64 j ∧ j ≤ ask.length ∧ TWs bz by_ w2 W) (fun i _ => ask.length - (intOf i).toNat)
          case atStart => exact ⟨0, rfl, Nat.zero_le _, HC.out⟩
          case round =>
            obtain ⟨j, rfl, hj, ht⟩ := hrel
            have HT3 := Lib.hid ht
            clear ht HC
            by_cases hlj : j < ask.length
            · obtain ⟨bq, oq, rfl, qc0⟩ := (HQ.out.frame ((HA.out.trans HF2.out).trans HT3.out.fr) fun _ _ => nothing_not).cell hlj
              have hjk := HQK.out _ (List.getElem_mem hlj)
              have hj0 : (0 : Int) ≤ j := by omega
              have hj2 : (j : Int) < (ask.length : Int) := by omega
              obtain ⟨ζ2, η2, ez2, ey2, tw2, hL2⟩ := HT3.out
              subst ez2 ey2
              have HG1 : Hid (∀ W, Fr nothing wr W → Calls Tryd.prog 18 #[.pointer (some ⟨ζ2.bz, 0, none⟩), .string ⟨ask[j].toArray⟩] W fun e w' => e = .returned (getV ζ2.L ask[j]).enc ∧ Fr nothing W w') := Lib.hid fun W hf => (tw2.next hf).get_z ask[j] hjk _ rfl
              have HG2 : Hid (∀ W, Fr nothing wr W → Calls Tryd.prog 18 #[.pointer (some ⟨η2.bz, 0, none⟩), .string ⟨ask[j].toArray⟩] W fun e w' => e = .returned (getV ζ2.L ask[j]).enc ∧ Fr nothing W w') := Lib.hid fun W hf => (tw2.symm.next hf).get_z ask[j] hjk _ hL2.symm
              have hQ2 : Hid (∀ W, Fr nothing wr W → W.cell? ⟨bq, oq + j, none⟩ = some (.string ⟨ask[j].toArray⟩)) := Lib.hid fun W hf => hf.cellOf qc0 nothing_not
              have HT4 : Hid (∀ W, Fr nothing wr W → TWs ζ2.bz η2.bz w2 W) := Lib.hid fun W hf => HT3.out.next hf
              have hF : Fr nothing wr wr := Fr.refl _ _
              have hve := val_neq
              obtain ⟨V, hV⟩ : ∃ V, V = getV ζ2.L ask[j] := ⟨_, rfl⟩
              rw [← hV] at HG1 HG2
              obtain ⟨v0, v1, v2⟩ := V
              simp only [SVal.enc, SVal.cells, SVal.str] at HG1 HG2
              clear tw2 hL2 qc0 hjk HT3 hV
              go_wp2_with fail
              go_region_held (fun W => W.cell? ⟨bq, oq + j, none⟩ = some (.string ⟨ask[j].toArray⟩)) (exact hQ2.out _ (by first | assumption | exact Fr.drewN (by assumption) 1))
                (first
                  | (go_at_call 18; have _t := TOK; refine (HG2.out _ (by assumption)).mono ?_; rintro e w6 ⟨rfl, f6⟩
                     have F6 : Fr nothing wr w6 := Fr.trans (by assumption) f6
                     clear f6)
                  | (go_at_call 18; refine (HG1.out _ (by first | assumption | exact Fr.drewN (by assumption) 1)).mono ?_; rintro e w5 ⟨rfl, f5⟩
                     have F5 : Fr nothing wr w5 := Fr.trans (by first | assumption | exact Fr.drewN (by assumption) 1) f5
                     have TOK : True := trivial
                     clear f5))
              go_wp2_with fail
              go_roundw
              case rel => exact ⟨j + 1, by go_num, hlj, HT4.out _ F6⟩
              case measure => simp [intOf]; omega
            · obtain rfl : j = ask.length := by omega
              go_wp2_with fail
              go_roundw
              case rel => exact ⟨k + 1, by go_num, hlt, HT3.out⟩
              case measure => simp [intOf]; omega
    · obtain rfl : k = l.length := by omega
      obtain ⟨ζ, η, ez, ey, tw, hL⟩ := HT.out
      subst ez ey
      obtain ⟨B, hB⟩ : ∃ B, B = bytesOf ζ.σ.parts ζ.σ.room ζ.L := ⟨_, rfl⟩
      have hne : B ≠ [] := by rw [hB]; exact bytes_ne _ _ _
      have HB1 : Hid (∀ W, Fr nothing wr W → Calls Tryd.prog 19 #[.pointer (some ⟨ζ.bz, 0, none⟩)] W fun e w' => ∃ p c n, e = .returned (.slice p n c) ∧ w'.ownsRow W.heap.size 5 1 (.slice p n c) n (Lib.byteCells B) ∧ Fr nothing W w') := Lib.hid fun W hf => by rw [hB]; exact (tw.next hf).bytes_z _ _ _ rfl rfl rfl
      have HB2 : Hid (∀ W, Fr nothing wr W → Calls Tryd.prog 19 #[.pointer (some ⟨η.bz, 0, none⟩)] W fun e w' => ∃ p c n, e = .returned (.slice p n c) ∧ w'.ownsRow W.heap.size 5 1 (.slice p n c) n (Lib.byteCells B) ∧ Fr nothing W w') := Lib.hid fun W hf => by rw [hB]; exact (tw.symm.next hf).bytes_z _ _ _ tw.sh.1.symm tw.sh.2.symm hL.symm
      have HEV : Hid (∀ W, Fr nothing wr W → Env W) := Lib.hid fun W hf => tw.env.frame hf nothing_not
      have HFW : Hid (Fr nothing w wr) := Lib.hid ((HA.out.trans HF2.out).trans tw.fr)
      have hF : Fr nothing wr wr := Fr.refl _ _
      have HNE := Lib.hid hne
      clear tw hL hB hne
      go_wp2_with fail
      go_region_held (fun W => Fr nothing wr W) (first | assumption | exact Fr.drewN (by assumption) 1)
        (first
          | (go_at_call 8; refine (live_any _ (HEV.out _ (by assumption))).mono ?_; rintro e w7 ⟨rfl, f7⟩
             have F7 : Fr nothing wr w7 := Fr.trans (by assumption) f7
             clear f7)
          | (go_at_call 19; have _t := TOK; refine (HB2.out _ (by assumption)).mono ?_; rintro e w6 ⟨p2, c2, n2, rfl, o6, f6⟩
             have F6 : Fr nothing wr w6 := Fr.trans (by assumption) f6
             have q1 := bytes_of_owns (owns_fr O5.out f6) HNE.out
             have q2 := bytes_of_owns o6 HNE.out
             clear f6 o6)
          | (go_at_call 19; refine (HB1.out _ (by first | assumption | exact Fr.drewN (by assumption) 1)).mono ?_; rintro e w5 ⟨p1, c1, n1, rfl, o5, f5⟩
             have F5 : Fr nothing wr w5 := Fr.trans (by first | assumption | exact Fr.drewN (by assumption) 1) f5
             have q0 := bytes_of_owns o5 HNE.out
             have O5 := Lib.hid o5
             have TOK : True := trivial
             clear f5 o5))
      all_goals go_wp2_with fail
      all_goals go_ret
      all_goals exact ⟨rfl, HFW.out.trans (by assumption)⟩
end Go.Proofs.YtobccbakmcckiaaDoor
