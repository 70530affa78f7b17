/- CkptFrozen, the walk. -/
import Derived.Test.YtobccbakmcckiaaDoorLawO
import Derived.Deep.DeepCutAuto
import Derived.Deep.CutBlock
namespace Go.Proofs.YtobccbakmcckiaaDoor
open Go Go.RowKit Go.Sort

/-- The law's ghosts. -/
structure FG (w0 w : World) (ζ : ZG) (σ : SB) (Ls : SL) (u : Bool) (pk : Option Addr) (ks : List Key) (pw : Option Addr) (vs : List SVal) (pt : Option Addr) (bs : List Nat) : Prop where
  zs : ZS w0 w ζ σ Ls
  row : FRow w ζ σ pk ks pw vs pt bs
  fi : FI u ζ.Cs ks vs bs
section
variable {w0 w w' : World} {ζ ζ' : ZG} {σ : SB} {Ls Ls' : SL} {u : Bool} {pk pw pt : Option Addr} {ks : List Key} {vs : List SVal} {bs : List Nat}
theorem FG.next (h : FG w0 w ζ σ Ls u pk ks pw vs pt bs) (hf : Fr nothing w w') : FG w0 w' ζ σ Ls u pk ks pw vs pt bs := ⟨h.zs.next hf, h.row.next hf, h.fi⟩
theorem FG.step (h : FG w0 w ζ σ Ls u pk ks pw vs pt bs) (hs : ZStep w ζ w' ζ') (hc : Keep ζ.Cs ζ'.Cs) : FG w0 w' ζ' σ Ls u pk ks pw vs pt bs :=
  ⟨h.zs.step hs, h.row.move hs.fr (fun _ e => .inl e) hs.fp, h.fi.keep hc⟩
theorem FG.store (h : FG w0 w ζ σ Ls u pk ks pw vs pt bs) (hs : IsStore w' σ Ls') (hf : Fr σ.maps w w') : FG w0 w' ζ σ Ls' u pk ks pw vs pt bs :=
  ⟨h.zs.store hs hf, h.row.move hf (fun _ e => .inr (maps_all e)) fun _ e => .inl e, h.fi⟩
theorem FG.turn (h : FG w0 w ζ σ Ls u pk ks pw vs pt bs) {u' : Bool} (hu : u' = true → u = true) : FG w0 w ζ σ Ls u' pk ks pw vs pt bs := ⟨h.zs, h.row, h.fi.mono rfl hu⟩
end
/-- The law's state. -/
def FS (σ : SB) (bz : Nat) (w0 : World) (s7 s8 s9 s10 : Value) (w : World) : Prop := ∃ ζ Ls u pk ks pw vs pt bs ck cw ct, s7 = .bool u ∧ s8 = .slice pk (ks : List Key).length ck ∧ s9 = .slice pw ks.length cw ∧ s10 = .slice pt ks.length ct ∧ ζ.bz = bz ∧ FG w0 w ζ σ Ls u pk ks pw vs pt bs ∧ keysOf Ls = keysOf ζ.L
theorem Keep.of_eq {a b : CL} (h : b = a) : Keep a b := h ▸ Keep.refl _

set_option maxRecDepth 100000 in
set_option maxHeartbeats 4000000 in
theorem frozen_long (bp : Option Addr) (bn bc : Nat) (parts room : Int) (ap : Option Addr) (l : List AG) (ac : Nat) (w : World) (he : Env w) (hs : StoryOK w ap l) (hB : longB bn l = true) :
    Calls Tryd.prog 4 #[storyV bp bn bc parts room ap l ac] w fun e w' => e = .returned (.bool true) ∧ Fr nothing w w' := by
  have HLg := Lib.hid (fun W (hf : Fr nothing w W) => long_any bp bn bc parts room ap l ac W (acts_fr hs.acts hf) hs.n1 hs.n2)
  have HE := Lib.hid he
  have HA := Lib.hid ((Fr.refl nothing w).alloc (storyX bp bn bc parts room ap l ac))
  unfold storyX at HA
  clear hs he
  rw [hB] at HLg
  clear hB
  unfold storyV at HLg ⊢
  go_enter Tryd.func4, Tryd.ntmps4
  go_wp2_with (first
    | (go_at_call 7; refine (HLg.out _ HA.out).mono ?_; rintro e w2 ⟨rfl, hf2⟩; have HF2 := Lib.hid hf2; clear hf2)
    | (go_at_call 8; refine (live_any _ (HE.out.frame (HA.out.trans HF2.out) nothing_not)).mono ?_; rintro e w3 ⟨rfl, hf3⟩; have HF3 := Lib.hid hf3; clear hf3))
  go_ret
  exact ⟨rfl, (HA.out.trans HF2.out).trans HF3.out⟩

set_option maxRecDepth 100000 in
set_option maxHeartbeats 4000000 in
theorem frozen_bad (bp : Option Addr) (bn bc : Nat) (parts room : Int) (ap : Option Addr) (l : List AG) (ac : Nat) (w : World) (he : Env w) (hs : StoryOK w ap l) (hl : longB bn l = false) (hb : newBad parts room = true) :
    Calls Tryd.prog 4 #[storyV bp bn bc parts room ap l ac] w fun e w' => e = .returned (.bool true) ∧ Fr nothing w w' := by
  have HLg := Lib.hid (fun W (hf : Fr nothing w W) => long_any bp bn bc parts room ap l ac W (acts_fr hs.acts hf) hs.n1 hs.n2)
  have HE := Lib.hid he
  have HA := Lib.hid ((Fr.refl nothing w).alloc (storyX bp bn bc parts room ap l ac))
  have HX := Lib.hid (heap_alloc_new w (.cells #[.slice bp bn bc, .int .i64 parts, .int .i64 room, .slice ap l.length ac] 25))
  have HB := Lib.hid (fun W => znew_bad parts room W hb)
  have HB2 := Lib.hid (fun W => new_bad parts room W hb)
  unfold storyX at HA
  clear hs he hb
  rw [hl] at HLg
  clear hl
  unfold storyV at HLg ⊢
  go_enter Tryd.func4, Tryd.ntmps4
  go_wp2_with (first
    | (go_at_call 7; refine (HLg.out _ HA.out).mono ?_; rintro e w2 ⟨rfl, hf2⟩
       have hx2 := (hf2.block _ (heap_lt HX.out) nothing_not).trans HX.out
       have x1 : w2.cell? ⟨w.heap.size, 1, none⟩ = some (.int .i64 parts) := cell_heap hx2 1
       have x2 : w2.cell? ⟨w.heap.size, 2, none⟩ = some (.int .i64 room) := cell_heap hx2 2
       have HF2 := Lib.hid hf2; clear hf2 hx2)
    | (go_at_call 10; refine (num_any _ _).mono ?_; rintro e w' ⟨rfl, rfl⟩)
    | (go_at_call 9; refine (HB.out _).mono ?_; rintro e w' ⟨rfl, rfl⟩)
    | (go_at_call 20; refine (HB2.out _).mono ?_; rintro e w' ⟨rfl, rfl⟩)
    | (go_at_call 8; refine (live_any _ (HE.out.frame (HA.out.trans HF2.out) nothing_not)).mono ?_; rintro e w3 ⟨rfl, hf3⟩; have HF3 := Lib.hid hf3; clear hf3))
  go_ret
  exact ⟨rfl, (HA.out.trans HF2.out).trans HF3.out⟩

def Owned1 (wr wx : World) (a : AG) (s12 : Value) : Prop := ∃ g kp kc wp wc, s12 = .pointer (some ⟨g, 0, none⟩) ∧ wx.heap[g]? = some (.cells #[.int .i64 a.kind, .slice kp a.keys.length kc, .slice wp a.ws.length wc, .int .i64 a.mark, .int .i64 a.n] 36 (0, 0)) ∧ StrsAt wx kp a.keys ∧ WrsAt wx wp a.ws ∧ wr.heap.size ≤ g ∧ (∀ b, kp = some b → wr.heap.size ≤ b.block) ∧ (∀ b, wp = some b → wr.heap.size ≤ b.block) ∧ Fr nothing wr wx

set_option maxRecDepth 100000 in
set_option maxHeartbeats 40000000 in
theorem frozen_go (bp : Option Addr) (bn bc : Nat) (P R : Nat) (ap : Option Addr) (l : List AG) (ac : Nat) (w : World) (he : Env w) (hs : StoryOK w ap l) (hl : longB bn l = false) (h1 : 1 ≤ P) (h2 : P ≤ 64) (h3 : 1 ≤ R) (h4 : R ≤ 4096) :
    Calls Tryd.prog 4 #[storyV bp bn bc P R ap l ac] w fun e w' => e = .returned (.bool true) ∧ Fr nothing w w' := by
  have HLg := Lib.hid (fun W (hf : Fr nothing w W) => long_any bp bn bc P R ap l ac W (acts_fr hs.acts hf) hs.n1 hs.n2)
  rw [hl] at HLg
  have HSH := Lib.hid (fun a (ha : a ∈ l) => StoryOK.short (bn := bn) hl ha)
  have HE := Lib.hid he
  have HS := Lib.hid hs
  have hln : l.length ≤ 200 := by unfold longB at hl; simp at hl; exact hl.1
  have HA := Lib.hid ((Fr.refl nothing w).alloc (storyX bp bn bc P R ap l ac))
  have HX := Lib.hid (heap_alloc_new w (storyX bp bn bc P R ap l ac))
  have HN := Lib.hid (fun W => znew_any P R W h1 h2 h3 h4)
  have HN2 := Lib.hid (fun W => new_any P R W h1 h2 h3 h4)
  unfold storyX at HA HX
  clear hs he hl h1 h2 h3 h4
  unfold storyV at HLg ⊢
  go_enter Tryd.func4, Tryd.ntmps4
  go_wp2_with (first
    | (go_at_call 7; refine (HLg.out _ HA.out).mono ?_; rintro e w2 ⟨rfl, hf2⟩
       have hx2 := (hf2.block _ (heap_lt HX.out) nothing_not).trans HX.out
       have x1 : w2.cell? ⟨w.heap.size, 1, none⟩ = some (.int .i64 P) := cell_heap hx2 1
       have x2 : w2.cell? ⟨w.heap.size, 2, none⟩ = some (.int .i64 R) := cell_heap hx2 2
       have HX2 := Lib.hid hx2
       have HF2 := Lib.hid hf2; clear hf2 hx2)
    | (go_at_call 10; refine (num_any _ _).mono ?_; rintro e w' ⟨rfl, rfl⟩)
    | (go_at_call 9; refine (HN.out w2).mono ?_; rintro e w3 ⟨ζ, rfl, pz, rz, lz, _, _, iz, fz, oz⟩
       have hx3 := (fz.block _ (heap_lt HX2.out) nothing_not).trans HX2.out
       have x1 : w3.cell? ⟨w.heap.size, 1, none⟩ = some (.int .i64 P) := cell_heap hx3 1
       have x2 : w3.cell? ⟨w.heap.size, 2, none⟩ = some (.int .i64 R) := cell_heap hx3 2
       have PZ := Lib.hid pz
       have RZ := Lib.hid rz
       have LZ := Lib.hid lz
       have IZ := Lib.hid iz
       have FZ := Lib.hid fz
       have OZ := Lib.hid oz
       clear pz rz lz iz fz oz hx3)
    | (go_at_call 20; refine (HN2.out w3).mono ?_; rintro e w4 ⟨σ, rfl, py, ry, iy, fy, oy⟩
       have tw0 := Lib.hid (ZS.start IZ.out iy FZ.out fy PZ.out RZ.out py ry OZ.out oy (HE.out.frame (HA.out.trans HF2.out) nothing_not))
       clear py ry iy fy oy))
  have HT0 : Hid (FS σ ζ.bz w2 (.bool false) (.slice none 0 0) (.slice none 0 0) (.slice none 0 0) w4) := Lib.hid ⟨ζ, [], false, none, [], none, [], none, [], 0, 0, 0, rfl, rfl, rfl, rfl, rfl, ⟨tw0.out, FRow.nil _ _ _, fun h => by cases h⟩, by rw [LZ.out]⟩
  obtain ⟨bz, ebz⟩ : ∃ b, b = ζ.bz := ⟨_, rfl⟩
  rw [← ebz] at HT0 ⊢
  clear ebz x1 x2 tw0 PZ RZ LZ IZ FZ OZ HN HN2
  go_loopw [7, 8, 9, 10, 11] (fun s7 s8 s9 s10 i wr => ∃ k : Nat, i = .int .i64 k ∧ k ≤ l.length ∧ FS σ bz w2 s7 s8 s9 s10 wr) (fun _ _ _ _ i _ => l.length - (intOf i).toNat)
  case atStart => exact ⟨0, rfl, Nat.zero_le _, HT0.out⟩
  case round =>
    obtain ⟨k, rfl, hk1, ζ, Ls, u, pk, ks, pw, vs, pt, bs, ck, cw, ct, rfl, rfl, rfl, rfl, ez, fg, hkeys⟩ := hrel
    have FG0 := Lib.hid fg
    have HK0 := Lib.hid hkeys
    have x3 : wr.cell? ⟨w.heap.size, 3, none⟩ = some (.slice ap l.length ac) := cell_heap ((fg.zs.fr.block _ (heap_lt HX2.out) nothing_not).trans HX2.out) 3
    have HWR := Lib.hid ((HA.out.trans HF2.out).trans fg.zs.fr)
    clear fg hkeys
    by_cases hlt : k < l.length
    · have hsr := HS.out.next HWR.out
      have hka := List.getElem_mem hlt
      obtain ⟨b, o, rfl, a0, a1, a2, a3, a4⟩ := acts_cells hsr.acts hlt
      have hk0 : (0 : Int) ≤ k := by omega
      have hk2 : (k : Int) < (l.length : Int) := by omega
      have hO := Lib.hid (own_any l[k] wr (hsr.acts.2 _ hka).1 (hsr.acts.2 _ hka).2 (hsr.ok _ hka) (hsr.lens hka).1 (hsr.lens hka).2)
      unfold AG.row at hO
      dsimp only at hO
      have KX := Lib.hid (hsr.keys _ hka)
      have WX := Lib.hid (hsr.ws _ hka)
      have hsho := HSH.out _ hka
      clear hsr hka
      subst ez
      go_upto_region 14 with (fail)
      go_cut [12] (fun s wx => Owned1 wr wx l[k] s)
      case first =>
        go_wp2_with (go_at_call 11; refine hO.out.mono ?_; rintro e w5 ⟨kp1, kc1, wp1, wc1, rfl, s5, t5, b5, d5, f5⟩; have S5 := Lib.hid s5; have T5 := Lib.hid t5; have B5 := Lib.hid b5; have D5 := Lib.hid d5; have F5 := Lib.hid f5; clear s5 t5 b5 d5 f5)
        have hal := (Fr.refl nothing w5).alloc (.cells #[.int .i64 l[k].kind, .slice kp1 l[k].keys.length kc1, .slice wp1 l[k].ws.length wc1, .int .i64 l[k].mark, .int .i64 l[k].n] 36)
        have hfin : Owned1 wr (w5.alloc (.cells #[.int .i64 l[k].kind, .slice kp1 l[k].keys.length kc1, .slice wp1 l[k].ws.length wc1, .int .i64 l[k].mark, .int .i64 l[k].n] 36)) l[k] (.pointer (some ⟨w5.heap.size, 0, none⟩)) := ⟨_, kp1, kc1, wp1, wc1, rfl, heap_alloc_new _ _, S5.out.frame hal fun _ _ => nothing_not, T5.out.frame hal fun _ _ => nothing_not, F5.out.size, fun b hb => (B5.out b hb).1, fun b hb => (D5.out b hb).1, F5.out.trans hal⟩
        have HFIN := Lib.hid hfin
        clear hal hfin
        go_wp2_with fail
        go_meet
        case rel => exact HFIN.out
      case rest =>
        obtain ⟨g, kp1, kc1, wp1, wc1, rfl, hg, sg, tg, lg, bg, dg, hf⟩ := hcut
        have g0 : wc.cell? ⟨g, 0, none⟩ = some (.int .i64 l[k].kind) := cell_heap hg 0
        have g1 : wc.cell? ⟨g, 1, none⟩ = some (.slice kp1 l[k].keys.length kc1) := cell_heap hg 1
        have g2 : wc.cell? ⟨g, 2, none⟩ = some (.slice wp1 l[k].ws.length wc1) := cell_heap hg 2
        have g3 : wc.cell? ⟨g, 3, none⟩ = some (.int .i64 l[k].mark) := cell_heap hg 3
        have g4 : wc.cell? ⟨g, 4, none⟩ = some (.int .i64 l[k].n) := cell_heap hg 4
        have fz : ∀ b, wr.heap.size ≤ b → ¬ ζ.fp b ∧ ¬ σ.all b := fun b hb => ⟨fun hk => by have := FG0.out.zs.z.lt hk; omega, fun hk => by have := FG0.out.zs.s.lt hk; omega⟩
        have FZ1 := Lib.hid fz
        have FG1 := Lib.hid (FG0.out.next hf)
        have SG := Lib.hid sg
        have TG := Lib.hid tg
        have BG := Lib.hid bg
        have DG := Lib.hid dg
        clear fz sg tg bg dg hg hf a0 a1 a2 a3 a4 x3 FG0 hO
        obtain ⟨κ, hκ⟩ : ∃ κ, κ = l[k].kind := ⟨_, rfl⟩
        rw [← hκ] at g0
        clear hκ
        go_upto_block 2 with (fail)
        go_cut [7, 8, 9, 10] (fun a b c d wx => FS σ ζ.bz w2 a b c d wx)
        case first =>
          by_cases k1 : κ = 1
          · subst k1
            have hc1 := Lib.hid (zclaim_any ζ kp1 kc1 l[k].keys wc FG1.out.zs.z SG.out hsho.1 KX.out (fun a ha => (FZ1.out _ (BG.out a ha)).1))
            have hgz := (FZ1.out g lg).1
            clear g0 g2 g3 g4
            go_wp2_with (first
              | (go_at_call 12; refine hc1.out.mono ?_; rintro e w7 ⟨rfl, ζ', hst, hL, _, _, hkf⟩
                 have g1' : w7.cell? ⟨g, 1, none⟩ = some (.slice kp1 l[k].keys.length kc1) := hst.fr.cellOf g1 hgz
                 have FG2 := Lib.hid (FG1.out.step hst hkf.1)
                 have SG2 := Lib.hid (SG.out.frame hst.fr (fun a ha => (FZ1.out _ (BG.out a ha)).1))
                 have HL2 := Lib.hid hL
                 have EB := Lib.hid hst.bz
                 clear hst hL hkf)
              | (go_at_call 21; refine (claim_any σ Ls kp1 kc1 l[k].keys w7 FG2.out.zs.s SG2.out hsho.1 KX.out (fun a ha hm => (FZ1.out _ (BG.out a ha)).2 (maps_all hm))).mono ?_; rintro e w8 ⟨rfl, hst, hf⟩
                 have FG3 := Lib.hid (FG2.out.store hst hf)
                 clear hst hf))
            go_meet
            case rel => exact ⟨ζ', _, u, pk, ks, pw, vs, pt, bs, ck, cw, ct, rfl, rfl, rfl, rfl, EB.out, FG3.out, by rw [HL2.out, FG1.out.zs.sh.1, FG1.out.zs.sh.2]; exact keysOf_claimTo HK0.out _ _ _⟩
          by_cases k2 : κ = 2
          · subst k2
            have hc1 := Lib.hid (zapply_any ζ wp1 wc1 l[k].ws wc FG1.out.zs.z TG.out hsho.2 WX.out (fun a ha => (FZ1.out _ (DG.out a ha)).1))
            clear g0 g1 g3 g4
            go_wp2_with (go_at_call 13; refine hc1.out.mono ?_; rintro e w7 ⟨rfl, ζ', hst, hL, _, _, hkf⟩
                         have FG2 := Lib.hid (FG1.out.step hst hkf)
                         have HL2 := Lib.hid hL
                         have EB := Lib.hid hst.bz
                         clear hst hL hkf)
            go_meet
            case rel => exact ⟨ζ', Ls, u, pk, ks, pw, vs, pt, bs, ck, cw, ct, rfl, rfl, rfl, rfl, EB.out, FG2.out, by rw [HL2.out, keysOf_applyTo FG1.out.zs.z.st.ris]; exact HK0.out⟩
          by_cases k3 : κ = 3
          · subst k3
            have hb := begin_any ζ l[k].mark wc FG1.out.zs.z
            clear g0 g1 g2 g4
            by_cases hE : beginE ζ l[k].mark = 0
            · have hb2 := Lib.hid (hb.mono (R' := fun e w' => e = .returned (.int .i64 0) ∧ ∃ ζ', ZStep wc ζ w' ζ' ∧ ζ'.L = ζ.L ∧ ζ'.Cs = flipA ζ.Cs) fun e w' ⟨h1, ζ', h2, h3, _, h5⟩ => ⟨by rw [h1, hE], ζ', h2, h3, (h5 hE).2.2⟩)
              have hkl : Hid ((keysOf Ls).length = Ls.length) := Lib.hid (by simp [keysOf])
              clear hb hE
              go_wp2_with (first
                | (go_at_call 14; refine hb2.out.mono ?_; rintro e w7 ⟨rfl, ζ', hst, hL, hC⟩
                   have ZS2 := Lib.hid (FG1.out.zs.step hst)
                   have HL2 := Lib.hid hL
                   have HC2 := Lib.hid hC
                   have EB := Lib.hid hst.bz
                   clear hst hL hC)
                | (go_at_call 10; refine (num_any _ _).mono ?_; rintro e w' ⟨rfl, rfl⟩)
                | (go_at_call 22; have hq := keys_own σ Ls w7 ZS2.out.s; rw [← hkl.out] at hq; refine hq.mono ?_; rintro e w8 ⟨p8, c8, rfl, ho8, hf8⟩
                   have ZS3 := Lib.hid (ZS2.out.next hf8)
                   have F8S := Lib.hid hf8.size
                   have S8 := Lib.hid (strs_of_owns ho8)
                   have KL := Lib.hid (show (keysOf Ls).length ≤ 1000000 by have := ZS2.out.s.len; rw [hkl.out]; omega)
                   have KK := Lib.hid (show ∀ k ∈ keysOf Ls, k.length ≤ maxLen from fun k hk => by obtain ⟨q, hq, rfl⟩ := List.mem_map.1 hk; exact validKey_max (ZS2.out.s.keys q hq))
                   clear hq ho8 hf8)
                | (go_at_call 23; have hq := lawfrozen_any ζ' p8 c8 (keysOf Ls) w8 ZS3.out.z S8.out.2.1 KL.out KK.out; rw [EB.out] at hq; refine hq.mono ?_; rintro e w9 ⟨p9, c9, rfl, ho9, hf9⟩
                   have ZS4 := Lib.hid (ZS3.out.next hf9)
                   have S9 := Lib.hid (S8.out.2.1.frame hf9 fun _ _ => nothing_not)
                   have V9 := Lib.hid ho9
                   have F9 := Lib.hid hf9
                   clear hq ho9 hf9)
                | (go_at_call 24; have hq := lawbits_any ζ' p8 c8 (keysOf Ls) w9 ZS4.out.z S9.out KL.out KK.out; rw [EB.out] at hq; refine hq.mono ?_; rintro e w10 ⟨p10, c10, rfl, ho10, hf10⟩
                   have ZS5 := Lib.hid (ZS4.out.next hf10)
                   have S10 := Lib.hid (S9.out.frame hf10 fun _ _ => nothing_not)
                   have V10 := Lib.hid (owns_fr V9.out hf10)
                   have T10 := Lib.hid ho10
                   have F10 := Lib.hid hf10
                   clear hq ho10 hf10))
              have hsome : Hid (∀ k ∈ keysOf Ls, ∃ c, lookM ζ.Cs k = some c ∧ c.r ≤ 1) := fun k hk => by
                rw [HK0.out, ← FG1.out.zs.z.keys] at hk
                obtain ⟨q, hq, rfl⟩ := List.mem_map.1 hk
                exact ⟨q.2, lookM_of_mem (IsZigX.ris FG1.out.zs.z) hq, (FG1.out.zs.z.bits q hq).1⟩
              obtain ⟨wo, rfl⟩ : ∃ wo : World, wo = wr := ⟨_, rfl⟩
              go_loopw [13] (fun i W => ∃ j : Nat, i = .int .i64 j ∧ j ≤ (keysOf Ls).length ∧ Fr nothing w10 W) (fun i _ => (keysOf Ls).length - (intOf i).toNat)
              case atStart => exact ⟨0, rfl, Nat.zero_le _, Fr.refl _ _⟩
              case round =>
                obtain ⟨j, rfl, hj, hfj⟩ := hrel
                have HFJ := Lib.hid hfj
                have hklb := KL.out
                clear hfj
                by_cases hlj : j < (keysOf Ls).length
                · obtain ⟨bq, oq, rfl, qc0⟩ := (S10.out.frame HFJ.out fun _ _ => nothing_not).cell hlj
                  obtain ⟨cc, hcc, hcr⟩ := hsome.out _ (List.getElem_mem hlj)
                  have hbt := bits_any ζ' (keysOf Ls)[j] wr (ZS5.out.next HFJ.out).z (KK.out _ (List.getElem_mem hlj))
                  rw [EB.out] at hbt
                  have hne : (bitsOf ζ'.Cs (keysOf Ls)[j]).1 ≠ (bitsOf ζ'.Cs (keysOf Ls)[j]).2 := by rw [HC2.out]; exact flip_bits hcc hcr
                  generalize (bitsOf ζ'.Cs (keysOf Ls)[j]).1 = r0 at hbt hne
                  generalize (bitsOf ζ'.Cs (keysOf Ls)[j]).2 = b0 at hbt hne
                  have hnb : ((r0 : Int) == (b0 : Int)) = false := by simp; omega
                  have HBT := Lib.hid hbt
                  clear hbt hcc hcr
                  go_wp2_with (go_at_call 25; refine HBT.out.mono ?_; rintro e w11 ⟨rfl, n11, rfl⟩)
                  go_roundw
                  case rel => exact ⟨j + 1, by go_num, hlj, HFJ.out.drewN _⟩
                  case measure => simp [intOf]; omega
                · obtain rfl : j = (keysOf Ls).length := by omega
                  go_wp2_with fail
                  go_meet
                  case rel =>
                    have zs := ZS5.out.next HFJ.out
                    have hv := owns_fr V10.out HFJ.out
                    have ht := owns_fr T10.out HFJ.out
                    have far : ∀ k : Nat, w7.heap.size ≤ k → ¬ ζ'.fp k ∧ ¬ σ.all k := fun k hk => ⟨fun h => by have := ZS2.out.z.lt h; omega, fun h => by have := ZS2.out.s.lt h; omega⟩
                    have s78 := ZS3.out.fr.size
                    have e8 := S8.out.2.2
                    refine ⟨ζ', Ls, true, p8, keysOf Ls, p9, (keysOf Ls).map (frozV ζ'.Cs), p10, bitL ζ'.Cs (keysOf Ls), c8, c9, c10, rfl, rfl, rfl, rfl, EB.out, ⟨zs, ?_, FI.fresh _ _ fun k hk => by obtain ⟨c, hc, _⟩ := hsome.out k hk; rw [HC2.out]; exact flip_some hc⟩, by rw [HL2.out]; exact HK0.out⟩
                    exact {
                      k := S10.out.frame HFJ.out fun _ _ => nothing_not
                      v := vals_of_owns hv
                      t := ints_of_owns ht
                      far := fun a ha => by
                        have f9 := F9.out.size
                        have f10 := F10.out.size
                        have fj := HFJ.out.size
                        rcases ha with h | h | h
                        · have := e8 a h
                          exact ⟨(far _ this.1).1, (far _ this.1).2, by omega⟩
                        · have := hv.lt a.block (by rw [h]; rfl)
                          have h8 : w7.heap.size ≤ a.block := by have := (V9.out.lt a.block (by rw [h]; rfl)).1; have := F8S.out; omega
                          exact ⟨(far _ h8).1, (far _ h8).2, this.2⟩
                        · have := ht.lt a.block (by rw [h]; rfl)
                          have h8 : w7.heap.size ≤ a.block := by have := F8S.out; omega
                          exact ⟨(far _ h8).1, (far _ h8).2, this.2⟩
                      kl := KL.out
                      kk := KK.out
                      lv := by simp
                      lb := by simp [bitL] }
            · have hne : (beginE ζ l[k].mark == 0) = false := by simp [hE]
              have hb2 := Lib.hid (hb.mono (R' := fun e w' => e = .returned (.int .i64 (beginE ζ l[k].mark)) ∧ ZStep wc ζ w' ζ) fun e w' ⟨h1, ζ', h2, _, h4, _⟩ => ⟨h1, by have := h4 hE; subst this; exact h2⟩)
              generalize beginE ζ l[k].mark = E at hb2 hne
              clear hb hE
              go_wp2_with (first
                | (go_at_call 14; refine hb2.out.mono ?_; rintro e w7 ⟨rfl, hst⟩
                   have FG2 := Lib.hid (FG1.out.step hst (Keep.refl _))
                   clear hst)
                | (go_at_call 10; refine (num_any _ _).mono ?_; rintro e w' ⟨rfl, rfl⟩))
              go_meet
              case rel => exact ⟨ζ, Ls, u, pk, ks, pw, vs, pt, bs, ck, cw, ct, rfl, rfl, rfl, rfl, rfl, FG2.out, HK0.out⟩
          by_cases k4 : κ = 4
          · subst k4
            have hc1 := Lib.hid (step_any ζ l[k].n wc FG1.out.zs.z FG1.out.zs.z.snap_len)
            clear g0 g1 g2 g3
            go_wp2_with (go_at_call 15; refine hc1.out.mono ?_; rintro e w7 ⟨rfl, ζ', hst, hL, hC, _⟩
                         have FG2 := Lib.hid (FG1.out.step hst (Keep.of_eq hC))
                         have HL2 := Lib.hid hL
                         have EB := Lib.hid hst.bz
                         clear hst hL hC)
            go_meet
            case rel => exact ⟨ζ', Ls, u, pk, ks, pw, vs, pt, bs, ck, cw, ct, rfl, rfl, rfl, rfl, EB.out, FG2.out, by rw [HL2.out]; exact HK0.out⟩
          by_cases k5 : κ = 5
          · subst k5
            have hc1 := take_any ζ wc FG1.out.zs.z FG1.out.zs.env (fun e => by have := FG1.out.zs.lz ζ.bz (.inl rfl); have := FG1.out.zs.glob; omega)
            generalize takeB ζ = tb at hc1
            generalize takeMark ζ = tm at hc1
            have HC1 := Lib.hid hc1
            clear hc1 g0 g1 g2 g3 g4
            cases u
            · go_wp2_with (go_at_call 16; refine HC1.out.mono ?_; rintro e w7 ⟨p7, n7, c7, ζ', rfl, _, hst, hL, hC, _⟩
                           have FG2 := Lib.hid ((FG1.out.step hst (Keep.of_eq hC)).next ((Fr.refl _ _).alloc (.cells #[.int .i64 tm, .slice p7 n7 c7] 43)))
                           have HL2 := Lib.hid hL
                           have EB := Lib.hid hst.bz
                           clear hst hL hC)
              go_meet
              case rel => exact ⟨ζ', Ls, false, pk, ks, pw, vs, pt, bs, ck, cw, ct, rfl, rfl, rfl, rfl, EB.out, FG2.out, by rw [HL2.out]; exact HK0.out⟩
            · go_wp2_with (go_at_call 16; refine HC1.out.mono ?_; rintro e w7 ⟨p7, n7, c7, ζ', rfl, _, hst, hL, hC, _⟩
                           have FG2 := Lib.hid ((FG1.out.step hst (Keep.of_eq hC)).next ((Fr.refl _ _).alloc (.cells #[.int .i64 tm, .slice p7 n7 c7] 43)))
                           have HL2 := Lib.hid hL
                           have EB := Lib.hid hst.bz
                           clear hst hL hC)
              go_meet
              case rel => exact ⟨ζ', Ls, !tb, pk, ks, pw, vs, pt, bs, ck, cw, ct, rfl, rfl, rfl, rfl, EB.out, FG2.out.turn fun _ => rfl, by rw [HL2.out]; exact HK0.out⟩
          by_cases k6 : κ = 6
          · subst k6
            have hc1 := Lib.hid (drop_any ζ wc FG1.out.zs.z)
            clear g0 g1 g2 g3 g4
            go_wp2_with (go_at_call 17; refine hc1.out.mono ?_; rintro e w7 ⟨rfl, ζ', hst, hL, hC, _⟩
                         have FG2 := Lib.hid (FG1.out.step hst (Keep.of_eq hC))
                         have HL2 := Lib.hid hL
                         have EB := Lib.hid hst.bz
                         clear hst hL hC)
            go_meet
            case rel => exact ⟨ζ', Ls, false, pk, ks, pw, vs, pt, bs, ck, cw, ct, rfl, rfl, rfl, rfl, EB.out, FG2.out.turn (fun e => by cases e), by rw [HL2.out]; exact HK0.out⟩
          have b1 : (κ == 1) = false := by simp [k1]
          have b2 : (κ == 2) = false := by simp [k2]
          have b3 : (κ == 3) = false := by simp [k3]
          have b4 : (κ == 4) = false := by simp [k4]
          have b5 : (κ == 5) = false := by simp [k5]
          have b6 : (κ == 6) = false := by simp [k6]
          clear k1 k2 k3 k4 k5 k6
          go_wp2_with fail
          go_meet
          case rel => exact ⟨ζ, Ls, u, pk, ks, pw, vs, pt, bs, ck, cw, ct, rfl, rfl, rfl, rfl, rfl, FG1.out, HK0.out⟩
        case rest =>
          clear FG1 FZ1 SG TG BG DG KX WX g0 g1 g2 g3 g4
          obtain ⟨ζ2, Ls2, u2, pk2, ks2, pw2, vs2, pt2, bs2, ck2, cw2, ct2, rfl, rfl, rfl, rfl, ez2, fg2, hk2⟩ := hcut
          have FG2 := Lib.hid fg2
          have HK2 := Lib.hid hk2
          have EZ2 := Lib.hid ez2
          have hb := lawbits_any ζ2 pk2 ck2 ks2 wc fg2.zs.z fg2.row.k fg2.row.kl fg2.row.kk
          rw [ez2] at hb
          have HB := Lib.hid hb
          have hkl := fg2.row.kl
          clear fg2 hk2 ez2 hb
          have hrel2 : Hid (∀ W, Fr nothing wc W → ∃ k_1 : Nat, Value.int .i64 ((k : Int) + 1) = .int .i64 k_1 ∧ k_1 ≤ l.length ∧ FS σ ζ.bz w2 (.bool u2) (.slice pk2 ks2.length ck2) (.slice pw2 ks2.length cw2) (.slice pt2 ks2.length ct2) W) := fun W hW =>
            ⟨k + 1, by go_num, hlt, ζ2, Ls2, u2, pk2, ks2, pw2, vs2, pt2, bs2, ck2, cw2, ct2, rfl, rfl, rfl, rfl, EZ2.out, FG2.out.next hW, HK2.out⟩
          obtain ⟨wo, rfl⟩ : ∃ wo : World, wo = wr := ⟨_, rfl⟩
          cases u2
          · go_wp2_with (go_at_call 24; refine HB.out.mono ?_; rintro e w8 ⟨p8, c8, rfl, _, hf8⟩; have HF8 := Lib.hid hf8; clear hf8)
            go_loopw [19] (fun i W => ∃ j : Nat, i = .int .i64 j ∧ j ≤ ks2.length ∧ Fr nothing w8 W) (fun i _ => ks2.length - (intOf i).toNat)
            case atStart => exact ⟨0, rfl, Nat.zero_le _, Fr.refl _ _⟩
            case round =>
              obtain ⟨j, rfl, hj, hfj⟩ := hrel
              have HFJ := Lib.hid hfj
              clear hfj
              go_wp2_with fail
              go_roundw
              case rel => exact hrel2.out _ (HF8.out.trans HFJ.out)
              case measure => simp [intOf]; omega
          · obtain ⟨e1, e2, _⟩ := FG2.out.fi rfl
            subst e1 e2
            have hkl2 : (ks2.map (frozV ζ2.Cs)).length = ks2.length := by simp
            have HLM := Lib.hid hkl2
            clear hkl2
            go_wp2_with (go_at_call 24; refine HB.out.mono ?_; rintro e w8 ⟨p8, c8, rfl, ho8, hf8⟩; have HF8 := Lib.hid hf8; have HO8 := Lib.hid (ints_of_owns ho8); clear ho8 hf8)
            go_loopw [19] (fun i W => ∃ j : Nat, i = .int .i64 j ∧ j ≤ ks2.length ∧ Fr nothing w8 W) (fun i _ => ks2.length - (intOf i).toNat)
            case atStart => exact ⟨0, rfl, Nat.zero_le _, Fr.refl _ _⟩
            case round =>
              obtain ⟨j, rfl, hj, hfj⟩ := hrel
              have HFJ := Lib.hid hfj
              clear hfj
              have row := FG2.out.row.next (HF8.out.trans HFJ.out)
              by_cases hlj : j < ks2.length
              · have hlb : j < (bitL ζ2.Cs ks2).length := by simpa [bitL] using hlj
                obtain ⟨b1, o1, rfl, q1⟩ := (HO8.out.frame HFJ.out fun _ _ => nothing_not).cell hlb
                obtain ⟨b2, o2, rfl, q2⟩ := row.t.cell hlb
                generalize (bitL ζ2.Cs ks2)[j] = bj at q1 q2
                have hj0 : (0 : Int) ≤ j := by omega
                have hj2 : (j : Int) < (ks2.length : Int) := by omega
                clear row
                go_wp2_with fail
                go_quiet (fail)
                go_wp2_with fail
                go_roundw
                case rel => exact ⟨j + 1, by go_num, hlj, HFJ.out.drewN _⟩
                case measure => simp [intOf]; omega
              · obtain rfl : j = ks2.length := by omega
                have hq := lawfrozen_any ζ2 pk2 ck2 ks2 wr (FG2.out.next (HF8.out.trans HFJ.out)).zs.z row.k row.kl row.kk
                rw [EZ2.out] at hq
                have HQ := Lib.hid hq
                have RV := Lib.hid row.v
                clear row hq
                go_wp2_with (first
                  | (go_at_call 23; refine HQ.out.mono ?_; rintro e w9 ⟨p9, c9, rfl, ho9, hf9⟩
                     have hsm := (same_any p9 pw2 c9 cw2 (ks2.map (frozV ζ2.Cs)) (ks2.map (frozV ζ2.Cs)) w9 (vals_of_owns ho9) (RV.out.frame hf9 fun _ _ => nothing_not) (by rw [HLM.out]; exact hkl)).mono (R' := fun e w' => e = .returned (.bool true) ∧ Fr nothing w9 w') fun e w' ⟨h1, h2⟩ => ⟨by rw [h1, decide_eq_true rfl], h2⟩
                     rw [HLM.out] at hsm
                     have HSM := Lib.hid hsm
                     have HF9 := Lib.hid hf9
                     clear ho9 hf9 hsm)
                  | (go_at_call 26; refine HSM.out.mono ?_; rintro e w10 ⟨rfl, hf10⟩; have HF10 := Lib.hid hf10; clear hf10))
                go_roundw
                case rel => exact hrel2.out _ (((HF8.out.trans HFJ.out).trans HF9.out).trans HF10.out)
                case measure => simp [intOf]; omega
    · obtain rfl : k = l.length := by omega
      have hlv := Lib.hid (live_any wr FG0.out.zs.env)
      go_wp2_with (go_at_call 8; refine hlv.out.mono ?_; rintro e w9 ⟨rfl, hf9⟩; have HF9 := Lib.hid hf9; clear hf9)
      go_ret
      exact ⟨rfl, HWR.out.trans HF9.out⟩
end Go.Proofs.YtobccbakmcckiaaDoor
