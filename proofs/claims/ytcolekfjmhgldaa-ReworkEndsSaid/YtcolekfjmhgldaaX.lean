/- The examples of the chapter. -/
import Derived.Test.YtcolekfjmhgldaaW
namespace Go.Proofs.Ytcolekfjmhgldaa
open Go.RowKit
open Pr (Opn Prg Res)

theorem Z4.pc {w : World} {G : Nat} (z : Z4 w G) (base : Nat) : Pc w base G (.slice none 0 0) (.slice none 0 0) Pr.zeroP :=
  ⟨z.c0, z.c1, z.c2, z.c3, z.fz, z.gl, World.ownsRow_nil _ _ _ _, World.ownsRow_nil _ _ _ _, by simp [Value.ownBlock], by simp [Value.ownBlock]⟩
theorem Pc.base {w : World} {b base g : Nat} {dv ov : Value} {p : Prg} (h : Pc w b g dv ov p) (hb : base ≤ b) : Pc w base g dv ov p := ⟨h.c0, h.c1, h.c2, h.c3, h.fz, h.gl, h.hd.base_le hb, h.ho.base_le hb, h.nd, h.no⟩

abbrev pP : Prg := ⟨1, [1, 1], [], 0⟩
abbrev qP : Prg := ⟨2, [1, 1], [0, 1], 1⟩
abbrev rP : Prg := ⟨0, [], [], 0⟩
abbrev sP : Prg := ⟨3, [1, 1], [], 0⟩
abbrev qE : Int := 0
abbrev rE : Int := 21
abbrev sE : Int := 0
theorem step_twoq (w : World) (A dA : Option Addr) (dc : Nat) (oA : Option Addr) (oc : Nat) (hl : So w w.heap.size A twoL) (hd : Si w w.heap.size dA [1, 1]) (ho : Si w w.heap.size oA []) :
    Calls Try.prog 18 #[.slice A 2 2, .agg #[.int .i64 1, .slice dA 2 dc, .slice oA 0 oc, .int .i64 0], .agg #[.int .i64 2, .int .i64 0], .int .i64 1] w (PrPost w (0, qP)) := by
  have := step_any A 2 twoL w dA dc oA oc pP 2 0 1 hl twoL_oks (by decide) (by decide) hd ho (by decide) (by decide)
  rw [two_defect] at this
  exact this
theorem step_twor (w : World) (A dA : Option Addr) (dc : Nat) (oA : Option Addr) (oc : Nat) (hl : So w w.heap.size A twoL) (hd : Si w w.heap.size dA [1, 1]) (ho : Si w w.heap.size oA [0, 1]) :
    Calls Try.prog 18 #[.slice A 2 2, .agg #[.int .i64 2, .slice dA 2 dc, .slice oA 2 oc, .int .i64 1], .agg #[.int .i64 1, .int .i64 1], .int .i64 1] w (PrPost w (21, rP)) := by
  have := step_any A 2 twoL w dA dc oA oc qP 1 1 1 hl twoL_oks (by decide) (by decide) hd ho (by decide) (by decide)
  rw [two_order] at this
  exact this
theorem step_twos (w : World) (A dA : Option Addr) (dc : Nat) (oA : Option Addr) (oc : Nat) (hl : So w w.heap.size A twoL) (hd : Si w w.heap.size dA [1, 1]) (ho : Si w w.heap.size oA []) :
    Calls Try.prog 18 #[.slice A 2 2, .agg #[.int .i64 1, .slice dA 2 dc, .slice oA 0 oc, .int .i64 0], .agg #[.int .i64 3, .int .i64 0], .int .i64 1] w (PrPost w (0, sP)) := by
  have := step_any A 2 twoL w dA dc oA oc pP 3 0 1 hl twoL_oks (by decide) (by decide) hd ho (by decide) (by decide)
  rw [two_pass] at this
  exact this
theorem run_two (w : World) (A eA : Option Addr) (hl : So w w.heap.size A twoL) (hes : Se w w.heap.size eA [(1, 0), (1, 1)]) :
    Calls Try.prog 12 #[.slice A 2 2, .slice eA 2 2, .int .i64 1] w (RunPost w ⟨0, pP, 0⟩) := by
  have := run_any A 2 twoL eA 2 [(1, 0), (1, 1)] 1 w hl twoL_oks (by decide) (by decide) hes (by decide)
  rw [two_run] at this
  exact this
theorem times_two (w : World) (A eA : Option Addr) (hl : So w w.heap.size A twoL) (hes : Se w w.heap.size eA [(1, 0), (1, 1)]) :
    Calls Try.prog 22 #[.slice A 2 2, .slice eA 2 2, .int .i64 1] w (TimesPost w ⟨0, pP, 0⟩) := by
  have := times_any A 2 twoL eA 2 [(1, 0), (1, 1)] 1 w hl twoL_oks (by decide) (by decide) hes (by decide)
  rw [two_run] at this
  exact this
theorem ev2 (w : World) (a b c d : Int) : Se (w.alloc (.cells #[.int .i64 a, .int .i64 b, .int .i64 c, .int .i64 d] 34)) (w.alloc (.cells #[.int .i64 a, .int .i64 b, .int .i64 c, .int .i64 d] 34)).heap.size (some ⟨w.heap.size, 0, none⟩) [(a, b), (c, d)] :=
  .inr ⟨w.heap.size, 0, rfl, by simp, fun i e hi => by
    match i, hi with
    | 0, hi => simp at hi; subst hi; exact ⟨by simp, by simp⟩
    | 1, hi => simp at hi; subst hi; exact ⟨by simp, by simp⟩⟩

set_option maxRecDepth 100000 in
set_option maxHeartbeats 4000000 in
theorem alive_any (w : World) : Calls Try.prog 15 #[] w fun e w' => e = .returned (.bool true) ∧ Below w.heap.size w w' := by
  have hb0 := b_new w (.cells #[.int .i64 1, .int .i64 0, .int .i64 1, .int .i64 1] 34)
  have hE0 := ev2 w 1 0 1 1
  go_enter Try.func15, Try.ntmps15
  go_wp2_with fail
  generalize w.alloc (.cells #[.int .i64 1, .int .i64 0, .int .i64 1, .int .i64 1] 34) = w1 at *
  refine (two_any _).mono ?_
  rintro e w2 ⟨A2, rfl, hA2, hb2⟩
  have HR := Lib.hid (run_two w2 A2 _ hA2 (hE0.to hb2))
  go_wp2_with fail
  refine HR.out.mono ?_
  rintro e w3 ⟨dv, ov, rfl, hd, ho, hb3⟩
  obtain ⟨dA, dc, rfl, _, _, _, _⟩ := hd.shape
  obtain ⟨oA, oc, rfl, _, _, _, _⟩ := ho.shape
  have hP := Pc.new hd ho
  have hbk := b_al (b_tr (b_tr hb0 hb2) hb3) (.cells #[.int .i64 1, .slice dA 2 dc, .slice oA 0 oc, .int .i64 0] 29)
  have hEk := (hE0.to hb2).to (b_al hb3 (.cells #[.int .i64 1, .slice dA 2 dc, .slice oA 0 oc, .int .i64 0] 29))
  dsimp only [List.length_cons, List.length_nil, Nat.reduceAdd] at hP
  clear hd ho HR hA2 hb2 hb3 hb0 hE0
  go_upto_region 3 with fail
  generalize w3.alloc (.cells #[.int .i64 1, .slice dA 2 dc, .slice oA 0 oc, .int .i64 0] 29) = wk at *
  generalize w3.heap.size = g1 at *
  have k0 := hP.c0
  have k1 := hP.c1
  have k2 := hP.c2
  have k3 := hP.c3
  have hgk := hP.gl
  have HSd := Lib.hid (oi_si hP.hd)
  have HSo := Lib.hid (oi_si hP.ho)
  dsimp only at k0 k3
  go_cut [5, 6] (fun sx sy wx => ∃ g dA dc oA oc, sx = .pointer (some ⟨g, 0, none⟩) ∧ sy = .int .i64 qE ∧ Pc wx wk.heap.size g (.slice dA 2 dc) (.slice oA 2 oc) qP ∧ Below wk.heap.size wk wx)
  case first =>
    have HT := Lib.hid (fun W => two_any W)
    have HS := Lib.hid (fun W A (hA : So W W.heap.size A twoL) (hW : HeldC wk g1 1 (.slice dA 2 dc) (.slice oA 0 oc) 0 W) => step_twoq W A dA dc oA oc hA ((HSd.out.below hW.2.2.2.2).more hW.2.2.2.2.size) ((HSo.out.below hW.2.2.2.2).more hW.2.2.2.2.size))
    have HKp := Lib.hid (fun W W' (hbn : Below W.heap.size W W') (hW : HeldC wk g1 1 (.slice dA 2 dc) (.slice oA 0 oc) 0 W) => HeldC.keep hgk hbn hW)
    have HSt : Hid (HeldC wk g1 1 (.slice dA 2 dc) (.slice oA 0 oc) 0 wk.drew) := ⟨k0, k1, k2, k3, below_drewN (Below.refl _ _) 1⟩
    have HSz := Lib.hid (fun W (hW : HeldC wk g1 1 (.slice dA 2 dc) (.slice oA 0 oc) 0 W) => hW.2.2.2.2.size)
    have HSet := Lib.hid (fun W G (hG : wk.heap.size ≤ G) (hW : HeldC wk g1 1 (.slice dA 2 dc) (.slice oA 0 oc) 0 W) u0 u1 u2 u3 => HeldC.set (j := 3) hG hgk u3 (HeldC.set (j := 2) hG hgk u2 (HeldC.set (j := 1) hG hgk u1 (HeldC.set (j := 0) hG hgk u0 hW))))
    clear HSd HSo
    go_region_held3 (fun w' => w'.cell? ⟨g1, 0, none⟩ = some (.int .i64 1) ∧ w'.cell? ⟨g1, 1, none⟩ = some (.slice dA 2 dc) ∧ w'.cell? ⟨g1, 2, none⟩ = some (.slice oA 0 oc) ∧ w'.cell? ⟨g1, 3, none⟩ = some (.int .i64 0) ∧ Below wk.heap.size wk w')
      (first | (with_reducible exact HSt.out) | (with_reducible exact HKp.out _ _ hbn (by with_reducible assumption)) | (with_reducible exact HKp.out _ _ (b_new _ _) (by with_reducible assumption)) | (with_reducible exact HSet.out _ _ (HSz.out _ (by with_reducible assumption)) (by with_reducible assumption) _ _ _ _) | (with_reducible exact HSet.out _ _ (Nat.le_refl _) (by with_reducible assumption) _ _ _ _))
      (first | (go_at_call 30; (with_reducible refine (HT.out _).mono ?_); rintro e w' ⟨A1, rfl, hA1, hbn⟩; (try (have z := (Z4.new _).below hbn)); (try (have z := (Z4.newd _).below hbn)); (try (have z := z.below hbn)); (try (obtain ⟨z0, z1, z2, z3, zf, zl⟩ := id z)); have hS := HKp.out _ _ hbn (by with_reducible assumption); have hszT := HSz.out _ hS; (try (have zlT := z.gl))) | (go_at_call 18; (with_reducible refine (HS.out _ _ (by first | (with_reducible exact hA1) | (with_reducible exact hA1.to (b_new _ _))) (by with_reducible assumption)).mono ?_); rintro e w' ⟨dv1, ov1, rfl, hd1, ho1, hbn⟩; obtain ⟨dA1, dc1, rfl, _, _, _, _⟩ := hd1.shape; obtain ⟨oA1, oc1, rfl, _, _, _, _⟩ := ho1.shape; (try (have z := (Z4.new _).below hbn)); (try (have z := (Z4.newd _).below hbn)); (try (have z := z.below hbn)); (try (obtain ⟨z0, z1, z2, z3, zf, zl⟩ := id z)); have hS := HKp.out _ _ hbn (by with_reducible assumption)))
    · have hSS := hS
      have hzz := HSz.out _ hSS
      go_wp2_with fail
      go_meet
      case rel => exact ⟨_, _, _, _, _, rfl, rfl, (Pc.new (p := qP) hd1 ho1).base hszT, (HKp.out _ _ (b_new _ _) hSS).2.2.2.2⟩
    · have hSS := hS
      go_wp2_with fail
      go_meet
      case rel => exact ⟨_, _, _, _, _, rfl, rfl, Pc.put (p' := qP) (z.pc wk.heap.size) hd1 ho1 (by rw [size_al]; omega) (by rw [size_al]; omega), (HSet.out _ _ hszT hSS _ _ _ _).2.2.2.2⟩
    · have hSS := hS
      go_wp2_with fail
      go_meet
      case rel => exact ⟨_, _, _, _, _, rfl, rfl, Pc.put (p' := qP) (z.pc wk.heap.size) hd1 ho1 hszT zlT, (HSet.out _ _ (Nat.le_refl _) hSS _ _ _ _).2.2.2.2⟩
  case rest =>
    obtain ⟨g2, dA2, dc2, oA2, oc2, rfl, rfl, hQ, hB⟩ := hcut
    obtain ⟨wb, hww⟩ : ∃ W : World, W = wc := ⟨_, rfl⟩
    subst hww
    replace hP := hP.below hB
    replace hEk := hEk.to hB
    replace hbk := b_tr hbk hB
    clear hB k0 k1 k2 k3 hgk HSd HSo
    have k0 := hQ.c0
    have k1 := hQ.c1
    have k2 := hQ.c2
    have k3 := hQ.c3
    have hgk := hQ.gl
    have HSd := Lib.hid (oi_si hQ.hd)
    have HSo := Lib.hid (oi_si hQ.ho)
    dsimp only at k0 k3
    go_upto_region 4 with fail
    go_cut [7, 8] (fun sx sy wx => ∃ g dA dc oA oc, sx = .pointer (some ⟨g, 0, none⟩) ∧ sy = .int .i64 rE ∧ Pc wx wb.heap.size g (.slice dA 0 dc) (.slice oA 0 oc) rP ∧ Below wb.heap.size wb wx)
    case first =>
      have HT := Lib.hid (fun W => two_any W)
      have HS := Lib.hid (fun W A (hA : So W W.heap.size A twoL) (hW : HeldC wb g2 2 (.slice dA2 2 dc2) (.slice oA2 2 oc2) 1 W) => step_twor W A dA2 dc2 oA2 oc2 hA ((HSd.out.below hW.2.2.2.2).more hW.2.2.2.2.size) ((HSo.out.below hW.2.2.2.2).more hW.2.2.2.2.size))
      have HKp := Lib.hid (fun W W' (hbn : Below W.heap.size W W') (hW : HeldC wb g2 2 (.slice dA2 2 dc2) (.slice oA2 2 oc2) 1 W) => HeldC.keep hgk hbn hW)
      have HSt : Hid (HeldC wb g2 2 (.slice dA2 2 dc2) (.slice oA2 2 oc2) 1 wb.drew) := ⟨k0, k1, k2, k3, below_drewN (Below.refl _ _) 1⟩
      have HSz := Lib.hid (fun W (hW : HeldC wb g2 2 (.slice dA2 2 dc2) (.slice oA2 2 oc2) 1 W) => hW.2.2.2.2.size)
      have HSet := Lib.hid (fun W G (hG : wb.heap.size ≤ G) (hW : HeldC wb g2 2 (.slice dA2 2 dc2) (.slice oA2 2 oc2) 1 W) u0 u1 u2 u3 => HeldC.set (j := 3) hG hgk u3 (HeldC.set (j := 2) hG hgk u2 (HeldC.set (j := 1) hG hgk u1 (HeldC.set (j := 0) hG hgk u0 hW))))
      clear HSd HSo
      go_region_held3 (fun w' => w'.cell? ⟨g2, 0, none⟩ = some (.int .i64 2) ∧ w'.cell? ⟨g2, 1, none⟩ = some (.slice dA2 2 dc2) ∧ w'.cell? ⟨g2, 2, none⟩ = some (.slice oA2 2 oc2) ∧ w'.cell? ⟨g2, 3, none⟩ = some (.int .i64 1) ∧ Below wb.heap.size wb w')
        (first | (with_reducible exact HSt.out) | (with_reducible exact HKp.out _ _ hbn (by with_reducible assumption)) | (with_reducible exact HKp.out _ _ (b_new _ _) (by with_reducible assumption)) | (with_reducible exact HSet.out _ _ (HSz.out _ (by with_reducible assumption)) (by with_reducible assumption) _ _ _ _) | (with_reducible exact HSet.out _ _ (Nat.le_refl _) (by with_reducible assumption) _ _ _ _))
        (first | (go_at_call 30; (with_reducible refine (HT.out _).mono ?_); rintro e w' ⟨A1, rfl, hA1, hbn⟩; (try (have z := (Z4.new _).below hbn)); (try (have z := (Z4.newd _).below hbn)); (try (have z := z.below hbn)); (try (obtain ⟨z0, z1, z2, z3, zf, zl⟩ := id z)); have hS := HKp.out _ _ hbn (by with_reducible assumption); have hszT := HSz.out _ hS; (try (have zlT := z.gl))) | (go_at_call 18; (with_reducible refine (HS.out _ _ (by first | (with_reducible exact hA1) | (with_reducible exact hA1.to (b_new _ _))) (by with_reducible assumption)).mono ?_); rintro e w' ⟨dv1, ov1, rfl, hd1, ho1, hbn⟩; obtain ⟨dA1, dc1, rfl, _, _, _, _⟩ := hd1.shape; obtain ⟨oA1, oc1, rfl, _, _, _, _⟩ := ho1.shape; (try (have z := (Z4.new _).below hbn)); (try (have z := (Z4.newd _).below hbn)); (try (have z := z.below hbn)); (try (obtain ⟨z0, z1, z2, z3, zf, zl⟩ := id z)); have hS := HKp.out _ _ hbn (by with_reducible assumption)))
      · have hSS := hS
        have hzz := HSz.out _ hSS
        go_wp2_with fail
        go_meet
        case rel => exact ⟨_, _, _, _, _, rfl, rfl, (Pc.new (p := rP) hd1 ho1).base hszT, (HKp.out _ _ (b_new _ _) hSS).2.2.2.2⟩
      · have hSS := hS
        go_wp2_with fail
        go_meet
        case rel => exact ⟨_, _, _, _, _, rfl, rfl, Pc.put (p' := rP) (z.pc wb.heap.size) hd1 ho1 (by rw [size_al]; omega) (by rw [size_al]; omega), (HSet.out _ _ hszT hSS _ _ _ _).2.2.2.2⟩
      · have hSS := hS
        go_wp2_with fail
        go_meet
        case rel => exact ⟨_, _, _, _, _, rfl, rfl, Pc.put (p' := rP) (z.pc wb.heap.size) hd1 ho1 hszT zlT, (HSet.out _ _ (Nat.le_refl _) hSS _ _ _ _).2.2.2.2⟩
    case rest =>
      obtain ⟨g3, dA3, dc3, oA3, oc3, rfl, rfl, hRr, hB⟩ := hcut
      obtain ⟨wd, hww⟩ : ∃ W : World, W = wc := ⟨_, rfl⟩
      subst hww
      replace hP := hP.below hB
      replace hQ := hQ.below hB
      replace hEk := hEk.to hB
      replace hbk := b_tr hbk hB
      clear hB k0 k1 k2 k3 hgk HSd HSo
      have k0 := hP.c0
      have k1 := hP.c1
      have k2 := hP.c2
      have k3 := hP.c3
      have hgk := hP.gl
      have HSd := Lib.hid (oi_si hP.hd)
      have HSo := Lib.hid (oi_si hP.ho)
      dsimp only at k0 k3
      go_upto_region 5 with fail
      go_cut [9, 10] (fun sx sy wx => ∃ g dA dc oA oc, sx = .pointer (some ⟨g, 0, none⟩) ∧ sy = .int .i64 sE ∧ Pc wx wd.heap.size g (.slice dA 2 dc) (.slice oA 0 oc) sP ∧ Below wd.heap.size wd wx)
      case first =>
        have HT := Lib.hid (fun W => two_any W)
        have HS := Lib.hid (fun W A (hA : So W W.heap.size A twoL) (hW : HeldC wd g1 1 (.slice dA 2 dc) (.slice oA 0 oc) 0 W) => step_twos W A dA dc oA oc hA ((HSd.out.below hW.2.2.2.2).more hW.2.2.2.2.size) ((HSo.out.below hW.2.2.2.2).more hW.2.2.2.2.size))
        have HKp := Lib.hid (fun W W' (hbn : Below W.heap.size W W') (hW : HeldC wd g1 1 (.slice dA 2 dc) (.slice oA 0 oc) 0 W) => HeldC.keep hgk hbn hW)
        have HSt : Hid (HeldC wd g1 1 (.slice dA 2 dc) (.slice oA 0 oc) 0 wd.drew) := ⟨k0, k1, k2, k3, below_drewN (Below.refl _ _) 1⟩
        have HSz := Lib.hid (fun W (hW : HeldC wd g1 1 (.slice dA 2 dc) (.slice oA 0 oc) 0 W) => hW.2.2.2.2.size)
        have HSet := Lib.hid (fun W G (hG : wd.heap.size ≤ G) (hW : HeldC wd g1 1 (.slice dA 2 dc) (.slice oA 0 oc) 0 W) u0 u1 u2 u3 => HeldC.set (j := 3) hG hgk u3 (HeldC.set (j := 2) hG hgk u2 (HeldC.set (j := 1) hG hgk u1 (HeldC.set (j := 0) hG hgk u0 hW))))
        clear HSd HSo
        go_region_held3 (fun w' => w'.cell? ⟨g1, 0, none⟩ = some (.int .i64 1) ∧ w'.cell? ⟨g1, 1, none⟩ = some (.slice dA 2 dc) ∧ w'.cell? ⟨g1, 2, none⟩ = some (.slice oA 0 oc) ∧ w'.cell? ⟨g1, 3, none⟩ = some (.int .i64 0) ∧ Below wd.heap.size wd w')
          (first | (with_reducible exact HSt.out) | (with_reducible exact HKp.out _ _ hbn (by with_reducible assumption)) | (with_reducible exact HKp.out _ _ (b_new _ _) (by with_reducible assumption)) | (with_reducible exact HSet.out _ _ (HSz.out _ (by with_reducible assumption)) (by with_reducible assumption) _ _ _ _) | (with_reducible exact HSet.out _ _ (Nat.le_refl _) (by with_reducible assumption) _ _ _ _))
          (first | (go_at_call 30; (with_reducible refine (HT.out _).mono ?_); rintro e w' ⟨A1, rfl, hA1, hbn⟩; (try (have z := (Z4.new _).below hbn)); (try (have z := (Z4.newd _).below hbn)); (try (have z := z.below hbn)); (try (obtain ⟨z0, z1, z2, z3, zf, zl⟩ := id z)); have hS := HKp.out _ _ hbn (by with_reducible assumption); have hszT := HSz.out _ hS; (try (have zlT := z.gl))) | (go_at_call 18; (with_reducible refine (HS.out _ _ (by first | (with_reducible exact hA1) | (with_reducible exact hA1.to (b_new _ _))) (by with_reducible assumption)).mono ?_); rintro e w' ⟨dv1, ov1, rfl, hd1, ho1, hbn⟩; obtain ⟨dA1, dc1, rfl, _, _, _, _⟩ := hd1.shape; obtain ⟨oA1, oc1, rfl, _, _, _, _⟩ := ho1.shape; (try (have z := (Z4.new _).below hbn)); (try (have z := (Z4.newd _).below hbn)); (try (have z := z.below hbn)); (try (obtain ⟨z0, z1, z2, z3, zf, zl⟩ := id z)); have hS := HKp.out _ _ hbn (by with_reducible assumption)))
        · have hSS := hS
          have hzz := HSz.out _ hSS
          go_wp2_with fail
          go_meet
          case rel => exact ⟨_, _, _, _, _, rfl, rfl, (Pc.new (p := sP) hd1 ho1).base hszT, (HKp.out _ _ (b_new _ _) hSS).2.2.2.2⟩
        · have hSS := hS
          go_wp2_with fail
          go_meet
          case rel => exact ⟨_, _, _, _, _, rfl, rfl, Pc.put (p' := sP) (z.pc wd.heap.size) hd1 ho1 (by rw [size_al]; omega) (by rw [size_al]; omega), (HSet.out _ _ hszT hSS _ _ _ _).2.2.2.2⟩
        · have hSS := hS
          go_wp2_with fail
          go_meet
          case rel => exact ⟨_, _, _, _, _, rfl, rfl, Pc.put (p' := sP) (z.pc wd.heap.size) hd1 ho1 hszT zlT, (HSet.out _ _ (Nat.le_refl _) hSS _ _ _ _).2.2.2.2⟩
      case rest =>
        obtain ⟨g4, dA4, dc4, oA4, oc4, rfl, rfl, hSs, hB⟩ := hcut
        obtain ⟨we, hww⟩ : ∃ W : World, W = wc := ⟨_, rfl⟩
        subst hww
        replace hP := hP.below hB
        replace hQ := hQ.below hB
        replace hRr := hRr.below hB
        replace hEk := hEk.to hB
        replace hbk := b_tr hbk hB
        clear hB k0 k1 k2 k3 hgk HSd HSo
        go_wp2_with fail
        refine (two_any _).mono ?_
        rintro e w6 ⟨A6, rfl, hA6, hb6⟩
        replace hP := hP.below hb6
        replace hQ := hQ.below hb6
        replace hRr := hRr.below hb6
        replace hSs := hSs.below hb6
        replace hbk := b_tr hbk hb6
        have HTm := Lib.hid (times_two w6 A6 _ hA6 (hEk.to hb6))
        clear hA6 hEk hb6
        go_wp2_with fail
        refine HTm.out.mono ?_
        rintro e w7 ⟨nv, rfl, hn, hb7⟩
        obtain ⟨nA, nc, rfl, _, _, hns, _⟩ := hn.shape
        replace hP := hP.below hb7
        replace hQ := hQ.below hb7
        replace hRr := hRr.below hb7
        replace hSs := hSs.below hb7
        replace hbk := b_tr hbk hb7
        clear HTm hn hb7
        have r0 := hRr.c0
        have p0 := hP.c0
        have p1 := hP.c1
        have p2 := hP.c2
        have p3 := hP.c3
        dsimp only at r0 p0 p3
        clear hRr
        have hb8 := b_new w7 (.cells #[.int .i64 1, .int .i64 1] 3)
        have hX1 := same_yes dA oA (some ⟨w7.heap.size, 0, none⟩) none dc oc 2 0 pP _ (si_alloc (oi_si hP.hd) (Below.refl _ _) (.cells #[.int .i64 1, .int .i64 1] 3)) (si_alloc (oi_si hP.ho) (Below.refl _ _) _) (lit2 w7 1 1) (.inl rfl) (by decide) (by decide)
        have HX1 := Lib.hid hX1
        clear hX1
        go_wp2_with fail
        refine HX1.out.mono ?_
        rintro e w8 ⟨rfl, hb9⟩
        have hbw := b_tr hb8 hb9
        replace hQ := hQ.below hbw
        replace hSs := hSs.below hbw
        replace hns := (hns.below hbw).more hbw.size
        replace hbk := b_tr hbk hbw
        have q0 := hQ.c0
        have q1 := hQ.c1
        have q2 := hQ.c2
        have q3 := hQ.c3
        dsimp only at q0 q3
        have hb10 := b_al (b_new w8 (.cells #[.int .i64 1, .int .i64 1] 3)) (.cells #[.int .i64 0, .int .i64 1] 3)
        have hl2 := lit2 (w8.alloc (.cells #[.int .i64 1, .int .i64 1] 3)) 0 1
        rw [size_al w8] at hl2
        have HX2 := Lib.hid (same_yes dA2 oA2 (some ⟨w8.heap.size, 0, none⟩) (some ⟨w8.heap.size + 1, 0, none⟩) dc2 oc2 2 2 qP _ ((oi_si hQ.hd |>.below hb10).more hb10.size) ((oi_si hQ.ho |>.below hb10).more hb10.size) (si_alloc (lit2 w8 1 1) (Below.refl _ _) _) hl2 (by decide) (by decide))
        clear HX1 hb8 hb9 hbw hP hQ hl2 p0 p1 p2 p3 r0
        go_wp2_with fail
        refine HX2.out.mono ?_
        rintro e w9 ⟨rfl, hb11⟩
        have hbw := b_tr hb10 hb11
        replace hSs := hSs.below hbw
        replace hns := (hns.below hbw).more hbw.size
        replace hbk := b_tr hbk hbw
        have s0 := hSs.c0
        dsimp only at s0
        have HX3 := Lib.hid (sameInts_b nA (some ⟨w9.heap.size, 0, none⟩) nc 2 [1, 1] _ (si_alloc hns (Below.refl _ _) (.cells #[.int .i64 1, .int .i64 1] 3)) (lit2 w9 1 1) (by decide))
        clear HX2 hb10 hb11 hbw hSs hns q0 q1 q2 q3
        go_wp2_with fail
        refine HX3.out.mono ?_
        rintro e w10 ⟨rfl, hb12⟩
        go_wp2
        go_ret
        exact ⟨rfl, b_tr (b_al hbk _) hb12⟩
end Go.Proofs.Ytcolekfjmhgldaa
