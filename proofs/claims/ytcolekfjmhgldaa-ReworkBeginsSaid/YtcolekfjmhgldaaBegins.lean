/- ReworkBegins: a run is a run of all events but the last one, and then a step. Conditions: none beyond the statement's own. -/
import Derived.Test.YtcolekfjmhgldaaZ
namespace Go.Proofs.Ytcolekfjmhgldaa.begins
open Go.ChangeShapes Go.WideShapes Go.ChangeAt Go.RowKit Go.Deep
open Pr (Opn Prg Res)

set_option maxRecDepth 100000 in
set_option maxHeartbeats 4000000 in
theorem walk (A : Option Addr) (len c : Nat) (l : List Opn) (eA : Option Addr) (elen ec : Nat) (es : List (Int × Int)) (most : Int) (w : World) (h0 : CameO w A len c l) (h1 : CameE w eA elen ec es) (_h2 : (Lit.int .i64 most).wf = true) :
    Calls Try.prog 8 #[.slice A len c, .slice eA elen ec, .int .i64 most] w fun e w' => e = .returned (.bool true) ∧ Below w.heap.size w w' := by
  obtain ⟨rfl, hc, hcm, hl, hwf⟩ := h0
  obtain ⟨rfl, hec, hecm, hes⟩ := h1
  have HL := Lib.hid (light_any A c l w hl (Nat.le_trans hc hcm))
  have HA := Lib.hid (fun W => alive_any W)
  by_cases g1 : lightB l = true
  · obtain ⟨hk, hl20, _⟩ := light_oks g1 hwf
    rw [g1] at HL
    by_cases g2 : (80 : Int) < (es.length : Int)
    · go_enter Try.func8, Try.ntmps8
      go_wp2_with fail
      refine HL.out.mono ?_
      rintro e w1 ⟨rfl, rfl⟩
      go_wp2_with fail
      refine (HA.out _).mono ?_
      rintro e w2 ⟨rfl, hb⟩
      go_wp2
      go_ret
      exact ⟨rfl, hb⟩
    by_cases g3 : es.length = 0
    · rw [g3]
      go_enter Try.func8, Try.ntmps8
      go_wp2_with fail
      refine HL.out.mono ?_
      rintro e w1 ⟨rfl, rfl⟩
      go_wp2_with fail
      refine (HA.out _).mono ?_
      rintro e w2 ⟨rfl, hb⟩
      go_wp2
      go_ret
      exact ⟨rfl, hb⟩
    obtain ⟨k, hke⟩ : ∃ k, es.length = k + 1 := ⟨es.length - 1, by omega⟩
    obtain ⟨ev, hev⟩ : ∃ ev, es[k]? = some ev := ⟨_, List.getElem?_eq_getElem (by omega)⟩
    have hsn := snoc_of hke hev
    obtain ⟨b, off, rfl, hbb, e0, e1⟩ := hes.get hev
    have htl : (es.take k).length = k := by rw [List.length_take]; omega
    have HR1 := Lib.hid (run_any A c l _ ec (es.take k) most w hl hk hc hcm (hes.take k) (by omega))
    rw [htl] at HR1
    have HR2 := Lib.hid (fun (W : World) (hb : Below w.heap.size w W) => run_any A c l _ ec es most W (hl.to hb) hk hc hcm (hes.to hb) (by omega))
    have HSN : Hid (Pr.runR l es most = thenStep l most (Pr.runR l (es.take k) most) ev k) := by
      show _ = _
      have := runR_snoc l most ev (es.take k)
      rw [← hsn, htl] at this
      exact this
    have HLn := Lib.hid (fun h => runR_len (l := l) (most := most) (es := es.take k) h)
    have wk1 : wrap64 (((k + 1 : Nat) : Int) - 1) = (k : Int) := by unfold wrap64; omega
    have h34 := cells34
    have hkc : (k : Int) ≤ (ec : Int) := by omega
    have hk0 : (0 : Int) ≤ (k : Int) := by omega
    have hk3 : (k : Int) < (k : Int) + 1 := by omega
    have hk4 : ¬ (k : Int) < 0 := by omega
    have hk5 : k < k + 1 := by omega
    have hk6 : ¬ (k : Int) + 1 ≤ (k : Int) := by omega
    have g2' : ¬ (80 : Int) < (k : Int) + 1 := by omega
    have g3' : ((k : Int) + 1 == 0) = false := by simp; omega
    have wk2 : wrap64 ((k : Int) + 1 - 1) = (k : Int) := by unfold wrap64; omega
    rw [hke] at HR2 ⊢
    clear g2 g3
    have HST := Lib.hid (fun (W : World) (hb : Below w.heap.size w W) (p : Prg) dA dc oA oc => fun (hd : Si W W.heap.size dA p.done) (ho : Si W W.heap.size oA p.opn) (h1 : p.done.length ≤ 1000) (h2 : p.opn.length ≤ 1000) => step_any A c l W dA dc oA oc p ev.1 ev.2 most (hl.to hb) hk hc hcm hd ho h1 h2)
    have HZ := Lib.hid (fun p (h : (Pr.stepR l p ev.1 ev.2 most).1 ≠ 0) => stepR_zero h)
    have HLq := Lib.hid (fun p (h : (Pr.stepR l p ev.1 ev.2 most).1 = 0) => stepR_len h)
    clear hsn hes hwf hev htl hke hl hc hecm hcm
    generalize Pr.runR l (es.take k) most = R1 at *
    generalize Pr.runR l es most = R2 at *
    go_enter Try.func8, Try.ntmps8
    go_wp2_with fail
    refine HL.out.mono ?_
    rintro e w1 ⟨rfl, rfl⟩
    go_wp2_with fail
    refine HR1.out.mono ?_
    rintro e w2 ⟨dv, ov, rfl, hd, ho, hb2⟩
    obtain ⟨E1, P, N1⟩ := R1
    dsimp only at hd ho
    obtain ⟨dA, dc, rfl, _, _, _, _⟩ := hd.shape
    obtain ⟨oA, oc, rfl, _, _, _, _⟩ := ho.shape
    have hP := Pc.new hd ho
    have hb3 := b_al hb2 (.cells #[.int .i64 P.state, .slice dA P.done.length dc, .slice oA P.opn.length oc, .int .i64 P.rework] 29)
    clear hd ho HL HR1
    go_wp2_with fail
    refine (HR2.out _ hb3).mono ?_
    rintro e w3 ⟨dv2, ov2, rfl, hd2, ho2, hb4⟩
    have hb5 := b_tr hb3 hb4
    replace hP := hP.below hb4
    clear hb3 hb4 HR2
    by_cases hE1 : E1 = 0
    · subst hE1
      obtain ⟨E, Q, hS⟩ : ∃ E Q, Pr.stepR l P ev.1 ev.2 most = (E, Q) := ⟨_, _, rfl⟩
      have hR2 : R2 = ⟨E, Q, if E = 0 then 0 else (k : Int)⟩ := by
        have h := HSN.out
        unfold thenStep at h
        rw [if_pos rfl] at h
        dsimp only at h
        rw [hS] at h
        by_cases hE : E = 0
        · rw [if_pos hE] at h ⊢; rw [h, hE]
        · have hz := HZ.out P
          rw [hS] at hz
          rw [if_neg hE] at h ⊢
          have h2 : Q = Pr.zeroP := hz hE
          rw [h, h2]
      obtain ⟨M, hM⟩ : ∃ M, (if E = 0 then (0 : Int) else (k : Int)) = M := ⟨_, rfl⟩
      rw [hM] at hR2
      have HM := Lib.hid hM
      clear hM
      subst hR2
      have hLp := HLn.out rfl
      have hLq : Q.done.length ≤ 1000 ∧ Q.opn.length ≤ 1000 := by
        by_cases hE : E = 0
        · have h := HLq.out P
          rw [hS] at h
          have h2 : Ln l Q := h hE
          have := h2.d
          have := h2.o
          omega
        · have hz := HZ.out P
          rw [hS] at hz
          have h2 : Q = Pr.zeroP := hz hE
          rw [h2]
          exact ⟨by decide, by decide⟩
      have HS0 := Lib.hid (fun (W : World) (hb : Below w1.heap.size w1 W) (hd : Si W W.heap.size dA P.done) (ho : Si W W.heap.size oA P.opn) => HST.out W hb P dA dc oA oc hd ho (by have := hLp.d; omega) (by have := hLp.o; omega))
      rw [hS] at HS0
      dsimp only at hd2 ho2
      obtain ⟨dA2, dc2, rfl, _, _, _, _⟩ := hd2.shape
      obtain ⟨oA2, oc2, rfl, _, _, _, _⟩ := ho2.shape
      have hQ2 := Pc.new hd2 ho2
      have hbk := b_al hb5 (.cells #[.int .i64 Q.state, .slice dA2 Q.done.length dc2, .slice oA2 Q.opn.length oc2, .int .i64 Q.rework] 29)
      replace hP := hP.below (b_new w3 (.cells #[.int .i64 Q.state, .slice dA2 Q.done.length dc2, .slice oA2 Q.opn.length oc2, .int .i64 Q.rework] 29))
      clear hd2 ho2 HST HZ HLq HLn hLp HSN hS hb5
      go_upto_region 8 with fail
      generalize w3.alloc (.cells #[.int .i64 Q.state, .slice dA2 Q.done.length dc2, .slice oA2 Q.opn.length oc2, .int .i64 Q.rework] 29) = wk at *
      generalize w3.heap.size = g2 at *
      generalize w2.heap.size = g1 at *
      have k0 := hP.c0
      have k1 := hP.c1
      have k2 := hP.c2
      have k3 := hP.c3
      have hgk := hP.gl
      have hbkb : b < wk.heap.size := Nat.lt_of_lt_of_le hbb hbk.size
      have k4 := (hbk.cell (p := ⟨b, off + k * 2, none⟩) hbb).trans e0
      have k5 := (hbk.cell (p := ⟨b, off + k * 2 + 1, none⟩) hbb).trans e1
      go_cut [14, 15] (fun sx sy wx => ∃ g dA dc oA oc, sx = .pointer (some ⟨g, 0, none⟩) ∧ sy = .int .i64 E ∧ Pc wx wk.heap.size g (.slice dA Q.done.length dc) (.slice oA Q.opn.length oc) Q ∧ Below wk.heap.size wk wx)
      case first =>
        have HSd := oi_si hP.hd
        have HSo := oi_si hP.ho
        have HS := Lib.hid (fun W (hW : HeldS wk g1 P.state (.slice dA P.done.length dc) (.slice oA P.opn.length oc) P.rework b (off + k * 2) ev.1 ev.2 W) => HS0.out W (b_tr hbk hW.2.2.2.2.2.2) ((HSd.below hW.2.2.2.2.2.2).more hW.2.2.2.2.2.2.size) ((HSo.below hW.2.2.2.2.2.2).more hW.2.2.2.2.2.2.size))
        have HKp := Lib.hid (fun W W' (hbn : Below W.heap.size W W') (hW : HeldS wk g1 P.state (.slice dA P.done.length dc) (.slice oA P.opn.length oc) P.rework b (off + k * 2) ev.1 ev.2 W) => HeldS.keep hgk hbkb hbn hW)
        have HSt : Hid (HeldS wk g1 P.state (.slice dA P.done.length dc) (.slice oA P.opn.length oc) P.rework b (off + k * 2) ev.1 ev.2 wk.drew) := ⟨k0, k1, k2, k3, k4, k5, below_drewN (Below.refl _ _) 1⟩
        have HSz := Lib.hid (fun W (hW : HeldS wk g1 P.state (.slice dA P.done.length dc) (.slice oA P.opn.length oc) P.rework b (off + k * 2) ev.1 ev.2 W) => hW.2.2.2.2.2.2.size)
        have HSet := Lib.hid (fun W G (hG : wk.heap.size ≤ G) (hW : HeldS wk g1 P.state (.slice dA P.done.length dc) (.slice oA P.opn.length oc) P.rework b (off + k * 2) ev.1 ev.2 W) u0 u1 u2 u3 => HeldS.set (j := 3) hG hgk hbkb u3 (HeldS.set (j := 2) hG hgk hbkb u2 (HeldS.set (j := 1) hG hgk hbkb u1 (HeldS.set (j := 0) hG hgk hbkb u0 hW))))
        clear HSd HSo HS0 hP hQ2 e0 e1
        go_region_held3 (fun w' => w'.cell? ⟨g1, 0, none⟩ = some (.int .i64 P.state) ∧ w'.cell? ⟨g1, 1, none⟩ = some (.slice dA P.done.length dc) ∧ w'.cell? ⟨g1, 2, none⟩ = some (.slice oA P.opn.length oc) ∧ w'.cell? ⟨g1, 3, none⟩ = some (.int .i64 P.rework) ∧ w'.cell? ⟨b, off + k * 2, none⟩ = some (.int .i64 ev.1) ∧ w'.cell? ⟨b, off + k * 2 + 1, none⟩ = some (.int .i64 ev.2) ∧ Below wk.heap.size wk w')
          (first | (with_reducible exact HSt.out) | (with_reducible exact HKp.out _ _ hbn (by with_reducible assumption)) | (with_reducible exact HKp.out _ _ (b_new _ _) (by with_reducible assumption)) | (with_reducible exact HSet.out _ _ (HSz.out _ (by with_reducible assumption)) (by with_reducible assumption) _ _ _ _) | (with_reducible exact HSet.out _ _ (Nat.le_refl _) (by with_reducible assumption) _ _ _ _))
          (first | (go_at_call 18; (with_reducible refine (HS.out _ (by with_reducible assumption)).mono ?_); rintro e w' ⟨dv1, ov1, rfl, hd1, ho1, hbn⟩; obtain ⟨dA1, dc1, rfl, _, _, _, _⟩ := hd1.shape; obtain ⟨oA1, oc1, rfl, _, _, _, _⟩ := ho1.shape; (try (have z := (Z4.new _).below hbn)); (try (have z := (Z4.newd _).below hbn)); (try (have z := z.below hbn)); (try (obtain ⟨z0, z1, z2, z3, zf, zl⟩ := id z)); have hS := HKp.out _ _ hbn (by with_reducible assumption)))
        · have hSS := hS
          have hzz := HSz.out _ hSS
          go_wp2_with fail
          go_meet
          case rel => exact ⟨_, _, _, _, _, rfl, rfl, (Pc.new (p := Q) hd1 ho1).base (Nat.le_refl _), (HKp.out _ _ (b_new _ _) hSS).2.2.2.2.2.2⟩
        · have hSS := hS
          have hbs : wk.heap.size < (wk.alloc (.cells #[.int .i64 0, .slice none 0 0, .slice none 0 0, .int .i64 0] 29)).heap.size := by simp
          go_wp2_with fail
          go_meet
          case rel => exact ⟨_, _, _, _, _, rfl, rfl, Pc.put (p' := Q) (z.pc wk.heap.size) hd1 ho1 (Nat.le_of_lt hbs) hbs, (HSet.out _ _ (Nat.le_refl _) hSS _ _ _ _).2.2.2.2.2.2⟩
      case rest =>
        obtain ⟨g3, dA3, dc3, oA3, oc3, rfl, rfl, hX, hB⟩ := hcut
        obtain ⟨wb, hww⟩ : ∃ W : World, W = wc := ⟨_, rfl⟩
        subst hww
        replace hQ2 := hQ2.below hB
        have hbb2 := b_tr hbk hB
        have y0 := hQ2.c0
        have y1 := hQ2.c1
        have y2 := hQ2.c2
        have y3 := hQ2.c3
        have x0 := hX.c0
        have x1 := hX.c1
        have x2 := hX.c2
        have x3 := hX.c3
        have HX := Lib.hid (same_yes dA2 oA2 dA3 oA3 dc2 oc2 dc3 oc3 Q wb (oi_si hQ2.hd) (oi_si hQ2.ho) (oi_si hX.hd) (oi_si hX.ho) (by omega) (by omega))
        clear hX hQ2 hB hP k0 k1 k2 k3 k4 k5 HS0
        by_cases hE : E = 0
        · subst hE
          go_wp2_with fail
          refine HX.out.mono ?_
          rintro e w6 ⟨rfl, hb6⟩
          go_wp2_with fail
          refine (HA.out _).mono ?_
          rintro e w7 ⟨rfl, hb7⟩
          go_wp2
          go_ret
          exact ⟨rfl, b_tr (b_tr hbb2 hb6) hb7⟩
        · have hE' : (E == 0) = false := by simpa using hE
          have hMk := HM.out
          rw [if_neg hE] at hMk
          subst hMk
          go_wp2_with fail
          refine HX.out.mono ?_
          rintro e w6 ⟨rfl, hb6⟩
          go_wp2_with fail
          refine (HA.out _).mono ?_
          rintro e w7 ⟨rfl, hb7⟩
          go_wp2
          go_ret
          exact ⟨rfl, b_tr (b_tr hbb2 hb6) hb7⟩
    · have hR2 : R2 = ⟨E1, P, N1⟩ := by
        have h := HSN.out
        unfold thenStep at h
        rw [if_neg hE1] at h
        exact h
      subst hR2
      have hE' : (E1 == 0) = false := by simpa using hE1
      dsimp only at hd2 ho2
      obtain ⟨dA2, dc2, rfl, _, _, _, _⟩ := hd2.shape
      obtain ⟨oA2, oc2, rfl, _, _, _, _⟩ := ho2.shape
      clear HST HZ HLq HLn HSN hP hd2 ho2
      go_wp2_with fail
      refine (HA.out _).mono ?_
      rintro e w7 ⟨rfl, hb7⟩
      go_wp2
      go_ret
      exact ⟨rfl, b_tr (b_al hb5 _) hb7⟩
  · have g1' : lightB l = false := by simpa using g1
    rw [g1'] at HL
    go_enter Try.func8, Try.ntmps8
    go_wp2_with fail
    refine HL.out.mono ?_
    rintro e w1 ⟨rfl, rfl⟩
    go_wp2_with fail
    refine (HA.out _).mono ?_
    rintro e w2 ⟨rfl, hb⟩
    go_wp2
    go_ret
    exact ⟨rfl, hb⟩

set_option maxRecDepth 100000 in
theorem lifted (os : Os) (started : os.Started) (H : Type) (enc : TypeId × Value → H) :
    ReturnsInHanded {} Try.checked os 8 .any (Rows.reworkBeginsSpec.pre6 enc Try.prog Try.f8 Rows.reworkBeginsRow.domain false) (Rows.reworkBeginsSpec.post enc Try.prog Try.f8 false true false false) := by
  refine returnsInHanded_of_change (C := Try.checked) own started (by kernel_rfl) Try.func8
    (ChangeSpec.witness6 (enc := enc) (C := Try.checked) false ⟨#[], #[.slice none 0 0, .slice none 0 0, .int .i64 0], []⟩ 8 (by kernel_rfl) (by kernel_rfl) (by kernel_rfl) (by kernel_rfl)) ?_
  intro W base args ds gs before hval0 hW hcnd _
  have hval : ∀ (j : Nat) t v, Try.f8.params[j]? = some t → args[j]? = some v → Value.okWide Try.prog W .any base t v := hval0
  have hW' := hW
  obtain ⟨p, q, hA0, hV, rfl, hfz, hnd⟩ := hW
  have hA : DataW.TrodAll enc Try.prog W 0 (fun _ => true) true Try.f8.params.toList args.toList ds p := hA0
  rw [Try.params8] at hA hval
  obtain ⟨v0, vs0, d0, ds0, p0, qq0, hargs, rfl, rfl, h0, r0⟩ := trodAll_cons hA
  obtain ⟨v1, vs1, d1, ds1, p1, qq1, rfl, rfl, rfl, h1, r1⟩ := trodAll_cons r0
  obtain ⟨v2, vs2, d2, ds2, p2, qq2, rfl, rfl, rfl, h2, r2⟩ := trodAll_cons r1
  obtain ⟨rfl, rfl, rfl⟩ := trodAll_nil r2
  obtain rfl : args = #[v0, v1, v2] := by cases args; simp_all
  obtain ⟨rfl, rfl⟩ := trodVars_none hV
  obtain ⟨a0, len0, cap0, rfl⟩ := okWide_slice Try.underlying22 (hval 0 22 v0 rfl rfl)
  have k0 := h0
  have lt0 : ∀ x ∈ p0, x.block < W.heap.size := by obtain ⟨m, hm⟩ := k0; exact DataW.trod_lt m _ _ _ hm
  obtain ⟨l0, w0⟩ : ∃ l, CameO W a0 len0 cap0 l := by
    obtain ⟨fuel, hf⟩ := h0
    exact open_ops (by simpa [Value.cells] using hf)
  obtain ⟨a1, len1, cap1, rfl⟩ := okWide_slice Try.underlying23 (hval 1 23 v1 rfl rfl)
  have k1 := h1
  have lt1 : ∀ x ∈ p1, x.block < W.heap.size := by obtain ⟨m, hm⟩ := k1; exact DataW.trod_lt m _ _ _ hm
  obtain ⟨l1, w1⟩ : ∃ l, CameE W a1 len1 cap1 l := by
    obtain ⟨fuel, hf⟩ := h1
    exact open_evs (by simpa [Value.cells] using hf)
  obtain ⟨a2, rfl, rfl, rfl, w2⟩ := open_int Try.underlying3 (hval 2 3 v2 rfl rfl) h2
  clear hA0 hval0
  refine (walk a0 len0 cap0 l0 a1 len1 cap1 l1 a2 W w0 w1 w2).mono fun e W' ⟨he, bel⟩ => ?_
  subst he
  exact ⟨_, rfl, _, _, _, [], _, [], hW', trodAll_mk1 (shut_bool Try.underlying4 _), (trodAll_cons_mk (Below.trod laidOut (by kernel_rfl) (of_decide_eq_true (by kernel_rfl)) k0 bel lt0) (trodAll_cons_mk (Below.trod laidOut (by kernel_rfl) (of_decide_eq_true (by kernel_rfl)) k1 bel lt1) (trodAll_cons_mk (shut_int Try.underlying3 w2) trodAll_mk0))), rfl, bel.frame _, fun h => by cases h⟩

theorem over : Rows.reworkBeginsRow.holds Try.pinned (OpenSpec.ofChange Rows.reworkBeginsSpec) :=
  OpenClaim.holds_of_wide 8 Try.f8 rfl rfl rfl rfl rfl rfl rfl ⟨rfl, rfl, rfl, rfl, rfl⟩ rfl rfl rfl rfl rfl (by kernel_rfl) Try.func8 (by kernel_rfl)
    (of_decide_eq_true (by kernel_rfl)) (by unfold Func.isWrapper; first | (rw [if_pos (by decide +kernel)]; kernel_rfl) | (rw [if_neg (by decide +kernel)]; exact ⟨rfl, rfl⟩))
    (fun os started H enc _ => lifted os started H enc)

theorem proved : Rows.ReworkBeginsSaid := over
#print axioms proved
end Go.Proofs.Ytcolekfjmhgldaa.begins
