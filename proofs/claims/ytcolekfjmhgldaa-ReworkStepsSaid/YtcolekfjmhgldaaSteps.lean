/- ReworkSteps: New and Step return the specified progress, or the specified error, for any operations, progress and event. Conditions: none beyond the statement's own. -/
import Derived.Test.YtcolekfjmhgldaaRg
import Derived.Test.YtcolekfjmhgldaaYc
namespace Go.Proofs.Ytcolekfjmhgldaa.steps
open Go.ChangeShapes Go.WideShapes Go.ChangeAt Go.RowKit Go.Deep
open Pr (Opn Prg Res)

/-- operations that came in, with the room of their lists -/
def CameC (w : World) (A : Option Addr) (len cap : Nat) (l : List Opn) : Prop := CameO w A len cap l ∧ Cap w A len

/-- an act in block g -/
structure Ac (w : World) (g : Nat) (ak ao am : Int) : Prop where
  c0 : w.cell? ⟨g, 0, none⟩ = some (.int .i64 ak)
  c1 : w.cell? ⟨g, 1, none⟩ = some (.int .i64 ao)
  c2 : w.cell? ⟨g, 2, none⟩ = some (.int .i64 am)
  gl : g < w.heap.size
theorem Ac.below {w w' : World} {g : Nat} {ak ao am : Int} (h : Ac w g ak ao am) (hb : Below w.heap.size w w') : Ac w' g ak ao am where
  c0 := (hb.cell (p := ⟨g, 0, none⟩) h.gl).trans h.c0
  c1 := (hb.cell (p := ⟨g, 1, none⟩) h.gl).trans h.c1
  c2 := (hb.cell (p := ⟨g, 2, none⟩) h.gl).trans h.c2
  gl := Nat.lt_of_lt_of_le h.gl hb.size
theorem ac2 (w : World) (o : Obj) (ak ao am : Int) : Ac ((w.alloc o).alloc (.cells #[.int .i64 ak, .int .i64 ao, .int .i64 am] 39)) (w.heap.size + 1) ak ao am := by
  have hsz : (w.alloc o).heap.size = w.heap.size + 1 := size_al _ _
  refine ⟨?_, ?_, ?_, by rw [size_al, size_al]; omega⟩
  · rw [← hsz]; simp
  · rw [← hsz]; simp
  · rw [← hsz]; simp
theorem newR_len {l : List Opn} (h : l.length ≤ 20) : (newR l).2.done.length ≤ 1000 ∧ (newR l).2.opn.length ≤ 1000 := by
  unfold newR
  split
  · have := (newP_len l).d
    have := (newP_len l).o
    dsimp only
    omega
  · exact ⟨Nat.zero_le _, Nat.zero_le _⟩
theorem stepR_lens {l : List Opn} {p : Prg} {k op most : Int} (h : l.length ≤ 20) : (Pr.stepR l p k op most).2.done.length ≤ 1000 ∧ (Pr.stepR l p k op most).2.opn.length ≤ 1000 := by
  by_cases h0 : (Pr.stepR l p k op most).1 = 0
  · have h1 := stepR_len h0
    have := h1.d
    have := h1.o
    omega
  · rw [stepR_zero h0]
    exact ⟨by decide, by decide⟩

set_option maxRecDepth 100000 in
set_option maxHeartbeats 4000000 in
theorem walk (A : Option Addr) (len c : Nat) (l : List Opn) (dA : Option Addr) (dc : Nat) (oA : Option Addr) (oc : Nat) (p : Prg) (ak ao am : Int) (w : World) (h0 : CameC w A len c l) (hd : Si w w.heap.size dA p.done) (ho : Si w w.heap.size oA p.opn) :
    Calls Try.prog 4 #[.slice A len c, .agg #[.int .i64 p.state, .slice dA p.done.length dc, .slice oA p.opn.length oc, .int .i64 p.rework], .agg #[.int .i64 ak, .int .i64 ao, .int .i64 am]] w fun e w' => e = .returned (.bool true) ∧ Below w.heap.size w w' := by
  obtain ⟨⟨rfl, hc, hcm, hl, hwf⟩, hcap⟩ := h0
  have HA := Lib.hid (fun W => alive_any W)
  have hb1 := b_al (b_new w (.cells #[.int .i64 p.state, .slice dA p.done.length dc, .slice oA p.opn.length oc, .int .i64 p.rework] 29)) (.cells #[.int .i64 ak, .int .i64 ao, .int .i64 am] 39)
  have hx1 := (bx1 w p.state (.slice dA p.done.length dc) (.slice oA p.opn.length oc) p.rework).below (b_new _ (.cells #[.int .i64 ak, .int .i64 ao, .int .i64 am] 39))
  have ha1 := ac2 w (.cells #[.int .i64 p.state, .slice dA p.done.length dc, .slice oA p.opn.length oc, .int .i64 p.rework] 29) ak ao am
  have HL := Lib.hid (light_any A c l _ (hl.to hb1) (Nat.le_trans hc hcm))
  have h34 := cells34
  by_cases g1 : lightB l = true
  · obtain ⟨hk, hl20, ha20⟩ := light_oks g1 hwf
    rw [g1] at HL
    by_cases g2 : (40 : Int) < (p.done.length : Int)
    · go_enter Try.func4, Try.ntmps4
      go_upto_region 1 with fail
      generalize (w.alloc (.cells #[.int .i64 p.state, .slice dA p.done.length dc, .slice oA p.opn.length oc, .int .i64 p.rework] 29)).alloc (.cells #[.int .i64 ak, .int .i64 ao, .int .i64 am] 39) = W1 at *
      obtain ⟨r0, r1, r2, r3, rl⟩ := id hx1
      go_wp2_with fail
      refine HL.out.mono ?_
      rintro e W1 ⟨rfl, rfl⟩
      go_wp2_with fail
      refine (HA.out _).mono ?_
      rintro e w2 ⟨rfl, hb⟩
      go_wp2
      go_ret
      exact ⟨rfl, b_tr hb1 hb⟩
    by_cases g3 : (40 : Int) < (p.opn.length : Int)
    · go_enter Try.func4, Try.ntmps4
      go_upto_region 1 with fail
      generalize (w.alloc (.cells #[.int .i64 p.state, .slice dA p.done.length dc, .slice oA p.opn.length oc, .int .i64 p.rework] 29)).alloc (.cells #[.int .i64 ak, .int .i64 ao, .int .i64 am] 39) = W1 at *
      obtain ⟨r0, r1, r2, r3, rl⟩ := id hx1
      go_wp2_with fail
      refine HL.out.mono ?_
      rintro e W1 ⟨rfl, rfl⟩
      go_wp2_with fail
      refine (HA.out _).mono ?_
      rintro e w2 ⟨rfl, hb⟩
      go_wp2
      go_ret
      exact ⟨rfl, b_tr hb1 hb⟩
    have HN1 := Lib.hid (fun (W : World) (hb : Below w.heap.size w W) => new_any A c l W (hl.to hb) hk hc hcm)
    have HN2 := Lib.hid (fun (W : World) (hb : Below w.heap.size w W) => rnew_any A c l W (hl.to hb) hk (hcap.to hl hb))
    have HS1 := Lib.hid (fun (W : World) (hb : Below w.heap.size w W) => step_any A c l W dA dc oA oc p ak ao am (hl.to hb) hk hc hcm ((hd.below hb).more hb.size) ((ho.below hb).more hb.size) (by omega) (by omega))
    have HS2 := Lib.hid (fun (W : World) (hb : Below w.heap.size w W) => rstep_any A c l W dA dc oA oc p ak ao am (hl.to hb) hk (hcap.to hl hb) ((hd.below hb).more hb.size) ((ho.below hb).more hb.size) (by omega) (by omega))
    obtain ⟨n1, n2⟩ := newR_len hl20
    obtain ⟨m1, m2⟩ := stepR_lens (p := p) (k := ak) (op := ao) (most := am) hl20
    generalize newR l = R at *
    generalize Pr.stepR l p ak ao am = S at *
    obtain ⟨E1, P1⟩ := R
    obtain ⟨E2, P2⟩ := S
    dsimp only at n1 n2 m1 m2
    clear hl hk hcap hwf ha20 hc hcm hd ho
    go_enter Try.func4, Try.ntmps4
    go_upto_region 1 with fail
    generalize (w.alloc (.cells #[.int .i64 p.state, .slice dA p.done.length dc, .slice oA p.opn.length oc, .int .i64 p.rework] 29)).alloc (.cells #[.int .i64 ak, .int .i64 ao, .int .i64 am] 39) = W1 at *
    obtain ⟨r0, r1, r2, r3, rl⟩ := id hx1
    go_wp2_with fail
    refine HL.out.mono ?_
    rintro e W1 ⟨rfl, rfl⟩
    go_wp2_with fail
    refine (HN1.out _ hb1).mono ?_
    rintro e w2 ⟨dv, ov, rfl, hd2, ho2, hb2⟩
    dsimp only at hd2 ho2
    obtain ⟨dA2, dc2, rfl, -⟩ := hd2.shape
    obtain ⟨oA2, oc2, rfl, -⟩ := ho2.shape
    have hX := Pc.new hd2 ho2
    have hB2 := b_al hb2 (.cells #[.int .i64 P1.state, .slice dA2 P1.done.length dc2, .slice oA2 P1.opn.length oc2, .int .i64 P1.rework] 29)
    have hbw2 := b_tr hb1 hB2
    clear hd2 ho2 r0 r1 r2 r3 rl HL HN1
    go_wp2_with fail
    refine (HN2.out _ hbw2).mono ?_
    have hx2 := hx1.below hB2
    have ha2 := ha1.below hB2
    clear hx1 ha1 hB2 hb2 hb1
    generalize hg1 : w2.heap.size = gx at *
    generalize w2.alloc (.cells #[.int .i64 P1.state, .slice dA2 P1.done.length dc2, .slice oA2 P1.opn.length oc2, .int .i64 P1.rework] 29) = W2 at *
    rintro e w3 ⟨dv, ov, rfl, hd3, ho3, hb3⟩
    dsimp only at hd3 ho3
    obtain ⟨dA3, dc3, rfl, -⟩ := hd3.shape
    obtain ⟨oA3, oc3, rfl, -⟩ := ho3.shape
    have hY := Pc.new hd3 ho3
    have hB3 := b_al hb3 (.cells #[.int .i64 P1.state, .slice dA3 P1.done.length dc3, .slice oA3 P1.opn.length oc3, .int .i64 P1.rework] 29)
    have hbw3 := b_tr hbw2 hB3
    replace hX := hX.below hB3
    have hx3 := hx2.below hB3
    have ha3 := ha2.below hB3
    clear hd3 ho3 hx2 ha2 hB3 hb3 hbw2 hg1 HN2
    obtain ⟨r0, r1, r2, r3, rl⟩ := id hx3
    obtain ⟨a0, a1, a2, al⟩ := id ha3
    go_wp2_with fail
    refine (HS1.out _ hbw3).mono ?_
    generalize hg1 : w3.heap.size = gy at *
    generalize w3.alloc (.cells #[.int .i64 P1.state, .slice dA3 P1.done.length dc3, .slice oA3 P1.opn.length oc3, .int .i64 P1.rework] 29) = W3 at *
    rintro e w4 ⟨dv, ov, rfl, hd4, ho4, hb4⟩
    dsimp only at hd4 ho4
    obtain ⟨dA4, dc4, rfl, -⟩ := hd4.shape
    obtain ⟨oA4, oc4, rfl, -⟩ := ho4.shape
    have hZ := Pc.new hd4 ho4
    have hB4 := b_al hb4 (.cells #[.int .i64 P2.state, .slice dA4 P2.done.length dc4, .slice oA4 P2.opn.length oc4, .int .i64 P2.rework] 29)
    have hbw4 := b_tr hbw3 hB4
    replace hX := hX.below hB4
    replace hY := hY.below hB4
    have hx4 := hx3.below hB4
    have ha4 := ha3.below hB4
    clear hd4 ho4 hx3 ha3 hB4 hb4 hbw3 hg1 HS1 r0 r1 r2 r3 rl a0 a1 a2 al
    obtain ⟨r0, r1, r2, r3, rl⟩ := id hx4
    obtain ⟨a0, a1, a2, al⟩ := id ha4
    go_wp2_with fail
    refine (HS2.out _ hbw4).mono ?_
    generalize hg1 : w4.heap.size = gz at *
    generalize w4.alloc (.cells #[.int .i64 P2.state, .slice dA4 P2.done.length dc4, .slice oA4 P2.opn.length oc4, .int .i64 P2.rework] 29) = W4 at *
    rintro e w5 ⟨dv, ov, rfl, hd5, ho5, hb5⟩
    dsimp only at hd5 ho5
    obtain ⟨dA5, dc5, rfl, -⟩ := hd5.shape
    obtain ⟨oA5, oc5, rfl, -⟩ := ho5.shape
    have hU := Pc.new hd5 ho5
    have hB5 := b_al hb5 (.cells #[.int .i64 P2.state, .slice dA5 P2.done.length dc5, .slice oA5 P2.opn.length oc5, .int .i64 P2.rework] 29)
    have hbw5 := b_tr hbw4 hB5
    replace hX := hX.below hB5
    replace hY := hY.below hB5
    replace hZ := hZ.below hB5
    clear hd5 ho5 hx4 ha4 hB5 hb5 hbw4 hg1 HS2 r0 r1 r2 r3 rl a0 a1 a2 al
    go_upto_region 7 with fail
    generalize hg1 : w5.heap.size = gu at *
    generalize w5.alloc (.cells #[.int .i64 P2.state, .slice dA5 P2.done.length dc5, .slice oA5 P2.opn.length oc5, .int .i64 P2.rework] 29) = W5 at *
    clear hg1
    have HX := Lib.hid (same_yes dA2 oA2 dA3 oA3 dc2 oc2 dc3 oc3 P1 W5 (oi_si hX.hd) (oi_si hX.ho) (oi_si hY.hd) (oi_si hY.ho) (by omega) (by omega))
    have x0 := hX.c0
    have x1 := hX.c1
    have x2 := hX.c2
    have x3 := hX.c3
    have y0 := hY.c0
    have y1 := hY.c1
    have y2 := hY.c2
    have y3 := hY.c3
    clear hX hY
    go_wp2_with fail
    refine HX.out.mono ?_
    rintro e w6 ⟨rfl, hb6⟩
    replace hZ := hZ.below hb6
    replace hU := hU.below hb6
    have hbw6 := b_tr hbw5 hb6
    have HZ := Lib.hid (same_yes dA4 oA4 dA5 oA5 dc4 oc4 dc5 oc5 P2 w6 (oi_si hZ.hd) (oi_si hZ.ho) (oi_si hU.hd) (oi_si hU.ho) (by omega) (by omega))
    clear x0 x1 x2 x3 y0 y1 y2 y3 HX hb6 hbw5
    have x0 := hZ.c0
    have x1 := hZ.c1
    have x2 := hZ.c2
    have x3 := hZ.c3
    have y0 := hU.c0
    have y1 := hU.c1
    have y2 := hU.c2
    have y3 := hU.c3
    clear hZ hU
    go_wp2_with fail
    refine HZ.out.mono ?_
    rintro e w7 ⟨rfl, hb7⟩
    go_wp2_with fail
    refine (HA.out _).mono ?_
    rintro e w8 ⟨rfl, hb8⟩
    go_wp2
    go_ret
    exact ⟨rfl, b_tr (b_tr hbw6 hb7) hb8⟩
  · have g1' : lightB l = false := by simpa using g1
    rw [g1'] at HL
    go_enter Try.func4, Try.ntmps4
    go_upto_region 1 with fail
    generalize (w.alloc (.cells #[.int .i64 p.state, .slice dA p.done.length dc, .slice oA p.opn.length oc, .int .i64 p.rework] 29)).alloc (.cells #[.int .i64 ak, .int .i64 ao, .int .i64 am] 39) = W1 at *
    go_wp2_with fail
    refine HL.out.mono ?_
    rintro e W1 ⟨rfl, rfl⟩
    go_wp2_with fail
    refine (HA.out _).mono ?_
    rintro e w2 ⟨rfl, hb⟩
    go_wp2
    go_ret
    exact ⟨rfl, b_tr hb1 hb⟩

set_option maxRecDepth 100000 in
theorem lifted (os : Os) (started : os.Started) (H : Type) (enc : TypeId × Value → H) :
    ReturnsInHanded {} Try.checked os 4 .any (Rows.reworkStepsSpec.pre6 enc Try.prog Try.f4 Rows.reworkStepsRow.domain false) (Rows.reworkStepsSpec.post enc Try.prog Try.f4 false true false false) := by
  refine returnsInHanded_of_change (C := Try.checked) own started (by kernel_rfl) Try.func4
    (ChangeSpec.witness6 (enc := enc) (C := Try.checked) false ⟨#[], #[.slice none 0 0, .agg #[.int .i64 0, .slice none 0 0, .slice none 0 0, .int .i64 0], .agg #[.int .i64 0, .int .i64 0, .int .i64 0]], []⟩ 8 (by kernel_rfl) (by kernel_rfl) (by kernel_rfl) (by kernel_rfl)) ?_
  intro W base args ds gs before hval0 hW hcnd _
  have hval : ∀ (j : Nat) t v, Try.f4.params[j]? = some t → args[j]? = some v → Value.okWide Try.prog W .any base t v := hval0
  have hW' := hW
  obtain ⟨p, q, hA0, hV, rfl, hfz, hnd⟩ := hW
  have hA : DataW.TrodAll enc Try.prog W 0 (fun _ => true) true Try.f4.params.toList args.toList ds p := hA0
  rw [Try.params4] at hA hval
  obtain ⟨v0, vs0, d0, ds0, p0, qq0, hargs, rfl, rfl, h0, r0⟩ := trodAll_cons hA
  obtain ⟨v1, vs1, d1, ds1, p1, qq1, rfl, rfl, rfl, h1, r1⟩ := trodAll_cons r0
  obtain ⟨v2, vs2, d2, ds2, p2, qq2, rfl, rfl, rfl, h2, r2⟩ := trodAll_cons r1
  obtain ⟨rfl, rfl, rfl⟩ := trodAll_nil r2
  obtain rfl : args = #[v0, v1, v2] := by cases args; simp_all
  obtain ⟨rfl, rfl⟩ := trodVars_none hV
  obtain ⟨a0, len0, cap0, rfl⟩ := okWide_slice Try.underlying22 (hval 0 22 v0 rfl rfl)
  have k0 := h0
  have lt0 : ∀ x ∈ p0, x.block < W.heap.size := by obtain ⟨m, hm⟩ := k0; exact DataW.trod_lt m _ _ _ hm
  obtain ⟨l0, w0⟩ : ∃ l, CameC W a0 len0 cap0 l := by
    obtain ⟨fuel, hf⟩ := h0
    have hf' : DataW.trod enc Try.prog W 0 (fun _ => true) true fuel 22 [.slice a0 len0 cap0] = some (d0, p0) := by simpa [Value.cells] using hf
    obtain ⟨l, hl⟩ := open_ops hf'
    exact ⟨l, hl, open_caps hf'⟩
  have k1 := h1
  have lt1 : ∀ x ∈ p1, x.block < W.heap.size := by obtain ⟨m, hm⟩ := k1; exact DataW.trod_lt m _ _ _ hm
  obtain ⟨pd1, pdc1, po1, poc1, pp1, rfl, hsd1, hso1⟩ := open_prg (hval 1 29 v1 rfl rfl) h1
  have k2 := h2
  have lt2 : ∀ x ∈ p2, x.block < W.heap.size := by obtain ⟨m, hm⟩ := k2; exact DataW.trod_lt m _ _ _ hm
  obtain ⟨ak2, ao2, am2, rfl⟩ := open_act (hval 2 39 v2 rfl rfl) h2
  clear hA0 hval0
  refine (walk a0 len0 cap0 l0 pd1 pdc1 po1 poc1 pp1 ak2 ao2 am2 W w0 hsd1 hso1).mono fun e W' ⟨he, bel⟩ => ?_
  subst he
  exact ⟨_, rfl, _, _, _, [], _, [], hW', trodAll_mk1 (shut_bool Try.underlying4 _), (trodAll_cons_mk (Below.trod laidOut (by kernel_rfl) (of_decide_eq_true (by kernel_rfl)) k0 bel lt0) (trodAll_cons_mk (Below.trod laidOut (by kernel_rfl) (of_decide_eq_true (by kernel_rfl)) k1 bel lt1) (trodAll_cons_mk (Below.trod laidOut (by kernel_rfl) (of_decide_eq_true (by kernel_rfl)) k2 bel lt2) trodAll_mk0))), rfl, bel.frame _, fun h => by cases h⟩

theorem over : Rows.reworkStepsRow.holds Try.pinned (OpenSpec.ofChange Rows.reworkStepsSpec) :=
  OpenClaim.holds_of_wide 4 Try.f4 rfl rfl rfl rfl rfl rfl rfl ⟨rfl, rfl, rfl, rfl, rfl⟩ rfl rfl rfl rfl rfl (by kernel_rfl) Try.func4 (by kernel_rfl)
    (of_decide_eq_true (by kernel_rfl)) (by unfold Func.isWrapper; first | (rw [if_pos (by decide +kernel)]; kernel_rfl) | (rw [if_neg (by decide +kernel)]; exact ⟨rfl, rfl⟩))
    (fun os started H enc _ => lifted os started H enc)

theorem proved : Rows.ReworkStepsSaid := over
#print axioms proved
end Go.Proofs.Ytcolekfjmhgldaa.steps
