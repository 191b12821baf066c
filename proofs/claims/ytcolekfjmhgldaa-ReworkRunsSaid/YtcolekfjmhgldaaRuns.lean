/- ReworkRuns: Run and Times return the specified results, or the specified error and event, for any operations and events. Conditions: none beyond the statement's own. -/
import Derived.Test.YtcolekfjmhgldaaRh
import Derived.Test.YtcolekfjmhgldaaYc
import Derived.Test.YtcolekfjmhgldaaPlb
namespace Go.Proofs.Ytcolekfjmhgldaa.runs
open Go.ChangeShapes Go.WideShapes Go.ChangeAt Go.RowKit Go.Deep
open Pr (Opn Prg Res)

/-- operations that came in, with the room of their lists -/
def CameC (w : World) (A : Option Addr) (len cap : Nat) (l : List Opn) : Prop := CameO w A len cap l ∧ Cap w A len

theorem runR_lens {l : List Opn} {es : List (Int × Int)} {most : Int} (h : l.length ≤ 20) : (Pr.runR l es most).prg.done.length ≤ 1000 ∧ (Pr.runR l es most).prg.opn.length ≤ 1000 := by
  by_cases h0 : (Pr.runR l es most).err = 0
  · have h1 := runR_len h0
    have := h1.d
    have := h1.o
    omega
  · rw [run_bad h0]
    exact ⟨by decide, by decide⟩

set_option maxRecDepth 100000 in
set_option maxHeartbeats 4000000 in
theorem walk (A : Option Addr) (len c : Nat) (l : List Opn) (eA : Option Addr) (elen ec : Nat) (es : List (Int × Int)) (most : Int) (w : World) (h0 : CameC w A len c l) (h1 : CameE w eA elen ec es) (_h2 : (Lit.int .i64 most).wf = true) :
    Calls Try.prog 5 #[.slice A len c, .slice eA elen ec, .int .i64 most] w fun e w' => e = .returned (.bool true) ∧ Below w.heap.size w w' := by
  obtain ⟨⟨rfl, hc, hcm, hl, hwf⟩, hcap⟩ := h0
  obtain ⟨rfl, hec, hecm, hes⟩ := h1
  have HA := Lib.hid (fun W => alive_any W)
  have HL := Lib.hid (light_any A c l w hl (Nat.le_trans hc hcm))
  by_cases g1 : lightB l = true
  · obtain ⟨hk, hl20, ha20⟩ := light_oks g1 hwf
    rw [g1] at HL
    by_cases g2 : (80 : Int) < (es.length : Int)
    · go_enter Try.func5, Try.ntmps5
      go_wp2_with fail
      refine HL.out.mono ?_
      rintro e w1 ⟨rfl, rfl⟩
      go_wp2_with fail
      refine (HA.out _).mono ?_
      rintro e w2 ⟨rfl, hb⟩
      go_wp2
      go_ret
      exact ⟨rfl, hb⟩
    have HR1 := Lib.hid (run_any A c l eA ec es most w hl hk hc hcm hes (by omega))
    have HR2 := Lib.hid (fun (W : World) (hb : Below w.heap.size w W) => rrun_any A c l eA ec es most W (hl.to hb) hk (hcap.to hl hb) (hes.to hb) (by omega))
    have HT1 := Lib.hid (fun (W : World) (hb : Below w.heap.size w W) => times_any A c l eA ec es most W (hl.to hb) hk hc hcm (hes.to hb) (by omega))
    have HT2 := Lib.hid (fun (W : World) (hb : Below w.heap.size w W) => rtimes_any A c l eA ec es most W (hl.to hb) hk (hcap.to hl hb) (hes.to hb) (by omega))
    obtain ⟨n1, n2⟩ := runR_lens (es := es) (most := most) hl20
    generalize Pr.runR l es most = R at *
    obtain ⟨E, P, N⟩ := R
    dsimp only at n1 n2
    clear hl hk hcap hwf ha20 hc hcm hes
    go_enter Try.func5, Try.ntmps5
    go_wp2_with fail
    refine HL.out.mono ?_
    rintro e w ⟨rfl, rfl⟩
    go_wp2_with fail
    refine HR1.out.mono ?_
    rintro e w2 ⟨dv, ov, rfl, hd2, ho2, hb2⟩
    dsimp only at hd2 ho2
    obtain ⟨dA2, dc2, rfl, -⟩ := hd2.shape
    obtain ⟨oA2, oc2, rfl, -⟩ := ho2.shape
    have hX := Pc.new hd2 ho2
    have hbw2 := b_al hb2 (.cells #[.int .i64 P.state, .slice dA2 P.done.length dc2, .slice oA2 P.opn.length oc2, .int .i64 P.rework] 29)
    clear hd2 ho2 HL HR1 hb2
    go_wp2_with fail
    refine (HR2.out _ hbw2).mono ?_
    generalize w2.heap.size = gx at *
    generalize w2.alloc (.cells #[.int .i64 P.state, .slice dA2 P.done.length dc2, .slice oA2 P.opn.length oc2, .int .i64 P.rework] 29) = W2 at *
    rintro e w3 ⟨dv, ov, rfl, hd3, ho3, hb3⟩
    dsimp only at hd3 ho3
    obtain ⟨dA3, dc3, rfl, -⟩ := hd3.shape
    obtain ⟨oA3, oc3, rfl, -⟩ := ho3.shape
    have hY := Pc.new hd3 ho3
    have hB3 := b_al hb3 (.cells #[.int .i64 P.state, .slice dA3 P.done.length dc3, .slice oA3 P.opn.length oc3, .int .i64 P.rework] 29)
    have hbw3 := b_tr hbw2 hB3
    replace hX := hX.below hB3
    clear hd3 ho3 hB3 hb3 hbw2 HR2
    go_wp2_with fail
    refine (HT1.out _ hbw3).mono ?_
    generalize w3.heap.size = gy at *
    generalize w3.alloc (.cells #[.int .i64 P.state, .slice dA3 P.done.length dc3, .slice oA3 P.opn.length oc3, .int .i64 P.rework] 29) = W3 at *
    rintro e w4 ⟨dv, rfl, hd4, hb4⟩
    dsimp only at hd4
    obtain ⟨dA4, dc4, rfl, -⟩ := hd4.shape
    have hbw4 := b_tr hbw3 hb4
    replace hX := hX.below hb4
    replace hY := hY.below hb4
    clear hb4 hbw3 HT1
    go_wp2_with fail
    refine (HT2.out _ hbw4).mono ?_
    rintro e w5 ⟨dv, rfl, hd5, hb5⟩
    dsimp only at hd5
    obtain ⟨dA5, dc5, rfl, -⟩ := hd5.shape
    have hbw5 := b_tr hbw4 hb5
    replace hX := hX.below hb5
    replace hY := hY.below hb5
    replace hd4 := hd4.below hb5
    clear hb5 hbw4 HT2
    have HX := Lib.hid (same_yes dA2 oA2 dA3 oA3 dc2 oc2 dc3 oc3 P w5 (oi_si hX.hd) (oi_si hX.ho) (oi_si hY.hd) (oi_si hY.ho) (by omega) (by omega))
    have x0 := hX.c0
    have x1 := hX.c1
    have x2 := hX.c2
    have x3 := hX.c3
    have y0 := hY.c0
    have y1 := hY.c1
    have y2 := hY.c2
    have y3 := hY.c3
    clear hX hY
    go_wp2_with fail
    refine HX.out.mono ?_
    rintro e w6 ⟨rfl, hb6⟩
    have hbw6 := b_tr hbw5 hb6
    have HZ := Lib.hid (sameInts_b dA4 dA5 dc4 dc5 P.done w6 (oi_si (hd4.below hb6)) (oi_si (hd5.below hb6)) (by omega))
    clear x0 x1 x2 x3 y0 y1 y2 y3 HX hb6 hbw5 hd4 hd5
    go_wp2_with fail
    refine HZ.out.mono ?_
    rintro e w7 ⟨rfl, hb7⟩
    go_wp2_with fail
    refine (HA.out _).mono ?_
    rintro e w8 ⟨rfl, hb8⟩
    go_wp2
    go_ret
    exact ⟨rfl, b_tr (b_tr hbw6 hb7) hb8⟩
  · have g1' : lightB l = false := by simpa using g1
    rw [g1'] at HL
    go_enter Try.func5, Try.ntmps5
    go_wp2_with fail
    refine HL.out.mono ?_
    rintro e w1 ⟨rfl, rfl⟩
    go_wp2_with fail
    refine (HA.out _).mono ?_
    rintro e w2 ⟨rfl, hb⟩
    go_wp2
    go_ret
    exact ⟨rfl, hb⟩

set_option maxRecDepth 100000 in
theorem lifted (os : Os) (started : os.Started) (H : Type) (enc : TypeId × Value → H) :
    ReturnsInHanded {} Try.checked os 5 .any (Rows.reworkRunsSpec.pre6 enc Try.prog Try.f5 Rows.reworkRunsRow.domain false) (Rows.reworkRunsSpec.post enc Try.prog Try.f5 false true false false) := by
  refine returnsInHanded_of_change (C := Try.checked) own started (by kernel_rfl) Try.func5
    (ChangeSpec.witness6 (enc := enc) (C := Try.checked) false ⟨#[], #[.slice none 0 0, .slice none 0 0, .int .i64 0], []⟩ 8 (by kernel_rfl) (by kernel_rfl) (by kernel_rfl) (by kernel_rfl)) ?_
  intro W base args ds gs before hval0 hW hcnd _
  have hval : ∀ (j : Nat) t v, Try.f5.params[j]? = some t → args[j]? = some v → Value.okWide Try.prog W .any base t v := hval0
  have hW' := hW
  obtain ⟨p, q, hA0, hV, rfl, hfz, hnd⟩ := hW
  have hA : DataW.TrodAll enc Try.prog W 0 (fun _ => true) true Try.f5.params.toList args.toList ds p := hA0
  rw [Try.params5] at hA hval
  obtain ⟨v0, vs0, d0, ds0, p0, qq0, hargs, rfl, rfl, h0, r0⟩ := trodAll_cons hA
  obtain ⟨v1, vs1, d1, ds1, p1, qq1, rfl, rfl, rfl, h1, r1⟩ := trodAll_cons r0
  obtain ⟨v2, vs2, d2, ds2, p2, qq2, rfl, rfl, rfl, h2, r2⟩ := trodAll_cons r1
  obtain ⟨rfl, rfl, rfl⟩ := trodAll_nil r2
  obtain rfl : args = #[v0, v1, v2] := by cases args; simp_all
  obtain ⟨rfl, rfl⟩ := trodVars_none hV
  obtain ⟨a0, len0, cap0, rfl⟩ := okWide_slice Try.underlying22 (hval 0 22 v0 rfl rfl)
  have k0 := h0
  have lt0 : ∀ x ∈ p0, x.block < W.heap.size := by obtain ⟨m, hm⟩ := k0; exact DataW.trod_lt m _ _ _ hm
  obtain ⟨l0, w0⟩ : ∃ l, CameC W a0 len0 cap0 l := by
    obtain ⟨fuel, hf⟩ := h0
    have hf' : DataW.trod enc Try.prog W 0 (fun _ => true) true fuel 22 [.slice a0 len0 cap0] = some (d0, p0) := by simpa [Value.cells] using hf
    obtain ⟨l, hl⟩ := open_ops hf'
    exact ⟨l, hl, open_caps hf'⟩
  obtain ⟨a1, len1, cap1, rfl⟩ := okWide_slice Try.underlying23 (hval 1 23 v1 rfl rfl)
  have k1 := h1
  have lt1 : ∀ x ∈ p1, x.block < W.heap.size := by obtain ⟨m, hm⟩ := k1; exact DataW.trod_lt m _ _ _ hm
  obtain ⟨l1, w1⟩ : ∃ l, CameE W a1 len1 cap1 l := by
    obtain ⟨fuel, hf⟩ := h1
    exact open_evs (by simpa [Value.cells] using hf)
  obtain ⟨a2, rfl, rfl, rfl, w2⟩ := open_int Try.underlying3 (hval 2 3 v2 rfl rfl) h2
  clear hA0 hval0
  refine (walk a0 len0 cap0 l0 a1 len1 cap1 l1 a2 W w0 w1 w2).mono fun e W' ⟨he, bel⟩ => ?_
  subst he
  exact ⟨_, rfl, _, _, _, [], _, [], hW', trodAll_mk1 (shut_bool Try.underlying4 _), (trodAll_cons_mk (Below.trod laidOut (by kernel_rfl) (of_decide_eq_true (by kernel_rfl)) k0 bel lt0) (trodAll_cons_mk (Below.trod laidOut (by kernel_rfl) (of_decide_eq_true (by kernel_rfl)) k1 bel lt1) (trodAll_cons_mk (shut_int Try.underlying3 w2) trodAll_mk0))), rfl, bel.frame _, fun h => by cases h⟩

theorem over : Rows.reworkRunsRow.holds Try.pinned (OpenSpec.ofChange Rows.reworkRunsSpec) :=
  OpenClaim.holds_of_wide 5 Try.f5 rfl rfl rfl rfl rfl rfl rfl ⟨rfl, rfl, rfl, rfl, rfl⟩ rfl rfl rfl rfl rfl (by kernel_rfl) Try.func5 (by kernel_rfl)
    (of_decide_eq_true (by kernel_rfl)) (by unfold Func.isWrapper; first | (rw [if_pos (by decide +kernel)]; kernel_rfl) | (rw [if_neg (by decide +kernel)]; exact ⟨rfl, rfl⟩))
    (fun os started H enc _ => lifted os started H enc)

theorem proved : Rows.ReworkRunsSaid := over
#print axioms proved
end Go.Proofs.Ytcolekfjmhgldaa.runs
