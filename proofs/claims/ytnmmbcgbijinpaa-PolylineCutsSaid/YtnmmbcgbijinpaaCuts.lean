/- PolylineCuts returns true for every list of points and every number: the parts of a cut join at the point, and their lengths are the length and the rest but for 1000 each. -/
import Derived.Test.YtnmmbcgbijinpaaS
namespace Go.Proofs.Ytnmmbcgbijinpaa.cuts
open Go.ChangeShapes Go.WideShapes Go.ChangeAt Go.RowKit Go.Deep
open Pl (Pt)

theorem ne_no (p : Pt) (w : World) : (binOp .neq 30 (.agg #[.int .i64 p.1, .int .i64 p.2]) (.agg #[.int .i64 p.1, .int .i64 p.2])).run Try.prog w = .ok (.bool false) w := by
  have := nePt p p w
  simpa using this
theorem sl_at {w : World} {B : Nat} {A : Option Addr} {l : List Pt} (h : Sl w B A l) {i : Nat} {p : Pt} (hi : l[i]? = some p) :
    ∃ b off, A = some ⟨b, off, none⟩ ∧ b < B ∧ w.cell? ⟨b, off + i * 2, none⟩ = some (.int .i64 p.1) ∧ w.cell? ⟨b, off + i * 2 + 1, none⟩ = some (.int .i64 p.2) := by
  obtain ⟨h1, h2⟩ := List.getElem?_eq_some_iff.1 hi
  subst h2
  exact h.at_ i h1

set_option maxRecDepth 100000 in
set_option maxHeartbeats 2000000 in
theorem walk_ok (A : Option Addr) (cap : Nat) (l : List Pt) (at0 : Int) (w : World) (hcap : l.length ≤ cap) (hm : cap ≤ maxLen) (hsl : Sl w w.heap.size A l) (a1 : 0 ≤ at0) (a2 : at0 ≤ 4294967295) (h60 : ¬ 60 < l.length) (hck : Pl.check l = 0) :
    Calls Try.prog 6 #[.slice A l.length cap, .int .u32 at0] w fun e w' => e = .returned (.bool true) ∧ Below w.heap.size w w' := by
  obtain ⟨c1, c2, c3, c4⟩ := check_zero hck
  have hins := ins_of c3
  have hT1 : 1 ≤ Pl.total l := by
    match l, c1, hins, c4 with
    | a :: b :: r, _, hins, c4 =>
      have h1 := seg_pos' (hins 0 (by simp)) (hins 1 (by simp)) (Pl.dup_at c4 0 (by simp))
      have h2 := total_nonneg' (b :: r)
      simp only [List.getElem_cons_zero, List.getElem_cons_succ] at h1
      rw [Pl.total]
      omega
  have hTb : Pl.total l ≤ 2965820801 * 41 := by
    have := total_bound' l hins
    omega
  have hL := length_any A cap l w hsl (by omega)
  rw [hck, show lenOf l = Pl.total l by unfold lenOf; rw [if_pos hck]] at hL
  have HL := Lib.hid hL
  obtain ⟨s, hs⟩ : ∃ s, s = at0 % (Pl.total l + 1) := ⟨_, rfl⟩
  have hs0 : 0 ≤ s := by rw [hs]; exact Int.emod_nonneg _ (by omega)
  have hs1 : s ≤ Pl.total l := by have := Int.emod_lt_of_pos at0 (show 0 < Pl.total l + 1 by omega); omega
  obtain ⟨p, hok⟩ := cut_ok hck hs0 hs1
  have HAl := Lib.hid (fun W hW => by have := along_any A cap l s W hW (by omega) (by omega); rw [hok.pt, hok.err] at this; exact this)
  have HCt := Lib.hid (fun W hW => by have := cut_any A cap l s W hW (by omega) hcap hm (by omega); rw [hok.err] at this; exact this)
  unfold alongTup at HAl
  obtain ⟨ma, hpa, ma0, ma1, ma2⟩ := hok.a
  obtain ⟨mb, hpb, mb0, mb1, mb2⟩ := hok.b
  clear hok hL hck c3 c4 hins
  have hfl : l[0]? = some (l.getD 0 (0, 0)) := by rw [getD_lt (by omega)]; exact List.getElem?_eq_getElem _
  have hll : l[l.length - 1]? = some (l.getD (l.length - 1) (0, 0)) := by rw [getD_lt (by omega)]; exact List.getElem?_eq_getElem _
  generalize l.getD 0 (0, 0) = x0 at *
  generalize l.getD (l.length - 1) (0, 0) = xn at *
  generalize cutA l s = la at *
  generalize cutB l s = lb at *
  generalize Pl.total l = T at *
  have HS := Lib.hid hs
  clear hs
  have hcm := hm
  unfold maxLen at hcm
  go_enter Try.func6, Try.ntmps6
  go_wp2_with fail
  refine HL.out.mono ?_
  rintro e w1 ⟨rfl, hb1⟩
  have hsl1 := (hsl.below hb1).more hb1.size
  clear HL
  go_wp2_with fail
  rw [← HS.out]
  clear HS
  refine (HAl.out w1 hsl1).mono ?_
  rintro e w2 ⟨rfl, hb2⟩
  clear HAl
  have hB2 := b_al (b_tr hb1 hb2) (.cells #[.int .i64 p.1, .int .i64 p.2] 30)
  have hsl2 : Sl (w2.alloc (.cells #[.int .i64 p.1, .int .i64 p.2] 30)) (w2.alloc (.cells #[.int .i64 p.1, .int .i64 p.2] 30)).heap.size A l := (hsl.below hB2).more hB2.size
  obtain ⟨d1, d2⟩ := new_cell w2 (.int .i64 p.1) (.int .i64 p.2)
  clear hb1 hb2 hsl1
  go_wp2_with fail
  refine (HCt.out _ hsl2).mono ?_
  rintro e w3 ⟨va, vb, rfl, howa, howb, hb3⟩
  clear HCt
  have hB3 := b_tr hB2 hb3
  have hz3 : w2.heap.size < w3.heap.size := by have := hb3.size; rw [size_alloc'] at this; omega
  have d3 : w3.cell? ⟨w2.heap.size, 0, none⟩ = some (.int .i64 p.1) := (hb3.cell (p := ⟨w2.heap.size, 0, none⟩) (by rw [size_alloc']; show w2.heap.size < _; omega)).trans d1
  have d4 : w3.cell? ⟨w2.heap.size, 1, none⟩ = some (.int .i64 p.2) := (hb3.cell (p := ⟨w2.heap.size, 1, none⟩) (by rw [size_alloc']; show w2.heap.size < _; omega)).trans d2
  have hsl3 := (hsl.below hB3).more hB3.size
  clear d1 d2 hb3 hsl2 hB2
  obtain ⟨a2', a3', a4', a5', a6'⟩ := hpa
  obtain ⟨b2', b3', b4', b5', b6'⟩ := hpb
  have HMa := Lib.hid a6'
  have HMb := Lib.hid b6'
  clear a6' b6'
  obtain ⟨Aa, ca, rfl, _, hsa⟩ := howa.shape
  obtain ⟨Ab, cb, rfl, _, hsb⟩ := howb.shape
  obtain ⟨ba, oa, rfl, _, e1, e2⟩ := sl_at hsa a4'
  obtain ⟨ba', oa', he, _, e3, e4⟩ := sl_at hsa a5'
  injection he with he; injection he with q1 q2; subst q1 q2
  obtain ⟨bb, ob, rfl, _, e5, e6⟩ := sl_at hsb b4'
  obtain ⟨bb', ob', he, _, e7, e8⟩ := sl_at hsb b5'
  injection he with he; injection he with q1 q2; subst q1 q2
  obtain ⟨bl, ol, rfl, _, e9, e10⟩ := sl_at hsl3 hfl
  obtain ⟨bl', ol', he, _, e11, e12⟩ := sl_at hsl3 hll
  injection he with he; injection he with q1 q2; subst q1 q2
  clear a4' a5' b4' b5' hfl hll
  simp only [Nat.zero_mul, Nat.add_zero] at e1 e2 e5 e6 e9 e10
  have f0 := ne_no x0
  have f1 := ne_no p
  have f2 := ne_no xn
  have hg := eqGd
  have t1 : (0 : Int) < (la.length : Int) := by omega
  have t2 : (0 : Int) < (lb.length : Int) := by omega
  have t3 : (0 : Int) < (l.length : Int) := by omega
  have u1 : IntKind.i64.wrap ((la.length : Int) - 1) = (la.length : Int) - 1 := IntWalk.i64_in _ (by omega)
  have u2 : IntKind.i64.wrap ((lb.length : Int) - 1) = (lb.length : Int) - 1 := IntWalk.i64_in _ (by omega)
  have u3 : IntKind.i64.wrap ((l.length : Int) - 1) = (l.length : Int) - 1 := IntWalk.i64_in _ (by omega)
  have v1 : (1 : Int) ≤ (la.length : Int) := by omega
  have v2 : (1 : Int) ≤ (lb.length : Int) := by omega
  have v3 : (1 : Int) ≤ (l.length : Int) := by omega
  have v4 : (la.length : Int) - 1 < (la.length : Int) := by omega
  have v5 : (lb.length : Int) - 1 < (lb.length : Int) := by omega
  have v6 : (l.length : Int) - 1 < (l.length : Int) := by omega
  have y1 : ((la.length : Int) - 1).toNat = la.length - 1 := by omega
  have y2 : ((lb.length : Int) - 1).toNat = lb.length - 1 := by omega
  have y3 : ((l.length : Int) - 1).toNat = l.length - 1 := by omega
  have z1 : 0 < la.length := by omega
  have z2 : 0 < lb.length := by omega
  have z3 : 0 < l.length := by omega
  go_wp2
  go_quiet (fail)
  have hBq := below_drewN hB3 nq
  have hqa : Sl (w3.drewN nq) w3.heap.size (some ⟨ba, oa, none⟩) la := hsa
  have hqb : Sl (w3.drewN nq) w3.heap.size (some ⟨bb, ob, none⟩) lb := hsb
  clear e1 e2 e3 e4 e5 e6 e7 e8 e9 e10 e11 e12 d3 d4 u1 u2 u3 y1 y2 y3 f0 f1 f2
  go_wp2_with fail
  refine (measured_any _ _ la _ hqa (by omega)).mono ?_
  rintro e w4 ⟨rfl, hb4⟩
  rw [HMa.out]
  have hB4 := b_tr hBq hb4
  have hqb4 := (hqb.below hb4).more hb4.size
  go_wp2_with fail
  refine (measured_any _ _ lb _ hqb4 (by omega)).mono ?_
  rintro e w5 ⟨rfl, hb5⟩
  rw [HMb.out]
  have hB5 := b_tr hB4 hb5
  go_wp2_with fail
  refine (near_any ma s _ (by omega) (by omega)).mono ?_
  rintro e _ ⟨rfl, rfl⟩
  go_wp2_with fail
  refine (near_any mb (T - s) _ (by omega) (by omega)).mono ?_
  rintro e _ ⟨rfl, rfl⟩
  go_wp2_with fail
  refine (alive_any _).mono ?_
  rintro e w6 ⟨rfl, hb6⟩
  go_wp2
  go_ret
  exact ⟨rfl, b_tr hB5 hb6⟩

set_option maxRecDepth 100000 in
set_option maxHeartbeats 1000000 in
theorem walk (A : Option Addr) (len cap : Nat) (l : List Pt) (at0 : Int) (w : World) (h : Came w A len cap l) (wa : (Lit.int .u32 at0).wf = true) :
    Calls Try.prog 6 #[.slice A len cap, .int .u32 at0] w fun e w' => e = .returned (.bool true) ∧ Below w.heap.size w w' := by
  obtain ⟨rfl, hcap, hm, hsl⟩ := h
  obtain ⟨s1, s2⟩ := bounds_u32 wa
  clear wa
  by_cases h60 : 60 < l.length
  · unfold maxLen at hm
    go_enter Try.func6, Try.ntmps6
    go_wp2_with fail
    refine (alive_any _).mono ?_
    rintro e w1 ⟨rfl, hb1⟩
    go_wp2
    go_ret
    exact ⟨rfl, hb1⟩
  · by_cases hck : Pl.check l = 0
    · exact walk_ok A cap l at0 w hcap hm hsl s1 s2 h60 hck
    · have H1 := Lib.hid (length_any A cap l w hsl (by omega))
      have H2 := Lib.hid (fun W hW => check_any A cap l W hW (by omega))
      have hck' : (Pl.check l != 0) = true := by simpa using hck
      generalize Pl.check l = ck at *
      generalize lenOf l = ln at *
      clear hck
      unfold maxLen at hm
      go_enter Try.func6, Try.ntmps6
      go_wp2_with fail
      refine H1.out.mono ?_
      rintro e w1 ⟨rfl, hb1⟩
      go_wp2_with fail
      refine (H2.out w1 ((hsl.below hb1).more hb1.size)).mono ?_
      rintro e w2 ⟨rfl, hb2⟩
      go_wp2_with fail
      refine (alive_any _).mono ?_
      rintro e w3 ⟨rfl, hb3⟩
      go_wp2
      go_ret
      exact ⟨rfl, b_tr (b_tr hb1 hb2) hb3⟩

set_option maxRecDepth 100000 in
theorem lifted (os : Os) (started : os.Started) (H : Type) (enc : TypeId × Value → H) :
    ReturnsInHanded {} Try.checked os 6 .any (Rows.polylineCutsSpec.pre6 enc Try.prog Try.f6 Rows.polylineCutsRow.domain false) (Rows.polylineCutsSpec.post enc Try.prog Try.f6 false true false false) := by
  refine returnsInHanded_of_change (C := Try.checked) own started (by kernel_rfl) Try.func6
    (ChangeSpec.witness6 (enc := enc) (C := Try.checked) false ⟨#[], #[.slice none 0 0, .int .u32 0], []⟩ 8 (by kernel_rfl) (by kernel_rfl) (by kernel_rfl) (by kernel_rfl)) ?_
  intro W base args ds gs before hval0 hW hcnd _
  have hval : ∀ (j : Nat) t v, Try.f6.params[j]? = some t → args[j]? = some v → Value.okWide Try.prog W .any base t v := hval0
  have hW' := hW
  obtain ⟨p, q, hA0, hV, rfl, hfz, hnd⟩ := hW
  have hA : DataW.TrodAll enc Try.prog W 0 (fun _ => true) true Try.f6.params.toList args.toList ds p := hA0
  rw [Try.params6] at hA hval
  obtain ⟨v0, vs0, d0, ds0, p0, qq0, hargs, rfl, rfl, h0, r0⟩ := trodAll_cons hA
  obtain ⟨v1, vs1, d1, ds1, p1, qq1, rfl, rfl, rfl, h1, r1⟩ := trodAll_cons r0
  obtain ⟨rfl, rfl, rfl⟩ := trodAll_nil r1
  obtain rfl : args = #[v0, v1] := by cases args; simp_all
  obtain ⟨rfl, rfl⟩ := trodVars_none hV
  obtain ⟨a0, len0, cap0, rfl⟩ := okWide_slice Try.underlying22 (hval 0 22 v0 rfl rfl)
  have k0 := h0
  have lt0 : ∀ x ∈ p0, x.block < W.heap.size := by obtain ⟨m, hm⟩ := k0; exact DataW.trod_lt m _ _ _ hm
  obtain ⟨l0, w0⟩ : ∃ l, Came W a0 len0 cap0 l := by
    obtain ⟨fuel, hf⟩ := h0
    exact open_spots (by simpa [Value.cells] using hf)
  obtain ⟨a1, rfl, rfl, rfl, w1⟩ := open_int Try.underlying37 (hval 1 37 v1 rfl rfl) h1
  clear hA0 hval0
  refine (walk a0 len0 cap0 l0 a1 W w0 w1).mono fun e W' ⟨he, bel⟩ => ?_
  subst he
  exact ⟨_, rfl, _, _, _, [], _, [], hW', trodAll_mk1 (shut_bool Try.underlying4 _), (trodAll_cons_mk (Below.trod laidOut (by kernel_rfl) (of_decide_eq_true (by kernel_rfl)) k0 bel lt0) (trodAll_cons_mk (shut_int Try.underlying37 w1) trodAll_mk0)), rfl, bel.frame _, fun h => by cases h⟩

theorem over : Rows.polylineCutsRow.holds Try.pinned (OpenSpec.ofChange Rows.polylineCutsSpec) :=
  OpenClaim.holds_of_wide 6 Try.f6 rfl rfl rfl rfl rfl rfl rfl ⟨rfl, rfl, rfl, rfl, rfl⟩ rfl rfl rfl rfl rfl (by kernel_rfl) Try.func6 (by kernel_rfl)
    (of_decide_eq_true (by kernel_rfl)) (by unfold Func.isWrapper; first | (rw [if_pos (by decide +kernel)]; kernel_rfl) | (rw [if_neg (by decide +kernel)]; exact ⟨rfl, rfl⟩))
    (fun os started H enc _ => lifted os started H enc)

theorem proved : Rows.PolylineCutsSaid := over
#print axioms proved
end Go.Proofs.Ytnmmbcgbijinpaa.cuts
