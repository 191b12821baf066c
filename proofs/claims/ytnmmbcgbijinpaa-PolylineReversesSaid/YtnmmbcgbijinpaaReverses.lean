/- PolylineReverses returns true for every list of points and every number: a reversed polyline has the same length, and the point at a length from its end is the same but for 1 in each coordinate. -/
import Derived.Test.YtnmmbcgbijinpaaS
import Derived.Test.YtnmmbcgbijinpaaPlf
namespace Go.Proofs.Ytnmmbcgbijinpaa.reverses
open Go.ChangeShapes Go.WideShapes Go.ChangeAt Go.RowKit Go.Deep
open Pl (Pt)

theorem loc_in {l : List Pt} {s : Int} (h : Pl.check l = 0) (h0 : 0 ≤ s) {i : Nat} {p : Pt} (hx : Pl.loc l s = some (i, p)) : In p := by
  obtain ⟨c1, c2, c3, c4⟩ := check_zero h
  obtain ⟨hi, hp, ht, ht0⟩ := Pl.loc_spec l s i p hx
  have hins := ins_of c3
  have hia := hins i (by omega)
  have hib := hins (i + 1) hi
  have ht1 : 0 ≤ s - Pl.total (l.take (i + 1)) := by
    rcases ht0 with h2 | h2
    · subst h2
      have : Pl.total (l.take (0 + 1)) = 0 := by
        match l, c1 with
        | a :: b :: r, _ => simp [Pl.total]
      omega
    · omega
  rw [hp]
  exact at_in hia hib ht1 ht (by have := seg_pos' hia hib (Pl.dup_at c4 i hi); omega)

structure RevOk (l : List Pt) (s : Int) (p q : Pt) : Prop where
  pt : locPt (locR l s) = p
  err : locE l s = 0
  pt' : locPt (locR l.reverse (Pl.total l - s)) = q
  err' : locE l.reverse (Pl.total l - s) = 0
  near : Pl.Near1 p q
  inp : In p
  inq : In q

theorem rev_ok {l : List Pt} {s : Int} (h : Pl.check l = 0) (h0 : 0 ≤ s) (h1 : s ≤ Pl.total l) : ∃ p q, RevOk l s p q := by
  obtain ⟨c1, c2, c3, c4⟩ := check_zero h
  have hr : Pl.check l.reverse = 0 := by rw [Pl.check_reverse, h]
  have hins := ins_of c3
  obtain ⟨⟨i, p⟩, hx⟩ := loc_some' l s c1 h1
  obtain ⟨j, q, hy, hn⟩ := Pl.loc_reverse (fun k hk => by have := seg_pos' (hins k (by omega)) (hins (k + 1) hk) (Pl.dup_at c4 k hk); omega) h0 hx
  have hR : locR l s = some (i, p) := by unfold locR; rw [if_pos h, if_neg (by omega), hx]
  have hR' : locR l.reverse (Pl.total l - s) = some (j, q) := by unfold locR; rw [if_pos hr, if_neg (by omega), hy]
  exact ⟨p, q, ⟨by rw [hR]; rfl, (locR_some hR).1, by rw [hR']; rfl, (locR_some hR').1, hn, loc_in h h0 hx, loc_in hr (by omega) hy⟩⟩

set_option maxRecDepth 100000 in
set_option maxHeartbeats 2000000 in
theorem walk_ok (A : Option Addr) (cap : Nat) (l : List Pt) (at0 : Int) (w : World) (_hcap : l.length ≤ cap) (hm : cap ≤ maxLen) (hsl : Sl w w.heap.size A l) (a1 : 0 ≤ at0) (a2 : at0 ≤ 4294967295) (h60 : ¬ 60 < l.length) (hck : Pl.check l = 0) :
    Calls Try.prog 8 #[.slice A l.length cap, .int .u32 at0] w fun e w' => e = .returned (.bool true) ∧ Below w.heap.size w w' := by
  obtain ⟨c1, c2, c3, c4⟩ := check_zero hck
  have hT0 := total_nonneg' l
  have hTb : Pl.total l ≤ 2965820801 * 41 := by
    have := total_bound' l (ins_of c3)
    omega
  obtain ⟨s, hs⟩ : ∃ s, s = at0 % (Pl.total l + 1) := ⟨_, rfl⟩
  have hs0 : 0 ≤ s := by rw [hs]; exact Int.emod_nonneg _ (by omega)
  have hs1 : s ≤ Pl.total l := by have := Int.emod_lt_of_pos at0 (show 0 < Pl.total l + 1 by omega); omega
  obtain ⟨p, q, hok⟩ := rev_ok hck hs0 hs1
  have hlr : l.reverse.length = l.length := List.length_reverse
  have hckr : Pl.check l.reverse = 0 := by rw [Pl.check_reverse, hck]
  have HR := Lib.hid (reverse_any A cap l w hsl (by omega))
  have HL := Lib.hid (fun W hW => by have := length_any A cap l W hW (by omega); rw [hck, show lenOf l = Pl.total l by unfold lenOf; rw [if_pos hck]] at this; exact this)
  have HLr := Lib.hid (fun A' c' W (hW : Sl W W.heap.size A' l.reverse) => by have := length_any A' c' l.reverse W hW (by omega); rw [hckr, show lenOf l.reverse = Pl.total l by unfold lenOf; rw [if_pos hckr, Pl.total_reverse], hlr] at this; exact this)
  have HRR := Lib.hid (fun A' c' W (hW : Sl W W.heap.size A' l.reverse) => by have := reverse_any A' c' l.reverse W hW (by omega); rw [List.reverse_reverse, hlr] at this; exact this)
  have HAl := Lib.hid (fun W hW => by have := along_any A cap l s W hW (by omega) (by omega); rw [hok.pt, hok.err] at this; exact this)
  have HAr := Lib.hid (fun A' c' W (hW : Sl W W.heap.size A' l.reverse) => by have := along_any A' c' l.reverse (Pl.total l - s) W hW (by omega) (by omega); rw [hok.pt', hok.err', hlr] at this; exact this)
  unfold alongTup at HAl HAr
  obtain ⟨n1, n2, n3, n4⟩ := hok.near
  obtain ⟨p1, p2, p3, p4⟩ := hok.inp
  obtain ⟨q1, q2, q3, q4⟩ := hok.inq
  clear hok hck hckr c3 c4
  generalize l.reverse = lr at *
  generalize Pl.total l = T at *
  have HS := Lib.hid hs
  clear hs
  have HLR := Lib.hid hlr
  clear hlr
  have hcm := hm
  unfold maxLen at hcm
  go_enter Try.func8, Try.ntmps8
  go_wp2_with fail
  refine HR.out.mono ?_
  rintro e w1 ⟨v1, rfl, how1, hb1⟩
  clear HR
  obtain ⟨A1, cp1, rfl, _, hs1'⟩ := how1.shape
  rw [HLR.out] at *
  have hsl1 := (hsl.below hb1).more hb1.size
  go_wp2_with fail
  refine (HL.out w1 hsl1).mono ?_
  rintro e w2 ⟨rfl, hb2⟩
  have hB2 := b_tr hb1 hb2
  have hs2' := (hs1'.below hb2).more hb2.size
  clear hb2 hsl1 hs1'
  go_wp2_with fail
  refine (HLr.out _ _ w2 hs2').mono ?_
  rintro e w3 ⟨rfl, hb3⟩
  have hB3 := b_tr hB2 hb3
  have hs3' := (hs2'.below hb3).more hb3.size
  clear hb3 hs2' hB2
  go_wp2_with fail
  refine (HRR.out _ _ w3 hs3').mono ?_
  rintro e w4 ⟨v4, rfl, how4, hb4⟩
  clear HRR HLr
  have hB4 := b_tr hB3 hb4
  have hs4' := (hs3'.below hb4).more hb4.size
  have hsl4 := (hsl.below hB4).more hB4.size
  obtain ⟨A4, cp4, rfl, _, hv4⟩ := how4.shape
  clear hb4 hs3' hB3
  go_wp2_with fail
  refine (same_yes _ _ _ _ l w4 hv4 hsl4 (by omega)).mono ?_
  rintro e w5 ⟨rfl, hb5⟩
  have hB5 := b_tr hB4 hb5
  have hs5' := (hs4'.below hb5).more hb5.size
  have hsl5 := (hsl.below hB5).more hB5.size
  clear hb5 hs4' hsl4 hv4 how4 hB4
  have hmx : max T 0 = T := Int.max_eq_left hT0
  go_wp2_with fail
  rw [← HS.out]
  clear HS hmx
  refine (HAl.out w5 hsl5).mono ?_
  rintro e w6 ⟨rfl, hb6⟩
  clear HAl
  have hB6 := b_al (b_tr hB5 hb6) (.cells #[.int .i64 p.1, .int .i64 p.2] 30)
  have hs6' : Sl (w6.alloc (.cells #[.int .i64 p.1, .int .i64 p.2] 30)) (w6.alloc (.cells #[.int .i64 p.1, .int .i64 p.2] 30)).heap.size A1 lr := (hs5'.below (b_al hb6 _)).more (b_al hb6 _).size
  obtain ⟨d1, d2⟩ := new_cell w6 (.int .i64 p.1) (.int .i64 p.2)
  clear hb6 hsl5 hs5' hB5
  go_wp2_with fail
  refine (HAr.out _ _ _ hs6').mono ?_
  rintro e w7 ⟨rfl, hb7⟩
  clear HAr
  have hB7 := b_tr hB6 hb7
  have hz7 : w6.heap.size < w7.heap.size := by have := hb7.size; rw [size_alloc'] at this; omega
  have d3 : w7.cell? ⟨w6.heap.size, 0, none⟩ = some (.int .i64 p.1) := (hb7.cell (p := ⟨w6.heap.size, 0, none⟩) (by rw [size_alloc']; show w6.heap.size < _; omega)).trans d1
  have d4 : w7.cell? ⟨w6.heap.size, 1, none⟩ = some (.int .i64 p.2) := (hb7.cell (p := ⟨w6.heap.size, 1, none⟩) (by rw [size_alloc']; show w6.heap.size < _; omega)).trans d2
  clear d1 d2 hb7 hs6' hB6
  go_wp2_with fail
  refine (alive_any _).mono ?_
  rintro e w8 ⟨rfl, hb8⟩
  go_wp2
  go_ret
  exact ⟨rfl, b_tr (b_al hB7 _) hb8⟩

set_option maxRecDepth 100000 in
set_option maxHeartbeats 1000000 in
theorem walk (A : Option Addr) (len cap : Nat) (l : List Pt) (at0 : Int) (w : World) (h : Came w A len cap l) (wa : (Lit.int .u32 at0).wf = true) :
    Calls Try.prog 8 #[.slice A len cap, .int .u32 at0] w fun e w' => e = .returned (.bool true) ∧ Below w.heap.size w w' := by
  obtain ⟨rfl, hcap, hm, hsl⟩ := h
  obtain ⟨s1, s2⟩ := bounds_u32 wa
  clear wa
  by_cases h60 : 60 < l.length
  · unfold maxLen at hm
    go_enter Try.func8, Try.ntmps8
    go_wp2_with fail
    refine (alive_any _).mono ?_
    rintro e w1 ⟨rfl, hb1⟩
    go_wp2
    go_ret
    exact ⟨rfl, hb1⟩
  · by_cases hck : Pl.check l = 0
    · exact walk_ok A cap l at0 w hcap hm hsl s1 s2 h60 hck
    · have hlr : l.reverse.length = l.length := List.length_reverse
      have hckr : Pl.check l.reverse = Pl.check l := Pl.check_reverse l
      have hlo : lenOf l = 0 := by unfold lenOf; rw [if_neg hck]
      have hlor : lenOf l.reverse = 0 := by unfold lenOf; rw [if_neg (by rw [hckr]; exact hck)]
      have HR := Lib.hid (reverse_any A cap l w hsl (by omega))
      have HL := Lib.hid (fun W hW => by have := length_any A cap l W hW (by omega); rw [hlo] at this; exact this)
      have HLr := Lib.hid (fun A' c' W (hW : Sl W W.heap.size A' l.reverse) => by have := length_any A' c' l.reverse W hW (by omega); rw [hckr, hlor, hlr] at this; exact this)
      have HRR := Lib.hid (fun A' c' W (hW : Sl W W.heap.size A' l.reverse) => by have := reverse_any A' c' l.reverse W hW (by omega); rw [List.reverse_reverse, hlr] at this; exact this)
      have hck' : (Pl.check l != 0) = true := by simpa using hck
      clear hlo hlor hckr
      generalize l.reverse = lr at *
      generalize Pl.check l = ck at *
      have HLR := Lib.hid hlr
      clear hlr hck
      unfold maxLen at hm
      go_enter Try.func8, Try.ntmps8
      go_wp2_with fail
      refine HR.out.mono ?_
      rintro e w1 ⟨v1, rfl, how1, hb1⟩
      clear HR
      obtain ⟨A1, cp1, rfl, _, hs1'⟩ := how1.shape
      rw [HLR.out] at *
      have hsl1 := (hsl.below hb1).more hb1.size
      go_wp2_with fail
      refine (HL.out w1 hsl1).mono ?_
      rintro e w2 ⟨rfl, hb2⟩
      have hB2 := b_tr hb1 hb2
      have hs2' := (hs1'.below hb2).more hb2.size
      clear hb2 hsl1 hs1'
      go_wp2_with fail
      refine (HLr.out _ _ w2 hs2').mono ?_
      rintro e w3 ⟨rfl, hb3⟩
      have hB3 := b_tr hB2 hb3
      have hs3' := (hs2'.below hb3).more hb3.size
      clear hb3 hs2' hB2
      go_wp2_with fail
      refine (HRR.out _ _ w3 hs3').mono ?_
      rintro e w4 ⟨v4, rfl, how4, hb4⟩
      clear HRR HLr
      have hB4 := b_tr hB3 hb4
      have hsl4 := (hsl.below hB4).more hB4.size
      obtain ⟨A4, cp4, rfl, _, hv4⟩ := how4.shape
      clear hb4 hs3' hB3
      go_wp2_with fail
      refine (same_yes _ _ _ _ l w4 hv4 hsl4 (by omega)).mono ?_
      rintro e w5 ⟨rfl, hb5⟩
      have hB5 := b_tr hB4 hb5
      clear hb5 hsl4 hv4 how4 hB4
      go_wp2_with fail
      refine (alive_any _).mono ?_
      rintro e w6 ⟨rfl, hb6⟩
      go_wp2
      go_ret
      exact ⟨rfl, b_tr hB5 hb6⟩

set_option maxRecDepth 100000 in
theorem lifted (os : Os) (started : os.Started) (H : Type) (enc : TypeId × Value → H) :
    ReturnsInHanded {} Try.checked os 8 .any (Rows.polylineReversesSpec.pre6 enc Try.prog Try.f8 Rows.polylineReversesRow.domain false) (Rows.polylineReversesSpec.post enc Try.prog Try.f8 false true false false) := by
  refine returnsInHanded_of_change (C := Try.checked) own started (by kernel_rfl) Try.func8
    (ChangeSpec.witness6 (enc := enc) (C := Try.checked) false ⟨#[], #[.slice none 0 0, .int .u32 0], []⟩ 8 (by kernel_rfl) (by kernel_rfl) (by kernel_rfl) (by kernel_rfl)) ?_
  intro W base args ds gs before hval0 hW hcnd _
  have hval : ∀ (j : Nat) t v, Try.f8.params[j]? = some t → args[j]? = some v → Value.okWide Try.prog W .any base t v := hval0
  have hW' := hW
  obtain ⟨p, q, hA0, hV, rfl, hfz, hnd⟩ := hW
  have hA : DataW.TrodAll enc Try.prog W 0 (fun _ => true) true Try.f8.params.toList args.toList ds p := hA0
  rw [Try.params8] at hA hval
  obtain ⟨v0, vs0, d0, ds0, p0, qq0, hargs, rfl, rfl, h0, r0⟩ := trodAll_cons hA
  obtain ⟨v1, vs1, d1, ds1, p1, qq1, rfl, rfl, rfl, h1, r1⟩ := trodAll_cons r0
  obtain ⟨rfl, rfl, rfl⟩ := trodAll_nil r1
  obtain rfl : args = #[v0, v1] := by cases args; simp_all
  obtain ⟨rfl, rfl⟩ := trodVars_none hV
  obtain ⟨a0, len0, cap0, rfl⟩ := okWide_slice Try.underlying22 (hval 0 22 v0 rfl rfl)
  have k0 := h0
  have lt0 : ∀ x ∈ p0, x.block < W.heap.size := by obtain ⟨m, hm⟩ := k0; exact DataW.trod_lt m _ _ _ hm
  obtain ⟨l0, w0⟩ : ∃ l, Came W a0 len0 cap0 l := by
    obtain ⟨fuel, hf⟩ := h0
    exact open_spots (by simpa [Value.cells] using hf)
  obtain ⟨a1, rfl, rfl, rfl, w1⟩ := open_int Try.underlying37 (hval 1 37 v1 rfl rfl) h1
  clear hA0 hval0
  refine (walk a0 len0 cap0 l0 a1 W w0 w1).mono fun e W' ⟨he, bel⟩ => ?_
  subst he
  exact ⟨_, rfl, _, _, _, [], _, [], hW', trodAll_mk1 (shut_bool Try.underlying4 _), (trodAll_cons_mk (Below.trod laidOut (by kernel_rfl) (of_decide_eq_true (by kernel_rfl)) k0 bel lt0) (trodAll_cons_mk (shut_int Try.underlying37 w1) trodAll_mk0)), rfl, bel.frame _, fun h => by cases h⟩

theorem over : Rows.polylineReversesRow.holds Try.pinned (OpenSpec.ofChange Rows.polylineReversesSpec) :=
  OpenClaim.holds_of_wide 8 Try.f8 rfl rfl rfl rfl rfl rfl rfl ⟨rfl, rfl, rfl, rfl, rfl⟩ rfl rfl rfl rfl rfl (by kernel_rfl) Try.func8 (by kernel_rfl)
    (of_decide_eq_true (by kernel_rfl)) (by unfold Func.isWrapper; first | (rw [if_pos (by decide +kernel)]; kernel_rfl) | (rw [if_neg (by decide +kernel)]; exact ⟨rfl, rfl⟩))
    (fun os started H enc _ => lifted os started H enc)

theorem proved : Rows.PolylineReversesSaid := over
#print axioms proved
end Go.Proofs.Ytnmmbcgbijinpaa.reverses
