/- PolylineVertices returns true for every list of points and every number: a cut at a vertex gives the points up to it and from it. -/
import Derived.Test.YtnmmbcgbijinpaaV
namespace Go.Proofs.Ytnmmbcgbijinpaa.vertices
open Go.ChangeShapes Go.WideShapes Go.ChangeAt Go.RowKit Go.Deep
open Pl (Pt)

theorem sl_at {w : World} {B : Nat} {A : Option Addr} {l : List Pt} (h : Sl w B A l) {i : Nat} {p : Pt} (hi : l[i]? = some p) :
    ∃ b off, A = some ⟨b, off, none⟩ ∧ b < B ∧ w.cell? ⟨b, off + i * 2, none⟩ = some (.int .i64 p.1) ∧ w.cell? ⟨b, off + i * 2 + 1, none⟩ = some (.int .i64 p.2) := by
  obtain ⟨h1, h2⟩ := List.getElem?_eq_some_iff.1 hi
  subst h2
  exact h.at_ i h1

set_option maxRecDepth 100000 in
set_option maxHeartbeats 12000000 in
theorem walk_ok (A : Option Addr) (cap : Nat) (l : List Pt) (at0 : Int) (w : World) (hcap : l.length ≤ cap) (hm : cap ≤ maxLen) (hsl : Sl w w.heap.size A l) (a1 : 0 ≤ at0) (a2 : at0 ≤ 255) (h60 : ¬ 60 < l.length) (hck : Pl.check l = 0) (h3 : ¬ l.length < 3) :
    Calls Try.prog 7 #[.slice A l.length cap, .int .u8 at0] w fun e w' => e = .returned (.bool true) ∧ Below w.heap.size w w' := by
  obtain ⟨k, hk⟩ : ∃ k : Nat, (k : Int) = 1 + at0 % ((l.length : Int) - 2) := ⟨(1 + at0 % ((l.length : Int) - 2)).toNat, by have := Int.emod_nonneg at0 (show (l.length : Int) - 2 ≠ 0 by omega); omega⟩
  have hk1 : 1 ≤ k := by have := Int.emod_nonneg at0 (show (l.length : Int) - 2 ≠ 0 by omega); omega
  have hk2 : k + 1 < l.length := by have := Int.emod_lt_of_pos at0 (show 0 < (l.length : Int) - 2 by omega); omega
  obtain ⟨p, hok⟩ := vert_ok hck hk1 hk2
  obtain ⟨b, off, rfl, hb, _, _⟩ := sl_at hsl hok.at_
  have hta : (l.take (k + 1)).length = k + 1 := by rw [List.length_take]; omega
  have htd : (l.drop k).length = l.length - k := List.length_drop
  have hT0 := Pl.total_ge0 (l.take (k + 1))
  have hT1 := Pl.total_ge0 (l.drop k)
  have hTb : Pl.total l ≤ 2965820801 * 41 := by
    obtain ⟨c1, c2, c3, c4⟩ := check_zero hck
    have := total_bound' l (ins_of c3)
    omega
  have HC := Lib.hid (fun W hW => by have := check_any (some ⟨b, off, none⟩) cap l W hW (by omega); rw [hck] at this; exact this)
  have HL := Lib.hid (fun W hW => by have := length_any (some ⟨b, off, none⟩) cap l W hW (by omega); rw [hck, show lenOf l = Pl.total l by unfold lenOf; rw [if_pos hck]] at this; exact this)
  have HLa := Lib.hid (fun W hW => by have := length_any (some ⟨b, off, none⟩) cap (l.take (k + 1)) W hW (by omega); rw [hok.ca, show lenOf (l.take (k + 1)) = Pl.total (l.take (k + 1)) by unfold lenOf; rw [if_pos hok.ca], hta] at this; exact this)
  have HLb := Lib.hid (fun W hW => by have := length_any (some ⟨b, off + k * 2, none⟩) (cap - k) (l.drop k) W hW (by omega); rw [hok.cb, show lenOf (l.drop k) = Pl.total (l.drop k) by unfold lenOf; rw [if_pos hok.cb], htd] at this; exact this)
  have hsum := hok.sum
  have HAl := Lib.hid (fun W hW => by have := along_any (some ⟨b, off, none⟩) cap l (Pl.total (l.take (k + 1))) W hW (by omega) (by omega); rw [hok.pt, hok.err] at this; exact this)
  have HCt := Lib.hid (fun W hW => by have := cut_any (some ⟨b, off, none⟩) cap l (Pl.total (l.take (k + 1))) W hW (by omega) hcap hm (by omega); rw [hok.err, hok.a, hok.b] at this; exact this)
  unfold alongTup at HAl
  have hat := hok.at_
  have HT := Lib.hid (fun W (hW : Sl W W.heap.size (some ⟨b, off, none⟩) l) => hW.take (k + 1))
  have HD := Lib.hid (fun W (hW : Sl W W.heap.size (some ⟨b, off, none⟩) l) => hW.drop k)
  clear hok hck
  generalize l.take (k + 1) = la at *
  generalize l.drop k = lb at *
  generalize Pl.total la = Ta at *
  generalize Pl.total lb = Tb at *
  generalize Pl.total l = T at *
  subst hsum
  have HK := Lib.hid hk
  clear hk
  have hcm := hm
  unfold maxLen at hcm
  have j1 : IntKind.i64.wrap ((k : Int) + 1) = (k : Int) + 1 := IntWalk.i64_in _ (by omega)
  have jw : Hid (wrap64 (k : Int) = (k : Int)) := by show _ = _; unfold wrap64; omega
  have j2 : (0 : Int) ≤ (k : Int) + 1 := by omega
  have j3 : (k : Int) + 1 ≤ (cap : Int) := by omega
  have j4 : ((k : Int) + 1).toNat = k + 1 := by omega
  have j5 : (k : Int) ≤ (l.length : Int) := by omega
  have j6 : (k : Int) ≤ (cap : Int) := by omega
  have j7 : (k : Int) < (l.length : Int) := by omega
  have j8 : (l.length : Int) ≤ (cap : Int) := by omega
  go_enter Try.func7, Try.ntmps7
  go_wp2_with fail
  refine (HC.out _ hsl).mono ?_
  rintro e w1 ⟨rfl, hb1⟩
  have hsl1 := (hsl.below hb1).more hb1.size
  go_wp2_with fail
  rw [← HK.out, jw.out]
  clear jw
  refine (HL.out w1 hsl1).mono ?_
  rintro e w2 ⟨rfl, hb2⟩
  have hB2 := b_tr hb1 hb2
  have hsl2 := (hsl.below hB2).more hB2.size
  clear HK HC HL hb1 hb2 hsl1
  go_wp2_with fail
  refine (HLa.out w2 (HT.out w2 hsl2)).mono ?_
  rintro e w3 ⟨rfl, hb3⟩
  have hB3 := b_tr hB2 hb3
  have hsl3 := (hsl.below hB3).more hB3.size
  clear hb3 hsl2 hB2
  go_wp2_with fail
  refine (HLb.out w3 (HD.out w3 hsl3)).mono ?_
  rintro e w4 ⟨rfl, hb4⟩
  have hB4 := b_tr hB3 hb4
  have hsl4 := (hsl.below hB4).more hB4.size
  clear hb4 hsl3 hB3
  go_wp2_with fail
  refine (HAl.out w4 hsl4).mono ?_
  rintro e w5 ⟨rfl, hb5⟩
  have hB5 := b_al (b_tr hB4 hb5) (.cells #[.int .i64 p.1, .int .i64 p.2] 30)
  have hsl5 : Sl (w5.alloc (.cells #[.int .i64 p.1, .int .i64 p.2] 30)) (w5.alloc (.cells #[.int .i64 p.1, .int .i64 p.2] 30)).heap.size (some ⟨b, off, none⟩) l := (hsl.below hB5).more hB5.size
  obtain ⟨d1, d2⟩ := new_cell w5 (.int .i64 p.1) (.int .i64 p.2)
  clear hb5 hsl4 hB4 HAl HLa HLb
  go_wp2_with fail
  refine (HCt.out _ hsl5).mono ?_
  rintro e w6 ⟨va, vb, rfl, howa, howb, hb6⟩
  clear HCt
  have hB6 := b_tr hB5 hb6
  have hz6 : w5.heap.size < w6.heap.size := by have := hb6.size; rw [size_alloc'] at this; omega
  have d3 : w6.cell? ⟨w5.heap.size, 0, none⟩ = some (.int .i64 p.1) := (hb6.cell (p := ⟨w5.heap.size, 0, none⟩) (by rw [size_alloc']; show w5.heap.size < _; omega)).trans d1
  have d4 : w6.cell? ⟨w5.heap.size, 1, none⟩ = some (.int .i64 p.2) := (hb6.cell (p := ⟨w5.heap.size, 1, none⟩) (by rw [size_alloc']; show w5.heap.size < _; omega)).trans d2
  have hsl6 := (hsl.below hB6).more hB6.size
  clear d1 d2 hb6 hsl5 hB5
  obtain ⟨Aa, ca, rfl, _, hsa⟩ := howa.shape
  obtain ⟨Ab, cb, rfl, _, hsb⟩ := howb.shape
  rw [hta, htd]
  obtain ⟨b', off', he, hb', e1, e2⟩ := sl_at hsl6 hat
  injection he with he; injection he with q1 q2; subst q1 q2
  go_wp2
  generalize w5.heap.size = g at *
  have HS1 : Hid (∀ W : World, (W.cell? ⟨g, 0, none⟩ = some (.int .i64 p.1) ∧ W.cell? ⟨g, 1, none⟩ = some (.int .i64 p.2) ∧ W.cell? ⟨b, off + k * 2, none⟩ = some (.int .i64 p.1) ∧ W.cell? ⟨b, off + k * 2 + 1, none⟩ = some (.int .i64 p.2) ∧ Below w6.heap.size w6 W) → Calls Try.prog 21 #[.slice Aa (k + 1) ca, .slice (some ⟨b, off, none⟩) (k + 1) cap] W fun e w' => e = .returned (.bool true) ∧ Below W.heap.size W w') := fun W hW => by
    have hx := hW.2.2.2.2
    have := same_yes Aa (some ⟨b, off, none⟩) ca cap la W ((hsa.below hx).more hx.size) (HT.out W ((hsl6.below hx).more hx.size)) (by omega)
    rwa [hta] at this
  have HS2 : Hid (∀ W : World, (W.cell? ⟨g, 0, none⟩ = some (.int .i64 p.1) ∧ W.cell? ⟨g, 1, none⟩ = some (.int .i64 p.2) ∧ W.cell? ⟨b, off + k * 2, none⟩ = some (.int .i64 p.1) ∧ W.cell? ⟨b, off + k * 2 + 1, none⟩ = some (.int .i64 p.2) ∧ Below w6.heap.size w6 W) → Calls Try.prog 21 #[.slice Ab (l.length - k) cb, .slice (some ⟨b, off + k * 2, none⟩) (l.length - k) (cap - k)] W fun e w' => e = .returned (.bool true) ∧ Below W.heap.size W w') := fun W hW => by
    have hx := hW.2.2.2.2
    have := same_yes Ab (some ⟨b, off + k * 2, none⟩) cb (cap - k) lb W ((hsb.below hx).more hx.size) (HD.out W ((hsl6.below hx).more hx.size)) (by omega)
    rwa [htd] at this
  clear HT HD
  have f1 := eq_yes p
  have hg := eqGd
  have u1 : IntKind.i64.wrap (Ta + Tb) = Ta + Tb := IntWalk.i64_in _ (by omega)
  have j9 : ¬ cap = k := by omega
  clear howa howb hsa hsb hsl6 hta htd hat hsl hT0 hT1 hTb hcm hm hcap a1 a2 h60 h3
  go_region_held3 (fun w' => w'.cell? ⟨g, 0, none⟩ = some (.int .i64 p.1) ∧ w'.cell? ⟨g, 1, none⟩ = some (.int .i64 p.2) ∧ w'.cell? ⟨b, off + k * 2, none⟩ = some (.int .i64 p.1) ∧ w'.cell? ⟨b, off + k * 2 + 1, none⟩ = some (.int .i64 p.2) ∧ Below w6.heap.size w6 w')
    (first | exact ⟨d3, d4, e1, e2, below_drewN (Below.refl _ _) 1⟩ | exact kV hz6 hb' hbn (by with_reducible assumption))
    (first | (go_at_call 12; refine (alive_any _).mono ?_; rintro e w' ⟨rfl, hbn⟩) | (go_at_call_of 21 Aa; (with_reducible refine (HS1.out _ (by with_reducible assumption)).mono ?_); rintro e w' ⟨rfl, hbn⟩) | (go_at_call_of 21 Ab; (with_reducible refine (HS2.out _ (by with_reducible assumption)).mono ?_); rintro e w' ⟨rfl, hbn⟩))
  all_goals
    have hcc : _ ∧ _ ∧ _ ∧ _ ∧ Below w6.heap.size w6 _ := ‹_ ∧ _ ∧ _ ∧ _ ∧ Below w6.heap.size w6 _›
    go_wp2_with fail
    go_ret
    exact ⟨rfl, b_tr hB6 hcc.2.2.2.2⟩

set_option maxRecDepth 100000 in
set_option maxHeartbeats 1000000 in
theorem walk (A : Option Addr) (len cap : Nat) (l : List Pt) (at0 : Int) (w : World) (h : Came w A len cap l) (wa : (Lit.int .u8 at0).wf = true) :
    Calls Try.prog 7 #[.slice A len cap, .int .u8 at0] w fun e w' => e = .returned (.bool true) ∧ Below w.heap.size w w' := by
  obtain ⟨rfl, hcap, hm, hsl⟩ := h
  obtain ⟨s1, s2⟩ := bounds_u8 wa
  clear wa
  by_cases h60 : 60 < l.length
  · unfold maxLen at hm
    go_enter Try.func7, Try.ntmps7
    go_wp2_with fail
    refine (alive_any _).mono ?_
    rintro e w1 ⟨rfl, hb1⟩
    go_wp2
    go_ret
    exact ⟨rfl, hb1⟩
  · by_cases hck : Pl.check l = 0
    · by_cases h3 : l.length < 3
      · have H2 := Lib.hid (by have := check_any A cap l w hsl (by omega); rw [hck] at this; exact this)
        clear hck
        unfold maxLen at hm
        go_enter Try.func7, Try.ntmps7
        go_wp2_with fail
        refine H2.out.mono ?_
        rintro e w1 ⟨rfl, hb1⟩
        go_wp2_with fail
        refine (alive_any _).mono ?_
        rintro e w2 ⟨rfl, hb2⟩
        go_wp2
        go_ret
        exact ⟨rfl, b_tr hb1 hb2⟩
      · exact walk_ok A cap l at0 w hcap hm hsl s1 s2 h60 hck h3
    · have H2 := Lib.hid (check_any A cap l w hsl (by omega))
      have hck' : (Pl.check l != 0) = true := by simpa using hck
      generalize Pl.check l = ck at *
      clear hck
      unfold maxLen at hm
      go_enter Try.func7, Try.ntmps7
      go_wp2_with fail
      refine H2.out.mono ?_
      rintro e w1 ⟨rfl, hb1⟩
      go_wp2_with fail
      refine (alive_any _).mono ?_
      rintro e w2 ⟨rfl, hb2⟩
      go_wp2
      go_ret
      exact ⟨rfl, b_tr hb1 hb2⟩

set_option maxRecDepth 100000 in
theorem lifted (os : Os) (started : os.Started) (H : Type) (enc : TypeId × Value → H) :
    ReturnsInHanded {} Try.checked os 7 .any (Rows.polylineVerticesSpec.pre6 enc Try.prog Try.f7 Rows.polylineVerticesRow.domain false) (Rows.polylineVerticesSpec.post enc Try.prog Try.f7 false true false false) := by
  refine returnsInHanded_of_change (C := Try.checked) own started (by kernel_rfl) Try.func7
    (ChangeSpec.witness6 (enc := enc) (C := Try.checked) false ⟨#[], #[.slice none 0 0, .int .u8 0], []⟩ 8 (by kernel_rfl) (by kernel_rfl) (by kernel_rfl) (by kernel_rfl)) ?_
  intro W base args ds gs before hval0 hW hcnd _
  have hval : ∀ (j : Nat) t v, Try.f7.params[j]? = some t → args[j]? = some v → Value.okWide Try.prog W .any base t v := hval0
  have hW' := hW
  obtain ⟨p, q, hA0, hV, rfl, hfz, hnd⟩ := hW
  have hA : DataW.TrodAll enc Try.prog W 0 (fun _ => true) true Try.f7.params.toList args.toList ds p := hA0
  rw [Try.params7] at hA hval
  obtain ⟨v0, vs0, d0, ds0, p0, qq0, hargs, rfl, rfl, h0, r0⟩ := trodAll_cons hA
  obtain ⟨v1, vs1, d1, ds1, p1, qq1, rfl, rfl, rfl, h1, r1⟩ := trodAll_cons r0
  obtain ⟨rfl, rfl, rfl⟩ := trodAll_nil r1
  obtain rfl : args = #[v0, v1] := by cases args; simp_all
  obtain ⟨rfl, rfl⟩ := trodVars_none hV
  obtain ⟨a0, len0, cap0, rfl⟩ := okWide_slice Try.underlying22 (hval 0 22 v0 rfl rfl)
  have k0 := h0
  have lt0 : ∀ x ∈ p0, x.block < W.heap.size := by obtain ⟨m, hm⟩ := k0; exact DataW.trod_lt m _ _ _ hm
  obtain ⟨l0, w0⟩ : ∃ l, Came W a0 len0 cap0 l := by
    obtain ⟨fuel, hf⟩ := h0
    exact open_spots (by simpa [Value.cells] using hf)
  obtain ⟨a1, rfl, rfl, rfl, w1⟩ := open_int Try.underlying5 (hval 1 5 v1 rfl rfl) h1
  clear hA0 hval0
  refine (walk a0 len0 cap0 l0 a1 W w0 w1).mono fun e W' ⟨he, bel⟩ => ?_
  subst he
  exact ⟨_, rfl, _, _, _, [], _, [], hW', trodAll_mk1 (shut_bool Try.underlying4 _), (trodAll_cons_mk (Below.trod laidOut (by kernel_rfl) (of_decide_eq_true (by kernel_rfl)) k0 bel lt0) (trodAll_cons_mk (shut_int Try.underlying5 w1) trodAll_mk0)), rfl, bel.frame _, fun h => by cases h⟩

theorem over : Rows.polylineVerticesRow.holds Try.pinned (OpenSpec.ofChange Rows.polylineVerticesSpec) :=
  OpenClaim.holds_of_wide 7 Try.f7 rfl rfl rfl rfl rfl rfl rfl ⟨rfl, rfl, rfl, rfl, rfl⟩ rfl rfl rfl rfl rfl (by kernel_rfl) Try.func7 (by kernel_rfl)
    (of_decide_eq_true (by kernel_rfl)) (by unfold Func.isWrapper; first | (rw [if_pos (by decide +kernel)]; kernel_rfl) | (rw [if_neg (by decide +kernel)]; exact ⟨rfl, rfl⟩))
    (fun os started H enc _ => lifted os started H enc)

theorem proved : Rows.PolylineVerticesSaid := over
#print axioms proved
end Go.Proofs.Ytnmmbcgbijinpaa.vertices
