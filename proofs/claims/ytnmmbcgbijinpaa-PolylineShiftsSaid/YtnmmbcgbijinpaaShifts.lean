/- PolylineShifts returns true for every list of points, every move and every number: a moved polyline has the same length, and its points and parts are the moved ones, if it lies within the limits. -/
import Derived.Test.YtnmmbcgbijinpaaS
import Derived.Test.YtnmmbcgbijinpaaT
import Derived.Test.YtnmmbcgbijinpaaPlh
import Derived.Lib.SmallJoins
namespace Go.Proofs.Ytnmmbcgbijinpaa.shifts
open Go.ChangeShapes Go.WideShapes Go.ChangeAt Go.RowKit Go.Deep
open Pl (Pt)

theorem mv_sh {d p : Pt} (d1 : -9223372036854775808 ≤ d.1 ∧ d.1 ≤ 9223372036854775807) (d2 : -9223372036854775808 ≤ d.2 ∧ d.2 ≤ 9223372036854775807) (hp : In p) (hm : In (mv d p)) : mv d p = Pl.sh d p := by
  obtain ⟨a1, a2, a3, a4⟩ := hp
  obtain ⟨b1, b2, b3, b4⟩ := hm
  unfold mv at *
  unfold wrap64 at *
  unfold Pl.sh
  simp only [Prod.mk.injEq] at *
  omega
theorem sh_mv {d p : Pt} (hm : In (Pl.sh d p)) : mv d p = Pl.sh d p := by
  obtain ⟨b1, b2, b3, b4⟩ := hm
  unfold Pl.sh at *
  unfold mv wrap64
  simp only [Prod.mk.injEq] at *
  omega

theorem loc_in {l : List Pt} {s : Int} (h : Pl.check l = 0) (h0 : 0 ≤ s) {i : Nat} {p : Pt} (hx : Pl.loc l s = some (i, p)) : In p := by
  obtain ⟨c1, c2, c3, c4⟩ := check_zero h
  obtain ⟨hi, hp, ht, ht0⟩ := Pl.loc_spec l s i p hx
  have hins := ins_of c3
  have hia := hins i (by omega)
  have hib := hins (i + 1) hi
  have ht1 : 0 ≤ s - Pl.total (l.take (i + 1)) := by
    rcases ht0 with h2 | h2
    · subst h2
      have : Pl.total (l.take (0 + 1)) = 0 := by
        match l, c1 with
        | a :: b :: r, _ => simp [Pl.total]
      omega
    · omega
  rw [hp]
  exact at_in hia hib ht1 ht (by have := seg_pos' hia hib (Pl.dup_at c4 i hi); omega)

theorem part_len (l : List Pt) : (Pl.part l).length ≤ l.length + 1 := by
  have := Pl.compact_len l
  unfold Pl.part
  split
  · next a h => rw [h] at this; simp at this ⊢; omega
  · omega
theorem part_sub (l : List Pt) (x : Pt) (h : x ∈ Pl.part l) : x ∈ l := by
  apply Pl.compact_sub
  unfold Pl.part at h
  split at h
  · next a e => rw [e]; simpa using h
  · exact h

structure ShiftOk (l : List Pt) (d : Pt) (s : Int) (p : Pt) : Prop where
  tot : Pl.total (l.map (mv d)) = Pl.total l
  pt : locPt (locR l s) = p
  err : locE l s = 0
  pt' : locPt (locR (l.map (mv d)) s) = mv d p
  err' : locE (l.map (mv d)) s = 0
  cut : (cutA l s).map (mv d) = cutA (l.map (mv d)) s
  len : (cutA l s).length ≤ 1000
theorem shift_tot {l : List Pt} {d : Pt} (h : Pl.check l = 0) (hm : Pl.check (l.map (mv d)) = 0) (d1 : -9223372036854775808 ≤ d.1 ∧ d.1 ≤ 9223372036854775807) (d2 : -9223372036854775808 ≤ d.2 ∧ d.2 ≤ 9223372036854775807) :
    l.map (mv d) = l.map (Pl.sh d) := by
  obtain ⟨c1, c2, c3, c4⟩ := check_zero h
  obtain ⟨m1, m2, m3, m4⟩ := check_zero hm
  have hins := ins_of c3
  have hinm := ins_of m3
  apply List.map_congr_left
  intro x hx
  obtain ⟨k, hk, rfl⟩ := List.getElem_of_mem hx
  have := hinm k (by rw [List.length_map]; exact hk)
  rw [List.getElem_map] at this
  exact mv_sh d1 d2 (hins k hk) this
theorem shift_ok {l : List Pt} {d : Pt} {s : Int} (h : Pl.check l = 0) (hm : Pl.check (l.map (mv d)) = 0) (d1 : -9223372036854775808 ≤ d.1 ∧ d.1 ≤ 9223372036854775807) (d2 : -9223372036854775808 ≤ d.2 ∧ d.2 ≤ 9223372036854775807)
    (h0 : 0 ≤ s) (h1 : s ≤ Pl.total l) : ∃ p, ShiftOk l d s p := by
  have hms := shift_tot h hm d1 d2
  obtain ⟨c1, c2, c3, c4⟩ := check_zero h
  have hins := ins_of c3
  obtain ⟨⟨i, p⟩, hx⟩ := loc_some' l s c1 h1
  have hx' : Pl.loc (l.map (mv d)) s = some (i, Pl.sh d p) := by rw [hms, Pl.loc_sh, hx]; rfl
  have hpin := loc_in h h0 hx
  have hpm := sh_mv (loc_in hm h0 hx')
  have hR : locR l s = some (i, p) := by unfold locR; rw [if_pos h, if_neg (by omega), hx]
  have hR' : locR (l.map (mv d)) s = some (i, Pl.sh d p) := by unfold locR; rw [if_pos hm, if_neg (by omega), hx']
  have hall : ∀ x, x ∈ l.take (i + 1) ++ [p] → mv d x = Pl.sh d x := fun x hx => by
    rcases List.mem_append.1 hx with hx | hx
    · have hxl := List.mem_of_mem_take hx
      have : mv d x ∈ l.map (mv d) := List.mem_map.2 ⟨x, hxl, rfl⟩
      rw [hms] at this
      obtain ⟨k, hk, rfl⟩ := List.getElem_of_mem hxl
      have e := congrArg (fun z => z[k]?) hms
      simp only [List.getElem?_map, List.getElem?_eq_getElem hk, Option.map_some] at e
      exact Option.some.inj e
    · rw [List.mem_singleton.1 hx]; exact hpm
  refine ⟨p, ⟨by rw [hms, Pl.total_sh], by rw [hR]; rfl, (locR_some hR).1, by rw [hR', hpm]; rfl, (locR_some hR').1, ?_, ?_⟩⟩
  · unfold cutA
    rw [hR, hR']
    show (Pl.part (l.take (i + 1) ++ [p])).map (mv d) = Pl.part ((l.map (mv d)).take (i + 1) ++ [Pl.sh d p])
    rw [List.map_congr_left (fun x hx => hall x (part_sub _ x hx)), ← Pl.part_sh, List.map_append, hms, List.map_take]
    rfl
  · unfold cutA
    rw [hR]
    show (Pl.part (l.take (i + 1) ++ [p])).length ≤ _
    have := part_len (l.take (i + 1) ++ [p])
    simp only [List.length_append, List.length_take, List.length_cons, List.length_nil] at this
    omega

theorem cell_keep {W w : World} (hb : Below W.heap.size W w) {g o : Nat} {v : Value} (hg : g < W.heap.size) (h : W.cell? ⟨g, o, none⟩ = some v) : w.cell? ⟨g, o, none⟩ = some v :=
  (hb.cell (p := ⟨g, o, none⟩) hg).trans h

set_option maxRecDepth 100000 in
set_option maxHeartbeats 4000000 in
theorem walk_ok (A : Option Addr) (cap : Nat) (l : List Pt) (d : Pt) (at0 : Int) (w : World) (hcap : l.length ≤ cap) (hm : cap ≤ maxLen) (hsl : Sl w w.heap.size A l) (a1 : 0 ≤ at0) (a2 : at0 ≤ 4294967295) (h60 : ¬ 60 < l.length)
    (d1 : -9223372036854775808 ≤ d.1 ∧ d.1 ≤ 9223372036854775807) (d2 : -9223372036854775808 ≤ d.2 ∧ d.2 ≤ 9223372036854775807) (hck : Pl.check l = 0) (hckm : Pl.check (l.map (mv d)) = 0) :
    Calls Try.prog 11 #[.slice A l.length cap, .agg #[.int .i64 d.1, .int .i64 d.2], .int .u32 at0] w fun e w' => e = .returned (.bool true) ∧ Below w.heap.size w w' := by
  obtain ⟨c1, c2, c3, c4⟩ := check_zero hck
  have hins := ins_of c3
  have hT1 : 1 ≤ Pl.total l := by
    match l, c1, hins, c4 with
    | a :: b :: r, _, hins, c4 =>
      have h1 := seg_pos' (hins 0 (by simp)) (hins 1 (by simp)) (Pl.dup_at c4 0 (by simp))
      have h2 := total_nonneg' (b :: r)
      simp only [List.getElem_cons_zero, List.getElem_cons_succ] at h1
      rw [Pl.total]
      omega
  have hTb : Pl.total l ≤ 2965820801 * 41 := by
    have := total_bound' l hins
    omega
  obtain ⟨s, hs⟩ : ∃ s, s = at0 % (Pl.total l + 1) := ⟨_, rfl⟩
  have hs0 : 0 ≤ s := by rw [hs]; exact Int.emod_nonneg _ (by omega)
  have hs1 : s ≤ Pl.total l := by have := Int.emod_lt_of_pos at0 (show 0 < Pl.total l + 1 by omega); omega
  obtain ⟨p, hok⟩ := shift_ok hck hckm d1 d2 hs0 hs1
  have hlm : (l.map (mv d)).length = l.length := List.length_map _
  have HM := Lib.hid (fun W hW => move_any A cap l d W hW (by omega))
  have HC := Lib.hid (fun W hW => by have := check_any A cap l W hW (by omega); rw [hck] at this; exact this)
  have HCm := Lib.hid (fun A' c' W (hW : Sl W W.heap.size A' (l.map (mv d))) => by have := check_any A' c' (l.map (mv d)) W hW (by omega); rw [hckm, hlm] at this; exact this)
  have HL := Lib.hid (fun W hW => by have := length_any A cap l W hW (by omega); rw [hck, show lenOf l = Pl.total l by unfold lenOf; rw [if_pos hck]] at this; exact this)
  have HLm := Lib.hid (fun A' c' W (hW : Sl W W.heap.size A' (l.map (mv d))) => by have := length_any A' c' (l.map (mv d)) W hW (by omega); rw [hckm, show lenOf (l.map (mv d)) = Pl.total l by unfold lenOf; rw [if_pos hckm, hok.tot], hlm] at this; exact this)
  have HAl := Lib.hid (fun W hW => by have := along_any A cap l s W hW (by omega) (by omega); rw [hok.pt, hok.err] at this; exact this)
  have HAm := Lib.hid (fun A' c' W (hW : Sl W W.heap.size A' (l.map (mv d))) => by have := along_any A' c' (l.map (mv d)) s W hW (by omega) (by omega); rw [hok.pt', hok.err', hlm] at this; exact this)
  have HCt := Lib.hid (fun W hW => by have := cut_any A cap l s W hW (by omega) hcap hm (by omega); rw [hok.err] at this; exact this)
  have HCtm := Lib.hid (fun A' c' W (hW : Sl W W.heap.size A' (l.map (mv d))) (hc1 : l.length ≤ c') (hc2 : c' ≤ maxLen) => by have := cut_any A' c' (l.map (mv d)) s W hW (by omega) (by omega) hc2 (by omega); rw [hok.err', hlm] at this; exact this)
  have HMa := Lib.hid (fun A' c' W (hW : Sl W W.heap.size A' (cutA l s)) => by have := move_any A' c' (cutA l s) d W hW hok.len; rw [hok.cut] at this; exact this)
  unfold alongTup at HAl HAm
  have hcl : (cutA (l.map (mv d)) s).length = (cutA l s).length := by rw [← hok.cut, List.length_map]
  have hcl2 := hok.len
  have HCL := Lib.hid hcl
  clear hok hck hckm c3 c4 hins hcl
  generalize l.map (mv d) = lm at *
  generalize cutA l s = ca at *
  generalize cutA lm s = cm at *
  generalize cutB l s = cb at *
  generalize cutB lm s = cbm at *
  generalize Pl.total l = T at *
  have HS := Lib.hid hs
  clear hs
  have HLM := Lib.hid hlm
  clear hlm
  have hcm := hm
  unfold maxLen at hcm
  obtain ⟨e1, e2⟩ := new_cell w (.int .i64 d.1) (.int .i64 d.2)
  have hB0 := b_new w (.cells #[.int .i64 d.1, .int .i64 d.2] 30)
  have hsl0 : Sl (w.alloc (.cells #[.int .i64 d.1, .int .i64 d.2] 30)) (w.alloc (.cells #[.int .i64 d.1, .int .i64 d.2] 30)).heap.size A l := (hsl.below hB0).more hB0.size
  have hz0 : w.heap.size < (w.alloc (.cells #[.int .i64 d.1, .int .i64 d.2] 30)).heap.size := by rw [size_alloc']; omega
  go_enter Try.func11, Try.ntmps11
  go_wp2_with fail
  (with_reducible refine (HM.out _ hsl0).mono ?_)
  rintro e w1 ⟨v1, rfl, how1, hb1⟩
  have hcv := how1.shape
  obtain ⟨A1, cp1, rfl, hcp1, hm1⟩ := hcv
  have hcpm : cp1 ≤ maxLen := by
    rcases how1.2 with ⟨h1, _⟩ | ⟨g', cap', cur, h1, _, _, _, h2, _⟩
    · injection h1 with _ _ h3; rw [h3]; unfold maxLen; omega
    · injection h1 with _ _ h3; rw [h3]; exact h2
  rw [HLM.out] at *
  replace e1 := cell_keep hb1 hz0 e1
  replace e2 := cell_keep hb1 hz0 e2
  have hB1 := b_tr hB0 hb1
  have hz1 : w.heap.size < w1.heap.size := by have := hb1.size; omega
  have hsl1 := (hsl.below hB1).more hB1.size
  clear how1 hb1 hsl0 HM hB0 hz0
  go_wp2_with fail
  (with_reducible refine (HC.out w1 hsl1).mono ?_)
  rintro e w2 ⟨rfl, hb2⟩
  replace e1 := cell_keep hb2 hz1 e1
  replace e2 := cell_keep hb2 hz1 e2
  have hB2 := b_tr hB1 hb2
  have hz2 : w.heap.size < w2.heap.size := by have := hb2.size; omega
  replace hm1 := (hm1.below hb2).more hb2.size
  clear hb2 hsl1 HC hB1 hz1
  go_wp2_with fail
  (with_reducible refine (HCm.out _ _ w2 hm1).mono ?_)
  rintro e w3 ⟨rfl, hb3⟩
  replace e1 := cell_keep hb3 hz2 e1
  replace e2 := cell_keep hb3 hz2 e2
  have hB3 := b_tr hB2 hb3
  have hz3 : w.heap.size < w3.heap.size := by have := hb3.size; omega
  replace hm1 := (hm1.below hb3).more hb3.size
  have hsl3 := (hsl.below hB3).more hB3.size
  clear hb3 HCm hB2 hz2
  go_wp2_with fail
  (with_reducible refine (HL.out w3 hsl3).mono ?_)
  rintro e w4 ⟨rfl, hb4⟩
  replace e1 := cell_keep hb4 hz3 e1
  replace e2 := cell_keep hb4 hz3 e2
  have hB4 := b_tr hB3 hb4
  have hz4 : w.heap.size < w4.heap.size := by have := hb4.size; omega
  replace hm1 := (hm1.below hb4).more hb4.size
  clear hb4 HL hB3 hz3 hsl3
  go_wp2_with fail
  (with_reducible refine (HLm.out _ _ w4 hm1).mono ?_)
  rintro e w5 ⟨rfl, hb5⟩
  replace e1 := cell_keep hb5 hz4 e1
  replace e2 := cell_keep hb5 hz4 e2
  have hB5 := b_tr hB4 hb5
  have hz5 : w.heap.size < w5.heap.size := by have := hb5.size; omega
  replace hm1 := (hm1.below hb5).more hb5.size
  have hsl5 := (hsl.below hB5).more hB5.size
  clear hb5 HLm hB4 hz4
  go_wp2_with fail
  rw [← HS.out]
  clear HS
  (with_reducible refine (HAl.out w5 hsl5).mono ?_)
  rintro e w6 ⟨rfl, hb6⟩
  obtain ⟨p1, p2⟩ := new_cell w6 (.int .i64 p.1) (.int .i64 p.2)
  have hb6 := b_al hb6 (.cells #[.int .i64 p.1, .int .i64 p.2] 30)
  replace e1 := cell_keep hb6 hz5 e1
  replace e2 := cell_keep hb6 hz5 e2
  have hB6 := b_tr hB5 hb6
  have hz6 : w.heap.size < w6.heap.size + 1 := by have := hb6.size; rw [size_alloc'] at this; omega
  replace hm1 := (hm1.below hb6).more hb6.size
  clear hb6 HAl hB5 hz5 hsl5
  go_wp2_with fail
  (with_reducible refine (HAm.out _ _ _ hm1).mono ?_)
  rintro e w7 ⟨rfl, hb7⟩
  replace e1 := cell_keep hb7 (by rw [size_alloc']; exact hz6) e1
  replace e2 := cell_keep hb7 (by rw [size_alloc']; exact hz6) e2
  replace p1 := cell_keep hb7 (by rw [size_alloc']; omega) p1
  replace p2 := cell_keep hb7 (by rw [size_alloc']; omega) p2
  have hB7 := b_tr hB6 hb7
  have hz7 : w.heap.size < w7.heap.size := by have := hb7.size; rw [size_alloc'] at this; omega
  have hp7 : w6.heap.size < w7.heap.size := by have := hb7.size; rw [size_alloc'] at this; omega
  replace hm1 := (hm1.below hb7).more hb7.size
  clear hb7 HAm hB6 hz6
  generalize w6.heap.size = gp at *
  obtain ⟨q1, q2⟩ := new_cell w7 (.int .i64 (mv d p).1) (.int .i64 (mv d p).2)
  have hb7 := b_new w7 (.cells #[.int .i64 (mv d p).1, .int .i64 (mv d p).2] 30)
  replace e1 := cell_keep hb7 hz7 e1
  replace e2 := cell_keep hb7 hz7 e2
  replace p1 := cell_keep hb7 hp7 p1
  replace p2 := cell_keep hb7 hp7 p2
  have hB7' := b_tr hB7 hb7
  replace hm1 := (hm1.below hb7).more hb7.size
  have hsl7 := (hsl.below hB7').more hB7'.size
  clear hb7 hB7
  go_wp2_with fail
  (with_reducible refine (HCt.out _ hsl7).mono ?_)
  rintro e w8 ⟨va, vb, rfl, howa, howb, hb8⟩
  replace e1 := cell_keep hb8 (by rw [size_alloc']; omega) e1
  replace e2 := cell_keep hb8 (by rw [size_alloc']; omega) e2
  replace p1 := cell_keep hb8 (by rw [size_alloc']; omega) p1
  replace p2 := cell_keep hb8 (by rw [size_alloc']; omega) p2
  replace q1 := cell_keep hb8 (by rw [size_alloc']; omega) q1
  replace q2 := cell_keep hb8 (by rw [size_alloc']; omega) q2
  have hB8 := b_tr hB7' hb8
  have hq8 : w7.heap.size < w8.heap.size := by have := hb8.size; rw [size_alloc'] at this; omega
  have hz8 : w.heap.size < w8.heap.size := by omega
  have hp8 : gp < w8.heap.size := by omega
  replace hm1 := (hm1.below hb8).more hb8.size
  obtain ⟨Aa, ca', rfl, _, hsa⟩ := howa.shape
  obtain ⟨Ab, cb', rfl, _, _⟩ := howb.shape
  clear hb8 hB7' howa howb HCt hz7 hp7 hsl7
  generalize w7.heap.size = gq at *
  go_wp2_with fail
  (with_reducible refine (HCtm.out _ _ _ hm1 hcp1 hcpm).mono ?_)
  rintro e w9 ⟨va2, vb2, rfl, howa2, howb2, hb9⟩
  replace e1 := cell_keep hb9 hz8 e1
  replace e2 := cell_keep hb9 hz8 e2
  replace p1 := cell_keep hb9 hp8 p1
  replace p2 := cell_keep hb9 hp8 p2
  replace q1 := cell_keep hb9 hq8 q1
  replace q2 := cell_keep hb9 hq8 q2
  have hB9 := b_tr hB8 hb9
  replace hsa := (hsa.below hb9).more hb9.size
  obtain ⟨Aa2, ca2, rfl, _, hsa2⟩ := howa2.shape
  obtain ⟨Ab2, cb2, rfl, _, _⟩ := howb2.shape
  clear hb9 hB8 howa2 howb2 HCtm hm1
  have f1 := eq_yes (mv d p)
  have hgd := eqGd
  go_wp2_with fail
  (with_reducible refine (HMa.out _ _ _ hsa).mono ?_)
  rintro e w10 ⟨v10, rfl, how10, hb10⟩
  have hB10 := b_tr hB9 hb10
  obtain ⟨A10, c10, rfl, _, hs10⟩ := how10.shape
  replace hsa2 := (hsa2.below hb10).more hb10.size
  go_wp2_with fail
  (with_reducible refine (same_yes _ _ _ _ cm w10 hs10 hsa2 (by rw [HCL.out]; omega)).mono ?_)
  rintro e w11 ⟨rfl, hb11⟩
  have hB11 := b_tr hB10 hb11
  go_wp2_with fail
  (with_reducible refine (alive_any _).mono ?_)
  rintro e w12 ⟨rfl, hb12⟩
  go_wp2
  go_ret
  exact ⟨rfl, b_tr hB11 hb12⟩

set_option maxRecDepth 100000 in
set_option maxHeartbeats 1000000 in
theorem walk (A : Option Addr) (len cap : Nat) (l : List Pt) (dx dy at0 : Int) (w : World) (h : Came w A len cap l) (wx : (Lit.int .i64 dx).wf = true) (wy : (Lit.int .i64 dy).wf = true) (wa : (Lit.int .u32 at0).wf = true) :
    Calls Try.prog 11 #[.slice A len cap, .agg #[.int .i64 dx, .int .i64 dy], .int .u32 at0] w fun e w' => e = .returned (.bool true) ∧ Below w.heap.size w w' := by
  obtain ⟨rfl, hcap, hm, hsl⟩ := h
  obtain ⟨s1, s2⟩ := bounds_u32 wa
  have d1 := bounds_i64 wx
  have d2 := bounds_i64 wy
  clear wa wx wy
  by_cases h60 : 60 < l.length
  · unfold maxLen at hm
    go_enter Try.func11, Try.ntmps11
    go_wp2_with fail
    refine (alive_any _).mono ?_
    rintro e w1 ⟨rfl, hb1⟩
    go_wp2
    go_ret
    exact ⟨rfl, b_tr (b_new w _) hb1⟩
  · have hlm : (l.map (mv (dx, dy))).length = l.length := List.length_map _
    have HM := Lib.hid (fun W hW => move_any A cap l (dx, dy) W hW (by omega))
    have hB0 := b_new w (.cells #[.int .i64 dx, .int .i64 dy] 30)
    have hsl0 : Sl (w.alloc (.cells #[.int .i64 dx, .int .i64 dy] 30)) (w.alloc (.cells #[.int .i64 dx, .int .i64 dy] 30)).heap.size A l := (hsl.below hB0).more hB0.size
    by_cases hck : Pl.check l = 0
    · by_cases hckm : Pl.check (l.map (mv (dx, dy))) = 0
      · exact walk_ok A cap l (dx, dy) at0 w hcap hm hsl s1 s2 h60 d1 d2 hck hckm
      · have HC := Lib.hid (fun W hW => by have := check_any A cap l W hW (by omega); rw [hck] at this; exact this)
        have HCm := Lib.hid (fun A' c' W (hW : Sl W W.heap.size A' (l.map (mv (dx, dy)))) => by have := check_any A' c' (l.map (mv (dx, dy))) W hW (by omega); rw [hlm] at this; exact this)
        have hck' : (Pl.check (l.map (mv (dx, dy))) != 0) = true := by simpa using hckm
        clear hck hckm
        generalize l.map (mv (dx, dy)) = lm at *
        generalize Pl.check lm = ck at *
        have HLM := Lib.hid hlm
        clear hlm
        unfold maxLen at hm
        go_enter Try.func11, Try.ntmps11
        go_wp2_with fail
        (with_reducible refine (HM.out _ hsl0).mono ?_)
        rintro e w1 ⟨v1, rfl, how1, hb1⟩
        obtain ⟨A1, cp1, rfl, hcp1, hm1⟩ := how1.shape
        rw [HLM.out]
        have hB1 := b_tr hB0 hb1
        go_wp2_with fail
        refine (HC.out w1 ((hsl.below hB1).more hB1.size)).mono ?_
        rintro e w2 ⟨rfl, hb2⟩
        have hB2 := b_tr hB1 hb2
        go_wp2_with fail
        refine (HCm.out _ _ w2 ((hm1.below hb2).more hb2.size)).mono ?_
        rintro e w3 ⟨rfl, hb3⟩
        have hB3 := b_tr hB2 hb3
        go_wp2_with fail
        refine (alive_any _).mono ?_
        rintro e w4 ⟨rfl, hb4⟩
        go_wp2
        go_ret
        exact ⟨rfl, b_tr hB3 hb4⟩
    · have HC := Lib.hid (fun W hW => check_any A cap l W hW (by omega))
      have hck' : (Pl.check l != 0) = true := by simpa using hck
      clear hck
      generalize l.map (mv (dx, dy)) = lm at *
      generalize Pl.check l = ck at *
      have HLM := Lib.hid hlm
      clear hlm
      unfold maxLen at hm
      go_enter Try.func11, Try.ntmps11
      go_wp2_with fail
      (with_reducible refine (HM.out _ hsl0).mono ?_)
      rintro e w1 ⟨v1, rfl, how1, hb1⟩
      obtain ⟨A1, cp1, rfl, hcp1, hm1⟩ := how1.shape
      rw [HLM.out]
      have hB1 := b_tr hB0 hb1
      go_wp2_with fail
      refine (HC.out w1 ((hsl.below hB1).more hB1.size)).mono ?_
      rintro e w2 ⟨rfl, hb2⟩
      have hB2 := b_tr hB1 hb2
      go_wp2_with fail
      refine (alive_any _).mono ?_
      rintro e w4 ⟨rfl, hb4⟩
      go_wp2
      go_ret
      exact ⟨rfl, b_tr hB2 hb4⟩

theorem one_int {H : Type} {enc : TypeId × Value → H} {w : World} {base : Nat} {spare : Nat → Bool} {held : Bool} {x : Int} (h : (Lit.int .i64 x).wf = true) :
    ∃ n, DataW.trod enc Try.prog w base spare held n 3 [.int .i64 x] = some (.lit (.int .i64 x), []) := by
  obtain ⟨n, hn⟩ := shut_int (enc := enc) (w := w) (base := base) (spare := spare) (held := held) Try.underlying3 h
  exact ⟨n, by simpa [Value.cells] using hn⟩

set_option maxRecDepth 100000 in
theorem lifted (os : Os) (started : os.Started) (H : Type) (enc : TypeId × Value → H) :
    ReturnsInHanded {} Try.checked os 11 .any (Rows.polylineShiftsSpec.pre6 enc Try.prog Try.f11 Rows.polylineShiftsRow.domain false) (Rows.polylineShiftsSpec.post enc Try.prog Try.f11 false true false false) := by
  refine returnsInHanded_of_change (C := Try.checked) own started (by kernel_rfl) Try.func11
    (ChangeSpec.witness6 (enc := enc) (C := Try.checked) false ⟨#[], #[.slice none 0 0, .agg #[.int .i64 0, .int .i64 0], .int .u32 0], []⟩ 8 (by kernel_rfl) (by kernel_rfl) (by kernel_rfl) (by kernel_rfl)) ?_
  intro W base args ds gs before hval0 hW hcnd _
  have hval : ∀ (j : Nat) t v, Try.f11.params[j]? = some t → args[j]? = some v → Value.okWide Try.prog W .any base t v := hval0
  have hW' := hW
  obtain ⟨p, q, hA0, hV, rfl, hfz, hnd⟩ := hW
  have hA : DataW.TrodAll enc Try.prog W 0 (fun _ => true) true Try.f11.params.toList args.toList ds p := hA0
  rw [Try.params11] at hA hval
  obtain ⟨v0, vs0, d0, ds0, p0, qq0, hargs, rfl, rfl, h0, r0⟩ := trodAll_cons hA
  obtain ⟨v1, vs1, d1, ds1, p1, qq1, rfl, rfl, rfl, h1, r1⟩ := trodAll_cons r0
  obtain ⟨v2, vs2, d2, ds2, p2, qq2, rfl, rfl, rfl, h2, r2⟩ := trodAll_cons r1
  obtain ⟨rfl, rfl, rfl⟩ := trodAll_nil r2
  obtain rfl : args = #[v0, v1, v2] := by cases args; simp_all
  obtain ⟨rfl, rfl⟩ := trodVars_none hV
  obtain ⟨a0, len0, cap0, rfl⟩ := okWide_slice Try.underlying22 (hval 0 22 v0 rfl rfl)
  have k0 := h0
  have lt0 : ∀ x ∈ p0, x.block < W.heap.size := by obtain ⟨m, hm⟩ := k0; exact DataW.trod_lt m _ _ _ hm
  obtain ⟨l0, w0⟩ : ∃ l, Came W a0 len0 cap0 l := by
    obtain ⟨fuel, hf⟩ := h0
    exact open_spots (by simpa [Value.cells] using hf)
  obtain ⟨c1, e1, y1, z1, m1, rfl, rfl, rfl, hy1, hz1⟩ := Joins.open_agg2 Try.underlying30 (by kernel_rfl) cells30 (hval 1 30 v1 rfl rfl) h1
  obtain ⟨x1, ex1, rfl, wx1⟩ := DataW.trod_int Try.underlying3 hy1
  obtain ⟨q1, eq1, rfl, wq1⟩ := DataW.trod_int Try.underlying3 hz1
  simp at ex1 eq1
  subst ex1 eq1
  obtain ⟨a2, rfl, rfl, rfl, w2⟩ := open_int Try.underlying37 (hval 2 37 v2 rfl rfl) h2
  clear hA0 hval0
  refine (walk a0 len0 cap0 l0 x1 q1 a2 W w0 wx1 wq1 w2).mono fun e W' ⟨he, bel⟩ => ?_
  subst he
  exact ⟨_, rfl, _, _, _, [], _, [], hW', trodAll_mk1 (shut_bool Try.underlying4 _), (trodAll_cons_mk (Below.trod laidOut (by kernel_rfl) (of_decide_eq_true (by kernel_rfl)) k0 bel lt0) (trodAll_cons_mk (Joins.shut_agg2 (y0 := (.lit (.int .i64 x1), [])) (y1 := (.lit (.int .i64 q1), [])) Try.underlying30 (by kernel_rfl) cells30 (one_int wx1) (one_int wq1)) (trodAll_cons_mk (shut_int Try.underlying37 w2) trodAll_mk0))), rfl, bel.frame _, fun h => by cases h⟩

theorem over : Rows.polylineShiftsRow.holds Try.pinned (OpenSpec.ofChange Rows.polylineShiftsSpec) :=
  OpenClaim.holds_of_wide 11 Try.f11 rfl rfl rfl rfl rfl rfl rfl ⟨rfl, rfl, rfl, rfl, rfl⟩ rfl rfl rfl rfl rfl (by kernel_rfl) Try.func11 (by kernel_rfl)
    (of_decide_eq_true (by kernel_rfl)) (by unfold Func.isWrapper; first | (rw [if_pos (by decide +kernel)]; kernel_rfl) | (rw [if_neg (by decide +kernel)]; exact ⟨rfl, rfl⟩))
    (fun os started H enc _ => lifted os started H enc)

theorem proved : Rows.PolylineShiftsSaid := over
#print axioms proved
end Go.Proofs.Ytnmmbcgbijinpaa.shifts
