/- PolylineChanges returns true for every list of points and every move: Reverse, Move and Clean are those of the reference, and the examples hold. -/
import Derived.Test.YtnmmbcgbijinpaaU
import Derived.Lib.SmallJoins
namespace Go.Proofs.Ytnmmbcgbijinpaa.changes
open Go.ChangeShapes Go.WideShapes Go.ChangeAt Go.RowKit Go.Deep
open Pl (Pt)

set_option maxHeartbeats 400000 in
theorem rclean_far (A : Option Addr) (c : Nat) (l : List Pt) (w : World) (hl : Sl w w.heap.size A l) (hn : l.length ≤ 1000) (h : 40 < l.length ∨ l.any Pl.outB = true) :
    Calls Try.prog 30 #[.slice A l.length c] w (Fresh w (Pl.clean l)) := by
  have hR : Pl.clean l = l := by
    unfold Pl.clean
    rw [if_pos h]
  rw [hR]
  clear hR
  by_cases h40 : 40 < l.length
  · clear h
    go_enter Try.func30, Try.ntmps30
    go_wp2_with (at_builtin; refine wpList_append_pts _ rfl _ _ rfl w.heap.size (.slice none 0 0) [] rfl (Ow.nil _ _) _ _ l _ _ rfl rfl hl (by simp; omega) (Nat.le_refl _) ?_; intro v2 w2 how2 hg2 hat2)
    go_ret
    rw [List.nil_append] at how2
    exact ⟨_, rfl, how2, b_app (Below.refl _ _) (Ow.nil _ _) hg2⟩
  · have ho : l.any Pl.outB = true := h.resolve_left h40
    have HO := Lib.hid (by have := farL_any A c l w hl (by omega); rw [ho] at this; exact this)
    clear ho h
    go_enter Try.func30, Try.ntmps30
    go_wp2_with fail
    refine HO.out.mono ?_
    rintro e w0 ⟨rfl, hb0⟩
    have hl0 := (hl.below hb0).more hb0.size
    go_wp2_with (at_builtin; refine wpList_append_pts _ rfl _ _ rfl w.heap.size (.slice none 0 0) [] rfl (Ow.nil _ _) _ _ l _ _ rfl rfl hl0 (by simp; omega) hb0.size ?_; intro v2 w2 how2 hg2 hat2)
    go_ret
    rw [List.nil_append] at how2
    exact ⟨_, rfl, how2, b_app hb0 (Ow.nil _ _) hg2⟩
theorem rclean_any (A : Option Addr) (c : Nat) (l : List Pt) (w : World) (hl : Sl w w.heap.size A l) (hn : l.length ≤ 1000) :
    Calls Try.prog 30 #[.slice A l.length c] w (Fresh w (Pl.clean l)) := by
  by_cases h : 40 < l.length ∨ l.any Pl.outB = true
  · exact rclean_far A c l w hl hn h
  · refine rclean_loop A c l w hl (by omega) ?_
    cases ho : l.any Pl.outB
    · rfl
    · exact absurd (.inr ho) h

def Slice (l : List Pt) (w : World) (e : Ending) (w' : World) : Prop := ∃ A c, e = .returned (.slice A l.length c) ∧ Sl w' w'.heap.size A l ∧ Below w.heap.size w w'
theorem slice_of {l : List Pt} {w : World} {e : Ending} {w' : World} (h : Fresh w l e w') : Slice l w e w' := by
  obtain ⟨v, rfl, how, hb⟩ := h
  obtain ⟨A', c', rfl, _, hs⟩ := how.shape
  exact ⟨A', c', rfl, hs, hb⟩

theorem cleanTo_len : ∀ (f : Nat) (r : List Pt) (i : Nat), (Pl.cleanTo f r i).length ≤ r.length
  | 0, _, _ => Nat.le_refl _
  | f + 1, r, i => by
    unfold Pl.cleanTo
    split
    · split
      · have := cleanTo_len f (r.take i ++ r.drop (i + 1)) 1
        have h2 : (r.take i ++ r.drop (i + 1)).length ≤ r.length := by simp; omega
        omega
      · exact cleanTo_len f r (i + 1)
    · exact Nat.le_refl _
theorem clean_len (l : List Pt) : (Pl.clean l).length ≤ l.length := by
  unfold Pl.clean
  split
  · exact Nat.le_refl _
  · exact Nat.le_trans (cleanTo_len _ _ _) (Pl.compact_len l)

set_option maxRecDepth 100000 in
set_option maxHeartbeats 12000000 in
theorem walk (A : Option Addr) (len cap : Nat) (l : List Pt) (dx dy : Int) (w : World) (h : Came w A len cap l) (_wx : (Lit.int .i64 dx).wf = true) (_wy : (Lit.int .i64 dy).wf = true) :
    Calls Try.prog 10 #[.slice A len cap, .agg #[.int .i64 dx, .int .i64 dy]] w fun e w' => e = .returned (.bool true) ∧ Below w.heap.size w w' := by
  obtain ⟨rfl, hcap, hm, hsl⟩ := h
  have hB0 := b_new w (.cells #[.int .i64 dx, .int .i64 dy] 30)
  by_cases h60 : 60 < l.length
  · unfold maxLen at hm
    go_enter Try.func10, Try.ntmps10
    go_wp2_with fail
    refine (alive_any _).mono ?_
    rintro e w1 ⟨rfl, hb1⟩
    go_wp2
    go_ret
    exact ⟨rfl, b_tr hB0 hb1⟩
  · obtain ⟨d1, d2⟩ := new_cell w (.int .i64 dx) (.int .i64 dy)
    have hz0 : w.heap.size < (w.alloc (.cells #[.int .i64 dx, .int .i64 dy] 30)).heap.size := by rw [size_alloc']; omega
    have hsl0 : Sl (w.alloc (.cells #[.int .i64 dx, .int .i64 dy] 30)) (w.alloc (.cells #[.int .i64 dx, .int .i64 dy] 30)).heap.size A l := (hsl.below hB0).more hB0.size
    have H24 := Lib.hid (fun W hW => (reverse_any A cap l W hW (by omega)).mono fun _ _ => slice_of)
    have H27 := Lib.hid (fun W hW => (rreverse_any A cap l W hW (by omega)).mono fun _ _ => slice_of)
    have H28 := Lib.hid (fun W hW => (move_any A cap l (dx, dy) W hW (by omega)).mono fun _ _ => slice_of)
    have H29 := Lib.hid (fun W hW => (rmove_any A cap l (dx, dy) W hW (by omega)).mono fun _ _ => slice_of)
    have H25 := Lib.hid (fun W hW => (clean_any A cap l W hW (by omega)).mono fun _ _ => slice_of)
    have H30 := Lib.hid (fun W hW => (rclean_any A cap l W hW (by omega)).mono fun _ _ => slice_of)
    have n1 : l.reverse.length ≤ 65536 := by rw [List.length_reverse]; omega
    have n2 : (l.map (mv (dx, dy))).length ≤ 65536 := by rw [List.length_map]; omega
    have n3 : (Pl.clean l).length ≤ 65536 := by have := clean_len l; omega
    generalize l.reverse = lr at *
    generalize l.map (mv (dx, dy)) = lm at *
    generalize Pl.clean l = lc at *
    have hcm := hm
    unfold maxLen at hcm
    go_enter Try.func10, Try.ntmps10
    go_wp2
    generalize w.alloc (.cells #[.int .i64 dx, .int .i64 dy] 30) = W0 at *
    have HB0 := Lib.hid hB0
    clear hB0
    generalize hgw : w.heap.size = g at *
    have HGW := Lib.hid hgw
    clear hgw
    have HS24 : Hid (∀ W : World, (W.cell? ⟨g, 0, none⟩ = some (.int .i64 dx) ∧ W.cell? ⟨g, 1, none⟩ = some (.int .i64 dy) ∧ Below W0.heap.size W0 W) → Calls Try.prog 24 #[.slice A l.length cap] W (Slice lr W)) := fun W hW => H24.out W ((hsl0.below hW.2.2).more hW.2.2.size)
    have HS27 : Hid (∀ W : World, (W.cell? ⟨g, 0, none⟩ = some (.int .i64 dx) ∧ W.cell? ⟨g, 1, none⟩ = some (.int .i64 dy) ∧ Below W0.heap.size W0 W) → Calls Try.prog 27 #[.slice A l.length cap] W (Slice lr W)) := fun W hW => H27.out W ((hsl0.below hW.2.2).more hW.2.2.size)
    have HS28 : Hid (∀ W : World, (W.cell? ⟨g, 0, none⟩ = some (.int .i64 dx) ∧ W.cell? ⟨g, 1, none⟩ = some (.int .i64 dy) ∧ Below W0.heap.size W0 W) → Calls Try.prog 28 #[.slice A l.length cap, .agg #[.int .i64 dx, .int .i64 dy]] W (Slice lm W)) := fun W hW => H28.out W ((hsl0.below hW.2.2).more hW.2.2.size)
    have HS29 : Hid (∀ W : World, (W.cell? ⟨g, 0, none⟩ = some (.int .i64 dx) ∧ W.cell? ⟨g, 1, none⟩ = some (.int .i64 dy) ∧ Below W0.heap.size W0 W) → Calls Try.prog 29 #[.slice A l.length cap, .agg #[.int .i64 dx, .int .i64 dy]] W (Slice lm W)) := fun W hW => H29.out W ((hsl0.below hW.2.2).more hW.2.2.size)
    have HS25 : Hid (∀ W : World, (W.cell? ⟨g, 0, none⟩ = some (.int .i64 dx) ∧ W.cell? ⟨g, 1, none⟩ = some (.int .i64 dy) ∧ Below W0.heap.size W0 W) → Calls Try.prog 25 #[.slice A l.length cap] W (Slice lc W)) := fun W hW => H25.out W ((hsl0.below hW.2.2).more hW.2.2.size)
    have HS30 : Hid (∀ W : World, (W.cell? ⟨g, 0, none⟩ = some (.int .i64 dx) ∧ W.cell? ⟨g, 1, none⟩ = some (.int .i64 dy) ∧ Below W0.heap.size W0 W) → Calls Try.prog 30 #[.slice A l.length cap] W (Slice lc W)) := fun W hW => H30.out W ((hsl0.below hW.2.2).more hW.2.2.size)
    clear H24 H27 H28 H29 H25 H30 hsl hsl0
    go_region_held3 (fun w' => w'.cell? ⟨g, 0, none⟩ = some (.int .i64 dx) ∧ w'.cell? ⟨g, 1, none⟩ = some (.int .i64 dy) ∧ Below W0.heap.size W0 w')
      (first | exact ⟨d1, d2, below_drewN (Below.refl _ _) 1⟩ | exact kC (p := (dx, dy)) hz0 hbn (by with_reducible assumption))
      (first
        | (go_at_call 24; (with_reducible refine (HS24.out _ (by with_reducible assumption)).mono ?_); rintro e w' ⟨A1, k1, rfl, hs1, hbn⟩)
        | (go_at_call 27; (with_reducible refine (HS27.out _ (by with_reducible assumption)).mono ?_); rintro e w' ⟨A2, k2, rfl, hs2, hbn⟩; have hs1' := (hs1.below hbn).more hbn.size)
        | (go_at_call 28; (with_reducible refine (HS28.out _ (by with_reducible assumption)).mono ?_); rintro e w' ⟨A3, k3, rfl, hs3, hbn⟩)
        | (go_at_call 29; (with_reducible refine (HS29.out _ (by with_reducible assumption)).mono ?_); rintro e w' ⟨A4, k4, rfl, hs4, hbn⟩; have hs3' := (hs3.below hbn).more hbn.size)
        | (go_at_call 25; (with_reducible refine (HS25.out _ (by with_reducible assumption)).mono ?_); rintro e w' ⟨A5, k5, rfl, hs5, hbn⟩)
        | (go_at_call 30; (with_reducible refine (HS30.out _ (by with_reducible assumption)).mono ?_); rintro e w' ⟨A6, k6, rfl, hs6, hbn⟩; have hs5' := (hs5.below hbn).more hbn.size)
        | (go_at_call_of 21 A6; (with_reducible refine (same_yes _ _ _ _ lc _ hs5' hs6 n3).mono ?_); rintro e w' ⟨rfl, hbn⟩)
        | (go_at_call_of 21 A4; (with_reducible refine (same_yes _ _ _ _ lm _ hs3' hs4 n2).mono ?_); rintro e w' ⟨rfl, hbn⟩)
        | (go_at_call_of 21 A2; (with_reducible refine (same_yes _ _ _ _ lr _ hs1' hs2 n1).mono ?_); rintro e w' ⟨rfl, hbn⟩)
        | (go_at_call 12; refine (alive_any _).mono ?_; rintro e w' ⟨rfl, hbn⟩))
    all_goals
      have hcc : _ ∧ _ ∧ Below W0.heap.size W0 _ := ‹_ ∧ _ ∧ Below W0.heap.size W0 _›
      have hBf : Below g w _ := HB0.out.trans (hcc.2.2.mono (by omega))
      clear hcc
      go_wp2
      go_ret
      exact ⟨rfl, by rw [HGW.out]; exact hBf⟩

theorem one_int {H : Type} {enc : TypeId × Value → H} {w : World} {base : Nat} {spare : Nat → Bool} {held : Bool} {x : Int} (h : (Lit.int .i64 x).wf = true) :
    ∃ n, DataW.trod enc Try.prog w base spare held n 3 [.int .i64 x] = some (.lit (.int .i64 x), []) := by
  obtain ⟨n, hn⟩ := shut_int (enc := enc) (w := w) (base := base) (spare := spare) (held := held) Try.underlying3 h
  exact ⟨n, by simpa [Value.cells] using hn⟩

set_option maxRecDepth 100000 in
theorem lifted (os : Os) (started : os.Started) (H : Type) (enc : TypeId × Value → H) :
    ReturnsInHanded {} Try.checked os 10 .any (Rows.polylineChangesSpec.pre6 enc Try.prog Try.f10 Rows.polylineChangesRow.domain false) (Rows.polylineChangesSpec.post enc Try.prog Try.f10 false true false false) := by
  refine returnsInHanded_of_change (C := Try.checked) own started (by kernel_rfl) Try.func10
    (ChangeSpec.witness6 (enc := enc) (C := Try.checked) false ⟨#[], #[.slice none 0 0, .agg #[.int .i64 0, .int .i64 0]], []⟩ 8 (by kernel_rfl) (by kernel_rfl) (by kernel_rfl) (by kernel_rfl)) ?_
  intro W base args ds gs before hval0 hW hcnd _
  have hval : ∀ (j : Nat) t v, Try.f10.params[j]? = some t → args[j]? = some v → Value.okWide Try.prog W .any base t v := hval0
  have hW' := hW
  obtain ⟨p, q, hA0, hV, rfl, hfz, hnd⟩ := hW
  have hA : DataW.TrodAll enc Try.prog W 0 (fun _ => true) true Try.f10.params.toList args.toList ds p := hA0
  rw [Try.params10] at hA hval
  obtain ⟨v0, vs0, d0, ds0, p0, qq0, hargs, rfl, rfl, h0, r0⟩ := trodAll_cons hA
  obtain ⟨v1, vs1, d1, ds1, p1, qq1, rfl, rfl, rfl, h1, r1⟩ := trodAll_cons r0
  obtain ⟨rfl, rfl, rfl⟩ := trodAll_nil r1
  obtain rfl : args = #[v0, v1] := by cases args; simp_all
  obtain ⟨rfl, rfl⟩ := trodVars_none hV
  obtain ⟨a0, len0, cap0, rfl⟩ := okWide_slice Try.underlying22 (hval 0 22 v0 rfl rfl)
  have k0 := h0
  have lt0 : ∀ x ∈ p0, x.block < W.heap.size := by obtain ⟨m, hm⟩ := k0; exact DataW.trod_lt m _ _ _ hm
  obtain ⟨l0, w0⟩ : ∃ l, Came W a0 len0 cap0 l := by
    obtain ⟨fuel, hf⟩ := h0
    exact open_spots (by simpa [Value.cells] using hf)
  obtain ⟨c1, e1, y1, z1, m1, rfl, rfl, rfl, hy1, hz1⟩ := Joins.open_agg2 Try.underlying30 (by kernel_rfl) cells30 (hval 1 30 v1 rfl rfl) h1
  obtain ⟨x1, ex1, rfl, wx1⟩ := DataW.trod_int Try.underlying3 hy1
  obtain ⟨q1, eq1, rfl, wq1⟩ := DataW.trod_int Try.underlying3 hz1
  simp at ex1 eq1
  subst ex1 eq1
  clear hA0 hval0
  refine (walk a0 len0 cap0 l0 x1 q1 W w0 wx1 wq1).mono fun e W' ⟨he, bel⟩ => ?_
  subst he
  exact ⟨_, rfl, _, _, _, [], _, [], hW', trodAll_mk1 (shut_bool Try.underlying4 _), (trodAll_cons_mk (Below.trod laidOut (by kernel_rfl) (of_decide_eq_true (by kernel_rfl)) k0 bel lt0) (trodAll_cons_mk (Joins.shut_agg2 (y0 := (.lit (.int .i64 x1), [])) (y1 := (.lit (.int .i64 q1), [])) Try.underlying30 (by kernel_rfl) cells30 (one_int wx1) (one_int wq1)) trodAll_mk0)), rfl, bel.frame _, fun h => by cases h⟩

theorem over : Rows.polylineChangesRow.holds Try.pinned (OpenSpec.ofChange Rows.polylineChangesSpec) :=
  OpenClaim.holds_of_wide 10 Try.f10 rfl rfl rfl rfl rfl rfl rfl ⟨rfl, rfl, rfl, rfl, rfl⟩ rfl rfl rfl rfl rfl (by kernel_rfl) Try.func10 (by kernel_rfl)
    (of_decide_eq_true (by kernel_rfl)) (by unfold Func.isWrapper; first | (rw [if_pos (by decide +kernel)]; kernel_rfl) | (rw [if_neg (by decide +kernel)]; exact ⟨rfl, rfl⟩))
    (fun os started H enc _ => lifted os started H enc)

theorem proved : Rows.PolylineChangesSaid := over
#print axioms proved
end Go.Proofs.Ytnmmbcgbijinpaa.changes
