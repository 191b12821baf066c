/- PolylineDivides returns true for every list of points and every length: Cut is that of the reference, and the examples hold. -/
import Derived.Test.YtnmmbcgbijinpaaR
namespace Go.Proofs.Ytnmmbcgbijinpaa.divides
open Go.ChangeShapes Go.WideShapes Go.ChangeAt Go.RowKit Go.Deep
open Pl (Pt)

theorem part_len (l : List Pt) : (Pl.part l).length ≤ l.length + 1 := by
  have h := Pl.compact_len l
  by_cases h1 : (Pl.compact l).length = 1
  · obtain ⟨a, ha⟩ : ∃ a, Pl.compact l = [a] := by
      match Pl.compact l, h1 with
      | [a], _ => exact ⟨a, rfl⟩
    rw [part_one ha]
    simp
    rw [h1] at h
    omega
  · rw [part_more h1]; omega
theorem cutA_len (l : List Pt) (s : Int) : (cutA l s).length ≤ l.length + 2 := by
  unfold cutA
  split
  · next x _ =>
    have := part_len (l.take (x.1 + 1) ++ [x.2])
    simp at this
    omega
  · simp
theorem cutB_len (l : List Pt) (s : Int) : (cutB l s).length ≤ l.length + 2 := by
  unfold cutB
  split
  · next x _ =>
    have := part_len (x.2 :: l.drop (x.1 + 1))
    simp at this
    omega
  · simp
theorem ow_same {w : World} {b1 b2 : Nat} {v u : Value} {l : List Pt} (h1 : Ow w b1 v l) (h2 : Ow w b2 u l) (hn : l.length ≤ 65536) :
    Calls Try.prog 21 #[v, u] w fun e w' => e = .returned (.bool true) ∧ Below w.heap.size w w' := by
  obtain ⟨A, c, rfl, _, hs⟩ := h1.shape
  obtain ⟨B, d, rfl, _, ht⟩ := h2.shape
  exact same_yes A B c d l w hs ht hn

set_option maxHeartbeats 1000000 in
theorem walk (A : Option Addr) (len cap : Nat) (l : List Pt) (s : Int) (w : World) (h : Came w A len cap l) (ws : (Lit.int .i64 s).wf = true) :
    Calls Try.prog 5 #[.slice A len cap, .int .i64 s] w fun e w' => e = .returned (.bool true) ∧ Below w.heap.size w w' := by
  obtain ⟨rfl, hcap, hm, hsl⟩ := h
  obtain ⟨s1, s2⟩ := bounds_i64 ws
  clear ws
  by_cases h60 : 60 < l.length
  · unfold maxLen at hm
    go_enter Try.func5, Try.ntmps5
    go_wp2_with fail
    refine (alive_any _).mono ?_
    rintro e w1 ⟨rfl, hb1⟩
    go_wp2
    go_ret
    exact ⟨rfl, hb1⟩
  · have H1 := Lib.hid (cut_any A cap l s w hsl (by omega) hcap hm s2)
    have H2 := Lib.hid (fun W hW => rcut_any A cap l s W hW (by omega) hcap hm)
    have ha := cutA_len l s
    have hb := cutB_len l s
    generalize cutA l s = la at *
    generalize cutB l s = lb at *
    generalize locE l s = E at *
    unfold maxLen at hm
    go_enter Try.func5, Try.ntmps5
    go_wp2_with fail
    refine H1.out.mono ?_
    rintro e w1 ⟨va, vb, rfl, howa, howb, hb1⟩
    have hs1 := (hsl.below hb1).more hb1.size
    go_wp2_with fail
    refine (H2.out w1 hs1).mono ?_
    rintro e w2 ⟨vc, vd, rfl, howc, howd, hb2⟩
    have hB2 := b_tr hb1 hb2
    replace howa := howa.below hb2
    replace howb := howb.below hb2
    go_wp2_with fail
    refine (ow_same howa howc (by omega)).mono ?_
    rintro e w3 ⟨rfl, hb3⟩
    have hB3 := b_tr hB2 hb3
    go_wp2_with fail
    refine (ow_same (howb.below hb3) (howd.below hb3) (by omega)).mono ?_
    rintro e w4 ⟨rfl, hb4⟩
    have hB4 := b_tr hB3 hb4
    go_wp2_with fail
    refine (alive_any _).mono ?_
    rintro e w5 ⟨rfl, hb5⟩
    go_wp2
    go_ret
    exact ⟨rfl, b_tr hB4 hb5⟩

set_option maxRecDepth 100000 in
theorem lifted (os : Os) (started : os.Started) (H : Type) (enc : TypeId × Value → H) :
    ReturnsInHanded {} Try.checked os 5 .any (Rows.polylineDividesSpec.pre6 enc Try.prog Try.f5 Rows.polylineDividesRow.domain false) (Rows.polylineDividesSpec.post enc Try.prog Try.f5 false true false false) := by
  refine returnsInHanded_of_change (C := Try.checked) own started (by kernel_rfl) Try.func5
    (ChangeSpec.witness6 (enc := enc) (C := Try.checked) false ⟨#[], #[.slice none 0 0, .int .i64 0], []⟩ 8 (by kernel_rfl) (by kernel_rfl) (by kernel_rfl) (by kernel_rfl)) ?_
  intro W base args ds gs before hval0 hW hcnd _
  have hval : ∀ (j : Nat) t v, Try.f5.params[j]? = some t → args[j]? = some v → Value.okWide Try.prog W .any base t v := hval0
  have hW' := hW
  obtain ⟨p, q, hA0, hV, rfl, hfz, hnd⟩ := hW
  have hA : DataW.TrodAll enc Try.prog W 0 (fun _ => true) true Try.f5.params.toList args.toList ds p := hA0
  rw [Try.params5] at hA hval
  obtain ⟨v0, vs0, d0, ds0, p0, qq0, hargs, rfl, rfl, h0, r0⟩ := trodAll_cons hA
  obtain ⟨v1, vs1, d1, ds1, p1, qq1, rfl, rfl, rfl, h1, r1⟩ := trodAll_cons r0
  obtain ⟨rfl, rfl, rfl⟩ := trodAll_nil r1
  obtain rfl : args = #[v0, v1] := by cases args; simp_all
  obtain ⟨rfl, rfl⟩ := trodVars_none hV
  obtain ⟨a0, len0, cap0, rfl⟩ := okWide_slice Try.underlying22 (hval 0 22 v0 rfl rfl)
  have k0 := h0
  have lt0 : ∀ x ∈ p0, x.block < W.heap.size := by obtain ⟨m, hm⟩ := k0; exact DataW.trod_lt m _ _ _ hm
  obtain ⟨l0, w0⟩ : ∃ l, Came W a0 len0 cap0 l := by
    obtain ⟨fuel, hf⟩ := h0
    exact open_spots (by simpa [Value.cells] using hf)
  obtain ⟨a1, rfl, rfl, rfl, w1⟩ := open_int Try.underlying3 (hval 1 3 v1 rfl rfl) h1
  clear hA0 hval0
  refine (walk a0 len0 cap0 l0 a1 W w0 w1).mono fun e W' ⟨he, bel⟩ => ?_
  subst he
  exact ⟨_, rfl, _, _, _, [], _, [], hW', trodAll_mk1 (shut_bool Try.underlying4 _), (trodAll_cons_mk (Below.trod laidOut (by kernel_rfl) (of_decide_eq_true (by kernel_rfl)) k0 bel lt0) (trodAll_cons_mk (shut_int Try.underlying3 w1) trodAll_mk0)), rfl, bel.frame _, fun h => by cases h⟩

theorem over : Rows.polylineDividesRow.holds Try.pinned (OpenSpec.ofChange Rows.polylineDividesSpec) :=
  OpenClaim.holds_of_wide 5 Try.f5 rfl rfl rfl rfl rfl rfl rfl ⟨rfl, rfl, rfl, rfl, rfl⟩ rfl rfl rfl rfl rfl (by kernel_rfl) Try.func5 (by kernel_rfl)
    (of_decide_eq_true (by kernel_rfl)) (by unfold Func.isWrapper; first | (rw [if_pos (by decide +kernel)]; kernel_rfl) | (rw [if_neg (by decide +kernel)]; exact ⟨rfl, rfl⟩))
    (fun os started H enc _ => lifted os started H enc)

theorem proved : Rows.PolylineDividesSaid := over
#print axioms proved
end Go.Proofs.Ytnmmbcgbijinpaa.divides
