/- PolylineAlongs returns true for every list of points and every length: Along is that of the reference, and the examples hold. -/
import Derived.Test.YtnmmbcgbijinpaaN
import Derived.Test.YtnmmbcgbijinpaaO
namespace Go.Proofs.Ytnmmbcgbijinpaa.alongs
open Go.ChangeShapes Go.WideShapes Go.ChangeAt Go.RowKit Go.Deep
open Pl (Pt)

set_option maxHeartbeats 1000000 in
theorem walk (A : Option Addr) (len cap : Nat) (l : List Pt) (s : Int) (w : World) (h : Came w A len cap l) (ws : (Lit.int .i64 s).wf = true) :
    Calls Try.prog 4 #[.slice A len cap, .int .i64 s] w fun e w' => e = .returned (.bool true) ∧ Below w.heap.size w w' := by
  obtain ⟨rfl, hcap, hm, hsl⟩ := h
  obtain ⟨s1, s2⟩ := bounds_i64 ws
  clear ws
  unfold maxLen at hm
  by_cases h60 : 60 < l.length
  · go_enter Try.func4, Try.ntmps4
    go_wp2_with fail
    refine (alive_any _).mono ?_
    rintro e w1 ⟨rfl, hb1⟩
    go_wp2
    go_ret
    exact ⟨rfl, hb1⟩
  · have H1 := Lib.hid (fun W hW => along_any A cap l s W hW (by omega) s2)
    have H2 := Lib.hid (fun W hW => ralong_any A cap l s W hW (by omega))
    generalize locPt (locR l s) = p at *
    generalize locE l s = E at *
    unfold alongTup at H1 H2
    have hq0 := eq_yes p
    have hg := eqGd
    go_enter Try.func4, Try.ntmps4
    go_wp2_with fail
    refine (H1.out w hsl).mono ?_
    rintro e w1 ⟨rfl, hb1⟩
    have hB1 := b_al hb1 (.cells #[.int .i64 p.1, .int .i64 p.2] 30)
    have hs1 := (hsl.below hB1).more hB1.size
    go_wp2_with fail
    refine (H2.out _ hs1).mono ?_
    rintro e w2 ⟨rfl, hb2⟩
    have hB2 := b_tr hB1 hb2
    have hz : w1.heap.size < w2.heap.size := by have := hb2.size; simp at this; omega
    obtain ⟨hc, hf⟩ := bcell hb2
    go_wp2_with fail
    refine (alive_any _).mono ?_
    rintro e w5 ⟨rfl, hb5⟩
    go_wp2
    go_ret
    exact ⟨rfl, b_tr (b_al hB2 _) hb5⟩

set_option maxRecDepth 100000 in
theorem lifted (os : Os) (started : os.Started) (H : Type) (enc : TypeId × Value → H) :
    ReturnsInHanded {} Try.checked os 4 .any (Rows.polylineAlongsSpec.pre6 enc Try.prog Try.f4 Rows.polylineAlongsRow.domain false) (Rows.polylineAlongsSpec.post enc Try.prog Try.f4 false true false false) := by
  refine returnsInHanded_of_change (C := Try.checked) own started (by kernel_rfl) Try.func4
    (ChangeSpec.witness6 (enc := enc) (C := Try.checked) false ⟨#[], #[.slice none 0 0, .int .i64 0], []⟩ 8 (by kernel_rfl) (by kernel_rfl) (by kernel_rfl) (by kernel_rfl)) ?_
  intro W base args ds gs before hval0 hW hcnd _
  have hval : ∀ (j : Nat) t v, Try.f4.params[j]? = some t → args[j]? = some v → Value.okWide Try.prog W .any base t v := hval0
  have hW' := hW
  obtain ⟨p, q, hA0, hV, rfl, hfz, hnd⟩ := hW
  have hA : DataW.TrodAll enc Try.prog W 0 (fun _ => true) true Try.f4.params.toList args.toList ds p := hA0
  rw [Try.params4] at hA hval
  obtain ⟨v0, vs0, d0, ds0, p0, qq0, hargs, rfl, rfl, h0, r0⟩ := trodAll_cons hA
  obtain ⟨v1, vs1, d1, ds1, p1, qq1, rfl, rfl, rfl, h1, r1⟩ := trodAll_cons r0
  obtain ⟨rfl, rfl, rfl⟩ := trodAll_nil r1
  obtain rfl : args = #[v0, v1] := by cases args; simp_all
  obtain ⟨rfl, rfl⟩ := trodVars_none hV
  obtain ⟨a0, len0, cap0, rfl⟩ := okWide_slice Try.underlying22 (hval 0 22 v0 rfl rfl)
  have k0 := h0
  have lt0 : ∀ x ∈ p0, x.block < W.heap.size := by obtain ⟨m, hm⟩ := k0; exact DataW.trod_lt m _ _ _ hm
  obtain ⟨l0, w0⟩ : ∃ l, Came W a0 len0 cap0 l := by
    obtain ⟨fuel, hf⟩ := h0
    exact open_spots (by simpa [Value.cells] using hf)
  obtain ⟨a1, rfl, rfl, rfl, w1⟩ := open_int Try.underlying3 (hval 1 3 v1 rfl rfl) h1
  clear hA0 hval0
  refine (walk a0 len0 cap0 l0 a1 W w0 w1).mono fun e W' ⟨he, bel⟩ => ?_
  subst he
  exact ⟨_, rfl, _, _, _, [], _, [], hW', trodAll_mk1 (shut_bool Try.underlying4 _), (trodAll_cons_mk (Below.trod laidOut (by kernel_rfl) (of_decide_eq_true (by kernel_rfl)) k0 bel lt0) (trodAll_cons_mk (shut_int Try.underlying3 w1) trodAll_mk0)), rfl, bel.frame _, fun h => by cases h⟩

theorem over : Rows.polylineAlongsRow.holds Try.pinned (OpenSpec.ofChange Rows.polylineAlongsSpec) :=
  OpenClaim.holds_of_wide 4 Try.f4 rfl rfl rfl rfl rfl rfl rfl ⟨rfl, rfl, rfl, rfl, rfl⟩ rfl rfl rfl rfl rfl (by kernel_rfl) Try.func4 (by kernel_rfl)
    (of_decide_eq_true (by kernel_rfl)) (by unfold Func.isWrapper; first | (rw [if_pos (by decide +kernel)]; kernel_rfl) | (rw [if_neg (by decide +kernel)]; exact ⟨rfl, rfl⟩))
    (fun os started H enc _ => lifted os started H enc)

theorem proved : Rows.PolylineAlongsSaid := over
#print axioms proved
end Go.Proofs.Ytnmmbcgbijinpaa.alongs
