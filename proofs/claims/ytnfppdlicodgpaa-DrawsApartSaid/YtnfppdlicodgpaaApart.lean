/- DrawsApart returns true for all states and every number: Next is one-to-one, and its numbers, and those of Below, are in range. -/
import Derived.Test.YtnfppdlicodgpaaG
namespace Go.Proofs.Ytnfppdlicodgpaa.apart
open Go.ChangeShapes Go.WideShapes Go.ChangeAt Go.RowKit Go.Deep
open Pd (St)

/-- what the law asks of the numbers -/
inductive NumOk (n k i : Int) : Prop
  | low : n < 1 → i = 0 → NumOk n k i
  | mid : 1 ≤ n → n ≤ k → 0 ≤ i → i < n → NumOk n k i
  | high : 1 ≤ n → k < n → i = k → NumOk n k i
theorem num_ok (d n : Int) (h0 : 0 ≤ Pd.num (Pd.nx d)) : NumOk n (Pd.num (Pd.nx d)) (bel d n) := by
  by_cases h1 : n < 1
  · exact .low h1 (bel_neg h1)
  · by_cases h2 : n ≤ Pd.num (Pd.nx d)
    · refine .mid (by omega) h2 ?_ ?_
      · rw [bel_pos (by omega)]; exact Int.emod_nonneg _ (by omega)
      · rw [bel_pos (by omega)]; exact Int.emod_lt_of_pos _ (by omega)
    · exact .high (by omega) (by omega) (by rw [bel_pos (by omega)]; exact Int.emod_eq_of_lt h0 (by omega))

set_option maxHeartbeats 2000000 in
theorem walk (d e n : Int) (w : World) (wd : (Lit.int .u64 d).wf = true) (we : (Lit.int .u64 e).wf = true) (_wn : (Lit.int .i64 n).wf = true) :
    Calls Try.prog 11 #[.int .u64 d, .int .u64 e, .int .i64 n] w fun e w' => e = .returned (.bool true) ∧ Below w.heap.size w w' := by
  have h := st_of wd
  have h' := st_of we
  have H1 := Lib.hid (fun W => next_any d W h)
  have H2 := Lib.hid (fun W => next_any e W h')
  have H3 := Lib.hid (fun W => below_any d n W h)
  obtain ⟨k0, k1⟩ := Pd.num_range (Pd.nx_st d)
  have hok := num_ok d n k0
  have hq : (Pd.nx d == Pd.nx e) = (d == e) := by
    by_cases hde : d = e
    · subst hde; rw [beq_self_eq_true, beq_self_eq_true]
    · have : ¬ Pd.nx d = Pd.nx e := fun he => hde (Pd.nx_inj h h' he)
      rw [beq_eq_false_iff_ne.2 this, beq_eq_false_iff_ne.2 hde]
  generalize Pd.num (Pd.nx d) = k at *
  generalize Pd.num (Pd.nx e) = k2 at *
  generalize Pd.nx d = x at *
  generalize Pd.nx e = y at *
  generalize bel d n = i at *
  have hb : ∃ b, (d == e) = b ∧ (x == y) = b := ⟨_, rfl, hq⟩
  obtain ⟨b, q1, q2⟩ := hb
  clear wd we h h' hq
  cases hok with
  | low h1 h2 =>
    subst h2
    cases b
    all_goals
      go_enter Try.func11, Try.ntmps11
      go_wp2_with fail
      refine (H1.out _).mono ?_
      rintro e w' ⟨rfl, rfl⟩
      go_wp2_with fail
      refine (H2.out _).mono ?_
      rintro e w' ⟨rfl, rfl⟩
      go_wp2_with fail
      refine (H3.out _).mono ?_
      rintro e w' ⟨rfl, n1, hw⟩
      have hB : Below w.heap.size w w' := by rw [hw]; exact below_drewN (Below.refl _ _) _
      clear hw
      go_wp2_with fail
      refine (awake_any _).mono ?_
      rintro e w2 ⟨rfl, hb⟩
      go_wp2
      go_ret
      exact ⟨rfl, b_tr hB hb⟩
  | mid h1 h2 h3 h4 =>
    cases b
    all_goals
      go_enter Try.func11, Try.ntmps11
      go_wp2_with fail
      refine (H1.out _).mono ?_
      rintro e w' ⟨rfl, rfl⟩
      go_wp2_with fail
      refine (H2.out _).mono ?_
      rintro e w' ⟨rfl, rfl⟩
      go_wp2_with fail
      refine (H3.out _).mono ?_
      rintro e w' ⟨rfl, n1, hw⟩
      have hB : Below w.heap.size w w' := by rw [hw]; exact below_drewN (Below.refl _ _) _
      clear hw
      go_wp2_with fail
      refine (awake_any _).mono ?_
      rintro e w2 ⟨rfl, hb⟩
      go_wp2
      go_ret
      exact ⟨rfl, b_tr hB hb⟩
  | high h1 h2 h3 =>
    subst h3
    cases b
    all_goals
      go_enter Try.func11, Try.ntmps11
      go_wp2_with fail
      refine (H1.out _).mono ?_
      rintro e w' ⟨rfl, rfl⟩
      go_wp2_with fail
      refine (H2.out _).mono ?_
      rintro e w' ⟨rfl, rfl⟩
      go_wp2_with fail
      refine (H3.out _).mono ?_
      rintro e w' ⟨rfl, n1, hw⟩
      have hB : Below w.heap.size w w' := by rw [hw]; exact below_drewN (Below.refl _ _) _
      clear hw
      go_wp2_with fail
      refine (awake_any _).mono ?_
      rintro e w2 ⟨rfl, hb⟩
      go_wp2
      go_ret
      exact ⟨rfl, b_tr hB hb⟩

set_option maxRecDepth 100000 in
theorem lifted (os : Os) (started : os.Started) (H : Type) (enc : TypeId × Value → H) :
    ReturnsInHanded {} Try.checked os 11 .any (Rows.drawsApartSpec.pre6 enc Try.prog Try.f11 Rows.drawsApartRow.domain false) (Rows.drawsApartSpec.post enc Try.prog Try.f11 false true false false) := by
  refine returnsInHanded_of_change (C := Try.checked) own started (by kernel_rfl) Try.func11
    (ChangeSpec.witness6 (enc := enc) (C := Try.checked) false ⟨#[], #[.int .u64 0, .int .u64 0, .int .i64 0], []⟩ 8 (by kernel_rfl) (by kernel_rfl) (by kernel_rfl) (by kernel_rfl)) ?_
  intro W base args ds gs before hval0 hW hcnd _
  have hval : ∀ (j : Nat) t v, Try.f11.params[j]? = some t → args[j]? = some v → Value.okWide Try.prog W .any base t v := hval0
  have hW' := hW
  obtain ⟨p, q, hA0, hV, rfl, hfz, hnd⟩ := hW
  have hA : DataW.TrodAll enc Try.prog W 0 (fun _ => true) true Try.f11.params.toList args.toList ds p := hA0
  rw [Try.params11] at hA hval
  obtain ⟨v0, vs0, d0, ds0, p0, qq0, hargs, rfl, rfl, h0, r0⟩ := trodAll_cons hA
  obtain ⟨v1, vs1, d1, ds1, p1, qq1, rfl, rfl, rfl, h1, r1⟩ := trodAll_cons r0
  obtain ⟨v2, vs2, d2, ds2, p2, qq2, rfl, rfl, rfl, h2, r2⟩ := trodAll_cons r1
  obtain ⟨rfl, rfl, rfl⟩ := trodAll_nil r2
  obtain rfl : args = #[v0, v1, v2] := by cases args; simp_all
  obtain ⟨rfl, rfl⟩ := trodVars_none hV
  obtain ⟨a0, rfl, rfl, rfl, w0⟩ := open_int Try.underlying23 (hval 0 23 v0 rfl rfl) h0
  obtain ⟨a1, rfl, rfl, rfl, w1⟩ := open_int Try.underlying23 (hval 1 23 v1 rfl rfl) h1
  obtain ⟨a2, rfl, rfl, rfl, w2⟩ := open_int Try.underlying3 (hval 2 3 v2 rfl rfl) h2
  clear hA0 hval0
  refine (walk a0 a1 a2 W w0 w1 w2).mono fun e W' ⟨he, bel⟩ => ?_
  subst he
  exact ⟨_, rfl, _, _, _, [], _, [], hW', trodAll_mk1 (shut_bool Try.underlying4 _), (trodAll_cons_mk (shut_int Try.underlying23 w0) (trodAll_cons_mk (shut_int Try.underlying23 w1) (trodAll_cons_mk (shut_int Try.underlying3 w2) trodAll_mk0))), rfl, bel.frame _, fun h => by cases h⟩

theorem over : Rows.drawsApartRow.holds Try.pinned (OpenSpec.ofChange Rows.drawsApartSpec) :=
  OpenClaim.holds_of_wide 11 Try.f11 rfl rfl rfl rfl rfl rfl rfl ⟨rfl, rfl, rfl, rfl, rfl⟩ rfl rfl rfl rfl rfl (by kernel_rfl) Try.func11 (by kernel_rfl)
    (of_decide_eq_true (by kernel_rfl)) (by unfold Func.isWrapper; first | (rw [if_pos (by decide +kernel)]; kernel_rfl) | (rw [if_neg (by decide +kernel)]; exact ⟨rfl, rfl⟩))
    (fun os started H enc _ => lifted os started H enc)

theorem proved : Rows.DrawsApartSaid := over
#print axioms proved
end Go.Proofs.Ytnfppdlicodgpaa.apart
