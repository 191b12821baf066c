/- DrawsPeriod returns true for every state and every number: the lowest k bits of the state have the period 2^k. -/
import Derived.Test.YtnfppdlicodgpaaG
namespace Go.Proofs.Ytnfppdlicodgpaa.period
open Go.ChangeShapes Go.WideShapes Go.ChangeAt Go.RowKit Go.Deep
open Pd (St)

theorem wrap_mod (x : Int) (j : Nat) (hj : j ≤ 64) : IntKind.u64.wrap x % 2 ^ j = x % 2 ^ j := by
  obtain ⟨r, hr⟩ := Pd.two_pow_dvd hj
  rw [u64w]
  exact Int.emod_emod_of_dvd x ⟨r, hr⟩

structure PerOk (d : Int) (j : Nat) (P z X z2 Y : Int) : Prop where
  p : (2 : Int) ^ (j + 1) = 2 * P
  q : (2 : Int) ^ j = P
  p0 : 1 ≤ P
  p1 : P ≤ 2305843009213693952
  cz : ∀ W, Calls Try.prog 22 #[.int .u64 d, .int .i64 (2 * P)] W fun e w' => e = .returned (.int .u64 z) ∧ W = w'
  zx : IntKind.u64.wrap (z - d) = X
  x0 : 0 ≤ X
  x1 : X ≤ 18446744073709551615
  xm : X % (2 * P) = 0
  cz2 : ∀ W, Calls Try.prog 22 #[.int .u64 d, .int .i64 P] W fun e w' => e = .returned (.int .u64 z2) ∧ W = w'
  zy : IntKind.u64.wrap (z2 - d) = Y
  y0 : 0 ≤ Y
  y1 : Y ≤ 18446744073709551615
  ym : Y % (2 * P) = P

theorem natPow (j : Nat) : ((2 : Int) ^ j).toNat = 2 ^ j := by
  have : (2 : Int) ^ j = ((2 ^ j : Nat) : Int) := by rw [Int.natCast_pow]; rfl
  rw [this, Int.toNat_natCast]
theorem per_ok {d : Int} (h : St d) (j : Nat) (hj : j ≤ 61) : ∃ P z X z2 Y, PerOk d j P z X z2 Y := by
  have hs : (2 : Int) ^ (j + 1) = 2 * 2 ^ j := by rw [Int.pow_succ]; omega
  have hp : (2 : Int) ^ j ≤ 2305843009213693952 := by
    have : (2 : Int) ^ j ≤ 2 ^ 61 := by exact_mod_cast Nat.pow_le_pow_right (show 0 < 2 by omega) hj
    have e : (2 : Int) ^ 61 = 2305843009213693952 := by decide
    omega
  have h0 : (0 : Int) < 2 ^ j := Int.pow_pos (by omega)
  have w1 := wrap_mod (Pd.it (2 ^ (j + 1)) d - d) (j + 1) (by omega)
  rw [Pd.period_whole h (j + 1) (by omega), hs] at w1
  have w2 := wrap_mod (Pd.it (2 ^ j) d - d) (j + 1) (by omega)
  rw [Pd.period_half h j (by omega), hs] at w2
  have b1 : ∀ x, 0 ≤ IntKind.u64.wrap x ∧ IntKind.u64.wrap x ≤ 18446744073709551615 := fun x => by rw [u64w]; omega
  refine ⟨2 ^ j, Pd.it (2 ^ (j + 1)) d, _, Pd.it (2 ^ j) d, _, ⟨hs, rfl, by omega, hp, fun W => ?_, rfl, (b1 _).1, (b1 _).2, w1, fun W => ?_, rfl, (b1 _).1, (b1 _).2, w2⟩⟩
  · have := skip_any d (2 * 2 ^ j) W h (by omega)
    rw [← hs, natPow] at this
    rw [← hs]
    exact this
  · have := skip_any d (2 ^ j) W h (by omega)
    rw [natPow] at this
    exact this

set_option maxHeartbeats 1000000 in
theorem walk_ok (d k : Int) (w : World) (h : St d) (k0 : 1 ≤ k) (k1 : k ≤ 62) :
    Calls Try.prog 8 #[.int .u64 d, .int .u8 k] w fun e w' => e = .returned (.bool true) ∧ Below w.heap.size w w' := by
  obtain ⟨P, z, X, z2, Y, hok⟩ := per_ok h (k - 1).toNat (by omega)
  have e1 := hok.p
  rw [show (k - 1).toNat + 1 = k.toNat by omega] at e1
  have e2 := hok.q
  rw [show (k - 1).toNat = k.toNat - 1 by omega] at e2
  have p0 := hok.p0
  have p1 := hok.p1
  have HZ := Lib.hid hok.cz
  have HZ2 := Lib.hid hok.cz2
  have x1 := hok.zx
  have x2 := hok.x0
  have x3 := hok.x1
  have x4 := hok.xm
  have y1 := hok.zy
  have y2 := hok.y0
  have y3 := hok.y1
  have y4 := hok.ym
  clear hok
  go_enter Try.func8, Try.ntmps8
  go_wp2_with fail
  (with_reducible refine (HZ.out _).mono ?_)
  rintro e w' ⟨rfl, rfl⟩
  go_wp2_with fail
  (with_reducible refine (HZ2.out _).mono ?_)
  rintro e w' ⟨rfl, rfl⟩
  go_wp2_with fail
  refine (awake_any _).mono ?_
  rintro e w2 ⟨rfl, hb⟩
  go_wp2
  go_ret
  exact ⟨rfl, hb⟩

set_option maxHeartbeats 1000000 in
theorem walk (d k : Int) (w : World) (wd : (Lit.int .u64 d).wf = true) (wk : (Lit.int .u8 k).wf = true) :
    Calls Try.prog 8 #[.int .u64 d, .int .u8 k] w fun e w' => e = .returned (.bool true) ∧ Below w.heap.size w w' := by
  have h := st_of wd
  obtain ⟨k0, k1⟩ := bounds_u8 wk
  clear wd wk
  by_cases h1 : k < 1
  · go_enter Try.func8, Try.ntmps8
    go_wp2_with fail
    refine (awake_any _).mono ?_
    rintro e w2 ⟨rfl, hb⟩
    go_wp2
    go_ret
    exact ⟨rfl, hb⟩
  · by_cases h2 : 62 < k
    · go_enter Try.func8, Try.ntmps8
      go_wp2_with fail
      refine (awake_any _).mono ?_
      rintro e w2 ⟨rfl, hb⟩
      go_wp2
      go_ret
      exact ⟨rfl, hb⟩
    · exact walk_ok d k w h (by omega) (by omega)

set_option maxRecDepth 100000 in
theorem lifted (os : Os) (started : os.Started) (H : Type) (enc : TypeId × Value → H) :
    ReturnsInHanded {} Try.checked os 8 .any (Rows.drawsPeriodSpec.pre6 enc Try.prog Try.f8 Rows.drawsPeriodRow.domain false) (Rows.drawsPeriodSpec.post enc Try.prog Try.f8 false true false false) := by
  refine returnsInHanded_of_change (C := Try.checked) own started (by kernel_rfl) Try.func8
    (ChangeSpec.witness6 (enc := enc) (C := Try.checked) false ⟨#[], #[.int .u64 0, .int .u8 0], []⟩ 8 (by kernel_rfl) (by kernel_rfl) (by kernel_rfl) (by kernel_rfl)) ?_
  intro W base args ds gs before hval0 hW hcnd _
  have hval : ∀ (j : Nat) t v, Try.f8.params[j]? = some t → args[j]? = some v → Value.okWide Try.prog W .any base t v := hval0
  have hW' := hW
  obtain ⟨p, q, hA0, hV, rfl, hfz, hnd⟩ := hW
  have hA : DataW.TrodAll enc Try.prog W 0 (fun _ => true) true Try.f8.params.toList args.toList ds p := hA0
  rw [Try.params8] at hA hval
  obtain ⟨v0, vs0, d0, ds0, p0, qq0, hargs, rfl, rfl, h0, r0⟩ := trodAll_cons hA
  obtain ⟨v1, vs1, d1, ds1, p1, qq1, rfl, rfl, rfl, h1, r1⟩ := trodAll_cons r0
  obtain ⟨rfl, rfl, rfl⟩ := trodAll_nil r1
  obtain rfl : args = #[v0, v1] := by cases args; simp_all
  obtain ⟨rfl, rfl⟩ := trodVars_none hV
  obtain ⟨a0, rfl, rfl, rfl, w0⟩ := open_int Try.underlying23 (hval 0 23 v0 rfl rfl) h0
  obtain ⟨a1, rfl, rfl, rfl, w1⟩ := open_int Try.underlying5 (hval 1 5 v1 rfl rfl) h1
  clear hA0 hval0
  refine (walk a0 a1 W w0 w1).mono fun e W' ⟨he, bel⟩ => ?_
  subst he
  exact ⟨_, rfl, _, _, _, [], _, [], hW', trodAll_mk1 (shut_bool Try.underlying4 _), (trodAll_cons_mk (shut_int Try.underlying23 w0) (trodAll_cons_mk (shut_int Try.underlying5 w1) trodAll_mk0)), rfl, bel.frame _, fun h => by cases h⟩

theorem over : Rows.drawsPeriodRow.holds Try.pinned (OpenSpec.ofChange Rows.drawsPeriodSpec) :=
  OpenClaim.holds_of_wide 8 Try.f8 rfl rfl rfl rfl rfl rfl rfl ⟨rfl, rfl, rfl, rfl, rfl⟩ rfl rfl rfl rfl rfl (by kernel_rfl) Try.func8 (by kernel_rfl)
    (of_decide_eq_true (by kernel_rfl)) (by unfold Func.isWrapper; first | (rw [if_pos (by decide +kernel)]; kernel_rfl) | (rw [if_neg (by decide +kernel)]; exact ⟨rfl, rfl⟩))
    (fun os started H enc _ => lifted os started H enc)

theorem proved : Rows.DrawsPeriodSaid := over
#print axioms proved
end Go.Proofs.Ytnfppdlicodgpaa.period
