/- Contracts of Next, Below, Skip and limited, of the program and of the reference. -/
import Derived.Test.YtnfppdlicodgpaaRows
import Derived.Test.YtnfppdlicodgpaaPlain
import Derived.WalkKit
import Derived.WalkSpells
import Derived.WalkLawsBesides
import Derived.Deep.QuietTactic
import Derived.BigQuiet
import Derived.RegionTactic
import Derived.Outline
import Derived.Lib.Hide
import Derived.Laws.BitsLemmas
namespace Go.Proofs.Ytnfppdlicodgpaa
open Go.RowKit
open Pd (St)

theorem u64w (x : Int) : IntKind.u64.wrap x = x % 18446744073709551616 := by rw [IntKind.wrap_u64]
theorem nx_wrap (d : Int) : IntKind.u64.wrap (IntKind.u64.wrap (d * 6364136223846793005) + 1442695040888963407) = Pd.nx d := by
  rw [u64w, u64w]
  unfold Pd.nx
  rw [Int.add_emod, Int.emod_emod, ← Int.add_emod]

set_option maxHeartbeats 400000 in
theorem next_any (d : Int) (w : World) (h : St d) : Calls Try.prog 12 #[.int .u64 d] w fun e w' => e = .returned (.tuple #[.int .u64 (Pd.nx d), .int .i64 (Pd.num (Pd.nx d))]) ∧ w = w' := by
  obtain ⟨h1, h2⟩ := h
  obtain ⟨n1, n2⟩ := Pd.nx_st d
  have hx := nx_wrap d
  unfold Pd.num
  go_enter Try.func12, Try.ntmps12
  go_wp2
  go_ret2
  exact ⟨rfl, rfl⟩
set_option maxHeartbeats 400000 in
theorem rnext_any (d : Int) (w : World) (h : St d) : Calls Try.prog 13 #[.int .u64 d] w fun e w' => e = .returned (.tuple #[.int .u64 (Pd.nx d), .int .i64 (Pd.num (Pd.nx d))]) ∧ w = w' := by
  obtain ⟨h1, h2⟩ := h
  obtain ⟨n1, n2⟩ := Pd.nx_st d
  have hx := nx_wrap d
  unfold Pd.num
  go_enter Try.func13, Try.ntmps13
  go_wp2
  go_ret2
  exact ⟨rfl, rfl⟩

/-- the number of Below -/
def bel (d n : Int) : Int := if n < 1 then 0 else Pd.num (Pd.nx d) % n
theorem bel_pos {d n : Int} (h : 1 ≤ n) : bel d n = Pd.num (Pd.nx d) % n := by unfold bel; rw [if_neg (by omega)]
theorem bel_neg {d n : Int} (h : n < 1) : bel d n = 0 := by unfold bel; rw [if_pos h]

set_option maxHeartbeats 400000 in
theorem below_any (d n : Int) (w : World) (h : St d) : Calls Try.prog 14 #[.int .u64 d, .int .i64 n] w fun e w' => e = .returned (.tuple #[.int .u64 (Pd.nx d), .int .i64 (bel d n)]) ∧ ∃ k, w' = w.drewN k := by
  obtain ⟨n1, n2⟩ := Pd.num_range (Pd.nx_st d)
  by_cases hn : n < 1
  · rw [bel_neg hn]
    go_enter Try.func14, Try.ntmps14
    go_wp2_with (go_at_call 12; refine (next_any _ _ h).mono ?_; rintro e w' ⟨rfl, rfl⟩)
    go_ret2
    exact ⟨rfl, 0, rfl⟩
  · rw [bel_pos (by omega)]
    go_enter Try.func14, Try.ntmps14
    go_wp2_with (go_at_call 12; refine (next_any _ _ h).mono ?_; rintro e w' ⟨rfl, rfl⟩)
    go_quiet (fail)
    go_wp2
    go_ret2
    exact ⟨rfl, _, rfl⟩
set_option maxHeartbeats 400000 in
theorem rbelow_any (d n : Int) (w : World) (h : St d) : Calls Try.prog 15 #[.int .u64 d, .int .i64 n] w fun e w' => e = .returned (.tuple #[.int .u64 (Pd.nx d), .int .i64 (bel d n)]) ∧ ∃ k, w' = w.drewN k := by
  obtain ⟨n1, n2⟩ := Pd.num_range (Pd.nx_st d)
  by_cases hn : n < 1
  · rw [bel_neg hn]
    go_enter Try.func15, Try.ntmps15
    go_wp2_with (go_at_call 13; refine (rnext_any _ _ h).mono ?_; rintro e w' ⟨rfl, rfl⟩)
    go_ret2
    exact ⟨rfl, 0, rfl⟩
  · rw [bel_pos (by omega)]
    go_enter Try.func15, Try.ntmps15
    go_wp2_with (go_at_call 13; refine (rnext_any _ _ h).mono ?_; rintro e w' ⟨rfl, rfl⟩)
    go_quiet (fail)
    go_wp2
    go_ret2
    exact ⟨rfl, _, rfl⟩

theorem wrap_mul_add (d mul add : Int) : IntKind.u64.wrap (IntKind.u64.wrap (d * mul) + add) = (d * mul + add) % 18446744073709551616 := by
  rw [u64w, u64w, Int.add_emod, Int.emod_emod, ← Int.add_emod]
theorem wrap_add_mul (mul add : Int) : IntKind.u64.wrap (add + IntKind.u64.wrap (mul * add)) = (add + mul * add % 18446744073709551616) % 18446744073709551616 := by
  rw [u64w, u64w]
theorem st_mod (x : Int) : St (x % 18446744073709551616) := ⟨by omega, by omega⟩

theorem pow63 : (2 : Int) ^ 63 = 9223372036854775808 := by decide
theorem i64_low (n : Int) (h0 : 0 ≤ n) (h1 : n < 2 ^ 63) : IntKind.i64.wrap n = n := by
  rw [pow63] at h1
  exact IntWalk.i64_in n (by omega)
theorem and_one (n : Int) (h0 : 0 ≤ n) (h1 : n ≤ 9223372036854775807) : bits .and .i64 n 1 = n % 2 := by
  have h := bits_mask .i64 63 (by decide) i64_low 1 (by decide) n h0 (by rw [pow63]; omega)
  have e : ((2 : Int) ^ 1 - 1) = 1 := by decide
  have e2 : ((2 : Int) ^ 1) = 2 := by decide
  rw [e, e2] at h
  exact h
theorem half_nat {k : Int} (h : 0 ≤ k) : (k / 2).toNat = k.toNat / 2 := by omega

set_option maxHeartbeats 400000 in
theorem skip_any (d k : Int) (w : World) (h : St d) (hk : k ≤ 9223372036854775807) : Calls Try.prog 22 #[.int .u64 d, .int .i64 k] w fun e w' => e = .returned (.int .u64 (Pd.it k.toNat d)) ∧ w = w' := by
  generalize hR : Pd.it k.toNat d = R
  have HR : Hid (Pd.it (k.toNat * 1) d = R) := by show _ = _; rw [Nat.mul_one]; exact hR
  clear hR
  have ha := Pd.aff_one
  go_enter Try.func22, Try.ntmps22
  go_wp2
  go_loop [0, 1, 5, 6] (fun d' k' mul add => ∃ (dd kk mm aa : Int) (j : Nat), d' = .int .u64 dd ∧ k' = .int .i64 kk ∧ mul = .int .u64 mm ∧ add = .int .u64 aa ∧ St dd ∧ kk ≤ 9223372036854775807 ∧ Hid (Pd.it (kk.toNat * j) dd = R) ∧ Hid (Pd.Aff j mm aa)) (fun _ k' _ _ => (intOf k').toNat)
  case atStart => exact ⟨d, k, _, _, 1, rfl, rfl, rfl, rfl, h, hk, HR, ha⟩
  case round =>
    obtain ⟨dd, kk, mm, aa, j, rfl, rfl, rfl, rfl, hd, hkk, H1, H2⟩ := hrel
    by_cases h0 : 0 < kk
    · have hb := and_one kk (by omega) hkk
      have HA : Hid (Pd.Aff (2 * j) (IntKind.u64.wrap (mm * mm)) (IntKind.u64.wrap (aa + IntKind.u64.wrap (mm * aa)))) := by
        have := Pd.aff_twice H2.out
        rw [← wrap_add_mul, ← u64w] at this
        exact this
      rcases (show kk % 2 = 1 ∨ kk % 2 = 0 by omega) with hm | hm
      · have HS : Hid (Pd.it ((kk / 2).toNat * (2 * j)) (IntKind.u64.wrap (IntKind.u64.wrap (dd * mm) + aa)) = R) := by
          show _ = _
          rw [half_nat (by omega), wrap_mul_add, Pd.skip_odd H2.out hd (by omega)]
          exact H1.out
        have hst : St (IntKind.u64.wrap (IntKind.u64.wrap (dd * mm) + aa)) := by rw [u64w]; exact st_mod _
        rw [hm] at hb
        have hb1 : (bits .and .i64 kk 1 == 1) = true := by rw [hb]; rfl
        clear hb hm
        go_wp2
        go_round
        case rel => exact ⟨_, _, _, _, 2 * j, rfl, rfl, rfl, rfl, hst, by omega, HS, HA⟩
        case measure => simp [intOf]; omega
      · have HS : Hid (Pd.it ((kk / 2).toNat * (2 * j)) dd = R) := by
          show _ = _
          rw [half_nat (by omega), Pd.skip_even (by omega)]
          exact H1.out
        rw [hm] at hb
        have hb1 : (bits .and .i64 kk 1 == 1) = false := by rw [hb]; rfl
        clear hb hm
        go_wp2
        go_round
        case rel => exact ⟨_, _, _, _, 2 * j, rfl, rfl, rfl, rfl, hd, by omega, HS, HA⟩
        case measure => simp [intOf]; omega
    · go_wp2
      go_ret
      have e : kk.toNat = 0 := by omega
      have := H1.out
      rw [e, Nat.zero_mul] at this
      exact ⟨by rw [← this]; rfl, rfl⟩
end Go.Proofs.Ytnfppdlicodgpaa
