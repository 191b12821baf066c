/- Contracts of the small functions. -/
import Derived.Test.YtnmmbcgbijinpaaRows
import Derived.Test.YtnmmbcgbijinpaaPlain
import Derived.Test.YtnmmbcgbijinpaaShelf
import Derived.Lib.ItoaNum
import Derived.WalkKit
import Derived.WalkSpells
import Derived.WalkLawsBesides
import Derived.Laws.StructEq
import Derived.Deep.QuietTactic
import Derived.BigQuiet
import Derived.RegionTactic
import Derived.Outline
import Derived.Lib.Hide
namespace Go.Proofs.Ytnmmbcgbijinpaa
open Go.RowKit
open Pl (Pt)

set_option maxHeartbeats 400000 in
theorem outside_any (x y : Int) (w : World) :
    Calls Try.prog 35 #[.agg #[.int .i64 x, .int .i64 y]] w fun e w' => e = .returned (.bool (Pl.outB (x, y))) ∧ Below w.heap.size w w' := by
  unfold Pl.outB
  go_enter Try.func35, Try.ntmps35
  go_wp2
  all_goals (go_ret; exact ⟨by simp_all, (Below.refl _ _).alloc (Nat.le_refl _) _⟩)

theorem ret_int {k : IntKind} {a b : Int} (h : a = b) : Ending.returned (.int k a) = .returned (.int k b) := by rw [h]

theorem bitLen_facts {n : Int} (h2 : 2 ≤ n) (h : n ≤ 9223372036854775807) :
    2 ≤ (Lib.bitLen n.toNat : Int) ∧ (Lib.bitLen n.toNat : Int) ≤ 63 ∧ (1 : Int) ≤ 2 ^ ((Lib.bitLen n.toNat + 1) / 2) ∧ (2 : Int) ^ ((Lib.bitLen n.toNat + 1) / 2) ≤ 4294967296 ∧
      n < (2 ^ ((Lib.bitLen n.toNat + 1) / 2) + 1) * (2 ^ ((Lib.bitLen n.toNat + 1) / 2) + 1) := by
  obtain ⟨m, rfl⟩ := Int.eq_ofNat_of_zero_le (show 0 ≤ n by omega)
  rw [Int.toNat_natCast]
  have hb := Lib.bitLenAux_bounds 64 m (by have : (2 : Nat) ^ 64 = 18446744073709551616 := by decide
                                           omega) (by omega)
  have hl := Lib.bitLen_le m 63 (by omega) (by have : (2 : Nat) ^ 63 = 9223372036854775808 := by decide
                                               omega)
  change 1 ≤ Lib.bitLen m ∧ 2 ^ (Lib.bitLen m - 1) ≤ m ∧ m < 2 ^ Lib.bitLen m at hb
  generalize Lib.bitLen m = k at hb hl
  have hk : 2 ≤ k := by
    rcases Nat.lt_or_ge k 2 with h | h
    · have : k = 1 := by omega
      subst this
      omega
    · exact h
  have h1 : (2 : Nat) ^ k ≤ 2 ^ ((k + 1) / 2) * 2 ^ ((k + 1) / 2) := by
    rw [← Nat.pow_add]
    exact Nat.pow_le_pow_right (by omega) (by omega)
  have h4 : (1 : Nat) ≤ 2 ^ ((k + 1) / 2) := Nat.one_le_two_pow
  have h5 : (2 : Nat) ^ ((k + 1) / 2) ≤ 2 ^ 32 := Nat.pow_le_pow_right (by omega) (by omega)
  have h6 : (2 : Nat) ^ 32 = 4294967296 := by decide
  rw [h6] at h5
  have h3 : m < (2 ^ ((k + 1) / 2) + 1) * (2 ^ ((k + 1) / 2) + 1) := by
    rw [Nat.add_mul, Nat.mul_add]; omega
  have e : (2 : Int) ^ ((k + 1) / 2) = ((2 ^ ((k + 1) / 2) : Nat) : Int) := by rw [Int.natCast_pow]; rfl
  rw [e]
  clear e h1 h6
  generalize (2 : Nat) ^ ((k + 1) / 2) = X at h3 h4 h5
  exact ⟨by omega, by omega, by omega, by omega, by exact_mod_cast h3⟩

set_option maxHeartbeats 400000 in
theorem root_any (n : Int) (w : World) (h0 : 2 ≤ n) (h1 : n ≤ 8796093022208000000) :
    Calls Try.prog 46 #[.int .i64 n] w fun e w' => e = .returned (.int .i64 (Pl.root n)) ∧ w = w' := by
  obtain ⟨b1, b2, b3, b4, b5⟩ := bitLen_facts h0 (by omega)
  have H5 := Lib.hid b5
  clear b5
  go_enter Try.func46, Try.ntmps46
  go_wp2_with (go_at_call 52; refine (Try.bits_Len _ _ (by omega) (by omega)).mono ?_; rintro e w' ⟨rfl, rfl⟩)
  go_loop [3] (fun t => ∃ x : Int, 1 ≤ x ∧ x ≤ 4294967296 ∧ Hid (n < (x + 1) * (x + 1)) ∧ t = .int .i64 x) (fun t => (intOf t).toNat)
  case atStart => exact ⟨_, b3, b4, H5, rfl⟩
  case round =>
    obtain ⟨x, hx1, hx2, hx3, rfl⟩ := hrel
    have q1 : 0 ≤ n / x := Int.ediv_nonneg (by omega) (by omega)
    have q2 : n / x ≤ n := Int.ediv_le_self _ (by omega)
    have q3 : 2 ≤ x + n / x := by
      rcases (show x = 1 ∨ 2 ≤ x by omega) with h | h
      · subst h; rw [Int.ediv_one]; omega
      · omega
    have N1 := Lib.hid (Pl.newton (n := n) (x := x) (by omega) hx1)
    have N2 := Lib.hid (Pl.newton_done (n := n) (x := x) hx1)
    by_cases hd : x ≤ (x + n / x) / 2
    · go_wp2
      go_ret
      exact ⟨ret_int (Pl.root_unique (by omega) (by omega) (by omega) (N2.out hd) hx3.out).symm, rfl⟩
    · go_wp2
      go_round
      case rel => exact ⟨_, by omega, by omega, N1, rfl⟩
      case measure => simp [intOf]; omega

set_option maxHeartbeats 400000 in
theorem root_small (n : Int) (w : World) (h1 : n < 2) :
    Calls Try.prog 46 #[.int .i64 n] w fun e w' => e = .returned (.int .i64 n) ∧ w = w' := by
  go_enter Try.func46, Try.ntmps46
  go_wp2
  go_ret
  exact ⟨rfl, rfl⟩

theorem root_all (n : Int) (w : World) (h0 : 0 ≤ n) (h1 : n ≤ 8796093022208000000) :
    Calls Try.prog 46 #[.int .i64 n] w fun e w' => e = .returned (.int .i64 (Pl.root n)) ∧ w = w' := by
  by_cases h : 2 ≤ n
  · exact root_any n w h h1
  · refine (root_small n w (by omega)).mono fun e w' h2 => ⟨h2.1.trans (ret_int ?_), h2.2⟩
    rcases (show n = 0 ∨ n = 1 by omega) with rfl | rfl <;> exact (Pl.root_unique (by omega) (by omega) (by omega) (by decide) (by decide)).symm

/-- the numbers of two points within the limits -/
structure In (p : Pt) : Prop where
  x0 : -1048576 ≤ p.1
  x1 : p.1 ≤ 1048576
  y0 : -1048576 ≤ p.2
  y1 : p.2 ≤ 1048576

theorem sq_le {a m : Int} (h0 : -m ≤ a) (h1 : a ≤ m) : a * a ≤ m * m := by
  have h := Int.mul_nonneg (show 0 ≤ m - a by omega) (show 0 ≤ m + a by omega)
  have e : (m - a) * (m + a) = m * m - a * a := by grind
  omega

set_option maxHeartbeats 400000 in
theorem segment_any (p q : Pt) (w : World) (hp : In p) (hq : In q) :
    Calls Try.prog 32 #[.agg #[.int .i64 p.1, .int .i64 p.2], .agg #[.int .i64 q.1, .int .i64 q.2]] w fun e w' => e = .returned (.int .i64 (Pl.seg p q)) ∧ Below w.heap.size w w' := by
  obtain ⟨x, y⟩ := p
  obtain ⟨u, v⟩ := q
  obtain ⟨a1, a2, a3, a4⟩ := hp
  obtain ⟨c1, c2, c3, c4⟩ := hq
  simp only at a1 a2 a3 a4 c1 c2 c3 c4
  have s1 := Pl.sq_nonneg (u - x)
  have s2 := Pl.sq_nonneg (v - y)
  have s3 := sq_le (a := u - x) (m := 2097152) (by omega) (by omega)
  have s4 := sq_le (a := v - y) (m := 2097152) (by omega) (by omega)
  simp only [show (2097152 : Int) * 2097152 = 4398046511104 by decide] at s3 s4
  unfold Pl.seg
  go_enter Try.func32, Try.ntmps32
  go_wp2
  go_quiet (fail)
  go_wp2_with fail
  refine (root_all _ _ (by omega) (by omega)).mono ?_
  rintro e w' ⟨rfl, rfl⟩
  go_wp2
  go_ret
  exact ⟨rfl, below_drewN (((Below.refl _ _).alloc (Nat.le_refl _) _).alloc (by simp) _) _⟩
end Go.Proofs.Ytnmmbcgbijinpaa
