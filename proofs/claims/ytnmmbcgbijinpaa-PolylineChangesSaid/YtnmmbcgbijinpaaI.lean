/- on, On, Delete. -/
import Derived.Test.YtnmmbcgbijinpaaG
import Derived.Test.YtnmmbcgbijinpaaE0
namespace Go.Proofs.Ytnmmbcgbijinpaa
open Go.RowKit
open Pl (Pt)

theorem mul_bound2 {a b : Int} (a0 : -2097152 ≤ a) (a1 : a ≤ 2097152) (b0 : -2097152 ≤ b) (b1 : b ≤ 2097152) : -4398046511104 ≤ a * b ∧ a * b ≤ 4398046511104 := by
  have h1 := Int.mul_nonneg (show 0 ≤ 2097152 - a by omega) (show 0 ≤ 2097152 - b by omega)
  have h2 := Int.mul_nonneg (show 0 ≤ 2097152 + a by omega) (show 0 ≤ 2097152 + b by omega)
  have h3 := Int.mul_nonneg (show 0 ≤ 2097152 - a by omega) (show 0 ≤ 2097152 + b by omega)
  have h4 := Int.mul_nonneg (show 0 ≤ 2097152 + a by omega) (show 0 ≤ 2097152 - b by omega)
  have e1 : (2097152 - a) * (2097152 - b) = 4398046511104 - 2097152 * a - 2097152 * b + a * b := by grind
  have e2 : (2097152 + a) * (2097152 + b) = 4398046511104 + 2097152 * a + 2097152 * b + a * b := by grind
  have e3 : (2097152 - a) * (2097152 + b) = 4398046511104 - 2097152 * a + 2097152 * b - a * b := by grind
  have e4 : (2097152 + a) * (2097152 - b) = 4398046511104 + 2097152 * a - 2097152 * b - a * b := by grind
  omega

set_option maxRecDepth 100000 in
set_option maxHeartbeats 1000000 in
theorem on_any (a b p : Pt) (w : World) (ha : In a) (hb : In b) (hp : In p) :
    Calls Try.prog 44 #[.agg #[.int .i64 a.1, .int .i64 a.2], .agg #[.int .i64 b.1, .int .i64 b.2], .agg #[.int .i64 p.1, .int .i64 p.2]] w fun e w' => e = .returned (.bool (Pl.onB a b p)) ∧ Below w.heap.size w w' := by
  obtain ⟨a1, a2, a3, a4⟩ := ha
  obtain ⟨b1, b2, b3, b4⟩ := hb
  obtain ⟨p1, p2, p3, p4⟩ := hp
  have m1 := mul_bound2 (a := b.1 - a.1) (b := p.2 - a.2) (by omega) (by omega) (by omega) (by omega)
  have m2 := mul_bound2 (a := b.2 - a.2) (b := p.1 - a.1) (by omega) (by omega) (by omega) (by omega)
  unfold Pl.onB
  by_cases h1 : (b.1 - a.1) * (p.2 - a.2) = (b.2 - a.2) * (p.1 - a.1)
  · have k1 : ((b.1 - a.1) * (p.2 - a.2) == (b.2 - a.2) * (p.1 - a.1)) = true := by simpa using h1
    have k1' : decide ((b.1 - a.1) * (p.2 - a.2) = (b.2 - a.2) * (p.1 - a.1)) = true := by simpa using h1
    rw [k1']
    clear h1 k1'
    go_enter Try.func44, Try.ntmps44
    go_wp2
    all_goals (go_ret; exact ⟨ret_bool (by simp_all <;> (intros; omega)), bA (bA (bA (Below.refl _ _) (Nat.le_refl _) _) (Nat.le_refl _) _) (Nat.le_refl _) _⟩)
  · have k1 : ((b.1 - a.1) * (p.2 - a.2) == (b.2 - a.2) * (p.1 - a.1)) = false := by simpa using h1
    have k1' : decide ((b.1 - a.1) * (p.2 - a.2) = (b.2 - a.2) * (p.1 - a.1)) = false := by simpa using h1
    rw [k1']
    clear h1 k1'
    go_enter Try.func44, Try.ntmps44
    go_wp2
    go_ret
    exact ⟨by simp, bA (bA (bA (Below.refl _ _) (Nat.le_refl _) _) (Nat.le_refl _) _) (Nat.le_refl _) _⟩

set_option maxRecDepth 100000 in
set_option maxHeartbeats 1000000 in
theorem ron_any (a b p : Pt) (w : World) (ha : In a) (hb : In b) (hp : In p) :
    Calls Try.prog 26 #[.agg #[.int .i64 a.1, .int .i64 a.2], .agg #[.int .i64 b.1, .int .i64 b.2], .agg #[.int .i64 p.1, .int .i64 p.2]] w fun e w' => e = .returned (.bool (Pl.onB a b p)) ∧ Below w.heap.size w w' := by
  obtain ⟨a1, a2, a3, a4⟩ := ha
  obtain ⟨b1, b2, b3, b4⟩ := hb
  obtain ⟨p1, p2, p3, p4⟩ := hp
  have m1 := mul_bound2 (a := b.1 - a.1) (b := p.2 - a.2) (by omega) (by omega) (by omega) (by omega)
  have m2 := mul_bound2 (a := b.2 - a.2) (b := p.1 - a.1) (by omega) (by omega) (by omega) (by omega)
  unfold Pl.onB
  by_cases h1 : (b.1 - a.1) * (p.2 - a.2) = (b.2 - a.2) * (p.1 - a.1)
  · have k1 : ((b.1 - a.1) * (p.2 - a.2) - (b.2 - a.2) * (p.1 - a.1) == 0) = true := by simp; omega
    have k1' : decide ((b.1 - a.1) * (p.2 - a.2) = (b.2 - a.2) * (p.1 - a.1)) = true := by simpa using h1
    rw [k1']
    clear h1 k1'
    go_enter Try.func26, Try.ntmps26
    go_wp2
    all_goals (go_ret; exact ⟨ret_bool (by simp_all <;> (intros; omega)), bA (bA (bA (Below.refl _ _) (Nat.le_refl _) _) (Nat.le_refl _) _) (Nat.le_refl _) _⟩)
  · have k1 : ((b.1 - a.1) * (p.2 - a.2) - (b.2 - a.2) * (p.1 - a.1) == 0) = false := by simp; omega
    have k1' : decide ((b.1 - a.1) * (p.2 - a.2) = (b.2 - a.2) * (p.1 - a.1)) = false := by simpa using h1
    rw [k1']
    clear h1 k1'
    go_enter Try.func26, Try.ntmps26
    go_wp2
    go_ret
    exact ⟨by simp, bA (bA (bA (Below.refl _ _) (Nat.le_refl _) _) (Nat.le_refl _) _) (Nat.le_refl _) _⟩
end Go.Proofs.Ytnmmbcgbijinpaa
