/- The length to a rounded point differs by at most 1000 from the length along the segment. -/
import Derived.Test.YtnmmbcgbijinpaaPlb
namespace Go.Proofs.Ytnmmbcgbijinpaa.Pl

theorem abs_le_of_sq {a b : Int} (hb : 0 ≤ b) (h : a * a ≤ b * b) : -b ≤ a ∧ a ≤ b := by
  constructor
  · rcases Int.lt_or_le a (-b) with h1 | h1
    · exfalso
      have h3 := Int.mul_self_lt_mul_self hb (show b < -a by omega)
      have e : -a * -a = a * a := by grind
      omega
    · exact h1
  · rcases Int.lt_or_le b a with h1 | h1
    · exfalso
      have h3 := Int.mul_self_lt_mul_self hb h1
      omega
    · exact h1

section
variable {dx dy X Y t N e1 e2 : Int}

/-- the square of the length to the rounded point, times N squared -/
theorem near_id (hX : N * X = t * dx + e1) (hY : N * Y = t * dy + e2) :
    N * N * (1000000 * (X * X + Y * Y)) = t * t * (1000000 * (dx * dx + dy * dy)) + 2000 * (t * (1000 * (e1 * dx + e2 * dy))) + 1000000 * (e1 * e1 + e2 * e2) := by
  have a : N * N * (X * X + Y * Y) = (N * X) * (N * X) + (N * Y) * (N * Y) := by grind
  rw [hX, hY] at a
  grind

theorem near_err (_hN : 0 ≤ N) (b1 : -N ≤ 2 * e1) (b2 : 2 * e1 ≤ N) (b3 : -N ≤ 2 * e2) (b4 : 2 * e2 ≤ N) : 2 * (e1 * e1 + e2 * e2) ≤ N * N := by
  have h1 := Int.mul_nonneg (show 0 ≤ N - 2 * e1 by omega) (show 0 ≤ N + 2 * e1 by omega)
  have h2 := Int.mul_nonneg (show 0 ≤ N - 2 * e2 by omega) (show 0 ≤ N + 2 * e2 by omega)
  have a1 : (N - 2 * e1) * (N + 2 * e1) = N * N - 4 * (e1 * e1) := by grind
  have a2 : (N - 2 * e2) * (N + 2 * e2) = N * N - 4 * (e2 * e2) := by grind
  omega

theorem near_cross (hN : 0 ≤ N) (hD : 1000000 * (dx * dx + dy * dy) < (N + 1) * (N + 1)) (hQ : 2 * (e1 * e1 + e2 * e2) ≤ N * N) :
    -(71 * (N * (N + 1))) ≤ 100 * (1000 * (e1 * dx + e2 * dy)) ∧ 100 * (1000 * (e1 * dx + e2 * dy)) ≤ 71 * (N * (N + 1)) := by
  have hM : 0 ≤ N * (N + 1) := Int.mul_nonneg hN (by omega)
  refine abs_le_of_sq (by omega) ?_
  have c := sq_nonneg (e1 * dy - e2 * dx)
  have c2 : (e1 * dy - e2 * dx) * (e1 * dy - e2 * dx) = (e1 * e1 + e2 * e2) * (dx * dx + dy * dy) - (e1 * dx + e2 * dy) * (e1 * dx + e2 * dy) := by grind
  have hQ0 : 0 ≤ e1 * e1 + e2 * e2 := by have := sq_nonneg e1; have := sq_nonneg e2; omega
  have hK0 : 0 ≤ (N + 1) * (N + 1) := sq_nonneg _
  have p1 : (e1 * e1 + e2 * e2) * (1000000 * (dx * dx + dy * dy)) ≤ (e1 * e1 + e2 * e2) * ((N + 1) * (N + 1)) := Int.mul_le_mul_of_nonneg_left (by omega) hQ0
  have p2 : 2 * (e1 * e1 + e2 * e2) * ((N + 1) * (N + 1)) ≤ N * N * ((N + 1) * (N + 1)) := Int.mul_le_mul_of_nonneg_right hQ hK0
  have f1 : (e1 * e1 + e2 * e2) * (1000000 * (dx * dx + dy * dy)) = 1000000 * ((e1 * e1 + e2 * e2) * (dx * dx + dy * dy)) := by grind
  have f2 : 2 * (e1 * e1 + e2 * e2) * ((N + 1) * (N + 1)) = 2 * ((e1 * e1 + e2 * e2) * ((N + 1) * (N + 1))) := by grind
  have f3 : 100 * (1000 * (e1 * dx + e2 * dy)) * (100 * (1000 * (e1 * dx + e2 * dy))) = 10000000000 * ((e1 * dx + e2 * dy) * (e1 * dx + e2 * dy)) := by grind
  have f4 : 71 * (N * (N + 1)) * (71 * (N * (N + 1))) = 5041 * (N * N * ((N + 1) * (N + 1))) := by grind
  have hpos : 0 ≤ N * N * ((N + 1) * (N + 1)) := Int.mul_nonneg (sq_nonneg _) hK0
  omega

theorem near_hi (hN : 1000 ≤ N) (ht0 : 0 ≤ t) (ht : t ≤ N) (hX : N * X = t * dx + e1) (hY : N * Y = t * dy + e2) (b1 : -N ≤ 2 * e1) (b2 : 2 * e1 ≤ N) (b3 : -N ≤ 2 * e2) (b4 : 2 * e2 ≤ N)
    (hD : 1000000 * (dx * dx + dy * dy) < (N + 1) * (N + 1)) {r : Int} (hr1 : r * r ≤ 1000000 * (X * X + Y * Y)) : r ≤ t + 1000 := by
  rcases Int.lt_or_le (t + 1000) r with hr | hr
  · exfalso
    have hQ := near_err (N := N) (by omega) b1 b2 b3 b4
    have hS := near_cross (dx := dx) (dy := dy) (by omega) hD hQ
    have hid := near_id hX hY
    generalize 1000 * (e1 * dx + e2 * dy) = S at hS hid
    generalize e1 * e1 + e2 * e2 = Q at hQ hid
    generalize 1000000 * (dx * dx + dy * dy) = D at hD hid
    generalize 1000000 * (X * X + Y * Y) = L at hr1 hid
    have h1 : (t + 1001) * (t + 1001) ≤ r * r := Int.mul_self_le_mul_self (by omega) (by omega)
    have hNN : 0 ≤ N * N := sq_nonneg N
    have h2 : N * N * ((t + 1001) * (t + 1001)) ≤ N * N * L := Int.mul_le_mul_of_nonneg_left (by omega) hNN
    have h3 : t * t * D ≤ t * t * ((N + 1) * (N + 1)) := Int.mul_le_mul_of_nonneg_left (by omega) (sq_nonneg t)
    have h4 : t * (100 * S) ≤ t * (71 * (N * (N + 1))) := Int.mul_le_mul_of_nonneg_left hS.2 ht0
    have h5 := Int.mul_nonneg ht0 (show 0 ≤ N - t by omega)
    have h6 := Int.mul_nonneg (show 0 ≤ N by omega) h5
    have h7 := Int.mul_nonneg (show 0 ≤ N by omega) (show 0 ≤ N - t by omega)
    have h8 := Int.mul_nonneg ht0 hNN
    have h9 := mul_le_mul_self (a := 1000) (b := N) (by omega) hN
    have g2 : N * N * ((t + 1001) * (t + 1001)) = N * N * (t * t) + 2002 * (t * (N * N)) + 1002001 * (N * N) := by grind
    have g3 : t * t * ((N + 1) * (N + 1)) = N * N * (t * t) + 2 * (N * (t * t)) + t * t := by grind
    have g4 : t * (71 * (N * (N + 1))) = 71 * (t * (N * N)) + 71 * (t * N) := by grind
    have g4' : t * (100 * S) = 100 * (t * S) := by grind
    have g5 : t * (N - t) = t * N - t * t := by grind
    have g6 : N * (t * (N - t)) = t * (N * N) - N * (t * t) := by grind
    have g7 : N * (N - t) = N * N - t * N := by grind
    omega
  · exact hr

theorem near_lo (hN : 1000 ≤ N) (ht0 : 0 ≤ t) (ht : t ≤ N) (hX : N * X = t * dx + e1) (hY : N * Y = t * dy + e2) (b1 : -N ≤ 2 * e1) (b2 : 2 * e1 ≤ N) (b3 : -N ≤ 2 * e2) (b4 : 2 * e2 ≤ N)
    (hD0 : N * N ≤ 1000000 * (dx * dx + dy * dy)) (hD : 1000000 * (dx * dx + dy * dy) < (N + 1) * (N + 1)) {r : Int} (hr0 : 0 ≤ r) (hr2 : 1000000 * (X * X + Y * Y) < (r + 1) * (r + 1)) : t - 1000 ≤ r := by
  rcases Int.lt_or_le r (t - 1000) with hr | hr
  · exfalso
    have hQ := near_err (N := N) (by omega) b1 b2 b3 b4
    have h9 := mul_le_mul_self (a := 1000) (b := N) (by omega) hN
    by_cases h2000 : t ≤ 2000
    · have hx0 := sq_nonneg X
      have hy0 := sq_nonneg Y
      have h1 : (r + 1) * (r + 1) ≤ 1000 * 1000 := mul_le_mul_self (by omega) (by omega)
      have hXX : X * X = 0 := by omega
      have hYY : Y * Y = 0 := by omega
      have hX0 : X = 0 := by rcases Int.mul_eq_zero.1 hXX with h | h <;> exact h
      have hY0 : Y = 0 := by rcases Int.mul_eq_zero.1 hYY with h | h <;> exact h
      subst hX0 hY0
      have e1' : e1 = -(t * dx) := by omega
      have e2' : e2 = -(t * dy) := by omega
      have hq : e1 * e1 + e2 * e2 = t * t * (dx * dx + dy * dy) := by rw [e1', e2']; grind
      have htt := mul_le_mul_self (a := 1001) (b := t) (by omega) (by omega)
      have hd0 : 0 ≤ dx * dx + dy * dy := by have := sq_nonneg dx; have := sq_nonneg dy; omega
      have h3 : 1001 * 1001 * (dx * dx + dy * dy) ≤ t * t * (dx * dx + dy * dy) := Int.mul_le_mul_of_nonneg_right htt hd0
      omega
    · have hS := near_cross (dx := dx) (dy := dy) (by omega) hD hQ
      have hid := near_id hX hY
      have hQ0 : 0 ≤ e1 * e1 + e2 * e2 := by have := sq_nonneg e1; have := sq_nonneg e2; omega
      generalize 1000 * (e1 * dx + e2 * dy) = S at hS hid
      generalize e1 * e1 + e2 * e2 = Q at hQ0 hid
      generalize 1000000 * (dx * dx + dy * dy) = D at hD0 hid
      generalize 1000000 * (X * X + Y * Y) = L at hr2 hid
      have h1 : (r + 1) * (r + 1) ≤ (t - 1000) * (t - 1000) := mul_le_mul_self (by omega) (by omega)
      have hNN : 0 < N * N := by omega
      have h2 : N * N * L ≤ N * N * ((t - 1000) * (t - 1000)) := Int.mul_le_mul_of_nonneg_left (by omega) (by omega)
      have h3 : t * t * (N * N) ≤ t * t * D := Int.mul_le_mul_of_nonneg_left hD0 (sq_nonneg t)
      have h4 : t * (-(71 * (N * (N + 1)))) ≤ t * (100 * S) := Int.mul_le_mul_of_nonneg_left hS.1 ht0
      have h5 := Int.mul_nonneg (Int.mul_nonneg ht0 (show 0 ≤ N by omega)) (show 0 ≤ N - 1420 by omega)
      have h6 := Int.mul_nonneg (show 0 ≤ t - 2001 by omega) (Int.le_of_lt hNN)
      have g2 : N * N * ((t - 1000) * (t - 1000)) = t * t * (N * N) - 2000 * (t * (N * N)) + 1000000 * (N * N) := by grind
      have g4 : t * (-(71 * (N * (N + 1)))) = -(71 * (t * (N * N)) + 71 * (t * N)) := by grind
      have g4' : t * (100 * S) = 100 * (t * S) := by grind
      have g5 : t * N * (N - 1420) = t * (N * N) - 1420 * (t * N) := by grind
      have g6 : (t - 2001) * (N * N) = t * (N * N) - 2001 * (N * N) := by grind
      omega
  · exact hr
end
end Go.Proofs.Ytnmmbcgbijinpaa.Pl
