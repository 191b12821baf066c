/- Plain mathematics of polylines: integer square root, rounding, lengths, the point at a length, parts, cleaning. No program in sight. -/
namespace Go.Proofs.Ytnmmbcgbijinpaa.Pl

theorem sq_nonneg (a : Int) : 0 ≤ a * a := by
  rcases Int.le_total 0 a with h | h
  · exact Int.mul_nonneg h h
  · exact Int.mul_nonneg_of_nonpos_of_nonpos h h

theorem mul_le_mul_self {a b : Int} (h0 : 0 ≤ a) (h : a ≤ b) : a * a ≤ b * b :=
  Int.mul_le_mul h h h0 (Int.le_trans h0 h)
theorem lt_of_mul_self {a b : Int} (hb : 0 ≤ b) (h : a * a < b * b) : a < b := by
  rcases Int.lt_or_le a b with h1 | h1
  · exact h1
  · have := mul_le_mul_self hb h1
    omega

/-! The integer square root, bit by bit. -/
def rootTo (n : Nat) : Nat → Nat → Nat
  | 0, out => out
  | k + 1, out => rootTo n k (if (out + 2 ^ k) * (out + 2 ^ k) ≤ n then out + 2 ^ k else out)

theorem rootTo_spec (n : Nat) : ∀ (k out : Nat), out * out ≤ n → n < (out + 2 ^ k) * (out + 2 ^ k) →
    rootTo n k out * rootTo n k out ≤ n ∧ n < (rootTo n k out + 1) * (rootTo n k out + 1)
  | 0, out, h1, h2 => ⟨h1, by simpa [rootTo] using h2⟩
  | k + 1, out, h1, h2 => by
    unfold rootTo
    split
    · next h => exact rootTo_spec n k _ h (by
        have e : out + 2 ^ (k + 1) = out + 2 ^ k + 2 ^ k := by rw [Nat.pow_succ]; omega
        rw [e] at h2; exact h2)
    · next h => exact rootTo_spec n k _ h1 (by omega)

def root (n : Int) : Int := (rootTo n.toNat 32 0 : Nat)

theorem root_nonneg (n : Int) : 0 ≤ root n := by unfold root; omega

theorem root_spec {n : Int} (h0 : 0 ≤ n) (h : n ≤ 9223372036854775807) : root n * root n ≤ n ∧ n < (root n + 1) * (root n + 1) := by
  obtain ⟨m, rfl⟩ := Int.eq_ofNat_of_zero_le h0
  have hs := rootTo_spec m 32 0 (by omega) (by
    have : (0 + 2 ^ 32) * (0 + 2 ^ 32) = 18446744073709551616 := by decide
    rw [this]; omega)
  unfold root
  rw [Int.toNat_natCast]
  generalize rootTo m 32 0 = r at hs
  refine ⟨?_, ?_⟩
  · exact_mod_cast hs.1
  · exact_mod_cast hs.2

theorem root_unique {n r : Int} (h0 : 0 ≤ n) (h : n ≤ 9223372036854775807) (hr : 0 ≤ r) (h1 : r * r ≤ n) (h2 : n < (r + 1) * (r + 1)) : root n = r := by
  have hs := root_spec h0 h
  have hn := root_nonneg n
  have a : r < root n + 1 := lt_of_mul_self (by omega) (by omega)
  have b : root n < r + 1 := lt_of_mul_self (by omega) (by omega)
  omega

/-- A step of Newton's way, from above. -/
theorem newton {n x : Int} (_h0 : 0 ≤ n) (hx : 1 ≤ x) : n < ((x + n / x) / 2 + 1) * ((x + n / x) / 2 + 1) := by
  have hq : n < x * (n / x + 1) := by
    have := Int.lt_mul_ediv_self_add (x := n) (k := x) (by omega)
    rw [Int.mul_add]; omega
  generalize n / x = q at hq
  have hy : x + (q + 1) ≤ 2 * ((x + q) / 2 + 1) := by omega
  generalize (x + q) / 2 + 1 = y at hy
  have h4 := sq_nonneg (x - (q + 1))
  have hpos : 0 ≤ x + (q + 1) := by
    rcases Int.lt_or_le (q + 1) 0 with h | h
    · have := Int.mul_nonneg (show 0 ≤ x by omega) (show 0 ≤ -(q + 1) by omega)
      rw [Int.mul_neg] at this
      omega
    · omega
  have h5 := mul_le_mul_self hpos hy
  have e1 : (x - (q + 1)) * (x - (q + 1)) = x * x - 2 * (x * (q + 1)) + (q + 1) * (q + 1) := by grind
  have e2 : (x + (q + 1)) * (x + (q + 1)) = x * x + 2 * (x * (q + 1)) + (q + 1) * (q + 1) := by grind
  have e3 : 2 * y * (2 * y) = 4 * (y * y) := by grind
  omega

theorem newton_done {n x : Int} (hx : 1 ≤ x) (h : x ≤ (x + n / x) / 2) : x * x ≤ n := by
  have hq : x ≤ n / x := by omega
  have := Int.mul_ediv_self_le (x := n) (k := x) (by omega)
  have := Int.mul_le_mul_of_nonneg_left hq (show 0 ≤ x by omega)
  omega

/-! Points. -/
abbrev Pt := Int × Int

def outB (p : Pt) : Bool := decide (p.1 < -1048576) || decide (1048576 < p.1) || decide (p.2 < -1048576) || decide (1048576 < p.2)

/-- a list with two equal neighbours -/
def dupB : List Pt → Bool
  | a :: b :: r => decide (a = b) || dupB (b :: r)
  | _ => false

def check (l : List Pt) : Int :=
  if 40 < l.length then 5 else if l.length < 2 then 11 else if l.any outB = true then 3 else if dupB l = true then 11 else 0

def seg (p q : Pt) : Int := root (1000000 * ((q.1 - p.1) * (q.1 - p.1) + (q.2 - p.2) * (q.2 - p.2)))

def total : List Pt → Int
  | a :: b :: r => seg a b + total (b :: r)
  | _ => 0

/-- a / b, rounded, halves away from zero -/
def rnd (a b : Int) : Int := if a < 0 then -((2 * -a + b) / (2 * b)) else (2 * a + b) / (2 * b)

def atSeg (a b : Pt) (t n : Int) : Pt := (a.1 + rnd (t * (b.1 - a.1)) n, a.2 + rnd (t * (b.2 - a.2)) n)

def loc : List Pt → Int → Option (Nat × Pt)
  | a :: b :: r, s => if s ≤ seg a b then some (0, atSeg a b s (seg a b)) else (loc (b :: r) (s - seg a b)).map fun x => (x.1 + 1, x.2)
  | _, _ => none

def compact : List Pt → List Pt
  | a :: b :: r => if a = b then compact (b :: r) else a :: compact (b :: r)
  | l => l

def part (l : List Pt) : List Pt := match compact l with
  | [a] => [a, a]
  | m => m

def onB (a b p : Pt) : Bool :=
  decide ((b.1 - a.1) * (p.2 - a.2) = (b.2 - a.2) * (p.1 - a.1)) && decide (min a.1 b.1 ≤ p.1) && decide (p.1 ≤ max a.1 b.1) && decide (min a.2 b.2 ≤ p.2) && decide (p.2 ≤ max a.2 b.2)

def cleanTo : Nat → List Pt → Nat → List Pt
  | 0, r, _ => r
  | f + 1, r, i => if i + 1 < r.length then
      if onB (r.getD (i - 1) (0, 0)) (r.getD (i + 1) (0, 0)) (r.getD i (0, 0)) = true then cleanTo f (r.take i ++ r.drop (i + 1)) 1 else cleanTo f r (i + 1)
    else r

def clean (l : List Pt) : List Pt := if 40 < l.length ∨ l.any outB = true then l else cleanTo (100 * (compact l).length) (compact l) 1

end Go.Proofs.Ytnmmbcgbijinpaa.Pl
