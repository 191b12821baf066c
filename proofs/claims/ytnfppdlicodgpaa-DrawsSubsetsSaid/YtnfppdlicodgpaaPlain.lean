/- Plain mathematics of the draws: a linear congruential generator, its powers, shuffles and samples. No program in sight. -/
namespace Go.Proofs.Ytnfppdlicodgpaa.Pd

/-- the next state -/
def nx (d : Int) : Int := (d * 6364136223846793005 + 1442695040888963407) % 18446744073709551616
def num (d : Int) : Int := d / 8589934592
/-- a state -/
structure St (d : Int) : Prop where
  lo : 0 ≤ d
  hi : d ≤ 18446744073709551615

theorem nx_st (d : Int) : St (nx d) := by
  unfold nx
  exact ⟨by omega, by omega⟩
theorem num_range {d : Int} (h : St d) : 0 ≤ num d ∧ num d ≤ 2147483647 := by
  obtain ⟨h1, h2⟩ := h
  unfold num
  omega

def it : Nat → Int → Int
  | 0, d => d
  | k + 1, d => it k (nx d)

theorem it_zero (d : Int) : it 0 d = d := rfl
theorem it_succ (k : Nat) (d : Int) : it (k + 1) d = it k (nx d) := rfl
theorem it_one (d : Int) : it 1 d = nx d := rfl
theorem it_add (a b : Nat) (d : Int) : it (a + b) d = it b (it a d) := by
  induction a generalizing d with
  | zero => rw [Nat.zero_add, it_zero]
  | succ a ih => rw [Nat.succ_add, it_succ, it_succ, ih]
theorem it_st {d : Int} (h : St d) (k : Nat) : St (it k d) := by
  induction k generalizing d with
  | zero => exact h
  | succ k ih => exact ih (nx_st d)
theorem it_next (k : Nat) (d : Int) : it (k + 1) d = nx (it k d) := by
  rw [it_add, it_one]

/-- j steps are one affine map -/
def Aff (j : Nat) (mul add : Int) : Prop := ∀ x, St x → it j x = (x * mul + add) % 18446744073709551616

theorem aff_one : Aff 1 6364136223846793005 1442695040888963407 := fun _ _ => rfl
theorem emod_mul_left (a b M : Int) : (a % M * b) % M = (a * b) % M := by rw [Int.mul_emod, Int.emod_emod, ← Int.mul_emod]
theorem emod_mul_right (a b M : Int) : (a * (b % M)) % M = (a * b) % M := by rw [Int.mul_emod, Int.emod_emod, ← Int.mul_emod]
theorem aff_twice {j : Nat} {mul add : Int} (h : Aff j mul add) : Aff (2 * j) ((mul * mul) % 18446744073709551616) ((add + (mul * add) % 18446744073709551616) % 18446744073709551616) := fun x hx => by
  rw [Nat.two_mul, it_add, h _ (it_st hx j), h x hx]
  have e1 : ((x * mul + add) % 18446744073709551616 * mul + add) % 18446744073709551616 = ((x * mul + add) * mul + add) % 18446744073709551616 := by
    rw [Int.add_emod, emod_mul_left, ← Int.add_emod]
  have e2 : (x * (mul * mul % 18446744073709551616) + (add + mul * add % 18446744073709551616) % 18446744073709551616) % 18446744073709551616 = (x * (mul * mul) + (add + mul * add)) % 18446744073709551616 := by
    rw [Int.add_emod, emod_mul_right, Int.emod_emod, Int.add_emod add, Int.emod_emod, ← Int.add_emod add, ← Int.add_emod]
  rw [e1, e2, show (x * mul + add) * mul + add = x * (mul * mul) + (add + mul * add) by rw [Int.add_mul, Int.mul_assoc, Int.mul_comm add mul]; omega]

/-- what is left of a skip -/
theorem skip_odd {k j : Nat} {mul add d : Int} (h : Aff j mul add) (hd : St d) (hk : k % 2 = 1) : it (k / 2 * (2 * j)) ((d * mul + add) % 18446744073709551616) = it (k * j) d := by
  rw [← h d hd, ← it_add]
  have e : k = 2 * (k / 2) + 1 := by omega
  generalize k / 2 = q at e ⊢
  subst e
  rw [show j + q * (2 * j) = (2 * q + 1) * j by rw [Nat.add_mul, Nat.one_mul, Nat.mul_left_comm, Nat.mul_assoc]; omega]
theorem skip_even {k j : Nat} {d : Int} (hk : k % 2 = 0) : it (k / 2 * (2 * j)) d = it (k * j) d := by
  have e : k = 2 * (k / 2) := by omega
  generalize k / 2 = q at e ⊢
  subst e
  rw [show q * (2 * j) = 2 * q * j by rw [Nat.mul_left_comm, Nat.mul_assoc]]

theorem inj_aux {A B C K M d e : Int} (hAC : A * C = 1 + M * K) (h : (d * A + B) % M = (e * A + B) % M) : ∃ z, d - e = M * z := by
  have h1 := Int.emod_eq_emod_iff_emod_sub_eq_zero.1 h
  obtain ⟨k, hk⟩ := Int.dvd_of_emod_eq_zero h1
  refine ⟨k * C - (d - e) * K, ?_⟩
  have h3 : (d - e) * (A * C) = M * (k * C) := by rw [← Int.mul_assoc, ← Int.mul_assoc, ← hk]; grind
  rw [hAC] at h3
  grind
theorem nx_inj {d e : Int} (hd : St d) (he : St e) (h : nx d = nx e) : d = e := by
  obtain ⟨d1, d2⟩ := hd
  obtain ⟨e1, e2⟩ := he
  unfold nx at h
  obtain ⟨z, hz⟩ := inj_aux (C := 13877824140714322085) (K := 4787856489426250814) (by decide) h
  clear h
  omega

/-! The period. -/
/-- the map of 2^j steps -/
structure Pow (j : Nat) (mul add : Int) : Prop where
  m : ∃ m, mul = 1 + 4 * (2 ^ j * m)
  c : ∃ c, add = 2 ^ j * (2 * c + 1)
  aff : ∀ x, St x → ∃ q, it (2 ^ j) x = x * mul + add + 18446744073709551616 * q

theorem pow_zero : Pow 0 6364136223846793005 1442695040888963407 where
  m := ⟨1591034055961698251, by decide⟩
  c := ⟨721347520444481703, by decide⟩
  aff := fun x _ => ⟨-((x * 6364136223846793005 + 1442695040888963407) / 18446744073709551616), by
    show nx x = _
    unfold nx
    omega⟩
theorem pow_succ {j : Nat} {mul add : Int} (h : Pow j mul add) : Pow (j + 1) (mul * mul) (add * mul + add) where
  m := by
    obtain ⟨m, rfl⟩ := h.m
    refine ⟨m + 2 * (2 ^ j * (m * m)), ?_⟩
    rw [Int.pow_succ]
    grind
  c := by
    obtain ⟨m, rfl⟩ := h.m
    obtain ⟨c, rfl⟩ := h.c
    refine ⟨c + 2 * (2 ^ j * m * c) + 2 ^ j * m, ?_⟩
    rw [Int.pow_succ]
    grind
  aff := fun x hx => by
    obtain ⟨q, hq⟩ := h.aff x hx
    obtain ⟨q', hq'⟩ := h.aff _ (it_st hx (2 ^ j))
    refine ⟨q' + q * mul, ?_⟩
    rw [Nat.pow_succ, Nat.mul_two, it_add, hq', hq]
    grind
theorem pow_ex : ∀ j : Nat, ∃ mul add, Pow j mul add
  | 0 => ⟨_, _, pow_zero⟩
  | j + 1 => by
    obtain ⟨a, b, h⟩ := pow_ex j
    exact ⟨_, _, pow_succ h⟩

theorem two_pow_dvd {j : Nat} (h : j ≤ 64) : ∃ r : Int, 18446744073709551616 = (2 : Int) ^ j * r := by
  refine ⟨2 ^ (64 - j), ?_⟩
  rw [← Int.pow_add, show j + (64 - j) = 64 by omega]
  decide

theorem period_step {d : Int} (hd : St d) (j : Nat) (hj : j ≤ 63) : ∃ q, it (2 ^ j) d - d = 2 ^ j + 2 ^ (j + 1) * q := by
  obtain ⟨mul, add, h⟩ := pow_ex j
  obtain ⟨m, hm⟩ := h.m
  obtain ⟨c, hc⟩ := h.c
  obtain ⟨q, hq⟩ := h.aff d hd
  obtain ⟨r, hr⟩ := two_pow_dvd (j := j + 1) (by omega)
  refine ⟨2 * d * m + c + r * q, ?_⟩
  rw [hq, hr, hm, hc, Int.pow_succ]
  grind
/-- the difference after 2^k steps, modulo 2^k -/
theorem period_whole {d : Int} (hd : St d) (k : Nat) (hk : k ≤ 63) : (it (2 ^ k) d - d) % 2 ^ k = 0 := by
  obtain ⟨q, hq⟩ := period_step hd k hk
  rw [hq, Int.pow_succ, show (2 : Int) ^ k + 2 ^ k * 2 * q = 2 ^ k * (1 + 2 * q) by grind]
  exact Int.mul_emod_right _ _
theorem period_half {d : Int} (hd : St d) (k : Nat) (hk : k + 1 ≤ 63) : (it (2 ^ k) d - d) % 2 ^ (k + 1) = 2 ^ k := by
  obtain ⟨q, hq⟩ := period_step hd k (by omega)
  rw [hq, Int.add_mul_emod_self_left]
  have h : (0 : Int) < 2 ^ k := Int.pow_pos (by omega)
  exact Int.emod_eq_of_lt (by omega) (by rw [Int.pow_succ]; omega)

/-! Shuffles. -/
def swap (l : List Int) (i k : Nat) : List Int := (l.set i (l.getD k 0)).set k (l.getD i 0)
theorem swap_length (l : List Int) (i k : Nat) : (swap l i k).length = l.length := by simp [swap]

/-- from index i down to 1 -/
def shuf : Nat → Int → List Int → Int × List Int
  | 0, d, l => (d, l)
  | i + 1, d, l => shuf i (nx d) (swap l (i + 1) (num (nx d) % (i + 1 + 1 : Nat)).toNat)
def ids (n : Nat) : List Int := (List.range n).map fun (i : Nat) => (i : Int)
def lim (n : Int) : Nat := (min (max n 0) 1000).toNat
def shuffle (d : Int) (n : Int) : Int × List Int := shuf (lim n - 1) d (ids (lim n))

theorem lim_le (n : Int) : lim n ≤ 1000 := by unfold lim; omega
theorem ids_length (n : Nat) : (ids n).length = n := by simp [ids]
theorem ids_get (n i : Nat) (h : i < n) : (ids n)[i]? = some (i : Int) := by simp [ids, h]

theorem draw_lt {d : Int} (h : St d) (i : Nat) : (num d % (i + 1 : Nat)).toNat < i + 1 := by
  have h1 := num_range h
  have := Int.emod_nonneg (num d) (show ((i + 1 : Nat) : Int) ≠ 0 by omega)
  have := Int.emod_lt_of_pos (num d) (show (0 : Int) < ((i + 1 : Nat) : Int) by omega)
  omega

theorem swap_perm (l : List Int) (i k : Nat) (hi : i < l.length) (hk : k < l.length) : (swap l i k).Perm l := by
  unfold swap
  have e1 : l.getD k 0 = l[k] := by simp [List.getD_eq_getElem?_getD, List.getElem?_eq_getElem hk]
  have e2 : l.getD i 0 = l[i] := by simp [List.getD_eq_getElem?_getD, List.getElem?_eq_getElem hi]
  rw [e1, e2]
  exact List.set_set_perm hi hk

theorem shuf_facts : ∀ (i : Nat) (d : Int) (l : List Int), (i = 0 ∨ i < l.length) → (shuf i d l).1 = it i d ∧ (shuf i d l).2.Perm l
  | 0, d, l, _ => ⟨rfl, List.Perm.refl _⟩
  | i + 1, d, l, h => by
    have hk := draw_lt (nx_st d) (i + 1)
    have hl : i + 1 < l.length := by omega
    obtain ⟨h1, h2⟩ := shuf_facts i (nx d) (swap l (i + 1) (num (nx d) % (i + 1 + 1 : Nat)).toNat) (by rw [swap_length]; omega)
    rw [shuf]
    exact ⟨h1, h2.trans (swap_perm l _ _ hl (by omega))⟩
theorem shuffle_facts (d n : Int) : (shuffle d n).1 = it (lim n - 1) d ∧ (shuffle d n).2.Perm (ids (lim n)) :=
  shuf_facts _ _ _ (by rw [ids_length]; omega)
theorem shuffle_length (d n : Int) : (shuffle d n).2.length = lim n := by
  rw [(shuffle_facts d n).2.length_eq, ids_length]
theorem shuffle_mem {d n x : Int} : x ∈ (shuffle d n).2 ↔ 0 ≤ x ∧ x < (lim n : Int) := by
  rw [(shuffle_facts d n).2.mem_iff]
  unfold ids
  rw [List.mem_map]
  constructor
  · rintro ⟨a, ha, rfl⟩
    have := List.mem_range.1 ha
    omega
  · rintro ⟨h1, h2⟩
    exact ⟨x.toNat, List.mem_range.2 (by omega), by omega⟩
theorem ids_nodup (n : Nat) : (ids n).Nodup := by
  unfold ids
  rw [List.nodup_iff_pairwise_ne, List.pairwise_map]
  exact (List.nodup_range (n := n)).imp fun h e => h (by omega)
theorem shuffle_nodup (d n : Int) : (shuffle d n).2.Nodup := (shuffle_facts d n).2.nodup_iff.2 (ids_nodup _)

/-! Samples. -/
def first (d n k : Int) : List Int := (shuffle d n).2.take (min (max k 0) (lim n : Int)).toNat
def sample (d n k : Int) : List Int := (ids (lim n)).filter fun x => decide (x ∈ first d n k)

theorem ids_sorted (n : Nat) : (ids n).Pairwise (· < ·) := by
  unfold ids
  rw [List.pairwise_map]
  exact (List.pairwise_lt_range (n := n)).imp fun h => by omega
theorem sample_sorted (d n k : Int) : (sample d n k).Pairwise (· < ·) := (ids_sorted _).filter _
theorem first_nodup (d n k : Int) : (first d n k).Nodup := (shuffle_nodup d n).sublist (List.take_sublist _ _)
theorem mem_sample {d n k x : Int} : x ∈ sample d n k ↔ x ∈ first d n k := by
  unfold sample
  rw [List.mem_filter, decide_eq_true_eq]
  refine ⟨fun h => h.2, fun h => ⟨?_, h⟩⟩
  have := List.mem_of_mem_take h
  exact (shuffle_facts d n).2.mem_iff.1 this
theorem sample_nodup (d n k : Int) : (sample d n k).Nodup := by
  rw [List.nodup_iff_pairwise_ne]
  exact (sample_sorted d n k).imp fun h e => by omega
theorem sample_perm (d n k : Int) : (sample d n k).Perm (first d n k) :=
  (List.perm_ext_iff_of_nodup (sample_nodup d n k) (first_nodup d n k)).2 fun _ => mem_sample
end Go.Proofs.Ytnfppdlicodgpaa.Pd
