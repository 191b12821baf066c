/- Plain facts on rounding and on segments. -/
import Derived.Test.YtnmmbcgbijinpaaPlain
namespace Go.Proofs.Ytnmmbcgbijinpaa.Pl

theorem rnd_zero {b : Int} (hb : 1 ≤ b) : rnd 0 b = 0 := by
  unfold rnd
  rw [if_neg (by omega)]
  apply Int.ediv_eq_zero_of_lt <;> omega
theorem rnd_neg (a : Int) {b : Int} (hb : 1 ≤ b) : rnd (-a) b = -rnd a b := by
  rcases (show a < 0 ∨ a = 0 ∨ 0 < a by omega) with h | h | h
  · unfold rnd
    rw [if_neg (by omega), if_pos h]; omega
  · subst h
    rw [show (-0 : Int) = 0 from rfl, rnd_zero hb]; rfl
  · unfold rnd
    rw [if_pos (by omega), if_neg (by omega)]
    rw [Int.neg_neg]
/-- rounding is nearest: twice the distance is at most one -/
theorem rnd_near (a : Int) {b : Int} (hb : 1 ≤ b) : -b ≤ 2 * (b * rnd a b - a) ∧ 2 * (b * rnd a b - a) ≤ b := by
  have key : ∀ a, 0 ≤ a → -b ≤ 2 * (b * rnd a b - a) ∧ 2 * (b * rnd a b - a) ≤ b := fun a ha => by
    unfold rnd
    rw [if_neg (by omega)]
    have h1 := Int.mul_ediv_self_le (x := 2 * a + b) (k := 2 * b) (by omega)
    have h2 := Int.lt_mul_ediv_self_add (x := 2 * a + b) (k := 2 * b) (by omega)
    generalize (2 * a + b) / (2 * b) = q at h1 h2
    have e : 2 * b * q = 2 * (b * q) := by rw [Int.mul_assoc]
    rw [e] at h1 h2
    omega
  rcases Int.le_total 0 a with h | h
  · exact key a h
  · have h1 := key (-a) (by omega)
    rw [rnd_neg a hb, Int.mul_neg] at h1
    omega
theorem rnd_range_pos {t d n : Int} (ht0 : 0 ≤ t) (ht : t ≤ n) (hn : 1 ≤ n) (hd : 0 ≤ d) : 0 ≤ rnd (t * d) n ∧ rnd (t * d) n ≤ d := by
  have h1 : 0 ≤ t * d := Int.mul_nonneg ht0 hd
  have h2 : t * d ≤ n * d := Int.mul_le_mul_of_nonneg_right ht hd
  unfold rnd
  rw [if_neg (by omega)]
  refine ⟨Int.ediv_nonneg (by omega) (by omega), ?_⟩
  have : (2 * (t * d) + n) / (2 * n) < d + 1 := by
    apply Int.ediv_lt_of_lt_mul (by omega)
    have e : (d + 1) * (2 * n) = 2 * (n * d) + 2 * n := by grind
    omega
  omega
theorem rnd_range_neg {t d n : Int} (ht0 : 0 ≤ t) (ht : t ≤ n) (hn : 1 ≤ n) (hd : d ≤ 0) : d ≤ rnd (t * d) n ∧ rnd (t * d) n ≤ 0 := by
  have h := rnd_range_pos (d := -d) ht0 ht hn (by omega)
  rw [Int.mul_neg, rnd_neg _ hn] at h
  omega

theorem seg_pos {p q : Pt} (h : p ≠ q) (hx : (q.1 - p.1) * (q.1 - p.1) ≤ 4398046511104) (hy : (q.2 - p.2) * (q.2 - p.2) ≤ 4398046511104) : 1000 ≤ seg p q := by
  have s1 := sq_nonneg (q.1 - p.1)
  have s2 := sq_nonneg (q.2 - p.2)
  have h1 : 1 ≤ (q.1 - p.1) * (q.1 - p.1) + (q.2 - p.2) * (q.2 - p.2) := by
    by_cases hx0 : q.1 - p.1 = 0
    · by_cases hy0 : q.2 - p.2 = 0
      · exact absurd (by obtain ⟨a, b⟩ := p; obtain ⟨c, d⟩ := q; simp at hx0 hy0 ⊢; omega) h
      · have : 0 < (q.2 - p.2) * (q.2 - p.2) := by
          rcases (show q.2 - p.2 < 0 ∨ 0 < q.2 - p.2 by omega) with h | h
          · exact Int.mul_pos_of_neg_of_neg h h
          · exact Int.mul_pos h h
        omega
    · have : 0 < (q.1 - p.1) * (q.1 - p.1) := by
        rcases (show q.1 - p.1 < 0 ∨ 0 < q.1 - p.1 by omega) with h | h
        · exact Int.mul_pos_of_neg_of_neg h h
        · exact Int.mul_pos h h
      omega
  unfold seg
  have hs := root_spec (n := 1000000 * ((q.1 - p.1) * (q.1 - p.1) + (q.2 - p.2) * (q.2 - p.2))) (by omega) (by omega)
  have hn := root_nonneg (1000000 * ((q.1 - p.1) * (q.1 - p.1) + (q.2 - p.2) * (q.2 - p.2)))
  have := lt_of_mul_self (a := 999) (b := root (1000000 * ((q.1 - p.1) * (q.1 - p.1) + (q.2 - p.2) * (q.2 - p.2)))) hn (by
    rcases Int.lt_or_le (999 * 999) (root (1000000 * ((q.1 - p.1) * (q.1 - p.1) + (q.2 - p.2) * (q.2 - p.2))) * root (1000000 * ((q.1 - p.1) * (q.1 - p.1) + (q.2 - p.2) * (q.2 - p.2)))) with h2 | h2
    · exact h2
    · exfalso
      have h3 := lt_of_mul_self (a := root (1000000 * ((q.1 - p.1) * (q.1 - p.1) + (q.2 - p.2) * (q.2 - p.2)))) (b := 1000) (by omega) (by omega)
      have h4 := mul_le_mul_self (a := root (1000000 * ((q.1 - p.1) * (q.1 - p.1) + (q.2 - p.2) * (q.2 - p.2))) + 1) (b := 1000) (by omega) (by omega)
      omega)
  omega
theorem dup_at {l : List Pt} : ∀ (_ : dupB l = false) (k : Nat) (hk : k + 1 < l.length), l[k]'(by omega) ≠ l[k + 1] := by
  induction l with
  | nil => intro _ k hk; simp at hk
  | cons a r ih =>
    intro h k hk
    match r, h, hk, ih with
    | b :: r, h, hk, ih =>
      simp only [dupB, Bool.or_eq_false_iff, decide_eq_false_iff_not] at h
      match k with
      | 0 => exact h.1
      | k + 1 => exact ih h.2 k (by simpa using hk)
theorem dup_of {l : List Pt} : ∀ (_ : ∀ (k : Nat) (hk : k + 1 < l.length), l[k]'(by omega) ≠ l[k + 1]), dupB l = false := by
  induction l with
  | nil => intro _; rfl
  | cons a r ih =>
    intro h
    match r, h, ih with
    | [], _, _ => rfl
    | b :: r, h, ih =>
      simp only [dupB, Bool.or_eq_false_iff, decide_eq_false_iff_not]
      exact ⟨h 0 (by simp), ih fun k hk => h (k + 1) (by simpa using hk)⟩

theorem compact_snoc (x y : Pt) : ∀ r : List Pt, compact (r ++ [x] ++ [y]) = if x = y then compact (r ++ [x]) else compact (r ++ [x]) ++ [y]
  | [] => by
    by_cases h : x = y
    · simp [compact, h]
    · simp [compact, h]
  | [a] => by
    have ih := compact_snoc x y []
    simp only [List.nil_append, List.cons_append] at ih ⊢
    by_cases h : a = x
    · rw [compact, if_pos h, ih]
      rw [show compact [a, x] = compact [x] by rw [compact, if_pos h]]
    · rw [compact, if_neg h, ih]
      rw [show compact [a, x] = a :: compact [x] by rw [compact, if_neg h]]
      by_cases h2 : x = y <;> simp [h2]
  | a :: b :: r => by
    have ih := compact_snoc x y (b :: r)
    simp only [List.cons_append] at ih ⊢
    by_cases h : a = b
    · rw [compact, if_pos h, ih, compact, if_pos h]
    · rw [compact, if_neg h, ih, compact, if_neg h]
      by_cases h2 : x = y <;> simp [h2]
theorem compact_take {l : List Pt} {m : Nat} (h1 : 1 ≤ m) (h2 : m < l.length) :
    compact (l.take (m + 1)) = if l[m - 1]'(by omega) = l[m] then compact (l.take m) else compact (l.take m) ++ [l[m]] := by
  obtain ⟨k, rfl⟩ : ∃ k, m = k + 1 := ⟨m - 1, by omega⟩
  rw [List.take_succ_eq_append_getElem h2, List.take_succ_eq_append_getElem (show k < l.length by omega), compact_snoc]
  rfl
theorem compact_of_nodup : ∀ {l : List Pt}, dupB l = false → compact l = l
  | [], _ => rfl
  | [_], _ => rfl
  | a :: b :: r, h => by
    simp only [dupB, Bool.or_eq_false_iff, decide_eq_false_iff_not] at h
    rw [compact, if_neg h.1, compact_of_nodup h.2]
theorem compact_cons (a : Pt) : ∀ l : List Pt, ∃ r, compact (a :: l) = a :: r
  | [] => ⟨[], rfl⟩
  | b :: l => by
    obtain ⟨r, hr⟩ := compact_cons b l
    by_cases h : a = b
    · subst h
      rw [compact, if_pos rfl]
      exact ⟨r, hr⟩
    · rw [compact, if_neg h]
      exact ⟨_, rfl⟩
theorem compact_nodup : ∀ l : List Pt, dupB (compact l) = false
  | [] => rfl
  | [_] => rfl
  | a :: b :: l => by
    have ih := compact_nodup (b :: l)
    by_cases h : a = b
    · rw [compact, if_pos h]; exact ih
    · rw [compact, if_neg h]
      obtain ⟨r, hr⟩ := compact_cons b l
      rw [hr] at ih ⊢
      simp only [dupB, Bool.or_eq_false_iff, decide_eq_false_iff_not]
      exact ⟨h, ih⟩
theorem compact_sub : ∀ (l : List Pt) (x : Pt), x ∈ compact l → x ∈ l
  | [], _, h => h
  | [_], _, h => h
  | a :: b :: l, x, h => by
    have ih := compact_sub (b :: l) x
    by_cases e : a = b
    · rw [compact, if_pos e] at h
      exact List.mem_cons_of_mem _ (ih h)
    · rw [compact, if_neg e] at h
      rcases List.mem_cons.1 h with h | h
      · rw [h]; exact List.mem_cons_self
      · exact List.mem_cons_of_mem _ (ih h)
theorem compact_len : ∀ (l : List Pt), (compact l).length ≤ l.length
  | [] => Nat.le_refl _
  | [_] => Nat.le_refl _
  | a :: b :: l => by
    have ih := compact_len (b :: l)
    by_cases e : a = b
    · rw [compact, if_pos e]; simp at ih ⊢; omega
    · rw [compact, if_neg e]; simp at ih ⊢; omega
theorem compact_getLast : ∀ (l : List Pt), (compact l).getLast? = l.getLast?
  | [] => rfl
  | [_] => rfl
  | a :: b :: l => by
    have ih := compact_getLast (b :: l)
    by_cases e : a = b
    · rw [compact, if_pos e, ih]; simp
    · rw [compact, if_neg e]
      obtain ⟨r, hr⟩ := compact_cons b l
      rw [hr] at ih ⊢
      simpa using ih

/-- the second loop of Compact: k elements are laid down, m are met -/
structure CInv (l c : List Pt) (k m : Nat) : Prop where
  k1 : 1 ≤ k
  km : k < m
  ml : m ≤ l.length
  len : c.length = l.length
  head : c.take k = compact (l.take m)
  tail : c.drop (m - 1) = l.drop (m - 1)
theorem CInv.start {l : List Pt} {k : Nat} (h1 : 1 ≤ k) (h2 : k < l.length) (hd : dupB (l.take k) = false) (he : l[k - 1]'(by omega) = l[k]) : CInv l l k (k + 1) where
  k1 := h1
  km := by omega
  ml := h2
  len := rfl
  head := by rw [compact_take h1 h2, if_pos he, compact_of_nodup hd]
  tail := rfl
theorem CInv.at_ {l c : List Pt} {k m : Nat} (h : CInv l c k m) (i : Nat) (hi : i < l.length) (hm : m ≤ i + 1) : c[i]'(by rw [h.len]; exact hi) = l[i] := by
  have e := congrArg (fun z => z[i - (m - 1)]?) h.tail
  simp only [List.getElem?_drop] at e
  rw [show m - 1 + (i - (m - 1)) = i by omega, List.getElem?_eq_getElem (by rw [h.len]; exact hi), List.getElem?_eq_getElem hi] at e
  exact Option.some.inj e
theorem CInv.skip {l c : List Pt} {k m : Nat} (h : CInv l c k m) (hm : m < l.length) (he : l[m - 1]'(by omega) = l[m]) : CInv l c k (m + 1) where
  k1 := h.k1
  km := by have := h.km; omega
  ml := hm
  len := h.len
  head := by rw [compact_take (by have := h.km; omega) hm, if_pos he, h.head]
  tail := by
    have e := congrArg (List.drop 1) h.tail
    have := h.km
    rw [List.drop_drop, List.drop_drop, show m - 1 + 1 = m by omega] at e
    exact e
theorem CInv.keep {l c : List Pt} {k m : Nat} (h : CInv l c k m) (hm : m < l.length) (he : ¬ l[m - 1]'(by omega) = l[m]) : CInv l (c.set k l[m]) (k + 1) (m + 1) where
  k1 := by omega
  km := by have := h.km; omega
  ml := hm
  len := by rw [List.length_set, h.len]
  head := by
    have hk := h.km
    rw [compact_take (by omega) hm, if_neg he, ← h.head]
    rw [List.take_succ_eq_append_getElem (by rw [List.length_set, h.len]; omega)]
    rw [List.getElem_set_self]
    congr 1
    rw [List.take_set]
    rw [List.set_eq_of_length_le (by simp; omega)]
  tail := by
    have hk := h.km
    have e := congrArg (List.drop 1) h.tail
    rw [List.drop_drop, List.drop_drop, show m - 1 + 1 = m by omega] at e
    rw [show m + 1 - 1 = m by omega, List.drop_set_of_lt (by omega)]
    exact e
theorem CInv.done {l c : List Pt} {k m : Nat} (h : CInv l c k m) (hm : l.length ≤ m) : c.take k = compact l := by
  rw [h.head, List.take_of_length_le hm]
end Go.Proofs.Ytnmmbcgbijinpaa.Pl
