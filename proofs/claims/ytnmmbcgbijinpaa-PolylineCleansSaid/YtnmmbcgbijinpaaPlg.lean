/- Plain facts on a cleaned polyline. -/
import Derived.Test.YtnmmbcgbijinpaaPle
namespace Go.Proofs.Ytnmmbcgbijinpaa.Pl

theorem le_of_sq_le {a b : Int} (hb : 0 ≤ b) (h : a * a ≤ b * b) : a ≤ b := by
  rcases Int.lt_or_le b a with h1 | h1
  · have := Int.mul_self_lt_mul_self hb h1
    omega
  · exact h1

/-- the root of a sum of collinear squares -/
theorem root_sum {A B M : Int} (hA0 : 0 ≤ A) (hB0 : 0 ≤ B) (hM : 0 ≤ M) (hAB : M * M = A * B) (h1 : A ≤ 9223372036854775807) (h2 : B ≤ 9223372036854775807) (h3 : A + B + 2 * M ≤ 9223372036854775807) :
    root A + root B ≤ root (A + B + 2 * M) ∧ root (A + B + 2 * M) ≤ root A + root B + 1 := by
  have a0 := root_nonneg A
  have b0 := root_nonneg B
  have c0 := root_nonneg (A + B + 2 * M)
  obtain ⟨a1, a2⟩ := root_spec hA0 h1
  obtain ⟨b1, b2⟩ := root_spec hB0 h2
  obtain ⟨c1, c2⟩ := root_spec (n := A + B + 2 * M) (by omega) h3
  generalize root A = a at *
  generalize root B = b at *
  generalize root (A + B + 2 * M) = c at *
  have ab0 := Int.mul_nonneg a0 b0
  have k1 : a * b ≤ M := by
    refine le_of_sq_le hM ?_
    rw [hAB]
    have e : a * b * (a * b) = (a * a) * (b * b) := by grind
    rw [e]
    exact Int.mul_le_mul a1 b1 (sq_nonneg b) hA0
  have k2 : M < (a + 1) * (b + 1) := by
    refine lt_of_mul_self (Int.mul_nonneg (by omega) (by omega)) ?_
    rw [hAB]
    have e : (a + 1) * (b + 1) * ((a + 1) * (b + 1)) = ((a + 1) * (a + 1)) * ((b + 1) * (b + 1)) := by grind
    rw [e]
    have p1 : A * B ≤ A * ((b + 1) * (b + 1)) := Int.mul_le_mul_of_nonneg_left (by omega) hA0
    have p2 : A * ((b + 1) * (b + 1)) < (a + 1) * (a + 1) * ((b + 1) * (b + 1)) := Int.mul_lt_mul_of_pos_right a2 (Int.mul_pos (by omega) (by omega))
    omega
  constructor
  · have : a + b < c + 1 := by
      refine lt_of_mul_self (by omega) ?_
      have e : (a + b) * (a + b) = a * a + b * b + 2 * (a * b) := by grind
      omega
    omega
  · have : c < a + b + 2 := by
      refine lt_of_mul_self (by omega) ?_
      have e : (a + b + 2) * (a + b + 2) = (a + 1) * (a + 1) + (b + 1) * (b + 1) + 2 * ((a + 1) * (b + 1)) := by grind
      omega
    omega

theorem on_facts {a b p : Pt} (h : onB a b p = true) :
    (b.1 - a.1) * (p.2 - a.2) = (b.2 - a.2) * (p.1 - a.1) ∧ min a.1 b.1 ≤ p.1 ∧ p.1 ≤ max a.1 b.1 ∧ min a.2 b.2 ≤ p.2 ∧ p.2 ≤ max a.2 b.2 := by
  unfold onB at h
  simp only [Bool.and_eq_true, decide_eq_true_eq] at h
  obtain ⟨⟨⟨⟨h1, h2⟩, h3⟩, h4⟩, h5⟩ := h
  exact ⟨h1, h2, h3, h4, h5⟩

theorem between_mul {a b p : Int} (h1 : min a b ≤ p) (h2 : p ≤ max a b) : 0 ≤ (p - a) * (b - p) := by
  rcases Int.le_total a b with h | h
  · exact Int.mul_nonneg (by omega) (by omega)
  · exact Int.mul_nonneg_of_nonpos_of_nonpos (by omega) (by omega)

/-- numbers within the limits -/
structure InP (p : Pt) : Prop where
  x0 : -1048576 ≤ p.1
  x1 : p.1 ≤ 1048576
  y0 : -1048576 ≤ p.2
  y1 : p.2 ≤ 1048576

theorem inP_of {p : Pt} (h : outB p = false) : InP p := by
  unfold outB at h
  simp only [Bool.or_eq_false_iff, decide_eq_false_iff_not] at h
  exact ⟨by omega, by omega, by omega, by omega⟩

theorem sq_lim {a m : Int} (h0 : -m ≤ a) (h1 : a ≤ m) : a * a ≤ m * m := by
  have h := Int.mul_nonneg (show 0 ≤ m - a by omega) (show 0 ≤ m + a by omega)
  have e : (m - a) * (m + a) = m * m - a * a := by grind
  omega

theorem sq_pair {p q : Pt} (hp : InP p) (hq : InP q) : 0 ≤ (q.1 - p.1) * (q.1 - p.1) + (q.2 - p.2) * (q.2 - p.2) ∧ (q.1 - p.1) * (q.1 - p.1) + (q.2 - p.2) * (q.2 - p.2) ≤ 8796093022208 := by
  obtain ⟨a1, a2, a3, a4⟩ := hp
  obtain ⟨c1, c2, c3, c4⟩ := hq
  have s1 := sq_nonneg (q.1 - p.1)
  have s2 := sq_nonneg (q.2 - p.2)
  have s3 := sq_lim (a := q.1 - p.1) (m := 2097152) (by omega) (by omega)
  have s4 := sq_lim (a := q.2 - p.2) (m := 2097152) (by omega) (by omega)
  omega

theorem seg_on {a b p : Pt} (ha : InP a) (hb : InP b) (hp : InP p) (h : onB a b p = true) : seg a p + seg p b ≤ seg a b ∧ seg a b ≤ seg a p + seg p b + 1 := by
  obtain ⟨h1, h2, h3, h4, h5⟩ := on_facts h
  have m1 := between_mul h2 h3
  have m2 := between_mul h4 h5
  have q1 := sq_pair ha hp
  have q2 := sq_pair hp hb
  have q3 := sq_pair ha hb
  unfold seg
  have e : 1000000 * ((b.1 - a.1) * (b.1 - a.1) + (b.2 - a.2) * (b.2 - a.2)) = 1000000 * ((p.1 - a.1) * (p.1 - a.1) + (p.2 - a.2) * (p.2 - a.2)) + 1000000 * ((b.1 - p.1) * (b.1 - p.1) + (b.2 - p.2) * (b.2 - p.2)) + 2 * (1000000 * ((p.1 - a.1) * (b.1 - p.1) + (p.2 - a.2) * (b.2 - p.2))) := by grind
  have hx : (b.1 - p.1) * (p.2 - a.2) = (b.2 - p.2) * (p.1 - a.1) := by grind
  have hc : ((p.1 - a.1) * (b.1 - p.1) + (p.2 - a.2) * (b.2 - p.2)) * ((p.1 - a.1) * (b.1 - p.1) + (p.2 - a.2) * (b.2 - p.2)) = ((p.1 - a.1) * (p.1 - a.1) + (p.2 - a.2) * (p.2 - a.2)) * ((b.1 - p.1) * (b.1 - p.1) + (b.2 - p.2) * (b.2 - p.2)) := by
    generalize p.1 - a.1 = ux at *
    generalize p.2 - a.2 = uy at *
    generalize b.1 - p.1 = vx at *
    generalize b.2 - p.2 = vy at *
    have i : (ux * ux + uy * uy) * (vx * vx + vy * vy) = (ux * vx + uy * vy) * (ux * vx + uy * vy) + (vx * uy - vy * ux) * (vx * uy - vy * ux) := by grind
    rw [i, hx, Int.sub_self, Int.zero_mul, Int.add_zero]
  rw [e]
  refine root_sum (by omega) (by omega) (by omega) ?_ (by omega) (by omega) (by omega)
  grind

theorem on_ne {a b p : Pt} (h : onB a b p = true) (h1 : a ≠ p) : a ≠ b := by
  intro e
  subst e
  obtain ⟨_, h2, h3, h4, h5⟩ := on_facts h
  apply h1
  obtain ⟨x, y⟩ := a
  obtain ⟨u, v⟩ := p
  simp only at h2 h3 h4 h5
  rw [show x = u by omega, show y = v by omega]

/-- r came out of l by cleaning -/
structure Cl (l r : List Pt) : Prop where
  len2 : 2 ≤ r.length
  len : r.length ≤ l.length
  head : r.head? = l.head?
  last : r.getLast? = l.getLast?
  dup : dupB r = false
  sub : ∀ x, x ∈ r → x ∈ l
  lo : total l ≤ total r
  hi : total r ≤ total l + (l.length - r.length : Nat)

theorem total_app (x : Pt) (a b : List Pt) : total (a ++ [x] ++ b) = total (a ++ [x]) + total (x :: b) := by
  induction a with
  | nil => simp [total]
  | cons y a ih =>
    cases a with
    | nil => simp only [List.cons_append, List.nil_append] at ih ⊢; rw [total_cons, total_cons]; simp [total]
    | cons z a => simp only [List.cons_append] at ih ⊢; rw [total_cons, total_cons, ih]; omega

theorem del_split {r : List Pt} {i : Nat} (h1 : 1 ≤ i) (h2 : i + 1 < r.length) :
    ∃ (a : List Pt) (x p y : Pt) (b : List Pt), r = a ++ [x] ++ (p :: y :: b) ∧ r.take i ++ r.drop (i + 1) = a ++ [x] ++ (y :: b) ∧ r.getD (i - 1) (0, 0) = x ∧ r.getD i (0, 0) = p ∧ r.getD (i + 1) (0, 0) = y := by
  obtain ⟨k, rfl⟩ : ∃ k, i = k + 1 := ⟨i - 1, by omega⟩
  refine ⟨r.take k, r[k], r[k + 1], r[k + 1 + 1], r.drop (k + 1 + 1 + 1), ?_, ?_, ?_, ?_, ?_⟩
  · rw [← List.take_succ_eq_append_getElem (by omega), ← List.drop_eq_getElem_cons h2, ← List.drop_eq_getElem_cons (by omega), List.take_append_drop]
  · rw [← List.take_succ_eq_append_getElem (by omega), ← List.drop_eq_getElem_cons h2]
  · rw [Nat.add_sub_cancel, List.getD_eq_getElem?_getD, List.getElem?_eq_getElem (by omega)]; rfl
  · rw [List.getD_eq_getElem?_getD, List.getElem?_eq_getElem (by omega)]; rfl
  · rw [List.getD_eq_getElem?_getD, List.getElem?_eq_getElem h2]; rfl

theorem dup_app (x : Pt) (a b : List Pt) : dupB (a ++ [x] ++ b) = (dupB (a ++ [x]) || dupB (x :: b)) := by
  induction a with
  | nil => simp [dupB]
  | cons y a ih =>
    cases a with
    | nil => simp only [List.cons_append, List.nil_append] at ih ⊢; simp [dupB]
    | cons z a => simp only [List.cons_append] at ih ⊢; simp only [dupB]; rw [ih, Bool.or_assoc]

theorem Cl.del {l r : List Pt} (h : Cl l r) (hin : ∀ x, x ∈ l → InP x) {i : Nat} (h1 : 1 ≤ i) (h2 : i + 1 < r.length) (hon : onB (r.getD (i - 1) (0, 0)) (r.getD (i + 1) (0, 0)) (r.getD i (0, 0)) = true) :
    Cl l (r.take i ++ r.drop (i + 1)) := by
  obtain ⟨a, x, p, y, b, e1, e2, e3, e4, e5⟩ := del_split h1 h2
  rw [e3, e4, e5] at hon
  rw [e2]
  obtain ⟨hl2, hl, hh, hla, hd, hs, hlo, hhi⟩ := h
  subst e1
  have hpx : InP x := hin x (hs x (by simp))
  have hpp : InP p := hin p (hs p (by simp))
  have hpy : InP y := hin y (hs y (by simp))
  have hseg := seg_on hpx hpy hpp hon
  have hd' := hd
  rw [dup_app, Bool.or_eq_false_iff] at hd'
  obtain ⟨d1, d2⟩ := hd'
  simp only [dupB, Bool.or_eq_false_iff, decide_eq_false_iff_not] at d2
  have t1 := total_app x a (p :: y :: b)
  have t2 := total_app x a (y :: b)
  rw [total_cons, total_cons] at t1
  rw [total_cons] at t2
  refine ⟨by simp; omega, ?_, ?_, ?_, ?_, ?_, ?_, ?_⟩
  · simp at hl ⊢; omega
  · rw [← hh]; cases a <;> simp
  · rw [← hla]; simp
  · rw [dup_app, d1, Bool.false_or]
    simp only [dupB, Bool.or_eq_false_iff, decide_eq_false_iff_not]
    exact ⟨on_ne hon d2.1, d2.2.2⟩
  · intro z hz
    apply hs
    simp only [List.mem_append, List.mem_cons] at hz ⊢
    rcases hz with hz | hz | hz
    · exact .inl hz
    · exact .inr (.inr (.inl hz))
    · exact .inr (.inr (.inr hz))
  · omega
  · have el : (a ++ [x] ++ (p :: y :: b)).length = (a ++ [x] ++ (y :: b)).length + 1 := by simp; omega
    omega

theorem Cl.to {l : List Pt} (hin : ∀ x, x ∈ l → InP x) : ∀ (f : Nat) (r : List Pt) (i : Nat), 1 ≤ i → Cl l r → Cl l (cleanTo f r i)
  | 0, _, _, _, h => h
  | f + 1, r, i, h1, h => by
    unfold cleanTo
    split
    · next h2 =>
      split
      · next h3 => exact Cl.to hin f _ 1 (Nat.le_refl _) (h.del hin h1 h2 h3)
      · exact Cl.to hin f r (i + 1) (by omega) h
    · exact h

/-- no inner vertex below k lies on the segment between its neighbours -/
def NoOn (r : List Pt) (k : Nat) : Prop := ∀ j, 1 ≤ j → j < k → j + 1 < r.length → onB (r.getD (j - 1) (0, 0)) (r.getD (j + 1) (0, 0)) (r.getD j (0, 0)) = false

theorem cleanTo_noOn : ∀ (f : Nat) (r : List Pt) (i : Nat), 1 ≤ i → i ≤ r.length + 1 → r.length ≤ 40 → 100 * r.length ≤ f + i → NoOn r i → NoOn (cleanTo f r i) (cleanTo f r i).length
  | 0, r, i, h1, h2, h3, h4, hn => by
    have : r.length = 0 := by omega
    intro j a b c
    unfold cleanTo at c
    omega
  | f + 1, r, i, h1, h2, h3, h4, hn => by
    unfold cleanTo
    split
    · next h5 =>
      have hl : (r.take i ++ r.drop (i + 1)).length = r.length - 1 := by simp; omega
      split
      · next h6 => exact cleanTo_noOn f _ 1 (Nat.le_refl _) (by omega) (by omega) (by omega) (fun j a b => by omega)
      · next h6 =>
        refine cleanTo_noOn f r (i + 1) (by omega) (by omega) h3 (by omega) (fun j a b c => ?_)
        rcases (show j < i ∨ j = i by omega) with h7 | h7
        · exact hn j a h7 c
        · subst h7
          simpa using h6
    · next h5 => exact fun j a b c => hn j a (by omega) c

theorem cleanTo_same : ∀ (f : Nat) (r : List Pt) (i : Nat), 1 ≤ i → NoOn r r.length → cleanTo f r i = r
  | 0, _, _, _, _ => rfl
  | f + 1, r, i, h1, hn => by
    unfold cleanTo
    split
    · next h2 =>
      have := hn i h1 (by omega) h2
      rw [if_neg (by rw [this]; simp)]
      exact cleanTo_same f r (i + 1) (by omega) hn
    · rfl

structure CleanOk (l c : List Pt) : Prop where
  chk : check c = 0
  len2 : 2 ≤ c.length
  len : c.length ≤ l.length
  head : c.head? = l.head?
  last : c.getLast? = l.getLast?
  again : clean c = c
  noOn : NoOn c c.length
  lo : total l ≤ total c
  hi : total c ≤ total l + (l.length - c.length : Nat)
  sub : ∀ x, x ∈ c → x ∈ l

theorem clean_ok {l : List Pt} (h2 : 2 ≤ l.length) (h40 : l.length ≤ 40) (ho : l.any outB = false) (hd : dupB l = false) : CleanOk l (clean l) := by
  have hin : ∀ x, x ∈ l → InP x := fun x hx => inP_of (by have := List.any_eq_false.1 ho x hx; simpa using this)
  have hc : clean l = cleanTo (100 * l.length) l 1 := by
    unfold clean
    rw [if_neg (by rw [ho]; simp; omega), compact_of_nodup hd]
  have h0 : Cl l l := ⟨h2, Nat.le_refl _, rfl, rfl, hd, fun _ h => h, Int.le_refl _, by omega⟩
  have h1 := Cl.to hin (100 * l.length) l 1 (Nat.le_refl _) h0
  have hn := cleanTo_noOn (100 * l.length) l 1 (Nat.le_refl _) (by omega) h40 (by omega) (fun j a b => by omega)
  rw [← hc] at h1 hn
  generalize clean l = c at *
  have ho' := any_sub ho h1.sub
  refine ⟨check_of h1.len2 (by have := h1.len; omega) ho' h1.dup, h1.len2, h1.len, h1.head, h1.last, ?_, hn, h1.lo, h1.hi, h1.sub⟩
  unfold clean
  rw [if_neg (by rw [ho']; have := h1.len; simp; omega), compact_of_nodup h1.dup]
  exact cleanTo_same _ _ _ (Nat.le_refl _) hn
end Go.Proofs.Ytnmmbcgbijinpaa.Pl
