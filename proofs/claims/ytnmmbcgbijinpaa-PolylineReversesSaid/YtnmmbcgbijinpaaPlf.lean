/- Plain facts on a reversed polyline. -/
import Derived.Test.YtnmmbcgbijinpaaPle
namespace Go.Proofs.Ytnmmbcgbijinpaa.Pl

theorem seg_symm (a b : Pt) : seg a b = seg b a := by
  unfold seg
  have h1 : (b.1 - a.1) * (b.1 - a.1) = (a.1 - b.1) * (a.1 - b.1) := by grind
  have h2 : (b.2 - a.2) * (b.2 - a.2) = (a.2 - b.2) * (a.2 - b.2) := by grind
  rw [h1, h2]

theorem total_reverse : ∀ l : List Pt, total l.reverse = total l
  | [] => rfl
  | [_] => rfl
  | a :: b :: r => by
    have ih := total_reverse (b :: r)
    rw [List.reverse_cons] at ih
    rw [List.reverse_cons, List.reverse_cons, total_snoc, ih, total_cons, seg_symm b a]
    omega

theorem dup_reverse {l : List Pt} (h : dupB l = false) : dupB l.reverse = false := dup_of fun k hk => by
  have hk' : k + 1 < l.length := by simpa using hk
  rw [List.getElem_reverse, List.getElem_reverse]
  have h1 := dup_at h (l.length - 1 - (k + 1)) (by omega)
  intro e
  apply h1
  have e2 : l.length - 1 - (k + 1) + 1 = l.length - 1 - k := by omega
  simp only [e2]
  exact e.symm

theorem dup_reverse_eq (l : List Pt) : dupB l.reverse = dupB l := by
  cases h : dupB l with
  | false => exact dup_reverse h
  | true =>
    cases h2 : dupB l.reverse with
    | true => rfl
    | false =>
      have := dup_reverse h2
      rw [List.reverse_reverse, h] at this
      cases this

theorem check_reverse (l : List Pt) : check l.reverse = check l := by
  unfold check
  rw [List.length_reverse, List.any_reverse, dup_reverse_eq]

theorem rnd_pair {t d N : Int} (hN : 1 ≤ N) : -1 ≤ rnd (t * d) N + rnd ((N - t) * d) N - d ∧ rnd (t * d) N + rnd ((N - t) * d) N - d ≤ 1 := by
  have h1 := rnd_near (t * d) hN
  have h2 := rnd_near ((N - t) * d) hN
  have e : (N - t) * d = N * d - t * d := by grind
  rw [e] at h2 ⊢
  generalize rnd (t * d) N = x at *
  generalize rnd (N * d - t * d) N = y at *
  have e2 : N * (x + y - d) = N * x + N * y - N * d := by grind
  have h3 : -N ≤ N * (x + y - d) ∧ N * (x + y - d) ≤ N := by omega
  generalize x + y - d = z at h3 ⊢
  constructor
  · rcases Int.lt_or_le z (-1) with h | h
    · have := Int.mul_le_mul_of_nonneg_left (show z ≤ -2 by omega) (show 0 ≤ N by omega)
      omega
    · exact h
  · rcases Int.lt_or_le 1 z with h | h
    · have := Int.mul_le_mul_of_nonneg_left (show 2 ≤ z by omega) (show 0 ≤ N by omega)
      omega
    · exact h

/-- two points that differ by at most 1 in each coordinate -/
structure Near1 (p q : Pt) : Prop where
  a : p.1 - q.1 ≤ 1
  b : q.1 - p.1 ≤ 1
  c : p.2 - q.2 ≤ 1
  d : q.2 - p.2 ≤ 1

theorem at_pair (a b : Pt) {t N : Int} (hN : 1 ≤ N) : Near1 (atSeg a b t N) (atSeg b a (N - t) N) := by
  have h1 := rnd_pair (t := t) (d := b.1 - a.1) hN
  have h2 := rnd_pair (t := t) (d := b.2 - a.2) hN
  have e1 : (N - t) * (a.1 - b.1) = -((N - t) * (b.1 - a.1)) := by grind
  have e2 : (N - t) * (a.2 - b.2) = -((N - t) * (b.2 - a.2)) := by grind
  unfold atSeg
  rw [e1, e2, rnd_neg _ hN, rnd_neg _ hN]
  exact ⟨by show _ - _ ≤ _; omega, by show _ - _ ≤ _; omega, by show _ - _ ≤ _; omega, by show _ - _ ≤ _; omega⟩

theorem total_take_rev (l : List Pt) (i : Nat) (hi : i < l.length) : total (l.reverse.take (l.length - i)) = total (l.drop i) := by
  rw [List.take_reverse, total_reverse]
  congr 2
  omega

theorem total_take_one : ∀ l : List Pt, total (l.take (0 + 1)) = 0
  | [] => rfl
  | [_] => rfl
  | _ :: _ :: _ => rfl

theorem loc_reverse {l : List Pt} {s : Int} (hp : ∀ (k : Nat) (hk : k + 1 < l.length), 1 ≤ seg (l[k]'(by omega)) l[k + 1]) (h0 : 0 ≤ s) {i : Nat} {p : Pt} (h : loc l s = some (i, p)) :
    ∃ j q, loc l.reverse (total l - s) = some (j, q) ∧ Near1 p q := by
  obtain ⟨hi, rfl, h2, h3⟩ := loc_spec l s i p h
  have hN := hp i hi
  have hsplit := total_split l i (by omega)
  have hdrop := total_drop' l i hi
  have ht0 : 0 ≤ s - total (l.take (i + 1)) := by
    rcases h3 with h3 | h3
    · subst h3
      have := total_take_one l
      omega
    · omega
  have hrl : l.reverse.length = l.length := List.length_reverse
  have hr1 : total (l.reverse.take (l.length - 2 - i + 1)) = total (l.drop (i + 1)) := by
    have := total_take_rev l (i + 1) hi
    rw [show l.length - (i + 1) = l.length - 2 - i + 1 by omega] at this
    exact this
  have g1 : l.reverse[l.length - 2 - i]'(by omega) = l[i + 1] := by
    rw [List.getElem_reverse]
    congr 1
    omega
  have g2 : l.reverse[l.length - 2 - i + 1]'(by omega) = l[i] := by
    rw [List.getElem_reverse]
    congr 1
    omega
  by_cases hc : l.length - 2 - i = 0 ∨ total (l.reverse.take (l.length - 2 - i + 1)) < total l - s
  · have hx := loc_char l.reverse (total l - s) (l.length - 2 - i) (by omega) hc (by rw [g1, g2, seg_symm, hr1]; omega)
    refine ⟨_, _, hx, ?_⟩
    rw [g1, g2, hr1, seg_symm l[i + 1] l[i], show total l - s - total (l.drop (i + 1)) = seg l[i] l[i + 1] - (s - total (l.take (i + 1))) by omega]
    exact at_pair _ _ hN
  · have hj : 1 ≤ l.length - 2 - i := by omega
    have htN : s - total (l.take (i + 1)) = seg l[i] l[i + 1] := by omega
    obtain ⟨j, hjj⟩ : ∃ j, l.length - 2 - i = j + 1 := ⟨l.length - 2 - i - 1, by omega⟩
    have hts := total_take_succ l.reverse j (by omega)
    have g1' : l.reverse[j + 1]'(by omega) = l[i + 1] := by
      rw [← g1]
      congr 1
      exact hjj.symm
    have hi2 : i + 1 + 1 < l.length := by omega
    have g3 : l.reverse[j]'(by omega) = l[i + 1 + 1] := by
      rw [List.getElem_reverse]
      congr 1
      omega
    have hN2 := hp (i + 1) hi2
    rw [g1', g3, seg_symm] at hts
    rw [hjj] at hr1
    have hx := loc_char l.reverse (total l - s) j (by omega) (.inr (by omega)) (by rw [g1', g3, seg_symm]; omega)
    refine ⟨_, _, hx, ?_⟩
    rw [g1', g3, seg_symm l[i + 1 + 1] l[i + 1], htN, at_full _ _ hN, show total l - s - total (l.reverse.take (j + 1)) = seg l[i + 1] l[i + 1 + 1] by omega, at_full _ _ hN2]
    exact ⟨by omega, by omega, by omega, by omega⟩
end Go.Proofs.Ytnmmbcgbijinpaa.Pl
