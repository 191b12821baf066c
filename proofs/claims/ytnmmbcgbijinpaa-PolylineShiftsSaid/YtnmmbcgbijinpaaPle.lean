/- Plain facts: the point at a length, told from its segment; vertices. -/
import Derived.Test.YtnmmbcgbijinpaaPld
namespace Go.Proofs.Ytnmmbcgbijinpaa.Pl

theorem total_ge0 : ∀ l : List Pt, 0 ≤ total l
  | [] => Int.le_refl _
  | [_] => Int.le_refl _
  | a :: b :: r => by
    have h1 : 0 ≤ seg a b := root_nonneg _
    have h2 := total_ge0 (b :: r)
    rw [total]
    omega
theorem loc_char : ∀ (l : List Pt) (s : Int) (i : Nat) (hi : i + 1 < l.length), (i = 0 ∨ total (l.take (i + 1)) < s) → s ≤ total (l.take (i + 1)) + seg (l[i]'(by omega)) l[i + 1] →
    loc l s = some (i, atSeg (l[i]'(by omega)) l[i + 1] (s - total (l.take (i + 1))) (seg (l[i]'(by omega)) l[i + 1]))
  | [], s, i, hi, _, _ => by simp at hi
  | [_], s, i, hi, _, _ => by simp at hi
  | a :: b :: r, s, 0, _, _, h2 => by
    simp [total] at h2
    rw [loc, if_pos h2]
    simp [total]
  | a :: b :: r, s, i + 1, hi, h1, h2 => by
    have et : total ((a :: b :: r).take (i + 1 + 1)) = seg a b + total ((b :: r).take (i + 1)) := by
      simp only [List.take_succ_cons]
      rw [total_cons]
    have h0 := total_ge0 ((b :: r).take (i + 1))
    rw [et] at h1 h2 ⊢
    have hlt : seg a b + total ((b :: r).take (i + 1)) < s := by
      rcases h1 with h | h
      · omega
      · exact h
    have ih := loc_char (b :: r) (s - seg a b) i (by simpa using hi) (.inr (by omega)) (by simp only [List.getElem_cons_succ] at h2 ⊢; omega)
    rw [loc, if_neg (by omega), ih]
    simp only [Option.map_some, List.getElem_cons_succ]
    rw [show s - seg a b - total ((b :: r).take (i + 1)) = s - (seg a b + total ((b :: r).take (i + 1))) by omega]
theorem rnd_full (d : Int) {N : Int} (h : 1 ≤ N) : rnd (N * d) N = d := by
  have hn := rnd_near (N * d) h
  generalize rnd (N * d) N = R at hn
  have e : N * R - N * d = N * (R - d) := by grind
  rw [e] at hn
  rcases (show R - d ≤ -1 ∨ R - d = 0 ∨ 1 ≤ R - d by omega) with h1 | h1 | h1
  · have := Int.mul_le_mul_of_nonneg_left h1 (show 0 ≤ N by omega)
    omega
  · omega
  · have := Int.mul_le_mul_of_nonneg_left h1 (show 0 ≤ N by omega)
    omega
theorem at_full (a b : Pt) {N : Int} (h : 1 ≤ N) : atSeg a b N N = b := by
  unfold atSeg
  rw [rnd_full _ h, rnd_full _ h]
  obtain ⟨x, y⟩ := b
  simp
  omega
theorem total_take_succ (l : List Pt) (k : Nat) (hk : k + 1 < l.length) : total (l.take (k + 1 + 1)) = total (l.take (k + 1)) + seg (l[k]'(by omega)) l[k + 1] := by
  have h := total_snoc (l[k]'(by omega)) l[k + 1] (l.take k)
  rw [← List.take_succ_eq_append_getElem (show k < l.length by omega), ← List.take_succ_eq_append_getElem hk] at h
  exact h
theorem part_nodup {l : List Pt} (h : dupB l = false) (h2 : 2 ≤ l.length) : part l = l := by
  unfold part
  rw [compact_of_nodup h]
  split
  · next a ha => simp at h2
  · rfl
end Go.Proofs.Ytnmmbcgbijinpaa.Pl
