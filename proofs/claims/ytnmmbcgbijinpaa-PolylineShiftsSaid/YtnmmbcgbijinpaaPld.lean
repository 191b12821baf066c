/- Plain facts on the parts of a polyline. -/
import Derived.Test.YtnmmbcgbijinpaaPlc
namespace Go.Proofs.Ytnmmbcgbijinpaa.Pl

theorem total_cons (a b : Pt) (r : List Pt) : total (a :: b :: r) = seg a b + total (b :: r) := rfl
theorem total_snoc (x y : Pt) : ∀ r : List Pt, total (r ++ [x] ++ [y]) = total (r ++ [x]) + seg x y
  | [] => by simp [total]
  | [a] => by simp [total]
  | a :: b :: r => by
    have ih := total_snoc x y (b :: r)
    simp only [List.cons_append] at ih ⊢
    rw [total_cons, ih, total_cons]
    omega
theorem total_split : ∀ (l : List Pt) (k : Nat), k < l.length → total (l.take (k + 1)) + total (l.drop k) = total l
  | [], k, h => by simp at h
  | [a], k, h => by
    simp at h
    subst h
    simp [total]
  | a :: b :: r, 0, _ => by simp [total]
  | a :: b :: r, k + 1, h => by
    have ih := total_split (b :: r) k (by simpa using h)
    simp only [List.take_succ_cons, List.drop_succ_cons] at ih ⊢
    rw [total_cons, total_cons]
    omega
theorem total_drop' (l : List Pt) (i : Nat) (h : i + 1 < l.length) : total (l.drop i) = seg (l[i]'(by omega)) l[i + 1] + total (l.drop (i + 1)) := by
  rw [List.drop_eq_getElem_cons (show i < l.length by omega), List.drop_eq_getElem_cons h]
  rfl
/-- where the point at a length lies -/
theorem loc_spec : ∀ (l : List Pt) (s : Int) (i : Nat) (p : Pt), loc l s = some (i, p) → ∃ h : i + 1 < l.length,
    p = atSeg (l[i]'(by omega)) l[i + 1] (s - total (l.take (i + 1))) (seg (l[i]'(by omega)) l[i + 1]) ∧ s - total (l.take (i + 1)) ≤ seg (l[i]'(by omega)) l[i + 1] ∧ (i = 0 ∨ 0 < s - total (l.take (i + 1)))
  | [], s, i, p, h => by simp [loc] at h
  | [_], s, i, p, h => by simp [loc] at h
  | a :: b :: r, s, i, p, h => by
    rw [loc] at h
    by_cases h1 : s ≤ seg a b
    · rw [if_pos h1] at h
      injection h with h
      injection h with e1 e2
      subst e1 e2
      refine ⟨by simp, ?_, ?_, .inl rfl⟩
      · simp [total]
      · simpa [total] using h1
    · rw [if_neg h1] at h
      cases hr : loc (b :: r) (s - seg a b) with
      | none => rw [hr] at h; simp at h
      | some x =>
        obtain ⟨i', p'⟩ := x
        rw [hr] at h
        simp at h
        obtain ⟨e1, e2⟩ := h
        subst e1 e2
        obtain ⟨h2, h3, h4, h5⟩ := loc_spec (b :: r) (s - seg a b) i' p' hr
        have et : total ((a :: b :: r).take (i' + 1 + 1)) = seg a b + total ((b :: r).take (i' + 1)) := by
          simp only [List.take_succ_cons]
          rw [total_cons]
        refine ⟨by simp at h2 ⊢; omega, ?_, ?_, ?_⟩
        · rw [et, show s - (seg a b + total ((b :: r).take (i' + 1))) = s - seg a b - total ((b :: r).take (i' + 1)) by omega]
          exact h3
        · rw [et, show s - (seg a b + total ((b :: r).take (i' + 1))) = s - seg a b - total ((b :: r).take (i' + 1)) by omega]
          exact h4
        · right
          rw [et]
          rcases h5 with h5 | h5
          · subst h5
            simp [total]
            omega
          · omega
theorem seg_self (p : Pt) : seg p p = 0 := by
  unfold seg
  rw [show p.1 - p.1 = 0 by omega, show p.2 - p.2 = 0 by omega]
  exact root_unique (by decide) (by decide) (by decide) (by decide) (by decide)
theorem check_of {l : List Pt} (h1 : 2 ≤ l.length) (h2 : l.length ≤ 40) (h3 : l.any outB = false) (h4 : dupB l = false) : check l = 0 := by
  unfold check
  rw [if_neg (by omega), if_neg (by omega), if_neg (by rw [h3]; simp), if_neg (by rw [h4]; simp)]
theorem any_sub {l m : List Pt} (h : l.any outB = false) (hs : ∀ x, x ∈ m → x ∈ l) : m.any outB = false := by
  rw [List.any_eq_false] at *
  exact fun x hx => h x (hs x hx)
theorem dup_takek {l : List Pt} (h : dupB l = false) (k : Nat) : dupB (l.take k) = false := dup_of fun j hj => by
  have hj' : j + 1 < l.length := by rw [List.length_take] at hj; omega
  rw [List.getElem_take, List.getElem_take]
  exact dup_at h j hj'
theorem dup_dropk {l : List Pt} (h : dupB l = false) (k : Nat) : dupB (l.drop k) = false := dup_of fun j hj => by
  have hj' : k + j + 1 < l.length := by rw [List.length_drop] at hj; omega
  rw [List.getElem_drop, List.getElem_drop]
  exact dup_at h (k + j) hj'
/-- what the law measures of a part -/
def meas (a : List Pt) : Int := match a with
  | [x, y] => if x = y then 0 else if check [x, y] = 0 then total [x, y] else -1
  | m => if check m = 0 then total m else -1
theorem meas_ok {a : List Pt} (h : check a = 0) (hd : dupB a = false) : meas a = total a := by
  match a, h, hd with
  | [], h, _ => simp [meas, h]
  | [_], h, _ => simp [meas, h]
  | [x, y], h, hd =>
    have : x ≠ y := by simpa [dupB] using hd
    simp [meas, h, this]
  | _ :: _ :: _ :: _, h, _ => simp [meas, h]

structure PartA (a : List Pt) (x p : Pt) (m : Int) : Prop where
  two : 2 ≤ a.length
  max : a.length ≤ 40
  first : a[0]? = some x
  last : a[a.length - 1]? = some p
  meas : meas a = m

theorem partA {l : List Pt} {i : Nat} {p : Pt} (hi : i + 1 < l.length) (hl : l.length ≤ 40) (ho : l.any outB = false) (hd : dupB l = false) (hp : outB p = false) :
    PartA (part (l.take (i + 1) ++ [p])) (l[0]'(by omega)) p (total (l.take (i + 1)) + seg (l[i]'(by omega)) p) := by
  have ht : l.take (i + 1) = l.take i ++ [l[i]'(by omega)] := List.take_succ_eq_append_getElem (by omega)
  have hdt := dup_takek hd (i + 1)
  have hot : (l.take (i + 1)).any outB = false := any_sub ho fun x hx => List.mem_of_mem_take hx
  have hlen : (l.take (i + 1)).length = i + 1 := by rw [List.length_take]; omega
  have h0 : (l.take (i + 1))[0]? = some (l[0]'(by omega)) := by rw [List.getElem?_take, if_pos (by omega), List.getElem?_eq_getElem (by omega)]
  have hc := compact_snoc (l[i]'(by omega)) p (l.take i)
  rw [← ht, compact_of_nodup hdt] at hc
  have htot := total_snoc (l[i]'(by omega)) p (l.take i)
  rw [← ht] at htot
  by_cases hq : l[i]'(by omega) = p
  · rw [if_pos hq] at hc
    have hs : seg (l[i]'(by omega)) p = 0 := by rw [hq]; exact seg_self p
    rw [hs]
    have hlast : (l.take (i + 1))[i]? = some p := by rw [List.getElem?_take, if_pos (by omega), List.getElem?_eq_getElem (by omega), hq]
    rcases Nat.eq_zero_or_pos i with h | h
    · subst h
      have h1 : l.take (0 + 1) = [p] := by rw [ht, hq]; simp
      have hp1 : part (l.take (0 + 1) ++ [p]) = [p, p] := by unfold part; rw [hc, h1]
      rw [hp1]
      refine ⟨by simp, by simp, by simpa using hq.symm, rfl, ?_⟩
      rw [h1]
      simp [meas, total]
    · have hp1 : part (l.take (i + 1) ++ [p]) = l.take (i + 1) := by
        unfold part
        rw [hc]
        split
        · next a ha => rw [ha] at hlen; simp at hlen; omega
        · rfl
      rw [hp1]
      refine ⟨by omega, by omega, h0, by rw [hlen]; exact hlast, ?_⟩
      rw [meas_ok (check_of (by omega) (by omega) hot hdt) hdt]
      omega
  · rw [if_neg hq] at hc
    have hp1 : part (l.take (i + 1) ++ [p]) = l.take (i + 1) ++ [p] := by
      unfold part
      rw [hc]
      split
      · next a ha => have := congrArg List.length ha; rw [List.length_append, hlen] at this; simp at this
      · rfl
    have hnd : dupB (l.take (i + 1) ++ [p]) = false := by rw [← hc]; exact compact_nodup _
    rw [hp1]
    refine ⟨by simp; omega, by simp; omega, ?_, ?_, ?_⟩
    · rw [List.getElem?_append_left (by omega)]; exact h0
    · rw [List.length_append, List.length_singleton, Nat.add_sub_cancel, List.getElem?_append_right (by omega)]
      simp
    · rw [meas_ok (check_of (by simp; omega) (by simp; omega) (by rw [List.any_append, hot]; simp [hp]) hnd) hnd, htot]

theorem partB {l : List Pt} {i : Nat} {p : Pt} (hi : i + 1 < l.length) (hl : l.length ≤ 40) (ho : l.any outB = false) (hd : dupB l = false) (hp : outB p = false) :
    PartA (part (p :: l.drop (i + 1))) p (l[l.length - 1]'(by omega)) (seg p l[i + 1] + total (l.drop (i + 1))) := by
  have hdt := dup_dropk hd (i + 1)
  have hot : (l.drop (i + 1)).any outB = false := any_sub ho fun x hx => List.mem_of_mem_drop hx
  have hlen : (l.drop (i + 1)).length = l.length - (i + 1) := List.length_drop
  have hlast : (l.drop (i + 1))[l.length - (i + 1) - 1]? = some (l[l.length - 1]'(by omega)) := by
    rw [List.getElem?_drop, show i + 1 + (l.length - (i + 1) - 1) = l.length - 1 by omega, List.getElem?_eq_getElem (by omega)]
  have hcons := List.drop_eq_getElem_cons hi
  generalize hq0 : l[i + 1] = q at *
  generalize hr0 : l.drop (i + 1 + 1) = r at hcons
  rw [hcons] at hdt hot hlen hlast ⊢
  have hcr : compact (q :: r) = q :: r := compact_of_nodup hdt
  by_cases hq : p = q
  · subst hq
    have hc : compact (p :: p :: r) = p :: r := by rw [compact, if_pos rfl, hcr]
    rw [seg_self]
    cases r with
    | nil =>
      have hp1 : part [p, p] = [p, p] := by unfold part; rw [hc]
      rw [hp1]
      refine ⟨by simp, by simp, rfl, ?_, ?_⟩
      · simp at hlen
        rw [show l.length - (i + 1) - 1 = 0 by omega] at hlast
        simpa using hlast
      · simp [meas, total]
    | cons b r =>
      have hp1 : part (p :: p :: b :: r) = p :: b :: r := by unfold part; rw [hc]
      rw [hp1]
      simp at hlen
      refine ⟨by simp, by simp; omega, rfl, ?_, ?_⟩
      · rw [show (p :: b :: r).length - 1 = l.length - (i + 1) - 1 by simp; omega]; exact hlast
      · rw [meas_ok (check_of (by simp) (by simp; omega) hot hdt) hdt]; omega
  · have hc : compact (p :: q :: r) = p :: q :: r := by rw [compact, if_neg hq, hcr]
    have hp1 : part (p :: q :: r) = p :: q :: r := by unfold part; rw [hc]
    have hnd : dupB (p :: q :: r) = false := by rw [← hc]; exact compact_nodup _
    rw [hp1]
    simp at hlen
    refine ⟨by simp, by simp; omega, rfl, ?_, ?_⟩
    · rw [show (p :: q :: r).length - 1 = (l.length - (i + 1) - 1) + 1 by simp; omega, List.getElem?_cons_succ]; exact hlast
    · rw [meas_ok (check_of (by simp) (by simp; omega) (by rw [List.any_cons, hp, hot]; rfl) hnd) hnd, total_cons]
end Go.Proofs.Ytnmmbcgbijinpaa.Pl
