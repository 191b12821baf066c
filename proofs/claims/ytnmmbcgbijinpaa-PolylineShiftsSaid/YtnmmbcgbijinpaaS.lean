/- measured, near; the parts of a cut are near in length. -/
import Derived.Test.YtnmmbcgbijinpaaN
import Derived.Test.YtnmmbcgbijinpaaPld
namespace Go.Proofs.Ytnmmbcgbijinpaa
open Go.RowKit
open Pl (Pt)

theorem seg_near {a b : Pt} (ha : In a) (hb : In b) (hne : a ≠ b) {t : Int} (h0 : 0 ≤ t) (h1 : t ≤ Pl.seg a b) :
    (t - 1000 ≤ Pl.seg a (Pl.atSeg a b t (Pl.seg a b)) ∧ Pl.seg a (Pl.atSeg a b t (Pl.seg a b)) ≤ t + 1000) ∧
    (Pl.seg a b - t - 1000 ≤ Pl.seg (Pl.atSeg a b t (Pl.seg a b)) b ∧ Pl.seg (Pl.atSeg a b t (Pl.seg a b)) b ≤ Pl.seg a b - t + 1000) := by
  have hN := seg_pos' ha hb hne
  have hin := at_in ha hb h0 h1 (by omega)
  obtain ⟨a1, a2, a3, a4⟩ := ha
  obtain ⟨b1, b2, b3, b4⟩ := hb
  obtain ⟨p1, p2, p3, p4⟩ := hin
  have sx := Pl.sq_nonneg (b.1 - a.1)
  have sy := Pl.sq_nonneg (b.2 - a.2)
  have s3 := sq_le (a := b.1 - a.1) (m := 2097152) (by omega) (by omega)
  have s4 := sq_le (a := b.2 - a.2) (m := 2097152) (by omega) (by omega)
  simp only [show (2097152 : Int) * 2097152 = 4398046511104 by decide] at s3 s4
  have hs := Pl.root_spec (n := 1000000 * ((b.1 - a.1) * (b.1 - a.1) + (b.2 - a.2) * (b.2 - a.2))) (by omega) (by omega)
  change Pl.seg a b * Pl.seg a b ≤ _ ∧ _ < (Pl.seg a b + 1) * (Pl.seg a b + 1) at hs
  have n1 := Pl.rnd_near (t * (b.1 - a.1)) (b := Pl.seg a b) (by omega)
  have n2 := Pl.rnd_near (t * (b.2 - a.2)) (b := Pl.seg a b) (by omega)
  unfold Pl.atSeg at *
  generalize Pl.seg a b = N at *
  simp only at p1 p2 p3 p4
  generalize Pl.rnd (t * (b.1 - a.1)) N = X at *
  generalize Pl.rnd (t * (b.2 - a.2)) N = Y at *
  constructor
  · have r3 := sq_le (a := X) (m := 2097152) (by omega) (by omega)
    have r4 := sq_le (a := Y) (m := 2097152) (by omega) (by omega)
    have x0 := Pl.sq_nonneg X
    have y0 := Pl.sq_nonneg Y
    simp only [show (2097152 : Int) * 2097152 = 4398046511104 by decide] at r3 r4
    have hr := Pl.root_spec (n := 1000000 * (X * X + Y * Y)) (by omega) (by omega)
    have hr0 := Pl.root_nonneg (1000000 * (X * X + Y * Y))
    unfold Pl.seg
    simp only
    rw [show a.1 + X - a.1 = X by omega, show a.2 + Y - a.2 = Y by omega]
    have hX : N * X = t * (b.1 - a.1) + (N * X - t * (b.1 - a.1)) := by omega
    have hY : N * Y = t * (b.2 - a.2) + (N * Y - t * (b.2 - a.2)) := by omega
    exact ⟨Pl.near_lo hN h0 h1 hX hY n1.1 n1.2 n2.1 n2.2 hs.1 hs.2 hr0 hr.2, Pl.near_hi hN h0 h1 hX hY n1.1 n1.2 n2.1 n2.2 hs.2 hr.1⟩
  · have r3 := sq_le (a := b.1 - (a.1 + X)) (m := 2097152) (by omega) (by omega)
    have r4 := sq_le (a := b.2 - (a.2 + Y)) (m := 2097152) (by omega) (by omega)
    have x0 := Pl.sq_nonneg (b.1 - (a.1 + X))
    have y0 := Pl.sq_nonneg (b.2 - (a.2 + Y))
    simp only [show (2097152 : Int) * 2097152 = 4398046511104 by decide] at r3 r4
    have hr := Pl.root_spec (n := 1000000 * ((b.1 - (a.1 + X)) * (b.1 - (a.1 + X)) + (b.2 - (a.2 + Y)) * (b.2 - (a.2 + Y)))) (by omega) (by omega)
    have hr0 := Pl.root_nonneg (1000000 * ((b.1 - (a.1 + X)) * (b.1 - (a.1 + X)) + (b.2 - (a.2 + Y)) * (b.2 - (a.2 + Y))))
    unfold Pl.seg
    simp only
    have hX : N * (b.1 - (a.1 + X)) = (N - t) * (b.1 - a.1) + -(N * X - t * (b.1 - a.1)) := by grind
    have hY : N * (b.2 - (a.2 + Y)) = (N - t) * (b.2 - a.2) + -(N * Y - t * (b.2 - a.2)) := by grind
    have q1 := Pl.near_lo (N := N) (t := N - t) hN (by omega) (by omega) hX hY (by omega) (by omega) (by omega) (by omega) hs.1 hs.2 hr0 hr.2
    have q2 := Pl.near_hi (N := N) (t := N - t) hN (by omega) (by omega) hX hY (by omega) (by omega) (by omega) (by omega) hs.2 hr.1
    exact ⟨q1, q2⟩

theorem seg_nonneg' (a b : Pt) : 0 ≤ Pl.seg a b := Pl.root_nonneg _
theorem total_nonneg' : ∀ l : List Pt, 0 ≤ Pl.total l
  | [] => Int.le_refl _
  | [_] => Int.le_refl _
  | a :: b :: r => by
    have h1 := seg_nonneg' a b
    have h2 := total_nonneg' (b :: r)
    rw [Pl.total]
    omega
theorem loc_some' : ∀ (l : List Pt) (s : Int), 2 ≤ l.length → s ≤ Pl.total l → ∃ x, Pl.loc l s = some x
  | [], _, h, _ => by simp at h
  | [_], _, h, _ => by simp at h
  | a :: b :: r, s, _, h => by
    rw [Pl.total] at h
    rw [Pl.loc]
    by_cases h1 : s ≤ Pl.seg a b
    · rw [if_pos h1]; exact ⟨_, rfl⟩
    · rw [if_neg h1]
      cases r with
      | nil => simp [Pl.total] at h; omega
      | cons c r =>
        obtain ⟨x, hx⟩ := loc_some' (b :: c :: r) (s - Pl.seg a b) (by simp) (by omega)
        rw [hx]
        exact ⟨_, rfl⟩
theorem total_bound' : ∀ (l : List Pt), Ins l → Pl.total l ≤ 2965820801 * l.length
  | [], _ => by simp [Pl.total]
  | [_], _ => by simp [Pl.total]
  | a :: b :: r, h => by
    have h1 := seg_bound (h 0 (by simp)) (h 1 (by simp))
    have h2 := total_bound' (b :: r) (fun i hi => h (i + 1) (by simpa using hi))
    rw [Pl.total]
    simp only [List.getElem_cons_zero, List.getElem_cons_succ] at h1
    simp only [List.length_cons] at h2 ⊢
    omega

theorem not_out {p : Pt} (h : In p) : Pl.outB p = false := by
  obtain ⟨h1, h2, h3, h4⟩ := h
  unfold Pl.outB
  simp
  omega

/-- what the law asks of a cut -/
structure CutOk (l : List Pt) (s : Int) (p : Pt) : Prop where
  pt : locPt (locR l s) = p
  err : locE l s = 0
  a : ∃ m, Pl.PartA (cutA l s) (l.getD 0 (0, 0)) p m ∧ 0 ≤ m ∧ s - 1000 ≤ m ∧ m ≤ s + 1000
  b : ∃ m, Pl.PartA (cutB l s) p (l.getD (l.length - 1) (0, 0)) m ∧ 0 ≤ m ∧ Pl.total l - s - 1000 ≤ m ∧ m ≤ Pl.total l - s + 1000

theorem cut_ok {l : List Pt} {s : Int} (h : Pl.check l = 0) (h0 : 0 ≤ s) (h1 : s ≤ Pl.total l) : ∃ p, CutOk l s p := by
  obtain ⟨c1, c2, c3, c4⟩ := check_zero h
  have hls : ∃ x, Pl.loc l s = some x := loc_some' l s c1 h1
  obtain ⟨⟨i, p⟩, hx⟩ := hls
  obtain ⟨hi, hp, ht, ht0⟩ := Pl.loc_spec l s i p hx
  have hins := ins_of c3
  have hR : locR l s = some (i, p) := by unfold locR; rw [if_pos h, if_neg (by omega), hx]
  have hE : locE l s = 0 := by unfold locE; rw [if_pos h, hR]; rfl
  have hia := hins i (by omega)
  have hib := hins (i + 1) hi
  have hne := Pl.dup_at c4 i hi
  have ht1 : 0 ≤ s - Pl.total (l.take (i + 1)) := by
    rcases ht0 with h2 | h2
    · subst h2
      have : Pl.total (l.take (0 + 1)) = 0 := by
        match l, c1 with
        | a :: b :: r, _ => simp [Pl.total]
      omega
    · omega
  have hpin : In p := by rw [hp]; exact at_in hia hib ht1 ht (by have := seg_pos' hia hib hne; omega)
  have hn := seg_near hia hib hne ht1 ht
  rw [← hp] at hn
  have hA := Pl.partA hi c2 c3 c4 (not_out hpin)
  have hB := Pl.partB hi c2 c3 c4 (not_out hpin)
  have hsp := Pl.total_split l i (by omega)
  have hdr := Pl.total_drop' l i hi
  have hT0 := total_nonneg' (l.take (i + 1))
  have hD0 := total_nonneg' (l.drop (i + 1))
  have hg1 := Pl.root_nonneg (1000000 * ((p.1 - l[i].1) * (p.1 - l[i].1) + (p.2 - l[i].2) * (p.2 - l[i].2)))
  have hg2 := Pl.root_nonneg (1000000 * ((l[i + 1].1 - p.1) * (l[i + 1].1 - p.1) + (l[i + 1].2 - p.2) * (l[i + 1].2 - p.2)))
  change 0 ≤ Pl.seg l[i] p at hg1
  change 0 ≤ Pl.seg p l[i + 1] at hg2
  have hA' : Pl.PartA (cutA l s) (l.getD 0 (0, 0)) p (Pl.total (l.take (i + 1)) + Pl.seg l[i] p) := by
    unfold cutA
    rw [hR, getD_lt (by omega)]
    exact hA
  have hB' : Pl.PartA (cutB l s) p (l.getD (l.length - 1) (0, 0)) (Pl.seg p l[i + 1] + Pl.total (l.drop (i + 1))) := by
    unfold cutB
    rw [hR, getD_lt (by omega)]
    exact hB
  exact ⟨p, ⟨by rw [hR]; rfl, hE, ⟨_, hA', by omega, by omega, by omega⟩, ⟨_, hB', by omega, by omega, by omega⟩⟩⟩

set_option maxHeartbeats 400000 in
theorem near_any (a b : Int) (w : World) (h1 : a - b ≤ 1000) (h2 : b - a ≤ 1000) :
    Calls Try.prog 23 #[.int .i64 a, .int .i64 b] w fun e w' => e = .returned (.bool true) ∧ w = w' := by
  go_enter Try.func23, Try.ntmps23
  go_wp2
  go_ret
  exact ⟨rfl, rfl⟩

theorem meas_two {l : List Pt} (h : l.length = 2) : Pl.meas l = if l[0]'(by omega) = l[1]'(by omega) then 0 else if Pl.check l = 0 then Pl.total l else -1 := by
  match l, h with
  | [x, y], _ => rfl
theorem meas_other {l : List Pt} (h : l.length ≠ 2) : Pl.meas l = if Pl.check l = 0 then Pl.total l else -1 := by
  match l, h with
  | [], _ => rfl
  | [_], _ => rfl
  | [x, y], h => simp at h
  | _ :: _ :: _ :: _, _ => rfl

set_option maxHeartbeats 1000000 in
theorem measured_any (A : Option Addr) (c : Nat) (l : List Pt) (w : World) (hl : Sl w w.heap.size A l) (hn : l.length ≤ 1000) :
    Calls Try.prog 22 #[.slice A l.length c] w fun e w' => e = .returned (.int .i64 (Pl.meas l)) ∧ Below w.heap.size w w' := by
  have HL := Lib.hid (fun (n : Nat) => by have := length_any A c l (w.drewN n) (show Sl (w.drewN n) w.heap.size A l from hl) (by omega); exact this)
  have hg := eqGd
  have tail : Pl.meas l = (if Pl.check l = 0 then Pl.total l else -1) → (Pl.check l = 0 → lenOf l = Pl.meas l) ∧ (¬ Pl.check l = 0 → Pl.meas l = -1) := fun h => ⟨fun h2 => by rw [h, if_pos h2]; unfold lenOf; rw [if_pos h2], fun h2 => by rw [h, if_neg h2]⟩
  by_cases h2 : l.length = 2
  · obtain ⟨b, off, rfl, hbB, c1, c2⟩ := hl.at_ 0 (by omega)
    obtain ⟨b', off', he, hbB', c3, c4⟩ := hl.at_ 1 (by omega)
    injection he with he
    injection he with e1 e2
    subst e1 e2
    have hM := meas_two h2
    have k2 : ((l.length : Int) == 2) = true := by simp [h2]
    have hq0 := eqPt l[0] l[1]
    have i1 : (0 : Int) < (l.length : Int) := by omega
    have i2 : (1 : Int) < (l.length : Int) := by omega
    have i3 : 0 < l.length := by omega
    have i4 : 1 < l.length := by omega
    simp only [Nat.zero_mul, Nat.add_zero, Nat.one_mul] at c1 c2 c3 c4
    generalize l[0] = x at *
    generalize l[1] = y at *
    cases hq : decide (x = y) with
    | true =>
      rw [hq] at hq0
      rw [if_pos (of_decide_eq_true hq)] at hM
      rw [hM]
      clear hM hq tail h2
      go_enter Try.func22, Try.ntmps22
      go_wp2
      go_quiet (fail)
      go_wp2
      go_ret
      exact ⟨rfl, below_drewN (Below.refl _ _) _⟩
    | false =>
      rw [hq] at hq0
      rw [if_neg (of_decide_eq_false hq)] at hM
      have ht := tail hM
      clear hM hq tail h2
      generalize Pl.meas l = M at *
      by_cases hck : Pl.check l = 0
      · rw [ht.1 hck, hck] at HL
        clear ht hck
        go_enter Try.func22, Try.ntmps22
        go_wp2
        go_quiet (fail)
        go_wp2_with fail
        refine (HL.out _).mono ?_
        rintro e w2 ⟨rfl, hb2⟩
        go_wp2
        go_ret
        exact ⟨rfl, b_tr (below_drewN (Below.refl _ _) _) hb2⟩
      · rw [ht.2 hck]
        have hck' : (Pl.check l != 0) = true := by simpa using hck
        generalize Pl.check l = ck at *
        generalize lenOf l = ln at *
        clear ht hck
        go_enter Try.func22, Try.ntmps22
        go_wp2
        go_quiet (fail)
        go_wp2_with fail
        refine (HL.out _).mono ?_
        rintro e w2 ⟨rfl, hb2⟩
        go_wp2
        go_ret
        exact ⟨rfl, b_tr (below_drewN (Below.refl _ _) _) hb2⟩
  · have hM := meas_other h2
    have k2 : ((l.length : Int) == 2) = false := by simp; omega
    have ht := tail hM
    clear hM tail h2
    generalize Pl.meas l = M at *
    by_cases hck : Pl.check l = 0
    · rw [ht.1 hck, hck] at HL
      clear ht hck
      go_enter Try.func22, Try.ntmps22
      go_wp2
      go_quiet (fail)
      go_wp2_with fail
      refine (HL.out _).mono ?_
      rintro e w2 ⟨rfl, hb2⟩
      go_wp2
      go_ret
      exact ⟨rfl, b_tr (below_drewN (Below.refl _ _) _) hb2⟩
    · rw [ht.2 hck]
      have hck' : (Pl.check l != 0) = true := by simpa using hck
      generalize Pl.check l = ck at *
      generalize lenOf l = ln at *
      clear ht hck
      go_enter Try.func22, Try.ntmps22
      go_wp2
      go_quiet (fail)
      go_wp2_with fail
      refine (HL.out _).mono ?_
      rintro e w2 ⟨rfl, hb2⟩
      go_wp2
      go_ret
      exact ⟨rfl, b_tr (below_drewN (Below.refl _ _) _) hb2⟩
end Go.Proofs.Ytnmmbcgbijinpaa
