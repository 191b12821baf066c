/- The reference's Along. -/
import Derived.Test.YtnmmbcgbijinpaaE
namespace Go.Proofs.Ytnmmbcgbijinpaa
open Go.RowKit
open Pl (Pt)

theorem seg_nonneg (a b : Pt) : 0 ≤ Pl.seg a b := Pl.root_nonneg _
theorem total_nonneg : ∀ l : List Pt, 0 ≤ Pl.total l
  | [] => Int.le_refl _
  | [_] => Int.le_refl _
  | a :: b :: r => by
    have h1 := seg_nonneg a b
    have h2 := total_nonneg (b :: r)
    rw [Pl.total]
    omega
theorem loc_none : ∀ (l : List Pt) (s : Int), Pl.total l < s → Pl.loc l s = none
  | [], _, _ => rfl
  | [_], _, _ => rfl
  | a :: b :: r, s, h => by
    rw [Pl.total] at h
    have h1 := total_nonneg (b :: r)
    rw [Pl.loc, if_neg (by omega), loc_none (b :: r) _ (by omega)]
    rfl
theorem loc_some : ∀ (l : List Pt) (s : Int), 2 ≤ l.length → s ≤ Pl.total l → ∃ x, Pl.loc l s = some x
  | [], _, h, _ => by simp at h
  | [_], _, h, _ => by simp at h
  | a :: b :: r, s, _, h => by
    rw [Pl.total] at h
    rw [Pl.loc]
    by_cases h1 : s ≤ Pl.seg a b
    · rw [if_pos h1]; exact ⟨_, rfl⟩
    · rw [if_neg h1]
      cases r with
      | nil => simp [Pl.total] at h; omega
      | cons c r =>
        obtain ⟨x, hx⟩ := loc_some (b :: c :: r) (s - Pl.seg a b) (by simp) (by omega)
        rw [hx]
        exact ⟨_, rfl⟩
theorem total_bound : ∀ (l : List Pt), Ins l → Pl.total l ≤ 2965820801 * l.length
  | [], _ => by simp [Pl.total]
  | [_], _ => by simp [Pl.total]
  | a :: b :: r, h => by
    have h1 := seg_bound (h 0 (by simp)) (h 1 (by simp))
    have h2 := total_bound (b :: r) (fun i hi => h (i + 1) (by simpa using hi))
    rw [Pl.total]
    simp only [List.getElem_cons_zero, List.getElem_cons_succ] at h1
    simp only [List.length_cons] at h2 ⊢
    omega

set_option maxHeartbeats 1000000 in
theorem ralong_any (A : Option Addr) (c : Nat) (l : List Pt) (s : Int) (w : World) (hl : Sl w w.heap.size A l) (hn : l.length ≤ 65536) :
    Calls Try.prog 18 #[.slice A l.length c, .int .i64 s] w fun e w' => e = .returned (alongTup (locPt (locR l s)) (locE l s)) ∧ Below w.heap.size w w' := by
  have HC := Lib.hid (fun W hW => rcheck_any A c l W hW hn)
  have hl0 : Sl (w.alloc (.cells #[.int .i64 0, .int .i64 0] 30)) (w.alloc (.cells #[.int .i64 0, .int .i64 0] 30)).heap.size A l := (hl.below ((Below.refl _ _).alloc (Nat.le_refl _) _)).more (by simp)
  by_cases h : Pl.check l = 0
  · obtain ⟨h1, h2, h3, h4⟩ := check_zero h
    rw [h] at HC
    have HT := Lib.hid (fun W hW => rtotal_any A c l W hW hn (ins_of h3) h1)
    have hE : locE l s = locErr (locR l s) := by unfold locE; rw [if_pos h]
    by_cases hs : s < 0
    · have hR : locR l s = none := by unfold locR; rw [if_pos h, if_pos hs]
      rw [hE, hR]
      clear hE hR h3 h4 h HT
      show Calls Try.prog 18 _ w fun e w' => e = .returned (alongTup (0, 0) 3) ∧ _
      go_enter Try.func18, Try.ntmps18
      go_wp2_with fail
      refine (HC.out _ hl0).mono ?_
      rintro e w1 ⟨rfl, hb1⟩
      have hb0 : Below w.heap.size w w1 := ((Below.refl _ _).alloc (Nat.le_refl _) _).trans (hb1.mono (by simp))
      obtain ⟨hc, hf⟩ := bcell hb1
      go_wp2
      refine bodyPost_ret (v := alongTup (0, 0) 3) (by simp [alongTup, results, Try.results18, go_sem, hc]) rfl ⟨rfl, ?_⟩
      exact (hb0.setCell (by simp) _).setCell (by simp) _
    · by_cases hst : Pl.total l < s
      · have hR : locR l s = none := by unfold locR; rw [if_pos h, if_neg hs, loc_none l s hst]
        rw [hE, hR]
        clear hE hR h3 h4 h
        generalize Pl.total l = T at *
        show Calls Try.prog 18 _ w fun e w' => e = .returned (alongTup (0, 0) 3) ∧ _
        go_enter Try.func18, Try.ntmps18
        go_wp2_with fail
        refine (HC.out _ hl0).mono ?_
        rintro e w1 ⟨rfl, hb1⟩
        have hb0 : Below w.heap.size w w1 := ((Below.refl _ _).alloc (Nat.le_refl _) _).trans (hb1.mono (by simp))
        have hsl1 := (hl0.below hb1).more hb1.size
        go_wp2_with fail
        refine (HT.out w1 hsl1).mono ?_
        rintro e w2 ⟨rfl, hb2⟩
        have hb02 := hb0.trans (hb2.mono hb0.size)
        have hb12 := hb1.trans (hb2.mono hb1.size)
        obtain ⟨hc, hf⟩ := bcell hb12
        clear hb1 hb2
        go_wp2
        refine bodyPost_ret (v := alongTup (0, 0) 3) (by simp [alongTup, results, Try.results18, go_sem, hc]) rfl ⟨rfl, ?_⟩
        exact (hb02.setCell (by simp) _).setCell (by simp) _
      · have hR : locR l s = Pl.loc l s := by unfold locR; rw [if_pos h, if_neg hs]
        obtain ⟨x, hx⟩ := loc_some l s h1 (by omega)
        have HLo := Lib.hid (fun W hW => rlocate_yes A c l s W hW hn (ins_of h3) h4 h1 (by omega) (by omega))
        rw [hx] at HLo hR
        rw [hE, hR]
        unfold rlocTup at HLo
        clear hE hR h3 h4 h hx
        generalize Pl.total l = T at *
        simp only [locPt, locErr, locIdx] at HLo ⊢
        obtain ⟨i, p⟩ := x
        go_enter Try.func18, Try.ntmps18
        go_wp2_with fail
        refine (HC.out _ hl0).mono ?_
        rintro e w1 ⟨rfl, hb1⟩
        have hb0 : Below w.heap.size w w1 := ((Below.refl _ _).alloc (Nat.le_refl _) _).trans (hb1.mono (by simp))
        have hsl1 := (hl0.below hb1).more hb1.size
        go_wp2_with fail
        refine (HT.out w1 hsl1).mono ?_
        rintro e w2 ⟨rfl, hb2⟩
        have hb02 := hb0.trans (hb2.mono hb0.size)
        have hb12 := hb1.trans (hb2.mono hb1.size)
        have hsl2 := (hsl1.below hb2).more hb2.size
        clear hb1 hb2 hb0 HT HC
        go_wp2_with fail
        refine (HLo.out w2 hsl2).mono ?_
        rintro e w3 ⟨rfl, hb3⟩
        have hb03 := hb02.trans (hb3.mono hb02.size)
        have hb13 := hb12.trans (hb3.mono hb12.size)
        obtain ⟨hc, hf⟩ := bcell hb13
        have hz : w.heap.size < w3.heap.size := by have := hb13.size; simp at this; omega
        clear hb3 hb12 hb02
        go_wp2
        refine bodyPost_ret (v := alongTup p 0) (by simp [alongTup, results, Try.results18, go_sem, hc, hz]) rfl ⟨rfl, ?_⟩
        exact ((hb03.setCell (by simp) _).setCell (by simp) _).alloc (by simp; omega) _
  · have h0 : (Pl.check l != 0) = true := by simpa using h
    have hE : locE l s = Pl.check l := by unfold locE; rw [if_neg h]
    have hR : locR l s = none := by unfold locR; rw [if_neg h]
    rw [hE, hR]
    clear hE hR h
    show Calls Try.prog 18 _ w fun e w' => e = .returned (alongTup (0, 0) (Pl.check l)) ∧ _
    generalize Pl.check l = ck at *
    go_enter Try.func18, Try.ntmps18
    go_wp2_with fail
    refine (HC.out _ hl0).mono ?_
    rintro e w1 ⟨rfl, hb1⟩
    have hb0 : Below w.heap.size w w1 := ((Below.refl _ _).alloc (Nat.le_refl _) _).trans (hb1.mono (by simp))
    obtain ⟨hc, hf⟩ := bcell hb1
    go_wp2
    refine bodyPost_ret (v := alongTup (0, 0) ck) (by simp [alongTup, results, Try.results18, go_sem, hc]) rfl ⟨rfl, ?_⟩
    exact (hb0.setCell (by simp) _).setCell (by simp) _
end Go.Proofs.Ytnmmbcgbijinpaa
