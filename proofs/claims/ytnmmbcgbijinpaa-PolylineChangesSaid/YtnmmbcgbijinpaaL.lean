/- Cut whole; the examples (alive). -/
import Derived.Test.YtnmmbcgbijinpaaH
import Derived.Test.YtnmmbcgbijinpaaJ
import Derived.Test.YtnmmbcgbijinpaaK
namespace Go.Proofs.Ytnmmbcgbijinpaa
open Go.RowKit
open Pl (Pt)

theorem loc_lt : ∀ (l : List Pt) (s : Int) (i : Nat) (p : Pt), Pl.loc l s = some (i, p) → i + 1 < l.length
  | [], s, i, p, h => by simp [Pl.loc] at h
  | [_], s, i, p, h => by simp [Pl.loc] at h
  | a :: b :: r, s, i, p, h => by
    rw [Pl.loc] at h
    split at h
    · simp at h
      simp
      omega
    · cases hr : Pl.loc (b :: r) (s - Pl.seg a b) with
      | none => rw [hr] at h; simp at h
      | some x =>
        rw [hr] at h
        simp at h
        have := loc_lt (b :: r) _ x.1 x.2 hr
        simp at this ⊢
        omega

/-- the two parts -/
def cutA (l : List Pt) (s : Int) : List Pt := match locR l s with
  | some x => Pl.part (l.take (x.1 + 1) ++ [x.2])
  | none => []
def cutB (l : List Pt) (s : Int) : List Pt := match locR l s with
  | some x => Pl.part (x.2 :: l.drop (x.1 + 1))
  | none => []

theorem locR_some {l : List Pt} {s : Int} {i : Nat} {p : Pt} (h : locR l s = some (i, p)) : locE l s = 0 ∧ i + 1 < l.length := by
  have h0 := h
  unfold locR at h
  unfold locE
  by_cases hc : Pl.check l = 0
  · rw [if_pos hc] at h
    rw [if_pos hc, h0]
    by_cases hs : s < 0
    · rw [if_pos hs] at h; cases h
    · rw [if_neg hs] at h
      exact ⟨rfl, loc_lt l s i p h⟩
  · rw [if_neg hc] at h; cases h
theorem locR_none {l : List Pt} {s : Int} (h : locR l s = none) : (locE l s != 0) = true := by
  unfold locE
  by_cases hc : Pl.check l = 0
  · rw [if_pos hc, h]; rfl
  · rw [if_neg hc]; simpa using hc

set_option maxHeartbeats 400000 in
theorem cut_err (A : Option Addr) (c : Nat) (l : List Pt) (s : Int) (w : World) (hl : Sl w w.heap.size A l) (hn : l.length ≤ 1000) (hs2 : s ≤ 9223372036854775807) (hR : locR l s = none) :
    Calls Try.prog 19 #[.slice A l.length c, .int .i64 s] w (Parts w [] [] (locE l s)) := by
  have hE := locR_none hR
  have hL := locate_any A c l s w hl (by omega) hs2
  rw [hR] at hL
  unfold locTup at hL
  simp only [locIdx, locPt] at hL
  have HL := Lib.hid hL
  clear hL hR
  generalize locE l s = E at *
  go_enter Try.func19, Try.ntmps19
  go_wp2_with fail
  refine HL.out.mono ?_
  rintro e w1 ⟨rfl, hb1⟩
  clear HL
  go_wp2
  go_ret3
  exact ⟨_, _, rfl, Ow.nil _ _, Ow.nil _ _, hb1.alloc hb1.size _⟩

theorem cut_any (A : Option Addr) (c : Nat) (l : List Pt) (s : Int) (w : World) (hl : Sl w w.heap.size A l) (hn : l.length ≤ 1000) (hcap : l.length ≤ c) (hcm : c ≤ maxLen) (hs2 : s ≤ 9223372036854775807) :
    Calls Try.prog 19 #[.slice A l.length c, .int .i64 s] w (Parts w (cutA l s) (cutB l s) (locE l s)) := by
  unfold cutA cutB
  cases hR : locR l s with
  | none => exact cut_err A c l s w hl hn hs2 hR
  | some x =>
    obtain ⟨i, p⟩ := x
    obtain ⟨h1, h2⟩ := locR_some hR
    rw [h1]
    exact cut_yes A c l s i p w hl hn hcap hcm hs2 hR h1 h2

abbrev Corner : List Pt := [(0, 0), (30, 0), (30, 40)]
theorem sl_lit (w : World) (l : List Pt) : Sl (w.alloc (.cells (cells l).toArray 30)) (w.heap.size + 1) (some ⟨w.heap.size, 0, none⟩) l :=
  Sl.of_cells (b := w.heap.size) (off := 0) rfl (by omega) fun j u hu => by
    rw [Nat.zero_add]
    simpa using hu
theorem sl_lit' (w : World) (l : List Pt) : Sl (w.alloc (.cells (cells l).toArray 30)) (w.alloc (.cells (cells l).toArray 30)).heap.size (some ⟨w.heap.size, 0, none⟩) l := by
  rw [size_alloc']
  exact sl_lit w l

set_option maxHeartbeats 400000 in
theorem corner_any (w : World) : Calls Try.prog 31 #[] w fun e w' => e = .returned (.slice (some ⟨w.heap.size, 0, none⟩) 3 3) ∧ w.alloc (.cells (cells Corner).toArray 30) = w' := by
  go_enter Try.func31, Try.ntmps31
  go_wp2
  go_ret
  exact ⟨rfl, rfl⟩

theorem x1 : lenOf Corner = 70000 := by decide +kernel
theorem x2 : Pl.check Corner = 0 := by decide +kernel
theorem x3 : locPt (locR Corner 50000) = (30, 20) := by decide +kernel
theorem x4 : locE Corner 50000 = 0 := by decide +kernel
theorem x5 : cutA Corner 50000 = [(0, 0), (30, 0), (30, 20)] := by decide +kernel
theorem x6 : cutB Corner 50000 = [(30, 20), (30, 40)] := by decide +kernel
theorem x7 : Pl.clean [(0, 0), (0, 0), (1, 1), (2, 2), (2, 0)] = [(0, 0), (2, 2), (2, 0)] := by decide +kernel
theorem x8 : Pl.check [(0, 0)] = 11 := by decide +kernel
end Go.Proofs.Ytnmmbcgbijinpaa
