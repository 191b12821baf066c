/- Along; small facts on new blocks. -/
import Derived.Test.YtnmmbcgbijinpaaD
import Derived.Deep.RegionWith
import Derived.Deep.DeepCutAuto
import Derived.Deep.CutBlock
namespace Go.Proofs.Ytnmmbcgbijinpaa
open Go.RowKit
open Pl (Pt)

/-- what locate comes to, whatever the list and the length -/
def locR (l : List Pt) (s : Int) : Option (Nat × Pt) := if Pl.check l = 0 then (if s < 0 then none else Pl.loc l s) else none
def locE (l : List Pt) (s : Int) : Int := if Pl.check l = 0 then locErr (locR l s) else Pl.check l

theorem locate_any (A : Option Addr) (c : Nat) (l : List Pt) (s : Int) (w : World) (hl : Sl w w.heap.size A l) (hn : l.length ≤ 65536) (hs2 : s ≤ 9223372036854775807) :
    Calls Try.prog 37 #[.slice A l.length c, .int .i64 s] w fun e w' => e = .returned (locTup (locIdx (locR l s)) (locPt (locR l s)) (locE l s)) ∧ Below w.heap.size w w' := by
  unfold locE locR
  by_cases h : Pl.check l = 0
  · obtain ⟨h1, h2, h3, h4⟩ := check_zero h
    rw [if_pos h, if_pos h]
    by_cases hs : s < 0
    · rw [if_pos hs]
      exact locate_neg A c l s w hl hn h hs
    · rw [if_neg hs]
      exact locate_yes A c l s w hl hn h (ins_of h3) h4 h1 (by omega) hs2
  · rw [if_neg h, if_neg h]
    exact locate_err A c l s w hl hn (by simpa using h)

def alongTup (p : Pt) (e : Int) : Value := .tuple #[.agg #[.int .i64 p.1, .int .i64 p.2], .int .i64 e]

set_option maxHeartbeats 400000 in
theorem along_any (A : Option Addr) (c : Nat) (l : List Pt) (s : Int) (w : World) (hl : Sl w w.heap.size A l) (hn : l.length ≤ 65536) (hs2 : s ≤ 9223372036854775807) :
    Calls Try.prog 17 #[.slice A l.length c, .int .i64 s] w fun e w' => e = .returned (alongTup (locPt (locR l s)) (locE l s)) ∧ Below w.heap.size w w' := by
  have HL := Lib.hid (fun W hW => locate_any A c l s W hW hn hs2)
  generalize locE l s = E at HL
  generalize locR l s = R at HL
  unfold locTup at HL
  go_enter Try.func17, Try.ntmps17
  go_wp2_with fail
  refine (HL.out _ ((hl.below ((Below.refl _ _).alloc (Nat.le_refl _) _)).more (by simp))).mono ?_
  rintro e w1 ⟨rfl, hb1⟩
  have hb0 : Below w.heap.size w w1 := ((Below.refl _ _).alloc (Nat.le_refl _) _).trans (hb1.mono (by simp))
  have hz : w.heap.size < w1.heap.size := by have := hb1.size; simp at this; omega
  obtain ⟨hc, hf⟩ := bcell hb1
  go_wp2
  refine bodyPost_ret (v := alongTup (locPt R) E) (by simp [alongTup, results, Try.results17, go_sem, hc, hz]) rfl ⟨rfl, ?_⟩
  exact ((hb0.setCell (by simp) _).setCell (by simp) _).alloc (by simp; omega) _

theorem cell_drewN (w : World) (n : Nat) (a : Addr) : (w.drewN n).cell? a = w.cell? a := rfl
theorem size_setCell (w : World) (a : Addr) (u : Value) : (w.setCell a u).heap.size = w.heap.size := by simp [World.setCell]
theorem st2 (X : World) (g : Nat) (u v a b : Value) (h0 : X.cell? ⟨g, 0, none⟩ = some a) (h1 : X.cell? ⟨g, 1, none⟩ = some b) :
    ((X.setCell ⟨g, 0, none⟩ u).setCell ⟨g, 1, none⟩ v).cell? ⟨g, 0, none⟩ = some u ∧ ((X.setCell ⟨g, 0, none⟩ u).setCell ⟨g, 1, none⟩ v).cell? ⟨g, 1, none⟩ = some v ∧
    (∀ g' o, g' ≠ g → ((X.setCell ⟨g, 0, none⟩ u).setCell ⟨g, 1, none⟩ v).cell? ⟨g', o, none⟩ = X.cell? ⟨g', o, none⟩) ∧ ((X.setCell ⟨g, 0, none⟩ u).setCell ⟨g, 1, none⟩ v).heap.size = X.heap.size := by
  refine ⟨?_, ?_, fun g' o h => ?_, by rw [size_setCell, size_setCell]⟩
  · rw [World.cell?_setCell_other _ _ _ _ (by simp)]
    exact World.cell?_setCell_same _ _ _ h0
  · refine World.cell?_setCell_same _ _ _ (u := b) ?_
    rw [World.cell?_setCell_other _ _ _ _ (by simp)]
    exact h1
  · rw [World.cell?_setCell_other _ _ _ _ (fun e => h (by injection e with e; exact e.symm)), World.cell?_setCell_other _ _ _ _ (fun e => h (by injection e with e; exact e.symm))]
theorem size_alloc' (w : World) (o : Obj) : (w.alloc o).heap.size = w.heap.size + 1 := by simp
theorem cp1 (W : World) (o1 o2 : Obj) (n g i : Nat) (h : g < W.heap.size) : (((W.alloc o1).alloc o2).drewN n).cell? ⟨g, i, none⟩ = W.cell? ⟨g, i, none⟩ := by
  rw [cell_drewN, World.cell?_alloc_past _ _ _ (by rw [size_alloc']; omega), World.cell?_alloc_past _ _ _ h]
theorem new_cell (w : World) (x y : Value) : (w.alloc (.cells #[x, y] 30)).cell? ⟨w.heap.size, 0, none⟩ = some x ∧ (w.alloc (.cells #[x, y] 30)).cell? ⟨w.heap.size, 1, none⟩ = some y := by simp
/-- one variable made before the call, one behind it -/
theorem shA (W : World) (n : Nat) (o1 o2 : Obj) (x y u v : Value) :
    ((((((((W.alloc (.cells #[.int .i64 0, .int .i64 0] 30)).alloc o1).alloc o2).drewN n).setCell ⟨W.heap.size, 0, none⟩ x).setCell ⟨W.heap.size, 1, none⟩ y).alloc (.cells #[u, v] 30)).cell? ⟨W.heap.size, 0, none⟩ = some x ∧
    (((((((W.alloc (.cells #[.int .i64 0, .int .i64 0] 30)).alloc o1).alloc o2).drewN n).setCell ⟨W.heap.size, 0, none⟩ x).setCell ⟨W.heap.size, 1, none⟩ y).alloc (.cells #[u, v] 30)).cell? ⟨W.heap.size, 1, none⟩ = some y) ∧
    ((((((((W.alloc (.cells #[.int .i64 0, .int .i64 0] 30)).alloc o1).alloc o2).drewN n).setCell ⟨W.heap.size, 0, none⟩ x).setCell ⟨W.heap.size, 1, none⟩ y).alloc (.cells #[u, v] 30)).cell? ⟨W.heap.size + 1 + 1 + 1, 0, none⟩ = some u ∧
    (((((((W.alloc (.cells #[.int .i64 0, .int .i64 0] 30)).alloc o1).alloc o2).drewN n).setCell ⟨W.heap.size, 0, none⟩ x).setCell ⟨W.heap.size, 1, none⟩ y).alloc (.cells #[u, v] 30)).cell? ⟨W.heap.size + 1 + 1 + 1, 1, none⟩ = some v) := by
  have hn := new_cell W (.int .i64 0) (.int .i64 0)
  have hX : ∀ i, ((((W.alloc (.cells #[.int .i64 0, .int .i64 0] 30)).alloc o1).alloc o2).drewN n).cell? ⟨W.heap.size, i, none⟩ = (W.alloc (.cells #[.int .i64 0, .int .i64 0] 30)).cell? ⟨W.heap.size, i, none⟩ := fun i => cp1 _ _ _ _ _ _ (by rw [size_alloc']; omega)
  have hs : ((((W.alloc (.cells #[.int .i64 0, .int .i64 0] 30)).alloc o1).alloc o2).drewN n).heap.size = W.heap.size + 1 + 1 + 1 := by simp
  generalize (((W.alloc (.cells #[.int .i64 0, .int .i64 0] 30)).alloc o1).alloc o2).drewN n = X at hX hs
  obtain ⟨a1, a2, _, a4⟩ := st2 X W.heap.size x y _ _ ((hX 0).trans hn.1) ((hX 1).trans hn.2)
  generalize (X.setCell ⟨W.heap.size, 0, none⟩ x).setCell ⟨W.heap.size, 1, none⟩ y = Y at *
  have hw := new_cell Y u v
  rw [a4, hs] at hw
  exact ⟨⟨by rw [World.cell?_alloc_past _ _ _ (by omega)]; exact a1, by rw [World.cell?_alloc_past _ _ _ (by omega)]; exact a2⟩, hw⟩
/-- both made before the call -/
theorem shB (W : World) (n : Nat) (o1 o2 : Obj) (g h : Nat) (hgh : g = W.heap.size ∧ h = W.heap.size + 1 ∨ g = W.heap.size + 1 ∧ h = W.heap.size) (x y u v : Value) :
    (((((((((W.alloc (.cells #[.int .i64 0, .int .i64 0] 30)).alloc (.cells #[.int .i64 0, .int .i64 0] 30)).alloc o1).alloc o2).drewN n).setCell ⟨g, 0, none⟩ x).setCell ⟨g, 1, none⟩ y).setCell ⟨h, 0, none⟩ u).setCell ⟨h, 1, none⟩ v).cell? ⟨g, 0, none⟩ = some x ∧
    (((((((((W.alloc (.cells #[.int .i64 0, .int .i64 0] 30)).alloc (.cells #[.int .i64 0, .int .i64 0] 30)).alloc o1).alloc o2).drewN n).setCell ⟨g, 0, none⟩ x).setCell ⟨g, 1, none⟩ y).setCell ⟨h, 0, none⟩ u).setCell ⟨h, 1, none⟩ v).cell? ⟨g, 1, none⟩ = some y ∧
    (((((((((W.alloc (.cells #[.int .i64 0, .int .i64 0] 30)).alloc (.cells #[.int .i64 0, .int .i64 0] 30)).alloc o1).alloc o2).drewN n).setCell ⟨g, 0, none⟩ x).setCell ⟨g, 1, none⟩ y).setCell ⟨h, 0, none⟩ u).setCell ⟨h, 1, none⟩ v).cell? ⟨h, 0, none⟩ = some u ∧
    (((((((((W.alloc (.cells #[.int .i64 0, .int .i64 0] 30)).alloc (.cells #[.int .i64 0, .int .i64 0] 30)).alloc o1).alloc o2).drewN n).setCell ⟨g, 0, none⟩ x).setCell ⟨g, 1, none⟩ y).setCell ⟨h, 0, none⟩ u).setCell ⟨h, 1, none⟩ v).cell? ⟨h, 1, none⟩ = some v := by
  have hn := new_cell W (.int .i64 0) (.int .i64 0)
  have hn2 := new_cell (W.alloc (.cells #[.int .i64 0, .int .i64 0] 30)) (.int .i64 0) (.int .i64 0)
  have hX : ∀ gg, (gg = W.heap.size ∨ gg = W.heap.size + 1) → (((((W.alloc (.cells #[.int .i64 0, .int .i64 0] 30)).alloc (.cells #[.int .i64 0, .int .i64 0] 30)).alloc o1).alloc o2).drewN n).cell? ⟨gg, 0, none⟩ = some (.int .i64 0) ∧ (((((W.alloc (.cells #[.int .i64 0, .int .i64 0] 30)).alloc (.cells #[.int .i64 0, .int .i64 0] 30)).alloc o1).alloc o2).drewN n).cell? ⟨gg, 1, none⟩ = some (.int .i64 0) := by
    rintro gg (rfl | rfl)
    · rw [cp1 _ _ _ _ _ _ (by rw [size_alloc', size_alloc']; omega), cp1 _ _ _ _ _ _ (by rw [size_alloc', size_alloc']; omega)]
      have hk : ∀ i, ((W.alloc (.cells #[.int .i64 0, .int .i64 0] 30)).alloc (.cells #[.int .i64 0, .int .i64 0] 30)).cell? ⟨W.heap.size, i, none⟩ = (W.alloc (.cells #[.int .i64 0, .int .i64 0] 30)).cell? ⟨W.heap.size, i, none⟩ := fun i => World.cell?_alloc_past _ _ _ (by rw [size_alloc']; omega)
      exact ⟨(hk 0).trans hn.1, (hk 1).trans hn.2⟩
    · rw [cp1 _ _ _ _ _ _ (by rw [size_alloc', size_alloc']; omega), cp1 _ _ _ _ _ _ (by rw [size_alloc', size_alloc']; omega)]
      rw [size_alloc'] at hn2
      exact hn2
  generalize ((((W.alloc (.cells #[.int .i64 0, .int .i64 0] 30)).alloc (.cells #[.int .i64 0, .int .i64 0] 30)).alloc o1).alloc o2).drewN n = X at hX
  have hg := hX g (by omega)
  have hh := hX h (by omega)
  have hne : h ≠ g := by omega
  obtain ⟨a1, a2, a3, _⟩ := st2 X g x y _ _ hg.1 hg.2
  generalize (X.setCell ⟨g, 0, none⟩ x).setCell ⟨g, 1, none⟩ y = Y at *
  obtain ⟨b1, b2, b3, _⟩ := st2 Y h u v _ _ ((a3 h 0 hne).trans hh.1) ((a3 h 1 hne).trans hh.2)
  exact ⟨(b3 g 0 (Ne.symm hne)).trans a1, (b3 g 1 (Ne.symm hne)).trans a2, b1, b2⟩

theorem bA {B : Nat} {a w : World} (h : Below B a w) (hB : B ≤ a.heap.size) (o : Obj) : Below B a (w.alloc o) := h.alloc (Nat.le_trans hB h.size) o

theorem held3' {w w0 W w' : World} {b o1 o2 : Nat} {p q : Pt} (hb : b < w.heap.size) (hbn : Below W.heap.size W w')
    (h : Below (w.heap.size + 1) w0 W ∧ W.cell? ⟨b, o1, none⟩ = some (.int .i64 p.1) ∧ W.cell? ⟨b, o1 + 1, none⟩ = some (.int .i64 p.2) ∧ W.cell? ⟨b, o2, none⟩ = some (.int .i64 q.1) ∧ W.cell? ⟨b, o2 + 1, none⟩ = some (.int .i64 q.2))
    (hz : w.heap.size + 1 ≤ w0.heap.size := by simp) :
    Below (w.heap.size + 1) w0 w' ∧ w'.cell? ⟨b, o1, none⟩ = some (.int .i64 p.1) ∧ w'.cell? ⟨b, o1 + 1, none⟩ = some (.int .i64 p.2) ∧ w'.cell? ⟨b, o2, none⟩ = some (.int .i64 q.1) ∧ w'.cell? ⟨b, o2 + 1, none⟩ = some (.int .i64 q.2) := by
  obtain ⟨h1, h2, h3, h4, h5⟩ := h
  have h6 := h1.size
  have hk : ∀ o, w'.cell? ⟨b, o, none⟩ = W.cell? ⟨b, o, none⟩ := fun o => hbn.cell (p := ⟨b, o, none⟩) (show b < W.heap.size by omega)
  exact ⟨h1.trans (hbn.mono (by omega)), (hk _).trans h2, (hk _).trans h3, (hk _).trans h4, (hk _).trans h5⟩

end Go.Proofs.Ytnmmbcgbijinpaa
