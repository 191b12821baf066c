/- Move of the program and of the reference. -/
import Derived.Test.YtnmmbcgbijinpaaQ
import Derived.Laws.OwnMore
import Derived.StillTailTactics
namespace Go.Proofs.Ytnmmbcgbijinpaa
open Go.RowKit
open Pl (Pt)

/-- a point moved by d, in 64 bits -/
def mv (d p : Pt) : Pt := (wrap64 (p.1 + d.1), wrap64 (p.2 + d.2))

theorem made_pts (n : Nat) : (madeCells (Value.cells (.agg #[.int .i64 0, .int .i64 0])) (n * 2)).toList = cells (List.replicate n ((0, 0) : Pt)) := by
  apply List.ext_getElem?
  intro i
  have hl := length_cells (List.replicate n ((0, 0) : Pt))
  rw [List.length_replicate] at hl
  rcases Nat.lt_or_ge i (n * 2) with h | h
  · have h2 : (cells (List.replicate n ((0, 0) : Pt)))[i]? = some (.int .i64 0) := by
      obtain ⟨u, hu⟩ : ∃ u, (cells (List.replicate n ((0, 0) : Pt)))[i]? = some u := ⟨_, List.getElem?_eq_getElem (by omega)⟩
      obtain ⟨j, x, y, hj, h'⟩ := cells_at_of _ i u hu
      rw [List.getElem?_replicate] at hj
      split at hj
      · injection hj with hj
        injection hj with e1 e2
        subst e1 e2
        rcases h' with ⟨_, rfl⟩ | ⟨_, rfl⟩ <;> exact hu
      · cases hj
    rw [h2]
    simp [madeCells, Value.cells, h]
    rcases (show i % 2 = 0 ∨ i % 2 = 1 by omega) with e | e <;> simp [e]
  · rw [List.getElem?_eq_none (by rw [Array.length_toList, size_madeCells]; omega), List.getElem?_eq_none (by omega)]

theorem make_pts (w : World) (m : Nat) (hm : m ≤ 65536) : ∃ w', (Instr.makeSlice 22 (.int .i64 (m : Int)) (.int .i64 (m : Int))).run Try.prog w = .ok (.slice (some ⟨w.heap.size, 0, none⟩) m m) w' ∧
    Ow w' w.heap.size (.slice (some ⟨w.heap.size, 0, none⟩) m m) (List.replicate m (0, 0)) ∧ Below w.heap.size w w' := by
  obtain ⟨i0, hi, hz0, hz1, hz2⟩ := info_parts spot_info
  obtain ⟨w', h1, h2, h3⟩ := run_make_full (P := Try.prog) w w.heap.size 22 30 i0 (.agg #[.int .i64 0, .int .i64 0]) 2 Try.underlying22 hi hz0 hz1 .i64 .i64 m (by rw [hz2]; omega) (by unfold maxLen; omega) (Nat.le_refl _)
  refine ⟨w', h1, ?_, (Below.refl _ _).grown h3 (Nat.le_refl _) (by simp)⟩
  rw [made_pts] at h2
  unfold Ow
  rw [List.length_replicate]
  exact h2

/-- the first k places are laid -/
structure Laid (l c : List Pt) (k : Nat) : Prop where
  len : c.length = l.length
  get : c.take k = l.take k
theorem Laid.start (l : List Pt) (m : Nat) (h : l.length = m) : Laid l (List.replicate m (0, 0)) 0 := ⟨by rw [List.length_replicate, h], rfl⟩
theorem Laid.step {l c : List Pt} {k : Nat} {p : Pt} (h : Laid l c k) (hk : l[k]? = some p) : Laid l (c.set k p) (k + 1) where
  len := by rw [List.length_set, h.len]
  get := by
    obtain ⟨h1, h2⟩ := List.getElem?_eq_some_iff.1 hk
    have hl := h.len
    rw [List.take_succ_eq_append_getElem (by rw [List.length_set]; omega), List.getElem_set_self, List.take_set, List.set_eq_of_length_le (by simp; omega), h.get, List.take_succ_eq_append_getElem h1, h2]
theorem Laid.done {l c : List Pt} (h : Laid l c l.length) : c = l := by
  have := h.get
  rw [List.take_length, List.take_of_length_le (by rw [h.len]; exact Nat.le_refl _)] at this
  exact this
theorem b_set {a w : World} {g : Nat} (h : Below a.heap.size a w) (hg : a.heap.size ≤ g) (j : Nat) (u : Value) : Below a.heap.size a (w.setCell ⟨g, j, none⟩ u) := h.setCell hg u

theorem cell_set1 (X : World) (g j g' o : Nat) (u : Value) (h : g' ≠ g) : (X.setCell ⟨g, j, none⟩ u).cell? ⟨g', o, none⟩ = X.cell? ⟨g', o, none⟩ :=
  World.cell?_of_block (Below.heap_setCell X ⟨g, j, none⟩ u g' h)
theorem cell_set2 (X : World) (g j j' g' o : Nat) (u u' : Value) (h : g' ≠ g) : ((X.setCell ⟨g, j, none⟩ u).setCell ⟨g, j', none⟩ u').cell? ⟨g', o, none⟩ = X.cell? ⟨g', o, none⟩ :=
  (cell_set1 _ _ _ _ _ _ h).trans (cell_set1 _ _ _ _ _ _ h)
theorem cell_al (X : World) (o : Obj) (g j : Nat) (h : g < X.heap.size) : (X.alloc o).cell? ⟨g, j, none⟩ = X.cell? ⟨g, j, none⟩ :=
  (b_new X o).cell (p := ⟨g, j, none⟩) h

set_option maxHeartbeats 1000000 in
theorem move_any (A : Option Addr) (c : Nat) (l : List Pt) (d : Pt) (w : World) (hl : Sl w w.heap.size A l) (hn : l.length ≤ 1000) :
    Calls Try.prog 28 #[.slice A l.length c, .agg #[.int .i64 d.1, .int .i64 d.2]] w (Fresh w (l.map (mv d))) := by
  have hlm : (l.map (mv d)).length = l.length := List.length_map _
  have hget : ∀ k (hk : k < l.length), (l.map (mv d))[k]? = some (mv d l[k]) := fun k hk => by rw [List.getElem?_map, List.getElem?_eq_getElem hk]; rfl
  generalize hR : l.map (mv d) = R at *
  clear hR
  obtain ⟨w1, hmk, hown, hb1⟩ := make_pts (w.alloc (.cells #[.int .i64 d.1, .int .i64 d.2] 30)) l.length (by omega)
  obtain ⟨d1, d2⟩ := new_cell w (.int .i64 d.1) (.int .i64 d.2)
  have e1 : w1.cell? ⟨w.heap.size, 0, none⟩ = some (.int .i64 d.1) := (hb1.cell (p := ⟨w.heap.size, 0, none⟩) (by rw [size_alloc']; show w.heap.size < _; omega)).trans d1
  have e2 : w1.cell? ⟨w.heap.size, 1, none⟩ = some (.int .i64 d.2) := (hb1.cell (p := ⟨w.heap.size, 1, none⟩) (by rw [size_alloc']; show w.heap.size < _; omega)).trans d2
  have hB1 : Below w.heap.size w w1 := b_tr (b_new w _) hb1
  have hz1 : w.heap.size + 1 < w1.heap.size := by
    have := World.ownsRow.lt hown _ rfl
    rw [size_alloc'] at this
    omega
  rw [size_alloc'] at hmk hown
  have hown : Ow w1 w.heap.size (.slice (some ⟨w.heap.size + 1, 0, none⟩) l.length l.length) (List.replicate l.length (0, 0)) := hown.base_le (by omega)
  have HLM := Lib.hid hlm
  have HG := Lib.hid hget
  clear d1 d2 hb1 hlm hget
  go_enter Try.func28, Try.ntmps28
  go_wp2
  clear hmk
  go_loopw [13] (fun i wr => ∃ (k : Nat) (cl : List Pt), k ≤ l.length ∧ i = .int .i64 k ∧ Hid (Laid R cl k) ∧ Ow wr w.heap.size (.slice (some ⟨w.heap.size + 1, 0, none⟩) l.length l.length) cl ∧ wr.cell? ⟨w.heap.size, 0, none⟩ = some (.int .i64 d.1) ∧ wr.cell? ⟨w.heap.size, 1, none⟩ = some (.int .i64 d.2) ∧ w.heap.size + 1 < wr.heap.size ∧ Below w.heap.size w wr) (fun i _ => l.length - (intOf i).toNat)
  case atStart => exact ⟨0, _, Nat.zero_le _, rfl, Laid.start R l.length HLM.out, hown, e1, e2, hz1, hB1⟩
  case round =>
    obtain ⟨k, cl, hk, rfl, hla, how, e1, e2, hz, hb⟩ := hrel
    by_cases hlt : k < l.length
    · obtain ⟨b, off, rfl, hbB, c1, c2⟩ := (hl.below hb).at_ k hlt
      have HST := Lib.hid (hla.out.step (HG.out k hlt))
      have hcl : cl.length = l.length := hla.out.len.trans HLM.out
      have HW := Lib.hid ((how.set_ hcl.symm k (mv d l[k])).alloc (.cells #[.int .i64 l[k].1, .int .i64 l[k].2] 30))
      have f1 := how.frozenAt (k * 2)
      have f2 := how.frozenAt (k * 2 + 1)
      obtain ⟨s1, s2⟩ := how.at_ k (by omega)
      generalize cl[k]'(by omega) = y at s1 s2
      unfold mv at HW HST
      generalize l[k] = x at *
      clear hcl
      have z0 : w.heap.size < wr.heap.size := by omega
      have z1 : b < wr.heap.size := by omega
      go_wp2
      go_roundw
      case rel => exact ⟨k + 1, _, by omega, by go_num, HST, HW.out, (cell_al _ _ _ _ (by rw [size_setCell, size_setCell]; exact z0)).trans ((cell_set2 _ _ _ _ _ _ _ _ (by omega)).trans e1), (cell_al _ _ _ _ (by rw [size_setCell, size_setCell]; exact z0)).trans ((cell_set2 _ _ _ _ _ _ _ _ (by omega)).trans e2), by rw [size_alloc', size_setCell, size_setCell]; omega, b_al (b_set (b_set hb (by omega) _ _) (by omega) _ _) _⟩
      case measure => simp [intOf]; omega
    · obtain rfl : k = l.length := by omega
      have hD : cl = R := by
        have := hla.out
        rw [← HLM.out] at this
        exact this.done
      subst hD
      go_wp2
      go_ret
      exact ⟨_, rfl, how, hb⟩
end Go.Proofs.Ytnmmbcgbijinpaa
