/- Reverse. -/
import Derived.Test.YtnmmbcgbijinpaaG
import Derived.Test.YtnmmbcgbijinpaaE0
namespace Go.Proofs.Ytnmmbcgbijinpaa
open Go.RowKit
open Pl (Pt)

/-- i elements at each end are exchanged -/
structure RInv (l c : List Pt) (i j : Nat) : Prop where
  sum : i + j + 1 = l.length
  len : c.length = l.length
  at_ : ∀ k, k < l.length → c[k]? = if k < i ∨ j < k then l[l.length - 1 - k]? else l[k]?
theorem RInv.start {l : List Pt} (h : 0 < l.length) : RInv l l 0 (l.length - 1) where
  sum := by omega
  len := rfl
  at_ := fun k hk => by rw [if_neg (by omega)]
theorem RInv.get {l c : List Pt} {i j : Nat} (h : RInv l c i j) (hij : i < j) : c[i]'(by have := h.sum; have := h.len; omega) = l[i]'(by have := h.sum; omega) ∧ c[j]'(by have := h.sum; have := h.len; omega) = l[j]'(by have := h.sum; omega) := by
  have hs := h.sum
  have hl := h.len
  have a := h.at_ i (by omega)
  have b := h.at_ j (by omega)
  rw [if_neg (by omega), List.getElem?_eq_getElem (by omega), List.getElem?_eq_getElem (by omega)] at a
  rw [if_neg (by omega), List.getElem?_eq_getElem (by omega), List.getElem?_eq_getElem (by omega)] at b
  exact ⟨Option.some.inj a, Option.some.inj b⟩
theorem RInv.step {l c : List Pt} {i j : Nat} (h : RInv l c i j) (hij : i < j) : RInv l ((c.set i (l[j]'(by have := h.sum; omega))).set j (l[i]'(by have := h.sum; omega))) (i + 1) (j - 1) where
  sum := by have := h.sum; omega
  len := by rw [List.length_set, List.length_set, h.len]
  at_ := fun k hk => by
    have hs := h.sum
    have hl := h.len
    rw [List.getElem?_set, List.length_set]
    by_cases h1 : j = k
    · subst h1
      rw [if_pos rfl, if_pos (by omega), if_pos (by omega), show l.length - 1 - j = i by omega, List.getElem?_eq_getElem (by omega)]
    · rw [if_neg h1, List.getElem?_set]
      by_cases h2 : i = k
      · subst h2
        rw [if_pos rfl, if_pos (by omega), if_pos (by omega), show l.length - 1 - i = j by omega, List.getElem?_eq_getElem (by omega)]
      · rw [if_neg h2, h.at_ k hk]
        by_cases h3 : k < i ∨ j < k
        · rw [if_pos h3, if_pos (by omega)]
        · rw [if_neg h3, if_neg (by omega)]
theorem RInv.done {l c : List Pt} {i j : Nat} (h : RInv l c i j) (hij : j ≤ i) : c = l.reverse := by
  have hs := h.sum
  have hl := h.len
  apply List.ext_getElem?
  intro k
  rcases Nat.lt_or_ge k l.length with hk | hk
  · rw [h.at_ k hk, List.getElem?_reverse hk]
    split
    · rfl
    · next h1 =>
      rw [show l.length - 1 - k = k by omega]
  · rw [List.getElem?_eq_none (by omega), List.getElem?_eq_none (by rw [List.length_reverse]; omega)]

theorem set2_world {w : World} {base g cap n : Nat} {c : List Pt} (h : Ow w base (.slice (some ⟨g, 0, none⟩) n cap) c) (hn : n = c.length) (i j : Nat) (p q : Pt) :
    Ow ((((w.setCell ⟨g, i * 2, none⟩ (.int .i64 p.1)).setCell ⟨g, i * 2 + 1, none⟩ (.int .i64 p.2)).setCell ⟨g, j * 2, none⟩ (.int .i64 q.1)).setCell ⟨g, j * 2 + 1, none⟩ (.int .i64 q.2)) base (.slice (some ⟨g, 0, none⟩) n cap) ((c.set i p).set j q) :=
  (h.set_ hn i p).set_ (by rw [List.length_set]; exact hn) j q

set_option maxHeartbeats 1000000 in
theorem reverse_big (g cap base : Nat) (l : List Pt) (w : World) (h : Ow w base (.slice (some ⟨g, 0, none⟩) l.length cap) l) (h0 : 0 < l.length) (hn : l.length ≤ 65536) :
    Calls Try.prog 42 #[.slice (some ⟨g, 0, none⟩) l.length cap] w fun e w' => e = .returned (.tuple #[]) ∧ Ow w' base (.slice (some ⟨g, 0, none⟩) l.length cap) l.reverse ∧ w.grownBy w' (some g) := by
  generalize hr : l.reverse = R
  have HR := Lib.hid hr
  clear hr
  have e0 : (l.length : Int) - 1 = ((l.length - 1 : Nat) : Int) := by omega
  have HE0 := Lib.hid e0
  clear e0
  go_enter Try.func42, Try.ntmps42
  go_wp2
  go_loopw [2, 3] (fun s2 s3 wr => ∃ (i j : Nat) (c : List Pt), s2 = .int .i64 i ∧ s3 = .int .i64 j ∧ i + j < l.length ∧ i ≤ j + 1 ∧ Hid (RInv l c i j) ∧ Ow wr base (.slice (some ⟨g, 0, none⟩) l.length cap) c ∧ w.grownBy wr (some g)) (fun _ s3 _ => (intOf s3).toNat)
  case atStart => exact ⟨0, l.length - 1, l, rfl, by rw [HE0.out], by omega, by omega, RInv.start h0, h, World.grownBy.refl w _⟩
  case round =>
    obtain ⟨i, j, c, rfl, rfl, hij0, hij1, hri, how, hgr⟩ := hrel
    have HCL := Lib.hid hri.out.len
    have hcl1 : c.length ≤ l.length := Nat.le_of_eq HCL.out
    have hcl2 : l.length ≤ c.length := Nat.le_of_eq HCL.out.symm
    by_cases hlt : i < j
    · obtain ⟨a1, a2⟩ := how.at_ i (by omega)
      obtain ⟨a3, a4⟩ := how.at_ j (by omega)
      rw [(hri.out.get hlt).1] at a1 a2
      rw [(hri.out.get hlt).2] at a3 a4
      have b1 := how.frozenAt (i * 2)
      have b2 := how.frozenAt (i * 2 + 1)
      have b3 := how.frozenAt (j * 2)
      have b4 := how.frozenAt (j * 2 + 1)
      have HS := Lib.hid (hri.out.step hlt)
      have HW := Lib.hid (set2_world how HCL.out.symm i j (l[j]'(by omega)) (l[i]'(by omega)))
      have n1 : i * 2 ≠ j * 2 := by omega
      have n2 : i * 2 + 1 ≠ j * 2 := by omega
      have n3 : i * 2 ≠ j * 2 + 1 := by omega
      have n4 : i ≠ j := by omega
      have j1 : i < l.length := by omega
      have j2 : j < l.length := by omega
      obtain ⟨j', rfl⟩ : ∃ j', j = j' + 1 := ⟨j - 1, by omega⟩
      go_wp2
      go_region
      go_wp2
      go_roundw
      case rel => exact ⟨i + 1, j', _, by go_num, by go_num, by omega, by omega, HS, HW.out.drew, grown_drewN (grown_setCell (grown_setCell (grown_setCell (grown_setCell hgr _ _) _ _) _ _) _ _) 1⟩
      case measure => simp [intOf]
    · have HD := Lib.hid (hri.out.done (by omega))
      go_wp2
      go_end0
      exact ⟨rfl, by rw [← HR.out, ← HD.out]; exact how, hgr⟩

set_option maxHeartbeats 400000 in
theorem reverse_none (A : Option Addr) (c : Nat) (w : World) : Calls Try.prog 42 #[.slice A 0 c] w fun e w' => e = .returned (.tuple #[]) ∧ w = w' := by
  go_enter Try.func42, Try.ntmps42
  go_wp2
  refine wp_loop_rounds 1 ?_
  rw [rounds_succ]
  go_wp2
  go_end0
  exact ⟨rfl, rfl⟩

theorem sreverse_any (base : Nat) (v : Value) (l : List Pt) (w : World) (h : Ow w base v l) (hn : l.length ≤ 65536) :
    Calls Try.prog 42 #[v] w fun e w' => e = .returned (.tuple #[]) ∧ Ow w' base v l.reverse ∧ w.grownBy w' v.ownBlock := by
  by_cases h0 : 0 < l.length
  · obtain ⟨g, cap, rfl, _, _, _, _⟩ := h.block h0
    exact reverse_big g cap base l w h h0 hn
  · have e : l = [] := List.eq_nil_of_length_eq_zero (by omega)
    subst e
    obtain ⟨A, c, rfl, _, _⟩ := h.shape
    exact (reverse_none A c w).mono fun e w' he => by
      obtain ⟨rfl, rfl⟩ := he
      exact ⟨rfl, h, World.grownBy.refl _ _⟩

set_option maxHeartbeats 400000 in
theorem reverse_any (A : Option Addr) (c : Nat) (l : List Pt) (w : World) (hl : Sl w w.heap.size A l) (hn : l.length ≤ 1000) :
    Calls Try.prog 24 #[.slice A l.length c] w (Fresh w l.reverse) := by
  have HC := Lib.hid (clone_any A c l w hl hn)
  have HV := Lib.hid (fun (v : Value) (W : World) (how : Ow W w.heap.size v l) => sreverse_any w.heap.size v l W how (by omega))
  generalize l.reverse = R at *
  go_enter Try.func24, Try.ntmps24
  go_wp2_with fail
  refine HC.out.mono ?_
  rintro e w1 ⟨v1, rfl, how1, hb1⟩
  obtain ⟨A1, c1, rfl, _, _⟩ := how1.shape
  go_wp2_with fail
  refine (HV.out _ w1 how1).mono ?_
  rintro e w2 ⟨rfl, how2, hgr2⟩
  go_wp2
  go_ret
  exact ⟨_, rfl, how2, hb1.trans (Turned.below how1 hgr2 rfl _ (Nat.le_refl _) hb1.size)⟩
end Go.Proofs.Ytnmmbcgbijinpaa
