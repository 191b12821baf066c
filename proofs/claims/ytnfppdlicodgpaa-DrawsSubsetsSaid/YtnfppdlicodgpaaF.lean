/- The examples of the chapter: awake returns true. -/
import Derived.Test.YtnfppdlicodgpaaE
namespace Go.Proofs.Ytnfppdlicodgpaa
open Go.RowKit
open Pd (St)

theorem st0 : St 0 := ⟨by decide, by decide⟩
theorem st1 : St 1 := ⟨by decide, by decide⟩
theorem st5 : St 5 := ⟨by decide, by decide⟩
theorem st9 : St 9 := ⟨by decide, by decide⟩
theorem x0 : Pd.nx 0 = 1442695040888963407 := by decide +kernel
theorem y0 : Pd.num 1442695040888963407 = 167951807 := by decide +kernel
theorem x1 : Pd.nx 1 = 7806831264735756412 := by decide +kernel
theorem y1 : Pd.num 7806831264735756412 = 908834774 := by decide +kernel
theorem x2 : bel 0 10 = 7 := by decide +kernel
theorem x3 : bel 0 (-3) = 0 := by decide +kernel
theorem x4 : (Pd.shuffle 1 2).1 = 7806831264735756412 := by decide +kernel
theorem x5 : (Pd.shuffle 1 2).2 = [1, 0] := by decide +kernel
theorem x6 : Pd.sample 1 2 1 = [1] := by decide +kernel
theorem x7 : Pd.sample 1 2 9 = [0, 1] := by decide +kernel
theorem x8 : (Pd.shuffle 9 1).1 = 9 := by decide +kernel
theorem x9 : (Pd.shuffle 9 1).2 = [0] := by decide +kernel

theorem size_al (w : World) (o : Obj) : (w.alloc o).heap.size = w.heap.size + 1 := by simp
theorem lit1 (w : World) (x : Int) : Si (w.alloc (.cells #[.int .i64 x] 3)) (w.alloc (.cells #[.int .i64 x] 3)).heap.size (some ⟨w.heap.size, 0, none⟩) [x] := by
  rw [size_al]; exact one_cell w x
theorem lit2 (w : World) (x y : Int) : Si (w.alloc (.cells #[.int .i64 x, .int .i64 y] 3)) (w.alloc (.cells #[.int .i64 x, .int .i64 y] 3)).heap.size (some ⟨w.heap.size, 0, none⟩) [x, y] := by
  rw [size_al]
  exact .inr ⟨w.heap.size, 0, rfl, by omega, fun i z hi => by
    match i, hi with
    | 0, hi => simp at hi; subst hi; simp
    | 1, hi => simp at hi; subst hi; simp⟩
theorem b_new (W : World) (o : Obj) : Below W.heap.size W (W.alloc o) := (Below.refl _ _).alloc (Nat.le_refl _) o
theorem Oi.si {w : World} {base g n c : Nat} {l : List Int} (h : Oi w base (.slice (some ⟨g, 0, none⟩) n c) l) : Si w w.heap.size (some ⟨g, 0, none⟩) l := by
  obtain ⟨A, c', hA, _, _, hs, _⟩ := h.shape
  injection hA with h1 h2 h3
  rw [h1]
  exact hs
theorem si_alloc {w W : World} {A : Option Addr} {l : List Int} (h : Si w w.heap.size A l) (hb : Below w.heap.size w W) (o : Obj) : Si (W.alloc o) (W.alloc o).heap.size A l := (h.below (b_al hb o)).more (b_al hb o).size

set_option maxRecDepth 100000 in
set_option maxHeartbeats 2000000 in
theorem awake_any (w : World) : Calls Try.prog 16 #[] w fun e w' => e = .returned (.bool true) ∧ Below w.heap.size w w' := by
  have H0 := Lib.hid (fun W => by have := next_any 0 W st0; rw [x0, y0] at this; exact this)
  have H1 := Lib.hid (fun W => by have := next_any 1 W st1; rw [x1, y1] at this; exact this)
  have H2 := Lib.hid (fun W => by have := below_any 0 10 W st0; rw [x0, x2] at this; exact this)
  have H3 := Lib.hid (fun W => by have := below_any 0 (-3) W st0; rw [x0, x3] at this; exact this)
  have H4 := Lib.hid (fun W => by have := shuffle_any 1 2 W st1; rw [x4, x5] at this; exact this)
  have H5 := Lib.hid (fun W => by have := sample_any 1 2 1 W st1; rw [x4, x6] at this; exact this)
  have H6 := Lib.hid (fun W => by have := sample_any 1 2 9 W st1; rw [x4, x7] at this; exact this)
  have H7 := Lib.hid (fun W => by have := shuffle_any 9 1 W st9; rw [x8, x9] at this; exact this)
  have H8 := Lib.hid (fun W => by have := skip_any 5 (-7) W st5 (by decide); rw [show Pd.it (-7 : Int).toNat 5 = 5 from rfl] at this; exact this)
  have H9 := Lib.hid (fun W => by have := skip_any 0 1 W st0 (by decide); rw [show Pd.it (1 : Int).toNat 0 = Pd.nx 0 from rfl, x0] at this; exact this)
  go_enter Try.func16, Try.ntmps16
  go_wp2_with fail
  refine (H0.out _).mono ?_
  rintro e w' ⟨rfl, rfl⟩
  go_wp2_with fail
  refine (H1.out _).mono ?_
  rintro e w' ⟨rfl, rfl⟩
  go_wp2_with fail
  refine (H2.out _).mono ?_
  rintro e w' ⟨rfl, n1, rfl⟩
  go_wp2_with fail
  refine (H3.out _).mono ?_
  rintro e w' ⟨rfl, n2, hw⟩
  have hB0 : Below w.heap.size w w' := by rw [hw]; exact below_drewN (below_drewN (Below.refl _ _) _) _
  clear hw H0 H1 H2 H3
  go_wp2_with fail
  refine (H4.out _).mono ?_
  rintro e w1 ⟨m1, hm1, rfl, how1, hb1⟩
  obtain rfl : (2 : Nat) = m1 := hm1
  have hB1 := b_tr hB0 hb1
  have hs1 := how1.si
  clear how1 hb1 hB0 H4
  generalize w'.heap.size = g1 at *
  go_wp2_with fail
  refine (H5.out _).mono ?_
  rintro e w2 ⟨A2, m2, c2, hm2, rfl, hs2, hb2⟩
  obtain rfl : (1 : Nat) = m2 := hm2
  have hB2 := b_tr hB1 hb2
  replace hs1 := (hs1.below hb2).more hb2.size
  clear hb2 hB1 H5
  go_wp2_with fail
  refine (H6.out _).mono ?_
  rintro e w3 ⟨A3, m3, c3, hm3, rfl, hs3, hb3⟩
  obtain rfl : (2 : Nat) = m3 := hm3
  have hB3 := b_tr hB2 hb3
  replace hs1 := (hs1.below hb3).more hb3.size
  replace hs2 := (hs2.below hb3).more hb3.size
  clear hb3 hB2 H6
  go_wp2_with fail
  refine (H7.out _).mono ?_
  rintro e w4 ⟨m4, hm4, rfl, how4, hb4⟩
  obtain rfl : (1 : Nat) = m4 := hm4
  have hB4 := b_tr hB3 hb4
  replace hs1 := (hs1.below hb4).more hb4.size
  replace hs2 := (hs2.below hb4).more hb4.size
  replace hs3 := (hs3.below hb4).more hb4.size
  have hs4 := how4.si
  clear how4 hb4 hB3 H7
  generalize w3.heap.size = g4 at *
  go_wp2_with fail
  refine (same_yes _ _ _ _ [1, 0] _ (si_alloc hs1 (Below.refl _ _) _) (lit2 w4 1 0) (by simp)).mono ?_
  rintro e w5 ⟨rfl, hb5⟩
  replace hb5 := b_tr (b_new w4 _) hb5
  have hB5 := b_tr hB4 hb5
  replace hs2 := (hs2.below hb5).more hb5.size
  replace hs3 := (hs3.below hb5).more hb5.size
  replace hs4 := (hs4.below hb5).more hb5.size
  clear hb5 hB4 hs1
  go_wp2_with fail
  refine (same_yes _ _ _ _ [1] _ (si_alloc hs2 (Below.refl _ _) _) (lit1 w5 1) (by simp)).mono ?_
  rintro e w6 ⟨rfl, hb6⟩
  replace hb6 := b_tr (b_new w5 _) hb6
  have hB6 := b_tr hB5 hb6
  replace hs3 := (hs3.below hb6).more hb6.size
  replace hs4 := (hs4.below hb6).more hb6.size
  clear hb6 hB5 hs2
  go_wp2_with fail
  refine (same_yes _ _ _ _ [0, 1] _ (si_alloc hs3 (Below.refl _ _) _) (lit2 w6 0 1) (by simp)).mono ?_
  rintro e w7 ⟨rfl, hb7⟩
  replace hb7 := b_tr (b_new w6 _) hb7
  have hB7 := b_tr hB6 hb7
  replace hs4 := (hs4.below hb7).more hb7.size
  clear hb7 hB6 hs3
  go_wp2_with fail
  refine (same_yes _ _ _ _ [0] _ (si_alloc hs4 (Below.refl _ _) _) (lit1 w7 0) (by simp)).mono ?_
  rintro e w8 ⟨rfl, hb8⟩
  replace hb8 := b_tr (b_new w7 _) hb8
  have hB8 := b_tr hB7 hb8
  clear hb8 hB7 hs4
  go_wp2_with fail
  refine (H8.out _).mono ?_
  rintro e w' ⟨rfl, rfl⟩
  go_wp2_with fail
  refine (H9.out _).mono ?_
  rintro e w' ⟨rfl, rfl⟩
  go_wp2
  go_ret
  exact ⟨rfl, hB8⟩
end Go.Proofs.Ytnfppdlicodgpaa
