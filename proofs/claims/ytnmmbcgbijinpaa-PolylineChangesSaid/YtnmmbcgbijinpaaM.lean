/- The examples of the chapter hold (alive). -/
import Derived.Test.YtnmmbcgbijinpaaL
namespace Go.Proofs.Ytnmmbcgbijinpaa
open Go.RowKit
open Pl (Pt)

theorem cs_corner : cells Corner = [.int .i64 0, .int .i64 0, .int .i64 30, .int .i64 0, .int .i64 30, .int .i64 40] := rfl
theorem b_al {w W : World} (h : Below w.heap.size w W) (o : Obj) : Below w.heap.size w (W.alloc o) := h.alloc h.size o
theorem b_tr {w W W' : World} (h : Below w.heap.size w W) (h' : Below W.heap.size W W') : Below w.heap.size w W' := h.trans (h'.mono h.size)
theorem b_new (W : World) (o : Obj) : Below W.heap.size W (W.alloc o) := (Below.refl _ _).alloc (Nat.le_refl _) o
theorem sl_lit2 (w : World) (o : Obj) (l : List Pt) : Sl ((w.alloc o).alloc (.cells (cells l).toArray 30)) ((w.alloc o).alloc (.cells (cells l).toArray 30)).heap.size (some ⟨w.heap.size + 1, 0, none⟩) l := by
  have h := sl_lit' (w.alloc o) l
  rw [size_alloc' w o] at h
  exact h
theorem same_yes (A B : Option Addr) (c d : Nat) (l : List Pt) (W : World) (ha : Sl W W.heap.size A l) (hb : Sl W W.heap.size B l) (hn : l.length ≤ 65536) :
    Calls Try.prog 21 #[.slice A l.length c, .slice B l.length d] W fun e w' => e = .returned (.bool true) ∧ Below W.heap.size W w' := by
  have := same_any A B c d l l W ha hb hn hn
  simpa using this
theorem Ow.slOf {w : World} {base : Nat} {A : Option Addr} {n c : Nat} {l : List Pt} (h : Ow w base (.slice A n c) l) : Sl w w.heap.size A l := by
  obtain ⟨A', c', e, _, hs⟩ := h.shape
  injection e with e
  subst e
  exact hs
theorem eq_yes (p : Pt) (w : World) : (binOp .eql 30 (.agg #[.int .i64 p.1, .int .i64 p.2]) (.agg #[.int .i64 p.1, .int .i64 p.2])).run Try.prog w = .ok (.bool true) w := by
  have := eqPt p p w
  simpa using this

set_option maxRecDepth 100000 in
set_option maxHeartbeats 2000000 in
theorem alive_any (w : World) : Calls Try.prog 12 #[] w fun e w' => e = .returned (.bool true) ∧ Below w.heap.size w w' := by
  have C1 := Lib.hid (fun (W : World) (A : Option Addr) (h : Sl W W.heap.size A Corner) => by have := length_any A 3 Corner W h (by decide); rw [x1, x2] at this; exact this)
  have C2 := Lib.hid (fun (W : World) (A : Option Addr) (h : Sl W W.heap.size A Corner) => by have := along_any A 3 Corner 50000 W h (by decide) (by decide); rw [x3, x4] at this; exact this)
  have C3 := Lib.hid (fun (W : World) (A : Option Addr) (h : Sl W W.heap.size A Corner) => by have := cut_any A 3 Corner 50000 W h (by decide) (by decide) (by decide) (by decide); rw [x4, x5, x6] at this; exact this)
  have C4 := Lib.hid (fun (W : World) (A : Option Addr) (h : Sl W W.heap.size A [(0, 0), (0, 0), (1, 1), (2, 2), (2, 0)]) => by have := clean_any A 5 [(0, 0), (0, 0), (1, 1), (2, 2), (2, 0)] W h (by decide); rw [x7] at this; exact this)
  have C5 := Lib.hid (fun (W : World) (A : Option Addr) (h : Sl W W.heap.size A [(0, 0)]) => by have := check_any A 3 [(0, 0)] W h (by decide); rw [x8] at this; exact this)
  unfold alongTup at C2
  simp only [List.length_cons, List.length_nil, Nat.zero_add, Nat.reduceAdd] at C1 C2 C3 C4 C5
  have S1 := Lib.hid (fun (W : World) (A B : Option Addr) (c d : Nat) (ha : Sl W W.heap.size A [(0, 0), (30, 0), (30, 20)]) (hb : Sl W W.heap.size B [(0, 0), (30, 0), (30, 20)]) => same_yes A B c d [(0, 0), (30, 0), (30, 20)] W ha hb (by decide))
  have S2 := Lib.hid (fun (W : World) (A B : Option Addr) (c d : Nat) (ha : Sl W W.heap.size A [(30, 20), (30, 40)]) (hb : Sl W W.heap.size B [(30, 20), (30, 40)]) => same_yes A B c d [(30, 20), (30, 40)] W ha hb (by decide))
  have S3 := Lib.hid (fun (W : World) (A B : Option Addr) (c d : Nat) (ha : Sl W W.heap.size A [(0, 0), (2, 2), (2, 0)]) (hb : Sl W W.heap.size B [(0, 0), (2, 2), (2, 0)]) => same_yes A B c d [(0, 0), (2, 2), (2, 0)] W ha hb (by decide))
  have S4 := Lib.hid (fun (W : World) (A B : Option Addr) (c d : Nat) (ha : Sl W W.heap.size A [(30, 40), (30, 20)]) (hb : Sl W W.heap.size B [(30, 40), (30, 20)]) => same_yes A B c d [(30, 40), (30, 20)] W ha hb (by decide))
  have C6 := Lib.hid (fun (W : World) (A : Option Addr) (c : Nat) (h : Sl W W.heap.size A [(30, 20), (30, 40)]) => reverse_any A c [(30, 20), (30, 40)] W h (by decide))
  simp only [List.length_cons, List.length_nil, Nat.zero_add, Nat.reduceAdd] at S1 S2 S3 S4 C6
  have hq0 := eq_yes (30, 20)
  have hg := eqGd
  go_enter Try.func12, Try.ntmps12
  go_wp2_with fail
  refine (corner_any w).mono ?_
  rintro e _ ⟨rfl, rfl⟩
  go_wp2_with fail
  refine (C1.out _ _ (sl_lit' w Corner)).mono ?_
  rintro e w1 ⟨rfl, hb1⟩
  have hB1 : Below w.heap.size w w1 := b_tr (b_new w _) hb1
  clear hb1 C1
  go_wp2_with fail
  refine (corner_any w1).mono ?_
  rintro e _ ⟨rfl, rfl⟩
  go_wp2_with fail
  refine (C2.out _ _ (sl_lit' w1 Corner)).mono ?_
  rintro e w2 ⟨rfl, hb2⟩
  have hB2 : Below w.heap.size w w2 := b_tr (b_al hB1 _) hb2
  clear hb2 C2 hB1
  go_wp2_with fail
  refine (corner_any _).mono ?_
  rintro e _ ⟨rfl, rfl⟩
  go_wp2_with fail
  refine (C3.out _ _ (sl_lit2 w2 (.cells #[.int .i64 30, .int .i64 20] 30) Corner)).mono ?_
  rintro e w3 ⟨va, vb, rfl, howa, howb, hb3⟩
  have hB3 : Below w.heap.size w w3 := b_tr (b_al (b_al hB2 _) _) hb3
  have d1 : w3.cell? ⟨w2.heap.size, 0, none⟩ = some (.int .i64 30) := (hb3.cell (p := ⟨w2.heap.size, 0, none⟩) (by rw [size_alloc', size_alloc']; show w2.heap.size < _; omega)).trans (by rw [World.cell?_alloc_past _ _ _ (by rw [size_alloc']; omega)]; simp)
  have d2 : w3.cell? ⟨w2.heap.size, 1, none⟩ = some (.int .i64 20) := (hb3.cell (p := ⟨w2.heap.size, 1, none⟩) (by rw [size_alloc', size_alloc']; show w2.heap.size < _; omega)).trans (by rw [World.cell?_alloc_past _ _ _ (by rw [size_alloc']; omega)]; simp)
  have hz3 : w2.heap.size < w3.heap.size := by have := hb3.size; rw [size_alloc', size_alloc'] at this; omega
  obtain ⟨Aa, ca, rfl, _, _⟩ := howa.shape
  obtain ⟨Ab, cb, rfl, _, _⟩ := howb.shape
  clear hb3 C3 hB2
  go_wp2_with fail
  refine (C4.out _ _ (sl_lit' w3 [(0, 0), (0, 0), (1, 1), (2, 2), (2, 0)])).mono ?_
  rintro e w4 ⟨vc, rfl, howc, hb4⟩
  have hk4 : Below w3.heap.size w3 w4 := b_tr (b_new _ _) hb4
  have hB4 : Below w.heap.size w w4 := b_tr hB3 hk4
  have d3 : w4.cell? ⟨w2.heap.size, 0, none⟩ = some (.int .i64 30) := (hk4.cell (p := ⟨w2.heap.size, 0, none⟩) hz3).trans d1
  have d4 : w4.cell? ⟨w2.heap.size, 1, none⟩ = some (.int .i64 20) := (hk4.cell (p := ⟨w2.heap.size, 1, none⟩) hz3).trans d2
  replace howa := howa.below hk4
  replace howb := howb.below hk4
  obtain ⟨Ac, cc, rfl, _, _⟩ := howc.shape
  clear hb4 C4 hB3 d1 d2
  simp only [List.length_cons, List.length_nil, Nat.zero_add, Nat.reduceAdd] at howa howb howc ⊢
  go_wp2_with fail
  refine (S1.out (w4.alloc (.cells (cells [(0, 0), (30, 0), (30, 20)]).toArray 30)) _ _ _ _ (howa.slOf.below (b_new _ _) |>.more (by rw [size_alloc']; omega)) (sl_lit' w4 [(0, 0), (30, 0), (30, 20)])).mono ?_
  rintro e w5 ⟨rfl, hb5⟩
  have hk5 : Below w4.heap.size w4 w5 := b_tr (b_new _ _) hb5
  have hB5 := b_tr hB4 hk5
  replace howb := howb.below hk5
  replace howc := howc.below hk5
  clear S1 howa hB4 d3 d4 hb5
  go_wp2_with fail
  refine (S2.out (w5.alloc (.cells (cells [(30, 20), (30, 40)]).toArray 30)) _ _ _ _ (howb.slOf.below (b_new _ _) |>.more (by rw [size_alloc']; omega)) (sl_lit' w5 [(30, 20), (30, 40)])).mono ?_
  rintro e w6 ⟨rfl, hb6⟩
  have hk6 : Below w5.heap.size w5 w6 := b_tr (b_new _ _) hb6
  have hB6 := b_tr hB5 hk6
  replace howb := howb.below hk6
  replace howc := howc.below hk6
  clear S2 hB5 hb6
  go_wp2_with fail
  refine (S3.out (w6.alloc (.cells (cells [(0, 0), (2, 2), (2, 0)]).toArray 30)) _ _ _ _ (howc.slOf.below (b_new _ _) |>.more (by rw [size_alloc']; omega)) (sl_lit' w6 [(0, 0), (2, 2), (2, 0)])).mono ?_
  rintro e w7 ⟨rfl, hb7⟩
  have hk7 : Below w6.heap.size w6 w7 := b_tr (b_new _ _) hb7
  have hB7 := b_tr hB6 hk7
  replace howb := howb.below hk7
  clear S3 howc hB6 hb7
  go_wp2_with fail
  refine (C6.out _ _ _ howb.slOf).mono ?_
  rintro e w8 ⟨vd, rfl, howd, hb8⟩
  have hB8 := b_tr hB7 hb8
  obtain ⟨Ad, cd, rfl, _, _⟩ := howd.shape
  clear C6 howb hB7
  go_wp2_with fail
  refine (S4.out (w8.alloc (.cells (cells [(30, 40), (30, 20)]).toArray 30)) _ _ _ _ (howd.slOf.below (b_new _ _) |>.more (by rw [size_alloc']; omega)) (sl_lit' w8 [(30, 40), (30, 20)])).mono ?_
  rintro e w9 ⟨rfl, hb9⟩
  have hB9 := b_tr (b_al hB8 _) hb9
  clear S4 howd hB8
  go_wp2_with fail
  refine (corner_any _).mono ?_
  rintro e _ ⟨rfl, rfl⟩
  go_wp2_with fail
  refine (C5.out _ _ (Sl.take (sl_lit' w9 Corner) 1)).mono ?_
  rintro e w10 ⟨rfl, hb10⟩
  have hB10 := b_tr (b_al hB9 _) hb10
  clear C5 hB9
  go_wp2
  go_ret
  exact ⟨rfl, hB10⟩
end Go.Proofs.Ytnmmbcgbijinpaa
