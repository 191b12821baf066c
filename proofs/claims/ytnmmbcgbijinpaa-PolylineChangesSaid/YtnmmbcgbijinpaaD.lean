/- quotient, Round, locate, Along. -/
import Derived.Test.YtnmmbcgbijinpaaC
import Derived.Test.YtnmmbcgbijinpaaPlb
namespace Go.Proofs.Ytnmmbcgbijinpaa
open Go.RowKit
open Pl (Pt)

theorem quiet_add_left {P : Program} {f : FuncId} {args : Array Value} {w : World} {a n : Nat} {v : Value}
    (h : Calls P f args (w.drewN (a + n)) fun e w' => e = .returned v ∧ w.drewN (a + n) = w') :
    Calls P f args (w.drewN (a + n)) fun e w'' => e = .returned v ∧ ∃ m, w'' = w.drewN (a + m) :=
  h.mono fun _ _ ⟨he, hm⟩ => ⟨he, n, hm.symm⟩
theorem quiet_left {P : Program} {f : FuncId} {args : Array Value} {w : World} {n : Nat} {v : Value}
    (h : Calls P f args (w.drewN n) fun e w' => e = .returned v ∧ w.drewN n = w') : Calls P f args (w.drewN n) fun e w'' => e = .returned v ∧ ∃ m, w'' = w.drewN m :=
  h.mono fun _ _ ⟨he, hm⟩ => ⟨he, n, hm.symm⟩

set_option maxHeartbeats 400000 in
theorem quot_pos (a b : Int) (w : World) (ha : 0 ≤ a) (ha2 : a ≤ 2000000000000000000) (hb : 1 ≤ b) (hb2 : b ≤ 4294967296) :
    Calls Try.prog 50 #[.int .i64 a, .int .i64 b] w fun e w' => e = .returned (.int .i64 ((2 * a + b) / (2 * b))) ∧ w = w' := by
  go_enter Try.func50, Try.ntmps50
  go_wp2_with fail
  go_ret
  exact ⟨rfl, rfl⟩
theorem div_bound (a b : Int) (ha : 0 ≤ a) (hb : 1 ≤ b) : 0 ≤ (2 * a + b) / (2 * b) ∧ (2 * a + b) / (2 * b) ≤ a + 1 := by
  have h1 : 0 ≤ (2 * a + b) / (2 * b) := Int.ediv_nonneg (by omega) (by omega)
  refine ⟨h1, ?_⟩
  have h2 : (2 * a + b) / (2 * b) < a + 2 := by
    apply Int.ediv_lt_of_lt_mul (by omega)
    have h3 := Int.mul_nonneg ha (show 0 ≤ b - 1 by omega)
    have e1 : a * (b - 1) = a * b - a := by grind
    have e2 : (a + 2) * (2 * b) = 2 * (a * b) + 4 * b := by grind
    omega
  omega
set_option maxHeartbeats 400000 in
theorem quotient_any (a b : Int) (w : World) (ha : -2000000000000000000 ≤ a) (ha2 : a ≤ 2000000000000000000) (hb : 1 ≤ b) (hb2 : b ≤ 4294967296) :
    Calls Try.prog 50 #[.int .i64 a, .int .i64 b] w fun e w' => e = .returned (.int .i64 (Pl.rnd a b)) ∧ w = w' := by
  by_cases h : a < 0
  · unfold Pl.rnd
    rw [if_pos h]
    have hd := div_bound (-a) b (by omega) hb
    go_enter Try.func50, Try.ntmps50
    go_wp2_with fail
    refine (quot_pos _ _ _ (by omega) (by omega) (by omega) (by omega)).mono ?_
    rintro e w' ⟨rfl, rfl⟩
    go_wp2_with fail
    go_ret
    exact ⟨rfl, rfl⟩
  · unfold Pl.rnd
    rw [if_neg h]
    exact quot_pos a b w (by omega) ha2 hb hb2
set_option maxHeartbeats 400000 in
theorem rquot_pos (a b : Int) (w : World) (ha : 0 ≤ a) (ha2 : a ≤ 2000000000000000000) (hb : 1 ≤ b) (hb2 : b ≤ 4294967296) :
    Calls Try.prog 51 #[.int .i64 a, .int .i64 b] w fun e w' => e = .returned (.int .i64 ((2 * a + b) / (2 * b))) ∧ w = w' := by
  go_enter Try.func51, Try.ntmps51
  go_wp2_with fail
  go_ret
  exact ⟨rfl, rfl⟩
set_option maxHeartbeats 400000 in
theorem rquotient_any (a b : Int) (w : World) (ha : -2000000000000000000 ≤ a) (ha2 : a ≤ 2000000000000000000) (hb : 1 ≤ b) (hb2 : b ≤ 4294967296) :
    Calls Try.prog 51 #[.int .i64 a, .int .i64 b] w fun e w' => e = .returned (.int .i64 (Pl.rnd a b)) ∧ w = w' := by
  by_cases h : a < 0
  · unfold Pl.rnd
    rw [if_pos h]
    have hd := div_bound (-a) b (by omega) hb
    go_enter Try.func51, Try.ntmps51
    go_wp2_with fail
    refine (rquot_pos _ _ _ (by omega) (by omega) (by omega) (by omega)).mono ?_
    rintro e w' ⟨rfl, rfl⟩
    go_wp2_with fail
    go_ret
    exact ⟨rfl, rfl⟩
  · unfold Pl.rnd
    rw [if_neg h]
    exact rquot_pos a b w (by omega) ha2 hb hb2

/-- what locate hands back: the index, the point, the error -/
def locTup (i : Int) (p : Pt) (e : Int) : Value := .tuple #[.int .i64 i, .agg #[.int .i64 p.1, .int .i64 p.2], .int .i64 e]

set_option maxHeartbeats 400000 in
theorem locate_err (A : Option Addr) (c : Nat) (l : List Pt) (s : Int) (w : World) (hl : Sl w w.heap.size A l) (hn : l.length ≤ 65536) (h0 : (Pl.check l != 0) = true) :
    Calls Try.prog 37 #[.slice A l.length c, .int .i64 s] w fun e w' => e = .returned (locTup 0 (0, 0) (Pl.check l)) ∧ Below w.heap.size w w' := by
  have HC := Lib.hid (fun W hW => check_any A c l W hW hn)
  go_enter Try.func37, Try.ntmps37
  go_wp2_with fail
  refine (HC.out _ ((hl.below ((Below.refl _ _).alloc (Nat.le_refl _) _)).more (by simp))).mono ?_
  rintro e w1 ⟨rfl, hb1⟩
  have hb0 : Below w.heap.size w w1 := ((Below.refl _ _).alloc (Nat.le_refl _) _).trans (hb1.mono (by simp))
  obtain ⟨hc, hf⟩ := bcell hb1
  go_wp2
  refine bodyPost_ret (v := locTup 0 (0, 0) (Pl.check l)) (by simp [locTup, results, Try.results37, go_sem, hc]) rfl ⟨rfl, ?_⟩
  exact (hb0.setCell (by simp) _).setCell (by simp) _

theorem loc_drop (l : List Pt) (k : Nat) (s : Int) (hk : k + 1 < l.length) :
    Pl.loc (l.drop k) s = if s ≤ Pl.seg l[k] l[k + 1] then some (0, Pl.atSeg l[k] l[k + 1] s (Pl.seg l[k] l[k + 1])) else (Pl.loc (l.drop (k + 1)) (s - Pl.seg l[k] l[k + 1])).map fun x => (x.1 + 1, x.2) := by
  rw [List.drop_eq_getElem_cons (show k < l.length by omega), List.drop_eq_getElem_cons hk]
  rfl
theorem loc_end (l : List Pt) (k : Nat) (s : Int) (hk : l.length ≤ k + 1) : Pl.loc (l.drop k) s = none := by
  rcases Nat.lt_or_ge k l.length with h | h
  · rw [List.drop_eq_getElem_cons h, List.drop_of_length_le (by omega)]; rfl
  · rw [List.drop_of_length_le h]; rfl

/-- the index, the point and the error -/
def locIdx (r : Option (Nat × Pt)) : Int := match r with
  | some x => x.1
  | none => 0
def locPt (r : Option (Nat × Pt)) : Pt := match r with
  | some x => x.2
  | none => (0, 0)
def locErr (r : Option (Nat × Pt)) : Int := match r with
  | some _ => 0
  | none => 3

set_option maxHeartbeats 400000 in
theorem locate_neg (A : Option Addr) (c : Nat) (l : List Pt) (s : Int) (w : World) (hl : Sl w w.heap.size A l) (hn : l.length ≤ 65536) (h0 : Pl.check l = 0) (hs : s < 0) :
    Calls Try.prog 37 #[.slice A l.length c, .int .i64 s] w fun e w' => e = .returned (locTup 0 (0, 0) 3) ∧ Below w.heap.size w w' := by
  have HC := Lib.hid (fun W hW => by have := check_any A c l W hW hn; rw [h0] at this; exact this)
  clear h0
  go_enter Try.func37, Try.ntmps37
  go_wp2_with fail
  refine (HC.out _ ((hl.below ((Below.refl _ _).alloc (Nat.le_refl _) _)).more (by simp))).mono ?_
  rintro e w1 ⟨rfl, hb1⟩
  have hb0 : Below w.heap.size w w1 := ((Below.refl _ _).alloc (Nat.le_refl _) _).trans (hb1.mono (by simp))
  obtain ⟨hc, hf⟩ := bcell hb1
  go_wp2
  refine bodyPost_ret (v := locTup 0 (0, 0) 3) (by simp [locTup, results, Try.results37, go_sem, hc]) rfl ⟨rfl, ?_⟩
  exact (hb0.setCell (by simp) _).setCell (by simp) _

theorem mul_bound {t d n : Int} (h0 : 0 ≤ t) (h1 : t ≤ n) (hn2 : n ≤ 2965820801) (d0 : -2097152 ≤ d) (d1 : d ≤ 2097152) : -7000000000000000 ≤ t * d ∧ t * d ≤ 7000000000000000 := by
  have a := Int.mul_nonneg h0 (show 0 ≤ 2097152 - d by omega)
  have b := Int.mul_nonneg h0 (show 0 ≤ 2097152 + d by omega)
  rw [Int.mul_sub] at a
  rw [Int.mul_add] at b
  omega
theorem rnd_in {t a b n : Int} (h0 : 0 ≤ t) (h1 : t ≤ n) (hn : 1 ≤ n) (a0 : -1048576 ≤ a) (a1 : a ≤ 1048576) (b0 : -1048576 ≤ b) (b1 : b ≤ 1048576) :
    -1048576 ≤ a + Pl.rnd (t * (b - a)) n ∧ a + Pl.rnd (t * (b - a)) n ≤ 1048576 := by
  rcases Int.le_total 0 (b - a) with h | h
  · have := Pl.rnd_range_pos h0 h1 hn h; omega
  · have := Pl.rnd_range_neg h0 h1 hn h; omega
theorem at_in {p q : Pt} (hp : In p) (hq : In q) {t n : Int} (h0 : 0 ≤ t) (h1 : t ≤ n) (hn : 1 ≤ n) : In (Pl.atSeg p q t n) := by
  obtain ⟨a1, a2, a3, a4⟩ := hp
  obtain ⟨c1, c2, c3, c4⟩ := hq
  have x := rnd_in h0 h1 hn a1 a2 c1 c2
  have y := rnd_in h0 h1 hn a3 a4 c3 c4
  exact ⟨x.1, x.2, y.1, y.2⟩
theorem seg_pos' {p q : Pt} (hp : In p) (hq : In q) (h : p ≠ q) : 1000 ≤ Pl.seg p q := by
  obtain ⟨a1, a2, a3, a4⟩ := hp
  obtain ⟨c1, c2, c3, c4⟩ := hq
  have s3 := sq_le (a := q.1 - p.1) (m := 2097152) (by omega) (by omega)
  have s4 := sq_le (a := q.2 - p.2) (m := 2097152) (by omega) (by omega)
  simp only [show (2097152 : Int) * 2097152 = 4398046511104 by decide] at s3 s4
  exact Pl.seg_pos h s3 s4

set_option maxHeartbeats 1000000 in
theorem locate_yes (A : Option Addr) (c : Nat) (l : List Pt) (s : Int) (w : World) (hl : Sl w w.heap.size A l) (hn : l.length ≤ 65536) (h0 : Pl.check l = 0) (hi : Ins l) (hdu : Pl.dupB l = false) (h2 : 2 ≤ l.length) (hs : 0 ≤ s) (hs2 : s ≤ 9223372036854775807) :
    Calls Try.prog 37 #[.slice A l.length c, .int .i64 s] w fun e w' => e = .returned (locTup (locIdx (Pl.loc l s)) (locPt (Pl.loc l s)) (locErr (Pl.loc l s))) ∧ Below w.heap.size w w' := by
  have HC := Lib.hid (fun W hW => by have := check_any A c l W hW hn; rw [h0] at this; exact this)
  clear h0
  have HDU := Lib.hid hdu
  clear hdu
  generalize hR : Pl.loc l s = R
  have HR : Hid ((Pl.loc (l.drop 0) (s - 0)).map (fun x => (x.1 + 0, x.2)) = R) := by
    show _ = _
    rw [← hR]
    simp
  clear hR
  go_enter Try.func37, Try.ntmps37
  go_wp2_with fail
  refine (HC.out _ ((hl.below ((Below.refl _ _).alloc (Nat.le_refl _) _)).more (by simp))).mono ?_
  rintro e w1 ⟨rfl, hb1⟩
  clear HC
  go_wp2
  go_loopw [8, 27] (fun fr i wr => ∃ (k : Nat) (F : Int), k + 1 ≤ l.length ∧ i = .int .i64 k ∧ fr = .int .i64 F ∧ 0 ≤ F ∧ F ≤ 2965820801 * k ∧ F ≤ s ∧ Below (w.heap.size + 1) (w.alloc (.cells #[.int .i64 0, .int .i64 0] 30)) wr ∧
    Hid ((Pl.loc (l.drop k) (s - F)).map (fun x => (x.1 + k, x.2)) = R)) (fun _ i _ => l.length - (intOf i).toNat)
  case atStart => exact ⟨0, 0, by omega, rfl, rfl, by omega, by omega, by omega, by simpa using hb1, HR⟩
  case round =>
    obtain ⟨k, F, hk, rfl, rfl, hF0, hF1, hF2, hb', hd⟩ := hrel
    have hbw : Below w.heap.size w wr := ((Below.refl _ _).alloc (Nat.le_refl _) _).trans (hb'.mono (by simp))
    have hz := hb'.size
    simp at hz
    by_cases hlt : k + 1 < l.length
    · obtain ⟨b, off, rfl, hbB, hc1, hc2⟩ := (hl.below hbw).at_ k (by omega)
      obtain ⟨b', off', he, hbB', hc3, hc4⟩ := (hl.below hbw).at_ (k + 1) (by omega)
      have HE := Lib.hid (loc_drop l k (s - F) hlt)
      have hsb := seg_bound (hi k (by omega)) (hi (k + 1) hlt)
      have hsg := fun w => segment_any l[k] l[k + 1] w (hi k (by omega)) (hi (k + 1) hlt)
      have HG := Lib.hid hsg
      clear hsg
      injection he with he
      injection he with e1 e2
      subst e1 e2
      have j1 : k < l.length := by omega
      have j0 : b < wr.heap.size := by have := hbw.size; omega
      have j2 : ∀ o x, (wr.alloc o).cell? ⟨b, x, none⟩ = wr.cell? ⟨b, x, none⟩ := fun o x => World.cell?_alloc_lt wr o _ j0
      have j3 : ∀ o o' x, ((wr.alloc o).alloc o').cell? ⟨b, x, none⟩ = wr.cell? ⟨b, x, none⟩ := fun o o' x => (World.cell?_alloc_lt _ o' _ (by simp; omega)).trans (j2 o x)
      go_wp2
      go_region
      all_goals
        clear hc1 hc2 hc3 hc4 j2 j3
        go_wp2_with fail
        refine (HG.out _).mono ?_
        rintro e w2 ⟨rfl, hbn⟩
        clear HG
        have hb3 : Below (w.heap.size + 1) (w.alloc (.cells #[.int .i64 0, .int .i64 0] 30)) w2 := (below_drewN ((hb'.alloc (by omega) _).alloc (by simp; omega) _) 1).trans (hbn.mono (by simp; omega))
        have hbw3 : Below w.heap.size w w2 := ((Below.refl _ _).alloc (Nat.le_refl _) _).trans (hb3.mono (by simp))
        obtain ⟨hc, hf⟩ := bcell hbn
        by_cases hin : s ≤ F + Pl.seg l[k] l[k + 1]
        · have HE2 : Hid (R = some (k, Pl.atSeg l[k] l[k + 1] (s - F) (Pl.seg l[k] l[k + 1]))) := by
            show _ = _
            rw [← hd.out, HE.out, if_pos (by omega)]
            simp
          obtain ⟨p1, p2, p3, p4⟩ := hi k j1
          obtain ⟨q1, q2, q3, q4⟩ := hi (k + 1) hlt
          have sp := seg_pos' (hi k j1) (hi (k + 1) hlt) (Pl.dup_at HDU.out k hlt)
          have m1 := mul_bound (t := s - F) (d := l[k + 1].1 - l[k].1) (by omega) (show s - F ≤ Pl.seg l[k] l[k + 1] by omega) (by omega) (by omega) (by omega)
          have m2 := mul_bound (t := s - F) (d := l[k + 1].2 - l[k].2) (by omega) (show s - F ≤ Pl.seg l[k] l[k + 1] by omega) (by omega) (by omega) (by omega)
          obtain ⟨t1, t2, t3, t4⟩ := at_in (t := s - F) (n := Pl.seg l[k] l[k + 1]) (hi k j1) (hi (k + 1) hlt) (by omega) (by omega) (by omega)
          have Q1 := Lib.hid (fun W => quotient_any ((s - F) * (l[k + 1].1 - l[k].1)) (Pl.seg l[k] l[k + 1]) W (by omega) (by omega) (by omega) (by omega))
          have Q2 := Lib.hid (fun W => quotient_any ((s - F) * (l[k + 1].2 - l[k].2)) (Pl.seg l[k] l[k + 1]) W (by omega) (by omega) (by omega) (by omega))
          unfold Pl.atSeg at t1 t2 t3 t4
          simp only at t1 t2 t3 t4
          have x1 : IntKind.i64.wrap (s - F) = s - F := IntWalk.i64_in _ (by omega)
          have x2 : IntKind.i64.wrap (l[k + 1].1 - l[k].1) = l[k + 1].1 - l[k].1 := IntWalk.i64_in _ (by omega)
          have x3 : IntKind.i64.wrap ((s - F) * (l[k + 1].1 - l[k].1)) = (s - F) * (l[k + 1].1 - l[k].1) := IntWalk.i64_in _ (by omega)
          have x4 : IntKind.i64.wrap (l[k].1 + Pl.rnd ((s - F) * (l[k + 1].1 - l[k].1)) (Pl.seg l[k] l[k + 1])) = l[k].1 + Pl.rnd ((s - F) * (l[k + 1].1 - l[k].1)) (Pl.seg l[k] l[k + 1]) := IntWalk.i64_in _ (by omega)
          have y2 : IntKind.i64.wrap (l[k + 1].2 - l[k].2) = l[k + 1].2 - l[k].2 := IntWalk.i64_in _ (by omega)
          have y3 : IntKind.i64.wrap ((s - F) * (l[k + 1].2 - l[k].2)) = (s - F) * (l[k + 1].2 - l[k].2) := IntWalk.i64_in _ (by omega)
          have y4 : IntKind.i64.wrap (l[k].2 + Pl.rnd ((s - F) * (l[k + 1].2 - l[k].2)) (Pl.seg l[k] l[k + 1])) = l[k].2 + Pl.rnd ((s - F) * (l[k + 1].2 - l[k].2)) (Pl.seg l[k] l[k + 1]) := IntWalk.i64_in _ (by omega)
          clear p1 p2 p3 p4 q1 q2 q3 q4 m1 m2 t1 t2 t3 t4
          go_wp2
          go_quiet ((go_at_call 50; exact quiet_left (Q1.out _)))
          go_wp2
          go_quiet ((go_at_call 50; exact quiet_add_left (Q2.out _)))
          clear hc hf
          have r0 : w2.cell? ⟨w.heap.size, 0, none⟩ = some (.int .i64 0) := (hb3.cell (p := ⟨w.heap.size, 0, none⟩) (by simp)).trans (by simp)
          have r1 : w2.cell? ⟨w.heap.size, 1, none⟩ = some (.int .i64 0) := (hb3.cell (p := ⟨w.heap.size, 1, none⟩) (by simp)).trans (by simp)
          have f0 : w2.frozen? ⟨w.heap.size, 0, none⟩ = false := (hb3.frozen (p := ⟨w.heap.size, 0, none⟩) (by simp)).trans (by simp)
          have f1 : w2.frozen? ⟨w.heap.size, 1, none⟩ = false := (hb3.frozen (p := ⟨w.heap.size, 1, none⟩) (by simp)).trans (by simp)
          go_wp2
          rw [HE2.out]
          refine bodyPost_ret (v := locTup k (Pl.atSeg l[k] l[k + 1] (s - F) (Pl.seg l[k] l[k + 1])) 0) (by simp [locTup, Pl.atSeg, results, Try.results37, go_sem, r0, r1]) rfl ⟨rfl, ?_⟩
          exact below_drewN ((hbw3.setCell (by simp) _).setCell (by simp) _) _
        · have HE2 : Hid ((Pl.loc (l.drop (k + 1)) (s - (F + Pl.seg l[k] l[k + 1]))).map (fun x => (x.1 + (k + 1), x.2)) = R) := by
            show _ = _
            rw [← hd.out, HE.out, if_neg (by omega), Option.map_map, show s - (F + Pl.seg l[k] l[k + 1]) = s - F - Pl.seg l[k] l[k + 1] by omega]
            congr 1
            funext x
            simp; omega
          clear hc hf
          go_wp2
          go_roundw
          case rel => exact ⟨k + 1, F + Pl.seg l[k] l[k + 1], by omega, by go_num, rfl, by omega, by omega, by omega, hb3, HE2⟩
          case measure => simp [intOf]; omega
    · have HE : Hid (R = none) := by
        show _ = _
        rw [← hd.out, loc_end l k _ (by omega)]
        rfl
      have r0 : wr.cell? ⟨w.heap.size, 0, none⟩ = some (.int .i64 0) := (hb'.cell (p := ⟨w.heap.size, 0, none⟩) (by simp)).trans (by simp)
      have r1 : wr.cell? ⟨w.heap.size, 1, none⟩ = some (.int .i64 0) := (hb'.cell (p := ⟨w.heap.size, 1, none⟩) (by simp)).trans (by simp)
      have f0 : wr.frozen? ⟨w.heap.size, 0, none⟩ = false := (hb'.frozen (p := ⟨w.heap.size, 0, none⟩) (by simp)).trans (by simp)
      have f1 : wr.frozen? ⟨w.heap.size, 1, none⟩ = false := (hb'.frozen (p := ⟨w.heap.size, 1, none⟩) (by simp)).trans (by simp)
      go_wp2
      rw [HE.out]
      refine bodyPost_ret (v := locTup 0 (0, 0) 3) (by simp [locTup, results, Try.results37, go_sem, r0, r1]) rfl ⟨rfl, ?_⟩
      exact (hbw.setCell (by simp) _).setCell (by simp) _
end Go.Proofs.Ytnmmbcgbijinpaa
