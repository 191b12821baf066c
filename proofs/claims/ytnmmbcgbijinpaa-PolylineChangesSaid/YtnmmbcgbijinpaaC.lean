/- The reference's Check, Same, Root, Segment, total, Length; the program's Length. -/
import Derived.Test.YtnmmbcgbijinpaaB
import Derived.Deep.RegionHeld3
namespace Go.Proofs.Ytnmmbcgbijinpaa
open Go.RowKit
open Pl (Pt)

set_option maxHeartbeats 400000 in
theorem rcheck_any (A : Option Addr) (c : Nat) (l : List Pt) (w : World) (hl : Sl w w.heap.size A l) (hn : l.length ≤ 65536) :
    Calls Try.prog 16 #[.slice A l.length c] w fun e w' => e = .returned (.int .i64 (Pl.check l)) ∧ Below w.heap.size w w' := by
  by_cases h40 : 40 < l.length
  · have hR : Hid (Pl.check l = 5) := by show _ = _; unfold Pl.check; rw [if_pos h40]
    go_enter Try.func16, Try.ntmps16
    go_wp2
    go_ret
    exact ⟨ret_int hR.out.symm, Below.refl _ _⟩
  by_cases h2 : l.length < 2
  · have hR : Hid (Pl.check l = 11) := by show _ = _; unfold Pl.check; rw [if_neg h40, if_pos h2]
    go_enter Try.func16, Try.ntmps16
    go_wp2
    go_ret
    exact ⟨ret_int hR.out.symm, Below.refl _ _⟩
  have hcon := farL_any A c l w hl hn
  cases ho : l.any Pl.outB with
  | true =>
    have hR : Hid (Pl.check l = 3) := by show _ = _; unfold Pl.check; rw [if_neg h40, if_neg h2, if_pos ho]
    rw [ho] at hcon
    clear ho
    have HC := Lib.hid hcon
    clear hcon
    go_enter Try.func16, Try.ntmps16
    go_wp2_with (go_at_call 36; refine HC.out.mono ?_; rintro e w' ⟨rfl, hb⟩)
    go_ret
    exact ⟨ret_int hR.out.symm, hb⟩
  | false =>
    have hR : Hid (Pl.check l = if Pl.dupB (l.drop 0) = true then 11 else 0) := by show _ = _; unfold Pl.check; rw [if_neg h40, if_neg h2, if_neg (by rw [ho]; simp)]; rfl
    rw [ho] at hcon
    clear ho
    have HC := Lib.hid hcon
    clear hcon
    go_enter Try.func16, Try.ntmps16
    go_wp2_with (go_at_call 36; refine HC.out.mono ?_; rintro e w' ⟨rfl, hb⟩)
    go_loopw [3] (fun i wr => ∃ k : Nat, k + 1 ≤ l.length ∧ i = .int .i64 (k + 1) ∧ Below w.heap.size w wr ∧ Hid (Pl.dupB (l.drop k) = Pl.dupB (l.drop 0))) (fun i _ => l.length - (intOf i).toNat)
    case atStart => exact ⟨0, by omega, rfl, hb, rfl⟩
    case round =>
      obtain ⟨k, hk, rfl, hb', hd⟩ := hrel
      by_cases hlt : k + 1 < l.length
      · obtain ⟨b, off, rfl, hbB, hc1, hc2⟩ := (hl.below hb').at_ k (by omega)
        obtain ⟨b', off', he, hbB', hc3, hc4⟩ := (hl.below hb').at_ (k + 1) (by omega)
        have HE := Lib.hid (dup_drop l k hlt)
        injection he with he
        injection he with e1 e2
        subst e1 e2
        clear HC
        have hq0 := eqPt l[k + 1] l[k]
        have hg := eqGd
        have hsy : decide (l[k + 1] = l[k]) = decide (l[k] = l[k + 1]) := by rw [Bool.eq_iff_iff]; simp [eq_comm]
        rw [hsy] at hq0
        clear hsy
        cases hq : decide (l[k] = l[k + 1]) with
        | true =>
          rw [hq] at hq0
          have HQ := Lib.hid hq
          clear hq
          go_wp2
          go_quiet (fail)
          go_wp2
          go_ret
          exact ⟨ret_int (by rw [hR.out, ← hd.out, HE.out, HQ.out]; rfl), below_drewN hb' _⟩
        | false =>
          rw [hq] at hq0
          have HQ := Lib.hid hq
          clear hq
          go_wp2
          go_quiet (fail)
          go_wp2
          go_roundw
          case rel => exact ⟨k + 1, by omega, by go_num, below_drewN hb' _, (by show _ = _; rw [← hd.out, HE.out, HQ.out]; rfl)⟩
          case measure => simp [intOf]; omega
      · go_wp2
        go_ret
        have := dup_end l k (by omega)
        rw [hd.out] at this
        exact ⟨ret_int (by rw [hR.out, this]; rfl), hb'⟩

theorem same_len {a b : List Pt} (h : a.length ≠ b.length) : decide (a = b) = false := by
  rw [decide_eq_false_iff_not]; rintro rfl; exact h rfl
theorem same_at {a b : List Pt} (k : Nat) (ha : k < a.length) (hb : k < b.length) (h : decide (a[k] = b[k]) = false) : decide (a = b) = false := by
  rw [decide_eq_false_iff_not] at *; rintro rfl; exact h rfl
theorem same_all {a b : List Pt} (h : a.length = b.length) (hk : a.take a.length = b.take a.length) : decide (a = b) = true := by
  rw [decide_eq_true_iff]
  rw [List.take_length, h, List.take_length] at hk
  exact hk

set_option maxHeartbeats 400000 in
theorem same_any (A B : Option Addr) (c d : Nat) (a b : List Pt) (w : World) (ha : Sl w w.heap.size A a) (hb : Sl w w.heap.size B b) (hn : a.length ≤ 65536) (_hm : b.length ≤ 65536) :
    Calls Try.prog 21 #[.slice A a.length c, .slice B b.length d] w fun e w' => e = .returned (.bool (decide (a = b))) ∧ Below w.heap.size w w' := by
  by_cases hlen : a.length = b.length
  · generalize hz : decide (a = b) = z
    have HZ := Lib.hid hz
    clear hz
    have h0 : ((a.length : Int) != (b.length : Int)) = false := by simp [hlen]
    have HL := Lib.hid hlen
    have hle : a.length ≤ b.length := by omega
    have hle2 : b.length ≤ a.length := by omega
    clear hlen
    go_enter Try.func21, Try.ntmps21
    go_wp2
    go_loopw [5] (fun i wr => ∃ k : Nat, k ≤ a.length ∧ i = .int .i64 k ∧ Below w.heap.size w wr ∧ Hid (a.take k = b.take k)) (fun i _ => a.length - (intOf i).toNat)
    case atStart => exact ⟨0, Nat.zero_le _, rfl, Below.refl _ _, rfl⟩
    case round =>
      obtain ⟨k, hk, rfl, hbw, hd⟩ := hrel
      by_cases hlt : k < a.length
      · have hlt2 : k < b.length := by omega
        obtain ⟨b1, off1, rfl, hbB, hc1, hc2⟩ := (ha.below hbw).at_ k hlt
        obtain ⟨b2, off2, rfl, hbB', hc3, hc4⟩ := (hb.below hbw).at_ k hlt2
        have hq0 := nePt a[k] b[k]
        have hg := eqGd
        cases hq : decide (a[k] = b[k]) with
        | false =>
          rw [hq] at hq0
          have HQ := Lib.hid (same_at k hlt hlt2 hq)
          clear hq
          go_wp2
          go_quiet (fail)
          go_wp2
          go_ret
          exact ⟨ret_bool (by rw [← HZ.out, HQ.out]), below_drewN hbw _⟩
        | true =>
          rw [hq] at hq0
          have HQ : Hid (a.take (k + 1) = b.take (k + 1)) := by
            show _ = _
            rw [List.take_succ_eq_append_getElem hlt, List.take_succ_eq_append_getElem hlt2, hd.out, of_decide_eq_true hq]
          clear hq
          go_wp2
          go_quiet (fail)
          go_wp2
          go_roundw
          case rel => exact ⟨k + 1, by omega, by go_num, below_drewN hbw _, HQ⟩
          case measure => simp [intOf]; omega
      · obtain rfl : k = a.length := by omega
        go_wp2
        go_ret
        exact ⟨ret_bool (by rw [← HZ.out, same_all HL.out hd.out]), hbw⟩
  · have HR := Lib.hid (same_len hlen)
    have h0 : ((a.length : Int) != (b.length : Int)) = true := by simp; omega
    clear hlen
    go_enter Try.func21, Try.ntmps21
    go_wp2
    go_ret
    exact ⟨ret_bool HR.out.symm, Below.refl _ _⟩

theorem pow_bound (k : Nat) (h : k ≤ 31) : 1 ≤ (2 : Int) ^ k ∧ (2 : Int) ^ k ≤ 2147483648 := by
  have h1 : (2 : Nat) ^ k ≤ 2 ^ 31 := Nat.pow_le_pow_right (by omega) h
  have h2 : (1 : Nat) ≤ 2 ^ k := Nat.one_le_two_pow
  have h3 : (2 : Nat) ^ 31 = 2147483648 := by decide
  rw [h3] at h1
  have e : (2 : Int) ^ k = ((2 ^ k : Nat) : Int) := by rw [Int.natCast_pow]; rfl
  rw [e]
  omega

theorem u64_sq (X : Nat) (h : X ≤ 4294967295) : IntKind.u64.wrap ((X : Int) * (X : Int)) = ((X * X : Nat) : Int) := by
  have h1 : X * X ≤ 4294967295 * 4294967295 := Nat.mul_le_mul h h
  rw [← Int.natCast_mul]
  generalize X * X = Y at h1
  rw [IntKind.wrap_u64]
  omega
theorem rootTo_yes {m k out : Nat} (h : (out + 2 ^ k) * (out + 2 ^ k) ≤ m) : Pl.rootTo m (k + 1) out = Pl.rootTo m k (out + 2 ^ k) := by
  rw [Pl.rootTo, if_pos h]
theorem rootTo_no {m k out : Nat} (h : ¬ (out + 2 ^ k) * (out + 2 ^ k) ≤ m) : Pl.rootTo m (k + 1) out = Pl.rootTo m k out := by
  rw [Pl.rootTo, if_neg h]

set_option maxHeartbeats 400000 in
theorem rroot_any (n : Int) (w : World) (h0 : 0 ≤ n) (h1 : n ≤ 9223372036854775807) :
    Calls Try.prog 53 #[.int .i64 n] w fun e w' => e = .returned (.int .i64 (Pl.root n)) ∧ w = w' := by
  obtain ⟨m, rfl⟩ := Int.eq_ofNat_of_zero_le h0
  go_enter Try.func53, Try.ntmps53
  go_wp2
  go_loop [3, 4] (fun o i => ∃ (k out : Nat), k ≤ 32 ∧ i = .int .i64 ((k : Int) - 1) ∧ o = .int .i64 out ∧ (out + 2 ^ k : Int) ≤ 4294967296 ∧ Hid (Pl.rootTo m k out = Pl.rootTo m 32 0)) (fun _ i => (intOf i + 1).toNat)
  case atStart => exact ⟨32, 0, by omega, rfl, rfl, by decide, rfl⟩
  case round =>
    obtain ⟨k, out, hk, rfl, rfl, hb, hd⟩ := hrel
    rcases k with _ | k
    · go_wp2
      go_ret
      exact ⟨ret_int (by unfold Pl.root; rw [Int.toNat_natCast, ← hd.out]; rfl), rfl⟩
    · obtain ⟨p1, p2⟩ := pow_bound k (by omega)
      have hp2 : (out : Int) + 2 ^ k + 2 ^ k ≤ 4294967296 := by rw [Int.pow_succ] at hb; omega
      have eX : (out : Int) + 2 ^ k = ((out + 2 ^ k : Nat) : Int) := by rw [Int.natCast_add, Int.natCast_pow]; rfl
      have hX : out + 2 ^ k ≤ 4294967295 := by omega
      have hsq := u64_sq (out + 2 ^ k) hX
      rw [← eX] at hsq
      by_cases hc : (out + 2 ^ k) * (out + 2 ^ k) ≤ m
      · have hc' : IntKind.u64.wrap (((out : Int) + 2 ^ k) * ((out : Int) + 2 ^ k)) ≤ (m : Int) := by rw [hsq]; omega
        have HD : Hid (Pl.rootTo m k (out + 2 ^ k) = Pl.rootTo m 32 0) := by show _ = _; rw [← hd.out, rootTo_yes hc]
        have HX := Lib.hid eX
        clear hc hsq eX hd hX hb
        go_wp2
        go_round
        case rel => exact ⟨k, out + 2 ^ k, by omega, by go_num, by rw [HX.out], by rw [← HX.out]; omega, HD⟩
        case measure => simp [intOf]
      · have hc' : (m : Int) < IntKind.u64.wrap (((out : Int) + 2 ^ k) * ((out : Int) + 2 ^ k)) := by rw [hsq]; omega
        have HD : Hid (Pl.rootTo m k out = Pl.rootTo m 32 0) := by show _ = _; rw [← hd.out, rootTo_no hc]
        clear hc hsq eX hd hX hb
        go_wp2
        go_round
        case rel => exact ⟨k, out, by omega, by go_num, rfl, by omega, HD⟩
        case measure => simp [intOf]

set_option maxHeartbeats 400000 in
theorem rsegment_exact (p q : Pt) (w : World) (hp : In p) (hq : In q) :
    Calls Try.prog 47 #[.agg #[.int .i64 p.1, .int .i64 p.2], .agg #[.int .i64 q.1, .int .i64 q.2]] w fun e w' => e = .returned (.int .i64 (Pl.seg p q)) ∧ ∃ n, w' = ((w.alloc (.cells #[.int .i64 p.1, .int .i64 p.2] 30)).alloc (.cells #[.int .i64 q.1, .int .i64 q.2] 30)).drewN n := by
  obtain ⟨x, y⟩ := p
  obtain ⟨u, v⟩ := q
  obtain ⟨a1, a2, a3, a4⟩ := hp
  obtain ⟨c1, c2, c3, c4⟩ := hq
  simp only at a1 a2 a3 a4 c1 c2 c3 c4
  have s1 := Pl.sq_nonneg (u - x)
  have s2 := Pl.sq_nonneg (v - y)
  have s3 := sq_le (a := u - x) (m := 2097152) (by omega) (by omega)
  have s4 := sq_le (a := v - y) (m := 2097152) (by omega) (by omega)
  simp only [show (2097152 : Int) * 2097152 = 4398046511104 by decide] at s3 s4
  unfold Pl.seg
  go_enter Try.func47, Try.ntmps47
  go_wp2
  go_quiet (fail)
  go_wp2_with fail
  refine (rroot_any _ _ (by omega) (by omega)).mono ?_
  rintro e w' ⟨rfl, rfl⟩
  go_wp2
  go_ret
  exact ⟨rfl, _, rfl⟩

theorem rsegment_any (p q : Pt) (w : World) (hp : In p) (hq : In q) :
    Calls Try.prog 47 #[.agg #[.int .i64 p.1, .int .i64 p.2], .agg #[.int .i64 q.1, .int .i64 q.2]] w fun e w' => e = .returned (.int .i64 (Pl.seg p q)) ∧ Below w.heap.size w w' :=
  (rsegment_exact p q w hp hq).mono fun _ _ h => by
    obtain ⟨h1, n, rfl⟩ := h
    exact ⟨h1, below_drewN (((Below.refl _ _).alloc (Nat.le_refl _) _).alloc (by simp) _) _⟩

theorem ret_pair {a b c : Int} (h : a = b) : Ending.returned (.tuple #[.int .i64 a, .int .i64 c]) = .returned (.tuple #[.int .i64 b, .int .i64 c]) := by rw [h]

/-- all points within the limits -/
def Ins (l : List Pt) : Prop := ∀ i (h : i < l.length), In l[i]
theorem ins_of {l : List Pt} (h : l.any Pl.outB = false) : Ins l := fun i hi => by
  have := List.any_eq_false.1 h l[i] (List.getElem_mem hi)
  unfold Pl.outB at this
  simp only [Bool.or_eq_true, decide_eq_true_eq] at this
  exact ⟨by omega, by omega, by omega, by omega⟩

theorem seg_bound {p q : Pt} (hp : In p) (hq : In q) : 0 ≤ Pl.seg p q ∧ Pl.seg p q ≤ 2965820801 := by
  obtain ⟨a1, a2, a3, a4⟩ := hp
  obtain ⟨c1, c2, c3, c4⟩ := hq
  have s1 := Pl.sq_nonneg (q.1 - p.1)
  have s2 := Pl.sq_nonneg (q.2 - p.2)
  have s3 := sq_le (a := q.1 - p.1) (m := 2097152) (by omega) (by omega)
  have s4 := sq_le (a := q.2 - p.2) (m := 2097152) (by omega) (by omega)
  simp only [show (2097152 : Int) * 2097152 = 4398046511104 by decide] at s3 s4
  refine ⟨Pl.root_nonneg _, ?_⟩
  have hs := Pl.root_spec (n := 1000000 * ((q.1 - p.1) * (q.1 - p.1) + (q.2 - p.2) * (q.2 - p.2))) (by omega) (by omega)
  have := Pl.lt_of_mul_self (a := Pl.seg p q) (b := 2965820802) (by omega) (Int.lt_of_le_of_lt hs.1 (by
    simp only [show (2965820802 : Int) * 2965820802 = 8796093029575923204 by decide]; omega))
  omega

theorem total_drop (l : List Pt) (k : Nat) (hk : k + 1 < l.length) : Pl.total (l.drop k) = Pl.seg l[k] l[k + 1] + Pl.total (l.drop (k + 1)) := by
  rw [List.drop_eq_getElem_cons (show k < l.length by omega), List.drop_eq_getElem_cons hk]
  rfl
theorem total_end (l : List Pt) (k : Nat) (hk : l.length ≤ k + 1) : Pl.total (l.drop k) = 0 := by
  rcases Nat.lt_or_ge k l.length with h | h
  · rw [List.drop_eq_getElem_cons h, List.drop_of_length_le (by omega)]; rfl
  · rw [List.drop_of_length_le h]; rfl

theorem held2 {w W w' : World} {b o1 o2 : Nat} {p q : Pt} (hb : b < w.heap.size) (hbn : Below W.heap.size W w')
    (h : Below w.heap.size w W ∧ W.cell? ⟨b, o1, none⟩ = some (.int .i64 p.1) ∧ W.cell? ⟨b, o1 + 1, none⟩ = some (.int .i64 p.2) ∧ W.cell? ⟨b, o2, none⟩ = some (.int .i64 q.1) ∧ W.cell? ⟨b, o2 + 1, none⟩ = some (.int .i64 q.2)) :
    Below w.heap.size w w' ∧ w'.cell? ⟨b, o1, none⟩ = some (.int .i64 p.1) ∧ w'.cell? ⟨b, o1 + 1, none⟩ = some (.int .i64 p.2) ∧ w'.cell? ⟨b, o2, none⟩ = some (.int .i64 q.1) ∧ w'.cell? ⟨b, o2 + 1, none⟩ = some (.int .i64 q.2) := by
  obtain ⟨h1, h2, h3, h4, h5⟩ := h
  have hk : ∀ o, w'.cell? ⟨b, o, none⟩ = W.cell? ⟨b, o, none⟩ := fun o => hbn.cell (p := ⟨b, o, none⟩) (Nat.lt_of_lt_of_le hb h1.size)
  exact ⟨h1.trans (hbn.mono h1.size), (hk _).trans h2, (hk _).trans h3, (hk _).trans h4, (hk _).trans h5⟩

set_option maxHeartbeats 400000 in
theorem length_sum (A : Option Addr) (c : Nat) (l : List Pt) (w : World) (hl : Sl w w.heap.size A l) (hn : l.length ≤ 65536) (h0 : Pl.check l = 0) (hi : Ins l) (h2 : 2 ≤ l.length) :
    Calls Try.prog 13 #[.slice A l.length c] w fun e w' => e = .returned (.tuple #[.int .i64 (Pl.total l), .int .i64 0]) ∧ Below w.heap.size w w' := by
  have hcon := check_any A c l w hl hn
  rw [h0] at hcon
  have HC := Lib.hid hcon
  clear hcon h0
  generalize hT : Pl.total l = T
  have HT : Hid (Pl.total (l.drop 0) = T) := hT
  clear hT
  go_enter Try.func13, Try.ntmps13
  go_wp2_with (go_at_call 15; refine HC.out.mono ?_; rintro e w' ⟨rfl, hb⟩)
  clear HC
  go_loopw [5, 15] (fun s i wr => ∃ (k : Nat) (S : Int), k + 1 ≤ l.length ∧ i = .int .i64 k ∧ s = .int .i64 S ∧ 0 ≤ S ∧ S ≤ 2965820801 * k ∧ Below w.heap.size w wr ∧ Hid (S + Pl.total (l.drop k) = T)) (fun _ i _ => l.length - (intOf i).toNat)
  case atStart => exact ⟨0, 0, by omega, rfl, rfl, by omega, by omega, hb, by show _ = _; rw [← HT.out]; omega⟩
  case round =>
    obtain ⟨k, S, hk, rfl, rfl, hS0, hS1, hb', hd⟩ := hrel
    by_cases hlt : k + 1 < l.length
    · obtain ⟨b, off, rfl, hbB, hc1, hc2⟩ := (hl.below hb').at_ k (by omega)
      obtain ⟨b', off', he, hbB', hc3, hc4⟩ := (hl.below hb').at_ (k + 1) (by omega)
      have HE := Lib.hid (total_drop l k hlt)
      have hsb := seg_bound (hi k (by omega)) (hi (k + 1) hlt)
      have hsg := fun w => segment_any l[k] l[k + 1] w (hi k (by omega)) (hi (k + 1) hlt)
      have HG := Lib.hid hsg
      clear hsg
      injection he with he
      injection he with e1 e2
      subst e1 e2
      go_wp2
      have i1 : (0 : Int) ≤ (k : Int) := by omega
      have i2 : (k : Int) < (l.length : Int) := by omega
      have i3 : IntKind.i64.wrap ((k : Int) + 1) = (k : Int) + 1 := IntWalk.i64_in _ (by omega)
      have i4 : (0 : Int) ≤ (k : Int) + 1 := by omega
      have i5 : (k : Int) + 1 < (l.length : Int) := by omega
      have i6 : ((k : Int) + 1).toNat = k + 1 := by omega
      have i7 : IntKind.i64.wrap (S + Pl.seg l[k] l[k + 1]) = S + Pl.seg l[k] l[k + 1] := IntWalk.i64_in _ (by omega)
      go_region_held3 (fun w' => Below w.heap.size w w' ∧ w'.cell? ⟨b, off + k * 2, none⟩ = some (.int .i64 l[k].1) ∧ w'.cell? ⟨b, off + k * 2 + 1, none⟩ = some (.int .i64 l[k].2) ∧ w'.cell? ⟨b, off + (k + 1) * 2, none⟩ = some (.int .i64 l[k + 1].1) ∧ w'.cell? ⟨b, off + (k + 1) * 2 + 1, none⟩ = some (.int .i64 l[k + 1].2)) (first | exact ⟨below_drewN hb' 1, hc1, hc2, hc3, hc4⟩ | exact held2 hbB hbn (by assumption))
        (first | (go_at_call 32; refine (HG.out _).mono ?_; rintro e w' ⟨rfl, hbn⟩))
      clear i1 i2 i3 i4 i5 i6 i7 hc1 hc2 hc3 hc4 hb' HG
      go_wp2
      go_roundw
      case rel => exact ⟨k + 1, S + Pl.seg l[k] l[k + 1], by omega, by go_num, rfl, by omega, by omega, And.left ‹_›, by show _ = _; rw [← hd.out, HE.out]; omega⟩
      case measure => simp [intOf]; omega
    · have HE := Lib.hid (total_end l k (by omega))
      go_wp2
      go_ret2
      exact ⟨ret_pair (by rw [← hd.out, HE.out]; omega), hb'⟩

set_option maxHeartbeats 400000 in
theorem length_err (A : Option Addr) (c : Nat) (l : List Pt) (w : World) (hl : Sl w w.heap.size A l) (hn : l.length ≤ 65536) (h0 : (Pl.check l != 0) = true) :
    Calls Try.prog 13 #[.slice A l.length c] w fun e w' => e = .returned (.tuple #[.int .i64 0, .int .i64 (Pl.check l)]) ∧ Below w.heap.size w w' := by
  have hcon := check_any A c l w hl hn
  have HC := Lib.hid hcon
  clear hcon
  go_enter Try.func13, Try.ntmps13
  go_wp2_with (go_at_call 15; refine HC.out.mono ?_; rintro e w' ⟨rfl, hb⟩)
  go_ret2
  exact ⟨rfl, hb⟩

theorem check_zero {l : List Pt} (h : Pl.check l = 0) : 2 ≤ l.length ∧ l.length ≤ 40 ∧ l.any Pl.outB = false ∧ Pl.dupB l = false := by
  unfold Pl.check at h
  by_cases h1 : 40 < l.length
  · rw [if_pos h1] at h; omega
  · rw [if_neg h1] at h
    by_cases h2 : l.length < 2
    · rw [if_pos h2] at h; omega
    · rw [if_neg h2] at h
      cases h3 : l.any Pl.outB
      · rw [if_neg (by rw [h3]; simp)] at h
        cases h4 : Pl.dupB l
        · exact ⟨by omega, by omega, rfl, rfl⟩
        · rw [if_pos h4] at h; omega
      · rw [if_pos h3] at h; omega

/-- the length and the error -/
def lenOf (l : List Pt) : Int := if Pl.check l = 0 then Pl.total l else 0

theorem length_any (A : Option Addr) (c : Nat) (l : List Pt) (w : World) (hl : Sl w w.heap.size A l) (hn : l.length ≤ 65536) :
    Calls Try.prog 13 #[.slice A l.length c] w fun e w' => e = .returned (.tuple #[.int .i64 (lenOf l), .int .i64 (Pl.check l)]) ∧ Below w.heap.size w w' := by
  unfold lenOf
  by_cases h : Pl.check l = 0
  · obtain ⟨h1, h2, h3, h4⟩ := check_zero h
    rw [if_pos h, h]
    exact length_sum A c l w hl hn h (ins_of h3) h1
  · rw [if_neg h]
    exact length_err A c l w hl hn (by simpa using h)

set_option maxHeartbeats 400000 in
theorem rtotal_any (A : Option Addr) (c : Nat) (l : List Pt) (w : World) (hl : Sl w w.heap.size A l) (hn : l.length ≤ 65536) (hi : Ins l) (h2 : 2 ≤ l.length) :
    Calls Try.prog 33 #[.slice A l.length c] w fun e w' => e = .returned (.int .i64 (Pl.total l)) ∧ Below w.heap.size w w' := by
  generalize hT : Pl.total l = T
  have HT : Hid (Pl.total (l.drop 0) = T) := hT
  clear hT
  go_enter Try.func33, Try.ntmps33
  go_wp2
  go_loopw [3, 4] (fun s i wr => ∃ (k : Nat) (S : Int), k + 1 ≤ l.length ∧ i = .int .i64 (k + 1) ∧ s = .int .i64 S ∧ 0 ≤ S ∧ S ≤ 2965820801 * k ∧ Below w.heap.size w wr ∧ Hid (S + Pl.total (l.drop k) = T)) (fun _ i _ => l.length - (intOf i).toNat)
  case atStart => exact ⟨0, 0, by omega, rfl, rfl, by omega, by omega, Below.refl _ _, by show _ = _; rw [← HT.out]; omega⟩
  case round =>
    obtain ⟨k, S, hk, rfl, rfl, hS0, hS1, hb', hd⟩ := hrel
    by_cases hlt : k + 1 < l.length
    · obtain ⟨b, off, rfl, hbB, hc1, hc2⟩ := (hl.below hb').at_ k (by omega)
      obtain ⟨b', off', he, hbB', hc3, hc4⟩ := (hl.below hb').at_ (k + 1) (by omega)
      have HE := Lib.hid (total_drop l k hlt)
      have hsb := seg_bound (hi k (by omega)) (hi (k + 1) hlt)
      have hsg := fun w => rsegment_any l[k] l[k + 1] w (hi k (by omega)) (hi (k + 1) hlt)
      have HG := Lib.hid hsg
      clear hsg
      injection he with he
      injection he with e1 e2
      subst e1 e2
      go_wp2
      have i1 : (0 : Int) ≤ (k : Int) := by omega
      have i2 : (k : Int) < (l.length : Int) := by omega
      have i3 : IntKind.i64.wrap (k : Int) = (k : Int) := IntWalk.i64_in _ (by omega)
      have i4 : (0 : Int) ≤ (k : Int) + 1 := by omega
      have i5 : (k : Int) + 1 < (l.length : Int) := by omega
      have i6 : ((k : Int) + 1).toNat = k + 1 := by omega
      have i7 : IntKind.i64.wrap (S + Pl.seg l[k] l[k + 1]) = S + Pl.seg l[k] l[k + 1] := IntWalk.i64_in _ (by omega)
      go_region_held3 (fun w' => Below w.heap.size w w' ∧ w'.cell? ⟨b, off + k * 2, none⟩ = some (.int .i64 l[k].1) ∧ w'.cell? ⟨b, off + k * 2 + 1, none⟩ = some (.int .i64 l[k].2) ∧ w'.cell? ⟨b, off + (k + 1) * 2, none⟩ = some (.int .i64 l[k + 1].1) ∧ w'.cell? ⟨b, off + (k + 1) * 2 + 1, none⟩ = some (.int .i64 l[k + 1].2)) (first | exact ⟨below_drewN hb' 1, hc1, hc2, hc3, hc4⟩ | exact held2 hbB hbn (by assumption))
        (first | (go_at_call 47; refine (HG.out _).mono ?_; rintro e w' ⟨rfl, hbn⟩))
      clear i1 i2 i3 i4 i5 i6 i7 hc1 hc2 hc3 hc4 hb' HG
      go_wp2
      go_roundw
      case rel => exact ⟨k + 1, S + Pl.seg l[k] l[k + 1], by omega, by go_num, rfl, by omega, by omega, And.left ‹_›, by show _ = _; rw [← hd.out, HE.out]; omega⟩
      case measure => simp [intOf]; omega
    · have HE := Lib.hid (total_end l k (by omega))
      go_wp2
      go_ret
      exact ⟨ret_int (by rw [← hd.out, HE.out]; omega), hb'⟩

set_option maxHeartbeats 400000 in
theorem rlength_any (A : Option Addr) (c : Nat) (l : List Pt) (w : World) (hl : Sl w w.heap.size A l) (hn : l.length ≤ 65536) :
    Calls Try.prog 14 #[.slice A l.length c] w fun e w' => e = .returned (.tuple #[.int .i64 (lenOf l), .int .i64 (Pl.check l)]) ∧ Below w.heap.size w w' := by
  have hcon := rcheck_any A c l w hl hn
  unfold lenOf
  by_cases h : Pl.check l = 0
  · obtain ⟨h1, h2, h3, h4⟩ := check_zero h
    rw [if_pos h, h]
    rw [h] at hcon
    have HC := Lib.hid hcon
    have HT := Lib.hid (fun W hW => rtotal_any A c l W hW hn (ins_of h3) h1)
    clear hcon h h3 h4
    go_enter Try.func14, Try.ntmps14
    go_wp2_with fail
    refine HC.out.mono ?_
    rintro e w1 ⟨rfl, hb1⟩
    go_wp2_with fail
    refine (HT.out w1 ((hl.below hb1).more hb1.size)).mono ?_
    rintro e w2 ⟨rfl, hb2⟩
    go_wp2
    go_ret2
    exact ⟨rfl, hb1.trans (hb2.mono hb1.size)⟩
  · have h0 : (Pl.check l != 0) = true := by simpa using h
    rw [if_neg h]
    have HC := Lib.hid hcon
    clear hcon h
    go_enter Try.func14, Try.ntmps14
    go_wp2_with (go_at_call 16; refine HC.out.mono ?_; rintro e w' ⟨rfl, hb⟩)
    go_ret2
    exact ⟨rfl, hb⟩
end Go.Proofs.Ytnmmbcgbijinpaa
