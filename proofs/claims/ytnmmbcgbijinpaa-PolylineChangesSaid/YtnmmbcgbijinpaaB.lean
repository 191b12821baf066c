/- Slices of points in memory; the functions that read them. -/
import Derived.Test.YtnmmbcgbijinpaaA
namespace Go.Proofs.Ytnmmbcgbijinpaa
open Go.RowKit
open Pl (Pt)

/-- The slice at A reads as l and lies below block B. -/
def Sl (w : World) (B : Nat) (A : Option Addr) (l : List Pt) : Prop :=
  l = [] ∨ ∃ b off, A = some ⟨b, off, none⟩ ∧ b < B ∧ ∀ i x y, l[i]? = some (x, y) → w.cell? ⟨b, off + i * 2, none⟩ = some (.int .i64 x) ∧ w.cell? ⟨b, off + i * 2 + 1, none⟩ = some (.int .i64 y)

theorem Sl.at_ {w : World} {B : Nat} {A : Option Addr} {l : List Pt} (h : Sl w B A l) (i : Nat) (hi : i < l.length) :
    ∃ b off, A = some ⟨b, off, none⟩ ∧ b < B ∧ w.cell? ⟨b, off + i * 2, none⟩ = some (.int .i64 l[i].1) ∧ w.cell? ⟨b, off + i * 2 + 1, none⟩ = some (.int .i64 l[i].2) := by
  rcases h with rfl | ⟨b, off, h1, h2, h3⟩
  · simp at hi
  · exact ⟨b, off, h1, h2, h3 i _ _ (List.getElem?_eq_getElem hi)⟩
theorem Sl.keep {w w' : World} {B : Nat} {A : Option Addr} {l : List Pt} (h : Sl w B A l) (hk : ∀ p : Addr, p.block < B → w'.cell? p = w.cell? p) : Sl w' B A l := by
  rcases h with rfl | ⟨b, off, h1, h2, h3⟩
  · exact .inl rfl
  · refine .inr ⟨b, off, h1, h2, fun i x y hi => ?_⟩
    obtain ⟨c1, c2⟩ := h3 i x y hi
    exact ⟨(hk _ h2).trans c1, (hk _ h2).trans c2⟩
theorem Sl.below {w w' : World} {B : Nat} {A : Option Addr} {l : List Pt} (h : Sl w B A l) (hb : Below B w w') : Sl w' B A l := h.keep fun _ hp => hb.cell hp
theorem Sl.more {w : World} {B B' : Nat} {A : Option Addr} {l : List Pt} (h : Sl w B A l) (hB : B ≤ B') : Sl w B' A l := by
  rcases h with rfl | ⟨b, off, h1, h2, h3⟩
  · exact .inl rfl
  · exact .inr ⟨b, off, h1, by omega, h3⟩

theorem bcell {W w1 : World} (hb : Below W.heap.size W w1) : (∀ b o, b < W.heap.size → w1.cell? ⟨b, o, none⟩ = W.cell? ⟨b, o, none⟩) ∧ (∀ b o, b < W.heap.size → w1.frozen? ⟨b, o, none⟩ = W.frozen? ⟨b, o, none⟩) :=
  ⟨fun b o h => hb.cell (p := ⟨b, o, none⟩) h, fun b o h => hb.frozen (p := ⟨b, o, none⟩) h⟩

theorem ret_bool {a b : Bool} (h : a = b) : Ending.returned (.bool a) = .returned (.bool b) := by rw [h]

theorem any_take_succ (p : Pt → Bool) (l : List Pt) (k : Nat) (hk : k < l.length) : (l.take (k + 1)).any p = ((l.take k).any p || p l[k]) := by
  rw [List.take_succ_eq_append_getElem hk, List.any_append]
  simp
theorem any_of_at (p : Pt → Bool) (l : List Pt) (k : Nat) (hk : k < l.length) (h : p l[k] = true) : l.any p = true :=
  List.any_eq_true.2 ⟨l[k], List.getElem_mem hk, h⟩

/-- a place, or -1 -/
def Found (b : Bool) (B : Nat) (w : World) (e : Ending) (w' : World) : Prop := (∃ i : Int, e = .returned (.int .i64 i) ∧ (0 ≤ i ↔ b = true)) ∧ Below B w w'

set_option maxHeartbeats 400000 in
theorem index_any (A : Option Addr) (c : Nat) (l : List Pt) (w : World) (hl : Sl w w.heap.size A l) (hn : l.length ≤ 65536) :
    Calls Try.prog 48 #[.slice A l.length c, .func (.func 35) #[] #[]] w (Found (l.any Pl.outB) w.heap.size w) := by
  have eg : ∀ args w, (callFunc 35 args).run Try.prog w = .ok (.enter 35 args) w := enters_of Try.func35 (by kernel_rfl) rfl
  go_enter Try.func48, Try.ntmps48
  go_wp2
  go_loopw [8] (fun i wr => ∃ k : Nat, k ≤ l.length ∧ i = .int .i64 k ∧ Below w.heap.size w wr ∧ Hid ((l.take k).any Pl.outB = false)) (fun i _ => l.length - (intOf i).toNat)
  case atStart => exact ⟨0, Nat.zero_le _, rfl, Below.refl _ _, rfl⟩
  case round =>
    obtain ⟨k, hk, rfl, hb, ha⟩ := hrel
    by_cases hlt : k < l.length
    · obtain ⟨b, off, rfl, hbB, hc1, hc2⟩ := (hl.below hb).at_ k hlt
      have hE := any_take_succ Pl.outB l k hlt
      have hS := any_of_at Pl.outB l k hlt
      go_wp2_with fail
      refine (outside_any _ _ _).mono ?_
      rintro e w' ⟨rfl, hb'⟩
      have hb2 := hb.trans (hb'.mono hb.size)
      clear hb'
      cases hq : Pl.outB l[k] with
      | true =>
        have HS := Lib.hid (hS hq)
        clear hS hE hq
        go_wp2
        go_ret
        exact ⟨⟨_, rfl, by simp [HS.out]⟩, hb2⟩
      | false =>
        have HE : Hid ((l.take (k + 1)).any Pl.outB = false) := by show _ = _; rw [hE, ha.out, hq]; rfl
        clear hS hE hq
        go_wp2
        go_roundw
        case rel => exact ⟨k + 1, by omega, by go_num, hb2, HE⟩
        case measure => simp [intOf]; omega
    · go_wp2
      go_ret
      have : l.take k = l := List.take_of_length_le (by omega)
      rw [this] at ha
      exact ⟨⟨_, rfl, by simp [ha.out]⟩, hb⟩

set_option maxHeartbeats 400000 in
theorem contains_any (A : Option Addr) (c : Nat) (l : List Pt) (w : World) (hl : Sl w w.heap.size A l) (hn : l.length ≤ 65536) :
    Calls Try.prog 34 #[.slice A l.length c, .func (.func 35) #[] #[]] w fun e w' => e = .returned (.bool (l.any Pl.outB)) ∧ Below w.heap.size w w' := by
  have hI := index_any A c l w hl hn
  generalize l.any Pl.outB = b at hI
  have HI := Lib.hid hI
  clear hI
  go_enter Try.func34, Try.ntmps34
  go_wp2_with fail
  refine HI.out.mono ?_
  rintro e w' ⟨⟨i, rfl, hi⟩, hb⟩
  have HI2 := Lib.hid hi
  clear hi
  go_wp2
  all_goals
    go_ret
    refine ⟨?_, hb⟩
    have := HI2.out
    cases b <;> simp_all

theorem eqPt (p q : Pt) (w : World) : (binOp .eql 30 (.agg #[.int .i64 p.1, .int .i64 p.2]) (.agg #[.int .i64 q.1, .int .i64 q.2])).run Try.prog w = .ok (.bool (decide (p = q))) w := by
  have u3 := Try.underlying3
  have a3 := Try.isAgg3
  have z3 := Try.sizeOf3
  have hS : Try.prog.underlying 30 = some (.struct (Try.prog.fieldsOf 30)) := by kernel_rfl
  have hp : Try.prog.stoodInHeld 30 = false := by kernel_rfl
  rw [run_eql_struct, show (10000 : Nat) = 9999 + 1 from rfl, run_equalIn_agg w 9999 30 _ _ hS hp]
  simp only [Program.fieldsOf, Try.underlying30]
  go_simp
  obtain ⟨x, y⟩ := p
  obtain ⟨u, v⟩ := q
  by_cases h1 : x = u <;> by_cases h2 : y = v <;> simp [h1, h2]
theorem nePt (p q : Pt) (w : World) : (binOp .neq 30 (.agg #[.int .i64 p.1, .int .i64 p.2]) (.agg #[.int .i64 q.1, .int .i64 q.2])).run Try.prog w = .ok (.bool (!decide (p = q))) w := by
  have u3 := Try.underlying3
  have a3 := Try.isAgg3
  have z3 := Try.sizeOf3
  have hS : Try.prog.underlying 30 = some (.struct (Try.prog.fieldsOf 30)) := by kernel_rfl
  have hp : Try.prog.stoodInHeld 30 = false := by kernel_rfl
  rw [run_neq_struct, show (10000 : Nat) = 9999 + 1 from rfl, run_equalIn_agg w 9999 30 _ _ hS hp]
  simp only [Program.fieldsOf, Try.underlying30]
  go_simp
  obtain ⟨x, y⟩ := p
  obtain ⟨u, v⟩ := q
  by_cases h1 : x = u <;> by_cases h2 : y = v <;> simp [h1, h2]
theorem eqGd : Try.prog.eqGuardType Try.prog.depth 30 = false := by kernel_rfl

theorem pt_eq_iff (p q : Pt) : (p.1 = q.1 ∧ p.2 = q.2) ↔ p = q := by
  cases p; cases q; simp

theorem dup_drop (l : List Pt) (k : Nat) (hk : k + 1 < l.length) : Pl.dupB (l.drop k) = (decide (l[k] = l[k + 1]) || Pl.dupB (l.drop (k + 1))) := by
  rw [List.drop_eq_getElem_cons (show k < l.length by omega), List.drop_eq_getElem_cons hk]
  rfl
theorem dup_end (l : List Pt) (k : Nat) (hk : l.length ≤ k + 1) : Pl.dupB (l.drop k) = false := by
  rcases Nat.lt_or_ge k l.length with h | h
  · rw [List.drop_eq_getElem_cons h, List.drop_of_length_le (by omega)]; rfl
  · rw [List.drop_of_length_le h]; rfl

set_option maxHeartbeats 400000 in
theorem check_any (A : Option Addr) (c : Nat) (l : List Pt) (w : World) (hl : Sl w w.heap.size A l) (hn : l.length ≤ 65536) :
    Calls Try.prog 15 #[.slice A l.length c] w fun e w' => e = .returned (.int .i64 (Pl.check l)) ∧ Below w.heap.size w w' := by
  by_cases h40 : 40 < l.length
  · have hR : Hid (Pl.check l = 5) := by show _ = _; unfold Pl.check; rw [if_pos h40]
    go_enter Try.func15, Try.ntmps15
    go_wp2
    go_ret
    exact ⟨ret_int hR.out.symm, Below.refl _ _⟩
  by_cases h2 : l.length < 2
  · have hR : Hid (Pl.check l = 11) := by show _ = _; unfold Pl.check; rw [if_neg h40, if_pos h2]
    go_enter Try.func15, Try.ntmps15
    go_wp2
    go_ret
    exact ⟨ret_int hR.out.symm, Below.refl _ _⟩
  have hcon := contains_any A c l w hl hn
  cases ho : l.any Pl.outB with
  | true =>
    have hR : Hid (Pl.check l = 3) := by show _ = _; unfold Pl.check; rw [if_neg h40, if_neg h2, if_pos ho]
    rw [ho] at hcon
    clear ho
    have HC := Lib.hid hcon
    clear hcon
    go_enter Try.func15, Try.ntmps15
    go_wp2_with (go_at_call 34; refine HC.out.mono ?_; rintro e w' ⟨rfl, hb⟩)
    go_ret
    exact ⟨ret_int hR.out.symm, hb⟩
  | false =>
    have hR : Hid (Pl.check l = if Pl.dupB (l.drop 0) = true then 11 else 0) := by show _ = _; unfold Pl.check; rw [if_neg h40, if_neg h2, if_neg (by rw [ho]; simp)]; rfl
    rw [ho] at hcon
    clear ho
    have HC := Lib.hid hcon
    clear hcon
    go_enter Try.func15, Try.ntmps15
    go_wp2_with (go_at_call 34; refine HC.out.mono ?_; rintro e w' ⟨rfl, hb⟩)
    go_loopw [15] (fun i wr => ∃ k : Nat, k + 1 ≤ l.length ∧ i = .int .i64 k ∧ Below w.heap.size w wr ∧ Hid (Pl.dupB (l.drop k) = Pl.dupB (l.drop 0))) (fun i _ => l.length - (intOf i).toNat)
    case atStart => exact ⟨0, by omega, rfl, hb, rfl⟩
    case round =>
      obtain ⟨k, hk, rfl, hb', hd⟩ := hrel
      by_cases hlt : k + 1 < l.length
      · obtain ⟨b, off, rfl, hbB, hc1, hc2⟩ := (hl.below hb').at_ k (by omega)
        obtain ⟨b', off', he, hbB', hc3, hc4⟩ := (hl.below hb').at_ (k + 1) (by omega)
        have HE := Lib.hid (dup_drop l k hlt)
        injection he with he
        injection he with e1 e2
        subst e1 e2
        clear HC
        have hq0 := eqPt l[k] l[k + 1]
        have hg := eqGd
        cases hq : decide (l[k] = l[k + 1]) with
        | true =>
          rw [hq] at hq0
          have HQ := Lib.hid hq
          clear hq
          go_wp2
          go_quiet (fail)
          go_wp2
          go_ret
          exact ⟨ret_int (by rw [hR.out, ← hd.out, HE.out, HQ.out]; rfl), below_drewN hb' _⟩
        | false =>
          rw [hq] at hq0
          have HQ := Lib.hid hq
          clear hq
          go_wp2
          go_quiet (fail)
          go_wp2
          go_roundw
          case rel => exact ⟨k + 1, by omega, by go_num, below_drewN hb' _, (by show _ = _; rw [← hd.out, HE.out, HQ.out]; rfl)⟩
          case measure => simp [intOf]; omega
      · go_wp2
        go_ret
        have := dup_end l k (by omega)
        rw [hd.out] at this
        exact ⟨ret_int (by rw [hR.out, this]; rfl), hb'⟩

/-! The reference's own. -/
theorem outB_eq (p : Pt) : Pl.outB p = ((decide (1048576 < p.1) || decide (p.1 < -1048576)) || (decide (1048576 < p.2) || decide (p.2 < -1048576))) := by
  unfold Pl.outB
  rw [Bool.eq_iff_iff]
  simp only [Bool.or_eq_true, decide_eq_true_eq]
  omega

def farB (n : Int) : Bool := decide (1048576 < n) || decide (n < -1048576)

set_option maxHeartbeats 400000 in
theorem far_any (n : Int) (w : World) : Calls Try.prog 49 #[.int .i64 n] w fun e w' => e = .returned (.bool (farB n)) ∧ w = w' := by
  unfold farB
  go_enter Try.func49, Try.ntmps49
  go_wp2
  all_goals (go_ret; exact ⟨by simp_all, rfl⟩)

set_option maxHeartbeats 400000 in
theorem farL_any (A : Option Addr) (c : Nat) (l : List Pt) (w : World) (hl : Sl w w.heap.size A l) (hn : l.length ≤ 65536) :
    Calls Try.prog 36 #[.slice A l.length c] w fun e w' => e = .returned (.bool (l.any Pl.outB)) ∧ Below w.heap.size w w' := by
  generalize hbb : l.any Pl.outB = bb
  have HB := Lib.hid hbb
  clear hbb
  go_enter Try.func36, Try.ntmps36
  go_wp2
  go_loopw [3] (fun i wr => ∃ k : Nat, k ≤ l.length ∧ i = .int .i64 k ∧ Below w.heap.size w wr ∧ Hid ((l.take k).any Pl.outB = false)) (fun i _ => l.length - (intOf i).toNat)
  case atStart => exact ⟨0, Nat.zero_le _, rfl, Below.refl _ _, rfl⟩
  case round =>
    obtain ⟨k, hk, rfl, hb, ha⟩ := hrel
    by_cases hlt : k < l.length
    · obtain ⟨b, off, rfl, hbB, hc1, hc2⟩ := (hl.below hb).at_ k hlt
      have hE := any_take_succ Pl.outB l k hlt
      have hS := any_of_at Pl.outB l k hlt
      have hO : Pl.outB l[k] = (farB l[k].1 || farB l[k].2) := outB_eq _
      cases h1 : farB l[k].1 with
      | true =>
        have hf1 := far_any l[k].1
        rw [h1] at hf1
        have HF := Lib.hid hf1
        have HS := Lib.hid (hS (by rw [hO, h1]; rfl))
        clear hf1 hS hE hO h1
        go_wp2_with (go_at_call 49; refine (HF.out _).mono ?_; rintro e w' ⟨rfl, rfl⟩)
        go_ret
        exact ⟨ret_bool (by rw [← HB.out, HS.out]), hb⟩
      | false =>
        cases h2 : farB l[k].2 with
        | true =>
          have hf1 := far_any l[k].1
          rw [h1] at hf1
          have hf2 := far_any l[k].2
          rw [h2] at hf2
          have HF := Lib.hid hf1
          have HF2 := Lib.hid hf2
          have HS := Lib.hid (hS (by rw [hO, h1, h2]; rfl))
          clear hf1 hf2 hS hE hO h1 h2
          go_wp2_with fail
          refine (HF.out _).mono ?_
          rintro e w' ⟨rfl, rfl⟩
          go_wp2_with fail
          refine (HF2.out _).mono ?_
          rintro e w' ⟨rfl, rfl⟩
          go_wp2
          go_ret
          exact ⟨ret_bool (by rw [← HB.out, HS.out]), hb⟩
        | false =>
          have hf1 := far_any l[k].1
          rw [h1] at hf1
          have hf2 := far_any l[k].2
          rw [h2] at hf2
          have HF := Lib.hid hf1
          have HF2 := Lib.hid hf2
          have HE : Hid ((l.take (k + 1)).any Pl.outB = false) := by show _ = _; rw [hE, ha.out, hO, h1, h2]; rfl
          clear hf1 hf2 hS hE hO h1 h2
          go_wp2_with fail
          refine (HF.out _).mono ?_
          rintro e w' ⟨rfl, rfl⟩
          go_wp2_with fail
          refine (HF2.out _).mono ?_
          rintro e w' ⟨rfl, rfl⟩
          go_wp2
          go_roundw
          case rel => exact ⟨k + 1, by omega, by go_num, hb, HE⟩
          case measure => simp [intOf]; omega
    · go_wp2
      go_ret
      have : l.take k = l := List.take_of_length_le (by omega)
      rw [this] at ha
      exact ⟨ret_bool (by rw [← HB.out, ha.out]), hb⟩
end Go.Proofs.Ytnmmbcgbijinpaa
