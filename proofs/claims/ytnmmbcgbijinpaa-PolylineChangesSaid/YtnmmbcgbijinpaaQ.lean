/- The reference's part, Reverse. -/
import Derived.Test.YtnmmbcgbijinpaaN
namespace Go.Proofs.Ytnmmbcgbijinpaa
open Go.RowKit
open Pl (Pt)

theorem compact_first {l : List Pt} (h : 0 < l.length) : Pl.compact (l.take 1) = [] ++ [l[0]] := by
  cases l with
  | nil => simp at h
  | cons a r => rfl
/-- an append onto a row of the call's own keeps what lay below it -/
theorem b_app {w0 w w' : World} {v : Value} {l : List Pt} (hb : Below w0.heap.size w0 w) (how : Ow w w0.heap.size v l) (hg : w.grownBy w' v.ownBlock) : Below w0.heap.size w0 w' :=
  hb.trans (Turned.below how hg rfl _ (Nat.le_refl _) hb.size)

set_option maxHeartbeats 1000000 in
theorem rpart_any (A : Option Addr) (c : Nat) (l : List Pt) (w : World) (hl : Sl w w.heap.size A l) (hn : l.length ≤ 1000) :
    Calls Try.prog 41 #[.slice A l.length c] w (Fresh w (Pl.part l)) := by
  have hg0 := eqGd
  have hcl := Pl.compact_len l
  have HP1 := Lib.hid (fun a (h : Pl.compact l = [a]) => part_one h)
  have HP2 := Lib.hid (fun (h : (Pl.compact l).length ≠ 1) => part_more h)
  have HTK : Hid (Pl.compact (l.take l.length) = Pl.compact l) := by show _ = _; rw [List.take_length]
  generalize Pl.part l = PL at *
  go_enter Try.func41, Try.ntmps41
  go_wp2
  go_loopw [3, 4] (fun s3 s4 wr => ∃ k : Nat, k ≤ l.length ∧ s4 = .int .i64 k ∧ Ow wr w.heap.size s3 (Pl.compact (l.take k)) ∧ Below w.heap.size w wr) (fun _ s4 _ => l.length - (intOf s4).toNat)
  case atStart => exact ⟨0, by omega, rfl, Ow.nil _ _, Below.refl _ _⟩
  case round =>
    obtain ⟨k, hk, rfl, how, hb⟩ := hrel
    have hck := Pl.compact_len (l.take k)
    rw [List.length_take] at hck
    by_cases hlt : k < l.length
    · obtain ⟨b, off, rfl, hbB, c1, c2⟩ := (hl.below hb).at_ k hlt
      have hj0 : b < wr.heap.size := by have := hb.size; omega
      obtain ⟨As, cs, rfl, _, _⟩ := how.shape
      have hbz := hb.size
      rcases Nat.eq_zero_or_pos k with h0 | h0
      · subst h0
        have HF := Lib.hid (compact_first hlt)
        have k0 : ((0 : Int) == 0) = true := rfl
        simp only [Nat.zero_mul, Nat.add_zero] at c1 c2
        simp only [List.take_zero, Pl.compact, List.length_nil] at how hck ⊢
        go_wp2
        go_quiet (fail)
        have hbq := b_al (below_drewN hb nq) (.cells #[.int .i64 l[0].1, .int .i64 l[0].2] 30)
        have howq := Ow.alloc (how.drewN nq) (.cells #[.int .i64 l[0].1, .int .i64 l[0].2] 30)
        go_wp2_with (at_builtin; refine wpList_append_pts _ rfl _ _ rfl w.heap.size (.slice As 0 cs) [] rfl howq _ _ [l[0]] _ 1 rfl rfl (sl_one wr l[0]) (by simp) (by simp; omega) ?_; intro v2 w2 how2 hg2 hat2)
        go_roundw
        case rel => exact ⟨1, by omega, rfl, by rw [HF.out]; exact how2, b_app hbq howq hg2⟩
        case measure => simp [intOf]; omega
      · obtain ⟨k', rfl⟩ : ∃ k', k = k' + 1 := ⟨k - 1, by omega⟩
        obtain ⟨b', off', he, hbB', c3, c4⟩ := (hl.below hb).at_ k' (by omega)
        injection he with he
        injection he with e1 e2
        subst e1 e2
        have k0 : ((k' : Int) + 1 == 0) = false := by simp; omega
        have HT := Lib.hid (Pl.compact_take (l := l) (m := k' + 1) (by omega) hlt)
        simp only [Nat.add_sub_cancel] at HT
        have i1 : (0 : Int) ≤ (k' : Int) := by omega
        have i2 : (k' : Int) < (l.length : Int) := by omega
        have hq0 := nePt l[k' + 1] l[k']
        cases hq : decide (l[k' + 1] = l[k']) with
        | true =>
          rw [hq] at hq0
          have HC2 : Hid (Pl.compact (l.take (k' + 1 + 1)) = Pl.compact (l.take (k' + 1))) := by
            show _ = _
            rw [HT.out, if_pos (of_decide_eq_true hq).symm]
          clear hq HT
          go_wp2
          go_quiet (fail)
          go_wp2
          go_roundw
          case rel => exact ⟨k' + 1 + 1, by omega, by go_num, by rw [HC2.out]; exact how.drewN _, below_drewN hb _⟩
          case measure => simp [intOf]; omega
        | false =>
          rw [hq] at hq0
          have HC2 : Hid (Pl.compact (l.take (k' + 1 + 1)) = Pl.compact (l.take (k' + 1)) ++ [l[k' + 1]]) := by
            show _ = _
            rw [HT.out, if_neg (fun e => of_decide_eq_false hq e.symm)]
          clear hq HT
          go_wp2
          go_quiet (fail)
          have hbq := b_al (below_drewN hb nq) (.cells #[.int .i64 l[k' + 1].1, .int .i64 l[k' + 1].2] 30)
          have howq := Ow.alloc (how.drewN nq) (.cells #[.int .i64 l[k' + 1].1, .int .i64 l[k' + 1].2] 30)
          clear hq0
          go_wp2_with (at_builtin; refine wpList_append_pts _ rfl _ _ rfl w.heap.size (.slice As (Pl.compact (l.take (k' + 1))).length cs) _ rfl howq _ _ [l[k' + 1]] _ 1 rfl rfl (sl_one wr l[k' + 1]) (by simp; omega) (by simp; omega) ?_; intro v2 w2 how2 hg2 hat2)
          go_roundw
          case rel => exact ⟨k' + 1 + 1, by omega, by go_num, by rw [HC2.out]; exact how2, b_app hbq howq hg2⟩
          case measure => simp [intOf]; omega
    · obtain rfl : k = l.length := by omega
      rw [HTK.out] at how
      clear HTK hck
      by_cases h1 : (Pl.compact l).length = 1
      · obtain ⟨a, ha⟩ : ∃ a, Pl.compact l = [a] := by
          match Pl.compact l, h1 with
          | [a], _ => exact ⟨a, rfl⟩
        have HPa := Lib.hid (HP1.out a ha)
        rw [ha] at how
        clear ha h1 hcl HP1 HP2
        obtain ⟨As, cs, rfl, _, hss⟩ := how.shape
        obtain ⟨b, off, rfl, hbB, c1, c2⟩ := hss.at_ 0 (by simp)
        simp only [List.getElem_cons_zero, Nat.zero_mul, Nat.add_zero, List.length_singleton] at *
        have hbq := b_al hb (.cells #[.int .i64 a.1, .int .i64 a.2] 30)
        have howq := Ow.alloc how (.cells #[.int .i64 a.1, .int .i64 a.2] 30)
        have hbz := hb.size
        go_wp2_with (at_builtin; refine wpList_append_pts _ rfl _ _ rfl w.heap.size (.slice (some ⟨b, off, none⟩) 1 cs) [a] rfl howq _ _ [a] _ 1 rfl rfl (sl_one wr a) (by simp) (by simp; omega) ?_; intro v2 w2 how2 hg2 hat2)
        go_ret
        exact ⟨v2, rfl, by rw [HPa.out]; exact how2, b_app hbq howq hg2⟩
      · have HPa := Lib.hid (HP2.out h1)
        have h1' : (((Pl.compact l).length : Int) == 1) = false := by simp; omega
        clear HP1 HP2 h1
        generalize Pl.compact l = cl at *
        obtain ⟨As, cs, rfl, _, _⟩ := how.shape
        go_wp2
        go_ret
        exact ⟨_, rfl, by rw [HPa.out]; exact how, hb⟩

theorem rev_drop {l : List Pt} {k : Nat} (h : k < l.length) : (l.drop k).reverse = (l.drop (k + 1)).reverse ++ [l[k]] := by
  rw [List.drop_eq_getElem_cons h, List.reverse_cons]

set_option maxHeartbeats 1000000 in
theorem rreverse_any (A : Option Addr) (c : Nat) (l : List Pt) (w : World) (hl : Sl w w.heap.size A l) (hn : l.length ≤ 1000) :
    Calls Try.prog 27 #[.slice A l.length c] w (Fresh w l.reverse) := by
  have HR0 : Hid (l.reverse = (l.drop 0).reverse) := rfl
  generalize l.reverse = R at *
  go_enter Try.func27, Try.ntmps27
  go_wp2
  go_loopw [3, 4] (fun s3 s4 wr => ∃ k : Nat, k ≤ l.length ∧ s4 = .int .i64 ((k : Int) - 1) ∧ Ow wr w.heap.size s3 (l.drop k).reverse ∧ Below w.heap.size w wr) (fun _ s4 _ => (intOf s4 + 1).toNat)
  case atStart => exact ⟨l.length, by omega, rfl, by rw [List.drop_length]; exact Ow.nil _ _, Below.refl _ _⟩
  case round =>
    obtain ⟨k, hk, rfl, how, hb⟩ := hrel
    have hbz := hb.size
    rcases k with _ | k
    · obtain ⟨As, cs, rfl, _, _⟩ := how.shape
      go_wp2
      go_ret
      exact ⟨_, rfl, by rw [HR0.out]; exact how, hb⟩
    · obtain ⟨b, off, rfl, hbB, c1, c2⟩ := (hl.below hb).at_ k (by omega)
      have HD := Lib.hid (rev_drop (l := l) (k := k) (by omega))
      have hlen : (l.drop (k + 1)).reverse.length ≤ l.length := by simp
      generalize (l.drop (k + 1)).reverse = r1 at *
      obtain ⟨As, cs, rfl, _, _⟩ := how.shape
      have hbq := b_al hb (.cells #[.int .i64 l[k].1, .int .i64 l[k].2] 30)
      have howq := Ow.alloc how (.cells #[.int .i64 l[k].1, .int .i64 l[k].2] 30)
      go_wp2_with (at_builtin; refine wpList_append_pts _ rfl _ _ rfl w.heap.size (.slice As r1.length cs) r1 rfl howq _ _ [l[k]] _ 1 rfl rfl (sl_one wr l[k]) (by simp; omega) (by simp; omega) ?_; intro v2 w2 how2 hg2 hat2)
      go_roundw
      case rel => exact ⟨k, by omega, by go_num, by rw [HD.out]; exact how2, b_app hbq howq hg2⟩
      case measure => simp [intOf]
end Go.Proofs.Ytnmmbcgbijinpaa
