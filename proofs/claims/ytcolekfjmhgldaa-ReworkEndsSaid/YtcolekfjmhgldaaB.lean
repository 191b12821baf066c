/- Names; searches in slices of ints. -/
import Derived.Test.YtcolekfjmhgldaaA
import Derived.Test.YtcolekfjmhgldaaPlain
namespace Go.Proofs.Ytcolekfjmhgldaa
open Go.RowKit
open Pr (Opn)

theorem nameB_empty {s : ByteArray} (h : s.data.toList = []) : Pr.nameB s = false := by unfold Pr.nameB; rw [h]; rfl
theorem nameB_long {s : ByteArray} (h : 24 < s.data.toList.length) : Pr.nameB s = false := by
  unfold Pr.nameB
  rw [decide_eq_false (p := s.data.toList.length ≤ 24) (by omega)]
  simp
theorem nameB_min {s : ByteArray} (h : s.data.toList = [109, 105, 110]) : Pr.nameB s = false := by unfold Pr.nameB; rw [h]; rfl
theorem nameB_max {s : ByteArray} (h : s.data.toList = [109, 97, 120]) : Pr.nameB s = false := by unfold Pr.nameB; rw [h]; rfl
theorem nameB_chars {s : ByteArray} (h1 : ¬ s.data.toList = []) (h2 : s.data.toList.length ≤ 24) (h3 : ¬ s.data.toList = [109, 105, 110]) (h4 : ¬ s.data.toList = [109, 97, 120]) : Pr.nameB s = Pr.charsB s.data.toList s.data.toList.length := by
  unfold Pr.nameB
  rw [decide_eq_true h1, decide_eq_true h2, decide_eq_true h3, decide_eq_true h4]
  rfl
theorem chars_bad {s : List UInt8} {k : Nat} (h : Pr.charsB s (k + 1) = false) : ∀ n, k + 1 ≤ n → Pr.charsB s n = false
  | 0, hn => by omega
  | n + 1, hn => by
    rcases Nat.lt_or_ge k n with h1 | h1
    · rw [Pr.charsB, chars_bad h n (by omega)]; rfl
    · obtain rfl : k = n := by omega
      exact h

set_option maxHeartbeats 1000000 in
theorem isName_any (s : ByteArray) (w : World) (hs : s.size ≤ maxLen) : Calls Try.prog 58 #[.string s] w fun e w' => e = .returned (.bool (Pr.nameB s)) ∧ w = w' := by
  unfold maxLen at hs
  have hl : s.toList = s.data.toList := ByteArray.toList_eq s
  have hsz : s.data.toList.length = s.size := rfl
  by_cases h1 : s.data.toList = []
  · have HN := Lib.hid (nameB_empty h1)
    have g1 : s.toList = [] := hl.trans h1
    clear h1 hl hsz
    go_enter Try.func58, Try.ntmps58
    go_wp2
    go_ret
    exact ⟨ret_bool HN.out.symm, rfl⟩
  by_cases h2 : 24 < s.data.toList.length
  · have HN := Lib.hid (nameB_long h2)
    have g1 : ¬ s.toList = [] := by rw [hl]; exact h1
    have g2 : s.toList.isEmpty = false := by simpa using g1
    rw [hsz] at h2
    clear h1 hl hsz
    go_enter Try.func58, Try.ntmps58
    go_wp2
    go_ret
    exact ⟨ret_bool HN.out.symm, rfl⟩
  have g1 : ¬ s.toList = [] := by rw [hl]; exact h1
  have g2 : s.toList.isEmpty = false := by simpa using g1
  have k2 : s.size ≤ 24 := by rw [← hsz]; omega
  by_cases h3 : s.data.toList = [109, 105, 110]
  · have HN := Lib.hid (nameB_min h3)
    have g3 : s.toList = [109, 105, 110] := hl.trans h3
    clear h1 hl hsz h2 g1 g2 h3
    go_enter Try.func58, Try.ntmps58
    go_wp2
    go_ret
    exact ⟨ret_bool HN.out.symm, rfl⟩
  have g3 : ¬ s.toList = [109, 105, 110] := by rw [hl]; exact h3
  have g3' : (s.toList == [109, 105, 110]) = false := by simpa using g3
  by_cases h4 : s.data.toList = [109, 97, 120]
  · have HN := Lib.hid (nameB_max h4)
    have g4 : s.toList = [109, 97, 120] := hl.trans h4
    clear h1 hl hsz h2 g1 g2 h3 g3 g3' h4
    go_enter Try.func58, Try.ntmps58
    go_wp2
    go_ret
    exact ⟨ret_bool HN.out.symm, rfl⟩
  have g4 : ¬ s.toList = [109, 97, 120] := by rw [hl]; exact h4
  have g4' : (s.toList == [109, 97, 120]) = false := by simpa using g4
  have hN := nameB_chars h1 (by omega) h3 h4
  rw [hsz] at hN
  have HN := Lib.hid hN
  have HC := Lib.hid (fun k h => chars_bad (s := s.data.toList) (k := k) h)
  have HG : Hid (∀ k (h : k < s.size), (s.data.toList.getD k 0).toNat = s[k].toNat) := fun k h => by
    have e : s.data.toList[k]? = some s[k] := by rw [List.getElem?_eq_getElem (by rw [hsz]; exact h)]; rfl
    rw [List.getD_eq_getElem?_getD, e]; rfl
  clear h1 hl hsz h2 h3 h4 hN
  go_enter Try.func58, Try.ntmps58
  go_wp2
  go_loop [23] (fun i => ∃ k : Nat, k ≤ s.size ∧ i = .int .i64 k ∧ Hid (Pr.charsB s.data.toList k = true)) (fun i => s.size - (intOf i).toNat)
  case atStart => exact ⟨0, Nat.zero_le _, rfl, rfl⟩
  case round =>
    obtain ⟨k, hk, rfl, hch⟩ := hrel
    by_cases hlt : k < s.size
    · have HE : Hid (Pr.charsB s.data.toList (k + 1) = Pr.charB k (s[k].toNat : Int)) := by show _ = _; rw [Pr.charsB, hch.out, HG.out k hlt]; rfl
      have hcl : (97 ≤ (s[k].toNat : Int) ∧ (s[k].toNat : Int) ≤ 122) ∨ (48 ≤ (s[k].toNat : Int) ∧ (s[k].toNat : Int) ≤ 57) ∨ (s[k].toNat : Int) = 95 ∨ (s[k].toNat : Int) < 48 ∨ (57 < (s[k].toNat : Int) ∧ (s[k].toNat : Int) < 97 ∧ ¬ (s[k].toNat : Int) = 95) ∨ 122 < (s[k].toNat : Int) := by omega
      have HB := HC.out k
      rcases Nat.eq_zero_or_pos k with hk0 | hk0
      · subst hk0
        rcases hcl with ⟨q1, q2⟩ | ⟨q1, q2⟩ | q1 | q1 | ⟨q1, q2, q3⟩ | q1
        case inl =>
          have HV : Hid (Pr.charB 0 (s[0].toNat : Int) = true) := by show _ = _; unfold Pr.charB Pr.letterB Pr.furtherB; simp; omega
          go_wp2
          go_round
          case rel => exact ⟨1, by omega, rfl, by show _ = _; rw [HE.out, HV.out]⟩
          case measure => simp [intOf]; omega
        all_goals
          have HV : Hid (Pr.charB 0 (s[0].toNat : Int) = false) := by show _ = _; unfold Pr.charB Pr.letterB Pr.furtherB; simp; omega
          have HF := Lib.hid (HB (HE.out.trans HV.out) s.size (by omega))
          clear HB
          try have b1 : decide ((s[0].toNat : Int) ≤ 122) = false := by simp; omega
          try have b2 : decide ((s[0].toNat : Int) ≤ 57) = false := by simp; omega
          go_wp2
          all_goals
            go_ret
            exact ⟨ret_bool (by rw [HN.out, HF.out]), rfl⟩
      · have hkb : ((k : Int) == 0) = false := by simp; omega
        have hk1 : ¬ k = 0 := by omega
        rcases hcl with ⟨q1, q2⟩ | ⟨q1, q2⟩ | q1 | q1 | ⟨q1, q2, q3⟩ | q1
        case inl =>
          have HV : Hid (Pr.charB k (s[k].toNat : Int) = true) := by show _ = _; unfold Pr.charB Pr.letterB Pr.furtherB; simp; omega
          go_wp2
          go_round
          case rel => exact ⟨k + 1, by omega, by go_num, by show _ = _; rw [HE.out, HV.out]⟩
          case measure => simp [intOf]; omega
        case inr.inl =>
          have HV : Hid (Pr.charB k (s[k].toNat : Int) = true) := by show _ = _; unfold Pr.charB Pr.letterB Pr.furtherB; simp; omega
          go_wp2
          go_round
          case rel => exact ⟨k + 1, by omega, by go_num, by show _ = _; rw [HE.out, HV.out]⟩
          case measure => simp [intOf]; omega
        case inr.inr.inl =>
          have HV : Hid (Pr.charB k (s[k].toNat : Int) = true) := by show _ = _; unfold Pr.charB Pr.letterB Pr.furtherB; simp; omega
          have q0 : ((s[k].toNat : Int) == 95) = true := by rw [q1]; rfl
          have q2 : 57 < (s[k].toNat : Int) := by omega
          have q3 : (s[k].toNat : Int) < 97 := by omega
          have q4 : 48 ≤ (s[k].toNat : Int) := by omega
          clear q1
          go_wp2
          go_round
          case rel => exact ⟨k + 1, by omega, by go_num, by show _ = _; rw [HE.out, HV.out]⟩
          case measure => simp [intOf]; omega
        all_goals
          have HV : Hid (Pr.charB k (s[k].toNat : Int) = false) := by show _ = _; unfold Pr.charB Pr.letterB Pr.furtherB; simp; omega
          have q0 : ((s[k].toNat : Int) == 95) = false := by simp; omega
          have HF := Lib.hid (HB (HE.out.trans HV.out) s.size (by omega))
          clear HB
          try have b1 : decide ((s[k].toNat : Int) ≤ 122) = false := by simp; omega
          try have b2 : decide ((s[k].toNat : Int) ≤ 57) = false := by simp; omega
          go_wp2
          all_goals
            go_ret
            exact ⟨ret_bool (by rw [HN.out, HF.out]), rfl⟩
    · obtain rfl : k = s.size := by omega
      go_wp2
      go_ret
      exact ⟨ret_bool (by rw [HN.out, hch.out]), rfl⟩
end Go.Proofs.Ytcolekfjmhgldaa
