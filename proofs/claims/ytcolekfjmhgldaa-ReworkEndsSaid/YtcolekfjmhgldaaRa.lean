/- The reference: names, repeated elements. -/
import Derived.Test.YtcolekfjmhgldaaM
namespace Go.Proofs.Ytcolekfjmhgldaa
open Go.RowKit
open Pr (Opn)

theorem digit_any (c : Int) (b : Bool) (w : World) (hb : (decide (48 ≤ c) && decide (c ≤ 57)) = b) : Calls Try.prog 85 #[.int .u8 c] w fun e w' => e = .returned (.bool b) ∧ w = w' := by
  subst hb
  by_cases h1 : 48 ≤ c
  · by_cases h2 : c ≤ 57
    · go_enter Try.func85, Try.ntmps85
      go_wp2
      go_ret
      exact ⟨ret_bool (by rw [decide_eq_true h1, decide_eq_true h2]; rfl), rfl⟩
    · have h2' : decide (c ≤ 57) = false := decide_eq_false h2
      go_enter Try.func85, Try.ntmps85
      go_wp2
      go_ret
      exact ⟨rfl, rfl⟩
  · have h1' : decide (48 ≤ c) = false := decide_eq_false h1
    go_enter Try.func85, Try.ntmps85
    go_wp2
    go_ret
    exact ⟨rfl, rfl⟩

set_option maxHeartbeats 1000000 in
theorem rname_any (s : ByteArray) (w : World) (hs : s.size ≤ maxLen) : Calls Try.prog 70 #[.string s] w fun e w' => e = .returned (.bool (Pr.nameB s)) ∧ w = w' := by
  unfold maxLen at hs
  have hl : s.toList = s.data.toList := ByteArray.toList_eq s
  have hsz : s.data.toList.length = s.size := rfl
  by_cases h1 : s.data.toList = []
  · have HN := Lib.hid (nameB_empty h1)
    have g1 : s.toList = [] := hl.trans h1
    clear h1 hl hsz
    go_enter Try.func70, Try.ntmps70
    go_wp2
    go_ret
    exact ⟨ret_bool HN.out.symm, rfl⟩
  by_cases h2 : 24 < s.data.toList.length
  · have HN := Lib.hid (nameB_long h2)
    have g1 : ¬ s.toList = [] := by rw [hl]; exact h1
    have g2 : s.toList.isEmpty = false := by simpa using g1
    rw [hsz] at h2
    clear h1 hl hsz
    go_enter Try.func70, Try.ntmps70
    go_wp2
    go_ret
    exact ⟨ret_bool HN.out.symm, rfl⟩
  have g1 : ¬ s.toList = [] := by rw [hl]; exact h1
  have g2 : s.toList.isEmpty = false := by simpa using g1
  have k2 : s.size ≤ 24 := by rw [← hsz]; omega
  by_cases h3 : s.data.toList = [109, 105, 110]
  · have HN := Lib.hid (nameB_min h3)
    have g3 : s.toList = [109, 105, 110] := hl.trans h3
    clear h1 hl hsz h2 g1 g2 h3
    go_enter Try.func70, Try.ntmps70
    go_wp2
    go_ret
    exact ⟨ret_bool HN.out.symm, rfl⟩
  have g3 : ¬ s.toList = [109, 105, 110] := by rw [hl]; exact h3
  have g3' : (s.toList == [109, 105, 110]) = false := by simpa using g3
  by_cases h4 : s.data.toList = [109, 97, 120]
  · have HN := Lib.hid (nameB_max h4)
    have g4 : s.toList = [109, 97, 120] := hl.trans h4
    clear h1 hl hsz h2 g1 g2 h3 g3 g3' h4
    go_enter Try.func70, Try.ntmps70
    go_wp2
    go_ret
    exact ⟨ret_bool HN.out.symm, rfl⟩
  have g4 : ¬ s.toList = [109, 97, 120] := by rw [hl]; exact h4
  have g4' : (s.toList == [109, 97, 120]) = false := by simpa using g4
  have hN := nameB_chars h1 (by omega) h3 h4
  rw [hsz] at hN
  have HN := Lib.hid hN
  have HC := Lib.hid (fun k h => chars_bad (s := s.data.toList) (k := k) h)
  have HG : Hid (∀ k (h : k < s.size), (s.data.toList.getD k 0).toNat = s[k].toNat) := fun k h => by
    have e : s.data.toList[k]? = some s[k] := by rw [List.getElem?_eq_getElem (by rw [hsz]; exact h)]; rfl
    rw [List.getD_eq_getElem?_getD, e]; rfl
  have h0 : 0 < s.size := by
    rcases Nat.eq_zero_or_pos s.size with e | e
    · exact absurd (List.eq_nil_of_length_eq_zero (hsz.trans e)) h1
    · exact e
  have HE0 : Hid (Pr.charsB s.data.toList 1 = Pr.charB 0 (s[0].toNat : Int)) := by show _ = _; rw [Pr.charsB, HG.out 0 h0]; rfl
  clear h1 hl hsz h2 h3 h4 hN
  by_cases q0 : (97 ≤ (s[0].toNat : Int) ∧ (s[0].toNat : Int) ≤ 122)
  · obtain ⟨q1, q2⟩ := q0
    clear HE0
    go_enter Try.func70, Try.ntmps70
    go_wp2
    go_loopw [3] (fun i wr => ∃ k : Nat, k ≤ s.size ∧ i = .int .i64 k ∧ Hid (Pr.charsB s.data.toList k = true) ∧ w = wr) (fun i _ => s.size - (intOf i).toNat)
    case atStart => exact ⟨0, Nat.zero_le _, rfl, rfl, rfl⟩
    case round =>
      obtain ⟨k, hk, rfl, hch, hww⟩ := hrel
      subst hww
      by_cases hlt : k < s.size
      · have HE : Hid (Pr.charsB s.data.toList (k + 1) = Pr.charB k (s[k].toNat : Int)) := by show _ = _; rw [Pr.charsB, hch.out, HG.out k hlt]; rfl
        have hcl : (97 ≤ (s[k].toNat : Int) ∧ (s[k].toNat : Int) ≤ 122) ∨ (48 ≤ (s[k].toNat : Int) ∧ (s[k].toNat : Int) ≤ 57) ∨ (s[k].toNat : Int) = 95 ∨ (s[k].toNat : Int) < 48 ∨ (57 < (s[k].toNat : Int) ∧ (s[k].toNat : Int) < 97 ∧ ¬ (s[k].toNat : Int) = 95) ∨ 122 < (s[k].toNat : Int) := by omega
        have HB := HC.out k
        have hk0 : k = 0 → 97 ≤ (s[k].toNat : Int) ∧ (s[k].toNat : Int) ≤ 122 := by intro e; subst e; exact ⟨q1, q2⟩
        have HD := Lib.hid (fun (b : Bool) (hh : (decide (48 ≤ (s[k].toNat : Int)) && decide ((s[k].toNat : Int) ≤ 57)) = b) => digit_any (s[k].toNat : Int) b w hh)
        generalize hcc : (s[k].toNat : Int) = cc at *
        rcases hcl with ⟨p1, p2⟩ | ⟨p1, p2⟩ | p1 | p1 | ⟨p1, p2, p3⟩ | p1
        case inl =>
          have HV : Hid (Pr.charB k cc = true) := by show _ = _; unfold Pr.charB Pr.letterB Pr.furtherB; simp; omega
          have HD1 := Lib.hid (HD.out false (by simp; omega))
          have q0 : (cc == 95) = false := by simp; omega
          clear HD hk0 q1 q2
          go_wp2_with fail
          refine HD1.out.mono ?_
          rintro e w1 ⟨rfl, rfl⟩
          go_wp2
          go_roundw
          case rel => exact ⟨k + 1, by omega, by go_num, by show _ = _; rw [HE.out, HV.out], trivial⟩
          case measure => simp [intOf]; omega
        case inr.inl =>
          have hk1 : ¬ k = 0 := by intro e; have := hk0 e; omega
          have HV : Hid (Pr.charB k cc = true) := by show _ = _; unfold Pr.charB Pr.letterB Pr.furtherB; simp; omega
          have HD1 := Lib.hid (HD.out true (by simp; omega))
          clear HD hk0 q1 q2
          go_wp2_with fail
          refine HD1.out.mono ?_
          rintro e w1 ⟨rfl, rfl⟩
          go_wp2
          go_roundw
          case rel => exact ⟨k + 1, by omega, by go_num, by show _ = _; rw [HE.out, HV.out], trivial⟩
          case measure => simp [intOf]; omega
        case inr.inr.inl =>
          have hk1 : ¬ k = 0 := by intro e; have := hk0 e; omega
          have HV : Hid (Pr.charB k cc = true) := by show _ = _; unfold Pr.charB Pr.letterB Pr.furtherB; simp; omega
          have HD1 := Lib.hid (HD.out false (by simp; omega))
          subst p1
          clear HD hk0 q1 q2
          go_wp2_with fail
          refine HD1.out.mono ?_
          rintro e w1 ⟨rfl, rfl⟩
          go_wp2
          go_roundw
          case rel => exact ⟨k + 1, by omega, by go_num, by show _ = _; rw [HE.out, HV.out], trivial⟩
          case measure => simp [intOf]; omega
        all_goals
          have hk1 : ¬ k = 0 := by intro e; have := hk0 e; omega
          have HV : Hid (Pr.charB k cc = false) := by show _ = _; unfold Pr.charB Pr.letterB Pr.furtherB; simp; omega
          have HD1 := Lib.hid (HD.out false (by simp; omega))
          have q0 : (cc == 95) = false := by simp; omega
          have HF := Lib.hid (HB (HE.out.trans HV.out) s.size (by omega))
          have hc1 : cc < 97 ∨ ¬ cc < 97 ∧ 122 < cc := by omega
          clear HB HD hk0 q1 q2
          go_wp2_with fail
          refine HD1.out.mono ?_
          rintro e w1 ⟨rfl, rfl⟩
          rcases hc1 with h | ⟨h, h'⟩
          all_goals (go_wp2 <;> (go_ret; exact ⟨ret_bool (by rw [HN.out, HF.out]), rfl⟩))
      · obtain rfl : k = s.size := by omega
        go_wp2
        go_ret
        exact ⟨ret_bool (by rw [HN.out, hch.out]), rfl⟩
  · have HV : Hid (Pr.charB 0 (s[0].toNat : Int) = false) := by show _ = _; unfold Pr.charB Pr.letterB Pr.furtherB; simp; omega
    have HF := Lib.hid (HC.out 0 (HE0.out.trans HV.out) s.size (by omega))
    have q1 : (s[0].toNat : Int) < 97 ∨ (¬ (s[0].toNat : Int) < 97 ∧ 122 < (s[0].toNat : Int)) := by omega
    clear q0 HE0
    rcases q1 with q1 | ⟨q1, q2⟩
    all_goals
      go_enter Try.func70, Try.ntmps70
      go_wp2
      go_ret
      exact ⟨ret_bool (by rw [HN.out, HF.out]), rfl⟩

theorem nd_take {l : List Int} {k : Nat} {x : Int} (hx : l[k]? = some x) (h : (l.take k).Nodup) (hn : ¬ x ∈ l.take k) : (l.take (k + 1)).Nodup := nodup_take_succ hx h hn

set_option maxHeartbeats 1000000 in
theorem twice_any (A : Option Addr) (c : Nat) (l : List Int) (w : World) (ha : Si w w.heap.size A l) (hn : l.length ≤ 1000) (hc : l.length ≤ c) (hcm : c ≤ maxLen) :
    Calls Try.prog 72 #[.slice A l.length c] w fun e w' => e = .returned (.bool (!decide l.Nodup)) ∧ Below w.heap.size w w' := by
  unfold maxLen at hcm
  generalize hbb : (!decide l.Nodup) = bb
  have HB := Lib.hid hbb
  clear hbb
  go_enter Try.func72, Try.ntmps72
  go_wp2
  go_loopw [3] (fun i wr => ∃ k : Nat, k ≤ l.length ∧ i = .int .i64 k ∧ Hid ((l.take k).Nodup) ∧ Below w.heap.size w wr) (fun i _ => l.length - (intOf i).toNat)
  case atStart => exact ⟨0, Nat.zero_le _, rfl, by show List.Nodup _; simp, Below.refl _ _⟩
  case round =>
    obtain ⟨k, hk, rfl, hnd, hb⟩ := hrel
    have ha1 := (ha.below hb).more hb.size
    by_cases hlt : k < l.length
    · obtain ⟨x, hx⟩ := get_ex rfl hlt
      obtain ⟨b, off, rfl, h1, c1⟩ := si_get ha1 hx
      have htl : (l.take k).length = k := by rw [List.length_take]; omega
      have HQ := Lib.hid (fun m => (has_any (some ⟨b, off, none⟩) c (l.take k) x (wr.drewN m) ((ha1.take k).below (below_drewN (Below.refl _ _) m)) (by rw [htl]; omega)).mono (fun _ _ h => And.intro h.1 h.2.symm))
      rw [htl] at HQ
      have i1 : (0 : Int) ≤ (k : Int) := by omega
      have i2 : (k : Int) ≤ (c : Int) := by omega
      have i3 : (k : Int) < (l.length : Int) := by omega
      have i4 : k ≤ c := by omega
      have i5 : ¬ (c : Int) < (k : Int) := by omega
      have i6 : ¬ (k : Int) < 0 := by omega
      by_cases hm : x ∈ l.take k
      · have HR := Lib.hid (not_nodup hx hm)
        rw [decide_eq_true hm] at HQ
        clear hx hm
        go_wp2
        go_quiet ((go_at_call 61; refine Calls.quiet_of_same (HQ.out _)))
        go_wp2
        go_ret
        exact ⟨ret_bool (by rw [← HB.out, decide_eq_false HR.out]; rfl), below_drewN hb _⟩
      · have HN := Lib.hid (nodup_take_succ hx hnd.out hm)
        rw [decide_eq_false hm] at HQ
        clear hx hm
        go_wp2
        go_quiet ((go_at_call 61; refine Calls.quiet_of_same (HQ.out _)))
        go_wp2
        go_roundw
        case rel => exact ⟨k + 1, by omega, by go_num, HN, below_drewN hb _⟩
        case measure => simp [intOf]; omega
    · go_wp2
      go_ret
      have : l.take k = l := List.take_of_length_le (by omega)
      rw [this] at hnd
      exact ⟨ret_bool (by rw [← HB.out, decide_eq_true hnd.out]; rfl), hb⟩

/-- the lists of predecessors fit into their arrays -/
def Cap (w : World) (A : Option Addr) (n : Nat) : Prop := ∀ b off, A = some ⟨b, off, none⟩ → ∀ i, i < n → ∀ aA k aC, w.cell? ⟨b, off + i * 5 + 3, none⟩ = some (.slice aA k aC) → k ≤ aC ∧ aC ≤ maxLen
theorem Cap.to {w w' : World} {A : Option Addr} {l : List Opn} (h : Cap w A l.length) (hl : So w w.heap.size A l) (hb : Below w.heap.size w w') : Cap w' A l.length := by
  intro b off hA i hi aA k aC hc
  have hbb : b < w.heap.size := by
    rcases hl with rfl | ⟨b', off', h1, h2, _⟩
    · simp at hi
    · rw [h1] at hA
      injection hA with hA
      injection hA with hA
      omega
  refine h b off hA i hi aA k aC ?_
  rw [← hc]
  exact (hb.cell (p := ⟨b, off + i * 5 + 3, none⟩) hbb).symm
theorem Cap.at_ {w : World} {b off : Nat} {l : List Opn} (h : Cap w (some ⟨b, off, none⟩) l.length) {i : Nat} {x : Opn} (hi : l[i]? = some x) {aA : Option Addr} {aC : Nat} {uA : Option Addr} {uC : Nat} (ho : Opc w b (off + i * 5) x aA aC uA uC) : x.after.length ≤ aC ∧ aC ≤ maxLen :=
  h b off rfl i (List.getElem?_eq_some_iff.1 hi).1 aA _ aC ho.c3

set_option maxRecDepth 100000 in
set_option maxHeartbeats 4000000 in
theorem single_any (A : Option Addr) (c : Nat) (l : List Opn) (w : World) (hl : So w w.heap.size A l) (hk : Oks l) (hcap : Cap w A l.length) :
    Calls Try.prog 60 #[.slice A l.length c, .int .i64 (-1)] w fun e w' => e = .returned (.int .i64 (if 16 < l.length then 5 else Pr.singleE l)) ∧ Below w.heap.size w w' := by
  have hlen := hk.len
  by_cases h16 : 16 < l.length
  · have h16' : (16 : Int) < (l.length : Int) := by omega
    rw [if_pos h16]
    go_enter Try.func60, Try.ntmps60
    go_wp2
    go_ret
    exact ⟨rfl, Below.refl _ _⟩
  · have h16' : ¬ (16 : Int) < (l.length : Int) := by omega
    rw [if_neg h16]
    go_enter Try.func60, Try.ntmps60
    go_wp2
    go_loopw [5] (fun s5 wr => ∃ k : Nat, k ≤ l.length ∧ s5 = .int .i64 k ∧ Hid (Pr.errFrom l (l.length - k) k = Pr.singleE l) ∧ Below w.heap.size w wr) (fun s5 _ => l.length - (intOf s5).toNat)
    case atStart => exact ⟨0, Nat.zero_le _, rfl, rfl, Below.refl _ _⟩
    case round =>
      obtain ⟨k, hk1, rfl, hS, hb⟩ := hrel
      by_cases hlt : k < l.length
      · obtain ⟨r, hr⟩ : ∃ r, l.length - k = r + 1 := ⟨l.length - k - 1, by omega⟩
        have HFin : Hid (Pr.err1 l k ≠ 0 → Pr.singleE l = Pr.err1 l k) := fun h => by rw [← hS.out, hr, errFrom_not h]
        have HNext : Hid (Pr.err1 l k = 0 → Pr.errFrom l (l.length - (k + 1)) (k + 1) = Pr.singleE l) := fun h => by rw [← hS.out, hr, errFrom_zero h, show l.length - (k + 1) = r by omega]
        obtain ⟨o, ho⟩ : ∃ o, l[k]? = some o := ⟨_, List.getElem?_eq_getElem hlt⟩
        have hom : o ∈ l := List.mem_of_getElem? ho
        have hcw := hcap.to hl hb
        have hlw := hl.to hb
        obtain ⟨b, off, aA, aC, uA, uC, rfl, hbB, hop, hsa⟩ := hlw.get ho
        obtain ⟨hc1, hc2⟩ := hcw.at_ ho hop
        have hE := err1_at ho
        have hnm := hk.name o hom
        have haf := hk.aft o hom
        have HNm := Lib.hid (fun W => rname_any o.name W hnm)
        generalize Pr.err1 l k = R at *
        clear hS hr ho hcap hcw
        have hB0 := b_new wr (.cells #[.string o.name, .int .i64 o.machine, .int .i64 o.minutes, .slice aA o.after.length aC, .slice uA o.uses uC] 27)
        have hB1 := b_tr hb hB0
        have hn5 := new5 wr o aA aC uA uC
        have hsa1 := (hsa.below hB0).more hB0.size
        have hlw1 := hlw.to hB0
        obtain ⟨p0, p1, p2, p3, p4⟩ := hop
        obtain ⟨q0, q1, q2, q3, q4⟩ := hn5
        cases hnb : Pr.nameB o.name with
        | false =>
          rw [hnb, if_pos rfl] at hE
          rw [hnb] at HNm
          have HE : Hid (Pr.singleE l = 1) := by show _ = _; rw [HFin.out (by rw [hE]; decide), hE]
          clear hnb hE HFin HNext
          go_wp2_with fail
          refine (HNm.out _).mono ?_
          rintro e w1 ⟨rfl, rfl⟩
          go_wp2
          go_ret
          exact ⟨ret_int HE.out.symm, hB1⟩
        | true =>
          rw [hnb, if_neg (by simp)] at hE
          rw [hnb] at HNm
          have HE := Lib.hid hE
          clear hnb hE
          go_wp2_with fail
          refine (HNm.out _).mono ?_
          rintro e w1 ⟨rfl, rfl⟩
          go_wp2
          clear HNm
          generalize wr.alloc (.cells #[.string o.name, .int .i64 o.machine, .int .i64 o.minutes, .slice aA o.after.length aC, .slice uA o.uses uC] 27) = W1 at *
          generalize wr.heap.size = g at *
          go_loopw [7] (fun s7 wr2 => ∃ j : Nat, j ≤ k ∧ s7 = .int .i64 j ∧ Hid ((l.take j).any (fun e => decide (e.name = o.name)) = false) ∧ ∃ n, wr2 = W1.drewN n) (fun s7 _ => k - (intOf s7).toNat)
          case atStart => exact ⟨0, Nat.zero_le _, rfl, rfl, 0, rfl⟩
          case round =>
            obtain ⟨j, hj, rfl, hany, n, rfl⟩ := hrel
            by_cases hjk : j < k
            · obtain ⟨x, hx⟩ : ∃ x, l[j]? = some x := ⟨_, List.getElem?_eq_getElem (by omega)⟩
              obtain ⟨b', off', xA, xC, yA, yC, he, _, hxc, _⟩ := hlw1.get hx
              obtain ⟨rfl, rfl⟩ : b = b' ∧ off = off' := by
                have := Option.some.inj he
                simp only [Addr.mk.injEq, and_true] at this
                exact this
              have HA1 := Lib.hid (any_name_succ (fun e => decide (e.name = o.name)) hx)
              have HA2 := Lib.hid (any_name_at (fun e => decide (e.name = o.name)) hx hjk)
              have hq := name_eq x.name o.name
              obtain ⟨x0, x1, x2, x3, x4⟩ := hxc
              clear hx he
              cases hqq : decide (x.name = o.name) with
              | true =>
                rw [hqq] at hq
                have HT := Lib.hid (HA2.out hqq)
                have HE2 : Hid (Pr.singleE l = 7) := by show _ = _; have hR : R = 7 := by rw [HE.out, if_pos HT.out]
                                                        rw [HFin.out (by rw [hR]; decide), hR]
                clear HA1 HA2 hqq HE
                go_wp2
                go_quiet (fail)
                go_wp2
                go_ret
                exact ⟨ret_int HE2.out.symm, below_drewN (below_drewN hB1 _) _⟩
              | false =>
                rw [hqq] at hq
                have HT : Hid ((l.take (j + 1)).any (fun e => decide (e.name = o.name)) = false) := by show _ = _; rw [HA1.out, hany.out, hqq]; rfl
                clear HA1 HA2 hqq
                go_wp2
                go_quiet (fail)
                go_wp2
                go_roundw
                case rel => exact ⟨j + 1, by omega, by go_num, HT, _, rfl⟩
                case measure => simp [intOf]; omega
            · obtain rfl : j = k := by omega
              have HE2 : Hid (R = if o.machine < 0 ∨ 8 ≤ o.machine ∨ o.minutes < 1 ∨ 10000 < o.minutes then 3 else if o.after.all (Pr.inB l.length) = false then 3 else if o.after.Nodup then 0 else 7) := by
                show _ = _
                rw [HE.out, hany.out, if_neg (by simp)]
              clear HE hany hjk hj
              have hB2 := fun m => below_drewN hB1 m
              have hsa2 : ∀ m, Si (W1.drewN m) (W1.drewN m).heap.size aA o.after := fun m => hsa1.below (below_drewN (Below.refl _ _) m)
              have HI := Lib.hid (fun m => within_any aA aC l.length o.after (W1.drewN m) (hsa2 m) (by omega))
              have HR := Lib.hid (fun m => twice_any aA aC o.after (W1.drewN m) (hsa2 m) haf hc1 hc2)
              by_cases g : o.machine < 0 ∨ 8 ≤ o.machine ∨ o.minutes < 1 ∨ 10000 < o.minutes
              · have HE3 : Hid (Pr.singleE l = 3) := by show _ = _; have hR : R = 3 := by rw [HE2.out, if_pos g]
                                                        rw [HFin.out (by rw [hR]; decide), hR]
                clear HE2 HI HR
                have g' : o.machine < 0 ∨ (0 ≤ o.machine ∧ 8 ≤ o.machine) ∨ (0 ≤ o.machine ∧ o.machine < 8 ∧ o.minutes < 1) ∨ (0 ≤ o.machine ∧ o.machine < 8 ∧ 1 ≤ o.minutes ∧ 10000 < o.minutes) := by omega
                clear g
                rcases g' with g | ⟨g1, g2⟩ | ⟨g1, g2, g3⟩ | ⟨g1, g2, g3, g4⟩
                all_goals
                  go_wp2
                  go_ret
                  exact ⟨ret_int HE3.out.symm, hB2 _⟩
              · have HE3 : Hid (R = if o.after.all (Pr.inB l.length) = false then 3 else if o.after.Nodup then 0 else 7) := by show _ = _; rw [HE2.out, if_neg g]
                have g1 : 0 ≤ o.machine := by omega
                have g2 : o.machine < 8 := by omega
                have g3 : 1 ≤ o.minutes := by omega
                have g4 : o.minutes ≤ 10000 := by omega
                clear HE2 g
                cases hal : o.after.all (Pr.inB l.length) with
                | false =>
                  rw [hal] at HI
                  have HE4 : Hid (Pr.singleE l = 3) := by show _ = _; have hR : R = 3 := by rw [HE3.out, if_pos hal]
                                                          rw [HFin.out (by rw [hR]; decide), hR]
                  clear HE3 hal HR
                  go_wp2_with fail
                  refine (HI.out _).mono ?_
                  rintro e w1 ⟨rfl, rfl⟩
                  go_wp2
                  go_ret
                  exact ⟨ret_int HE4.out.symm, hB2 _⟩
                | true =>
                  rw [hal] at HI
                  have HE4 : Hid (R = if o.after.Nodup then 0 else 7) := by show _ = _; rw [HE3.out, if_neg (by rw [hal]; simp)]
                  clear HE3 hal
                  cases hnd : decide o.after.Nodup with
                  | true =>
                    rw [hnd] at HR
                    have HE5 : Hid (Pr.errFrom l (l.length - (j + 1)) (j + 1) = Pr.singleE l) := HNext.out (by rw [HE4.out, if_pos (of_decide_eq_true hnd)])
                    clear HE4 hnd
                    go_wp2_with fail
                    refine (HI.out _).mono ?_
                    rintro e w1 ⟨rfl, rfl⟩
                    go_wp2_with fail
                    refine (HR.out _).mono ?_
                    rintro e w2 ⟨rfl, hb2⟩
                    go_wp2
                    go_roundw
                    case rel => exact ⟨j + 1, by omega, by go_num, HE5, b_tr (hB2 _) hb2⟩
                    case measure => simp [intOf]; omega
                  | false =>
                    rw [hnd] at HR
                    have HE5 : Hid (Pr.singleE l = 7) := by show _ = _; have hR : R = 7 := by rw [HE4.out, if_neg (of_decide_eq_false hnd)]
                                                            rw [HFin.out (by rw [hR]; decide), hR]
                    clear HE4 hnd
                    go_wp2_with fail
                    refine (HI.out _).mono ?_
                    rintro e w1 ⟨rfl, rfl⟩
                    go_wp2_with fail
                    refine (HR.out _).mono ?_
                    rintro e w2 ⟨rfl, hb2⟩
                    go_wp2
                    go_ret
                    exact ⟨ret_int HE5.out.symm, b_tr (hB2 _) hb2⟩
      · obtain rfl : k = l.length := by omega
        have HS : Hid (Pr.singleE l = 0) := by show _ = _; rw [← hS.out, Nat.sub_self]; rfl
        clear hS hlt hk1
        go_wp2
        go_ret
        exact ⟨ret_int HS.out.symm, hb⟩
end Go.Proofs.Ytcolekfjmhgldaa
