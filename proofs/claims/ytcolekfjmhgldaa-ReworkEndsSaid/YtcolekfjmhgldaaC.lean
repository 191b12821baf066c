/- Searches in slices of ints, comparisons, Clone, Sort, Delete. -/
import Derived.Test.YtcolekfjmhgldaaB
import Derived.Test.YtcolekfjmhgldaaShelf
namespace Go.Proofs.Ytcolekfjmhgldaa
open Go.RowKit
open Pr (Opn)

theorem si_get {w : World} {B : Nat} {A : Option Addr} {l : List Int} (h : Si w B A l) {i : Nat} {x : Int} (hi : l[i]? = some x) : ∃ b off, A = some ⟨b, off, none⟩ ∧ b < B ∧ w.cell? ⟨b, off + i, none⟩ = some (.int .i64 x) := by
  obtain ⟨h1, h2⟩ := List.getElem?_eq_some_iff.1 hi
  subst h2
  exact h.at_ i h1
theorem si_get' {w : World} {B b off : Nat} {l : List Int} (h : Si w B (some ⟨b, off, none⟩) l) {i : Nat} {x : Int} (hi : l[i]? = some x) : w.cell? ⟨b, off + i, none⟩ = some (.int .i64 x) := by
  obtain ⟨b', off', he, _, hc⟩ := si_get h hi
  obtain ⟨rfl, rfl⟩ : b = b' ∧ off = off' := by
    have := Option.some.inj he
    simp only [Addr.mk.injEq, and_true] at this
    exact this
  exact hc

/-- the place of x, or -1 -/
def idx (l : List Int) (x : Int) : Int := if x ∈ l then (l.idxOf x : Nat) else -1
theorem idx_found {l : List Int} {x : Int} {k : Nat} (hk : l[k]? = some x) (hn : ¬ x ∈ l.take k) : idx l x = k := by
  obtain ⟨h1, h2⟩ := List.getElem?_eq_some_iff.1 hk
  have hm : x ∈ l := by rw [← h2]; exact List.getElem_mem h1
  unfold idx
  rw [if_pos hm]
  have e : l = l.take k ++ x :: l.drop (k + 1) := by
    conv => lhs; rw [← List.take_append_drop k l, List.drop_eq_getElem_cons h1, h2]
  rw [e, List.idxOf_append, if_neg hn, List.idxOf_cons_self, List.length_take]
  omega
theorem idx_none {l : List Int} {x : Int} (hn : ¬ x ∈ l) : idx l x = -1 := by unfold idx; rw [if_neg hn]

set_option maxHeartbeats 400000 in
theorem index_any (A : Option Addr) (c : Nat) (l : List Int) (x : Int) (w : World) (ha : Si w w.heap.size A l) (hn : l.length ≤ 65536) :
    Calls Try.prog 50 #[.slice A l.length c, .int .i64 x] w fun e w' => e = .returned (.int .i64 (idx l x)) ∧ w = w' := by
  have HF := Lib.hid (fun k (h : l[k]? = some x) h2 => idx_found h h2)
  have HN := Lib.hid (fun h : ¬ x ∈ l => idx_none h)
  generalize idx l x = R at *
  go_enter Try.func50, Try.ntmps50
  go_wp2
  go_loop [8] (fun i => ∃ k : Nat, k ≤ l.length ∧ i = .int .i64 k ∧ Hid (¬ x ∈ l.take k)) (fun i => l.length - (intOf i).toNat)
  case atStart => exact ⟨0, Nat.zero_le _, rfl, by show ¬ _; simp⟩
  case round =>
    obtain ⟨k, hk, rfl, hm⟩ := hrel
    by_cases hlt : k < l.length
    · obtain ⟨y, hy⟩ := get_ex rfl hlt
      obtain ⟨b, off, rfl, h1, c1⟩ := si_get ha hy
      by_cases hx : x = y
      · subst hx
        have HR := Lib.hid (HF.out k hy hm.out)
        clear hy
        go_wp2
        go_ret
        exact ⟨ret_int HR.out.symm, rfl⟩
      · have HS : Hid (¬ x ∈ l.take (k + 1)) := by
          show ¬ _
          obtain ⟨e1, e2⟩ := List.getElem?_eq_some_iff.1 hy
          rw [mem_take_succ l k e1 x, e2]
          rintro (h | h)
          · exact hm.out h
          · exact hx h
        have hx' : (x == y) = false := by simpa using hx
        clear hx hy
        go_wp2
        go_round
        case rel => exact ⟨k + 1, by omega, by go_num, HS⟩
        case measure => simp [intOf]; omega
    · go_wp2
      go_ret
      have : l.take k = l := List.take_of_length_le (by omega)
      rw [this] at hm
      exact ⟨ret_int (HN.out hm.out).symm, rfl⟩

theorem idx_ge (l : List Int) (x : Int) : decide (0 ≤ idx l x) = decide (x ∈ l) := by
  unfold idx
  by_cases h : x ∈ l
  · rw [if_pos h, decide_eq_true h, decide_eq_true (by omega)]
  · rw [if_neg h, decide_eq_false h]; rfl

set_option maxHeartbeats 400000 in
theorem contains_any (A : Option Addr) (c : Nat) (l : List Int) (x : Int) (w : World) (ha : Si w w.heap.size A l) (hn : l.length ≤ 65536) :
    Calls Try.prog 48 #[.slice A l.length c, .int .i64 x] w fun e w' => e = .returned (.bool (decide (x ∈ l))) ∧ w = w' := by
  have HI := Lib.hid (index_any A c l x w ha hn)
  have hg := idx_ge l x
  generalize decide (x ∈ l) = bb at *
  generalize idx l x = R at *
  go_enter Try.func48, Try.ntmps48
  go_wp2_with fail
  refine HI.out.mono ?_
  rintro e w' ⟨rfl, rfl⟩
  go_wp2
  go_ret
  exact ⟨rfl, rfl⟩

set_option maxHeartbeats 400000 in
theorem has_any (A : Option Addr) (c : Nat) (l : List Int) (x : Int) (w : World) (ha : Si w w.heap.size A l) (hn : l.length ≤ 65536) :
    Calls Try.prog 61 #[.slice A l.length c, .int .i64 x] w fun e w' => e = .returned (.bool (decide (x ∈ l))) ∧ w = w' := by
  generalize hbb : decide (x ∈ l) = bb
  have HB := Lib.hid hbb
  clear hbb
  go_enter Try.func61, Try.ntmps61
  go_wp2
  go_loop [5] (fun i => ∃ k : Nat, k ≤ l.length ∧ i = .int .i64 k ∧ Hid (¬ x ∈ l.take k)) (fun i => l.length - (intOf i).toNat)
  case atStart => exact ⟨0, Nat.zero_le _, rfl, by show ¬ _; simp⟩
  case round =>
    obtain ⟨k, hk, rfl, hm⟩ := hrel
    by_cases hlt : k < l.length
    · obtain ⟨y, hy⟩ := get_ex rfl hlt
      obtain ⟨b, off, rfl, h1, c1⟩ := si_get ha hy
      by_cases hx : y = x
      · subst hx
        have HS : Hid (y ∈ l) := List.mem_of_getElem? hy
        clear hy
        go_wp2
        go_ret
        exact ⟨ret_bool (by rw [← HB.out]; exact (decide_eq_true HS.out).symm), rfl⟩
      · have HS : Hid (¬ x ∈ l.take (k + 1)) := by
          show ¬ _
          obtain ⟨e1, e2⟩ := List.getElem?_eq_some_iff.1 hy
          rw [mem_take_succ l k e1 x, e2]
          rintro (h | h)
          · exact hm.out h
          · exact hx h.symm
        have hx' : (y == x) = false := by simpa using hx
        clear hx hy
        go_wp2
        go_round
        case rel => exact ⟨k + 1, by omega, by go_num, HS⟩
        case measure => simp [intOf]; omega
    · go_wp2
      go_ret
      have : l.take k = l := List.take_of_length_le (by omega)
      rw [this] at hm
      exact ⟨ret_bool (by rw [← HB.out]; exact (decide_eq_false hm.out).symm), rfl⟩
set_option maxHeartbeats 400000 in
theorem in_any (A : Option Addr) (c : Nat) (l : List Int) (x : Int) (w : World) (ha : Si w w.heap.size A l) (hn : l.length ≤ 65536) :
    Calls Try.prog 55 #[.slice A l.length c, .int .i64 x] w fun e w' => e = .returned (.bool (decide (x ∈ l))) ∧ w = w' := by
  generalize hbb : decide (x ∈ l) = bb
  have HB := Lib.hid hbb
  clear hbb
  go_enter Try.func55, Try.ntmps55
  go_wp2
  go_loop [5] (fun i => ∃ k : Nat, k ≤ l.length ∧ i = .int .i64 k ∧ Hid (¬ x ∈ l.take k)) (fun i => l.length - (intOf i).toNat)
  case atStart => exact ⟨0, Nat.zero_le _, rfl, by show ¬ _; simp⟩
  case round =>
    obtain ⟨k, hk, rfl, hm⟩ := hrel
    by_cases hlt : k < l.length
    · obtain ⟨y, hy⟩ := get_ex rfl hlt
      obtain ⟨b, off, rfl, h1, c1⟩ := si_get ha hy
      by_cases hx : y = x
      · subst hx
        have HS : Hid (y ∈ l) := List.mem_of_getElem? hy
        clear hy
        go_wp2
        go_ret
        exact ⟨ret_bool (by rw [← HB.out]; exact (decide_eq_true HS.out).symm), rfl⟩
      · have HS : Hid (¬ x ∈ l.take (k + 1)) := by
          show ¬ _
          obtain ⟨e1, e2⟩ := List.getElem?_eq_some_iff.1 hy
          rw [mem_take_succ l k e1 x, e2]
          rintro (h | h)
          · exact hm.out h
          · exact hx h.symm
        have hx' : (y == x) = false := by simpa using hx
        clear hx hy
        go_wp2
        go_round
        case rel => exact ⟨k + 1, by omega, by go_num, HS⟩
        case measure => simp [intOf]; omega
    · go_wp2
      go_ret
      have : l.take k = l := List.take_of_length_le (by omega)
      rw [this] at hm
      exact ⟨ret_bool (by rw [← HB.out]; exact (decide_eq_false hm.out).symm), rfl⟩
theorem all_take_succ (f : Int → Bool) {l : List Int} {k : Nat} {x : Int} (hk : l[k]? = some x) : (l.take (k + 1)).all f = ((l.take k).all f && f x) := by
  obtain ⟨h1, h2⟩ := List.getElem?_eq_some_iff.1 hk
  rw [List.take_succ_eq_append_getElem h1, List.all_append, h2]
  simp
theorem all_bad (f : Int → Bool) {l : List Int} {k : Nat} {x : Int} (hk : l[k]? = some x) (h : f x = false) : l.all f = false := by
  cases e : l.all f
  · rfl
  · have := List.all_eq_true.1 e x (List.mem_of_getElem? hk)
    rw [h] at this
    cases this

set_option maxHeartbeats 400000 in
theorem areIndices_any (A : Option Addr) (c m : Nat) (l : List Int) (w : World) (ha : Si w w.heap.size A l) (hn : l.length ≤ 65536) :
    Calls Try.prog 28 #[.slice A l.length c, .int .i64 (m : Int)] w fun e w' => e = .returned (.bool (l.all (Pr.inB m))) ∧ w = w' := by
  generalize hbb : l.all (Pr.inB m) = bb
  have HB := Lib.hid hbb
  clear hbb
  go_enter Try.func28, Try.ntmps28
  go_wp2
  go_loop [9] (fun i => ∃ k : Nat, k ≤ l.length ∧ i = .int .i64 k ∧ Hid ((l.take k).all (Pr.inB m) = true)) (fun i => l.length - (intOf i).toNat)
  case atStart => exact ⟨0, Nat.zero_le _, rfl, rfl⟩
  case round =>
    obtain ⟨k, hk, rfl, hm⟩ := hrel
    by_cases hlt : k < l.length
    · obtain ⟨y, hy⟩ := get_ex rfl hlt
      obtain ⟨b, off, rfl, h1, c1⟩ := si_get ha hy
      have HS := Lib.hid (all_take_succ (Pr.inB m) hy)
      have HT := Lib.hid (fun h => all_bad (Pr.inB m) hy h)
      clear hy
      have hcl : y < 0 ∨ (0 ≤ y ∧ (m : Int) ≤ y) ∨ (0 ≤ y ∧ y < (m : Int)) := by omega
      rcases hcl with q | ⟨q, q2⟩ | ⟨q, q2⟩
      case inr.inr =>
        have HV : Hid (Pr.inB m y = true) := by show _ = _; unfold Pr.inB; simp; omega
        go_wp2
        go_round
        case rel => exact ⟨k + 1, by omega, by go_num, by show _ = _; rw [HS.out, hm.out, HV.out]; rfl⟩
        case measure => simp [intOf]; omega
      all_goals
        have HV : Hid (Pr.inB m y = false) := by show _ = _; unfold Pr.inB; simp; omega
        go_wp2
        go_ret
        exact ⟨ret_bool (by rw [← HB.out, HT.out HV.out]), rfl⟩
    · go_wp2
      go_ret
      have : l.take k = l := List.take_of_length_le (by omega)
      rw [this] at hm
      exact ⟨ret_bool (by rw [← HB.out, hm.out]), rfl⟩

set_option maxHeartbeats 400000 in
theorem within_any (A : Option Addr) (c m : Nat) (l : List Int) (w : World) (ha : Si w w.heap.size A l) (hn : l.length ≤ 65536) :
    Calls Try.prog 71 #[.slice A l.length c, .int .i64 (m : Int)] w fun e w' => e = .returned (.bool (l.all (Pr.inB m))) ∧ w = w' := by
  generalize hbb : l.all (Pr.inB m) = bb
  have HB := Lib.hid hbb
  clear hbb
  go_enter Try.func71, Try.ntmps71
  go_wp2
  go_loop [5] (fun i => ∃ k : Nat, k ≤ l.length ∧ i = .int .i64 k ∧ Hid ((l.take k).all (Pr.inB m) = true)) (fun i => l.length - (intOf i).toNat)
  case atStart => exact ⟨0, Nat.zero_le _, rfl, rfl⟩
  case round =>
    obtain ⟨k, hk, rfl, hm⟩ := hrel
    by_cases hlt : k < l.length
    · obtain ⟨y, hy⟩ := get_ex rfl hlt
      obtain ⟨b, off, rfl, h1, c1⟩ := si_get ha hy
      have HS := Lib.hid (all_take_succ (Pr.inB m) hy)
      have HT := Lib.hid (fun h => all_bad (Pr.inB m) hy h)
      clear hy
      have hcl : y < 0 ∨ (0 ≤ y ∧ (m : Int) ≤ y) ∨ (0 ≤ y ∧ y < (m : Int)) := by omega
      rcases hcl with q | ⟨q, q2⟩ | ⟨q, q2⟩
      case inr.inr =>
        have HV : Hid (Pr.inB m y = true) := by show _ = _; unfold Pr.inB; simp; omega
        go_wp2
        go_round
        case rel => exact ⟨k + 1, by omega, by go_num, by show _ = _; rw [HS.out, hm.out, HV.out]; rfl⟩
        case measure => simp [intOf]; omega
      all_goals
        have HV : Hid (Pr.inB m y = false) := by show _ = _; unfold Pr.inB; simp; omega
        go_wp2
        go_ret
        exact ⟨ret_bool (by rw [← HB.out, HT.out HV.out]), rfl⟩
    · go_wp2
      go_ret
      have : l.take k = l := List.take_of_length_le (by omega)
      rw [this] at hm
      exact ⟨ret_bool (by rw [← HB.out, hm.out]), rfl⟩

set_option maxHeartbeats 400000 in
theorem ints_yes (A B : Option Addr) (c d : Nat) (l : List Int) (w : World) (ha : Si w w.heap.size A l) (hb : Si w w.heap.size B l) (hn : l.length ≤ 65536) :
    Calls Try.prog 43 #[.slice A l.length c, .slice B l.length d] w fun e w' => e = .returned (.bool true) ∧ ∃ n, w' = w.drewN n := by
  go_enter Try.func43, Try.ntmps43
  go_wp2
  go_loopw [5] (fun i wr => ∃ k : Nat, k ≤ l.length ∧ i = .int .i64 k ∧ ∃ n, wr = w.drewN n) (fun i _ => l.length - (intOf i).toNat)
  case atStart => exact ⟨0, Nat.zero_le _, rfl, 0, rfl⟩
  case round =>
    obtain ⟨k, hk, rfl, n, rfl⟩ := hrel
    by_cases hlt : k < l.length
    · obtain ⟨x, hx⟩ := get_ex rfl hlt
      obtain ⟨b, off, rfl, h1, c1⟩ := si_get ha hx
      obtain ⟨b', off', rfl, h2, c2⟩ := si_get hb hx
      clear hx
      go_wp2
      go_quiet (fail)
      go_wp2
      go_roundw
      case rel => exact ⟨k + 1, by omega, by go_num, _, rfl⟩
      case measure => simp [intOf]; omega
    · go_wp2
      go_ret
      exact ⟨rfl, _, rfl⟩

set_option maxHeartbeats 400000 in
theorem sameInts_yes (A B : Option Addr) (c d : Nat) (l : List Int) (w : World) (ha : Si w w.heap.size A l) (hb : Si w w.heap.size B l) (hn : l.length ≤ 65536) :
    Calls Try.prog 24 #[.slice A l.length c, .slice B l.length d] w fun e w' => e = .returned (.bool true) ∧ ∃ n, w' = w.drewN n := by
  go_enter Try.func24, Try.ntmps24
  go_wp2
  go_loopw [5] (fun i wr => ∃ k : Nat, k ≤ l.length ∧ i = .int .i64 k ∧ ∃ n, wr = w.drewN n) (fun i _ => l.length - (intOf i).toNat)
  case atStart => exact ⟨0, Nat.zero_le _, rfl, 0, rfl⟩
  case round =>
    obtain ⟨k, hk, rfl, n, rfl⟩ := hrel
    by_cases hlt : k < l.length
    · obtain ⟨x, hx⟩ := get_ex rfl hlt
      obtain ⟨b, off, rfl, h1, c1⟩ := si_get ha hx
      obtain ⟨b', off', rfl, h2, c2⟩ := si_get hb hx
      clear hx
      go_wp2
      go_quiet (fail)
      go_wp2
      go_roundw
      case rel => exact ⟨k + 1, by omega, by go_num, _, rfl⟩
      case measure => simp [intOf]; omega
    · go_wp2
      go_ret
      exact ⟨rfl, _, rfl⟩

/-- a new slice of ints; nothing older has turned -/
def Fresh (w : World) (l : List Int) (e : Ending) (w' : World) : Prop := ∃ v, e = .returned v ∧ Oi w' w.heap.size v l ∧ Below w.heap.size w w'

set_option maxHeartbeats 400000 in
theorem clone_any (A : Option Addr) (c : Nat) (l : List Int) (w : World) (hl : Si w w.heap.size A l) (hn : l.length ≤ 1000) :
    Calls Try.prog 34 #[.slice A l.length c] w (Fresh w l) := by
  have he := fun W => Lib.run_eql_slice_nil (P := Try.prog) W 25 3 A l.length c 0 0 Try.underlying25
  rcases A with _ | ad
  · have h0 : l = [] := by
      rcases hl with h | ⟨b, off, h, _⟩
      · exact h
      · cases h
    subst h0
    simp only [List.length_nil] at he ⊢
    go_enter Try.func34, Try.ntmps34
    go_wp2
    go_ret
    exact ⟨_, rfl, World.ownsRow_nil _ _ _ _, Below.refl _ _⟩
  · have hown0 : Oi (w.alloc (.cells #[] 3)) w.heap.size (.slice (some ⟨w.heap.size, 0, none⟩) 0 0) [] :=
      World.ownsRow_lit w #[] 0 (Nat.le_refl _) (by unfold maxLen; omega) rfl
    have hl0 := (hl.below ((Below.refl _ _).alloc (Nat.le_refl _) (.cells #[] 3)))
    go_enter Try.func34, Try.ntmps34
    go_wp2_with (at_builtin; refine wpList_append_ints _ rfl _ _ rfl w.heap.size (.slice (some ⟨w.heap.size, 0, none⟩) 0 0) [] rfl hown0 w.heap.size _ l _ c rfl rfl hl0 (by simp; omega) (by simp) ?_; intro v1 w1 hown1 hg1 hat1)
    go_ret
    refine ⟨v1, rfl, hown1, ?_⟩
    exact ((Below.refl _ _).alloc (Nat.le_refl _) _).trans (((Below.refl _ _).grown hg1 (by simp) (by simp [Value.ownBlock])).mono (Nat.le_refl _))
end Go.Proofs.Ytcolekfjmhgldaa
