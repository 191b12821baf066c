/- Same, among; a sort of the first elements; Sample of the program and of the reference. -/
import Derived.Test.YtnfppdlicodgpaaC
import Derived.Test.YtnfppdlicodgpaaShelf
import Derived.Laws.AppendOwn
namespace Go.Proofs.Ytnfppdlicodgpaa
open Go.RowKit
open Pd (St)

theorem ret_bool {a b : Bool} (h : a = b) : Ending.returned (.bool a) = .returned (.bool b) := by rw [h]

set_option maxHeartbeats 400000 in
theorem same_yes (A B : Option Addr) (c d : Nat) (l : List Int) (w : World) (ha : Si w w.heap.size A l) (hb : Si w w.heap.size B l) (hn : l.length ≤ 65536) :
    Calls Try.prog 19 #[.slice A l.length c, .slice B l.length d] w fun e w' => e = .returned (.bool true) ∧ Below w.heap.size w w' := by
  go_enter Try.func19, Try.ntmps19
  go_wp2
  go_loopw [5] (fun i wr => ∃ k : Nat, k ≤ l.length ∧ i = .int .i64 k ∧ Below w.heap.size w wr) (fun i _ => l.length - (intOf i).toNat)
  case atStart => exact ⟨0, Nat.zero_le _, rfl, Below.refl _ _⟩
  case round =>
    obtain ⟨k, hk, rfl, hbl⟩ := hrel
    by_cases hlt : k < l.length
    · obtain ⟨b, off, rfl, h1, c1⟩ := (ha.below hbl).at_ k hlt
      obtain ⟨b', off', rfl, h2, c2⟩ := (hb.below hbl).at_ k hlt
      generalize l[k] = x at c1 c2
      go_wp2
      go_quiet (fail)
      go_wp2
      go_roundw
      case rel => exact ⟨k + 1, by omega, by go_num, below_drewN hbl _⟩
      case measure => simp [intOf]; omega
    · go_wp2
      go_ret
      exact ⟨rfl, hbl⟩

theorem mem_take_succ (l : List Int) (k : Nat) (hk : k < l.length) (x : Int) : x ∈ l.take (k + 1) ↔ x ∈ l.take k ∨ x = l[k] := by
  rw [List.take_succ_eq_append_getElem hk, List.mem_append, List.mem_singleton]

set_option maxHeartbeats 400000 in
theorem among_any (A : Option Addr) (c : Nat) (l : List Int) (x : Int) (w : World) (ha : Si w w.heap.size A l) (hn : l.length ≤ 65536) :
    Calls Try.prog 26 #[.slice A l.length c, .int .i64 x] w fun e w' => e = .returned (.bool (decide (x ∈ l))) ∧ w = w' := by
  generalize hbb : decide (x ∈ l) = bb
  have HB := Lib.hid hbb
  clear hbb
  go_enter Try.func26, Try.ntmps26
  go_wp2
  go_loop [5] (fun i => ∃ k : Nat, k ≤ l.length ∧ i = .int .i64 k ∧ Hid (¬ x ∈ l.take k)) (fun i => l.length - (intOf i).toNat)
  case atStart => exact ⟨0, Nat.zero_le _, rfl, by show ¬ _; simp⟩
  case round =>
    obtain ⟨k, hk, rfl, hm⟩ := hrel
    by_cases hlt : k < l.length
    · obtain ⟨b, off, rfl, h1, c1⟩ := ha.at_ k hlt
      have hM := mem_take_succ l k hlt x
      by_cases hx : l[k] = x
      · have HS : Hid (x ∈ l) := by show _ ∈ _; rw [← hx]; exact List.getElem_mem hlt
        rw [hx] at c1
        clear hx hM
        go_wp2
        go_ret
        exact ⟨ret_bool (by rw [← HB.out]; exact (decide_eq_true HS.out).symm), rfl⟩
      · have HS : Hid (¬ x ∈ l.take (k + 1)) := by
          show ¬ _
          rw [hM]
          rintro (h | h)
          · exact hm.out h
          · exact hx h.symm
        have hx' : (l[k] == x) = false := by simpa using hx
        generalize l[k] = y at c1 hx'
        clear hx hM
        go_wp2
        go_round
        case rel => exact ⟨k + 1, by omega, by go_num, HS⟩
        case measure => simp [intOf]; omega
    · go_wp2
      go_ret
      have : l.take k = l := List.take_of_length_le (by omega)
      rw [this] at hm
      exact ⟨ret_bool (by rw [← HB.out]; exact (decide_eq_false hm.out).symm), rfl⟩

/-! The sort. -/
def srt (l : List Int) : List Int := l.mergeSort fun x y => decide (x ≤ y)
theorem srt_length (l : List Int) : (srt l).length = l.length := List.length_mergeSort _
theorem Oi.lt {w : World} {base g cap n : Nat} {l : List Int} (h : Oi w base (.slice (some ⟨g, 0, none⟩) n cap) l) : base ≤ g ∧ g < w.heap.size := World.ownsRow.lt h g rfl

theorem sort_take (g cap cap' base n k : Nat) (l : List Int) (w : World) (how : Oi w base (.slice (some ⟨g, 0, none⟩) n cap') l) (hk : k ≤ l.length) (hn : l.length ≤ 65536) (hB : base ≤ w.heap.size) :
    Calls Try.prog 25 #[.slice (some ⟨g, 0, none⟩) k cap] w fun e w' => e = .returned (.tuple #[]) ∧ Si w' w'.heap.size (some ⟨g, 0, none⟩) (srt (l.take k)) ∧ Below base w w' := by
  have hlt := how.lt
  have hlen : (l.take k).length = k := by rw [List.length_take]; omega
  have hH : Go.Sort.Holds (Value.int .i64) w g 0 (l.take k).toArray := by
    intro j hj
    have hj' : j < k := by simpa [hlen] using hj
    have e : (l.take k).toArray[j]! = l[j]'(by omega) := by
      rw [getElem!_pos _ j (by simpa using hj)]
      simp
    rw [e, Nat.zero_add]
    exact ⟨how.at_ j (by omega), how.frozenAt j⟩
  have h := Try.slices_Sort_int g 0 cap (l.take k) w hH hlt.2 (by omega)
  rw [hlen] at h
  refine h.mono ?_
  rintro e w' ⟨rfl, n', os, rfl⟩
  have hsz : (srt (l.take k)).length = k := by rw [srt_length, hlen]
  have hH2 : Go.Sort.Holds (Value.int .i64) (Go.Sort.grow (Go.Sort.putRow (Value.int .i64) (Go.Sort.ahead w n') g 0 (srt (l.take k)).toArray) os) g 0 (srt (l.take k)).toArray :=
    Go.Sort.holds_grow _ _ _ _ _ _ (by simpa using hlt.2) (Go.Sort.holds_putRow _ _ _ _ (l.take k).toArray _ (Go.Sort.holds_ahead _ _ _ _ _ _ hH) (by simp [hsz, hlen]))
  refine ⟨rfl, .inr ⟨g, 0, rfl, ?_, fun i x hi => ?_⟩, ?_⟩
  · simp; omega
  · obtain ⟨h1, h2⟩ := List.getElem?_eq_some_iff.1 hi
    have := (hH2 i (by simpa using h1)).1
    rw [getElem!_pos _ i (by simpa using h1)] at this
    simp only [List.getElem_toArray] at this
    rw [h2] at this
    exact this
  · refine ⟨rfl, rfl, rfl, by simp, fun i hi => ?_⟩
    rw [Go.Sort.heap_grow_old _ _ (by simp; omega)]
    have hne : ¬ g = i := by omega
    simp [Go.Sort.putRow, Go.Sort.mapBlock, Array.getElem?_modify, hne]
end Go.Proofs.Ytnfppdlicodgpaa
