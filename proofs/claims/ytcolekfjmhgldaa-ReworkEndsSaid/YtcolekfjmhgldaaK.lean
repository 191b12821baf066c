/- Whether an operation waits. -/
import Derived.Test.YtcolekfjmhgldaaJ
namespace Go.Proofs.Ytcolekfjmhgldaa
open Go.RowKit
open Pr (Opn)

theorem waits1_any (bp : Nat) (A : Option Addr) (c : Nat) (l : List Int) (x : Int) (w : World) (hc : w.cell? ⟨bp, 0, none⟩ = some (.slice A l.length c)) (ha : Si w w.heap.size A l) (hn : l.length ≤ 65536) :
    Calls Try.prog 63 #[.int .i64 x, .pointer (some ⟨bp, 0, none⟩)] w fun e w' => e = .returned (.bool (decide (x ∈ l))) ∧ w = w' := by
  have HC := Lib.hid (contains_any A c l x w ha hn)
  go_enter Try.func63, Try.ntmps63
  go_wp2_with fail
  refine HC.out.mono ?_
  rintro e w1 ⟨rfl, rfl⟩
  go_wp2
  go_ret
  exact ⟨rfl, rfl⟩

theorem indexFunc_any (bp : Nat) (A : Option Addr) (c : Nat) (l : List Int) (aA : Option Addr) (aC : Nat) (s : List Int) (w : World) (hc : w.cell? ⟨bp, 0, none⟩ = some (.slice A l.length c)) (ha : Si w w.heap.size A l) (hn : l.length ≤ 65536) (hs : Si w w.heap.size aA s) (hsl : s.length ≤ 65536) :
    Calls Try.prog 73 #[.slice aA s.length aC, .func (.func 63) #[] #[.pointer (some ⟨bp, 0, none⟩)]] w fun e w' => (∃ i : Int, e = .returned (.int .i64 i) ∧ decide (0 ≤ i) = s.any (fun x => decide (x ∈ l))) ∧ w = w' := by
  have HW := Lib.hid (fun x => waits1_any bp A c l x w hc ha hn)
  go_enter Try.func73, Try.ntmps73
  go_wp2
  go_loop [8] (fun s8 => ∃ k : Nat, k ≤ s.length ∧ s8 = .int .i64 k ∧ Hid ((s.take k).any (fun x => decide (x ∈ l)) = false)) (fun s8 => s.length - (intOf s8).toNat)
  case atStart => exact ⟨0, Nat.zero_le _, rfl, rfl⟩
  case round =>
    obtain ⟨k, hk, rfl, hany⟩ := hrel
    by_cases hlt : k < s.length
    · obtain ⟨x, hx⟩ := get_ex rfl hlt
      obtain ⟨b, off, rfl, hB, cx⟩ := si_get hs hx
      have HA := Lib.hid (any_take_succ (fun x => decide (x ∈ l)) hx)
      cases hd : decide (x ∈ l) with
      | true =>
        have HT : Hid (s.any (fun x => decide (x ∈ l)) = true) := any_take (k := k + 1) _ (by rw [HA.out, hd, Bool.or_true])
        have HW1 := Lib.hid (HW.out x)
        rw [hd] at HW1
        clear HA hd hany HW hx
        go_wp2_with (go_at_call 63; refine HW1.out.mono ?_; rintro e w1 ⟨rfl, rfl⟩)
        go_ret
        exact ⟨⟨_, rfl, by rw [HT.out]; simp⟩, rfl⟩
      | false =>
        have HT : Hid ((s.take (k + 1)).any (fun x => decide (x ∈ l)) = false) := by show _ = _; rw [HA.out, hany.out, hd]; rfl
        have HW1 := Lib.hid (HW.out x)
        rw [hd] at HW1
        clear HA hd hany hx
        go_wp2_with (go_at_call 63; refine HW1.out.mono ?_; rintro e w1 ⟨rfl, rfl⟩)
        go_round
        case rel => exact ⟨k + 1, by omega, by go_num, HT⟩
        case measure => simp [intOf]; omega
    · obtain rfl : k = s.length := by omega
      have HT : Hid (s.any (fun x => decide (x ∈ l)) = false) := by show _ = _; rw [← hany.out, List.take_length]
      clear hlt hk hany
      go_wp2
      go_ret
      exact ⟨⟨_, rfl, by rw [HT.out]; rfl⟩, rfl⟩

theorem containsFunc_any (bp : Nat) (A : Option Addr) (c : Nat) (l : List Int) (aA : Option Addr) (aC : Nat) (s : List Int) (w : World) (hc : w.cell? ⟨bp, 0, none⟩ = some (.slice A l.length c)) (ha : Si w w.heap.size A l) (hn : l.length ≤ 65536) (hs : Si w w.heap.size aA s) (hsl : s.length ≤ 65536) :
    Calls Try.prog 62 #[.slice aA s.length aC, .func (.func 63) #[] #[.pointer (some ⟨bp, 0, none⟩)]] w fun e w' => e = .returned (.bool (s.any (fun x => decide (x ∈ l)))) ∧ w = w' := by
  have HC := Lib.hid (indexFunc_any bp A c l aA aC s w hc ha hn hs hsl)
  go_enter Try.func62, Try.ntmps62
  go_wp2_with fail
  refine HC.out.mono ?_
  rintro e w1 ⟨⟨i, rfl, hi⟩, rfl⟩
  go_wp2
  go_ret
  exact ⟨rfl, rfl⟩

/-- an operation as a value -/
def opV (x : Opn) (aA : Option Addr) (aC : Nat) (uA : Option Addr) (uC : Nat) : Value := .agg #[.string x.name, .int .i64 x.machine, .int .i64 x.minutes, .slice aA x.after.length aC, .slice uA x.uses uC]

theorem waits_any (x : Opn) (aA : Option Addr) (aC : Nat) (uA : Option Addr) (uC : Nat) (A : Option Addr) (c : Nat) (l : List Int) (w : World) (ha : Si w w.heap.size A l) (hn : l.length ≤ 65536) (hs : Si w w.heap.size aA x.after) (hsl : x.after.length ≤ 65536) :
    Calls Try.prog 49 #[.agg #[.string x.name, .int .i64 x.machine, .int .i64 x.minutes, .slice aA x.after.length aC, .slice uA x.uses uC], .slice A l.length c] w fun e w' => e = .returned (.bool (x.after.any (fun a => decide (a ∈ l)))) ∧ Below w.heap.size w w' := by
  have hmf : ∀ (fn : Fn) (first cap : Array Value) (w : World), (Instr.makeFunc fn first cap).run Try.prog w = .ok (.func fn first cap) w := fun _ _ _ _ => rfl
  have hb0 := b_new w (.cells #[.string x.name, .int .i64 x.machine, .int .i64 x.minutes, .slice aA x.after.length aC, .slice uA x.uses uC] 27)
  have hb := b_al hb0 (.cells #[.slice A l.length c] 25)
  have hc : ((w.alloc (.cells #[.string x.name, .int .i64 x.machine, .int .i64 x.minutes, .slice aA x.after.length aC, .slice uA x.uses uC] 27)).alloc (.cells #[.slice A l.length c] 25)).cell? ⟨w.heap.size + 1, 0, none⟩ = some (.slice A l.length c) := by
    have : (w.alloc (.cells #[.string x.name, .int .i64 x.machine, .int .i64 x.minutes, .slice aA x.after.length aC, .slice uA x.uses uC] 27)).heap.size = w.heap.size + 1 := size_al _ _
    rw [← this]
    simp
  have HC := Lib.hid (containsFunc_any (w.heap.size + 1) A c l aA aC x.after _ hc ((ha.below hb).more hb.size) hn ((hs.below hb).more hb.size) hsl)
  go_enter Try.func49, Try.ntmps49
  go_wp2_with fail
  refine HC.out.mono ?_
  rintro e w1 ⟨rfl, rfl⟩
  go_wp2
  go_ret
  exact ⟨rfl, hb⟩
end Go.Proofs.Ytcolekfjmhgldaa
