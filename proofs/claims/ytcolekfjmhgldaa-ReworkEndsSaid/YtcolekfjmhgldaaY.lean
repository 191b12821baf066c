/- How operations and events come in. -/
import Derived.Test.YtcolekfjmhgldaaX
import Derived.ProofKit
import Derived.OpenShut
import Derived.ChangeOld
import Derived.Deep.Slices
import Derived.ChangeSame
import Derived.Lib.SmallJoins
namespace Go.Proofs.Ytcolekfjmhgldaa
open Go.ChangeShapes Go.WideShapes Go.ChangeAt Go.RowKit Go.Deep
open Pr (Opn Prg Res)

theorem own : ownKnob Try.prog.godebug = none := by kernel_rfl
theorem laidOut : laidOutB Try.prog = true := by kernel_rfl
theorem cells3 : Try.prog.cellsOf 3 = 1 := by kernel_rfl
theorem cells9 : Try.prog.cellsOf 9 = 1 := by kernel_rfl
theorem cells25 : Try.prog.cellsOf 25 = 1 := by kernel_rfl
theorem lt_of_cell {w : World} {a : Addr} {v : Value} (h : w.cell? a = some v) : a.block < w.heap.size := by
  rcases Nat.lt_or_ge a.block w.heap.size with h1 | h1
  · exact h1
  · simp [World.cell?, Array.getElem?_eq_none h1] at h

section
variable {H : Type} {enc : TypeId × Value → H} {w : World} {base : Nat} {spare : Nat → Bool} {held : Bool} {fuel : Nat}

theorem open_intsI {v : Value} {x : DataW H × List MemPlace} (h : DataW.trod enc Try.prog w base spare held fuel 25 [v] = some x) :
    ∃ A c l, v = .slice A (List.length l) c ∧ l.length ≤ c ∧ c ≤ maxLen ∧ Si w w.heap.size A l ∧ ∀ a ∈ l, Wf a := by
  rcases open_slice Try.underlying25 h with ⟨hcs, _⟩ | ⟨a, len, cap, m, n, D, Pl, hcs, hb, hl, hm, hmm, hx, hi⟩
  · injection hcs with e _
    exact ⟨none, 0, [], e, Nat.le_refl _, by unfold maxLen; omega, .inl rfl, by simp⟩
  · injection hcs with e _
    have hlm : len ≤ m := by rw [hmm]; split <;> omega
    have hp : ∀ i, ∃ p : Int, i < len → w.cell? (a.add i) = some (.int .i64 p) ∧ Wf p := fun i => by
      by_cases hil : i < len
      · obtain ⟨cs', hc, ht⟩ := hi i (by omega)
        rw [cells3, Nat.mul_one] at hc
        obtain ⟨_, hcl, hat⟩ := World.cells?_some hc
        obtain ⟨u, hu, _, hw⟩ := DataW.trod_int Try.underlying3 ht
        subst hu
        refine ⟨u, fun _ => ⟨?_, hw⟩⟩
        have := hat 0 (by omega)
        rw [Go.Deep.add_add, Nat.add_zero] at this
        exact this
      · exact ⟨0, fun h => absurd h hil⟩
    obtain ⟨f, hf⟩ := Classical.axiomOfChoice hp
    refine ⟨some a, cap, (List.range len).map f, by simpa using e, by simpa using hl, hm, ?_, ?_⟩
    · rcases Nat.eq_zero_or_pos len with h0 | h0
      · subst h0
        exact .inl rfl
      · obtain ⟨b, off, spot⟩ := a
        have h00 := (hf 0 h0).1
        have hspot : spot = none := by simpa [Addr.add] using World.cell?_spot h00
        subst hspot
        have hblt : b < w.heap.size := by simpa [Addr.add] using lt_of_cell h00
        refine .inr ⟨b, off, rfl, hblt, fun i x hxy => ?_⟩
        rw [List.getElem?_map] at hxy
        have hil : i < len := by
          rcases Nat.lt_or_ge i len with h1 | h1
          · exact h1
          · rw [List.getElem?_eq_none (by simpa using h1)] at hxy; simp at hxy
        rw [List.getElem?_range hil] at hxy
        simp at hxy
        have := (hf i hil).1
        rw [hxy, Addr.add_lit] at this
        exact this
    · intro y hy
      obtain ⟨i, hi2, rfl⟩ := List.mem_map.1 hy
      exact (hf i (by simpa using hi2)).2

/-- operations that came in -/
def CameO (w : World) (A : Option Addr) (len cap : Nat) (l : List Opn) : Prop := l.length = len ∧ len ≤ cap ∧ cap ≤ maxLen ∧ So w w.heap.size A l ∧ ∀ o ∈ l, ∀ a ∈ o.after, Wf a
/-- events that came in -/
def CameE (w : World) (A : Option Addr) (len cap : Nat) (l : List (Int × Int)) : Prop := l.length = len ∧ len ≤ cap ∧ cap ≤ maxLen ∧ Se w w.heap.size A l

theorem list2 {α : Type} {cs : List α} (h : cs.length = 2) : ∃ c0 c1, cs = [c0, c1] := by
  match cs, h with
  | [c0, c1], _ => exact ⟨c0, c1, rfl⟩
theorem open_evs {A : Option Addr} {len cap : Nat} {x : DataW H × List MemPlace}
    (h : DataW.trod enc Try.prog w base spare held fuel 23 [.slice A len cap] = some x) : ∃ l, CameE w A len cap l := by
  rcases open_slice Try.underlying23 h with ⟨hcs, _⟩ | ⟨a, len', cap', m, n, D, Pl, hcs, hb, hl, hm, hmm, hx, hi⟩
  · injection hcs with e _
    injection e with e1 e2 e3
    subst e1 e2 e3
    exact ⟨[], rfl, Nat.le_refl _, by unfold maxLen; omega, .inl rfl⟩
  · injection hcs with e _
    injection e with e1 e2 e3
    subst e1 e2 e3
    have hlm : len ≤ m := by rw [hmm]; split <;> omega
    have hp : ∀ i, ∃ p : Int × Int, i < len → w.cell? (a.add (i * 2)) = some (.int .i64 p.1) ∧ w.cell? (a.add (i * 2 + 1)) = some (.int .i64 p.2) := fun i => by
      by_cases hil : i < len
      · obtain ⟨cs', hc, ht⟩ := hi i (by omega)
        rw [cells34] at hc
        obtain ⟨_, hcl, hat⟩ := World.cells?_some hc
        obtain ⟨y0, y1, n', _, _, hy0, hy1⟩ := trod_struct2 Try.underlying34 ht
        obtain ⟨u, hu, _, _⟩ := DataW.trod_int Try.underlying3 hy0
        obtain ⟨v, hv, _, _⟩ := DataW.trod_int Try.underlying3 hy1
        rw [cells3] at hu hv
        obtain ⟨c0, c1, rfl⟩ := list2 hcl
        have hu' : c0 = .int .i64 u := by injection hu
        have hv' : c1 = .int .i64 v := by injection hv
        subst hu' hv'
        refine ⟨(u, v), fun _ => ⟨?_, ?_⟩⟩
        · have := hat 0 (by omega)
          rw [Go.Deep.add_add] at this
          exact this
        · have := hat 1 (by omega)
          rw [Go.Deep.add_add] at this
          exact this
      · exact ⟨(0, 0), fun h => absurd h hil⟩
    obtain ⟨f, hf⟩ := Classical.axiomOfChoice hp
    refine ⟨(List.range len).map f, by simp, hl, hm, ?_⟩
    rcases Nat.eq_zero_or_pos len with h0 | h0
    · subst h0
      exact .inl rfl
    · obtain ⟨b, off, spot⟩ := a
      have h00 := (hf 0 h0).1
      have hspot : spot = none := by simpa [Addr.add] using World.cell?_spot h00
      subst hspot
      have hblt : b < w.heap.size := by simpa [Addr.add] using lt_of_cell h00
      refine .inr ⟨b, off, rfl, hblt, fun i e hxy => ?_⟩
      rw [List.getElem?_map] at hxy
      have hil : i < len := by
        rcases Nat.lt_or_ge i len with h1 | h1
        · exact h1
        · rw [List.getElem?_eq_none (by simpa using h1)] at hxy; simp at hxy
      rw [List.getElem?_range hil] at hxy
      simp at hxy
      have := hf i hil
      rw [hxy, Addr.add_lit, Addr.add_lit] at this
      exact this

theorem list5 {α : Type} {cs : List α} (h : cs.length = 5) : ∃ c0 c1 c2 c3 c4, cs = [c0, c1, c2, c3, c4] := by
  match cs, h with
  | [c0, c1, c2, c3, c4], _ => exact ⟨c0, c1, c2, c3, c4, rfl⟩
theorem trod_struct5 {P : Program} {t : TypeId} {f0 f1 f2 f3 f4 : Field} {cs : List Value} {x : DataW H × List MemPlace} (ht : P.underlying t = some (.struct #[f0, f1, f2, f3, f4])) (h : DataW.trod enc P w base spare held fuel t cs = some x) :
    ∃ y0 y1 y2 y3 y4 n, DataW.trod enc P w base spare held n f0.type ((cs.drop f0.offset).take (P.cellsOf f0.type)) = some y0 ∧
      DataW.trod enc P w base spare held n f1.type ((cs.drop f1.offset).take (P.cellsOf f1.type)) = some y1 ∧ DataW.trod enc P w base spare held n f2.type ((cs.drop f2.offset).take (P.cellsOf f2.type)) = some y2 ∧
      DataW.trod enc P w base spare held n f3.type ((cs.drop f3.offset).take (P.cellsOf f3.type)) = some y3 ∧ DataW.trod enc P w base spare held n f4.type ((cs.drop f4.offset).take (P.cellsOf f4.type)) = some y4 := by
  obtain ⟨xs, n, _, rfl, hl, hlen, hf⟩ := DataW.trod_struct ht h
  obtain ⟨y0, y1, y2, y3, y4, rfl⟩ := list5 hlen
  exact ⟨y0, y1, y2, y3, y4, n, by simpa using hf 0 f0 rfl, by simpa using hf 1 f1 rfl, by simpa using hf 2 f2 rfl, by simpa using hf 3 f3 rfl, by simpa using hf 4 f4 rfl⟩

theorem open_op {cs : List Value} {x : DataW H × List MemPlace} (hcl : cs.length = 5) (ht : DataW.trod enc Try.prog w base spare held fuel 27 cs = some x) :
    ∃ (o : Opn) (aA : Option Addr) (aC : Nat) (uA : Option Addr) (uC : Nat), cs = [.string o.name, .int .i64 o.machine, .int .i64 o.minutes, .slice aA o.after.length aC, .slice uA o.uses uC] ∧ Si w w.heap.size aA o.after ∧ ∀ a ∈ o.after, Wf a := by
  obtain ⟨y0, y1, y2, y3, y4, n, h0, h1, h2, h3, h4⟩ := trod_struct5 Try.underlying27 ht
  obtain ⟨c0, c1, c2, c3, c4, rfl⟩ := list5 hcl
  obtain ⟨s, hs, _, _⟩ := DataW.trod_string Try.underlying9 h0
  obtain ⟨u, hu, _, _⟩ := DataW.trod_int Try.underlying3 h1
  obtain ⟨v, hv, _, _⟩ := DataW.trod_int Try.underlying3 h2
  rw [cells9] at hs
  rw [cells3] at hu hv
  simp at hs hu hv
  subst hs hu hv
  rw [cells25] at h3 h4
  have h3' : DataW.trod enc Try.prog w base spare held n 25 [c3] = some y3 := h3
  have h4' : DataW.trod enc Try.prog w base spare held n 25 [c4] = some y4 := h4
  obtain ⟨A, c, l, rfl, _, _, hsi, hwf⟩ := open_intsI h3'
  obtain ⟨A2, c2, l2, rfl, _, _, _, _⟩ := open_intsI h4'
  exact ⟨⟨s, u, v, l, l2.length⟩, A, c, A2, c2, rfl, hsi, hwf⟩

theorem open_ops {A : Option Addr} {len cap : Nat} {x : DataW H × List MemPlace}
    (h : DataW.trod enc Try.prog w base spare held fuel 22 [.slice A len cap] = some x) : ∃ l, CameO w A len cap l := by
  rcases open_slice Try.underlying22 h with ⟨hcs, _⟩ | ⟨a, len', cap', m, n, D, Pl, hcs, hb, hl, hm, hmm, hx, hi⟩
  · injection hcs with e _
    injection e with e1 e2 e3
    subst e1 e2 e3
    exact ⟨[], rfl, Nat.le_refl _, by unfold maxLen; omega, .inl rfl, by simp⟩
  · injection hcs with e _
    injection e with e1 e2 e3
    subst e1 e2 e3
    have hlm : len ≤ m := by rw [hmm]; split <;> omega
    have hp : ∀ i, ∃ o : Opn, i < len → ∃ (aA : Option Addr) (aC : Nat) (uA : Option Addr) (uC : Nat), w.cell? (a.add (i * 5)) = some (.string o.name) ∧ w.cell? (a.add (i * 5 + 1)) = some (.int .i64 o.machine) ∧ w.cell? (a.add (i * 5 + 2)) = some (.int .i64 o.minutes) ∧ w.cell? (a.add (i * 5 + 3)) = some (.slice aA o.after.length aC) ∧ w.cell? (a.add (i * 5 + 4)) = some (.slice uA o.uses uC) ∧ Si w w.heap.size aA o.after ∧ ∀ y ∈ o.after, Wf y := fun i => by
      by_cases hil : i < len
      · obtain ⟨cs', hc, ht⟩ := hi i (by omega)
        rw [cells27] at hc
        obtain ⟨_, hcl, hat⟩ := World.cells?_some hc
        obtain ⟨o, aA, aC, uA, uC, rfl, hsi, hwf⟩ := open_op hcl ht
        refine ⟨o, fun _ => ⟨aA, aC, uA, uC, ?_, ?_, ?_, ?_, ?_, hsi, hwf⟩⟩
        · have := hat 0 (by omega)
          rw [Go.Deep.add_add] at this
          exact this
        · have := hat 1 (by omega)
          rw [Go.Deep.add_add] at this
          exact this
        · have := hat 2 (by omega)
          rw [Go.Deep.add_add] at this
          exact this
        · have := hat 3 (by omega)
          rw [Go.Deep.add_add] at this
          exact this
        · have := hat 4 (by omega)
          rw [Go.Deep.add_add] at this
          exact this
      · exact ⟨⟨⟨#[]⟩, 0, 0, [], 0⟩, fun h => absurd h hil⟩
    obtain ⟨f, hf⟩ := Classical.axiomOfChoice hp
    refine ⟨(List.range len).map f, by simp, hl, hm, ?_, ?_⟩
    · rcases Nat.eq_zero_or_pos len with h0 | h0
      · subst h0
        exact .inl rfl
      · obtain ⟨b, off, spot⟩ := a
        obtain ⟨_, _, _, _, h00, _⟩ := hf 0 h0
        have hspot : spot = none := by simpa [Addr.add] using World.cell?_spot h00
        subst hspot
        have hblt : b < w.heap.size := by simpa [Addr.add] using lt_of_cell h00
        refine .inr ⟨b, off, rfl, hblt, fun i o hxy => ?_⟩
        rw [List.getElem?_map] at hxy
        have hil : i < len := by
          rcases Nat.lt_or_ge i len with h1 | h1
          · exact h1
          · rw [List.getElem?_eq_none (by simpa using h1)] at hxy; simp at hxy
        rw [List.getElem?_range hil] at hxy
        simp at hxy
        obtain ⟨aA, aC, uA, uC, g0, g1, g2, g3, g4, gs, _⟩ := hf i hil
        rw [hxy] at g0 g1 g2 g3 g4 gs
        rw [Addr.add_lit] at g0 g1 g2 g3 g4
        exact ⟨aA, aC, uA, uC, ⟨g0, g1, g2, g3, g4⟩, gs⟩
    · intro o ho
      obtain ⟨i, hi2, rfl⟩ := List.mem_map.1 ho
      obtain ⟨_, _, _, _, _, _, _, _, _, _, hw⟩ := hf i (by simpa using hi2)
      exact hw
end
end Go.Proofs.Ytcolekfjmhgldaa
