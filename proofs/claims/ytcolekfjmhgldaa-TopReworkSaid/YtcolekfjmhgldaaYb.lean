/- How operations come in, with the bound on their names. -/
import Derived.Test.YtcolekfjmhgldaaY
namespace Go.Proofs.Ytcolekfjmhgldaa
open Go.ChangeShapes Go.WideShapes Go.ChangeAt Go.RowKit Go.Deep
open Pr (Opn Prg Res)

section
variable {H : Type} {enc : TypeId × Value → H} {w : World} {base : Nat} {spare : Nat → Bool} {held : Bool} {fuel : Nat}

theorem open_opN {cs : List Value} {x : DataW H × List MemPlace} (hcl : cs.length = 5) (ht : DataW.trod enc Try.prog w base spare held fuel 27 cs = some x) :
    ∃ (o : Opn) (aA : Option Addr) (aC : Nat) (uA : Option Addr) (uC : Nat), cs = [.string o.name, .int .i64 o.machine, .int .i64 o.minutes, .slice aA o.after.length aC, .slice uA o.uses uC] ∧ Si w w.heap.size aA o.after ∧ (∀ a ∈ o.after, Wf a) ∧ o.name.size ≤ maxLen := by
  obtain ⟨y0, y1, y2, y3, y4, n, h0, h1, h2, h3, h4⟩ := trod_struct5 Try.underlying27 ht
  obtain ⟨c0, c1, c2, c3, c4, rfl⟩ := list5 hcl
  obtain ⟨s, hs, _, hsz⟩ := DataW.trod_string Try.underlying9 h0
  obtain ⟨u, hu, _, _⟩ := DataW.trod_int Try.underlying3 h1
  obtain ⟨v, hv, _, _⟩ := DataW.trod_int Try.underlying3 h2
  rw [cells9] at hs
  rw [cells3] at hu hv
  simp at hs hu hv
  subst hs hu hv
  rw [cells25] at h3 h4
  have h3' : DataW.trod enc Try.prog w base spare held n 25 [c3] = some y3 := h3
  have h4' : DataW.trod enc Try.prog w base spare held n 25 [c4] = some y4 := h4
  obtain ⟨A, c, l, rfl, _, _, hsi, hwf⟩ := open_intsI h3'
  obtain ⟨A2, c2, l2, rfl, _, _, _, _⟩ := open_intsI h4'
  exact ⟨⟨s, u, v, l, l2.length⟩, A, c, A2, c2, rfl, hsi, hwf, hsz⟩

theorem open_opsN {A : Option Addr} {len cap : Nat} {x : DataW H × List MemPlace}
    (h : DataW.trod enc Try.prog w base spare held fuel 22 [.slice A len cap] = some x) : ∃ l, CameO w A len cap l ∧ ∀ o ∈ l, o.name.size ≤ maxLen := by
  rcases open_slice Try.underlying22 h with ⟨hcs, _⟩ | ⟨a, len', cap', m, n, D, Pl, hcs, hb, hl, hm, hmm, hx, hi⟩
  · injection hcs with e _
    injection e with e1 e2 e3
    subst e1 e2 e3
    exact ⟨[], ⟨rfl, Nat.le_refl _, by unfold maxLen; omega, .inl rfl, by simp⟩, by simp⟩
  · injection hcs with e _
    injection e with e1 e2 e3
    subst e1 e2 e3
    have hlm : len ≤ m := by rw [hmm]; split <;> omega
    have hp : ∀ i, ∃ o : Opn, i < len → ∃ (aA : Option Addr) (aC : Nat) (uA : Option Addr) (uC : Nat), w.cell? (a.add (i * 5)) = some (.string o.name) ∧ w.cell? (a.add (i * 5 + 1)) = some (.int .i64 o.machine) ∧ w.cell? (a.add (i * 5 + 2)) = some (.int .i64 o.minutes) ∧ w.cell? (a.add (i * 5 + 3)) = some (.slice aA o.after.length aC) ∧ w.cell? (a.add (i * 5 + 4)) = some (.slice uA o.uses uC) ∧ Si w w.heap.size aA o.after ∧ (∀ y ∈ o.after, Wf y) ∧ o.name.size ≤ maxLen := fun i => by
      by_cases hil : i < len
      · obtain ⟨cs', hc, ht⟩ := hi i (by omega)
        rw [cells27] at hc
        obtain ⟨_, hcl, hat⟩ := World.cells?_some hc
        obtain ⟨o, aA, aC, uA, uC, rfl, hsi, hwf, hsz⟩ := open_opN hcl ht
        refine ⟨o, fun _ => ⟨aA, aC, uA, uC, ?_, ?_, ?_, ?_, ?_, hsi, hwf, hsz⟩⟩
        · have := hat 0 (by omega)
          rw [Go.Deep.add_add] at this
          exact this
        · have := hat 1 (by omega)
          rw [Go.Deep.add_add] at this
          exact this
        · have := hat 2 (by omega)
          rw [Go.Deep.add_add] at this
          exact this
        · have := hat 3 (by omega)
          rw [Go.Deep.add_add] at this
          exact this
        · have := hat 4 (by omega)
          rw [Go.Deep.add_add] at this
          exact this
      · exact ⟨⟨⟨#[]⟩, 0, 0, [], 0⟩, fun h => absurd h hil⟩
    obtain ⟨f, hf⟩ := Classical.axiomOfChoice hp
    refine ⟨(List.range len).map f, ⟨by simp, hl, hm, ?_, ?_⟩, ?_⟩
    · rcases Nat.eq_zero_or_pos len with h0 | h0
      · subst h0
        exact .inl rfl
      · obtain ⟨b, off, spot⟩ := a
        obtain ⟨_, _, _, _, h00, _⟩ := hf 0 h0
        have hspot : spot = none := by simpa [Addr.add] using World.cell?_spot h00
        subst hspot
        have hblt : b < w.heap.size := by simpa [Addr.add] using lt_of_cell h00
        refine .inr ⟨b, off, rfl, hblt, fun i o hxy => ?_⟩
        rw [List.getElem?_map] at hxy
        have hil : i < len := by
          rcases Nat.lt_or_ge i len with h1 | h1
          · exact h1
          · rw [List.getElem?_eq_none (by simpa using h1)] at hxy; simp at hxy
        rw [List.getElem?_range hil] at hxy
        simp at hxy
        obtain ⟨aA, aC, uA, uC, g0, g1, g2, g3, g4, gs, _⟩ := hf i hil
        rw [hxy] at g0 g1 g2 g3 g4 gs
        rw [Addr.add_lit] at g0 g1 g2 g3 g4
        exact ⟨aA, aC, uA, uC, ⟨g0, g1, g2, g3, g4⟩, gs⟩
    · intro o ho
      obtain ⟨i, hi2, rfl⟩ := List.mem_map.1 ho
      obtain ⟨_, _, _, _, _, _, _, _, _, _, hw, _⟩ := hf i (by simpa using hi2)
      exact hw
    · intro o ho
      obtain ⟨i, hi2, rfl⟩ := List.mem_map.1 ho
      obtain ⟨_, _, _, _, _, _, _, _, _, _, _, hw⟩ := hf i (by simpa using hi2)
      exact hw
end
end Go.Proofs.Ytcolekfjmhgldaa
