/- How a slice of points comes in; what a law over one slice of points owes. -/
import Derived.Test.YtnmmbcgbijinpaaM
import Derived.ProofKit
import Derived.OpenShut
import Derived.ChangeOld
import Derived.Below
import Derived.Deep.Slices
import Derived.ChangeSame
namespace Go.Proofs.Ytnmmbcgbijinpaa
open Go.ChangeShapes Go.WideShapes Go.ChangeAt Go.RowKit Go.Deep
open Pl (Pt)

theorem own : ownKnob Try.prog.godebug = none := by kernel_rfl
theorem laidOut : laidOutB Try.prog = true := by kernel_rfl
theorem cells30 : Try.prog.cellsOf 30 = 2 := by kernel_rfl
theorem cells3 : Try.prog.cellsOf 3 = 1 := by kernel_rfl

theorem lt_of_cell {w : World} {a : Addr} {v : Value} (h : w.cell? a = some v) : a.block < w.heap.size := by
  rcases Nat.lt_or_ge a.block w.heap.size with h1 | h1
  · exact h1
  · simp [World.cell?, Array.getElem?_eq_none h1] at h

/-- a slice of points that came in -/
def Came (w : World) (A : Option Addr) (len cap : Nat) (l : List Pt) : Prop := l.length = len ∧ len ≤ cap ∧ cap ≤ maxLen ∧ Sl w w.heap.size A l

theorem open_spots {H : Type} {enc : TypeId × Value → H} {w : World} {base : Nat} {spare : Nat → Bool} {held : Bool} {fuel : Nat} {A : Option Addr} {len cap : Nat} {x : DataW H × List MemPlace}
    (h : DataW.trod enc Try.prog w base spare held fuel 22 [.slice A len cap] = some x) : ∃ l, Came w A len cap l := by
  rcases open_slice Try.underlying22 h with ⟨hcs, _⟩ | ⟨a, len', cap', m, n, D, Pl, hcs, hb, hl, hm, hmm, hx, hi⟩
  · injection hcs with e _
    injection e with e1 e2 e3
    subst e1 e2 e3
    exact ⟨[], rfl, Nat.le_refl _, by unfold maxLen; omega, .inl rfl⟩
  · injection hcs with e _
    injection e with e1 e2 e3
    subst e1 e2 e3
    have hlm : len ≤ m := by rw [hmm]; split <;> omega
    have hp : ∀ i, ∃ p : Pt, i < len → w.cell? (a.add (i * 2)) = some (.int .i64 p.1) ∧ w.cell? (a.add (i * 2 + 1)) = some (.int .i64 p.2) := fun i => by
      by_cases hil : i < len
      · obtain ⟨cs', hc, ht⟩ := hi i (by omega)
        rw [cells30] at hc
        obtain ⟨_, hcl, hat⟩ := World.cells?_some hc
        obtain ⟨y0, y1, n', _, _, hy0, hy1⟩ := trod_struct2 Try.underlying30 ht
        obtain ⟨u, hu, _, _⟩ := DataW.trod_int Try.underlying3 hy0
        obtain ⟨v, hv, _, _⟩ := DataW.trod_int Try.underlying3 hy1
        rw [cells3] at hu hv
        match cs', hcl with
        | [c0, c1], _ =>
          simp at hu hv
          subst hu hv
          refine ⟨(u, v), fun _ => ⟨?_, ?_⟩⟩
          · have := hat 0 (by omega)
            rw [Go.Deep.add_add] at this
            exact this
          · have := hat 1 (by omega)
            rw [Go.Deep.add_add] at this
            exact this
      · exact ⟨(0, 0), fun h => absurd h hil⟩
    obtain ⟨f, hf⟩ := Classical.axiomOfChoice hp
    refine ⟨(List.range len).map f, by simp, hl, hm, ?_⟩
    rcases Nat.eq_zero_or_pos len with h0 | h0
    · subst h0
      exact .inl rfl
    · obtain ⟨b, off, spot⟩ := a
      have h00 := (hf 0 h0).1
      have hspot : spot = none := by simpa [Addr.add] using World.cell?_spot h00
      subst hspot
      have hblt : b < w.heap.size := by simpa [Addr.add] using lt_of_cell h00
      refine .inr ⟨b, off, rfl, hblt, fun i x y hxy => ?_⟩
      rw [List.getElem?_map] at hxy
      have hil : i < len := by
        rcases Nat.lt_or_ge i len with h1 | h1
        · exact h1
        · rw [List.getElem?_eq_none (by simpa using h1)] at hxy; simp at hxy
      rw [List.getElem?_range hil] at hxy
      simp at hxy
      have := hf i hil
      rw [hxy, Addr.add_lit, Addr.add_lit] at this
      exact this
end Go.Proofs.Ytnmmbcgbijinpaa
