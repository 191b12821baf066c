/- How a progress and an act come in; how much room the lists of predecessors have. -/
import Derived.Test.YtcolekfjmhgldaaY
import Derived.Test.YtcolekfjmhgldaaRa
namespace Go.Proofs.Ytcolekfjmhgldaa
open Go.ChangeShapes Go.WideShapes Go.ChangeAt Go.RowKit Go.Deep
open Pr (Opn Prg Res)

theorem cells29 : Try.prog.cellsOf 29 = 4 := by kernel_rfl
theorem cells39 : Try.prog.cellsOf 39 = 3 := by kernel_rfl
theorem list4 {α : Type} {cs : List α} (h : cs.length = 4) : ∃ c0 c1 c2 c3, cs = [c0, c1, c2, c3] := by
  match cs, h with
  | [c0, c1, c2, c3], _ => exact ⟨c0, c1, c2, c3, rfl⟩
theorem list3 {α : Type} {cs : List α} (h : cs.length = 3) : ∃ c0 c1 c2, cs = [c0, c1, c2] := by
  match cs, h with
  | [c0, c1, c2], _ => exact ⟨c0, c1, c2, rfl⟩

section
variable {H : Type} {enc : TypeId × Value → H} {w : World} {base : Nat} {spare : Nat → Bool} {held : Bool} {fuel : Nat}

theorem trod_struct4 {P : Program} {t : TypeId} {f0 f1 f2 f3 : Field} {cs : List Value} {x : DataW H × List MemPlace} (ht : P.underlying t = some (.struct #[f0, f1, f2, f3])) (h : DataW.trod enc P w base spare held fuel t cs = some x) :
    ∃ y0 y1 y2 y3 n, DataW.trod enc P w base spare held n f0.type ((cs.drop f0.offset).take (P.cellsOf f0.type)) = some y0 ∧
      DataW.trod enc P w base spare held n f1.type ((cs.drop f1.offset).take (P.cellsOf f1.type)) = some y1 ∧ DataW.trod enc P w base spare held n f2.type ((cs.drop f2.offset).take (P.cellsOf f2.type)) = some y2 ∧
      DataW.trod enc P w base spare held n f3.type ((cs.drop f3.offset).take (P.cellsOf f3.type)) = some y3 := by
  obtain ⟨xs, n, _, rfl, hl, hlen, hf⟩ := DataW.trod_struct ht h
  obtain ⟨y0, y1, y2, y3, rfl⟩ := list4 hlen
  exact ⟨y0, y1, y2, y3, n, by simpa using hf 0 f0 rfl, by simpa using hf 1 f1 rfl, by simpa using hf 2 f2 rfl, by simpa using hf 3 f3 rfl⟩

set_option maxRecDepth 100000 in
theorem open_prg {r : Reach} {b0 : Nat} {v : Value} {d : DataW H} {ps : List MemPlace} (hv : Value.okWide Try.prog w r b0 29 v) (h : DataW.Trod enc Try.prog w base spare held 29 v d ps) :
    ∃ (dA : Option Addr) (dc : Nat) (oA : Option Addr) (oc : Nat) (p : Prg), v = .agg #[.int .i64 p.state, .slice dA p.done.length dc, .slice oA p.opn.length oc, .int .i64 p.rework] ∧ Si w w.heap.size dA p.done ∧ Si w w.heap.size oA p.opn := by
  obtain ⟨cs, rfl, hsz⟩ := okWide_struct Try.underlying29 hv
  rw [cells29] at hsz
  obtain ⟨c0, c1, c2, c3, hcs⟩ := list4 (cs := cs.toList) (by simpa using hsz)
  obtain rfl : cs = #[c0, c1, c2, c3] := by cases cs; simp_all
  obtain ⟨fuel, hf⟩ := h
  have hf' : DataW.trod enc Try.prog w base spare held fuel 29 [c0, c1, c2, c3] = some (d, ps) := by simpa [Value.cells] using hf
  obtain ⟨y0, y1, y2, y3, n, h0, h1, h2, h3⟩ := trod_struct4 Try.underlying29 hf'
  obtain ⟨u, hu, _, _⟩ := DataW.trod_int Try.underlying3 h0
  obtain ⟨x, hx, _, _⟩ := DataW.trod_int Try.underlying3 h3
  rw [cells3] at hu hx
  simp at hu hx
  subst hu hx
  rw [cells25] at h1 h2
  have h1' : DataW.trod enc Try.prog w base spare held n 25 [c1] = some y1 := h1
  have h2' : DataW.trod enc Try.prog w base spare held n 25 [c2] = some y2 := h2
  obtain ⟨A, c, l, rfl, _, _, hsi, _⟩ := open_intsI h1'
  obtain ⟨A2, c2, l2, rfl, _, _, hsi2, _⟩ := open_intsI h2'
  exact ⟨A, c, A2, c2, ⟨u, l, l2, x⟩, rfl, hsi, hsi2⟩

set_option maxRecDepth 100000 in
theorem open_act {r : Reach} {b0 : Nat} {v : Value} {d : DataW H} {ps : List MemPlace} (hv : Value.okWide Try.prog w r b0 39 v) (h : DataW.Trod enc Try.prog w base spare held 39 v d ps) :
    ∃ ak ao am : Int, v = .agg #[.int .i64 ak, .int .i64 ao, .int .i64 am] := by
  obtain ⟨cs, rfl, hsz⟩ := okWide_struct Try.underlying39 hv
  rw [cells39] at hsz
  obtain ⟨c0, c1, c2, hcs⟩ := list3 (cs := cs.toList) (by simpa using hsz)
  obtain rfl : cs = #[c0, c1, c2] := by cases cs; simp_all
  obtain ⟨fuel, hf⟩ := h
  have hf' : DataW.trod enc Try.prog w base spare held fuel 39 [c0, c1, c2] = some (d, ps) := by simpa [Value.cells] using hf
  obtain ⟨y0, y1, n, _, _, h0, h1⟩ := trod_struct2 Try.underlying39 hf'
  rw [cells34] at h0
  rw [cells3] at h1
  have h0' : DataW.trod enc Try.prog w base spare held n 34 [c0, c1] = some y0 := h0
  obtain ⟨z0, z1, n', _, _, hz0, hz1⟩ := trod_struct2 Try.underlying34 h0'
  obtain ⟨u, hu, _, _⟩ := DataW.trod_int Try.underlying3 hz0
  obtain ⟨x, hx, _, _⟩ := DataW.trod_int Try.underlying3 hz1
  obtain ⟨m, hm, _, _⟩ := DataW.trod_int Try.underlying3 h1
  rw [cells3] at hu hx
  simp at hu hx hm
  subst hu hx hm
  exact ⟨u, x, m, rfl⟩

theorem open_opC {cs : List Value} {x : DataW H × List MemPlace} (hcl : cs.length = 5) (ht : DataW.trod enc Try.prog w base spare held fuel 27 cs = some x) :
    ∃ c0 c1 c2 A k c c4, cs = [c0, c1, c2, .slice A k c, c4] ∧ k ≤ c ∧ c ≤ maxLen := by
  obtain ⟨y0, y1, y2, y3, y4, n, h0, h1, h2, h3, h4⟩ := trod_struct5 Try.underlying27 ht
  obtain ⟨c0, c1, c2, c3, c4, rfl⟩ := list5 hcl
  rw [cells25] at h3
  have h3' : DataW.trod enc Try.prog w base spare held n 25 [c3] = some y3 := h3
  obtain ⟨A, c, l, rfl, h5, h6, _, _⟩ := open_intsI h3'
  exact ⟨c0, c1, c2, A, _, c, c4, rfl, h5, h6⟩

theorem open_caps {A : Option Addr} {len cap : Nat} {x : DataW H × List MemPlace}
    (h : DataW.trod enc Try.prog w base spare held fuel 22 [.slice A len cap] = some x) : Cap w A len := by
  rcases open_slice Try.underlying22 h with ⟨hcs, _⟩ | ⟨a, len', cap', m, n, D, Pl, hcs, hb, hl, hm, hmm, hx, hi⟩
  · injection hcs with e _
    injection e with e1 e2 e3
    subst e1 e2 e3
    intro b off hA
    cases hA
  · injection hcs with e _
    injection e with e1 e2 e3
    subst e1 e2 e3
    have hlm : len ≤ m := by rw [hmm]; split <;> omega
    intro b off hA i hil aA k aC hc
    injection hA with hA
    subst hA
    obtain ⟨cs', hcc, ht⟩ := hi i (by omega)
    rw [cells27] at hcc
    obtain ⟨_, hcl, hat⟩ := World.cells?_some hcc
    obtain ⟨c0, c1, c2, A', k', c', c4, rfl, h5, h6⟩ := open_opC hcl ht
    have := hat 3 (by omega)
    rw [Go.Deep.add_add, Addr.add_lit] at this
    have h7 : w.cell? ⟨b, off + (i * 5 + 3), none⟩ = some (.slice A' k' c') := this
    rw [← Nat.add_assoc, hc] at h7
    injection h7 with h7
    injection h7 with e1 e2 e3
    subst e2 e3
    exact ⟨h5, h6⟩
end
end Go.Proofs.Ytcolekfjmhgldaa
