/- A progress in memory; pass and reject. -/
import Derived.Test.YtcolekfjmhgldaaK
namespace Go.Proofs.Ytcolekfjmhgldaa
open Go.RowKit
open Pr (Opn Prg)

/-- a progress of the call's own in block g -/
structure Pm (w : World) (base g : Nat) (dv ov : Value) (p : Prg) : Prop where
  c0 : w.cell? ⟨g, 0, none⟩ = some (.int .i64 p.state)
  c1 : w.cell? ⟨g, 1, none⟩ = some dv
  c2 : w.cell? ⟨g, 2, none⟩ = some ov
  c3 : w.cell? ⟨g, 3, none⟩ = some (.int .i64 p.rework)
  fz : ∀ j, w.frozen? ⟨g, j, none⟩ = false
  gb : base ≤ g
  gl : g < w.heap.size
  hd : Oi w base dv p.done
  ho : Oi w base ov p.opn
  nd : dv.ownBlock ≠ some g
  no : ov.ownBlock ≠ some g
  ne : ∀ k, dv.ownBlock = some k → ov.ownBlock ≠ some k

theorem grown_set (w : World) (g j : Nat) (u : Value) : w.grownBy (w.setCell ⟨g, j, none⟩ u) (some g) :=
  ⟨rfl, rfl, rfl, by simp, fun k _ hk => Below.heap_setCell _ _ _ k (fun e => hk (by rw [e]))⟩
theorem Pm.state {w : World} {base g : Nat} {dv ov : Value} {p : Prg} (h : Pm w base g dv ov p) (n : Int) :
    Pm (w.setCell ⟨g, 0, none⟩ (.int .i64 n)) base g dv ov { p with state := n } where
  c0 := World.cell?_setCell_same _ _ _ h.c0
  c1 := (World.cell?_setCell_other _ _ _ _ (by simp)).trans h.c1
  c2 := (World.cell?_setCell_other _ _ _ _ (by simp)).trans h.c2
  c3 := (World.cell?_setCell_other _ _ _ _ (by simp)).trans h.c3
  fz := fun j => by rw [World.frozen?_setCell]; exact h.fz j
  gb := h.gb
  gl := by have := (grown_set w g 0 (.int .i64 n)).size; have := h.gl; omega
  hd := World.ownsRow.kept h.hd (grown_set w g 0 _) (.inr h.nd)
  ho := World.ownsRow.kept h.ho (grown_set w g 0 _) (.inr h.no)
  nd := h.nd
  no := h.no
  ne := h.ne

/-- what an action leaves -/
def ActPost (w : World) (base g : Nat) (r : Int × Prg) (e : Ending) (w' : World) : Prop :=
  e = .returned (.int .i64 r.1) ∧ (r.1 = 0 → ∃ dv ov, Pm w' base g dv ov r.2) ∧ Below base w w'

theorem pass_any (w : World) (base g : Nat) (dv ov : Value) (p : Prg) (op : Int) (h : Pm w base g dv ov p) : Calls Try.prog 37 #[.pointer (some ⟨g, 0, none⟩), .int .i64 op] w (ActPost w base g (Pr.passR p op)) := by
  obtain ⟨oA, oc, rfl, _, _, _, _⟩ := h.ho.shape
  have c2 := h.c2
  have c0 := h.c0
  have f0 := h.fz 0
  by_cases h0 : op = 0
  · subst h0
    by_cases h1 : p.opn = []
    · have HR : Hid (Pr.passR p 0 = (0, ⟨3, p.done, p.opn, p.rework⟩)) := by show _ = _; unfold Pr.passR; rw [if_neg (by simp), if_neg (by simp [h1])]
      have HP := Lib.hid (h.state 3)
      have hl : p.opn.length = 0 := by rw [h1]; rfl
      have hb : Below base w (w.setCell ⟨g, 0, none⟩ (.int .i64 3)) := (Below.refl _ _).setCell h.gb _
      generalize Pr.passR p 0 = R at *
      rw [hl] at c2
      clear h
      go_enter Try.func37, Try.ntmps37
      go_wp2
      go_ret
      rw [HR.out]
      exact ⟨rfl, fun _ => ⟨_, _, HP.out⟩, hb⟩
    · have HR : Hid (Pr.passR p 0 = (8, Pr.zeroP)) := by show _ = _; unfold Pr.passR; rw [if_neg (by simp), if_pos h1]
      have hl : (0 : Int) < (p.opn.length : Int) := by have := List.length_pos_iff.2 h1; omega
      generalize Pr.passR p 0 = R at *
      clear h
      go_enter Try.func37, Try.ntmps37
      go_wp2
      go_ret
      rw [HR.out]
      exact ⟨rfl, fun h => absurd h (by decide), Below.refl _ _⟩
  · have HR : Hid (Pr.passR p op = (3, Pr.zeroP)) := by show _ = _; unfold Pr.passR; rw [if_pos h0]
    have h0' : (op == 0) = false := by simpa using h0
    generalize Pr.passR p op = R at *
    clear h
    go_enter Try.func37, Try.ntmps37
    go_wp2
    go_ret
    rw [HR.out]
    exact ⟨rfl, fun h => absurd h (by decide), Below.refl _ _⟩

theorem reject_any (w : World) (base g : Nat) (dv ov : Value) (p : Prg) (op : Int) (h : Pm w base g dv ov p) : Calls Try.prog 38 #[.pointer (some ⟨g, 0, none⟩), .int .i64 op] w (ActPost w base g (Pr.rejectR p op)) := by
  have c0 := h.c0
  have f0 := h.fz 0
  by_cases h0 : op = 0
  · subst h0
    have HR : Hid (Pr.rejectR p 0 = (0, ⟨4, p.done, p.opn, p.rework⟩)) := by show _ = _; unfold Pr.rejectR; rw [if_neg (by simp)]
    have HP := Lib.hid (h.state 4)
    have hb : Below base w (w.setCell ⟨g, 0, none⟩ (.int .i64 4)) := (Below.refl _ _).setCell h.gb _
    generalize Pr.rejectR p 0 = R at *
    clear h
    go_enter Try.func38, Try.ntmps38
    go_wp2
    go_ret
    rw [HR.out]
    exact ⟨rfl, fun _ => ⟨_, _, HP.out⟩, hb⟩
  · have HR : Hid (Pr.rejectR p op = (3, Pr.zeroP)) := by show _ = _; unfold Pr.rejectR; rw [if_pos h0]
    have h0' : (op == 0) = false := by simpa using h0
    generalize Pr.rejectR p op = R at *
    clear h
    go_enter Try.func38, Try.ntmps38
    go_wp2
    go_ret
    rw [HR.out]
    exact ⟨rfl, fun h => absurd h (by decide), Below.refl _ _⟩
end Go.Proofs.Ytcolekfjmhgldaa
