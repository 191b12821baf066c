/- Runs, plainly; what a region that steps holds. -/
import Derived.Test.YtcolekfjmhgldaaY
namespace Go.Proofs.Ytcolekfjmhgldaa
open Go.RowKit
open Pr (Opn Prg Res)

theorem stepR_zero {l : List Opn} {p : Prg} {k op most : Int} (h : (Pr.stepR l p k op most).1 ≠ 0) : (Pr.stepR l p k op most).2 = Pr.zeroP := by
  unfold Pr.stepR at *
  split
  · rfl
  · rename_i h0
    rw [if_neg h0] at h
    split
    · rfl
    · rename_i h1
      rw [if_neg h1] at h
      split
      · rfl
      · rename_i h2
        rw [if_neg h2] at h
        unfold Pr.actR at *
        split
        · rename_i k1; rw [if_pos k1] at h; exact doneR_zero _ _ _ h
        · rename_i k1
          rw [if_neg k1] at h
          split
          · rename_i k2; rw [if_pos k2] at h; exact defectR_zero _ _ _ _ h
          · rename_i k2
            rw [if_neg k2] at h
            split
            · rename_i k3; rw [if_pos k3] at h; exact passR_zero _ _ h
            · rename_i k3
              rw [if_neg k3] at h
              split
              · rename_i k4; rw [if_pos k4] at h; exact rejectR_zero _ _ h
              · rfl
def thenStep (l : List Opn) (most : Int) (r : Res) (e : Int × Int) (n : Nat) : Res :=
  if r.err = 0 then (if (Pr.stepR l r.prg e.1 e.2 most).1 = 0 then ⟨0, (Pr.stepR l r.prg e.1 e.2 most).2, 0⟩ else ⟨(Pr.stepR l r.prg e.1 e.2 most).1, Pr.zeroP, n⟩) else r
theorem runTo_snoc (l : List Opn) (most : Int) (e : Int × Int) : ∀ (es : List (Int × Int)) (i : Nat) (p : Prg), Pr.runTo l most (es ++ [e]) i p = thenStep l most (Pr.runTo l most es i p) e (i + es.length)
  | [], i, p => by
    show Pr.runTo l most [e] i p = _
    unfold thenStep
    rw [Pr.runTo, Pr.runTo, if_pos rfl]
    split
    · rw [Pr.runTo]
    · simp
  | a :: es, i, p => by
    show Pr.runTo l most (a :: (es ++ [e])) i p = _
    rw [Pr.runTo, Pr.runTo]
    split
    · rw [runTo_snoc l most e es]
      congr 1
      simp only [List.length_cons]
      omega
    · rename_i h
      unfold thenStep
      rw [if_neg h]
theorem runR_snoc (l : List Opn) (most : Int) (e : Int × Int) (es : List (Int × Int)) : Pr.runR l (es ++ [e]) most = thenStep l most (Pr.runR l es most) e es.length := by
  unfold Pr.runR
  split
  · rw [runTo_snoc, Nat.zero_add]
  · rename_i h
    unfold thenStep
    rw [if_neg h]
theorem runTo_len {l : List Opn} {most : Int} : ∀ (es : List (Int × Int)) (i : Nat) (p : Prg), Ln l p → (Pr.runTo l most es i p).err = 0 → Ln l (Pr.runTo l most es i p).prg
  | [], _, _, h, _ => h
  | e :: es, i, p, h, h0 => by
    rw [Pr.runTo] at h0 ⊢
    split at h0
    · rename_i h1
      rw [if_pos h1]
      exact runTo_len es _ _ (stepR_len h1) h0
    · rename_i h1
      exact absurd h0 h1
theorem runR_len {l : List Opn} {most : Int} {es : List (Int × Int)} (h : (Pr.runR l es most).err = 0) : Ln l (Pr.runR l es most).prg := by
  unfold Pr.runR at *
  split
  · rename_i h0
    rw [if_pos h0] at h
    exact runTo_len _ _ _ (newP_len l) h
  · rename_i h0
    rw [if_neg h0] at h
    exact absurd h h0
theorem snoc_of {es : List (Int × Int)} {k : Nat} {e : Int × Int} (hk : es.length = k + 1) (he : es[k]? = some e) : es = es.take k ++ [e] := by
  have h := List.take_add_one (l := es) (i := k)
  rw [he, List.take_of_length_le (by omega)] at h
  exact h

abbrev HeldS (W0 : World) (g : Nat) (st : Int) (dv ov : Value) (rw : Int) (b o : Nat) (k1 k2 : Int) (w' : World) : Prop :=
  w'.cell? ⟨g, 0, none⟩ = some (.int .i64 st) ∧ w'.cell? ⟨g, 1, none⟩ = some dv ∧ w'.cell? ⟨g, 2, none⟩ = some ov ∧ w'.cell? ⟨g, 3, none⟩ = some (.int .i64 rw) ∧ w'.cell? ⟨b, o, none⟩ = some (.int .i64 k1) ∧ w'.cell? ⟨b, o + 1, none⟩ = some (.int .i64 k2) ∧ Below W0.heap.size W0 w'
theorem HeldS.keep {W0 W W' : World} {g b o : Nat} {st : Int} {dv ov : Value} {rw k1 k2 : Int} (hg : g < W0.heap.size) (hb : b < W0.heap.size) (hbn : Below W.heap.size W W') (h : HeldS W0 g st dv ov rw b o k1 k2 W) : HeldS W0 g st dv ov rw b o k1 k2 W' := by
  obtain ⟨h1, h2, h3, h4, h5, h6, h7⟩ := h
  have hk : ∀ o, W'.cell? ⟨g, o, none⟩ = W.cell? ⟨g, o, none⟩ := fun o => hbn.cell (p := ⟨g, o, none⟩) (Nat.lt_of_lt_of_le hg h7.size)
  have hk2 : ∀ o, W'.cell? ⟨b, o, none⟩ = W.cell? ⟨b, o, none⟩ := fun o => hbn.cell (p := ⟨b, o, none⟩) (Nat.lt_of_lt_of_le hb h7.size)
  exact ⟨(hk _).trans h1, (hk _).trans h2, (hk _).trans h3, (hk _).trans h4, (hk2 _).trans h5, (hk2 _).trans h6, h7.trans (hbn.mono h7.size)⟩
theorem HeldS.set {W0 W : World} {g b o G j : Nat} {st : Int} {dv ov : Value} {rw k1 k2 : Int} (hG : W0.heap.size ≤ G) (hg : g < W0.heap.size) (hb : b < W0.heap.size) (u : Value) (h : HeldS W0 g st dv ov rw b o k1 k2 W) : HeldS W0 g st dv ov rw b o k1 k2 (W.setCell ⟨G, j, none⟩ u) := by
  obtain ⟨h1, h2, h3, h4, h5, h6, h7⟩ := h
  have hk : ∀ o, (W.setCell ⟨G, j, none⟩ u).cell? ⟨g, o, none⟩ = W.cell? ⟨g, o, none⟩ := fun o => World.cell?_setCell_other _ _ _ _ (fun e => by injection e; omega)
  have hk2 : ∀ o, (W.setCell ⟨G, j, none⟩ u).cell? ⟨b, o, none⟩ = W.cell? ⟨b, o, none⟩ := fun o => World.cell?_setCell_other _ _ _ _ (fun e => by injection e; omega)
  exact ⟨(hk _).trans h1, (hk _).trans h2, (hk _).trans h3, (hk _).trans h4, (hk2 _).trans h5, (hk2 _).trans h6, b_set h7 hG _ _⟩

end Go.Proofs.Ytcolekfjmhgldaa
