/- What a run keeps. -/
import Derived.Test.YtcolekfjmhgldaaPla
namespace Go.Proofs.Ytcolekfjmhgldaa
open Go.RowKit
open Pr (Opn Prg Res)

/-- a progress as a run reaches it -/
structure Inv (l : List Opn) (p : Prg) : Prop where
  dl : p.done.length = l.length
  asc : p.opn.Pairwise (· < ·)
  rng : ∀ x ∈ p.opn, 0 ≤ x ∧ x < (l.length : Int)
  nn : ∀ x ∈ p.done, 0 ≤ x
  cl : ∀ b : Nat, b < l.length → ¬ (b : Int) ∈ p.opn → 1 ≤ p.done.getD b 0 ∧ ∀ a ∈ Pr.aft l b, ¬ a ∈ p.opn
theorem inv_new (l : List Opn) : Inv l (Pr.newP l) :=
  ⟨by simp [Pr.newP], ids_asc _, fun x hx => mem_ids.1 hx, fun x hx => by simp [Pr.newP, List.mem_replicate] at hx; omega, fun b hb hn => absurd (mem_ids.2 (by omega)) hn⟩

/-- how a step goes well -/
theorem step_cases {l : List Opn} {p : Prg} {k op most : Int} (h : (Pr.stepR l p k op most).1 = 0) :
    Pr.ordE l = 0 ∧ Pr.validB l p = true ∧ p.state ≠ 3 ∧ p.state ≠ 4 ∧
    ((k = 1 ∧ (0 ≤ op ∧ op < (l.length : Int)) ∧ op ∈ p.opn ∧ Pr.waitsB l p.opn op.toNat = false ∧ (Pr.stepR l p k op most).2 = ⟨if p.opn.erase op = [] then 1 else p.state, p.done.set op.toNat (p.done.getD op.toNat 0 + 1), p.opn.erase op, p.rework⟩) ∨
     (k = 2 ∧ (0 ≤ op ∧ op < (l.length : Int)) ∧ ¬ op ∈ p.opn ∧ (Pr.stepR l p k op most).2 = ⟨if most < p.rework + 1 then 4 else 2, p.done, Pr.openD l p op, p.rework + 1⟩) ∨
     (k = 3 ∧ op = 0 ∧ p.opn = [] ∧ (Pr.stepR l p k op most).2 = ⟨3, p.done, p.opn, p.rework⟩) ∨
     (k = 4 ∧ op = 0 ∧ (Pr.stepR l p k op most).2 = ⟨4, p.done, p.opn, p.rework⟩)) := by
  unfold Pr.stepR at h ⊢
  by_cases h0 : Pr.ordE l = 0
  · rw [if_neg (by rw [h0]; simp)] at h ⊢
    cases h1 : Pr.validB l p with
    | false => rw [h1, if_pos rfl] at h; cases h
    | true =>
      rw [h1] at h
      rw [if_neg (by simp)] at h ⊢
      by_cases h3 : p.state = 3 ∨ p.state = 4
      · rw [if_pos h3] at h; cases h
      rw [if_neg h3] at h ⊢
      refine ⟨h0, rfl, fun e => h3 (.inl e), fun e => h3 (.inr e), ?_⟩
      unfold Pr.actR at h ⊢
      by_cases k1 : k = 1
      · rw [if_pos k1] at h ⊢
        refine .inl ⟨k1, ?_⟩
        unfold Pr.doneR at h ⊢
        by_cases a1 : op < 0 ∨ (l.length : Int) ≤ op
        · rw [if_pos a1] at h; cases h
        rw [if_neg a1] at h ⊢
        by_cases a2 : ¬ op ∈ p.opn
        · rw [if_pos a2] at h; cases h
        rw [if_neg a2] at h ⊢
        by_cases a3 : Pr.waitsB l p.opn op.toNat = true
        · rw [if_pos a3] at h; cases h
        rw [if_neg a3]
        exact ⟨by omega, Classical.not_not.1 a2, by simpa using a3, rfl⟩
      rw [if_neg k1] at h ⊢
      by_cases k2 : k = 2
      · rw [if_pos k2] at h ⊢
        refine .inr (.inl ⟨k2, ?_⟩)
        unfold Pr.defectR at h ⊢
        by_cases a1 : op < 0 ∨ (l.length : Int) ≤ op
        · rw [if_pos a1] at h; cases h
        rw [if_neg a1] at h ⊢
        by_cases a2 : op ∈ p.opn
        · rw [if_pos a2] at h; cases h
        rw [if_neg a2]
        exact ⟨by omega, a2, rfl⟩
      rw [if_neg k2] at h ⊢
      by_cases k3 : k = 3
      · rw [if_pos k3] at h ⊢
        refine .inr (.inr (.inl ⟨k3, ?_⟩))
        unfold Pr.passR at h ⊢
        by_cases a1 : op ≠ 0
        · rw [if_pos a1] at h; cases h
        rw [if_neg a1] at h ⊢
        by_cases a2 : p.opn ≠ []
        · rw [if_pos a2] at h; cases h
        rw [if_neg a2]
        exact ⟨Classical.not_not.1 a1, Classical.not_not.1 a2, rfl⟩
      rw [if_neg k3] at h ⊢
      by_cases k4 : k = 4
      · rw [if_pos k4] at h ⊢
        refine .inr (.inr (.inr ⟨k4, ?_⟩))
        unfold Pr.rejectR at h ⊢
        by_cases a1 : op ≠ 0
        · rw [if_pos a1] at h; cases h
        rw [if_neg a1]
        exact ⟨Classical.not_not.1 a1, rfl⟩
      rw [if_neg k4] at h
      cases h
  · rw [if_pos h0] at h
    exact absurd h h0

theorem mem_openD {l : List Opn} {p : Prg} {op x : Int} : x ∈ Pr.openD l p op ↔ (0 ≤ x ∧ x < (l.length : Int)) ∧ (x ∈ p.opn ∨ x = op ∨ Pr.folB l op x.toNat = true) := by
  unfold Pr.openD
  rw [List.mem_filter, mem_ids]
  simp only [Bool.or_eq_true, decide_eq_true_eq]
  constructor
  · rintro ⟨h, (h1 | h1) | h1⟩
    · exact ⟨h, .inl h1⟩
    · exact ⟨h, .inr (.inl h1)⟩
    · exact ⟨h, .inr (.inr h1)⟩
  · rintro ⟨h, h1 | h1 | h1⟩
    · exact ⟨h, .inl (.inl h1)⟩
    · exact ⟨h, .inl (.inr h1)⟩
    · exact ⟨h, .inr h1⟩
theorem waitsB_false {l : List Opn} {opn : List Int} {i : Nat} (h : Pr.waitsB l opn i = false) : ∀ a ∈ Pr.aft l i, ¬ a ∈ opn := by
  unfold Pr.waitsB at h
  rw [List.any_eq_false] at h
  intro a ha
  simpa using h a ha
theorem inv_step {l : List Opn} {p : Prg} {k op most : Int} (hi : Inv l p) (h : (Pr.stepR l p k op most).1 = 0) : Inv l (Pr.stepR l p k op most).2 := by
  obtain ⟨h0, hv, hs3, hs4, hc⟩ := step_cases h
  rcases hc with ⟨_, ho, hm, hw, e⟩ | ⟨_, ho, hm, e⟩ | ⟨_, _, _, e⟩ | ⟨_, _, e⟩
  · rw [e]
    have hmem : ∀ x, x ∈ p.opn.erase op ↔ x ∈ p.opn ∧ x ≠ op := fun x => by
      have hn : p.opn.Nodup := hi.asc.imp (fun h => by omega)
      rw [hn.mem_erase_iff]
      exact and_comm
    refine ⟨by show (p.done.set _ _).length = _; rw [List.length_set]; exact hi.dl, (hi.asc.sublist List.erase_sublist), fun x hx => hi.rng x ((hmem x).1 hx).1, fun x hx => ?_, fun b hb hn => ?_⟩
    · have hx' : x ∈ p.done.set op.toNat (p.done.getD op.toNat 0 + 1) := hx
      rcases List.mem_or_eq_of_mem_set hx' with h1 | h1
      · exact hi.nn x h1
      · rw [h1]
        have hlt : op.toNat < p.done.length := by rw [hi.dl]; omega
        rw [List.getD_eq_getElem?_getD, List.getElem?_eq_getElem hlt]
        have := hi.nn _ (List.getElem_mem hlt)
        show 0 ≤ p.done[op.toNat] + 1
        omega
    · have hn' : ¬ ((b : Int) ∈ p.opn ∧ (b : Int) ≠ op) := fun h => hn ((hmem _).2 h)
      have hlt : op.toNat < p.done.length := by rw [hi.dl]; omega
      by_cases hb2 : (b : Int) = op
      · have e2 : op.toNat = b := by omega
        refine ⟨?_, fun a ha h2 => waitsB_false hw a (by rw [e2]; exact ha) ((hmem a).1 h2).1⟩
        show 1 ≤ (p.done.set op.toNat (p.done.getD op.toNat 0 + 1)).getD b 0
        rw [← e2, List.getD_eq_getElem?_getD, List.getElem?_set_self hlt, List.getD_eq_getElem?_getD, List.getElem?_eq_getElem hlt]
        have := hi.nn _ (List.getElem_mem hlt)
        show 1 ≤ p.done[op.toNat] + 1
        omega
      · have hbo : ¬ (b : Int) ∈ p.opn := fun h => hn' ⟨h, hb2⟩
        obtain ⟨h1, h2⟩ := hi.cl b hb hbo
        refine ⟨?_, fun a ha h3 => h2 a ha ((hmem a).1 h3).1⟩
        show 1 ≤ (p.done.set op.toNat (p.done.getD op.toNat 0 + 1)).getD b 0
        rw [List.getD_eq_getElem?_getD, List.getElem?_set_ne (by omega), ← List.getD_eq_getElem?_getD]
        exact h1
  · rw [e]
    refine ⟨hi.dl, openD_asc _ _ _, fun x hx => (mem_openD.1 hx).1, hi.nn, fun b hb hn => ?_⟩
    have hn' : ¬ ((b : Int) ∈ p.opn ∨ (b : Int) = op ∨ Pr.folB l op b = true) := fun h => hn (mem_openD.2 ⟨by omega, by rw [Int.toNat_natCast]; exact h⟩)
    simp only [not_or] at hn'
    obtain ⟨h1, h2⟩ := hi.cl b hb hn'.1
    refine ⟨h1, fun a ha h3 => ?_⟩
    obtain ⟨h4, h5⟩ := fol_pred h0 hb ha (by simpa using hn'.2.2)
    rcases (mem_openD.1 h3).2 with h6 | h6 | h6
    · exact h2 a ha h6
    · exact h4 h6
    · rw [h5] at h6; cases h6
  · rw [e]
    exact ⟨hi.dl, hi.asc, hi.rng, hi.nn, hi.cl⟩
  · rw [e]
    exact ⟨hi.dl, hi.asc, hi.rng, hi.nn, hi.cl⟩

/-- what holds of a beginning and is kept by steps holds of a run: over the events so far -/
theorem run_ind {l : List Opn} {most : Int} (I : List (Int × Int) → Prg → Prop) (h0 : Pr.ordE l = 0 → I [] (Pr.newP l))
    (hs : ∀ pre e p, Inv l p → I pre p → (Pr.stepR l p e.1 e.2 most).1 = 0 → I (pre ++ [e]) (Pr.stepR l p e.1 e.2 most).2) (es : List (Int × Int)) (h : (Pr.runR l es most).err = 0) : Inv l (Pr.runR l es most).prg ∧ I es (Pr.runR l es most).prg ∧ Pr.ordE l = 0 := by
  have key : ∀ (es pre : List (Int × Int)) (i : Nat) (p : Prg), Inv l p → I pre p → (Pr.runTo l most es i p).err = 0 → Inv l (Pr.runTo l most es i p).prg ∧ I (pre ++ es) (Pr.runTo l most es i p).prg := by
    intro es
    induction es with
    | nil => intro pre i p hi hI _; rw [List.append_nil]; exact ⟨hi, hI⟩
    | cons e es ih =>
      intro pre i p hi hI h
      rw [Pr.runTo] at h ⊢
      by_cases h1 : (Pr.stepR l p e.1 e.2 most).1 = 0
      · rw [if_pos h1] at h ⊢
        have := ih (pre ++ [e]) (i + 1) _ (inv_step hi h1) (hs pre e p hi hI h1) h
        rw [List.append_assoc] at this
        exact this
      · rw [if_neg h1] at h
        exact absurd h h1
  unfold Pr.runR at *
  by_cases h1 : Pr.ordE l = 0
  · rw [if_pos h1] at h ⊢
    have := key es [] 0 (Pr.newP l) (inv_new l) (h0 h1) h
    exact ⟨this.1, this.2, h1⟩
  · rw [if_neg h1] at h
    exact absurd h h1
theorem run_inv {l : List Opn} {most : Int} {es : List (Int × Int)} (h : (Pr.runR l es most).err = 0) : Inv l (Pr.runR l es most).prg ∧ Pr.ordE l = 0 :=
  let ⟨h1, _, h2⟩ := run_ind (fun _ _ => True) (fun _ => trivial) (fun _ _ _ _ _ _ => trivial) es h
  ⟨h1, h2⟩
theorem run_bad {l : List Opn} {most : Int} {es : List (Int × Int)} (h : (Pr.runR l es most).err ≠ 0) : (Pr.runR l es most).prg = Pr.zeroP := by
  have key : ∀ (es : List (Int × Int)) (i : Nat) (p : Prg), (Pr.runTo l most es i p).err ≠ 0 → (Pr.runTo l most es i p).prg = Pr.zeroP := by
    intro es
    induction es with
    | nil => intro i p h; exact absurd rfl h
    | cons e es ih =>
      intro i p h
      rw [Pr.runTo] at h ⊢
      split
      · rename_i h1; rw [if_pos h1] at h; exact ih _ _ h
      · rfl
  unfold Pr.runR at *
  split
  · rename_i h1; rw [if_pos h1] at h; exact key _ _ _ h
  · rfl
end Go.Proofs.Ytcolekfjmhgldaa
