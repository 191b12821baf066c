/- When a garment is rejected, along a run; what a run reaches is a progress. -/
import Derived.Test.YtcolekfjmhgldaaPlb
namespace Go.Proofs.Ytcolekfjmhgldaa
open Go.RowKit
open Pr (Opn Prg Res)

/-- the last event rejects -/
def rejB (es : List (Int × Int)) : Bool := match es.getLast? with
  | some e => decide (e.1 = 4)
  | none => false
theorem rejB_snoc (es : List (Int × Int)) (e : Int × Int) : rejB (es ++ [e]) = decide (e.1 = 4) := by
  unfold rejB
  rw [List.getLast?_concat]
def Ends (most : Int) (pre : List (Int × Int)) (p : Prg) : Prop :=
  (p.state = 4 ↔ (rejB pre = true ∨ (0 < p.rework ∧ most < p.rework))) ∧ (1 ≤ p.state ∧ p.state ≤ 4) ∧ (p.state = 2 → p.opn ≠ []) ∧ (0 ≤ p.rework ∧ p.rework ≤ (pre.length : Int)) ∧ ∀ x ∈ p.done, x ≤ (pre.length : Int)
theorem ends_run {l : List Opn} {most : Int} {es : List (Int × Int)} (h : (Pr.runR l es most).err = 0) : Ends most es (Pr.runR l es most).prg := by
  refine (run_ind (Ends most) (fun _ => ⟨?_, ?_, ?_, ?_, ?_⟩) ?_ es h).2.1
  · show (1 : Int) = 4 ↔ (false = true ∨ ((0 : Int) < 0 ∧ most < 0))
    constructor
    · intro h; omega
    · rintro (h | h)
      · cases h
      · omega
  · show (1 : Int) ≤ 1 ∧ (1 : Int) ≤ 4
    omega
  · intro h
    have : (1 : Int) = 2 := h
    omega
  · show (0 : Int) ≤ 0 ∧ (0 : Int) ≤ ((0 : Nat) : Int)
    omega
  · intro x hx
    have : x ∈ List.replicate l.length (0 : Int) := hx
    rw [List.mem_replicate] at this
    show x ≤ ((0 : Nat) : Int)
    omega
  · rintro pre ⟨k, op⟩ p hi ⟨h4, hs, h2, hr, hd⟩ h1
    dsimp only at h1 ⊢
    obtain ⟨h0, hv, hs3, hs4, hc⟩ := step_cases h1
    have hn4 : ¬ (rejB pre = true ∨ (0 < p.rework ∧ most < p.rework)) := fun h => hs4 (h4.2 h)
    have hlen : ((pre ++ [(k, op)]).length : Int) = (pre.length : Int) + 1 := by rw [List.length_append]; rfl
    unfold Ends
    rw [hlen, rejB_snoc]
    have hd2 : ∀ x ∈ p.done, x ≤ (pre.length : Int) + 1 := fun x hx => by have := hd x hx; omega
    rcases hc with ⟨rfl, ho, hm, hw, e⟩ | ⟨rfl, ho, hm, e⟩ | ⟨rfl, _, hn, e⟩ | ⟨rfl, _, e⟩
    · rw [e]
      dsimp only
      by_cases hE : p.opn.erase op = []
      · rw [if_pos hE]
        refine ⟨⟨fun h => by omega, fun h => ?_⟩, by omega, fun h => by omega, by omega, ?_⟩
        · rcases h with h | h
          · simp at h
          · exact absurd (.inr h) hn4
        · intro x hx
          rcases List.mem_or_eq_of_mem_set hx with h3 | h3
          · exact hd2 x h3
          · rw [h3]
            have hlt : op.toNat < p.done.length := by rw [hi.dl]; omega
            rw [List.getD_eq_getElem?_getD, List.getElem?_eq_getElem hlt]
            have := hd _ (List.getElem_mem hlt)
            show p.done[op.toNat] + 1 ≤ _
            omega
      · rw [if_neg hE]
        refine ⟨⟨fun h => absurd h hs4, fun h => ?_⟩, hs, fun _ => hE, by omega, ?_⟩
        · rcases h with h | h
          · simp at h
          · exact absurd (.inr h) hn4
        · intro x hx
          rcases List.mem_or_eq_of_mem_set hx with h3 | h3
          · exact hd2 x h3
          · rw [h3]
            have hlt : op.toNat < p.done.length := by rw [hi.dl]; omega
            rw [List.getD_eq_getElem?_getD, List.getElem?_eq_getElem hlt]
            have := hd _ (List.getElem_mem hlt)
            show p.done[op.toNat] + 1 ≤ _
            omega
    · rw [e]
      dsimp only
      have hne : Pr.openD l p op ≠ [] := fun hE => by
        have : op ∈ Pr.openD l p op := mem_openD.2 ⟨ho, .inr (.inl rfl)⟩
        rw [hE] at this
        simp at this
      by_cases hmo : most < p.rework + 1
      · rw [if_pos hmo]
        exact ⟨⟨fun _ => .inr ⟨by omega, hmo⟩, fun _ => rfl⟩, by omega, fun _ => hne, by omega, hd2⟩
      · rw [if_neg hmo]
        refine ⟨⟨fun h => by omega, fun h => ?_⟩, by omega, fun _ => hne, by omega, hd2⟩
        rcases h with h | h
        · simp at h
        · omega
    · rw [e]
      dsimp only
      refine ⟨⟨fun h => by omega, fun h => ?_⟩, by omega, fun h => by omega, by omega, hd2⟩
      rcases h with h | h
      · simp at h
      · exact absurd (.inr h) hn4
    · rw [e]
      dsimp only
      exact ⟨⟨fun _ => .inl (by simp), fun _ => rfl⟩, by omega, fun h => by omega, by omega, hd2⟩

theorem ascB_of {n : Nat} : ∀ {l : List Int} {last : Int}, l.Pairwise (· < ·) → (∀ x ∈ l, last < x ∧ x < (n : Int)) → Pr.ascB n last l = true
  | [], _, _, _ => rfl
  | x :: r, last, h, hr => by
    rw [Pr.ascB]
    obtain ⟨h1, h2⟩ := List.pairwise_cons.1 h
    obtain ⟨h3, h4⟩ := hr x List.mem_cons_self
    rw [decide_eq_true h3, decide_eq_true h4, ascB_of h2 (fun y hy => ⟨h1 y hy, (hr y (List.mem_cons_of_mem _ hy)).2⟩)]
    rfl
theorem cntB_of {l : List Opn} {opn : List Int} : ∀ {d : List Int} {i : Nat}, (∀ (j : Nat) (x : Int), d[j]? = some x → (0 ≤ x ∧ x ≤ 1073741824) ∧ (((i + j : Nat) : Int) ∈ opn ∨ (x ≠ 0 ∧ Pr.waitsB l opn (i + j) = false))) → Pr.cntB l opn i d = true
  | [], _, _ => rfl
  | n :: r, i, h => by
    rw [Pr.cntB]
    obtain ⟨⟨h1, h2⟩, h3⟩ := h 0 n rfl
    rw [Nat.add_zero] at h3
    have h4 : Pr.cntB l opn (i + 1) r = true := cntB_of (fun j x hj => by
      have := h (j + 1) x (by simpa using hj)
      rw [show i + (j + 1) = i + 1 + j by omega] at this
      exact this)
    rw [decide_eq_true h1, decide_eq_true h2, h4]
    rcases h3 with h3 | ⟨h3, h5⟩
    · rw [decide_eq_true h3]; rfl
    · rw [decide_eq_true h3, h5]; simp
theorem valid_run {l : List Opn} {most : Int} {es : List (Int × Int)} (h : (Pr.runR l es most).err = 0) (hl : es.length ≤ 1000) : Pr.validB l (Pr.runR l es most).prg = true := by
  obtain ⟨hi, _⟩ := run_inv h
  obtain ⟨_, hs, _, hr, hd⟩ := ends_run h
  generalize (Pr.runR l es most).prg = p at *
  have hol : p.opn.length ≤ l.length := by
    have := nd_le (s := p.opn) (t := Pr.ids l.length) (hi.asc.imp (fun h => by omega)) (fun x hx => mem_ids.2 (hi.rng x hx))
    rw [ids_length] at this
    exact this
  have h1 : Pr.ascB l.length (-1) p.opn = true := ascB_of hi.asc (fun x hx => by have := hi.rng x hx; omega)
  have h2 : Pr.cntB l p.opn 0 p.done = true := cntB_of (fun j x hj => by
    rw [Nat.zero_add]
    have hm := List.mem_of_getElem? hj
    have := hi.nn x hm
    have := hd x hm
    refine ⟨by omega, ?_⟩
    by_cases ho : (j : Int) ∈ p.opn
    · exact .inl ho
    · have hjl : j < l.length := by rw [← hi.dl]; exact (List.getElem?_eq_some_iff.1 hj).1
      obtain ⟨h3, h4⟩ := hi.cl j hjl ho
      rw [List.getD_eq_getElem?_getD, hj] at h3
      refine .inr ⟨by have : 1 ≤ x := h3; omega, ?_⟩
      unfold Pr.waitsB
      rw [List.any_eq_false]
      intro a ha
      simpa using h4 a ha)
  unfold Pr.validB
  rw [decide_eq_true hs.1, decide_eq_true hs.2, decide_eq_true hi.dl, decide_eq_true hol, decide_eq_true hr.1, decide_eq_true (show p.rework ≤ 1073741824 by omega), h1, h2]
  rfl
/-- a garment that passed or was rejected has no further events -/
theorem ended_step {l : List Opn} {most : Int} {es : List (Int × Int)} (h : (Pr.runR l es most).err = 0) (hl : es.length ≤ 1000) (hs : (Pr.runR l es most).prg.state = 3 ∨ (Pr.runR l es most).prg.state = 4) (k op m : Int) : Pr.stepR l (Pr.runR l es most).prg k op m = (8, Pr.zeroP) := by
  obtain ⟨_, ho⟩ := run_inv h
  unfold Pr.stepR
  rw [if_neg (by rw [ho]; simp), valid_run h hl, if_neg (by simp), if_pos hs]
theorem ended_run {l : List Opn} {most : Int} {es : List (Int × Int)} (h : (Pr.runR l es most).err = 0) (hl : es.length ≤ 1000) (hs : (Pr.runR l es most).prg.state = 3 ∨ (Pr.runR l es most).prg.state = 4) (k op : Int) : Pr.runR l (es ++ [(k, op)]) most = ⟨8, Pr.zeroP, es.length⟩ := by
  rw [runR_snoc]
  unfold thenStep
  rw [if_pos h, ended_step h hl hs k op most]
  rfl
end Go.Proofs.Ytcolekfjmhgldaa
