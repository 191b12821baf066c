/- The last defect that concerns an operation, along a run; where a run stops. -/
import Derived.Test.YtcolekfjmhgldaaPlc
namespace Go.Proofs.Ytcolekfjmhgldaa
open Go.RowKit
open Pr (Opn Prg Res)

/-- a defect of operation a or of one that precedes it -/
def hitB (l : List Opn) (a : Nat) (e : Int × Int) : Bool := decide (e.1 = 2) && (Pr.folB l e.2 a || decide (e.2 = (a : Int)))
def badTo (l : List Opn) (a : Nat) (es : List (Int × Int)) : Nat → Int
  | 0 => -1
  | k + 1 => match es[k]? with
    | some e => if hitB l a e = true then (k : Int) else badTo l a es k
    | none => badTo l a es k
def badI (l : List Opn) (a : Nat) (es : List (Int × Int)) : Int := badTo l a es es.length
theorem badTo_succ {l : List Opn} {a k : Nat} {es : List (Int × Int)} {e : Int × Int} (h : es[k]? = some e) : badTo l a es (k + 1) = if hitB l a e = true then (k : Int) else badTo l a es k := by rw [badTo, h]
theorem badTo_app (l : List Opn) (a : Nat) (es t : List (Int × Int)) : ∀ k, k ≤ es.length → badTo l a (es ++ t) k = badTo l a es k
  | 0, _ => rfl
  | k + 1, h => by
    have he : es[k]? = some es[k] := List.getElem?_eq_getElem (by omega)
    rw [badTo_succ (es := es ++ t) (e := es[k]) (by rw [List.getElem?_append_left (by omega)]; exact he), badTo_succ he, badTo_app l a es t k (by omega)]
theorem badI_snoc (l : List Opn) (a : Nat) (es : List (Int × Int)) (e : Int × Int) : badI l a (es ++ [e]) = if hitB l a e = true then (es.length : Int) else badI l a es := by
  unfold badI
  rw [List.length_append, List.length_singleton, badTo_succ (es := es ++ [e]) (e := e) (by rw [List.getElem?_append_right (Nat.le_refl _), Nat.sub_self]; rfl), badTo_app l a es [e] es.length (Nat.le_refl _)]
theorem badTo_lt (l : List Opn) (a : Nat) (es : List (Int × Int)) : ∀ k, badTo l a es k < (k : Int)
  | 0 => by rw [badTo]; omega
  | k + 1 => by
    have := badTo_lt l a es k
    rw [badTo]
    split
    · split <;> omega
    · omega
theorem badI_lt (l : List Opn) (a : Nat) (es : List (Int × Int)) : badI l a es < (es.length : Int) := badTo_lt l a es es.length

def Bad (l : List Opn) (pre : List (Int × Int)) (p : Prg) : Prop :=
  (∀ b : Nat, b < l.length → ¬ (b : Int) ∈ p.opn → badI l b pre < lastI pre 1 b) ∧ ∀ e ∈ pre, e.1 = 2 → 0 ≤ e.2 ∧ e.2 < (l.length : Int)
theorem bad_run {l : List Opn} {most : Int} {es : List (Int × Int)} (h : (Pr.runR l es most).err = 0) : Bad l es (Pr.runR l es most).prg := by
  refine (run_ind (Bad l) (fun _ => ⟨fun b hb hn => absurd (mem_ids.2 (by omega)) hn, by simp⟩) ?_ es h).2.1
  rintro pre ⟨k, op⟩ p hi ⟨hO, hR⟩ h1
  dsimp only at h1 ⊢
  obtain ⟨h0, hv, hs3, hs4, hc⟩ := step_cases h1
  have hR2 : (k = 2 → 0 ≤ op ∧ op < (l.length : Int)) → ∀ e ∈ pre ++ [(k, op)], e.1 = 2 → 0 ≤ e.2 ∧ e.2 < (l.length : Int) := fun hh e he h1 => by
    rcases List.mem_append.1 he with he | he
    · exact hR e he h1
    · rw [List.mem_singleton.1 he] at h1 ⊢
      exact hh h1
  have hnh : k ≠ 2 → ∀ b, badI l b (pre ++ [(k, op)]) = badI l b pre := fun hk b => by
    rw [badI_snoc, if_neg]
    unfold hitB
    rw [decide_eq_false hk]
    simp
  have hnl : k ≠ 1 → ∀ b, lastI (pre ++ [(k, op)]) 1 b = lastI pre 1 b := fun hk b => by
    rw [lastI_snoc, if_neg (by intro e; injection e with e _; exact hk e)]
  rcases hc with ⟨rfl, ho, hm, hw, e⟩ | ⟨rfl, ho, hm, e⟩ | ⟨rfl, _, hn, e⟩ | ⟨rfl, _, e⟩
  · rw [e]
    have hmem : ∀ x, x ∈ p.opn.erase op ↔ x ∈ p.opn ∧ x ≠ op := fun x => by
      have hn : p.opn.Nodup := hi.asc.imp (fun h => by omega)
      rw [hn.mem_erase_iff]
      exact and_comm
    refine ⟨fun b hb hn => ?_, hR2 (fun h => absurd h (by decide))⟩
    have hn' : ¬ ((b : Int) ∈ p.opn ∧ (b : Int) ≠ op) := fun h => hn ((hmem _).2 h)
    rw [hnh (by decide), lastI_snoc]
    by_cases hbo : op = (b : Int)
    · rw [if_pos (by rw [hbo])]
      exact badI_lt _ _ _
    · rw [if_neg (by intro e; injection e with _ e; exact hbo e)]
      exact hO b hb (fun h => hn' ⟨h, fun e => hbo e.symm⟩)
  · rw [e]
    refine ⟨fun b hb hn => ?_, hR2 (fun _ => ho)⟩
    have hn' : ¬ ((b : Int) ∈ p.opn ∨ (b : Int) = op ∨ Pr.folB l op b = true) := fun h => hn (mem_openD.2 ⟨by omega, by rw [Int.toNat_natCast]; exact h⟩)
    simp only [not_or] at hn'
    rw [hnl (by decide), badI_snoc, if_neg]
    · exact hO b hb hn'.1
    · unfold hitB
      have h5 : Pr.folB l op b = false := by simpa using hn'.2.2
      have h6 : decide (op = (b : Int)) = false := decide_eq_false (fun e => hn'.2.1 e.symm)
      show ¬ (decide ((2 : Int) = 2) && (Pr.folB l op b || decide (op = (b : Int)))) = true
      rw [h5, h6]
      simp
  · rw [e]
    refine ⟨fun b hb hn2 => ?_, hR2 (fun h => absurd h (by decide))⟩
    rw [hnh (by decide), hnl (by decide)]
    exact hO b hb hn2
  · rw [e]
    refine ⟨fun b hb hn2 => ?_, hR2 (fun h => absurd h (by decide))⟩
    rw [hnh (by decide), hnl (by decide)]
    exact hO b hb hn2
/-- where a run stops -/
theorem run_idx {l : List Opn} {most : Int} {es : List (Int × Int)} (h : (Pr.runR l es most).err ≠ 0) : 0 ≤ (Pr.runR l es most).idx ∧ (Pr.runR l es most).idx < max (es.length : Int) 1 := by
  have key : ∀ (es : List (Int × Int)) (i : Nat) (p : Prg), (Pr.runTo l most es i p).err ≠ 0 → (i : Int) ≤ (Pr.runTo l most es i p).idx ∧ (Pr.runTo l most es i p).idx < (i : Int) + (es.length : Int) := by
    intro es
    induction es with
    | nil => intro i p h; exact absurd rfl h
    | cons e es ih =>
      intro i p h
      rw [Pr.runTo] at h ⊢
      simp only [List.length_cons]
      split
      · rename_i h1
        rw [if_pos h1] at h
        have := ih _ _ h
        omega
      · show (i : Int) ≤ (i : Int) ∧ (i : Int) < _
        omega
  unfold Pr.runR at *
  split
  · rename_i h1
    rw [if_pos h1] at h
    have := key _ _ _ h
    omega
  · show (0 : Int) ≤ 0 ∧ (0 : Int) < _
    omega
end Go.Proofs.Ytcolekfjmhgldaa
