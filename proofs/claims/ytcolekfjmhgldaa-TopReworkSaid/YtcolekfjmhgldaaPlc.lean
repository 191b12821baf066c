/- The last events of each operation, along a run. -/
import Derived.Test.YtcolekfjmhgldaaPlb
namespace Go.Proofs.Ytcolekfjmhgldaa
open Go.RowKit
open Pr (Opn Prg Res)

theorem lastTo_app (es t : List (Int × Int)) (kd op : Int) : ∀ k, k ≤ es.length → lastTo (es ++ t) kd op k = lastTo es kd op k
  | 0, _ => rfl
  | k + 1, h => by
    rw [lastTo, lastTo, List.getElem?_append_left (by omega), lastTo_app es t kd op k (by omega)]
theorem lastI_snoc (es : List (Int × Int)) (e : Int × Int) (kd op : Int) : lastI (es ++ [e]) kd op = if e = (kd, op) then (es.length : Int) else lastI es kd op := by
  unfold lastI
  rw [List.length_append, List.length_singleton, lastTo, List.getElem?_append_right (Nat.le_refl _), Nat.sub_self]
  rw [lastTo_app es [e] kd op es.length (Nat.le_refl _)]
  show (if some e = some (kd, op) then _ else _) = _
  simp only [Option.some.injEq]
theorem lastTo_lt (es : List (Int × Int)) (kd op : Int) : ∀ k, lastTo es kd op k < (k : Int)
  | 0 => by rw [lastTo]; omega
  | k + 1 => by
    rw [lastTo]
    have := lastTo_lt es kd op k
    split <;> omega
theorem lastI_lt (es : List (Int × Int)) (kd op : Int) : lastI es kd op < (es.length : Int) := lastTo_lt es kd op es.length

/-- what a run says of the last events -/
def Ord (l : List Opn) (pre : List (Int × Int)) (p : Prg) : Prop :=
  (∀ b : Nat, b < l.length → ¬ (b : Int) ∈ p.opn → 0 ≤ lastI pre 1 b ∧ lastI pre 2 b < lastI pre 1 b ∧ ∀ a ∈ Pr.aft l b, lastI pre 1 a < lastI pre 1 b ∧ lastI pre 2 a < lastI pre 1 b) ∧ (p.state = 3 → p.opn = [])
theorem ord_run {l : List Opn} {most : Int} {es : List (Int × Int)} (h : (Pr.runR l es most).err = 0) : Ord l es (Pr.runR l es most).prg := by
  refine (run_ind (Ord l) (fun _ => ⟨fun b hb hn => absurd (mem_ids.2 (by omega)) hn, fun h => by simp [Pr.newP] at h⟩) ?_ es h).2.1
  rintro pre ⟨k, op⟩ p hi ⟨hO, hS⟩ h1
  dsimp only at h1 ⊢
  obtain ⟨h0, hv, hs3, hs4, hc⟩ := step_cases h1
  rcases hc with ⟨rfl, ho, hm, hw, e⟩ | ⟨rfl, ho, hm, e⟩ | ⟨rfl, _, hn, e⟩ | ⟨rfl, _, e⟩
  · rw [e]
    have hmem : ∀ x, x ∈ p.opn.erase op ↔ x ∈ p.opn ∧ x ≠ op := fun x => by
      have hn : p.opn.Nodup := hi.asc.imp (fun h => by omega)
      rw [hn.mem_erase_iff]
      exact and_comm
    have e1 : ∀ x, lastI (pre ++ [((1 : Int), op)]) 1 x = if op = x then (pre.length : Int) else lastI pre 1 x := fun x => by
      rw [lastI_snoc]
      by_cases hx : op = x
      · rw [if_pos hx, if_pos (by rw [hx])]
      · rw [if_neg hx, if_neg (by intro e; injection e with _ e; exact hx e)]
    have e2 : ∀ x, lastI (pre ++ [((1 : Int), op)]) 2 x = lastI pre 2 x := fun x => by rw [lastI_snoc, if_neg (by intro e; injection e with e _; omega)]
    refine ⟨fun b hb hn => ?_, fun hs => ?_⟩
    · have hn' : ¬ ((b : Int) ∈ p.opn ∧ (b : Int) ≠ op) := fun h => hn ((hmem _).2 h)
      rw [e1, e2]
      by_cases hbo : op = (b : Int)
      · rw [if_pos hbo]
        have := lastI_lt pre 2 b
        refine ⟨by omega, by omega, fun a ha => ?_⟩
        have hao : ¬ a ∈ p.opn := waitsB_false hw a (by rw [hbo, Int.toNat_natCast]; exact ha)
        rw [e1, e2, if_neg (show ¬ op = a from fun e => hao (by rw [← e]; exact hm))]
        exact ⟨lastI_lt _ _ _, lastI_lt _ _ _⟩
      · rw [if_neg hbo]
        have hbn : ¬ (b : Int) ∈ p.opn := fun h => hn' ⟨h, fun e => hbo e.symm⟩
        obtain ⟨g1, g2, g3⟩ := hO b hb hbn
        refine ⟨g1, g2, fun a ha => ?_⟩
        have hao := (hi.cl b hb hbn).2 a ha
        rw [e1, e2, if_neg (show ¬ op = a from fun e => hao (by rw [← e]; exact hm))]
        exact g3 a ha
    · have hs' : (if p.opn.erase op = [] then (1 : Int) else p.state) = 3 := hs
      split at hs'
      · omega
      · exact absurd hs' hs3
  · rw [e]
    have e1 : ∀ x, lastI (pre ++ [((2 : Int), op)]) 1 x = lastI pre 1 x := fun x => by rw [lastI_snoc, if_neg (by intro e; injection e with e _; omega)]
    have e2 : ∀ x, lastI (pre ++ [((2 : Int), op)]) 2 x = if op = x then (pre.length : Int) else lastI pre 2 x := fun x => by
      rw [lastI_snoc]
      by_cases hx : op = x
      · rw [if_pos hx, if_pos (by rw [hx])]
      · rw [if_neg hx, if_neg (by intro e; injection e with _ e; exact hx e)]
    refine ⟨fun b hb hn => ?_, fun hs => ?_⟩
    · have hn' : ¬ ((b : Int) ∈ p.opn ∨ (b : Int) = op ∨ Pr.folB l op b = true) := fun h => hn (mem_openD.2 ⟨by omega, by rw [Int.toNat_natCast]; exact h⟩)
      simp only [not_or] at hn'
      obtain ⟨g1, g2, g3⟩ := hO b hb hn'.1
      rw [e1, e2, if_neg (fun e => hn'.2.1 e.symm)]
      refine ⟨g1, g2, fun a ha => ?_⟩
      obtain ⟨h4, _⟩ := fol_pred h0 hb ha (by simpa using hn'.2.2)
      rw [e1, e2, if_neg (fun e => h4 e.symm)]
      exact g3 a ha
    · have hs' : (if most < p.rework + 1 then (4 : Int) else 2) = 3 := hs
      split at hs' <;> omega
  · rw [e]
    have e1 : ∀ kd x, kd ≠ 3 → lastI (pre ++ [((3 : Int), op)]) kd x = lastI pre kd x := fun kd x hk => by rw [lastI_snoc, if_neg (by intro e; injection e with e _; exact hk e.symm)]
    refine ⟨fun b hb hn2 => ?_, fun _ => hn⟩
    obtain ⟨g1, g2, g3⟩ := hO b hb hn2
    rw [e1 1 b (by decide), e1 2 b (by decide)]
    refine ⟨g1, g2, fun a ha => ?_⟩
    rw [e1 1 a (by decide), e1 2 a (by decide)]
    exact g3 a ha
  · rw [e]
    have e1 : ∀ kd x, kd ≠ 4 → lastI (pre ++ [((4 : Int), op)]) kd x = lastI pre kd x := fun kd x hk => by rw [lastI_snoc, if_neg (by intro e; injection e with e _; exact hk e.symm)]
    refine ⟨fun b hb hn2 => ?_, fun hs => absurd (show (4 : Int) = 3 from hs) (by decide)⟩
    obtain ⟨g1, g2, g3⟩ := hO b hb hn2
    rw [e1 1 b (by decide), e1 2 b (by decide)]
    refine ⟨g1, g2, fun a ha => ?_⟩
    rw [e1 1 a (by decide), e1 2 a (by decide)]
    exact g3 a ha
end Go.Proofs.Ytcolekfjmhgldaa
