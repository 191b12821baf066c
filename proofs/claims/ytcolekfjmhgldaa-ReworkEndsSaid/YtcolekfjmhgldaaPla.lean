/- Plain laws: the order is topological; what follows an operation; what a step keeps. -/
import Derived.Test.YtcolekfjmhgldaaZ
namespace Go.Proofs.Ytcolekfjmhgldaa
open Go.RowKit
open Pr (Opn Prg Res)

/-- an order in which each operation stands after its predecessors -/
structure Top (l : List Opn) (od : List Int) : Prop where
  nd : od.Nodup
  rg : ∀ x ∈ od, 0 ≤ x ∧ x < (l.length : Int)
  bf : ∀ (k : Nat) (i : Int), od[k]? = some i → ∀ p ∈ Pr.aft l i.toNat, p ∈ od.take k
theorem pickTo_ready {l : List Opn} {out : List Int} : ∀ (f i j : Nat), Pr.pickTo l out f i = some j → Pr.readyB l out j = true
  | 0, i, j, h => by simp [Pr.pickTo] at h
  | f + 1, i, j, h => by
    rw [Pr.pickTo] at h
    split at h
    · rename_i h1; injection h with h; subst h; exact h1
    · exact pickTo_ready f (i + 1) j h
theorem top_snoc {l : List Opn} {od : List Int} {i : Nat} (h : Top l od) (hi : i < l.length) (hr : Pr.readyB l od i = true) : Top l (od ++ [(i : Int)]) := by
  unfold Pr.readyB at hr
  simp only [Bool.and_eq_true, Bool.not_eq_true', decide_eq_false_iff_not, List.all_eq_true, decide_eq_true_eq] at hr
  refine ⟨?_, ?_, ?_⟩
  · rw [List.nodup_append]
    exact ⟨h.nd, by simp, fun a ha b hb => by rw [List.mem_singleton.1 hb]; exact fun e => hr.1 (e ▸ ha)⟩
  · intro x hx
    rcases List.mem_append.1 hx with hx | hx
    · exact h.rg x hx
    · rw [List.mem_singleton.1 hx]; omega
  · intro k x hx p hp
    rcases Nat.lt_or_ge k od.length with hk | hk
    · rw [List.getElem?_append_left hk] at hx
      rw [List.take_append_of_le_length (by omega)]
      exact h.bf k x hx p hp
    · rw [List.getElem?_append_right hk] at hx
      have hk0 : k - od.length = 0 := by
        rcases Nat.eq_zero_or_pos (k - od.length) with e | e
        · exact e
        · rw [List.getElem?_eq_none (by simp; omega)] at hx; cases hx
      rw [hk0] at hx
      simp at hx
      subst hx
      rw [Int.toNat_natCast] at hp
      have hkl : k = od.length := by omega
      rw [hkl, List.take_left]
      exact hr.2 p hp
theorem greedy_top {l : List Opn} : ∀ (f : Nat) (od : List Int), Top l od → Top l (Pr.greedy l f od)
  | 0, od, h => h
  | f + 1, od, h => by
    rw [Pr.greedy]
    split
    · rename_i i hi
      exact greedy_top f _ (top_snoc h (pick_lt hi) (pickTo_ready _ _ _ hi))
    · exact h
theorem srt_top (l : List Opn) : Top l (Pr.srt l) := greedy_top _ _ ⟨by simp, by simp, fun k i h => by simp at h⟩
theorem nd_le : ∀ {s t : List Int}, s.Nodup → (∀ x ∈ s, x ∈ t) → s.length ≤ t.length
  | [], _, _, _ => Nat.zero_le _
  | x :: s, t, hn, hs => by
    rw [List.nodup_cons] at hn
    have hx : x ∈ t := hs x (by simp)
    have := nd_le (s := s) (t := t.erase x) hn.2 (fun y hy => (List.mem_erase_of_ne (show y ≠ x from fun e => hn.1 (by rw [← e]; exact hy))).2 (hs y (List.mem_cons_of_mem _ hy)))
    rw [List.length_erase_of_mem hx] at this
    have := List.length_pos_of_mem hx
    simp only [List.length_cons]
    omega
theorem srt_mem {l : List Opn} (h : Pr.ordE l = 0) {b : Nat} (hb : b < l.length) : (b : Int) ∈ Pr.srt l := by
  obtain ⟨_, _, hl⟩ := ordE_zero h
  have ht := srt_top l
  have hsub : Pr.srt l ⊆ Pr.ids l.length := fun x hx => mem_ids.2 (ht.rg x hx)
  refine Classical.byContradiction fun hn => ?_
  have h2 := nd_le (s := (b : Int) :: Pr.srt l) (t := Pr.ids l.length) (List.nodup_cons.2 ⟨hn, ht.nd⟩) (fun x hx => by
    rcases List.mem_cons.1 hx with rfl | hx
    · exact mem_ids.2 (by omega)
    · exact hsub hx)
  rw [ids_length, List.length_cons] at h2
  omega

theorem metStep_length (l : List Opn) (a : Int) (m : List Bool) (i : Int) : (Pr.metStep l a m i).length = m.length := by
  unfold Pr.metStep
  split
  · rw [List.length_set]
  · rfl
theorem met_length (l : List Opn) (a : Int) : ∀ (od : List Int) (m : List Bool), (od.foldl (Pr.metStep l a) m).length = m.length
  | [], _ => rfl
  | i :: od, m => by
    show (od.foldl (Pr.metStep l a) (Pr.metStep l a m i)).length = _
    rw [met_length l a od, metStep_length]
theorem metStep_other {l : List Opn} {a : Int} {m : List Bool} {i : Int} {j : Nat} (h : i.toNat ≠ j) : (Pr.metStep l a m i).getD j false = m.getD j false := by
  unfold Pr.metStep
  split
  · rw [List.getD_eq_getElem?_getD, List.getD_eq_getElem?_getD, List.getElem?_set_ne h]
  · rfl
theorem metStep_self {l : List Opn} {a : Int} {m : List Bool} {i : Int} (hi : i.toNat < m.length) (h0 : m.getD i.toNat false = false) :
    (Pr.metStep l a m i).getD i.toNat false = (Pr.aft l i.toNat).any (fun p => decide (p = a) || m.getD p.toNat false) := by
  unfold Pr.metStep
  split
  · rename_i h
    rw [h, List.getD_eq_getElem?_getD, List.getElem?_set_self hi]
    rfl
  · rename_i h
    rw [h0]
    exact (Bool.eq_false_iff.2 h).symm
/-- what is met after k steps -/
def metK (l : List Opn) (od : List Int) (a : Int) (k : Nat) : List Bool := (od.take k).foldl (Pr.metStep l a) (List.replicate l.length false)
theorem metK_succ {l : List Opn} {od : List Int} {a : Int} {k : Nat} {i : Int} (h : od[k]? = some i) : metK l od a (k + 1) = Pr.metStep l a (metK l od a k) i := by
  unfold metK
  rw [List.take_add_one, h, List.foldl_append]
  rfl
theorem metK_spec {l : List Opn} {od : List Int} {a : Int} (ht : Top l od) : ∀ k, k ≤ od.length →
    (∀ j : Nat, ¬ (j : Int) ∈ od.take k → (metK l od a k).getD j false = false) ∧
    ∀ j : Nat, (j : Int) ∈ od.take k → (metK l od a k).getD j false = (Pr.aft l j).any (fun p => decide (p = a) || (metK l od a k).getD p.toNat false)
  | 0, _ => ⟨fun j _ => by simp [metK, List.getD_eq_getElem?_getD, List.getElem?_replicate]; split <;> rfl, fun j h => by simp at h⟩
  | k + 1, hk => by
    obtain ⟨h1, h2⟩ := metK_spec (a := a) ht k (by omega)
    obtain ⟨i, hi⟩ : ∃ i, od[k]? = some i := ⟨_, List.getElem?_eq_getElem (by omega)⟩
    have hir := ht.rg i (List.mem_of_getElem? hi)
    have hin : ¬ i ∈ od.take k := fun h => by
      obtain ⟨j, hj⟩ := List.mem_iff_getElem?.1 h
      have hjk : j < k := by
        rcases Nat.lt_or_ge j k with h3 | h3
        · exact h3
        · rw [List.getElem?_eq_none (by rw [List.length_take]; omega)] at hj; cases hj
      rw [List.getElem?_take_of_lt hjk] at hj
      have := (List.getElem?_inj (l := od) (i := j) (j := k) (by omega) ht.nd).1 (hj.trans hi.symm)
      omega
    have hii : ((i.toNat : Nat) : Int) = i := Int.toNat_of_nonneg hir.1
    have hmem : ∀ x : Int, x ∈ od.take (k + 1) ↔ x ∈ od.take k ∨ x = i := fun x => by rw [List.take_add_one, hi]; simp
    rw [metK_succ hi]
    refine ⟨fun j hj => ?_, fun j hj => ?_⟩
    · rw [hmem] at hj
      rw [metStep_other (fun e => hj (.inr (by omega)))]
      exact h1 j (fun h => hj (.inl h))
    · have hpn : ∀ (b : Nat), (b : Int) ∈ od.take (k + 1) → ∀ p ∈ Pr.aft l b, p ∈ od.take k := by
        intro b hb p hp
        rcases (hmem _).1 hb with hb | hb
        · obtain ⟨q, hq⟩ := List.mem_iff_getElem?.1 hb
          have hqk : q < k := by
            rcases Nat.lt_or_ge q k with h3 | h3
            · exact h3
            · rw [List.getElem?_eq_none (by rw [List.length_take]; omega)] at hq; cases hq
          rw [List.getElem?_take_of_lt hqk] at hq
          have := ht.bf q (b : Int) hq p (by rw [Int.toNat_natCast]; exact hp)
          exact (List.take_subset_take_left od (by omega)) this
        · have := ht.bf k i hi p (by rw [← hb, Int.toNat_natCast]; exact hp)
          exact this
      have hany : ∀ (b : Nat), (b : Int) ∈ od.take (k + 1) → (Pr.aft l b).any (fun p => decide (p = a) || (Pr.metStep l a (metK l od a k) i).getD p.toNat false) = (Pr.aft l b).any (fun p => decide (p = a) || (metK l od a k).getD p.toNat false) := by
        intro b hb
        rw [Bool.eq_iff_iff, List.any_eq_true, List.any_eq_true]
        constructor
        · rintro ⟨p, hp, h⟩
          have hpi : i.toNat ≠ p.toNat := fun e => hin (by
            have := hpn b hb p hp
            have hpr := ht.rg p (List.mem_of_mem_take this)
            have : p = i := by omega
            rw [← this]; assumption)
          rw [metStep_other hpi] at h
          exact ⟨p, hp, h⟩
        · rintro ⟨p, hp, h⟩
          have hpi : i.toNat ≠ p.toNat := fun e => hin (by
            have := hpn b hb p hp
            have hpr := ht.rg p (List.mem_of_mem_take this)
            have : p = i := by omega
            rw [← this]; assumption)
          refine ⟨p, hp, ?_⟩
          rw [metStep_other hpi]
          exact h
      rw [hany j hj]
      rcases (hmem _).1 hj with hj2 | hj2
      · have hji : i.toNat ≠ j := fun e => hin (by rw [← hii, e]; exact hj2)
        rw [metStep_other hji]
        exact h2 j hj2
      · have e : i.toNat = j := by omega
        subst e
        refine metStep_self ?_ (h1 _ (by rw [hii]; exact hin))
        unfold metK
        rw [met_length, List.length_replicate]
        omega
theorem fol_eq {l : List Opn} (h : Pr.ordE l = 0) (a : Int) {b : Nat} (hb : b < l.length) : Pr.folB l a b = (Pr.aft l b).any (fun p => decide (p = a) || Pr.folB l a p.toNat) := by
  have ht := srt_top l
  have hs := (metK_spec (a := a) ht (Pr.srt l).length (Nat.le_refl _)).2 b (by rw [List.take_length]; exact srt_mem h hb)
  unfold metK at hs
  rw [List.take_length] at hs
  exact hs
theorem fol_pred {l : List Opn} (h : Pr.ordE l = 0) {a : Int} {b : Nat} (hb : b < l.length) {p : Int} (hp : p ∈ Pr.aft l b) (hf : Pr.folB l a b = false) : p ≠ a ∧ Pr.folB l a p.toNat = false := by
  rw [fol_eq h a hb, List.any_eq_false] at hf
  have := hf p hp
  simp only [Bool.or_eq_true, decide_eq_true_eq, not_or] at this
  exact ⟨this.1, by simpa using this.2⟩
theorem aft_range {l : List Opn} (h : Pr.ordE l = 0) {b : Nat} {p : Int} (hp : p ∈ Pr.aft l b) : 0 ≤ p ∧ p < (l.length : Int) := by
  obtain ⟨h16, hs, _⟩ := ordE_zero h
  have hf := fine_of hs h16
  unfold Pr.aft at hp
  split at hp
  · rename_i o ho
    exact hf.range o (List.mem_of_getElem? ho) p hp
  · simp at hp
end Go.Proofs.Ytcolekfjmhgldaa
