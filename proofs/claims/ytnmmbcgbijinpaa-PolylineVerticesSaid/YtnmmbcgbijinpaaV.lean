/- A cut at a vertex. -/
import Derived.Test.YtnmmbcgbijinpaaS
import Derived.Test.YtnmmbcgbijinpaaPle
namespace Go.Proofs.Ytnmmbcgbijinpaa
open Go.RowKit
open Pl (Pt)

structure VertOk (l : List Pt) (k : Nat) (p : Pt) : Prop where
  at_ : l[k]? = some p
  ca : Pl.check (l.take (k + 1)) = 0
  cb : Pl.check (l.drop k) = 0
  sum : Pl.total (l.take (k + 1)) + Pl.total (l.drop k) = Pl.total l
  pt : locPt (locR l (Pl.total (l.take (k + 1)))) = p
  err : locE l (Pl.total (l.take (k + 1))) = 0
  a : cutA l (Pl.total (l.take (k + 1))) = l.take (k + 1)
  b : cutB l (Pl.total (l.take (k + 1))) = l.drop k

theorem vert_ok {l : List Pt} {k : Nat} (h : Pl.check l = 0) (hk1 : 1 ≤ k) (hk : k + 1 < l.length) : ∃ p, VertOk l k p := by
  obtain ⟨c1, c2, c3, c4⟩ := check_zero h
  have hins := ins_of c3
  obtain ⟨j, rfl⟩ : ∃ j, k = j + 1 := ⟨k - 1, by omega⟩
  have hts := Pl.total_take_succ l j (by omega)
  have hsp := seg_pos' (hins j (by omega)) (hins (j + 1) (by omega)) (Pl.dup_at c4 j (by omega))
  have h0 := Pl.total_ge0 (l.take (j + 1 + 1))
  have hx := Pl.loc_char l (Pl.total (l.take (j + 1 + 1))) j (by omega) (.inr (by omega)) (by omega)
  rw [show Pl.total (l.take (j + 1 + 1)) - Pl.total (l.take (j + 1)) = Pl.seg l[j] l[j + 1] by omega, Pl.at_full _ _ (by omega)] at hx
  have hR : locR l (Pl.total (l.take (j + 1 + 1))) = some (j, l[j + 1]) := by unfold locR; rw [if_pos h, if_neg (by omega), hx]
  have hE : locE l (Pl.total (l.take (j + 1 + 1))) = 0 := by unfold locE; rw [if_pos h, hR]; rfl
  have hlt : (l.take (j + 1 + 1)).length = j + 1 + 1 := by rw [List.length_take]; omega
  have hld : (l.drop (j + 1)).length = l.length - (j + 1) := List.length_drop
  have hdt := Pl.dup_takek c4 (j + 1 + 1)
  have hdd := Pl.dup_dropk c4 (j + 1)
  refine ⟨l[j + 1], ⟨List.getElem?_eq_getElem _, ?_, ?_, Pl.total_split l (j + 1) (by omega), by rw [hR]; rfl, hE, ?_, ?_⟩⟩
  · exact Pl.check_of (by omega) (by omega) (Pl.any_sub c3 fun x hx => List.mem_of_mem_take hx) hdt
  · exact Pl.check_of (by omega) (by omega) (Pl.any_sub c3 fun x hx => List.mem_of_mem_drop hx) hdd
  · unfold cutA
    rw [hR]
    show Pl.part (l.take (j + 1) ++ [l[j + 1]]) = _
    rw [← List.take_succ_eq_append_getElem (show j + 1 < l.length by omega)]
    exact Pl.part_nodup hdt (by omega)
  · unfold cutB
    rw [hR]
    show Pl.part (l[j + 1] :: l.drop (j + 1)) = _
    have hd := List.drop_eq_getElem_cons (show j + 1 < l.length by omega)
    unfold Pl.part
    rw [show Pl.compact (l[j + 1] :: l.drop (j + 1)) = l.drop (j + 1) by
      conv => lhs; rw [hd]
      rw [Pl.compact, if_pos rfl, ← hd]
      exact Pl.compact_of_nodup hdd]
    split
    · next a ha => rw [ha] at hld; simp at hld; omega
    · rfl

section
variable {W1 W w' : World} {g b o : Nat} {p q : Pt}
theorem kV (hg : g < W1.heap.size) (hb : b < W1.heap.size) (hbn : Below W.heap.size W w')
    (h : W.cell? ⟨g, 0, none⟩ = some (.int .i64 p.1) ∧ W.cell? ⟨g, 1, none⟩ = some (.int .i64 p.2) ∧ W.cell? ⟨b, o, none⟩ = some (.int .i64 q.1) ∧ W.cell? ⟨b, o + 1, none⟩ = some (.int .i64 q.2) ∧ Below W1.heap.size W1 W) :
    w'.cell? ⟨g, 0, none⟩ = some (.int .i64 p.1) ∧ w'.cell? ⟨g, 1, none⟩ = some (.int .i64 p.2) ∧ w'.cell? ⟨b, o, none⟩ = some (.int .i64 q.1) ∧ w'.cell? ⟨b, o + 1, none⟩ = some (.int .i64 q.2) ∧ Below W1.heap.size W1 w' := by
  obtain ⟨h1, h2, h3, h4, h5⟩ := h
  have hz := h5.size
  have hk : ∀ x i, x < W1.heap.size → w'.cell? ⟨x, i, none⟩ = W.cell? ⟨x, i, none⟩ := fun x i hx => hbn.cell (p := ⟨x, i, none⟩) (show x < W.heap.size by omega)
  exact ⟨(hk _ _ hg).trans h1, (hk _ _ hg).trans h2, (hk _ _ hb).trans h3, (hk _ _ hb).trans h4, b_tr h5 hbn⟩
end
end Go.Proofs.Ytnmmbcgbijinpaa
