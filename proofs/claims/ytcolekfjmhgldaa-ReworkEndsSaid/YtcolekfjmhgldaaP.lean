/- Sorting an owned slice; what a defect opens. -/
import Derived.Test.YtcolekfjmhgldaaM
namespace Go.Proofs.Ytcolekfjmhgldaa
open Go.RowKit
open Pr (Opn Prg)

def sortI (l : List Int) : List Int := l.mergeSort fun x y => decide (x ≤ y)

theorem sort_own (g c base : Nat) (l : List Int) (w : World) (how : Oi w base (.slice (some ⟨g, 0, none⟩) l.length c) l) (hll : l.length ≤ 65536) :
    Calls Try.prog 53 #[.slice (some ⟨g, 0, none⟩) l.length c] w fun e w' => e = .returned (.tuple #[]) ∧ Oi w' base (.slice (some ⟨g, 0, none⟩) l.length c) (sortI l) ∧ w.grownBy w' (some g) := by
  have how0 := how
  obtain ⟨hxl, ⟨h, _⟩ | ⟨g', cap', cur, he, hb, hg, hnc, hcm, hcs, ht⟩⟩ := how
  · cases h
  · have he' := he
    simp only [Value.slice.injEq, Option.some.injEq, Addr.mk.injEq, and_true, true_and] at he'
    obtain ⟨rfl, rfl⟩ := he'
    have hlt : g < w.heap.size := how0.lt.2
    have hH : Go.Sort.Holds (Value.int .i64) w g 0 l.toArray := by
      intro j hj
      have hj' : j < l.length := by simpa using hj
      have e : l.toArray[j]! = l[j] := by
        rw [getElem!_pos _ j (by simpa using hj)]
        simp
      rw [e, Nat.zero_add]
      exact ⟨how0.get (List.getElem?_eq_getElem hj'), how0.frozenAt j⟩
    refine (Try.slices_Sort_int g 0 c l w hH hlt (by omega)).mono ?_
    rintro e w' ⟨rfl, k, os, rfl⟩
    have hel : (sortI l).length = l.length := List.length_mergeSort _
    have hsl : (l.mergeSort fun x y => decide (x ≤ y)) = sortI l := rfl
    rw [hsl]
    refine ⟨rfl, ⟨by simp, .inr ⟨g, c, Go.Sort.putCells (Value.int .i64) 0 (sortI l).toArray cur, by rw [hel], hb, ?_, by omega, hcm, ?_, ?_⟩⟩, ?_⟩
    · obtain ⟨hl2, hgg⟩ := Array.getElem?_eq_some_iff.1 hg
      show ((w.heap.modify g _) ++ os)[g]? = _
      rw [Array.getElem?_append_left (by rw [Array.size_modify]; exact hl2), Array.getElem?_eq_getElem (by rw [Array.size_modify]; exact hl2), Array.getElem_modify_self, hgg]
      rfl
    · simpa [Go.Sort.putCells] using hcs
    · have hE : (sortI l).length ≤ cur.size := by omega
      generalize sortI l = E at *
      apply List.ext_getElem?
      intro i
      rw [Nat.mul_one, List.getElem?_map]
      by_cases hi : i < E.length
      · rw [List.getElem?_take_of_lt hi, Array.getElem?_toList]
        unfold Go.Sort.putCells
        rw [Array.getElem?_mapIdx, Array.getElem?_eq_getElem (by omega)]
        simp only [Option.map_some, List.size_toArray]
        rw [if_pos (by omega), getElem!_pos _ _ (by simp; omega), List.getElem?_eq_getElem hi]
        simp
      · rw [List.getElem?_eq_none (by rw [List.length_take]; omega), List.getElem?_eq_none (by omega)]
        rfl
    · refine ⟨rfl, rfl, rfl, ?_, fun i hi hne2 => ?_⟩
      · show w.heap.size ≤ ((w.heap.modify g _) ++ os).size
        rw [Array.size_append, Array.size_modify]
        omega
      · have hne : ¬ g = i := fun e => hne2 (by rw [e])
        show ((w.heap.modify g _) ++ os)[i]? = _
        rw [Array.getElem?_append_left (by rw [Array.size_modify]; exact hi), Array.getElem?_modify, if_neg hne]

theorem asc_unique : ∀ {a b : List Int}, a.Pairwise (· < ·) → b.Pairwise (· < ·) → (∀ x, x ∈ a ↔ x ∈ b) → a = b
  | [], [], _, _, _ => rfl
  | [], y :: b, _, _, h => by have := (h y).2 (by simp); simp at this
  | x :: a, [], _, _, h => by have := (h x).1 (by simp); simp at this
  | x :: a, y :: b, ha, hb, h => by
    rw [List.pairwise_cons] at ha hb
    have hxy : x = y := by
      have h1 := (h x).1 (by simp)
      have h2 := (h y).2 (by simp)
      rcases List.mem_cons.1 h1 with e | e
      · exact e
      · rcases List.mem_cons.1 h2 with e2 | e2
        · exact e2.symm
        · have := ha.1 y e2
          have := hb.1 x e
          omega
    subst hxy
    rw [asc_unique ha.2 hb.2 (fun z => ?_)]
    constructor
    · intro hz
      rcases List.mem_cons.1 ((h z).1 (List.mem_cons_of_mem _ hz)) with e | e
      · have := ha.1 z hz; omega
      · exact e
    · intro hz
      rcases List.mem_cons.1 ((h z).2 (List.mem_cons_of_mem _ hz)) with e | e
      · have := hb.1 z hz; omega
      · exact e
theorem sortI_asc {l : List Int} (h : l.Nodup) : (sortI l).Pairwise (· < ·) := by
  have h1 : (sortI l).Pairwise (fun x y => decide (x ≤ y) = true) := List.pairwise_mergeSort (fun a b c hab hbc => by simp at *; omega) (fun a b => by simp; omega) l
  have h2 : (sortI l).Nodup := (List.mergeSort_perm l _).nodup_iff.2 h
  exact (h1.and h2).imp (fun ⟨ha, hb⟩ => by simp at ha; omega)
theorem mem_sortI {l : List Int} {x : Int} : x ∈ sortI l ↔ x ∈ l := (List.mergeSort_perm l _).mem_iff
theorem sortI_length (l : List Int) : (sortI l).length = l.length := List.length_mergeSort _

def addI (acc : List Int) (k : Int) : List Int := if k ∈ acc then acc else acc ++ [k]
def colI (acc ks : List Int) : List Int := ks.foldl addI acc
theorem addI_nodup {acc : List Int} {k : Int} (h : acc.Nodup) : (addI acc k).Nodup := by
  unfold addI
  split
  · exact h
  · rename_i hk
    rw [List.nodup_append]
    exact ⟨h, by simp, fun a ha b hb => by rw [List.mem_singleton.1 hb]; exact fun e => hk (e ▸ ha)⟩
theorem mem_addI {acc : List Int} {k x : Int} : x ∈ addI acc k ↔ x ∈ acc ∨ x = k := by
  unfold addI
  split
  · rename_i hk
    exact ⟨.inl, fun h => h.elim id (fun e => e ▸ hk)⟩
  · simp
theorem colI_snoc (acc ks : List Int) (k : Int) : colI acc (ks ++ [k]) = addI (colI acc ks) k := by simp [colI]
theorem colI_nodup : ∀ (ks : List Int) {acc : List Int}, acc.Nodup → (colI acc ks).Nodup
  | [], _, h => h
  | k :: ks, acc, h => colI_nodup ks (acc := addI acc k) (addI_nodup h)
theorem mem_colI : ∀ (ks : List Int) {acc : List Int} {x : Int}, x ∈ colI acc ks ↔ x ∈ acc ∨ x ∈ ks
  | [], _, _ => by simp [colI]
  | k :: ks, acc, x => by
    show x ∈ colI (addI acc k) ks ↔ _
    rw [mem_colI ks, mem_addI, List.mem_cons]
    exact or_assoc
theorem colI_length (ks : List Int) (acc : List Int) : (colI acc ks).length ≤ acc.length + ks.length := by
  induction ks generalizing acc with
  | nil => simp [colI]
  | cons k ks ih =>
    have := ih (addI acc k)
    have h2 : (addI acc k).length ≤ acc.length + 1 := by unfold addI; split <;> simp
    show (colI (addI acc k) ks).length ≤ _
    simp only [List.length_cons]
    omega
theorem ids_asc (n : Nat) : (Pr.ids n).Pairwise (· < ·) := by
  unfold Pr.ids
  rw [List.pairwise_map]
  exact List.pairwise_lt_range.imp (fun h => by omega)
theorem openD_asc (l : List Opn) (p : Prg) (op : Int) : (Pr.openD l p op).Pairwise (· < ·) := (ids_asc _).filter _
theorem fols_asc (l : List Opn) (op : Int) : (Pr.fols l op).Pairwise (· < ·) := (ids_asc _).filter _
theorem sort_openD {l : List Opn} {p : Prg} {op : Int} (hn : p.opn.Nodup) (hr : ∀ x ∈ p.opn, 0 ≤ x ∧ x < (l.length : Int)) (h0 : 0 ≤ op) (h1 : op < (l.length : Int)) :
    sortI (colI p.opn (op :: Pr.fols l op)) = Pr.openD l p op := by
  refine asc_unique (sortI_asc (colI_nodup _ hn)) (openD_asc _ _ _) (fun x => ?_)
  rw [mem_sortI, mem_colI, List.mem_cons]
  unfold Pr.openD Pr.fols
  simp only [List.mem_filter, Bool.or_eq_true, decide_eq_true_eq]
  constructor
  · rintro (h | rfl | ⟨h, h2⟩)
    · exact ⟨mem_ids.2 (hr x h), .inl (.inl h)⟩
    · exact ⟨mem_ids.2 ⟨h0, h1⟩, .inl (.inr rfl)⟩
    · exact ⟨h, .inr h2⟩
  · rintro ⟨h, (h2 | h2) | h2⟩
    · exact .inl h2
    · exact .inr (.inl h2)
    · exact .inr (.inr ⟨h, h2⟩)
end Go.Proofs.Ytcolekfjmhgldaa
