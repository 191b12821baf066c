/- Which operations come after one. -/
import Derived.Test.YtcolekfjmhgldaaH
namespace Go.Proofs.Ytcolekfjmhgldaa
open Go.RowKit
open Pr (Opn)

theorem foldl_take_succ {α : Type} (f : α → Int → α) (a : α) {l : List Int} {k : Nat} {x : Int} (hx : l[k]? = some x) : (l.take (k + 1)).foldl f a = f ((l.take k).foldl f a) x := by
  obtain ⟨h1, h2⟩ := List.getElem?_eq_some_iff.1 hx
  rw [List.take_succ_eq_append_getElem h1, List.foldl_append, h2]
  rfl
theorem any_take_succ {l : List Int} {k : Nat} {x : Int} (f : Int → Bool) (hk : l[k]? = some x) : (l.take (k + 1)).any f = ((l.take k).any f || f x) := by
  obtain ⟨h1, h2⟩ := List.getElem?_eq_some_iff.1 hk
  rw [List.take_succ_eq_append_getElem h1, List.any_append, h2]
  simp
theorem any_take {l : List Int} {k : Nat} (f : Int → Bool) (h : (l.take k).any f = true) : l.any f = true := by
  obtain ⟨x, h1, h2⟩ := List.any_eq_true.1 h
  exact List.any_eq_true.2 ⟨x, List.mem_of_mem_take h1, h2⟩
/-- the test of the inner loop -/
def preB (a : Int) (m : List Bool) (p : Int) : Bool := decide (p = a) || m.getD p.toNat false
theorem metStep_eq (l : List Opn) (a : Int) (m : List Bool) (i : Int) : Pr.metStep l a m i = if (aftI l i).any (preB a m) = true then m.set i.toNat true else m := rfl
theorem getD_some {l : List Bool} {q : Nat} (h : q < l.length) : l[q]? = some (l.getD q false) := by rw [List.getD_eq_getElem?_getD, List.getElem?_eq_getElem h]; rfl

theorem pre_yes {a : Int} {m m' : List Bool} {i q : Nat} {b b' : Bool} (hm : m' = if b = true then m.set i true else m) (hA : b' = (b || preB a m (q : Int))) (h : (q : Int) = a ∨ m'.getD q false = true) : m'.set i true = if b' = true then m.set i true else m := by
  cases b with
  | true =>
    rw [if_pos rfl] at hm
    rw [hA, Bool.true_or, if_pos rfl, hm, List.set_set]
  | false =>
    rw [if_neg (by simp)] at hm
    subst hm
    have : preB a m' (q : Int) = true := by
      unfold preB
      rcases h with h | h
      · rw [decide_eq_true h]; rfl
      · rw [Int.toNat_natCast, h, Bool.or_true]
    rw [hA, this, Bool.or_true, if_pos rfl]
theorem pre_no {a : Int} {m m' : List Bool} {i q : Nat} {b b' : Bool} (hm : m' = if b = true then m.set i true else m) (hA : b' = (b || preB a m (q : Int))) (h : ¬ (q : Int) = a) (h2 : m'.getD q false = false) : m' = if b' = true then m.set i true else m := by
  cases b with
  | true => rw [hA, Bool.true_or]; exact hm
  | false =>
    rw [if_neg (by simp)] at hm
    subst hm
    have : preB a m' (q : Int) = false := by
      unfold preB
      rw [decide_eq_false h, Int.toNat_natCast, h2]; rfl
    rw [hA, this]
    rfl

set_option maxHeartbeats 1000000 in
theorem preceded_any (A : Option Addr) (c : Nat) (l : List Opn) (oA : Option Addr) (oc : Nat) (od : List Int) (a : Int) (w : World) (hl : So w w.heap.size A l) (ho : Si w w.heap.size oA od) (hf : Fine l) (hks : Oks l) (hod : ∀ x ∈ od, 0 ≤ x ∧ x < (l.length : Int)) (hol : od.length ≤ 1000) :
    Calls Try.prog 29 #[.slice A l.length c, .slice oA od.length oc, .int .i64 a] w fun e w' => e = .returned (.slice (some ⟨w.heap.size, 0, none⟩) l.length l.length) ∧ Ob w' w.heap.size (.slice (some ⟨w.heap.size, 0, none⟩) l.length l.length) (Pr.met l od a) ∧ Below w.heap.size w w' := by
  have hlen := hf.len
  obtain ⟨w1, hmk, hob, hb1⟩ := make_bools w l.length (by omega)
  go_enter Try.func29, Try.ntmps29
  go_wp2
  clear hmk
  go_loopw [17] (fun s17 wr => ∃ (k : Nat) (m : List Bool), k ≤ od.length ∧ s17 = .int .i64 k ∧ Hid ((od.take k).foldl (Pr.metStep l a) (List.replicate l.length false) = m) ∧ Ob wr w.heap.size (.slice (some ⟨w.heap.size, 0, none⟩) l.length l.length) m ∧ Below w.heap.size w wr) (fun s17 _ => od.length - (intOf s17).toNat)
  case atStart => exact ⟨0, _, Nat.zero_le _, rfl, rfl, hob, hb1⟩
  case round =>
    obtain ⟨k, m, hk, rfl, hm, hob, hb⟩ := hrel
    by_cases hlt : k < od.length
    · obtain ⟨x, hx⟩ := get_ex rfl hlt
      obtain ⟨x0, x1⟩ := hod x (List.mem_of_getElem? hx)
      obtain ⟨i, rfl⟩ := Int.eq_ofNat_of_zero_le x0
      have hil : i < l.length := by omega
      obtain ⟨ob, oo, rfl, hoB, cx⟩ := si_get (ho.below hb) hx
      obtain ⟨o, hoi⟩ : ∃ o, l[i]? = some o := ⟨_, List.getElem?_eq_getElem hil⟩
      obtain ⟨b, off, aA, aC, uA, uC, rfl, hbB, hop, hsa⟩ := (hl.below hb).get hoi
      have hom : o ∈ l := List.mem_of_getElem? hoi
      have HAK : Hid (aftI l (i : Int) = o.after) := by show Pr.aft l _ = _; rw [Int.toNat_natCast]; exact aft_at hoi
      have HF := Lib.hid (foldl_take_succ (Pr.metStep l a) (List.replicate l.length false) hx)
      have HRg := Lib.hid (hf.range o hom)
      have haf := hks.aft o hom
      have hs0 : Si w w.heap.size aA o.after := hsa.keep fun p hp => (hb.cell hp).symm
      have c3 := hop.c3
      clear hop hx hsa
      go_wp2
      clear cx c3
      obtain ⟨wo, rfl⟩ : ∃ wo : World, wo = wr := ⟨_, rfl⟩
      go_loopw [27] (fun s27 wq => ∃ (j : Nat) (m' : List Bool), j ≤ o.after.length ∧ s27 = .int .i64 j ∧ Hid (m' = if (o.after.take j).any (preB a m) = true then m.set i true else m) ∧ Ob wq w.heap.size (.slice (some ⟨w.heap.size, 0, none⟩) l.length l.length) m' ∧ Below w.heap.size w wq) (fun s27 _ => o.after.length - (intOf s27).toNat)
      case atStart => exact ⟨0, m, Nat.zero_le _, rfl, rfl, hob, hb⟩
      case round =>
        obtain ⟨j, m', hj, rfl, hm', hob', hb'⟩ := hrel
        by_cases hjl : j < o.after.length
        · obtain ⟨y, hy⟩ := get_ex rfl hjl
          obtain ⟨y0, y1⟩ := HRg.out y (List.mem_of_getElem? hy)
          obtain ⟨q, rfl⟩ := Int.eq_ofNat_of_zero_le y0
          have hql : q < l.length := by omega
          obtain ⟨b', off', rfl, hbB', cy⟩ := si_get (hs0.below hb') hy
          have hml := hob'.lenEq
          have HA := Lib.hid (any_take_succ (preB a m) hy)
          have c2 := hob'.get (getD_some (l := m') (q := q) (by omega))
          have fz := hob'.frozenAt i
          obtain ⟨c4, hc4⟩ : ∃ c4, m'[i]? = some c4 := ⟨_, List.getElem?_eq_getElem (by omega)⟩
          have c4 := hob'.get hc4
          obtain ⟨s1, s2⟩ := hob'.set i true
          have hbs := below_grown hb' s2 (Nat.le_refl _)
          have HY := Lib.hid (fun h => pre_yes hm'.out HA.out h)
          have HN := Lib.hid (fun h1 h2 => pre_no hm'.out HA.out h1 h2)
          clear hy s2 hc4 HA
          by_cases hqa : (q : Int) = a
          · have HY2 := Lib.hid (HY.out (.inl hqa))
            have hqa' : ((q : Int) == a) = true := by simp [hqa]
            clear HY HN
            go_wp2
            go_roundw
            case rel => exact ⟨j + 1, _, by omega, by go_num, HY2, s1, hbs⟩
            case measure => simp [intOf]; omega
          · have hqa' : ((q : Int) == a) = false := by simp [hqa]
            cases hg : m'.getD q false with
            | true =>
              have HY2 := Lib.hid (HY.out (.inr hg))
              rw [hg] at c2
              clear HY HN hg
              go_wp2
              go_roundw
              case rel => exact ⟨j + 1, _, by omega, by go_num, HY2, s1, hbs⟩
              case measure => simp [intOf]; omega
            | false =>
              have HY2 := Lib.hid (HN.out hqa hg)
              rw [hg] at c2
              clear HY HN hg
              go_wp2
              go_roundw
              case rel => exact ⟨j + 1, _, by omega, by go_num, HY2, hob', hb'⟩
              case measure => simp [intOf]; omega
        · obtain rfl : j = o.after.length := by omega
          have HM : Hid ((od.take (k + 1)).foldl (Pr.metStep l a) (List.replicate l.length false) = m') := by
            show _ = _
            rw [HF.out, hm.out, metStep_eq, HAK.out, Int.toNat_natCast, hm'.out, List.take_length]
          clear hjl hj hm'
          go_wp2
          go_roundw
          case rel => exact ⟨k + 1, _, by omega, by go_num, HM, hob', hb'⟩
          case measure => simp [intOf]; omega
    · obtain rfl : k = od.length := by omega
      have HM : Hid (Pr.met l od a = m) := by show _ = _; rw [← hm.out, List.take_length]; rfl
      clear hlt hk hm
      go_wp2
      go_ret
      exact ⟨rfl, by rw [HM.out]; exact hob, hb⟩
end Go.Proofs.Ytcolekfjmhgldaa
