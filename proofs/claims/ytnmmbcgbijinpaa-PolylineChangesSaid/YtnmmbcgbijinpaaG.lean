/- Compact and part. -/
import Derived.Test.YtnmmbcgbijinpaaF
namespace Go.Proofs.Ytnmmbcgbijinpaa
open Go.RowKit
open Pl (Pt)

theorem Ow.drew {w : World} {base : Nat} {v : Value} {l : List Pt} (h : Ow w base v l) : Ow w.drew base v l := h
/-- the block and the cells of an owned slice that is not nil -/
theorem Ow.block {w : World} {base : Nat} {v : Value} {l : List Pt} (h : Ow w base v l) (hl : 0 < l.length) : ∃ g cap, v = .slice (some ⟨g, 0, none⟩) l.length cap ∧ base ≤ g ∧ g < w.heap.size ∧ l.length ≤ cap ∧ cap ≤ maxLen := by
  rcases h.2 with ⟨_, h2⟩ | ⟨g, cap, cur, rfl, hb, hg, hn, hm, hs, ht⟩
  · omega
  · refine ⟨g, cap, rfl, hb, ?_, hn, hm⟩
    rcases Nat.lt_or_ge g w.heap.size with hl | hl
    · exact hl
    · rw [Array.getElem?_eq_none hl] at hg; cases hg
theorem Ow.at_ {w : World} {base g cap n : Nat} {l : List Pt} (h : Ow w base (.slice (some ⟨g, 0, none⟩) n cap) l) (i : Nat) (hi : i < l.length) :
    w.cell? ⟨g, i * 2, none⟩ = some (.int .i64 l[i].1) ∧ w.cell? ⟨g, i * 2 + 1, none⟩ = some (.int .i64 l[i].2) := by
  have hn : n = l.length := by
    rcases h.2 with ⟨h1, _⟩ | ⟨g', cap', cur, h1, _⟩
    · cases h1
    · injection h1
  subst hn
  obtain ⟨c1, c2⟩ := cells_at l i _ _ (List.getElem?_eq_getElem hi)
  exact ⟨(World.ownsRow.cellAt h (i * 2) (by omega)).trans c1, (World.ownsRow.cellAt h (i * 2 + 1) (by omega)).trans c2⟩
theorem Ow.frozenAt {w : World} {base g cap n : Nat} {l : List Pt} (h : Ow w base (.slice (some ⟨g, 0, none⟩) n cap) l) (j : Nat) : w.frozen? ⟨g, j, none⟩ = false := by
  have hn : n = l.length := by
    rcases h.2 with ⟨h1, _⟩ | ⟨g', cap', cur, h1, _⟩
    · cases h1
    · injection h1
  subst hn
  exact World.ownsRow.frozenAt h j
theorem Ow.set_ {w : World} {base g cap n : Nat} {l : List Pt} (h : Ow w base (.slice (some ⟨g, 0, none⟩) n cap) l) (hn : n = l.length) (i : Nat) (p : Pt) :
    Ow ((w.setCell ⟨g, i * 2, none⟩ (.int .i64 p.1)).setCell ⟨g, i * 2 + 1, none⟩ (.int .i64 p.2)) base (.slice (some ⟨g, 0, none⟩) n cap) (l.set i p) := by
  subst hn
  have h1 := (World.ownsRow.stored (World.ownsRow.stored h (i * 2) (.int .i64 p.1)).1 (i * 2 + 1) (.int .i64 p.2)).1
  rw [cells_set] at h1
  unfold Ow
  rw [List.length_set]
  exact h1
theorem zeroCells_two : ∀ n, (Builtin.zeroCells (Value.agg #[.int .i64 0, .int .i64 0]).cells n).toList.length = n * 2 := fun n => by
  simp [Builtin.zeroCells, Value.cells]
theorem zeroCells_one (n : Nat) : ∀ u ∈ (Builtin.zeroCells (Value.agg #[.int .i64 0, .int .i64 0]).cells n).toList, u.oneCell' = true := fun u hu => by
  simp [Builtin.zeroCells, Value.cells] at hu
  obtain ⟨a, _, rfl⟩ := hu
  rcases (show a % 2 = 0 ∨ a % 2 = 1 by omega) with h | h <;> simp [h] <;> rfl

theorem setRow_grown (w : World) (g : Nat) (cs : Array Value) : w.grownBy (w.setRow g cs) (some g) :=
  ⟨rfl, rfl, rfl, by simp, fun i _ hne => setRow_other w g i cs (fun e => hne (by rw [e]))⟩

/-- clear of the tail of an owned slice: the head is as it was -/
theorem run_clear_tail (w : World) (base g cap : Nat) (l : List Pt) (k : Nat) (h : Ow w base (.slice (some ⟨g, 0, none⟩) l.length cap) l) (hk : k < l.length) (ty : TypeId) (c : Nat) :
    ∃ w', (Builtin.clear_ #[22] ty #[.slice (some ⟨g, k * 2, none⟩) (l.length - k) c]).run Try.prog w = .ok (.tuple #[]) w' ∧ Ow w' base (.slice (some ⟨g, 0, none⟩) k cap) (l.take k) ∧ w.grownBy w' (some g) := by
  rcases h.2 with ⟨h1, _⟩ | ⟨g', cap', cur, h1, hb, hg, hn, hm, hs, ht⟩
  · cases h1
  · injection h1 with e1 _ e2
    injection e1 with e1
    injection e1 with e1
    subst e1 e2
    have hzl := zeroCells_two (l.length - k)
    have hst := run_storeCells_at (P := Try.prog) g (k * 2) 30 (Builtin.zeroCells (Value.agg #[.int .i64 0, .int .i64 0]).cells (l.length - k)).toList 0 cur w hg (by rw [hzl, hs]; omega) (zeroCells_one _)
    obtain ⟨m, hm'⟩ : ∃ m, l.length - k = m + 1 := ⟨l.length - k - 1, by omega⟩
    have hrun : (Builtin.clear_ #[22] ty #[.slice (some ⟨g, k * 2, none⟩) (l.length - k) c]).run Try.prog w = .ok (.tuple #[]) (w.setRow g (cur.toList.take (k * 2 + 0) ++ (Builtin.zeroCells (Value.agg #[.int .i64 0, .int .i64 0]).cells (l.length - k)).toList ++ cur.toList.drop (k * 2 + 0 + (Builtin.zeroCells (Value.agg #[.int .i64 0, .int .i64 0]).cells (l.length - k)).toList.length)).toArray) := by
      rw [hm'] at hst ⊢
      simp [Builtin.clear_, run_underlying Try.underlying22, Try.zeroValue30, hst]
    generalize (Builtin.zeroCells (Value.agg #[.int .i64 0, .int .i64 0]).cells (l.length - k)).toList = Z at hrun hzl
    have hcl : cur.toList.length = cap * 2 := by simpa using hs
    refine ⟨_, hrun, ?_, setRow_grown w g _⟩
    unfold Ow
    refine ⟨by rw [length_cells], .inr ⟨g, cap, _, by rw [List.length_take, Nat.min_eq_left (by omega)], hb, setRow_heap w g cur _ 30 (0, 0) hg, by simp; omega, hm, ?_, ?_⟩⟩
    · simp only [List.size_toArray, List.length_append, List.length_take, List.length_drop, hzl, hcl]
      omega
    · simp only [Nat.add_zero]
      rw [List.length_take, Nat.min_eq_left (by omega), List.append_assoc, List.take_append_of_le_length (by simp; omega), List.take_take, Nat.min_self]
      have e := congrArg (List.take (k * 2)) ht
      rw [List.take_take, Nat.min_eq_left (by omega), cells_take] at e
      exact e

theorem dup_one (l : List Pt) : Pl.dupB (l.take 1) = false := by
  cases l <;> rfl
theorem dup_take {l : List Pt} {k : Nat} (h1 : 1 ≤ k) (h2 : k < l.length) (hd : Pl.dupB (l.take k) = false) (he : ¬ l[k - 1]'(by omega) = l[k]) : Pl.dupB (l.take (k + 1)) = false := by
  have e := Pl.compact_take h1 h2
  rw [if_neg he, Pl.compact_of_nodup hd, ← List.take_succ_eq_append_getElem h2] at e
  rw [← e]
  exact Pl.compact_nodup _

/-- an owned slice turned in place -/
def Turned (w : World) (base : Nat) (v : Value) (l : List Pt) (e : Ending) (w' : World) : Prop := ∃ v', e = .returned v' ∧ Ow w' base v' l ∧ w.grownBy w' v.ownBlock ∧ v'.ownBlock = v.ownBlock

theorem grown_drewN {a w : World} {row : Option Nat} (h : a.grownBy w row) (n : Nat) : a.grownBy (w.drewN n) row := ⟨h.os, h.tape, h.output, h.size, h.block⟩
theorem grown_setCell {a w : World} {g : Nat} (h : a.grownBy w (some g)) (j : Nat) (u : Value) : a.grownBy (w.setCell ⟨g, j, none⟩ u) (some g) :=
  ⟨h.os, h.tape, h.output, by simpa [World.setCell] using h.size, fun i hi hne => (Below.heap_setCell w ⟨g, j, none⟩ u i (by rintro rfl; exact hne rfl)).trans (h.block i hi hne)⟩
theorem grown_trans {a b c : World} {row : Option Nat} (h : a.grownBy b row) (k : b.grownBy c row) : a.grownBy c row :=
  ⟨k.os.trans h.os, k.tape.trans h.tape, k.output.trans h.output, Nat.le_trans h.size k.size, fun i hi hne => (k.block i (Nat.lt_of_lt_of_le hi h.size) hne).trans (h.block i hi hne)⟩

set_option maxHeartbeats 400000 in
theorem compact_small (A : Option Addr) (c n : Nat) (w : World) (hn : n < 2) :
    Calls Try.prog 43 #[.slice A n c] w fun e w' => e = .returned (.slice A n c) ∧ w = w' := by
  go_enter Try.func43, Try.ntmps43
  go_wp2
  go_ret
  exact ⟨rfl, rfl⟩

set_option maxHeartbeats 1000000 in
theorem compact_big (g cap base : Nat) (l : List Pt) (w : World) (h : Ow w base (.slice (some ⟨g, 0, none⟩) l.length cap) l) (h2 : 2 ≤ l.length) (hn : l.length ≤ 65536) (hcap : l.length ≤ cap) (hcm : cap ≤ maxLen) :
    Calls Try.prog 43 #[.slice (some ⟨g, 0, none⟩) l.length cap] w (Turned w base (.slice (some ⟨g, 0, none⟩) l.length cap) (Pl.compact l)) := by
  unfold maxLen at hcm
  have hg0 := eqGd
  go_enter Try.func43, Try.ntmps43
  go_wp2
  go_loopw [3] (fun i wr => ∃ k : Nat, 1 ≤ k ∧ k ≤ l.length ∧ i = .int .i64 k ∧ Hid (Pl.dupB (l.take k) = false) ∧ Ow wr base (.slice (some ⟨g, 0, none⟩) l.length cap) l ∧ w.grownBy wr (some g)) (fun i _ => l.length - (intOf i).toNat)
  case atStart => exact ⟨1, by omega, by omega, rfl, dup_one l, h, World.grownBy.refl w _⟩
  case round =>
    obtain ⟨k, hk1, hk, rfl, hd, how, hgr⟩ := hrel
    obtain ⟨wo, rfl⟩ : ∃ wo : World, wo = wr := ⟨_, rfl⟩
    by_cases hlt : k < l.length
    · obtain ⟨c1, c2⟩ := how.at_ k hlt
      obtain ⟨c3, c4⟩ := how.at_ (k - 1) (by omega)
      have HT := Lib.hid (Pl.compact_take hk1 hlt)
      have HS := Lib.hid (fun he => Pl.CInv.start hk1 hlt hd.out he)
      have HD := Lib.hid (fun he => dup_take hk1 hlt hd.out he)
      obtain ⟨k', rfl⟩ : ∃ k', k = k' + 1 := ⟨k - 1, by omega⟩
      simp only [Nat.add_sub_cancel] at c3 c4
      have hq0 := eqPt l[k' + 1] l[k']
      cases hq : decide (l[k' + 1] = l[k']) with
      | false =>
        rw [hq] at hq0
        have HQ := Lib.hid hq
        clear hq
        go_wp2
        go_quiet (fail)
        go_wp2
        go_roundw
        case rel => exact ⟨k' + 1 + 1, by omega, by omega, by go_num, HD.out (fun e => of_decide_eq_false HQ.out e.symm), how.drewN _, grown_drewN hgr _⟩
        case measure => simp [intOf]; omega
      | true =>
        rw [hq] at hq0
        have HC := Lib.hid (HS.out (of_decide_eq_true hq).symm)
        clear hq
        go_wp2
        go_quiet (fail)
        go_wp2
        have how1 := how.drewN nq
        have hgr1 := grown_drewN hgr nq
        clear how hgr c1 c2 c3 c4 hq0 HD HS HT hd
        generalize wo.drewN nq = w1 at *
        go_loopw [3, 5] (fun s3 s5 wr => ∃ (k j : Nat) (c : List Pt), s3 = .int .i64 k ∧ s5 = .int .i64 (j + 1) ∧ 1 ≤ k ∧ k < k' + 1 + (j + 1) ∧ k' + 1 + (j + 1) ≤ l.length ∧ Hid (Pl.CInv l c k (k' + 1 + (j + 1))) ∧ Ow wr base (.slice (some ⟨g, 0, none⟩) l.length cap) c ∧ w.grownBy wr (some g)) (fun _ s5 _ => l.length - (intOf s5).toNat)
        case atStart => exact ⟨k' + 1, 0, l, by go_num, rfl, by omega, by omega, by omega, HC, how1, hgr1⟩
        case round =>
          obtain ⟨k, j, c, rfl, rfl, hk1', hkm, hml, hci, how, hgr⟩ := hrel
          have HCL := Lib.hid hci.out.len
          have hcl1 : c.length ≤ l.length := Nat.le_of_eq HCL.out
          have hcl2 : l.length ≤ c.length := Nat.le_of_eq HCL.out.symm
          by_cases hlt2 : k' + 1 + (j + 1) < l.length
          · obtain ⟨a1, a2⟩ := how.at_ (k' + 1 + (j + 1)) (by omega)
            obtain ⟨a3, a4⟩ := how.at_ (k' + 1 + j) (by omega)
            obtain ⟨a5, a6⟩ := how.at_ k (by omega)
            have b1 := how.frozenAt (k * 2)
            have b2 := how.frozenAt (k * 2 + 1)
            rw [hci.out.at_ _ hlt2 (by omega), show (k' + 1 + (j + 1)) * 2 = (k' + 1) * 2 + (j + 1) * 2 by omega] at a1 a2
            rw [hci.out.at_ (k' + 1 + j) (by omega) (by omega), show (k' + 1 + j) * 2 = (k' + 1) * 2 + j * 2 by omega] at a3 a4
            have HK := Lib.hid (fun he => hci.out.keep hlt2 he)
            have HP := Lib.hid (fun he => hci.out.skip hlt2 he)
            have HW := Lib.hid (how.set_ HCL.out.symm k l[k' + 1 + (j + 1)])
            have hj : j + 1 < l.length - (k' + 1) := by omega
            have hj2 : j < l.length - (k' + 1) := by omega
            clear hci
            have hq0 := nePt l[k' + 1 + (j + 1)] l[k' + 1 + j]
            cases hq : decide (l[k' + 1 + (j + 1)] = l[k' + 1 + j]) with
            | true =>
              rw [hq] at hq0
              have HC2 := Lib.hid (HP.out (of_decide_eq_true hq).symm)
              clear hq HK HP HW
              go_wp2
              go_quiet (fail)
              go_wp2
              go_roundw
              case rel => exact ⟨k, j + 1, c, rfl, by go_num, hk1', by omega, by omega, HC2, how.drewN _, grown_drewN hgr _⟩
              case measure => simp [intOf]; omega
            | false =>
              rw [hq] at hq0
              have HC2 := Lib.hid (HK.out (fun e => of_decide_eq_false hq e.symm))
              clear hq HK HP
              go_wp2
              go_quiet (fail)
              go_wp2
              go_roundw
              case rel => exact ⟨k + 1, j + 1, _, by go_num, by go_num, by omega, by omega, by omega, HC2, HW.out.drewN _, grown_drewN (grown_setCell (grown_setCell hgr _ _) _ _) _⟩
              case measure => simp [intOf]; omega
          · have hkl : k < l.length := by omega
            have hd := Lib.hid (hci.out.done (by omega))
            have how' : Ow wr base (.slice (some ⟨g, 0, none⟩) c.length cap) c := by rw [HCL.out]; exact how
            obtain ⟨w', hclr, how2, hgr2⟩ := run_clear_tail wr base g cap c k how' (by omega) 0 (cap - k)
            rw [HCL.out] at hclr
            clear hci how'
            go_wp2
            go_ret
            refine ⟨_, rfl, ?_, grown_trans hgr hgr2, rfl⟩
            rw [← hd.out]
            exact how2
    · have HE : Hid (Pl.compact l = l) := by
        show _ = _
        have := hd.out
        rw [List.take_of_length_le (by omega)] at this
        exact Pl.compact_of_nodup this
      go_wp2
      go_ret
      refine ⟨_, rfl, ?_, hgr, rfl⟩
      rw [HE.out]
      exact how

theorem compact_any (base : Nat) (v : Value) (l : List Pt) (w : World) (h : Ow w base v l) (hn : l.length ≤ 65536) :
    Calls Try.prog 43 #[v] w (Turned w base v (Pl.compact l)) := by
  by_cases h2 : 2 ≤ l.length
  · obtain ⟨g, cap, rfl, _, _, hc, hm⟩ := h.block (by omega)
    exact compact_big g cap base l w h h2 hn hc hm
  · obtain ⟨A, c, rfl, _, _⟩ := h.shape
    refine (compact_small A c l.length w (by omega)).mono fun e w' he => ?_
    obtain ⟨rfl, rfl⟩ := he
    refine ⟨_, rfl, ?_, World.grownBy.refl _ _, rfl⟩
    have e : Pl.compact l = l := by
      match l, h2 with
      | [], _ => rfl
      | [_], _ => rfl
      | _ :: _ :: _, h2 => simp at h2
    rw [e]
    exact h

theorem Turned.below {w w' : World} {base : Nat} {v : Value} {row : Option Nat} {l : List Pt} (how : Ow w base v l) (hg : w.grownBy w' row) (hr : row = v.ownBlock) (B : Nat) (hB : B ≤ base) (hw : B ≤ w.heap.size) : Below B w w' :=
  (Below.refl _ _).grown hg hw (fun k hk => by
    rw [hr] at hk
    have := World.ownsRow.lt how k hk
    omega)

/-- a new list, or one in a row of the call's own; what lies below base has not turned -/
def Made (w : World) (base : Nat) (l : List Pt) (e : Ending) (w' : World) : Prop := ∃ v, e = .returned v ∧ Ow w' base v l ∧ Below base w w'

/-- an owned slice, turned in place or laid anew -/
def Moved (w : World) (base : Nat) (v : Value) (l : List Pt) (e : Ending) (w' : World) : Prop :=
  ∃ v', e = .returned v' ∧ Ow w' base v' l ∧ w.grownBy w' v.ownBlock ∧ (v'.ownBlock = v.ownBlock ∨ ∃ k, v'.ownBlock = some k ∧ w.heap.size ≤ k)

theorem sl_one (w : World) (p : Pt) : Sl (w.alloc (.cells #[.int .i64 p.1, .int .i64 p.2] 30)) (w.heap.size + 1) (some ⟨w.heap.size, 0, none⟩) [p] :=
  .inr ⟨w.heap.size, 0, rfl, by omega, fun i x y hi => by
    match i, hi with
    | 0, hi => simp at hi; subst hi; simp
    | i + 1, hi => simp at hi⟩
theorem part_one {l : List Pt} {a : Pt} (h : Pl.compact l = [a]) : Pl.part l = [a, a] := by unfold Pl.part; rw [h]
theorem part_more {l : List Pt} (h : (Pl.compact l).length ≠ 1) : Pl.part l = Pl.compact l := by
  unfold Pl.part
  split
  · next h2 => rw [h2] at h; simp at h
  · rfl

set_option maxHeartbeats 400000 in
theorem part_any (base : Nat) (v : Value) (l : List Pt) (w : World) (h : Ow w base v l) (hn : l.length ≤ 60000) (hb : base ≤ w.heap.size) :
    Calls Try.prog 40 #[v] w (Moved w base v (Pl.part l)) := by
  have hC := compact_any base v l w h (by omega)
  have hcl := Pl.compact_len l
  by_cases h1 : (Pl.compact l).length = 1
  · obtain ⟨a, ha⟩ : ∃ a, Pl.compact l = [a] := by
      match Pl.compact l, h1 with
      | [a], _ => exact ⟨a, rfl⟩
    rw [part_one ha]
    rw [ha] at hC
    have HC := Lib.hid hC
    clear hC ha h1 hcl
    go_enter Try.func40, Try.ntmps40
    go_wp2_with fail
    refine HC.out.mono ?_
    rintro e w1 ⟨v1, rfl, how1, hgr1, hbl1⟩
    clear HC
    obtain ⟨A, c, rfl, _, hsl⟩ := how1.shape
    obtain ⟨b, off, rfl, hbB, hc1, hc2⟩ := hsl.at_ 0 (by simp)
    simp only [List.getElem_cons_zero, Nat.zero_mul, Nat.add_zero, List.length_singleton] at *
    have HB := Lib.hid hbl1
    clear hbl1
    have hs1 := sl_one w1 a
    go_wp2_with (at_builtin; refine wpList_append_pts _ rfl _ _ rfl base (.slice (some ⟨b, off, none⟩) 1 c) [a] rfl (how1.alloc _) (w1.heap.size + 1) _ [a] _ 1 rfl rfl hs1 (by simp) (by simp; have := hgr1.size; omega) ?_; intro v2 w2 how2 hg2 hat2)
    go_ret
    have hb2 : v2.ownBlock = v.ownBlock ∨ v2.ownBlock = some (w1.heap.size + 1) := by
      rw [← HB.out]
      simpa using hat2
    refine ⟨v2, rfl, how2, ?_, ?_⟩
    · refine grown_trans hgr1 ?_
      rw [HB.out] at hg2
      exact ⟨hg2.os, hg2.tape, hg2.output, by have := hg2.size; simp at this; omega, fun i hi hne => (hg2.block i (by simp; omega) hne).trans (Below.heap_alloc w1 _ i hi)⟩
    · rcases hb2 with h | h
      · exact .inl h
      · exact .inr ⟨_, h, by have := hgr1.size; omega⟩
  · rw [part_more h1]
    have h1' : (((Pl.compact l).length : Int) == 1) = false := by simp; omega
    generalize Pl.compact l = cl at *
    have HC := Lib.hid hC
    clear hC h1
    go_enter Try.func40, Try.ntmps40
    go_wp2_with fail
    refine HC.out.mono ?_
    rintro e w1 ⟨v1, rfl, how1, hgr1, hbl1⟩
    clear HC
    obtain ⟨A, c, rfl, _, hsl⟩ := how1.shape
    have HB := Lib.hid hbl1
    clear hbl1
    go_wp2
    go_ret
    exact ⟨_, rfl, how1, hgr1, .inl HB.out⟩
end Go.Proofs.Ytnmmbcgbijinpaa
