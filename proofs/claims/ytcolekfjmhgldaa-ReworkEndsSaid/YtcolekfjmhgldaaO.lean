/- valid. -/
import Derived.Test.YtcolekfjmhgldaaM
import Derived.Test.YtcolekfjmhgldaaN
namespace Go.Proofs.Ytcolekfjmhgldaa
open Go.RowKit
open Pr (Opn Prg)

theorem contains_b (A : Option Addr) (c : Nat) (l : List Int) (x : Int) (w : World) (ha : Si w w.heap.size A l) (hn : l.length ≤ 65536) :
    Calls Try.prog 48 #[.slice A l.length c, .int .i64 x] w fun e w' => e = .returned (.bool (decide (x ∈ l))) ∧ Below w.heap.size w w' := by
  refine (contains_any A c l x w ha hn).mono ?_
  rintro e w' ⟨rfl, rfl⟩
  exact ⟨rfl, Below.refl _ _⟩

theorem ascB_cons {n : Nat} {last x : Int} {k : Nat} {l : List Int} (hx : l[k]? = some x) : Pr.ascB n last (l.drop k) = (decide (last < x) && decide (x < (n : Int)) && Pr.ascB n x (l.drop (k + 1))) := by
  obtain ⟨h1, h2⟩ := List.getElem?_eq_some_iff.1 hx
  rw [List.drop_eq_getElem_cons h1, h2, Pr.ascB]
theorem cntB_cons {l : List Opn} {opn : List Int} {x : Int} {k : Nat} {d : List Int} (hx : d[k]? = some x) : Pr.cntB l opn k (d.drop k) = (decide (0 ≤ x) && decide (x ≤ 1073741824) && (decide ((k : Int) ∈ opn) || (decide (x ≠ 0) && !Pr.waitsB l opn k)) && Pr.cntB l opn (k + 1) (d.drop (k + 1))) := by
  obtain ⟨h1, h2⟩ := List.getElem?_eq_some_iff.1 hx
  rw [List.drop_eq_getElem_cons h1, h2, Pr.cntB]

/-- what valid returns -/
def ValPost (w : World) (b : Bool) (e : Ending) (w' : World) : Prop := e = .returned (.bool b) ∧ Below w.heap.size w w'
theorem ValPost.mk {w w' : World} {b b' : Bool} (h : b = b') (hb : Below w.heap.size w w') : ValPost w b (.returned (.bool b')) w' := ⟨by rw [h], hb⟩

set_option maxRecDepth 100000 in
set_option maxHeartbeats 2000000 in
theorem valid_any (A : Option Addr) (c : Nat) (l : List Opn) (w : World) (dA : Option Addr) (dc : Nat) (oA : Option Addr) (oc : Nat) (p : Prg) (hl : So w w.heap.size A l) (hk : Oks l)
    (hd : Si w w.heap.size dA p.done) (ho : Si w w.heap.size oA p.opn) (hdl : p.done.length ≤ 1000) (hol : p.opn.length ≤ 1000) :
    Calls Try.prog 33 #[.slice A l.length c, .agg #[.int .i64 p.state, .slice dA p.done.length dc, .slice oA p.opn.length oc, .int .i64 p.rework]] w (ValPost w (Pr.validB l p)) := by
  have hlen := hk.len
  have HV : Hid (Pr.validB l p = (decide (1 ≤ p.state) && decide (p.state ≤ 4) && decide (p.done.length = l.length) && decide (p.opn.length ≤ l.length) && decide (0 ≤ p.rework) && decide (p.rework ≤ 1073741824) && Pr.ascB l.length (-1) p.opn && Pr.cntB l p.opn 0 p.done)) := rfl
  have hb0 := b_new w (.cells #[.int .i64 p.state, .slice dA p.done.length dc, .slice oA p.opn.length oc, .int .i64 p.rework] 29)
  by_cases q1 : p.state < 1
  · have HF : Hid (Pr.validB l p = false) := by show _ = _; rw [HV.out, decide_eq_false (show ¬ 1 ≤ p.state by omega)]; simp
    clear HV
    go_enter Try.func33, Try.ntmps33
    go_wp2
    go_ret
    exact ValPost.mk HF.out hb0
  by_cases q2 : 4 < p.state
  · have HF : Hid (Pr.validB l p = false) := by show _ = _; rw [HV.out, decide_eq_false (show ¬ p.state ≤ 4 by omega)]; simp
    clear HV
    go_enter Try.func33, Try.ntmps33
    go_wp2
    go_ret
    exact ValPost.mk HF.out hb0
  by_cases q3 : p.done.length = l.length
  · by_cases q4 : p.opn.length ≤ l.length
    · by_cases q5 : p.rework < 0
      · have HF : Hid (Pr.validB l p = false) := by show _ = _; rw [HV.out, decide_eq_false (show ¬ 0 ≤ p.rework by omega)]; simp
        have q4' : ¬ ((l.length : Int) < (p.opn.length : Int)) := by omega
        rw [q3] at hb0 ⊢
        clear HV
        go_enter Try.func33, Try.ntmps33
        go_wp2
        go_ret
        exact ValPost.mk HF.out hb0
      by_cases q6 : 1073741824 < p.rework
      · have HF : Hid (Pr.validB l p = false) := by show _ = _; rw [HV.out, decide_eq_false (show ¬ p.rework ≤ 1073741824 by omega)]; simp
        have q4' : ¬ ((l.length : Int) < (p.opn.length : Int)) := by omega
        rw [q3] at hb0 ⊢
        clear HV
        go_enter Try.func33, Try.ntmps33
        go_wp2
        go_ret
        exact ValPost.mk HF.out hb0
      have HT : Hid (Pr.validB l p = (Pr.ascB l.length (-1) p.opn && Pr.cntB l p.opn 0 p.done)) := by
        show _ = _
        rw [HV.out, decide_eq_true (show 1 ≤ p.state by omega), decide_eq_true (show p.state ≤ 4 by omega), decide_eq_true q3, decide_eq_true q4, decide_eq_true (show 0 ≤ p.rework by omega), decide_eq_true (show p.rework ≤ 1073741824 by omega)]
        simp
      have q4' : ¬ ((l.length : Int) < (p.opn.length : Int)) := by omega
      rw [q3] at hb0 ⊢
      have hl0 := hl.to hb0
      have hd0 := (hd.below hb0).more hb0.size
      have ho0 := (ho.below hb0).more hb0.size
      have hgl : w.heap.size < (w.alloc (.cells #[.int .i64 p.state, .slice dA l.length dc, .slice oA p.opn.length oc, .int .i64 p.rework] 29)).heap.size := by simp
      have e2 : (w.alloc (.cells #[.int .i64 p.state, .slice dA l.length dc, .slice oA p.opn.length oc, .int .i64 p.rework] 29)).cell? ⟨w.heap.size, 2, none⟩ = some (.slice oA p.opn.length oc) := by simp
      clear HV hl hd ho
      go_enter Try.func33, Try.ntmps33
      go_wp2
      have f1 : (w.alloc (.cells #[.int .i64 p.state, .slice dA l.length dc, .slice oA p.opn.length oc, .int .i64 p.rework] 29)).cell? ⟨w.heap.size, 1, none⟩ = some (.slice dA l.length dc) := by simp
      generalize w.alloc (.cells #[.int .i64 p.state, .slice dA l.length dc, .slice oA p.opn.length oc, .int .i64 p.rework] 29) = W0 at *
      go_loopw [5, 45] (fun s5 s45 wr => ∃ (k : Nat) (la : Int), k ≤ p.opn.length ∧ s5 = .int .i64 la ∧ s45 = .int .i64 k ∧ Hid (Pr.ascB l.length la (p.opn.drop k) = Pr.ascB l.length (-1) p.opn) ∧ W0 = wr) (fun _ s45 _ => p.opn.length - (intOf s45).toNat)
      case atStart => exact ⟨0, -1, Nat.zero_le _, rfl, rfl, rfl, rfl⟩
      case round =>
        obtain ⟨k, la, hk1, rfl, rfl, hA, hww⟩ := hrel
        subst hww
        by_cases hlt : k < p.opn.length
        · obtain ⟨x, hx⟩ := get_ex rfl hlt
          obtain ⟨ob, off, rfl, hob, cx⟩ := si_get ho0 hx
          have HC := Lib.hid (ascB_cons (n := l.length) (last := la) hx)
          clear hx
          by_cases g1 : x ≤ la
          · have HF : Hid (Pr.validB l p = false) := by show _ = _; rw [HT.out, ← hA.out, HC.out, decide_eq_false (show ¬ la < x by omega)]; rfl
            clear hA HC
            go_wp2
            go_ret
            exact ValPost.mk HF.out hb0
          by_cases g2 : (l.length : Int) ≤ x
          · have HF : Hid (Pr.validB l p = false) := by show _ = _; rw [HT.out, ← hA.out, HC.out, decide_eq_false (show ¬ x < (l.length : Int) by omega)]; simp
            clear hA HC
            go_wp2
            go_ret
            exact ValPost.mk HF.out hb0
          have HN : Hid (Pr.ascB l.length x (p.opn.drop (k + 1)) = Pr.ascB l.length (-1) p.opn) := by
            show _ = _
            rw [← hA.out, HC.out, decide_eq_true (show la < x by omega), decide_eq_true (show x < (l.length : Int) by omega)]
            rfl
          clear hA HC
          go_wp2
          go_roundw
          case rel => exact ⟨k + 1, x, by omega, rfl, by go_num, HN, trivial⟩
          case measure => simp [intOf]; omega
        · have HN : Hid (Pr.validB l p = Pr.cntB l p.opn 0 p.done) := by
            show _ = _
            rw [HT.out, ← hA.out, List.drop_eq_nil_of_le (by omega)]
            rfl
          clear hA HT
          go_wp2
          go_loopw [63] (fun s63 wr2 => ∃ k : Nat, k ≤ l.length ∧ s63 = .int .i64 k ∧ Hid (Pr.cntB l p.opn k (p.done.drop k) = Pr.cntB l p.opn 0 p.done) ∧ Below W0.heap.size W0 wr2) (fun s63 _ => l.length - (intOf s63).toNat)
          case atStart => exact ⟨0, Nat.zero_le _, rfl, rfl, Below.refl _ _⟩
          case round =>
            clear hlt hk1
            obtain ⟨k, hk1, rfl, hA, hB⟩ := hrel
            by_cases hlt : k < l.length
            · obtain ⟨x, hx⟩ := get_ex q3 hlt
              obtain ⟨o, hoi⟩ : ∃ o, l[k]? = some o := ⟨_, List.getElem?_eq_getElem hlt⟩
              obtain ⟨db, doff, rfl, hdb, cx0⟩ := si_get hd0 hx
              have cx := (hB.cell (p := ⟨db, doff + k, none⟩) hdb).trans cx0
              have HC := Lib.hid (cntB_cons (l := l) (opn := p.opn) hx)
              clear hx cx0
              by_cases g1 : x < 0
              · have HF : Hid (Pr.validB l p = false) := by show _ = _; rw [HN.out, ← hA.out, HC.out, decide_eq_false (show ¬ 0 ≤ x by omega)]; rfl
                clear hA HC
                go_wp2
                go_ret
                exact ValPost.mk HF.out (b_tr hb0 hB)
              by_cases g2 : 1073741824 < x
              · have HF : Hid (Pr.validB l p = false) := by show _ = _; rw [HN.out, ← hA.out, HC.out, decide_eq_false (show ¬ x ≤ 1073741824 by omega)]; simp
                clear hA HC
                go_wp2
                go_ret
                exact ValPost.mk HF.out (b_tr hb0 hB)
              rw [decide_eq_true (show 0 ≤ x by omega), decide_eq_true (show x ≤ 1073741824 by omega), Bool.true_and, Bool.true_and] at HC
              obtain ⟨b, off, aA, aC, uA, uC, rfl, hbB, hop0, hsa0⟩ := hl0.get hoi
              have hop := hop0.keep hB hbB
              have c2 := (hB.cell (p := ⟨w.heap.size, 2, none⟩) hgl).trans e2
              have HWB := Lib.hid (waitsB_at (opn := p.opn) hoi)
              have HX := Lib.hid (fun W (hW : HeldW wr w.heap.size (.slice oA p.opn.length oc) b (off + k * 5) o aA aC uA uC W) => contains_b oA oc p.opn (k : Int) W ((((ho0.below hB).more hB.size).below hW.2.2.2.2.2.2).more hW.2.2.2.2.2.2.size) (by omega))
              have HW := Lib.hid (fun W (hW : HeldW wr w.heap.size (.slice oA p.opn.length oc) b (off + k * 5) o aA aC uA uC W) => waits_any o aA aC uA uC oA oc p.opn W ((((ho0.below hB).more hB.size).below hW.2.2.2.2.2.2).more hW.2.2.2.2.2.2.size) (by omega) ((((hsa0.below hB).more hB.size).below hW.2.2.2.2.2.2).more hW.2.2.2.2.2.2.size) (by have := hk.aft o (List.mem_of_getElem? hoi); omega))
              have hz := hB.size
              have HQ := Lib.hid (fun n => (contains_any oA oc p.opn (k : Int) (wr.drewN n) (((ho0.below hB).more hB.size).below (below_drewN (Below.refl _ _) n)) (by omega)).mono (fun _ _ h => And.intro h.1 h.2.symm))
              have HKp := Lib.hid (fun W W' (hbn : Below W.heap.size W W') (hW : HeldW wr w.heap.size (.slice oA p.opn.length oc) b (off + k * 5) o aA aC uA uC W) => HeldW.keep (by omega) (by omega) hbn hW)
              have HSt := Lib.hid (HeldW.start c2 hop 1)
              obtain ⟨p0, p1, p2, p3, p4⟩ := hop
              clear hop0 hsa0 hoi e2 f1
              by_cases h1 : (k : Int) ∈ p.opn
              · rw [decide_eq_true h1] at HQ
                have HN2 : Hid (Pr.cntB l p.opn (k + 1) (p.done.drop (k + 1)) = Pr.cntB l p.opn 0 p.done) := by
                  show _ = _
                  rw [← hA.out, HC.out, decide_eq_true h1]
                  rfl
                clear h1 hA HC HWB HW
                go_wp2
                go_quiet ((go_at_call 48; refine Calls.quiet_of_same (HQ.out _)))
                have hBf := below_drewN hB (by assumption)
                go_wp2
                go_roundw
                case rel => exact ⟨k + 1, by omega, by go_num, HN2, hBf⟩
                case measure => simp [intOf]; omega
              · rw [decide_eq_false h1] at HX HQ
                rw [decide_eq_false h1] at HC
                by_cases h2 : x = 0
                · subst h2
                  have HF : Hid (Pr.validB l p = false) := by show _ = _; rw [HN.out, ← hA.out, HC.out]; rfl
                  clear h1 hA HC HWB HW
                  go_wp2
                  go_quiet ((go_at_call 48; refine Calls.quiet_of_same (HQ.out _)))
                  have hBf := below_drewN hB (by assumption)
                  go_wp2
                  go_ret
                  exact ValPost.mk HF.out (b_tr hb0 hBf)
                · have h2' : (x == 0) = false := by simpa using h2
                  rw [decide_eq_true h2, HWB.out] at HC
                  cases h3 : o.after.any (fun a => decide (a ∈ p.opn)) with
                  | true =>
                    rw [h3] at HC HW
                    have HF : Hid (Pr.validB l p = false) := by show _ = _; rw [HN.out, ← hA.out, HC.out]; rfl
                    clear h1 hA HC HWB h2 h3
                    go_wp2
                    go_region_held3 (fun w' => w'.cell? ⟨w.heap.size, 2, none⟩ = some (.slice oA p.opn.length oc) ∧ w'.cell? ⟨b, off + k * 5, none⟩ = some (.string o.name) ∧ w'.cell? ⟨b, off + k * 5 + 1, none⟩ = some (.int .i64 o.machine) ∧ w'.cell? ⟨b, off + k * 5 + 2, none⟩ = some (.int .i64 o.minutes) ∧ w'.cell? ⟨b, off + k * 5 + 3, none⟩ = some (.slice aA o.after.length aC) ∧ w'.cell? ⟨b, off + k * 5 + 4, none⟩ = some (.slice uA o.uses uC) ∧ Below wr.heap.size wr w')
                      (first | exact HSt.out | exact HKp.out _ _ hbn (by with_reducible assumption))
                      (first | (go_at_call 48; (with_reducible refine (HX.out _ (by with_reducible assumption)).mono ?_); rintro e w' ⟨rfl, hbn⟩) | (go_at_call 49; (with_reducible refine (HW.out _ (by with_reducible assumption)).mono ?_); rintro e w' ⟨rfl, hbn⟩))
                    all_goals
                      have hcc : _ ∧ _ ∧ _ ∧ _ ∧ _ ∧ _ ∧ Below wr.heap.size wr _ := ‹_ ∧ _ ∧ _ ∧ _ ∧ _ ∧ _ ∧ Below wr.heap.size wr _›
                      have hBf := b_tr hB hcc.2.2.2.2.2.2
                      clear hcc
                      go_wp2
                      go_ret
                      exact ValPost.mk HF.out (b_tr hb0 hBf)
                  | false =>
                    rw [h3] at HC HW
                    have HN2 : Hid (Pr.cntB l p.opn (k + 1) (p.done.drop (k + 1)) = Pr.cntB l p.opn 0 p.done) := by
                      show _ = _
                      rw [← hA.out, HC.out]
                      rfl
                    clear h1 hA HC HWB h2 h3
                    go_wp2
                    go_region_held3 (fun w' => w'.cell? ⟨w.heap.size, 2, none⟩ = some (.slice oA p.opn.length oc) ∧ w'.cell? ⟨b, off + k * 5, none⟩ = some (.string o.name) ∧ w'.cell? ⟨b, off + k * 5 + 1, none⟩ = some (.int .i64 o.machine) ∧ w'.cell? ⟨b, off + k * 5 + 2, none⟩ = some (.int .i64 o.minutes) ∧ w'.cell? ⟨b, off + k * 5 + 3, none⟩ = some (.slice aA o.after.length aC) ∧ w'.cell? ⟨b, off + k * 5 + 4, none⟩ = some (.slice uA o.uses uC) ∧ Below wr.heap.size wr w')
                      (first | exact HSt.out | exact HKp.out _ _ hbn (by with_reducible assumption))
                      (first | (go_at_call 48; (with_reducible refine (HX.out _ (by with_reducible assumption)).mono ?_); rintro e w' ⟨rfl, hbn⟩) | (go_at_call 49; (with_reducible refine (HW.out _ (by with_reducible assumption)).mono ?_); rintro e w' ⟨rfl, hbn⟩))
                    all_goals
                      have hcc : _ ∧ _ ∧ _ ∧ _ ∧ _ ∧ _ ∧ Below wr.heap.size wr _ := ‹_ ∧ _ ∧ _ ∧ _ ∧ _ ∧ _ ∧ Below wr.heap.size wr _›
                      have hBf := b_tr hB hcc.2.2.2.2.2.2
                      clear hcc
                      go_wp2
                      go_roundw
                      case rel => exact ⟨k + 1, by omega, by go_num, HN2, hBf⟩
                      case measure => simp [intOf]; omega
            · have HF : Hid (Pr.validB l p = true) := by show _ = _; rw [HN.out, ← hA.out, List.drop_eq_nil_of_le (by omega)]; rfl
              go_wp2
              go_ret
              exact ValPost.mk HF.out (b_tr hb0 hB)
    · have HF : Hid (Pr.validB l p = false) := by show _ = _; rw [HV.out, decide_eq_false q4]; simp
      have q4' : ((l.length : Int) < (p.opn.length : Int)) := by omega
      rw [q3] at hb0 ⊢
      clear HV
      go_enter Try.func33, Try.ntmps33
      go_wp2
      go_ret
      exact ValPost.mk HF.out hb0
  · have HF : Hid (Pr.validB l p = false) := by show _ = _; rw [HV.out, decide_eq_false q3]; simp
    have q3' : ((p.done.length : Int) == (l.length : Int)) = false := by simp; omega
    clear HV
    go_enter Try.func33, Try.ntmps33
    go_wp2
    go_ret
    exact ValPost.mk HF.out hb0
end Go.Proofs.Ytcolekfjmhgldaa
