/- done. -/
import Derived.Test.YtcolekfjmhgldaaL
import Derived.Deep.RegionHeld3
namespace Go.Proofs.Ytcolekfjmhgldaa
open Go.RowKit
open Pr (Opn Prg)

theorem below_drewN {B : Nat} {a w : World} (h : Below B a w) (n : Nat) : Below B a (w.drewN n) := by
  induction n with
  | zero => exact h
  | succ n ih => exact ih.drew

theorem waitsB_at {l : List Opn} {opn : List Int} {i : Nat} {o : Opn} (h : l[i]? = some o) : Pr.waitsB l opn i = o.after.any (fun a => decide (a ∈ opn)) := by unfold Pr.waitsB; rw [aft_at h]

theorem delete_own (g c base q : Nat) (l : List Int) (w : World) (how : Oi w base (.slice (some ⟨g, 0, none⟩) l.length c) l) (hq : q < l.length) :
    Calls Try.prog 51 #[.slice (some ⟨g, 0, none⟩) l.length c, .int .i64 (q : Int), .int .i64 ((q + 1 : Nat) : Int)] w fun e w' => e = .returned (.slice (some ⟨g, 0, none⟩) (l.length - 1) c) ∧ Oi w' base (.slice (some ⟨g, 0, none⟩) (l.length - 1) c) (l.eraseIdx q) ∧ w.grownBy w' (some g) := by
  have how0 := how
  obtain ⟨hxl, ⟨h, _⟩ | ⟨g', cap', cur, he, hb, hg, hnc, hcm, hcs, ht⟩⟩ := how
  · cases h
  · have he' := he
    simp only [Value.slice.injEq, Option.some.injEq, Addr.mk.injEq, and_true, true_and] at he'
    obtain ⟨rfl, rfl⟩ := he'
    have hH : Go.Sort.Holds (Value.int .i64) w g 0 l.toArray := by
      intro j hj
      have hj' : j < l.length := by simpa using hj
      have e : l.toArray[j]! = l[j] := by
        rw [getElem!_pos _ j (by simpa using hj)]
        simp
      rw [e, Nat.zero_add]
      exact ⟨how0.get (List.getElem?_eq_getElem hj'), how0.frozenAt j⟩
    refine (Try.slices_Delete_int g 0 c q (q + 1) l w hH hnc (by unfold maxLen at hcm; omega) (by omega) (by omega)).mono ?_
    rintro e w' ⟨rfl, k, rfl⟩
    have hd : l.take q ++ l.drop (q + 1) = l.eraseIdx q := (List.eraseIdx_eq_take_drop_succ l q).symm
    rw [hd]
    have hel : (l.eraseIdx q).length = l.length - 1 := by rw [List.length_eraseIdx, if_pos hq]
    have h1 : q + 1 - q = 1 := by omega
    rw [h1]
    refine ⟨rfl, ⟨by simp, .inr ⟨g, c, Go.Sort.putCells (Value.int .i64) 0 (l.eraseIdx q ++ List.replicate 1 0).toArray cur, by rw [hel], hb, ?_, by omega, hcm, ?_, ?_⟩⟩, ?_⟩
    · obtain ⟨hlt, hgg⟩ := Array.getElem?_eq_some_iff.1 hg
      show (w.heap.modify g _)[g]? = _
      rw [Array.getElem?_eq_getElem (by rw [Array.size_modify]; exact hlt), Array.getElem_modify_self, hgg]
      rfl
    · simpa [Go.Sort.putCells] using hcs
    · have hE : (l.eraseIdx q).length < cur.size := by omega
      generalize l.eraseIdx q = E at *
      apply List.ext_getElem?
      intro i
      rw [Nat.mul_one, List.getElem?_map]
      by_cases hi : i < E.length
      · rw [List.getElem?_take_of_lt hi, Array.getElem?_toList]
        unfold Go.Sort.putCells
        rw [Array.getElem?_mapIdx, Array.getElem?_eq_getElem (by omega)]
        simp only [Option.map_some, List.size_toArray, List.length_append, List.length_replicate]
        rw [if_pos (by omega), getElem!_pos _ _ (by simp; omega), List.getElem?_eq_getElem hi]
        simp [List.getElem_append_left, hi]
      · rw [List.getElem?_eq_none (by rw [List.length_take]; omega), List.getElem?_eq_none (by omega)]
        rfl
    · refine ⟨rfl, rfl, rfl, by simp [Go.Sort.ahead], fun i _ hi => ?_⟩
      have hne : ¬ g = i := fun e => hi (by rw [e])
      simp [Go.Sort.putRow, Go.Sort.mapBlock, Array.getElem?_modify, hne, Go.Sort.ahead]

theorem Pm.below {w w' : World} {base g : Nat} {dv ov : Value} {p : Prg} (h : Pm w base g dv ov p) (hb : Below w.heap.size w w') : Pm w' base g dv ov p where
  c0 := (hb.cell (p := ⟨g, 0, none⟩) h.gl).trans h.c0
  c1 := (hb.cell (p := ⟨g, 1, none⟩) h.gl).trans h.c1
  c2 := (hb.cell (p := ⟨g, 2, none⟩) h.gl).trans h.c2
  c3 := (hb.cell (p := ⟨g, 3, none⟩) h.gl).trans h.c3
  fz := fun j => (World.frozen?_of_block (hb.block g h.gl)).trans (h.fz j)
  gb := h.gb
  gl := Nat.lt_of_lt_of_le h.gl hb.size
  hd := h.hd.below hb
  ho := h.ho.below hb
  nd := h.nd
  no := h.no
  ne := h.ne
theorem Pm.setDone {w : World} {base g gd n dc : Nat} {ov : Value} {p : Prg} (h : Pm w base g (.slice (some ⟨gd, 0, none⟩) n dc) ov p) (i : Nat) (x : Int) : Pm (w.setCell ⟨gd, i, none⟩ (.int .i64 x)) base g (.slice (some ⟨gd, 0, none⟩) n dc) ov { p with done := p.done.set i x } := by
  have hg := grown_set w gd i (.int .i64 x)
  have hne : gd ≠ g := fun e => h.nd (by rw [e]; rfl)
  have hk : ∀ o, (w.setCell ⟨gd, i, none⟩ (.int .i64 x)).cell? ⟨g, o, none⟩ = w.cell? ⟨g, o, none⟩ := fun o => World.cell?_setCell_other _ _ _ _ (fun e => hne (by injection e))
  exact ⟨(hk _).trans h.c0, (hk _).trans h.c1, (hk _).trans h.c2, (hk _).trans h.c3, fun j => by rw [World.frozen?_setCell]; exact h.fz j, h.gb, Nat.lt_of_lt_of_le h.gl hg.size, h.hd.set i x, World.ownsRow.kept h.ho hg (.inr (h.ne gd rfl)), h.nd, h.no, h.ne⟩
theorem Pm.setOpn {w w2 : World} {base g go n n' oc : Nat} {dv : Value} {p : Prg} {o' : List Int} (h : Pm w base g dv (.slice (some ⟨go, 0, none⟩) n oc) p) (hg : w.grownBy w2 (some go)) (ho : Oi w2 base (.slice (some ⟨go, 0, none⟩) n' oc) o') :
    Pm (w2.setCell ⟨g, 2, none⟩ (.slice (some ⟨go, 0, none⟩) n' oc)) base g dv (.slice (some ⟨go, 0, none⟩) n' oc) { p with opn := o' } := by
  have hne : go ≠ g := fun e => h.no (by rw [e]; rfl)
  have hb2 : w2.heap[g]? = w.heap[g]? := hg.block g h.gl (fun e => hne (by injection e with e; exact e.symm))
  have hk : ∀ o, w2.cell? ⟨g, o, none⟩ = w.cell? ⟨g, o, none⟩ := fun o => World.cell?_of_block hb2
  have hg2 := grown_set w2 g 2 (.slice (some ⟨go, 0, none⟩) n' oc)
  have hd2 : Oi w2 base dv p.done := World.ownsRow.kept h.hd hg (.inr (fun e => h.ne go e rfl))
  refine ⟨?_, ?_, World.cell?_setCell_same _ _ _ ((hk _).trans h.c2), ?_, ?_, h.gb, ?_, World.ownsRow.kept hd2 hg2 (.inr h.nd), World.ownsRow.kept ho hg2 (.inr h.no), h.nd, h.no, h.ne⟩
  · exact (World.cell?_setCell_other _ _ _ _ (by simp)).trans ((hk _).trans h.c0)
  · exact (World.cell?_setCell_other _ _ _ _ (by simp)).trans ((hk _).trans h.c1)
  · exact (World.cell?_setCell_other _ _ _ _ (by simp)).trans ((hk _).trans h.c3)
  · intro j
    rw [World.frozen?_setCell]
    exact (World.frozen?_of_block hb2).trans (h.fz j)
  · have := hg.size
    have := hg2.size
    have := h.gl
    omega

theorem below_own {a w w' : World} {base g : Nat} (hb : Below base a w) (hg : w.grownBy w' (some g)) (hs : base ≤ w.heap.size) (h : base ≤ g) : Below base a w' :=
  hb.trans ((Below.refl _ _).grown hg hs (fun k hk => by injection hk with hk; omega))
/-- what the region that asks for the wait reads -/
abbrev HeldW (W0 : World) (g : Nat) (ov : Value) (b o : Nat) (x : Opn) (aA : Option Addr) (aC : Nat) (uA : Option Addr) (uC : Nat) (w' : World) : Prop :=
  w'.cell? ⟨g, 2, none⟩ = some ov ∧ w'.cell? ⟨b, o, none⟩ = some (.string x.name) ∧ w'.cell? ⟨b, o + 1, none⟩ = some (.int .i64 x.machine) ∧ w'.cell? ⟨b, o + 2, none⟩ = some (.int .i64 x.minutes) ∧ w'.cell? ⟨b, o + 3, none⟩ = some (.slice aA x.after.length aC) ∧ w'.cell? ⟨b, o + 4, none⟩ = some (.slice uA x.uses uC) ∧ Below W0.heap.size W0 w'
theorem HeldW.start {W0 : World} {g b o : Nat} {ov : Value} {x : Opn} {aA : Option Addr} {aC : Nat} {uA : Option Addr} {uC : Nat} (h2 : W0.cell? ⟨g, 2, none⟩ = some ov) (ho : Opc W0 b o x aA aC uA uC) (n : Nat) : HeldW W0 g ov b o x aA aC uA uC (W0.drewN n) := by
  have hk : ∀ a, (W0.drewN n).cell? a = W0.cell? a := fun a => by simp
  exact ⟨(hk _).trans h2, (hk _).trans ho.c0, (hk _).trans ho.c1, (hk _).trans ho.c2, (hk _).trans ho.c3, (hk _).trans ho.c4, below_drewN (Below.refl _ _) n⟩
theorem HeldW.keep {W0 W W' : World} {g b o : Nat} {ov : Value} {x : Opn} {aA : Option Addr} {aC : Nat} {uA : Option Addr} {uC : Nat} (hg : g < W0.heap.size) (hb : b < W0.heap.size) (hbn : Below W.heap.size W W') (h : HeldW W0 g ov b o x aA aC uA uC W) : HeldW W0 g ov b o x aA aC uA uC W' := by
  obtain ⟨h1, h2, h3, h4, h5, h6, h7⟩ := h
  have hk : ∀ o, W'.cell? ⟨b, o, none⟩ = W.cell? ⟨b, o, none⟩ := fun o => hbn.cell (p := ⟨b, o, none⟩) (Nat.lt_of_lt_of_le hb h7.size)
  have hk2 : ∀ o, W'.cell? ⟨g, o, none⟩ = W.cell? ⟨g, o, none⟩ := fun o => hbn.cell (p := ⟨g, o, none⟩) (Nat.lt_of_lt_of_le hg h7.size)
  exact ⟨(hk2 _).trans h1, (hk _).trans h2, (hk _).trans h3, (hk _).trans h4, (hk _).trans h5, (hk _).trans h6, h7.trans (hbn.mono h7.size)⟩

set_option maxHeartbeats 1000000 in
theorem done_any (A : Option Addr) (c : Nat) (l : List Opn) (w : World) (base g : Nat) (dv ov : Value) (p : Prg) (op : Int) (hl : So w base A l) (hk : Oks l) (h : Pm w base g dv ov p) (hdl : p.done.length = l.length) (hol : p.opn.length ≤ l.length) (hdb : ∀ x ∈ p.done, 0 ≤ x ∧ x ≤ 1073741824) :
    Calls Try.prog 35 #[.slice A l.length c, .pointer (some ⟨g, 0, none⟩), .int .i64 op] w (ActPost w base g (Pr.doneR l p op)) := by
  obtain ⟨oA, oc, rfl, hoc1, hoc2, hso, hog⟩ := h.ho.shape
  have hlen := hk.len
  have c2 := h.c2
  by_cases h1 : op < 0 ∨ (l.length : Int) ≤ op
  · have HR : Hid (Pr.doneR l p op = (3, Pr.zeroP)) := by show _ = _; unfold Pr.doneR; rw [if_pos h1]
    generalize Pr.doneR l p op = R at *
    clear h
    have h1' : op < 0 ∨ (¬ op < 0 ∧ (l.length : Int) ≤ op) := by omega
    rcases h1' with h2 | ⟨h2, h3⟩
    all_goals
      go_enter Try.func35, Try.ntmps35
      go_wp2
      go_ret
      rw [HR.out]
      exact ⟨rfl, fun h => absurd h (by decide), Below.refl _ _⟩
  · obtain ⟨i, rfl⟩ := Int.eq_ofNat_of_zero_le (show 0 ≤ op by omega)
    have h2 : ¬ (i : Int) < 0 := by omega
    have h3 : ¬ (l.length : Int) ≤ (i : Int) := by omega
    have hil : i < l.length := by omega
    obtain ⟨o, hoi⟩ : ∃ o, l[i]? = some o := ⟨_, List.getElem?_eq_getElem hil⟩
    have HI := Lib.hid (index_any oA oc p.opn (i : Int) w hso (by omega))
    by_cases h4 : (i : Int) ∈ p.opn
    · have hix : idx p.opn (i : Int) = (p.opn.idxOf (i : Int) : Nat) := by unfold idx; rw [if_pos h4]
      have hql : p.opn.idxOf (i : Int) < p.opn.length := List.idxOf_lt_length_of_mem h4
      rw [hix] at HI
      clear hix
      generalize hq : p.opn.idxOf (i : Int) = q at *
      obtain ⟨b, off, aA, aC, uA, uC, rfl, hbB, hop, hsa⟩ := hl.get hoi
      have hgl := h.gl
      have hgb := h.gb
      have hbl : b < w.heap.size := by omega
      have HW := Lib.hid (fun W (hW : HeldW w g (.slice oA p.opn.length oc) b (off + i * 5) o aA aC uA uC W) => waits_any o aA aC uA uC oA oc p.opn W ((hso.below hW.2.2.2.2.2.2).more hW.2.2.2.2.2.2.size) (by omega) (((hsa.more (by omega : base ≤ w.heap.size)).below hW.2.2.2.2.2.2).more hW.2.2.2.2.2.2.size) (by have := hk.aft o (List.mem_of_getElem? hoi); omega))
      have HKp := Lib.hid (fun W W' (hbn : Below W.heap.size W W') (hW : HeldW w g (.slice oA p.opn.length oc) b (off + i * 5) o aA aC uA uC W) => HeldW.keep hgl hbl hbn hW)
      have HSt := Lib.hid (HeldW.start c2 hop 1)
      obtain ⟨p0, p1, p2, p3, p4⟩ := hop
      have HWB := Lib.hid (waitsB_at (opn := p.opn) hoi)
      by_cases h5 : o.after.any (fun a => decide (a ∈ p.opn)) = true
      · have HR : Hid (Pr.doneR l p (i : Int) = (21, Pr.zeroP)) := by show _ = _; unfold Pr.doneR; rw [if_neg h1, if_neg (fun h => h h4), Int.toNat_natCast, HWB.out, if_pos h5]
        generalize Pr.doneR l p (i : Int) = R at *
        rw [h5] at HW
        clear h h5 HWB
        go_enter Try.func35, Try.ntmps35
        go_wp2_with fail
        refine HI.out.mono ?_
        rintro e w1 ⟨rfl, rfl⟩
        go_wp2
        go_region_held3 (fun w' => w'.cell? ⟨g, 2, none⟩ = some (.slice oA p.opn.length oc) ∧ w'.cell? ⟨b, off + i * 5, none⟩ = some (.string o.name) ∧ w'.cell? ⟨b, off + i * 5 + 1, none⟩ = some (.int .i64 o.machine) ∧ w'.cell? ⟨b, off + i * 5 + 2, none⟩ = some (.int .i64 o.minutes) ∧ w'.cell? ⟨b, off + i * 5 + 3, none⟩ = some (.slice aA o.after.length aC) ∧ w'.cell? ⟨b, off + i * 5 + 4, none⟩ = some (.slice uA o.uses uC) ∧ Below w.heap.size w w')
          (first | exact HSt.out | exact HKp.out _ _ hbn (by with_reducible assumption))
          (first | (go_at_call 49; (with_reducible refine (HW.out _ (by with_reducible assumption)).mono ?_); rintro e w' ⟨rfl, hbn⟩))
        all_goals
          have hcc : _ ∧ _ ∧ _ ∧ _ ∧ _ ∧ _ ∧ Below w.heap.size w _ := ‹_ ∧ _ ∧ _ ∧ _ ∧ _ ∧ _ ∧ Below w.heap.size w _›
          have hBf := hcc.2.2.2.2.2.2.mono (show base ≤ w.heap.size by omega)
          clear hcc
          go_wp2
          go_ret
          rw [HR.out]
          exact ⟨rfl, fun h => absurd h (by decide), hBf⟩
      · have h5' : o.after.any (fun a => decide (a ∈ p.opn)) = false := by simpa using h5
        rw [h5'] at HW
        obtain ⟨x, hx⟩ := get_ex hdl hil
        have hxb := hdb x (List.mem_of_getElem? hx)
        have HER : Hid (p.opn.eraseIdx q = p.opn.erase (i : Int)) := by show _ = _; rw [← hq, List.erase_eq_eraseIdx_of_idxOf rfl]
        have HR : Hid (Pr.doneR l p (i : Int) = (0, ⟨if p.opn.erase (i : Int) = [] then 1 else p.state, p.done.set i (x + 1), p.opn.erase (i : Int), p.rework⟩)) := by
          show _ = _
          unfold Pr.doneR
          rw [if_neg h1, if_neg (fun h => h h4), Int.toNat_natCast, HWB.out, if_neg h5, List.getD_eq_getElem?_getD, hx]
          rfl
        generalize Pr.doneR l p (i : Int) = R at *
        obtain ⟨dA, dc, rfl, hdc1, hdc2, hsd, hdg⟩ := h.hd.shape
        obtain ⟨gd, rfl, hgd⟩ := hdg (fun e => by rw [e] at hx; simp at hx)
        obtain ⟨go, rfl, hgo⟩ := hog (fun e => by rw [e] at h4; simp at h4)
        rw [hdl] at h
        have HP := Lib.hid h
        clear h h5 h5' HWB hsd hdg hog hso
        go_enter Try.func35, Try.ntmps35
        go_wp2_with fail
        refine HI.out.mono ?_
        rintro e w1 ⟨rfl, rfl⟩
        go_wp2
        go_region_held3 (fun w' => w'.cell? ⟨g, 2, none⟩ = some (.slice (some ⟨go, 0, none⟩) p.opn.length oc) ∧ w'.cell? ⟨b, off + i * 5, none⟩ = some (.string o.name) ∧ w'.cell? ⟨b, off + i * 5 + 1, none⟩ = some (.int .i64 o.machine) ∧ w'.cell? ⟨b, off + i * 5 + 2, none⟩ = some (.int .i64 o.minutes) ∧ w'.cell? ⟨b, off + i * 5 + 3, none⟩ = some (.slice aA o.after.length aC) ∧ w'.cell? ⟨b, off + i * 5 + 4, none⟩ = some (.slice uA o.uses uC) ∧ Below w.heap.size w w')
          (first | exact HSt.out | exact HKp.out _ _ hbn (by with_reducible assumption))
          (first | (go_at_call 49; (with_reducible refine (HW.out _ (by with_reducible assumption)).mono ?_); rintro e w' ⟨rfl, hbn⟩))
        all_goals
          have hcc : _ ∧ _ ∧ _ ∧ _ ∧ _ ∧ _ ∧ Below w.heap.size w _ := ‹_ ∧ _ ∧ _ ∧ _ ∧ _ ∧ _ ∧ Below w.heap.size w _›
          have hBf := hcc.2.2.2.2.2.2.mono (show base ≤ w.heap.size by omega)
          have hP1 := HP.out.below hcc.2.2.2.2.2.2
          clear hcc HI HKp HSt HW c2 p0 p1 p2 p3 p4
          have c1 := hP1.c1
          have cx := hP1.hd.get hx
          have fd := hP1.hd.frozenAt i
          have hP2 := hP1.setDone i (x + 1)
          have hB2 := hBf.setCell (p := ⟨gd, i, none⟩) hgd (.int .i64 (x + 1))
          have c2' := hP2.c2
          have HD := Lib.hid (delete_own go oc base q p.opn _ hP2.ho hql)
          have wx : wrap64 (x + 1) = x + 1 := by unfold wrap64; omega
          have wq : wrap64 ((q : Int) + 1) = ((q + 1 : Nat) : Int) := by unfold wrap64; omega
          go_wp2_with fail
          refine HD.out.mono ?_
          rintro e w5 ⟨rfl, ho5, hg5⟩
          have hP3 := hP2.setOpn hg5 ho5
          have hlt5 : go ≠ g := fun e => hP2.no (by rw [e]; rfl)
          have hb5 := hg5.block g hP2.gl (fun e => hlt5 (by injection e with e; exact e.symm))
          have d2 := (World.cell?_of_block (a := ⟨g, 2, none⟩) hb5).trans c2'
          have e2 := (World.frozen?_of_block (a := ⟨g, 2, none⟩) hb5).trans (hP2.fz 2)
          have d0 := hP3.c0
          have g2 := hP3.c2
          have e0 := hP3.fz 0
          have hel : (p.opn.eraseIdx q).length = p.opn.length - 1 := by rw [List.length_eraseIdx, if_pos hql]
          have hB5 := below_own hB2 hg5 (by have := hP2.gl; omega) hgo
          have hB6 := hB5.setCell (p := ⟨g, 2, none⟩) hgb (.slice (some ⟨go, 0, none⟩) (p.opn.length - 1) oc)
          have HP3 := Lib.hid hP3
          rw [HER.out] at HP3 hel
          clear hP3 hP2 hP1 HP hBf hB2 hB5 hb5 hg5 HD c1 cx fd c2'
          dsimp only at d0
          by_cases hE : p.opn.erase (i : Int) = []
          · have hz : p.opn.length - 1 = 0 := by rw [← hel, hE]; rfl
            rw [if_pos hE] at HR
            generalize p.opn.length - 1 = N at *
            subst hz
            have HP4 := Lib.hid (HP3.out.state 1)
            have hB7 := hB6.setCell (p := ⟨g, 0, none⟩) hgb (.int .i64 1)
            clear HP3
            go_wp2
            go_ret
            rw [HR.out]
            exact ⟨rfl, fun _ => ⟨_, _, HP4.out⟩, hB7⟩
          · have hz : (0 : Int) < ((p.opn.length - 1 : Nat) : Int) := by have := List.length_pos_iff.2 hE; omega
            rw [if_neg hE] at HR
            go_wp2
            go_ret
            rw [HR.out]
            exact ⟨rfl, fun _ => ⟨_, _, HP3.out⟩, hB6⟩
    · have HR : Hid (Pr.doneR l p (i : Int) = (8, Pr.zeroP)) := by show _ = _; unfold Pr.doneR; rw [if_neg h1, if_pos h4]
      generalize Pr.doneR l p (i : Int) = R at *
      rw [idx_none h4] at HI
      clear h
      go_enter Try.func35, Try.ntmps35
      go_wp2_with fail
      refine HI.out.mono ?_
      rintro e w1 ⟨rfl, rfl⟩
      go_wp2
      go_ret
      rw [HR.out]
      exact ⟨rfl, fun h => absurd h (by decide), Below.refl _ _⟩
end Go.Proofs.Ytcolekfjmhgldaa
