/- Step. -/
import Derived.Test.YtcolekfjmhgldaaR
import Derived.Test.YtcolekfjmhgldaaO
namespace Go.Proofs.Ytcolekfjmhgldaa
open Go.RowKit
open Pr (Opn Prg)

theorem ascB_mem {n : Nat} : ∀ {l : List Int} {last : Int}, -1 ≤ last → Pr.ascB n last l = true → l.Pairwise (· < ·) ∧ ∀ x ∈ l, last < x ∧ x < (n : Int)
  | [], _, _, _ => ⟨List.Pairwise.nil, by simp⟩
  | x :: r, last, hl, h => by
    rw [Pr.ascB] at h
    simp only [Bool.and_eq_true, decide_eq_true_eq] at h
    obtain ⟨⟨h1, h2⟩, h3⟩ := h
    obtain ⟨h4, h5⟩ := ascB_mem (by omega) h3
    refine ⟨List.pairwise_cons.2 ⟨fun y hy => (h5 y hy).1, h4⟩, fun y hy => ?_⟩
    rcases List.mem_cons.1 hy with rfl | hy
    · exact ⟨h1, h2⟩
    · have := h5 y hy
      omega
theorem cntB_mem {l : List Opn} {opn : List Int} : ∀ {d : List Int} {i : Nat}, Pr.cntB l opn i d = true → ∀ x ∈ d, 0 ≤ x ∧ x ≤ 1073741824
  | [], _, _ => by simp
  | x :: r, i, h => by
    rw [Pr.cntB] at h
    simp only [Bool.and_eq_true, decide_eq_true_eq] at h
    intro y hy
    rcases List.mem_cons.1 hy with rfl | hy
    · exact ⟨h.1.1.1, h.1.1.2⟩
    · exact cntB_mem h.2 y hy
/-- what a valid progress is -/
structure Vld (l : List Opn) (p : Prg) : Prop where
  s1 : 1 ≤ p.state
  s2 : p.state ≤ 4
  dl : p.done.length = l.length
  ol : p.opn.length ≤ l.length
  r1 : 0 ≤ p.rework
  r2 : p.rework ≤ 1073741824
  asc : p.opn.Pairwise (· < ·)
  rng : ∀ x ∈ p.opn, 0 ≤ x ∧ x < (l.length : Int)
  cnt : Pr.cntB l p.opn 0 p.done = true
theorem vld_of {l : List Opn} {p : Prg} (h : Pr.validB l p = true) : Vld l p := by
  unfold Pr.validB at h
  simp only [Bool.and_eq_true, decide_eq_true_eq] at h
  obtain ⟨⟨⟨⟨⟨⟨⟨h1, h2⟩, h3⟩, h4⟩, h5⟩, h6⟩, h7⟩, h8⟩ := h
  obtain ⟨h9, h10⟩ := ascB_mem (by omega) h7
  exact ⟨h1, h2, h3, h4, h5, h6, h9, fun x hx => by have := h10 x hx; omega, h8⟩
theorem Vld.nodup {l : List Opn} {p : Prg} (h : Vld l p) : p.opn.Nodup := h.asc.imp (fun h => by omega)

/-- what the region that copies reads and leaves -/
abbrev HeldC (W0 : World) (g : Nat) (st : Int) (dv ov : Value) (rw : Int) (w' : World) : Prop :=
  w'.cell? ⟨g, 0, none⟩ = some (.int .i64 st) ∧ w'.cell? ⟨g, 1, none⟩ = some dv ∧ w'.cell? ⟨g, 2, none⟩ = some ov ∧ w'.cell? ⟨g, 3, none⟩ = some (.int .i64 rw) ∧ Below W0.heap.size W0 w'
theorem HeldC.keep {W0 W W' : World} {g : Nat} {st : Int} {dv ov : Value} {rw : Int} (hg : g < W0.heap.size) (hbn : Below W.heap.size W W') (h : HeldC W0 g st dv ov rw W) : HeldC W0 g st dv ov rw W' := by
  obtain ⟨h1, h2, h3, h4, h5⟩ := h
  have hk : ∀ o, W'.cell? ⟨g, o, none⟩ = W.cell? ⟨g, o, none⟩ := fun o => hbn.cell (p := ⟨g, o, none⟩) (Nat.lt_of_lt_of_le hg h5.size)
  exact ⟨(hk _).trans h1, (hk _).trans h2, (hk _).trans h3, (hk _).trans h4, h5.trans (hbn.mono h5.size)⟩
theorem HeldC.set {W0 W : World} {g G j : Nat} {st : Int} {dv ov : Value} {rw : Int} (hG : W0.heap.size ≤ G) (hg : g < W0.heap.size) (u : Value) (h : HeldC W0 g st dv ov rw W) : HeldC W0 g st dv ov rw (W.setCell ⟨G, j, none⟩ u) := by
  obtain ⟨h1, h2, h3, h4, h5⟩ := h
  have hk : ∀ o, (W.setCell ⟨G, j, none⟩ u).cell? ⟨g, o, none⟩ = W.cell? ⟨g, o, none⟩ := fun o => World.cell?_setCell_other _ _ _ _ (fun e => by injection e; omega)
  exact ⟨(hk _).trans h1, (hk _).trans h2, (hk _).trans h3, (hk _).trans h4, b_set h5 hG _ _⟩

/-- the values of a step's arguments and their memory -/
theorem b3 (w : World) (a b c : Obj) : Below w.heap.size w (((w.alloc a).alloc b).alloc c) := b_al (b_al (b_new w a) b) c
theorem Z4.new3 (w : World) (a b : Obj) : Z4 (((w.alloc a).alloc b).alloc (.cells #[.int .i64 0, .slice none 0 0, .slice none 0 0, .int .i64 0] 29)) (w.heap.size + 1 + 1) := by
  have := Z4.new ((w.alloc a).alloc b)
  rw [size_al, size_al] at this
  exact this

theorem pmNew {w' : World} {base b1 b2 : Nat} {dv ov : Value} {p : Prg} (hd : Oi w' b1 dv p.done) (ho : Oi w' b2 ov p.opn) (h1 : base ≤ b1) (h2 : base ≤ b2) (hb : base ≤ w'.heap.size) (ld : ∀ k, dv.ownBlock = some k → k < b2) (hdc : ∃ A n c, dv = .slice A n c) (hoc : ∃ A n c, ov = .slice A n c) :
    Pm (w'.alloc (.cells #[.int .i64 p.state, dv, ov, .int .i64 p.rework] 29)) base w'.heap.size dv ov p := by
  obtain ⟨A, n, c, rfl⟩ := hdc
  obtain ⟨A', n', c', rfl⟩ := hoc
  exact ⟨by simp, by simp, by simp, by simp, fun j => World.frozen?_alloc_new _ _ _ j, hb, by simp, (hd.base_le h1).alloc _, (ho.base_le h2).alloc _, fun e => by have := (World.ownsRow.lt hd _ e).2; omega, fun e => by have := (World.ownsRow.lt ho _ e).2; omega, fun k e e2 => by
    have := ld k e
    have := (World.ownsRow.lt ho k e2).1
    omega⟩
theorem pmOld {w' : World} {base b1 b2 G : Nat} {dv ov : Value} {p : Prg} (z : Z4 w' G) (hd : Oi w' b1 dv p.done) (ho : Oi w' b2 ov p.opn) (h1 : base ≤ b1) (h2 : base ≤ b2) (hb : base ≤ G) (hGb : G < b2) (ld : ∀ k, dv.ownBlock = some k → k ≠ G ∧ k < b2) :
    Pm ((((w'.setCell ⟨G, 0, none⟩ (.int .i64 p.state)).setCell ⟨G, 1, none⟩ dv).setCell ⟨G, 2, none⟩ ov).setCell ⟨G, 3, none⟩ (.int .i64 p.rework)) base G dv ov p := by
  have nd : dv.ownBlock ≠ some G := fun e => (ld G e).1 rfl
  have no : ov.ownBlock ≠ some G := fun e => by have := (World.ownsRow.lt ho G e).1; omega
  have ne : ∀ k, dv.ownBlock = some k → ov.ownBlock ≠ some k := fun k e e2 => by
    have := (ld k e).2
    have := (World.ownsRow.lt ho k e2).1
    omega
  have k1 := fun (u : Value) (W : World) (h : Oi W base dv p.done) (j : Nat) => World.ownsRow.kept h (grown_set W G j u) (.inr nd)
  have k2 := fun (u : Value) (W : World) (h : Oi W base ov p.opn) (j : Nat) => World.ownsRow.kept h (grown_set W G j u) (.inr no)
  refine ⟨?_, ?_, ?_, ?_, fun j => by simp only [World.frozen?_setCell]; exact z.fz j, hb, ?_, k1 _ _ (k1 _ _ (k1 _ _ (k1 _ _ (hd.base_le h1) _) _) _) _, k2 _ _ (k2 _ _ (k2 _ _ (k2 _ _ (ho.base_le h2) _) _) _) _, nd, no, ne⟩
  · rw [World.cell?_setCell_other _ _ _ _ (by simp), World.cell?_setCell_other _ _ _ _ (by simp), World.cell?_setCell_other _ _ _ _ (by simp)]
    exact World.cell?_setCell_same _ _ _ z.c0
  · rw [World.cell?_setCell_other _ _ _ _ (by simp), World.cell?_setCell_other _ _ _ _ (by simp)]
    exact World.cell?_setCell_same _ _ _ ((World.cell?_setCell_other _ _ _ _ (by simp)).trans z.c1)
  · rw [World.cell?_setCell_other _ _ _ _ (by simp)]
    exact World.cell?_setCell_same _ _ _ ((World.cell?_setCell_other _ _ _ _ (by simp)).trans ((World.cell?_setCell_other _ _ _ _ (by simp)).trans z.c2))
  · exact World.cell?_setCell_same _ _ _ ((World.cell?_setCell_other _ _ _ _ (by simp)).trans ((World.cell?_setCell_other _ _ _ _ (by simp)).trans ((World.cell?_setCell_other _ _ _ _ (by simp)).trans z.c3)))
  · have h1 := (grown_set w' G 0 (.int .i64 p.state)).size
    have h2 := (grown_set (w'.setCell ⟨G, 0, none⟩ (.int .i64 p.state)) G 1 dv).size
    have h3 := (grown_set ((w'.setCell ⟨G, 0, none⟩ (.int .i64 p.state)).setCell ⟨G, 1, none⟩ dv) G 2 ov).size
    have h4 := (grown_set (((w'.setCell ⟨G, 0, none⟩ (.int .i64 p.state)).setCell ⟨G, 1, none⟩ dv).setCell ⟨G, 2, none⟩ ov) G 3 (.int .i64 p.rework)).size
    have := z.gl
    omega

theorem doneR_zero (l : List Opn) (p : Prg) (op : Int) : (Pr.doneR l p op).1 ≠ 0 → (Pr.doneR l p op).2 = Pr.zeroP := by
  unfold Pr.doneR
  repeat' split
  all_goals simp
theorem defectR_zero (l : List Opn) (p : Prg) (op most : Int) : (Pr.defectR l p op most).1 ≠ 0 → (Pr.defectR l p op most).2 = Pr.zeroP := by
  unfold Pr.defectR
  split
  · simp
  · split
    · simp
    · simp
theorem passR_zero (p : Prg) (op : Int) : (Pr.passR p op).1 ≠ 0 → (Pr.passR p op).2 = Pr.zeroP := by
  unfold Pr.passR
  repeat' split
  all_goals simp
theorem rejectR_zero (p : Prg) (op : Int) : (Pr.rejectR p op).1 ≠ 0 → (Pr.rejectR p op).2 = Pr.zeroP := by
  unfold Pr.rejectR
  repeat' split
  all_goals simp

theorem Z4.newd (w : World) : Z4 (w.alloc (.cells #[.int .i64 0, .slice none 0 0, .slice none 0 0, .int .i64 0] 29)).drew w.heap.size := ⟨(Z4.new w).c0, (Z4.new w).c1, (Z4.new w).c2, (Z4.new w).c3, (Z4.new w).fz, (Z4.new w).gl⟩

set_option maxRecDepth 100000 in
set_option maxHeartbeats 2000000 in
theorem step_any (A : Option Addr) (c : Nat) (l : List Opn) (w : World) (dA : Option Addr) (dc : Nat) (oA : Option Addr) (oc : Nat) (p : Prg) (k op most : Int) (hl : So w w.heap.size A l) (hk : Oks l) (hc : l.length ≤ c) (hcm : c ≤ maxLen)
    (hd : Si w w.heap.size dA p.done) (ho : Si w w.heap.size oA p.opn) (hdl : p.done.length ≤ 1000) (hol : p.opn.length ≤ 1000) :
    Calls Try.prog 18 #[.slice A l.length c, .agg #[.int .i64 p.state, .slice dA p.done.length dc, .slice oA p.opn.length oc, .int .i64 p.rework], .agg #[.int .i64 k, .int .i64 op], .int .i64 most] w (PrPost w (Pr.stepR l p k op most)) := by
  have hlen := hk.len
  have hb0 := b3 w (.cells #[.int .i64 p.state, .slice dA p.done.length dc, .slice oA p.opn.length oc, .int .i64 p.rework] 29) (.cells #[.int .i64 k, .int .i64 op] 34) (.cells #[.int .i64 0, .slice none 0 0, .slice none 0 0, .int .i64 0] 29)
  have hz0 := Z4.new3 w (.cells #[.int .i64 p.state, .slice dA p.done.length dc, .slice oA p.opn.length oc, .int .i64 p.rework] 29) (.cells #[.int .i64 k, .int .i64 op] 34)
  have HO := Lib.hid (order_any A c l _ (hl.to hb0) hk hc hcm)
  have p0 : (((w.alloc (.cells #[.int .i64 p.state, .slice dA p.done.length dc, .slice oA p.opn.length oc, .int .i64 p.rework] 29)).alloc (.cells #[.int .i64 k, .int .i64 op] 34)).alloc (.cells #[.int .i64 0, .slice none 0 0, .slice none 0 0, .int .i64 0] 29)).cell? ⟨w.heap.size, 0, none⟩ = some (.int .i64 p.state) := by simp [go_sem]
  have p1 : (((w.alloc (.cells #[.int .i64 p.state, .slice dA p.done.length dc, .slice oA p.opn.length oc, .int .i64 p.rework] 29)).alloc (.cells #[.int .i64 k, .int .i64 op] 34)).alloc (.cells #[.int .i64 0, .slice none 0 0, .slice none 0 0, .int .i64 0] 29)).cell? ⟨w.heap.size, 1, none⟩ = some (.slice dA p.done.length dc) := by simp [go_sem]
  have p2 : (((w.alloc (.cells #[.int .i64 p.state, .slice dA p.done.length dc, .slice oA p.opn.length oc, .int .i64 p.rework] 29)).alloc (.cells #[.int .i64 k, .int .i64 op] 34)).alloc (.cells #[.int .i64 0, .slice none 0 0, .slice none 0 0, .int .i64 0] 29)).cell? ⟨w.heap.size, 2, none⟩ = some (.slice oA p.opn.length oc) := by simp [go_sem]
  have p3 : (((w.alloc (.cells #[.int .i64 p.state, .slice dA p.done.length dc, .slice oA p.opn.length oc, .int .i64 p.rework] 29)).alloc (.cells #[.int .i64 k, .int .i64 op] 34)).alloc (.cells #[.int .i64 0, .slice none 0 0, .slice none 0 0, .int .i64 0] 29)).cell? ⟨w.heap.size, 3, none⟩ = some (.int .i64 p.rework) := by simp [go_sem]
  have q0 : (((w.alloc (.cells #[.int .i64 p.state, .slice dA p.done.length dc, .slice oA p.opn.length oc, .int .i64 p.rework] 29)).alloc (.cells #[.int .i64 k, .int .i64 op] 34)).alloc (.cells #[.int .i64 0, .slice none 0 0, .slice none 0 0, .int .i64 0] 29)).cell? ⟨w.heap.size + 1, 0, none⟩ = some (.int .i64 k) := by simp [go_sem]
  have q1 : (((w.alloc (.cells #[.int .i64 p.state, .slice dA p.done.length dc, .slice oA p.opn.length oc, .int .i64 p.rework] 29)).alloc (.cells #[.int .i64 k, .int .i64 op] 34)).alloc (.cells #[.int .i64 0, .slice none 0 0, .slice none 0 0, .int .i64 0] 29)).cell? ⟨w.heap.size + 1, 1, none⟩ = some (.int .i64 op) := by simp [go_sem]
  have hz2 : (((w.alloc (.cells #[.int .i64 p.state, .slice dA p.done.length dc, .slice oA p.opn.length oc, .int .i64 p.rework] 29)).alloc (.cells #[.int .i64 k, .int .i64 op] 34)).alloc (.cells #[.int .i64 0, .slice none 0 0, .slice none 0 0, .int .i64 0] 29)).heap.size = w.heap.size + 1 + 1 + 1 := by simp
  go_enter Try.func18, Try.ntmps18
  go_wp2_with fail
  generalize ((w.alloc (.cells #[.int .i64 p.state, .slice dA p.done.length dc, .slice oA p.opn.length oc, .int .i64 p.rework] 29)).alloc (.cells #[.int .i64 k, .int .i64 op] 34)).alloc (.cells #[.int .i64 0, .slice none 0 0, .slice none 0 0, .int .i64 0] 29) = W0 at *
  refine HO.out.mono ?_
  rintro e w1 ⟨v, rfl, hv, hb⟩
  have hb1 := b_tr hb0 hb
  obtain ⟨r0, r1, r2, r3, rf, rl⟩ := hz0.below hb
  replace p0 := (hb.cell (p := ⟨w.heap.size, 0, none⟩) (by show w.heap.size < _; omega)).trans p0
  replace p1 := (hb.cell (p := ⟨w.heap.size, 1, none⟩) (by show w.heap.size < _; omega)).trans p1
  replace p2 := (hb.cell (p := ⟨w.heap.size, 2, none⟩) (by show w.heap.size < _; omega)).trans p2
  replace p3 := (hb.cell (p := ⟨w.heap.size, 3, none⟩) (by show w.heap.size < _; omega)).trans p3
  replace q0 := (hb.cell (p := ⟨w.heap.size + 1, 0, none⟩) (by show w.heap.size + 1 < _; omega)).trans q0
  replace q1 := (hb.cell (p := ⟨w.heap.size + 1, 1, none⟩) (by show w.heap.size + 1 < _; omega)).trans q1
  have hsz1 : w.heap.size + 1 + 1 < w1.heap.size := rl
  clear HO hz0 hv hz2 hb hb0
  by_cases h0 : Pr.ordE l = 0
  · rw [h0]
    have HV := Lib.hid (valid_any A c l w1 dA dc oA oc p (hl.to hb1) hk ((hd.below hb1).more hb1.size) ((ho.below hb1).more hb1.size) hdl hol)
    cases h1 : Pr.validB l p with
    | false =>
      have HR : Hid (Pr.stepR l p k op most = (1, Pr.zeroP)) := by show _ = _; unfold Pr.stepR; rw [if_neg (by rw [h0]; simp), if_pos h1]
      rw [h1] at HV
      clear h0 h1
      go_wp2_with fail
      refine HV.out.mono ?_
      rintro e w2 ⟨rfl, hb2⟩
      replace r0 := (hb2.cell (p := ⟨w.heap.size + 1 + 1, 0, none⟩) rl).trans r0
      replace r1 := (hb2.cell (p := ⟨w.heap.size + 1 + 1, 1, none⟩) rl).trans r1
      replace r2 := (hb2.cell (p := ⟨w.heap.size + 1 + 1, 2, none⟩) rl).trans r2
      replace r3 := (hb2.cell (p := ⟨w.heap.size + 1 + 1, 3, none⟩) rl).trans r3
      replace rf : ∀ j, w2.frozen? ⟨w.heap.size + 1 + 1, j, none⟩ = false := fun j => (World.frozen?_of_block (a := ⟨w.heap.size + 1 + 1, j, none⟩) (hb2.block _ rl)).trans (rf j)
      go_wp2
      refine bodyPost_ret (v := .tuple #[.agg #[.int .i64 0, .slice none 0 0, .slice none 0 0, .int .i64 0], .int .i64 1]) (by simp [results, Try.results18, go_sem, r0, r1, r2, r3]) rfl ?_
      exact PrPost.bad HR.out (b_set (b_set (b_set (b_set (b_tr hb1 hb2) (by omega) _ _) (by omega) _ _) (by omega) _ _) (by omega) _ _)
    | true =>
      have hV := vld_of h1
      have HST : Hid (Pr.stepR l p k op most = if p.state = 3 ∨ p.state = 4 then (8, Pr.zeroP) else Pr.actR l p k op most) := by show _ = _; unfold Pr.stepR; rw [if_neg (by rw [h0]; simp), if_neg (by rw [h1]; simp)]
      rw [h1] at HV
      clear h1
      go_wp2_with fail
      refine HV.out.mono ?_
      rintro e w2 ⟨rfl, hb2⟩
      replace r0 := (hb2.cell (p := ⟨w.heap.size + 1 + 1, 0, none⟩) rl).trans r0
      replace r1 := (hb2.cell (p := ⟨w.heap.size + 1 + 1, 1, none⟩) rl).trans r1
      replace r2 := (hb2.cell (p := ⟨w.heap.size + 1 + 1, 2, none⟩) rl).trans r2
      replace r3 := (hb2.cell (p := ⟨w.heap.size + 1 + 1, 3, none⟩) rl).trans r3
      replace rf : ∀ j, w2.frozen? ⟨w.heap.size + 1 + 1, j, none⟩ = false := fun j => (World.frozen?_of_block (a := ⟨w.heap.size + 1 + 1, j, none⟩) (hb2.block _ rl)).trans (rf j)
      replace p0 := (hb2.cell (p := ⟨w.heap.size, 0, none⟩) (by show w.heap.size < _; omega)).trans p0
      replace p1 := (hb2.cell (p := ⟨w.heap.size, 1, none⟩) (by show w.heap.size < _; omega)).trans p1
      replace p2 := (hb2.cell (p := ⟨w.heap.size, 2, none⟩) (by show w.heap.size < _; omega)).trans p2
      replace p3 := (hb2.cell (p := ⟨w.heap.size, 3, none⟩) (by show w.heap.size < _; omega)).trans p3
      replace q0 := (hb2.cell (p := ⟨w.heap.size + 1, 0, none⟩) (by show w.heap.size + 1 < _; omega)).trans q0
      replace q1 := (hb2.cell (p := ⟨w.heap.size + 1, 1, none⟩) (by show w.heap.size + 1 < _; omega)).trans q1
      have hsz2 := hb2.size
      have hb12 := b_tr hb1 hb2
      clear HV hb2 hb1
      by_cases h3 : p.state = 3 ∨ p.state = 4
      · rw [if_pos h3] at HST
        have h3' : p.state = 3 ∨ ((p.state == 3) = false ∧ p.state = 4) := by
          rcases h3 with h | h
          · exact .inl h
          · exact .inr ⟨by rw [h]; rfl, h⟩
        clear h3
        rcases h3' with h3 | ⟨h3, h4⟩
        all_goals
          go_wp2
          refine bodyPost_ret (v := .tuple #[.agg #[.int .i64 0, .slice none 0 0, .slice none 0 0, .int .i64 0], .int .i64 8]) (by simp [results, Try.results18, go_sem, r0, r1, r2, r3]) rfl ?_
          exact PrPost.bad HST.out (b_set (b_set (b_set (b_set hb12 (by omega) _ _) (by omega) _ _) (by omega) _ _) (by omega) _ _)
      · rw [if_neg h3] at HST
        have h3a : (p.state == 3) = false := by simp; omega
        have h3b : (p.state == 4) = false := by simp; omega
        have hd2 := (hd.below hb12).more hb12.size
        have ho2 := (ho.below hb12).more hb12.size
        go_upto_region 8 with fail
        go_cut [12] (fun x wx => ∃ g dv ov, x = .pointer (some ⟨g, 0, none⟩) ∧ Pm wx w2.heap.size g dv ov p ∧ Below w2.heap.size w2 wx)
        case first =>
          have HCd := Lib.hid (fun W (hW : HeldC w2 w.heap.size p.state (.slice dA p.done.length dc) (.slice oA p.opn.length oc) p.rework W) => clone_any dA dc p.done W ((hd2.below hW.2.2.2.2).more hW.2.2.2.2.size) hdl)
          have HCo := Lib.hid (fun W (hW : HeldC w2 w.heap.size p.state (.slice dA p.done.length dc) (.slice oA p.opn.length oc) p.rework W) => clone_any oA oc p.opn W ((ho2.below hW.2.2.2.2).more hW.2.2.2.2.size) hol)
          have HKp := Lib.hid (fun W W' (hbn : Below W.heap.size W W') (hW : HeldC w2 w.heap.size p.state (.slice dA p.done.length dc) (.slice oA p.opn.length oc) p.rework W) => HeldC.keep (show w.heap.size < w2.heap.size by omega) hbn hW)
          have HSt : Hid (HeldC w2 w.heap.size p.state (.slice dA p.done.length dc) (.slice oA p.opn.length oc) p.rework w2.drew) := ⟨p0, p1, p2, p3, below_drewN (Below.refl _ _) 1⟩
          have HSz := Lib.hid (fun W (hW : HeldC w2 w.heap.size p.state (.slice dA p.done.length dc) (.slice oA p.opn.length oc) p.rework W) => hW.2.2.2.2.size)
          have HSet := Lib.hid (fun W G (hG : w2.heap.size ≤ G) (hW : HeldC w2 w.heap.size p.state (.slice dA p.done.length dc) (.slice oA p.opn.length oc) p.rework W) u0 u1 u2 u3 => HeldC.set (j := 3) hG (show w.heap.size < w2.heap.size by omega) u3 (HeldC.set (j := 2) hG (show w.heap.size < w2.heap.size by omega) u2 (HeldC.set (j := 1) hG (show w.heap.size < w2.heap.size by omega) u1 (HeldC.set (j := 0) hG (show w.heap.size < w2.heap.size by omega) u0 hW))))
          clear r0 r1 r2 r3 rf q0 q1 hd2 ho2 hd ho hl
          go_region_held3 (fun w' => w'.cell? ⟨w.heap.size, 0, none⟩ = some (.int .i64 p.state) ∧ w'.cell? ⟨w.heap.size, 1, none⟩ = some (.slice dA p.done.length dc) ∧ w'.cell? ⟨w.heap.size, 2, none⟩ = some (.slice oA p.opn.length oc) ∧ w'.cell? ⟨w.heap.size, 3, none⟩ = some (.int .i64 p.rework) ∧ Below w2.heap.size w2 w')
            (first | (with_reducible exact HSt.out) | (with_reducible exact HKp.out _ _ hbn (by with_reducible assumption)) | (with_reducible exact HKp.out _ _ (b_new _ _) (by with_reducible assumption)) | (with_reducible exact HSet.out _ _ (HSz.out _ (by with_reducible assumption)) (by with_reducible assumption) _ _ _ _) | (with_reducible exact HSet.out _ _ (Nat.le_refl _) (by with_reducible assumption) _ _ _ _))
            (first | (go_at_call 34; (with_reducible refine (HCd.out _ (by with_reducible assumption)).mono ?_); rintro e w' ⟨dv1, rfl, hd1, hbn⟩; obtain ⟨dA1, dc1, rfl, _, _, _, _⟩ := hd1.shape; (try (have z := (Z4.new _).below hbn)); (try (have z := (Z4.newd _).below hbn)); (try (have z := z.below hbn)); (try (obtain ⟨z0, z1, z2, z3, zf, zl⟩ := id z)); (try (have ho2 := ho1.below hbn)); (try (have ho2 := (ho1.alloc _).below hbn)); have hsz := hbn.size; have hS := HKp.out _ _ hbn (by with_reducible assumption); have hszD := HSz.out _ hS; (try (have zlD := z.gl))) | (go_at_call 34; (with_reducible refine (HCo.out _ (by with_reducible assumption)).mono ?_); rintro e w' ⟨ov1, rfl, ho1, hbn⟩; obtain ⟨oA1, oc1, rfl, _, _, _, _⟩ := ho1.shape; (try (have z := (Z4.new _).below hbn)); (try (have z := (Z4.newd _).below hbn)); (try (have z := z.below hbn)); (try (obtain ⟨z0, z1, z2, z3, zf, zl⟩ := id z)); (try (have hd2 := hd1.below hbn)); (try (have hd2 := (hd1.alloc _).below hbn)); have hsz := hbn.size; have hS := HKp.out _ _ hbn (by with_reducible assumption)))
          · have hSS := hS
            replace hd2 := hd2.base_le (base' := w2.heap.size) (Nat.le_refl _)
            have hzz := HSz.out _ hSS
            have ld := fun k hk => (World.ownsRow.lt hd1 k hk).2
            go_wp2_with fail
            go_meet
            case rel => exact ⟨_, _, _, rfl, pmNew hd2 ho1 (Nat.le_refl _) hszD hzz ld ⟨_, _, _, rfl⟩ ⟨_, _, _, rfl⟩, (HKp.out _ _ (b_new _ _) hSS).2.2.2.2⟩
          · have hSS := hS
            replace hd2 := hd2.base_le (base' := w2.heap.size) (Nat.le_refl _)
            have ld := fun k hk => (World.ownsRow.lt hd1 k hk).2
            go_wp2_with fail
            go_meet
            case rel => exact ⟨_, _, _, rfl, pmOld z hd2 ho1 (Nat.le_refl _) (by rw [size_al]; omega) hszD (by rw [size_al]; omega) (fun k hk => by have := ld k hk; rw [size_al]; omega), (HSet.out _ _ hszD hSS _ _ _ _).2.2.2.2⟩
          · have hSS := hS
            replace hd2 := hd2.base_le (base' := w2.heap.size) (by show w2.heap.size ≤ (w2.alloc _).heap.size; rw [size_al]; omega)
            have ld := fun k hk => (World.ownsRow.lt hd1 k hk).2
            have ld2 := fun k hk => (show (w2.alloc (.cells #[.int .i64 0, .slice none 0 0, .slice none 0 0, .int .i64 0] 29)).heap.size ≤ k from (World.ownsRow.lt hd1 k hk).1)
            go_wp2_with fail
            go_meet
            case rel => exact ⟨_, _, _, rfl, pmOld z hd2 ho1 (Nat.le_refl _) (by omega) (Nat.le_refl _) zlD (fun k hk => by have := ld k hk; have h2 := ld2 k hk; rw [size_al] at h2; omega), (HSet.out _ _ (Nat.le_refl _) hSS _ _ _ _).2.2.2.2⟩
        case rest =>
          obtain ⟨g, dv, ov, rfl, hP, hB⟩ := hcut
          have hRb : w.heap.size + 1 + 1 < w2.heap.size := by omega
          have hQb : w.heap.size + 1 < w2.heap.size := by omega
          obtain ⟨wx, hwx⟩ : ∃ wx : World, wx = wc := ⟨_, rfl⟩
          subst hwx
          replace r0 := (hB.cell (p := ⟨w.heap.size + 1 + 1, 0, none⟩) hRb).trans r0
          replace r1 := (hB.cell (p := ⟨w.heap.size + 1 + 1, 1, none⟩) hRb).trans r1
          replace r2 := (hB.cell (p := ⟨w.heap.size + 1 + 1, 2, none⟩) hRb).trans r2
          replace r3 := (hB.cell (p := ⟨w.heap.size + 1 + 1, 3, none⟩) hRb).trans r3
          replace rf : ∀ j, wx.frozen? ⟨w.heap.size + 1 + 1, j, none⟩ = false := fun j => (World.frozen?_of_block (a := ⟨w.heap.size + 1 + 1, j, none⟩) (hB.block _ hRb)).trans (rf j)
          replace q0 := (hB.cell (p := ⟨w.heap.size + 1, 0, none⟩) hQb).trans q0
          replace q1 := (hB.cell (p := ⟨w.heap.size + 1, 1, none⟩) hQb).trans q1
          have hbx := b_tr hb12 hB
          have hlx : So wx w2.heap.size A l := ((hl.below hb12).more hb12.size).below hB
          have HACT : Hid (Pr.actR l p k op most = if k = 1 then Pr.doneR l p op else if k = 2 then Pr.defectR l p op most else if k = 3 then Pr.passR p op else if k = 4 then Pr.rejectR p op else (1, Pr.zeroP)) := rfl
          rw [HACT.out] at HST
          clear HACT p0 p1 p2 p3 hd2 ho2 hd ho hl h3 h3a h3b hB
          by_cases k1 : k = 1
          · rw [if_pos k1] at HST
            subst k1
            have HA := Lib.hid (done_any A c l wx w2.heap.size g dv ov p op hlx hk hP hV.dl hV.ol (cntB_mem hV.cnt))
            have HZ : Hid ((Pr.doneR l p op).1 ≠ 0 → (Pr.doneR l p op).2 = Pr.zeroP) := doneR_zero l p op
            obtain ⟨E, P, hr⟩ : ∃ E P, Pr.doneR l p op = (E, P) := ⟨_, _, rfl⟩
            rw [hr] at HA HZ HST
            clear hr hP
            go_wp2_with fail
            refine HA.out.mono ?_
            rintro e w3 ⟨rfl, hPr, hB3⟩
            replace r0 := (hB3.cell (p := ⟨w.heap.size + 1 + 1, 0, none⟩) hRb).trans r0
            replace r1 := (hB3.cell (p := ⟨w.heap.size + 1 + 1, 1, none⟩) hRb).trans r1
            replace r2 := (hB3.cell (p := ⟨w.heap.size + 1 + 1, 2, none⟩) hRb).trans r2
            replace r3 := (hB3.cell (p := ⟨w.heap.size + 1 + 1, 3, none⟩) hRb).trans r3
            replace rf : ∀ j, w3.frozen? ⟨w.heap.size + 1 + 1, j, none⟩ = false := fun j => (World.frozen?_of_block (a := ⟨w.heap.size + 1 + 1, j, none⟩) (hB3.block _ hRb)).trans (rf j)
            have hb3 := hbx.trans (hB3.mono (by omega))
            dsimp only at hPr
            by_cases hE : E = 0
            · subst hE
              obtain ⟨dv3, ov3, hP3⟩ := hPr rfl
              have c0 := hP3.c0
              have c1 := hP3.c1
              have c2 := hP3.c2
              have c3 := hP3.c3
              have HD := Lib.hid hP3.hd
              have HO := Lib.hid hP3.ho
              obtain ⟨dA3, dc3, rfl, _, _, _, _⟩ := hP3.hd.shape
              obtain ⟨oA3, oc3, rfl, _, _, _, _⟩ := hP3.ho.shape
              clear hP3 hPr HZ
              go_wp2
              refine bodyPost_ret (v := .tuple #[.agg #[.int .i64 P.state, .slice dA3 P.done.length dc3, .slice oA3 P.opn.length oc3, .int .i64 P.rework], .int .i64 0]) (by simp [results, Try.results18, go_sem, r0, r1, r2, r3]) rfl ?_
              exact PrPost.good HST.out ((((HD.out.setOther hRb _ _).setOther hRb _ _).setOther hRb _ _).setOther hRb _ _) ((((HO.out.setOther hRb _ _).setOther hRb _ _).setOther hRb _ _).setOther hRb _ _) (b_set (b_set (b_set (b_set hb3 (by omega) _ _) (by omega) _ _) (by omega) _ _) (by omega) _ _)
            · have hz : P = Pr.zeroP := HZ.out hE
              subst hz
              have hne : (E == 0) = false := by simpa using hE
              clear hPr HZ
              go_wp2
              refine bodyPost_ret (v := .tuple #[.agg #[.int .i64 0, .slice none 0 0, .slice none 0 0, .int .i64 0], .int .i64 E]) (by simp [results, Try.results18, go_sem, r0, r1, r2, r3]) rfl ?_
              exact PrPost.bad HST.out (b_set (b_set (b_set (b_set hb3 (by omega) _ _) (by omega) _ _) (by omega) _ _) (by omega) _ _)
          · rw [if_neg k1] at HST
            have k1' : (k == 1) = false := by simpa using k1
            by_cases k2 : k = 2
            · rw [if_pos k2] at HST
              subst k2
              have HA := Lib.hid (defect_any A c l wx w2.heap.size g dv ov p op most hlx hk hc hcm h0 hP hV.ol hV.nodup hV.rng ⟨hV.r1, hV.r2⟩)
              have HZ : Hid ((Pr.defectR l p op most).1 ≠ 0 → (Pr.defectR l p op most).2 = Pr.zeroP) := defectR_zero l p op most
              obtain ⟨E, P, hr⟩ : ∃ E P, Pr.defectR l p op most = (E, P) := ⟨_, _, rfl⟩
              rw [hr] at HA HZ HST
              clear hr hP
              go_wp2_with fail
              refine HA.out.mono ?_
              rintro e w3 ⟨rfl, hPr, hB3⟩
              replace r0 := (hB3.cell (p := ⟨w.heap.size + 1 + 1, 0, none⟩) hRb).trans r0
              replace r1 := (hB3.cell (p := ⟨w.heap.size + 1 + 1, 1, none⟩) hRb).trans r1
              replace r2 := (hB3.cell (p := ⟨w.heap.size + 1 + 1, 2, none⟩) hRb).trans r2
              replace r3 := (hB3.cell (p := ⟨w.heap.size + 1 + 1, 3, none⟩) hRb).trans r3
              replace rf : ∀ j, w3.frozen? ⟨w.heap.size + 1 + 1, j, none⟩ = false := fun j => (World.frozen?_of_block (a := ⟨w.heap.size + 1 + 1, j, none⟩) (hB3.block _ hRb)).trans (rf j)
              have hb3 := hbx.trans (hB3.mono (by omega))
              dsimp only at hPr
              by_cases hE : E = 0
              · subst hE
                obtain ⟨dv3, ov3, hP3⟩ := hPr rfl
                have c0 := hP3.c0
                have c1 := hP3.c1
                have c2 := hP3.c2
                have c3 := hP3.c3
                have HD := Lib.hid hP3.hd
                have HO := Lib.hid hP3.ho
                obtain ⟨dA3, dc3, rfl, _, _, _, _⟩ := hP3.hd.shape
                obtain ⟨oA3, oc3, rfl, _, _, _, _⟩ := hP3.ho.shape
                clear hP3 hPr HZ
                go_wp2
                refine bodyPost_ret (v := .tuple #[.agg #[.int .i64 P.state, .slice dA3 P.done.length dc3, .slice oA3 P.opn.length oc3, .int .i64 P.rework], .int .i64 0]) (by simp [results, Try.results18, go_sem, r0, r1, r2, r3]) rfl ?_
                exact PrPost.good HST.out ((((HD.out.setOther hRb _ _).setOther hRb _ _).setOther hRb _ _).setOther hRb _ _) ((((HO.out.setOther hRb _ _).setOther hRb _ _).setOther hRb _ _).setOther hRb _ _) (b_set (b_set (b_set (b_set hb3 (by omega) _ _) (by omega) _ _) (by omega) _ _) (by omega) _ _)
              · have hz : P = Pr.zeroP := HZ.out hE
                subst hz
                have hne : (E == 0) = false := by simpa using hE
                clear hPr HZ
                go_wp2
                refine bodyPost_ret (v := .tuple #[.agg #[.int .i64 0, .slice none 0 0, .slice none 0 0, .int .i64 0], .int .i64 E]) (by simp [results, Try.results18, go_sem, r0, r1, r2, r3]) rfl ?_
                exact PrPost.bad HST.out (b_set (b_set (b_set (b_set hb3 (by omega) _ _) (by omega) _ _) (by omega) _ _) (by omega) _ _)
            · rw [if_neg k2] at HST
              have k2' : (k == 2) = false := by simpa using k2
              by_cases k3 : k = 3
              · rw [if_pos k3] at HST
                subst k3
                have HA := Lib.hid (pass_any wx w2.heap.size g dv ov p op hP)
                have HZ : Hid ((Pr.passR p op).1 ≠ 0 → (Pr.passR p op).2 = Pr.zeroP) := passR_zero p op
                obtain ⟨E, P, hr⟩ : ∃ E P, Pr.passR p op = (E, P) := ⟨_, _, rfl⟩
                rw [hr] at HA HZ HST
                clear hr hP
                go_wp2_with fail
                refine HA.out.mono ?_
                rintro e w3 ⟨rfl, hPr, hB3⟩
                replace r0 := (hB3.cell (p := ⟨w.heap.size + 1 + 1, 0, none⟩) hRb).trans r0
                replace r1 := (hB3.cell (p := ⟨w.heap.size + 1 + 1, 1, none⟩) hRb).trans r1
                replace r2 := (hB3.cell (p := ⟨w.heap.size + 1 + 1, 2, none⟩) hRb).trans r2
                replace r3 := (hB3.cell (p := ⟨w.heap.size + 1 + 1, 3, none⟩) hRb).trans r3
                replace rf : ∀ j, w3.frozen? ⟨w.heap.size + 1 + 1, j, none⟩ = false := fun j => (World.frozen?_of_block (a := ⟨w.heap.size + 1 + 1, j, none⟩) (hB3.block _ hRb)).trans (rf j)
                have hb3 := hbx.trans (hB3.mono (by omega))
                dsimp only at hPr
                by_cases hE : E = 0
                · subst hE
                  obtain ⟨dv3, ov3, hP3⟩ := hPr rfl
                  have c0 := hP3.c0
                  have c1 := hP3.c1
                  have c2 := hP3.c2
                  have c3 := hP3.c3
                  have HD := Lib.hid hP3.hd
                  have HO := Lib.hid hP3.ho
                  obtain ⟨dA3, dc3, rfl, _, _, _, _⟩ := hP3.hd.shape
                  obtain ⟨oA3, oc3, rfl, _, _, _, _⟩ := hP3.ho.shape
                  clear hP3 hPr HZ
                  go_wp2
                  refine bodyPost_ret (v := .tuple #[.agg #[.int .i64 P.state, .slice dA3 P.done.length dc3, .slice oA3 P.opn.length oc3, .int .i64 P.rework], .int .i64 0]) (by simp [results, Try.results18, go_sem, r0, r1, r2, r3]) rfl ?_
                  exact PrPost.good HST.out ((((HD.out.setOther hRb _ _).setOther hRb _ _).setOther hRb _ _).setOther hRb _ _) ((((HO.out.setOther hRb _ _).setOther hRb _ _).setOther hRb _ _).setOther hRb _ _) (b_set (b_set (b_set (b_set hb3 (by omega) _ _) (by omega) _ _) (by omega) _ _) (by omega) _ _)
                · have hz : P = Pr.zeroP := HZ.out hE
                  subst hz
                  have hne : (E == 0) = false := by simpa using hE
                  clear hPr HZ
                  go_wp2
                  refine bodyPost_ret (v := .tuple #[.agg #[.int .i64 0, .slice none 0 0, .slice none 0 0, .int .i64 0], .int .i64 E]) (by simp [results, Try.results18, go_sem, r0, r1, r2, r3]) rfl ?_
                  exact PrPost.bad HST.out (b_set (b_set (b_set (b_set hb3 (by omega) _ _) (by omega) _ _) (by omega) _ _) (by omega) _ _)
              · rw [if_neg k3] at HST
                have k3' : (k == 3) = false := by simpa using k3
                by_cases k4 : k = 4
                · rw [if_pos k4] at HST
                  subst k4
                  have HA := Lib.hid (reject_any wx w2.heap.size g dv ov p op hP)
                  have HZ : Hid ((Pr.rejectR p op).1 ≠ 0 → (Pr.rejectR p op).2 = Pr.zeroP) := rejectR_zero p op
                  obtain ⟨E, P, hr⟩ : ∃ E P, Pr.rejectR p op = (E, P) := ⟨_, _, rfl⟩
                  rw [hr] at HA HZ HST
                  clear hr hP
                  go_wp2_with fail
                  refine HA.out.mono ?_
                  rintro e w3 ⟨rfl, hPr, hB3⟩
                  replace r0 := (hB3.cell (p := ⟨w.heap.size + 1 + 1, 0, none⟩) hRb).trans r0
                  replace r1 := (hB3.cell (p := ⟨w.heap.size + 1 + 1, 1, none⟩) hRb).trans r1
                  replace r2 := (hB3.cell (p := ⟨w.heap.size + 1 + 1, 2, none⟩) hRb).trans r2
                  replace r3 := (hB3.cell (p := ⟨w.heap.size + 1 + 1, 3, none⟩) hRb).trans r3
                  replace rf : ∀ j, w3.frozen? ⟨w.heap.size + 1 + 1, j, none⟩ = false := fun j => (World.frozen?_of_block (a := ⟨w.heap.size + 1 + 1, j, none⟩) (hB3.block _ hRb)).trans (rf j)
                  have hb3 := hbx.trans (hB3.mono (by omega))
                  dsimp only at hPr
                  by_cases hE : E = 0
                  · subst hE
                    obtain ⟨dv3, ov3, hP3⟩ := hPr rfl
                    have c0 := hP3.c0
                    have c1 := hP3.c1
                    have c2 := hP3.c2
                    have c3 := hP3.c3
                    have HD := Lib.hid hP3.hd
                    have HO := Lib.hid hP3.ho
                    obtain ⟨dA3, dc3, rfl, _, _, _, _⟩ := hP3.hd.shape
                    obtain ⟨oA3, oc3, rfl, _, _, _, _⟩ := hP3.ho.shape
                    clear hP3 hPr HZ
                    go_wp2
                    refine bodyPost_ret (v := .tuple #[.agg #[.int .i64 P.state, .slice dA3 P.done.length dc3, .slice oA3 P.opn.length oc3, .int .i64 P.rework], .int .i64 0]) (by simp [results, Try.results18, go_sem, r0, r1, r2, r3]) rfl ?_
                    exact PrPost.good HST.out ((((HD.out.setOther hRb _ _).setOther hRb _ _).setOther hRb _ _).setOther hRb _ _) ((((HO.out.setOther hRb _ _).setOther hRb _ _).setOther hRb _ _).setOther hRb _ _) (b_set (b_set (b_set (b_set hb3 (by omega) _ _) (by omega) _ _) (by omega) _ _) (by omega) _ _)
                  · have hz : P = Pr.zeroP := HZ.out hE
                    subst hz
                    have hne : (E == 0) = false := by simpa using hE
                    clear hPr HZ
                    go_wp2
                    refine bodyPost_ret (v := .tuple #[.agg #[.int .i64 0, .slice none 0 0, .slice none 0 0, .int .i64 0], .int .i64 E]) (by simp [results, Try.results18, go_sem, r0, r1, r2, r3]) rfl ?_
                    exact PrPost.bad HST.out (b_set (b_set (b_set (b_set hb3 (by omega) _ _) (by omega) _ _) (by omega) _ _) (by omega) _ _)
                · rw [if_neg k4] at HST
                  have k4' : (k == 4) = false := by simpa using k4
                  clear hP
                  go_wp2
                  refine bodyPost_ret (v := .tuple #[.agg #[.int .i64 0, .slice none 0 0, .slice none 0 0, .int .i64 0], .int .i64 1]) (by simp [results, Try.results18, go_sem, r0, r1, r2, r3]) rfl ?_
                  exact PrPost.bad HST.out (b_set (b_set (b_set (b_set hbx (by omega) _ _) (by omega) _ _) (by omega) _ _) (by omega) _ _)
  · have HR : Hid (Pr.stepR l p k op most = (Pr.ordE l, Pr.zeroP)) := by show _ = _; unfold Pr.stepR; rw [if_pos h0]
    have hne : (Pr.ordE l == 0) = false := by simpa using h0
    generalize Pr.ordE l = E at *
    go_wp2
    refine bodyPost_ret (v := .tuple #[.agg #[.int .i64 0, .slice none 0 0, .slice none 0 0, .int .i64 0], .int .i64 E]) (by simp [results, Try.results18, go_sem, r0, r1, r2, r3]) rfl ?_
    exact PrPost.bad HR.out (b_set (b_set (b_set (b_set hb1 (by omega) _ _) (by omega) _ _) (by omega) _ _) (by omega) _ _)
end Go.Proofs.Ytcolekfjmhgldaa
