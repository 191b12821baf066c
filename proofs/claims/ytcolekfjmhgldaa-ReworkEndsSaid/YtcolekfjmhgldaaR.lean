/- defect. -/
import Derived.Test.YtcolekfjmhgldaaQ
namespace Go.Proofs.Ytcolekfjmhgldaa
open Go.RowKit Go.Shelf
open Pr (Opn Prg)
attribute [local go_sem] Oper.semAt_some

theorem Oi.grownObj {W W' : World} {base : Nat} {v : Value} {l : List Int} {row : Option Nat} (h : Oi W base v l) (hg : W.grownBy W' row) (hr : ∀ r, row = some r → ∃ o : Obj, W.heap[r]? = some o ∧ o.isCells = false) : Oi W' base v l := by
  have h0 := h
  refine World.ownsRow.kept h hg ?_
  rcases h0.2 with ⟨rfl, _⟩ | ⟨g, cap, cur, rfl, hb, hgg, _⟩
  · exact .inl rfl
  · refine .inr (fun e => ?_)
    obtain ⟨o, h1, h2⟩ := hr g e.symm
    rw [hgg] at h1
    cases h1
    simp [Obj.isCells] at h2
theorem Pm.grownObj {W W' : World} {base g : Nat} {dv ov : Value} {p : Prg} {row : Option Nat} (h : Pm W base g dv ov p) (hg : W.grownBy W' row) (hr : ∀ r, row = some r → ∃ o : Obj, W.heap[r]? = some o ∧ o.isCells = false) : Pm W' base g dv ov p :=
  ⟨cell_kept h.c0 hg hr, cell_kept h.c1 hg hr, cell_kept h.c2 hg hr, cell_kept h.c3 hg hr, fun j => (frozen_at hg hr h j).trans (h.fz j), h.gb, Nat.lt_of_lt_of_le h.gl hg.size, h.hd.grownObj hg hr, h.ho.grownObj hg hr, h.nd, h.no, h.ne⟩
where
  frozen_at {W W' : World} {base g : Nat} {dv ov : Value} {p : Prg} {row : Option Nat} (hg : W.grownBy W' row) (hr : ∀ r, row = some r → ∃ o : Obj, W.heap[r]? = some o ∧ o.isCells = false) (h : Pm W base g dv ov p) (j : Nat) : W'.frozen? ⟨g, j, none⟩ = W.frozen? ⟨g, j, none⟩ := by
    refine World.frozen?_of_block (a := ⟨g, j, none⟩) (hg.block g h.gl (fun e => ?_))
    obtain ⟨o, h1, h2⟩ := hr g e.symm
    have hc := h.c0
    unfold World.cell? at hc
    simp only [h1] at hc
    revert hc h2
    cases o <;> simp [Obj.isCells]

theorem oi_cells {W : World} {base : Nat} {v : Value} {l : List Int} (h : Oi W base v l) (j : Nat) (o : Obj) (hj : v.ownBlock = some j) (ho : W.heap[j]? = some o) : o.isCells = true := by
  rcases h.2 with ⟨rfl, _⟩ | ⟨g, cap, cur, rfl, hb, hgg, _⟩
  · cases hj
  · have e : g = j := by simpa [Value.ownBlock] using hj
    subst e
    rw [hgg] at ho
    cases ho
    rfl
/-- what an append to the open operations leaves -/
theorem app_facts {W w2 : World} {base g s : Nat} {dv ov v2 : Value} {p : Prg} {x : Int} (h : Pm W base g dv ov p) (hs : ov.ownBlock ≠ some s) (hsl : s < W.heap.size) (hsg : s ≠ g)
    (ho : Oi w2 base v2 (p.opn ++ [x])) (hg : W.grownBy w2 ov.ownBlock) (hat : v2.ownBlock = ov.ownBlock ∨ ∃ k, v2.ownBlock = some k ∧ W.heap.size ≤ k) :
    Pm (w2.setCell ⟨g, 2, none⟩ v2) base g dv v2 ⟨p.state, p.done, p.opn ++ [x], p.rework⟩ ∧ v2.ownBlock ≠ some s ∧ (w2.setCell ⟨g, 2, none⟩ v2).cell? ⟨s, 0, none⟩ = W.cell? ⟨s, 0, none⟩ ∧ KeepsOthers W (w2.setCell ⟨g, 2, none⟩ v2) ∧ Kp base g W (w2.setCell ⟨g, 2, none⟩ v2) := by
  have hgs := grown_set w2 g 2 v2
  have hgl := h.gl
  have hgb := h.gb
  have hbg : w2.heap[g]? = W.heap[g]? := hg.block g h.gl (fun e => h.no e.symm)
  have hkg : ∀ o, w2.cell? ⟨g, o, none⟩ = W.cell? ⟨g, o, none⟩ := fun o => World.cell?_of_block hbg
  have hd2 : Oi w2 base dv p.done := World.ownsRow.kept h.hd hg (by
    cases hv : dv.ownBlock with
    | none => exact .inl rfl
    | some k => exact .inr (fun e => h.ne k hv e.symm))
  have no2 : v2.ownBlock ≠ some g := by
    rcases hat with e | ⟨k, e, hk⟩
    · rw [e]; exact h.no
    · rw [e]; intro e2; injection e2 with e2; omega
  have ns2 : v2.ownBlock ≠ some s := by
    rcases hat with e | ⟨k, e, hk⟩
    · rw [e]; exact hs
    · rw [e]; intro e2; injection e2 with e2; omega
  have ne2 : ∀ k, dv.ownBlock = some k → v2.ownBlock ≠ some k := fun k hk => by
    rcases hat with e | ⟨j, e, hj⟩
    · rw [e]; exact h.ne k hk
    · rw [e]; intro e2; injection e2 with e2
      have := (World.ownsRow.lt h.hd k hk).2
      omega
  have hP : Pm (w2.setCell ⟨g, 2, none⟩ v2) base g dv v2 ⟨p.state, p.done, p.opn ++ [x], p.rework⟩ := by
    refine ⟨?_, ?_, World.cell?_setCell_same _ _ _ ((hkg _).trans h.c2), ?_, ?_, h.gb, ?_, World.ownsRow.kept hd2 hgs (.inr h.nd), World.ownsRow.kept ho hgs (.inr no2), h.nd, no2, ne2⟩
    · exact (World.cell?_setCell_other _ _ _ _ (by simp)).trans ((hkg _).trans h.c0)
    · exact (World.cell?_setCell_other _ _ _ _ (by simp)).trans ((hkg _).trans h.c1)
    · exact (World.cell?_setCell_other _ _ _ _ (by simp)).trans ((hkg _).trans h.c3)
    · intro j
      rw [World.frozen?_setCell]
      exact (World.frozen?_of_block hbg).trans (h.fz j)
    · have := hg.size
      have := hgs.size
      omega
  have hobW : ob g W = ov.ownBlock := ob_at h.c2
  have hob2 : ob g (w2.setCell ⟨g, 2, none⟩ v2) = v2.ownBlock := ob_at hP.c2
  refine ⟨hP, ns2, ?_, ?_, ?_⟩
  · exact (World.cell?_of_block (a := ⟨s, 0, none⟩) (hgs.block s (Nat.lt_of_lt_of_le hsl hg.size) (fun e => hsg (by injection e)))).trans (World.cell?_of_block (a := ⟨s, 0, none⟩) (hg.block s hsl (fun e => hs e.symm)))
  · exact (KeepsOthers.of_grownBy hg (fun j o hj hoj => oi_cells h.ho j o hj hoj)).trans (KeepsOthers.setCell _ _ _)
  · refine ⟨((Below.refl _ _).grown hg (by omega) (fun k e => (World.ownsRow.lt h.ho k e).1)).setCell hgb _, Nat.le_trans hg.size hgs.size, fun k o hk hc hkg2 hne => ?_, ?_, fun hlow k hk => ?_⟩
    · have hlt := (Array.getElem?_eq_some_iff.1 hk).1
      rw [hgs.block k (Nat.lt_of_lt_of_le hlt hg.size) (fun e => hkg2 (by injection e)), hg.block k hlt (fun e => hne (hobW.trans e.symm))]
      exact hk
    · rw [hob2, hobW]
      rcases hat with e | ⟨k, e, hk⟩
      · exact .inl e
      · refine .inr (fun j hj => ?_)
        rw [e] at hj
        injection hj with hj
        omega
    · rw [hob2] at hk
      have := (World.ownsRow.lt ho k hk).2
      have := hgs.size
      omega
theorem Kp.refl (base g : Nat) (W : World) : Kp base g W W := ⟨Below.refl _ _, Nat.le_refl _, fun _ _ h _ _ _ => h, .inl rfl, fun h => h⟩

def noDeferB (ops : Array Oper) : Bool := ops.all fun o => match o.op with
  | .defer _ => false
  | _ => true
theorem noDefer_of {ops : Array Oper} (h : noDeferB ops = true) : ∀ (i : Nat) (o : Oper), ops[i]? = some o → ∀ c, o.op ≠ .defer c := by
  intro i o ho c hc
  obtain ⟨hi, rfl⟩ := Array.getElem?_eq_some_iff.1 ho
  have := Array.all_eq_true.1 h i hi
  rw [hc] at this
  cases this
theorem operIn_round {F : Fence} {n : Nat} {P : Program} {o : Oper} {Q : Exit → Act → World → Prop} {a : Act} {w : World} {K : Act → World → Prop} (L : Nat) (hd : ∀ c, o.op ≠ .defer c)
    (h : o.wpIn F n P a w K Q) : o.wpIn (F.inRound L) n P a w K Q := by
  unfold Oper.wpIn at *
  refine ⟨h.1, ?_⟩
  have h2 := h.2
  rw [Oper.semAt_eq _ _ _ hd] at h2 ⊢
  generalize (execOp a.eval o).run P w = r at *
  cases r with
  | ok x w' => cases x <;> exact h2
  | halt x w' => cases x <;> exact h2
theorem wpAnyIn_round {F : Fence} {n : Nat} {P : Program} {ops : Array Oper} {Q : Exit → Act → World → Prop} {md : Region.Mode} (L : Nat) (hd : ∀ (i : Nat) (o : Oper), ops[i]? = some o → ∀ c, o.op ≠ .defer c) :
    ∀ (fuel : Nat) (listed : Array Bool) (a : Act) (w : World), wpAnyIn F n P md ops Q fuel listed a w → wpAnyIn (F.inRound L) n P md ops Q fuel listed a w
  | 0, _, _, _, h => h
  | fuel + 1, listed, a, w, h => by
    refine ⟨h.1, fun i hi => ?_⟩
    have h2 := wpOpIn_mono (fun a' w' hh => wpAnyIn_round L hd fuel _ a' w' hh) (h.2 i hi)
    unfold wpOpIn at *
    cases ho : ops[i]? with
    | none => simpa only [ho] using h2
    | some o =>
      simp only [ho] at h2 ⊢
      split
      · rename_i hw
        simp only [hw, if_true] at h2
        exact operIn_round L (hd i o ho) h2
      · rename_i hw
        simp only [hw] at h2
        exact h2

/-- between two rounds -/
def LI (w : World) (base g s : Nat) (dv : Value) (p : Prg) (pre : List Int) (W : World) : Prop :=
  W.cell? ⟨s, 0, none⟩ = some (.pointer (some ⟨g, 0, none⟩)) ∧ (∃ ov, Pm W base g dv ov ⟨p.state, p.done, colI p.opn pre, p.rework⟩ ∧ ov.ownBlock ≠ some s) ∧ Below base w W
theorem LI.own (w : World) (base g s : Nat) (dv : Value) (p : Prg) (hb : base ≤ w.heap.size) (B : Nat) (hB : base ≤ B) : OwnFrom B (LI w base g s dv p) := by
  rintro pre W W' row ⟨h1, ⟨ov, h2, h3⟩, h4⟩ hg hr
  have hr' := fun r e => (hr r e).2
  exact ⟨cell_kept h1 hg hr', ⟨ov, h2.grownObj hg hr', h3⟩, h4.grown hg (Nat.le_trans hb h4.size) (fun k e => Nat.le_trans hB (hr k e).1)⟩

theorem Pm.sortOpn {W W5 : World} {base g go n oc : Nat} {dv : Value} {p : Prg} {o' : List Int} (h : Pm W base g dv (.slice (some ⟨go, 0, none⟩) n oc) p) (hg : W.grownBy W5 (some go)) (ho : Oi W5 base (.slice (some ⟨go, 0, none⟩) n oc) o') :
    Pm W5 base g dv (.slice (some ⟨go, 0, none⟩) n oc) ⟨p.state, p.done, o', p.rework⟩ := by
  have hbg : W5.heap[g]? = W.heap[g]? := hg.block g h.gl (fun e => h.no e.symm)
  have hk : ∀ o, W5.cell? ⟨g, o, none⟩ = W.cell? ⟨g, o, none⟩ := fun o => World.cell?_of_block hbg
  exact ⟨(hk _).trans h.c0, (hk _).trans h.c1, (hk _).trans h.c2, (hk _).trans h.c3, fun j => (World.frozen?_of_block hbg).trans (h.fz j), h.gb, Nat.lt_of_lt_of_le h.gl hg.size, World.ownsRow.kept h.hd hg (.inr (fun e => h.ne go e rfl)), ho, h.nd, h.no, h.ne⟩
theorem Pm.setRework {w : World} {base g : Nat} {dv ov : Value} {p : Prg} (h : Pm w base g dv ov p) (n : Int) :
    Pm (w.setCell ⟨g, 3, none⟩ (.int .i64 n)) base g dv ov ⟨p.state, p.done, p.opn, n⟩ where
  c0 := (World.cell?_setCell_other _ _ _ _ (by simp)).trans h.c0
  c1 := (World.cell?_setCell_other _ _ _ _ (by simp)).trans h.c1
  c2 := (World.cell?_setCell_other _ _ _ _ (by simp)).trans h.c2
  c3 := World.cell?_setCell_same _ _ _ h.c3
  fz := fun j => by rw [World.frozen?_setCell]; exact h.fz j
  gb := h.gb
  gl := by have := (grown_set w g 3 (.int .i64 n)).size; have := h.gl; omega
  hd := World.ownsRow.kept h.hd (grown_set w g 3 _) (.inr h.nd)
  ho := World.ownsRow.kept h.ho (grown_set w g 3 _) (.inr h.no)
  nd := h.nd
  no := h.no
  ne := h.ne
/-- the end: the block of the deferred calls is taken up -/
theorem ActPost.put {w X : World} {base g D : Nat} {dv ov : Value} {p : Prg} {r : Int × Prg} (hr : r = (0, p)) (hP : Pm X base g dv ov p) (hB : Below base w X) (hb : base ≤ w.heap.size) (hD : base ≤ D) (hK : X.heap[D]? = some (.deferred (some []))) :
    ActPost w base g r (.returned (.int .i64 0)) (X.putObj D (.deferred none)) := by
  subst hr
  have hg := grownBy_putObj' X D (.deferred none)
  exact ⟨rfl, fun _ => ⟨dv, ov, hP.grownObj hg (fun r e => by cases e; exact ⟨_, hK, rfl⟩)⟩, hB.grown hg (Nat.le_trans hb hB.size) (fun k e => by cases e; exact hD)⟩

set_option maxRecDepth 100000 in
set_option maxHeartbeats 2000000 in
theorem defect_any (A : Option Addr) (c : Nat) (l : List Opn) (w : World) (base g : Nat) (dv ov : Value) (p : Prg) (op most : Int) (hl : So w base A l) (hk : Oks l) (hc : l.length ≤ c) (hcm : c ≤ maxLen) (hord : Pr.ordE l = 0) (h : Pm w base g dv ov p)
    (hol : p.opn.length ≤ l.length) (hon : p.opn.Nodup) (hor : ∀ x ∈ p.opn, 0 ≤ x ∧ x < (l.length : Int)) (hrw : 0 ≤ p.rework ∧ p.rework ≤ 1073741824) :
    Calls Try.prog 36 #[.slice A l.length c, .pointer (some ⟨g, 0, none⟩), .int .i64 op, .int .i64 most] w (ActPost w base g (Pr.defectR l p op most)) := by
  obtain ⟨oA, oc, rfl, hoc1, hoc2, hso, hog⟩ := h.ho.shape
  have hlen := hk.len
  have hgl := h.gl
  have hgb := h.gb
  have hb0 : Below w.heap.size w (w.alloc (.cells #[.pointer (some ⟨g, 0, none⟩)] 62)) := b_new w _
  have hBb := hb0.mono (show base ≤ w.heap.size by omega)
  by_cases h1 : op < 0 ∨ (l.length : Int) ≤ op
  · have HR : Hid (Pr.defectR l p op most = (3, Pr.zeroP)) := by show _ = _; unfold Pr.defectR; rw [if_pos h1]
    generalize Pr.defectR l p op most = R at *
    clear h
    have h1' : op < 0 ∨ (¬ op < 0 ∧ (l.length : Int) ≤ op) := by omega
    rcases h1' with h2 | ⟨h2, h3⟩
    all_goals
      go_enter Try.func36, Try.ntmps36
      go_wp2
      go_ret
      rw [HR.out]
      exact ⟨rfl, fun h => absurd h (by decide), hBb⟩
  · have h2 : ¬ op < 0 := by omega
    have h3 : ¬ (l.length : Int) ≤ op := by omega
    have c2 : (w.alloc (.cells #[.pointer (some ⟨g, 0, none⟩)] 62)).cell? ⟨g, 2, none⟩ = some (.slice oA p.opn.length oc) := (hb0.cell (p := ⟨g, 2, none⟩) hgl).trans h.c2
    have HC := Lib.hid (contains_any oA oc p.opn op _ (si_alloc hso (Below.refl _ _) (.cells #[.pointer (some ⟨g, 0, none⟩)] 62)) (by omega))
    by_cases h4 : op ∈ p.opn
    · have HR : Hid (Pr.defectR l p op most = (8, Pr.zeroP)) := by show _ = _; unfold Pr.defectR; rw [if_neg h1, if_pos h4]
      generalize Pr.defectR l p op most = R at *
      rw [decide_eq_true h4] at HC
      clear h
      go_enter Try.func36, Try.ntmps36
      go_wp2_with fail
      refine HC.out.mono ?_
      rintro e w1 ⟨rfl, rfl⟩
      go_wp2
      go_ret
      rw [HR.out]
      exact ⟨rfl, fun h => absurd h (by decide), hBb⟩
    · rw [decide_eq_false h4] at HC
      have hb3 := b_al (b_al hb0 (.cells #[.slice A l.length c] 22)) (.cells #[.int .i64 op] 3)
      have HZ0 : Hid (base ≤ w.heap.size) := by show _ ≤ _; omega
      have hP0 := h.below hb3
      have hfe : folE l op = 0 := by
        unfold folE Pr.inB
        rw [if_neg (by rw [hord]; simp), if_pos (by simp; omega)]
      have HZ : Hid (base ≤ (((w.alloc (.cells #[.pointer (some ⟨g, 0, none⟩)] 62)).alloc (.cells #[.slice A l.length c] 22)).alloc (.cells #[.int .i64 op] 3)).heap.size ∧ g < (((w.alloc (.cells #[.pointer (some ⟨g, 0, none⟩)] 62)).alloc (.cells #[.slice A l.length c] 22)).alloc (.cells #[.int .i64 op] 3)).heap.size) := ⟨Nat.le_trans HZ0.out hb3.size, hP0.gl⟩
      have hobk : ∀ k, ob g (((w.alloc (.cells #[.pointer (some ⟨g, 0, none⟩)] 62)).alloc (.cells #[.slice A l.length c] 22)).alloc (.cells #[.int .i64 op] 3)) = some k → k < w.heap.size := fun k e => (World.ownsRow.lt h.ho k ((ob_at hP0.c2).symm.trans e)).2
      have HS := Lib.hid (affected1_stops 4 (by omega) base g (w.heap.size + 1 + 1) (w.heap.size + 1) A c l op _ (hl.below (hb3.mono HZ0.out)) hk hc hcm HZ.out.1 HZ.out.2 hfe (by simp [go_sem]) (by simp [go_sem]) (by omega) (by omega) (fun e => by have := hobk _ e; omega) (fun e => by have := hobk _ e; omega) (fun k e => Nat.lt_of_lt_of_le (hobk k e) hb3.size))
      have HI0 : Hid (LI w base g w.heap.size dv p [] (((w.alloc (.cells #[.pointer (some ⟨g, 0, none⟩)] 62)).alloc (.cells #[.slice A l.length c] 22)).alloc (.cells #[.int .i64 op] 3))) := ⟨by simp [go_sem], ⟨_, hP0, fun e => by have := (World.ownsRow.lt h.ho _ e).2; omega⟩, hb3.mono HZ0.out⟩
      have HFL : Hid (1 + (Pr.fols l op).length ≤ 2000) := by
        show _ ≤ _
        have h := List.length_filter_le (fun b => Pr.folB l op b.toNat) (Pr.ids l.length)
        rw [ids_length] at h
        unfold Pr.fols
        omega
      clear hP0 hobk h
      refine (callsIn_wide (n := 5)).1 ?_
      refine callsIn_of_wp_marks Try.func36 rfl trivial ?_ rfl
      simp only [Try.ntmps36, List.size_toArray, List.length_cons, List.length_nil, Nat.reduceAdd, Nat.reduceSub, Array.replicate_succ, Array.replicate_zero, List.push_toArray, List.append_toArray, List.nil_append, List.cons_append]
      gi_wp2_with (first | (refine ⟨trivial, ?_⟩; gi_at_call 48; refine (callsIn_wide.2 HC.out).mono ?_; rintro e w1 ⟨rfl, rfl⟩) | (refine ⟨trivial, ?_⟩; gi_at_call 52; refine (callsIn_wide.2 (affected_any A l.length c op _)).mono ?_; rintro e w2 ⟨rfl, rfl⟩))
      refine wpIn_rangeFunc_ownF rfl (by omega) (gf := 64) (lb := #[.pointer (some ⟨w.heap.size + 1 + 1, 0, none⟩), .pointer (some ⟨w.heap.size + 1, 0, none⟩)]) rfl trivial (enters_of Try.func64 (by kernel_rfl) rfl)
        HS.out (fun h h' => Kp.trans h h') (fun W L o o' a b c _ => Kp.put HZ.out.1 HZ.out.2 W L o o' a b c) (Below.refl _ _) (fun _ => rfl) (LI w base g w.heap.size dv p) (fun _ _ _ => False) (LI.own w base g w.heap.size dv p HZ0.out _ HZ.out.1) (fun _ _ _ _ _ hs _ _ => hs) HI0.out
        (fun x => { tmps := #[Value.slice A l.length c, Value.pointer (some ⟨g, 0, none⟩), .int .i64 op, .int .i64 most, undef, .pointer (some ⟨w.heap.size, 0, none⟩), undef, undef, .int .i64 0, .int .i64 x, .int .i64 op, .bool false, .bool false, .int .i64 op, .slice A l.length c, .int .i64 (l.length : Int), .bool false, .bool false, .pointer (some ⟨g, 0, none⟩), .pointer (some ⟨g, 0, none⟩), .pointer (some ⟨g, 2, none⟩), .slice oA p.opn.length oc, .int .i64 op, .bool false, .slice A l.length c, .int .i64 op, .func (.func 64) #[] #[.pointer (some ⟨w.heap.size + 1 + 1, 0, none⟩), .pointer (some ⟨w.heap.size + 1, 0, none⟩)], .int .i64 x, undef, undef, undef, undef, undef, undef, undef, undef, undef, undef, undef, undef, undef, undef, undef, undef, undef, undef, undef, undef, undef, undef, undef, undef, undef, undef, undef, undef, undef, undef, undef, undef, undef, undef, undef, undef, undef, undef, undef, undef, undef], defers := [] }) ?assign ?body ?done ?stop
      case assign =>
        intro L x W K hK
        gi_wp2
        exact hK
      case body =>
        rintro L pre x W ⟨hs1, ⟨ov2, hP, hns⟩, hB⟩ hpl
        obtain ⟨oA2, oc2, rfl, ho1, ho2, hso2, hog2⟩ := hP.ho.shape
        have c2 := hP.c2
        have f2 := hP.fz 2
        have hcl : (colI p.opn pre).length ≤ 5000 := by have := colI_length pre p.opn; have := HFL.out; omega
        have HX := Lib.hid (contains_any oA2 oc2 (colI p.opn pre) x W hso2 (by omega))
        by_cases hx : x ∈ colI p.opn pre
        · rw [decide_eq_true hx] at HX
          have HL : Hid (LI w base g w.heap.size dv p (pre ++ [x]) W) := by
            show LI _ _ _ _ _ _ _ _
            refine ⟨hs1, ⟨_, ?_, hns⟩, hB⟩
            rw [colI_snoc, addI, if_pos hx]
            exact hP
          clear hP hx hns hB
          gi_wp2_with (refine ⟨trivial, ?_⟩; gi_at_call 48; refine (CallsIn.inRound L (callsIn_wide.2 HX.out)).mono ?_; rintro e w' ⟨rfl, rfl⟩)
          exact ⟨KeepsOthers.refl _, Kp.refl _ _ _, HL.out⟩
        · rw [decide_eq_false hx] at HX
          obtain ⟨v3, w3, hrun, ho3, hg3, hat3⟩ := run_append_ints (W.alloc (.cells #[.int .i64 x] 3)).drew base 25 (.slice oA2 (colI p.opn pre).length oc2) (colI p.opn pre) (hP.ho.alloc (.cells #[.int .i64 x] 3)) _ (some ⟨W.heap.size, 0, none⟩) [x] 1 (one_cell W x) (by simp; omega) (by have := hP.gl; have := hP.gb; simp; omega)
          have hG : W.grownBy w3 (Value.slice oA2 (colI p.opn pre).length oc2).ownBlock := (World.grownBy_alloc W (.cells #[.int .i64 x] 3) _).trans ⟨hg3.os, hg3.tape, hg3.output, hg3.size, hg3.block⟩
          replace hrun : (Builtin.append_ #[25, 25] 25 #[.slice oA2 (colI p.opn pre).length oc2, .slice (some ⟨W.heap.size, 0, none⟩) 1 1]).run Try.prog (W.alloc (.cells #[.int .i64 x] 3)).drew = .ok v3 w3 := hrun
          have hgW := hP.gl
          have hAt : v3.ownBlock = (Value.slice oA2 (colI p.opn pre).length oc2).ownBlock ∨ ∃ k, v3.ownBlock = some k ∧ W.heap.size ≤ k := by
            rcases hat3 with e | e
            · exact .inl e
            · exact .inr ⟨_, e, by simp⟩
          have hsW : w.heap.size < W.heap.size := World.block_lt_of_cell? W _ hs1
          obtain ⟨hP3, hns3, hs3, hK3, hKp3⟩ := app_facts hP hns hsW (by omega) ho3 hG hAt
          obtain ⟨A3, cc3, rfl, _, _, _, _⟩ := ho3.shape
          have d2 : w3.cell? ⟨g, 2, none⟩ = some (.slice oA2 (colI p.opn pre).length oc2) := (World.cell?_of_block (a := ⟨g, 2, none⟩) (hG.block g hgW (fun e => hP.no e.symm))).trans c2
          have e2 : w3.frozen? ⟨g, 2, none⟩ = false := (World.frozen?_of_block (a := ⟨g, 2, none⟩) (hG.block g hgW (fun e => hP.no e.symm))).trans f2
          have ds1 : w3.cell? ⟨w.heap.size, 0, none⟩ = some (.pointer (some ⟨g, 0, none⟩)) := (World.cell?_of_block (a := ⟨w.heap.size, 0, none⟩) (hG.block w.heap.size hsW (fun e => hns e.symm))).trans hs1
          have ac2 : (W.alloc (.cells #[.int .i64 x] 3)).cell? ⟨g, 2, none⟩ = some (.slice oA2 (colI p.opn pre).length oc2) := ((b_new W _).cell (p := ⟨g, 2, none⟩) hgW).trans c2
          have as1 : (W.alloc (.cells #[.int .i64 x] 3)).cell? ⟨w.heap.size, 0, none⟩ = some (.pointer (some ⟨g, 0, none⟩)) := ((b_new W _).cell (p := ⟨w.heap.size, 0, none⟩) hsW).trans hs1
          have HL : Hid (LI w base g w.heap.size dv p (pre ++ [x]) (w3.setCell ⟨g, 2, none⟩ (.slice A3 (colI p.opn pre ++ [x]).length cc3))) := by
            show LI _ _ _ _ _ _ _ _
            refine ⟨hs3.trans hs1, ⟨_, ?_, hns3⟩, hB.trans hKp3.bel⟩
            rw [colI_snoc, addI, if_neg hx]
            exact hP3
          have HK3 := Lib.hid hK3
          have HKp3 := Lib.hid hKp3
          have hmx : Try.prog.follows .mixedOrders = true := by kernel_rfl
          have hll : (colI p.opn pre ++ [x]).length = (colI p.opn pre).length + 1 := by simp
          rw [hll] at HL HK3 HKp3
          clear hll
          clear hK3 hKp3 hP3 hns3 hs3 hP hx hns hB hG hAt hat3 hg3 ho3
          gi_wp2_with (refine ⟨trivial, ?_⟩; gi_at_call 48; refine (CallsIn.inRound L (callsIn_wide.2 HX.out)).mono ?_; rintro e w' ⟨rfl, rfl⟩)
          have hE : ((Builtin.append_ #[25, 25] 25 #[.slice oA2 (colI p.opn pre).length oc2, .slice (some ⟨W.heap.size, 0, none⟩) 1 1]).run Try.prog (W.alloc (.cells #[.int .i64 x] 3)).drew).andThen (fun a w' => Result.ok (Next.value a) w') = .ok (.value (.slice A3 (colI p.opn pre ++ [x]).length cc3)) w3 := by rw [hrun]; rfl
          conv at hE =>
            lhs
            simp [go_sem]
          clear hrun
          refine wpIn_region_any hmx ?_
          change wpAnyIn _ _ _ _ _ _ _ _ _ (World.drew _)
          refine wpAnyIn_round L (noDefer_of (by kernel_rfl)) _ _ _ _ ?_
          refine wpAnyIn_take (i := 5) (v := .int .i64 x) rfl rfl (by kernel_rfl) (by kernel_rfl) (by kernel_rfl) (fun _ _ _ h => h) ⟨Or.inl ⟨by rfl, (by intro w; go_simp)⟩, fun _ => rfl⟩ ?_
          refine wpAnyIn_ready (rs := [0, 1, 6]) (by kernel_rfl) (by simp) ?_
          refine AllReadyIn.cons rfl (fun K hK => ?_) ?_
          · go_simp
            refine hK _ _ ?_
            clear hK K
            refine wpAnyIn_ready (rs := [1, 6]) (by kernel_rfl) (by simp) ?_
            refine AllReadyIn.cons rfl (fun K hK => ?_) ?_
            · go_simp
              refine hK _ _ ?_
              clear hK K
              refine wpAnyIn_take (i := 2) (v := .pointer (some ⟨g, 0, none⟩)) rfl rfl (by kernel_rfl) (by kernel_rfl) (by kernel_rfl) (fun _ _ _ h => h) ⟨Or.inl ⟨by rfl, (by intro w; go_simp)⟩, fun _ => rfl⟩ ?_
              refine wpAnyIn_take (i := 3) (v := .pointer (some ⟨g, 2, none⟩)) rfl rfl (by kernel_rfl) (by kernel_rfl) (by kernel_rfl) (fun _ _ _ h => h) ⟨Or.inl ⟨by rfl, (by intro w; go_simp)⟩, fun _ => rfl⟩ ?_
              refine wpAnyIn_ready (rs := [4, 6]) (by kernel_rfl) (by simp) ?_
              refine AllReadyIn.cons rfl (fun K hK => ?_) ?_
              · go_simp
                refine hK _ _ ?_
                clear hK K
                refine wpAnyIn_ready (rs := [6]) (by kernel_rfl) (by simp) ?_
                refine AllReadyIn.cons rfl (fun K hK => ?_) ?_
                · go_simp
                  refine hK _ _ ?_
                  clear hK K
                  refine wpAnyIn_ready (rs := [7]) (by kernel_rfl) (by simp) ?_
                  refine AllReadyIn.cons rfl (fun K hK => ?_) ?_
                  · go_simp
                    refine hK _ _ ?_
                    clear hK K
                    refine wpAnyIn_take (i := 8) (v := .pointer (some ⟨g, 0, none⟩)) rfl rfl (by kernel_rfl) (by kernel_rfl) (by kernel_rfl) (fun _ _ _ h => h) ⟨Or.inl ⟨by rfl, (by intro w; go_simp)⟩, fun _ => rfl⟩ ?_
                    refine wpAnyIn_take (i := 9) (v := .pointer (some ⟨g, 2, none⟩)) rfl rfl (by kernel_rfl) (by kernel_rfl) (by kernel_rfl) (fun _ _ _ h => h) ⟨Or.inl ⟨by rfl, (by intro w; go_simp)⟩, fun _ => rfl⟩ ?_
                    refine wpAnyIn_ready (rs := [10]) (by kernel_rfl) (by simp) ?_
                    refine AllReadyIn.cons rfl (fun K hK => ?_) ?_
                    · go_simp
                      refine hK _ _ ?_
                      clear hK K
                      refine wpAnyIn_done (by kernel_rfl) ?_ _
                      gi_wp2
                      exact ⟨HK3.out, HKp3.out, HL.out⟩
                    exact AllReadyIn.nil
                  exact AllReadyIn.nil
                exact AllReadyIn.nil
              refine AllReadyIn.cons rfl (fun K hK => ?_) ?_
              · go_simp
                refine hK _ _ ?_
                clear hK K
                refine wpAnyIn_ready (rs := [4]) (by kernel_rfl) (by simp) ?_
                refine AllReadyIn.cons rfl (fun K hK => ?_) ?_
                · go_simp
                  refine hK _ _ ?_
                  clear hK K
                  refine wpAnyIn_ready (rs := [7]) (by kernel_rfl) (by simp) ?_
                  refine AllReadyIn.cons rfl (fun K hK => ?_) ?_
                  · go_simp
                    refine hK _ _ ?_
                    clear hK K
                    refine wpAnyIn_take (i := 8) (v := .pointer (some ⟨g, 0, none⟩)) rfl rfl (by kernel_rfl) (by kernel_rfl) (by kernel_rfl) (fun _ _ _ h => h) ⟨Or.inl ⟨by rfl, (by intro w; go_simp)⟩, fun _ => rfl⟩ ?_
                    refine wpAnyIn_take (i := 9) (v := .pointer (some ⟨g, 2, none⟩)) rfl rfl (by kernel_rfl) (by kernel_rfl) (by kernel_rfl) (fun _ _ _ h => h) ⟨Or.inl ⟨by rfl, (by intro w; go_simp)⟩, fun _ => rfl⟩ ?_
                    refine wpAnyIn_ready (rs := [10]) (by kernel_rfl) (by simp) ?_
                    refine AllReadyIn.cons rfl (fun K hK => ?_) ?_
                    · go_simp
                      refine hK _ _ ?_
                      clear hK K
                      refine wpAnyIn_done (by kernel_rfl) ?_ _
                      gi_wp2
                      exact ⟨HK3.out, HKp3.out, HL.out⟩
                    exact AllReadyIn.nil
                  exact AllReadyIn.nil
                exact AllReadyIn.nil
              exact AllReadyIn.nil
            refine AllReadyIn.cons rfl (fun K hK => ?_) ?_
            · go_simp
              refine hK _ _ ?_
              clear hK K
              refine wpAnyIn_ready (rs := [1]) (by kernel_rfl) (by simp) ?_
              refine AllReadyIn.cons rfl (fun K hK => ?_) ?_
              · go_simp
                refine hK _ _ ?_
                clear hK K
                refine wpAnyIn_take (i := 2) (v := .pointer (some ⟨g, 0, none⟩)) rfl rfl (by kernel_rfl) (by kernel_rfl) (by kernel_rfl) (fun _ _ _ h => h) ⟨Or.inl ⟨by rfl, (by intro w; go_simp)⟩, fun _ => rfl⟩ ?_
                refine wpAnyIn_take (i := 3) (v := .pointer (some ⟨g, 2, none⟩)) rfl rfl (by kernel_rfl) (by kernel_rfl) (by kernel_rfl) (fun _ _ _ h => h) ⟨Or.inl ⟨by rfl, (by intro w; go_simp)⟩, fun _ => rfl⟩ ?_
                refine wpAnyIn_ready (rs := [4]) (by kernel_rfl) (by simp) ?_
                refine AllReadyIn.cons rfl (fun K hK => ?_) ?_
                · go_simp
                  refine hK _ _ ?_
                  clear hK K
                  refine wpAnyIn_ready (rs := [7]) (by kernel_rfl) (by simp) ?_
                  refine AllReadyIn.cons rfl (fun K hK => ?_) ?_
                  · go_simp
                    refine hK _ _ ?_
                    clear hK K
                    refine wpAnyIn_take (i := 8) (v := .pointer (some ⟨g, 0, none⟩)) rfl rfl (by kernel_rfl) (by kernel_rfl) (by kernel_rfl) (fun _ _ _ h => h) ⟨Or.inl ⟨by rfl, (by intro w; go_simp)⟩, fun _ => rfl⟩ ?_
                    refine wpAnyIn_take (i := 9) (v := .pointer (some ⟨g, 2, none⟩)) rfl rfl (by kernel_rfl) (by kernel_rfl) (by kernel_rfl) (fun _ _ _ h => h) ⟨Or.inl ⟨by rfl, (by intro w; go_simp)⟩, fun _ => rfl⟩ ?_
                    refine wpAnyIn_ready (rs := [10]) (by kernel_rfl) (by simp) ?_
                    refine AllReadyIn.cons rfl (fun K hK => ?_) ?_
                    · go_simp
                      refine hK _ _ ?_
                      clear hK K
                      refine wpAnyIn_done (by kernel_rfl) ?_ _
                      gi_wp2
                      exact ⟨HK3.out, HKp3.out, HL.out⟩
                    exact AllReadyIn.nil
                  exact AllReadyIn.nil
                exact AllReadyIn.nil
              exact AllReadyIn.nil
            exact AllReadyIn.nil
          refine AllReadyIn.cons rfl (fun K hK => ?_) ?_
          · go_simp
            refine hK _ _ ?_
            clear hK K
            refine wpAnyIn_take (i := 2) (v := .pointer (some ⟨g, 0, none⟩)) rfl rfl (by kernel_rfl) (by kernel_rfl) (by kernel_rfl) (fun _ _ _ h => h) ⟨Or.inl ⟨by rfl, (by intro w; go_simp)⟩, fun _ => rfl⟩ ?_
            refine wpAnyIn_take (i := 3) (v := .pointer (some ⟨g, 2, none⟩)) rfl rfl (by kernel_rfl) (by kernel_rfl) (by kernel_rfl) (fun _ _ _ h => h) ⟨Or.inl ⟨by rfl, (by intro w; go_simp)⟩, fun _ => rfl⟩ ?_
            refine wpAnyIn_ready (rs := [0, 4, 6]) (by kernel_rfl) (by simp) ?_
            refine AllReadyIn.cons rfl (fun K hK => ?_) ?_
            · go_simp
              refine hK _ _ ?_
              clear hK K
              refine wpAnyIn_ready (rs := [4, 6]) (by kernel_rfl) (by simp) ?_
              refine AllReadyIn.cons rfl (fun K hK => ?_) ?_
              · go_simp
                refine hK _ _ ?_
                clear hK K
                refine wpAnyIn_ready (rs := [6]) (by kernel_rfl) (by simp) ?_
                refine AllReadyIn.cons rfl (fun K hK => ?_) ?_
                · go_simp
                  refine hK _ _ ?_
                  clear hK K
                  refine wpAnyIn_ready (rs := [7]) (by kernel_rfl) (by simp) ?_
                  refine AllReadyIn.cons rfl (fun K hK => ?_) ?_
                  · go_simp
                    refine hK _ _ ?_
                    clear hK K
                    refine wpAnyIn_take (i := 8) (v := .pointer (some ⟨g, 0, none⟩)) rfl rfl (by kernel_rfl) (by kernel_rfl) (by kernel_rfl) (fun _ _ _ h => h) ⟨Or.inl ⟨by rfl, (by intro w; go_simp)⟩, fun _ => rfl⟩ ?_
                    refine wpAnyIn_take (i := 9) (v := .pointer (some ⟨g, 2, none⟩)) rfl rfl (by kernel_rfl) (by kernel_rfl) (by kernel_rfl) (fun _ _ _ h => h) ⟨Or.inl ⟨by rfl, (by intro w; go_simp)⟩, fun _ => rfl⟩ ?_
                    refine wpAnyIn_ready (rs := [10]) (by kernel_rfl) (by simp) ?_
                    refine AllReadyIn.cons rfl (fun K hK => ?_) ?_
                    · go_simp
                      refine hK _ _ ?_
                      clear hK K
                      refine wpAnyIn_done (by kernel_rfl) ?_ _
                      gi_wp2
                      exact ⟨HK3.out, HKp3.out, HL.out⟩
                    exact AllReadyIn.nil
                  exact AllReadyIn.nil
                exact AllReadyIn.nil
              refine AllReadyIn.cons rfl (fun K hK => ?_) ?_
              · go_simp
                refine hK _ _ ?_
                clear hK K
                refine wpAnyIn_ready (rs := [4]) (by kernel_rfl) (by simp) ?_
                refine AllReadyIn.cons rfl (fun K hK => ?_) ?_
                · go_simp
                  refine hK _ _ ?_
                  clear hK K
                  refine wpAnyIn_ready (rs := [7]) (by kernel_rfl) (by simp) ?_
                  refine AllReadyIn.cons rfl (fun K hK => ?_) ?_
                  · go_simp
                    refine hK _ _ ?_
                    clear hK K
                    refine wpAnyIn_take (i := 8) (v := .pointer (some ⟨g, 0, none⟩)) rfl rfl (by kernel_rfl) (by kernel_rfl) (by kernel_rfl) (fun _ _ _ h => h) ⟨Or.inl ⟨by rfl, (by intro w; go_simp)⟩, fun _ => rfl⟩ ?_
                    refine wpAnyIn_take (i := 9) (v := .pointer (some ⟨g, 2, none⟩)) rfl rfl (by kernel_rfl) (by kernel_rfl) (by kernel_rfl) (fun _ _ _ h => h) ⟨Or.inl ⟨by rfl, (by intro w; go_simp)⟩, fun _ => rfl⟩ ?_
                    refine wpAnyIn_ready (rs := [10]) (by kernel_rfl) (by simp) ?_
                    refine AllReadyIn.cons rfl (fun K hK => ?_) ?_
                    · go_simp
                      refine hK _ _ ?_
                      clear hK K
                      refine wpAnyIn_done (by kernel_rfl) ?_ _
                      gi_wp2
                      exact ⟨HK3.out, HKp3.out, HL.out⟩
                    exact AllReadyIn.nil
                  exact AllReadyIn.nil
                exact AllReadyIn.nil
              exact AllReadyIn.nil
            refine AllReadyIn.cons rfl (fun K hK => ?_) ?_
            · go_simp
              refine hK _ _ ?_
              clear hK K
              refine wpAnyIn_ready (rs := [0, 6]) (by kernel_rfl) (by simp) ?_
              refine AllReadyIn.cons rfl (fun K hK => ?_) ?_
              · go_simp
                refine hK _ _ ?_
                clear hK K
                refine wpAnyIn_ready (rs := [6]) (by kernel_rfl) (by simp) ?_
                refine AllReadyIn.cons rfl (fun K hK => ?_) ?_
                · go_simp
                  refine hK _ _ ?_
                  clear hK K
                  refine wpAnyIn_ready (rs := [7]) (by kernel_rfl) (by simp) ?_
                  refine AllReadyIn.cons rfl (fun K hK => ?_) ?_
                  · go_simp
                    refine hK _ _ ?_
                    clear hK K
                    refine wpAnyIn_take (i := 8) (v := .pointer (some ⟨g, 0, none⟩)) rfl rfl (by kernel_rfl) (by kernel_rfl) (by kernel_rfl) (fun _ _ _ h => h) ⟨Or.inl ⟨by rfl, (by intro w; go_simp)⟩, fun _ => rfl⟩ ?_
                    refine wpAnyIn_take (i := 9) (v := .pointer (some ⟨g, 2, none⟩)) rfl rfl (by kernel_rfl) (by kernel_rfl) (by kernel_rfl) (fun _ _ _ h => h) ⟨Or.inl ⟨by rfl, (by intro w; go_simp)⟩, fun _ => rfl⟩ ?_
                    refine wpAnyIn_ready (rs := [10]) (by kernel_rfl) (by simp) ?_
                    refine AllReadyIn.cons rfl (fun K hK => ?_) ?_
                    · go_simp
                      refine hK _ _ ?_
                      clear hK K
                      refine wpAnyIn_done (by kernel_rfl) ?_ _
                      gi_wp2
                      exact ⟨HK3.out, HKp3.out, HL.out⟩
                    exact AllReadyIn.nil
                  exact AllReadyIn.nil
                exact AllReadyIn.nil
              refine AllReadyIn.cons rfl (fun K hK => ?_) ?_
              · go_simp
                refine hK _ _ ?_
                clear hK K
                refine wpAnyIn_ready (rs := [0, 7]) (by kernel_rfl) (by simp) ?_
                refine AllReadyIn.cons rfl (fun K hK => ?_) ?_
                · go_simp
                  refine hK _ _ ?_
                  clear hK K
                  refine wpAnyIn_ready (rs := [7]) (by kernel_rfl) (by simp) ?_
                  refine AllReadyIn.cons rfl (fun K hK => ?_) ?_
                  · go_simp
                    refine hK _ _ ?_
                    clear hK K
                    refine wpAnyIn_take (i := 8) (v := .pointer (some ⟨g, 0, none⟩)) rfl rfl (by kernel_rfl) (by kernel_rfl) (by kernel_rfl) (fun _ _ _ h => h) ⟨Or.inl ⟨by rfl, (by intro w; go_simp)⟩, fun _ => rfl⟩ ?_
                    refine wpAnyIn_take (i := 9) (v := .pointer (some ⟨g, 2, none⟩)) rfl rfl (by kernel_rfl) (by kernel_rfl) (by kernel_rfl) (fun _ _ _ h => h) ⟨Or.inl ⟨by rfl, (by intro w; go_simp)⟩, fun _ => rfl⟩ ?_
                    refine wpAnyIn_ready (rs := [10]) (by kernel_rfl) (by simp) ?_
                    refine AllReadyIn.cons rfl (fun K hK => ?_) ?_
                    · go_simp
                      refine hK _ _ ?_
                      clear hK K
                      refine wpAnyIn_done (by kernel_rfl) ?_ _
                      gi_wp2
                      exact ⟨HK3.out, HKp3.out, HL.out⟩
                    exact AllReadyIn.nil
                  exact AllReadyIn.nil
                refine AllReadyIn.cons rfl (fun K hK => ?_) ?_
                · go_simp
                  refine hK _ _ ?_
                  clear hK K
                  refine wpAnyIn_ready (rs := [0]) (by kernel_rfl) (by simp) ?_
                  refine AllReadyIn.cons rfl (fun K hK => ?_) ?_
                  · go_simp
                    refine hK _ _ ?_
                    clear hK K
                    refine wpAnyIn_take (i := 8) (v := .pointer (some ⟨g, 0, none⟩)) rfl rfl (by kernel_rfl) (by kernel_rfl) (by kernel_rfl) (fun _ _ _ h => h) ⟨Or.inl ⟨by rfl, (by intro w; go_simp)⟩, fun _ => rfl⟩ ?_
                    refine wpAnyIn_take (i := 9) (v := .pointer (some ⟨g, 2, none⟩)) rfl rfl (by kernel_rfl) (by kernel_rfl) (by kernel_rfl) (fun _ _ _ h => h) ⟨Or.inl ⟨by rfl, (by intro w; go_simp)⟩, fun _ => rfl⟩ ?_
                    refine wpAnyIn_ready (rs := [10]) (by kernel_rfl) (by simp) ?_
                    refine AllReadyIn.cons rfl (fun K hK => ?_) ?_
                    · go_simp
                      refine hK _ _ ?_
                      clear hK K
                      refine wpAnyIn_done (by kernel_rfl) ?_ _
                      gi_wp2
                      exact ⟨HK3.out, HKp3.out, HL.out⟩
                    exact AllReadyIn.nil
                  exact AllReadyIn.nil
                exact AllReadyIn.nil
              exact AllReadyIn.nil
            refine AllReadyIn.cons rfl (fun K hK => ?_) ?_
            · go_simp
              refine hK _ _ ?_
              clear hK K
              refine wpAnyIn_ready (rs := [0, 4]) (by kernel_rfl) (by simp) ?_
              refine AllReadyIn.cons rfl (fun K hK => ?_) ?_
              · go_simp
                refine hK _ _ ?_
                clear hK K
                refine wpAnyIn_ready (rs := [4]) (by kernel_rfl) (by simp) ?_
                refine AllReadyIn.cons rfl (fun K hK => ?_) ?_
                · go_simp
                  refine hK _ _ ?_
                  clear hK K
                  refine wpAnyIn_ready (rs := [7]) (by kernel_rfl) (by simp) ?_
                  refine AllReadyIn.cons rfl (fun K hK => ?_) ?_
                  · go_simp
                    refine hK _ _ ?_
                    clear hK K
                    refine wpAnyIn_take (i := 8) (v := .pointer (some ⟨g, 0, none⟩)) rfl rfl (by kernel_rfl) (by kernel_rfl) (by kernel_rfl) (fun _ _ _ h => h) ⟨Or.inl ⟨by rfl, (by intro w; go_simp)⟩, fun _ => rfl⟩ ?_
                    refine wpAnyIn_take (i := 9) (v := .pointer (some ⟨g, 2, none⟩)) rfl rfl (by kernel_rfl) (by kernel_rfl) (by kernel_rfl) (fun _ _ _ h => h) ⟨Or.inl ⟨by rfl, (by intro w; go_simp)⟩, fun _ => rfl⟩ ?_
                    refine wpAnyIn_ready (rs := [10]) (by kernel_rfl) (by simp) ?_
                    refine AllReadyIn.cons rfl (fun K hK => ?_) ?_
                    · go_simp
                      refine hK _ _ ?_
                      clear hK K
                      refine wpAnyIn_done (by kernel_rfl) ?_ _
                      gi_wp2
                      exact ⟨HK3.out, HKp3.out, HL.out⟩
                    exact AllReadyIn.nil
                  exact AllReadyIn.nil
                exact AllReadyIn.nil
              refine AllReadyIn.cons rfl (fun K hK => ?_) ?_
              · go_simp
                refine hK _ _ ?_
                clear hK K
                refine wpAnyIn_ready (rs := [0, 7]) (by kernel_rfl) (by simp) ?_
                refine AllReadyIn.cons rfl (fun K hK => ?_) ?_
                · go_simp
                  refine hK _ _ ?_
                  clear hK K
                  refine wpAnyIn_ready (rs := [7]) (by kernel_rfl) (by simp) ?_
                  refine AllReadyIn.cons rfl (fun K hK => ?_) ?_
                  · go_simp
                    refine hK _ _ ?_
                    clear hK K
                    refine wpAnyIn_take (i := 8) (v := .pointer (some ⟨g, 0, none⟩)) rfl rfl (by kernel_rfl) (by kernel_rfl) (by kernel_rfl) (fun _ _ _ h => h) ⟨Or.inl ⟨by rfl, (by intro w; go_simp)⟩, fun _ => rfl⟩ ?_
                    refine wpAnyIn_take (i := 9) (v := .pointer (some ⟨g, 2, none⟩)) rfl rfl (by kernel_rfl) (by kernel_rfl) (by kernel_rfl) (fun _ _ _ h => h) ⟨Or.inl ⟨by rfl, (by intro w; go_simp)⟩, fun _ => rfl⟩ ?_
                    refine wpAnyIn_ready (rs := [10]) (by kernel_rfl) (by simp) ?_
                    refine AllReadyIn.cons rfl (fun K hK => ?_) ?_
                    · go_simp
                      refine hK _ _ ?_
                      clear hK K
                      refine wpAnyIn_done (by kernel_rfl) ?_ _
                      gi_wp2
                      exact ⟨HK3.out, HKp3.out, HL.out⟩
                    exact AllReadyIn.nil
                  exact AllReadyIn.nil
                refine AllReadyIn.cons rfl (fun K hK => ?_) ?_
                · go_simp
                  refine hK _ _ ?_
                  clear hK K
                  refine wpAnyIn_ready (rs := [0]) (by kernel_rfl) (by simp) ?_
                  refine AllReadyIn.cons rfl (fun K hK => ?_) ?_
                  · go_simp
                    refine hK _ _ ?_
                    clear hK K
                    refine wpAnyIn_take (i := 8) (v := .pointer (some ⟨g, 0, none⟩)) rfl rfl (by kernel_rfl) (by kernel_rfl) (by kernel_rfl) (fun _ _ _ h => h) ⟨Or.inl ⟨by rfl, (by intro w; go_simp)⟩, fun _ => rfl⟩ ?_
                    refine wpAnyIn_take (i := 9) (v := .pointer (some ⟨g, 2, none⟩)) rfl rfl (by kernel_rfl) (by kernel_rfl) (by kernel_rfl) (fun _ _ _ h => h) ⟨Or.inl ⟨by rfl, (by intro w; go_simp)⟩, fun _ => rfl⟩ ?_
                    refine wpAnyIn_ready (rs := [10]) (by kernel_rfl) (by simp) ?_
                    refine AllReadyIn.cons rfl (fun K hK => ?_) ?_
                    · go_simp
                      refine hK _ _ ?_
                      clear hK K
                      refine wpAnyIn_done (by kernel_rfl) ?_ _
                      gi_wp2
                      exact ⟨HK3.out, HKp3.out, HL.out⟩
                    exact AllReadyIn.nil
                  exact AllReadyIn.nil
                exact AllReadyIn.nil
              exact AllReadyIn.nil
            exact AllReadyIn.nil
          refine AllReadyIn.cons rfl (fun K hK => ?_) ?_
          · go_simp
            refine hK _ _ ?_
            clear hK K
            refine wpAnyIn_ready (rs := [0, 1]) (by kernel_rfl) (by simp) ?_
            refine AllReadyIn.cons rfl (fun K hK => ?_) ?_
            · go_simp
              refine hK _ _ ?_
              clear hK K
              refine wpAnyIn_ready (rs := [1]) (by kernel_rfl) (by simp) ?_
              refine AllReadyIn.cons rfl (fun K hK => ?_) ?_
              · go_simp
                refine hK _ _ ?_
                clear hK K
                refine wpAnyIn_take (i := 2) (v := .pointer (some ⟨g, 0, none⟩)) rfl rfl (by kernel_rfl) (by kernel_rfl) (by kernel_rfl) (fun _ _ _ h => h) ⟨Or.inl ⟨by rfl, (by intro w; go_simp)⟩, fun _ => rfl⟩ ?_
                refine wpAnyIn_take (i := 3) (v := .pointer (some ⟨g, 2, none⟩)) rfl rfl (by kernel_rfl) (by kernel_rfl) (by kernel_rfl) (fun _ _ _ h => h) ⟨Or.inl ⟨by rfl, (by intro w; go_simp)⟩, fun _ => rfl⟩ ?_
                refine wpAnyIn_ready (rs := [4]) (by kernel_rfl) (by simp) ?_
                refine AllReadyIn.cons rfl (fun K hK => ?_) ?_
                · go_simp
                  refine hK _ _ ?_
                  clear hK K
                  refine wpAnyIn_ready (rs := [7]) (by kernel_rfl) (by simp) ?_
                  refine AllReadyIn.cons rfl (fun K hK => ?_) ?_
                  · go_simp
                    refine hK _ _ ?_
                    clear hK K
                    refine wpAnyIn_take (i := 8) (v := .pointer (some ⟨g, 0, none⟩)) rfl rfl (by kernel_rfl) (by kernel_rfl) (by kernel_rfl) (fun _ _ _ h => h) ⟨Or.inl ⟨by rfl, (by intro w; go_simp)⟩, fun _ => rfl⟩ ?_
                    refine wpAnyIn_take (i := 9) (v := .pointer (some ⟨g, 2, none⟩)) rfl rfl (by kernel_rfl) (by kernel_rfl) (by kernel_rfl) (fun _ _ _ h => h) ⟨Or.inl ⟨by rfl, (by intro w; go_simp)⟩, fun _ => rfl⟩ ?_
                    refine wpAnyIn_ready (rs := [10]) (by kernel_rfl) (by simp) ?_
                    refine AllReadyIn.cons rfl (fun K hK => ?_) ?_
                    · go_simp
                      refine hK _ _ ?_
                      clear hK K
                      refine wpAnyIn_done (by kernel_rfl) ?_ _
                      gi_wp2
                      exact ⟨HK3.out, HKp3.out, HL.out⟩
                    exact AllReadyIn.nil
                  exact AllReadyIn.nil
                exact AllReadyIn.nil
              exact AllReadyIn.nil
            refine AllReadyIn.cons rfl (fun K hK => ?_) ?_
            · go_simp
              refine hK _ _ ?_
              clear hK K
              refine wpAnyIn_take (i := 2) (v := .pointer (some ⟨g, 0, none⟩)) rfl rfl (by kernel_rfl) (by kernel_rfl) (by kernel_rfl) (fun _ _ _ h => h) ⟨Or.inl ⟨by rfl, (by intro w; go_simp)⟩, fun _ => rfl⟩ ?_
              refine wpAnyIn_take (i := 3) (v := .pointer (some ⟨g, 2, none⟩)) rfl rfl (by kernel_rfl) (by kernel_rfl) (by kernel_rfl) (fun _ _ _ h => h) ⟨Or.inl ⟨by rfl, (by intro w; go_simp)⟩, fun _ => rfl⟩ ?_
              refine wpAnyIn_ready (rs := [0, 4]) (by kernel_rfl) (by simp) ?_
              refine AllReadyIn.cons rfl (fun K hK => ?_) ?_
              · go_simp
                refine hK _ _ ?_
                clear hK K
                refine wpAnyIn_ready (rs := [4]) (by kernel_rfl) (by simp) ?_
                refine AllReadyIn.cons rfl (fun K hK => ?_) ?_
                · go_simp
                  refine hK _ _ ?_
                  clear hK K
                  refine wpAnyIn_ready (rs := [7]) (by kernel_rfl) (by simp) ?_
                  refine AllReadyIn.cons rfl (fun K hK => ?_) ?_
                  · go_simp
                    refine hK _ _ ?_
                    clear hK K
                    refine wpAnyIn_take (i := 8) (v := .pointer (some ⟨g, 0, none⟩)) rfl rfl (by kernel_rfl) (by kernel_rfl) (by kernel_rfl) (fun _ _ _ h => h) ⟨Or.inl ⟨by rfl, (by intro w; go_simp)⟩, fun _ => rfl⟩ ?_
                    refine wpAnyIn_take (i := 9) (v := .pointer (some ⟨g, 2, none⟩)) rfl rfl (by kernel_rfl) (by kernel_rfl) (by kernel_rfl) (fun _ _ _ h => h) ⟨Or.inl ⟨by rfl, (by intro w; go_simp)⟩, fun _ => rfl⟩ ?_
                    refine wpAnyIn_ready (rs := [10]) (by kernel_rfl) (by simp) ?_
                    refine AllReadyIn.cons rfl (fun K hK => ?_) ?_
                    · go_simp
                      refine hK _ _ ?_
                      clear hK K
                      refine wpAnyIn_done (by kernel_rfl) ?_ _
                      gi_wp2
                      exact ⟨HK3.out, HKp3.out, HL.out⟩
                    exact AllReadyIn.nil
                  exact AllReadyIn.nil
                exact AllReadyIn.nil
              refine AllReadyIn.cons rfl (fun K hK => ?_) ?_
              · go_simp
                refine hK _ _ ?_
                clear hK K
                refine wpAnyIn_ready (rs := [0, 7]) (by kernel_rfl) (by simp) ?_
                refine AllReadyIn.cons rfl (fun K hK => ?_) ?_
                · go_simp
                  refine hK _ _ ?_
                  clear hK K
                  refine wpAnyIn_ready (rs := [7]) (by kernel_rfl) (by simp) ?_
                  refine AllReadyIn.cons rfl (fun K hK => ?_) ?_
                  · go_simp
                    refine hK _ _ ?_
                    clear hK K
                    refine wpAnyIn_take (i := 8) (v := .pointer (some ⟨g, 0, none⟩)) rfl rfl (by kernel_rfl) (by kernel_rfl) (by kernel_rfl) (fun _ _ _ h => h) ⟨Or.inl ⟨by rfl, (by intro w; go_simp)⟩, fun _ => rfl⟩ ?_
                    refine wpAnyIn_take (i := 9) (v := .pointer (some ⟨g, 2, none⟩)) rfl rfl (by kernel_rfl) (by kernel_rfl) (by kernel_rfl) (fun _ _ _ h => h) ⟨Or.inl ⟨by rfl, (by intro w; go_simp)⟩, fun _ => rfl⟩ ?_
                    refine wpAnyIn_ready (rs := [10]) (by kernel_rfl) (by simp) ?_
                    refine AllReadyIn.cons rfl (fun K hK => ?_) ?_
                    · go_simp
                      refine hK _ _ ?_
                      clear hK K
                      refine wpAnyIn_done (by kernel_rfl) ?_ _
                      gi_wp2
                      exact ⟨HK3.out, HKp3.out, HL.out⟩
                    exact AllReadyIn.nil
                  exact AllReadyIn.nil
                refine AllReadyIn.cons rfl (fun K hK => ?_) ?_
                · go_simp
                  refine hK _ _ ?_
                  clear hK K
                  refine wpAnyIn_ready (rs := [0]) (by kernel_rfl) (by simp) ?_
                  refine AllReadyIn.cons rfl (fun K hK => ?_) ?_
                  · go_simp
                    refine hK _ _ ?_
                    clear hK K
                    refine wpAnyIn_take (i := 8) (v := .pointer (some ⟨g, 0, none⟩)) rfl rfl (by kernel_rfl) (by kernel_rfl) (by kernel_rfl) (fun _ _ _ h => h) ⟨Or.inl ⟨by rfl, (by intro w; go_simp)⟩, fun _ => rfl⟩ ?_
                    refine wpAnyIn_take (i := 9) (v := .pointer (some ⟨g, 2, none⟩)) rfl rfl (by kernel_rfl) (by kernel_rfl) (by kernel_rfl) (fun _ _ _ h => h) ⟨Or.inl ⟨by rfl, (by intro w; go_simp)⟩, fun _ => rfl⟩ ?_
                    refine wpAnyIn_ready (rs := [10]) (by kernel_rfl) (by simp) ?_
                    refine AllReadyIn.cons rfl (fun K hK => ?_) ?_
                    · go_simp
                      refine hK _ _ ?_
                      clear hK K
                      refine wpAnyIn_done (by kernel_rfl) ?_ _
                      gi_wp2
                      exact ⟨HK3.out, HKp3.out, HL.out⟩
                    exact AllReadyIn.nil
                  exact AllReadyIn.nil
                exact AllReadyIn.nil
              exact AllReadyIn.nil
            exact AllReadyIn.nil
          exact AllReadyIn.nil
      case done =>
        rintro D ys W hD rfl ⟨hs1, ⟨ov2, hP, hns⟩, hB⟩ hK
        have hne : colI p.opn (op :: Pr.fols l op) ≠ [] := fun e => by
          have : op ∈ colI p.opn (op :: Pr.fols l op) := (mem_colI _).2 (.inr (by simp))
          rw [e] at this
          simp at this
        have hcl : (colI p.opn (op :: Pr.fols l op)).length ≤ 65536 := by
          have := colI_length (op :: Pr.fols l op) p.opn
          have := HFL.out
          simp only [List.length_cons] at *
          omega
        have HSD := Lib.hid (sort_openD (op := op) hon hor (by omega) (by omega))
        have hwz : base ≤ w.heap.size := HZ0.out
        have hDb := Nat.le_trans HZ.out.1 hD
        obtain ⟨oA2, oc2, rfl, _, _, _, hog2⟩ := hP.ho.shape
        obtain ⟨go, rfl, hgo⟩ := hog2 hne
        dsimp only at hP hns
        have hsg : w.heap.size ≠ go := fun e => hns (by rw [e]; rfl)
        have hsW : w.heap.size < W.heap.size := World.block_lt_of_cell? W _ hs1
        have hsg2 : w.heap.size ≠ g := by omega
        have HSO := Lib.hid (sort_own go oc2 base _ W hP.ho hcl)
        have wx : wrap64 (p.rework + 1) = p.rework + 1 := by unfold wrap64; omega
        have HR : Hid (Pr.defectR l p op most = (0, ⟨if most < p.rework + 1 then 4 else 2, p.done, Pr.openD l p op, p.rework + 1⟩)) := by show _ = _; unfold Pr.defectR; rw [if_neg h1, if_neg h4]
        have c2 := hP.c2
        have HP := Lib.hid hP
        have HB := Lib.hid hB
        generalize colI p.opn (op :: Pr.fols l op) = C at *
        clear hP hB hne hcl hns HS HI0 HC hog
        by_cases hm : most < p.rework + 1
        · rw [if_pos hm] at HR
          gi_wp2_with (refine ⟨trivial, ?_⟩; gi_at_call 53; refine (callsIn_wide.2 HSO.out).mono ?_; rintro e W5 ⟨rfl, ho5, hg5⟩; have hP5 := HP.out.sortOpn hg5 ho5; have hs5 := (World.cell?_of_block (a := ⟨w.heap.size, 0, none⟩) (hg5.block w.heap.size hsW (fun e => hsg (by injection e)))).trans hs1; rw [HSD.out] at hP5; have c3 := hP5.c3; have c0 := hP5.c0; have f3 := hP5.fz 3; have f0 := hP5.fz 0; have HK5 := Lib.hid (KeepsOthers.of_grownBy hg5 (fun j o hj hoj => oi_cells HP.out.ho j o hj hoj)); have HB5 := Lib.hid (below_own HB.out hg5 (by have := HB.out.size; omega) hgo); have HP5 := Lib.hid hP5; clear hP5 ho5 hg5; dsimp only at c3 c0)
          have HPf := (HP5.out.setRework (p.rework + 1)).state 2 |>.state 4
          have HKf := (HK5.out.trans (KeepsOthers.setCell _ ⟨g, 3, none⟩ (.int .i64 (p.rework + 1)))).trans (KeepsOthers.setCell _ ⟨g, 0, none⟩ (.int .i64 2)) |>.trans (KeepsOthers.setCell _ ⟨g, 0, none⟩ (.int .i64 4))
          have HBf := (HB5.out.setCell (p := ⟨g, 3, none⟩) hgb (.int .i64 (p.rework + 1))).setCell (p := ⟨g, 0, none⟩) hgb (.int .i64 2) |>.setCell (p := ⟨g, 0, none⟩) hgb (.int .i64 4)
          refine ⟨by simp, .inl ⟨_, _, rfl, run_takeDeferred (HKf.same D _ hK rfl), ?_⟩⟩
          exact ⟨.int .i64 0, (results_tmp rfl _ _ _).trans (by simp), ActPost.put HR.out HPf HBf hwz hDb (HKf.same D _ hK rfl)⟩
        · rw [if_neg hm] at HR
          gi_wp2_with (refine ⟨trivial, ?_⟩; gi_at_call 53; refine (callsIn_wide.2 HSO.out).mono ?_; rintro e W5 ⟨rfl, ho5, hg5⟩; have hP5 := HP.out.sortOpn hg5 ho5; have hs5 := (World.cell?_of_block (a := ⟨w.heap.size, 0, none⟩) (hg5.block w.heap.size hsW (fun e => hsg (by injection e)))).trans hs1; rw [HSD.out] at hP5; have c3 := hP5.c3; have c0 := hP5.c0; have f3 := hP5.fz 3; have f0 := hP5.fz 0; have HK5 := Lib.hid (KeepsOthers.of_grownBy hg5 (fun j o hj hoj => oi_cells HP.out.ho j o hj hoj)); have HB5 := Lib.hid (below_own HB.out hg5 (by have := HB.out.size; omega) hgo); have HP5 := Lib.hid hP5; clear hP5 ho5 hg5; dsimp only at c3 c0)
          have HPf := (HP5.out.setRework (p.rework + 1)).state 2
          have HKf := (HK5.out.trans (KeepsOthers.setCell _ ⟨g, 3, none⟩ (.int .i64 (p.rework + 1)))).trans (KeepsOthers.setCell _ ⟨g, 0, none⟩ (.int .i64 2))
          have HBf := (HB5.out.setCell (p := ⟨g, 3, none⟩) hgb (.int .i64 (p.rework + 1))).setCell (p := ⟨g, 0, none⟩) hgb (.int .i64 2)
          refine ⟨by simp, .inl ⟨_, _, rfl, run_takeDeferred (HKf.same D _ hK rfl), ?_⟩⟩
          exact ⟨.int .i64 0, (results_tmp rfl _ _ _).trans (by simp), ActPost.put HR.out HPf HBf hwz hDb (HKf.same D _ hK rfl)⟩
      case stop =>
        rintro D c pre W _ _ h _
        exact h.elim
end Go.Proofs.Ytcolekfjmhgldaa
