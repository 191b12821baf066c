/- The reference: a progress that grows by append; New, ended. -/
import Derived.Test.YtcolekfjmhgldaaRc
import Derived.Test.YtcolekfjmhgldaaZ
namespace Go.Proofs.Ytcolekfjmhgldaa
open Go.RowKit
open Pr (Opn Prg Res)

/-- an empty progress of the call's own -/
theorem pmE (w : World) (st rk : Int) : Pm (w.alloc (.cells #[.int .i64 st, .slice none 0 0, .slice none 0 0, .int .i64 rk] 29)) w.heap.size w.heap.size (.slice none 0 0) (.slice none 0 0) ⟨st, [], [], rk⟩ where
  c0 := by simp
  c1 := by simp
  c2 := by simp
  c3 := by simp
  fz := fun j => World.frozen?_alloc_new w _ _ j
  gb := Nat.le_refl _
  gl := by simp
  hd := World.ownsRow_nil _ _ _ _
  ho := World.ownsRow_nil _ _ _ _
  nd := by simp [Value.ownBlock]
  no := by simp [Value.ownBlock]
  ne := by intro k hk; simp [Value.ownBlock] at hk
/-- what an append to the completions leaves of the block -/
theorem Pm.atDone {w w5 : World} {base g : Nat} {dv ov : Value} {p : Prg} (h : Pm w base g dv ov p) (hg5 : w.grownBy w5 dv.ownBlock) : (∀ j, w5.cell? ⟨g, j, none⟩ = w.cell? ⟨g, j, none⟩) ∧ ∀ j, w5.frozen? ⟨g, j, none⟩ = false := by
  have hb : w5.heap[g]? = w.heap[g]? := hg5.block g h.gl (fun e => h.nd e.symm)
  exact ⟨fun j => World.cell?_of_block hb, fun j => (World.frozen?_of_block hb).trans (h.fz j)⟩
theorem Pm.atOpn {w w5 : World} {base g : Nat} {dv ov : Value} {p : Prg} (h : Pm w base g dv ov p) (hg5 : w.grownBy w5 ov.ownBlock) : (∀ j, w5.cell? ⟨g, j, none⟩ = w.cell? ⟨g, j, none⟩) ∧ ∀ j, w5.frozen? ⟨g, j, none⟩ = false := by
  have hb : w5.heap[g]? = w.heap[g]? := hg5.block g h.gl (fun e => h.no e.symm)
  exact ⟨fun j => World.cell?_of_block hb, fun j => (World.frozen?_of_block hb).trans (h.fz j)⟩
theorem Pm.appDone {w w5 : World} {base g : Nat} {dv ov v5 : Value} {p : Prg} {d : List Int} (h : Pm w base g dv ov p) (hg5 : w.grownBy w5 dv.ownBlock) (how : Oi w5 base v5 d) (hat : v5.ownBlock = dv.ownBlock ∨ v5.ownBlock = some w.heap.size) :
    Pm (w5.setCell ⟨g, 1, none⟩ v5) base g v5 ov { p with done := d } := by
  obtain ⟨hk, hf⟩ := h.atDone hg5
  have nd : v5.ownBlock ≠ some g := fun e => by
    rcases hat with h1 | h1
    · exact h.nd (h1 ▸ e)
    · rw [h1] at e; injection e with e; have := h.gl; omega
  have hne : ∀ k, v5.ownBlock = some k → ov.ownBlock ≠ some k := fun k e e2 => by
    rcases hat with h1 | h1
    · exact h.ne k (h1 ▸ e) e2
    · rw [h1] at e; injection e with e; have := (World.ownsRow.lt h.ho k e2).2; omega
  have ho5 : Oi w5 base ov p.opn := by
    refine World.ownsRow.kept h.ho hg5 ?_
    cases ho : ov.ownBlock with
    | none => exact .inl rfl
    | some k => exact .inr (fun e => h.ne k e.symm ho)
  have hgs := grown_set w5 g 1 v5
  refine ⟨?_, World.cell?_setCell_same _ _ _ ((hk _).trans h.c1), ?_, ?_, fun j => by rw [World.frozen?_setCell]; exact hf j, h.gb, ?_, World.ownsRow.kept how hgs (.inr nd), World.ownsRow.kept ho5 hgs (.inr h.no), nd, h.no, hne⟩
  · exact (World.cell?_setCell_other _ _ _ _ (by simp)).trans ((hk _).trans h.c0)
  · exact (World.cell?_setCell_other _ _ _ _ (by simp)).trans ((hk _).trans h.c2)
  · exact (World.cell?_setCell_other _ _ _ _ (by simp)).trans ((hk _).trans h.c3)
  · have := hg5.size; have := hgs.size; have := h.gl; omega
theorem Pm.appOpn {w w5 : World} {base g : Nat} {dv ov v5 : Value} {p : Prg} {d : List Int} (h : Pm w base g dv ov p) (hg5 : w.grownBy w5 ov.ownBlock) (how : Oi w5 base v5 d) (hat : v5.ownBlock = ov.ownBlock ∨ v5.ownBlock = some w.heap.size) :
    Pm (w5.setCell ⟨g, 2, none⟩ v5) base g dv v5 { p with opn := d } := by
  obtain ⟨hk, hf⟩ := h.atOpn hg5
  have no : v5.ownBlock ≠ some g := fun e => by
    rcases hat with h1 | h1
    · exact h.no (h1 ▸ e)
    · rw [h1] at e; injection e with e; have := h.gl; omega
  have hne : ∀ k, dv.ownBlock = some k → v5.ownBlock ≠ some k := fun k e2 e => by
    rcases hat with h1 | h1
    · exact h.ne k e2 (h1 ▸ e)
    · rw [h1] at e; injection e with e; have := (World.ownsRow.lt h.hd k e2).2; omega
  have hd5 : Oi w5 base dv p.done := by
    refine World.ownsRow.kept h.hd hg5 ?_
    cases hd : dv.ownBlock with
    | none => exact .inl rfl
    | some k => exact .inr (fun e => h.ne k hd e.symm)
  have hgs := grown_set w5 g 2 v5
  refine ⟨?_, ?_, World.cell?_setCell_same _ _ _ ((hk _).trans h.c2), ?_, fun j => by rw [World.frozen?_setCell]; exact hf j, h.gb, ?_, World.ownsRow.kept hd5 hgs (.inr h.nd), World.ownsRow.kept how hgs (.inr no), h.nd, no, hne⟩
  · exact (World.cell?_setCell_other _ _ _ _ (by simp)).trans ((hk _).trans h.c0)
  · exact (World.cell?_setCell_other _ _ _ _ (by simp)).trans ((hk _).trans h.c1)
  · exact (World.cell?_setCell_other _ _ _ _ (by simp)).trans ((hk _).trans h.c3)
  · have := hg5.size; have := hgs.size; have := h.gl; omega
/-- an append to a row of the call's own, and a store into the call's own block, keep what is older -/
theorem b_apps {w0 w w5 : World} {base g j : Nat} {v v5 : Value} {l : List Int} (hb : Below base w0 w) (hbw : base ≤ w.heap.size) (hv : Oi w base v l) (hg5 : w.grownBy w5 v.ownBlock) (hgb : base ≤ g) : Below base w0 (w5.setCell ⟨g, j, none⟩ v5) :=
  (hb.trans ((Below.refl _ _).grown hg5 hbw (fun k hk => (World.ownsRow.lt hv k hk).1))).setCell hgb v5

theorem pmN (w : World) (m : Nat) (hm : m ≤ 65536) : Pm ((w.alloc (zer m)).alloc (.cells #[.int .i64 1, .slice (some ⟨w.heap.size, 0, none⟩) m m, .slice none 0 0, .int .i64 0] 29)) w.heap.size (w.heap.size + 1) (.slice (some ⟨w.heap.size, 0, none⟩) m m) (.slice none 0 0) ⟨1, List.replicate m 0, [], 0⟩ :=
  ⟨by simp [go_sem], by simp [go_sem], by simp [go_sem], by simp [go_sem], fun j => by simp [go_sem], by omega, by simp, (oi_zer w m _ (Nat.le_refl _) hm).alloc _, World.ownsRow_nil _ _ _ _, by simp [Value.ownBlock], by simp [Value.ownBlock], by intro k _; simp [Value.ownBlock]⟩

set_option maxRecDepth 100000 in
set_option maxHeartbeats 2000000 in
theorem rnew_any (A : Option Addr) (c : Nat) (l : List Opn) (w : World) (hl : So w w.heap.size A l) (hk : Oks l) (hcap : Cap w A l.length) :
    Calls Try.prog 17 #[.slice A l.length c] w (PrPost w (newR l)) := by
  have hlen := hk.len
  have hb0 := b_new w (.cells #[.int .i64 0, .slice none 0 0, .slice none 0 0, .int .i64 0] 29)
  have HO0 := Lib.hid (rorder_any A c l _ (hl.to hb0) hk (hcap.to hl hb0))
  by_cases h0 : Pr.ordE l = 0
  · have HR : Hid (newR l = (0, ⟨1, List.replicate l.length 0, Pr.ids l.length, 0⟩)) := by show _ = _; unfold newR; rw [if_pos h0]; rfl
    have hm : l.length ≤ 65536 := by omega
    have hmk := fun W => make_zer l.length hm W
    go_enter Try.func17, Try.ntmps17
    go_wp2_with fail
    refine HO0.out.mono ?_
    rintro e w1 ⟨v, rfl, hv, hb⟩
    rw [h0]
    clear h0 HO0 hcap
    have hz := (Z4.new w).below hb
    have hb1 := b_tr hb0 hb
    have hP0 := pmN w1 l.length hm
    have hB0 := b_al (b_new w1 (zer l.length)) (.cells #[.int .i64 1, .slice (some ⟨w1.heap.size, 0, none⟩) l.length l.length, .slice none 0 0, .int .i64 0] 29)
    have hid : Pr.ids 0 = [] := rfl
    rw [← hid] at hP0
    clear hb hid hv
    go_wp2
    generalize (w1.alloc (zer l.length)).alloc (.cells #[.int .i64 1, .slice (some ⟨w1.heap.size, 0, none⟩) l.length l.length, .slice none 0 0, .int .i64 0] 29) = W2 at *
    clear hmk
    go_loopw [7] (fun s7 wr => ∃ (k : Nat) (ov : Value), k ≤ l.length ∧ s7 = .int .i64 k ∧ Pm wr w1.heap.size (w1.heap.size + 1) (.slice (some ⟨w1.heap.size, 0, none⟩) l.length l.length) ov ⟨1, List.replicate l.length 0, Pr.ids k, 0⟩ ∧ Below w1.heap.size w1 wr) (fun s7 _ => l.length - (intOf s7).toNat)
    case atStart => exact ⟨0, _, Nat.zero_le _, rfl, hP0, hB0⟩
    case round =>
      clear hP0 hB0
      obtain ⟨k, ov, hk1, rfl, hP, hB⟩ := hrel
      by_cases hlt : k < l.length
      · obtain ⟨oA, oc, hov, _, _, _, _⟩ := hP.ho.shape
        have hov2 : ov = .slice oA k oc := by rw [hov]; show Value.slice oA (Pr.ids k).length oc = _; rw [ids_length]
        clear hov
        subst hov2
        have hP1 := hP.below (b_new wr (.cells #[.int .i64 (k : Int)] 3))
        have hB1 := b_al hB (.cells #[.int .i64 (k : Int)] 3)
        have c2 := hP.c2
        have HAT := Lib.hid (fun w5 hg5 => (hP1.atOpn (w5 := w5) hg5))
        have HC2 := Lib.hid hP1.c2
        have HAP := Lib.hid (fun w5 v5 hg5 how hat => hP1.appOpn (w5 := w5) (v5 := v5) (d := Pr.ids k ++ [(k : Int)]) hg5 how hat)
        have HBA := Lib.hid (fun w5 v5 hg5 => b_apps (j := 2) (v5 := v5) (w5 := w5) hB1 hB1.size hP1.ho hg5 hP1.gb)
        have HID : Hid (Pr.ids (k + 1) = Pr.ids k ++ [(k : Int)]) := ids_succ k
        have HOW := Lib.hid hP1.ho
        have hil := Lib.hid (ids_length k)
        clear hP hP1
        dsimp only at HOW c2 HC2 HAT HAP HBA
        go_wp2_with (at_builtin; refine wpList_append_ints _ rfl _ _ rfl w1.heap.size _ _ rfl HOW.out _ _ [(k : Int)] _ _ rfl rfl (one_cell _ _) (by rw [List.length_singleton, hil.out]; omega) hB1.size ?_; intro v5 w5 how5 hg5 hat5; obtain ⟨f1, f2⟩ := HAT.out _ hg5; have f3 := (f1 2).trans HC2.out; clear f1; obtain ⟨A5, c5, hv5, _, _, _, _⟩ := how5.shape; rw [List.length_append, hil.out, List.length_singleton] at hv5; subst hv5)
        go_roundw
        case rel => exact ⟨k + 1, _, by omega, by go_num, by rw [HID.out]; exact HAP.out _ _ hg5 how5 hat5, HBA.out _ _ hg5⟩
        case measure => simp [intOf]; omega
      · obtain rfl : k = l.length := by omega
        obtain ⟨s0, s1, s2, s3, sf, sl⟩ := hz.below hB
        have hrw : w.heap.size < w1.heap.size := hz.gl
        have c0 := hP.c0
        have c1 := hP.c1
        have c2 := hP.c2
        have c3 := hP.c3
        obtain ⟨oA, oc, hov, _, _, _, _⟩ := hP.ho.shape
        have hov2 : ov = .slice oA l.length oc := by rw [hov]; show Value.slice oA (Pr.ids l.length).length oc = _; rw [ids_length]
        clear hov
        subst hov2
        have HD := Lib.hid hP.hd
        have HE := Lib.hid hP.ho
        have hBz := b_tr hb1 hB
        dsimp only at c0 c3 HD HE c2
        clear hP hlt hk1
        go_wp2
        refine bodyPost_ret (v := .tuple #[.agg #[.int .i64 1, .slice (some ⟨w1.heap.size, 0, none⟩) l.length l.length, .slice oA l.length oc, .int .i64 0], .int .i64 0]) (by simp [results, Try.results17, go_sem, s0, s1, s2, s3]) rfl ?_
        exact PrPost.good HR.out ((((HD.out.setOther hrw _ _).setOther hrw _ _).setOther hrw _ _).setOther hrw _ _) ((((HE.out.setOther hrw _ _).setOther hrw _ _).setOther hrw _ _).setOther hrw _ _) (b_set (b_set (b_set (b_set hBz (Nat.le_refl _) _ _) (Nat.le_refl _) _ _) (Nat.le_refl _) _ _) (Nat.le_refl _) _ _)
  · have HR : Hid (newR l = (Pr.ordE l, Pr.zeroP)) := by show _ = _; unfold newR; rw [if_neg h0]
    have hne : (Pr.ordE l == 0) = false := by simpa using h0
    go_enter Try.func17, Try.ntmps17
    go_wp2_with fail
    refine HO0.out.mono ?_
    rintro e w1 ⟨v, rfl, hv, hb⟩
    have hb1 := b_tr hb0 hb
    obtain ⟨r0, r1, r2, r3, rf, rl⟩ := (Z4.new w).below hb
    generalize Pr.ordE l = E at *
    clear HO0 hb hcap
    go_wp2
    refine bodyPost_ret (v := .tuple #[.agg #[.int .i64 0, .slice none 0 0, .slice none 0 0, .int .i64 0], .int .i64 E]) (by simp [results, Try.results17, go_sem, r0, r1, r2, r3]) rfl ?_
    exact PrPost.bad HR.out (b_set (b_set (b_set (b_set hb1 (Nat.le_refl _) _ _) (Nat.le_refl _) _ _) (Nat.le_refl _) _ _) (Nat.le_refl _) _ _)
end Go.Proofs.Ytcolekfjmhgldaa
