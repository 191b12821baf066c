/- The reference's locate. -/
import Derived.Test.YtnmmbcgbijinpaaE0
namespace Go.Proofs.Ytnmmbcgbijinpaa
open Go.RowKit
open Pl (Pt)

def rlocTup (i : Int) (p : Pt) : Value := .tuple #[.int .i64 i, .agg #[.int .i64 p.1, .int .i64 p.2]]

set_option maxRecDepth 100000 in
set_option maxHeartbeats 10000000 in
theorem rlocate_yes (A : Option Addr) (c : Nat) (l : List Pt) (s : Int) (w : World) (hl : Sl w w.heap.size A l) (hn : l.length ≤ 65536) (hi : Ins l) (hdu : Pl.dupB l = false) (h2 : 2 ≤ l.length) (hs : 0 ≤ s) (hs2 : s ≤ Pl.total l) :
    Calls Try.prog 38 #[.slice A l.length c, .int .i64 s] w fun e w' => e = .returned (rlocTup (locIdx (Pl.loc l s)) (locPt (Pl.loc l s))) ∧ Below w.heap.size w w' := by
  have HDU := Lib.hid hdu
  clear hdu
  generalize hR : Pl.loc l s = R
  have HR : Hid ((Pl.loc (l.drop 0) (s - 0)).map (fun x => (x.1 + 0, x.2)) = R) := by
    show _ = _
    rw [← hR]
    simp
  clear hR
  have hs3 : s - 0 ≤ Pl.total (l.drop 0) := by simpa using hs2
  clear hs2
  go_enter Try.func38, Try.ntmps38
  go_upto_block 0 with fail
  go_cut [6, 7] (fun i fr wx => ∃ (k : Nat) (F : Int), k + 2 ≤ l.length ∧ i = .int .i64 (k + 1) ∧ fr = .int .i64 F ∧ 0 ≤ F ∧ F ≤ 2965820801 * k ∧ F ≤ s ∧ (∀ h : k + 1 < l.length, s - F ≤ Pl.seg l[k] l[k + 1]) ∧ Below (w.heap.size + 1) (w.alloc (.cells #[.int .i64 0, .int .i64 0] 30)) wx ∧
    Hid ((Pl.loc (l.drop k) (s - F)).map (fun x => (x.1 + k, x.2)) = R))
  case first =>
    go_wp2
    go_loopw [6, 7] (fun i fr wr => ∃ (k : Nat) (F : Int), k + 2 ≤ l.length ∧ i = .int .i64 (k + 1) ∧ fr = .int .i64 F ∧ 0 ≤ F ∧ F ≤ 2965820801 * k ∧ F ≤ s ∧ s - F ≤ Pl.total (l.drop k) ∧ Below (w.heap.size + 1) (w.alloc (.cells #[.int .i64 0, .int .i64 0] 30)) wr ∧
      Hid ((Pl.loc (l.drop k) (s - F)).map (fun x => (x.1 + k, x.2)) = R)) (fun i _ _ => l.length - (intOf i).toNat)
    case atStart => exact ⟨0, 0, by omega, rfl, rfl, by omega, by omega, by omega, hs3, by simpa using Below.refl _ _, HR⟩
    case round =>
      obtain ⟨k, F, hk, rfl, rfl, hF0, hF1, hF2, hF3, hb', hd⟩ := hrel
      clear hs3 HR
      have hbw : Below w.heap.size w wr := ((Below.refl _ _).alloc (Nat.le_refl _) _).trans (hb'.mono (by simp))
      have hz := hb'.size
      simp at hz
      obtain ⟨b, off, rfl, hbB, hc1, hc2⟩ := (hl.below hbw).at_ k (by omega)
      obtain ⟨b', off', he, hbB', hc3, hc4⟩ := (hl.below hbw).at_ (k + 1) (by omega)
      injection he with he
      injection he with e1 e2
      subst e1 e2
      have HE := Lib.hid (loc_drop l k (s - F) (by omega))
      have HT := Lib.hid (total_drop l k (by omega))
      have hip := hi k (by omega)
      have hiq := hi (k + 1) (by omega)
      generalize hpe : l[k] = p at *
      generalize hqe : l[k + 1] = q at *
      have HP := Lib.hid hpe
      have HQ := Lib.hid hqe
      clear hpe hqe
      have hsb := seg_bound hip hiq
      have hsg := fun w => rsegment_any p q w hip hiq
      have HG := Lib.hid hsg
      clear hsg
      have i1 : (0 : Int) ≤ (k : Int) := by omega
      have i2 : (k : Int) < (l.length : Int) := by omega
      have i3 : IntKind.i64.wrap (k : Int) = (k : Int) := IntWalk.i64_in _ (by omega)
      have i4 : (0 : Int) ≤ (k : Int) + 1 := by omega
      have i5 : (k : Int) + 1 < (l.length : Int) := by omega
      have i6 : ((k : Int) + 1).toNat = k + 1 := by omega
      have i7 : IntKind.i64.wrap (F + Pl.seg p q) = F + Pl.seg p q := IntWalk.i64_in _ (by omega)
      have i8 : IntKind.i64.wrap ((k : Int) + 1 + 1) = (k : Int) + 1 + 1 := IntWalk.i64_in _ (by omega)
      by_cases hg : k + 2 < l.length ∧ F + Pl.seg p q < s
      · obtain ⟨hg1, hg2⟩ := hg
        have g1 : decide ((k : Int) + 1 + 1 < (l.length : Int)) = true := by simp; omega
        have g2 : decide (F + Pl.seg p q < s) = true := by simpa using hg2
        have HE2 : Hid ((Pl.loc (l.drop (k + 1)) (s - (F + Pl.seg p q))).map (fun x => (x.1 + (k + 1), x.2)) = R) := by
          show _ = _
          rw [← hd.out, HE.out, if_neg (by omega), Option.map_map, show s - (F + Pl.seg p q) = s - F - Pl.seg p q by omega]
          congr 1
          funext x
          simp; omega
        have hF4 : s - (F + Pl.seg p q) ≤ Pl.total (l.drop (k + 1)) := by have HT2 := HT.out; omega
        clear HE HT hd
        go_wp2
        go_region_held3 (fun w' => Below (w.heap.size + 1) (w.alloc (.cells #[.int .i64 0, .int .i64 0] 30)) w' ∧ w'.cell? ⟨b, off + k * 2, none⟩ = some (.int .i64 p.1) ∧ w'.cell? ⟨b, off + k * 2 + 1, none⟩ = some (.int .i64 p.2) ∧ w'.cell? ⟨b, off + (k + 1) * 2, none⟩ = some (.int .i64 q.1) ∧ w'.cell? ⟨b, off + (k + 1) * 2 + 1, none⟩ = some (.int .i64 q.2)) (first | exact ⟨below_drewN hb' 1, hc1, hc2, hc3, hc4⟩ | exact held3' hbB hbn (by assumption))
          (first | (go_at_call 47; refine (HG.out _).mono ?_; rintro e w' ⟨rfl, hbn⟩))
        clear hc1 hc2 hc3 hc4 hb' hbw
        go_wp2
        have hcc : _ ∧ _ := ‹Below _ _ _ ∧ _›
        obtain ⟨hb', hc1, hc2, hc3, hc4⟩ := hcc
        go_region_held3 (fun w' => Below (w.heap.size + 1) (w.alloc (.cells #[.int .i64 0, .int .i64 0] 30)) w' ∧ w'.cell? ⟨b, off + k * 2, none⟩ = some (.int .i64 p.1) ∧ w'.cell? ⟨b, off + k * 2 + 1, none⟩ = some (.int .i64 p.2) ∧ w'.cell? ⟨b, off + (k + 1) * 2, none⟩ = some (.int .i64 q.1) ∧ w'.cell? ⟨b, off + (k + 1) * 2 + 1, none⟩ = some (.int .i64 q.2)) (first | exact ⟨below_drewN hb' 1, hc1, hc2, hc3, hc4⟩ | exact held3' hbB hbn (by assumption))
          (first | (go_at_call 47; refine (HG.out _).mono ?_; rintro e w' ⟨rfl, hbn⟩))
        clear hc1 hc2 hc3 hc4 hb' i3 i6 i7 i8 g1 g2
        go_wp2
        go_roundw
        case rel => exact ⟨k + 1, F + Pl.seg p q, by omega, by go_num, rfl, by omega, by omega, by omega, hF4, And.left ‹_›, HE2⟩
        case measure => simp [intOf]; omega
      · have hT0 : ¬ k + 2 < l.length → Pl.total (l.drop (k + 1)) = 0 := fun h => total_end l (k + 1) (by omega)
        have hin : s - F ≤ Pl.seg p q := by
          have HT2 := HT.out
          by_cases h : k + 2 < l.length
          · omega
          · have := hT0 h; omega
        clear hT0 HE HT hg
        by_cases hg1 : k + 2 < l.length
        · have g1 : decide ((k : Int) + 1 + 1 < (l.length : Int)) = true := by simp; omega
          have g2 : decide (F + Pl.seg p q < s) = false := by simp; omega
          go_wp2
          go_region_held3 (fun w' => Below (w.heap.size + 1) (w.alloc (.cells #[.int .i64 0, .int .i64 0] 30)) w' ∧ w'.cell? ⟨b, off + k * 2, none⟩ = some (.int .i64 p.1) ∧ w'.cell? ⟨b, off + k * 2 + 1, none⟩ = some (.int .i64 p.2) ∧ w'.cell? ⟨b, off + (k + 1) * 2, none⟩ = some (.int .i64 q.1) ∧ w'.cell? ⟨b, off + (k + 1) * 2 + 1, none⟩ = some (.int .i64 q.2)) (first | exact ⟨below_drewN hb' 1, hc1, hc2, hc3, hc4⟩ | exact held3' hbB hbn (by assumption))
            (first | (go_at_call 47; refine (HG.out _).mono ?_; rintro e w' ⟨rfl, hbn⟩))
          clear hc1 hc2 hc3 hc4 hb' hbw g1 g2
          go_wp2
          go_meet
          case rel => exact ⟨k, F, by omega, rfl, rfl, by omega, by omega, by omega, fun _ => by rw [HP.out, HQ.out]; exact hin, And.left ‹_›, hd⟩
        · have g1 : decide ((k : Int) + 1 + 1 < (l.length : Int)) = false := by simp; omega
          go_wp2
          go_quiet (fail)
          go_wp2
          go_meet
          case rel => exact ⟨k, F, by omega, rfl, rfl, by omega, by omega, by omega, fun _ => by rw [HP.out, HQ.out]; exact hin, below_drewN hb' _, hd⟩
  case rest =>
    obtain ⟨k, F, hk, rfl, rfl, hF0, hF1, hF2, hF3, hB, hd⟩ := hcut
    have hin := hF3 (by omega)
    have HE2 : Hid (R = some (k, Pl.atSeg l[k] l[k + 1] (s - F) (Pl.seg l[k] l[k + 1]))) := by
      show _ = _
      rw [← hd.out, loc_drop l k (s - F) (by omega), if_pos (by omega)]
      simp
    have hbw : Below w.heap.size w wc := ((Below.refl _ _).alloc (Nat.le_refl _) _).trans (hB.mono (by simp))
    obtain ⟨b, off, rfl, hbB, hc1, hc2⟩ := (hl.below hbw).at_ k (by omega)
    obtain ⟨b', off', he, hbB', hc3, hc4⟩ := (hl.below hbw).at_ (k + 1) (by omega)
    injection he with he
    injection he with e1 e2
    subst e1 e2
    have hip := hi k (by omega)
    have hiq := hi (k + 1) (by omega)
    have hne := Pl.dup_at HDU.out k (by omega)
    clear hF3 hd hs3 HR hbw
    generalize l[k] = p at *
    generalize l[k + 1] = q at *
    have hsb := seg_bound hip hiq
    have hz' : w.heap.size + 1 ≤ wc.heap.size := by have := hB.size; simp at this; omega
    have j0 : b < wc.heap.size := by omega
    have j1 : b < wc.heap.size + 1 := by omega
    have j2 : b < wc.heap.size + 2 := by omega
    have j3 : b < wc.heap.size + 3 := by omega
    have i1 : (0 : Int) ≤ (k : Int) := by omega
    have i2 : (k : Int) < (l.length : Int) := by omega
    have i3 : IntKind.i64.wrap (k : Int) = (k : Int) := IntWalk.i64_in _ (by omega)
    have i4 : (0 : Int) ≤ (k : Int) + 1 := by omega
    have i5 : (k : Int) + 1 < (l.length : Int) := by omega
    have i6 : ((k : Int) + 1).toNat = k + 1 := by omega
    have HX := Lib.hid (fun w => rsegment_exact p q w hip hiq)
    go_upto_region 5 with fail
    go_cut [8, 9, 10] (fun x y n wx => ∃ b1 b2 : Nat, x = .pointer (some ⟨b1, 0, none⟩) ∧ y = .pointer (some ⟨b2, 0, none⟩) ∧ n = .int .i64 (Pl.seg p q) ∧ w.heap.size < b1 ∧ w.heap.size < b2 ∧ Below (w.heap.size + 1) (w.alloc (.cells #[.int .i64 0, .int .i64 0] 30)) wx ∧
      wx.cell? ⟨b1, 0, none⟩ = some (.int .i64 p.1) ∧ wx.cell? ⟨b1, 1, none⟩ = some (.int .i64 p.2) ∧ wx.cell? ⟨b2, 0, none⟩ = some (.int .i64 q.1) ∧ wx.cell? ⟨b2, 1, none⟩ = some (.int .i64 q.2))
    case first =>
      go_region_held3 (fun w' => Below (w.heap.size + 1) (w.alloc (.cells #[.int .i64 0, .int .i64 0] 30)) w' ∧ w'.cell? ⟨b, off + k * 2, none⟩ = some (.int .i64 p.1) ∧ w'.cell? ⟨b, off + k * 2 + 1, none⟩ = some (.int .i64 p.2) ∧ w'.cell? ⟨b, off + (k + 1) * 2, none⟩ = some (.int .i64 q.1) ∧ w'.cell? ⟨b, off + (k + 1) * 2 + 1, none⟩ = some (.int .i64 q.2))
        (first | exact ⟨below_drewN hB 1, hc1, hc2, hc3, hc4⟩ | (refine ⟨?_, ?_, ?_, ?_, ?_⟩; (repeat (first | refine below_drewN ?_ _ | refine bA ?_ (by simp) _ | refine Below.setCell ?_ (by dsimp only; omega) _ | exact hB)); all_goals (simp [go_sem, *])))
        (first | (go_at_call 47; refine (HX.out _).mono ?_; rintro e w2 ⟨rfl, n, rfl⟩))
      all_goals
        have hcc : _ ∧ _ := ‹Below _ _ _ ∧ _›
        go_wp2_with fail
        go_meet
        case rel =>
          refine ⟨_, _, rfl, rfl, rfl, by omega, by omega, hcc.1, ?_⟩
          clear hcc
          first
            | with_reducible exact shB wc _ _ _ _ _ (.inl ⟨rfl, rfl⟩) _ _ _ _
            | with_reducible exact shB wc _ _ _ _ _ (.inr ⟨rfl, rfl⟩) _ _ _ _
            | with_reducible exact ⟨(shA wc _ _ _ _ _ _ _).1.1, (shA wc _ _ _ _ _ _ _).1.2, (shA wc _ _ _ _ _ _ _).2⟩
            | with_reducible exact ⟨(shA wc _ _ _ _ _ _ _).2.1, (shA wc _ _ _ _ _ _ _).2.2, (shA wc _ _ _ _ _ _ _).1⟩
            | (refine ⟨?_, ?_, ?_, ?_⟩ <;> (simp [go_sem]; done))
    case rest =>
      obtain ⟨b1, b2, rfl, rfl, rfl, hb1, hb2, hB2, d1, d2, d3, d4⟩ := hcut
      have hbw2 : Below w.heap.size w wc := ((Below.refl _ _).alloc (Nat.le_refl _) _).trans (hB2.mono (by simp))
      have sp := seg_pos' hip hiq hne
      obtain ⟨p1, p2, p3, p4⟩ := hip
      obtain ⟨q1, q2, q3, q4⟩ := hiq
      have m1 := mul_bound (t := s - F) (d := q.1 - p.1) (by omega) hin (by omega) (by omega) (by omega)
      have m2 := mul_bound (t := s - F) (d := q.2 - p.2) (by omega) hin (by omega) (by omega) (by omega)
      obtain ⟨t1, t2, t3, t4⟩ := at_in (p := p) (q := q) (t := s - F) (n := Pl.seg p q) ⟨p1, p2, p3, p4⟩ ⟨q1, q2, q3, q4⟩ (by omega) hin (by omega)
      have Q1 := Lib.hid (fun W => rquotient_any ((s - F) * (q.1 - p.1)) (Pl.seg p q) W (by omega) (by omega) (by omega) (by omega))
      have Q2 := Lib.hid (fun W => rquotient_any ((s - F) * (q.2 - p.2)) (Pl.seg p q) W (by omega) (by omega) (by omega) (by omega))
      unfold Pl.atSeg at t1 t2 t3 t4
      simp only at t1 t2 t3 t4
      have x1 : IntKind.i64.wrap (s - F) = s - F := IntWalk.i64_in _ (by omega)
      have x2 : IntKind.i64.wrap (q.1 - p.1) = q.1 - p.1 := IntWalk.i64_in _ (by omega)
      have x3 : IntKind.i64.wrap ((s - F) * (q.1 - p.1)) = (s - F) * (q.1 - p.1) := IntWalk.i64_in _ (by omega)
      have x4 : IntKind.i64.wrap (p.1 + Pl.rnd ((s - F) * (q.1 - p.1)) (Pl.seg p q)) = p.1 + Pl.rnd ((s - F) * (q.1 - p.1)) (Pl.seg p q) := IntWalk.i64_in _ (by omega)
      have y2 : IntKind.i64.wrap (q.2 - p.2) = q.2 - p.2 := IntWalk.i64_in _ (by omega)
      have y3 : IntKind.i64.wrap ((s - F) * (q.2 - p.2)) = (s - F) * (q.2 - p.2) := IntWalk.i64_in _ (by omega)
      have y4 : IntKind.i64.wrap (p.2 + Pl.rnd ((s - F) * (q.2 - p.2)) (Pl.seg p q)) = p.2 + Pl.rnd ((s - F) * (q.2 - p.2)) (Pl.seg p q) := IntWalk.i64_in _ (by omega)
      have r0 : wc.cell? ⟨w.heap.size, 0, none⟩ = some (.int .i64 0) := (hB2.cell (p := ⟨w.heap.size, 0, none⟩) (by simp)).trans (by simp)
      have r1 : wc.cell? ⟨w.heap.size, 1, none⟩ = some (.int .i64 0) := (hB2.cell (p := ⟨w.heap.size, 1, none⟩) (by simp)).trans (by simp)
      have f0 : wc.frozen? ⟨w.heap.size, 0, none⟩ = false := (hB2.frozen (p := ⟨w.heap.size, 0, none⟩) (by simp)).trans (by simp)
      have f1 : wc.frozen? ⟨w.heap.size, 1, none⟩ = false := (hB2.frozen (p := ⟨w.heap.size, 1, none⟩) (by simp)).trans (by simp)
      clear p1 p2 p3 p4 q1 q2 q3 q4 m1 m2 t1 t2 t3 t4 hc1 hc2 hc3 hc4 HX hB hz' j0 j1 j2 j3 i1 i2 i4 i5 i6 hsb
      have n1 : b1 ≠ w.heap.size := by omega
      have n2 : b2 ≠ w.heap.size := by omega
      go_wp2
      go_region_held3 (fun w' => w'.cell? ⟨b1, 0, none⟩ = some (.int .i64 p.1) ∧ w'.cell? ⟨b1, 1, none⟩ = some (.int .i64 p.2) ∧ w'.cell? ⟨b2, 0, none⟩ = some (.int .i64 q.1) ∧ w'.cell? ⟨b2, 1, none⟩ = some (.int .i64 q.2))
        (first | exact ⟨d1, d2, d3, d4⟩ | (simp [go_sem, *]; done))
        (first | (go_at_call_of 51 (Value.int IntKind.i64 ((s - F) * (q.1 - p.1))); refine (Q1.out _).mono ?_; rintro e w' ⟨rfl, rfl⟩) | (go_at_call_of 51 (Value.int IntKind.i64 ((s - F) * (q.2 - p.2))); refine (Q2.out _).mono ?_; rintro e w' ⟨rfl, rfl⟩))
      all_goals
        go_wp2
        rw [HE2.out]
        refine bodyPost_ret (v := rlocTup k (Pl.atSeg p q (s - F) (Pl.seg p q))) (by simp [rlocTup, Pl.atSeg, results, Try.results38, go_sem, r0, r1]) rfl ⟨rfl, ?_⟩
        exact below_drewN ((hbw2.setCell (by simp) _).setCell (by simp) _) _
end Go.Proofs.Ytnmmbcgbijinpaa
