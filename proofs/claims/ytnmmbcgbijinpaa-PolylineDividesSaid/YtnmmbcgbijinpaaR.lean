/- The reference's Cut. -/
import Derived.Test.YtnmmbcgbijinpaaQ
import Derived.Test.YtnmmbcgbijinpaaO
namespace Go.Proofs.Ytnmmbcgbijinpaa
open Go.RowKit
open Pl (Pt)

set_option maxHeartbeats 1000000 in
theorem rcut_yes (A : Option Addr) (c : Nat) (l : List Pt) (s : Int) (w : World) (hl : Sl w w.heap.size A l) (hn : l.length ≤ 1000) (hcap : l.length ≤ c) (hcm : c ≤ maxLen) (h : Pl.check l = 0) (hs : 0 ≤ s) (hst : s ≤ Pl.total l) (i : Nat) (p : Pt) (hx : Pl.loc l s = some (i, p)) :
    Calls Try.prog 20 #[.slice A l.length c, .int .i64 s] w (Parts w (Pl.part (l.take (i + 1) ++ [p])) (Pl.part (p :: l.drop (i + 1))) 0) := by
  unfold maxLen at hcm
  have hi := loc_lt l s i p hx
  have HC := Lib.hid (fun W hW => rcheck_any A c l W hW (by omega))
  rw [h] at HC
  obtain ⟨h1, h2, h3, h4⟩ := check_zero h
  have HT := Lib.hid (fun W hW => rtotal_any A c l W hW (by omega) (ins_of h3) h1)
  have HLo := Lib.hid (fun W hW => rlocate_yes A c l s W hW (by omega) (ins_of h3) h4 h1 hs hst)
  rw [hx] at HLo
  unfold rlocTup at HLo
  simp only [locPt, locIdx] at HLo
  clear h3 h4 h hx
  generalize Pl.total l = T at *
  have HPa := Lib.hid (fun (W : World) (A' : Option Addr) (c' : Nat) (hW : Sl W W.heap.size A' (l.take (i + 1) ++ [p])) => rpart_any A' c' (l.take (i + 1) ++ [p]) W hW (by simp; omega))
  have HPb := Lib.hid (fun (W : World) (A' : Option Addr) (c' : Nat) (hW : Sl W W.heap.size A' ([p] ++ l.drop (i + 1))) => rpart_any A' c' ([p] ++ l.drop (i + 1)) W hW (by simp; omega))
  obtain ⟨b, off, rfl, hbB, _, _⟩ := hl.at_ 0 (by omega)
  go_enter Try.func20, Try.ntmps20
  go_wp2_with fail
  refine (HC.out _ hl).mono ?_
  rintro e w1 ⟨rfl, hb1⟩
  have hsl1 := (hl.below hb1).more hb1.size
  go_wp2_with fail
  refine (HT.out w1 hsl1).mono ?_
  rintro e w2 ⟨rfl, hb2⟩
  have hB2 := b_tr hb1 hb2
  have hsl2 := (hsl1.below hb2).more hb2.size
  clear hb1 hb2 HT HC hsl1
  go_wp2_with fail
  refine (HLo.out w2 hsl2).mono ?_
  rintro e w3 ⟨rfl, hb3⟩
  have hB3 := b_tr hB2 hb3
  clear hb3 hB2 hsl2 HLo
  have hlt : (l.take (i + 1)).length = i + 1 := by rw [List.length_take]; omega
  have HLT := Lib.hid hlt
  have hlt2 : (l.take (i + 1)).length ≤ 1000 := by omega
  have hdl : (l.drop (i + 1)).length = l.length - (i + 1) := List.length_drop
  have HDL := Lib.hid hdl
  have hdl2 : (l.drop (i + 1)).length ≤ 1000 := by omega
  clear hlt hdl
  have j7 : ¬ c = i + 1 := by omega
  have hbW := b_al hB3 (.cells #[.int .i64 p.1, .int .i64 p.2] 30)
  have hsz : w3.heap.size < (w3.alloc (.cells #[.int .i64 p.1, .int .i64 p.2] 30)).heap.size := by simp
  obtain ⟨d1, d2⟩ := new_cell w3 (.int .i64 p.1) (.int .i64 p.2)
  have hz3 := hB3.size
  go_upto_region 8 with fail
  generalize w3.alloc (.cells #[.int .i64 p.1, .int .i64 p.2] 30) = W1 at *
  generalize w3.heap.size = gB at *
  clear hB3
  have hzw := hbW.size
  have hslA : Sl W1 w.heap.size (some ⟨b, off, none⟩) (l.take (i + 1)) := (hl.below hbW).take (i + 1)
  go_upto_region 9 with (at_builtin; refine wpList_append_pts _ rfl _ _ rfl W1.heap.size (.slice none 0 0) [] rfl (Ow.nil _ _) _ _ (l.take (i + 1)) _ c rfl HLT.out.symm hslA (by simp; omega) (Nat.le_refl _) ?_; intro va wa howa hga hata)
  have hbA : Below W1.heap.size W1 wa := (Below.refl _ _).grown hga (Nat.le_refl _) (by simp [Value.ownBlock])
  have hzA := hbA.size
  have d1' : wa.cell? ⟨gB, 0, none⟩ = some (.int .i64 p.1) := (hbA.cell (p := ⟨gB, 0, none⟩) hsz).trans d1
  have d2' : wa.cell? ⟨gB, 1, none⟩ = some (.int .i64 p.2) := (hbA.cell (p := ⟨gB, 1, none⟩) hsz).trans d2
  clear hga hata hslA
  simp only [List.nil_append] at howa
  obtain ⟨Aa, ca, rfl, _, _⟩ := howa.shape
  have howa' := Ow.alloc howa (.cells #[.int .i64 p.1, .int .i64 p.2] 30)
  go_upto_region 10 with (at_builtin; refine wpList_append_pts _ rfl _ _ rfl W1.heap.size (.slice Aa (l.take (i + 1)).length ca) (l.take (i + 1)) rfl howa' _ _ [p] _ 1 rfl rfl (sl_one wa p) (by simp; omega) (by simp; omega) ?_; intro vb wb howb hgb hatb)
  have hbB' : Below W1.heap.size W1 wb := b_app (b_al hbA _) howa' hgb
  have hzB := hbB'.size
  have d3 : wb.cell? ⟨gB, 0, none⟩ = some (.int .i64 p.1) := (hbB'.cell (p := ⟨gB, 0, none⟩) hsz).trans d1
  have d4 : wb.cell? ⟨gB, 1, none⟩ = some (.int .i64 p.2) := (hbB'.cell (p := ⟨gB, 1, none⟩) hsz).trans d2
  clear hgb hatb howa howa' hbA hzA d1' d2'
  generalize hla : l.take (i + 1) ++ [p] = la at *
  obtain ⟨Ab, cb, rfl, _, _⟩ := howb.shape
  go_upto_region 11 with (at_builtin; refine wpList_append_pts _ rfl _ _ rfl wb.heap.size (.slice none 0 0) [] rfl (Ow.nil _ _) _ _ [p] _ 1 rfl rfl (sl_one wb p) (by simp) (by simp) ?_; intro vc wc howc hgc hatc)
  have hbC : Below wb.heap.size wb wc := b_tr (b_new wb _) ((Below.refl _ _).grown hgc (Nat.le_refl _) (by simp [Value.ownBlock]))
  clear hgc hatc d3 d4
  simp only [List.nil_append] at howc
  have hbW1 := hbB'.trans (hbC.mono hzB)
  have howb2 := howb.below hbC
  have hzC := hbC.size
  obtain ⟨Ac, cc, rfl, _, _⟩ := howc.shape
  have hslB : Sl wc w.heap.size (some ⟨b, off + (i + 1) * 2, none⟩) (l.drop (i + 1)) := Sl.drop (hl.below (hbW.trans (hbW1.mono hzw))) (i + 1)
  simp only [List.length_singleton] at howc
  go_upto_region 12 with (at_builtin; refine wpList_append_pts _ rfl _ _ rfl wb.heap.size (.slice Ac 1 cc) [p] rfl howc _ _ (l.drop (i + 1)) _ (c - (i + 1)) rfl HDL.out.symm hslB (by simp; omega) (by omega) ?_; intro vd wd howd hgd hatd)
  have hbD : Below wb.heap.size wb wd := hbC.trans (Turned.below howc hgd rfl _ (Nat.le_refl _) hzC)
  have howb3 := howb.below hbD
  have hBD : Below w.heap.size w wd := hbW.trans ((hbB'.trans (hbD.mono hzB)).mono hzw)
  clear hgd hatd howc howb2 hbC hbW1 hslB howb
  obtain ⟨Ad, cd, rfl, _, _⟩ := howd.shape
  generalize hlb : [p] ++ l.drop (i + 1) = lb at *
  go_wp2_with fail
  refine (HPa.out wd _ _ howb3.slOf).mono ?_
  rintro e w5 ⟨v5, rfl, how5, hb5⟩
  have howd5 := howd.below hb5
  have hB5 := b_tr hBD hb5
  go_wp2_with fail
  refine (HPb.out w5 _ _ howd5.slOf).mono ?_
  rintro e w6 ⟨v6, rfl, how6, hb6⟩
  have how56 := how5.below hb6
  have hB6 := b_tr hB5 hb6
  go_wp2
  go_ret3
  exact ⟨v5, v6, rfl, how56.base_le hBD.size, by
    have := how6.base_le (base' := w.heap.size) hB5.size
    rw [← hlb] at this
    exact this, hB6⟩

set_option maxHeartbeats 400000 in
theorem rcut_err (A : Option Addr) (c : Nat) (l : List Pt) (s : Int) (w : World) (hl : Sl w w.heap.size A l) (hn : l.length ≤ 1000) (h0 : (Pl.check l != 0) = true) :
    Calls Try.prog 20 #[.slice A l.length c, .int .i64 s] w (Parts w [] [] (Pl.check l)) := by
  have HC := Lib.hid (rcheck_any A c l w hl (by omega))
  generalize Pl.check l = ck at *
  go_enter Try.func20, Try.ntmps20
  go_wp2_with fail
  refine HC.out.mono ?_
  rintro e w1 ⟨rfl, hb1⟩
  go_wp2
  go_ret3
  exact ⟨_, _, rfl, Ow.nil _ _, Ow.nil _ _, hb1⟩
set_option maxHeartbeats 400000 in
theorem rcut_neg (A : Option Addr) (c : Nat) (l : List Pt) (s : Int) (w : World) (hl : Sl w w.heap.size A l) (hn : l.length ≤ 1000) (h : Pl.check l = 0) (hs : s < 0) :
    Calls Try.prog 20 #[.slice A l.length c, .int .i64 s] w (Parts w [] [] 3) := by
  have HC := Lib.hid (rcheck_any A c l w hl (by omega))
  rw [h] at HC
  clear h
  go_enter Try.func20, Try.ntmps20
  go_wp2_with fail
  refine HC.out.mono ?_
  rintro e w1 ⟨rfl, hb1⟩
  go_wp2
  go_ret3
  exact ⟨_, _, rfl, Ow.nil _ _, Ow.nil _ _, hb1⟩
set_option maxHeartbeats 400000 in
theorem rcut_far (A : Option Addr) (c : Nat) (l : List Pt) (s : Int) (w : World) (hl : Sl w w.heap.size A l) (hn : l.length ≤ 1000) (h : Pl.check l = 0) (hs : ¬ s < 0) (hst : Pl.total l < s) :
    Calls Try.prog 20 #[.slice A l.length c, .int .i64 s] w (Parts w [] [] 3) := by
  have HC := Lib.hid (rcheck_any A c l w hl (by omega))
  rw [h] at HC
  obtain ⟨h1, h2, h3, h4⟩ := check_zero h
  have HT := Lib.hid (fun W hW => rtotal_any A c l W hW (by omega) (ins_of h3) h1)
  clear h h3 h4
  generalize Pl.total l = T at *
  go_enter Try.func20, Try.ntmps20
  go_wp2_with fail
  refine HC.out.mono ?_
  rintro e w1 ⟨rfl, hb1⟩
  go_wp2_with fail
  refine (HT.out w1 ((hl.below hb1).more hb1.size)).mono ?_
  rintro e w2 ⟨rfl, hb2⟩
  go_wp2
  go_ret3
  exact ⟨_, _, rfl, Ow.nil _ _, Ow.nil _ _, b_tr hb1 hb2⟩

theorem rcut_any (A : Option Addr) (c : Nat) (l : List Pt) (s : Int) (w : World) (hl : Sl w w.heap.size A l) (hn : l.length ≤ 1000) (hcap : l.length ≤ c) (hcm : c ≤ maxLen) :
    Calls Try.prog 20 #[.slice A l.length c, .int .i64 s] w (Parts w (cutA l s) (cutB l s) (locE l s)) := by
  by_cases h : Pl.check l = 0
  · by_cases hs : s < 0
    · have hR : locR l s = none := by unfold locR; rw [if_pos h, if_pos hs]
      have hE : locE l s = 3 := by unfold locE; rw [if_pos h, hR]; rfl
      unfold cutA cutB
      rw [hE, hR]
      exact rcut_neg A c l s w hl hn h hs
    · by_cases hst : Pl.total l < s
      · have hR : locR l s = none := by unfold locR; rw [if_pos h, if_neg hs, loc_none l s hst]
        have hE : locE l s = 3 := by unfold locE; rw [if_pos h, hR]; rfl
        unfold cutA cutB
        rw [hE, hR]
        exact rcut_far A c l s w hl hn h hs hst
      · obtain ⟨⟨i, p⟩, hx⟩ := loc_some l s (check_zero h).1 (by omega)
        have hR : locR l s = some (i, p) := by unfold locR; rw [if_pos h, if_neg hs, hx]
        have hE : locE l s = 0 := by unfold locE; rw [if_pos h, hR]; rfl
        unfold cutA cutB
        rw [hE, hR]
        exact rcut_yes A c l s w hl hn hcap hcm h (by omega) (by omega) i p hx
  · have hR : locR l s = none := by unfold locR; rw [if_neg h]
    have hE : locE l s = Pl.check l := by unfold locE; rw [if_neg h]
    unfold cutA cutB
    rw [hE, hR]
    exact rcut_err A c l s w hl hn (by simpa using h)
end Go.Proofs.Ytnmmbcgbijinpaa
