/- Cut. -/
import Derived.Test.YtnmmbcgbijinpaaG
import Derived.Test.YtnmmbcgbijinpaaE0
namespace Go.Proofs.Ytnmmbcgbijinpaa
open Go.RowKit
open Pl (Pt)

theorem step_append_pts {ops : Array Oper} {o : Oper} {a : Act} {K : Act → World → Prop} {Q : Exit → Act → World → Prop} {E : Prop} (w : World) (hgd : o.guard = none) (s x : Operand)
    (ho : o.op = .call { callee := .builtin .append, args := #[s, x], argTypes := #[22, 22] })
    (base : Nat) (v : Value) (l1 : List Pt) (hv : a.eval s = v) (hown : Ow w base v l1) (B : Nat) (A : Option Addr) (l2 : List Pt) (n c : Nat) (hx : a.eval x = .slice A n c) (hn : n = l2.length) (hs : Sl w B A l2)
    (hlen : l1.length + l2.length ≤ 65536) (hbase : base ≤ w.heap.size)
    (h : ∀ v' w', Ow w' base v' (l1 ++ l2) → w.grownBy w' v.ownBlock → (v'.ownBlock = v.ownBlock ∨ v'.ownBlock = some w.heap.size) → K (a.put o.dst v') w') :
    if Region.wanted o (yielded ops a.tmps) = true then Oper.wp Try.prog o a w K Q else E := by
  have hw : Region.wanted o (yielded ops a.tmps) = true := by simp [Region.wanted, hgd]
  rw [if_pos hw]
  exact wp_append_pts w s x ho base v l1 hv hown B A l2 n c hx hn hs hlen hbase h

theorem Ow.base_le {w : World} {base base' : Nat} {v : Value} {l : List Pt} (h : Ow w base v l) (hb : base' ≤ base) : Ow w base' v l := by
  refine ⟨h.1, ?_⟩
  rcases h.2 with h1 | ⟨g, cap, cur, h1, h2, h3⟩
  · exact .inl h1
  · exact .inr ⟨g, cap, cur, h1, by omega, h3⟩
theorem Sl.take {w : World} {B : Nat} {A : Option Addr} {l : List Pt} (h : Sl w B A l) (k : Nat) : Sl w B A (l.take k) := by
  rcases h with rfl | ⟨b, off, h1, h2, h3⟩
  · exact .inl (by simp)
  · refine .inr ⟨b, off, h1, h2, fun i x y hi => h3 i x y ?_⟩
    rw [List.getElem?_take] at hi
    split at hi
    · exact hi
    · cases hi
theorem Sl.drop {w : World} {B b off : Nat} {l : List Pt} (h : Sl w B (some ⟨b, off, none⟩) l) (k : Nat) : Sl w B (some ⟨b, off + k * 2, none⟩) (l.drop k) := by
  rcases h with rfl | ⟨b', off', h1, h2, h3⟩
  · exact .inl (by simp)
  · injection h1 with h1
    injection h1 with e1 e2
    subst e1 e2
    refine .inr ⟨b, off + k * 2, rfl, h2, fun i x y hi => ?_⟩
    rw [List.getElem?_drop] at hi
    have := h3 (k + i) x y hi
    rw [show off + k * 2 + i * 2 = off + (k + i) * 2 by omega]
    exact this

section
variable {W1 W w' : World} {g : Nat} {p : Pt}
theorem kA (hg : g < W1.heap.size) (h : W.cell? ⟨g, 0, none⟩ = some (.int .i64 p.1) ∧ W.cell? ⟨g, 1, none⟩ = some (.int .i64 p.2) ∧ Below W1.heap.size W1 W) (o : Obj) :
    (W.alloc o).cell? ⟨g, 0, none⟩ = some (.int .i64 p.1) ∧ (W.alloc o).cell? ⟨g, 1, none⟩ = some (.int .i64 p.2) ∧ Below W1.heap.size W1 (W.alloc o) := by
  have := h.2.2.size
  exact ⟨(World.cell?_alloc_past _ _ _ (by omega)).trans h.1, (World.cell?_alloc_past _ _ _ (by omega)).trans h.2.1, h.2.2.alloc (by omega) _⟩
theorem kC (hg : g < W1.heap.size) (hb : Below W.heap.size W w') (h : W.cell? ⟨g, 0, none⟩ = some (.int .i64 p.1) ∧ W.cell? ⟨g, 1, none⟩ = some (.int .i64 p.2) ∧ Below W1.heap.size W1 W) :
    w'.cell? ⟨g, 0, none⟩ = some (.int .i64 p.1) ∧ w'.cell? ⟨g, 1, none⟩ = some (.int .i64 p.2) ∧ Below W1.heap.size W1 w' := by
  have := h.2.2.size
  exact ⟨(hb.cell (p := ⟨g, 0, none⟩) (show g < W.heap.size by omega)).trans h.1, (hb.cell (p := ⟨g, 1, none⟩) (show g < W.heap.size by omega)).trans h.2.1, h.2.2.trans (hb.mono (by omega))⟩
theorem kP (hg : g < W1.heap.size) {v : Value} {m : List Pt} (how : Ow W W1.heap.size v m) (hgr : W.grownBy w' v.ownBlock) (h : W.cell? ⟨g, 0, none⟩ = some (.int .i64 p.1) ∧ W.cell? ⟨g, 1, none⟩ = some (.int .i64 p.2) ∧ Below W1.heap.size W1 W) :
    w'.cell? ⟨g, 0, none⟩ = some (.int .i64 p.1) ∧ w'.cell? ⟨g, 1, none⟩ = some (.int .i64 p.2) ∧ Below W1.heap.size W1 w' := by
  have hb : Below W1.heap.size W w' := Turned.below how hgr rfl _ (Nat.le_refl _) h.2.2.size
  exact ⟨(hb.cell (p := ⟨g, 0, none⟩) hg).trans h.1, (hb.cell (p := ⟨g, 1, none⟩) hg).trans h.2.1, h.2.2.trans hb⟩
end

theorem sl_one_b (W1 : World) (p : Pt) {w2 : World} (hb : Below (W1.alloc (.cells #[.int .i64 p.1, .int .i64 p.2] 30)).drew.heap.size (W1.alloc (.cells #[.int .i64 p.1, .int .i64 p.2] 30)).drew w2) : Sl w2 (W1.heap.size + 1) (some ⟨W1.heap.size, 0, none⟩) [p] :=
  Sl.below (w := (W1.alloc (.cells #[.int .i64 p.1, .int .i64 p.2] 30)).drew) (sl_one W1 p) (hb.mono (Nat.le_of_eq (size_alloc' W1 _).symm))

theorem ow_lit (W : World) (p : Pt) : Ow (W.alloc (.cells #[.int .i64 p.1, .int .i64 p.2] 30)) W.heap.size (.slice (some ⟨W.heap.size, 0, none⟩) 1 1) [p] :=
  World.ownsRow_lit W #[.int .i64 p.1, .int .i64 p.2] 1 (Nat.le_refl _) (by unfold maxLen; omega) rfl

/-- two new lists and an error -/
def Parts (w : World) (a b : List Pt) (er : Int) (e : Ending) (w' : World) : Prop :=
  ∃ v u, e = .returned (.tuple #[v, u, .int .i64 er]) ∧ Ow w' w.heap.size v a ∧ Ow w' w.heap.size u b ∧ Below w.heap.size w w'

set_option maxHeartbeats 1000000 in
theorem cut_yes (A : Option Addr) (c : Nat) (l : List Pt) (s : Int) (i : Nat) (p : Pt) (w : World) (hl : Sl w w.heap.size A l) (hn : l.length ≤ 1000) (hcap : l.length ≤ c) (hcm : c ≤ maxLen) (hs2 : s ≤ 9223372036854775807) (hR : locR l s = some (i, p)) (hE : locE l s = 0) (hi : i + 1 < l.length) :
    Calls Try.prog 19 #[.slice A l.length c, .int .i64 s] w (Parts w (Pl.part (l.take (i + 1) ++ [p])) (Pl.part (p :: l.drop (i + 1))) 0) := by
  unfold maxLen at hcm
  have hL := locate_any A c l s w hl (by omega) hs2
  rw [hE, hR] at hL
  unfold locTup at hL
  simp only [locIdx, locPt] at hL
  have HL := Lib.hid hL
  clear hL hE hR
  go_enter Try.func19, Try.ntmps19
  go_wp2_with fail
  refine HL.out.mono ?_
  rintro e w1 ⟨rfl, hb1⟩
  clear HL
  obtain ⟨b, off, rfl, hbB, _, _⟩ := hl.at_ 0 (by omega)
  have hsl1 : Sl (w1.alloc (.cells #[.int .i64 p.1, .int .i64 p.2] 30)) w.heap.size (some ⟨b, off, none⟩) l := hl.below (hb1.alloc hb1.size _)
  have hbW : Below w.heap.size w (w1.alloc (.cells #[.int .i64 p.1, .int .i64 p.2] 30)) := hb1.alloc hb1.size _
  have hsz : w1.heap.size < (w1.alloc (.cells #[.int .i64 p.1, .int .i64 p.2] 30)).heap.size := by simp
  obtain ⟨d1, d2⟩ := new_cell w1 (.int .i64 p.1) (.int .i64 p.2)
  have hz1 := hb1.size
  go_wp2
  generalize w1.alloc (.cells #[.int .i64 p.1, .int .i64 p.2] 30) = W1 at *
  generalize w1.heap.size = gB at *
  clear hb1
  have hzw : w.heap.size ≤ W1.heap.size := by omega
  have HCl : Hid (∀ W : World, (W.cell? ⟨gB, 0, none⟩ = some (.int .i64 p.1) ∧ W.cell? ⟨gB, 1, none⟩ = some (.int .i64 p.2) ∧ Below W1.heap.size W1 W) → Calls Try.prog 39 #[.slice (some ⟨b, off, none⟩) (i + 1) c] W (Fresh W (l.take (i + 1)))) := fun W hW => by
    have hm : (l.take (i + 1)).length = i + 1 := by rw [List.length_take]; omega
    have := clone_any (some ⟨b, off, none⟩) c (l.take (i + 1)) W (((hsl1.below (hW.2.2.mono hzw)).more (by have := hW.2.2.size; omega)).take (i + 1)) (by omega)
    rw [hm] at this
    exact this
  have j1 : IntKind.i64.wrap ((i : Int) + 1) = (i : Int) + 1 := IntWalk.i64_in _ (by omega)
  have j2 : (0 : Int) ≤ (i : Int) + 1 := by omega
  have j3 : (i : Int) + 1 ≤ (c : Int) := by omega
  have j4 : ((i : Int) + 1).toNat = i + 1 := by omega
  have j5 : (i : Int) + 1 ≤ (l.length : Int) := by omega
  have hm1 : (l.take (i + 1)).length ≤ 1000 := by rw [List.length_take]; omega
  go_upto_region 4 with fail
  go_cut [4] (fun x wx => Ow wx W1.heap.size x (l.take (i + 1) ++ [p]) ∧ Below W1.heap.size W1 wx)
  case first =>
    go_region_held3 (fun w' => w'.cell? ⟨gB, 0, none⟩ = some (.int .i64 p.1) ∧ w'.cell? ⟨gB, 1, none⟩ = some (.int .i64 p.2) ∧ Below W1.heap.size W1 w')
      (first | exact ⟨d1, d2, below_drewN (Below.refl _ _) 1⟩ | exact kC hsz hb2 (by assumption) | exact kA hsz (by assumption) _ | exact kP hsz (Ow.alloc how2 _) hg3 (by assumption) | exact kP hsz how2 hg3 (by assumption))
      (first | (go_at_call 39; refine (HCl.out _ (by assumption)).mono ?_; rintro e w2 ⟨v2, rfl, how2, hb2⟩; replace how2 := how2.base_le (base' := W1.heap.size) (by simp)) | (refine step_append_pts _ (by rfl) _ _ (by rfl) W1.heap.size v2 (l.take (i + 1)) (by rfl) (Ow.alloc how2 _) _ _ [p] _ 1 (by rfl) (by rfl) (sl_one w2 p) (by simp; omega) (by simp; have := hb2.size; simp at this; omega) ?_; intro v3 w3 how3 hg3 hat3) | (refine step_append_pts _ (by rfl) _ _ (by rfl) W1.heap.size v2 (l.take (i + 1)) (by rfl) how2 _ _ [p] _ 1 (by rfl) (by rfl) (sl_one_b W1 p hb2) (by simp; omega) (by have := hb2.size; simp at this; omega) ?_; intro v3 w3 how3 hg3 hat3))
    all_goals
      have hcc : _ ∧ _ := ‹_ ∧ _ ∧ Below W1.heap.size W1 _›
      go_wp2_with fail
      go_meet
      case rel => exact ⟨how3, hcc.2.2⟩
  case rest =>
    obtain ⟨wx, rfl⟩ : ∃ wx : World, wx = wc := ⟨_, rfl⟩
    obtain ⟨howa, hba⟩ := hcut
    clear HCl
    have hsl2 : Sl wx w.heap.size (some ⟨b, off, none⟩) l := hsl1.below (hba.mono hzw)
    have d1' : wx.cell? ⟨gB, 0, none⟩ = some (.int .i64 p.1) := (hba.cell (p := ⟨gB, 0, none⟩) hsz).trans d1
    have d2' : wx.cell? ⟨gB, 1, none⟩ = some (.int .i64 p.2) := (hba.cell (p := ⟨gB, 1, none⟩) hsz).trans d2
    have hszc : gB < wx.heap.size := by have := hba.size; omega
    have hbc : b < wx.heap.size := by have := hba.size; omega
    have hlo := ow_lit wx p
    have hdl : (l.drop (i + 1)).length = l.length - (i + 1) := List.length_drop
    have HDL := Lib.hid hdl
    have hdl2 : (l.drop (i + 1)).length ≤ 1000 := by omega
    clear hdl
    have hsl3 : ∀ W, Below wx.heap.size wx W → Sl W wx.heap.size (some ⟨b, off + (i + 1) * 2, none⟩) (l.drop (i + 1)) := fun W hW => Sl.drop ((hsl2.more (by have := hba.size; omega)).below hW) (i + 1)
    have HS3 := Lib.hid hsl3
    clear hsl3
    have j6 : (i : Int) + 1 ≤ (l.length : Int) := by omega
    have j7 : ¬ c = i + 1 := by omega
    go_upto_region 5 with fail
    go_cut [5] (fun x wy => Ow wy wx.heap.size x (p :: l.drop (i + 1)) ∧ Below wx.heap.size wx wy)
    case first =>
      go_region_held3 (fun w' => w'.cell? ⟨gB, 0, none⟩ = some (.int .i64 p.1) ∧ w'.cell? ⟨gB, 1, none⟩ = some (.int .i64 p.2) ∧ Below wx.heap.size wx w')
        (first | exact ⟨d1', d2', below_drewN (Below.refl _ _) 1⟩ | exact kA hszc (by assumption) _ | exact kP hszc (Ow.drew hlo) hg3 (by assumption))
        (first | (refine step_append_pts _ (by rfl) _ _ (by rfl) wx.heap.size (.slice (some ⟨wx.heap.size, 0, none⟩) 1 1) [p] (by rfl) hlo _ _ (l.drop (i + 1)) _ _ (by rfl) HDL.out.symm (HS3.out _ (And.right (And.right (by assumption)))) (by simp; omega) (by simp) ?_; intro v3 w3 how3 hg3 hat3))
      all_goals
        have hcc : _ ∧ _ := ‹_ ∧ _ ∧ Below wx.heap.size wx _›
        go_wp2_with fail
        go_meet
        case rel => exact ⟨how3, hcc.2.2⟩
    case rest =>
      obtain ⟨howb, hbb⟩ := hcut
      have howa2 := howa.below hbb
      have hzx := hba.size
      have hzc := hbb.size
      have hla := World.ownsRow.lt howa
      have hlb := World.ownsRow.lt howb
      have hbW2 : Below w.heap.size w wc := hbW.trans ((hba.trans (hbb.mono hzx)).mono hzw)
      have hneA : ∀ ka kb, u4.ownBlock = some ka → u5.ownBlock = some kb → ka ≠ kb := fun ka kb h1 h2 => by
        have := hla ka h1
        have := hlb kb h2
        omega
      have HP1 := Lib.hid (part_any w.heap.size u4 (l.take (i + 1) ++ [p]) wc (howa2.base_le hzw) (by simp; omega) (by omega))
      clear hsl2 d1' d2' hszc hbc hlo HDL HS3 j6 j7 j1 j2 j3 j4 j5 d1 d2 hsl1
      have HN := Lib.hid hneA
      have HLA := Lib.hid hla
      have HLB := Lib.hid hlb
      clear hneA hla hlb
      go_wp2_with fail
      refine HP1.out.mono ?_
      rintro e w3 ⟨v3, rfl, how3, hg3, hat3⟩
      clear HP1
      have hz3 := hg3.size
      have howb3 : Ow w3 w.heap.size u5 (p :: l.drop (i + 1)) := (howb.base_le (by omega)).kept hg3 (by
        cases hb : u5.ownBlock with
        | none => exact .inl rfl
        | some kb => exact .inr fun e => HN.out kb kb e.symm hb rfl)
      have HP2 := Lib.hid (part_any w.heap.size u5 (p :: l.drop (i + 1)) w3 howb3 (by simp; omega) (by omega))
      have hat3' := Lib.hid hat3
      clear hat3
      go_wp2_with fail
      refine HP2.out.mono ?_
      rintro e w4 ⟨v4, rfl, how4, hg4, hat4⟩
      clear HP2
      have hat4' := Lib.hid hat4
      clear hat4
      go_wp2
      go_ret3
      refine ⟨v3, v4, rfl, ?_, how4, ?_⟩
      · refine how3.kept hg4 ?_
        cases hv : v3.ownBlock with
        | none => exact .inl rfl
        | some k3 =>
          refine .inr fun e => ?_
          have hk := HLB.out k3 e.symm
          rcases hat3'.out with h | ⟨k, h, hk2⟩
          · rw [hv] at h
            exact HN.out k3 k3 h.symm e.symm rfl
          · rw [hv] at h
            injection h with h
            omega
      · have b1 : Below w.heap.size wc w3 := Turned.below (howa2.base_le hzw) hg3 rfl _ (Nat.le_refl _) (by omega)
        have b2 : Below w.heap.size w3 w4 := Turned.below howb3 hg4 rfl _ (Nat.le_refl _) (by omega)
        exact (hbW2.trans b1).trans b2
end Go.Proofs.Ytnmmbcgbijinpaa
