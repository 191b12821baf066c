/- PolylineCleans returns true for every list of points: a cleaned polyline has the same ends, no inner vertex on the segment between its neighbours, stays when cleaned again, and its length grows by at most 1 for each dropped vertex. -/
import Derived.Test.YtnmmbcgbijinpaaS
import Derived.Test.YtnmmbcgbijinpaaPlg
namespace Go.Proofs.Ytnmmbcgbijinpaa.cleans
open Go.ChangeShapes Go.WideShapes Go.ChangeAt Go.RowKit Go.Deep
open Pl (Pt)

theorem ne_no (p : Pt) (w : World) : (binOp .neq 30 (.agg #[.int .i64 p.1, .int .i64 p.2]) (.agg #[.int .i64 p.1, .int .i64 p.2])).run Try.prog w = .ok (.bool false) w := by
  have := nePt p p w
  simpa using this
theorem sl_at {w : World} {B : Nat} {A : Option Addr} {l : List Pt} (h : Sl w B A l) {i : Nat} {p : Pt} (hi : l[i]? = some p) :
    ∃ b off, A = some ⟨b, off, none⟩ ∧ b < B ∧ w.cell? ⟨b, off + i * 2, none⟩ = some (.int .i64 p.1) ∧ w.cell? ⟨b, off + i * 2 + 1, none⟩ = some (.int .i64 p.2) := by
  obtain ⟨h1, h2⟩ := List.getElem?_eq_some_iff.1 hi
  subst h2
  exact h.at_ i h1
theorem sl_at' {w : World} {B b off : Nat} {l : List Pt} (h : Sl w B (some ⟨b, off, none⟩) l) {i : Nat} {p : Pt} (hi : l[i]? = some p) :
    w.cell? ⟨b, off + i * 2, none⟩ = some (.int .i64 p.1) ∧ w.cell? ⟨b, off + i * 2 + 1, none⟩ = some (.int .i64 p.2) := by
  obtain ⟨b', off', he, _, h1, h2⟩ := sl_at h hi
  injection he with he
  injection he with e1 e2
  subst e1 e2
  exact ⟨h1, h2⟩

def Slice (l : List Pt) (w : World) (e : Ending) (w' : World) : Prop := ∃ A c, e = .returned (.slice A l.length c) ∧ Sl w' w'.heap.size A l ∧ Below w.heap.size w w'
theorem clean_sl (A : Option Addr) (c : Nat) (l : List Pt) (w : World) (hl : Sl w w.heap.size A l) (hn : l.length ≤ 1000) : Calls Try.prog 25 #[.slice A l.length c] w (Slice (Pl.clean l) w) :=
  (clean_any A c l w hl hn).mono fun e w' h => by
    obtain ⟨v, rfl, how, hb⟩ := h
    obtain ⟨A', c', rfl, _, hs⟩ := how.shape
    exact ⟨A', c', rfl, hs, hb⟩

theorem kW {W1 W w' : World} {g b o1 o2 o3 : Nat} {p q : Pt} (hg : g < W1.heap.size) (hb : b < W1.heap.size) (hbn : Below W.heap.size W w')
    (h : W.cell? ⟨g, 0, none⟩ = some (.int .i64 p.1) ∧ W.cell? ⟨g, 1, none⟩ = some (.int .i64 p.2) ∧ W.cell? ⟨g, o1, none⟩ = some (.int .i64 q.1) ∧ W.cell? ⟨g, o1 + 1, none⟩ = some (.int .i64 q.2) ∧
      W.cell? ⟨b, o2, none⟩ = some (.int .i64 p.1) ∧ W.cell? ⟨b, o2 + 1, none⟩ = some (.int .i64 p.2) ∧ W.cell? ⟨b, o3, none⟩ = some (.int .i64 q.1) ∧ W.cell? ⟨b, o3 + 1, none⟩ = some (.int .i64 q.2) ∧ Below W1.heap.size W1 W) :
    w'.cell? ⟨g, 0, none⟩ = some (.int .i64 p.1) ∧ w'.cell? ⟨g, 1, none⟩ = some (.int .i64 p.2) ∧ w'.cell? ⟨g, o1, none⟩ = some (.int .i64 q.1) ∧ w'.cell? ⟨g, o1 + 1, none⟩ = some (.int .i64 q.2) ∧
      w'.cell? ⟨b, o2, none⟩ = some (.int .i64 p.1) ∧ w'.cell? ⟨b, o2 + 1, none⟩ = some (.int .i64 p.2) ∧ w'.cell? ⟨b, o3, none⟩ = some (.int .i64 q.1) ∧ w'.cell? ⟨b, o3 + 1, none⟩ = some (.int .i64 q.2) ∧ Below W1.heap.size W1 w' := by
  obtain ⟨h1, h2, h3, h4, h5, h6, h7, h8, h9⟩ := h
  have hz := h9.size
  have hk : ∀ x i, x < W1.heap.size → w'.cell? ⟨x, i, none⟩ = W.cell? ⟨x, i, none⟩ := fun x i hx => hbn.cell (p := ⟨x, i, none⟩) (show x < W.heap.size by omega)
  exact ⟨(hk _ _ hg).trans h1, (hk _ _ hg).trans h2, (hk _ _ hg).trans h3, (hk _ _ hg).trans h4, (hk _ _ hb).trans h5, (hk _ _ hb).trans h6, (hk _ _ hb).trans h7, (hk _ _ hb).trans h8, b_tr h9 hbn⟩

structure Ends (l c : List Pt) (p q : Pt) : Prop where
  l0 : l[0]? = some p
  ln : l[l.length - 1]? = some q
  c0 : c[0]? = some p
  cn : c[c.length - 1]? = some q
theorem ends_of {l c : List Pt} (h : Pl.CleanOk l c) (h2 : 2 ≤ l.length) : ∃ p q, Ends l c p q := by
  have hc2 := h.len2
  have e1 := h.head
  have e2 := h.last
  rw [List.head?_eq_getElem?, List.head?_eq_getElem?] at e1
  rw [List.getLast?_eq_getElem?, List.getLast?_eq_getElem?] at e2
  refine ⟨l[0]'(by omega), l[l.length - 1]'(by omega), ⟨List.getElem?_eq_getElem _, List.getElem?_eq_getElem _, ?_, ?_⟩⟩
  · rw [e1]; exact List.getElem?_eq_getElem _
  · rw [e2]; exact List.getElem?_eq_getElem _

set_option maxRecDepth 100000 in
set_option maxHeartbeats 12000000 in
theorem walk_ok (A : Option Addr) (cap : Nat) (l : List Pt) (w : World) (_hcap : l.length ≤ cap) (hm : cap ≤ maxLen) (hsl : Sl w w.heap.size A l) (h60 : ¬ 60 < l.length) (hck : Pl.check l = 0) :
    Calls Try.prog 9 #[.slice A l.length cap] w fun e w' => e = .returned (.bool true) ∧ Below w.heap.size w w' := by
  obtain ⟨c1, c2, c3, c4⟩ := check_zero hck
  have hok := Pl.clean_ok c1 c2 c3 c4
  obtain ⟨p, q, hen⟩ := ends_of hok c1
  have hclen := hok.len
  have hclen2 := hok.len2
  have HC1 := Lib.hid (by have := check_any A cap l w hsl (by omega); rw [hck] at this; exact this)
  have HC := Lib.hid (fun W hW => clean_any A cap l W hW (by omega))
  have HCk := Lib.hid (fun A' c' W hW => by have := check_any A' c' (Pl.clean l) W hW (by omega); rw [hok.chk] at this; exact this)
  have HCl := Lib.hid (fun A' c' W hW => by have := clean_sl A' c' (Pl.clean l) W hW (by omega); rw [hok.again] at this; exact this)
  have HL := Lib.hid (fun W hW => by have := length_any A cap l W hW (by omega); rw [hck, show lenOf l = Pl.total l by unfold lenOf; rw [if_pos hck]] at this; exact this)
  have HLc := Lib.hid (fun A' c' W hW => by have := length_any A' c' (Pl.clean l) W hW (by omega); rw [hok.chk, show lenOf (Pl.clean l) = Pl.total (Pl.clean l) by unfold lenOf; rw [if_pos hok.chk]] at this; exact this)
  have hlo := hok.lo
  have hhi := hok.hi
  have HNo := Lib.hid hok.noOn
  have hinc : Ins (Pl.clean l) := ins_sub (ins_of c3) hok.sub
  have hT0 := total_nonneg' l
  have hTb : Pl.total l ≤ 2965820801 * 41 := by
    have := total_bound' l (ins_of c3)
    omega
  obtain ⟨e1, e2, e3, e4⟩ := hen
  clear hok hck c3 c4
  generalize Pl.clean l = c at *
  generalize Pl.total l = T at *
  generalize Pl.total c = Tc at *
  have hcm := hm
  unfold maxLen at hcm
  go_enter Try.func9, Try.ntmps9
  go_wp2_with fail
  refine HC1.out.mono ?_
  rintro e w0 ⟨rfl, hb0⟩
  have hsl0 := (hsl.below hb0).more hb0.size
  clear HC1
  go_wp2_with fail
  refine (HC.out w0 hsl0).mono ?_
  rintro e w1 ⟨v1, rfl, how1, hb1⟩
  clear HC
  have hB1 := b_tr hb0 hb1
  obtain ⟨g, cc, rfl, hg0, hg1, hcc, hccm⟩ := how1.block (by omega)
  have hsc : Sl w1 w1.heap.size (some ⟨g, 0, none⟩) c := by
    obtain ⟨A', c', hA, _, hs⟩ := how1.shape
    injection hA with hA1 hA2 hA3
    rw [hA1]
    exact hs
  have hsl1 := (hsl.below hB1).more hB1.size
  clear how1 hb0 hb1 hsl0 hg0 hcc hccm
  obtain ⟨b, off, rfl, hb, d1, d2⟩ := sl_at hsl1 e1
  obtain ⟨d3, d4⟩ := sl_at' hsl1 e2
  obtain ⟨d5, d6⟩ := sl_at' hsc e3
  obtain ⟨d7, d8⟩ := sl_at' hsc e4
  clear e1 e2 e3 e4
  simp only [Nat.zero_mul, Nat.add_zero, Nat.zero_add] at d1 d2 d5 d6 d7 d8
  have HS1 : Hid (∀ W : World, (W.cell? ⟨g, 0, none⟩ = some (.int .i64 p.1) ∧ W.cell? ⟨g, 1, none⟩ = some (.int .i64 p.2) ∧ W.cell? ⟨g, (c.length - 1) * 2, none⟩ = some (.int .i64 q.1) ∧ W.cell? ⟨g, (c.length - 1) * 2 + 1, none⟩ = some (.int .i64 q.2) ∧
      W.cell? ⟨b, off, none⟩ = some (.int .i64 p.1) ∧ W.cell? ⟨b, off + 1, none⟩ = some (.int .i64 p.2) ∧ W.cell? ⟨b, off + (l.length - 1) * 2, none⟩ = some (.int .i64 q.1) ∧ W.cell? ⟨b, off + (l.length - 1) * 2 + 1, none⟩ = some (.int .i64 q.2) ∧ Below w1.heap.size w1 W) →
      Calls Try.prog 15 #[.slice (some ⟨g, 0, none⟩) c.length cc] W fun e w' => e = .returned (.int .i64 0) ∧ Below W.heap.size W w') := fun W hW => by
    have hx := hW.2.2.2.2.2.2.2.2
    exact HCk.out _ _ W ((hsc.below hx).more hx.size)
  have HS2 : Hid (∀ W : World, (W.cell? ⟨g, 0, none⟩ = some (.int .i64 p.1) ∧ W.cell? ⟨g, 1, none⟩ = some (.int .i64 p.2) ∧ W.cell? ⟨g, (c.length - 1) * 2, none⟩ = some (.int .i64 q.1) ∧ W.cell? ⟨g, (c.length - 1) * 2 + 1, none⟩ = some (.int .i64 q.2) ∧
      W.cell? ⟨b, off, none⟩ = some (.int .i64 p.1) ∧ W.cell? ⟨b, off + 1, none⟩ = some (.int .i64 p.2) ∧ W.cell? ⟨b, off + (l.length - 1) * 2, none⟩ = some (.int .i64 q.1) ∧ W.cell? ⟨b, off + (l.length - 1) * 2 + 1, none⟩ = some (.int .i64 q.2) ∧ Below w1.heap.size w1 W) →
      Calls Try.prog 25 #[.slice (some ⟨g, 0, none⟩) c.length cc] W (Slice c W)) := fun W hW => by
    have hx := hW.2.2.2.2.2.2.2.2
    exact HCl.out _ _ W ((hsc.below hx).more hx.size)
  have HS3 : Hid (∀ (A4 : Option Addr) (c4 : Nat) (W : World), (W.cell? ⟨g, 0, none⟩ = some (.int .i64 p.1) ∧ W.cell? ⟨g, 1, none⟩ = some (.int .i64 p.2) ∧ W.cell? ⟨g, (c.length - 1) * 2, none⟩ = some (.int .i64 q.1) ∧ W.cell? ⟨g, (c.length - 1) * 2 + 1, none⟩ = some (.int .i64 q.2) ∧
      W.cell? ⟨b, off, none⟩ = some (.int .i64 p.1) ∧ W.cell? ⟨b, off + 1, none⟩ = some (.int .i64 p.2) ∧ W.cell? ⟨b, off + (l.length - 1) * 2, none⟩ = some (.int .i64 q.1) ∧ W.cell? ⟨b, off + (l.length - 1) * 2 + 1, none⟩ = some (.int .i64 q.2) ∧ Below w1.heap.size w1 W) → Sl W W.heap.size A4 c →
      Calls Try.prog 21 #[.slice A4 c.length c4, .slice (some ⟨g, 0, none⟩) c.length cc] W fun e w' => e = .returned (.bool true) ∧ Below W.heap.size W w') := fun A4 c4 W hW h4 => by
    have hx := hW.2.2.2.2.2.2.2.2
    exact same_yes _ _ _ _ c W h4 ((hsc.below hx).more hx.size) (by omega)
  have f1 := ne_no p
  have f2 := ne_no q
  have hgd := eqGd
  have t1 : (0 : Int) < (l.length : Int) := by omega
  have t2 : (0 : Int) < (c.length : Int) := by omega
  have t3 : (2 : Int) ≤ (c.length : Int) := by omega
  have t4 : (c.length : Int) ≤ (l.length : Int) := by omega
  have u1 : IntKind.i64.wrap ((l.length : Int) - 1) = (l.length : Int) - 1 := IntWalk.i64_in _ (by omega)
  have u2 : IntKind.i64.wrap ((c.length : Int) - 1) = (c.length : Int) - 1 := IntWalk.i64_in _ (by omega)
  have v1 : (1 : Int) ≤ (l.length : Int) := by omega
  have v2 : (1 : Int) ≤ (c.length : Int) := by omega
  have v4 : (l.length : Int) - 1 < (l.length : Int) := by omega
  have v5 : (c.length : Int) - 1 < (c.length : Int) := by omega
  have y1 : ((l.length : Int) - 1).toNat = l.length - 1 := by omega
  have y2 : ((c.length : Int) - 1).toNat = c.length - 1 := by omega
  have z1 : 0 < l.length := by omega
  have z2 : 0 < c.length := by omega
  have z3 : c.length ≤ l.length := by omega
  have g1 : decide ((c.length : Int) < 2) = false := by simp; omega
  have g2 : decide (l.length < c.length) = false := by simp; omega
  have g3 : decide ((l.length : Int) < (c.length : Int)) = false := by simp; omega
  go_wp2
  go_region_held3 (fun w' => w'.cell? ⟨g, 0, none⟩ = some (.int .i64 p.1) ∧ w'.cell? ⟨g, 1, none⟩ = some (.int .i64 p.2) ∧ w'.cell? ⟨g, (c.length - 1) * 2, none⟩ = some (.int .i64 q.1) ∧ w'.cell? ⟨g, (c.length - 1) * 2 + 1, none⟩ = some (.int .i64 q.2) ∧ w'.cell? ⟨b, off, none⟩ = some (.int .i64 p.1) ∧ w'.cell? ⟨b, off + 1, none⟩ = some (.int .i64 p.2) ∧ w'.cell? ⟨b, off + (l.length - 1) * 2, none⟩ = some (.int .i64 q.1) ∧ w'.cell? ⟨b, off + (l.length - 1) * 2 + 1, none⟩ = some (.int .i64 q.2) ∧ Below w1.heap.size w1 w')
    (first | exact ⟨d5, d6, d7, d8, d1, d2, d3, d4, below_drewN (Below.refl _ _) 1⟩ | exact kW hg1 hb hbn (by with_reducible assumption))
    (first | (go_at_call 15; (with_reducible refine (HS1.out _ (by with_reducible assumption)).mono ?_); rintro e w' ⟨rfl, hbn⟩) | (go_at_call 25; (with_reducible refine (HS2.out _ (by with_reducible assumption)).mono ?_); rintro e w' ⟨A4, c4, rfl, hs4, hbn⟩) | (go_at_call 21; (with_reducible refine (HS3.out _ _ _ (by with_reducible assumption) hs4).mono ?_); rintro e w' ⟨rfl, hbn⟩))
  have hcc : _ ∧ _ ∧ _ ∧ _ ∧ _ ∧ _ ∧ _ ∧ _ ∧ Below w1.heap.size w1 _ := ‹_ ∧ _ ∧ _ ∧ _ ∧ _ ∧ _ ∧ _ ∧ _ ∧ Below w1.heap.size w1 _›
  have hbx := hcc.2.2.2.2.2.2.2.2
  clear hcc HS1 HS2 HS3 d1 d2 d3 d4 d5 d6 d7 d8 f1 f2 u1 u2 y1 y2 g1 g2 g3 HCk HCl
  go_wp2
  go_loopw [4] (fun s4 wr => ∃ (i : Nat), 1 ≤ i ∧ i ≤ c.length ∧ s4 = .int .i64 i ∧ Below w1.heap.size w1 wr) (fun s4 _ => c.length - (intOf s4).toNat)
  case atStart => exact ⟨1, by omega, by omega, rfl, hbx⟩
  case round =>
    obtain ⟨i, hi1, hi2, rfl, hbw⟩ := hrel
    by_cases hlt : i + 1 < c.length
    · obtain ⟨i', rfl⟩ : ∃ i', i = i' + 1 := ⟨i - 1, by omega⟩
      have hno := HNo.out (i' + 1) hi1 (by omega) hlt
      rw [Nat.add_sub_cancel, getD_lt (show i' < c.length by omega), getD_lt hlt, getD_lt (show i' + 1 < c.length by omega)] at hno
      have hscw := (hsc.below hbw).more hbw.size
      obtain ⟨a1, a2⟩ := sl_at' hscw (List.getElem?_eq_getElem (show i' < c.length by omega))
      obtain ⟨a3, a4⟩ := sl_at' hscw (List.getElem?_eq_getElem hlt)
      obtain ⟨a5, a6⟩ := sl_at' hscw (List.getElem?_eq_getElem (show i' + 1 < c.length by omega))
      have hon := fun W => ron_any _ _ _ W (hinc i' (by omega)) (hinc (i' + 1 + 1) hlt) (hinc (i' + 1) (by omega))
      rw [hno] at hon
      have HON := Lib.hid hon
      clear hon hno
      generalize c[i'] = pa at *
      generalize c[i' + 1 + 1] = pb at *
      generalize c[i' + 1] = pc at *
      simp only [Nat.zero_add] at a1 a2 a3 a4 a5 a6
      have i1 : (0 : Int) ≤ (i' : Int) := by omega
      have i2 : (i' : Int) < (c.length : Int) := by omega
      have i3 : IntKind.i64.wrap (i' : Int) = (i' : Int) := IntWalk.i64_in _ (by omega)
      have i4 : (0 : Int) ≤ (i' : Int) + 1 := by omega
      have i5 : (i' : Int) + 1 < (c.length : Int) := by omega
      have i6 : ((i' : Int) + 1).toNat = i' + 1 := by omega
      have i7 : IntKind.i64.wrap ((i' : Int) + 1 + 1) = (i' : Int) + 1 + 1 := IntWalk.i64_in _ (by omega)
      have i8 : (0 : Int) ≤ (i' : Int) + 1 + 1 := by omega
      have i9 : (i' : Int) + 1 + 1 < (c.length : Int) := by omega
      have i10 : ((i' : Int) + 1 + 1).toNat = i' + 1 + 1 := by omega
      have hbr : Below wr.heap.size wr wr := Below.refl _ _
      have hgw : g < wr.heap.size := by have := hbw.size; omega
      go_wp2
      go_region_held3 (fun w' => Below wr.heap.size wr w' ∧ w'.cell? ⟨g, i' * 2, none⟩ = some (.int .i64 pa.1) ∧ w'.cell? ⟨g, i' * 2 + 1, none⟩ = some (.int .i64 pa.2) ∧ w'.cell? ⟨g, (i' + 1 + 1) * 2, none⟩ = some (.int .i64 pb.1) ∧ w'.cell? ⟨g, (i' + 1 + 1) * 2 + 1, none⟩ = some (.int .i64 pb.2) ∧ w'.cell? ⟨g, (i' + 1) * 2, none⟩ = some (.int .i64 pc.1) ∧ w'.cell? ⟨g, (i' + 1) * 2 + 1, none⟩ = some (.int .i64 pc.2))
        (first | exact ⟨below_drewN hbr 1, a1, a2, a3, a4, a5, a6⟩ | exact held6 hgw hbn (by have := hbr.size; simp) (by with_reducible assumption))
        (first | (go_at_call 26; refine (HON.out _).mono ?_; rintro e w' ⟨rfl, hbn⟩))
      have hcc : Below wr.heap.size wr _ ∧ _ := ‹_›
      have hbx2 := b_tr hbw hcc.1
      clear hcc
      go_wp2
      go_roundw
      case rel => exact ⟨i' + 1 + 1, by omega, by omega, by go_num, hbx2⟩
      case measure => simp [intOf]; omega
    · have hBw := b_tr hB1 hbw
      have hslw := (hsl.below hBw).more hBw.size
      have hscw := (hsc.below hbw).more hbw.size
      go_wp2_with fail
      refine (HL.out wr hslw).mono ?_
      rintro e w2 ⟨rfl, hb2⟩
      have hscw2 := (hscw.below hb2).more hb2.size
      go_wp2_with fail
      refine (HLc.out _ _ w2 hscw2).mono ?_
      rintro e w3 ⟨rfl, hb3⟩
      go_wp2_with fail
      refine (alive_any _).mono ?_
      rintro e w4 ⟨rfl, hb4⟩
      go_wp2
      go_ret
      exact ⟨rfl, b_tr (b_tr (b_tr hBw hb2) hb3) hb4⟩

set_option maxRecDepth 100000 in
set_option maxHeartbeats 1000000 in
theorem walk (A : Option Addr) (len cap : Nat) (l : List Pt) (w : World) (h : Came w A len cap l) :
    Calls Try.prog 9 #[.slice A len cap] w fun e w' => e = .returned (.bool true) ∧ Below w.heap.size w w' := by
  obtain ⟨rfl, hcap, hm, hsl⟩ := h
  by_cases h60 : 60 < l.length
  · unfold maxLen at hm
    go_enter Try.func9, Try.ntmps9
    go_wp2_with fail
    refine (alive_any _).mono ?_
    rintro e w1 ⟨rfl, hb1⟩
    go_wp2
    go_ret
    exact ⟨rfl, hb1⟩
  · by_cases hck : Pl.check l = 0
    · exact walk_ok A cap l w hcap hm hsl h60 hck
    · have H2 := Lib.hid (check_any A cap l w hsl (by omega))
      have hck' : (Pl.check l != 0) = true := by simpa using hck
      generalize Pl.check l = ck at *
      clear hck
      unfold maxLen at hm
      go_enter Try.func9, Try.ntmps9
      go_wp2_with fail
      refine H2.out.mono ?_
      rintro e w1 ⟨rfl, hb1⟩
      go_wp2_with fail
      refine (alive_any _).mono ?_
      rintro e w2 ⟨rfl, hb2⟩
      go_wp2
      go_ret
      exact ⟨rfl, b_tr hb1 hb2⟩

set_option maxRecDepth 100000 in
theorem lifted (os : Os) (started : os.Started) (H : Type) (enc : TypeId × Value → H) :
    ReturnsInHanded {} Try.checked os 9 .any (Rows.polylineCleansSpec.pre6 enc Try.prog Try.f9 Rows.polylineCleansRow.domain false) (Rows.polylineCleansSpec.post enc Try.prog Try.f9 false true false false) := by
  refine returnsInHanded_of_change (C := Try.checked) own started (by kernel_rfl) Try.func9
    (ChangeSpec.witness6 (enc := enc) (C := Try.checked) false ⟨#[], #[.slice none 0 0], []⟩ 8 (by kernel_rfl) (by kernel_rfl) (by kernel_rfl) (by kernel_rfl)) ?_
  intro W base args ds gs before hval0 hW hcnd _
  have hval : ∀ (j : Nat) t v, Try.f9.params[j]? = some t → args[j]? = some v → Value.okWide Try.prog W .any base t v := hval0
  have hW' := hW
  obtain ⟨p, q, hA0, hV, rfl, hfz, hnd⟩ := hW
  have hA : DataW.TrodAll enc Try.prog W 0 (fun _ => true) true Try.f9.params.toList args.toList ds p := hA0
  rw [Try.params9] at hA hval
  obtain ⟨v0, vs0, d0, ds0, p0, qq0, hargs, rfl, rfl, h0, r0⟩ := trodAll_cons hA
  obtain ⟨rfl, rfl, rfl⟩ := trodAll_nil r0
  obtain rfl : args = #[v0] := by cases args; simp_all
  obtain ⟨rfl, rfl⟩ := trodVars_none hV
  obtain ⟨a0, len0, cap0, rfl⟩ := okWide_slice Try.underlying22 (hval 0 22 v0 rfl rfl)
  have k0 := h0
  have lt0 : ∀ x ∈ p0, x.block < W.heap.size := by obtain ⟨m, hm⟩ := k0; exact DataW.trod_lt m _ _ _ hm
  obtain ⟨l0, w0⟩ : ∃ l, Came W a0 len0 cap0 l := by
    obtain ⟨fuel, hf⟩ := h0
    exact open_spots (by simpa [Value.cells] using hf)
  clear hA0 hval0
  refine (walk a0 len0 cap0 l0 W w0).mono fun e W' ⟨he, bel⟩ => ?_
  subst he
  exact ⟨_, rfl, _, _, _, [], _, [], hW', trodAll_mk1 (shut_bool Try.underlying4 _), (trodAll_cons_mk (Below.trod laidOut (by kernel_rfl) (of_decide_eq_true (by kernel_rfl)) k0 bel lt0) trodAll_mk0), rfl, bel.frame _, fun h => by cases h⟩

theorem over : Rows.polylineCleansRow.holds Try.pinned (OpenSpec.ofChange Rows.polylineCleansSpec) :=
  OpenClaim.holds_of_wide 9 Try.f9 rfl rfl rfl rfl rfl rfl rfl ⟨rfl, rfl, rfl, rfl, rfl⟩ rfl rfl rfl rfl rfl (by kernel_rfl) Try.func9 (by kernel_rfl)
    (of_decide_eq_true (by kernel_rfl)) (by unfold Func.isWrapper; first | (rw [if_pos (by decide +kernel)]; kernel_rfl) | (rw [if_neg (by decide +kernel)]; exact ⟨rfl, rfl⟩))
    (fun os started H enc _ => lifted os started H enc)

theorem proved : Rows.PolylineCleansSaid := over
#print axioms proved
end Go.Proofs.Ytnmmbcgbijinpaa.cleans
