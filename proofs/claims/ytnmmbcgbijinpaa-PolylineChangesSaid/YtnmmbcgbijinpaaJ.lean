/- Delete of one element, in place; Clean. -/
import Derived.Test.YtnmmbcgbijinpaaI
namespace Go.Proofs.Ytnmmbcgbijinpaa
open Go.RowKit
open Pl (Pt)

theorem run_delete (w : World) (base g cap : Nat) (l : List Pt) (h : Ow w base (.slice (some ⟨g, 0, none⟩) l.length cap) l) (i : Nat) (hi : i + 1 < l.length) (ty : TypeId) (c : Nat) :
    ∃ w', (Builtin.append_ #[22, 22] ty #[.slice (some ⟨g, 0, none⟩) i cap, .slice (some ⟨g, (i + 1) * 2, none⟩) (l.length - (i + 1)) c]).run Try.prog w = .ok (.slice (some ⟨g, 0, none⟩) (l.length - 1) cap) w' ∧
      Ow w' base (.slice (some ⟨g, 0, none⟩) l.length cap) (l.take i ++ l.drop (i + 1) ++ l.drop (l.length - 1)) ∧ w.grownBy w' (some g) := by
  obtain ⟨i0, hi0, hz0, hz1, hz2⟩ := info_parts spot_info
  have h0 := h
  rcases h.2 with ⟨h1, _⟩ | ⟨g', cap', cur, h1, hb, hg, hn, hm, hs, ht⟩
  · cases h1
  · injection h1 with e1 _ e2
    injection e1 with e1
    injection e1 with e1
    subst e1 e2
    have hcl : cur.toList.length = cap * 2 := by simpa using hs
    have hnl : (cells (l.drop (i + 1))).length = (l.length - (i + 1)) * i0.size := by rw [length_cells, List.length_drop, hz1]
    have hnews : ∀ j u, (cells (l.drop (i + 1)))[j]? = some u → w.cell? ((⟨g, (i + 1) * 2, none⟩ : Addr).add j) = some u := fun j u hu => by
      have e2 : (⟨g, (i + 1) * 2, none⟩ : Addr).add j = ⟨g, (i + 1) * 2 + j, none⟩ := by unfold Addr.add; split <;> simp_all
      rw [e2]
      rw [← cells_drop, List.getElem?_drop] at hu
      have hj : (i + 1) * 2 + j < l.length * 2 := by
        rw [← length_cells l]
        exact (List.getElem?_eq_some_iff.1 hu).1
      exact (World.ownsRow.cellAt h0 _ hj).trans hu
    have hrun := run_append_room (P := Try.prog) w 22 ty 30 i0 Try.underlying22 hi0 g i cap cur hg ⟨g, (i + 1) * 2, none⟩ (l.length - (i + 1)) c (cells (l.drop (i + 1))) hnl hnews (cells_one _) (by omega) (by rw [hnl, hz1, hs]; omega)
    rw [hz1, show i + (l.length - (i + 1)) = l.length - 1 by omega] at hrun
    refine ⟨_, hrun, ?_, setRow_grown w g _⟩
    have hll : (l.take i ++ l.drop (i + 1) ++ l.drop (l.length - 1)).length = l.length := by simp; omega
    unfold Ow
    rw [hll]
    refine ⟨by rw [length_cells, hll], .inr ⟨g, cap, _, rfl, hb, setRow_heap w g cur _ 30 (0, 0) hg, hn, hm, ?_, ?_⟩⟩
    · simp only [List.size_toArray, List.length_append, List.length_take, List.length_drop, hnl, hz1, hcl]
      omega
    · have hlc : (cells (l.drop (i + 1))).length = (l.length - (i + 1)) * 2 := by rw [length_cells, List.length_drop]
      rw [cells_append, cells_append]
      have e1 : cur.toList.take (i * 2) = cells (l.take i) := by
        have e := congrArg (List.take (i * 2)) ht
        rw [List.take_take, Nat.min_eq_left (by omega), cells_take] at e
        exact e
      have e3 : (cur.toList.drop ((l.length - 1) * 2)).take 2 = cells (l.drop (l.length - 1)) := by
        have e := congrArg (List.drop ((l.length - 1) * 2)) ht
        rw [cells_drop, List.drop_take, show l.length * 2 - (l.length - 1) * 2 = 2 by omega] at e
        exact e
      rw [hlc, show i * 2 + (l.length - (i + 1)) * 2 = (l.length - 1) * 2 by omega, e1, ← e3]
      rw [List.take_append, List.take_of_length_le (by simp only [List.length_append, length_cells, List.length_take, List.length_drop]; omega)]
      congr 2
      simp only [List.length_append, length_cells, List.length_take, List.length_drop]
      omega

theorem step_append_run {ops : Array Oper} {o : Oper} {a : Act} {K : Act → World → Prop} {Q : Exit → Act → World → Prop} {E : Prop} (w : World) (hgd : o.guard = none) (s x : Operand)
    (ho : o.op = .call { callee := .builtin .append, args := #[s, x], argTypes := #[22, 22] }) (v u v' : Value) (w' : World) (hv : a.eval s = v) (hx : a.eval x = u)
    (hrun : (Builtin.append_ #[22, 22] o.type #[v, u]).run Try.prog w = .ok v' w') (h : K (a.put o.dst v') w') :
    if Region.wanted o (yielded ops a.tmps) = true then Oper.wp Try.prog o a w K Q else E := by
  have hw : Region.wanted o (yielded ops a.tmps) = true := by simp [Region.wanted, hgd]
  rw [if_pos hw]
  unfold Oper.wp execOp
  simp only [ho, resolve, invoke, builtin, Sem.run_bind, Sem.run_pure, Result.andThen_ok, List.map_toArray, List.map_cons, List.map_nil, hv, hx, hrun]
  exact h

set_option maxHeartbeats 1000000 in
theorem delete_any (g cap base : Nat) (l : List Pt) (i : Nat) (w : World) (h : Ow w base (.slice (some ⟨g, 0, none⟩) l.length cap) l) (hi : i + 1 < l.length) (hn : l.length ≤ 65536) (hcap : l.length ≤ cap) (_hcm : cap ≤ maxLen) :
    Calls Try.prog 45 #[.slice (some ⟨g, 0, none⟩) l.length cap, .int .i64 i, .int .i64 (i + 1)] w (Turned w base (.slice (some ⟨g, 0, none⟩) l.length cap) (l.take i ++ l.drop (i + 1))) := by
  obtain ⟨w1, hrun, how1, hgr1⟩ := run_delete w.drew base g cap l h.drew i hi 22 (cap - (i + 1))
  have hll : (l.take i ++ l.drop (i + 1) ++ l.drop (l.length - 1)).length = l.length := by simp; omega
  have how1' : Ow w1 base (.slice (some ⟨g, 0, none⟩) (l.take i ++ l.drop (i + 1) ++ l.drop (l.length - 1)).length cap) (l.take i ++ l.drop (i + 1) ++ l.drop (l.length - 1)) := by rw [hll]; exact how1
  obtain ⟨w2, hclr, how2, hgr2⟩ := run_clear_tail w1 base g cap _ (l.length - 1) how1' (by rw [hll]; omega) 0 (cap - (l.length - 1))
  rw [hll, show l.length - (l.length - 1) = 1 by omega] at hclr
  rw [List.take_append_of_le_length (by simp; omega), List.take_of_length_le (by simp; omega)] at how2
  have H2 := Lib.hid how2
  have HG := Lib.hid (grown_trans hgr1 hgr2)
  clear how2 hll how1 how1' hgr1 hgr2 h
  have j1 : ¬ cap = i + 1 := by omega
  have j2 : l.length - (l.length - 1) = 1 := by omega
  have j3 : ((i : Int) == (i : Int) + 1) = false := by simp; omega
  have j4 : ¬ cap = l.length - 1 := by omega
  go_enter Try.func45, Try.ntmps45
  have j5 : (i : Int) ≤ (cap : Int) := by omega
  have j6 : (i : Int) + 1 ≤ (l.length : Int) := by omega
  have j7 : (0 : Int) ≤ (i : Int) + 1 := by omega
  have j8 : (0 : Int) ≤ (i : Int) := by omega
  have j9 : ((i : Int) + 1).toNat = i + 1 := by omega
  go_wp2
  go_region_held3 (fun _ => True) (trivial) (first | (refine step_append_run _ (by rfl) _ _ (by rfl) _ _ _ _ (by rfl) (by rfl) hrun ?_))
  go_wp2
  go_ret
  exact ⟨_, rfl, H2.out, ⟨HG.out.os, HG.out.tape, HG.out.output, HG.out.size, HG.out.block⟩, rfl⟩

theorem getD_lt {r : List Pt} {i : Nat} {d : Pt} (h : i < r.length) : r.getD i d = r[i] := by simp [List.getD, h]
theorem cleanTo_end {f : Nat} {r : List Pt} {i : Nat} (h : ¬ i + 1 < r.length) : Pl.cleanTo f r i = r := by
  cases f with
  | zero => rfl
  | succ f => rw [Pl.cleanTo, if_neg h]
theorem cleanTo_no {f : Nat} {r : List Pt} {i : Nat} (h : i + 1 < r.length) (ho : Pl.onB (r[i - 1]'(by omega)) (r[i + 1]'h) (r[i]'(by omega)) = false) : Pl.cleanTo (f + 1) r i = Pl.cleanTo f r (i + 1) := by
  rw [Pl.cleanTo, if_pos h]
  rw [getD_lt (show i - 1 < r.length by omega), getD_lt h, getD_lt (show i < r.length by omega), if_neg (by rw [ho]; simp)]
theorem cleanTo_yes {f : Nat} {r : List Pt} {i : Nat} (h : i + 1 < r.length) (ho : Pl.onB (r[i - 1]'(by omega)) (r[i + 1]'h) (r[i]'(by omega)) = true) : Pl.cleanTo (f + 1) r i = Pl.cleanTo f (r.take i ++ r.drop (i + 1)) 1 := by
  rw [Pl.cleanTo, if_pos h]
  rw [getD_lt (show i - 1 < r.length by omega), getD_lt h, getD_lt (show i < r.length by omega), if_pos ho]
theorem ins_del {r : List Pt} (h : Ins r) (i : Nat) : Ins (r.take i ++ r.drop (i + 1)) := fun j hj => by
  have hm : (r.take i ++ r.drop (i + 1))[j] ∈ r := by
    have := List.getElem_mem hj
    rcases List.mem_append.1 this with h1 | h1
    · exact List.mem_of_mem_take h1
    · exact List.mem_of_mem_drop h1
  obtain ⟨k, hk, e⟩ := List.getElem_of_mem hm
  rw [← e]
  exact h k hk
theorem ins_sub {r l : List Pt} (h : Ins l) (hs : ∀ x, x ∈ r → x ∈ l) : Ins r := fun j hj => by
  obtain ⟨k, hk, e⟩ := List.getElem_of_mem (hs _ (List.getElem_mem hj))
  rw [← e]
  exact h k hk

theorem held6 {w W w' : World} {B b o1 o2 o3 : Nat} {p q r : Pt} (hb : b < B) (hbn : Below W.heap.size W w') (hB : B ≤ W.heap.size)
    (h : Below B w W ∧ W.cell? ⟨b, o1, none⟩ = some (.int .i64 p.1) ∧ W.cell? ⟨b, o1 + 1, none⟩ = some (.int .i64 p.2) ∧ W.cell? ⟨b, o2, none⟩ = some (.int .i64 q.1) ∧ W.cell? ⟨b, o2 + 1, none⟩ = some (.int .i64 q.2) ∧ W.cell? ⟨b, o3, none⟩ = some (.int .i64 r.1) ∧ W.cell? ⟨b, o3 + 1, none⟩ = some (.int .i64 r.2)) :
    Below B w w' ∧ w'.cell? ⟨b, o1, none⟩ = some (.int .i64 p.1) ∧ w'.cell? ⟨b, o1 + 1, none⟩ = some (.int .i64 p.2) ∧ w'.cell? ⟨b, o2, none⟩ = some (.int .i64 q.1) ∧ w'.cell? ⟨b, o2 + 1, none⟩ = some (.int .i64 q.2) ∧ w'.cell? ⟨b, o3, none⟩ = some (.int .i64 r.1) ∧ w'.cell? ⟨b, o3 + 1, none⟩ = some (.int .i64 r.2) := by
  obtain ⟨h1, h2, h3, h4, h5, h6, h7⟩ := h
  have hk : ∀ o, w'.cell? ⟨b, o, none⟩ = W.cell? ⟨b, o, none⟩ := fun o => hbn.cell (p := ⟨b, o, none⟩) (show b < W.heap.size by omega)
  exact ⟨h1.trans (hbn.mono hB), (hk _).trans h2, (hk _).trans h3, (hk _).trans h4, (hk _).trans h5, (hk _).trans h6, (hk _).trans h7⟩

def sliceLen : Value → Nat
  | .slice _ n _ => n
  | _ => 0

set_option maxHeartbeats 1000000 in
theorem clean_loop (A : Option Addr) (c : Nat) (l : List Pt) (w : World) (hl : Sl w w.heap.size A l) (h40 : l.length ≤ 40) (ho : l.any Pl.outB = false) :
    Calls Try.prog 25 #[.slice A l.length c] w (Fresh w (Pl.clean l)) := by
  have hcl := clone_any A c l w hl (by omega)
  have hR : Pl.clean l = Pl.cleanTo (100 * (Pl.compact l).length) (Pl.compact l) 1 := by
    unfold Pl.clean
    rw [if_neg (by rw [ho]; simp; omega)]
  have hins : Ins (Pl.compact l) := ins_sub (ins_of ho) (Pl.compact_sub l)
  have hcn := Pl.compact_len l
  rw [hR]
  clear hR
  have HK0 := Lib.hid (fun (v : Value) (W : World) (how : Ow W w.heap.size v l) => compact_any w.heap.size v l W how (by omega))
  generalize Pl.compact l = r0 at *
  generalize hRR : Pl.cleanTo (100 * r0.length) r0 1 = R
  have HR : Hid (Pl.cleanTo (100 * r0.length) r0 1 = R) := hRR
  clear hRR
  have HC := Lib.hid hcl
  have HO := Lib.hid (fun W hW => by have := contains_any A c l W hW (by omega); rw [ho] at this; exact this)
  clear hcl ho
  go_enter Try.func25, Try.ntmps25
  go_wp2_with fail
  refine HC.out.mono ?_
  rintro e w1 ⟨v1, rfl, how1, hb1⟩
  have hz1 := hb1.size
  obtain ⟨A1, c1, rfl, _, _⟩ := how1.shape
  clear HC
  go_wp2_with fail
  refine (HO.out w1 ((hl.below hb1).more hz1)).mono ?_
  rintro e w2 ⟨rfl, hb2⟩
  clear HO
  have hz2 := hb2.size
  have how2 := how1.below hb2
  have hb02 : Below w.heap.size w w2 := hb1.trans (hb2.mono hz1)
  go_wp2_with fail
  refine (HK0.out _ w2 how2).mono ?_
  rintro e w3 ⟨v3, rfl, how3, hgr3, hbl3⟩
  clear HK0
  have hb03 : Below w.heap.size w w3 := hb02.trans (Turned.below how2 hgr3 rfl _ (Nat.le_refl _) (by omega))
  clear hbl3 hgr3 how2 how1 hb1 hb2 hb02 hz1 hz2
  obtain ⟨A3, c3, rfl, _, _⟩ := how3.shape
  go_wp2
  go_loopw [3, 4] (fun s3 s4 wr => ∃ (r : List Pt) (i f : Nat), Ow wr w.heap.size s3 r ∧ s4 = .int .i64 i ∧ Hid (sliceLen s3 = r.length) ∧ 1 ≤ i ∧ i ≤ r.length + 1 ∧ r.length ≤ 40 ∧ 100 * r.length ≤ f + i ∧ Ins r ∧ Hid (Pl.cleanTo f r i = R) ∧ Below w.heap.size w wr) (fun s3 s4 _ => 100 * sliceLen s3 - (intOf s4).toNat)
  case atStart => exact ⟨r0, 1, 100 * r0.length, how3, rfl, rfl, by omega, by omega, by omega, by omega, hins, HR, hb03⟩
  case round =>
    obtain ⟨r, i, f, how, rfl, hsl, hi1, hi2, hr40, hf, hinr, hc, hb⟩ := hrel
    by_cases hlt : i + 1 < r.length
    · obtain ⟨g, cap, rfl, hg0, hg1, hcap, hcm⟩ := how.block (by omega)
      obtain ⟨f', rfl⟩ : ∃ f', f = f' + 1 := ⟨f - 1, by omega⟩
      obtain ⟨i', rfl⟩ : ∃ i', i = i' + 1 := ⟨i - 1, by omega⟩
      obtain ⟨a1, a2⟩ := how.at_ i' (by omega)
      obtain ⟨a3, a4⟩ := how.at_ (i' + 1 + 1) hlt
      obtain ⟨a5, a6⟩ := how.at_ (i' + 1) (by omega)
      have HN := Lib.hid (fun h => cleanTo_no (f := f') hlt h)
      have HY := Lib.hid (fun h => cleanTo_yes (f := f') hlt h)
      have hon := fun w => on_any r[i'] r[i' + 1 + 1] r[i' + 1] w (hinr i' (by omega)) (hinr _ hlt) (hinr _ (by omega))
      simp only [Nat.add_sub_cancel] at HN HY
      have i1 : (0 : Int) ≤ (i' : Int) := by omega
      have i2 : (i' : Int) < (r.length : Int) := by omega
      have i3 : IntKind.i64.wrap (i' : Int) = (i' : Int) := IntWalk.i64_in _ (by omega)
      have i4 : (0 : Int) ≤ (i' : Int) + 1 := by omega
      have i5 : (i' : Int) + 1 < (r.length : Int) := by omega
      have i6 : ((i' : Int) + 1).toNat = i' + 1 := by omega
      have i7 : IntKind.i64.wrap ((i' : Int) + 1 + 1) = (i' : Int) + 1 + 1 := IntWalk.i64_in _ (by omega)
      have i8 : (0 : Int) ≤ (i' : Int) + 1 + 1 := by omega
      have i9 : (i' : Int) + 1 + 1 < (r.length : Int) := by omega
      have i10 : ((i' : Int) + 1 + 1).toNat = i' + 1 + 1 := by omega
      have hbr : Below wr.heap.size wr wr := Below.refl _ _
      cases hq : Pl.onB r[i'] r[i' + 1 + 1] r[i' + 1] with
      | false =>
        rw [hq] at hon
        have HON := Lib.hid hon
        have HC2 := Lib.hid ((HN.out hq).symm.trans hc.out)
        clear hon hq HN HY hc
        go_wp2
        go_region_held3 (fun w' => Below wr.heap.size wr w' ∧ w'.cell? ⟨g, i' * 2, none⟩ = some (.int .i64 r[i'].1) ∧ w'.cell? ⟨g, i' * 2 + 1, none⟩ = some (.int .i64 r[i'].2) ∧ w'.cell? ⟨g, (i' + 1 + 1) * 2, none⟩ = some (.int .i64 r[i' + 1 + 1].1) ∧ w'.cell? ⟨g, (i' + 1 + 1) * 2 + 1, none⟩ = some (.int .i64 r[i' + 1 + 1].2) ∧ w'.cell? ⟨g, (i' + 1) * 2, none⟩ = some (.int .i64 r[i' + 1].1) ∧ w'.cell? ⟨g, (i' + 1) * 2 + 1, none⟩ = some (.int .i64 r[i' + 1].2))
          (first | exact ⟨below_drewN hbr 1, a1, a2, a3, a4, a5, a6⟩ | exact held6 hg1 hbn (by have := hbr.size; simp) (by assumption))
          (first | (go_at_call 44; refine (HON.out _).mono ?_; rintro e w' ⟨rfl, hbn⟩))
        go_wp2
        have hcc : Below wr.heap.size wr _ ∧ _ := ‹_›
        go_roundw
        case rel => exact ⟨r, i' + 1 + 1, f', how.below hcc.1, by go_num, rfl, by omega, by omega, by omega, by omega, hinr, HC2, hb.trans (hcc.1.mono hb.size)⟩
        case measure => simp [intOf, sliceLen]; omega
      | true =>
        rw [hq] at hon
        have HON := Lib.hid hon
        have HC2 := Lib.hid ((HY.out hq).symm.trans hc.out)
        clear hon hq HN HY hc
        go_wp2
        go_region_held3 (fun w' => Below wr.heap.size wr w' ∧ w'.cell? ⟨g, i' * 2, none⟩ = some (.int .i64 r[i'].1) ∧ w'.cell? ⟨g, i' * 2 + 1, none⟩ = some (.int .i64 r[i'].2) ∧ w'.cell? ⟨g, (i' + 1 + 1) * 2, none⟩ = some (.int .i64 r[i' + 1 + 1].1) ∧ w'.cell? ⟨g, (i' + 1 + 1) * 2 + 1, none⟩ = some (.int .i64 r[i' + 1 + 1].2) ∧ w'.cell? ⟨g, (i' + 1) * 2, none⟩ = some (.int .i64 r[i' + 1].1) ∧ w'.cell? ⟨g, (i' + 1) * 2 + 1, none⟩ = some (.int .i64 r[i' + 1].2))
          (first | exact ⟨below_drewN hbr 1, a1, a2, a3, a4, a5, a6⟩ | exact held6 hg1 hbn (by have := hbr.size; simp) (by assumption))
          (first | (go_at_call 44; refine (HON.out _).mono ?_; rintro e w' ⟨rfl, hbn⟩))
        have hcc : Below wr.heap.size wr _ ∧ _ := ‹_›
        have how' := how.below hcc.1
        have hb' := hb.trans (hcc.1.mono hb.size)
        have HD := Lib.hid (delete_any g cap w.heap.size r (i' + 1) _ how' hlt (by omega) hcap hcm)
        have hzz := hcc.1.size
        clear hcc
        go_wp2_with fail
        refine HD.out.mono ?_
        rintro e w4 ⟨v4, rfl, how4, hgr4, hbl4⟩
        have hb4 := hb'.trans (Turned.below how' hgr4 rfl _ (Nat.le_refl _) (by have := hb.size; omega))
        have hlen : (r.take (i' + 1) ++ r.drop (i' + 1 + 1)).length = r.length - 1 := by simp; omega
        have HL := Lib.hid hlen
        have hl1 : (r.take (i' + 1) ++ r.drop (i' + 1 + 1)).length ≤ r.length - 1 := Nat.le_of_eq hlen
        have hl2 : r.length - 1 ≤ (r.take (i' + 1) ++ r.drop (i' + 1 + 1)).length := Nat.le_of_eq hlen.symm
        have hin4 := ins_del hinr (i' + 1)
        clear hlen HD hbl4 hgr4 how' how hb'
        generalize r.take (i' + 1) ++ r.drop (i' + 1 + 1) = r4 at *
        obtain ⟨A4, c4, rfl, _, _⟩ := how4.shape
        go_wp2
        go_roundw
        case rel => exact ⟨r4, 1, f', how4, rfl, rfl, by omega, by omega, by omega, by omega, hin4, HC2, hb4⟩
        case measure => simp [intOf, sliceLen]; omega
    · have HE := Lib.hid ((cleanTo_end hlt).symm.trans hc.out)
      obtain ⟨A4, c4, rfl, _, _⟩ := how.shape
      go_wp2
      go_ret
      exact ⟨_, rfl, by rw [← HE.out]; exact how, hb⟩

set_option maxHeartbeats 400000 in
theorem clean_far (A : Option Addr) (c : Nat) (l : List Pt) (w : World) (hl : Sl w w.heap.size A l) (hn : l.length ≤ 1000) (h : 40 < l.length ∨ l.any Pl.outB = true) :
    Calls Try.prog 25 #[.slice A l.length c] w (Fresh w (Pl.clean l)) := by
  have hcl := clone_any A c l w hl (by omega)
  have hR : Pl.clean l = l := by
    unfold Pl.clean
    rw [if_pos h]
  rw [hR]
  clear hR
  have HC := Lib.hid hcl
  clear hcl
  by_cases h40 : 40 < l.length
  · clear h
    go_enter Try.func25, Try.ntmps25
    go_wp2_with fail
    refine HC.out.mono ?_
    rintro e w1 ⟨v1, rfl, how1, hb1⟩
    obtain ⟨A1, c1, rfl, _, _⟩ := how1.shape
    clear HC
    go_wp2
    go_ret
    exact ⟨_, rfl, how1, hb1⟩
  · have ho : l.any Pl.outB = true := h.resolve_left h40
    have HO := Lib.hid (fun W hW => by have := contains_any A c l W hW (by omega); rw [ho] at this; exact this)
    clear ho h
    go_enter Try.func25, Try.ntmps25
    go_wp2_with fail
    refine HC.out.mono ?_
    rintro e w1 ⟨v1, rfl, how1, hb1⟩
    have hz1 := hb1.size
    obtain ⟨A1, c1, rfl, _, _⟩ := how1.shape
    clear HC
    go_wp2_with fail
    refine (HO.out w1 ((hl.below hb1).more hz1)).mono ?_
    rintro e w2 ⟨rfl, hb2⟩
    clear HO
    go_wp2
    go_ret
    exact ⟨_, rfl, how1.below hb2, hb1.trans (hb2.mono hz1)⟩

theorem clean_any (A : Option Addr) (c : Nat) (l : List Pt) (w : World) (hl : Sl w w.heap.size A l) (hn : l.length ≤ 1000) :
    Calls Try.prog 25 #[.slice A l.length c] w (Fresh w (Pl.clean l)) := by
  by_cases h : 40 < l.length ∨ l.any Pl.outB = true
  · exact clean_far A c l w hl hn h
  · refine clean_loop A c l w hl (by omega) ?_
    cases ho : l.any Pl.outB
    · rfl
    · exact absurd (.inr ho) h
end Go.Proofs.Ytnmmbcgbijinpaa
