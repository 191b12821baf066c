/- The reference: ended, done. -/
import Derived.Test.YtcolekfjmhgldaaRd
namespace Go.Proofs.Ytcolekfjmhgldaa
open Go.RowKit
open Pr (Opn Prg Res)

/-- the cells of a boxed progress -/
structure Bx (w : World) (g : Nat) (st : Int) (dv ov : Value) (rk : Int) : Prop where
  c0 : w.cell? ⟨g, 0, none⟩ = some (.int .i64 st)
  c1 : w.cell? ⟨g, 1, none⟩ = some dv
  c2 : w.cell? ⟨g, 2, none⟩ = some ov
  c3 : w.cell? ⟨g, 3, none⟩ = some (.int .i64 rk)
  gl : g < w.heap.size
theorem Bx.below {w w' : World} {g : Nat} {st : Int} {dv ov : Value} {rk : Int} (h : Bx w g st dv ov rk) (hb : Below w.heap.size w w') : Bx w' g st dv ov rk where
  c0 := (hb.cell (p := ⟨g, 0, none⟩) h.gl).trans h.c0
  c1 := (hb.cell (p := ⟨g, 1, none⟩) h.gl).trans h.c1
  c2 := (hb.cell (p := ⟨g, 2, none⟩) h.gl).trans h.c2
  c3 := (hb.cell (p := ⟨g, 3, none⟩) h.gl).trans h.c3
  gl := Nat.lt_of_lt_of_le h.gl hb.size
theorem Bx.keep {w w' : World} {g B : Nat} {st : Int} {dv ov : Value} {rk : Int} (h : Bx w g st dv ov rk) (hB : g < B) (hb : Below B w w') : Bx w' g st dv ov rk where
  c0 := (hb.cell (p := ⟨g, 0, none⟩) hB).trans h.c0
  c1 := (hb.cell (p := ⟨g, 1, none⟩) hB).trans h.c1
  c2 := (hb.cell (p := ⟨g, 2, none⟩) hB).trans h.c2
  c3 := (hb.cell (p := ⟨g, 3, none⟩) hB).trans h.c3
  gl := Nat.lt_of_lt_of_le h.gl hb.size
theorem Z4.keep {w w' : World} {g B : Nat} (h : Z4 w g) (hB : g < B) (hb : Below B w w') : Z4 w' g where
  c0 := (hb.cell (p := ⟨g, 0, none⟩) hB).trans h.c0
  c1 := (hb.cell (p := ⟨g, 1, none⟩) hB).trans h.c1
  c2 := (hb.cell (p := ⟨g, 2, none⟩) hB).trans h.c2
  c3 := (hb.cell (p := ⟨g, 3, none⟩) hB).trans h.c3
  fz := fun j => (World.frozen?_of_block (hb.block g hB)).trans (h.fz j)
  gl := Nat.lt_of_lt_of_le h.gl hb.size
theorem bx1 (w : World) (st : Int) (dv ov : Value) (rk : Int) : Bx (w.alloc (.cells #[.int .i64 st, dv, ov, .int .i64 rk] 29)) w.heap.size st dv ov rk := by
  obtain ⟨h0, h1, h2, h3⟩ := rboxed w st dv ov rk
  exact ⟨h0, h1, h2, h3, by simp⟩
theorem zx2 (w : World) (o : Obj) : Z4 ((w.alloc o).alloc (.cells #[.int .i64 0, .slice none 0 0, .slice none 0 0, .int .i64 0] 29)) (w.heap.size + 1) := by
  have := Z4.new (w.alloc o)
  rw [size_al] at this
  exact this
/-- a result in its cell -/
theorem oiR {w : World} {base r : Nat} {v a b c d : Value} {l : List Int} (h : Oi w base v l) (hr : r < base) : Oi ((((w.setCell ⟨r, 0, none⟩ a).setCell ⟨r, 1, none⟩ b).setCell ⟨r, 2, none⟩ c).setCell ⟨r, 3, none⟩ d) base v l :=
  (((h.setOther hr _ _).setOther hr _ _).setOther hr _ _).setOther hr _ _
theorem bR {w0 w : World} {r : Nat} {a b c d : Value} (h : Below w0.heap.size w0 w) (hr : w0.heap.size ≤ r) : Below w0.heap.size w0 ((((w.setCell ⟨r, 0, none⟩ a).setCell ⟨r, 1, none⟩ b).setCell ⟨r, 2, none⟩ c).setCell ⟨r, 3, none⟩ d) :=
  b_set (b_set (b_set (b_set h hr _ _) hr _ _) hr _ _) hr _ _

/-- what ended returns -/
def EndPost (w : World) (q : Prg) (e : Ending) (w' : World) : Prop :=
  ∃ dv ov, e = .returned (.agg #[.int .i64 q.state, dv, ov, .int .i64 q.rework]) ∧ Oi w' w.heap.size dv q.done ∧ Oi w' w.heap.size ov q.opn ∧ Below w.heap.size w w'

set_option maxRecDepth 100000 in
set_option maxHeartbeats 2000000 in
theorem ended_any (w : World) (dA : Option Addr) (dc : Nat) (oA : Option Addr) (oc : Nat) (p : Prg) (st : Int) (hd : Si w w.heap.size dA p.done) (ho : Si w w.heap.size oA p.opn) (hdl : p.done.length ≤ 1000) (hol : p.opn.length ≤ 1000) :
    Calls Try.prog 42 #[.agg #[.int .i64 p.state, .slice dA p.done.length dc, .slice oA p.opn.length oc, .int .i64 p.rework], .int .i64 st] w (EndPost w ⟨st, p.done, p.opn, p.rework⟩) := by
  have hb1 := b_al (b_new w (.cells #[.int .i64 p.state, .slice dA p.done.length dc, .slice oA p.opn.length oc, .int .i64 p.rework] 29)) (.cells #[.int .i64 0, .slice none 0 0, .slice none 0 0, .int .i64 0] 29)
  have hx1 := (bx1 w p.state (.slice dA p.done.length dc) (.slice oA p.opn.length oc) p.rework).below (b_new _ (.cells #[.int .i64 0, .slice none 0 0, .slice none 0 0, .int .i64 0] 29))
  have hz1 := zx2 w (.cells #[.int .i64 p.state, .slice dA p.done.length dc, .slice oA p.opn.length oc, .int .i64 p.rework] 29)
  have hP0 := pmE ((w.alloc (.cells #[.int .i64 p.state, .slice dA p.done.length dc, .slice oA p.opn.length oc, .int .i64 p.rework] 29)).alloc (.cells #[.int .i64 0, .slice none 0 0, .slice none 0 0, .int .i64 0] 29)) st p.rework
  have hB2 := b_new ((w.alloc (.cells #[.int .i64 p.state, .slice dA p.done.length dc, .slice oA p.opn.length oc, .int .i64 p.rework] 29)).alloc (.cells #[.int .i64 0, .slice none 0 0, .slice none 0 0, .int .i64 0] 29)) (.cells #[.int .i64 st, .slice none 0 0, .slice none 0 0, .int .i64 p.rework] 29)
  have hsz : ((w.alloc (.cells #[.int .i64 p.state, .slice dA p.done.length dc, .slice oA p.opn.length oc, .int .i64 p.rework] 29)).alloc (.cells #[.int .i64 0, .slice none 0 0, .slice none 0 0, .int .i64 0] 29)).heap.size = w.heap.size + 1 + 1 := by rw [size_al, size_al]
  go_enter Try.func42, Try.ntmps42
  go_upto_region 2 with fail
  generalize (w.alloc (.cells #[.int .i64 p.state, .slice dA p.done.length dc, .slice oA p.opn.length oc, .int .i64 p.rework] 29)).alloc (.cells #[.int .i64 0, .slice none 0 0, .slice none 0 0, .int .i64 0] 29) = W1 at *
  have hx2 := hx1.below hB2
  have hz2 := hz1.below hB2
  have hb2 := b_tr hb1 hB2
  rw [hsz] at hP0
  have hs2 : w.heap.size + 1 + 1 ≤ (W1.alloc (.cells #[.int .i64 st, .slice none 0 0, .slice none 0 0, .int .i64 p.rework] 29)).heap.size := by rw [size_al]; omega
  clear hx1 hz1 hB2 hb1 hsz
  generalize W1.alloc (.cells #[.int .i64 st, .slice none 0 0, .slice none 0 0, .int .i64 p.rework] 29) = W2 at *
  clear W1
  have c1 := hP0.c1
  have r1 := hx2.c1
  have hd2 := (hd.below hb2).more hb2.size
  have HAT := Lib.hid (fun w5 hg5 => hP0.atDone (w5 := w5) hg5)
  have HAP := Lib.hid (fun w5 v5 hg5 how hat => hP0.appDone (w5 := w5) (v5 := v5) (d := [] ++ p.done) hg5 how hat)
  have HBA := Lib.hid (fun w5 v5 hg5 => b_apps (j := 1) (v5 := v5) (w5 := w5) (Below.refl (w.heap.size + 1 + 1) W2) hs2 hP0.hd hg5 hP0.gb)
  have HOW := Lib.hid hP0.hd
  dsimp only at HAP HOW
  clear hP0
  go_upto_region 3 with (at_builtin; refine wpList_append_ints _ rfl _ _ rfl (w.heap.size + 1 + 1) _ [] rfl HOW.out _ _ p.done _ _ rfl rfl hd2 (by rw [List.length_nil]; omega) hs2 ?_; intro v5 w5 how5 hg5 hat5; obtain ⟨f1, f2⟩ := HAT.out _ hg5; have f3 := (f1 1).trans c1; clear f1; obtain ⟨A5, c5, hv5, -⟩ := how5.shape; rw [List.nil_append] at hv5; subst hv5)
  have hP3 := HAP.out _ _ hg5 how5 hat5
  have hB3 := HBA.out _ (.slice A5 p.done.length c5) hg5
  clear HAT HAP HBA HOW f2 f3 hat5 hg5 how5
  generalize w5.setCell ⟨w.heap.size + 1 + 1, 1, none⟩ (.slice A5 p.done.length c5) = W3 at *
  clear w5
  have hx3 := hx2.keep (by omega) hB3
  have hz3 := hz2.keep (by omega) hB3
  have hb3 : Below w.heap.size w W3 := hb2.trans (hB3.mono (by omega))
  have hs3 := Nat.le_trans hs2 hB3.size
  clear hx2 hz2 hb2 c1 r1 hd2 hd
  have ho3 := (ho.below hb3).more hb3.size
  have c2 := hP3.c2
  have r2 := hx3.c2
  have HAT := Lib.hid (fun w5 hg5 => hP3.atOpn (w5 := w5) hg5)
  have HAP := Lib.hid (fun w5 v5 hg5 how hat => hP3.appOpn (w5 := w5) (v5 := v5) (d := [] ++ p.opn) hg5 how hat)
  have HBA := Lib.hid (fun w5 v5 hg5 => b_apps (j := 2) (v5 := v5) (w5 := w5) (Below.refl (w.heap.size + 1 + 1) W3) hs3 hP3.ho hg5 hP3.gb)
  have HOW := Lib.hid hP3.ho
  dsimp only at HAP HOW
  clear hP3
  go_upto_region 4 with (at_builtin; refine wpList_append_ints _ rfl _ _ rfl (w.heap.size + 1 + 1) _ [] rfl HOW.out _ _ p.opn _ _ rfl rfl ho3 (by rw [List.length_nil]; omega) hs3 ?_; intro v5 w5 how5 hg5 hat5; obtain ⟨f1, f2⟩ := HAT.out _ hg5; have f3 := (f1 2).trans c2; clear f1; obtain ⟨A6, c6, hv5, -⟩ := how5.shape; rw [List.nil_append] at hv5; subst hv5)
  have hP4 := HAP.out _ _ hg5 how5 hat5
  have hB4 := HBA.out _ (.slice A6 p.opn.length c6) hg5
  clear HAT HAP HBA HOW f2 f3 hat5 hg5 how5
  generalize w5.setCell ⟨w.heap.size + 1 + 1, 2, none⟩ (.slice A6 p.opn.length c6) = W4 at *
  clear w5
  obtain ⟨s0, s1, s2, s3, sf, sl⟩ := hz3.keep (by omega) hB4
  have hb4 : Below w.heap.size w W4 := hb3.trans (hB4.mono (by omega))
  have d0 := hP4.c0
  have d1 := hP4.c1
  have d2 := hP4.c2
  have d3 := hP4.c3
  have HD := Lib.hid hP4.hd
  have HO := Lib.hid hP4.ho
  dsimp only [List.nil_append] at d0 d3 HD HO
  clear hP4 hB4 hx3 hz3 hb3 c2 r2 ho3 ho
  go_wp2
  refine bodyPost_ret (v := .agg #[.int .i64 st, .slice A5 p.done.length c5, .slice A6 p.opn.length c6, .int .i64 p.rework]) (by simp [results, Try.results42, go_sem, s0, s1, s2, s3]) rfl ?_
  exact ⟨_, _, rfl, (oiR HD.out (by omega)).base_le (by omega), (oiR HO.out (by omega)).base_le (by omega), bR hb4 (by omega)⟩

/-- the completions after op was completed -/
def dnL (p : Prg) (q : Nat) : List Int := p.done.set q (p.done.getD q 0 + 1)
theorem dnL_len (p : Prg) (q : Nat) : (dnL p q).length = p.done.length := List.length_set
theorem dnL_same {p : Prg} {q : Nat} {x : Int} (h : p.done[q]? = some x) : (dnL p q)[q]? = some (x + 1) := by
  unfold dnL
  rw [List.getElem?_set_self (List.getElem?_eq_some_iff.1 h).1, List.getD_eq_getElem?_getD, h]
  rfl
theorem dnL_other {p : Prg} {q k : Nat} {x : Int} (hk : q ≠ k) (h : p.done[k]? = some x) : (dnL p q)[k]? = some x := by
  unfold dnL
  rw [List.getElem?_set_ne hk]
  exact h
/-- the operations that stay open -/
def opF (p : Prg) (q : Nat) (x : Int) : Bool := decide (x ≠ (q : Int)) && decide (x ∈ p.opn)
theorem opF_erase {l : List Opn} {p : Prg} (hV : Vld l p) (q : Nat) : (Pr.ids l.length).filter (opF p q) = p.opn.erase (q : Int) := by
  refine asc_unique ((ids_asc _).filter _) (hV.asc.sublist List.erase_sublist) (fun x => ?_)
  rw [List.mem_filter, mem_ids, hV.nodup.mem_erase_iff]
  unfold opF
  simp only [Bool.and_eq_true, decide_eq_true_eq]
  constructor
  · exact fun h => h.2
  · exact fun h => ⟨hV.rng x h.2, h⟩

set_option maxRecDepth 100000 in
set_option maxHeartbeats 4000000 in
theorem rdone_any (A : Option Addr) (c : Nat) (l : List Opn) (w : World) (dA : Option Addr) (dc : Nat) (oA : Option Addr) (oc : Nat) (p : Prg) (q : Nat) (hl : So w w.heap.size A l) (hk : Oks l)
    (hd : Si w w.heap.size dA p.done) (ho : Si w w.heap.size oA p.opn) (hV : Vld l p) (hq : q < l.length) :
    Calls Try.prog 40 #[.slice A l.length c, .agg #[.int .i64 p.state, .slice dA p.done.length dc, .slice oA p.opn.length oc, .int .i64 p.rework], .int .i64 (q : Int)] w (PrPost w (Pr.doneR l p (q : Int))) := by
  have hlen := hk.len
  have HDL := Lib.hid hV.dl
  have hol := hV.ol
  have hb1 := b_al (b_new w (.cells #[.int .i64 p.state, .slice dA p.done.length dc, .slice oA p.opn.length oc, .int .i64 p.rework] 29)) (.cells #[.int .i64 0, .slice none 0 0, .slice none 0 0, .int .i64 0] 29)
  have hx1 := (bx1 w p.state (.slice dA p.done.length dc) (.slice oA p.opn.length oc) p.rework).below (b_new _ (.cells #[.int .i64 0, .slice none 0 0, .slice none 0 0, .int .i64 0] 29))
  have hz1 := zx2 w (.cells #[.int .i64 p.state, .slice dA p.done.length dc, .slice oA p.opn.length oc, .int .i64 p.rework] 29)
  have hr1 : ¬ ((q : Int) < 0 ∨ (l.length : Int) ≤ (q : Int)) := by omega
  have HI := Lib.hid (fun (W : World) (x : Int) (hb : Below w.heap.size w W) => in_any oA oc p.opn x W ((ho.below hb).more hb.size) (by omega))
  have HW := Lib.hid (fun (W : World) (hb : Below w.heap.size w W) => waiting_any A c l W dA dc oA oc p q (hl.to hb) hk hq ((ho.below hb).more hb.size) (by omega))
  have HI1 := Lib.hid (HI.out _ (q : Int) hb1)
  have HW1 := Lib.hid (HW.out _ hb1)
  have hsz : ((w.alloc (.cells #[.int .i64 p.state, .slice dA p.done.length dc, .slice oA p.opn.length oc, .int .i64 p.rework] 29)).alloc (.cells #[.int .i64 0, .slice none 0 0, .slice none 0 0, .int .i64 0] 29)).heap.size = w.heap.size + 1 + 1 := by rw [size_al, size_al]
  by_cases m1 : (q : Int) ∈ p.opn
  · rw [decide_eq_true m1] at HI1
    cases m2 : Pr.waitsB l p.opn q with
    | true =>
      rw [m2] at HW1
      have HR : Hid (Pr.doneR l p (q : Int) = (21, Pr.zeroP)) := by show _ = _; unfold Pr.doneR; rw [if_neg hr1, if_neg (by simpa using m1), Int.toNat_natCast, if_pos m2]
      clear m1 m2 HI HW hr1
      go_enter Try.func40, Try.ntmps40
      go_upto_region 1 with fail
      generalize (w.alloc (.cells #[.int .i64 p.state, .slice dA p.done.length dc, .slice oA p.opn.length oc, .int .i64 p.rework] 29)).alloc (.cells #[.int .i64 0, .slice none 0 0, .slice none 0 0, .int .i64 0] 29) = W1 at *
      obtain ⟨r0, r1, r2, r3, rl⟩ := hx1
      go_wp2_with fail
      refine HI1.out.mono ?_
      rintro e w2 ⟨rfl, rfl⟩
      go_wp2_with fail
      refine HW1.out.mono ?_
      rintro e w3 ⟨rfl, hb3⟩
      obtain ⟨s0, s1, s2, s3, sf, sl⟩ := hz1.below hb3
      have hbX := b_tr hb1 hb3
      go_wp2
      refine bodyPost_ret (v := .tuple #[.agg #[.int .i64 0, .slice none 0 0, .slice none 0 0, .int .i64 0], .int .i64 21]) (by simp [results, Try.results40, go_sem, s0, s1, s2, s3]) rfl ?_
      exact PrPost.bad HR.out (bR hbX (by omega))
    | false =>
      rw [m2] at HW1
      have HR : Hid (Pr.doneR l p (q : Int) = (0, ⟨if (Pr.ids l.length).filter (opF p q) = [] then 1 else p.state, dnL p q, (Pr.ids l.length).filter (opF p q), p.rework⟩)) := by
        show _ = _
        unfold Pr.doneR
        rw [if_neg hr1, if_neg (by simpa using m1), Int.toNat_natCast, if_neg (by rw [m2]; simp), opF_erase hV]
        rfl
      have HDB := Lib.hid (cntB_mem hV.cnt)
      clear m1 m2 HW hr1 hV
      go_enter Try.func40, Try.ntmps40
      go_upto_region 1 with fail
      generalize (w.alloc (.cells #[.int .i64 p.state, .slice dA p.done.length dc, .slice oA p.opn.length oc, .int .i64 p.rework] 29)).alloc (.cells #[.int .i64 0, .slice none 0 0, .slice none 0 0, .int .i64 0] 29) = W1 at *
      obtain ⟨r0, r1, r2, r3, rl⟩ := id hx1
      go_wp2_with fail
      refine HI1.out.mono ?_
      rintro e w2 ⟨rfl, rfl⟩
      go_wp2_with fail
      refine HW1.out.mono ?_
      rintro e w3 ⟨rfl, hb3⟩
      have hx3 := hx1.below hb3
      have hz3 := hz1.below hb3
      have hbw := b_tr hb1 hb3
      have hs3 : w.heap.size + 1 + 1 ≤ w3.heap.size := by have := hb3.size; omega
      have hP0 := pmE w3 p.state p.rework
      have hB0 := b_new w3 (.cells #[.int .i64 p.state, .slice none 0 0, .slice none 0 0, .int .i64 p.rework] 29)
      clear hx1 hz1 hb3 HI1 HW1 r0 r1 r2 r3 rl hb1 hsz
      obtain ⟨r0, r1, r2, r3, rl⟩ := id hx3
      go_upto_region 6 with fail
      clear r0 r1 r2 r3 rl
      generalize w3.alloc (.cells #[.int .i64 p.state, .slice none 0 0, .slice none 0 0, .int .i64 p.rework] 29) = W4 at *
      go_wp2
      go_loopw [9] (fun s9 wr => ∃ (k : Nat) (dv ov : Value), k ≤ l.length ∧ s9 = .int .i64 k ∧ Pm wr w3.heap.size w3.heap.size dv ov ⟨p.state, (dnL p q).take k, (Pr.ids k).filter (opF p q), p.rework⟩ ∧ Below w3.heap.size w3 wr) (fun s9 _ => l.length - (intOf s9).toNat)
      case atStart => exact ⟨0, _, _, Nat.zero_le _, rfl, hP0, hB0⟩
      case round =>
        clear hP0 hB0
        obtain ⟨k, dv, ov, hk1, rfl, hP, hB⟩ := hrel
        have hxr := hx3.below hB
        have htl : k ≤ l.length → ((dnL p q).take k).length = k := fun h => by rw [List.length_take, dnL_len, HDL.out]; omega
        obtain ⟨dA2, dc2, hdv, -⟩ := hP.hd.shape
        have hdv2 : dv = .slice dA2 k dc2 := by rw [hdv]; show Value.slice dA2 ((dnL p q).take k).length dc2 = _; rw [htl hk1]
        clear hdv
        subst hdv2
        obtain ⟨oA2, oc2, hov, -⟩ := hP.ho.shape
        obtain ⟨n2, hn2⟩ : ∃ n, n = ((Pr.ids k).filter (opF p q)).length := ⟨_, rfl⟩
        have hov2 : ov = .slice oA2 n2 oc2 := by rw [hov, hn2]
        have hn2k : n2 ≤ k := by rw [hn2]; have := List.length_filter_le (opF p q) (Pr.ids k); rw [ids_length] at this; exact this
        have HN2 := Lib.hid hn2
        clear hov hn2
        subst hov2
        by_cases hlt : k < l.length
        · obtain ⟨x, hx⟩ := get_ex HDL.out hlt
          obtain ⟨x0, x1⟩ := HDB.out x (List.mem_of_getElem? hx)
          obtain ⟨db, doff, rfl, hdb, cx0⟩ := si_get hd hx
          have hbwr := b_tr hbw hB
          have cx := (hbwr.cell (p := ⟨db, doff + k, none⟩) hdb).trans cx0
          have t1 := hxr.c1
          have t2 := hxr.c2
          have c1 := hP.c1
          have HFS := Lib.hid (filter_ids_succ (opF p q) k)
          have hkd : (k : Int) < (p.done.length : Int) := by rw [HDL.out]; omega
          by_cases hkq : q = k
          · subst hkq
            have hy := dnL_same hx
            have HTS := Lib.hid (take_succ_of hy)
            have HF2 : Hid ((Pr.ids (q + 1)).filter (opF p q) = (Pr.ids q).filter (opF p q)) := by
              show _ = _
              rw [HFS.out, if_neg (by unfold opF; simp), List.append_nil]
            have hP1 := hP.below (b_new wr (.cells #[.int .i64 (x + 1)] 3))
            have hB1 := b_al hB (.cells #[.int .i64 (x + 1)] 3)
            have HAT := Lib.hid (fun w5 hg5 => hP1.atDone (w5 := w5) hg5)
            have HC1 := Lib.hid hP1.c1
            have HAP := Lib.hid (fun w5 v5 hg5 how hat => hP1.appDone (w5 := w5) (v5 := v5) (d := (dnL p q).take q ++ [x + 1]) hg5 how hat)
            have HBA := Lib.hid (fun w5 v5 hg5 => b_apps (j := 1) (v5 := v5) (w5 := w5) hB1 hB1.size hP1.hd hg5 hP1.gb)
            have HOW := Lib.hid hP1.hd
            have HTL := Lib.hid (htl (by omega))
            dsimp only at HC1 HAP HOW c1 HAT HBA
            clear hP hP1 hx hy cx0 hxr HI HFS
            go_wp2_with (at_builtin; refine wpList_append_ints _ rfl _ _ rfl w3.heap.size _ _ rfl HOW.out _ _ [x + 1] _ _ rfl rfl (one_cell _ _) (by rw [List.length_singleton, HTL.out]; omega) hB1.size ?_; intro v5 w5 how5 hg5 hat5; obtain ⟨f1, f2⟩ := HAT.out _ hg5; have f3 := (f1 1).trans HC1.out; clear f1; obtain ⟨A5, c5, hv5, -⟩ := how5.shape; rw [List.length_append, HTL.out, List.length_singleton] at hv5; subst hv5)
            go_roundw
            case rel => exact ⟨q + 1, _, _, by omega, by go_num, by rw [HTS.out, HF2.out]; exact HAP.out _ _ hg5 how5 hat5, HBA.out _ _ hg5⟩
            case measure => simp [intOf]; omega
          · have hy := dnL_other (q := q) hkq hx
            have HTS := Lib.hid (take_succ_of hy)
            have hP1 := hP.below (b_new wr (.cells #[.int .i64 x] 3))
            have hB1 := b_al hB (.cells #[.int .i64 x] 3)
            have HAT := Lib.hid (fun w5 hg5 => hP1.atDone (w5 := w5) hg5)
            have HC1 := Lib.hid hP1.c1
            have HAP := Lib.hid (fun w5 v5 hg5 how hat => hP1.appDone (w5 := w5) (v5 := v5) (d := (dnL p q).take k ++ [x]) hg5 how hat)
            have HBA := Lib.hid (fun w5 v5 hg5 => b_apps (j := 1) (v5 := v5) (w5 := w5) hB1 hB1.size hP1.hd hg5 hP1.gb)
            have HOW := Lib.hid hP1.hd
            have HTL := Lib.hid (htl (by omega))
            have hkq' : ((k : Int) == (q : Int)) = false := by simp; omega
            have HFB : Hid (opF p q (k : Int) = decide ((k : Int) ∈ p.opn)) := by show _ = _; unfold opF; rw [decide_eq_true (show (k : Int) ≠ (q : Int) by omega)]; rfl
            dsimp only at HC1 HAP HOW c1 HAT HBA
            clear hP hP1 hx hy cx0 hxr
            go_upto_region 13 with (at_builtin; refine wpList_append_ints _ rfl _ _ rfl w3.heap.size _ _ rfl HOW.out _ _ [x] _ _ rfl rfl (one_cell _ _) (by rw [List.length_singleton, HTL.out]; omega) hB1.size ?_; intro v5 w5 how5 hg5 hat5; obtain ⟨f1, f2⟩ := HAT.out _ hg5; have f3 := (f1 1).trans HC1.out; clear f1; obtain ⟨A5, c5, hv5, -⟩ := how5.shape; rw [List.length_append, HTL.out, List.length_singleton] at hv5; subst hv5)
            have hP6 := HAP.out _ _ hg5 how5 hat5
            have hB6 := HBA.out _ (.slice A5 (k + 1) c5) hg5
            rw [← HTS.out] at hP6
            clear HAT HC1 HAP HBA HOW f2 f3 hat5 hg5 how5 t1 t2 cx c1 hB1 hbwr
            generalize w5.setCell ⟨w3.heap.size, 1, none⟩ (.slice A5 (k + 1) c5) = W6 at *
            have hx6 := hx3.below hB6
            have t2 := hx6.c2
            have HI6 := Lib.hid (HI.out W6 (k : Int) (b_tr hbw hB6))
            cases hm : decide ((k : Int) ∈ p.opn) with
            | true =>
              rw [hm] at HI6
              have HF2 : Hid ((Pr.ids (k + 1)).filter (opF p q) = (Pr.ids k).filter (opF p q) ++ [(k : Int)]) := by show _ = _; rw [HFS.out, HFB.out, hm, if_pos rfl]
              have hP7 := hP6.below (b_new W6 (.cells #[.int .i64 (k : Int)] 3))
              have hB7 := b_al hB6 (.cells #[.int .i64 (k : Int)] 3)
              have c2 := hP6.c2
              have HAT := Lib.hid (fun w5 hg5 => hP7.atOpn (w5 := w5) hg5)
              have HC2 := Lib.hid hP7.c2
              have HAP := Lib.hid (fun w5 v5 hg5 how hat => hP7.appOpn (w5 := w5) (v5 := v5) (d := (Pr.ids k).filter (opF p q) ++ [(k : Int)]) hg5 how hat)
              have HBA := Lib.hid (fun w5 v5 hg5 => b_apps (j := 2) (v5 := v5) (w5 := w5) hB7 hB7.size hP7.ho hg5 hP7.gb)
              have HOW := Lib.hid hP7.ho
              dsimp only at HC2 HAP HOW c2 HAT HBA
              clear hP6 hP7 hx6 hm HFS HFB
              go_wp2_with fail
              refine HI6.out.mono ?_
              rintro e w7 ⟨rfl, rfl⟩
              go_wp2_with (at_builtin; refine wpList_append_ints _ rfl _ _ rfl w3.heap.size _ _ rfl HOW.out _ _ [(k : Int)] _ _ rfl rfl (one_cell _ _) (by rw [List.length_singleton, ← HN2.out]; omega) hB7.size ?_; intro v5 w5 how5 hg5 hat5; obtain ⟨f1, f2⟩ := HAT.out _ hg5; have f3 := (f1 2).trans HC2.out; clear f1; obtain ⟨A7, c7, hv5, -⟩ := how5.shape; rw [List.length_append, ← HN2.out, List.length_singleton] at hv5; subst hv5)
              go_roundw
              case rel => exact ⟨k + 1, _, _, by omega, by go_num, by rw [HF2.out]; exact HAP.out _ _ hg5 how5 hat5, HBA.out _ _ hg5⟩
              case measure => simp [intOf]; omega
            | false =>
              rw [hm] at HI6
              have HF2 : Hid ((Pr.ids (k + 1)).filter (opF p q) = (Pr.ids k).filter (opF p q)) := by show _ = _; rw [HFS.out, HFB.out, hm, if_neg (by simp), List.append_nil]
              clear hx6 hm HFS HFB
              go_wp2_with fail
              refine HI6.out.mono ?_
              rintro e w7 ⟨rfl, rfl⟩
              go_wp2
              go_roundw
              case rel => exact ⟨k + 1, _, _, by omega, by go_num, by rw [HF2.out]; exact hP6, hB6⟩
              case measure => simp [intOf]; omega
        · obtain rfl : k = l.length := by omega
          rw [List.take_of_length_le (by rw [dnL_len, HDL.out]; exact Nat.le_refl _)] at hP
          have HO2 : Hid ((Pr.ids l.length).filter (opF p q) = [] ↔ n2 = 0) := by
            show _ ↔ _
            rw [HN2.out]
            exact List.length_eq_zero_iff.symm
          have c2 := hP.c2
          have c0 := hP.c0
          have f0 := hP.fz 0
          have hgb := hP.gb
          have hb0 : w.heap.size ≤ w3.heap.size := by omega
          clear hxr hk1 hlt HI HDB
          by_cases hn0 : n2 = 0
          · have HR2 : Hid (Pr.doneR l p (q : Int) = (0, ⟨1, dnL p q, (Pr.ids l.length).filter (opF p q), p.rework⟩)) := by show _ = _; rw [HR.out, if_pos (HO2.out.2 hn0)]
            have hP8 := hP.state 1
            have hB8 : Below w3.heap.size w3 (wr.setCell ⟨w3.heap.size, 0, none⟩ (.int .i64 1)) := hB.setCell hgb _
            subst hn0
            clear HR HO2 hP
            go_upto_region 17 with fail
            generalize wr.setCell ⟨w3.heap.size, 0, none⟩ (.int .i64 1) = W8 at *
            obtain ⟨s0, s1, s2, s3, sf, sl⟩ := hz3.below hB8
            have hbX := b_tr hbw hB8
            have d0 := hP8.c0
            have d1 := hP8.c1
            have d2 := hP8.c2
            have d3 := hP8.c3
            have HD := Lib.hid hP8.hd
            have HE := Lib.hid hP8.ho
            dsimp only at d0 d3 HD HE
            clear hP8 c0 c2 f0
            go_wp2
            refine bodyPost_ret (v := .tuple #[.agg #[.int .i64 1, .slice dA2 l.length dc2, .slice oA2 0 oc2, .int .i64 p.rework], .int .i64 0]) (by simp [results, Try.results40, go_sem, s0, s1, s2, s3]) rfl ?_
            exact PrPost.good HR2.out (oiR HD.out (by omega)) (oiR HE.out (by omega)) (bR hbX (by omega)) hb0
          · have HR2 : Hid (Pr.doneR l p (q : Int) = (0, ⟨p.state, dnL p q, (Pr.ids l.length).filter (opF p q), p.rework⟩)) := by show _ = _; rw [HR.out, if_neg (fun e => hn0 (HO2.out.1 e))]
            have hn0' : ((n2 : Int) == 0) = false := by simp; omega
            obtain ⟨s0, s1, s2, s3, sf, sl⟩ := hz3.below hB
            have hbX := b_tr hbw hB
            have d0 := hP.c0
            have d1 := hP.c1
            have d3 := hP.c3
            have HD := Lib.hid hP.hd
            have HE := Lib.hid hP.ho
            dsimp only at d0 d3 HD HE
            clear HR HO2 hP c0
            go_wp2
            refine bodyPost_ret (v := .tuple #[.agg #[.int .i64 p.state, .slice dA2 l.length dc2, .slice oA2 n2 oc2, .int .i64 p.rework], .int .i64 0]) (by simp [results, Try.results40, go_sem, s0, s1, s2, s3]) rfl ?_
            exact PrPost.good (p := ⟨p.state, dnL p q, (Pr.ids l.length).filter (opF p q), p.rework⟩) HR2.out (oiR HD.out (by omega)) (oiR HE.out (by omega)) (bR hbX (by omega)) hb0
  · rw [decide_eq_false m1] at HI1
    have HR : Hid (Pr.doneR l p (q : Int) = (8, Pr.zeroP)) := by show _ = _; unfold Pr.doneR; rw [if_neg hr1, if_pos m1]
    clear m1 HI HW hr1 HW1
    go_enter Try.func40, Try.ntmps40
    go_upto_region 1 with fail
    generalize (w.alloc (.cells #[.int .i64 p.state, .slice dA p.done.length dc, .slice oA p.opn.length oc, .int .i64 p.rework] 29)).alloc (.cells #[.int .i64 0, .slice none 0 0, .slice none 0 0, .int .i64 0] 29) = W1 at *
    obtain ⟨r0, r1, r2, r3, rl⟩ := hx1
    go_wp2_with fail
    refine HI1.out.mono ?_
    rintro e w2 ⟨rfl, rfl⟩
    obtain ⟨s0, s1, s2, s3, sf, sl⟩ := hz1
    go_wp2
    refine bodyPost_ret (v := .tuple #[.agg #[.int .i64 0, .slice none 0 0, .slice none 0 0, .int .i64 0], .int .i64 8]) (by simp [results, Try.results40, go_sem, s0, s1, s2, s3]) rfl ?_
    exact PrPost.bad HR.out (bR hb1 (by omega))
end Go.Proofs.Ytcolekfjmhgldaa
