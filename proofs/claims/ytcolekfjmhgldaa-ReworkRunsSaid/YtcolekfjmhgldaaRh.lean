/- The reference: Run, Times. -/
import Derived.Test.YtcolekfjmhgldaaRg
namespace Go.Proofs.Ytcolekfjmhgldaa
open Go.RowKit
open Pr (Opn Prg Res)

set_option maxRecDepth 100000 in
set_option maxHeartbeats 4000000 in
theorem rrun_any (A : Option Addr) (c : Nat) (l : List Opn) (eA : Option Addr) (ec : Nat) (es : List (Int × Int)) (most : Int) (w : World) (hl : So w w.heap.size A l) (hk : Oks l) (hcap : Cap w A l.length) (hes : Se w w.heap.size eA es) (hel : es.length ≤ 1000) :
    Calls Try.prog 21 #[.slice A l.length c, .slice eA es.length ec, .int .i64 most] w (RunPost w (Pr.runR l es most)) := by
  have hlen := hk.len
  have hb0 := b_new w (.cells #[.int .i64 0, .slice none 0 0, .slice none 0 0, .int .i64 0] 29)
  have hz0 := Z4.new w
  have HN := Lib.hid (rnew_any A c l _ (hl.to hb0) hk (hcap.to hl hb0))
  have hsz0 := hz0.gl
  have h34 := cells34
  by_cases h0 : Pr.ordE l = 0
  · have hR0 : newR l = (0, Pr.newP l) := by unfold newR; rw [if_pos h0]
    have HRR : Hid (Pr.runR l es most = Pr.runTo l most (es.drop 0) 0 (Pr.newP l)) := by show _ = _; unfold Pr.runR; rw [if_pos h0]; rfl
    have HST := Lib.hid (fun (W : World) (hb : Below w.heap.size w W) (p : Prg) (kd op : Int) dA dc oA oc => fun (hd : Si W W.heap.size dA p.done) (ho : Si W W.heap.size oA p.opn) (h1 : p.done.length ≤ 1000) (h2 : p.opn.length ≤ 1000) => rstep_any A c l W dA dc oA oc p kd op most (hl.to hb) hk (hcap.to hl hb) hd ho h1 h2)
    rw [hR0] at HN
    clear hR0 h0 hcap
    go_enter Try.func21, Try.ntmps21
    go_wp2_with fail
    generalize w.alloc (.cells #[.int .i64 0, .slice none 0 0, .slice none 0 0, .int .i64 0] 29) = W0 at *
    refine HN.out.mono ?_
    rintro e w1 ⟨dv, ov, rfl, hd, ho, hb⟩
    have hLn := newP_len l
    dsimp only at hd ho
    generalize Pr.newP l = P0 at *
    obtain ⟨dA, dc, rfl, -⟩ := hd.shape
    obtain ⟨oA, oc, rfl, -⟩ := ho.shape
    have hPc := Pc.new hd ho
    have hbN := b_al hb (.cells #[.int .i64 P0.state, .slice dA P0.done.length dc, .slice oA P0.opn.length oc, .int .i64 P0.rework] 29)
    have hg1 := hb.size
    clear HN hd ho hb
    go_wp2
    generalize hgp : w1.heap.size = gp at *
    clear hgp
    go_loopw [11] (fun s11 wr => ∃ (k : Nat) (p : Prg) (dv ov : Value), k ≤ es.length ∧ s11 = .int .i64 k ∧ Pc wr W0.heap.size gp dv ov p ∧ Ln l p ∧ Hid (Pr.runR l es most = Pr.runTo l most (es.drop k) k p) ∧ Below W0.heap.size W0 wr) (fun s11 _ => es.length - (intOf s11).toNat)
    case atStart => exact ⟨0, P0, _, _, Nat.zero_le _, rfl, hPc, hLn, HRR, hbN⟩
    case round =>
      clear hPc hLn HRR hbN
      obtain ⟨k, p, dv, ov, hk1, rfl, hP, hLn, hR, hB⟩ := hrel
      have hzr := hz0.below hB
      by_cases hlt : k < es.length
      · obtain ⟨ev, hev⟩ : ∃ ev, es[k]? = some ev := ⟨_, List.getElem?_eq_getElem hlt⟩
        have hbw := b_tr hb0 hB
        obtain ⟨eb, eoff, rfl, heb0, e0, e1⟩ := (hes.to hbw).get hev
        have HC := Lib.hid (runTo_cons (l := l) (most := most) (p := p) hev)
        rw [HC.out] at hR
        obtain ⟨dA2, dc2, rfl, -⟩ := hP.hd.shape
        obtain ⟨oA2, oc2, rfl, -⟩ := hP.ho.shape
        have HS0 := Lib.hid (fun (W : World) (hb : Below wr.heap.size wr W) => HST.out W (b_tr hbw hb) p ev.1 ev.2 dA2 dc2 oA2 oc2 (((oi_si hP.hd).below hb).more hb.size) (((oi_si hP.ho).below hb).more hb.size) (by have := hLn.d; omega) (by have := hLn.o; omega))
        have HLn := Lib.hid (fun h => stepR_len (l := l) (p := p) (k := ev.1) (op := ev.2) (most := most) h)
        have hgl := hP.gl
        have hBs := hB.size
        have i1 : (k : Int) < (es.length : Int) := by omega
        have i2 : (0 : Int) ≤ (k : Int) := by omega
        clear HC hev HST
        generalize Pr.stepR l p ev.1 ev.2 most = S at *
        obtain ⟨E, Q⟩ := S
        dsimp only at hR HLn
        have k0 := hP.c0
        have k1 := hP.c1
        have k2 := hP.c2
        have k3 := hP.c3
        go_upto_region 7 with fail
        go_cut [12, 13] (fun sx sy wx => ∃ g dA dc oA oc, sx = .pointer (some ⟨g, 0, none⟩) ∧ sy = .int .i64 E ∧ Pc wx wr.heap.size g (.slice dA Q.done.length dc) (.slice oA Q.opn.length oc) Q ∧ Below wr.heap.size wr wx)
        case first =>
          have HS := Lib.hid (fun W (hW : HeldS wr gp p.state (.slice dA2 p.done.length dc2) (.slice oA2 p.opn.length oc2) p.rework eb (eoff + k * 2) ev.1 ev.2 W) => HS0.out W hW.2.2.2.2.2.2)
          have HKp := Lib.hid (fun W W' (hbn : Below W.heap.size W W') (hW : HeldS wr gp p.state (.slice dA2 p.done.length dc2) (.slice oA2 p.opn.length oc2) p.rework eb (eoff + k * 2) ev.1 ev.2 W) => HeldS.keep hgl heb0 hbn hW)
          have HSt : Hid (HeldS wr gp p.state (.slice dA2 p.done.length dc2) (.slice oA2 p.opn.length oc2) p.rework eb (eoff + k * 2) ev.1 ev.2 wr.drew) := ⟨k0, k1, k2, k3, e0, e1, below_drewN (Below.refl _ _) 1⟩
          have HSz := Lib.hid (fun W (hW : HeldS wr gp p.state (.slice dA2 p.done.length dc2) (.slice oA2 p.opn.length oc2) p.rework eb (eoff + k * 2) ev.1 ev.2 W) => hW.2.2.2.2.2.2.size)
          have HSet := Lib.hid (fun W G (hG : wr.heap.size ≤ G) (hW : HeldS wr gp p.state (.slice dA2 p.done.length dc2) (.slice oA2 p.opn.length oc2) p.rework eb (eoff + k * 2) ev.1 ev.2 W) u0 u1 u2 u3 => HeldS.set (j := 3) hG hgl heb0 u3 (HeldS.set (j := 2) hG hgl heb0 u2 (HeldS.set (j := 1) hG hgl heb0 u1 (HeldS.set (j := 0) hG hgl heb0 u0 hW))))
          clear HS0 hP hR HLn hzr hes hl hz0
          go_region_held3 (fun w' => w'.cell? ⟨gp, 0, none⟩ = some (.int .i64 p.state) ∧ w'.cell? ⟨gp, 1, none⟩ = some (.slice dA2 p.done.length dc2) ∧ w'.cell? ⟨gp, 2, none⟩ = some (.slice oA2 p.opn.length oc2) ∧ w'.cell? ⟨gp, 3, none⟩ = some (.int .i64 p.rework) ∧ w'.cell? ⟨eb, eoff + k * 2, none⟩ = some (.int .i64 ev.1) ∧ w'.cell? ⟨eb, eoff + k * 2 + 1, none⟩ = some (.int .i64 ev.2) ∧ Below wr.heap.size wr w')
            (first | (with_reducible exact HSt.out) | (with_reducible exact HKp.out _ _ hbn (by with_reducible assumption)) | (with_reducible exact HKp.out _ _ (b_new _ _) (by with_reducible assumption)) | (with_reducible exact HSet.out _ _ (HSz.out _ (by with_reducible assumption)) (by with_reducible assumption) _ _ _ _) | (with_reducible exact HSet.out _ _ (Nat.le_refl _) (by with_reducible assumption) _ _ _ _))
            (first | (go_at_call 19; (with_reducible refine (HS.out _ (by with_reducible assumption)).mono ?_); rintro e w' ⟨dv1, ov1, rfl, hd1, ho1, hbn⟩; obtain ⟨dA1, dc1, rfl, _, _, _, _⟩ := hd1.shape; obtain ⟨oA1, oc1, rfl, _, _, _, _⟩ := ho1.shape; (try (have z := (Z4.new _).below hbn)); (try (have z := (Z4.newd _).below hbn)); (try (have z := z.below hbn)); (try (obtain ⟨z0, z1, z2, z3, zf, zl⟩ := id z)); have hS := HKp.out _ _ hbn (by with_reducible assumption)))
          · have hSS := hS
            have hzz := HSz.out _ hSS
            go_wp2_with fail
            go_meet
            case rel => exact ⟨_, _, _, _, _, rfl, rfl, (Pc.new (p := Q) hd1 ho1).base (Nat.le_refl _), (HKp.out _ _ (b_new _ _) hSS).2.2.2.2.2.2⟩
          · have hSS := hS
            have hbs : wr.heap.size < (wr.alloc (.cells #[.int .i64 0, .slice none 0 0, .slice none 0 0, .int .i64 0] 29)).heap.size := by simp
            go_wp2_with fail
            go_meet
            case rel => exact ⟨_, _, _, _, _, rfl, rfl, Pc.put (p' := Q) (z.pc wr.heap.size) hd1 ho1 (Nat.le_of_lt hbs) hbs, (HSet.out _ _ (Nat.le_refl _) hSS _ _ _ _).2.2.2.2.2.2⟩
        case rest =>
          obtain ⟨g3, dA3, dc3, oA3, oc3, rfl, rfl, hX, hBx⟩ := hcut
          have hPx := hP.below hBx
          have hBw := b_tr hB hBx
          clear k0 k1 k2 k3 HS0
          by_cases hE : E = 0
          · subst hE
            rw [if_pos rfl] at hR
            have hLq := HLn.out rfl
            have hP4 := Lib.hid (hPx.put hX.hd hX.ho hBs hgl)
            have hB4 := Lib.hid (b_set (b_set (b_set (b_set hBw hg1 0 (.int .i64 Q.state)) hg1 1 (.slice dA3 Q.done.length dc3)) hg1 2 (.slice oA3 Q.opn.length oc3)) hg1 3 (.int .i64 Q.rework))
            have d0 := hPx.c0
            have d1 := hPx.c1
            have d2 := hPx.c2
            have d3 := hPx.c3
            have df := hPx.fz
            have x0 := hX.c0
            have x1 := hX.c1
            have x2 := hX.c2
            have x3 := hX.c3
            clear HLn hP hPx hX hzr
            go_wp2
            go_roundw
            case rel => exact ⟨k + 1, Q, _, _, by omega, by go_num, hP4.out, hLq, hR, hB4.out⟩
            case measure => simp [intOf]; omega
          · rw [if_neg hE] at hR
            have hne : (E == 0) = false := by simpa using hE
            obtain ⟨t0, t1, t2, t3, tf, tl⟩ := hz0.below hBw
            have hbX := b_tr hb0 hBw
            clear HLn hP hPx hX hzr
            go_wp2
            refine bodyPost_ret (v := .tuple #[.agg #[.int .i64 0, .slice none 0 0, .slice none 0 0, .int .i64 0], .int .i64 E, .int .i64 (k : Int)]) (by simp [results, Try.results21, go_sem, t0, t1, t2, t3]) rfl ?_
            exact RunPost.bad hR.out (bR hbX (Nat.le_refl _))
      · obtain rfl : k = es.length := by omega
        have HF : Hid (Pr.runR l es most = ⟨0, p, 0⟩) := by show _ = _; rw [hR.out, List.drop_length]; rfl
        have c0 := hP.c0
        have c1 := hP.c1
        have c2 := hP.c2
        have c3 := hP.c3
        have HD := Lib.hid hP.hd
        have HO := Lib.hid hP.ho
        obtain ⟨r0, r1, r2, r3, rf, rl⟩ := hzr
        obtain ⟨dA2, dc2, rfl, -⟩ := hP.hd.shape
        obtain ⟨oA2, oc2, rfl, -⟩ := hP.ho.shape
        have hbX := b_tr hb0 hB
        clear hP hR HST hlt hk1
        go_wp2
        refine bodyPost_ret (v := .tuple #[.agg #[.int .i64 p.state, .slice dA2 p.done.length dc2, .slice oA2 p.opn.length oc2, .int .i64 p.rework], .int .i64 0, .int .i64 0]) (by simp [results, Try.results21, go_sem, r0, r1, r2, r3]) rfl ?_
        exact RunPost.good HF.out (oiR HD.out hsz0) (oiR HO.out hsz0) (bR hbX (Nat.le_refl _)) (by omega)
  · have hR0 : newR l = (Pr.ordE l, Pr.zeroP) := by unfold newR; rw [if_neg h0]
    have HRR : Hid (Pr.runR l es most = ⟨Pr.ordE l, Pr.zeroP, 0⟩) := by show _ = _; unfold Pr.runR; rw [if_neg h0]
    have hne : (Pr.ordE l == 0) = false := by simpa using h0
    rw [hR0] at HN
    generalize Pr.ordE l = E at *
    clear hR0 h0 hcap
    go_enter Try.func21, Try.ntmps21
    go_wp2_with fail
    refine HN.out.mono ?_
    rintro e w1 ⟨dv, ov, rfl, hd, ho, hb⟩
    dsimp only at hd ho
    obtain ⟨dA, dc, rfl, -⟩ := hd.shape
    obtain ⟨oA, oc, rfl, -⟩ := ho.shape
    have hbN := b_al hb (.cells #[.int .i64 Pr.zeroP.state, .slice dA Pr.zeroP.done.length dc, .slice oA Pr.zeroP.opn.length oc, .int .i64 Pr.zeroP.rework] 29)
    obtain ⟨t0, t1, t2, t3, tf, tl⟩ := hz0.below hbN
    have hbX := b_tr hb0 hbN
    clear HN hd ho hb hz0 hbN
    go_wp2
    refine bodyPost_ret (v := .tuple #[.agg #[.int .i64 0, .slice none 0 0, .slice none 0 0, .int .i64 0], .int .i64 E, .int .i64 0]) (by simp [results, Try.results21, go_sem, t0, t1, t2, t3]) rfl ?_
    exact RunPost.bad HRR.out (bR hbX (Nat.le_refl _))

theorem rtimes_any (A : Option Addr) (c : Nat) (l : List Opn) (eA : Option Addr) (ec : Nat) (es : List (Int × Int)) (most : Int) (w : World) (hl : So w w.heap.size A l) (hk : Oks l) (hcap : Cap w A l.length) (hes : Se w w.heap.size eA es) (hel : es.length ≤ 1000) :
    Calls Try.prog 23 #[.slice A l.length c, .slice eA es.length ec, .int .i64 most] w (TimesPost w (Pr.runR l es most)) := by
  have HF := Lib.hid (rrun_any A c l eA ec es most _ hl hk hcap hes hel)
  generalize Pr.runR l es most = R at *
  go_enter Try.func23, Try.ntmps23
  go_wp2_with fail
  refine HF.out.mono ?_
  rintro e w1 ⟨dv, ov, rfl, hd, ho, hb⟩
  have HD := Lib.hid hd
  obtain ⟨dA, dc, rfl, _, _, _, _⟩ := hd.shape
  obtain ⟨oA, oc, rfl, _, _, _, _⟩ := ho.shape
  clear hd ho
  go_wp2
  go_ret2
  exact ⟨_, rfl, HD.out.alloc _, b_al hb _⟩
end Go.Proofs.Ytcolekfjmhgldaa
