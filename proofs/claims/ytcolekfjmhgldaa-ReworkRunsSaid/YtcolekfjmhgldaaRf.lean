/- The reference: defect. -/
import Derived.Test.YtcolekfjmhgldaaRe
import Derived.Deep.RegionLaw
namespace Go.Proofs.Ytcolekfjmhgldaa
open Go.RowKit
open Pr (Opn Prg Res)

theorem step_append_ints {ops : Array Oper} {o : Oper} {a : Act} {K : Act → World → Prop} {Q : Exit → Act → World → Prop} {E : Prop} (w : World) (hgd : o.guard = none) (s x : Operand)
    (ho : o.op = .call { callee := .builtin .append, args := #[s, x], argTypes := #[25, 25] })
    (base : Nat) (v : Value) (l1 : List Int) (hv : a.eval s = v) (hown : Oi w base v l1) (B : Nat) (A : Option Addr) (l2 : List Int) (n c : Nat) (hx : a.eval x = .slice A n c) (hn : n = l2.length) (hs : Si w B A l2)
    (hlen : l1.length + l2.length ≤ 65536) (hbase : base ≤ w.heap.size)
    (h : ∀ v' w', Oi w' base v' (l1 ++ l2) → w.grownBy w' v.ownBlock → (v'.ownBlock = v.ownBlock ∨ v'.ownBlock = some w.heap.size) → K (a.put o.dst v') w') :
    if Region.wanted o (yielded ops a.tmps) = true then Oper.wp Try.prog o a w K Q else E := by
  have hw : Region.wanted o (yielded ops a.tmps) = true := by simp [Region.wanted, hgd]
  rw [if_pos hw]
  exact wp_append_ints w s x ho base v l1 hv hown B A l2 n c hx hn hs hlen hbase h
theorem Pm.drew {w : World} {base g : Nat} {dv ov : Value} {p : Prg} (h : Pm w base g dv ov p) : Pm w.drew base g dv ov p := ⟨h.c0, h.c1, h.c2, h.c3, h.fz, h.gb, h.gl, h.hd, h.ho, h.nd, h.no, h.ne⟩
theorem one_drew (w : World) (x : Int) : Si (w.alloc (.cells #[.int .i64 x] 3)).drew (w.heap.size + 1) (some ⟨w.heap.size, 0, none⟩) [x] := one_cell w x

/-- the operations that are open after a defect -/
def dfF (l : List Opn) (p : Prg) (q : Nat) (x : Int) : Bool := decide (x ∈ p.opn) || decide (x = (q : Int)) || Pr.folB l (q : Int) x.toNat
theorem dfF_at (l : List Opn) (p : Prg) (q k : Nat) : dfF l p q (k : Int) = (decide ((k : Int) ∈ p.opn) || decide (k = q) || Pr.folB l (q : Int) k) := by
  unfold dfF
  rw [Int.toNat_natCast]
  have : decide ((k : Int) = (q : Int)) = decide (k = q) := by simp; omega
  rw [this]

set_option maxRecDepth 100000 in
set_option maxHeartbeats 4000000 in
theorem rdefect_any (A : Option Addr) (c : Nat) (l : List Opn) (w : World) (dA : Option Addr) (dc : Nat) (oA : Option Addr) (oc : Nat) (p : Prg) (q : Nat) (most : Int) (hl : So w w.heap.size A l) (hk : Oks l) (hcap : Cap w A l.length) (hord : Pr.ordE l = 0)
    (hd : Si w w.heap.size dA p.done) (ho : Si w w.heap.size oA p.opn) (hV : Vld l p) (hq : q < l.length) :
    Calls Try.prog 41 #[.slice A l.length c, .agg #[.int .i64 p.state, .slice dA p.done.length dc, .slice oA p.opn.length oc, .int .i64 p.rework], .int .i64 (q : Int), .int .i64 most] w (PrPost w (Pr.defectR l p (q : Int) most)) := by
  have hlen := hk.len
  have HDL := Lib.hid hV.dl
  have hol := hV.ol
  have hrw1 := hV.r1
  have hrw2 := hV.r2
  have hb1 := b_al (b_new w (.cells #[.int .i64 p.state, .slice dA p.done.length dc, .slice oA p.opn.length oc, .int .i64 p.rework] 29)) (.cells #[.int .i64 0, .slice none 0 0, .slice none 0 0, .int .i64 0] 29)
  have hx1 := (bx1 w p.state (.slice dA p.done.length dc) (.slice oA p.opn.length oc) p.rework).below (b_new _ (.cells #[.int .i64 0, .slice none 0 0, .slice none 0 0, .int .i64 0] 29))
  have hz1 := zx2 w (.cells #[.int .i64 p.state, .slice dA p.done.length dc, .slice oA p.opn.length oc, .int .i64 p.rework] 29)
  have hr1 : ¬ ((q : Int) < 0 ∨ (l.length : Int) ≤ (q : Int)) := by omega
  have HI := Lib.hid (fun (W : World) (x : Int) (hb : Below w.heap.size w W) => in_any oA oc p.opn x W ((ho.below hb).more hb.size) (by omega))
  have HBF := Lib.hid (fun (W : World) (x : Int) (hb : Below w.heap.size w W) => rbefore_any A c l (q : Int) x W (hl.to hb) hk (hcap.to hl hb))
  have HI1 := Lib.hid (HI.out _ (q : Int) hb1)
  have hsz : ((w.alloc (.cells #[.int .i64 p.state, .slice dA p.done.length dc, .slice oA p.opn.length oc, .int .i64 p.rework] 29)).alloc (.cells #[.int .i64 0, .slice none 0 0, .slice none 0 0, .int .i64 0] 29)).heap.size = w.heap.size + 1 + 1 := by rw [size_al, size_al]
  by_cases m1 : (q : Int) ∈ p.opn
  · rw [decide_eq_true m1] at HI1
    have HR : Hid (Pr.defectR l p (q : Int) most = (8, Pr.zeroP)) := by show _ = _; unfold Pr.defectR; rw [if_neg hr1, if_pos m1]
    clear m1 HI HBF hr1
    go_enter Try.func41, Try.ntmps41
    go_upto_region 1 with fail
    generalize (w.alloc (.cells #[.int .i64 p.state, .slice dA p.done.length dc, .slice oA p.opn.length oc, .int .i64 p.rework] 29)).alloc (.cells #[.int .i64 0, .slice none 0 0, .slice none 0 0, .int .i64 0] 29) = W1 at *
    obtain ⟨r0, r1, r2, r3, rl⟩ := hx1
    go_wp2_with fail
    refine HI1.out.mono ?_
    rintro e w2 ⟨rfl, rfl⟩
    obtain ⟨s0, s1, s2, s3, sf, sl⟩ := hz1
    go_wp2
    refine bodyPost_ret (v := .tuple #[.agg #[.int .i64 0, .slice none 0 0, .slice none 0 0, .int .i64 0], .int .i64 8]) (by simp [results, Try.results41, go_sem, s0, s1, s2, s3]) rfl ?_
    exact PrPost.bad HR.out (bR hb1 (by omega))
  · rw [decide_eq_false m1] at HI1
    have HR : Hid (Pr.defectR l p (q : Int) most = (0, ⟨if most < p.rework + 1 then 4 else 2, p.done, (Pr.ids l.length).filter (dfF l p q), p.rework + 1⟩)) := by
      show _ = _
      unfold Pr.defectR
      rw [if_neg hr1, if_neg m1]
      rfl
    have HBE : Hid (∀ k : Nat, k < l.length → befE l (q : Int) (k : Int) = 0) := fun k hk => by
      unfold befE Pr.inB
      rw [if_neg (by rw [hord]; simp), if_pos (by simp; omega)]
    clear m1 hr1 hV hord hcap
    go_enter Try.func41, Try.ntmps41
    go_upto_region 1 with fail
    generalize (w.alloc (.cells #[.int .i64 p.state, .slice dA p.done.length dc, .slice oA p.opn.length oc, .int .i64 p.rework] 29)).alloc (.cells #[.int .i64 0, .slice none 0 0, .slice none 0 0, .int .i64 0] 29) = W1 at *
    obtain ⟨r0, r1, r2, r3, rl⟩ := id hx1
    go_wp2_with fail
    refine HI1.out.mono ?_
    rintro e w2 ⟨rfl, rfl⟩
    have hP0 := pmE W1 2 (p.rework + 1)
    have hB0 := b_new W1 (.cells #[.int .i64 2, .slice none 0 0, .slice none 0 0, .int .i64 (p.rework + 1)] 29)
    rw [hsz] at hP0
    go_upto_region 4 with fail
    generalize W1.alloc (.cells #[.int .i64 2, .slice none 0 0, .slice none 0 0, .int .i64 (p.rework + 1)] 29) = W4 at *
    have hs1 : w.heap.size + 1 + 1 ≤ W1.heap.size := by omega
    have hsE : W1.heap.size ≤ w.heap.size + 1 + 1 := by omega
    clear r0 r1 r2 r3 rl HI1 hsz
    go_wp2
    go_loopw [11] (fun s11 wr => ∃ (k : Nat) (dv ov : Value), k ≤ l.length ∧ s11 = .int .i64 k ∧ Pm wr (w.heap.size + 1 + 1) (w.heap.size + 1 + 1) dv ov ⟨2, p.done.take k, (Pr.ids k).filter (dfF l p q), p.rework + 1⟩ ∧ Below W1.heap.size W1 wr) (fun s11 _ => l.length - (intOf s11).toNat)
    case atStart => exact ⟨0, _, _, Nat.zero_le _, rfl, hP0, hB0⟩
    case round =>
      clear hP0 hB0
      obtain ⟨k, dv, ov, hk1, rfl, hP, hB⟩ := hrel
      have htl : k ≤ l.length → (p.done.take k).length = k := fun h => by rw [List.length_take, HDL.out]; omega
      obtain ⟨dA2, dc2, hdv, -⟩ := hP.hd.shape
      have hdv2 : dv = .slice dA2 k dc2 := by rw [hdv]; show Value.slice dA2 (p.done.take k).length dc2 = _; rw [htl hk1]
      clear hdv
      subst hdv2
      obtain ⟨oA2, oc2, hov, -⟩ := hP.ho.shape
      obtain ⟨n2, hn2⟩ : ∃ n, n = ((Pr.ids k).filter (dfF l p q)).length := ⟨_, rfl⟩
      have hov2 : ov = .slice oA2 n2 oc2 := by rw [hov, hn2]
      have hn2k : n2 ≤ k := by rw [hn2]; have := List.length_filter_le (dfF l p q) (Pr.ids k); rw [ids_length] at this; exact this
      have HN2 := Lib.hid hn2
      clear hov hn2
      subst hov2
      by_cases hlt : k < l.length
      · obtain ⟨x, hx⟩ := get_ex HDL.out hlt
        obtain ⟨db, doff, rfl, hdb, cx0⟩ := si_get hd hx
        have HTS := Lib.hid (take_succ_of hx)
        have HTL := Lib.hid (htl (by omega))
        have HFS := Lib.hid (filter_ids_succ (dfF l p q) k)
        have HFB := Lib.hid (dfF_at l p q k)
        have hkd : (k : Int) < (p.done.length : Int) := by rw [HDL.out]; omega
        have hk0 : (0 : Int) ≤ (k : Int) := by omega
        have hbwr := b_tr hb1 hB
        have HB1 := Lib.hid (HBF.out wr (k : Int) hbwr)
        rw [befB_zero (HBE.out k hlt), HBE.out k hlt, Int.toNat_natCast] at HB1
        generalize Pr.folB l (q : Int) k = fb at *
        go_wp2_with fail
        refine HB1.out.mono ?_
        rintro e w5 ⟨rfl, hb5⟩
        have hP5 := hP.below hb5
        have hB5 := b_tr hB hb5
        have hbw5 := b_tr hb1 hB5
        have hx5 := hx1.below hB5
        clear hP hB hb5 hbwr HB1
        go_upto_region 8 with fail
        have cx := (hbw5.cell (p := ⟨db, doff + k, none⟩) hdb).trans cx0
        have t1 := hx5.c1
        have c1 := hP5.c1
        have hP6 := (hP5.below (b_new w5 (.cells #[.int .i64 x] 3))).drew
        have hB6 := (b_al hB5 (.cells #[.int .i64 x] 3)).drew
        have c1a := hP6.c1
        have HAT := Lib.hid (fun w7 hg7 => hP6.atDone (w5 := w7) hg7)
        have HAP := Lib.hid (fun w7 v7 hg7 how hat => hP6.appDone (w5 := w7) (v5 := v7) (d := p.done.take k ++ [x]) hg7 how hat)
        have HBA := Lib.hid (fun w7 v7 hg7 => b_apps (j := 1) (v5 := v7) (w5 := w7) (hB6.mono (B' := w.heap.size + 1 + 1) hs1) (by have := hB6.size; omega) hP6.hd hg7 hP6.gb)
        have HOW := Lib.hid hP6.hd
        have hbz : w.heap.size + 1 + 1 ≤ (w5.alloc (.cells #[.int .i64 x] 3)).drew.heap.size := by have := hB6.size; omega
        dsimp only at c1 c1a HAT HAP HBA HOW
        clear hP5 hx hx5
        have i2 : (k : Int) < (p.done.length : Int) := hkd
        go_cut [11] (fun s11 wx => s11 = .int .i64 (k : Int) ∧ ∃ A7 c7, Pm wx (w.heap.size + 1 + 1) (w.heap.size + 1 + 1) (.slice A7 (k + 1) c7) (.slice oA2 n2 oc2) ⟨2, p.done.take (k + 1), (Pr.ids k).filter (dfF l p q), p.rework + 1⟩ ∧ Below (w.heap.size + 1 + 1) W1 wx)
        case first =>
          clear HI HBF HBE HR HFS HFB hP6
          go_region_law ((refine step_append_ints _ (by rfl) _ _ (by rfl) (w.heap.size + 1 + 1) _ _ (by rfl) HOW.out _ _ [x] _ _ (by rfl) (by rfl) (one_drew _ _) (by rw [List.length_singleton, HTL.out]; omega) hbz ?_; intro v7 w7 how7 hg7 hat7; obtain ⟨f1, f2⟩ := HAT.out _ hg7; have f3 := (f1 1).trans c1a; clear f1; obtain ⟨A7, c7, hv7, -⟩ := how7.shape; rw [List.length_append, HTL.out, List.length_singleton] at hv7; subst hv7))
          all_goals
            go_wp2_with fail
            go_meet
            case rel => exact ⟨rfl, A7, c7, by rw [HTS.out]; exact HAP.out _ _ hg7 how7 hat7, HBA.out _ _ hg7⟩
        case rest =>
          obtain ⟨rfl, A7, c7, hP7, hB7⟩ := hcut
          have hs7 : w.heap.size + 1 + 1 ≤ wc.heap.size := by have := hP7.gl; omega
          have hx7 := hx1.keep (by omega) hB7
          have t2 := hx7.c2
          have HI7 := Lib.hid (HI.out wc (k : Int) (b_tr hb1 (hB7.mono hsE)))
          clear HAT HAP HBA HOW c1 c1a cx t1 hbz hP6 hB6 hB5 hbw5 hx7
          by_cases hkq : k = q
          · subst hkq
            have HF2 : Hid ((Pr.ids (k + 1)).filter (dfF l p k) = (Pr.ids k).filter (dfF l p k) ++ [(k : Int)]) := by show _ = _; rw [HFS.out, HFB.out, if_pos (by simp [])]
            have hP8 := hP7.below (b_new wc (.cells #[.int .i64 (k : Int)] 3))
            have hB8 := hB7.alloc hs7 (.cells #[.int .i64 (k : Int)] 3)
            have c2 := hP7.c2
            have HAT := Lib.hid (fun w5 hg5 => hP8.atOpn (w5 := w5) hg5)
            have HC2 := Lib.hid hP8.c2
            have HAP := Lib.hid (fun w5 v5 hg5 how hat => hP8.appOpn (w5 := w5) (v5 := v5) (d := (Pr.ids k).filter (dfF l p k) ++ [(k : Int)]) hg5 how hat)
            have hs8 : w.heap.size + 1 + 1 ≤ (wc.alloc (.cells #[.int .i64 (k : Int)] 3)).heap.size := by rw [size_al]; omega
            have HBA := Lib.hid (fun w5 v5 hg5 => (b_apps (j := 2) (v5 := v5) (w5 := w5) hB8 hs8 hP8.ho hg5 hP8.gb).mono hsE)
            have HOW := Lib.hid hP8.ho
            dsimp only at HC2 HAP HOW c2 HAT HBA
            clear hP7 hP8 HFS HFB hs1 HI7
            go_wp2_with (at_builtin; refine wpList_append_ints _ rfl _ _ rfl (w.heap.size + 1 + 1) _ _ rfl HOW.out _ _ [(k : Int)] _ _ rfl rfl (one_cell _ _) (by rw [List.length_singleton, ← HN2.out]; omega) hs8 ?_; intro v5 w5 how5 hg5 hat5; obtain ⟨f1, f2⟩ := HAT.out _ hg5; have f3 := (f1 2).trans HC2.out; clear f1; obtain ⟨A9, c9, hv5, -⟩ := how5.shape; rw [List.length_append, ← HN2.out, List.length_singleton] at hv5; subst hv5)
            go_roundw
            case rel => exact ⟨k + 1, _, _, by omega, by go_num, by rw [HF2.out]; exact HAP.out _ _ hg5 how5 hat5, HBA.out _ _ hg5⟩
            case measure => simp [intOf]; omega
          · have hkq' : ((k : Int) == (q : Int)) = false := by simp; omega
            rw [decide_eq_false hkq, Bool.or_false] at HFB
            cases fb with
            | true =>
              have HF2 : Hid ((Pr.ids (k + 1)).filter (dfF l p q) = (Pr.ids k).filter (dfF l p q) ++ [(k : Int)]) := by show _ = _; rw [HFS.out, HFB.out, if_pos (by simp [])]
              have hP8 := hP7.below (b_new wc (.cells #[.int .i64 (k : Int)] 3))
              have hB8 := hB7.alloc hs7 (.cells #[.int .i64 (k : Int)] 3)
              have c2 := hP7.c2
              have HAT := Lib.hid (fun w5 hg5 => hP8.atOpn (w5 := w5) hg5)
              have HC2 := Lib.hid hP8.c2
              have HAP := Lib.hid (fun w5 v5 hg5 how hat => hP8.appOpn (w5 := w5) (v5 := v5) (d := (Pr.ids k).filter (dfF l p q) ++ [(k : Int)]) hg5 how hat)
              have hs8 : w.heap.size + 1 + 1 ≤ (wc.alloc (.cells #[.int .i64 (k : Int)] 3)).heap.size := by rw [size_al]; omega
              have HBA := Lib.hid (fun w5 v5 hg5 => (b_apps (j := 2) (v5 := v5) (w5 := w5) hB8 hs8 hP8.ho hg5 hP8.gb).mono hsE)
              have HOW := Lib.hid hP8.ho
              dsimp only at HC2 HAP HOW c2 HAT HBA
              clear hP7 hP8 HFS HFB HI7
              go_wp2_with (at_builtin; refine wpList_append_ints _ rfl _ _ rfl (w.heap.size + 1 + 1) _ _ rfl HOW.out _ _ [(k : Int)] _ _ rfl rfl (one_cell _ _) (by rw [List.length_singleton, ← HN2.out]; omega) hs8 ?_; intro v5 w5 how5 hg5 hat5; obtain ⟨f1, f2⟩ := HAT.out _ hg5; have f3 := (f1 2).trans HC2.out; clear f1; obtain ⟨A9, c9, hv5, -⟩ := how5.shape; rw [List.length_append, ← HN2.out, List.length_singleton] at hv5; subst hv5)
              go_roundw
              case rel => exact ⟨k + 1, _, _, by omega, by go_num, by rw [HF2.out]; exact HAP.out _ _ hg5 how5 hat5, HBA.out _ _ hg5⟩
              case measure => simp [intOf]; omega
            | false =>
              rw [Bool.or_false] at HFB
              cases hm : decide ((k : Int) ∈ p.opn) with
              | true =>
                rw [hm] at HI7 HFB
                have HF2 : Hid ((Pr.ids (k + 1)).filter (dfF l p q) = (Pr.ids k).filter (dfF l p q) ++ [(k : Int)]) := by show _ = _; rw [HFS.out, HFB.out, if_pos (by simp [])]
                have hP8 := hP7.below (b_new wc (.cells #[.int .i64 (k : Int)] 3))
                have hB8 := hB7.alloc hs7 (.cells #[.int .i64 (k : Int)] 3)
                have c2 := hP7.c2
                have HAT := Lib.hid (fun w5 hg5 => hP8.atOpn (w5 := w5) hg5)
                have HC2 := Lib.hid hP8.c2
                have HAP := Lib.hid (fun w5 v5 hg5 how hat => hP8.appOpn (w5 := w5) (v5 := v5) (d := (Pr.ids k).filter (dfF l p q) ++ [(k : Int)]) hg5 how hat)
                have hs8 : w.heap.size + 1 + 1 ≤ (wc.alloc (.cells #[.int .i64 (k : Int)] 3)).heap.size := by rw [size_al]; omega
                have HBA := Lib.hid (fun w5 v5 hg5 => (b_apps (j := 2) (v5 := v5) (w5 := w5) hB8 hs8 hP8.ho hg5 hP8.gb).mono hsE)
                have HOW := Lib.hid hP8.ho
                dsimp only at HC2 HAP HOW c2 HAT HBA
                clear hP7 hP8 HFS HFB hm
                go_wp2_with fail
                refine HI7.out.mono ?_
                rintro e w7 ⟨rfl, rfl⟩
                go_wp2_with (at_builtin; refine wpList_append_ints _ rfl _ _ rfl (w.heap.size + 1 + 1) _ _ rfl HOW.out _ _ [(k : Int)] _ _ rfl rfl (one_cell _ _) (by rw [List.length_singleton, ← HN2.out]; omega) hs8 ?_; intro v5 w5 how5 hg5 hat5; obtain ⟨f1, f2⟩ := HAT.out _ hg5; have f3 := (f1 2).trans HC2.out; clear f1; obtain ⟨A9, c9, hv5, -⟩ := how5.shape; rw [List.length_append, ← HN2.out, List.length_singleton] at hv5; subst hv5)
                go_roundw
                case rel => exact ⟨k + 1, _, _, by omega, by go_num, by rw [HF2.out]; exact HAP.out _ _ hg5 how5 hat5, HBA.out _ _ hg5⟩
                case measure => simp [intOf]; omega
              | false =>
                rw [hm] at HI7 HFB
                have HF2 : Hid ((Pr.ids (k + 1)).filter (dfF l p q) = (Pr.ids k).filter (dfF l p q)) := by show _ = _; rw [HFS.out, HFB.out, if_neg (by simp), List.append_nil]
                clear hm HFS HFB
                go_wp2_with fail
                refine HI7.out.mono ?_
                rintro e w7 ⟨rfl, rfl⟩
                go_wp2
                go_roundw
                case rel => exact ⟨k + 1, _, _, by omega, by go_num, by rw [HF2.out]; exact hP7, hB7.mono hsE⟩
                case measure => simp [intOf]; omega
      · obtain rfl : k = l.length := by omega
        rw [List.take_of_length_le (by rw [HDL.out]; exact Nat.le_refl _)] at hP
        have c3 := hP.c3
        have c0 := hP.c0
        have f0 := hP.fz 0
        have hb0 : w.heap.size ≤ w.heap.size + 1 + 1 := by omega
        clear hk1 hlt HI HBF HBE
        dsimp only at c3
        by_cases hmo : most < p.rework + 1
        · have HR2 : Hid (Pr.defectR l p (q : Int) most = (0, ⟨4, p.done, (Pr.ids l.length).filter (dfF l p q), p.rework + 1⟩)) := by show _ = _; rw [HR.out, if_pos hmo]
          have hP8 := hP.state 4
          have hB8 : Below W1.heap.size W1 (wr.setCell ⟨w.heap.size + 1 + 1, 0, none⟩ (.int .i64 4)) := hB.setCell (p := ⟨w.heap.size + 1 + 1, 0, none⟩) hsE _
          clear HR hP
          go_upto_region 13 with fail
          generalize wr.setCell ⟨w.heap.size + 1 + 1, 0, none⟩ (.int .i64 4) = W8 at *
          obtain ⟨s0, s1, s2, s3, sf, sl⟩ := hz1.below hB8
          have hbX := b_tr hb1 hB8
          have d0 := hP8.c0
          have d1 := hP8.c1
          have d2 := hP8.c2
          have d3 := hP8.c3
          have HD := Lib.hid hP8.hd
          have HE := Lib.hid hP8.ho
          dsimp only at d0 d3 HD HE
          clear hP8 c0 c3 f0
          go_wp2
          refine bodyPost_ret (v := .tuple #[.agg #[.int .i64 4, .slice dA2 l.length dc2, .slice oA2 n2 oc2, .int .i64 (p.rework + 1)], .int .i64 0]) (by simp [results, Try.results41, go_sem, s0, s1, s2, s3]) rfl ?_
          exact PrPost.good (p := ⟨4, p.done, (Pr.ids l.length).filter (dfF l p q), p.rework + 1⟩) HR2.out (oiR HD.out (by omega)) (oiR HE.out (by omega)) (bR hbX (by omega)) hb0
        · have HR2 : Hid (Pr.defectR l p (q : Int) most = (0, ⟨2, p.done, (Pr.ids l.length).filter (dfF l p q), p.rework + 1⟩)) := by show _ = _; rw [HR.out, if_neg hmo]
          obtain ⟨s0, s1, s2, s3, sf, sl⟩ := hz1.below hB
          have hbX := b_tr hb1 hB
          have d0 := hP.c0
          have d1 := hP.c1
          have d2 := hP.c2
          have HD := Lib.hid hP.hd
          have HE := Lib.hid hP.ho
          dsimp only at d0 HD HE
          clear HR hP c0
          go_wp2
          refine bodyPost_ret (v := .tuple #[.agg #[.int .i64 2, .slice dA2 l.length dc2, .slice oA2 n2 oc2, .int .i64 (p.rework + 1)], .int .i64 0]) (by simp [results, Try.results41, go_sem, s0, s1, s2, s3]) rfl ?_
          exact PrPost.good (p := ⟨2, p.done, (Pr.ids l.length).filter (dfF l p q), p.rework + 1⟩) HR2.out (oiR HD.out (by omega)) (oiR HE.out (by omega)) (bR hbX (by omega)) hb0
end Go.Proofs.Ytcolekfjmhgldaa
