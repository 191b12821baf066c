/- The reference: the order of the operations. -/
import Derived.Test.YtcolekfjmhgldaaRa
import Derived.Test.YtcolekfjmhgldaaU
namespace Go.Proofs.Ytcolekfjmhgldaa
open Go.RowKit
open Pr (Opn)

theorem greedy_stop {l : List Opn} {out : List Int} (h : Pr.pick l out = none) : ∀ f, Pr.greedy l f out = out
  | 0 => rfl
  | f + 1 => by rw [Pr.greedy, h]
def rdyTo (out : List Int) (i : Nat) (af : List Int) (j : Nat) : Bool := !decide ((i : Int) ∈ out) && (af.take j).all (fun a => decide (a ∈ out))
theorem rdyTo_succ {out : List Int} {i j : Nat} {af : List Int} {x : Int} (h : af[j]? = some x) : rdyTo out i af (j + 1) = (rdyTo out i af j && decide (x ∈ out)) := by
  unfold rdyTo
  rw [all_take_succ _ h, Bool.and_assoc]
theorem rdyTo_all {l : List Opn} {out : List Int} {i : Nat} {o : Opn} (h : l[i]? = some o) : rdyTo out i o.after o.after.length = Pr.readyB l out i := by
  unfold rdyTo Pr.readyB
  rw [List.take_length, aft_at h]

set_option maxRecDepth 100000 in
set_option maxHeartbeats 2000000 in
theorem sorted_any (A : Option Addr) (c : Nat) (l : List Opn) (w : World) (hl : So w w.heap.size A l) (hk : Oks l) :
    Calls Try.prog 47 #[.slice A l.length c] w (Fresh w (Pr.srt l)) := by
  have hlen := hk.len
  have HAF := Lib.hid hk.aft
  have h27 := cells27
  clear hk
  go_enter Try.func47, Try.ntmps47
  go_wp2
  go_loopw [3, 9] (fun v s9 wr => ∃ (k : Nat) (out : List Int), k ≤ l.length ∧ s9 = .int .i64 k ∧ Oi wr w.heap.size v out ∧ out.length ≤ k ∧ Hid (Pr.greedy l (l.length - k) out = Pr.srt l) ∧ Below w.heap.size w wr) (fun _ s9 _ => l.length - (intOf s9).toNat)
  case atStart => exact ⟨0, [], Nat.zero_le _, rfl, World.ownsRow_nil _ _ _ _, Nat.zero_le _, rfl, Below.refl _ _⟩
  case round =>
    obtain ⟨k, out, hk1, rfl, hv, hol, hG, hb⟩ := hrel
    by_cases hlt : k < l.length
    · have hlw := hl.to hb
      obtain ⟨vA, vc, rfl, hvc1, hvc2, hsv, _⟩ := hv.shape
      have HH := Lib.hid (fun x => has_any vA vc out x wr hsv (by omega))
      obtain ⟨r, hr⟩ : ∃ r, l.length - k = r + 1 := ⟨l.length - k - 1, by omega⟩
      have HG1 : Hid (Pr.pick l out = none → Pr.greedy l (l.length - (k + 1)) out = Pr.srt l) := fun h => by rw [← hG.out, hr, greedy_none h, greedy_stop h]
      have HG2 : Hid (∀ i : Nat, Pr.pick l out = some i → Pr.greedy l (l.length - (k + 1)) (out ++ [(i : Int)]) = Pr.srt l) := fun i h => by rw [← hG.out, hr, greedy_some h, show l.length - (k + 1) = r by omega]
      clear hG hr hsv hvc1 hvc2
      go_wp2
      go_loopw [3, 4] (fun s3 s4 wr2 => ∃ i : Nat, i ≤ l.length ∧ s3 = .slice vA out.length vc ∧ s4 = .int .i64 i ∧ Hid (Pr.pickTo l out (l.length - i) i = Pr.pick l out) ∧ wr = wr2) (fun _ s4 _ => l.length - (intOf s4).toNat)
      case atStart => exact ⟨0, Nat.zero_le _, rfl, rfl, rfl, rfl⟩
      case round =>
        obtain ⟨i, hi1, rfl, rfl, hP, hww⟩ := hrel
        subst hww
        by_cases hil : i < l.length
        · obtain ⟨o, hoi⟩ : ∃ o, l[i]? = some o := ⟨_, List.getElem?_eq_getElem hil⟩
          obtain ⟨b, off, aA, aC, uA, uC, rfl, hbB, hop, hsa⟩ := hlw.get hoi
          obtain ⟨p0, p1, p2, p3, p4⟩ := hop
          have hal := HAF.out o (List.mem_of_getElem? hoi)
          obtain ⟨r2, hr2⟩ : ∃ r, l.length - i = r + 1 := ⟨l.length - i - 1, by omega⟩
          have HRA := Lib.hid (rdyTo_all (out := out) hoi)
          have HP1 : Hid (Pr.readyB l out i = true → Pr.pick l out = some i) := fun h => by rw [← hP.out, hr2, pickTo_yes h]
          have HP2 : Hid (Pr.readyB l out i = false → Pr.pickTo l out (l.length - (i + 1)) (i + 1) = Pr.pick l out) := fun h => by rw [← hP.out, hr2, pickTo_no h, show l.length - (i + 1) = r2 by omega]
          have HHi := Lib.hid (HH.out (i : Int))
          have HR0 : Hid (rdyTo out i o.after 0 = !decide ((i : Int) ∈ out)) := by show _ = _; unfold rdyTo; simp
          generalize hdd : decide ((i : Int) ∈ out) = dd at *
          clear hoi hP hr2 hdd
          go_wp2_with fail
          refine HHi.out.mono ?_
          rintro e w1 ⟨rfl, rfl⟩
          go_wp2
          go_loopw [5, 6] (fun s5 s6 wr3 => ∃ (j : Nat) (bb : Bool), j ≤ o.after.length ∧ s6 = .int .i64 j ∧ s5 = .bool bb ∧ Hid (rdyTo out i o.after j = bb) ∧ wr = wr3) (fun _ s6 _ => o.after.length - (intOf s6).toNat)
          case atStart => exact ⟨0, _, Nat.zero_le _, rfl, rfl, HR0, rfl⟩
          case round =>
            obtain ⟨j, bb, hj1, rfl, rfl, hR, hww⟩ := hrel
            subst hww
            by_cases hjl : j < o.after.length
            · obtain ⟨x, hx⟩ := get_ex rfl hjl
              obtain ⟨ab, aoff, rfl, hab, ca⟩ := si_get hsa hx
              have HS := Lib.hid (rdyTo_succ (out := out) (i := i) hx)
              have HHx := Lib.hid (HH.out x)
              generalize decide (x ∈ out) = dx at *
              clear hx
              cases bb with
              | true =>
                have HN : Hid (rdyTo out i o.after (j + 1) = dx) := by show _ = _; rw [HS.out, hR.out]; rfl
                clear HS hR
                go_wp2_with fail
                refine HHx.out.mono ?_
                rintro e w2 ⟨rfl, rfl⟩
                go_wp2
                go_roundw
                case rel => exact ⟨j + 1, _, by omega, by go_num, rfl, HN, trivial⟩
                case measure => simp [intOf]; omega
              | false =>
                have HN : Hid (rdyTo out i o.after (j + 1) = false) := by show _ = _; rw [HS.out, hR.out]; rfl
                clear HS hR
                go_wp2
                go_roundw
                case rel => exact ⟨j + 1, _, by omega, by go_num, rfl, HN, trivial⟩
                case measure => simp [intOf]; omega
            · obtain rfl : j = o.after.length := by omega
              have HRB : Hid (Pr.readyB l out i = bb) := by show _ = _; rw [← HRA.out, hR.out]
              clear HRA hR hjl hj1
              cases bb with
              | true =>
                have HN := Lib.hid (HG2.out i (HP1.out HRB.out))
                clear HP1 HP2 HRB HG1 HG2
                go_wp2_with (at_builtin; refine wpList_append_ints _ rfl _ _ rfl w.heap.size _ _ rfl (oi_none hv (World.grownBy_alloc _ _ none)) _ _ [(i : Int)] _ _ rfl rfl (one_cell _ _) (by simp; omega) (by have := hb.size; simp; omega) ?_; intro v5 w5 how5 hg5 hat5)
                try go_frame
                have hb5 := b_app (b_al hb (.cells #[.int .i64 (i : Int)] 3)) (oi_none hv (World.grownBy_alloc _ _ none)) hg5
                go_roundw
                case rel => exact ⟨k + 1, _, by omega, by go_num, how5, by simp; omega, HN, hb5⟩
                case measure => simp [intOf]; omega
              | false =>
                have HN := Lib.hid (HP2.out HRB.out)
                clear HP1 HP2 HRB HG1 HG2
                go_wp2
                go_roundw
                case rel => exact ⟨i + 1, by omega, rfl, by go_num, HN, trivial⟩
                case measure => simp [intOf]; omega
        · obtain rfl : i = l.length := by omega
          have HN := Lib.hid (HG1.out (by rw [← hP.out, Nat.sub_self]; rfl))
          clear HG1 HG2 hP hil hi1
          go_wp2
          go_roundw
          case rel => exact ⟨k + 1, out, by omega, by go_num, hv, by omega, HN, hb⟩
          case measure => simp [intOf]; omega
    · obtain rfl : k = l.length := by omega
      have HN : Hid (out = Pr.srt l) := by show _ = _; rw [← hG.out, Nat.sub_self]; rfl
      clear hG hlt hk1
      rw [HN.out] at hv
      go_wp2
      go_ret
      exact ⟨_, rfl, hv, hb⟩

set_option maxHeartbeats 1000000 in
theorem sound_any (A : Option Addr) (c : Nat) (l : List Opn) (w : World) (hl : So w w.heap.size A l) (hk : Oks l) (hcap : Cap w A l.length) :
    Calls Try.prog 46 #[.slice A l.length c] w fun e w' => e = .returned (.int .i64 (Pr.ordE l)) ∧ Below w.heap.size w w' := by
  have hlen := hk.len
  have HS := Lib.hid (single_any A c l w hl hk hcap)
  have HT := Lib.hid (fun (W : World) (hb : Below w.heap.size w W) => sorted_any A c l W (hl.to hb) hk)
  have HE : Hid (Pr.ordE l = if 16 < l.length then 5 else if Pr.singleE l ≠ 0 then Pr.singleE l else if (Pr.srt l).length < l.length then 9 else 0) := rfl
  have HE1 : Hid ((if 16 < l.length then (5 : Int) else Pr.singleE l) ≠ 0 → Pr.ordE l = if 16 < l.length then (5 : Int) else Pr.singleE l) := fun h => by
    rw [HE.out]
    split
    · rfl
    · rename_i h1
      rw [if_neg h1] at h
      rw [if_pos h]
  have HE2 : Hid ((if 16 < l.length then (5 : Int) else Pr.singleE l) = 0 → Pr.ordE l = if (Pr.srt l).length < l.length then 9 else 0) := fun h => by
    rw [HE.out]
    split
    · rename_i h1
      rw [if_pos h1] at h
      omega
    · rename_i h1
      rw [if_neg h1] at h
      rw [if_neg (by rw [h]; simp)]
  have hsl := srt_length l
  generalize (if 16 < l.length then (5 : Int) else Pr.singleE l) = E at *
  clear HE hk hcap
  by_cases h0 : E = 0
  · subst h0
    have HE3 := Lib.hid (HE2.out rfl)
    clear HE1 HE2
    generalize Pr.srt l = S at *
    by_cases h1 : S.length < l.length
    · have HF : Hid (Pr.ordE l = 9) := by show _ = _; rw [HE3.out, if_pos h1]
      have h1' : (S.length : Int) < (l.length : Int) := by omega
      clear HE3
      go_enter Try.func46, Try.ntmps46
      go_wp2_with fail
      refine HS.out.mono ?_
      rintro e w1 ⟨rfl, hb1⟩
      go_wp2_with fail
      refine (HT.out _ hb1).mono ?_
      rintro e w2 ⟨v, rfl, hv, hb2⟩
      obtain ⟨vA, vc, rfl, _, _, _, _⟩ := hv.shape
      clear hv
      go_wp2
      go_ret
      exact ⟨ret_int HF.out.symm, b_tr hb1 hb2⟩
    · have HF : Hid (Pr.ordE l = 0) := by show _ = _; rw [HE3.out, if_neg h1]
      have h1' : ¬ (S.length : Int) < (l.length : Int) := by omega
      clear HE3
      go_enter Try.func46, Try.ntmps46
      go_wp2_with fail
      refine HS.out.mono ?_
      rintro e w1 ⟨rfl, hb1⟩
      go_wp2_with fail
      refine (HT.out _ hb1).mono ?_
      rintro e w2 ⟨v, rfl, hv, hb2⟩
      obtain ⟨vA, vc, rfl, _, _, _, _⟩ := hv.shape
      clear hv
      go_wp2
      go_ret
      exact ⟨ret_int HF.out.symm, b_tr hb1 hb2⟩
  · have HF := Lib.hid (HE1.out h0)
    have h0' : (E == 0) = false := by simpa using h0
    clear HE1 HE2 HT
    go_enter Try.func46, Try.ntmps46
    go_wp2_with fail
    refine HS.out.mono ?_
    rintro e w1 ⟨rfl, hb1⟩
    go_wp2
    go_ret
    exact ⟨ret_int HF.out.symm, hb1⟩

set_option maxHeartbeats 1000000 in
theorem rorder_any (A : Option Addr) (c : Nat) (l : List Opn) (w : World) (hl : So w w.heap.size A l) (hk : Oks l) (hcap : Cap w A l.length) :
    Calls Try.prog 32 #[.slice A l.length c] w (OrdPost w l) := by
  have HS := Lib.hid (sound_any A c l w hl hk hcap)
  have HT := Lib.hid (fun (W : World) (hb : Below w.heap.size w W) => sorted_any A c l W (hl.to hb) hk)
  by_cases h0 : Pr.ordE l = 0
  · rw [h0] at HS
    have H0 := Lib.hid h0
    clear h0
    go_enter Try.func32, Try.ntmps32
    go_wp2_with fail
    refine HS.out.mono ?_
    rintro e w1 ⟨rfl, hb1⟩
    go_wp2_with fail
    refine (HT.out _ hb1).mono ?_
    rintro e w2 ⟨v, rfl, hv, hb2⟩
    have hv' := hv.base_le hb1.size
    go_wp2
    go_ret2
    exact OrdPost.good H0.out hv' (b_tr hb1 hb2)
  · have H0 := Lib.hid h0
    have h0' : (Pr.ordE l == 0) = false := by simpa using h0
    have HE : Hid (Pr.ordE l = Pr.ordE l) := rfl
    go_enter Try.func32, Try.ntmps32
    go_wp2_with fail
    refine HS.out.mono ?_
    rintro e w1 ⟨rfl, hb1⟩
    go_wp2
    go_ret2
    exact OrdPost.bad rfl H0.out hb1

set_option maxRecDepth 100000 in
set_option maxHeartbeats 4000000 in
theorem rfollowers_any (A : Option Addr) (c : Nat) (l : List Opn) (a : Int) (w : World) (hl : So w w.heap.size A l) (hk : Oks l) (hF : Fine l) :
    Calls Try.prog 69 #[.slice A l.length c, .int .i64 a] w (Fresh w (Pr.fols l a)) := by
  have hlen := hF.len
  have hsl := srt_length l
  have HSR := Lib.hid (srt_range (l := l))
  have HAF := Lib.hid hk.aft
  have HRG := Lib.hid hF.range
  obtain ⟨w1, hmk, hob, hb1⟩ := make_bools w l.length (by omega)
  have HT := Lib.hid (sorted_any A c l w1 (hl.to hb1) hk)
  have HFF : Hid (Pr.fols l a = (Pr.ids l.length).filter fun b => (Pr.met l (Pr.srt l) a).getD b.toNat false) := rfl
  have HMT : Hid (Pr.met l (Pr.srt l) a = (Pr.srt l).foldl (Pr.metStep l a) (List.replicate l.length false)) := rfl
  have hgl : w.heap.size < w1.heap.size := (World.ownsRow.lt hob _ rfl).2
  generalize Pr.met l (Pr.srt l) a = mt at *
  generalize Pr.srt l = S at *
  clear hk hF
  go_enter Try.func69, Try.ntmps69
  go_wp2_with fail
  clear hmk
  refine HT.out.mono ?_
  rintro e w2 ⟨v, rfl, hv, hb2⟩
  obtain ⟨oA, oc, rfl, _, _, _, _⟩ := hv.shape
  have hob2 : Ob w2 w.heap.size (.slice (some ⟨w.heap.size, 0, none⟩) l.length l.length) (List.replicate l.length false) := ob_kept hob (grown_of_below hb2) (by simp)
  have hb3 := b_tr hb1 hb2
  generalize w1.heap.size = M1 at *
  clear hob hb1 hb2 HT
  go_wp2
  go_loopw [7] (fun s7 wr => ∃ (k : Nat) (m : List Bool), k ≤ S.length ∧ s7 = .int .i64 k ∧ Hid ((S.take k).foldl (Pr.metStep l a) (List.replicate l.length false) = m) ∧ Ob wr w.heap.size (.slice (some ⟨w.heap.size, 0, none⟩) l.length l.length) m ∧ Oi wr M1 (.slice oA S.length oc) S ∧ Below w.heap.size w wr) (fun s7 _ => S.length - (intOf s7).toNat)
  case atStart => exact ⟨0, _, Nat.zero_le _, rfl, rfl, hob2, hv, hb3⟩
  case round =>
    clear hob2 hv hb3
    obtain ⟨k, m, hk, rfl, hm, hob, hv, hb⟩ := hrel
    by_cases hlt : k < S.length
    · obtain ⟨x, hx⟩ := get_ex rfl hlt
      obtain ⟨x0, x1⟩ := HSR.out x (List.mem_of_getElem? hx)
      obtain ⟨i, rfl⟩ := Int.eq_ofNat_of_zero_le x0
      have hil : i < l.length := by omega
      obtain ⟨ob, oo, rfl, hoB, cx⟩ := si_get (oi_si hv) hx
      have HX : Hid (∀ W, Oi W M1 (.slice (some ⟨ob, oo, none⟩) S.length oc) S → W.cell? ⟨ob, oo + k, none⟩ = some (.int .i64 (i : Int))) := fun W hW => si_get' (oi_si hW) hx
      obtain ⟨o, hoi⟩ : ∃ o, l[i]? = some o := ⟨_, List.getElem?_eq_getElem hil⟩
      obtain ⟨b, off, aA, aC, uA, uC, rfl, hbB, hop, hsa⟩ := (hl.below hb).get hoi
      have hom : o ∈ l := List.mem_of_getElem? hoi
      have HAK : Hid (aftI l (i : Int) = o.after) := by show Pr.aft l _ = _; rw [Int.toNat_natCast]; exact aft_at hoi
      have HF := Lib.hid (foldl_take_succ (Pr.metStep l a) (List.replicate l.length false) hx)
      have HRg := Lib.hid (HRG.out o hom)
      have haf := HAF.out o hom
      have hs0 : Si w w.heap.size aA o.after := hsa.keep fun p hp => (hb.cell hp).symm
      have c3 := hop.c3
      have h27 := cells27
      clear hop hx hsa
      go_wp2
      clear cx c3
      obtain ⟨wo, rfl⟩ : ∃ wo : World, wo = wr := ⟨_, rfl⟩
      go_loopw [9] (fun s9 wq => ∃ (j : Nat) (m' : List Bool), j ≤ o.after.length ∧ s9 = .int .i64 j ∧ Hid (m' = if (o.after.take j).any (preB a m) = true then m.set i true else m) ∧ Ob wq w.heap.size (.slice (some ⟨w.heap.size, 0, none⟩) l.length l.length) m' ∧ Oi wq M1 (.slice (some ⟨ob, oo, none⟩) S.length oc) S ∧ Below w.heap.size w wq) (fun s9 _ => o.after.length - (intOf s9).toNat)
      case atStart => exact ⟨0, m, Nat.zero_le _, rfl, rfl, hob, hv, hb⟩
      case round =>
        clear hv
        obtain ⟨j, m', hj, rfl, hm', hob', hv, hb'⟩ := hrel
        by_cases hjl : j < o.after.length
        · obtain ⟨y, hy⟩ := get_ex rfl hjl
          obtain ⟨y0, y1⟩ := HRg.out y (List.mem_of_getElem? hy)
          obtain ⟨q, rfl⟩ := Int.eq_ofNat_of_zero_le y0
          have hql : q < l.length := by omega
          obtain ⟨b', off', rfl, hbB', cy⟩ := si_get (hs0.below hb') hy
          have hml := hob'.lenEq
          have HA := Lib.hid (any_take_succ (preB a m) hy)
          have c2 := hob'.get (getD_some (l := m') (q := q) (by omega))
          have cx := HX.out _ hv
          have fz := hob'.frozenAt i
          obtain ⟨c4, hc4⟩ : ∃ c4, m'[i]? = some c4 := ⟨_, List.getElem?_eq_getElem (by omega)⟩
          have c4 := hob'.get hc4
          obtain ⟨s1, s2⟩ := hob'.set i true
          have hv2 := oi_grown hv s2 hgl
          have hbs := below_grown hb' s2 (Nat.le_refl _)
          have HY := Lib.hid (fun h => pre_yes hm'.out HA.out h)
          have HN := Lib.hid (fun h1 h2 => pre_no hm'.out HA.out h1 h2)
          clear hy s2 hc4 HA
          by_cases hqa : (q : Int) = a
          · have HY2 := Lib.hid (HY.out (.inl hqa))
            have hqa' : ((q : Int) == a) = true := by simp [hqa]
            clear HY HN
            go_wp2
            go_roundw
            case rel => exact ⟨j + 1, _, by omega, by go_num, HY2, s1, hv2, hbs⟩
            case measure => simp [intOf]; omega
          · have hqa' : ((q : Int) == a) = false := by simp [hqa]
            cases hg : m'.getD q false with
            | true =>
              have HY2 := Lib.hid (HY.out (.inr hg))
              rw [hg] at c2
              clear HY HN hg
              go_wp2
              go_roundw
              case rel => exact ⟨j + 1, _, by omega, by go_num, HY2, s1, hv2, hbs⟩
              case measure => simp [intOf]; omega
            | false =>
              have HY2 := Lib.hid (HN.out hqa hg)
              rw [hg] at c2
              clear HY HN hg
              go_wp2
              go_roundw
              case rel => exact ⟨j + 1, _, by omega, by go_num, HY2, hob', hv, hb'⟩
              case measure => simp [intOf]; omega
        · obtain rfl : j = o.after.length := by omega
          have HM : Hid ((S.take (k + 1)).foldl (Pr.metStep l a) (List.replicate l.length false) = m') := by
            show _ = _
            rw [HF.out, hm.out, metStep_eq, HAK.out, Int.toNat_natCast, hm'.out, List.take_length]
          clear hjl hj hm'
          go_wp2
          go_roundw
          case rel => exact ⟨k + 1, _, by omega, by go_num, HM, hob', hv, hb'⟩
          case measure => simp [intOf]; omega
    · obtain rfl : k = S.length := by omega
      have HM : Hid (mt = m) := by show _ = _; rw [HMT.out, ← hm.out, List.take_length]
      rw [← HM.out] at hob
      clear hlt hk hm HM HMT hv
      have hml := hob.lenEq
      have hon := World.ownsRow_nil wr wr.heap.size 3 1
      have hMg := (World.ownsRow.lt hob _ rfl).2
      generalize hMM : wr.heap.size = M at *
      have hMz : M ≤ wr.heap.size := by omega
      clear hMM
      go_wp2
      go_loopw [10, 11] (fun v s11 wr2 => ∃ k : Nat, k ≤ l.length ∧ s11 = .int .i64 k ∧ Oi wr2 M v ((Pr.ids k).filter fun b => mt.getD b.toNat false) ∧ Ob wr2 w.heap.size (.slice (some ⟨w.heap.size, 0, none⟩) l.length l.length) mt ∧ Below w.heap.size w wr2 ∧ M ≤ wr2.heap.size) (fun _ s11 _ => l.length - (intOf s11).toNat)
      case atStart => exact ⟨0, Nat.zero_le _, rfl, hon, hob, hb, hMz⟩
      case round =>
        clear hob hb hMz
        obtain ⟨k, hk1, rfl, hv, hob, hb, hMw⟩ := hrel
        by_cases hlt : k < l.length
        · have c2 := hob.get (getD_some (l := mt) (q := k) (by omega))
          have HS := Lib.hid (filter_ids_succ (fun b => mt.getD b.toNat false) k)
          cases hg : mt.getD k false with
          | true =>
            rw [hg] at c2
            have HS2 : Hid ((Pr.ids (k + 1)).filter (fun b => mt.getD b.toNat false) = (Pr.ids k).filter (fun b => mt.getD b.toNat false) ++ [(k : Int)]) := by show _ = _; rw [HS.out, if_pos (by show mt.getD (Int.toNat (k : Int)) false = true; rw [Int.toNat_natCast]; exact hg)]
            have hfl : ((Pr.ids k).filter (fun b => mt.getD b.toNat false)).length ≤ k := by have := List.length_filter_le (fun b => mt.getD b.toNat false) (Pr.ids k); rw [ids_length] at this; exact this
            clear HS hg
            go_wp2_with (at_builtin; refine wpList_append_ints _ rfl _ _ rfl M _ _ rfl (oi_none hv (World.grownBy_alloc _ _ none)) _ _ [(k : Int)] _ _ rfl rfl (one_cell _ _) (by rw [List.length_singleton]; omega) (by rw [size_al]; omega) ?_; intro v5 w5 how5 hg5 hat5)
            try go_frame
            have hvM : ∀ k, Value.ownBlock _ = some k → M ≤ k := fun k hk => (World.ownsRow.lt hv k hk).1
            have hob5 := ob_kept (ob_kept hob (World.grownBy_alloc _ (.cells #[.int .i64 (k : Int)] 3) none) (by simp)) hg5 (fun e => by have := hvM _ e.symm; omega)
            have hb5 := (b_al hb (.cells #[.int .i64 (k : Int)] 3)).trans ((Below.refl _ _).grown hg5 (b_al hb (.cells #[.int .i64 (k : Int)] 3)).size (fun k hk => by have := hvM k hk; omega))
            have hsz5 := hg5.size
            rw [size_al] at hsz5
            go_roundw
            case rel => exact ⟨k + 1, by omega, by go_num, by rw [HS2.out]; exact how5, hob5, hb5, by omega⟩
            case measure => simp [intOf]; omega
          | false =>
            rw [hg] at c2
            have HS2 : Hid ((Pr.ids (k + 1)).filter (fun b => mt.getD b.toNat false) = (Pr.ids k).filter (fun b => mt.getD b.toNat false)) := by show _ = _; rw [HS.out, if_neg (by show ¬ mt.getD (Int.toNat (k : Int)) false = true; rw [Int.toNat_natCast, hg]; simp), List.append_nil]
            clear HS hg
            go_wp2
            go_roundw
            case rel => exact ⟨k + 1, by omega, by go_num, by rw [HS2.out]; exact hv, hob, hb, hMw⟩
            case measure => simp [intOf]; omega
        · obtain rfl : k = l.length := by omega
          have hv' := hv.base_le (base' := w.heap.size) (by omega)
          rw [← HFF.out] at hv'
          clear hlt hk1
          go_wp2
          go_ret
          exact ⟨_, rfl, hv', hb⟩

theorem fols_mem {l : List Opn} {a : Int} {q : Nat} (hq : q < l.length) : decide ((q : Int) ∈ Pr.fols l a) = Pr.folB l a q := by
  unfold Pr.fols
  rw [Bool.eq_iff_iff, decide_eq_true_eq, List.mem_filter, mem_ids, Int.toNat_natCast]
  constructor
  · exact fun h => h.2
  · exact fun h => ⟨by omega, h⟩

set_option maxHeartbeats 1000000 in
theorem rbefore_any (A : Option Addr) (c : Nat) (l : List Opn) (a b : Int) (w : World) (hl : So w w.heap.size A l) (hk : Oks l) (hcap : Cap w A l.length) :
    Calls Try.prog 57 #[.slice A l.length c, .int .i64 a, .int .i64 b] w fun e w' => e = .returned (.tuple #[.bool (befB l a b), .int .i64 (befE l a b)]) ∧ Below w.heap.size w w' := by
  have hlen := hk.len
  have HC := Lib.hid (sound_any A c l w hl hk hcap)
  by_cases h0 : Pr.ordE l = 0
  · obtain ⟨h16, hS, hsl⟩ := ordE_zero h0
    have HF := Lib.hid (fine_of hS h16)
    have HE : Hid (befE l a b = if Pr.inB l.length a && Pr.inB l.length b then 0 else 3) := by show _ = _; unfold befE; rw [if_neg (by rw [h0]; simp)]
    rw [h0] at HC
    clear h0 hS hsl hcap
    by_cases hr : a < 0 ∨ (¬ a < 0 ∧ (l.length : Int) ≤ a) ∨ (¬ a < 0 ∧ ¬ (l.length : Int) ≤ a ∧ b < 0) ∨ (¬ a < 0 ∧ ¬ (l.length : Int) ≤ a ∧ ¬ b < 0 ∧ (l.length : Int) ≤ b)
    · have HE2 : Hid (befE l a b = 3) := by
        show _ = _
        rw [HE.out, if_neg]
        unfold Pr.inB
        simp
        omega
      clear HE HF
      rcases hr with r1 | ⟨r1, r2⟩ | ⟨r1, r2, r3⟩ | ⟨r1, r2, r3, r4⟩
      all_goals
        go_enter Try.func57, Try.ntmps57
        go_wp2_with fail
        refine HC.out.mono ?_
        rintro e w1 ⟨rfl, hb1⟩
        go_wp2
        go_ret2
        exact ⟨ret_be (befB_of HE2.out (by decide)).symm HE2.out.symm, hb1⟩
    · have HE2 : Hid (befE l a b = 0) := by
        show _ = _
        rw [HE.out, if_pos]
        unfold Pr.inB
        simp
        omega
      have r1 : ¬ a < 0 := by omega
      have r2 : ¬ (l.length : Int) ≤ a := by omega
      have r3 : ¬ b < 0 := by omega
      have r4 : ¬ (l.length : Int) ≤ b := by omega
      clear hr
      obtain ⟨q, rfl⟩ := Int.eq_ofNat_of_zero_le (show 0 ≤ b by omega)
      have HB : Hid (befB l a (q : Int) = decide ((q : Int) ∈ Pr.fols l a)) := by show _ = _; rw [befB_zero HE2.out, fols_mem (by omega), Int.toNat_natCast]
      have hfl : (Pr.fols l a).length ≤ l.length := by
        have := List.length_filter_le (fun b : Int => Pr.folB l a b.toNat) (Pr.ids l.length)
        rw [ids_length] at this
        exact this
      have HT := Lib.hid (fun (W : World) (hb : Below w.heap.size w W) => rfollowers_any A c l a W (hl.to hb) hk HF.out)
      generalize Pr.fols l a = FL at *
      clear HE HF hk
      go_enter Try.func57, Try.ntmps57
      go_wp2_with fail
      refine HC.out.mono ?_
      rintro e w1 ⟨rfl, hb1⟩
      go_wp2_with fail
      refine (HT.out _ hb1).mono ?_
      rintro e w2 ⟨v, rfl, hv, hb2⟩
      obtain ⟨vA, vc, rfl, _, _, hsv, _⟩ := hv.shape
      have HH := Lib.hid (has_any vA vc FL (q : Int) w2 hsv (by omega))
      clear hv hsv HC HT
      go_wp2_with fail
      refine HH.out.mono ?_
      rintro e w3 ⟨rfl, rfl⟩
      go_wp2
      go_ret2
      exact ⟨ret_be HB.out.symm HE2.out.symm, b_tr hb1 hb2⟩
  · have HE : Hid (befE l a b = Pr.ordE l) := by show _ = _; unfold befE; rw [if_pos h0]
    have hne : (Pr.ordE l == 0) = false := by simpa using h0
    generalize Pr.ordE l = E at *
    go_enter Try.func57, Try.ntmps57
    go_wp2_with fail
    refine HC.out.mono ?_
    rintro e w1 ⟨rfl, hb1⟩
    go_wp2
    go_ret2
    exact ⟨ret_be (befB_of HE.out h0).symm HE.out.symm, hb1⟩
end Go.Proofs.Ytcolekfjmhgldaa
