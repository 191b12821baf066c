/- Move and Clean of the reference. -/
import Derived.Test.YtnmmbcgbijinpaaT
namespace Go.Proofs.Ytnmmbcgbijinpaa
open Go.RowKit
open Pl (Pt)

section
variable {w W w' : World} {b o : Nat} {x d : Pt}
theorem kMa (hb : b < w.heap.size) (h : W.cell? ⟨b, o, none⟩ = some (.int .i64 x.1) ∧ W.cell? ⟨b, o + 1, none⟩ = some (.int .i64 x.2) ∧ W.cell? ⟨w.heap.size, 0, none⟩ = some (.int .i64 d.1) ∧ W.cell? ⟨w.heap.size, 1, none⟩ = some (.int .i64 d.2) ∧ w.heap.size < W.heap.size ∧ Below w.heap.size w W) (u : Obj) :
    (W.alloc u).cell? ⟨b, o, none⟩ = some (.int .i64 x.1) ∧ (W.alloc u).cell? ⟨b, o + 1, none⟩ = some (.int .i64 x.2) ∧ (W.alloc u).cell? ⟨w.heap.size, 0, none⟩ = some (.int .i64 d.1) ∧ (W.alloc u).cell? ⟨w.heap.size, 1, none⟩ = some (.int .i64 d.2) ∧ w.heap.size < (W.alloc u).heap.size ∧ Below w.heap.size w (W.alloc u) := by
  obtain ⟨h1, h2, h3, h4, h5, h6⟩ := h
  exact ⟨(cell_al _ _ _ _ (by omega)).trans h1, (cell_al _ _ _ _ (by omega)).trans h2, (cell_al _ _ _ _ (by omega)).trans h3, (cell_al _ _ _ _ (by omega)).trans h4, by rw [size_alloc']; omega, b_al h6 u⟩
theorem kMp (hb : b < w.heap.size) {v : Value} {m : List Pt} (how : Ow W w.heap.size v m) (hg : W.grownBy w' v.ownBlock) (hne : v.ownBlock = none ∨ v.ownBlock ≠ some w.heap.size)
    (h : W.cell? ⟨b, o, none⟩ = some (.int .i64 x.1) ∧ W.cell? ⟨b, o + 1, none⟩ = some (.int .i64 x.2) ∧ W.cell? ⟨w.heap.size, 0, none⟩ = some (.int .i64 d.1) ∧ W.cell? ⟨w.heap.size, 1, none⟩ = some (.int .i64 d.2) ∧ w.heap.size < W.heap.size ∧ Below w.heap.size w W) :
    w'.cell? ⟨b, o, none⟩ = some (.int .i64 x.1) ∧ w'.cell? ⟨b, o + 1, none⟩ = some (.int .i64 x.2) ∧ w'.cell? ⟨w.heap.size, 0, none⟩ = some (.int .i64 d.1) ∧ w'.cell? ⟨w.heap.size, 1, none⟩ = some (.int .i64 d.2) ∧ w.heap.size < w'.heap.size ∧ Below w.heap.size w w' := by
  obtain ⟨h1, h2, h3, h4, h5, h6⟩ := h
  have hB : Below w.heap.size w w' := b_app h6 how hg
  have hB2 : Below w.heap.size W w' := Turned.below how hg rfl _ (Nat.le_refl _) (by omega)
  have hblk : w'.heap[w.heap.size]? = W.heap[w.heap.size]? := by
    refine hg.block _ h5 ?_
    rcases hne with e | e
    · rw [e]; simp
    · exact fun h => e h.symm
  have hc : ∀ i, w'.cell? ⟨w.heap.size, i, none⟩ = W.cell? ⟨w.heap.size, i, none⟩ := fun i => World.cell?_of_block hblk
  exact ⟨(hB2.cell (p := ⟨b, o, none⟩) hb).trans h1, (hB2.cell (p := ⟨b, o + 1, none⟩) hb).trans h2, (hc 0).trans h3, (hc 1).trans h4, by have := hg.size; omega, hB⟩
end
theorem i64_wrap (n : Int) : IntKind.i64.wrap n = wrap64 n := IntWalk.i64_left n

set_option maxHeartbeats 1000000 in
theorem rmove_any (A : Option Addr) (c : Nat) (l : List Pt) (d : Pt) (w : World) (hl : Sl w w.heap.size A l) (hn : l.length ≤ 1000) :
    Calls Try.prog 29 #[.slice A l.length c, .agg #[.int .i64 d.1, .int .i64 d.2]] w (Fresh w (l.map (mv d))) := by
  have hlm : (l.map (mv d)).length = l.length := List.length_map _
  have hget : ∀ k (hk : k < l.length), (l.map (mv d)).take (k + 1) = (l.map (mv d)).take k ++ [mv d l[k]] := fun k hk => by
    rw [List.take_succ_eq_append_getElem (by rw [List.length_map]; exact hk), List.getElem_map]
  have htl : ∀ k, ((l.map (mv d)).take k).length ≤ k := fun k => by rw [List.length_take]; omega
  have hall : (l.map (mv d)).take l.length = l.map (mv d) := by rw [← hlm, List.take_length]
  generalize hR : l.map (mv d) = R at *
  clear hR
  obtain ⟨d1, d2⟩ := new_cell w (.int .i64 d.1) (.int .i64 d.2)
  have hB0 := b_new w (.cells #[.int .i64 d.1, .int .i64 d.2] 30)
  have HLM := Lib.hid hlm
  have HG := Lib.hid hget
  have HTL := Lib.hid htl
  have HALL := Lib.hid hall
  clear hlm hget htl hall
  go_enter Try.func29, Try.ntmps29
  go_wp2
  go_loopw [5, 6] (fun v i wr => ∃ (k : Nat), k ≤ l.length ∧ i = .int .i64 k ∧ Ow wr w.heap.size v (R.take k) ∧ wr.cell? ⟨w.heap.size, 0, none⟩ = some (.int .i64 d.1) ∧ wr.cell? ⟨w.heap.size, 1, none⟩ = some (.int .i64 d.2) ∧ w.heap.size < wr.heap.size ∧ (v.ownBlock = none ∨ v.ownBlock ≠ some w.heap.size) ∧ Below w.heap.size w wr) (fun _ i _ => l.length - (intOf i).toNat)
  case atStart => exact ⟨0, Nat.zero_le _, rfl, Ow.nil _ _, d1, d2, by rw [size_alloc']; omega, .inl rfl, hB0⟩
  case round =>
    obtain ⟨k, hk, rfl, how, e1, e2, hz, hne, hb⟩ := hrel
    by_cases hlt : k < l.length
    · obtain ⟨b, off, rfl, hbB, c1, c2⟩ := (hl.below hb).at_ k hlt
      obtain ⟨As, cs, rfl, _, _⟩ := how.shape
      have hg1 := HG.out k hlt
      have htk := HTL.out k
      unfold mv at hg1
      have HGk := Lib.hid hg1
      clear hg1
      generalize l[k] = x at *
      generalize R.take k = G at *
      have i1 : (0 : Int) ≤ (k : Int) := by omega
      have i2 : (k : Int) < (l.length : Int) := by omega
      go_wp2
      go_region_held3 (fun w' => w'.cell? ⟨b, off + k * 2, none⟩ = some (.int .i64 x.1) ∧ w'.cell? ⟨b, off + k * 2 + 1, none⟩ = some (.int .i64 x.2) ∧ w'.cell? ⟨w.heap.size, 0, none⟩ = some (.int .i64 d.1) ∧ w'.cell? ⟨w.heap.size, 1, none⟩ = some (.int .i64 d.2) ∧ w.heap.size < w'.heap.size ∧ Below w.heap.size w w')
        (first | exact ⟨c1, c2, e1, e2, hz, below_drewN hb 1⟩ | exact kMa hbB (by with_reducible assumption) _ | exact kMp hbB (Ow.drew (Ow.alloc how _)) hg3 hne (by with_reducible assumption))
        (first | (refine step_append_pts _ (by rfl) _ _ (by rfl) w.heap.size (.slice As G.length cs) G (by rfl) (Ow.drew (Ow.alloc how _)) _ _ [(IntKind.i64.wrap (x.1 + d.1), IntKind.i64.wrap (x.2 + d.2))] _ 1 (by rfl) (by rfl) (sl_one wr _) (by simp; omega) (by simp; omega) ?_; intro v3 w3 how3 hg3 hat3))
      have hcc : _ ∧ _ ∧ _ ∧ _ ∧ _ ∧ Below w.heap.size w _ := ‹_ ∧ _ ∧ _ ∧ _ ∧ _ ∧ Below w.heap.size w _›
      obtain ⟨_, _, e1', e2', hz', hb'⟩ := hcc
      have hne' : v3.ownBlock = none ∨ v3.ownBlock ≠ some w.heap.size := by
        rcases hat3 with h | h
        · rw [h]; exact hne
        · rw [h]; right; intro e; injection e with e; simp at e; omega
      rw [i64_wrap, i64_wrap] at how3
      clear hg3 hat3
      go_wp2
      go_roundw
      case rel => exact ⟨k + 1, by omega, by go_num, by rw [HGk.out]; exact how3, e1', e2', hz', hne', hb'⟩
      case measure => simp [intOf]; omega
    · obtain rfl : k = l.length := by omega
      obtain ⟨As, cs, rfl, _, _⟩ := how.shape
      go_wp2
      go_ret
      rw [HALL.out] at how ⊢
      exact ⟨_, rfl, how, hb⟩

set_option maxHeartbeats 2000000 in
theorem rclean_loop (A : Option Addr) (c : Nat) (l : List Pt) (w : World) (hl : Sl w w.heap.size A l) (h40 : l.length ≤ 40) (ho : l.any Pl.outB = false) :
    Calls Try.prog 30 #[.slice A l.length c] w (Fresh w (Pl.clean l)) := by
  have hg0 := eqGd
  have hcl := Pl.compact_len l
  have hins : Ins (Pl.compact l) := ins_sub (ins_of ho) (Pl.compact_sub l)
  have HO := Lib.hid (by have := farL_any A c l w hl (by omega); rw [ho] at this; exact this)
  have HR : Hid (Pl.cleanTo (100 * (Pl.compact l).length) (Pl.compact l) 1 = Pl.clean l) := by
    show _ = _
    unfold Pl.clean
    rw [if_neg (by rw [ho]; simp; omega)]
  have HTK : Hid (Pl.compact (l.take l.length) = Pl.compact l) := by show _ = _; rw [List.take_length]
  generalize Pl.clean l = R at *
  clear ho
  go_enter Try.func30, Try.ntmps30
  go_wp2_with fail
  refine HO.out.mono ?_
  rintro e w0 ⟨rfl, hb0⟩
  clear HO
  go_wp2
  go_loopw [3, 4] (fun s3 s4 wr => ∃ k : Nat, k ≤ l.length ∧ s4 = .int .i64 k ∧ Ow wr w.heap.size s3 (Pl.compact (l.take k)) ∧ Below w.heap.size w wr) (fun _ s4 _ => l.length - (intOf s4).toNat)
  case atStart => exact ⟨0, by omega, rfl, Ow.nil _ _, hb0⟩
  case round =>
    obtain ⟨k, hk, rfl, how, hb⟩ := hrel
    have hck := Pl.compact_len (l.take k)
    rw [List.length_take] at hck
    by_cases hlt : k < l.length
    · obtain ⟨b, off, rfl, hbB, c1, c2⟩ := (hl.below hb).at_ k hlt
      have hj0 : b < wr.heap.size := by have := hb.size; omega
      obtain ⟨As, cs, rfl, _, _⟩ := how.shape
      have hbz := hb.size
      rcases Nat.eq_zero_or_pos k with h0 | h0
      · subst h0
        have HF := Lib.hid (compact_first hlt)
        have k0 : ((0 : Int) == 0) = true := rfl
        simp only [Nat.zero_mul, Nat.add_zero] at c1 c2
        simp only [List.take_zero, Pl.compact, List.length_nil] at how hck ⊢
        go_wp2
        go_quiet (fail)
        have hbq := b_al (below_drewN hb nq) (.cells #[.int .i64 l[0].1, .int .i64 l[0].2] 30)
        have howq := Ow.alloc (how.drewN nq) (.cells #[.int .i64 l[0].1, .int .i64 l[0].2] 30)
        go_wp2_with (at_builtin; refine wpList_append_pts _ rfl _ _ rfl w.heap.size (.slice As 0 cs) [] rfl howq _ _ [l[0]] _ 1 rfl rfl (sl_one wr l[0]) (by simp) (by simp; omega) ?_; intro v2 w2 how2 hg2 hat2)
        go_roundw
        case rel => exact ⟨1, by omega, rfl, by rw [HF.out]; exact how2, b_app hbq howq hg2⟩
        case measure => simp [intOf]; omega
      · obtain ⟨k', rfl⟩ : ∃ k', k = k' + 1 := ⟨k - 1, by omega⟩
        obtain ⟨b', off', he, hbB', c3, c4⟩ := (hl.below hb).at_ k' (by omega)
        injection he with he
        injection he with e1 e2
        subst e1 e2
        have k0 : ((k' : Int) + 1 == 0) = false := by simp; omega
        have HT := Lib.hid (Pl.compact_take (l := l) (m := k' + 1) (by omega) hlt)
        simp only [Nat.add_sub_cancel] at HT
        have i1 : (0 : Int) ≤ (k' : Int) := by omega
        have i2 : (k' : Int) < (l.length : Int) := by omega
        have hq0 := nePt l[k' + 1] l[k']
        cases hq : decide (l[k' + 1] = l[k']) with
        | true =>
          rw [hq] at hq0
          have HC2 : Hid (Pl.compact (l.take (k' + 1 + 1)) = Pl.compact (l.take (k' + 1))) := by
            show _ = _
            rw [HT.out, if_pos (of_decide_eq_true hq).symm]
          clear hq HT
          go_wp2
          go_quiet (fail)
          go_wp2
          go_roundw
          case rel => exact ⟨k' + 1 + 1, by omega, by go_num, by rw [HC2.out]; exact how.drewN _, below_drewN hb _⟩
          case measure => simp [intOf]; omega
        | false =>
          rw [hq] at hq0
          have HC2 : Hid (Pl.compact (l.take (k' + 1 + 1)) = Pl.compact (l.take (k' + 1)) ++ [l[k' + 1]]) := by
            show _ = _
            rw [HT.out, if_neg (fun e => of_decide_eq_false hq e.symm)]
          clear hq HT
          go_wp2
          go_quiet (fail)
          have hbq := b_al (below_drewN hb nq) (.cells #[.int .i64 l[k' + 1].1, .int .i64 l[k' + 1].2] 30)
          have howq := Ow.alloc (how.drewN nq) (.cells #[.int .i64 l[k' + 1].1, .int .i64 l[k' + 1].2] 30)
          clear hq0
          go_wp2_with (at_builtin; refine wpList_append_pts _ rfl _ _ rfl w.heap.size (.slice As (Pl.compact (l.take (k' + 1))).length cs) _ rfl howq _ _ [l[k' + 1]] _ 1 rfl rfl (sl_one wr l[k' + 1]) (by simp; omega) (by simp; omega) ?_; intro v2 w2 how2 hg2 hat2)
          go_roundw
          case rel => exact ⟨k' + 1 + 1, by omega, by go_num, by rw [HC2.out]; exact how2, b_app hbq howq hg2⟩
          case measure => simp [intOf]; omega
    · obtain rfl : k = l.length := by omega
      rw [HTK.out] at how
      clear HTK hck
      generalize Pl.compact l = r0 at *
      obtain ⟨A3, c3, rfl, _, _⟩ := how.shape
      go_wp2
      go_loopw [3, 5] (fun s3 s4 wr => ∃ (r : List Pt) (i f : Nat), Ow wr w.heap.size s3 r ∧ s4 = .int .i64 i ∧ Hid (sliceLen s3 = r.length) ∧ 1 ≤ i ∧ i ≤ r.length + 1 ∧ r.length ≤ 40 ∧ 100 * r.length ≤ f + i ∧ Ins r ∧ Hid (Pl.cleanTo f r i = R) ∧ Below w.heap.size w wr) (fun s3 s4 _ => 100 * sliceLen s3 - (intOf s4).toNat)
      case atStart => exact ⟨r0, 1, 100 * r0.length, how, rfl, rfl, by omega, by omega, by omega, by omega, hins, HR, hb⟩
      case round =>
        obtain ⟨r, i, f, how, rfl, hsl, hi1, hi2, hr40, hf, hinr, hc, hb⟩ := hrel
        by_cases hlt2 : i + 1 < r.length
        · obtain ⟨g, cap, rfl, hg0', hg1, hcap, hcm⟩ := how.block (by omega)
          obtain ⟨f', rfl⟩ : ∃ f', f = f' + 1 := ⟨f - 1, by omega⟩
          obtain ⟨i', rfl⟩ : ∃ i', i = i' + 1 := ⟨i - 1, by omega⟩
          obtain ⟨a1, a2⟩ := how.at_ i' (by omega)
          obtain ⟨a3, a4⟩ := how.at_ (i' + 1 + 1) hlt2
          obtain ⟨a5, a6⟩ := how.at_ (i' + 1) (by omega)
          have HN := Lib.hid (fun h => cleanTo_no (f := f') hlt2 h)
          have HY := Lib.hid (fun h => cleanTo_yes (f := f') hlt2 h)
          have hon := fun w => ron_any r[i'] r[i' + 1 + 1] r[i' + 1] w (hinr i' (by omega)) (hinr _ hlt2) (hinr _ (by omega))
          simp only [Nat.add_sub_cancel] at HN HY
          have i1 : (0 : Int) ≤ (i' : Int) := by omega
          have i2 : (i' : Int) < (r.length : Int) := by omega
          have i3 : IntKind.i64.wrap (i' : Int) = (i' : Int) := IntWalk.i64_in _ (by omega)
          have i4 : (0 : Int) ≤ (i' : Int) + 1 := by omega
          have i5 : (i' : Int) + 1 < (r.length : Int) := by omega
          have i6 : ((i' : Int) + 1).toNat = i' + 1 := by omega
          have i7 : IntKind.i64.wrap ((i' : Int) + 1 + 1) = (i' : Int) + 1 + 1 := IntWalk.i64_in _ (by omega)
          have i8 : (0 : Int) ≤ (i' : Int) + 1 + 1 := by omega
          have i9 : (i' : Int) + 1 + 1 < (r.length : Int) := by omega
          have i10 : ((i' : Int) + 1 + 1).toNat = i' + 1 + 1 := by omega
          have hbr : Below wr.heap.size wr wr := Below.refl _ _
          cases hq : Pl.onB r[i'] r[i' + 1 + 1] r[i' + 1] with
          | false =>
            rw [hq] at hon
            have HON := Lib.hid hon
            have HC2 := Lib.hid ((HN.out hq).symm.trans hc.out)
            clear hon hq HN HY hc
            go_wp2
            go_region_held3 (fun w' => Below wr.heap.size wr w' ∧ w'.cell? ⟨g, i' * 2, none⟩ = some (.int .i64 r[i'].1) ∧ w'.cell? ⟨g, i' * 2 + 1, none⟩ = some (.int .i64 r[i'].2) ∧ w'.cell? ⟨g, (i' + 1 + 1) * 2, none⟩ = some (.int .i64 r[i' + 1 + 1].1) ∧ w'.cell? ⟨g, (i' + 1 + 1) * 2 + 1, none⟩ = some (.int .i64 r[i' + 1 + 1].2) ∧ w'.cell? ⟨g, (i' + 1) * 2, none⟩ = some (.int .i64 r[i' + 1].1) ∧ w'.cell? ⟨g, (i' + 1) * 2 + 1, none⟩ = some (.int .i64 r[i' + 1].2))
              (first | exact ⟨below_drewN hbr 1, a1, a2, a3, a4, a5, a6⟩ | exact held6 hg1 hbn (by have := hbr.size; simp) (by assumption))
              (first | (go_at_call 26; refine (HON.out _).mono ?_; rintro e w' ⟨rfl, hbn⟩))
            have hcc : Below wr.heap.size wr _ ∧ _ := ‹_›
            have how' := how.below hcc.1
            have hb' := hb.trans (hcc.1.mono hb.size)
            clear hcc
            go_wp2
            go_roundw
            case rel => exact ⟨r, i' + 1 + 1, f', how', by go_num, rfl, by omega, by omega, by omega, by omega, hinr, HC2, hb'⟩
            case measure => simp [intOf, sliceLen]; omega
          | true =>
            rw [hq] at hon
            have HON := Lib.hid hon
            have HC2 := Lib.hid ((HY.out hq).symm.trans hc.out)
            clear hon hq HN HY hc
            go_wp2
            go_region_held3 (fun w' => Below wr.heap.size wr w' ∧ w'.cell? ⟨g, i' * 2, none⟩ = some (.int .i64 r[i'].1) ∧ w'.cell? ⟨g, i' * 2 + 1, none⟩ = some (.int .i64 r[i'].2) ∧ w'.cell? ⟨g, (i' + 1 + 1) * 2, none⟩ = some (.int .i64 r[i' + 1 + 1].1) ∧ w'.cell? ⟨g, (i' + 1 + 1) * 2 + 1, none⟩ = some (.int .i64 r[i' + 1 + 1].2) ∧ w'.cell? ⟨g, (i' + 1) * 2, none⟩ = some (.int .i64 r[i' + 1].1) ∧ w'.cell? ⟨g, (i' + 1) * 2 + 1, none⟩ = some (.int .i64 r[i' + 1].2))
              (first | exact ⟨below_drewN hbr 1, a1, a2, a3, a4, a5, a6⟩ | exact held6 hg1 hbn (by have := hbr.size; simp) (by assumption))
              (first | (go_at_call 26; refine (HON.out _).mono ?_; rintro e w' ⟨rfl, hbn⟩))
            have hcc : Below wr.heap.size wr _ ∧ _ := ‹_›
            have how' := how.below hcc.1
            have hb' := hb.trans (hcc.1.mono hb.size)
            clear hcc a1 a2 a3 a4 a5 a6
            have hsw := how'.slOf
            have hst := hsw.take (i' + 1)
            have ncap : ¬ cap = i' + 1 + 1 := by omega
            have hbz := hb'.size
            have hlt1 : (r.take (i' + 1)).length = i' + 1 := by rw [List.length_take]; omega
            have hlt3 : (r.drop (i' + 1 + 1)).length = r.length - (i' + 1 + 1) := List.length_drop
            have HL1 := Lib.hid hlt1
            have HL3 := Lib.hid hlt3
            clear hlt1 hlt3
            have tok1 : True := trivial
            go_wp2_with (first | (at_builtin; have _t := tok1; refine wpList_append_pts _ rfl _ _ rfl w.heap.size (.slice none 0 0) [] rfl (Ow.nil _ _) _ _ (r.take (i' + 1)) _ _ rfl HL1.out.symm hst (by rw [HL1.out]; simp; omega) hbz ?_; intro v2 w2 how2 hg2 hat2; have hb2 := b_app hb' (Ow.nil _ _) hg2; have hsd := ((hsw.keep (w' := w2) (fun p hp => World.cell?_of_block (hg2.block _ hp (by simp [Value.ownBlock])))).drop (i' + 1 + 1)); rw [List.nil_append] at how2; rw [Nat.zero_add] at hsd; clear tok1 _t) | (at_builtin; refine wpList_append_pts _ rfl _ _ rfl w.heap.size v2 (r.take (i' + 1)) rfl how2 _ _ (r.drop (i' + 1 + 1)) _ _ rfl HL3.out.symm hsd (by rw [HL1.out, HL3.out]; omega) hb2.size ?_; intro v3 w3 how3 hg3 hat3))
            have hb3 := b_app hb2 how2 hg3
            have hlen : (r.take (i' + 1) ++ r.drop (i' + 1 + 1)).length = r.length - 1 := by rw [List.length_append, HL1.out, HL3.out]; omega
            have hl1 : (r.take (i' + 1) ++ r.drop (i' + 1 + 1)).length ≤ r.length - 1 := Nat.le_of_eq hlen
            have hl2 : r.length - 1 ≤ (r.take (i' + 1) ++ r.drop (i' + 1 + 1)).length := Nat.le_of_eq hlen.symm
            have hin4 := ins_del hinr (i' + 1)
            clear hlen HL1 HL3 how2 hsd hst
            generalize r.take (i' + 1) ++ r.drop (i' + 1 + 1) = r4 at *
            obtain ⟨A4, c4, rfl, _, _⟩ := how3.shape
            go_roundw
            case rel => exact ⟨r4, 1, f', how3, rfl, rfl, by omega, by omega, by omega, by omega, hin4, HC2, hb3⟩
            case measure => simp [intOf, sliceLen]; omega
        · have HE := Lib.hid ((cleanTo_end hlt2).symm.trans hc.out)
          obtain ⟨A4, c4, rfl, _, _⟩ := how.shape
          go_wp2
          go_ret
          exact ⟨_, rfl, by rw [← HE.out]; exact how, hb⟩
end Go.Proofs.Ytnmmbcgbijinpaa
