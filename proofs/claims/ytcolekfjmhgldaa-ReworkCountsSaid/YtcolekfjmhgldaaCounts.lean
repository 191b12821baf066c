/- ReworkCounts: each operation was completed as often as there are events that say so, and there were as many defects as events. Conditions: none beyond the statement's own. -/
import Derived.Test.YtcolekfjmhgldaaPlb
namespace Go.Proofs.Ytcolekfjmhgldaa.counts
open Go.ChangeShapes Go.WideShapes Go.ChangeAt Go.RowKit Go.Deep
open Pr (Opn Prg Res)

theorem sameInts_n (A B : Option Addr) (c d n : Nat) (l : List Int) (w : World) (ha : Si w w.heap.size A l) (hb : Si w w.heap.size B l) (hn : l.length ≤ 65536) (h : l.length = n) :
    Calls Try.prog 24 #[.slice A l.length c, .slice B n d] w fun e w' => e = .returned (.bool true) ∧ Below w.heap.size w w' := by
  subst h
  exact sameInts_b A B c d l w ha hb hn

def tal1 (m : List Int) (e : Int × Int) : List Int := if e.1 = 1 then m.set e.2.toNat (m.getD e.2.toNat 0 + 1) else m
def tal (n : Nat) (es : List (Int × Int)) : List Int := es.foldl tal1 (List.replicate n 0)
def dfs1 (d : Int) (e : Int × Int) : Int := if e.1 = 2 then d + 1 else d
def dfs (es : List (Int × Int)) : Int := es.foldl dfs1 0
theorem tal_snoc (n : Nat) (es : List (Int × Int)) (e : Int × Int) : tal n (es ++ [e]) = tal1 (tal n es) e := by unfold tal; rw [List.foldl_append]; rfl
theorem dfs_snoc (es : List (Int × Int)) (e : Int × Int) : dfs (es ++ [e]) = dfs1 (dfs es) e := by unfold dfs; rw [List.foldl_append]; rfl
theorem tal_take {n k : Nat} {es : List (Int × Int)} {e : Int × Int} (h : es[k]? = some e) : tal n (es.take (k + 1)) = tal1 (tal n (es.take k)) e := by rw [List.take_add_one, h]; exact tal_snoc _ _ _
theorem dfs_take {k : Nat} {es : List (Int × Int)} {e : Int × Int} (h : es[k]? = some e) : dfs (es.take (k + 1)) = dfs1 (dfs (es.take k)) e := by rw [List.take_add_one, h]; exact dfs_snoc _ _
theorem tal_len (n : Nat) (es : List (Int × Int)) : (tal n es).length = n := by
  unfold tal
  suffices h : ∀ m : List Int, (es.foldl tal1 m).length = m.length by rw [h, List.length_replicate]
  induction es with
  | nil => intro m; rfl
  | cons e es ih =>
    intro m
    show (es.foldl tal1 (tal1 m e)).length = _
    rw [ih]
    unfold tal1
    split
    · rw [List.length_set]
    · rfl
theorem tal_bound (n : Nat) (es : List (Int × Int)) : ∀ k, k ≤ es.length → (∀ x ∈ tal n (es.take k), 0 ≤ x ∧ x ≤ (k : Int)) ∧ 0 ≤ dfs (es.take k) ∧ dfs (es.take k) ≤ (k : Int)
  | 0, _ => ⟨fun x hx => by simp [tal, List.mem_replicate] at hx; omega, by simp [dfs], by simp [dfs]⟩
  | k + 1, h => by
    obtain ⟨h1, h2, h3⟩ := tal_bound n es k (by omega)
    have he : es[k]? = some es[k] := List.getElem?_eq_getElem (by omega)
    rw [tal_take he, dfs_take he]
    refine ⟨fun x hx => ?_, ?_, ?_⟩
    · unfold tal1 at hx
      split at hx
      · rcases List.mem_or_eq_of_mem_set hx with h4 | h4
        · have := h1 x h4; omega
        · rw [h4, List.getD_eq_getElem?_getD]
          cases hq : (tal n (es.take k))[es[k].2.toNat]? with
          | none => show 0 ≤ (0 : Int) + 1 ∧ (0 : Int) + 1 ≤ _; omega
          | some y =>
            have := h1 y (List.mem_of_getElem? hq)
            show 0 ≤ y + 1 ∧ y + 1 ≤ _
            omega
      · have := h1 x hx; omega
    · unfold dfs1; split <;> omega
    · unfold dfs1; split <;> omega

def Cnt (l : List Opn) (pre : List (Int × Int)) (p : Prg) : Prop := p.done = tal l.length pre ∧ p.rework = dfs pre ∧ ∀ e ∈ pre, e.1 = 1 → 0 ≤ e.2 ∧ e.2 < (l.length : Int)
theorem cnt_run {l : List Opn} {most : Int} {es : List (Int × Int)} (h : (Pr.runR l es most).err = 0) : Cnt l es (Pr.runR l es most).prg := by
  refine (run_ind (Cnt l) (fun _ => ⟨rfl, rfl, by simp⟩) ?_ es h).2.1
  rintro pre ⟨k, op⟩ p hi ⟨hd, hr, hb⟩ h1
  dsimp only at h1 ⊢
  obtain ⟨h0, hv, hs3, hs4, hc⟩ := step_cases h1
  have hb2 : (k = 1 → 0 ≤ op ∧ op < (l.length : Int)) → ∀ e ∈ pre ++ [(k, op)], e.1 = 1 → 0 ≤ e.2 ∧ e.2 < (l.length : Int) := fun hh e he h1 => by
    rcases List.mem_append.1 he with he | he
    · exact hb e he h1
    · rw [List.mem_singleton.1 he] at h1 ⊢
      exact hh h1
  rcases hc with ⟨rfl, ho, hm, hw, e⟩ | ⟨rfl, ho, hm, e⟩ | ⟨rfl, _, hn, e⟩ | ⟨rfl, _, e⟩
  · rw [e]
    refine ⟨?_, ?_, hb2 (fun _ => ho)⟩
    · rw [tal_snoc, ← hd]; rfl
    · rw [dfs_snoc, ← hr]; rfl
  · rw [e]
    refine ⟨?_, ?_, hb2 (fun h => absurd h (by decide))⟩
    · rw [tal_snoc, ← hd]; rfl
    · rw [dfs_snoc, ← hr]; rfl
  · rw [e]
    refine ⟨?_, ?_, hb2 (fun h => absurd h (by decide))⟩
    · rw [tal_snoc, ← hd]; rfl
    · rw [dfs_snoc, ← hr]; rfl
  · rw [e]
    refine ⟨?_, ?_, hb2 (fun h => absurd h (by decide))⟩
    · rw [tal_snoc, ← hd]; rfl
    · rw [dfs_snoc, ← hr]; rfl

set_option maxRecDepth 100000 in
set_option maxHeartbeats 4000000 in
theorem walk (A : Option Addr) (len c : Nat) (l : List Opn) (eA : Option Addr) (elen ec : Nat) (es : List (Int × Int)) (most : Int) (w : World) (h0 : CameO w A len c l) (h1 : CameE w eA elen ec es) (_h2 : (Lit.int .i64 most).wf = true) :
    Calls Try.prog 7 #[.slice A len c, .slice eA elen ec, .int .i64 most] w fun e w' => e = .returned (.bool true) ∧ Below w.heap.size w w' := by
  obtain ⟨rfl, hc, hcm, hl, hwf⟩ := h0
  obtain ⟨rfl, hec, hecm, hes⟩ := h1
  have HL := Lib.hid (light_any A c l w hl (Nat.le_trans hc hcm))
  have HA := Lib.hid (fun W => alive_any W)
  by_cases g1 : lightB l = true
  · obtain ⟨hk, hl20, ha20⟩ := light_oks g1 hwf
    rw [g1] at HL
    by_cases g2 : (80 : Int) < (es.length : Int)
    · go_enter Try.func7, Try.ntmps7
      go_wp2_with fail
      refine HL.out.mono ?_
      rintro e w1 ⟨rfl, rfl⟩
      go_wp2_with fail
      refine (HA.out _).mono ?_
      rintro e w2 ⟨rfl, hb⟩
      go_wp2
      go_ret
      exact ⟨rfl, hb⟩
    have HR := Lib.hid (run_any A c l eA ec es most w hl hk hc hcm hes (by omega))
    have HT := Lib.hid (fun (W : World) (hb : Below w.heap.size w W) => times_any A c l eA ec es most W (hl.to hb) hk hc hcm (hes.to hb) (by omega))
    have HI := Lib.hid (fun h => run_inv (l := l) (most := most) (es := es) h)
    have HC := Lib.hid (fun h => cnt_run (l := l) (most := most) (es := es) h)
    have HB := Lib.hid (fun h => run_bad (l := l) (most := most) (es := es) h)
    generalize Pr.runR l es most = R at *
    obtain ⟨E, P, N⟩ := R
    dsimp only at HI HC HB
    by_cases hE : E = 0
    · subst hE
      obtain ⟨hI, _⟩ := HI.out rfl
      obtain ⟨hdn, hrw, hrg⟩ := HC.out rfl
      have HDL := Lib.hid hI.dl
      have HD := Lib.hid hdn
      have HW := Lib.hid hrw
      have tdl : ((P.done.length : Int) == (l.length : Int)) = true := by rw [HDL.out]; simp
      have tdn : (P.done.length == l.length) = true := by rw [HDL.out]; simp
      have tdx : ((P.done.length : Int) != (l.length : Int)) = false := by rw [HDL.out]; simp
      have tdy : (P.done.length != l.length) = false := by rw [HDL.out]; simp
      clear HI HC HB hI hdn hrw
      go_enter Try.func7, Try.ntmps7
      go_wp2_with fail
      refine HL.out.mono ?_
      rintro e w1 ⟨rfl, rfl⟩
      go_wp2_with fail
      refine HR.out.mono ?_
      rintro e w2 ⟨dv, ov, rfl, hd, ho, hb2⟩
      dsimp only at hd ho
      obtain ⟨dA, dc, rfl, _, _, _, _⟩ := hd.shape
      obtain ⟨oA, oc, rfl, _, _, _, _⟩ := ho.shape
      have hP := Pc.new hd ho
      have hb3 := b_al hb2 (.cells #[.int .i64 P.state, .slice dA P.done.length dc, .slice oA P.opn.length oc, .int .i64 P.rework] 29)
      clear hd ho HL HR
      go_wp2_with fail
      refine (HT.out _ hb3).mono ?_
      rintro e w3 ⟨nv, rfl, hn, hb4⟩
      dsimp only at hn
      obtain ⟨nA, nc, rfl, _, _, hns, _⟩ := hn.shape
      replace hP := hP.below hb4
      have hb5 := b_tr hb3 hb4
      have c1 := hP.c1
      have c3 := hP.c3
      have hgl := hP.gl
      have hsd := oi_si hP.hd
      obtain ⟨w5, hmk, how, hb6⟩ := make_ints w3 l.length (by omega)
      have h34 := cells34
      have hm0 : tal l.length [] = List.replicate l.length 0 := rfl
      rw [← hm0] at how
      have hes5 := hes.to hb5
      clear hm0 HT hb3 hb4 hn hP hb2
      go_wp2
      generalize w2.heap.size = g at *
      generalize hgb : w3.heap.size = gb at *
      have HGB := Lib.hid hgb
      clear hgb hmk
      go_loopw [12, 14] (fun s12 s14 wr => ∃ k : Nat, k ≤ es.length ∧ s14 = .int .i64 k ∧ s12 = .int .i64 (dfs (es.take k)) ∧ Oi wr gb (.slice (some ⟨gb, 0, none⟩) l.length l.length) (tal l.length (es.take k)) ∧ Below gb w3 wr) (fun _ s14 _ => es.length - (intOf s14).toNat)
      case atStart => exact ⟨0, Nat.zero_le _, rfl, rfl, how, hb6⟩
      case round =>
        clear how hb6
        obtain ⟨k, hk1, rfl, rfl, how, hB⟩ := hrel
        by_cases hlt : k < es.length
        · obtain ⟨ev, hev⟩ : ∃ ev, es[k]? = some ev := ⟨_, List.getElem?_eq_getElem hlt⟩
          obtain ⟨b, off, rfl, hbb, e0', e1'⟩ := hes5.get hev
          have e0 := (hB.cell (p := ⟨b, off + k * 2, none⟩) hbb).trans e0'
          have e1 := (hB.cell (p := ⟨b, off + k * 2 + 1, none⟩) hbb).trans e1'
          obtain ⟨b1, b2, b3⟩ := tal_bound l.length es k (by omega)
          have HTt := Lib.hid (tal_take (n := l.length) hev)
          have HDt := Lib.hid (dfs_take hev)
          have hvr := hrg ev (List.mem_of_getElem? hev)
          have wd : wrap64 (dfs (es.take k) + 1) = dfs (es.take k) + 1 := by unfold wrap64; omega
          clear hev e0' e1'
          by_cases k2 : ev.1 = 2
          · have k2' : (ev.1 == 2) = true := by simpa using k2
            have k1' : (ev.1 == 1) = false := by rw [k2]; rfl
            have HN1 : Hid (tal l.length (es.take (k + 1)) = tal l.length (es.take k)) := by show _ = _; rw [HTt.out]; unfold tal1; rw [if_neg (by omega)]
            have HN2 : Hid (dfs (es.take (k + 1)) = dfs (es.take k) + 1) := by show _ = _; rw [HDt.out]; unfold dfs1; rw [if_pos k2]
            clear HTt HDt
            go_wp2
            go_roundw
            case rel => exact ⟨k + 1, by omega, by go_num, by rw [HN2.out], by rw [HN1.out]; exact how, hB⟩
            case measure => simp [intOf]; omega
          · have k2' : (ev.1 == 2) = false := by simpa using k2
            have HN2 : Hid (dfs (es.take (k + 1)) = dfs (es.take k)) := by show _ = _; rw [HDt.out]; unfold dfs1; rw [if_neg k2]
            by_cases k1 : ev.1 = 1
            · have k1' : (ev.1 == 1) = true := by simpa using k1
              obtain ⟨r1, r2⟩ := hvr k1
              obtain ⟨kd, op⟩ := ev
              dsimp only at *
              obtain ⟨q, rfl⟩ := Int.eq_ofNat_of_zero_le r1
              have hqn : q < l.length := by omega
              obtain ⟨x, hx⟩ := get_ex (tal_len l.length (es.take k)) hqn
              have hxb := b1 x (List.mem_of_getElem? hx)
              have cx := how.get hx
              have fx := how.frozenAt q
              have how2 := how.set q (x + 1)
              have wx : wrap64 (x + 1) = x + 1 := by unfold wrap64; omega
              have u1 : ¬ (q : Int) < 0 := by omega
              have u2 : ¬ (l.length : Int) ≤ (q : Int) := by omega
              have HN1 : Hid (tal l.length (es.take (k + 1)) = (tal l.length (es.take k)).set q (x + 1)) := by
                show _ = _
                rw [HTt.out]
                unfold tal1
                rw [if_pos k1, Int.toNat_natCast, List.getD_eq_getElem?_getD, hx]
                rfl
              have hB2 := hB.setCell (p := ⟨gb, q, none⟩) (Nat.le_refl _) (.int .i64 (x + 1))
              clear HTt HDt hx
              go_wp2
              go_roundw
              case rel => exact ⟨k + 1, by omega, by go_num, by rw [HN2.out], by rw [HN1.out]; exact how2, hB2⟩
              case measure => simp [intOf]; omega
            · have k1' : (ev.1 == 1) = false := by simpa using k1
              have HN1 : Hid (tal l.length (es.take (k + 1)) = tal l.length (es.take k)) := by show _ = _; rw [HTt.out]; unfold tal1; rw [if_neg k1]
              clear HTt HDt
              go_wp2
              go_roundw
              case rel => exact ⟨k + 1, by omega, by go_num, by rw [HN2.out], by rw [HN1.out]; exact how, hB⟩
              case measure => simp [intOf]; omega
        · obtain rfl : k = es.length := by omega
          have hpw : P.rework = dfs (es.take es.length) := by rw [List.take_length]; exact HW.out
          have how3 : Oi wr gb (.slice (some ⟨gb, 0, none⟩) l.length l.length) P.done := by rw [HD.out, ← List.take_length (l := es)]; exact how
          have d1 := (hB.cell (p := ⟨g, 1, none⟩) hgl).trans c1
          have d3 := (hB.cell (p := ⟨g, 3, none⟩) hgl).trans c3
          have tr : (P.rework == dfs (es.take es.length)) = true := by rw [hpw]; simp
          have hz := HGB.out
          have hBs := hB.size
          have hBw := hb5.trans (hB.mono (by have := hb5.size; omega))
          have hsz : gb ≤ wr.heap.size := by omega
          have HX1 := Lib.hid (sameInts_n nA (some ⟨gb, 0, none⟩) nc l.length l.length P.done wr ((hns.below hB).more hsz) (oi_si how3) (by rw [HDL.out]; omega) HDL.out)
          have HX2 := Lib.hid (fun (W : World) (hb : Below wr.heap.size wr W) => sameInts_n dA (some ⟨gb, 0, none⟩) dc l.length l.length P.done W ((((hsd.below hB).more hsz).below hb).more hb.size) (((oi_si how3).below hb).more hb.size) (by rw [HDL.out]; omega) HDL.out)
          have hgw : g < wr.heap.size := by omega
          clear hlt hk1 hpw how how3 c1 c3 hB hz
          generalize dfs (es.take es.length) = D at *
          go_wp2_with fail
          refine HX1.out.mono ?_
          rintro e w6 ⟨rfl, hb7⟩
          replace d1 := (hb7.cell (p := ⟨g, 1, none⟩) hgw).trans d1
          go_wp2_with fail
          refine (HX2.out _ hb7).mono ?_
          rintro e w7 ⟨rfl, hb8⟩
          go_wp2_with fail
          refine (HA.out _).mono ?_
          rintro e w8 ⟨rfl, hb9⟩
          go_wp2
          go_ret
          exact ⟨rfl, b_tr (b_tr (b_tr hBw hb7) hb8) hb9⟩
    · have hE' : (E == 0) = false := by simpa using hE
      have hz := HB.out hE
      subst hz
      clear HI HC HB
      go_enter Try.func7, Try.ntmps7
      go_wp2_with fail
      refine HL.out.mono ?_
      rintro e w1 ⟨rfl, rfl⟩
      go_wp2_with fail
      refine HR.out.mono ?_
      rintro e w2 ⟨dv, ov, rfl, hd, ho, hb2⟩
      dsimp only at hd ho
      obtain ⟨dA, dc, rfl, _, _, _, _⟩ := hd.shape
      obtain ⟨oA, oc, rfl, _, _, _, _⟩ := ho.shape
      have hP := Pc.new hd ho
      have hb3 := b_al hb2 (.cells #[.int .i64 Pr.zeroP.state, .slice dA Pr.zeroP.done.length dc, .slice oA Pr.zeroP.opn.length oc, .int .i64 Pr.zeroP.rework] 29)
      clear hd ho HL HR
      go_wp2_with fail
      refine (HT.out _ hb3).mono ?_
      rintro e w3 ⟨nv, rfl, hn, hb4⟩
      dsimp only at hn
      obtain ⟨nA, nc, rfl, _, _, hns, _⟩ := hn.shape
      replace hP := hP.below hb4
      have hb5 := b_tr hb3 hb4
      have c0 : w3.cell? ⟨w2.heap.size, 0, none⟩ = some (.int .i64 0) := hP.c0
      have c1 : w3.cell? ⟨w2.heap.size, 1, none⟩ = some (.slice dA 0 dc) := hP.c1
      have c2 : w3.cell? ⟨w2.heap.size, 2, none⟩ = some (.slice oA 0 oc) := hP.c2
      have c3 : w3.cell? ⟨w2.heap.size, 3, none⟩ = some (.int .i64 0) := hP.c3
      clear hP HT hb3 hb4 hn hns hb2
      dsimp only [Pr.zeroP, List.length_nil]
      go_wp2_with fail
      refine (HA.out _).mono ?_
      rintro e w7 ⟨rfl, hb7⟩
      go_wp2
      go_ret
      exact ⟨rfl, b_tr hb5 hb7⟩
  · have g1' : lightB l = false := by simpa using g1
    rw [g1'] at HL
    go_enter Try.func7, Try.ntmps7
    go_wp2_with fail
    refine HL.out.mono ?_
    rintro e w1 ⟨rfl, rfl⟩
    go_wp2_with fail
    refine (HA.out _).mono ?_
    rintro e w2 ⟨rfl, hb⟩
    go_wp2
    go_ret
    exact ⟨rfl, hb⟩

set_option maxRecDepth 100000 in
theorem lifted (os : Os) (started : os.Started) (H : Type) (enc : TypeId × Value → H) :
    ReturnsInHanded {} Try.checked os 7 .any (Rows.reworkCountsSpec.pre6 enc Try.prog Try.f7 Rows.reworkCountsRow.domain false) (Rows.reworkCountsSpec.post enc Try.prog Try.f7 false true false false) := by
  refine returnsInHanded_of_change (C := Try.checked) own started (by kernel_rfl) Try.func7
    (ChangeSpec.witness6 (enc := enc) (C := Try.checked) false ⟨#[], #[.slice none 0 0, .slice none 0 0, .int .i64 0], []⟩ 8 (by kernel_rfl) (by kernel_rfl) (by kernel_rfl) (by kernel_rfl)) ?_
  intro W base args ds gs before hval0 hW hcnd _
  have hval : ∀ (j : Nat) t v, Try.f7.params[j]? = some t → args[j]? = some v → Value.okWide Try.prog W .any base t v := hval0
  have hW' := hW
  obtain ⟨p, q, hA0, hV, rfl, hfz, hnd⟩ := hW
  have hA : DataW.TrodAll enc Try.prog W 0 (fun _ => true) true Try.f7.params.toList args.toList ds p := hA0
  rw [Try.params7] at hA hval
  obtain ⟨v0, vs0, d0, ds0, p0, qq0, hargs, rfl, rfl, h0, r0⟩ := trodAll_cons hA
  obtain ⟨v1, vs1, d1, ds1, p1, qq1, rfl, rfl, rfl, h1, r1⟩ := trodAll_cons r0
  obtain ⟨v2, vs2, d2, ds2, p2, qq2, rfl, rfl, rfl, h2, r2⟩ := trodAll_cons r1
  obtain ⟨rfl, rfl, rfl⟩ := trodAll_nil r2
  obtain rfl : args = #[v0, v1, v2] := by cases args; simp_all
  obtain ⟨rfl, rfl⟩ := trodVars_none hV
  obtain ⟨a0, len0, cap0, rfl⟩ := okWide_slice Try.underlying22 (hval 0 22 v0 rfl rfl)
  have k0 := h0
  have lt0 : ∀ x ∈ p0, x.block < W.heap.size := by obtain ⟨m, hm⟩ := k0; exact DataW.trod_lt m _ _ _ hm
  obtain ⟨l0, w0⟩ : ∃ l, CameO W a0 len0 cap0 l := by
    obtain ⟨fuel, hf⟩ := h0
    exact open_ops (by simpa [Value.cells] using hf)
  obtain ⟨a1, len1, cap1, rfl⟩ := okWide_slice Try.underlying23 (hval 1 23 v1 rfl rfl)
  have k1 := h1
  have lt1 : ∀ x ∈ p1, x.block < W.heap.size := by obtain ⟨m, hm⟩ := k1; exact DataW.trod_lt m _ _ _ hm
  obtain ⟨l1, w1⟩ : ∃ l, CameE W a1 len1 cap1 l := by
    obtain ⟨fuel, hf⟩ := h1
    exact open_evs (by simpa [Value.cells] using hf)
  obtain ⟨a2, rfl, rfl, rfl, w2⟩ := open_int Try.underlying3 (hval 2 3 v2 rfl rfl) h2
  clear hA0 hval0
  refine (walk a0 len0 cap0 l0 a1 len1 cap1 l1 a2 W w0 w1 w2).mono fun e W' ⟨he, bel⟩ => ?_
  subst he
  exact ⟨_, rfl, _, _, _, [], _, [], hW', trodAll_mk1 (shut_bool Try.underlying4 _), (trodAll_cons_mk (Below.trod laidOut (by kernel_rfl) (of_decide_eq_true (by kernel_rfl)) k0 bel lt0) (trodAll_cons_mk (Below.trod laidOut (by kernel_rfl) (of_decide_eq_true (by kernel_rfl)) k1 bel lt1) (trodAll_cons_mk (shut_int Try.underlying3 w2) trodAll_mk0))), rfl, bel.frame _, fun h => by cases h⟩

theorem over : Rows.reworkCountsRow.holds Try.pinned (OpenSpec.ofChange Rows.reworkCountsSpec) :=
  OpenClaim.holds_of_wide 7 Try.f7 rfl rfl rfl rfl rfl rfl rfl ⟨rfl, rfl, rfl, rfl, rfl⟩ rfl rfl rfl rfl rfl (by kernel_rfl) Try.func7 (by kernel_rfl)
    (of_decide_eq_true (by kernel_rfl)) (by unfold Func.isWrapper; first | (rw [if_pos (by decide +kernel)]; kernel_rfl) | (rw [if_neg (by decide +kernel)]; exact ⟨rfl, rfl⟩))
    (fun os started H enc _ => lifted os started H enc)

theorem proved : Rows.ReworkCountsSaid := over
#print axioms proved
end Go.Proofs.Ytcolekfjmhgldaa.counts
