/- Runs. -/
import Derived.Test.YtcolekfjmhgldaaT
namespace Go.Proofs.Ytcolekfjmhgldaa
open Go.RowKit
open Pr (Opn Prg Res)

theorem cells34 : Try.prog.cellsOf 34 = 2 := by kernel_rfl
/-- The slice at A reads as the events es and lies below block B. -/
def Se (w : World) (B : Nat) (A : Option Addr) (es : List (Int × Int)) : Prop :=
  es = [] ∨ ∃ b off, A = some ⟨b, off, none⟩ ∧ b < B ∧ ∀ i e, es[i]? = some e → w.cell? ⟨b, off + i * 2, none⟩ = some (.int .i64 e.1) ∧ w.cell? ⟨b, off + i * 2 + 1, none⟩ = some (.int .i64 e.2)
theorem Se.get {w : World} {B : Nat} {A : Option Addr} {es : List (Int × Int)} (h : Se w B A es) {i : Nat} {e : Int × Int} (hi : es[i]? = some e) :
    ∃ b off, A = some ⟨b, off, none⟩ ∧ b < B ∧ w.cell? ⟨b, off + i * 2, none⟩ = some (.int .i64 e.1) ∧ w.cell? ⟨b, off + i * 2 + 1, none⟩ = some (.int .i64 e.2) := by
  rcases h with rfl | ⟨b, off, h1, h2, h3⟩
  · simp at hi
  · exact ⟨b, off, h1, h2, h3 i e hi⟩
theorem Se.below {w w' : World} {B : Nat} {A : Option Addr} {es : List (Int × Int)} (h : Se w B A es) (hb : Below B w w') : Se w' B A es := by
  rcases h with rfl | ⟨b, off, h1, h2, h3⟩
  · exact .inl rfl
  · exact .inr ⟨b, off, h1, h2, fun i e hi => ⟨(hb.cell (p := ⟨b, off + i * 2, none⟩) h2).trans (h3 i e hi).1, (hb.cell (p := ⟨b, off + i * 2 + 1, none⟩) h2).trans (h3 i e hi).2⟩⟩
theorem Se.more {w : World} {B B' : Nat} {A : Option Addr} {es : List (Int × Int)} (h : Se w B A es) (hB : B ≤ B') : Se w B' A es := by
  rcases h with rfl | ⟨b, off, h1, h2, h3⟩
  · exact .inl rfl
  · exact .inr ⟨b, off, h1, by omega, h3⟩
theorem Se.to {w w' : World} {A : Option Addr} {es : List (Int × Int)} (h : Se w w.heap.size A es) (hb : Below w.heap.size w w') : Se w' w'.heap.size A es := (h.below hb).more hb.size
theorem Se.take {w : World} {B : Nat} {A : Option Addr} {es : List (Int × Int)} (h : Se w B A es) (k : Nat) : Se w B A (es.take k) := by
  rcases h with rfl | ⟨b, off, h1, h2, h3⟩
  · exact .inl (by simp)
  · refine .inr ⟨b, off, h1, h2, fun i x hi => h3 i x ?_⟩
    rw [List.getElem?_take] at hi
    split at hi
    · exact hi
    · cases hi

/-- a progress in block g -/
structure Pc (w : World) (base g : Nat) (dv ov : Value) (p : Prg) : Prop where
  c0 : w.cell? ⟨g, 0, none⟩ = some (.int .i64 p.state)
  c1 : w.cell? ⟨g, 1, none⟩ = some dv
  c2 : w.cell? ⟨g, 2, none⟩ = some ov
  c3 : w.cell? ⟨g, 3, none⟩ = some (.int .i64 p.rework)
  fz : ∀ j, w.frozen? ⟨g, j, none⟩ = false
  gl : g < w.heap.size
  hd : Oi w base dv p.done
  ho : Oi w base ov p.opn
  nd : dv.ownBlock ≠ some g
  no : ov.ownBlock ≠ some g
theorem Pc.below {w w' : World} {base g : Nat} {dv ov : Value} {p : Prg} (h : Pc w base g dv ov p) (hb : Below w.heap.size w w') : Pc w' base g dv ov p where
  c0 := (hb.cell (p := ⟨g, 0, none⟩) h.gl).trans h.c0
  c1 := (hb.cell (p := ⟨g, 1, none⟩) h.gl).trans h.c1
  c2 := (hb.cell (p := ⟨g, 2, none⟩) h.gl).trans h.c2
  c3 := (hb.cell (p := ⟨g, 3, none⟩) h.gl).trans h.c3
  fz := fun j => (World.frozen?_of_block (hb.block g h.gl)).trans (h.fz j)
  gl := Nat.lt_of_lt_of_le h.gl hb.size
  hd := h.hd.below hb
  ho := h.ho.below hb
  nd := h.nd
  no := h.no
theorem Pc.new {w : World} {base : Nat} {dA : Option Addr} {dc : Nat} {oA : Option Addr} {oc : Nat} {p : Prg} (hd : Oi w base (.slice dA p.done.length dc) p.done) (ho : Oi w base (.slice oA p.opn.length oc) p.opn) :
    Pc (w.alloc (.cells #[.int .i64 p.state, .slice dA p.done.length dc, .slice oA p.opn.length oc, .int .i64 p.rework] 29)) base w.heap.size (.slice dA p.done.length dc) (.slice oA p.opn.length oc) p :=
  ⟨by simp, by simp, by simp, by simp, fun j => World.frozen?_alloc_new _ _ _ j, by simp, hd.alloc _, ho.alloc _, fun e => by have := (World.ownsRow.lt hd _ e).2; omega, fun e => by have := (World.ownsRow.lt ho _ e).2; omega⟩
theorem Pc.put {w : World} {base b G : Nat} {dv ov dv' ov' : Value} {p p' : Prg} (z : Pc w base G dv ov p) (hd : Oi w b dv' p'.done) (ho : Oi w b ov' p'.opn) (h1 : base ≤ b) (hGb : G < b) :
    Pc ((((w.setCell ⟨G, 0, none⟩ (.int .i64 p'.state)).setCell ⟨G, 1, none⟩ dv').setCell ⟨G, 2, none⟩ ov').setCell ⟨G, 3, none⟩ (.int .i64 p'.rework)) base G dv' ov' p' := by
  have nd : dv'.ownBlock ≠ some G := fun e => by have := (World.ownsRow.lt hd G e).1; omega
  have no : ov'.ownBlock ≠ some G := fun e => by have := (World.ownsRow.lt ho G e).1; omega
  have k1 := fun (u : Value) (W : World) (h : Oi W base dv' p'.done) (j : Nat) => World.ownsRow.kept h (grown_set W G j u) (.inr nd)
  have k2 := fun (u : Value) (W : World) (h : Oi W base ov' p'.opn) (j : Nat) => World.ownsRow.kept h (grown_set W G j u) (.inr no)
  refine ⟨?_, ?_, ?_, ?_, fun j => by simp only [World.frozen?_setCell]; exact z.fz j, ?_, k1 _ _ (k1 _ _ (k1 _ _ (k1 _ _ (hd.base_le h1) _) _) _) _, k2 _ _ (k2 _ _ (k2 _ _ (k2 _ _ (ho.base_le h1) _) _) _) _, nd, no⟩
  · rw [World.cell?_setCell_other _ _ _ _ (by simp), World.cell?_setCell_other _ _ _ _ (by simp), World.cell?_setCell_other _ _ _ _ (by simp)]
    exact World.cell?_setCell_same _ _ _ z.c0
  · rw [World.cell?_setCell_other _ _ _ _ (by simp), World.cell?_setCell_other _ _ _ _ (by simp)]
    exact World.cell?_setCell_same _ _ _ ((World.cell?_setCell_other _ _ _ _ (by simp)).trans z.c1)
  · rw [World.cell?_setCell_other _ _ _ _ (by simp)]
    exact World.cell?_setCell_same _ _ _ ((World.cell?_setCell_other _ _ _ _ (by simp)).trans ((World.cell?_setCell_other _ _ _ _ (by simp)).trans z.c2))
  · exact World.cell?_setCell_same _ _ _ ((World.cell?_setCell_other _ _ _ _ (by simp)).trans ((World.cell?_setCell_other _ _ _ _ (by simp)).trans ((World.cell?_setCell_other _ _ _ _ (by simp)).trans z.c3)))
  · have h1 := (grown_set w G 0 (.int .i64 p'.state)).size
    have h2 := (grown_set (w.setCell ⟨G, 0, none⟩ (.int .i64 p'.state)) G 1 dv').size
    have h3 := (grown_set ((w.setCell ⟨G, 0, none⟩ (.int .i64 p'.state)).setCell ⟨G, 1, none⟩ dv') G 2 ov').size
    have h4 := (grown_set (((w.setCell ⟨G, 0, none⟩ (.int .i64 p'.state)).setCell ⟨G, 1, none⟩ dv').setCell ⟨G, 2, none⟩ ov') G 3 (.int .i64 p'.rework)).size
    have := z.gl
    omega

theorem oi_si {w : World} {base n c : Nat} {A : Option Addr} {l : List Int} (h : Oi w base (.slice A n c) l) : Si w w.heap.size A l := by
  obtain ⟨A', c', hA, _, _, hs, _⟩ := h.shape
  injection hA with h1 h2 h3
  rw [h1]
  exact hs
/-- lengths of a progress -/
structure Ln (l : List Opn) (p : Prg) : Prop where
  d : p.done.length = l.length
  o : p.opn.length ≤ l.length
theorem stepR_len {l : List Opn} {p : Prg} {k op most : Int} (h : (Pr.stepR l p k op most).1 = 0) : Ln l (Pr.stepR l p k op most).2 := by
  unfold Pr.stepR at *
  by_cases h0 : Pr.ordE l = 0
  · rw [if_neg (by rw [h0]; simp)] at h ⊢
    cases h1 : Pr.validB l p with
    | false => rw [h1, if_pos rfl] at h; cases h
    | true =>
      have hV := vld_of h1
      rw [h1] at h
      rw [if_neg (by simp)] at h ⊢
      split at h
      · cases h
      · rename_i h3
        rw [if_neg h3]
        unfold Pr.actR at *
        split
        · rename_i k1
          rw [if_pos k1] at h
          unfold Pr.doneR at *
          by_cases a1 : op < 0 ∨ (l.length : Int) ≤ op
          · rw [if_pos a1] at h; cases h
          rw [if_neg a1] at h ⊢
          by_cases a2 : ¬ op ∈ p.opn
          · rw [if_pos a2] at h; cases h
          rw [if_neg a2] at h ⊢
          by_cases a3 : Pr.waitsB l p.opn op.toNat = true
          · rw [if_pos a3] at h; cases h
          rw [if_neg a3]
          refine ⟨?_, ?_⟩
          · show (p.done.set _ _).length = _
            rw [List.length_set]; exact hV.dl
          · show (p.opn.erase op).length ≤ _
            have := List.length_erase_le (a := op) (l := p.opn)
            have := hV.ol
            omega
        · rename_i k1
          rw [if_neg k1] at h
          split
          · rename_i k2
            rw [if_pos k2] at h
            unfold Pr.defectR at *
            split at h
            · cases h
            · rename_i a1
              rw [if_neg a1]
              split at h
              · cases h
              · rename_i a2
                rw [if_neg a2]
                refine ⟨hV.dl, ?_⟩
                show (Pr.openD l p op).length ≤ _
                unfold Pr.openD
                have := List.length_filter_le (fun x => decide (x ∈ p.opn) || decide (x = op) || Pr.folB l op x.toNat) (Pr.ids l.length)
                rw [ids_length] at this
                exact this
          · rename_i k2
            rw [if_neg k2] at h
            split
            · rename_i k3
              rw [if_pos k3] at h
              unfold Pr.passR at *
              split at h
              · cases h
              · rename_i a1
                rw [if_neg a1]
                split at h
                · cases h
                · rename_i a2
                  rw [if_neg a2]
                  exact ⟨hV.dl, hV.ol⟩
            · rename_i k3
              rw [if_neg k3] at h
              split
              · rename_i k4
                rw [if_pos k4] at h
                unfold Pr.rejectR at *
                split at h
                · cases h
                · rename_i a1
                  rw [if_neg a1]
                  exact ⟨hV.dl, hV.ol⟩
              · rename_i k4
                rw [if_neg k4] at h
                cases h
  · rw [if_pos h0] at h
    exact absurd h h0
theorem newP_len (l : List Opn) : Ln l (Pr.newP l) := ⟨by simp [Pr.newP], by simp [Pr.newP, ids_length]⟩
theorem runTo_cons {l : List Opn} {most : Int} {es : List (Int × Int)} {k : Nat} {e : Int × Int} {p : Prg} (he : es[k]? = some e) :
    Pr.runTo l most (es.drop k) k p = if (Pr.stepR l p e.1 e.2 most).1 = 0 then Pr.runTo l most (es.drop (k + 1)) (k + 1) (Pr.stepR l p e.1 e.2 most).2 else ⟨(Pr.stepR l p e.1 e.2 most).1, Pr.zeroP, k⟩ := by
  obtain ⟨h1, h2⟩ := List.getElem?_eq_some_iff.1 he
  rw [List.drop_eq_getElem_cons h1, h2, Pr.runTo]

/-- what a run returns -/
def RunPost (w : World) (r : Res) (e : Ending) (w' : World) : Prop :=
  ∃ dv ov, e = .returned (.tuple #[.agg #[.int .i64 r.prg.state, dv, ov, .int .i64 r.prg.rework], .int .i64 r.err, .int .i64 r.idx]) ∧ Oi w' w.heap.size dv r.prg.done ∧ Oi w' w.heap.size ov r.prg.opn ∧ Below w.heap.size w w'
theorem RunPost.bad {w w' : World} {r : Res} {n i : Int} (hr : r = ⟨n, Pr.zeroP, i⟩) (hb : Below w.heap.size w w') : RunPost w r (.returned (.tuple #[.agg #[.int .i64 0, .slice none 0 0, .slice none 0 0, .int .i64 0], .int .i64 n, .int .i64 i])) w' := by
  subst hr
  exact ⟨_, _, rfl, World.ownsRow_nil _ _ _ _, World.ownsRow_nil _ _ _ _, hb⟩
theorem RunPost.good {w w' : World} {r : Res} {p : Prg} {dv ov : Value} {base : Nat} (hr : r = ⟨0, p, 0⟩) (h1 : Oi w' base dv p.done) (h2 : Oi w' base ov p.opn) (hb : Below w.heap.size w w') (hbase : w.heap.size ≤ base) :
    RunPost w r (.returned (.tuple #[.agg #[.int .i64 p.state, dv, ov, .int .i64 p.rework], .int .i64 0, .int .i64 0])) w' := by
  subst hr
  exact ⟨_, _, rfl, h1.base_le hbase, h2.base_le hbase, hb⟩

set_option maxRecDepth 100000 in
set_option maxHeartbeats 2000000 in
theorem follow_any (A : Option Addr) (c : Nat) (l : List Opn) (eA : Option Addr) (ec : Nat) (es : List (Int × Int)) (most : Int) (w : World) (hl : So w w.heap.size A l) (hk : Oks l) (hc : l.length ≤ c) (hcm : c ≤ maxLen) (hes : Se w w.heap.size eA es) (hel : es.length ≤ 1000) :
    Calls Try.prog 26 #[.slice A l.length c, .int .i64 most, .slice eA es.length ec] w (RunPost w (Pr.runR l es most)) := by
  have hlen := hk.len
  have hb0 := b_new w (.cells #[.int .i64 0, .slice none 0 0, .slice none 0 0, .int .i64 0] 29)
  have hz0 := Z4.new w
  have HN := Lib.hid (new_any A c l _ (hl.to hb0) hk hc hcm)
  have hsz0 := hz0.gl
  have h34 := cells34
  by_cases h0 : Pr.ordE l = 0
  · have hR0 : newR l = (0, Pr.newP l) := by unfold newR; rw [if_pos h0]
    have HRR : Hid (Pr.runR l es most = Pr.runTo l most (es.drop 0) 0 (Pr.newP l)) := by show _ = _; unfold Pr.runR; rw [if_pos h0]; rfl
    rw [hR0] at HN
    clear hR0 h0
    go_enter Try.func26, Try.ntmps26
    go_wp2_with fail
    generalize w.alloc (.cells #[.int .i64 0, .slice none 0 0, .slice none 0 0, .int .i64 0] 29) = W0 at *
    refine HN.out.mono ?_
    rintro e w1 ⟨dv, ov, rfl, hd, ho, hb⟩
    have hLn := newP_len l
    dsimp only at hd ho
    generalize Pr.newP l = P0 at *
    obtain ⟨dA, dc, rfl, _, _, _, _⟩ := hd.shape
    obtain ⟨oA, oc, rfl, _, _, _, _⟩ := ho.shape
    have hPc := Pc.new hd ho
    have hbN := b_al hb (.cells #[.int .i64 P0.state, .slice dA P0.done.length dc, .slice oA P0.opn.length oc, .int .i64 P0.rework] 29)
    have hg1 := hb.size
    clear HN hd ho hb
    go_wp2
    generalize hgp : w1.heap.size = gp at *
    clear hgp
    go_loopw [24] (fun s24 wr => ∃ (k : Nat) (p : Prg) (dv ov : Value), k ≤ es.length ∧ s24 = .int .i64 k ∧ Pc wr W0.heap.size gp dv ov p ∧ Ln l p ∧ Hid (Pr.runR l es most = Pr.runTo l most (es.drop k) k p) ∧ Below W0.heap.size W0 wr) (fun s24 _ => es.length - (intOf s24).toNat)
    case atStart => exact ⟨0, P0, _, _, Nat.zero_le _, rfl, hPc, hLn, HRR, hbN⟩
    case round =>
      clear hPc hLn HRR hbN
      obtain ⟨k, p, dv, ov, hk1, rfl, hP, hLn, hR, hB⟩ := hrel
      have hzr := hz0.below hB
      obtain ⟨r0, r1, r2, r3, rf, rl⟩ := hzr
      by_cases hlt : k < es.length
      · obtain ⟨ev, hev⟩ : ∃ ev, es[k]? = some ev := ⟨_, List.getElem?_eq_getElem hlt⟩
        have hbw := b_tr hb0 hB
        obtain ⟨eb, eoff, rfl, heb, e0, e1⟩ := (hes.below hbw).get hev
        have HC := Lib.hid (runTo_cons (l := l) (most := most) (p := p) hev)
        rw [HC.out] at hR
        obtain ⟨dA2, dc2, rfl, _, _, _, _⟩ := hP.hd.shape
        obtain ⟨oA2, oc2, rfl, _, _, _, _⟩ := hP.ho.shape
        have hb2 := b_new wr (.cells #[.int .i64 ev.1, .int .i64 ev.2] 34)
        have hP2 := hP.below hb2
        have hd2 := hP2.hd.shape
        have HS := Lib.hid (step_any A c l (wr.alloc (.cells #[.int .i64 ev.1, .int .i64 ev.2] 34)) dA2 dc2 oA2 oc2 p ev.1 ev.2 most ((hl.to hbw).to hb2) hk hc hcm (oi_si hP2.hd) (oi_si hP2.ho) (by have := hLn.d; omega) (by have := hLn.o; omega))
        have HLn := Lib.hid (fun h => stepR_len (l := l) (p := p) (k := ev.1) (op := ev.2) (most := most) h)
        have c0 := hP2.c0
        have c1 := hP2.c1
        have c2 := hP2.c2
        have c3 := hP2.c3
        have hbe := b_tr hB hb2
        have hgl := hP2.gl
        have hsz2 := hbe.size
        clear HC hev hd2 hP hb2
        generalize Pr.stepR l p ev.1 ev.2 most = S at *
        obtain ⟨E, Q⟩ := S
        dsimp only at hR HLn
        go_wp2_with fail
        generalize wr.alloc (.cells #[.int .i64 ev.1, .int .i64 ev.2] 34) = W2 at *
        refine HS.out.mono ?_
        rintro e w3 ⟨dv3, ov3, rfl, hd3, ho3, hb3⟩
        dsimp only at hd3 ho3
        obtain ⟨dA3, dc3, rfl, _, _, _, _⟩ := hd3.shape
        obtain ⟨oA3, oc3, rfl, _, _, _, _⟩ := ho3.shape
        have hP3 := hP2.below hb3
        have d0 := hP3.c0
        have d1 := hP3.c1
        have d2 := hP3.c2
        have d3 := hP3.c3
        have df := hP3.fz
        have hP4 := Lib.hid (hP3.put hd3 ho3 hsz2 hgl)
        have hbe3 := b_tr hbe hb3
        have hB4 := Lib.hid (b_set (b_set (b_set (b_set hbe3 hg1 0 (.int .i64 Q.state)) hg1 1 (.slice dA3 Q.done.length dc3)) hg1 2 (.slice oA3 Q.opn.length oc3)) hg1 3 (.int .i64 Q.rework))
        clear hP3 hP2 HS hd3 ho3
        by_cases hE : E = 0
        · subst hE
          rw [if_pos rfl] at hR
          have hLq := HLn.out rfl
          clear HLn
          go_wp2
          go_roundw
          case rel => exact ⟨k + 1, Q, _, _, by omega, by go_num, hP4.out, hLq, hR, hB4.out⟩
          case measure => simp [intOf]; omega
        · rw [if_neg hE] at hR
          have hne : (E == 0) = false := by simpa using hE
          obtain ⟨t0, t1, t2, t3, tf, tl⟩ := hz0.below hB4.out
          have hbX := b_tr hb0 hB4.out
          clear hP4 HLn
          go_wp2
          refine bodyPost_ret (v := .tuple #[.agg #[.int .i64 0, .slice none 0 0, .slice none 0 0, .int .i64 0], .int .i64 E, .int .i64 (k : Int)]) (by simp [results, Try.results26, go_sem, t0, t1, t2, t3]) rfl ?_
          exact RunPost.bad hR.out (b_set (b_set (b_set (b_set hbX (Nat.le_refl _) _ _) (Nat.le_refl _) _ _) (Nat.le_refl _) _ _) (Nat.le_refl _) _ _)
      · obtain rfl : k = es.length := by omega
        have HF : Hid (Pr.runR l es most = ⟨0, p, 0⟩) := by show _ = _; rw [hR.out, List.drop_length]; rfl
        have c0 := hP.c0
        have c1 := hP.c1
        have c2 := hP.c2
        have c3 := hP.c3
        have HD := Lib.hid hP.hd
        have HO := Lib.hid hP.ho
        obtain ⟨dA2, dc2, rfl, _, _, _, _⟩ := hP.hd.shape
        obtain ⟨oA2, oc2, rfl, _, _, _, _⟩ := hP.ho.shape
        have hbX := b_tr hb0 hB
        clear hP hR
        go_wp2
        refine bodyPost_ret (v := .tuple #[.agg #[.int .i64 p.state, .slice dA2 p.done.length dc2, .slice oA2 p.opn.length oc2, .int .i64 p.rework], .int .i64 0, .int .i64 0]) (by simp [results, Try.results26, go_sem, r0, r1, r2, r3]) rfl ?_
        exact RunPost.good HF.out ((((HD.out.setOther hsz0 _ _).setOther hsz0 _ _).setOther hsz0 _ _).setOther hsz0 _ _) ((((HO.out.setOther hsz0 _ _).setOther hsz0 _ _).setOther hsz0 _ _).setOther hsz0 _ _) (b_set (b_set (b_set (b_set hbX (Nat.le_refl _) _ _) (Nat.le_refl _) _ _) (Nat.le_refl _) _ _) (Nat.le_refl _) _ _) (by omega)
  · have hR0 : newR l = (Pr.ordE l, Pr.zeroP) := by unfold newR; rw [if_neg h0]
    have HRR : Hid (Pr.runR l es most = ⟨Pr.ordE l, Pr.zeroP, 0⟩) := by show _ = _; unfold Pr.runR; rw [if_neg h0]
    have hne : (Pr.ordE l == 0) = false := by simpa using h0
    rw [hR0] at HN
    generalize Pr.ordE l = E at *
    clear hR0 h0
    go_enter Try.func26, Try.ntmps26
    go_wp2_with fail
    refine HN.out.mono ?_
    rintro e w1 ⟨dv, ov, rfl, hd, ho, hb⟩
    dsimp only at hd ho
    obtain ⟨dA, dc, rfl, _, _, _, _⟩ := hd.shape
    obtain ⟨oA, oc, rfl, _, _, _, _⟩ := ho.shape
    have hbN := b_al hb (.cells #[.int .i64 Pr.zeroP.state, .slice dA Pr.zeroP.done.length dc, .slice oA Pr.zeroP.opn.length oc, .int .i64 Pr.zeroP.rework] 29)
    obtain ⟨t0, t1, t2, t3, tf, tl⟩ := hz0.below hbN
    have hbX := b_tr hb0 hbN
    clear HN hd ho hb hz0 hbN
    go_wp2
    refine bodyPost_ret (v := .tuple #[.agg #[.int .i64 0, .slice none 0 0, .slice none 0 0, .int .i64 0], .int .i64 E, .int .i64 0]) (by simp [results, Try.results26, go_sem, t0, t1, t2, t3]) rfl ?_
    exact RunPost.bad HRR.out (b_set (b_set (b_set (b_set hbX (Nat.le_refl _) _ _) (Nat.le_refl _) _ _) (Nat.le_refl _) _ _) (Nat.le_refl _) _ _)
end Go.Proofs.Ytcolekfjmhgldaa
