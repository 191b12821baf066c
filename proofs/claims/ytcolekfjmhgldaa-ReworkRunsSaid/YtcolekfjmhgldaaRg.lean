/- The reference: permitted, Step. -/
import Derived.Test.YtcolekfjmhgldaaRf
namespace Go.Proofs.Ytcolekfjmhgldaa
open Go.RowKit
open Pr (Opn Prg Res)

/-- the error of an event, but for the operations that are open: the kind and the operation -/
def kindE (n : Nat) (kd op : Int) : Int := if kd = 1 ∨ kd = 2 then (if op < 0 ∨ (n : Int) ≤ op then 3 else 0) else if kd = 3 ∨ kd = 4 then (if op ≠ 0 then 3 else 0) else 1
def permE (l : List Opn) (p : Prg) (kd op : Int) : Int := if Pr.ordE l ≠ 0 then Pr.ordE l else if Pr.validB l p = false then 1 else if p.state = 3 ∨ p.state = 4 then 8 else kindE l.length kd op

/-- an event in block g -/
structure Ec (w : World) (g : Nat) (kd op : Int) : Prop where
  c0 : w.cell? ⟨g, 0, none⟩ = some (.int .i64 kd)
  c1 : w.cell? ⟨g, 1, none⟩ = some (.int .i64 op)
  gl : g < w.heap.size
theorem Ec.below {w w' : World} {g : Nat} {kd op : Int} (h : Ec w g kd op) (hb : Below w.heap.size w w') : Ec w' g kd op where
  c0 := (hb.cell (p := ⟨g, 0, none⟩) h.gl).trans h.c0
  c1 := (hb.cell (p := ⟨g, 1, none⟩) h.gl).trans h.c1
  gl := Nat.lt_of_lt_of_le h.gl hb.size
theorem ec2 (w : World) (o : Obj) (kd op : Int) : Ec ((w.alloc o).alloc (.cells #[.int .i64 kd, .int .i64 op] 34)) (w.heap.size + 1) kd op := by
  have hsz : (w.alloc o).heap.size = w.heap.size + 1 := size_al _ _
  refine ⟨?_, ?_, by rw [size_al, size_al]; omega⟩
  · rw [← hsz]; simp
  · rw [← hsz]; simp

set_option maxRecDepth 100000 in
set_option maxHeartbeats 4000000 in
theorem permitted_any (A : Option Addr) (c : Nat) (l : List Opn) (w : World) (dA : Option Addr) (dc : Nat) (oA : Option Addr) (oc : Nat) (p : Prg) (kd op : Int) (hl : So w w.heap.size A l) (hk : Oks l) (hcap : Cap w A l.length)
    (hd : Si w w.heap.size dA p.done) (ho : Si w w.heap.size oA p.opn) (hdl : p.done.length ≤ 1000) (hol : p.opn.length ≤ 1000) :
    Calls Try.prog 39 #[.slice A l.length c, .agg #[.int .i64 p.state, .slice dA p.done.length dc, .slice oA p.opn.length oc, .int .i64 p.rework], .agg #[.int .i64 kd, .int .i64 op]] w fun e w' => e = .returned (.int .i64 (permE l p kd op)) ∧ Below w.heap.size w w' := by
  have hlen := hk.len
  have hb1 := b_al (b_new w (.cells #[.int .i64 p.state, .slice dA p.done.length dc, .slice oA p.opn.length oc, .int .i64 p.rework] 29)) (.cells #[.int .i64 kd, .int .i64 op] 34)
  have hx1 := (bx1 w p.state (.slice dA p.done.length dc) (.slice oA p.opn.length oc) p.rework).below (b_new _ (.cells #[.int .i64 kd, .int .i64 op] 34))
  have he1 := ec2 w (.cells #[.int .i64 p.state, .slice dA p.done.length dc, .slice oA p.opn.length oc, .int .i64 p.rework] 29) kd op
  have HO := Lib.hid (rorder_any A c l _ (hl.to hb1) hk (hcap.to hl hb1))
  have HRT := Lib.hid (fun (W : World) (hb : Below w.heap.size w W) => right_any A c l W dA dc oA oc p (hl.to hb) hk ((hd.below hb).more hb.size) ((ho.below hb).more hb.size) hdl hol)
  by_cases h0 : Pr.ordE l = 0
  · have HE : Hid (permE l p kd op = if Pr.validB l p = false then 1 else if p.state = 3 ∨ p.state = 4 then 8 else kindE l.length kd op) := by show _ = _; unfold permE; rw [if_neg (by rw [h0]; simp)]
    generalize permE l p kd op = R at *
    have HOE : Hid (Pr.ordE l = 0) := h0
    clear hcap hd ho h0
    go_enter Try.func39, Try.ntmps39
    go_upto_region 1 with fail
    generalize (w.alloc (.cells #[.int .i64 p.state, .slice dA p.done.length dc, .slice oA p.opn.length oc, .int .i64 p.rework] 29)).alloc (.cells #[.int .i64 kd, .int .i64 op] 34) = W1 at *
    go_wp2_with fail
    refine HO.out.mono ?_
    rintro e w2 ⟨v, rfl, hv, hb2⟩
    rw [HOE.out]
    have hx2 := hx1.below hb2
    have he2 := he1.below hb2
    have hbw2 := b_tr hb1 hb2
    have HRT2 := Lib.hid (HRT.out w2 hbw2)
    obtain ⟨r0, r1, r2, r3, rl⟩ := id hx2
    clear HO HRT hx1 he1 hb1 hv hb2
    cases hvd : Pr.validB l p with
    | false =>
      have HF : Hid (R = 1) := by show _ = _; rw [HE.out, if_pos hvd]
      rw [hvd] at HRT2
      clear HE hvd
      go_wp2_with fail
      refine HRT2.out.mono ?_
      rintro e w3 ⟨rfl, hb3⟩
      go_wp2
      go_ret
      exact ⟨ret_int HF.out.symm, b_tr hbw2 hb3⟩
    | true =>
      have HE2 : Hid (R = if p.state = 3 ∨ p.state = 4 then 8 else kindE l.length kd op) := by show _ = _; rw [HE.out, if_neg (by rw [hvd]; simp)]
      rw [hvd] at HRT2
      clear HE hvd
      go_wp2_with fail
      refine HRT2.out.mono ?_
      rintro e w3 ⟨rfl, hb3⟩
      obtain ⟨t0, t1, t2, t3, tl⟩ := hx2.below hb3
      obtain ⟨e0, e1, el⟩ := he2.below hb3
      have hbX := b_tr hbw2 hb3
      clear HRT2 hx2 he2 hbw2 hb3 r0 r1 r2 r3 rl t1 t2 t3
      by_cases hst : p.state = 3 ∨ p.state = 4
      · have HF : Hid (R = 8) := by show _ = _; rw [HE2.out, if_pos hst]
        have hst' : p.state = 3 ∨ (¬ p.state = 3 ∧ p.state = 4) := by omega
        clear HE2 hst
        rcases hst' with g | ⟨g, g'⟩
        · rw [g] at t0
          go_wp2
          go_ret
          exact ⟨ret_int HF.out.symm, hbX⟩
        · rw [g'] at t0
          clear g g'
          go_wp2
          go_ret
          exact ⟨ret_int HF.out.symm, hbX⟩
      · have HE3 : Hid (R = kindE l.length kd op) := by show _ = _; rw [HE2.out, if_neg hst]
        have g3 : (p.state == 3) = false := by simp; omega
        have g4 : (p.state == 4) = false := by simp; omega
        clear HE2 hst
        by_cases k1 : kd = 1
        · subst k1
          have HE4 : Hid (R = if op < 0 ∨ (l.length : Int) ≤ op then 3 else 0) := by show _ = _; rw [HE3.out]; unfold kindE; rw [if_pos (.inl rfl)]
          clear HE3
          by_cases o1 : op < 0
          · have HF : Hid (R = 3) := by show _ = _; rw [HE4.out, if_pos (.inl o1)]
            clear HE4
            go_wp2
            go_ret
            exact ⟨ret_int HF.out.symm, hbX⟩
          by_cases o2 : (l.length : Int) ≤ op
          · have HF : Hid (R = 3) := by show _ = _; rw [HE4.out, if_pos (.inr o2)]
            clear HE4
            go_wp2
            go_ret
            exact ⟨ret_int HF.out.symm, hbX⟩
          have HF : Hid (R = 0) := by show _ = _; rw [HE4.out, if_neg (by omega)]
          clear HE4
          go_wp2
          go_ret
          exact ⟨ret_int HF.out.symm, hbX⟩
        by_cases k2 : kd = 2
        · subst k2
          have HE4 : Hid (R = if op < 0 ∨ (l.length : Int) ≤ op then 3 else 0) := by show _ = _; rw [HE3.out]; unfold kindE; rw [if_pos (.inr rfl)]
          clear HE3
          by_cases o1 : op < 0
          · have HF : Hid (R = 3) := by show _ = _; rw [HE4.out, if_pos (.inl o1)]
            clear HE4
            go_wp2
            go_ret
            exact ⟨ret_int HF.out.symm, hbX⟩
          by_cases o2 : (l.length : Int) ≤ op
          · have HF : Hid (R = 3) := by show _ = _; rw [HE4.out, if_pos (.inr o2)]
            clear HE4
            go_wp2
            go_ret
            exact ⟨ret_int HF.out.symm, hbX⟩
          have HF : Hid (R = 0) := by show _ = _; rw [HE4.out, if_neg (by omega)]
          clear HE4
          go_wp2
          go_ret
          exact ⟨ret_int HF.out.symm, hbX⟩
        have k1' : (kd == 1) = false := by simpa using k1
        have k2' : (kd == 2) = false := by simpa using k2
        have HE5 : Hid (R = if kd = 3 ∨ kd = 4 then (if op ≠ 0 then 3 else 0) else 1) := by show _ = _; rw [HE3.out]; unfold kindE; rw [if_neg (by omega)]
        clear HE3 k1 k2
        by_cases k34 : kd = 3 ∨ kd = 4
        · have HE6 : Hid (R = if op ≠ 0 then 3 else 0) := by show _ = _; rw [HE5.out, if_pos k34]
          clear HE5
          by_cases o1 : op = 0
          · subst o1
            have HF : Hid (R = 0) := by show _ = _; rw [HE6.out, if_neg (by simp)]
            clear HE6
            rcases k34 with rfl | rfl
            all_goals
              go_wp2
              go_ret
              exact ⟨ret_int HF.out.symm, hbX⟩
          · have HF : Hid (R = 3) := by show _ = _; rw [HE6.out, if_pos o1]
            have o1' : (op == 0) = false := by simpa using o1
            clear HE6
            rcases k34 with rfl | rfl
            all_goals
              go_wp2
              go_ret
              exact ⟨ret_int HF.out.symm, hbX⟩
        · have HF : Hid (R = 1) := by show _ = _; rw [HE5.out, if_neg k34]
          have k3' : (kd == 3) = false := by simp; omega
          have k4' : (kd == 4) = false := by simp; omega
          clear HE5 k34
          go_wp2
          go_ret
          exact ⟨ret_int HF.out.symm, hbX⟩
  · have HE : Hid (permE l p kd op = Pr.ordE l) := by show _ = _; unfold permE; rw [if_pos h0]
    have hne : (Pr.ordE l == 0) = false := by simpa using h0
    generalize permE l p kd op = R at *
    clear hcap hd ho HRT hx1 he1
    go_enter Try.func39, Try.ntmps39
    go_upto_region 1 with fail
    generalize (w.alloc (.cells #[.int .i64 p.state, .slice dA p.done.length dc, .slice oA p.opn.length oc, .int .i64 p.rework] 29)).alloc (.cells #[.int .i64 kd, .int .i64 op] 34) = W1 at *
    go_wp2_with fail
    refine HO.out.mono ?_
    rintro e w2 ⟨v, rfl, hv, hb2⟩
    generalize Pr.ordE l = E at *
    clear hv
    go_wp2
    go_ret
    exact ⟨ret_int HE.out.symm, b_tr hb1 hb2⟩

theorem perm_bad {l : List Opn} {p : Prg} {kd op most : Int} (h : permE l p kd op ≠ 0) : Pr.stepR l p kd op most = (permE l p kd op, Pr.zeroP) := by
  unfold Pr.stepR
  unfold permE at *
  by_cases h0 : Pr.ordE l ≠ 0
  · rw [if_pos h0, if_pos h0]
  rw [if_neg h0, if_neg h0]
  rw [if_neg h0] at h
  by_cases h1 : Pr.validB l p = false
  · rw [if_pos h1, if_pos h1]
  rw [if_neg h1, if_neg h1]
  rw [if_neg h1] at h
  by_cases h2 : p.state = 3 ∨ p.state = 4
  · rw [if_pos h2, if_pos h2]
  rw [if_neg h2, if_neg h2]
  rw [if_neg h2] at h
  unfold Pr.actR
  unfold kindE at *
  by_cases k1 : kd = 1
  · rw [if_pos k1, if_pos (.inl k1)]
    rw [if_pos (.inl k1)] at h
    unfold Pr.doneR
    by_cases o1 : op < 0 ∨ (l.length : Int) ≤ op
    · rw [if_pos o1, if_pos o1]
    · rw [if_neg o1] at h; exact absurd rfl h
  rw [if_neg k1]
  by_cases k2 : kd = 2
  · rw [if_pos k2, if_pos (.inr k2)]
    rw [if_pos (.inr k2)] at h
    unfold Pr.defectR
    by_cases o1 : op < 0 ∨ (l.length : Int) ≤ op
    · rw [if_pos o1, if_pos o1]
    · rw [if_neg o1] at h; exact absurd rfl h
  rw [if_neg k2, if_neg (show ¬ (kd = 1 ∨ kd = 2) by omega)]
  rw [if_neg (show ¬ (kd = 1 ∨ kd = 2) by omega)] at h
  by_cases k3 : kd = 3
  · rw [if_pos k3, if_pos (.inl k3)]
    rw [if_pos (.inl k3)] at h
    unfold Pr.passR
    by_cases o1 : op ≠ 0
    · rw [if_pos o1, if_pos o1]
    · rw [if_neg o1] at h; exact absurd rfl h
  rw [if_neg k3]
  by_cases k4 : kd = 4
  · rw [if_pos k4, if_pos (.inr k4)]
    rw [if_pos (.inr k4)] at h
    unfold Pr.rejectR
    by_cases o1 : op ≠ 0
    · rw [if_pos o1, if_pos o1]
    · rw [if_neg o1] at h; exact absurd rfl h
  rw [if_neg k4, if_neg (show ¬ (kd = 3 ∨ kd = 4) by omega)]
theorem perm_ok {l : List Opn} {p : Prg} {kd op most : Int} (h : permE l p kd op = 0) : Pr.ordE l = 0 ∧ Vld l p ∧
    ((kd = 1 ∧ 0 ≤ op ∧ op < (l.length : Int) ∧ Pr.stepR l p kd op most = Pr.doneR l p op) ∨ (kd = 2 ∧ 0 ≤ op ∧ op < (l.length : Int) ∧ Pr.stepR l p kd op most = Pr.defectR l p op most) ∨
      (kd = 3 ∧ op = 0 ∧ Pr.stepR l p kd op most = if p.opn ≠ [] then (8, Pr.zeroP) else (0, ⟨3, p.done, p.opn, p.rework⟩)) ∨ (kd = 4 ∧ op = 0 ∧ Pr.stepR l p kd op most = (0, ⟨4, p.done, p.opn, p.rework⟩))) := by
  unfold permE at h
  unfold Pr.stepR
  split at h
  · rename_i h0; exact absurd h h0
  · rename_i h0
    rw [if_neg h0]
    split at h
    · omega
    · rename_i h1
      rw [if_neg h1]
      split at h
      · omega
      · rename_i h2
        rw [if_neg h2]
        refine ⟨by omega, vld_of (by simpa using h1), ?_⟩
        unfold kindE at h
        unfold Pr.actR
        by_cases k1 : kd = 1
        · rw [if_pos (.inl k1)] at h
          by_cases o1 : op < 0 ∨ (l.length : Int) ≤ op
          · rw [if_pos o1] at h; omega
          · exact .inl ⟨k1, by omega, by omega, by rw [if_pos k1]⟩
        by_cases k2 : kd = 2
        · rw [if_pos (.inr k2)] at h
          by_cases o1 : op < 0 ∨ (l.length : Int) ≤ op
          · rw [if_pos o1] at h; omega
          · exact .inr (.inl ⟨k2, by omega, by omega, by rw [if_neg k1, if_pos k2]⟩)
        rw [if_neg (show ¬ (kd = 1 ∨ kd = 2) by omega)] at h
        by_cases k3 : kd = 3
        · rw [if_pos (.inl k3)] at h
          by_cases o1 : op ≠ 0
          · rw [if_pos o1] at h; omega
          · refine .inr (.inr (.inl ⟨k3, by omega, ?_⟩))
            rw [if_neg k1, if_neg k2, if_pos k3]
            unfold Pr.passR
            rw [if_neg o1]
        by_cases k4 : kd = 4
        · rw [if_pos (.inr k4)] at h
          by_cases o1 : op ≠ 0
          · rw [if_pos o1] at h; omega
          · refine .inr (.inr (.inr ⟨k4, by omega, ?_⟩))
            rw [if_neg k1, if_neg k2, if_neg k3, if_pos k4]
            unfold Pr.rejectR
            rw [if_neg o1]
        rw [if_neg (show ¬ (kd = 3 ∨ kd = 4) by omega)] at h
        omega

theorem zx3 (w : World) (a b : Obj) : Z4 (((w.alloc a).alloc b).alloc (.cells #[.int .i64 0, .slice none 0 0, .slice none 0 0, .int .i64 0] 29)) (w.heap.size + 1 + 1) := Z4.new3 w a b

set_option maxRecDepth 100000 in
set_option maxHeartbeats 4000000 in
theorem rstep_any (A : Option Addr) (c : Nat) (l : List Opn) (w : World) (dA : Option Addr) (dc : Nat) (oA : Option Addr) (oc : Nat) (p : Prg) (kd op most : Int) (hl : So w w.heap.size A l) (hk : Oks l) (hcap : Cap w A l.length)
    (hd : Si w w.heap.size dA p.done) (ho : Si w w.heap.size oA p.opn) (hdl : p.done.length ≤ 1000) (hol : p.opn.length ≤ 1000) :
    Calls Try.prog 19 #[.slice A l.length c, .agg #[.int .i64 p.state, .slice dA p.done.length dc, .slice oA p.opn.length oc, .int .i64 p.rework], .agg #[.int .i64 kd, .int .i64 op], .int .i64 most] w (PrPost w (Pr.stepR l p kd op most)) := by
  have hlen := hk.len
  have hb1 := b3 w (.cells #[.int .i64 p.state, .slice dA p.done.length dc, .slice oA p.opn.length oc, .int .i64 p.rework] 29) (.cells #[.int .i64 kd, .int .i64 op] 34) (.cells #[.int .i64 0, .slice none 0 0, .slice none 0 0, .int .i64 0] 29)
  have hx1 := (bx1 w p.state (.slice dA p.done.length dc) (.slice oA p.opn.length oc) p.rework).below (b_al (b_new _ (.cells #[.int .i64 kd, .int .i64 op] 34)) (.cells #[.int .i64 0, .slice none 0 0, .slice none 0 0, .int .i64 0] 29))
  have he1 := (ec2 w (.cells #[.int .i64 p.state, .slice dA p.done.length dc, .slice oA p.opn.length oc, .int .i64 p.rework] 29) kd op).below (b_new _ (.cells #[.int .i64 0, .slice none 0 0, .slice none 0 0, .int .i64 0] 29))
  have hz1 := zx3 w (.cells #[.int .i64 p.state, .slice dA p.done.length dc, .slice oA p.opn.length oc, .int .i64 p.rework] 29) (.cells #[.int .i64 kd, .int .i64 op] 34)
  have hsz : (((w.alloc (.cells #[.int .i64 p.state, .slice dA p.done.length dc, .slice oA p.opn.length oc, .int .i64 p.rework] 29)).alloc (.cells #[.int .i64 kd, .int .i64 op] 34)).alloc (.cells #[.int .i64 0, .slice none 0 0, .slice none 0 0, .int .i64 0] 29)).heap.size = w.heap.size + 1 + 1 + 1 := by rw [size_al, size_al, size_al]
  have HP := Lib.hid (permitted_any A c l _ dA dc oA oc p kd op (hl.to hb1) hk (hcap.to hl hb1) ((hd.below hb1).more hb1.size) ((ho.below hb1).more hb1.size) hdl hol)
  by_cases h0 : permE l p kd op = 0
  · obtain ⟨hord, hV, hcs⟩ := perm_ok (most := most) h0
    have HORD := Lib.hid hord
    have HV := Lib.hid hV
    rw [h0] at HP
    have HDN := Lib.hid (fun (W : World) (q : Nat) (hq : q < l.length) (hb : Below w.heap.size w W) => rdone_any A c l W dA dc oA oc p q (hl.to hb) hk ((hd.below hb).more hb.size) ((ho.below hb).more hb.size) HV.out hq)
    have HDF := Lib.hid (fun (W : World) (q : Nat) (hq : q < l.length) (hb : Below w.heap.size w W) => rdefect_any A c l W dA dc oA oc p q most (hl.to hb) hk (hcap.to hl hb) HORD.out ((hd.below hb).more hb.size) ((ho.below hb).more hb.size) HV.out hq)
    have HEN := Lib.hid (fun (W : World) (st : Int) (hb : Below w.heap.size w W) => ended_any W dA dc oA oc p st ((hd.below hb).more hb.size) ((ho.below hb).more hb.size) hdl hol)
    clear hord hV h0
    go_enter Try.func19, Try.ntmps19
    go_upto_region 1 with fail
    generalize ((w.alloc (.cells #[.int .i64 p.state, .slice dA p.done.length dc, .slice oA p.opn.length oc, .int .i64 p.rework] 29)).alloc (.cells #[.int .i64 kd, .int .i64 op] 34)).alloc (.cells #[.int .i64 0, .slice none 0 0, .slice none 0 0, .int .i64 0] 29) = W1 at *
    obtain ⟨r0, r1, r2, r3, rl⟩ := id hx1
    obtain ⟨e0, e1, el⟩ := id he1
    go_wp2_with fail
    refine HP.out.mono ?_
    rintro e w3 ⟨rfl, hb3⟩
    have hx3 := hx1.below hb3
    have he3 := he1.below hb3
    have hz3 := hz1.below hb3
    have hbw3 := b_tr hb1 hb3
    have hs3 : w.heap.size + 1 + 1 + 1 ≤ w3.heap.size := by have := hb3.size; omega
    clear r0 r1 r2 r3 rl e0 e1 el HP hx1 he1 hz1 hb1 hb3 hsz hcap hd ho
    obtain ⟨t0, t1, t2, t3, tl⟩ := id hx3
    obtain ⟨e0, e1, el⟩ := id he3
    rcases hcs with ⟨rfl, o1, o2, hS⟩ | ⟨rfl, o1, o2, hS⟩ | ⟨rfl, rfl, hS⟩ | ⟨rfl, rfl, hS⟩
    · obtain ⟨q, rfl⟩ := Int.eq_ofNat_of_zero_le o1
      have HC := Lib.hid (HDN.out w3 q (by omega) hbw3)
      have HS := Lib.hid hS
      clear hS HDN HDF HEN HORD HV
      generalize Pr.doneR l p (q : Int) = R at *
      obtain ⟨E, Q⟩ := R
      go_wp2_with fail
      refine HC.out.mono ?_
      rintro e w5 ⟨dv5, ov5, rfl, hd5, ho5, hb5⟩
      dsimp only at hd5 ho5
      obtain ⟨dA5, dc5, rfl, -⟩ := hd5.shape
      obtain ⟨oA5, oc5, rfl, -⟩ := ho5.shape
      obtain ⟨s0, s1, s2, s3, sf, sl⟩ := hz3.below hb5
      have HD := Lib.hid hd5
      have HE := Lib.hid ho5
      have hbX := b_tr hbw3 hb5
      clear hd5 ho5 hb5 hz3 hx3 he3 t0 t1 t2 t3 tl
      go_wp2
      refine bodyPost_ret (v := .tuple #[.agg #[.int .i64 Q.state, .slice dA5 Q.done.length dc5, .slice oA5 Q.opn.length oc5, .int .i64 Q.rework], .int .i64 E]) (by simp [results, Try.results19, go_sem, s0, s1, s2, s3]) rfl ?_
      show PrPost w _ _ _
      rw [HS.out]
      exact ⟨_, _, rfl, (oiR HD.out (by omega)).base_le (by omega), (oiR HE.out (by omega)).base_le (by omega), bR hbX (by omega)⟩
    · obtain ⟨q, rfl⟩ := Int.eq_ofNat_of_zero_le o1
      have HC := Lib.hid (HDF.out w3 q (by omega) hbw3)
      have HS := Lib.hid hS
      clear hS HDN HDF HEN HORD HV
      generalize Pr.defectR l p (q : Int) most = R at *
      obtain ⟨E, Q⟩ := R
      go_wp2_with fail
      refine HC.out.mono ?_
      rintro e w5 ⟨dv5, ov5, rfl, hd5, ho5, hb5⟩
      dsimp only at hd5 ho5
      obtain ⟨dA5, dc5, rfl, -⟩ := hd5.shape
      obtain ⟨oA5, oc5, rfl, -⟩ := ho5.shape
      obtain ⟨s0, s1, s2, s3, sf, sl⟩ := hz3.below hb5
      have HD := Lib.hid hd5
      have HE := Lib.hid ho5
      have hbX := b_tr hbw3 hb5
      clear hd5 ho5 hb5 hz3 hx3 he3 t0 t1 t2 t3 tl
      go_wp2
      refine bodyPost_ret (v := .tuple #[.agg #[.int .i64 Q.state, .slice dA5 Q.done.length dc5, .slice oA5 Q.opn.length oc5, .int .i64 Q.rework], .int .i64 E]) (by simp [results, Try.results19, go_sem, s0, s1, s2, s3]) rfl ?_
      show PrPost w _ _ _
      rw [HS.out]
      exact ⟨_, _, rfl, (oiR HD.out (by omega)).base_le (by omega), (oiR HE.out (by omega)).base_le (by omega), bR hbX (by omega)⟩
    · have HS := Lib.hid hS
      clear hS HDN HDF HORD HV
      by_cases hop : p.opn = []
      · have hon : p.opn.length = 0 := by rw [hop]; rfl
        rw [if_neg (by simp [hop])] at HS
        have HC := Lib.hid (HEN.out w3 3 hbw3)
        obtain ⟨Q, hQ⟩ : ∃ Q : Prg, (⟨3, p.done, p.opn, p.rework⟩ : Prg) = Q := ⟨_, rfl⟩
        rw [hQ] at HC HS
        have hQs : Q.state = 3 := by rw [← hQ]
        rw [hon] at t2 HC
        clear hQ HEN hop hon
        go_wp2_with fail
        refine HC.out.mono ?_
        rintro e w5 ⟨dv5, ov5, rfl, hd5, ho5, hb5⟩
        clear hQs
        obtain ⟨dA5, dc5, rfl, -⟩ := hd5.shape
        obtain ⟨oA5, oc5, rfl, -⟩ := ho5.shape
        obtain ⟨s0, s1, s2, s3, sf, sl⟩ := hz3.below hb5
        have HD := Lib.hid hd5
        have HE := Lib.hid ho5
        have hbX := b_tr hbw3 hb5
        clear hd5 ho5 hb5 hz3 hx3 he3 t0 t1 t2 t3 tl
        go_wp2
        refine bodyPost_ret (v := .tuple #[.agg #[.int .i64 Q.state, .slice dA5 Q.done.length dc5, .slice oA5 Q.opn.length oc5, .int .i64 Q.rework], .int .i64 0]) (by simp [results, Try.results19, go_sem, s0, s1, s2, s3]) rfl ?_
        show PrPost w _ _ _
        rw [HS.out]
        exact ⟨_, _, rfl, (oiR HD.out (by omega)).base_le (by omega), (oiR HE.out (by omega)).base_le (by omega), bR hbX (by omega)⟩
      · rw [if_pos hop] at HS
        have hon : 0 < p.opn.length := List.length_pos_iff.2 hop
        have hon' : (0 : Int) < (p.opn.length : Int) := by omega
        obtain ⟨s0, s1, s2, s3, sf, sl⟩ := hz3
        clear hop HEN hx3 he3
        go_wp2
        refine bodyPost_ret (v := .tuple #[.agg #[.int .i64 0, .slice none 0 0, .slice none 0 0, .int .i64 0], .int .i64 8]) (by simp [results, Try.results19, go_sem, s0, s1, s2, s3]) rfl ?_
        exact PrPost.bad HS.out (bR hbw3 (by omega))
    · have HS := Lib.hid hS
      clear hS HDN HDF HORD HV
      have HC := Lib.hid (HEN.out w3 4 hbw3)
      obtain ⟨Q, hQ⟩ : ∃ Q : Prg, (⟨4, p.done, p.opn, p.rework⟩ : Prg) = Q := ⟨_, rfl⟩
      rw [hQ] at HC HS
      clear hQ HEN
      go_wp2_with fail
      refine HC.out.mono ?_
      rintro e w5 ⟨dv5, ov5, rfl, hd5, ho5, hb5⟩
      obtain ⟨dA5, dc5, rfl, -⟩ := hd5.shape
      obtain ⟨oA5, oc5, rfl, -⟩ := ho5.shape
      obtain ⟨s0, s1, s2, s3, sf, sl⟩ := hz3.below hb5
      have HD := Lib.hid hd5
      have HE := Lib.hid ho5
      have hbX := b_tr hbw3 hb5
      clear hd5 ho5 hb5 hz3 hx3 he3 t0 t1 t2 t3 tl
      go_wp2
      refine bodyPost_ret (v := .tuple #[.agg #[.int .i64 Q.state, .slice dA5 Q.done.length dc5, .slice oA5 Q.opn.length oc5, .int .i64 Q.rework], .int .i64 0]) (by simp [results, Try.results19, go_sem, s0, s1, s2, s3]) rfl ?_
      show PrPost w _ _ _
      rw [HS.out]
      exact ⟨_, _, rfl, (oiR HD.out (by omega)).base_le (by omega), (oiR HE.out (by omega)).base_le (by omega), bR hbX (by omega)⟩
  · have hS := perm_bad (most := most) h0
    have hne : (permE l p kd op == 0) = false := by simpa using h0
    rw [hS]
    clear hS h0 hcap hd ho he1
    generalize permE l p kd op = E at *
    go_enter Try.func19, Try.ntmps19
    go_upto_region 1 with fail
    have he1 := (ec2 w (.cells #[.int .i64 p.state, .slice dA p.done.length dc, .slice oA p.opn.length oc, .int .i64 p.rework] 29) kd op).below (b_new _ (.cells #[.int .i64 0, .slice none 0 0, .slice none 0 0, .int .i64 0] 29))
    generalize ((w.alloc (.cells #[.int .i64 p.state, .slice dA p.done.length dc, .slice oA p.opn.length oc, .int .i64 p.rework] 29)).alloc (.cells #[.int .i64 kd, .int .i64 op] 34)).alloc (.cells #[.int .i64 0, .slice none 0 0, .slice none 0 0, .int .i64 0] 29) = W1 at *
    obtain ⟨r0, r1, r2, r3, rl⟩ := id hx1
    obtain ⟨e0, e1, el⟩ := id he1
    go_wp2_with fail
    refine HP.out.mono ?_
    rintro e w3 ⟨rfl, hb3⟩
    obtain ⟨s0, s1, s2, s3, sf, sl⟩ := hz1.below hb3
    have hbX := b_tr hb1 hb3
    clear r0 r1 r2 r3 rl e0 e1 el HP hx1 he1 hz1
    go_wp2
    refine bodyPost_ret (v := .tuple #[.agg #[.int .i64 0, .slice none 0 0, .slice none 0 0, .int .i64 0], .int .i64 E]) (by simp [results, Try.results19, go_sem, s0, s1, s2, s3]) rfl ?_
    exact PrPost.bad rfl (bR hbX (by omega))
end Go.Proofs.Ytcolekfjmhgldaa
