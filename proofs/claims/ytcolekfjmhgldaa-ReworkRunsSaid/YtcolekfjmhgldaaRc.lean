/- The reference: whether a progress is right. -/
import Derived.Test.YtcolekfjmhgldaaRb
import Derived.Test.YtcolekfjmhgldaaPla
namespace Go.Proofs.Ytcolekfjmhgldaa
open Go.RowKit
open Pr (Opn Prg)

theorem rboxed (w : World) (st : Int) (dv ov : Value) (rk : Int) :
    (w.alloc (.cells #[.int .i64 st, dv, ov, .int .i64 rk] 29)).cell? ⟨w.heap.size, 0, none⟩ = some (.int .i64 st) ∧ (w.alloc (.cells #[.int .i64 st, dv, ov, .int .i64 rk] 29)).cell? ⟨w.heap.size, 1, none⟩ = some dv ∧
    (w.alloc (.cells #[.int .i64 st, dv, ov, .int .i64 rk] 29)).cell? ⟨w.heap.size, 2, none⟩ = some ov ∧ (w.alloc (.cells #[.int .i64 st, dv, ov, .int .i64 rk] 29)).cell? ⟨w.heap.size, 3, none⟩ = some (.int .i64 rk) := by
  refine ⟨?_, ?_, ?_, ?_⟩ <;> simp

set_option maxRecDepth 100000 in
set_option maxHeartbeats 2000000 in
theorem waiting_any (A : Option Addr) (c : Nat) (l : List Opn) (w : World) (dA : Option Addr) (dc : Nat) (oA : Option Addr) (oc : Nat) (p : Prg) (i : Nat) (hl : So w w.heap.size A l) (hk : Oks l) (hi : i < l.length)
    (ho : Si w w.heap.size oA p.opn) (hol : p.opn.length ≤ 1000) :
    Calls Try.prog 56 #[.slice A l.length c, .agg #[.int .i64 p.state, .slice dA p.done.length dc, .slice oA p.opn.length oc, .int .i64 p.rework], .int .i64 (i : Int)] w fun e w' => e = .returned (.bool (Pr.waitsB l p.opn i)) ∧ Below w.heap.size w w' := by
  have hlen := hk.len
  have hb0 := b_new w (.cells #[.int .i64 p.state, .slice dA p.done.length dc, .slice oA p.opn.length oc, .int .i64 p.rework] 29)
  obtain ⟨r0, r1, r2, r3⟩ := rboxed w p.state (.slice dA p.done.length dc) (.slice oA p.opn.length oc) p.rework
  have ho0 := (ho.below hb0).more hb0.size
  obtain ⟨o, hoi⟩ : ∃ o, l[i]? = some o := ⟨_, List.getElem?_eq_getElem hi⟩
  obtain ⟨b, off, aA, aC, uA, uC, rfl, hbB, hop, hsa⟩ := (hl.to hb0).get hoi
  obtain ⟨p0, p1, p2, p3, p4⟩ := hop
  have hal := hk.aft o (List.mem_of_getElem? hoi)
  have HW := Lib.hid (waitsB_at (opn := p.opn) hoi)
  generalize Pr.waitsB l p.opn i = R at *
  have h27 := cells27
  have hgl : w.heap.size < (w.alloc (.cells #[.int .i64 p.state, .slice dA p.done.length dc, .slice oA p.opn.length oc, .int .i64 p.rework] 29)).heap.size := by simp
  clear hoi hl hk ho
  go_enter Try.func56, Try.ntmps56
  go_wp2
  generalize w.alloc (.cells #[.int .i64 p.state, .slice dA p.done.length dc, .slice oA p.opn.length oc, .int .i64 p.rework] 29) = W0 at *
  go_loopw [7] (fun s7 wr => ∃ j : Nat, j ≤ o.after.length ∧ s7 = .int .i64 j ∧ Hid ((o.after.take j).any (fun a => decide (a ∈ p.opn)) = false) ∧ Below W0.heap.size W0 wr) (fun s7 _ => o.after.length - (intOf s7).toNat)
  case atStart => exact ⟨0, Nat.zero_le _, rfl, rfl, Below.refl _ _⟩
  case round =>
    obtain ⟨j, hj1, rfl, hA, hB⟩ := hrel
    have s2 := (hB.cell (p := ⟨w.heap.size, 2, none⟩) hgl).trans r2
    have t3 := (hB.cell (p := ⟨b, off + i * 5 + 3, none⟩) hbB).trans p3
    by_cases hjl : j < o.after.length
    · obtain ⟨x, hx⟩ := get_ex rfl hjl
      obtain ⟨ab, aoff, rfl, hab, ca⟩ := si_get (hsa.below hB) hx
      have HS := Lib.hid (any_take_succ (fun a => decide (a ∈ p.opn)) hx)
      have HQ := Lib.hid (fun m => (in_any oA oc p.opn x (wr.drewN m) (((ho0.below hB).more hB.size).below (below_drewN (Below.refl _ _) m)) (by omega)).mono (fun _ _ h => And.intro h.1 h.2.symm))
      clear hx
      cases hd : decide (x ∈ p.opn) with
      | true =>
        have HT : Hid (o.after.any (fun a => decide (a ∈ p.opn)) = true) := any_take (k := j + 1) _ (by rw [HS.out, hd, Bool.or_true])
        rw [hd] at HQ
        clear HS hd hA
        go_wp2
        go_quiet ((go_at_call 55; refine Calls.quiet_of_same (HQ.out _)))
        go_wp2
        go_ret
        exact ⟨ret_bool (by rw [HW.out, HT.out]), b_tr hb0 (below_drewN hB _)⟩
      | false =>
        have HT : Hid ((o.after.take (j + 1)).any (fun a => decide (a ∈ p.opn)) = false) := by show _ = _; rw [HS.out, hA.out, hd]; rfl
        rw [hd] at HQ
        clear HS hd hA
        go_wp2
        go_quiet ((go_at_call 55; refine Calls.quiet_of_same (HQ.out _)))
        go_wp2
        go_roundw
        case rel => exact ⟨j + 1, by omega, by go_num, HT, below_drewN hB _⟩
        case measure => simp [intOf]; omega
    · obtain rfl : j = o.after.length := by omega
      have HT : Hid (o.after.any (fun a => decide (a ∈ p.opn)) = false) := by show _ = _; rw [← hA.out, List.take_length]
      clear hA hjl hj1
      go_wp2
      go_ret
      exact ⟨ret_bool (by rw [HW.out, HT.out]), b_tr hb0 hB⟩

/-- what sized returns -/
def sizB (l : List Opn) (p : Prg) : Bool :=
  decide (1 ≤ p.state) && decide (p.state ≤ 4) && decide (p.done.length = l.length) && decide (0 ≤ p.rework) && decide (p.rework ≤ 1073741824) && p.done.all (fun x => decide (0 ≤ x) && decide (x ≤ 1073741824)) && Pr.ascB l.length (-1) p.opn

set_option maxRecDepth 100000 in
set_option maxHeartbeats 4000000 in
theorem sized_any (A : Option Addr) (c : Nat) (l : List Opn) (w : World) (dA : Option Addr) (dc : Nat) (oA : Option Addr) (oc : Nat) (p : Prg) (hlen : l.length ≤ 1000)
    (hd : Si w w.heap.size dA p.done) (ho : Si w w.heap.size oA p.opn) (_hdl : p.done.length ≤ 1000) (hol : p.opn.length ≤ 1000) :
    Calls Try.prog 68 #[.slice A l.length c, .agg #[.int .i64 p.state, .slice dA p.done.length dc, .slice oA p.opn.length oc, .int .i64 p.rework]] w (ValPost w (sizB l p)) := by
  have HV : Hid (sizB l p = (decide (1 ≤ p.state) && decide (p.state ≤ 4) && decide (p.done.length = l.length) && decide (0 ≤ p.rework) && decide (p.rework ≤ 1073741824) && p.done.all (fun x => decide (0 ≤ x) && decide (x ≤ 1073741824)) && Pr.ascB l.length (-1) p.opn)) := rfl
  have hb0 := b_new w (.cells #[.int .i64 p.state, .slice dA p.done.length dc, .slice oA p.opn.length oc, .int .i64 p.rework] 29)
  by_cases q1 : p.state < 1
  · have HF : Hid (sizB l p = false) := by show _ = _; rw [HV.out, decide_eq_false (show ¬ 1 ≤ p.state by omega)]; simp
    clear HV
    go_enter Try.func68, Try.ntmps68
    go_wp2
    go_ret
    exact ValPost.mk HF.out hb0
  by_cases q2 : 4 < p.state
  · have HF : Hid (sizB l p = false) := by show _ = _; rw [HV.out, decide_eq_false (show ¬ p.state ≤ 4 by omega)]; simp
    clear HV
    go_enter Try.func68, Try.ntmps68
    go_wp2
    go_ret
    exact ValPost.mk HF.out hb0
  by_cases q3 : p.done.length = l.length
  · by_cases q5 : p.rework < 0
    · have HF : Hid (sizB l p = false) := by show _ = _; rw [HV.out, decide_eq_false (show ¬ 0 ≤ p.rework by omega)]; simp
      rw [q3] at hb0 ⊢
      clear HV
      go_enter Try.func68, Try.ntmps68
      go_wp2
      go_ret
      exact ValPost.mk HF.out hb0
    by_cases q6 : 1073741824 < p.rework
    · have HF : Hid (sizB l p = false) := by show _ = _; rw [HV.out, decide_eq_false (show ¬ p.rework ≤ 1073741824 by omega)]; simp
      rw [q3] at hb0 ⊢
      clear HV
      go_enter Try.func68, Try.ntmps68
      go_wp2
      go_ret
      exact ValPost.mk HF.out hb0
    have HT : Hid (sizB l p = (p.done.all (fun x => decide (0 ≤ x) && decide (x ≤ 1073741824)) && Pr.ascB l.length (-1) p.opn)) := by
      show _ = _
      rw [HV.out, decide_eq_true (show 1 ≤ p.state by omega), decide_eq_true (show p.state ≤ 4 by omega), decide_eq_true q3, decide_eq_true (show 0 ≤ p.rework by omega), decide_eq_true (show p.rework ≤ 1073741824 by omega)]
      simp
    rw [q3] at hb0 ⊢
    obtain ⟨r0, r1, r2, r3⟩ := rboxed w p.state (.slice dA l.length dc) (.slice oA p.opn.length oc) p.rework
    have hd0 := (hd.below hb0).more hb0.size
    have ho0 := (ho.below hb0).more hb0.size
    clear HV hd ho
    go_enter Try.func68, Try.ntmps68
    go_wp2
    generalize w.alloc (.cells #[.int .i64 p.state, .slice dA l.length dc, .slice oA p.opn.length oc, .int .i64 p.rework] 29) = W0 at *
    go_loopw [5] (fun s5 wr => ∃ k : Nat, k ≤ l.length ∧ s5 = .int .i64 k ∧ Hid ((p.done.take k).all (fun x => decide (0 ≤ x) && decide (x ≤ 1073741824)) = true) ∧ W0 = wr) (fun s5 _ => l.length - (intOf s5).toNat)
    case atStart => exact ⟨0, Nat.zero_le _, rfl, rfl, rfl⟩
    case round =>
      obtain ⟨k, hk1, rfl, hA, hww⟩ := hrel
      subst hww
      by_cases hlt : k < l.length
      · obtain ⟨x, hx⟩ := get_ex q3 hlt
        obtain ⟨db, doff, rfl, hdb, cx⟩ := si_get hd0 hx
        have HS := Lib.hid (all_take_succ (fun x => decide (0 ≤ x) && decide (x ≤ 1073741824)) hx)
        have HBd := Lib.hid (fun h => all_bad (fun x => decide (0 ≤ x) && decide (x ≤ 1073741824)) hx h)
        clear hx
        by_cases g1 : x < 0
        · have HF : Hid (sizB l p = false) := by show _ = _; rw [HT.out, HBd.out (by simp; omega)]; rfl
          clear hA HS HBd
          go_wp2
          go_ret
          exact ValPost.mk HF.out hb0
        by_cases g2 : 1073741824 < x
        · have HF : Hid (sizB l p = false) := by show _ = _; rw [HT.out, HBd.out (by simp; omega)]; rfl
          clear hA HS HBd
          go_wp2
          go_ret
          exact ValPost.mk HF.out hb0
        have HN : Hid ((p.done.take (k + 1)).all (fun x => decide (0 ≤ x) && decide (x ≤ 1073741824)) = true) := by
          show _ = _
          rw [HS.out, hA.out]
          simp
          omega
        clear hA HS HBd
        go_wp2
        go_roundw
        case rel => exact ⟨k + 1, by omega, by go_num, HN, trivial⟩
        case measure => simp [intOf]; omega
      · obtain rfl : k = l.length := by omega
        have HN : Hid (sizB l p = Pr.ascB l.length (-1) p.opn) := by
          show _ = _
          have := hA.out
          rw [List.take_of_length_le (by omega)] at this
          rw [HT.out, this]
          rfl
        clear hA HT hlt hk1
        go_wp2
        go_loopw [6] (fun s6 wr => ∃ (k : Nat) (la : Int), k ≤ p.opn.length ∧ s6 = .int .i64 k ∧ Hid (Pr.ascB l.length la (p.opn.drop k) = Pr.ascB l.length (-1) p.opn) ∧ Hid ((k = 0 ∧ la = -1) ∨ ∃ j, k = j + 1 ∧ p.opn[j]? = some la ∧ 0 ≤ la) ∧ ∃ n, wr = W0.drewN n) (fun s6 _ => p.opn.length - (intOf s6).toNat)
        case atStart => exact ⟨0, -1, Nat.zero_le _, rfl, rfl, .inl ⟨rfl, rfl⟩, 0, rfl⟩
        case round =>
          obtain ⟨k, la, hk1, rfl, hA, hla, n, rfl⟩ := hrel
          by_cases hlt : k < p.opn.length
          · obtain ⟨x, hx⟩ := get_ex rfl hlt
            have HC := Lib.hid (ascB_cons (n := l.length) (last := la) hx)
            have ho1 := ho0
            obtain ⟨ob, off, rfl, hob, cx⟩ := si_get ho1 hx
            have hkI : (k : Int) < (p.opn.length : Int) := by omega
            have hge : -1 ≤ la := by rcases hla.out with ⟨_, h⟩ | ⟨_, _, _, h⟩ <;> omega
            by_cases g1 : x < 0
            · have HF : Hid (sizB l p = false) := by show _ = _; rw [HN.out, ← hA.out, HC.out, decide_eq_false (show ¬ la < x by omega)]; rfl
              have t1 : decide (x < 0) = true := by simpa using g1
              clear hA HC hla hx
              go_wp2
              go_quiet (fail)
              go_wp2
              go_ret
              exact ValPost.mk HF.out (below_drewN (below_drewN hb0 _) _)
            have t1 : decide (x < 0) = false := by simpa using g1
            by_cases g2 : (l.length : Int) ≤ x
            · have HF : Hid (sizB l p = false) := by show _ = _; rw [HN.out, ← hA.out, HC.out, decide_eq_false (show ¬ x < (l.length : Int) by omega)]; simp
              have t2 : decide ((l.length : Int) ≤ x) = true := by simpa using g2
              have t2' : decide (x ≥ (l.length : Int)) = true := by simpa using g2
              clear hA HC hla hx
              go_wp2
              go_quiet (fail)
              go_wp2
              go_ret
              exact ValPost.mk HF.out (below_drewN (below_drewN hb0 _) _)
            have t2 : decide ((l.length : Int) ≤ x) = false := by simpa using g2
            have t2' : decide (x ≥ (l.length : Int)) = false := by simpa using g2
            have HNx : Hid (la < x → Pr.ascB l.length x (p.opn.drop (k + 1)) = Pr.ascB l.length (-1) p.opn) := fun h => by
              rw [← hA.out, HC.out, decide_eq_true h, decide_eq_true (show x < (l.length : Int) by omega)]
              rfl
            have HNl : Hid ((k + 1 = 0 ∧ x = -1) ∨ ∃ j, k + 1 = j + 1 ∧ p.opn[j]? = some x ∧ 0 ≤ x) := .inr ⟨k, rfl, hx, by omega⟩
            rcases hla.out with ⟨hk0, hl1⟩ | ⟨j, hkj, hy, hy0⟩
            · have HNy := Lib.hid (HNx.out (by omega))
              have t3 : decide ((0 : Int) < (k : Int)) = false := by simp; omega
              have t3' : decide ((k : Int) > 0) = false := by simp; omega
              have t3n : decide (0 < k) = false := by simp; omega
              clear hA HC hla hx hk0 hl1 HNx g1 g2
              go_wp2
              go_quiet (fail)
              go_wp2
              go_roundw
              case rel => exact ⟨k + 1, x, by omega, by go_num, HNy, HNl, _, rfl⟩
              case measure => simp [intOf]; omega
            · have cy := si_get' ho0 hy
              have hk0 : 0 < k := by omega
              have t3 : decide ((0 : Int) < (k : Int)) = true := by simp; omega
              have t3n : decide (0 < k) = true := by simp; omega
              have t3' : decide ((k : Int) > 0) = true := by simp; omega
              have t5 : IntKind.i64.wrap ((k : Int) - 1) = (j : Int) := by rw [IntKind.wrap_i64]; omega
              have t6 : wrap64 ((k : Int) - 1) = (j : Int) := by unfold wrap64; omega
              have hjI : (j : Int) < (p.opn.length : Int) := by omega
              have HKJ := Lib.hid hkj
              clear hkj
              by_cases g3 : x ≤ la
              · have HF : Hid (sizB l p = false) := by show _ = _; rw [HN.out, ← hA.out, HC.out, decide_eq_false (show ¬ la < x by omega)]; rfl
                have t4 : decide (x ≤ la) = true := by simpa using g3
                have t4' : decide (la ≥ x) = true := by simpa using g3
                clear hA HC hla hx hy HNx g1 g2 g3
                go_wp2
                go_quiet (fail)
                go_wp2
                go_ret
                exact ValPost.mk HF.out (below_drewN (below_drewN hb0 _) _)
              · have HNy := Lib.hid (HNx.out (by omega))
                have t4 : decide (x ≤ la) = false := by simpa using g3
                have t4' : decide (la ≥ x) = false := by simpa using g3
                clear hA HC hla hx hy HNx g1 g2 g3
                go_wp2
                go_quiet (fail)
                go_wp2
                go_roundw
                case rel => exact ⟨k + 1, x, by omega, by go_num, HNy, HNl, _, rfl⟩
                case measure => simp [intOf]; omega
          · have HF : Hid (sizB l p = true) := by
              show _ = _
              rw [HN.out, ← hA.out, List.drop_eq_nil_of_le (by omega)]
              rfl
            obtain rfl : k = p.opn.length := by omega
            clear hA hla hlt hk1
            go_wp2
            go_ret
            exact ValPost.mk HF.out (below_drewN hb0 _)
  · have HF : Hid (sizB l p = false) := by show _ = _; rw [HV.out, decide_eq_false q3]; simp
    have q3' : ((p.done.length : Int) == (l.length : Int)) = false := by simp; omega
    clear HV
    go_enter Try.func68, Try.ntmps68
    go_wp2
    go_ret
    exact ValPost.mk HF.out hb0

theorem ascB_len {n : Nat} {l : List Int} (h : Pr.ascB n (-1) l = true) : l.length ≤ n := by
  obtain ⟨h1, h2⟩ := ascB_mem (by omega) h
  have := nd_le (s := l) (t := Pr.ids n) (h1.imp (fun h => by omega)) (fun x hx => mem_ids.2 (by have := h2 x hx; omega))
  rw [ids_length] at this
  exact this
theorem valid_siz {l : List Opn} {p : Prg} : Pr.validB l p = (sizB l p && Pr.cntB l p.opn 0 p.done) := by
  have h1 : Pr.cntB l p.opn 0 p.done = true → p.done.all (fun x => decide (0 ≤ x) && decide (x ≤ 1073741824)) = true := fun h => by
    rw [List.all_eq_true]
    intro x hx
    have := cntB_mem h x hx
    simp
    omega
  have h2 := ascB_len (n := l.length) (l := p.opn)
  unfold Pr.validB sizB
  cases h3 : Pr.cntB l p.opn 0 p.done with
  | false => simp
  | true =>
    rw [h1 h3]
    cases h4 : Pr.ascB l.length (-1) p.opn with
    | false => simp
    | true =>
      rw [decide_eq_true (h2 h4)]
      simp
theorem siz_all {l : List Opn} {p : Prg} (h : sizB l p = true) : p.done.length = l.length ∧ ∀ x ∈ p.done, 0 ≤ x ∧ x ≤ 1073741824 := by
  unfold sizB at h
  simp only [Bool.and_eq_true, decide_eq_true_eq, List.all_eq_true] at h
  exact ⟨h.1.1.1.1.2, fun x hx => h.1.2 x hx⟩

set_option maxRecDepth 100000 in
set_option maxHeartbeats 4000000 in
theorem right_any (A : Option Addr) (c : Nat) (l : List Opn) (w : World) (dA : Option Addr) (dc : Nat) (oA : Option Addr) (oc : Nat) (p : Prg) (hl : So w w.heap.size A l) (hk : Oks l)
    (hd : Si w w.heap.size dA p.done) (ho : Si w w.heap.size oA p.opn) (hdl : p.done.length ≤ 1000) (hol : p.opn.length ≤ 1000) :
    Calls Try.prog 54 #[.slice A l.length c, .agg #[.int .i64 p.state, .slice dA p.done.length dc, .slice oA p.opn.length oc, .int .i64 p.rework]] w (ValPost w (Pr.validB l p)) := by
  have hlen := hk.len
  have HV := Lib.hid (valid_siz (l := l) (p := p))
  have hb0 := b_new w (.cells #[.int .i64 p.state, .slice dA p.done.length dc, .slice oA p.opn.length oc, .int .i64 p.rework] 29)
  obtain ⟨r0, r1, r2, r3⟩ := rboxed w p.state (.slice dA p.done.length dc) (.slice oA p.opn.length oc) p.rework
  have hd0 := (hd.below hb0).more hb0.size
  have ho0 := (ho.below hb0).more hb0.size
  have hl0 := hl.to hb0
  have hgl : w.heap.size < (w.alloc (.cells #[.int .i64 p.state, .slice dA p.done.length dc, .slice oA p.opn.length oc, .int .i64 p.rework] 29)).heap.size := by simp
  have HS := Lib.hid (sized_any A c l _ dA dc oA oc p hlen hd0 ho0 hdl hol)
  cases hz : sizB l p with
  | false =>
    have HF : Hid (Pr.validB l p = false) := by show _ = _; rw [HV.out, hz]; rfl
    rw [hz] at HS
    clear HV
    go_enter Try.func54, Try.ntmps54
    go_wp2_with fail
    refine HS.out.mono ?_
    rintro e w1 ⟨rfl, hb1⟩
    go_wp2
    go_ret
    exact ValPost.mk HF.out (b_tr hb0 hb1)
  | true =>
    obtain ⟨q3, hall⟩ := siz_all hz
    have HQ3 := Lib.hid q3
    have HALL := Lib.hid hall
    have HT : Hid (Pr.validB l p = Pr.cntB l p.opn 0 p.done) := by show _ = _; rw [HV.out, hz]; rfl
    rw [hz] at HS
    clear HV hz hall hl hd ho q3
    go_enter Try.func54, Try.ntmps54
    go_wp2_with fail
    refine HS.out.mono ?_
    rintro e w1 ⟨rfl, hb1⟩
    clear HS
    go_wp2
    generalize w.alloc (.cells #[.int .i64 p.state, .slice dA p.done.length dc, .slice oA p.opn.length oc, .int .i64 p.rework] 29) = W0 at *
    go_loopw [5] (fun s5 wr => ∃ k : Nat, k ≤ l.length ∧ s5 = .int .i64 k ∧ Hid (Pr.cntB l p.opn k (p.done.drop k) = Pr.cntB l p.opn 0 p.done) ∧ Below W0.heap.size W0 wr) (fun s5 _ => l.length - (intOf s5).toNat)
    case atStart => exact ⟨0, Nat.zero_le _, rfl, rfl, hb1⟩
    case round =>
      clear hb1
      obtain ⟨k, hk1, rfl, hA, hB⟩ := hrel
      by_cases hlt : k < l.length
      · obtain ⟨x, hx⟩ := get_ex HQ3.out hlt
        obtain ⟨x0, x1⟩ := HALL.out x (List.mem_of_getElem? hx)
        have HC := Lib.hid (cntB_cons (l := l) (opn := p.opn) hx)
        rw [decide_eq_true x0, decide_eq_true x1, Bool.true_and, Bool.true_and] at HC
        obtain ⟨db, doff, rfl, hdb, cx0⟩ := si_get hd0 hx
        have cx := (hB.cell (p := ⟨db, doff + k, none⟩) hdb).trans cx0
        have s0 := (hB.cell (p := ⟨w.heap.size, 0, none⟩) hgl).trans r0
        have s1 := (hB.cell (p := ⟨w.heap.size, 1, none⟩) hgl).trans r1
        have s2 := (hB.cell (p := ⟨w.heap.size, 2, none⟩) hgl).trans r2
        have s3 := (hB.cell (p := ⟨w.heap.size, 3, none⟩) hgl).trans r3
        have hos := (ho0.below hB).more hB.size
        have HI := Lib.hid (in_any oA oc p.opn (k : Int) wr hos (by omega))
        have HW := Lib.hid (waiting_any A c l wr (some ⟨db, doff, none⟩) dc oA oc p k (hl0.to hB) hk hlt hos hol)
        have hkd : (k : Int) < (p.done.length : Int) := by rw [HQ3.out]; omega
        clear hx cx0
        cases h1 : decide ((k : Int) ∈ p.opn) with
        | true =>
          have HN : Hid (Pr.cntB l p.opn (k + 1) (p.done.drop (k + 1)) = Pr.cntB l p.opn 0 p.done) := by
            show _ = _
            rw [← hA.out, HC.out, h1]
            rfl
          rw [h1] at HI
          clear hA HC HW h1
          go_wp2_with fail
          refine HI.out.mono ?_
          rintro e w2 ⟨rfl, rfl⟩
          go_wp2
          go_roundw
          case rel => exact ⟨k + 1, by omega, by go_num, HN, hB⟩
          case measure => simp [intOf]; omega
        | false =>
          rw [h1, Bool.false_or] at HC
          rw [h1] at HI
          by_cases h2 : x = 0
          · have HF : Hid (Pr.validB l p = false) := by show _ = _; rw [HT.out, ← hA.out, HC.out, decide_eq_false (show ¬ x ≠ 0 by simp [h2])]; rfl
            have h2' : (x == 0) = true := by simpa using h2
            clear hA HC HW h1 h2
            go_wp2_with fail
            refine HI.out.mono ?_
            rintro e w2 ⟨rfl, rfl⟩
            go_wp2
            go_ret
            exact ValPost.mk HF.out (b_tr hb0 hB)
          · have h2' : (x == 0) = false := by simpa using h2
            rw [decide_eq_true h2, Bool.true_and] at HC
            cases h3 : Pr.waitsB l p.opn k with
            | true =>
              rw [h3] at HC HW
              have HF : Hid (Pr.validB l p = false) := by show _ = _; rw [HT.out, ← hA.out, HC.out]; rfl
              clear hA HC h1 h2 h3
              go_wp2_with fail
              refine HI.out.mono ?_
              rintro e w2 ⟨rfl, rfl⟩
              go_wp2_with fail
              refine HW.out.mono ?_
              rintro e w3 ⟨rfl, hb3⟩
              go_wp2
              go_ret
              exact ValPost.mk HF.out (b_tr hb0 (b_tr hB hb3))
            | false =>
              rw [h3] at HC HW
              have HN : Hid (Pr.cntB l p.opn (k + 1) (p.done.drop (k + 1)) = Pr.cntB l p.opn 0 p.done) := by
                show _ = _
                rw [← hA.out, HC.out]
                rfl
              clear hA HC h1 h2 h3
              go_wp2_with fail
              refine HI.out.mono ?_
              rintro e w2 ⟨rfl, rfl⟩
              go_wp2_with fail
              refine HW.out.mono ?_
              rintro e w3 ⟨rfl, hb3⟩
              go_wp2
              go_roundw
              case rel => exact ⟨k + 1, by omega, by go_num, HN, b_tr hB hb3⟩
              case measure => simp [intOf]; omega
      · have HF : Hid (Pr.validB l p = true) := by show _ = _; rw [HT.out, ← hA.out, List.drop_eq_nil_of_le (by rw [HQ3.out]; omega)]; rfl
        obtain rfl : k = l.length := by omega
        clear hA hlt hk1
        go_wp2
        go_ret
        exact ValPost.mk HF.out (b_tr hb0 hB)
end Go.Proofs.Ytcolekfjmhgldaa
