/- TopRework: when a garment has passed, every operation was completed, for the last time after the last defect found in it or in a predecessor, and after the last completion of each of its predecessors. Conditions: none beyond the statement's own. -/
import Derived.Test.YtcolekfjmhgldaaPld
import Derived.Test.YtcolekfjmhgldaaYb
import Derived.Test.YtcolekfjmhgldaaRed
namespace Go.Proofs.Ytcolekfjmhgldaa.tops
open Go.ChangeShapes Go.WideShapes Go.ChangeAt Go.RowKit Go.Deep
open Pr (Opn Prg Res)

/-- operations that the law looks at -/
def CameN (w : World) (A : Option Addr) (len cap : Nat) (l : List Opn) : Prop := CameO w A len cap l ∧ ∀ o ∈ l, o.name.size ≤ maxLen

theorem le_lastTo {es : List (Int × Int)} {kd op : Int} {i : Nat} (h : es[i]? = some (kd, op)) : ∀ k, i < k → (i : Int) ≤ lastTo es kd op k
  | 0, hk => by omega
  | k + 1, hk => by
    rw [lastTo]
    split
    · omega
    · rename_i h1
      rcases Nat.lt_or_ge i k with h2 | h2
      · exact le_lastTo h k h2
      · obtain rfl : i = k := by omega
        exact absurd h h1
theorem le_last {es : List (Int × Int)} {kd op : Int} {i : Nat} (h : es[i]? = some (kd, op)) : (i : Int) ≤ lastI es kd op := le_lastTo h _ (List.getElem?_eq_some_iff.1 h).1

set_option maxRecDepth 100000 in
set_option maxHeartbeats 4000000 in
theorem walk (A : Option Addr) (len c : Nat) (l : List Opn) (eA : Option Addr) (elen ec : Nat) (es : List (Int × Int)) (most : Int) (w : World) (h0 : CameN w A len c l) (h1 : CameE w eA elen ec es) (h2 : (Lit.int .u8 most).wf = true) :
    Calls Try.prog 3 #[.slice A len c, .slice eA elen ec, .int .u8 most] w fun e w' => e = .returned (.bool true) ∧ Below w.heap.size w w' := by
  obtain ⟨⟨rfl, hc, hcm, hl, hwf⟩, hnm⟩ := h0
  obtain ⟨rfl, hec, hecm, hes⟩ := h1
  have HA := Lib.hid (fun W => redoes_any W)
  have hmost : 0 ≤ most ∧ most ≤ 255 := by
    have h3 : IntKind.u8.min ≤ most ∧ most ≤ IntKind.u8.max := by simpa [Lit.wf] using h2
    exact h3
  by_cases g1 : (8 : Int) < (l.length : Int)
  · go_enter Try.func3, Try.ntmps3
    go_wp2_with fail
    refine (HA.out _).mono ?_
    rintro e w2 ⟨rfl, hb⟩
    go_wp2
    go_ret
    exact ⟨rfl, hb⟩
  by_cases g2 : (40 : Int) < (es.length : Int)
  · go_enter Try.func3, Try.ntmps3
    go_wp2_with fail
    refine (HA.out _).mono ?_
    rintro e w2 ⟨rfl, hb⟩
    go_wp2
    go_ret
    exact ⟨rfl, hb⟩
  have h27 := cells27
  go_enter Try.func3, Try.ntmps3
  go_wp2
  go_loopw [7] (fun s7 wr => ∃ k : Nat, k ≤ l.length ∧ s7 = .int .i64 k ∧ Hid (∀ o ∈ l.take k, o.after.length ≤ 10) ∧ w = wr) (fun s7 _ => l.length - (intOf s7).toNat)
  case atStart => exact ⟨0, Nat.zero_le _, rfl, by intro o ho; simp at ho, rfl⟩
  case round =>
    obtain ⟨k, hk1, rfl, hA, hww⟩ := hrel
    subst hww
    by_cases hlt : k < l.length
    · obtain ⟨o, hoi⟩ : ∃ o, l[k]? = some o := ⟨_, List.getElem?_eq_getElem hlt⟩
      obtain ⟨b, off, aA, aC, uA, uC, rfl, hbB, ⟨p0, p1, p2, p3, p4⟩, hsa⟩ := hl.get hoi
      by_cases q1 : (10 : Int) < (o.after.length : Int)
      · clear hoi hsa
        go_wp2_with fail
        refine (HA.out _).mono ?_
        rintro e w2 ⟨rfl, hb⟩
        go_wp2
        go_ret
        exact ⟨rfl, hb⟩
      by_cases q2 : (10 : Int) < (o.uses : Int)
      · clear hoi hsa
        go_wp2_with fail
        refine (HA.out _).mono ?_
        rintro e w2 ⟨rfl, hb⟩
        go_wp2
        go_ret
        exact ⟨rfl, hb⟩
      have HN : Hid (∀ o ∈ l.take (k + 1), o.after.length ≤ 10) := by
        intro o2 ho2
        rw [List.take_add_one, hoi] at ho2
        rcases List.mem_append.1 ho2 with h | h
        · exact hA.out o2 h
        · simp at h
          subst h
          omega
      clear hoi hsa
      go_wp2
      go_roundw
      case rel => exact ⟨k + 1, by omega, by go_num, HN, trivial⟩
      case measure => simp [intOf]; omega
    · obtain rfl : k = l.length := by omega
      have ha10 : ∀ o ∈ l, o.after.length ≤ 10 := by have := hA.out; rw [List.take_length] at this; exact this
      have hk : Oks l := ⟨by omega, hnm, hwf, fun o ho => by have := ha10 o ho; omega⟩
      have HR := Lib.hid (run_any A c l eA ec es most w hl hk hc hcm hes (by omega))
      have HI := Lib.hid (fun h => run_inv (l := l) (most := most) (es := es) h)
      have HO := Lib.hid (fun h => ord_run (l := l) (most := most) (es := es) h)
      have HB := Lib.hid (fun h => bad_run (l := l) (most := most) (es := es) h)
      have HX := Lib.hid (fun h => run_idx (l := l) (most := most) (es := es) h)
      have hwm : IntKind.i64.wrap most = most := by rw [IntKind.wrap_i64]; omega
      have hwm2 : wrap64 most = most := by unfold wrap64; omega
      generalize Pr.runR l es most = R at *
      obtain ⟨E, P, N⟩ := R
      dsimp only at HI HO HB HX
      clear hA hlt hk1
      by_cases hE : E = 0
      · subst hE
        by_cases hs : P.state = 3
        · obtain ⟨hI, hord⟩ := HI.out rfl
          obtain ⟨hO, hS⟩ := HO.out rfl
          obtain ⟨hBd, hBr⟩ := HB.out rfl
          have hop := hS hs
          have HQ : Hid (∀ a : Nat, a < l.length → 0 ≤ lastI es 1 a ∧ badI l a es < lastI es 1 a ∧ ∀ p ∈ Pr.aft l a, lastI es 1 p < lastI es 1 a) := fun a ha => by
            obtain ⟨y1, y2, y3⟩ := hO a ha (by rw [hop]; simp)
            exact ⟨y1, hBd a ha (by rw [hop]; simp), fun p hp => (y3 p hp).1⟩
          have HBR := Lib.hid hBr
          have HORD := Lib.hid hord
          clear HI HO HB HX hO hS hI hop hBd hBr hord
          go_wp2_with fail
          refine HR.out.mono ?_
          rintro e w2 ⟨dv, ov, rfl, hd, ho, hb2⟩
          dsimp only at hd ho
          obtain ⟨dA, dc, rfl, _, _, _, _⟩ := hd.shape
          obtain ⟨oA, oc, rfl, _, _, _, _⟩ := ho.shape
          have hb3 := b_al hb2 (.cells #[.int .i64 P.state, .slice dA P.done.length dc, .slice oA P.opn.length oc, .int .i64 P.rework] 29)
          have hl3 := hl.to hb3
          have hes3 := hes.to hb3
          rw [hs] at hb3 hl3 hes3 ⊢
          clear hd ho HR hs
          go_wp2
          generalize w2.alloc (.cells #[.int .i64 3, .slice dA P.done.length dc, .slice oA P.opn.length oc, .int .i64 P.rework] 29) = W0 at *
          generalize w2.heap.size = g at *
          go_loopw [11] (fun s11 wr => ∃ a : Nat, a ≤ l.length ∧ s11 = .int .i64 a ∧ Below W0.heap.size W0 wr) (fun s11 _ => l.length - (intOf s11).toNat)
          case atStart => exact ⟨0, Nat.zero_le _, rfl, Below.refl _ _⟩
          case round =>
            obtain ⟨a, ha1, rfl, hB⟩ := hrel
            by_cases hal : a < l.length
            · obtain ⟨y1, y2, y3⟩ := HQ.out a hal
              have HY3 := Lib.hid y3
              have HBF := Lib.hid (fun (W : World) (hb : Below W0.heap.size W0 W) (op : Int) => before_any A c l op (a : Int) W (hl3.to hb) hk hc hcm)
              have h34 := cells34
              clear y3
              go_wp2
              go_loopw [12, 13, 14] (fun s12 s13 s14 wr2 => ∃ k : Nat, k ≤ es.length ∧ s14 = .int .i64 k ∧ s12 = .int .i64 (lastTo es 1 a k) ∧ s13 = .int .i64 (badTo l a es k) ∧ Below W0.heap.size W0 wr2) (fun _ _ s14 _ => es.length - (intOf s14).toNat)
              case atStart => exact ⟨0, Nat.zero_le _, rfl, rfl, rfl, hB⟩
              case round =>
                clear hB
                obtain ⟨k, hk1, rfl, rfl, rfl, hB⟩ := hrel
                by_cases hlt : k < es.length
                · obtain ⟨ev, hev⟩ : ∃ ev, es[k]? = some ev := ⟨_, List.getElem?_eq_getElem hlt⟩
                  obtain ⟨eb, eoff, rfl, hebb, e0', e1'⟩ := hes3.get hev
                  have e0 := (hB.cell (p := ⟨eb, eoff + k * 2, none⟩) hebb).trans e0'
                  have e1 := (hB.cell (p := ⟨eb, eoff + k * 2 + 1, none⟩) hebb).trans e1'
                  have HLT : Hid (lastTo es 1 a (k + 1) = if es[k]? = some ((1 : Int), (a : Int)) then (k : Int) else lastTo es 1 a k) := rfl
                  have HBT := Lib.hid (badTo_succ (l := l) (a := a) hev)
                  have hrange := HBR.out ev (List.mem_of_getElem? hev)
                  rw [hev] at HLT
                  obtain ⟨kd, op⟩ := ev
                  dsimp only at *
                  clear hev e0' e1'
                  by_cases k2 : kd = 2
                  · have k1' : (kd == 1) = false := by rw [k2]; rfl
                    have k2' : (kd == 2) = true := by simpa using k2
                    obtain ⟨r1, r2⟩ := hrange k2
                    have hbe : befE l op (a : Int) = 0 := by
                      unfold befE Pr.inB
                      rw [if_neg (by rw [HORD.out]; simp), if_pos (by simp; omega)]
                    have HB1 := Lib.hid (HBF.out wr hB op)
                    rw [befB_zero hbe, hbe, Int.toNat_natCast] at HB1
                    have HN1 : Hid (lastTo es 1 a (k + 1) = lastTo es 1 a k) := by show _ = _; rw [HLT.out, if_neg (by intro e; injection e with e; injection e with e _; omega)]
                    have HH : Hid (hitB l a (kd, op) = (Pr.folB l op a || decide (op = (a : Int)))) := by show _ = _; unfold hitB; rw [decide_eq_true k2]; rfl
                    cases hf : Pr.folB l op a with
                    | true =>
                      rw [hf] at HB1
                      have HN2 : Hid (badTo l a es (k + 1) = (k : Int)) := by show _ = _; rw [HBT.out, HH.out, hf]; rfl
                      clear HLT HBT HH hf hbe
                      go_wp2_with fail
                      refine HB1.out.mono ?_
                      rintro e w5 ⟨rfl, hb5⟩
                      go_wp2
                      go_roundw
                      case rel => exact ⟨k + 1, by omega, by go_num, by rw [HN1.out], by rw [HN2.out], b_tr hB hb5⟩
                      case measure => simp [intOf]; omega
                    | false =>
                      rw [hf] at HB1
                      by_cases q1 : op = (a : Int)
                      · have q1' : (op == (a : Int)) = true := by simpa using q1
                        have HN2 : Hid (badTo l a es (k + 1) = (k : Int)) := by show _ = _; rw [HBT.out, HH.out, hf, decide_eq_true q1]; rfl
                        clear HLT HBT HH hf hbe q1
                        go_wp2_with fail
                        refine HB1.out.mono ?_
                        rintro e w5 ⟨rfl, hb5⟩
                        replace e0 := (hb5.cell (p := ⟨eb, eoff + k * 2, none⟩) (Nat.lt_of_lt_of_le hebb hB.size)).trans e0
                        replace e1 := (hb5.cell (p := ⟨eb, eoff + k * 2 + 1, none⟩) (Nat.lt_of_lt_of_le hebb hB.size)).trans e1
                        go_wp2
                        go_roundw
                        case rel => exact ⟨k + 1, by omega, by go_num, by rw [HN1.out], by rw [HN2.out], b_tr hB hb5⟩
                        case measure => simp [intOf]; omega
                      · have q1' : (op == (a : Int)) = false := by simpa using q1
                        have HN2 : Hid (badTo l a es (k + 1) = badTo l a es k) := by show _ = _; rw [HBT.out, HH.out, hf, decide_eq_false q1]; rfl
                        clear HLT HBT HH hf hbe q1
                        go_wp2_with fail
                        refine HB1.out.mono ?_
                        rintro e w5 ⟨rfl, hb5⟩
                        replace e0 := (hb5.cell (p := ⟨eb, eoff + k * 2, none⟩) (Nat.lt_of_lt_of_le hebb hB.size)).trans e0
                        replace e1 := (hb5.cell (p := ⟨eb, eoff + k * 2 + 1, none⟩) (Nat.lt_of_lt_of_le hebb hB.size)).trans e1
                        go_wp2
                        go_roundw
                        case rel => exact ⟨k + 1, by omega, by go_num, by rw [HN1.out], by rw [HN2.out], b_tr hB hb5⟩
                        case measure => simp [intOf]; omega
                  · have k2' : (kd == 2) = false := by simpa using k2
                    have HN2 : Hid (badTo l a es (k + 1) = badTo l a es k) := by show _ = _; rw [HBT.out]; unfold hitB; rw [decide_eq_false k2]; rfl
                    by_cases k1 : kd = 1
                    · have k1' : (kd == 1) = true := by simpa using k1
                      by_cases q1 : op = (a : Int)
                      · have q1' : (op == (a : Int)) = true := by simpa using q1
                        have HN1 : Hid (lastTo es 1 a (k + 1) = (k : Int)) := by show _ = _; rw [HLT.out, if_pos (by rw [k1, q1])]
                        clear HLT HBT q1
                        go_wp2
                        go_roundw
                        case rel => exact ⟨k + 1, by omega, by go_num, by rw [HN1.out], by rw [HN2.out], hB⟩
                        case measure => simp [intOf]; omega
                      · have q1' : (op == (a : Int)) = false := by simpa using q1
                        have HN1 : Hid (lastTo es 1 a (k + 1) = lastTo es 1 a k) := by show _ = _; rw [HLT.out, if_neg (by intro e; injection e with e; injection e with _ e; exact q1 e)]
                        clear HLT HBT q1
                        go_wp2
                        go_roundw
                        case rel => exact ⟨k + 1, by omega, by go_num, by rw [HN1.out], by rw [HN2.out], hB⟩
                        case measure => simp [intOf]; omega
                    · have k1' : (kd == 1) = false := by simpa using k1
                      have HN1 : Hid (lastTo es 1 a (k + 1) = lastTo es 1 a k) := by show _ = _; rw [HLT.out, if_neg (by intro e; injection e with e; injection e with e _; exact k1 e)]
                      clear HLT HBT
                      go_wp2
                      go_roundw
                      case rel => exact ⟨k + 1, by omega, by go_num, by rw [HN1.out], by rw [HN2.out], hB⟩
                      case measure => simp [intOf]; omega
                · obtain rfl : k = es.length := by omega
                  have e1 : lastTo es 1 a es.length = lastI es 1 a := rfl
                  have e2 : badTo l a es es.length = badI l a es := rfl
                  rw [e1, e2]
                  obtain ⟨o, hoi⟩ : ∃ o, l[a]? = some o := ⟨_, List.getElem?_eq_getElem hal⟩
                  have hlw := hl3.to hB
                  obtain ⟨lb, loff, aA, aC, uA, uC, rfl, hlb, hop, hsa⟩ := hlw.get hoi
                  obtain ⟨p0, p1, p2, p3, p4⟩ := hop
                  have hal10 := ha10 o (List.mem_of_getElem? hoi)
                  have HY4 : Hid (∀ (i : Nat) p, es[i]? = some ((1 : Int), p) → p ∈ o.after → (i : Int) < lastI es 1 a) := fun i p h1 h2 => by
                    have h3 := HY3.out p (by rw [aft_at hoi]; exact h2)
                    have h4 := le_last h1
                    omega
                  have hL := lastI_lt es 1 (a : Int)
                  have u1 : ¬ lastI es 1 (a : Int) < 0 := by omega
                  have u2 : ¬ lastI es 1 (a : Int) < badI l a es := by omega
                  clear hoi HY3 HBF e1 e2 hlt hk1
                  generalize badI l a es = B1 at *
                  generalize lastI es 1 (a : Int) = L1 at *
                  obtain ⟨L, rfl⟩ := Int.eq_ofNat_of_zero_le y1
                  go_wp2
                  go_loopw [17] (fun s17 wr3 => ∃ k : Nat, k ≤ o.after.length ∧ s17 = .int .i64 k ∧ ∃ n, wr3 = wr.drewN n) (fun s17 _ => o.after.length - (intOf s17).toNat)
                  case atStart => exact ⟨0, Nat.zero_le _, rfl, 0, rfl⟩
                  case round =>
                    obtain ⟨k, hk1, rfl, n, rfl⟩ := hrel
                    by_cases hlt : k < o.after.length
                    · obtain ⟨x, hx⟩ := get_ex rfl hlt
                      obtain ⟨ab, aoff, rfl, hab, ca⟩ := si_get hsa hx
                      have HY5 : Hid (∀ i : Nat, L + 1 ≤ i → es[i]? ≠ some ((1 : Int), x)) := fun i hi h => by
                        have := HY4.out i x h (List.mem_of_getElem? hx)
                        omega
                      clear hx
                      go_wp2
                      go_loopw [18] (fun s18 wr4 => ∃ i : Nat, L + 1 ≤ i ∧ i ≤ es.length ∧ s18 = .int .i64 i ∧ ∃ m, wr4 = wr.drewN m) (fun s18 _ => es.length - (intOf s18).toNat)
                      case atStart => exact ⟨L + 1, Nat.le_refl _, by omega, by go_num, _, rfl⟩
                      case round =>
                        obtain ⟨i, hi1, hi2, rfl, m, rfl⟩ := hrel
                        by_cases hil : i < es.length
                        · obtain ⟨ev, hev⟩ : ∃ ev, es[i]? = some ev := ⟨_, List.getElem?_eq_getElem hil⟩
                          obtain ⟨eb, eoff, rfl, hebb, e0', e1'⟩ := hes3.get hev
                          have e0 := (hB.cell (p := ⟨eb, eoff + i * 2, none⟩) hebb).trans e0'
                          have e1 := (hB.cell (p := ⟨eb, eoff + i * 2 + 1, none⟩) hebb).trans e1'
                          have hne := HY5.out i hi1
                          rw [hev] at hne
                          obtain ⟨kd, op⟩ := ev
                          dsimp only at *
                          clear hev e0' e1'
                          by_cases k1 : kd = 1
                          · have q1 : ¬ op = x := fun e => hne (by rw [k1, e])
                            have k1' : (kd == 1) = true := by simpa using k1
                            have k1d : decide (kd = 1) = true := by simpa using k1
                            have q1' : (op == x) = false := by simpa using q1
                            have q1d : decide (op = x) = false := by simpa using q1
                            clear hne k1 q1
                            go_wp2
                            go_quiet (fail)
                            go_wp2
                            go_roundw
                            case rel => exact ⟨i + 1, by omega, by omega, by go_num, _, rfl⟩
                            case measure => simp [intOf]; omega
                          · have k1' : (kd == 1) = false := by simpa using k1
                            have k1d : decide (kd = 1) = false := by simpa using k1
                            clear hne k1
                            go_wp2
                            go_quiet (fail)
                            go_wp2
                            go_roundw
                            case rel => exact ⟨i + 1, by omega, by omega, by go_num, _, rfl⟩
                            case measure => simp [intOf]; omega
                        · clear hi1
                          go_wp2
                          go_roundw
                          case rel => exact ⟨k + 1, by omega, by go_num, _, rfl⟩
                          case measure => simp [intOf]; omega
                    · go_wp2
                      go_roundw
                      case rel => exact ⟨a + 1, by omega, by go_num, below_drewN hB _⟩
                      case measure => simp [intOf]; omega
            · obtain rfl : a = l.length := by omega
              clear hal ha1
              go_wp2_with fail
              refine (HA.out _).mono ?_
              rintro e w7 ⟨rfl, hb7⟩
              go_wp2
              go_ret
              exact ⟨rfl, b_tr (b_tr hb3 hB) hb7⟩
        · have hs' : (P.state == 3) = false := by simpa using hs
          clear HI HO HB HX
          go_wp2_with fail
          refine HR.out.mono ?_
          rintro e w2 ⟨dv, ov, rfl, hd, ho, hb2⟩
          dsimp only at hd ho
          obtain ⟨dA, dc, rfl, _, _, _, _⟩ := hd.shape
          obtain ⟨oA, oc, rfl, _, _, _, _⟩ := ho.shape
          clear hd ho HR
          go_wp2_with fail
          refine (HA.out _).mono ?_
          rintro e w7 ⟨rfl, hb7⟩
          go_wp2
          go_ret
          exact ⟨rfl, b_tr (b_al hb2 _) hb7⟩
      · have hE' : (E == 0) = false := by simpa using hE
        obtain ⟨x1, x2⟩ := HX.out hE
        have x3 : ¬ N < 0 := by omega
        clear HI HO HB HX
        go_wp2_with fail
        refine HR.out.mono ?_
        rintro e w2 ⟨dv, ov, rfl, hd, ho, hb2⟩
        dsimp only at hd ho
        obtain ⟨dA, dc, rfl, _, _, _, _⟩ := hd.shape
        obtain ⟨oA, oc, rfl, _, _, _, _⟩ := ho.shape
        clear hd ho HR
        go_wp2_with fail
        refine (HA.out _).mono ?_
        rintro e w7 ⟨rfl, hb7⟩
        go_wp2
        go_ret
        exact ⟨rfl, b_tr (b_al hb2 _) hb7⟩

set_option maxRecDepth 100000 in
theorem lifted (os : Os) (started : os.Started) (H : Type) (enc : TypeId × Value → H) :
    ReturnsInHanded {} Try.checked os 3 .any (Rows.topReworkSpec.pre6 enc Try.prog Try.f3 Rows.topReworkRow.domain false) (Rows.topReworkSpec.post enc Try.prog Try.f3 false true false false) := by
  refine returnsInHanded_of_change (C := Try.checked) own started (by kernel_rfl) Try.func3
    (ChangeSpec.witness6 (enc := enc) (C := Try.checked) false ⟨#[], #[.slice none 0 0, .slice none 0 0, .int .u8 0], []⟩ 8 (by kernel_rfl) (by kernel_rfl) (by kernel_rfl) (by kernel_rfl)) ?_
  intro W base args ds gs before hval0 hW hcnd _
  have hval : ∀ (j : Nat) t v, Try.f3.params[j]? = some t → args[j]? = some v → Value.okWide Try.prog W .any base t v := hval0
  have hW' := hW
  obtain ⟨p, q, hA0, hV, rfl, hfz, hnd⟩ := hW
  have hA : DataW.TrodAll enc Try.prog W 0 (fun _ => true) true Try.f3.params.toList args.toList ds p := hA0
  rw [Try.params3] at hA hval
  obtain ⟨v0, vs0, d0, ds0, p0, qq0, hargs, rfl, rfl, h0, r0⟩ := trodAll_cons hA
  obtain ⟨v1, vs1, d1, ds1, p1, qq1, rfl, rfl, rfl, h1, r1⟩ := trodAll_cons r0
  obtain ⟨v2, vs2, d2, ds2, p2, qq2, rfl, rfl, rfl, h2, r2⟩ := trodAll_cons r1
  obtain ⟨rfl, rfl, rfl⟩ := trodAll_nil r2
  obtain rfl : args = #[v0, v1, v2] := by cases args; simp_all
  obtain ⟨rfl, rfl⟩ := trodVars_none hV
  obtain ⟨a0, len0, cap0, rfl⟩ := okWide_slice Try.underlying22 (hval 0 22 v0 rfl rfl)
  have k0 := h0
  have lt0 : ∀ x ∈ p0, x.block < W.heap.size := by obtain ⟨m, hm⟩ := k0; exact DataW.trod_lt m _ _ _ hm
  obtain ⟨l0, w0⟩ : ∃ l, CameN W a0 len0 cap0 l := by
    obtain ⟨fuel, hf⟩ := h0
    exact open_opsN (by simpa [Value.cells] using hf)
  obtain ⟨a1, len1, cap1, rfl⟩ := okWide_slice Try.underlying23 (hval 1 23 v1 rfl rfl)
  have k1 := h1
  have lt1 : ∀ x ∈ p1, x.block < W.heap.size := by obtain ⟨m, hm⟩ := k1; exact DataW.trod_lt m _ _ _ hm
  obtain ⟨l1, w1⟩ : ∃ l, CameE W a1 len1 cap1 l := by
    obtain ⟨fuel, hf⟩ := h1
    exact open_evs (by simpa [Value.cells] using hf)
  obtain ⟨a2, rfl, rfl, rfl, w2⟩ := open_int Try.underlying5 (hval 2 5 v2 rfl rfl) h2
  clear hA0 hval0
  refine (walk a0 len0 cap0 l0 a1 len1 cap1 l1 a2 W w0 w1 w2).mono fun e W' ⟨he, bel⟩ => ?_
  subst he
  exact ⟨_, rfl, _, _, _, [], _, [], hW', trodAll_mk1 (shut_bool Try.underlying4 _), (trodAll_cons_mk (Below.trod laidOut (by kernel_rfl) (of_decide_eq_true (by kernel_rfl)) k0 bel lt0) (trodAll_cons_mk (Below.trod laidOut (by kernel_rfl) (of_decide_eq_true (by kernel_rfl)) k1 bel lt1) (trodAll_cons_mk (shut_int Try.underlying5 w2) trodAll_mk0))), rfl, bel.frame _, fun h => by cases h⟩

theorem over : Rows.topReworkRow.holds Try.pinned (OpenSpec.ofChange Rows.topReworkSpec) :=
  OpenClaim.holds_of_wide 3 Try.f3 rfl rfl rfl rfl rfl rfl rfl ⟨rfl, rfl, rfl, rfl, rfl⟩ rfl rfl rfl rfl rfl (by kernel_rfl) Try.func3 (by kernel_rfl)
    (of_decide_eq_true (by kernel_rfl)) (by unfold Func.isWrapper; first | (rw [if_pos (by decide +kernel)]; kernel_rfl) | (rw [if_neg (by decide +kernel)]; exact ⟨rfl, rfl⟩))
    (fun os started H enc _ => lifted os started H enc)

theorem proved : Rows.TopReworkSaid := over
#print axioms proved
end Go.Proofs.Ytcolekfjmhgldaa.tops
