/- ReworkOrder: of a garment that passed, every operation was completed after its predecessors were, for the last time, and after the last defect of itself and of its predecessors. Conditions: none beyond the statement's own. -/
import Derived.Test.YtcolekfjmhgldaaPlc
namespace Go.Proofs.Ytcolekfjmhgldaa.orders
open Go.ChangeShapes Go.WideShapes Go.ChangeAt Go.RowKit Go.Deep
open Pr (Opn Prg Res)

set_option maxRecDepth 100000 in
set_option maxHeartbeats 4000000 in
theorem walk (A : Option Addr) (len c : Nat) (l : List Opn) (eA : Option Addr) (elen ec : Nat) (es : List (Int × Int)) (most : Int) (w : World) (h0 : CameO w A len c l) (h1 : CameE w eA elen ec es) (_h2 : (Lit.int .i64 most).wf = true) :
    Calls Try.prog 6 #[.slice A len c, .slice eA elen ec, .int .i64 most] w fun e w' => e = .returned (.bool true) ∧ Below w.heap.size w w' := by
  obtain ⟨rfl, hc, hcm, hl, hwf⟩ := h0
  obtain ⟨rfl, hec, hecm, hes⟩ := h1
  have HL := Lib.hid (light_any A c l w hl (Nat.le_trans hc hcm))
  have HA := Lib.hid (fun W => alive_any W)
  by_cases g1 : lightB l = true
  · obtain ⟨hk, hl20, ha20⟩ := light_oks g1 hwf
    rw [g1] at HL
    by_cases g2 : (80 : Int) < (es.length : Int)
    · go_enter Try.func6, Try.ntmps6
      go_wp2_with fail
      refine HL.out.mono ?_
      rintro e w1 ⟨rfl, rfl⟩
      go_wp2_with fail
      refine (HA.out _).mono ?_
      rintro e w2 ⟨rfl, hb⟩
      go_wp2
      go_ret
      exact ⟨rfl, hb⟩
    have HR := Lib.hid (run_any A c l eA ec es most w hl hk hc hcm hes (by omega))
    have HI := Lib.hid (fun h => run_inv (l := l) (most := most) (es := es) h)
    have HO := Lib.hid (fun h => ord_run (l := l) (most := most) (es := es) h)
    generalize Pr.runR l es most = R at *
    obtain ⟨E, P, N⟩ := R
    dsimp only at HI HO
    by_cases hE : E = 0
    · subst hE
      by_cases hs : P.state = 3
      · obtain ⟨hI, hord⟩ := HI.out rfl
        obtain ⟨hO, hS⟩ := HO.out rfl
        have hop := hS hs
        have hs' : (P.state == 3) = true := by simpa using hs
        have HQ : Hid (∀ b : Nat, b < l.length → 0 ≤ lastI es 1 b ∧ lastI es 2 b < lastI es 1 b ∧ ∀ a ∈ Pr.aft l b, lastI es 1 a < lastI es 1 b ∧ lastI es 2 a < lastI es 1 b) := fun b hb => hO b hb (by rw [hop]; simp)
        have hlo : P.opn.length = 0 := by rw [hop]; rfl
        have HLS := Lib.hid (fun (W : World) (hb : Below w.heap.size w W) kd op => last_any eA ec es kd op W (hes.to hb) (by omega))
        clear HI HO hO hS hI hop
        go_enter Try.func6, Try.ntmps6
        go_wp2_with fail
        refine HL.out.mono ?_
        rintro e w1 ⟨rfl, rfl⟩
        go_wp2_with fail
        refine HR.out.mono ?_
        rintro e w2 ⟨dv, ov, rfl, hd, ho, hb2⟩
        dsimp only at hd ho
        obtain ⟨dA, dc, rfl, _, _, _, _⟩ := hd.shape
        obtain ⟨oA, oc, rfl, _, _, _, _⟩ := ho.shape
        have hP := Pc.new hd ho
        have hb3 := b_al hb2 (.cells #[.int .i64 P.state, .slice dA P.done.length dc, .slice oA P.opn.length oc, .int .i64 P.rework] 29)
        have hl3 := hl.to hb3
        have c2 := hP.c2
        rw [hlo] at c2 hb3 hl3 ⊢
        rw [hs] at hb3 hl3 c2 ⊢
        clear hd ho HL HR hP hs hs' hlo
        go_wp2
        generalize w2.alloc (.cells #[.int .i64 3, .slice dA P.done.length dc, .slice oA 0 oc, .int .i64 P.rework] 29) = W0 at *
        generalize w2.heap.size = g at *
        go_loopw [10] (fun s10 wr => ∃ b : Nat, b ≤ l.length ∧ s10 = .int .i64 b ∧ W0 = wr) (fun s10 _ => l.length - (intOf s10).toNat)
        case atStart => exact ⟨0, Nat.zero_le _, rfl, rfl⟩
        case round =>
          obtain ⟨b, hb1, rfl, hww⟩ := hrel
          subst hww
          by_cases hbl : b < l.length
          · obtain ⟨q1, q2, q3⟩ := HQ.out b hbl
            have HL1 := Lib.hid (HLS.out W0 hb3 1 (b : Int))
            have HL2 := Lib.hid (HLS.out W0 hb3 2 (b : Int))
            obtain ⟨o, hoi⟩ : ∃ o, l[b]? = some o := ⟨_, List.getElem?_eq_getElem hbl⟩
            obtain ⟨lb, loff, aA, aC, uA, uC, rfl, hlb, hop, hsa⟩ := hl3.get hoi
            obtain ⟨p0, p1, p2, p3, p4⟩ := hop
            have h27 := cells27
            have hal := ha20 o (List.mem_of_getElem? hoi)
            rw [aft_at hoi] at q3
            have HQ3 := Lib.hid q3
            have u1 : ¬ lastI es 1 (b : Int) < 0 := by omega
            have u2 : ¬ lastI es 1 (b : Int) < lastI es 2 (b : Int) := by omega
            generalize lastI es 1 (b : Int) = L1 at *
            generalize lastI es 2 (b : Int) = L2 at *
            clear hoi q3
            go_wp2_with fail
            refine HL1.out.mono ?_
            rintro e w5 ⟨rfl, rfl⟩
            go_wp2_with fail
            refine HL2.out.mono ?_
            rintro e w6 ⟨rfl, rfl⟩
            go_wp2
            go_loopw [12] (fun s12 wr2 => ∃ i : Nat, i ≤ o.after.length ∧ s12 = .int .i64 i ∧ w6 = wr2) (fun s12 _ => o.after.length - (intOf s12).toNat)
            case atStart => exact ⟨0, Nat.zero_le _, rfl, rfl⟩
            case round =>
              obtain ⟨i, hi1, rfl, hww⟩ := hrel
              subst hww
              by_cases hil : i < o.after.length
              · obtain ⟨a, ha⟩ := get_ex rfl hil
                obtain ⟨r1, r2⟩ := HQ3.out a (List.mem_of_getElem? ha)
                obtain ⟨ab, aoff, rfl, hab, ca⟩ := si_get hsa ha
                have HM1 := Lib.hid (HLS.out w6 hb3 1 a)
                have HM2 := Lib.hid (HLS.out w6 hb3 2 a)
                have v1 : ¬ L1 ≤ lastI es 1 a := by omega
                have v2 : ¬ L1 < lastI es 2 a := by omega
                generalize lastI es 1 a = M1 at *
                generalize lastI es 2 a = M2 at *
                clear ha
                go_wp2_with fail
                refine HM1.out.mono ?_
                rintro e w7 ⟨rfl, rfl⟩
                go_wp2_with fail
                refine HM2.out.mono ?_
                rintro e w8 ⟨rfl, rfl⟩
                go_wp2
                go_roundw
                case rel => exact ⟨i + 1, by omega, by go_num, trivial⟩
                case measure => simp [intOf]; omega
              · obtain rfl : i = o.after.length := by omega
                clear hi1 hil
                go_wp2
                go_roundw
                case rel => exact ⟨b + 1, by omega, by go_num, trivial⟩
                case measure => simp [intOf]; omega
          · obtain rfl : b = l.length := by omega
            clear hbl hb1
            go_wp2_with fail
            refine (HA.out _).mono ?_
            rintro e w7 ⟨rfl, hb7⟩
            go_wp2
            go_ret
            exact ⟨rfl, b_tr hb3 hb7⟩
      · have hs' : (P.state == 3) = false := by simpa using hs
        clear HI HO
        go_enter Try.func6, Try.ntmps6
        go_wp2_with fail
        refine HL.out.mono ?_
        rintro e w1 ⟨rfl, rfl⟩
        go_wp2_with fail
        refine HR.out.mono ?_
        rintro e w2 ⟨dv, ov, rfl, hd, ho, hb2⟩
        dsimp only at hd ho
        obtain ⟨dA, dc, rfl, _, _, _, _⟩ := hd.shape
        obtain ⟨oA, oc, rfl, _, _, _, _⟩ := ho.shape
        clear hd ho HL HR
        go_wp2_with fail
        refine (HA.out _).mono ?_
        rintro e w7 ⟨rfl, hb7⟩
        go_wp2
        go_ret
        exact ⟨rfl, b_tr (b_al hb2 _) hb7⟩
    · have hE' : (E == 0) = false := by simpa using hE
      clear HI HO
      go_enter Try.func6, Try.ntmps6
      go_wp2_with fail
      refine HL.out.mono ?_
      rintro e w1 ⟨rfl, rfl⟩
      go_wp2_with fail
      refine HR.out.mono ?_
      rintro e w2 ⟨dv, ov, rfl, hd, ho, hb2⟩
      dsimp only at hd ho
      obtain ⟨dA, dc, rfl, _, _, _, _⟩ := hd.shape
      obtain ⟨oA, oc, rfl, _, _, _, _⟩ := ho.shape
      clear hd ho HL HR
      go_wp2_with fail
      refine (HA.out _).mono ?_
      rintro e w7 ⟨rfl, hb7⟩
      go_wp2
      go_ret
      exact ⟨rfl, b_tr (b_al hb2 _) hb7⟩
  · have g1' : lightB l = false := by simpa using g1
    rw [g1'] at HL
    go_enter Try.func6, Try.ntmps6
    go_wp2_with fail
    refine HL.out.mono ?_
    rintro e w1 ⟨rfl, rfl⟩
    go_wp2_with fail
    refine (HA.out _).mono ?_
    rintro e w2 ⟨rfl, hb⟩
    go_wp2
    go_ret
    exact ⟨rfl, hb⟩

set_option maxRecDepth 100000 in
theorem lifted (os : Os) (started : os.Started) (H : Type) (enc : TypeId × Value → H) :
    ReturnsInHanded {} Try.checked os 6 .any (Rows.reworkOrderSpec.pre6 enc Try.prog Try.f6 Rows.reworkOrderRow.domain false) (Rows.reworkOrderSpec.post enc Try.prog Try.f6 false true false false) := by
  refine returnsInHanded_of_change (C := Try.checked) own started (by kernel_rfl) Try.func6
    (ChangeSpec.witness6 (enc := enc) (C := Try.checked) false ⟨#[], #[.slice none 0 0, .slice none 0 0, .int .i64 0], []⟩ 8 (by kernel_rfl) (by kernel_rfl) (by kernel_rfl) (by kernel_rfl)) ?_
  intro W base args ds gs before hval0 hW hcnd _
  have hval : ∀ (j : Nat) t v, Try.f6.params[j]? = some t → args[j]? = some v → Value.okWide Try.prog W .any base t v := hval0
  have hW' := hW
  obtain ⟨p, q, hA0, hV, rfl, hfz, hnd⟩ := hW
  have hA : DataW.TrodAll enc Try.prog W 0 (fun _ => true) true Try.f6.params.toList args.toList ds p := hA0
  rw [Try.params6] at hA hval
  obtain ⟨v0, vs0, d0, ds0, p0, qq0, hargs, rfl, rfl, h0, r0⟩ := trodAll_cons hA
  obtain ⟨v1, vs1, d1, ds1, p1, qq1, rfl, rfl, rfl, h1, r1⟩ := trodAll_cons r0
  obtain ⟨v2, vs2, d2, ds2, p2, qq2, rfl, rfl, rfl, h2, r2⟩ := trodAll_cons r1
  obtain ⟨rfl, rfl, rfl⟩ := trodAll_nil r2
  obtain rfl : args = #[v0, v1, v2] := by cases args; simp_all
  obtain ⟨rfl, rfl⟩ := trodVars_none hV
  obtain ⟨a0, len0, cap0, rfl⟩ := okWide_slice Try.underlying22 (hval 0 22 v0 rfl rfl)
  have k0 := h0
  have lt0 : ∀ x ∈ p0, x.block < W.heap.size := by obtain ⟨m, hm⟩ := k0; exact DataW.trod_lt m _ _ _ hm
  obtain ⟨l0, w0⟩ : ∃ l, CameO W a0 len0 cap0 l := by
    obtain ⟨fuel, hf⟩ := h0
    exact open_ops (by simpa [Value.cells] using hf)
  obtain ⟨a1, len1, cap1, rfl⟩ := okWide_slice Try.underlying23 (hval 1 23 v1 rfl rfl)
  have k1 := h1
  have lt1 : ∀ x ∈ p1, x.block < W.heap.size := by obtain ⟨m, hm⟩ := k1; exact DataW.trod_lt m _ _ _ hm
  obtain ⟨l1, w1⟩ : ∃ l, CameE W a1 len1 cap1 l := by
    obtain ⟨fuel, hf⟩ := h1
    exact open_evs (by simpa [Value.cells] using hf)
  obtain ⟨a2, rfl, rfl, rfl, w2⟩ := open_int Try.underlying3 (hval 2 3 v2 rfl rfl) h2
  clear hA0 hval0
  refine (walk a0 len0 cap0 l0 a1 len1 cap1 l1 a2 W w0 w1 w2).mono fun e W' ⟨he, bel⟩ => ?_
  subst he
  exact ⟨_, rfl, _, _, _, [], _, [], hW', trodAll_mk1 (shut_bool Try.underlying4 _), (trodAll_cons_mk (Below.trod laidOut (by kernel_rfl) (of_decide_eq_true (by kernel_rfl)) k0 bel lt0) (trodAll_cons_mk (Below.trod laidOut (by kernel_rfl) (of_decide_eq_true (by kernel_rfl)) k1 bel lt1) (trodAll_cons_mk (shut_int Try.underlying3 w2) trodAll_mk0))), rfl, bel.frame _, fun h => by cases h⟩

theorem over : Rows.reworkOrderRow.holds Try.pinned (OpenSpec.ofChange Rows.reworkOrderSpec) :=
  OpenClaim.holds_of_wide 6 Try.f6 rfl rfl rfl rfl rfl rfl rfl ⟨rfl, rfl, rfl, rfl, rfl⟩ rfl rfl rfl rfl rfl (by kernel_rfl) Try.func6 (by kernel_rfl)
    (of_decide_eq_true (by kernel_rfl)) (by unfold Func.isWrapper; first | (rw [if_pos (by decide +kernel)]; kernel_rfl) | (rw [if_neg (by decide +kernel)]; exact ⟨rfl, rfl⟩))
    (fun os started H enc _ => lifted os started H enc)

theorem proved : Rows.ReworkOrderSaid := over
#print axioms proved
end Go.Proofs.Ytcolekfjmhgldaa.orders
