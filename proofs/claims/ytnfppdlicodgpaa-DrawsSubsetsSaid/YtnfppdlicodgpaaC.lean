/- Shuffle, Skip, limited, Same, among of the reference. -/
import Derived.Test.YtnfppdlicodgpaaB
namespace Go.Proofs.Ytnfppdlicodgpaa
open Go.RowKit
open Pd (St)

theorem wrap_mul_add' (mul add : Int) : IntKind.u64.wrap (IntKind.u64.wrap (add * mul) + add) = (add + mul * add % 18446744073709551616) % 18446744073709551616 := by
  rw [u64w, u64w, Int.add_comm, Int.mul_comm]

set_option maxHeartbeats 400000 in
theorem rskip_any (d k : Int) (w : World) (h : St d) (hk : k ≤ 9223372036854775807) : Calls Try.prog 23 #[.int .u64 d, .int .i64 k] w fun e w' => e = .returned (.int .u64 (Pd.it k.toNat d)) ∧ w = w' := by
  generalize hR : Pd.it k.toNat d = R
  have HR : Hid (Pd.it (k.toNat * 1) d = R) := by show _ = _; rw [Nat.mul_one]; exact hR
  clear hR
  have ha := Pd.aff_one
  go_enter Try.func23, Try.ntmps23
  go_wp2
  go_loop [0, 1, 5, 6] (fun d' k' mul add => ∃ (dd kk mm aa : Int) (j : Nat), d' = .int .u64 dd ∧ k' = .int .i64 kk ∧ mul = .int .u64 mm ∧ add = .int .u64 aa ∧ St dd ∧ kk ≤ 9223372036854775807 ∧ Hid (Pd.it (kk.toNat * j) dd = R) ∧ Hid (Pd.Aff j mm aa)) (fun _ k' _ _ => (intOf k').toNat)
  case atStart => exact ⟨d, k, _, _, 1, rfl, rfl, rfl, rfl, h, hk, HR, ha⟩
  case round =>
    obtain ⟨dd, kk, mm, aa, j, rfl, rfl, rfl, rfl, hd, hkk, H1, H2⟩ := hrel
    by_cases h0 : 0 < kk
    · have HA : Hid (Pd.Aff (2 * j) (IntKind.u64.wrap (mm * mm)) (IntKind.u64.wrap (IntKind.u64.wrap (aa * mm) + aa))) := by
        have := Pd.aff_twice H2.out
        rw [← wrap_mul_add', ← u64w] at this
        exact this
      rcases (show kk % 2 = 1 ∨ kk % 2 = 0 by omega) with hm | hm
      · have HS : Hid (Pd.it ((kk / 2).toNat * (2 * j)) (IntKind.u64.wrap (IntKind.u64.wrap (dd * mm) + aa)) = R) := by
          show _ = _
          rw [half_nat (by omega), wrap_mul_add, Pd.skip_odd H2.out hd (by omega)]
          exact H1.out
        have hst : St (IntKind.u64.wrap (IntKind.u64.wrap (dd * mm) + aa)) := by rw [u64w]; exact st_mod _
        have hb1 : (kk % 2 == 1) = true := by rw [hm]; rfl
        clear hm
        go_wp2
        go_round
        case rel => exact ⟨_, _, _, _, 2 * j, rfl, rfl, rfl, rfl, hst, by omega, HS, HA⟩
        case measure => simp [intOf]; omega
      · have HS : Hid (Pd.it ((kk / 2).toNat * (2 * j)) dd = R) := by
          show _ = _
          rw [half_nat (by omega), Pd.skip_even (by omega)]
          exact H1.out
        have hb1 : (kk % 2 == 1) = false := by rw [hm]; rfl
        clear hm
        go_wp2
        go_round
        case rel => exact ⟨_, _, _, _, 2 * j, rfl, rfl, rfl, rfl, hd, by omega, HS, HA⟩
        case measure => simp [intOf]; omega
    · go_wp2
      go_ret
      have e : kk.toNat = 0 := by omega
      have := H1.out
      rw [e, Nat.zero_mul] at this
      exact ⟨by rw [← this]; rfl, rfl⟩

set_option maxHeartbeats 400000 in
theorem limited_any (n m : Int) (w : World) : Calls Try.prog 24 #[.int .i64 n, .int .i64 m] w fun e w' => e = .returned (.int .i64 (max 0 (min n m))) ∧ w = w' := by
  by_cases h1 : m < n
  · rw [Int.min_eq_right (by omega)]
    by_cases h2 : 0 < m
    · rw [Int.max_eq_right (by omega)]
      go_enter Try.func24, Try.ntmps24
      go_wp2
      go_ret
      exact ⟨rfl, rfl⟩
    · rw [Int.max_eq_left (by omega)]
      go_enter Try.func24, Try.ntmps24
      go_wp2
      go_ret
      exact ⟨rfl, rfl⟩
  · rw [Int.min_eq_left (by omega)]
    by_cases h2 : 0 < n
    · rw [Int.max_eq_right (by omega)]
      go_enter Try.func24, Try.ntmps24
      go_wp2
      go_ret
      exact ⟨rfl, rfl⟩
    · rw [Int.max_eq_left (by omega)]
      go_enter Try.func24, Try.ntmps24
      go_wp2
      go_ret
      exact ⟨rfl, rfl⟩
theorem lim_ref (n : Int) : max 0 (min n 1000) = ((Pd.lim n : Nat) : Int) := by unfold Pd.lim; omega

set_option maxHeartbeats 1000000 in
theorem rshuffle_any (d n : Int) (w : World) (h : St d) : Calls Try.prog 18 #[.int .u64 d, .int .i64 n] w (FreshD w (Pd.shuffle d n).1 (Pd.shuffle d n).2) := by
  generalize hR : Pd.shuffle d n = R
  have hR' : Pd.shuf (Pd.lim n - 1) d (Pd.ids (Pd.lim n)) = R := hR
  have hl := Pd.lim_le n
  have HM := Lib.hid (fun W => by have := limited_any n 1000 W; rw [lim_ref n] at this; exact this)
  generalize Pd.lim n = m at *
  have HR := Lib.hid hR'
  clear hR hR'
  obtain ⟨w1, hmk, hown, hb1⟩ := make_ints w m (by omega)
  go_enter Try.func18, Try.ntmps18
  go_wp2_with fail
  refine (HM.out _).mono ?_
  rintro e w' ⟨rfl, rfl⟩
  go_wp2
  clear HM hmk
  go_loopw [7] (fun i wr => ∃ (k : Nat) (c : List Int), k ≤ m ∧ i = .int .i64 k ∧ Hid (Laid c m k) ∧ Oi wr w.heap.size (.slice (some ⟨w.heap.size, 0, none⟩) m m) c ∧ Below w.heap.size w wr) (fun i _ => m - (intOf i).toNat)
  case atStart => exact ⟨0, _, Nat.zero_le _, rfl, Laid.start m, hown, hb1⟩
  case round =>
    obtain ⟨k, c, hk, rfl, hla, how, hb⟩ := hrel
    by_cases hlt : k < m
    · have f1 := how.frozenAt k
      obtain ⟨x0, f2⟩ : ∃ x, wr.cell? ⟨w.heap.size, k, none⟩ = some (.int .i64 x) := ⟨_, how.at_ k (by rw [hla.out.len]; exact hlt)⟩
      have HW := Lib.hid (how.set k (k : Int))
      have HL := Lib.hid (hla.out.step hlt)
      go_wp2
      go_roundw
      case rel => exact ⟨k + 1, _, by omega, by go_num, HL, HW.out, b_set hb (Nat.le_refl _) _ _⟩
      case measure => simp [intOf]; omega
    · obtain rfl : k = m := by omega
      have HS : Hid (Pd.shuf ((k : Int) - 1).toNat d c = R) := by
        show _ = _
        rw [hla.out.done, show ((k : Int) - 1).toNat = k - 1 by omega]
        exact HR.out
      have HC := Lib.hid hla.out.len
      clear hla hlt hk HR
      go_wp2
      go_loopw [0, 8] (fun s0 s8 wr => ∃ (dd ii : Int) (c : List Int), s0 = .int .u64 dd ∧ s8 = .int .i64 ii ∧ St dd ∧ -1 ≤ ii ∧ ii < (k : Int) ∧ Hid (c.length = k) ∧ Hid (Pd.shuf ii.toNat dd c = R) ∧ Oi wr w.heap.size (.slice (some ⟨w.heap.size, 0, none⟩) k k) c ∧ Below w.heap.size w wr) (fun _ s8 _ => (intOf s8).toNat)
      case atStart => exact ⟨d, _, c, rfl, rfl, h, by omega, by omega, HC, HS, how, hb⟩
      case round =>
        obtain ⟨dd, ii, c, rfl, rfl, hd, hi1, hi2, hc, hs, how, hb⟩ := hrel
        by_cases hlt : 1 ≤ ii
        · obtain ⟨j, rfl⟩ : ∃ j : Nat, ii = (j : Int) := ⟨ii.toNat, by omega⟩
          have hbd : 0 ≤ bel dd ((j : Int) + 1) ∧ bel dd ((j : Int) + 1) < (j : Int) + 1 := by
            rw [bel_pos (by omega)]
            exact ⟨Int.emod_nonneg _ (by omega), Int.emod_lt_of_pos _ (by omega)⟩
          have HN := Lib.hid (shuf_step (dd := dd) c hlt)
          obtain ⟨q, hq⟩ : ∃ q : Nat, bel dd ((j : Int) + 1) = (q : Int) := ⟨(bel dd ((j : Int) + 1)).toNat, by omega⟩
          have HB := Lib.hid (fun W => by have := rbelow_any dd ((j : Int) + 1) W hd; rw [hq] at this; exact this)
          rw [hq] at HN hbd
          rw [Int.toNat_natCast] at HN hs
          have HS2 := Lib.hid (HN.out.symm.trans hs.out)
          obtain ⟨x, hx⟩ := get_ex hc.out (show j < k by omega)
          obtain ⟨y, hy⟩ := get_ex hc.out (show q < k by omega)
          rw [Int.toNat_natCast, swap_eq hx hy] at HS2
          have c1 := how.get hx
          have c2 := how.get hy
          have f1 := how.frozenAt j
          have f2 := how.frozenAt q
          have HW := Lib.hid ((how.set j y).set q x)
          have HLN : Hid (((c.set j y).set q x).length = k) := by show _ = _; rw [List.length_set, List.length_set]; exact hc.out
          clear HN hs hx hy hq
          have j1 : j < k := by omega
          have j2 : q < k := by omega
          by_cases hjq : q = j
          · subst hjq
            obtain rfl : x = y := by rw [c1] at c2; simpa using c2
            clear c2 f2
            go_wp2_with fail
            refine (HB.out _).mono ?_
            rintro e w' ⟨rfl, n1, rfl⟩
            go_wp2
            go_roundw
            case rel => exact ⟨_, _, _, rfl, rfl, Pd.nx_st dd, by omega, by omega, HLN, HS2, HW.out, b_set (b_set (below_drewN hb _) (Nat.le_refl _) _ _) (Nat.le_refl _) _ _⟩
            case measure => simp [intOf]; omega
          · have hjq' : ¬ j = q := fun h => hjq h.symm
            go_wp2_with fail
            refine (HB.out _).mono ?_
            rintro e w' ⟨rfl, n1, rfl⟩
            go_wp2
            go_roundw
            case rel => exact ⟨_, _, _, rfl, rfl, Pd.nx_st dd, by omega, by omega, HLN, HS2, HW.out, b_set (b_set (below_drewN hb _) (Nat.le_refl _) _ _) (Nat.le_refl _) _ _⟩
            case measure => simp [intOf]; omega
        · have hz : ii.toNat = 0 := by omega
          have hs' := hs.out
          rw [hz] at hs'
          subst hs'
          clear hz hs
          go_wp2
          go_ret2
          exact ⟨_, hc.out, rfl, how, hb⟩
end Go.Proofs.Ytnfppdlicodgpaa
