/- DrawsSubsets returns true for every state and all numbers: Sample returns k numbers below n, ascending, which are among the first elements of Shuffle, and its state. -/
import Derived.Test.YtnfppdlicodgpaaG
namespace Go.Proofs.Ytnfppdlicodgpaa.subsets
open Go.ChangeShapes Go.WideShapes Go.ChangeAt Go.RowKit Go.Deep
open Pd (St)

theorem mem_succ {l : List Int} {j : Nat} {y x : Int} (hj : l[j]? = some y) : decide (x ∈ l.take (j + 1)) = (decide (x ∈ l.take j) || (y == x)) := by
  obtain ⟨h1, h2⟩ := List.getElem?_eq_some_iff.1 hj
  subst h2
  rw [Bool.eq_iff_iff]
  simp only [decide_eq_true_eq, Bool.or_eq_true, beq_iff_eq]
  rw [mem_take_succ l j h1]
  constructor
  · rintro (h | h)
    · exact .inl h
    · exact .inr h.symm
  · rintro (h | h)
    · exact .inl h
    · exact .inr h.symm

theorem si_get {w : World} {B : Nat} {A : Option Addr} {l : List Int} (h : Si w B A l) {i : Nat} {x : Int} (hi : l[i]? = some x) : ∃ b off, A = some ⟨b, off, none⟩ ∧ b < B ∧ w.cell? ⟨b, off + i, none⟩ = some (.int .i64 x) := by
  obtain ⟨h1, h2⟩ := List.getElem?_eq_some_iff.1 hi
  subst h2
  exact h.at_ i h1
theorem si_get' {w : World} {B b off : Nat} {l : List Int} (h : Si w B (some ⟨b, off, none⟩) l) {i : Nat} {x : Int} (hi : l[i]? = some x) : w.cell? ⟨b, off + i, none⟩ = some (.int .i64 x) := by
  obtain ⟨b', off', he, _, hc⟩ := si_get h hi
  injection he with he
  injection he with e1 e2
  subst e1 e2
  exact hc

set_option maxHeartbeats 2000000 in
theorem walk_ok (d : Int) (m q : Nat) (w : World) (h : St d) (hqm : q ≤ m) (hm3 : m ≤ 300) :
    Calls Try.prog 10 #[.int .u64 d, .int .i64 (m : Int), .int .i64 (q : Int)] w fun e w' => e = .returned (.bool true) ∧ Below w.heap.size w w' := by
  have hlim : Pd.lim (m : Int) = m := by unfold Pd.lim; omega
  have hlen := Pd.shuffle_length d (m : Int)
  rw [hlim] at hlen
  have hfirst : Pd.first d (m : Int) (q : Int) = (Pd.shuffle d (m : Int)).2.take q := by
    unfold Pd.first
    rw [hlim]
    congr 1
    omega
  have hsub : ∀ x, x ∈ Pd.sample d (m : Int) (q : Int) → x ∈ (Pd.shuffle d (m : Int)).2.take q := fun x hx => by
    rw [← hfirst]; exact Pd.mem_sample.1 hx
  have hsl : (Pd.sample d (m : Int) (q : Int)).length = q := by
    rw [(Pd.sample_perm d (m : Int) (q : Int)).length_eq, hfirst, List.length_take]; omega
  have hsort := Pd.sample_sorted d (m : Int) (q : Int)
  have H1 := Lib.hid (sample_any d (m : Int) (q : Int) w h)
  have H2 := Lib.hid (fun W => shuffle_any d (m : Int) W h)
  clear hfirst hlim
  generalize (Pd.shuffle d (m : Int)).1 = d' at *
  generalize (Pd.shuffle d (m : Int)).2 = l2 at *
  generalize Pd.sample d (m : Int) (q : Int) = l at *
  have HL := Lib.hid hlen
  have HS := Lib.hid hsl
  have HM := Lib.hid hsub
  have HO := Lib.hid hsort
  clear hlen hsl hsub hsort
  go_enter Try.func10, Try.ntmps10
  go_wp2_with fail
  refine H1.out.mono ?_
  rintro e w1 ⟨A1, q', c1, hq', rfl, hs1, hb1⟩
  obtain rfl : q' = q := hq'.symm.trans HS.out
  clear hq' H1
  go_wp2_with fail
  refine (H2.out _).mono ?_
  rintro e w2 ⟨m', hm', rfl, how2, hb2⟩
  obtain rfl : m' = m := hm'.symm.trans HL.out
  clear hm' H2
  have hs2 := how2.si
  have hB2 := b_tr hb1 hb2
  replace hs1 := (hs1.below hb2).more hb2.size
  clear how2 hb1 hb2
  generalize w1.heap.size = g2 at *
  go_wp2
  go_loopw [11] (fun i wr => ∃ (k : Nat), k ≤ q' ∧ i = .int .i64 k ∧ Below w2.heap.size w2 wr) (fun i _ => q' - (intOf i).toNat)
  case atStart => exact ⟨0, Nat.zero_le _, rfl, Below.refl _ _⟩
  case round =>
    obtain ⟨k, hk, rfl, hbw⟩ := hrel
    by_cases hlt : k < q'
    · obtain ⟨x, hx⟩ := get_ex HS.out hlt
      obtain ⟨b, off, rfl, hbB, cx⟩ := si_get (hs1.below hbw) hx
      have HX := Lib.hid hx
      have HF : Hid (decide (x ∈ l2.take q') = true) := decide_eq_true (HM.out x (List.mem_of_getElem? hx))
      clear hx
      obtain ⟨wo, rfl⟩ : ∃ wo : World, wo = wr := ⟨_, rfl⟩
      go_wp2
      go_loopw [12, 13] (fun f j wr => ∃ (t : Nat) (bb : Bool), t ≤ q' ∧ j = .int .i64 t ∧ f = .bool bb ∧ Hid (decide (x ∈ l2.take t) = bb) ∧ Below w2.heap.size w2 wr) (fun _ j _ => q' - (intOf j).toNat)
      case atStart => exact ⟨0, false, Nat.zero_le _, rfl, rfl, by show _ = _; simp, hbw⟩
      case round =>
        obtain ⟨t, bb, ht, rfl, rfl, hbb, hbr⟩ := hrel
        have cx' := si_get' (hs1.below hbr) HX.out
        by_cases htl : t < q'
        · obtain ⟨y, hy⟩ := get_ex HL.out (show t < m' by omega)
          have cy := si_get' (hs2.below hbr) hy
          have HN := Lib.hid (mem_succ (x := x) hy)
          rw [Nat.zero_add] at cy
          have i1 : (0 : Int) ≤ (t : Int) := by omega
          have i2 : (t : Int) < (m' : Int) := by omega
          have i3 : (k : Int) < (q' : Int) := by omega
          have i4 : (0 : Int) ≤ (k : Int) := by omega
          have i5 : t < m' := by omega
          clear hy
          cases bb with
          | true =>
            go_wp2
            go_quiet (fail)
            go_wp2
            go_roundw
            case rel => exact ⟨t + 1, true, by omega, by go_num, rfl, by show _ = _; rw [HN.out, hbb.out]; rfl, below_drewN hbr _⟩
            case measure => simp [intOf]; omega
          | false =>
            cases hyx : (y == x) with
            | true =>
              have HY := Lib.hid hyx
              go_wp2
              go_quiet (fail)
              go_wp2
              go_roundw
              case rel => exact ⟨t + 1, true, by omega, by go_num, rfl, by show _ = _; rw [HN.out, hbb.out, HY.out]; rfl, below_drewN hbr _⟩
              case measure => simp [intOf]; omega
            | false =>
              have HY := Lib.hid hyx
              go_wp2
              go_quiet (fail)
              go_wp2
              go_roundw
              case rel => exact ⟨t + 1, false, by omega, by go_num, rfl, by show _ = _; rw [HN.out, hbb.out, HY.out]; rfl, below_drewN hbr _⟩
              case measure => simp [intOf]; omega
        · obtain rfl : t = q' := by omega
          obtain rfl : bb = true := hbb.out.symm.trans HF.out
          clear htl ht
          have i3 : (k : Int) < (t : Int) := by omega
          have i4 : (0 : Int) ≤ (k : Int) := by omega
          by_cases hk0 : 0 < k
          · obtain ⟨k', rfl⟩ : ∃ k', k = k' + 1 := ⟨k - 1, by omega⟩
            obtain ⟨z, hz⟩ := get_ex HS.out (show k' < t by omega)
            have cz := si_get' (hs1.below hbr) hz
            have hzx : z < x := by
              obtain ⟨e1, e2⟩ := List.getElem?_eq_some_iff.1 hz
              obtain ⟨e3, e4⟩ := List.getElem?_eq_some_iff.1 HX.out
              have := List.pairwise_iff_getElem.1 HO.out k' (k' + 1) e1 e3 (by omega)
              rw [e2, e4] at this
              exact this
            clear hz
            have u1 : IntKind.i64.wrap (k' : Int) = (k' : Int) := IntWalk.i64_in _ (by omega)
            have v1 : (0 : Int) ≤ (k' : Int) := by omega
            have v2 : (k' : Int) < (t : Int) := by omega
            have v3 : (0 : Int) < (k' : Int) + 1 := by omega
            go_wp2
            go_quiet (fail)
            go_wp2
            go_roundw
            case rel => exact ⟨k' + 1 + 1, by omega, by go_num, below_drewN hbr _⟩
            case measure => simp [intOf]; omega
          · obtain rfl : k = 0 := by omega
            go_wp2
            go_quiet (fail)
            go_wp2
            go_roundw
            case rel => exact ⟨0 + 1, by omega, by go_num, below_drewN hbr _⟩
            case measure => simp [intOf]; omega
    · go_wp2_with fail
      refine (awake_any _).mono ?_
      rintro e w3 ⟨rfl, hb3⟩
      go_wp2
      go_ret
      exact ⟨rfl, b_tr (b_tr hB2 hbw) hb3⟩

set_option maxHeartbeats 1000000 in
theorem walk (d n k : Int) (w : World) (wd : (Lit.int .u64 d).wf = true) (_wn : (Lit.int .i64 n).wf = true) (_wk : (Lit.int .i64 k).wf = true) :
    Calls Try.prog 10 #[.int .u64 d, .int .i64 n, .int .i64 k] w fun e w' => e = .returned (.bool true) ∧ Below w.heap.size w w' := by
  have h := st_of wd
  clear wd
  by_cases hc : 0 ≤ k ∧ k ≤ n ∧ n ≤ 300
  · obtain ⟨h1, h2, h3⟩ := hc
    obtain ⟨m, rfl⟩ := Int.eq_ofNat_of_zero_le (show 0 ≤ n by omega)
    obtain ⟨q, rfl⟩ := Int.eq_ofNat_of_zero_le h1
    exact walk_ok d m q w h (by omega) (by omega)
  · by_cases h1 : k < 0
    · clear hc
      go_enter Try.func10, Try.ntmps10
      go_wp2_with fail
      refine (awake_any _).mono ?_
      rintro e w2 ⟨rfl, hb⟩
      go_wp2
      go_ret
      exact ⟨rfl, hb⟩
    · by_cases h2 : n < k
      · clear hc
        go_enter Try.func10, Try.ntmps10
        go_wp2_with fail
        refine (awake_any _).mono ?_
        rintro e w2 ⟨rfl, hb⟩
        go_wp2
        go_ret
        exact ⟨rfl, hb⟩
      · have h3 : 300 < n := by omega
        clear hc
        go_enter Try.func10, Try.ntmps10
        go_wp2_with fail
        refine (awake_any _).mono ?_
        rintro e w2 ⟨rfl, hb⟩
        go_wp2
        go_ret
        exact ⟨rfl, hb⟩

set_option maxRecDepth 100000 in
theorem lifted (os : Os) (started : os.Started) (H : Type) (enc : TypeId × Value → H) :
    ReturnsInHanded {} Try.checked os 10 .any (Rows.drawsSubsetsSpec.pre6 enc Try.prog Try.f10 Rows.drawsSubsetsRow.domain false) (Rows.drawsSubsetsSpec.post enc Try.prog Try.f10 false true false false) := by
  refine returnsInHanded_of_change (C := Try.checked) own started (by kernel_rfl) Try.func10
    (ChangeSpec.witness6 (enc := enc) (C := Try.checked) false ⟨#[], #[.int .u64 0, .int .i64 0, .int .i64 0], []⟩ 8 (by kernel_rfl) (by kernel_rfl) (by kernel_rfl) (by kernel_rfl)) ?_
  intro W base args ds gs before hval0 hW hcnd _
  have hval : ∀ (j : Nat) t v, Try.f10.params[j]? = some t → args[j]? = some v → Value.okWide Try.prog W .any base t v := hval0
  have hW' := hW
  obtain ⟨p, q, hA0, hV, rfl, hfz, hnd⟩ := hW
  have hA : DataW.TrodAll enc Try.prog W 0 (fun _ => true) true Try.f10.params.toList args.toList ds p := hA0
  rw [Try.params10] at hA hval
  obtain ⟨v0, vs0, d0, ds0, p0, qq0, hargs, rfl, rfl, h0, r0⟩ := trodAll_cons hA
  obtain ⟨v1, vs1, d1, ds1, p1, qq1, rfl, rfl, rfl, h1, r1⟩ := trodAll_cons r0
  obtain ⟨v2, vs2, d2, ds2, p2, qq2, rfl, rfl, rfl, h2, r2⟩ := trodAll_cons r1
  obtain ⟨rfl, rfl, rfl⟩ := trodAll_nil r2
  obtain rfl : args = #[v0, v1, v2] := by cases args; simp_all
  obtain ⟨rfl, rfl⟩ := trodVars_none hV
  obtain ⟨a0, rfl, rfl, rfl, w0⟩ := open_int Try.underlying23 (hval 0 23 v0 rfl rfl) h0
  obtain ⟨a1, rfl, rfl, rfl, w1⟩ := open_int Try.underlying3 (hval 1 3 v1 rfl rfl) h1
  obtain ⟨a2, rfl, rfl, rfl, w2⟩ := open_int Try.underlying3 (hval 2 3 v2 rfl rfl) h2
  clear hA0 hval0
  refine (walk a0 a1 a2 W w0 w1 w2).mono fun e W' ⟨he, bel⟩ => ?_
  subst he
  exact ⟨_, rfl, _, _, _, [], _, [], hW', trodAll_mk1 (shut_bool Try.underlying4 _), (trodAll_cons_mk (shut_int Try.underlying23 w0) (trodAll_cons_mk (shut_int Try.underlying3 w1) (trodAll_cons_mk (shut_int Try.underlying3 w2) trodAll_mk0))), rfl, bel.frame _, fun h => by cases h⟩

theorem over : Rows.drawsSubsetsRow.holds Try.pinned (OpenSpec.ofChange Rows.drawsSubsetsSpec) :=
  OpenClaim.holds_of_wide 10 Try.f10 rfl rfl rfl rfl rfl rfl rfl ⟨rfl, rfl, rfl, rfl, rfl⟩ rfl rfl rfl rfl rfl (by kernel_rfl) Try.func10 (by kernel_rfl)
    (of_decide_eq_true (by kernel_rfl)) (by unfold Func.isWrapper; first | (rw [if_pos (by decide +kernel)]; kernel_rfl) | (rw [if_neg (by decide +kernel)]; exact ⟨rfl, rfl⟩))
    (fun os started H enc _ => lifted os started H enc)

theorem proved : Rows.DrawsSubsetsSaid := over
#print axioms proved
end Go.Proofs.Ytnfppdlicodgpaa.subsets
