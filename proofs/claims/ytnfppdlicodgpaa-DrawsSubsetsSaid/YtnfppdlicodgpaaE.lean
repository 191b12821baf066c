/- Append to a slice of ints of the call's own; Sample of the program and of the reference. -/
import Derived.Test.YtnfppdlicodgpaaD
import Derived.Maps.AppendAt
import Derived.Deep.AppendLies
import Derived.Lib.SliceRun
namespace Go.Proofs.Ytnfppdlicodgpaa
open Go.RowKit
open Pd (St)

theorem ints_one (l : List Int) : ∀ u ∈ l.map (Value.int .i64), u.oneCell' = true := by
  intro u hu
  obtain ⟨x, _, rfl⟩ := List.mem_map.1 hu
  rfl

theorem run_append_of_nil (w : World) (base : Nat) (ty : TypeId) (v : Value) (l : List Int) (hown : Oi w base v l) (c : Nat) : (Builtin.append_ #[29, 29] ty #[v, .slice none 0 c]).run Try.prog w = .ok v w := by
  obtain ⟨i0, hi0, hz0, hz1, hz2⟩ := info_parts int_info
  rcases hown.2 with ⟨rfl, _⟩ | ⟨g, cap, cur, rfl, _, _, hnc, _⟩
  · simp [Builtin.append_, run_underlying Try.underlying29, sizeOf, typeInfo, hi0, Builtin.lenOf, Builtin.firstCells]
  · simp [Builtin.append_, run_underlying Try.underlying29, sizeOf, typeInfo, hi0, Builtin.lenOf, Builtin.firstCells, hnc, storeCells]

theorem run_append_ints (w : World) (base : Nat) (ty : TypeId) (v : Value) (l1 : List Int) (hown : Oi w base v l1) (B : Nat) (A : Option Addr) (l2 : List Int) (c : Nat) (hs : Si w B A l2)
    (hlen : l1.length + l2.length ≤ 65536) (hbase : base ≤ w.heap.size) :
    ∃ v' w', (Builtin.append_ #[29, 29] ty #[v, .slice A l2.length c]).run Try.prog w = .ok v' w' ∧ Oi w' base v' (l1 ++ l2) ∧ w.grownBy w' v.ownBlock ∧ (v'.ownBlock = v.ownBlock ∨ v'.ownBlock = some w.heap.size) := by
  obtain ⟨i0, hi0, hz0, hz1, hz2⟩ := info_parts int_info
  rcases A with _ | ad
  · have h0 : l2 = [] := by
      rcases hs with h | ⟨b, off, h, _⟩
      · exact h
      · cases h
    subst h0
    exact ⟨v, w, run_append_of_nil w base ty v l1 hown c, by rw [List.append_nil]; exact hown, World.grownBy.refl w _, .inl rfl⟩
  · have hcells : ∀ j u, (l2.map (Value.int .i64))[j]? = some u → w.cell? (ad.add j) = some u := by
      intro j u hu
      rw [List.getElem?_map] at hu
      cases hx : l2[j]? with
      | none => rw [hx] at hu; simp at hu
      | some x =>
        rw [hx] at hu
        simp at hu
        subst hu
        rcases hs with h | ⟨b, off, e, _, hc⟩
        · subst h; simp at hx
        · injection e with e
          subst e
          have e2 : (⟨b, off, none⟩ : Addr).add j = ⟨b, off + j, none⟩ := by unfold Addr.add; split <;> simp_all
          rw [e2]
          exact hc j x hx
    obtain ⟨v', w', hrun, h2, h3, _, h5⟩ := run_append_own_at (P := Try.prog) w base 29 ty 3 i0 (.int .i64 0) 1 8 Try.underlying29 hi0 hz0 hz1 hz2 rfl (by omega) v l1.length (l1.map (Value.int .i64)) hown ad l2.length c (l2.map (Value.int .i64)) (by simp) hcells (ints_one l2) (by unfold maxLen; omega) (by omega) hbase
    refine ⟨v', w', hrun, ?_, h3, h5⟩
    unfold Oi
    rw [List.map_append, List.length_append]
    exact h2

theorem wp_append_ints {o : Oper} {a : Act} {K : Act → World → Prop} {Q : Exit → Act → World → Prop} (w : World) (s x : Operand)
    (ho : o.op = .call { callee := .builtin .append, args := #[s, x], argTypes := #[29, 29] })
    (base : Nat) (v : Value) (l1 : List Int) (hv : a.eval s = v) (hown : Oi w base v l1) (B : Nat) (A : Option Addr) (l2 : List Int) (n c : Nat) (hx : a.eval x = .slice A n c) (hn : n = l2.length) (hs : Si w B A l2)
    (hlen : l1.length + l2.length ≤ 65536) (hbase : base ≤ w.heap.size)
    (h : ∀ v' w', Oi w' base v' (l1 ++ l2) → w.grownBy w' v.ownBlock → (v'.ownBlock = v.ownBlock ∨ v'.ownBlock = some w.heap.size) → K (a.put o.dst v') w') : o.wp Try.prog a w K Q := by
  subst hn
  obtain ⟨v', w', hrun, h2, h3, h4⟩ := run_append_ints w base o.type v l1 hown B A l2 c hs hlen hbase
  unfold Oper.wp execOp
  simp only [ho, resolve, invoke, builtin, Sem.run_bind, Sem.run_pure, Result.andThen_ok, List.map_toArray, List.map_cons, List.map_nil, hv, hx, hrun]
  exact h v' w' h2 h3 h4

theorem wpList_append_ints {ops : Array Oper} {rest : List Oper} {o : Oper} {a : Act} {Q : Exit → Act → World → Prop} (w : World) (hgd : o.guard = none) (s x : Operand)
    (ho : o.op = .call { callee := .builtin .append, args := #[s, x], argTypes := #[29, 29] })
    (base : Nat) (v : Value) (l1 : List Int) (hv : a.eval s = v) (hown : Oi w base v l1) (B : Nat) (A : Option Addr) (l2 : List Int) (n c : Nat) (hx : a.eval x = .slice A n c) (hn : n = l2.length) (hs : Si w B A l2)
    (hlen : l1.length + l2.length ≤ 65536) (hbase : base ≤ w.heap.size)
    (h : ∀ v' w', Oi w' base v' (l1 ++ l2) → w.grownBy w' v.ownBlock → (v'.ownBlock = v.ownBlock ∨ v'.ownBlock = some w.heap.size) → wpList Try.prog ops Q rest (a.put o.dst v') w') : wpList Try.prog ops Q (o :: rest) a w :=
  wpList_plain hgd fun _ hK => wp_append_ints w s x ho base v l1 hv hown B A l2 n c hx hn hs hlen hbase fun v' w' h2 h3 h4 => hK _ _ (h v' w' h2 h3 h4)

theorem b_app {w0 w w' : World} {v : Value} {l : List Int} (hb : Below w0.heap.size w0 w) (how : Oi w w0.heap.size v l) (hg : w.grownBy w' v.ownBlock) : Below w0.heap.size w0 w' :=
  hb.trans ((Below.refl _ _).grown hg hb.size (fun k hk => (World.ownsRow.lt how k hk).1))
theorem one_cell (w : World) (x : Int) : Si (w.alloc (.cells #[.int .i64 x] 3)) (w.heap.size + 1) (some ⟨w.heap.size, 0, none⟩) [x] :=
  .inr ⟨w.heap.size, 0, rfl, by omega, fun i y hi => by
    match i, hi with
    | 0, hi => simp at hi; subst hi; simp⟩

/-! Sample. -/
def FreshS (w : World) (d : Int) (l : List Int) (e : Ending) (w' : World) : Prop := ∃ A m c, l.length = m ∧ e = .returned (.tuple #[.int .u64 d, .slice A m c]) ∧ Si w' w'.heap.size A l ∧ Below w.heap.size w w'

theorem sample_srt (d n k : Int) : srt (Pd.first d n k) = Pd.sample d n k := by
  refine List.Perm.eq_of_pairwise (le := fun a b : Int => a ≤ b) (fun a b _ _ h1 h2 => by omega) ?_ ((Pd.sample_sorted d n k).imp fun h => by omega) ((List.mergeSort_perm _ _).trans (Pd.sample_perm d n k).symm)
  have h := List.pairwise_mergeSort (le := fun x y : Int => decide (x ≤ y)) (fun a b c h1 h2 => by simp at *; omega) (fun a b => by simp; omega) (Pd.first d n k)
  exact h.imp fun h => by simpa using h

set_option maxHeartbeats 1000000 in
theorem sample_any (d n k : Int) (w : World) (h : St d) : Calls Try.prog 20 #[.int .u64 d, .int .i64 n, .int .i64 k] w (FreshS w (Pd.shuffle d n).1 (Pd.sample d n k)) := by
  rw [← sample_srt]
  have HS := Lib.hid (shuffle_any d n w h)
  have hlen := Pd.shuffle_length d n
  have hl := Pd.lim_le n
  unfold Pd.first
  have hq : (min (max k 0) (Pd.lim n : Int)).toNat ≤ Pd.lim n := by omega
  generalize hqe : (min (max k 0) (Pd.lim n : Int)).toNat = q at *
  generalize Pd.lim n = m at *
  have HQE := Lib.hid hqe
  clear hqe
  generalize (Pd.shuffle d n).1 = d' at *
  generalize (Pd.shuffle d n).2 = l at *
  have hlq : (srt (l.take q)).length = q := by rw [srt_length, List.length_take]; omega
  have HQ := Lib.hid hlq
  have HL := Lib.hid hlen
  have hlm : l.length ≤ 65536 := by omega
  have hql : q ≤ l.length := by omega
  have j1 : (q : Int) ≤ (m : Int) := by omega
  clear hlen hlq
  go_enter Try.func20, Try.ntmps20
  go_wp2_with fail
  refine HS.out.mono ?_
  rintro e w1 ⟨m', hm', rfl, how, hb1⟩
  obtain rfl : m' = m := hm'.symm.trans HL.out
  clear hm'
  go_wp2_with fail
  rw [HQE.out]
  refine (sort_take w.heap.size _ _ w.heap.size _ q l w1 how hql hlm hb1.size).mono ?_
  rintro e w2 ⟨rfl, hsi, hb2⟩
  go_wp2
  go_ret2
  exact ⟨_, _, _, HQ.out, rfl, hsi, hb1.trans hb2⟩

/-- what the reference has collected below j -/
def got (q : Nat) (l : List Int) (j : Nat) : List Int := (Pd.ids j).filter fun x => decide (x ∈ l.take q)
theorem got_succ (q : Nat) (l : List Int) (j : Nat) : got q l (j + 1) = got q l j ++ if (j : Int) ∈ l.take q then [(j : Int)] else [] := by
  unfold got Pd.ids
  rw [List.range_succ, List.map_append, List.filter_append]
  congr 1
  by_cases h : (j : Int) ∈ l.take q <;> simp [h]
theorem got_length (q : Nat) (l : List Int) (j : Nat) : (got q l j).length ≤ j := by
  unfold got
  have := List.length_filter_le (fun x => decide (x ∈ l.take q)) (Pd.ids j)
  rw [Pd.ids_length] at this
  exact this

set_option maxHeartbeats 1000000 in
theorem rsample_any (d n k : Int) (w : World) (h : St d) : Calls Try.prog 21 #[.int .u64 d, .int .i64 n, .int .i64 k] w (FreshS w (Pd.shuffle d n).1 (Pd.sample d n k)) := by
  have HS := Lib.hid (rshuffle_any d n w h)
  have hlen := Pd.shuffle_length d n
  have hl := Pd.lim_le n
  have HM := Lib.hid (fun W => by have := limited_any k (Pd.lim n : Int) W; rw [show max 0 (min k (Pd.lim n : Int)) = (((min (max k 0) (Pd.lim n : Int)).toNat : Nat) : Int) by omega] at this; exact this)
  have hR : Hid (got (min (max k 0) (Pd.lim n : Int)).toNat (Pd.shuffle d n).2 (Pd.lim n) = Pd.sample d n k) := rfl
  have hq : (min (max k 0) (Pd.lim n : Int)).toNat ≤ Pd.lim n := by omega
  generalize Pd.sample d n k = R at *
  generalize (min (max k 0) (Pd.lim n : Int)).toNat = q at *
  generalize Pd.lim n = m at *
  generalize (Pd.shuffle d n).1 = d' at *
  generalize (Pd.shuffle d n).2 = l at *
  have htq : (l.take q).length = q := by rw [List.length_take]; omega
  have HTQ := Lib.hid htq
  have HL := Lib.hid hlen
  have hlm : l.length ≤ 65536 := by omega
  have hql : q ≤ l.length := by omega
  have j1 : (q : Int) ≤ (m : Int) := by omega
  clear hlen htq
  go_enter Try.func21, Try.ntmps21
  go_wp2_with fail
  refine HS.out.mono ?_
  rintro e w1 ⟨m', hm', rfl, how, hb1⟩
  obtain rfl : m' = m := hm'.symm.trans HL.out
  clear hm' HS
  go_wp2_with fail
  refine (HM.out _).mono ?_
  rintro e w' ⟨rfl, rfl⟩
  clear HM
  obtain ⟨Al, cl, hAl, _, _, hsi, _⟩ := how.shape
  injection hAl with hA1 hA2 hA3
  clear hA2 hA3
  subst hA1
  have hsl := hsi.take q
  clear hsi
  go_wp2
  go_loopw [10, 11] (fun v i wr => ∃ (j : Nat), j ≤ m' ∧ i = .int .i64 j ∧ Oi wr w1.heap.size v (got q l j) ∧ Below w1.heap.size w1 wr) (fun _ i _ => m' - (intOf i).toNat)
  case atStart => exact ⟨0, Nat.zero_le _, rfl, World.ownsRow_nil _ _ _ _, Below.refl _ _⟩
  case round =>
    obtain ⟨j, hj, rfl, hov, hbw⟩ := hrel
    by_cases hlt : j < m'
    · have hgs := got_succ q l j
      have hgl := got_length q l j
      have HA := Lib.hid (fun W (hW : Si W W.heap.size (some ⟨w.heap.size, 0, none⟩) (l.take q)) => by have := among_any _ m' (l.take q) (j : Int) W hW (by rw [HTQ.out]; omega); rw [HTQ.out] at this; exact this)
      have hsw := (hsl.below hbw).more hbw.size
      by_cases hm : (j : Int) ∈ l.take q
      · rw [if_pos hm] at hgs
        rw [decide_eq_true hm] at HA
        have HG := Lib.hid hgs
        clear hgs hm
        generalize got q l j = G at *
        obtain ⟨Av, cv, rfl, _, _, _, _⟩ := hov.shape
        go_wp2_with fail
        refine (HA.out _ hsw).mono ?_
        rintro e w' ⟨rfl, rfl⟩
        go_wp2_with (at_builtin; refine wpList_append_ints _ rfl _ _ rfl w1.heap.size _ G rfl (hov.alloc _) (wr.heap.size + 1) _ [(j : Int)] _ 1 rfl rfl (one_cell wr (j : Int)) (by simp; omega) (by have := hbw.size; simp; omega) ?_; intro v1 w2 hown1 hg1 hat1)
        have hb2 := b_app (b_al hbw (.cells #[.int .i64 (j : Int)] 3)) (hov.alloc _) hg1
        go_roundw
        case rel => exact ⟨j + 1, by omega, by go_num, by rw [HG.out]; exact hown1, hb2⟩
        case measure => simp [intOf]; omega
      · rw [if_neg hm, List.append_nil] at hgs
        rw [decide_eq_false hm] at HA
        have HG := Lib.hid hgs
        clear hgs hm
        generalize got q l j = G at *
        obtain ⟨Av, cv, rfl, _, _, _, _⟩ := hov.shape
        go_wp2_with fail
        refine (HA.out _ hsw).mono ?_
        rintro e w' ⟨rfl, rfl⟩
        go_wp2
        go_roundw
        case rel => exact ⟨j + 1, by omega, by go_num, by rw [HG.out]; exact hov, hbw⟩
        case measure => simp [intOf]; omega
    · obtain rfl : j = m' := by omega
      obtain ⟨Av, cv, rfl, _, _, hsv, _⟩ := hov.shape
      rw [hR.out] at hsv ⊢
      go_wp2
      go_ret2
      exact ⟨_, _, _, rfl, rfl, hsv, b_tr hb1 hbw⟩
end Go.Proofs.Ytnfppdlicodgpaa
