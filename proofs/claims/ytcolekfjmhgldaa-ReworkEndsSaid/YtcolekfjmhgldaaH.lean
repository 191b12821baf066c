/- The order of the operations. -/
import Derived.Test.YtcolekfjmhgldaaG
namespace Go.Proofs.Ytcolekfjmhgldaa
open Go.RowKit
open Pr (Opn)

theorem errFrom_zero {l : List Opn} {f i : Nat} (h : Pr.err1 l i = 0) : Pr.errFrom l (f + 1) i = Pr.errFrom l f (i + 1) := by rw [Pr.errFrom, if_pos h]
theorem errFrom_not {l : List Opn} {f i : Nat} (h : Pr.err1 l i ≠ 0) : Pr.errFrom l (f + 1) i = Pr.err1 l i := by rw [Pr.errFrom, if_neg h]
theorem errFrom_all {l : List Opn} : ∀ (f i : Nat), Pr.errFrom l f i = 0 → ∀ j, i ≤ j → j < i + f → Pr.err1 l j = 0
  | 0, i, _, j, h1, h2 => by omega
  | f + 1, i, h, j, h1, h2 => by
    by_cases h0 : Pr.err1 l i = 0
    · rw [errFrom_zero h0] at h
      by_cases e : j = i
      · subst e; exact h0
      · exact errFrom_all f (i + 1) h j (by omega) (by omega)
    · rw [errFrom_not h0] at h
      exact absurd h h0
theorem single_at {l : List Opn} (h : Pr.singleE l = 0) {j : Nat} (hj : j < l.length) : Pr.err1 l j = 0 := errFrom_all l.length 0 h j (Nat.zero_le _) (by omega)
theorem err1_zero {l : List Opn} {j : Nat} {o : Opn} (ho : l[j]? = some o) (h : Pr.err1 l j = 0) : o.after.all (Pr.inB l.length) = true ∧ o.after.Nodup := by
  rw [err1_at ho] at h
  split at h
  · omega
  · split at h
    · omega
    · split at h
      · omega
      · split at h
        · omega
        · rename_i h1
          split at h
          · rename_i h2
            exact ⟨by simpa using h1, h2⟩
          · omega
theorem fine_of {l : List Opn} (h : Pr.singleE l = 0) (hl : l.length ≤ 16) : Fine l := by
  have hat : ∀ o ∈ l, o.after.all (Pr.inB l.length) = true ∧ o.after.Nodup := fun o ho => by
    obtain ⟨j, hj, rfl⟩ := List.mem_iff_getElem.1 ho
    exact err1_zero (List.getElem?_eq_getElem hj) (single_at h hj)
  refine ⟨hl, fun o ho a ha => ?_, fun o ho => (hat o ho).2⟩
  have := List.all_eq_true.1 (hat o ho).1 a ha
  unfold Pr.inB at this
  simpa using this

/-- what the order returns -/
def OrdPost (w : World) (l : List Opn) (e : Ending) (w' : World) : Prop :=
  ∃ v, e = .returned (.tuple #[v, .int .i64 (Pr.ordE l)]) ∧ Oi w' w.heap.size v (Pr.ordL l) ∧ Below w.heap.size w w'
theorem OrdPost.bad {w w' : World} {l : List Opn} {n : Int} (hn : Pr.ordE l = n) (h0 : n ≠ 0) (hb : Below w.heap.size w w') : OrdPost w l (.returned (.tuple #[.slice none 0 0, .int .i64 n])) w' := by
  refine ⟨_, by rw [hn], ?_, hb⟩
  unfold Pr.ordL
  rw [hn, if_neg h0]
  exact World.ownsRow_nil _ _ _ _

theorem OrdPost.good {w w' : World} {l : List Opn} {v : Value} (hn : Pr.ordE l = 0) (hv : Oi w' w.heap.size v (Pr.srt l)) (hb : Below w.heap.size w w') : OrdPost w l (.returned (.tuple #[v, .int .i64 0])) w' := by
  refine ⟨_, by rw [hn], ?_, hb⟩
  unfold Pr.ordL
  rw [hn, if_pos rfl]
  exact hv

set_option maxHeartbeats 1000000 in
theorem checkList_any (A : Option Addr) (c : Nat) (l : List Opn) (w : World) (hl : So w w.heap.size A l) (hk : Oks l) (hc : l.length ≤ c) (hcm : c ≤ maxLen) :
    Calls Try.prog 27 #[.slice A l.length c, .int .i64 (-1)] w (OrdPost w l) := by
  have hlen := hk.len
  by_cases h16 : 16 < l.length
  · have HE : Hid (Pr.ordE l = 5) := by show _ = _; unfold Pr.ordE; rw [if_pos h16]
    have h16' : (16 : Int) < (l.length : Int) := by omega
    go_enter Try.func27, Try.ntmps27
    go_wp2
    go_ret2
    exact OrdPost.bad HE.out (by decide) (Below.refl _ _)
  · have HE : Hid (Pr.ordE l = if Pr.singleE l ≠ 0 then Pr.singleE l else if (Pr.srt l).length < l.length then 9 else 0) := by show _ = _; unfold Pr.ordE; rw [if_neg h16]
    have h16' : ¬ (16 : Int) < (l.length : Int) := by omega
    have HC := Lib.hid (fun (i : Nat) (W : World) (hW : So W W.heap.size A l) (hi : i < l.length) => checkOne_any A c l i W hW hk hi hc hcm)
    have HA := Lib.hid (fun (W : World) (hW : So W W.heap.size A l) (hs : Pr.singleE l = 0) => arrange_lay A c l W hW (fine_of hs (by omega)) hk)
    clear hc hcm
    go_enter Try.func27, Try.ntmps27
    go_wp2
    go_loopw [15] (fun s15 wr => ∃ k : Nat, k ≤ l.length ∧ s15 = .int .i64 k ∧ Hid (Pr.errFrom l (l.length - k) k = Pr.singleE l) ∧ Below w.heap.size w wr) (fun s15 _ => l.length - (intOf s15).toNat)
    case atStart => exact ⟨0, Nat.zero_le _, rfl, rfl, Below.refl _ _⟩
    case round =>
      obtain ⟨k, hk1, rfl, hS, hb⟩ := hrel
      by_cases hlt : k < l.length
      · obtain ⟨r, hr⟩ : ∃ r, l.length - k = r + 1 := ⟨l.length - k - 1, by omega⟩
        have HS := hS.out
        rw [hr] at HS
        have HC1 := Lib.hid (HC.out k wr (hl.to hb) hlt)
        by_cases he : Pr.err1 l k = 0
        · have HS2 : Hid (Pr.errFrom l (l.length - (k + 1)) (k + 1) = Pr.singleE l) := by show _ = _; rw [show l.length - (k + 1) = r by omega, ← errFrom_zero he, HS]
          rw [he] at HC1
          clear HS hS he
          go_wp2_with fail
          refine HC1.out.mono ?_
          rintro e w1 ⟨rfl, hb1⟩
          go_wp2
          go_roundw
          case rel => exact ⟨k + 1, by omega, by go_num, HS2, b_tr hb hb1⟩
          case measure => simp [intOf]; omega
        · rw [errFrom_not he] at HS
          have HN : Hid (Pr.err1 l k ≠ 0) := he
          have hne : (Pr.err1 l k == 0) = false := by simpa using he
          have HF : Hid (Pr.ordE l = Pr.err1 l k) := by show _ = _; rw [HE.out, ← HS, if_pos he]
          clear HS hS
          generalize Pr.err1 l k = E at *
          go_wp2_with fail
          refine HC1.out.mono ?_
          rintro e w1 ⟨rfl, hb1⟩
          go_wp2
          go_ret2
          exact OrdPost.bad HF.out HN.out (b_tr hb hb1)
      · obtain rfl : k = l.length := by omega
        have HS : Hid (Pr.singleE l = 0) := by show _ = _; rw [← hS.out, Nat.sub_self]; rfl
        have HA1 := Lib.hid (HA.out wr (hl.to hb) HS.out)
        clear hS hlt hk1
        go_wp2_with fail
        refine HA1.out.mono ?_
        rintro e w1 ⟨(⟨hn, rfl⟩ | ⟨hn, v, rfl, hv⟩), hb1⟩
        · have HF : Hid (Pr.ordE l = 9) := by show _ = _; rw [HE.out, if_neg (by rw [HS.out]; simp), if_pos hn]
          clear hn
          go_wp2
          go_ret2
          exact OrdPost.bad HF.out (by decide) (b_tr hb hb1)
        · have HF : Hid (Pr.ordE l = 0) := by show _ = _; rw [HE.out, if_neg (by rw [HS.out]; simp), if_neg (by omega)]
          clear hn
          have hv' := hv.base_le hb.size
          go_wp2
          go_ret2
          exact OrdPost.good HF.out hv' (b_tr hb hb1)

theorem order_any (A : Option Addr) (c : Nat) (l : List Opn) (w : World) (hl : So w w.heap.size A l) (hk : Oks l) (hc : l.length ≤ c) (hcm : c ≤ maxLen) :
    Calls Try.prog 31 #[.slice A l.length c] w (OrdPost w l) := by
  have HC := Lib.hid (checkList_any A c l w hl hk hc hcm)
  go_enter Try.func31, Try.ntmps31
  go_wp2_with fail
  refine HC.out.mono ?_
  rintro e w1 ⟨v, rfl, hv, hb⟩
  go_wp2
  go_ret2
  exact ⟨v, rfl, hv, hb⟩
end Go.Proofs.Ytcolekfjmhgldaa
