/- Run, Times, and the small functions of the laws. -/
import Derived.Test.YtcolekfjmhgldaaU
namespace Go.Proofs.Ytcolekfjmhgldaa
open Go.RowKit
open Pr (Opn Prg Res)

theorem run_any (A : Option Addr) (c : Nat) (l : List Opn) (eA : Option Addr) (ec : Nat) (es : List (Int × Int)) (most : Int) (w : World) (hl : So w w.heap.size A l) (hk : Oks l) (hc : l.length ≤ c) (hcm : c ≤ maxLen) (hes : Se w w.heap.size eA es) (hel : es.length ≤ 1000) :
    Calls Try.prog 12 #[.slice A l.length c, .slice eA es.length ec, .int .i64 most] w (RunPost w (Pr.runR l es most)) := by
  have hb0 := b_new w (.cells #[.int .i64 0, .slice none 0 0, .slice none 0 0, .int .i64 0] 29)
  have hz0 := Z4.new w
  have HF := Lib.hid (follow_any A c l eA ec es most _ (hl.to hb0) hk hc hcm (hes.to hb0) hel)
  have hsz0 := hz0.gl
  generalize Pr.runR l es most = R at *
  go_enter Try.func12, Try.ntmps12
  go_wp2_with fail
  generalize w.alloc (.cells #[.int .i64 0, .slice none 0 0, .slice none 0 0, .int .i64 0] 29) = W0 at *
  refine HF.out.mono ?_
  rintro e w1 ⟨dv, ov, rfl, hd, ho, hb⟩
  obtain ⟨r0, r1, r2, r3, rf, rl⟩ := hz0.below hb
  have HD := Lib.hid hd
  have HO := Lib.hid ho
  obtain ⟨dA, dc, rfl, _, _, _, _⟩ := hd.shape
  obtain ⟨oA, oc, rfl, _, _, _, _⟩ := ho.shape
  have hbX := b_tr hb0 hb
  clear hd ho
  go_wp2
  refine bodyPost_ret (v := .tuple #[.agg #[.int .i64 R.prg.state, .slice dA R.prg.done.length dc, .slice oA R.prg.opn.length oc, .int .i64 R.prg.rework], .int .i64 R.err, .int .i64 R.idx]) (by simp [results, Try.results12, go_sem, r0, r1, r2, r3]) rfl ?_
  exact ⟨_, _, rfl, (((((HD.out.setOther hsz0 _ _).setOther hsz0 _ _).setOther hsz0 _ _).setOther hsz0 _ _)).base_le (by omega), (((((HO.out.setOther hsz0 _ _).setOther hsz0 _ _).setOther hsz0 _ _).setOther hsz0 _ _)).base_le (by omega), b_set (b_set (b_set (b_set hbX (Nat.le_refl _) _ _) (Nat.le_refl _) _ _) (Nat.le_refl _) _ _) (Nat.le_refl _) _ _⟩

/-- what Times returns -/
def TimesPost (w : World) (r : Res) (e : Ending) (w' : World) : Prop :=
  ∃ dv, e = .returned (.tuple #[dv, .int .i64 r.err]) ∧ Oi w' w.heap.size dv r.prg.done ∧ Below w.heap.size w w'
theorem times_any (A : Option Addr) (c : Nat) (l : List Opn) (eA : Option Addr) (ec : Nat) (es : List (Int × Int)) (most : Int) (w : World) (hl : So w w.heap.size A l) (hk : Oks l) (hc : l.length ≤ c) (hcm : c ≤ maxLen) (hes : Se w w.heap.size eA es) (hel : es.length ≤ 1000) :
    Calls Try.prog 22 #[.slice A l.length c, .slice eA es.length ec, .int .i64 most] w (TimesPost w (Pr.runR l es most)) := by
  have HF := Lib.hid (follow_any A c l eA ec es most _ hl hk hc hcm hes hel)
  generalize Pr.runR l es most = R at *
  go_enter Try.func22, Try.ntmps22
  go_wp2_with fail
  refine HF.out.mono ?_
  rintro e w1 ⟨dv, ov, rfl, hd, ho, hb⟩
  have HD := Lib.hid hd
  obtain ⟨dA, dc, rfl, _, _, _, _⟩ := hd.shape
  obtain ⟨oA, oc, rfl, _, _, _, _⟩ := ho.shape
  clear hd ho
  go_wp2
  go_ret2
  exact ⟨_, rfl, HD.out.alloc _, b_al hb _⟩

def okB (o : Opn) : Bool := decide (o.after.length ≤ 20) && decide (o.uses ≤ 20) && decide (o.name.size ≤ 100)
def lightB (l : List Opn) : Bool := (l.take 20).all okB && decide (l.length ≤ 20)
theorem okall_succ {l : List Opn} {k : Nat} {x : Opn} (hk : l[k]? = some x) : (l.take (k + 1)).all okB = ((l.take k).all okB && okB x) := by
  rw [List.take_add_one, hk]
  simp
theorem okall_bad {l : List Opn} {k : Nat} {x : Opn} (hk : l[k]? = some x) (h : okB x = false) (h20 : k < 20) : lightB l = false := by
  unfold lightB
  have : (l.take 20).all okB = false := by
    rw [List.all_eq_false]
    refine ⟨x, ?_, by simp [h]⟩
    rw [List.mem_iff_getElem?]
    exact ⟨k, by rw [List.getElem?_take_of_lt h20]; exact hk⟩
  rw [this]
  rfl
theorem len_str (s : ByteArray) : s.size = s.data.size := rfl

set_option maxRecDepth 100000 in
set_option maxHeartbeats 1000000 in
theorem light_any (A : Option Addr) (c : Nat) (l : List Opn) (w : World) (hl : So w w.heap.size A l) (hm : l.length ≤ maxLen) :
    Calls Try.prog 14 #[.slice A l.length c] w fun e w' => e = .returned (.bool (lightB l)) ∧ w' = w := by
  have h27 := cells27
  unfold maxLen at hm
  go_enter Try.func14, Try.ntmps14
  go_wp2
  go_loopw [3] (fun s3 wr => ∃ k : Nat, k ≤ l.length ∧ k ≤ 20 ∧ s3 = .int .i64 k ∧ Hid ((l.take k).all okB = true) ∧ w = wr) (fun s3 _ => 20 - (intOf s3).toNat)
  case atStart => exact ⟨0, Nat.zero_le _, by omega, rfl, rfl, rfl⟩
  case round =>
    obtain ⟨k, hk1, hk2, rfl, hA, hw⟩ := hrel
    subst hw
    by_cases h1 : k < l.length
    · have h1' : (k : Int) < (l.length : Int) := by omega
      by_cases h2 : k < 20
      · have h2' : (k : Int) < 20 := by omega
        obtain ⟨o, hoi⟩ : ∃ o, l[k]? = some o := ⟨_, List.getElem?_eq_getElem h1⟩
        obtain ⟨b, off, aA, aC, uA, uC, rfl, hbB, ⟨p0, p1, p2, p3, p4⟩, hsa⟩ := hl.get hoi
        have HB := Lib.hid (fun h => okall_bad hoi h h2)
        have HS := Lib.hid (okall_succ hoi)
        have HK : Hid (okB o = (decide (o.after.length ≤ 20) && decide (o.uses ≤ 20) && decide (o.name.size ≤ 100))) := rfl
        clear hoi hsa
        by_cases g1 : (20 : Int) < (o.after.length : Int)
        · have HF : Hid (lightB l = false) := HB.out (by rw [HK.out, decide_eq_false (show ¬ o.after.length ≤ 20 by omega)]; rfl)
          go_wp2
          go_ret
          exact ⟨ret_bool HF.out.symm, rfl⟩
        by_cases g2 : (20 : Int) < (o.uses : Int)
        · have HF : Hid (lightB l = false) := HB.out (by rw [HK.out, decide_eq_false (show ¬ o.uses ≤ 20 by omega)]; simp)
          go_wp2
          go_ret
          exact ⟨ret_bool HF.out.symm, rfl⟩
        by_cases g3 : (100 : Int) < (o.name.size : Int)
        · have HF : Hid (lightB l = false) := HB.out (by rw [HK.out, decide_eq_false (show ¬ o.name.size ≤ 100 by omega)]; simp)
          go_wp2
          go_ret
          exact ⟨ret_bool HF.out.symm, rfl⟩
        have HN : Hid ((l.take (k + 1)).all okB = true) := by
          show _ = _
          rw [HS.out, hA.out, HK.out, decide_eq_true (show o.after.length ≤ 20 by omega), decide_eq_true (show o.uses ≤ 20 by omega), decide_eq_true (show o.name.size ≤ 100 by omega)]
          rfl
        clear HB HS HK
        go_wp2
        go_roundw
        case rel => exact ⟨k + 1, by omega, by omega, by go_num, HN, trivial⟩
        case measure => simp [intOf]; omega
      · have h2' : ¬ (k : Int) < 20 := by omega
        have HF : Hid (lightB l = decide ((l.length : Int) ≤ 20)) := by
          show _ = _
          obtain rfl : k = 20 := by omega
          unfold lightB
          rw [hA.out, Bool.true_and]
          congr 1
          exact propext ⟨fun h => by omega, fun h => by omega⟩
        go_wp2
        go_ret
        exact ⟨ret_bool HF.out.symm, rfl⟩
    · have h1' : ¬ (k : Int) < (l.length : Int) := by omega
      have HF : Hid (lightB l = decide ((l.length : Int) ≤ 20)) := by
        show _ = _
        obtain rfl : k = l.length := by omega
        have := hA.out
        rw [List.take_length] at this
        unfold lightB
        rw [List.take_of_length_le (by omega), this, Bool.true_and]
        congr 1
        exact propext ⟨fun h => by omega, fun h => by omega⟩
      go_wp2
      go_ret
      exact ⟨ret_bool HF.out.symm, rfl⟩
theorem light_oks {l : List Opn} (h : lightB l = true) (hw : ∀ o ∈ l, ∀ a ∈ o.after, Wf a) : Oks l ∧ l.length ≤ 20 ∧ ∀ o ∈ l, o.after.length ≤ 20 := by
  unfold lightB at h
  rw [Bool.and_eq_true, decide_eq_true_eq] at h
  obtain ⟨h1, h2⟩ := h
  rw [List.take_of_length_le h2, List.all_eq_true] at h1
  have h3 : ∀ o ∈ l, o.after.length ≤ 20 ∧ o.name.size ≤ 100 := fun o ho => by
    have := h1 o ho
    unfold okB at this
    simp only [Bool.and_eq_true, decide_eq_true_eq] at this
    exact ⟨this.1.1, this.2⟩
  exact ⟨⟨by omega, fun o ho => by have := (h3 o ho).2; unfold maxLen; omega, hw, fun o ho => by have := (h3 o ho).1; omega⟩, h2, fun o ho => (h3 o ho).1⟩
end Go.Proofs.Ytcolekfjmhgldaa
