/- Same, last, two. -/
import Derived.Test.YtcolekfjmhgldaaV
namespace Go.Proofs.Ytcolekfjmhgldaa
open Go.RowKit
open Pr (Opn Prg Res)

theorem ints_b (A B : Option Addr) (c d : Nat) (l : List Int) (w : World) (ha : Si w w.heap.size A l) (hb : Si w w.heap.size B l) (hn : l.length ≤ 65536) :
    Calls Try.prog 43 #[.slice A l.length c, .slice B l.length d] w fun e w' => e = .returned (.bool true) ∧ Below w.heap.size w w' := by
  refine (ints_yes A B c d l w ha hb hn).mono ?_
  rintro e w' ⟨rfl, n, rfl⟩
  exact ⟨rfl, below_drewN (Below.refl _ _) n⟩
theorem sameInts_b (A B : Option Addr) (c d : Nat) (l : List Int) (w : World) (ha : Si w w.heap.size A l) (hb : Si w w.heap.size B l) (hn : l.length ≤ 65536) :
    Calls Try.prog 24 #[.slice A l.length c, .slice B l.length d] w fun e w' => e = .returned (.bool true) ∧ Below w.heap.size w w' := by
  refine (sameInts_yes A B c d l w ha hb hn).mono ?_
  rintro e w' ⟨rfl, n, rfl⟩
  exact ⟨rfl, below_drewN (Below.refl _ _) n⟩

set_option maxHeartbeats 1000000 in
theorem same_yes (dA oA dB oB : Option Addr) (dc oc dd od : Nat) (p : Prg) (w : World) (h1 : Si w w.heap.size dA p.done) (h2 : Si w w.heap.size oA p.opn) (h3 : Si w w.heap.size dB p.done) (h4 : Si w w.heap.size oB p.opn) (hn1 : p.done.length ≤ 65536) (hn2 : p.opn.length ≤ 65536) :
    Calls Try.prog 20 #[.agg #[.int .i64 p.state, .slice dA p.done.length dc, .slice oA p.opn.length oc, .int .i64 p.rework], .agg #[.int .i64 p.state, .slice dB p.done.length dd, .slice oB p.opn.length od, .int .i64 p.rework]] w fun e w' => e = .returned (.bool true) ∧ Below w.heap.size w w' := by
  have hb0 := b_al (b_new w (.cells #[.int .i64 p.state, .slice dA p.done.length dc, .slice oA p.opn.length oc, .int .i64 p.rework] 29)) (.cells #[.int .i64 p.state, .slice dB p.done.length dd, .slice oB p.opn.length od, .int .i64 p.rework] 29)
  have HI := Lib.hid (fun (W : World) (hb : Below w.heap.size w W) => ints_b dA dB dc dd p.done W ((h1.below hb).more hb.size) ((h3.below hb).more hb.size) hn1)
  have HJ := Lib.hid (fun (W : World) (hb : Below w.heap.size w W) => ints_b oA oB oc od p.opn W ((h2.below hb).more hb.size) ((h4.below hb).more hb.size) hn2)
  have e2 : ((w.alloc (.cells #[.int .i64 p.state, .slice dA p.done.length dc, .slice oA p.opn.length oc, .int .i64 p.rework] 29)).alloc (.cells #[.int .i64 p.state, .slice dB p.done.length dd, .slice oB p.opn.length od, .int .i64 p.rework] 29)).cell? ⟨w.heap.size, 2, none⟩ = some (.slice oA p.opn.length oc) := by simp [go_sem]
  have f2 : ((w.alloc (.cells #[.int .i64 p.state, .slice dA p.done.length dc, .slice oA p.opn.length oc, .int .i64 p.rework] 29)).alloc (.cells #[.int .i64 p.state, .slice dB p.done.length dd, .slice oB p.opn.length od, .int .i64 p.rework] 29)).cell? ⟨w.heap.size + 1, 2, none⟩ = some (.slice oB p.opn.length od) := by simp [go_sem]
  have hsz : ((w.alloc (.cells #[.int .i64 p.state, .slice dA p.done.length dc, .slice oA p.opn.length oc, .int .i64 p.rework] 29)).alloc (.cells #[.int .i64 p.state, .slice dB p.done.length dd, .slice oB p.opn.length od, .int .i64 p.rework] 29)).heap.size = w.heap.size + 1 + 1 := by simp
  clear h1 h2 h3 h4
  go_enter Try.func20, Try.ntmps20
  go_wp2_with fail
  refine (HI.out _ hb0).mono ?_
  rintro e w1 ⟨rfl, hb1⟩
  replace e2 := (hb1.cell (p := ⟨w.heap.size, 2, none⟩) (by show w.heap.size < _; omega)).trans e2
  replace f2 := (hb1.cell (p := ⟨w.heap.size + 1, 2, none⟩) (by show w.heap.size + 1 < _; omega)).trans f2
  have hb2 := b_tr hb0 hb1
  clear hb1 hb0 hsz
  go_wp2_with fail
  refine (HJ.out _ hb2).mono ?_
  rintro e w2 ⟨rfl, hb3⟩
  go_wp2
  go_ret
  exact ⟨rfl, b_tr hb2 hb3⟩

/-- the last event before place k -/
def lastTo (es : List (Int × Int)) (kd op : Int) : Nat → Int
  | 0 => -1
  | k + 1 => if es[k]? = some (kd, op) then (k : Int) else lastTo es kd op k
def lastI (es : List (Int × Int)) (kd op : Int) : Int := lastTo es kd op es.length

set_option maxHeartbeats 1000000 in
theorem last_any (A : Option Addr) (c : Nat) (es : List (Int × Int)) (kd op : Int) (w : World) (hes : Se w w.heap.size A es) (hel : es.length ≤ 1000) :
    Calls Try.prog 25 #[.slice A es.length c, .int .i64 kd, .int .i64 op] w fun e w' => e = .returned (.int .i64 (lastI es kd op)) ∧ w' = w := by
  have h34 := cells34
  have w0 : wrap64 ((es.length : Int) - 1) = (es.length : Int) - 1 := by unfold wrap64; omega
  go_enter Try.func25, Try.ntmps25
  go_wp2
  go_loopw [7] (fun s7 wr => ∃ k : Nat, k ≤ es.length ∧ s7 = .int .i64 ((k : Int) - 1) ∧ Hid (lastI es kd op = lastTo es kd op k) ∧ w = wr) (fun s7 _ => (intOf s7 + 1).toNat)
  case atStart => exact ⟨es.length, Nat.le_refl _, rfl, rfl, rfl⟩
  case round =>
    obtain ⟨k, hk, rfl, hA, hw⟩ := hrel
    subst hw
    cases k with
    | zero =>
      have HF : Hid (lastI es kd op = -1) := hA.out
      go_wp2
      go_ret
      exact ⟨ret_int HF.out.symm, rfl⟩
    | succ k =>
      have hj : ((k + 1 : Nat) : Int) - 1 = (k : Int) := by omega
      rw [hj] at *
      have w1 : wrap64 ((k : Int) - 1) = (k : Int) - 1 := by unfold wrap64; omega
      have hlt : k < es.length := by omega
      obtain ⟨ev, hev⟩ : ∃ ev, es[k]? = some ev := ⟨_, List.getElem?_eq_getElem hlt⟩
      obtain ⟨b, off, rfl, hb, e0, e1⟩ := hes.get hev
      have HC : Hid (lastTo es kd op (k + 1) = if es[k]? = some (kd, op) then (k : Int) else lastTo es kd op k) := rfl
      rw [HC.out, hev] at hA
      by_cases g1 : ev.1 = kd
      · have g1' : (ev.1 == kd) = true := by simpa using g1
        by_cases g2 : ev.2 = op
        · have g2' : (ev.2 == op) = true := by simpa using g2
          have HF : Hid (lastI es kd op = (k : Int)) := by show _ = _; rw [hA.out, if_pos (by rw [← g1, ← g2])]
          clear hev HC hA
          go_wp2
          go_ret
          exact ⟨ret_int HF.out.symm, rfl⟩
        · have g2' : (ev.2 == op) = false := by simpa using g2
          have HF : Hid (lastI es kd op = lastTo es kd op k) := by show _ = _; rw [hA.out, if_neg (by intro e; injection e with e; exact g2 (by rw [e]))]
          clear hev HC hA
          go_wp2
          go_roundw
          case rel => exact ⟨k, by omega, rfl, HF, trivial⟩
          case measure => simp [intOf]
      · have g1' : (ev.1 == kd) = false := by simpa using g1
        have HF : Hid (lastI es kd op = lastTo es kd op k) := by show _ = _; rw [hA.out, if_neg (by intro e; injection e with e; exact g1 (by rw [e]))]
        clear hev HC hA
        go_wp2
        go_roundw
        case rel => exact ⟨k, by omega, rfl, HF, trivial⟩
        case measure => simp [intOf]

def twoL : List Opn := [⟨⟨#[115, 101, 119]⟩, 0, 100, [], 0⟩, ⟨⟨#[104, 101, 109]⟩, 0, 50, [0], 0⟩]
/-- what two returns -/
def TwoPost (w : World) (e : Ending) (w' : World) : Prop := ∃ A, e = .returned (.slice A 2 2) ∧ So w' w'.heap.size A twoL ∧ Below w.heap.size w w'
theorem so_two (w : World) (m1 m2 : Int) (n1 n2 : ByteArray) :
    So ((w.alloc (.cells #[.int .i64 0] 3)).alloc (.cells #[.string n1, .int .i64 0, .int .i64 m1, .slice none 0 0, .slice none 0 0, .string n2, .int .i64 0, .int .i64 m2, .slice (some ⟨w.heap.size, 0, none⟩) 1 1, .slice none 0 0] 27)) ((w.alloc (.cells #[.int .i64 0] 3)).alloc (.cells #[.string n1, .int .i64 0, .int .i64 m1, .slice none 0 0, .slice none 0 0, .string n2, .int .i64 0, .int .i64 m2, .slice (some ⟨w.heap.size, 0, none⟩) 1 1, .slice none 0 0] 27)).heap.size (some ⟨w.heap.size + 1, 0, none⟩) [⟨n1, 0, m1, [], 0⟩, ⟨n2, 0, m2, [0], 0⟩] := by
  refine .inr ⟨w.heap.size + 1, 0, rfl, by simp, fun i x hi => ?_⟩
  match i, hi with
  | 0, hi =>
    simp at hi
    subst hi
    exact ⟨none, 0, none, 0, ⟨by simp [go_sem], by simp [go_sem], by simp [go_sem], by simp [go_sem], by simp [go_sem]⟩, .inl rfl⟩
  | 1, hi =>
    simp at hi
    subst hi
    refine ⟨some ⟨w.heap.size, 0, none⟩, 1, none, 0, ⟨by simp [go_sem], by simp [go_sem], by simp [go_sem], by simp [go_sem], by simp [go_sem]⟩, .inr ⟨w.heap.size, 0, rfl, by simp; omega, fun j y hj => ?_⟩⟩
    match j, hj with
    | 0, hj =>
      simp at hj
      subst hj
      simp [go_sem]
theorem two_any (w : World) : Calls Try.prog 30 #[] w (TwoPost w) := by
  have hS := Lib.hid (so_two w 100 50 ⟨#[115, 101, 119]⟩ ⟨#[104, 101, 109]⟩)
  go_enter Try.func30, Try.ntmps30
  go_wp2
  go_ret
  exact ⟨_, rfl, hS.out, b_al (b_new w _) _⟩
theorem twoL_oks : Oks twoL := by
  refine ⟨by decide, fun o ho => ?_, fun o ho a ha => ?_, fun o ho => ?_⟩
  all_goals
    rcases List.mem_cons.1 ho with rfl | ho
    · first | (simp [maxLen, ByteArray.size]; done) | (simp at ha; done) | (simp; done)
    · rcases List.mem_cons.1 ho with rfl | ho
      · first | (simp [maxLen, ByteArray.size]; done) | (simp at ha; subst ha; decide) | (simp; done)
      · simp at ho
theorem two_run : Pr.runR twoL [(1, 0), (1, 1)] 1 = ⟨0, ⟨1, [1, 1], [], 0⟩, 0⟩ := by kernel_rfl
theorem two_defect : Pr.stepR twoL ⟨1, [1, 1], [], 0⟩ 2 0 1 = (0, ⟨2, [1, 1], [0, 1], 1⟩) := by kernel_rfl
theorem two_order : Pr.stepR twoL ⟨2, [1, 1], [0, 1], 1⟩ 1 1 1 = (21, Pr.zeroP) := by kernel_rfl
theorem two_pass : Pr.stepR twoL ⟨1, [1, 1], [], 0⟩ 3 0 1 = (0, ⟨3, [1, 1], [], 0⟩) := by kernel_rfl
end Go.Proofs.Ytcolekfjmhgldaa
