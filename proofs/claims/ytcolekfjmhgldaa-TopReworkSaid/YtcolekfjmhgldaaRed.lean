/- The example of the law through the layers. -/
import Derived.Test.YtcolekfjmhgldaaEva
namespace Go.Proofs.Ytcolekfjmhgldaa
open Go.RowKit
open Pr (Opn Prg Res)

def redL : List Opn := [⟨⟨#[115, 101, 119]⟩, 0, 1, [], 0⟩, ⟨⟨#[112, 114, 101, 115, 115]⟩, 0, 1, [0], 0⟩]
def red3 : List (Int × Int) := [(1, 0), (1, 1), (2, 0)]
def red6 : List (Int × Int) := [(1, 0), (1, 1), (2, 0), (1, 0), (1, 1), (3, 0)]
theorem redL_oks : Oks redL := by
  refine ⟨by decide, fun o ho => ?_, fun o ho a ha => ?_, fun o ho => ?_⟩
  all_goals
    rcases List.mem_cons.1 ho with rfl | ho
    · first | (simp [maxLen, ByteArray.size]; done) | (simp at ha; done) | (simp; done)
    · rcases List.mem_cons.1 ho with rfl | ho
      · first | (simp [maxLen, ByteArray.size]; done) | (simp at ha; subst ha; decide) | (simp; done)
      · simp at ho
theorem red_run3 : Pr.runR redL red3 5 = ⟨0, ⟨2, [1, 1], [0, 1], 1⟩, 0⟩ := by kernel_rfl
theorem red_run6 : Pr.runR redL red6 5 = ⟨0, ⟨3, [2, 2], [], 1⟩, 0⟩ := by kernel_rfl
theorem run_red3 (w : World) (A eA : Option Addr) (c : Nat) (hl : So w w.heap.size A redL) (hes : Se w w.heap.size eA red3) :
    Calls Try.prog 12 #[.slice A 2 2, .slice eA 3 c, .int .i64 5] w (RunPost w ⟨0, ⟨2, [1, 1], [0, 1], 1⟩, 0⟩) := by
  have := run_any A 2 redL eA c red3 5 w hl redL_oks (by decide) (by decide) hes (by decide)
  rw [red_run3] at this
  exact this
theorem run_red6 (w : World) (A eA : Option Addr) (c : Nat) (hl : So w w.heap.size A redL) (hes : Se w w.heap.size eA red6) :
    Calls Try.prog 12 #[.slice A 2 2, .slice eA 6 c, .int .i64 5] w (RunPost w ⟨0, ⟨3, [2, 2], [], 1⟩, 0⟩) := by
  have := run_any A 2 redL eA c red6 5 w hl redL_oks (by decide) (by decide) hes (by decide)
  rw [red_run6] at this
  exact this
theorem ev3 (w : World) (a b c d e f : Int) : Oe (w.alloc (.cells #[.int .i64 a, .int .i64 b, .int .i64 c, .int .i64 d, .int .i64 e, .int .i64 f] 34)) w.heap.size (.slice (some ⟨w.heap.size, 0, none⟩) 3 3) [(a, b), (c, d), (e, f)] :=
  World.ownsRow_lit w #[.int .i64 a, .int .i64 b, .int .i64 c, .int .i64 d, .int .i64 e, .int .i64 f] 3 (Nat.le_refl _) (by unfold maxLen; omega) rfl
theorem oe_se {w : World} {base n c : Nat} {A : Option Addr} {l : List (Int × Int)} (h : Oe w base (.slice A n c) l) : Se w w.heap.size A l := by
  obtain ⟨A', c', hA, _, hs⟩ := h.shape
  injection hA with h1 h2 h3
  rw [h1]
  exact hs

set_option maxRecDepth 100000 in
set_option maxHeartbeats 4000000 in
theorem redoes_any (w : World) : Calls Try.prog 11 #[] w fun e w' => e = .returned (.bool true) ∧ Below w.heap.size w w' := by
  have hS := so_two w 1 1 ⟨#[115, 101, 119]⟩ ⟨#[112, 114, 101, 115, 115]⟩
  have hb0 := b_al (b_new w (.cells #[.int .i64 0] 3)) (.cells #[.string ⟨#[115, 101, 119]⟩, .int .i64 0, .int .i64 1, .slice none 0 0, .slice none 0 0, .string ⟨#[112, 114, 101, 115, 115]⟩, .int .i64 0, .int .i64 1, .slice (some ⟨w.heap.size, 0, none⟩) 1 1, .slice none 0 0] 27)
  go_enter Try.func11, Try.ntmps11
  go_wp2_with fail
  have hsz : ((w.alloc (.cells #[.int .i64 0] 3)).alloc (.cells #[.string ⟨#[115, 101, 119]⟩, .int .i64 0, .int .i64 1, .slice none 0 0, .slice none 0 0, .string ⟨#[112, 114, 101, 115, 115]⟩, .int .i64 0, .int .i64 1, .slice (some ⟨w.heap.size, 0, none⟩) 1 1, .slice none 0 0] 27)).heap.size = w.heap.size + 1 + 1 := by rw [size_al, size_al]
  generalize (w.alloc (.cells #[.int .i64 0] 3)).alloc (.cells #[.string ⟨#[115, 101, 119]⟩, .int .i64 0, .int .i64 1, .slice none 0 0, .slice none 0 0, .string ⟨#[112, 114, 101, 115, 115]⟩, .int .i64 0, .int .i64 1, .slice (some ⟨w.heap.size, 0, none⟩) 1 1, .slice none 0 0] 27) = W1 at *
  have hE := ev3 W1 1 0 1 1 2 0
  have hb1 := b_new W1 (.cells #[.int .i64 1, .int .i64 0, .int .i64 1, .int .i64 1, .int .i64 2, .int .i64 0] 34)
  rw [hsz] at hE
  have hS1 := hS.to hb1
  have hSB := hS.below hb1
  rw [hsz] at hSB
  have hbw := b_tr hb0 hb1
  have hbase : w.heap.size + 1 + 1 ≤ (W1.alloc (.cells #[.int .i64 1, .int .i64 0, .int .i64 1, .int .i64 1, .int .i64 2, .int .i64 0] 34)).heap.size := by rw [size_al]; omega
  clear hS hb0 hb1 hsz
  generalize W1.alloc (.cells #[.int .i64 1, .int .i64 0, .int .i64 1, .int .i64 1, .int .i64 2, .int .i64 0] 34) = W2 at *
  have HR := Lib.hid (run_red3 W2 (some ⟨w.heap.size + 1, 0, none⟩) (some ⟨w.heap.size + 1 + 1, 0, none⟩) 3 hS1 (oe_se hE))
  refine HR.out.mono ?_
  rintro e w3 ⟨dv, ov, rfl, hd, ho, hb3⟩
  obtain ⟨dA, dc, rfl, _, _, _, _⟩ := hd.shape
  obtain ⟨oA, oc, rfl, _, _, _, _⟩ := ho.shape
  have hP := Pc.new hd ho
  have hb4 := b_al hb3 (.cells #[.int .i64 2, .slice dA 2 dc, .slice oA 2 oc, .int .i64 1] 29)
  have hE4 := hE.below hb4
  have hS4 := hS1.to hb4
  have hb4w := b_tr hbw hb4
  have hbase4 := Nat.le_trans hbase hb4.size
  replace hSB := hSB.below (hb4.mono hbase)
  have hP4 : Pc (w3.alloc (.cells #[.int .i64 2, .slice dA 2 dc, .slice oA 2 oc, .int .i64 1] 29)) W2.heap.size w3.heap.size (.slice dA 2 dc) (.slice oA 2 oc) ⟨2, [1, 1], [0, 1], 1⟩ := hP
  have HC2 := Lib.hid ((oe_se hE).get (i := 0) (e := (1, 0)) rfl)
  have hw3 := Lib.hid hb3.size
  clear HR hE hS1 hd ho hP hb3 hb4 hbw hbase
  have hL := oe_se (ev3 (w3.alloc (.cells #[.int .i64 2, .slice dA 2 dc, .slice oA 2 oc, .int .i64 1] 29)) 1 0 1 1 3 0)
  rw [size_al w3] at hL
  have HL := Lib.hid hL
  have HE5 := Lib.hid (hE4.alloc (.cells #[.int .i64 1, .int .i64 0, .int .i64 1, .int .i64 1, .int .i64 3, .int .i64 0] 34))
  clear hL hE4
  go_wp2_with (at_builtin; (refine wpList_append_evs _ rfl _ _ rfl (w.heap.size + 1 + 1) (.slice (some ⟨w.heap.size + 1 + 1, 0, none⟩) 3 3) red3 rfl HE5.out _ _ [(1, 0), (1, 1), (3, 0)] _ _ rfl rfl HL.out (by decide) (by rw [size_al]; omega) ?_); intro v5 w5 how5 hg5 hat5; obtain ⟨A5, c5, rfl, _, hs5⟩ := how5.shape)
  have hbA := b_new (w3.alloc (.cells #[.int .i64 2, .slice dA 2 dc, .slice oA 2 oc, .int .i64 1] 29)) (.cells #[.int .i64 1, .int .i64 0, .int .i64 1, .int .i64 1, .int .i64 3, .int .i64 0] 34)
  have hbG : Below (w.heap.size + 1 + 1) ((w3.alloc (.cells #[.int .i64 2, .slice dA 2 dc, .slice oA 2 oc, .int .i64 1] 29)).alloc (.cells #[.int .i64 1, .int .i64 0, .int .i64 1, .int .i64 1, .int .i64 3, .int .i64 0] 34)) w5 := (Below.refl _ _).grown hg5 (by rw [size_al]; omega) (fun k e => by simp [Value.ownBlock] at e; omega)
  have hS5 := (hSB.below (hbA.mono hbase4)).below hbG
  have hb5w := (b_tr hb4w hbA).trans (hbG.mono (by omega))
  have hz5 := hbG.size
  have hP5 := hP4.below hbA
  have hgne : w.heap.size + 1 + 1 < w3.heap.size := by
    obtain ⟨b, off, e, hlt, _⟩ := HC2.out
    have e' := Option.some.inj e
    injection e' with e1 e2 e3
    have := hw3.out
    omega
  have d0 := World.grownBy.cell hg5 hP5.c0 (by simp [Value.ownBlock]; omega)
  have d2 := World.grownBy.cell hg5 hP5.c2 (by simp [Value.ownBlock]; omega)
  have hg5l : w3.heap.size < w5.heap.size := Nat.lt_of_lt_of_le hP5.gl hg5.size
  have HR6 := Lib.hid (run_red6 w5 (some ⟨w.heap.size + 1, 0, none⟩) A5 c5 (hS5.more (by have := World.block_lt_of_cell? w5 _ d0; simp at this; omega)) hs5)
  clear hP5 hP4 hS5 hbA hbG HL HE5 how5 hs5 hat5 hg5
  refine HR6.out.mono ?_
  rintro e w6 ⟨dv6, ov6, rfl, hd6, ho6, hb6⟩
  obtain ⟨dA6, dc6, rfl, _, _, _, _⟩ := hd6.shape
  obtain ⟨oA6, oc6, rfl, _, _, _, _⟩ := ho6.shape
  have f0 := (hb6.cell (p := ⟨w3.heap.size, 0, none⟩) hg5l).trans d0
  have f2 := (hb6.cell (p := ⟨w3.heap.size, 2, none⟩) hg5l).trans d2
  have hz6 := hb6.size
  have hb7 := b_al (b_tr hb5w hb6) (.cells #[.int .i64 3, .slice dA6 2 dc6, .slice oA6 0 oc6, .int .i64 1] 29)
  dsimp only at f0
  have x0 := ((b_new w6 (.cells #[.int .i64 3, .slice dA6 2 dc6, .slice oA6 0 oc6, .int .i64 1] 29)).cell (p := ⟨w3.heap.size, 0, none⟩) (by show w3.heap.size < _; omega)).trans f0
  have x2 := ((b_new w6 (.cells #[.int .i64 3, .slice dA6 2 dc6, .slice oA6 0 oc6, .int .i64 1] 29)).cell (p := ⟨w3.heap.size, 2, none⟩) (by show w3.heap.size < _; omega)).trans f2
  clear hd6 ho6 d0 d2 f0 f2 HR6
  go_wp2
  go_ret
  exact ⟨rfl, hb7⟩
end Go.Proofs.Ytcolekfjmhgldaa
