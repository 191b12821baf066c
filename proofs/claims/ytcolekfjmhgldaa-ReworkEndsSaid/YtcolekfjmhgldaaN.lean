/- New. -/
import Derived.Test.YtcolekfjmhgldaaL
import Derived.Deep.RegionHeld3
import Derived.BigRegion
import Derived.Deep.CutBlock
import Derived.Deep.DeepCutAuto
namespace Go.Proofs.Ytcolekfjmhgldaa
open Go.RowKit
open Pr (Opn Prg)

/-- a progress as a value -/
def PrV (w : World) (v : Value) (p : Prg) : Prop :=
  ∃ dA dc oA oc, v = .agg #[.int .i64 p.state, .slice dA p.done.length dc, .slice oA p.opn.length oc, .int .i64 p.rework] ∧ Si w w.heap.size dA p.done ∧ Si w w.heap.size oA p.opn
theorem PrV.zero (w : World) : PrV w (.agg #[.int .i64 0, .slice none 0 0, .slice none 0 0, .int .i64 0]) Pr.zeroP := ⟨none, 0, none, 0, rfl, .inl rfl, .inl rfl⟩
theorem PrV.below {w w' : World} {v : Value} {p : Prg} (h : PrV w v p) (hb : Below w.heap.size w w') : PrV w' v p := by
  obtain ⟨dA, dc, oA, oc, rfl, h1, h2⟩ := h
  exact ⟨dA, dc, oA, oc, rfl, (h1.below hb).more hb.size, (h2.below hb).more hb.size⟩
/-- what New and Step return -/
def PrPost (w : World) (r : Int × Prg) (e : Ending) (w' : World) : Prop :=
  ∃ dv ov, e = .returned (.tuple #[.agg #[.int .i64 r.2.state, dv, ov, .int .i64 r.2.rework], .int .i64 r.1]) ∧ Oi w' w.heap.size dv r.2.done ∧ Oi w' w.heap.size ov r.2.opn ∧ Below w.heap.size w w'
theorem PrPost.bad {w w' : World} {r : Int × Prg} {n : Int} (hr : r = (n, Pr.zeroP)) (hb : Below w.heap.size w w') : PrPost w r (.returned (.tuple #[.agg #[.int .i64 0, .slice none 0 0, .slice none 0 0, .int .i64 0], .int .i64 n])) w' := by
  subst hr
  exact ⟨_, _, rfl, World.ownsRow_nil _ _ _ _, World.ownsRow_nil _ _ _ _, hb⟩
theorem PrPost.good {w w' : World} {r : Int × Prg} {p : Prg} {dv ov : Value} {base : Nat} (hr : r = (0, p)) (h1 : Oi w' base dv p.done) (h2 : Oi w' base ov p.opn) (hb : Below w.heap.size w w') (hbase : w.heap.size ≤ base := by omega) :
    PrPost w r (.returned (.tuple #[.agg #[.int .i64 p.state, dv, ov, .int .i64 p.rework], .int .i64 0])) w' := by
  subst hr
  exact ⟨_, _, rfl, h1.base_le hbase, h2.base_le hbase, hb⟩
theorem Oi.setOther {w : World} {base r : Nat} {v : Value} {l : List Int} (h : Oi w base v l) (hr : r < base) (j : Nat) (u : Value) : Oi (w.setCell ⟨r, j, none⟩ u) base v l := by
  refine World.ownsRow.kept h (grown_set w r j u) ?_
  cases hv : v.ownBlock with
  | none => exact .inl rfl
  | some k =>
    have := (World.ownsRow.lt h k hv).1
    exact .inr (by intro e; injection e with e; omega)
theorem Pm.setOpnAt {w : World} {base g go n oc : Nat} {dv : Value} {p : Prg} (h : Pm w base g dv (.slice (some ⟨go, 0, none⟩) n oc) p) (i : Nat) (x : Int) : Pm (w.setCell ⟨go, i, none⟩ (.int .i64 x)) base g dv (.slice (some ⟨go, 0, none⟩) n oc) { p with opn := p.opn.set i x } := by
  have hg := grown_set w go i (.int .i64 x)
  have hne : go ≠ g := fun e => h.no (by rw [e]; rfl)
  have hk : ∀ o, (w.setCell ⟨go, i, none⟩ (.int .i64 x)).cell? ⟨g, o, none⟩ = w.cell? ⟨g, o, none⟩ := fun o => World.cell?_setCell_other _ _ _ _ (fun e => hne (by injection e))
  exact ⟨(hk _).trans h.c0, (hk _).trans h.c1, (hk _).trans h.c2, (hk _).trans h.c3, fun j => by rw [World.frozen?_setCell]; exact h.fz j, h.gb, Nat.lt_of_lt_of_le h.gl hg.size, World.ownsRow.kept h.hd hg (.inr (fun e => h.ne go e rfl)), h.ho.set i x, h.nd, h.no, h.ne⟩
theorem ids_fill (n k : Nat) (hk : k < n) : (Pr.ids k ++ List.replicate (n - k) 0).set k (k : Int) = Pr.ids (k + 1) ++ List.replicate (n - (k + 1)) 0 := by
  obtain ⟨r, rfl⟩ : ∃ r, n = k + 1 + r := ⟨n - (k + 1), by omega⟩
  rw [List.set_append_right _ _ (by rw [ids_length]; exact Nat.le_refl _), ids_length, Nat.sub_self, show k + 1 + r - k = r + 1 by omega, show k + 1 + r - (k + 1) = r by omega, List.replicate_succ, List.set_cons_zero, ids_succ, List.append_assoc]
  rfl
def newR (l : List Opn) : Int × Prg := if Pr.ordE l = 0 then (0, Pr.newP l) else (Pr.ordE l, Pr.zeroP)

/-- zeros in memory -/
def zer (m : Nat) : Obj := .cells (madeCells (Value.cells (.int .i64 0)) (m * 1)) 3
theorem make_zer (m : Nat) (hm : m ≤ 65536) (w : World) : (Instr.makeSlice 25 (.int .i64 (m : Int)) (.int .i64 (m : Int))).run Try.prog w = .ok (.slice (some ⟨w.heap.size, 0, none⟩) m m) (w.alloc (zer m)) := by
  obtain ⟨i0, hi, hz0, hz1, hz2⟩ := info_parts int_info
  have := run_make (P := Try.prog) w 25 3 i0 (.int .i64 0) Try.underlying25 hi hz0 .i64 .i64 m m (by omega) (Int.le_refl _) (by rw [hz2]; omega) (by omega)
  rw [this, hz1, Int.toNat_natCast]
  rfl
theorem oi_zer (w : World) (m base : Nat) (hb : base ≤ w.heap.size) (hm : m ≤ 65536) : Oi (w.alloc (zer m)) base (.slice (some ⟨w.heap.size, 0, none⟩) m m) (List.replicate m 0) := by
  unfold Oi
  rw [List.length_replicate, ← made_zero]
  exact World.ownsRow_lit w _ m hb (by unfold maxLen; omega) (size_madeCells _ _)

theorem z1 (w : World) (m : Nat) (hm : m ≤ 65536) (a b : Obj) : Oi ((((w.alloc (zer m)).alloc a).alloc b).drew) w.heap.size (.slice (some ⟨w.heap.size, 0, none⟩) m m) (List.replicate m 0) := ((oi_zer w m _ (Nat.le_refl _) hm).alloc a).alloc b
theorem z2 (w : World) (m : Nat) (hm : m ≤ 65536) (a b : Obj) : Oi ((((w.alloc a).alloc (zer m)).alloc b).drew) w.heap.size (.slice (some ⟨w.heap.size + 1, 0, none⟩) m m) (List.replicate m 0) := by
  have := (oi_zer (w.alloc a) m w.heap.size (by simp) hm).alloc b
  rw [size_al] at this
  exact this
theorem z3 (w : World) (m : Nat) (hm : m ≤ 65536) (a b : Obj) : Oi ((((w.alloc a).alloc b).alloc (zer m)).drew) w.heap.size (.slice (some ⟨w.heap.size + 1 + 1, 0, none⟩) m m) (List.replicate m 0) := by
  have := oi_zer ((w.alloc a).alloc b) m w.heap.size (by simp; omega) hm
  rw [size_al, size_al] at this
  exact this
/-- a zero progress in a block of its own -/
structure Z4 (w : World) (g : Nat) : Prop where
  c0 : w.cell? ⟨g, 0, none⟩ = some (.int .i64 0)
  c1 : w.cell? ⟨g, 1, none⟩ = some (.slice none 0 0)
  c2 : w.cell? ⟨g, 2, none⟩ = some (.slice none 0 0)
  c3 : w.cell? ⟨g, 3, none⟩ = some (.int .i64 0)
  fz : ∀ j, w.frozen? ⟨g, j, none⟩ = false
  gl : g < w.heap.size
def z4 : Obj := .cells #[.int .i64 0, .slice none 0 0, .slice none 0 0, .int .i64 0] 29
theorem Z4.new (w : World) : Z4 (w.alloc (.cells #[.int .i64 0, .slice none 0 0, .slice none 0 0, .int .i64 0] 29)) w.heap.size where
  c0 := by simp
  c1 := by simp
  c2 := by simp
  c3 := by simp
  fz := fun j => World.frozen?_alloc_new w _ _ j
  gl := by simp
theorem Z4.below {w w' : World} {g : Nat} (h : Z4 w g) (hb : Below w.heap.size w w') : Z4 w' g where
  c0 := (hb.cell (p := ⟨g, 0, none⟩) h.gl).trans h.c0
  c1 := (hb.cell (p := ⟨g, 1, none⟩) h.gl).trans h.c1
  c2 := (hb.cell (p := ⟨g, 2, none⟩) h.gl).trans h.c2
  c3 := (hb.cell (p := ⟨g, 3, none⟩) h.gl).trans h.c3
  fz := fun j => (World.frozen?_of_block (hb.block g h.gl)).trans (h.fz j)
  gl := Nat.lt_of_lt_of_le h.gl hb.size

theorem pn1 (w : World) (m : Nat) (hm : m ≤ 65536) : Pm ((((w.alloc (.cells #[.int .i64 1, .slice (some ⟨(w.heap.size + 1), 0, none⟩) m m, .slice (some ⟨(w.heap.size + 1 + 1), 0, none⟩) m m, .int .i64 0] 29)).alloc (zer m)).alloc (zer m)).drew) w.heap.size w.heap.size (.slice (some ⟨(w.heap.size + 1), 0, none⟩) m m) (.slice (some ⟨(w.heap.size + 1 + 1), 0, none⟩) m m) ⟨1, List.replicate m 0, List.replicate m 0, 0⟩ :=
  ⟨by simp [go_sem], by simp [go_sem], by simp [go_sem], by simp [go_sem], fun j => by simp [go_sem], by omega, by simp <;> omega, z2 w m hm _ _, z3 w m hm _ _, by simp [Value.ownBlock] <;> omega, by simp [Value.ownBlock] <;> omega, by intro k hk; simp [Value.ownBlock] at hk ⊢; omega⟩
theorem pn2 (w : World) (m : Nat) (hm : m ≤ 65536) : Pm ((((w.alloc (.cells #[.int .i64 1, .slice (some ⟨(w.heap.size + 1 + 1), 0, none⟩) m m, .slice (some ⟨(w.heap.size + 1), 0, none⟩) m m, .int .i64 0] 29)).alloc (zer m)).alloc (zer m)).drew) w.heap.size w.heap.size (.slice (some ⟨(w.heap.size + 1 + 1), 0, none⟩) m m) (.slice (some ⟨(w.heap.size + 1), 0, none⟩) m m) ⟨1, List.replicate m 0, List.replicate m 0, 0⟩ :=
  ⟨by simp [go_sem], by simp [go_sem], by simp [go_sem], by simp [go_sem], fun j => by simp [go_sem], by omega, by simp <;> omega, z3 w m hm _ _, z2 w m hm _ _, by simp [Value.ownBlock] <;> omega, by simp [Value.ownBlock] <;> omega, by intro k hk; simp [Value.ownBlock] at hk ⊢; omega⟩
theorem pn3 (w : World) (m : Nat) (hm : m ≤ 65536) : Pm ((((w.alloc (zer m)).alloc (.cells #[.int .i64 1, .slice (some ⟨w.heap.size, 0, none⟩) m m, .slice (some ⟨(w.heap.size + 1 + 1), 0, none⟩) m m, .int .i64 0] 29)).alloc (zer m)).drew) w.heap.size (w.heap.size + 1) (.slice (some ⟨w.heap.size, 0, none⟩) m m) (.slice (some ⟨(w.heap.size + 1 + 1), 0, none⟩) m m) ⟨1, List.replicate m 0, List.replicate m 0, 0⟩ :=
  ⟨by simp [go_sem], by simp [go_sem], by simp [go_sem], by simp [go_sem], fun j => by simp [go_sem], by omega, by simp <;> omega, z1 w m hm _ _, z3 w m hm _ _, by simp [Value.ownBlock] <;> omega, by simp [Value.ownBlock] <;> omega, by intro k hk; simp [Value.ownBlock] at hk ⊢; omega⟩
theorem pn4 (w : World) (m : Nat) (hm : m ≤ 65536) : Pm ((((w.alloc (zer m)).alloc (.cells #[.int .i64 1, .slice (some ⟨(w.heap.size + 1 + 1), 0, none⟩) m m, .slice (some ⟨w.heap.size, 0, none⟩) m m, .int .i64 0] 29)).alloc (zer m)).drew) w.heap.size (w.heap.size + 1) (.slice (some ⟨(w.heap.size + 1 + 1), 0, none⟩) m m) (.slice (some ⟨w.heap.size, 0, none⟩) m m) ⟨1, List.replicate m 0, List.replicate m 0, 0⟩ :=
  ⟨by simp [go_sem], by simp [go_sem], by simp [go_sem], by simp [go_sem], fun j => by simp [go_sem], by omega, by simp <;> omega, z3 w m hm _ _, z1 w m hm _ _, by simp [Value.ownBlock] <;> omega, by simp [Value.ownBlock] <;> omega, by intro k hk; simp [Value.ownBlock] at hk ⊢; omega⟩
theorem pn5 (w : World) (m : Nat) (hm : m ≤ 65536) : Pm ((((w.alloc (zer m)).alloc (zer m)).alloc (.cells #[.int .i64 1, .slice (some ⟨w.heap.size, 0, none⟩) m m, .slice (some ⟨(w.heap.size + 1), 0, none⟩) m m, .int .i64 0] 29)).drew) w.heap.size (w.heap.size + 1 + 1) (.slice (some ⟨w.heap.size, 0, none⟩) m m) (.slice (some ⟨(w.heap.size + 1), 0, none⟩) m m) ⟨1, List.replicate m 0, List.replicate m 0, 0⟩ :=
  ⟨by simp [go_sem], by simp [go_sem], by simp [go_sem], by simp [go_sem], fun j => by simp [go_sem], by omega, by simp <;> omega, z1 w m hm _ _, z2 w m hm _ _, by simp [Value.ownBlock] <;> omega, by simp [Value.ownBlock] <;> omega, by intro k hk; simp [Value.ownBlock] at hk ⊢; omega⟩
theorem pn6 (w : World) (m : Nat) (hm : m ≤ 65536) : Pm ((((w.alloc (zer m)).alloc (zer m)).alloc (.cells #[.int .i64 1, .slice (some ⟨(w.heap.size + 1), 0, none⟩) m m, .slice (some ⟨w.heap.size, 0, none⟩) m m, .int .i64 0] 29)).drew) w.heap.size (w.heap.size + 1 + 1) (.slice (some ⟨(w.heap.size + 1), 0, none⟩) m m) (.slice (some ⟨w.heap.size, 0, none⟩) m m) ⟨1, List.replicate m 0, List.replicate m 0, 0⟩ :=
  ⟨by simp [go_sem], by simp [go_sem], by simp [go_sem], by simp [go_sem], fun j => by simp [go_sem], by omega, by simp <;> omega, z2 w m hm _ _, z1 w m hm _ _, by simp [Value.ownBlock] <;> omega, by simp [Value.ownBlock] <;> omega, by intro k hk; simp [Value.ownBlock] at hk ⊢; omega⟩
set_option maxHeartbeats 1000000 in
theorem new_any (A : Option Addr) (c : Nat) (l : List Opn) (w : World) (hl : So w w.heap.size A l) (hk : Oks l) (hc : l.length ≤ c) (hcm : c ≤ maxLen) :
    Calls Try.prog 16 #[.slice A l.length c] w (PrPost w (newR l)) := by
  have hlen := hk.len
  have HO := Lib.hid (fun (W : World) (hW : So W W.heap.size A l) => order_any A c l W hW hk hc hcm)
  have hb0 := b_new w (.cells #[.int .i64 0, .slice none 0 0, .slice none 0 0, .int .i64 0] 29)
  have HO0 := Lib.hid (HO.out _ (hl.to hb0))
  clear HO
  by_cases h0 : Pr.ordE l = 0
  · have HR : Hid (newR l = (0, Pr.newP l)) := by show _ = _; unfold newR; rw [if_pos h0]
    have hmk := fun W => make_zer l.length (by omega) W
    go_enter Try.func16, Try.ntmps16
    go_wp2_with fail
    refine HO0.out.mono ?_
    rintro e w1 ⟨v, rfl, hv, hb⟩
    rw [h0]
    clear h0 HO0
    obtain ⟨r0, r1, r2, r3, rf, rl⟩ := (Z4.new w).below hb
    have hb1 := b_tr hb0 hb
    clear hb
    go_upto_region 4 with fail
    go_cut [6] (fun x wx => ∃ g gd go, x = .pointer (some ⟨g, 0, none⟩) ∧ Pm wx w1.heap.size g (.slice (some ⟨gd, 0, none⟩) l.length l.length) (.slice (some ⟨go, 0, none⟩) l.length l.length) ⟨1, List.replicate l.length 0, List.replicate l.length 0, 0⟩ ∧ Below w1.heap.size w1 wx)
    case first =>
      have hm : l.length ≤ 65536 := by omega
      have HB3 := Lib.hid (fun a b c => (b_al (b_al (b_new w1 a) b) c).drew)
      go_region
      all_goals
        go_wp2_with fail
        go_meet
        case rel =>
          first | exact ⟨_, _, _, rfl, pn1 w1 l.length hm, HB3.out _ _ _⟩ | exact ⟨_, _, _, rfl, pn2 w1 l.length hm, HB3.out _ _ _⟩ | exact ⟨_, _, _, rfl, pn3 w1 l.length hm, HB3.out _ _ _⟩ | exact ⟨_, _, _, rfl, pn4 w1 l.length hm, HB3.out _ _ _⟩ | exact ⟨_, _, _, rfl, pn5 w1 l.length hm, HB3.out _ _ _⟩ | exact ⟨_, _, _, rfl, pn6 w1 l.length hm, HB3.out _ _ _⟩
    case rest =>
      obtain ⟨g, gd, go, rfl, hP, hBx⟩ := hcut
      have HNP : Hid (Pr.newP l = ⟨1, List.replicate l.length 0, Pr.ids l.length ++ List.replicate (l.length - l.length) 0, 0⟩) := by show _ = _; unfold Pr.newP; simp
      have c2 := hP.c2
      have hrw : w.heap.size < w1.heap.size := rl
      clear hmk hb0 hv
      go_wp2
      go_loopw [27] (fun s27 wr => ∃ k : Nat, k ≤ l.length ∧ s27 = .int .i64 k ∧ Pm wr w1.heap.size g (.slice (some ⟨gd, 0, none⟩) l.length l.length) (.slice (some ⟨go, 0, none⟩) l.length l.length) ⟨1, List.replicate l.length 0, Pr.ids k ++ List.replicate (l.length - k) 0, 0⟩ ∧ Below w1.heap.size w1 wr) (fun s27 _ => l.length - (intOf s27).toNat)
      case atStart => exact ⟨0, Nat.zero_le _, rfl, hP, hBx⟩
      case round =>
        obtain ⟨k, hk1, rfl, hP, hBx⟩ := hrel
        have c2 := hP.c2
        by_cases hlt : k < l.length
        · have hlk : (Pr.ids k ++ List.replicate (l.length - k) 0).length = l.length := by rw [List.length_append, ids_length, List.length_replicate]; omega
          obtain ⟨x, hx⟩ := get_ex hlk hlt
          have cx := hP.ho.get hx
          have fx := hP.ho.frozenAt k
          have hP2 := Lib.hid (hP.setOpnAt k (k : Int))
          have hgo := hP.ho.lt.1
          dsimp only at hP2
          rw [ids_fill _ _ hlt] at hP2
          clear hP hlk hx
          go_wp2
          go_roundw
          case rel => exact ⟨k + 1, by omega, by go_num, hP2.out, hBx.setCell (p := ⟨go, k, none⟩) hgo _⟩
          case measure => simp [intOf]; omega
        · obtain rfl : k = l.length := by omega
          have s0 := (hBx.cell (p := ⟨w.heap.size, 0, none⟩) rl).trans r0
          have s1 := (hBx.cell (p := ⟨w.heap.size, 1, none⟩) rl).trans r1
          have s2 := (hBx.cell (p := ⟨w.heap.size, 2, none⟩) rl).trans r2
          have s3 := (hBx.cell (p := ⟨w.heap.size, 3, none⟩) rl).trans r3
          have sf : ∀ j, wr.frozen? ⟨w.heap.size, j, none⟩ = false := fun j => (World.frozen?_of_block (a := ⟨w.heap.size, j, none⟩) (hBx.block w.heap.size rl)).trans (rf j)
          have c0 := hP.c0
          have c1 := hP.c1
          have c3 := hP.c3
          have HD := Lib.hid hP.hd
          have HE := Lib.hid hP.ho
          have hBz := hb1.trans (hBx.mono (by omega))
          rw [HNP.out] at HR
          dsimp only at c0 c3 HD HE
          clear hP hlt hk1 r0 r1 r2 r3 rf HNP
          go_wp2
          refine bodyPost_ret (v := .tuple #[.agg #[.int .i64 1, .slice (some ⟨gd, 0, none⟩) l.length l.length, .slice (some ⟨go, 0, none⟩) l.length l.length, .int .i64 0], .int .i64 0]) (by simp [results, Try.results16, go_sem, s0, s1, s2, s3]) rfl ?_
          exact PrPost.good HR.out ((((HD.out.setOther hrw _ _).setOther hrw _ _).setOther hrw _ _).setOther hrw _ _) ((((HE.out.setOther hrw _ _).setOther hrw _ _).setOther hrw _ _).setOther hrw _ _) (b_set (b_set (b_set (b_set hBz (Nat.le_refl _) _ _) (Nat.le_refl _) _ _) (Nat.le_refl _) _ _) (Nat.le_refl _) _ _)
  · have HR : Hid (newR l = (Pr.ordE l, Pr.zeroP)) := by show _ = _; unfold newR; rw [if_neg h0]
    have hne : (Pr.ordE l == 0) = false := by simpa using h0
    go_enter Try.func16, Try.ntmps16
    go_wp2_with fail
    refine HO0.out.mono ?_
    rintro e w1 ⟨v, rfl, hv, hb⟩
    have hb1 := b_tr hb0 hb
    obtain ⟨r0, r1, r2, r3, rf, rl⟩ := (Z4.new w).below hb
    generalize Pr.ordE l = E at *
    clear HO0 hb
    go_wp2
    refine bodyPost_ret (v := .tuple #[.agg #[.int .i64 0, .slice none 0 0, .slice none 0 0, .int .i64 0], .int .i64 E]) (by simp [results, Try.results16, go_sem, r0, r1, r2, r3]) rfl ?_
    exact PrPost.bad HR.out (b_set (b_set (b_set (b_set hb1 (Nat.le_refl _) _ _) (Nat.le_refl _) _ _) (Nat.le_refl _) _ _) (Nat.le_refl _) _ _)
end Go.Proofs.Ytcolekfjmhgldaa
