/- Slices of ints in memory; Shuffle of the program and of the reference, limited. -/
import Derived.Test.YtnfppdlicodgpaaA
import Derived.Laws.OwnMore
import Derived.OwnWalk
import Derived.Below
namespace Go.Proofs.Ytnfppdlicodgpaa
open Go.RowKit
open Pd (St)

/-- The slice at A reads as l and lies below block B. -/
def Si (w : World) (B : Nat) (A : Option Addr) (l : List Int) : Prop :=
  l = [] ∨ ∃ b off, A = some ⟨b, off, none⟩ ∧ b < B ∧ ∀ i x, l[i]? = some x → w.cell? ⟨b, off + i, none⟩ = some (.int .i64 x)
theorem Si.at_ {w : World} {B : Nat} {A : Option Addr} {l : List Int} (h : Si w B A l) (i : Nat) (hi : i < l.length) :
    ∃ b off, A = some ⟨b, off, none⟩ ∧ b < B ∧ w.cell? ⟨b, off + i, none⟩ = some (.int .i64 l[i]) := by
  rcases h with rfl | ⟨b, off, h1, h2, h3⟩
  · simp at hi
  · exact ⟨b, off, h1, h2, h3 i _ (List.getElem?_eq_getElem hi)⟩
theorem Si.keep {w w' : World} {B : Nat} {A : Option Addr} {l : List Int} (h : Si w B A l) (hk : ∀ p : Addr, p.block < B → w'.cell? p = w.cell? p) : Si w' B A l := by
  rcases h with rfl | ⟨b, off, h1, h2, h3⟩
  · exact .inl rfl
  · exact .inr ⟨b, off, h1, h2, fun i x hi => (hk _ h2).trans (h3 i x hi)⟩
theorem Si.below {w w' : World} {B : Nat} {A : Option Addr} {l : List Int} (h : Si w B A l) (hb : Below B w w') : Si w' B A l := h.keep fun _ hp => hb.cell hp
theorem Si.more {w : World} {B B' : Nat} {A : Option Addr} {l : List Int} (h : Si w B A l) (hB : B ≤ B') : Si w B' A l := by
  rcases h with rfl | ⟨b, off, h1, h2, h3⟩
  · exact .inl rfl
  · exact .inr ⟨b, off, h1, by omega, h3⟩
theorem Si.take {w : World} {B : Nat} {A : Option Addr} {l : List Int} (h : Si w B A l) (k : Nat) : Si w B A (l.take k) := by
  rcases h with rfl | ⟨b, off, h1, h2, h3⟩
  · exact .inl (by simp)
  · refine .inr ⟨b, off, h1, h2, fun i x hi => h3 i x ?_⟩
    rw [List.getElem?_take] at hi
    split at hi
    · exact hi
    · cases hi

/-- the slice v is the call's own (from block base on) and reads as l -/
def Oi (w : World) (base : Nat) (v : Value) (l : List Int) : Prop := w.ownsRow base 3 1 v l.length (l.map (Value.int .i64))

theorem Oi.lenEq {w : World} {base g cap n : Nat} {l : List Int} (h : Oi w base (.slice (some ⟨g, 0, none⟩) n cap) l) : n = l.length := by
  rcases h.2 with ⟨h1, _⟩ | ⟨g', cap', cur, h1, _⟩
  · cases h1
  · injection h1
theorem Oi.at_ {w : World} {base g cap n : Nat} {l : List Int} (h : Oi w base (.slice (some ⟨g, 0, none⟩) n cap) l) (i : Nat) (hi : i < l.length) : w.cell? ⟨g, i, none⟩ = some (.int .i64 l[i]) := by
  have hn := h.lenEq
  subst hn
  have := World.ownsRow.cellAt h i (by omega)
  rw [this]
  simp [hi]
theorem Oi.frozenAt {w : World} {base g cap n : Nat} {l : List Int} (h : Oi w base (.slice (some ⟨g, 0, none⟩) n cap) l) (j : Nat) : w.frozen? ⟨g, j, none⟩ = false := by
  have hn := h.lenEq
  subst hn
  exact World.ownsRow.frozenAt h j
theorem Oi.set {w : World} {base g cap n : Nat} {l : List Int} (h : Oi w base (.slice (some ⟨g, 0, none⟩) n cap) l) (j : Nat) (x : Int) : Oi (w.setCell ⟨g, j, none⟩ (.int .i64 x)) base (.slice (some ⟨g, 0, none⟩) n cap) (l.set j x) := by
  have hn := h.lenEq
  subst hn
  have := (World.ownsRow.stored h j (.int .i64 x)).1
  unfold Oi
  rw [List.length_set, List.map_set]
  exact this
theorem Oi.drewN {w : World} {base : Nat} {v : Value} {l : List Int} (h : Oi w base v l) (n : Nat) : Oi (w.drewN n) base v l := h
theorem Oi.alloc {w : World} {base : Nat} {v : Value} {l : List Int} (h : Oi w base v l) (o : Obj) : Oi (w.alloc o) base v l := World.ownsRow.alloc h o
theorem grown_of_below {w w' : World} (h : Below w.heap.size w w') : w.grownBy w' none := ⟨h.os, h.tape, h.output, h.size, fun i hi _ => h.block i hi⟩
theorem Oi.below {w w' : World} {base : Nat} {v : Value} {l : List Int} (h : Oi w base v l) (hb : Below w.heap.size w w') : Oi w' base v l := by
  refine World.ownsRow.kept h (grown_of_below hb) ?_
  cases hv : v.ownBlock
  · exact .inl rfl
  · exact .inr (by simp)
theorem Oi.shape {w : World} {base : Nat} {v : Value} {l : List Int} (h : Oi w base v l) : ∃ A c, v = .slice A l.length c ∧ l.length ≤ c ∧ c ≤ maxLen ∧ Si w w.heap.size A l ∧ (l ≠ [] → ∃ g, A = some ⟨g, 0, none⟩ ∧ base ≤ g) := by
  have h0 := h
  rcases h.2 with ⟨rfl, h2⟩ | ⟨g, cap, cur, rfl, hb, hg, hn, hm, hs, ht⟩
  · exact ⟨none, 0, by rw [h2], by omega, by unfold maxLen; omega, .inl (List.eq_nil_of_length_eq_zero h2), fun hne => absurd (List.eq_nil_of_length_eq_zero h2) hne⟩
  · have hlt : g < w.heap.size := by
      rcases Nat.lt_or_ge g w.heap.size with hl | hl
      · exact hl
      · rw [Array.getElem?_eq_none hl] at hg; cases hg
    refine ⟨_, _, rfl, hn, hm, .inr ⟨g, 0, rfl, hlt, fun i x hi => ?_⟩, fun _ => ⟨g, rfl, hb⟩⟩
    obtain ⟨h1, h2⟩ := List.getElem?_eq_some_iff.1 hi
    subst h2
    rw [Nat.zero_add]
    exact h0.at_ i h1
theorem b_tr {w W W' : World} (h : Below w.heap.size w W) (h' : Below W.heap.size W W') : Below w.heap.size w W' := h.trans (h'.mono h.size)
theorem b_al {w W : World} (h : Below w.heap.size w W) (o : Obj) : Below w.heap.size w (W.alloc o) := h.alloc h.size o

theorem int_info : (Try.prog.info? 3).map (fun i => (i.zero, i.size, i.bytes)) = some (some (.int .i64 0), 1, 8) := by kernel_rfl
theorem made_zero (n : Nat) : (madeCells (Value.cells (.int .i64 0)) (n * 1)).toList = (List.replicate n (0 : Int)).map (Value.int .i64) := by
  apply List.ext_getElem?
  intro i
  simp [madeCells, Value.cells, List.getElem?_replicate]
  by_cases h : i < n
  · simp [h, Nat.mod_one]
  · simp [h]

/-- a state and a new slice; nothing older has turned -/
def FreshD (w : World) (d : Int) (l : List Int) (e : Ending) (w' : World) : Prop := ∃ m, l.length = m ∧ e = .returned (.tuple #[.int .u64 d, .slice (some ⟨w.heap.size, 0, none⟩) m m]) ∧ Oi w' w.heap.size (.slice (some ⟨w.heap.size, 0, none⟩) m m) l ∧ Below w.heap.size w w'

theorem lim_max (n : Int) : ∃ x : Int, (if n < 0 then 0 else n) = x ∧ (if 1000 < x then 1000 else x) = ((Pd.lim n : Nat) : Int) := by
  refine ⟨_, rfl, ?_⟩
  unfold Pd.lim
  split <;> split <;> omega

theorem make_ints (w : World) (m : Nat) (hm : m ≤ 65536) : ∃ w', (Instr.makeSlice 29 (.int .i64 (m : Int)) (.int .i64 (m : Int))).run Try.prog w = .ok (.slice (some ⟨w.heap.size, 0, none⟩) m m) w' ∧
    Oi w' w.heap.size (.slice (some ⟨w.heap.size, 0, none⟩) m m) (List.replicate m 0) ∧ Below w.heap.size w w' := by
  obtain ⟨i0, hi, hz0, hz1, hz2⟩ := info_parts int_info
  obtain ⟨w', h1, h2, h3⟩ := run_make_full (P := Try.prog) w w.heap.size 29 3 i0 (.int .i64 0) 1 Try.underlying29 hi hz0 hz1 .i64 .i64 m (by rw [hz2]; omega) (by unfold maxLen; omega) (Nat.le_refl _)
  refine ⟨w', h1, ?_, (Below.refl _ _).grown h3 (Nat.le_refl _) (by simp)⟩
  rw [made_zero] at h2
  unfold Oi
  rw [List.length_replicate]
  exact h2

/-- the first k places are laid -/
structure Laid (c : List Int) (m k : Nat) : Prop where
  len : c.length = m
  get : c.take k = Pd.ids k
theorem Laid.start (m : Nat) : Laid (List.replicate m 0) m 0 := ⟨List.length_replicate, rfl⟩
theorem Laid.step {c : List Int} {m k : Nat} (h : Laid c m k) (hk : k < m) : Laid (c.set k (k : Int)) m (k + 1) where
  len := by rw [List.length_set, h.len]
  get := by
    have hl := h.len
    rw [List.take_succ_eq_append_getElem (by rw [List.length_set]; omega), List.getElem_set_self, List.take_set, List.set_eq_of_length_le (by simp; omega), h.get]
    unfold Pd.ids
    rw [List.range_succ, List.map_append]
    rfl
theorem Laid.done {c : List Int} {m : Nat} (h : Laid c m m) : c = Pd.ids m := by
  rw [← h.get, List.take_of_length_le (by rw [h.len]; exact Nat.le_refl _)]

theorem swap_eq {c : List Int} {i k : Nat} {x y : Int} (hi : c[i]? = some x) (hk : c[k]? = some y) : Pd.swap c i k = (c.set i y).set k x := by
  unfold Pd.swap
  rw [List.getD_eq_getElem?_getD, hk, List.getD_eq_getElem?_getD, hi]
  rfl
theorem Oi.get {w : World} {base g cap n : Nat} {l : List Int} (h : Oi w base (.slice (some ⟨g, 0, none⟩) n cap) l) {i : Nat} {x : Int} (hi : l[i]? = some x) : w.cell? ⟨g, i, none⟩ = some (.int .i64 x) := by
  obtain ⟨h1, h2⟩ := List.getElem?_eq_some_iff.1 hi
  subst h2
  exact h.at_ i h1
theorem get_ex {c : List Int} {i n : Nat} (hc : c.length = n) (hi : i < n) : ∃ x, c[i]? = some x := ⟨_, List.getElem?_eq_getElem (by omega)⟩

/-- one step of the exchange -/
theorem shuf_step {ii dd : Int} (c : List Int) (hi : 1 ≤ ii) : Pd.shuf ii.toNat dd c = Pd.shuf (ii - 1).toNat (Pd.nx dd) (Pd.swap c ii.toNat (bel dd (ii + 1)).toNat) := by
  obtain ⟨j, rfl⟩ : ∃ j : Nat, ii = ((j + 1 : Nat) : Int) := ⟨(ii - 1).toNat, by omega⟩
  rw [bel_pos (by omega), Int.toNat_natCast, show (((j + 1 : Nat) : Int) - 1).toNat = j by omega, Pd.shuf]
  congr 3

theorem grown_drewN {a w : World} {row : Option Nat} (h : a.grownBy w row) (n : Nat) : a.grownBy (w.drewN n) row := ⟨h.os, h.tape, h.output, h.size, h.block⟩
theorem b_set {a w : World} {g : Nat} (h : Below a.heap.size a w) (hg : a.heap.size ≤ g) (j : Nat) (u : Value) : Below a.heap.size a (w.setCell ⟨g, j, none⟩ u) := h.setCell hg u

set_option maxHeartbeats 1000000 in
theorem shuffle_any (d n : Int) (w : World) (h : St d) : Calls Try.prog 17 #[.int .u64 d, .int .i64 n] w (FreshD w (Pd.shuffle d n).1 (Pd.shuffle d n).2) := by
  generalize hR : Pd.shuffle d n = R
  have hR' : Pd.shuf (Pd.lim n - 1) d (Pd.ids (Pd.lim n)) = R := hR
  have hl := Pd.lim_le n
  obtain ⟨nm, hm1, hm2⟩ := lim_max n
  generalize Pd.lim n = m at *
  have HR := Lib.hid hR'
  clear hR hR'
  obtain ⟨w1, hmk, hown, hb1⟩ := make_ints w m (by omega)
  go_enter Try.func17, Try.ntmps17
  go_wp2
  clear hm1 hm2 hmk
  go_loopw [17] (fun i wr => ∃ (k : Nat) (c : List Int), k ≤ m ∧ i = .int .i64 k ∧ Hid (Laid c m k) ∧ Oi wr w.heap.size (.slice (some ⟨w.heap.size, 0, none⟩) m m) c ∧ Below w.heap.size w wr) (fun i _ => m - (intOf i).toNat)
  case atStart => exact ⟨0, _, Nat.zero_le _, rfl, Laid.start m, hown, hb1⟩
  case round =>
    obtain ⟨k, c, hk, rfl, hla, how, hb⟩ := hrel
    by_cases hlt : k < m
    · have f1 := how.frozenAt k
      obtain ⟨x0, f2⟩ : ∃ x, wr.cell? ⟨w.heap.size, k, none⟩ = some (.int .i64 x) := ⟨_, how.at_ k (by rw [hla.out.len]; exact hlt)⟩
      have HW := Lib.hid (how.set k (k : Int))
      have HL := Lib.hid (hla.out.step hlt)
      go_wp2
      go_roundw
      case rel => exact ⟨k + 1, _, by omega, by go_num, HL, HW.out, b_set hb (Nat.le_refl _) _ _⟩
      case measure => simp [intOf]; omega
    · obtain rfl : k = m := by omega
      have HS : Hid (Pd.shuf ((k : Int) - 1).toNat d c = R) := by
        show _ = _
        rw [hla.out.done, show ((k : Int) - 1).toNat = k - 1 by omega]
        exact HR.out
      have HC := Lib.hid hla.out.len
      clear hla hlt hk HR
      go_wp2
      go_loopw [0, 8] (fun s0 s8 wr => ∃ (dd ii : Int) (c : List Int), s0 = .int .u64 dd ∧ s8 = .int .i64 ii ∧ St dd ∧ -1 ≤ ii ∧ ii < (k : Int) ∧ Hid (c.length = k) ∧ Hid (Pd.shuf ii.toNat dd c = R) ∧ Oi wr w.heap.size (.slice (some ⟨w.heap.size, 0, none⟩) k k) c ∧ Below w.heap.size w wr) (fun _ s8 _ => (intOf s8).toNat)
      case atStart => exact ⟨d, _, c, rfl, rfl, h, by omega, by omega, HC, HS, how, hb⟩
      case round =>
        obtain ⟨dd, ii, c, rfl, rfl, hd, hi1, hi2, hc, hs, how, hb⟩ := hrel
        by_cases hlt : 1 ≤ ii
        · obtain ⟨j, rfl⟩ : ∃ j : Nat, ii = (j : Int) := ⟨ii.toNat, by omega⟩
          have hbd : 0 ≤ bel dd ((j : Int) + 1) ∧ bel dd ((j : Int) + 1) < (j : Int) + 1 := by
            rw [bel_pos (by omega)]
            exact ⟨Int.emod_nonneg _ (by omega), Int.emod_lt_of_pos _ (by omega)⟩
          have HN := Lib.hid (shuf_step (dd := dd) c hlt)
          obtain ⟨q, hq⟩ : ∃ q : Nat, bel dd ((j : Int) + 1) = (q : Int) := ⟨(bel dd ((j : Int) + 1)).toNat, by omega⟩
          have HB := Lib.hid (fun W => by have := below_any dd ((j : Int) + 1) W hd; rw [hq] at this; exact this)
          rw [hq] at HN hbd
          rw [Int.toNat_natCast] at HN hs
          have HS2 := Lib.hid (HN.out.symm.trans hs.out)
          obtain ⟨x, hx⟩ := get_ex hc.out (show j < k by omega)
          obtain ⟨y, hy⟩ := get_ex hc.out (show q < k by omega)
          rw [Int.toNat_natCast, swap_eq hx hy] at HS2
          have c1 := how.get hx
          have c2 := how.get hy
          have f1 := how.frozenAt j
          have f2 := how.frozenAt q
          have HW := Lib.hid ((how.set j y).set q x)
          have HLN : Hid (((c.set j y).set q x).length = k) := by show _ = _; rw [List.length_set, List.length_set]; exact hc.out
          clear HN hs hx hy hq
          have j1 : j < k := by omega
          have j2 : q < k := by omega
          by_cases hjq : q = j
          · subst hjq
            obtain rfl : x = y := by rw [c1] at c2; simpa using c2
            clear c2 f2
            go_wp2_with fail
            refine (HB.out _).mono ?_
            rintro e w' ⟨rfl, n1, rfl⟩
            go_wp2
            go_region
            go_wp2
            go_roundw
            case rel => exact ⟨_, _, _, rfl, rfl, Pd.nx_st dd, by omega, by omega, HLN, HS2, HW.out, b_set (b_set (below_drewN hb _) (Nat.le_refl _) _ _) (Nat.le_refl _) _ _⟩
            case measure => simp [intOf]; omega
          · have hjq' : ¬ j = q := fun h => hjq h.symm
            go_wp2_with fail
            refine (HB.out _).mono ?_
            rintro e w' ⟨rfl, n1, rfl⟩
            go_wp2
            go_region
            go_wp2
            go_roundw
            case rel => exact ⟨_, _, _, rfl, rfl, Pd.nx_st dd, by omega, by omega, HLN, HS2, HW.out, b_set (b_set (below_drewN hb _) (Nat.le_refl _) _ _) (Nat.le_refl _) _ _⟩
            case measure => simp [intOf]; omega
        · have hz : ii.toNat = 0 := by omega
          have hs' := hs.out
          rw [hz] at hs'
          subst hs'
          clear hz hs
          go_wp2
          go_ret2
          exact ⟨_, hc.out, rfl, how, hb⟩
end Go.Proofs.Ytnfppdlicodgpaa
