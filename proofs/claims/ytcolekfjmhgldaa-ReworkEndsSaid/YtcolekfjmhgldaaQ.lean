/- The enumeration of an operation and its followers. -/
import Derived.Test.YtcolekfjmhgldaaP
import Derived.RangeFuncNested
import Derived.RangeFuncBound
import Derived.RangeFuncCalls
import Derived.RangeFuncLeaves
import Derived.Shelf.Abstract
import Derived.Shelf.RegionOpen
import Derived.OwnWalkIn
import Derived.TacticsInMore
import Derived.LoopNIn
import Derived.LoopIn
namespace Go.Proofs.Ytcolekfjmhgldaa
open Go.RowKit Go.Shelf
open Pr (Opn Prg)
attribute [local go_sem] Oper.semAt_some

/-- the block of the open operations -/
def ob (g : Nat) (W : World) : Option Nat := match W.cell? ⟨g, 2, none⟩ with
  | some v => v.ownBlock
  | none => none
theorem ob_at {g : Nat} {W : World} {v : Value} (h : W.cell? ⟨g, 2, none⟩ = some v) : ob g W = v.ownBlock := by unfold ob; rw [h]
theorem ob_same {g : Nat} {W W' : World} (h : W'.cell? ⟨g, 2, none⟩ = W.cell? ⟨g, 2, none⟩) : ob g W' = ob g W := by unfold ob; rw [h]

/-- what a round keeps -/
structure Kp (base g : Nat) (W W' : World) : Prop where
  bel : Below base W W'
  size : W.heap.size ≤ W'.heap.size
  keep : ∀ k o, W.heap[k]? = some o → o.isCells = true → k ≠ g → ob g W ≠ some k → W'.heap[k]? = some o
  next : ob g W' = ob g W ∨ ∀ k, ob g W' = some k → W.heap.size ≤ k
  low : (∀ k, ob g W = some k → k < W.heap.size) → ∀ k, ob g W' = some k → k < W'.heap.size
theorem Kp.trans {base g : Nat} {A B C : World} (h : Kp base g A B) (h' : Kp base g B C) : Kp base g A C where
  bel := h.bel.trans h'.bel
  size := Nat.le_trans h.size h'.size
  keep := fun k o hk hc hg hne => by
    have h1 := h.keep k o hk hc hg hne
    refine h'.keep k o h1 hc hg (fun e => ?_)
    rcases h.next with h2 | h2
    · exact hne (h2 ▸ e)
    · have := h2 k e
      obtain ⟨hlt, _⟩ := Array.getElem?_eq_some_iff.1 hk
      omega
  next := by
    rcases h'.next with h2 | h2
    · rcases h.next with h3 | h3
      · exact .inl (h2.trans h3)
      · exact .inr (fun k hk => h3 k (h2 ▸ hk))
    · exact .inr (fun k hk => Nat.le_trans h.size (h2 k hk))
  low := fun hl => h'.low (h.low hl)
theorem Kp.put {base g : Nat} {w : World} (hb : base ≤ w.heap.size) (hg : g < w.heap.size) (W : World) (l : Nat) (o o' : Obj) (hl : w.heap.size ≤ l) (ho : W.heap[l]? = some o) (hc : o.isCells = false) : Kp base g W (W.putObj l o') := by
  have hob : ob g (W.putObj l o') = ob g W := ob_same (World.cell?_of_block (a := ⟨g, 2, none⟩) (World.putObj_heap_other (by show g ≠ l; omega)))
  refine ⟨(Below.refl _ _).grown (grownBy_putObj' W l o') ?_ (fun k e => by cases e; omega), (grownBy_putObj' W l o').size, fun k o2 hk hc2 _ _ => ?_, .inl hob, fun h k hk => ?_⟩
  · obtain ⟨hlt, _⟩ := Array.getElem?_eq_some_iff.1 ho
    omega
  · by_cases e : k = l
    · subst e
      rw [ho] at hk
      cases hk
      rw [hc] at hc2
      cases hc2
    · rw [World.putObj_heap_other e]; exact hk
  · rw [hob] at hk
    exact Nat.lt_of_lt_of_le (h k hk) (grownBy_putObj' W l o').size

set_option maxHeartbeats 1000000 in
theorem affected_any (A : Option Addr) (n c : Nat) (op : Int) (w : World) :
    Calls Try.prog 52 #[.slice A n c, .int .i64 op] w fun e w' => e = .returned (.func (.func 64) #[] #[.pointer (some ⟨w.heap.size + 1, 0, none⟩), .pointer (some ⟨w.heap.size, 0, none⟩)]) ∧ w' = (w.alloc (.cells #[.slice A n c] 22)).alloc (.cells #[.int .i64 op] 3) := by
  have hmf : ∀ (fn : Fn) (first cap : Array Value) (w : World), (Instr.makeFunc fn first cap).run Try.prog w = .ok (.func fn first cap) w := fun _ _ _ _ => rfl
  go_enter Try.func52, Try.ntmps52
  go_wp2
  go_ret
  exact ⟨rfl, rfl⟩

/-- the cells that the iterator reads -/
theorem Kp.cell {base g : Nat} {W W' : World} (h : Kp base g W W') {b j : Nat} {v : Value} (hc : W.cell? ⟨b, j, none⟩ = some v) (hg : b ≠ g) (ho : ob g W ≠ some b) : W'.cell? ⟨b, j, none⟩ = some v := by
  have hlt : b < W.heap.size := World.block_lt_of_cell? W ⟨b, j, none⟩ hc
  have hk := h.keep b (W.heap[b]) (Array.getElem?_eq_getElem hlt) ?_ hg ho
  · rw [World.cell?_of_block (a := ⟨b, j, none⟩) (hk.trans (Array.getElem?_eq_getElem hlt).symm)]
    exact hc
  · unfold World.cell? at hc
    simp only [Array.getElem?_eq_getElem hlt] at hc
    revert hc
    cases W.heap[b] <;> simp [Obj.isCells]

theorem folL_zero {l : List Opn} {a : Int} (h : folE l a = 0) : folL l a = Pr.fols l a := by unfold folL; rw [if_pos h]
theorem take_snoc {l : List Int} {k : Nat} {x : Int} (hx : l[k]? = some x) (op : Int) : op :: l.take k ++ [x] = op :: l.take (k + 1) := by
  rw [List.take_add_one, hx]
  rfl

set_option maxRecDepth 100000 in
set_option maxHeartbeats 2000000 in
theorem affected1_stops (n : Nat) (hn : 1 ≤ n) (base g Bo Bl : Nat) (A : Option Addr) (c : Nat) (l : List Opn) (op : Int) (w0 : World) (hl : So w0 base A l) (hk : Oks l) (hc : l.length ≤ c) (hcm : c ≤ maxLen)
    (hbase : base ≤ w0.heap.size) (hg : g < w0.heap.size) (hfe : folE l op = 0) (ho : w0.cell? ⟨Bo, 0, none⟩ = some (.int .i64 op)) (hs : w0.cell? ⟨Bl, 0, none⟩ = some (.slice A l.length c))
    (h1 : Bo ≠ g) (h2 : Bl ≠ g) (h3 : ob g w0 ≠ some Bo) (h4 : ob g w0 ≠ some Bl) (hlow : ∀ k, ob g w0 = some k → k < w0.heap.size) :
    SeqStopsK Fence.wide n Try.prog 64 #[.pointer (some ⟨Bo, 0, none⟩), .pointer (some ⟨Bl, 0, none⟩)] (fun x : Int => #[Value.int .i64 x]) (Kp base g) (fun ys => ys = op :: Pr.fols l op) (fun _ => True) (1 + (Pr.fols l op).length) w0 := fun L J Jx W hW hJ hJx hY h0 => by
  have ho' := (hW.cell (p := ⟨Bo, 0, none⟩) (World.block_lt_of_cell? _ _ ho)).trans ho
  have hs' := (hW.cell (p := ⟨Bl, 0, none⟩) (World.block_lt_of_cell? _ _ hs)).trans hs
  have hob : ob g W = ob g w0 := ob_same (hW.cell (p := ⟨g, 2, none⟩) hg)
  have hl' := hl.below (hW.mono hbase)
  have hgW : g < W.heap.size := Nat.lt_of_lt_of_le hg hW.size
  have hlow' : ∀ k, ob g W = some k → k < W.heap.size := fun k e => Nat.lt_of_lt_of_le (hlow k (hob ▸ e)) hW.size
  have hbase' := Nat.le_trans hbase hW.size
  rw [← hob] at h3 h4
  clear ho hs hob hl hg hlow hbase hW
  refine callsIn_of_wp Try.func64 rfl trivial ?_ rfl
  simp only [Try.ntmps64, List.size_toArray, List.length_cons, List.length_nil, Nat.reduceAdd, Nat.reduceSub, Array.replicate_succ, Array.replicate_zero, List.push_toArray, List.append_toArray, List.nil_append, List.cons_append]
  obtain ⟨f1, t1, a1, b1, hy1, hR1⟩ := hY [] op W h0 (by simp; omega)
  dsimp only at hy1
  gi_wp2
  refine hR1.mono ?_
  rintro e W1 (⟨rfl, hJ1, hk1⟩ | ⟨rfl, hx1⟩)
  · have ho1 := hk1.cell ho' h1 h3
    have hs1 := hk1.cell hs' h2 h4
    have hl1 := hl'.below hk1.bel
    have hlow1 := hk1.low hlow'
    have hz1 := hk1.size
    have HF := Lib.hid (followers_any A c l op W1 (hl1.more (by omega)) hk hc hcm)
    clear ho' hs' hl' hlow' hy1 hR1
    gi_wp2_with (refine ⟨trivial, ?_⟩; gi_at_call 65; refine (callsIn_wide.2 HF.out).mono ?_; rintro e W2 ⟨v, rfl, hv, hb2⟩; rw [folL_zero hfe] at hv; obtain ⟨fA, fc, rfl, _, _, hsi, hfg⟩ := hv.shape)
    have hJ2 : J [op] W2 := hJ [op] W1 W2 none hJ1 (grown_of_below hb2) (fun r e => by cases e)
    have hgz : g < W1.heap.size := by omega
    have hob2 : ob g W2 = ob g W1 := ob_same (hb2.cell (p := ⟨g, 2, none⟩) hgz)
    have hFl : (Pr.fols l op).length ≤ 65536 := by
      have h := List.length_filter_le (fun b => Pr.folB l op b.toNat) (Pr.ids l.length)
      rw [ids_length] at h
      have := hk.len
      unfold Pr.fols
      omega
    have hcell : ∀ k x, (Pr.fols l op)[k]? = some x → ∃ h, fA = some ⟨h, 0, none⟩ ∧ h ≠ g ∧ ob g W2 ≠ some h ∧ W2.cell? ⟨h, k, none⟩ = some (.int .i64 x) := by
      intro k x hx
      obtain ⟨h, rfl, hh⟩ := hfg (fun e => by rw [e] at hx; simp at hx)
      refine ⟨h, rfl, by omega, fun e => ?_, ?_⟩
      · have := hlow1 h (hob2 ▸ e)
        omega
      · have := si_get' hsi hx
        rw [Nat.zero_add] at this
        exact this
    obtain ⟨fl, hfl⟩ : ∃ fl, Pr.fols l op = fl := ⟨_, rfl⟩
    rw [hfl] at hY hFl hcell ⊢
    have HFL := Lib.hid hfl
    clear hfl hv hb2 hsi hfg HF hfe hob2 hlow1 hJ1 ho1 hs1 hl1
    gi_wp2
    gi_loopw [20] (fun i wr => ∃ k : Nat, k ≤ fl.length ∧ i = .int .i64 k ∧ J (op :: fl.take k) wr ∧ (W2 = wr ∨ Kp base g W2 wr)) (fun i _ => fl.length - (intOf i).toNat)
    case atStart => exact ⟨0, Nat.zero_le _, rfl, by simpa using hJ2, .inl rfl⟩
    case round =>
      obtain ⟨k, hk2, rfl, hJs, hkp⟩ := hrel
      by_cases hlt : k < fl.length
      · obtain ⟨x, hx⟩ := get_ex rfl hlt
        obtain ⟨h, rfl, hh1, hh2, hh3⟩ := hcell k x hx
        have hcx : wr.cell? ⟨h, k, none⟩ = some (.int .i64 x) := by
          rcases hkp with rfl | hkp
          · exact hh3
          · exact hkp.cell hh3 hh1 hh2
        have HT := Lib.hid (take_snoc hx op)
        obtain ⟨f2, t2, a2, b2, hy2, hR2⟩ := hY _ x wr hJs (by simp; omega)
        clear hcell hx hh3
        gi_wp2
        refine hR2.mono ?_
        rintro e W3 (⟨rfl, hJ3, hk3⟩ | ⟨rfl, hJx3⟩)
        · rw [HT.out] at hJ3
          have hkn : W2 = W3 ∨ Kp base g W2 W3 := by
            rcases hkp with rfl | hkp
            · exact .inr hk3
            · exact .inr (hkp.trans hk3)
          gi_wp2
          go_roundw
          case rel => exact ⟨k + 1, by omega, by go_num, hJ3, hkn⟩
          case measure => simp [intOf]; omega
        · gi_wp2
          refine bodyPost_ret (results_none rfl _ _ _) rfl ?_
          exact ⟨⟨_, rfl⟩, .inr ⟨_, trivial, hJx3⟩⟩
      · obtain rfl : k = fl.length := by omega
        rw [List.take_length] at hJs
        gi_wp2
        go_end0
        exact ⟨⟨_, rfl⟩, .inl ⟨_, by rw [HFL.out], hJs⟩⟩
  · gi_wp2
    refine bodyPost_ret (results_none rfl _ _ _) rfl ?_
    exact ⟨⟨_, rfl⟩, .inr ⟨[op], trivial, hx1⟩⟩

end Go.Proofs.Ytcolekfjmhgldaa
