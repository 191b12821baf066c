/- Slices of ints and bools in memory: how they read, what a call owns, make and append. -/
import Derived.Test.YtcolekfjmhgldaaRows
import Derived.WalkKit
import Derived.WalkSpells
import Derived.WalkLawsBesides
import Derived.Deep.QuietTactic
import Derived.BigQuiet
import Derived.RegionTactic
import Derived.Outline
import Derived.Lib.Hide
import Derived.Laws.OwnMore
import Derived.OwnWalk
import Derived.Below
import Derived.Maps.AppendAt
import Derived.Deep.AppendLies
import Derived.Lib.SliceRun
namespace Go.Proofs.Ytcolekfjmhgldaa
open Go.RowKit

theorem ret_int {k : IntKind} {a b : Int} (h : a = b) : Ending.returned (.int k a) = .returned (.int k b) := by rw [h]
theorem ret_bool {a b : Bool} (h : a = b) : Ending.returned (.bool a) = .returned (.bool b) := by rw [h]

/-- The slice at A reads as l and lies below block B. -/
def Si (w : World) (B : Nat) (A : Option Addr) (l : List Int) : Prop :=
  l = [] ∨ ∃ b off, A = some ⟨b, off, none⟩ ∧ b < B ∧ ∀ i x, l[i]? = some x → w.cell? ⟨b, off + i, none⟩ = some (.int .i64 x)
theorem Si.at_ {w : World} {B : Nat} {A : Option Addr} {l : List Int} (h : Si w B A l) (i : Nat) (hi : i < l.length) :
    ∃ b off, A = some ⟨b, off, none⟩ ∧ b < B ∧ w.cell? ⟨b, off + i, none⟩ = some (.int .i64 l[i]) := by
  rcases h with rfl | ⟨b, off, h1, h2, h3⟩
  · simp at hi
  · exact ⟨b, off, h1, h2, h3 i _ (List.getElem?_eq_getElem hi)⟩
theorem Si.keep {w w' : World} {B : Nat} {A : Option Addr} {l : List Int} (h : Si w B A l) (hk : ∀ p : Addr, p.block < B → w'.cell? p = w.cell? p) : Si w' B A l := by
  rcases h with rfl | ⟨b, off, h1, h2, h3⟩
  · exact .inl rfl
  · exact .inr ⟨b, off, h1, h2, fun i x hi => (hk _ h2).trans (h3 i x hi)⟩
theorem Si.below {w w' : World} {B : Nat} {A : Option Addr} {l : List Int} (h : Si w B A l) (hb : Below B w w') : Si w' B A l := h.keep fun _ hp => hb.cell hp
theorem Si.more {w : World} {B B' : Nat} {A : Option Addr} {l : List Int} (h : Si w B A l) (hB : B ≤ B') : Si w B' A l := by
  rcases h with rfl | ⟨b, off, h1, h2, h3⟩
  · exact .inl rfl
  · exact .inr ⟨b, off, h1, by omega, h3⟩
theorem Si.take {w : World} {B : Nat} {A : Option Addr} {l : List Int} (h : Si w B A l) (k : Nat) : Si w B A (l.take k) := by
  rcases h with rfl | ⟨b, off, h1, h2, h3⟩
  · exact .inl (by simp)
  · refine .inr ⟨b, off, h1, h2, fun i x hi => h3 i x ?_⟩
    rw [List.getElem?_take] at hi
    split at hi
    · exact hi
    · cases hi

/-- the slice v is the call's own (from block base on) and reads as l -/
def Oi (w : World) (base : Nat) (v : Value) (l : List Int) : Prop := w.ownsRow base 3 1 v l.length (l.map (Value.int .i64))

theorem Oi.lenEq {w : World} {base g cap n : Nat} {l : List Int} (h : Oi w base (.slice (some ⟨g, 0, none⟩) n cap) l) : n = l.length := by
  rcases h.2 with ⟨h1, _⟩ | ⟨g', cap', cur, h1, _⟩
  · cases h1
  · injection h1
theorem Oi.at_ {w : World} {base g cap n : Nat} {l : List Int} (h : Oi w base (.slice (some ⟨g, 0, none⟩) n cap) l) (i : Nat) (hi : i < l.length) : w.cell? ⟨g, i, none⟩ = some (.int .i64 l[i]) := by
  have hn := h.lenEq
  subst hn
  have := World.ownsRow.cellAt h i (by omega)
  rw [this]
  simp [hi]
theorem Oi.frozenAt {w : World} {base g cap n : Nat} {l : List Int} (h : Oi w base (.slice (some ⟨g, 0, none⟩) n cap) l) (j : Nat) : w.frozen? ⟨g, j, none⟩ = false := by
  have hn := h.lenEq
  subst hn
  exact World.ownsRow.frozenAt h j
theorem Oi.set {w : World} {base g cap n : Nat} {l : List Int} (h : Oi w base (.slice (some ⟨g, 0, none⟩) n cap) l) (j : Nat) (x : Int) : Oi (w.setCell ⟨g, j, none⟩ (.int .i64 x)) base (.slice (some ⟨g, 0, none⟩) n cap) (l.set j x) := by
  have hn := h.lenEq
  subst hn
  have := (World.ownsRow.stored h j (.int .i64 x)).1
  unfold Oi
  rw [List.length_set, List.map_set]
  exact this
theorem Oi.drewN {w : World} {base : Nat} {v : Value} {l : List Int} (h : Oi w base v l) (n : Nat) : Oi (w.drewN n) base v l := h
theorem Oi.alloc {w : World} {base : Nat} {v : Value} {l : List Int} (h : Oi w base v l) (o : Obj) : Oi (w.alloc o) base v l := World.ownsRow.alloc h o
theorem grown_of_below {w w' : World} (h : Below w.heap.size w w') : w.grownBy w' none := ⟨h.os, h.tape, h.output, h.size, fun i hi _ => h.block i hi⟩
theorem Oi.below {w w' : World} {base : Nat} {v : Value} {l : List Int} (h : Oi w base v l) (hb : Below w.heap.size w w') : Oi w' base v l := by
  refine World.ownsRow.kept h (grown_of_below hb) ?_
  cases hv : v.ownBlock
  · exact .inl rfl
  · exact .inr (by simp)
theorem Oi.shape {w : World} {base : Nat} {v : Value} {l : List Int} (h : Oi w base v l) : ∃ A c, v = .slice A l.length c ∧ l.length ≤ c ∧ c ≤ maxLen ∧ Si w w.heap.size A l ∧ (l ≠ [] → ∃ g, A = some ⟨g, 0, none⟩ ∧ base ≤ g) := by
  have h0 := h
  rcases h.2 with ⟨rfl, h2⟩ | ⟨g, cap, cur, rfl, hb, hg, hn, hm, hs, ht⟩
  · exact ⟨none, 0, by rw [h2], by omega, by unfold maxLen; omega, .inl (List.eq_nil_of_length_eq_zero h2), fun hne => absurd (List.eq_nil_of_length_eq_zero h2) hne⟩
  · have hlt : g < w.heap.size := by
      rcases Nat.lt_or_ge g w.heap.size with hl | hl
      · exact hl
      · rw [Array.getElem?_eq_none hl] at hg; cases hg
    refine ⟨_, _, rfl, hn, hm, .inr ⟨g, 0, rfl, hlt, fun i x hi => ?_⟩, fun _ => ⟨g, rfl, hb⟩⟩
    obtain ⟨h1, h2⟩ := List.getElem?_eq_some_iff.1 hi
    subst h2
    rw [Nat.zero_add]
    exact h0.at_ i h1
theorem b_tr {w W W' : World} (h : Below w.heap.size w W) (h' : Below W.heap.size W W') : Below w.heap.size w W' := h.trans (h'.mono h.size)
theorem b_al {w W : World} (h : Below w.heap.size w W) (o : Obj) : Below w.heap.size w (W.alloc o) := h.alloc h.size o

theorem int_info : (Try.prog.info? 3).map (fun i => (i.zero, i.size, i.bytes)) = some (some (.int .i64 0), 1, 8) := by kernel_rfl
theorem made_zero (n : Nat) : (madeCells (Value.cells (.int .i64 0)) (n * 1)).toList = (List.replicate n (0 : Int)).map (Value.int .i64) := by
  apply List.ext_getElem?
  intro i
  simp [madeCells, Value.cells, List.getElem?_replicate]
  by_cases h : i < n
  · simp [h, Nat.mod_one]
  · simp [h]

theorem make_ints (w : World) (m : Nat) (hm : m ≤ 65536) : ∃ w', (Instr.makeSlice 25 (.int .i64 (m : Int)) (.int .i64 (m : Int))).run Try.prog w = .ok (.slice (some ⟨w.heap.size, 0, none⟩) m m) w' ∧
    Oi w' w.heap.size (.slice (some ⟨w.heap.size, 0, none⟩) m m) (List.replicate m 0) ∧ Below w.heap.size w w' := by
  obtain ⟨i0, hi, hz0, hz1, hz2⟩ := info_parts int_info
  obtain ⟨w', h1, h2, h3⟩ := run_make_full (P := Try.prog) w w.heap.size 25 3 i0 (.int .i64 0) 1 Try.underlying25 hi hz0 hz1 .i64 .i64 m (by rw [hz2]; omega) (by unfold maxLen; omega) (Nat.le_refl _)
  refine ⟨w', h1, ?_, (Below.refl _ _).grown h3 (Nat.le_refl _) (by simp)⟩
  rw [made_zero] at h2
  unfold Oi
  rw [List.length_replicate]
  exact h2

theorem Oi.get {w : World} {base g cap n : Nat} {l : List Int} (h : Oi w base (.slice (some ⟨g, 0, none⟩) n cap) l) {i : Nat} {x : Int} (hi : l[i]? = some x) : w.cell? ⟨g, i, none⟩ = some (.int .i64 x) := by
  obtain ⟨h1, h2⟩ := List.getElem?_eq_some_iff.1 hi
  subst h2
  exact h.at_ i h1
theorem get_ex {c : List Int} {i n : Nat} (hc : c.length = n) (hi : i < n) : ∃ x, c[i]? = some x := ⟨_, List.getElem?_eq_getElem (by omega)⟩
theorem grown_drewN {a w : World} {row : Option Nat} (h : a.grownBy w row) (n : Nat) : a.grownBy (w.drewN n) row := ⟨h.os, h.tape, h.output, h.size, h.block⟩
theorem b_set {a w : World} {g : Nat} (h : Below a.heap.size a w) (hg : a.heap.size ≤ g) (j : Nat) (u : Value) : Below a.heap.size a (w.setCell ⟨g, j, none⟩ u) := h.setCell hg u

theorem ints_one (l : List Int) : ∀ u ∈ l.map (Value.int .i64), u.oneCell' = true := by
  intro u hu
  obtain ⟨x, _, rfl⟩ := List.mem_map.1 hu
  rfl

theorem run_append_of_nil (w : World) (base : Nat) (ty : TypeId) (v : Value) (l : List Int) (hown : Oi w base v l) (c : Nat) : (Builtin.append_ #[25, 25] ty #[v, .slice none 0 c]).run Try.prog w = .ok v w := by
  obtain ⟨i0, hi0, hz0, hz1, hz2⟩ := info_parts int_info
  rcases hown.2 with ⟨rfl, _⟩ | ⟨g, cap, cur, rfl, _, _, hnc, _⟩
  · simp [Builtin.append_, run_underlying Try.underlying25, sizeOf, typeInfo, hi0, Builtin.lenOf, Builtin.firstCells]
  · simp [Builtin.append_, run_underlying Try.underlying25, sizeOf, typeInfo, hi0, Builtin.lenOf, Builtin.firstCells, hnc, storeCells]

theorem run_append_ints (w : World) (base : Nat) (ty : TypeId) (v : Value) (l1 : List Int) (hown : Oi w base v l1) (B : Nat) (A : Option Addr) (l2 : List Int) (c : Nat) (hs : Si w B A l2)
    (hlen : l1.length + l2.length ≤ 65536) (hbase : base ≤ w.heap.size) :
    ∃ v' w', (Builtin.append_ #[25, 25] ty #[v, .slice A l2.length c]).run Try.prog w = .ok v' w' ∧ Oi w' base v' (l1 ++ l2) ∧ w.grownBy w' v.ownBlock ∧ (v'.ownBlock = v.ownBlock ∨ v'.ownBlock = some w.heap.size) := by
  obtain ⟨i0, hi0, hz0, hz1, hz2⟩ := info_parts int_info
  rcases A with _ | ad
  · have h0 : l2 = [] := by
      rcases hs with h | ⟨b, off, h, _⟩
      · exact h
      · cases h
    subst h0
    exact ⟨v, w, run_append_of_nil w base ty v l1 hown c, by rw [List.append_nil]; exact hown, World.grownBy.refl w _, .inl rfl⟩
  · have hcells : ∀ j u, (l2.map (Value.int .i64))[j]? = some u → w.cell? (ad.add j) = some u := by
      intro j u hu
      rw [List.getElem?_map] at hu
      cases hx : l2[j]? with
      | none => rw [hx] at hu; simp at hu
      | some x =>
        rw [hx] at hu
        simp at hu
        subst hu
        rcases hs with h | ⟨b, off, e, _, hc⟩
        · subst h; simp at hx
        · obtain rfl : ad = ⟨b, off, none⟩ := Option.some.inj e
          have e2 : (⟨b, off, none⟩ : Addr).add j = ⟨b, off + j, none⟩ := by unfold Addr.add; split <;> simp_all
          rw [e2]
          exact hc j x hx
    obtain ⟨v', w', hrun, h2, h3, _, h5⟩ := run_append_own_at (P := Try.prog) w base 25 ty 3 i0 (.int .i64 0) 1 8 Try.underlying25 hi0 hz0 hz1 hz2 rfl (by omega) v l1.length (l1.map (Value.int .i64)) hown ad l2.length c (l2.map (Value.int .i64)) (by simp) hcells (ints_one l2) (by unfold maxLen; omega) (by omega) hbase
    refine ⟨v', w', hrun, ?_, h3, h5⟩
    unfold Oi
    rw [List.map_append, List.length_append]
    exact h2

theorem wp_append_ints {o : Oper} {a : Act} {K : Act → World → Prop} {Q : Exit → Act → World → Prop} (w : World) (s x : Operand)
    (ho : o.op = .call { callee := .builtin .append, args := #[s, x], argTypes := #[25, 25] })
    (base : Nat) (v : Value) (l1 : List Int) (hv : a.eval s = v) (hown : Oi w base v l1) (B : Nat) (A : Option Addr) (l2 : List Int) (n c : Nat) (hx : a.eval x = .slice A n c) (hn : n = l2.length) (hs : Si w B A l2)
    (hlen : l1.length + l2.length ≤ 65536) (hbase : base ≤ w.heap.size)
    (h : ∀ v' w', Oi w' base v' (l1 ++ l2) → w.grownBy w' v.ownBlock → (v'.ownBlock = v.ownBlock ∨ v'.ownBlock = some w.heap.size) → K (a.put o.dst v') w') : o.wp Try.prog a w K Q := by
  subst hn
  obtain ⟨v', w', hrun, h2, h3, h4⟩ := run_append_ints w base o.type v l1 hown B A l2 c hs hlen hbase
  unfold Oper.wp execOp
  simp only [ho, resolve, invoke, builtin, Sem.run_bind, Sem.run_pure, Result.andThen_ok, List.map_toArray, List.map_cons, List.map_nil, hv, hx, hrun]
  exact h v' w' h2 h3 h4

theorem wpList_append_ints {ops : Array Oper} {rest : List Oper} {o : Oper} {a : Act} {Q : Exit → Act → World → Prop} (w : World) (hgd : o.guard = none) (s x : Operand)
    (ho : o.op = .call { callee := .builtin .append, args := #[s, x], argTypes := #[25, 25] })
    (base : Nat) (v : Value) (l1 : List Int) (hv : a.eval s = v) (hown : Oi w base v l1) (B : Nat) (A : Option Addr) (l2 : List Int) (n c : Nat) (hx : a.eval x = .slice A n c) (hn : n = l2.length) (hs : Si w B A l2)
    (hlen : l1.length + l2.length ≤ 65536) (hbase : base ≤ w.heap.size)
    (h : ∀ v' w', Oi w' base v' (l1 ++ l2) → w.grownBy w' v.ownBlock → (v'.ownBlock = v.ownBlock ∨ v'.ownBlock = some w.heap.size) → wpList Try.prog ops Q rest (a.put o.dst v') w') : wpList Try.prog ops Q (o :: rest) a w :=
  wpList_plain hgd fun _ hK => wp_append_ints w s x ho base v l1 hv hown B A l2 n c hx hn hs hlen hbase fun v' w' h2 h3 h4 => hK _ _ (h v' w' h2 h3 h4)

theorem b_app {w0 w w' : World} {v : Value} {l : List Int} (hb : Below w0.heap.size w0 w) (how : Oi w w0.heap.size v l) (hg : w.grownBy w' v.ownBlock) : Below w0.heap.size w0 w' :=
  hb.trans ((Below.refl _ _).grown hg hb.size (fun k hk => (World.ownsRow.lt how k hk).1))
theorem one_cell (w : World) (x : Int) : Si (w.alloc (.cells #[.int .i64 x] 3)) (w.heap.size + 1) (some ⟨w.heap.size, 0, none⟩) [x] :=
  .inr ⟨w.heap.size, 0, rfl, by omega, fun i y hi => by
    match i, hi with
    | 0, hi => simp at hi; subst hi; simp⟩

theorem size_al (w : World) (o : Obj) : (w.alloc o).heap.size = w.heap.size + 1 := by simp
theorem lit1 (w : World) (x : Int) : Si (w.alloc (.cells #[.int .i64 x] 3)) (w.alloc (.cells #[.int .i64 x] 3)).heap.size (some ⟨w.heap.size, 0, none⟩) [x] := by
  rw [size_al]; exact one_cell w x
theorem b_new (W : World) (o : Obj) : Below W.heap.size W (W.alloc o) := (Below.refl _ _).alloc (Nat.le_refl _) o
theorem Oi.si {w : World} {base g n c : Nat} {l : List Int} (h : Oi w base (.slice (some ⟨g, 0, none⟩) n c) l) : Si w w.heap.size (some ⟨g, 0, none⟩) l := by
  obtain ⟨A, c', hA, _, _, hs, _⟩ := h.shape
  injection hA with h1 h2 h3
  rw [h1]
  exact hs
theorem si_alloc {w W : World} {A : Option Addr} {l : List Int} (h : Si w w.heap.size A l) (hb : Below w.heap.size w W) (o : Obj) : Si (W.alloc o) (W.alloc o).heap.size A l := (h.below (b_al hb o)).more (b_al hb o).size

/-- a slice of bools of the call's own -/
def Ob (w : World) (base : Nat) (v : Value) (l : List Bool) : Prop := w.ownsRow base 4 1 v l.length (l.map Value.bool)
theorem Ob.lenEq {w : World} {base g cap n : Nat} {l : List Bool} (h : Ob w base (.slice (some ⟨g, 0, none⟩) n cap) l) : n = l.length := by
  rcases h.2 with ⟨h1, _⟩ | ⟨g', cap', cur, h1, _⟩
  · cases h1
  · injection h1
theorem Ob.get {w : World} {base g cap n : Nat} {l : List Bool} (h : Ob w base (.slice (some ⟨g, 0, none⟩) n cap) l) {i : Nat} {x : Bool} (hi : l[i]? = some x) : w.cell? ⟨g, i, none⟩ = some (.bool x) := by
  have hn := h.lenEq
  subst hn
  obtain ⟨h1, h2⟩ := List.getElem?_eq_some_iff.1 hi
  have := World.ownsRow.cellAt h i (by omega)
  rw [this, List.getElem?_map, hi]
  rfl
theorem Ob.frozenAt {w : World} {base g cap n : Nat} {l : List Bool} (h : Ob w base (.slice (some ⟨g, 0, none⟩) n cap) l) (j : Nat) : w.frozen? ⟨g, j, none⟩ = false := by
  have hn := h.lenEq
  subst hn
  exact World.ownsRow.frozenAt h j
theorem Ob.set {w : World} {base g cap n : Nat} {l : List Bool} (h : Ob w base (.slice (some ⟨g, 0, none⟩) n cap) l) (j : Nat) (x : Bool) : Ob (w.setCell ⟨g, j, none⟩ (.bool x)) base (.slice (some ⟨g, 0, none⟩) n cap) (l.set j x) ∧ w.grownBy (w.setCell ⟨g, j, none⟩ (.bool x)) (some g) := by
  have hn := h.lenEq
  subst hn
  have := World.ownsRow.stored h j (.bool x)
  unfold Ob
  rw [List.length_set, List.map_set]
  exact this
theorem bool_info : (Try.prog.info? 4).map (fun i => (i.zero, i.size, i.bytes)) = some (some (.bool false), 1, 1) := by kernel_rfl
theorem made_false (n : Nat) : (madeCells (Value.cells (.bool false)) (n * 1)).toList = (List.replicate n false).map Value.bool := by
  apply List.ext_getElem?
  intro i
  simp [madeCells, Value.cells, List.getElem?_replicate]
  by_cases h : i < n
  · simp [h, Nat.mod_one]
  · simp [h]
theorem make_bools (w : World) (m : Nat) (hm : m ≤ 65536) : ∃ w', (Instr.makeSlice 51 (.int .i64 (m : Int)) (.int .i64 (m : Int))).run Try.prog w = .ok (.slice (some ⟨w.heap.size, 0, none⟩) m m) w' ∧
    Ob w' w.heap.size (.slice (some ⟨w.heap.size, 0, none⟩) m m) (List.replicate m false) ∧ Below w.heap.size w w' := by
  obtain ⟨i0, hi, hz0, hz1, hz2⟩ := info_parts bool_info
  obtain ⟨w', h1, h2, h3⟩ := run_make_full (P := Try.prog) w w.heap.size 51 4 i0 (.bool false) 1 Try.underlying51 hi hz0 hz1 .i64 .i64 m (by rw [hz2]; omega) (by unfold maxLen; omega) (Nat.le_refl _)
  refine ⟨w', h1, ?_, (Below.refl _ _).grown h3 (Nat.le_refl _) (by simp)⟩
  rw [made_false] at h2
  unfold Ob
  rw [List.length_replicate]
  exact h2

theorem below_grown {a w w' : World} {g : Nat} (hb : Below a.heap.size a w) (hg : w.grownBy w' (some g)) (h : a.heap.size ≤ g) : Below a.heap.size a w' :=
  hb.trans ((Below.refl _ _).grown hg hb.size (fun k hk => by injection hk with hk; omega))
theorem oi_kept {w w' : World} {base n c g g2 : Nat} {l : List Int} (h : Oi w base (.slice (some ⟨g, 0, none⟩) n c) l) (hg : w.grownBy w' (some g2)) (hne : g ≠ g2) : Oi w' base (.slice (some ⟨g, 0, none⟩) n c) l :=
  World.ownsRow.kept h hg (.inr (by intro e; exact hne (by simpa [Value.ownBlock] using e)))

theorem mem_take_succ (l : List Int) (k : Nat) (hk : k < l.length) (x : Int) : x ∈ l.take (k + 1) ↔ x ∈ l.take k ∨ x = l[k] := by
  rw [List.take_succ_eq_append_getElem hk, List.mem_append, List.mem_singleton]

theorem Oi.lt {w : World} {base g cap n : Nat} {l : List Int} (h : Oi w base (.slice (some ⟨g, 0, none⟩) n cap) l) : base ≤ g ∧ g < w.heap.size := World.ownsRow.lt h g rfl


end Go.Proofs.Ytcolekfjmhgldaa
