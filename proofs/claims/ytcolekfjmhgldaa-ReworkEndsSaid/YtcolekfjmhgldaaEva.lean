/- Slices of events of a call's own; append. -/
import Derived.Test.YtcolekfjmhgldaaY
namespace Go.Proofs.Ytcolekfjmhgldaa
open Go.RowKit

/-- the cells of a list of points -/
def cells : List (Int × Int) → List Value
  | [] => []
  | p :: r => .int .i64 p.1 :: .int .i64 p.2 :: cells r

theorem length_cellsE : ∀ l : List (Int × Int), (cells l).length = l.length * 2
  | [] => rfl
  | _ :: r => by simp [cells, length_cellsE r]; omega
theorem cells_appendE : ∀ a b : List (Int × Int), cells (a ++ b) = cells a ++ cells b
  | [], _ => rfl
  | _ :: r, b => by simp [cells, cells_appendE r b]
theorem cells_oneE : ∀ (l : List (Int × Int)), ∀ u ∈ cells l, u.oneCell' = true
  | [], u, h => by simp [cells] at h
  | p :: r, u, h => by
    simp only [cells, List.mem_cons] at h
    rcases h with rfl | rfl | h
    · rfl
    · rfl
    · exact cells_oneE r u h
theorem cells_at : ∀ (l : List (Int × Int)) (i : Nat) (x y : Int), l[i]? = some (x, y) → (cells l)[i * 2]? = some (.int .i64 x) ∧ (cells l)[i * 2 + 1]? = some (.int .i64 y)
  | [], i, x, y, h => by simp at h
  | p :: r, 0, x, y, h => by simp at h; subst h; simp [cells]
  | p :: r, i + 1, x, y, h => by
    have := cells_at r i x y (by simpa using h)
    rw [show (i + 1) * 2 = i * 2 + 1 + 1 by omega]
    simpa [cells] using this
theorem cells_at_of : ∀ (l : List (Int × Int)) (j : Nat) (u : Value), (cells l)[j]? = some u → ∃ i x y, l[i]? = some (x, y) ∧ ((j = i * 2 ∧ u = .int .i64 x) ∨ (j = i * 2 + 1 ∧ u = .int .i64 y))
  | [], j, u, h => by simp [cells] at h
  | p :: r, 0, u, h => ⟨0, p.1, p.2, by simp, .inl ⟨rfl, by simpa [cells] using h.symm⟩⟩
  | p :: r, 1, u, h => ⟨0, p.1, p.2, by simp, .inr ⟨rfl, by simpa [cells] using h.symm⟩⟩
  | p :: r, j + 2, u, h => by
    obtain ⟨i, x, y, hi, h'⟩ := cells_at_of r j u (by simpa [cells] using h)
    refine ⟨i + 1, x, y, by simpa using hi, ?_⟩
    rcases h' with ⟨h1, h2⟩ | ⟨h1, h2⟩
    · exact .inl ⟨by omega, h2⟩
    · exact .inr ⟨by omega, h2⟩

/-- the slice v is the call's own (from block base on) and reads as l -/
def Oe (w : World) (base : Nat) (v : Value) (l : List (Int × Int)) : Prop := w.ownsRow base 34 2 v l.length (cells l)

theorem Se.cells {w : World} {B : Nat} {A : Option Addr} {l : List (Int × Int)} (h : Se w B A l) (hl : 0 < l.length) : ∃ b off, A = some ⟨b, off, none⟩ ∧ b < B ∧ ∀ j u, (cells l)[j]? = some u → w.cell? ⟨b, off + j, none⟩ = some u := by
  rcases h with rfl | ⟨b, off, h1, h2, h3⟩
  · simp at hl
  · refine ⟨b, off, h1, h2, fun j u hj => ?_⟩
    obtain ⟨i, x, y, hi, h'⟩ := cells_at_of l j u hj
    obtain ⟨c1, c2⟩ := h3 i (x, y) hi
    rcases h' with ⟨rfl, rfl⟩ | ⟨rfl, rfl⟩
    · exact c1
    · exact c2
theorem Se.of_cells {w : World} {B : Nat} {A : Option Addr} {l : List (Int × Int)} {b off : Nat} (h1 : A = some ⟨b, off, none⟩) (h2 : b < B) (h3 : ∀ j u, (Ytcolekfjmhgldaa.cells l)[j]? = some u → w.cell? ⟨b, off + j, none⟩ = some u) : Se w B A l :=
  .inr ⟨b, off, h1, h2, fun i e hi => by
    obtain ⟨c1, c2⟩ := cells_at l i e.1 e.2 hi
    exact ⟨h3 _ _ c1, h3 _ _ c2⟩⟩

theorem Oe.shape {w : World} {base : Nat} {v : Value} {l : List (Int × Int)} (h : Oe w base v l) : ∃ A c, v = .slice A l.length c ∧ l.length ≤ c ∧ Se w w.heap.size A l := by
  have h0 := h
  rcases h.2 with ⟨rfl, h2⟩ | ⟨g, cap, cur, rfl, hb, hg, hn, hm, hs, ht⟩
  · exact ⟨none, 0, by rw [h2], by omega, .inl (List.eq_nil_of_length_eq_zero h2)⟩
  · have hlt : g < w.heap.size := by
      rcases Nat.lt_or_ge g w.heap.size with hl | hl
      · exact hl
      · rw [Array.getElem?_eq_none hl] at hg; cases hg
    refine ⟨_, _, rfl, hn, Se.of_cells (b := g) (off := 0) rfl hlt fun j u hj => ?_⟩
    have := h0.cells (g := g) rfl j u hj
    rw [Nat.zero_add]
    have e : (⟨g, 0, none⟩ : Addr).add j = ⟨g, j, none⟩ := by unfold Addr.add; split <;> simp_all
    rw [e] at this
    exact this
theorem Oe.nil (w : World) (base : Nat) : Oe w base (.slice none 0 0) [] := World.ownsRow_nil w base 34 2
theorem Oe.drewN {w : World} {base : Nat} {v : Value} {l : List (Int × Int)} (h : Oe w base v l) (n : Nat) : Oe (w.drewN n) base v l := h
theorem Oe.alloc {w : World} {base : Nat} {v : Value} {l : List (Int × Int)} (h : Oe w base v l) (o : Obj) : Oe (w.alloc o) base v l := World.ownsRow.alloc h o
theorem Oe.kept {w w' : World} {base : Nat} {v : Value} {l : List (Int × Int)} {row : Option Nat} (h : Oe w base v l) (hg : w.grownBy w' row) (hne : v.ownBlock = none ∨ v.ownBlock ≠ row) : Oe w' base v l := World.ownsRow.kept h hg hne
theorem Oe.below {w w' : World} {base : Nat} {v : Value} {l : List (Int × Int)} (h : Oe w base v l) (hb : Below w.heap.size w w') : Oe w' base v l := by
  refine h.kept (grown_of_below hb) ?_
  cases hv : v.ownBlock
  · exact .inl rfl
  · exact .inr (by simp)

theorem ev_info : (Try.prog.info? 34).map (fun i => (i.zero, i.size, i.bytes)) = some (some (.agg #[.int .i64 0, .int .i64 0]), 2, 16) := by kernel_rfl

theorem run_append_of_nilE (w : World) (base : Nat) (ty : TypeId) (v : Value) (l : List (Int × Int)) (hown : Oe w base v l) (c : Nat) : (Builtin.append_ #[23, 23] ty #[v, .slice none 0 c]).run Try.prog w = .ok v w := by
  obtain ⟨i0, hi0, hz0, hz1, hz2⟩ := info_parts ev_info
  rcases hown.2 with ⟨rfl, _⟩ | ⟨g, cap, cur, rfl, _, _, hnc, _⟩
  · simp [Builtin.append_, run_underlying Try.underlying23, sizeOf, typeInfo, hi0, Builtin.lenOf, Builtin.firstCells]
  · simp [Builtin.append_, run_underlying Try.underlying23, sizeOf, typeInfo, hi0, Builtin.lenOf, Builtin.firstCells, hnc, storeCells]

/-- append(v, x...): v the call's own, x any slice of points -/
theorem run_append_evs (w : World) (base : Nat) (ty : TypeId) (v : Value) (l1 : List (Int × Int)) (hown : Oe w base v l1) (B : Nat) (A : Option Addr) (l2 : List (Int × Int)) (c : Nat) (hs : Se w B A l2) (hA : l2 = [] → A = none ∨ ∃ a, A = some a)
    (hlen : l1.length + l2.length ≤ 65536) (hbase : base ≤ w.heap.size) :
    ∃ v' w', (Builtin.append_ #[23, 23] ty #[v, .slice A l2.length c]).run Try.prog w = .ok v' w' ∧ Oe w' base v' (l1 ++ l2) ∧ w.grownBy w' v.ownBlock ∧ (v'.ownBlock = v.ownBlock ∨ v'.ownBlock = some w.heap.size) := by
  obtain ⟨i0, hi0, hz0, hz1, hz2⟩ := info_parts ev_info
  rcases A with _ | ad
  · have h0 : l2 = [] := by
      rcases hs with h | ⟨b, off, h, _⟩
      · exact h
      · cases h
    subst h0
    exact ⟨v, w, run_append_of_nilE w base ty v l1 hown c, by rw [List.append_nil]; exact hown, World.grownBy.refl w _, .inl rfl⟩
  · have hcells : ∀ j u, (cells l2)[j]? = some u → w.cell? (ad.add j) = some u := by
      intro j u hu
      have hpos : 0 < l2.length := by
        rcases l2 with _ | ⟨p, r⟩
        · simp [cells] at hu
        · simp
      obtain ⟨b, off, e, _, hc⟩ := hs.cells hpos
      obtain rfl : ad = ⟨b, off, none⟩ := Option.some.inj e
      have e2 : (⟨b, off, none⟩ : Addr).add j = ⟨b, off + j, none⟩ := by unfold Addr.add; split <;> simp_all
      rw [e2]
      exact hc j u hu
    obtain ⟨v', w', hrun, h2, h3, _, h5⟩ := run_append_own_at (P := Try.prog) w base 23 ty 34 i0 (.agg #[.int .i64 0, .int .i64 0]) 2 16 Try.underlying23 hi0 hz0 hz1 hz2 rfl (by omega) v l1.length (cells l1) hown ad l2.length c (cells l2) (length_cellsE l2) hcells (cells_oneE l2) (by unfold maxLen; omega) (by omega) hbase
    refine ⟨v', w', hrun, ?_, h3, h5⟩
    unfold Oe
    rw [cells_appendE, List.length_append]
    exact h2

theorem wp_append_evs {o : Oper} {a : Act} {K : Act → World → Prop} {Q : Exit → Act → World → Prop} (w : World) (s x : Operand)
    (ho : o.op = .call { callee := .builtin .append, args := #[s, x], argTypes := #[23, 23] })
    (base : Nat) (v : Value) (l1 : List (Int × Int)) (hv : a.eval s = v) (hown : Oe w base v l1) (B : Nat) (A : Option Addr) (l2 : List (Int × Int)) (n c : Nat) (hx : a.eval x = .slice A n c) (hn : n = l2.length) (hs : Se w B A l2)
    (hlen : l1.length + l2.length ≤ 65536) (hbase : base ≤ w.heap.size)
    (h : ∀ v' w', Oe w' base v' (l1 ++ l2) → w.grownBy w' v.ownBlock → (v'.ownBlock = v.ownBlock ∨ v'.ownBlock = some w.heap.size) → K (a.put o.dst v') w') : o.wp Try.prog a w K Q := by
  subst hn
  obtain ⟨v', w', hrun, h2, h3, h4⟩ := run_append_evs w base o.type v l1 hown B A l2 c hs (fun _ => by cases A <;> simp) hlen hbase
  unfold Oper.wp execOp
  simp only [ho, resolve, invoke, builtin, Sem.run_bind, Sem.run_pure, Result.andThen_ok, List.map_toArray, List.map_cons, List.map_nil, hv, hx, hrun]
  exact h v' w' h2 h3 h4

theorem wpList_append_evs {ops : Array Oper} {rest : List Oper} {o : Oper} {a : Act} {Q : Exit → Act → World → Prop} (w : World) (hgd : o.guard = none) (s x : Operand)
    (ho : o.op = .call { callee := .builtin .append, args := #[s, x], argTypes := #[23, 23] })
    (base : Nat) (v : Value) (l1 : List (Int × Int)) (hv : a.eval s = v) (hown : Oe w base v l1) (B : Nat) (A : Option Addr) (l2 : List (Int × Int)) (n c : Nat) (hx : a.eval x = .slice A n c) (hn : n = l2.length) (hs : Se w B A l2)
    (hlen : l1.length + l2.length ≤ 65536) (hbase : base ≤ w.heap.size)
    (h : ∀ v' w', Oe w' base v' (l1 ++ l2) → w.grownBy w' v.ownBlock → (v'.ownBlock = v.ownBlock ∨ v'.ownBlock = some w.heap.size) → wpList Try.prog ops Q rest (a.put o.dst v') w') : wpList Try.prog ops Q (o :: rest) a w :=
  wpList_plain hgd fun _ hK => wp_append_evs w s x ho base v l1 hv hown B A l2 n c hx hn hs hlen hbase fun v' w' h2 h3 h4 => hK _ _ (h v' w' h2 h3 h4)


end Go.Proofs.Ytcolekfjmhgldaa
