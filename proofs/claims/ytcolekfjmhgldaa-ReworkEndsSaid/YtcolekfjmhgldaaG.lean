/- The arrangement of the operations: the maps are laid. -/
import Derived.Test.YtcolekfjmhgldaaF
namespace Go.Proofs.Ytcolekfjmhgldaa
open Go.RowKit
open Pr (Opn)

/-- the inner maps of the keys ks -/
structure Inn (w : World) (g0 : Nat) (ks : List Int) (bl : Int → Nat) (sx : Int → List Int) : Prop where
  ms : ∀ x ∈ ks, Ms w (bl x) 2000 (sx x)
  gt : ∀ x ∈ ks, g0 < bl x
  inj : ∀ x ∈ ks, ∀ y ∈ ks, bl x = bl y → x = y
def updS (sx : Int → List Int) (x : Int) (s : List Int) : Int → List Int := fun y => if y = x then s else sx y
theorem updS_same (sx : Int → List Int) (x : Int) (s : List Int) : updS sx x s x = s := by unfold updS; rw [if_pos rfl]
theorem updS_other (sx : Int → List Int) {x y : Int} (s : List Int) (h : y ≠ x) : updS sx x s y = sx y := by unfold updS; rw [if_neg h]
theorem Inn.nil (w : World) (g0 : Nat) (bl : Int → Nat) (sx : Int → List Int) : Inn w g0 [] bl sx := ⟨fun _ h => by simp at h, fun _ h => by simp at h, fun _ h => by simp at h⟩
theorem Inn.kept {w w' : World} {g0 : Nat} {ks : List Int} {bl : Int → Nat} {sx : Int → List Int} {row : Option Nat} (h : Inn w g0 ks bl sx) (hg : w.grownBy w' row) (hr : ∀ x ∈ ks, some (bl x) ≠ row) : Inn w' g0 ks bl sx :=
  ⟨fun x hx => (h.ms x hx).kept hg (hr x hx), h.gt, h.inj⟩
theorem Inn.lt {w : World} {g0 : Nat} {ks : List Int} {bl : Int → Nat} {sx : Int → List Int} (h : Inn w g0 ks bl sx) : ∀ x ∈ ks, bl x < w.heap.size := fun x hx => (h.ms x hx).lt
theorem Inn.sub {w : World} {g0 : Nat} {ks ks' : List Int} {bl : Int → Nat} {sx : Int → List Int} (h : Inn w g0 ks bl sx) (hs : ∀ x ∈ ks', x ∈ ks) : Inn w g0 ks' bl sx :=
  ⟨fun x hx => h.ms x (hs x hx), fun x hx => h.gt x (hs x hx), fun x hx y hy => h.inj x (hs x hx) y (hs y hy)⟩
theorem Inn.add {w : World} {g0 : Nat} {ks : List Int} {bl : Int → Nat} {sx : Int → List Int} (h : Inn w g0 ks bl sx) {x : Int} {b : Nat} {s : List Int} (hx : ¬ x ∈ ks) (hm : Ms w b 2000 s) (hb : g0 < b) (hn : ∀ y ∈ ks, bl y < b) :
    Inn w g0 (ks ++ [x]) (upd bl x b) (updS sx x s) := by
  have hc : ∀ y, y ∈ ks ++ [x] → (y = x) ∨ (y ≠ x ∧ y ∈ ks) := fun y hy => by
    rcases List.mem_append.1 hy with hy | hy
    · exact .inr ⟨fun e => hx (e ▸ hy), hy⟩
    · exact .inl (List.mem_singleton.1 hy)
  refine ⟨fun y hy => ?_, fun y hy => ?_, fun y hy z hz e => ?_⟩
  · rcases hc y hy with rfl | ⟨h1, h2⟩
    · rw [upd_same, updS_same]; exact hm
    · rw [upd_other _ _ h1, updS_other _ _ h1]; exact h.ms y h2
  · rcases hc y hy with rfl | ⟨h1, h2⟩
    · rw [upd_same]; exact hb
    · rw [upd_other _ _ h1]; exact h.gt y h2
  · rcases hc y hy with rfl | ⟨h1, h2⟩
    · rcases hc z hz with rfl | ⟨h3, h4⟩
      · rfl
      · rw [upd_same, upd_other _ _ h3] at e
        have := hn z h4
        omega
    · rcases hc z hz with rfl | ⟨h3, h4⟩
      · rw [upd_same, upd_other _ _ h1] at e
        have := hn y h2
        omega
      · rw [upd_other _ _ h1, upd_other _ _ h3] at e
        exact h.inj y h2 z h4 e
theorem Inn.set {w w' : World} {g0 : Nat} {ks : List Int} {bl : Int → Nat} {sx : Int → List Int} (h : Inn w g0 ks bl sx) {x : Int} {s : List Int} (hx : x ∈ ks) (hg : w.grownBy w' (some (bl x))) (hm : Ms w' (bl x) 2000 s) :
    Inn w' g0 ks bl (updS sx x s) := by
  refine ⟨fun y hy => ?_, h.gt, h.inj⟩
  by_cases e : y = x
  · subst e; rw [updS_same]; exact hm
  · rw [updS_other _ _ e]
    refine (h.ms y hy).kept hg ?_
    intro e2
    injection e2 with e2
    exact e (h.inj y hy x hx e2)
theorem Inn.same {w : World} {g0 : Nat} {ks : List Int} {bl : Int → Nat} {sx sx' : Int → List Int} (h : Inn w g0 ks bl sx) (he : ∀ x ∈ ks, sx x = sx' x) : Inn w g0 ks bl sx' :=
  ⟨fun x hx => by rw [← he x hx]; exact h.ms x hx, h.gt, h.inj⟩

theorem mem_ids {n : Nat} {x : Int} : x ∈ Pr.ids n ↔ 0 ≤ x ∧ x < (n : Int) := by
  unfold Pr.ids
  rw [List.mem_map]
  constructor
  · rintro ⟨a, ha, rfl⟩
    have := List.mem_range.1 ha
    omega
  · rintro ⟨h1, h2⟩
    exact ⟨x.toNat, List.mem_range.2 (by omega), by omega⟩
theorem ids_succ (n : Nat) : Pr.ids (n + 1) = Pr.ids n ++ [(n : Int)] := by unfold Pr.ids; rw [List.range_succ, List.map_append]; rfl
theorem ids_length (n : Nat) : (Pr.ids n).length = n := by unfold Pr.ids; simp

/-- what the arrangement asks of the operations -/
structure Fine (l : List Opn) : Prop where
  len : l.length ≤ 16
  range : ∀ o ∈ l, ∀ a ∈ o.after, 0 ≤ a ∧ a < (l.length : Int)
  nd : ∀ o ∈ l, o.after.Nodup
theorem aft_at {l : List Opn} {i : Nat} {o : Opn} (h : l[i]? = some o) : Pr.aft l i = o.after := by unfold Pr.aft; rw [h]
def aftI (l : List Opn) (x : Int) : List Int := Pr.aft l x.toNat

theorem pickTo_yes {l : List Opn} {out : List Int} {i f : Nat} (h : Pr.readyB l out i = true) : Pr.pickTo l out (f + 1) i = some i := by rw [Pr.pickTo, if_pos h]
theorem pickTo_no {l : List Opn} {out : List Int} {i f : Nat} (h : Pr.readyB l out i = false) : Pr.pickTo l out (f + 1) i = Pr.pickTo l out f (i + 1) := by rw [Pr.pickTo, if_neg (by rw [h]; simp)]
theorem greedy_some {l : List Opn} {out : List Int} {i f : Nat} (h : Pr.pick l out = some i) : Pr.greedy l (f + 1) out = Pr.greedy l f (out ++ [(i : Int)]) := by rw [Pr.greedy, h]
theorem greedy_none {l : List Opn} {out : List Int} {f : Nat} (h : Pr.pick l out = none) : Pr.greedy l (f + 1) out = out := by rw [Pr.greedy, h]
theorem ready_out {l : List Opn} {out : List Int} {i : Nat} (h : (i : Int) ∈ out) : Pr.readyB l out i = false := by unfold Pr.readyB; rw [decide_eq_true h]; rfl
theorem ready_in {l : List Opn} {out : List Int} {i : Nat} (h : ¬ (i : Int) ∈ out) {s : List Int} (hs : ∀ a, a ∈ s ↔ (a ∈ aftI l (i : Int) ∧ ¬ a ∈ out)) : Pr.readyB l out i = decide (s = []) := by
  unfold Pr.readyB
  rw [decide_eq_false h, Bool.not_false, Bool.true_and]
  rw [Bool.eq_iff_iff, List.all_eq_true, decide_eq_true_eq]
  constructor
  · intro h1
    apply List.eq_nil_iff_forall_not_mem.2
    intro a ha
    obtain ⟨h2, h3⟩ := (hs a).1 ha
    exact h3 (by simpa using h1 a h2)
  · rintro rfl a ha
    by_cases h2 : a ∈ out
    · simpa using h2
    · exact absurd ((hs a).2 ⟨ha, h2⟩) (by simp)

def sliceLen : Value → Nat
  | .slice _ n _ => n
  | _ => 0

/-- the state between two rounds: o is laid out; ks are left, each with the predecessors that are not in o -/
structure Arr (w : World) (l : List Opn) (bl : Int → Nat) (M : Nat) (R : List Int) (wr : World) (v : Value) (o ks : List Int) (sx : Int → List Int) : Prop where
  mo : Mo wr w.heap.size 100 ks bl
  inn : Inn wr w.heap.size ks bl sx
  hks : ∀ x, x ∈ ks ↔ (0 ≤ x ∧ x < (l.length : Int) ∧ ¬ x ∈ o)
  len : ks.length + o.length = l.length
  hsx : ∀ x ∈ ks, ∀ a, a ∈ sx x ↔ (a ∈ aftI l x ∧ ¬ a ∈ o)
  ow : Oi wr M v o
  lt : ∀ x ∈ ks, bl x < M
  g0 : w.heap.size < M
  hM : M ≤ wr.heap.size
  be : Below w.heap.size w wr
  gr : Pr.greedy l (l.length - o.length) o = R
theorem Mo.tight {w : World} {b n m : Nat} {ks : List Int} {bl : Int → Nat} (h : Mo w b n ks bl) (hm : ks.length ≤ m) : Mo w b m ks bl := by
  obtain ⟨D, ⟨es, clock, hb, F, hs, hD⟩, hd⟩ := h
  refine ⟨D, ⟨es, clock, hb, F, ?_, hD⟩, hd⟩
  have h1 := hd.size
  rw [hD, Maps.size_eq, length_sorted, List.length_map, Array.length_toList] at h1
  omega
theorem Arr.start {w wr : World} {l : List Opn} {bl : Int → Nat} (hmo : Mo wr w.heap.size l.length (Pr.ids l.length) bl) (hin : Inn wr w.heap.size (Pr.ids l.length) bl (aftI l)) (hb : Below w.heap.size w wr) (hl : l.length ≤ 16) :
    Arr w l bl wr.heap.size (Pr.srt l) wr (.slice none 0 0) [] (Pr.ids l.length) (aftI l) where
  mo := hmo.tight (by rw [ids_length]; omega)
  inn := hin
  hks := fun x => by rw [mem_ids]; simp
  len := by rw [ids_length]; rfl
  hsx := fun x _ a => by simp
  ow := World.ownsRow_nil _ _ _ _
  lt := fun x hx => hin.lt x hx
  g0 := hmo.lt
  hM := Nat.le_refl _
  be := hb
  gr := rfl

/-- the inner sets while the loop over the map is under way -/
def sxL (sx : Int → List Int) (i : Int) (left : Lit → Bool) : Int → List Int := fun x => if left (kl x) = true then sx x else (sx x).erase i
theorem oi_grown {w w' : World} {base r : Nat} {v : Value} {l : List Int} (h : Oi w base v l) (hg : w.grownBy w' (some r)) (hr : r < base) : Oi w' base v l := by
  refine World.ownsRow.kept h hg ?_
  cases hv : v.ownBlock with
  | none => exact .inl rfl
  | some k =>
    have := World.ownsRow.lt h k hv
    exact .inr (fun e => by injection e with e; omega)
theorem oi_none {w w' : World} {base : Nat} {v : Value} {l : List Int} (h : Oi w base v l) (hg : w.grownBy w' none) : Oi w' base v l := by
  refine World.ownsRow.kept h hg ?_
  cases hv : v.ownBlock with
  | none => exact .inl rfl
  | some k => exact .inr (by simp)
/-- what the loop over the map keeps -/
structure Rng (w : World) (g0 M r : Nat) (D : DataW Unit) (ks : List Int) (bl : Int → Nat) (sx : Int → List Int) (i : Int) (v : Value) (o : List Int) (left : Lit → Bool) (cnt : Nat) (wq : World) : Prop where
  rg : wq.ranges Try.prog 3 ptrElem g0 r 100 D left cnt
  lf : ∀ z, left z = true → Maps.has D z = true
  inn : Inn wq g0 ks bl (sxL sx i left)
  ow : Oi wq M v o
  vr : ∀ k, v.ownBlock = some k → k < r
  be : Below g0 w wq
theorem Rng.start {w w1 w2 wr : World} {M : Nat} {D : DataW Unit} {ks ks0 : List Int} {bl : Int → Nat} {sx : Int → List Int} {i : Int} {v : Value} {o : List Int} (hin : Inn wr w.heap.size ks0 bl sx) (how : Oi wr M v o) (hbe : Below w.heap.size w wr) (hM : w.heap.size < M)
    (hsub : ∀ x ∈ ks, x ∈ ks0) (hd : ∀ x ∈ ks, Wf x → Maps.has D (kl x) = true) (hw : ∀ x ∈ ks, Wf x) (hg1 : wr.grownBy w1 (some w.heap.size)) (hg2 : w1.grownBy w2 none) (hrg : w2.ranges Try.prog 3 ptrElem w.heap.size w1.heap.size 100 D (Maps.has D) (Maps.size D)) :
    Rng w w.heap.size M w1.heap.size D ks bl sx i v o (Maps.has D) (Maps.size D) w2 where
  rg := hrg
  lf := fun _ h => h
  inn := by
    refine (((hin.kept hg1 (fun x hx e => by have := hin.gt x hx; injection e with e; omega)).kept hg2 (by simp)).sub hsub).same fun x hx => ?_
    unfold sxL
    rw [if_pos (hd x hx (hw x hx))]
  ow := oi_none (oi_grown how hg1 hM) hg2
  vr := fun k hk => by have := World.ownsRow.lt how k hk; have := hg1.size; omega
  be := (below_grown hbe hg1 (Nat.le_refl _)).trans ((Below.refl _ _).grown hg2 (by have := hg1.size; have := hbe.size; omega) (by simp))

theorem Rng.ms {w wq w1 : World} {g0 M r : Nat} {D : DataW Unit} {ks : List Int} {bl : Int → Nat} {sx : Int → List Int} {i : Int} {v : Value} {o : List Int} {left : Lit → Bool} {cnt : Nat} (h : Rng w g0 M r D ks bl sx i v o left cnt wq)
    {x : Int} (hx : x ∈ ks) (hl : left (kl x) = true) (hg : wq.grownBy w1 (some r)) (hb : bl x < r) : Ms w1 (bl x) 2000 (sx x) := by
  have := h.inn.ms x hx
  unfold sxL at this
  rw [if_pos hl] at this
  exact this.kept hg (fun e => by injection e with e; omega)
theorem Rng.step {w wq w1 w2 : World} {g0 M r : Nat} {D : DataW Unit} {ks : List Int} {bl : Int → Nat} {sx : Int → List Int} {i : Int} {v : Value} {o : List Int} {left : Lit → Bool} {cnt cnt1 : Nat} (h : Rng w g0 M r D ks bl sx i v o left cnt wq)
    {x : Int} (hx : x ∈ ks) (hwx : Wf x) (hM : ∀ y ∈ ks, bl y < M) (hr : M ≤ r) (_hg0 : g0 < M) (hrg : w1.ranges Try.prog 3 ptrElem g0 r 100 D (fun z => left z && !z.sameKey (kl x)) cnt1) (hg1 : wq.grownBy w1 (some r)) (hz1 : w1.heap.size = wq.heap.size)
    (hms : Ms w2 (bl x) 2000 ((sx x).erase i)) (hg2 : w1.grownBy w2 (some (bl x))) : Rng w g0 M r D ks bl sx i v o (fun z => left z && !z.sameKey (kl x)) cnt1 w2 := by
  have hgx := h.inn.gt x hx
  have hbx := hM x hx
  have hg0w : g0 ≤ wq.heap.size := by have := h.inn.lt x hx; omega
  refine ⟨hrg.kept hg2 (fun e => by injection e with e; omega) (fun e => by injection e with e; omega), fun z hz => h.lf z (by simp at hz; exact hz.1), ?_, ?_, h.vr, ?_⟩
  · refine ⟨fun y hy => ?_, h.inn.gt, h.inn.inj⟩
    by_cases e : y = x
    · subst e
      unfold sxL
      rw [if_neg (by simp only [WideAt.sameKey_self (keyLit hwx)]; simp)]
      exact hms
    · have h1 := h.inn.ms y hy
      have h2 : Ms w2 (bl y) 2000 (sxL sx i left y) := by
        refine (h1.kept hg1 (fun e => by have := hM y hy; injection e with e; omega)).kept hg2 (fun e2 => ?_)
        injection e2 with e2
        exact e (h.inn.inj y hy x hx e2)
      unfold sxL at h2 ⊢
      show Ms w2 (bl y) 2000 (if (left (kl y) && !(kl y).sameKey (kl x)) = true then _ else _)
      rw [Maps.sameKey_ne (kl_ne e)]
      simpa using h2
  · refine World.ownsRow.kept (World.ownsRow.kept h.ow hg1 ?_) hg2 ?_
    · cases hv : v.ownBlock with
      | none => exact .inl rfl
      | some k =>
        right
        intro e
        injection e with e
        have := h.vr k hv
        omega
    · cases hv : v.ownBlock with
      | none => exact .inl rfl
      | some k =>
        right
        intro e
        injection e with e
        have := World.ownsRow.lt h.ow k hv
        omega
  · exact (h.be.trans ((Below.refl _ _).grown hg1 hg0w (fun k e => by injection e with e; omega))).trans ((Below.refl _ _).grown hg2 (by omega) (fun k e => by injection e with e; omega))

theorem invK : ∀ key kl', keyOf Try.prog 3 key = some kl' → ∃ x, key = Value.int .i64 x := fun key kl' h => by
  obtain ⟨x, h1, _, _⟩ := Maps.keyOf_int_inv Try.underlying3 h
  exact ⟨x, h1⟩
theorem invV : ∀ v y, ptrElem v = some y → ∃ c, v = Value.map c := fun _ _ h => ptr_inv h

theorem Arr.next {w wo wq w4 w5 : World} {l : List Opn} {bl : Int → Nat} {M r cnt : Nat} {R : List Int} {v v5 : Value} {o ks : List Int} {sx : Int → List Int} {i : Nat} {D : DataW Unit} {left : Lit → Bool} {f : Nat}
    (h : Arr w l bl M R wo v o ks sx) (him : (i : Int) ∈ ks) (hpk : Pr.pick l o = some i) (hG : Pr.greedy l (f + 1) o = R) (hf : l.length - o.length = f + 1)
    (hR : Rng w w.heap.size M r D (ks.erase (i : Int)) bl sx (i : Int) v o left cnt wq) (hOD : OutD D (ks.erase (i : Int)) bl) (hl0 : ∀ z, left z = false) (hrM : M ≤ r)
    (hg4 : wq.grownBy w4 none) (hg5 : w4.grownBy w5 v.ownBlock) (ow5 : Oi w5 M v5 (o ++ [(i : Int)])) : Arr w l bl M R w5 v5 (o ++ [(i : Int)]) (ks.erase (i : Int)) (fun x => (sx x).erase (i : Int)) := by
  have hnd := h.mo.nd
  have hv : ∀ k, v.ownBlock = some k → M ≤ k := fun k hk => (World.ownsRow.lt hR.ow k hk).1
  have hne : ∀ b, b < M → some b ≠ v.ownBlock := fun b hb e => by have := hv b e.symm; omega
  have hgt := hR.rg.lt
  have hs4 := hg4.size
  have hs5 := hg5.size
  have hlt : ∀ x ∈ ks.erase (i : Int), bl x < M := fun x hx => h.lt x (List.mem_of_mem_erase hx)
  have h0 := h.g0
  refine ⟨?_, ?_, ?_, ?_, ?_, ow5, hlt, h0, by omega, ?_, ?_⟩
  · exact (Mo.kept ⟨D, hR.rg.owns, hOD⟩ hg4 (by simp)).kept hg5 (hne _ h0)
  · refine ((hR.inn.kept hg4 (by simp)).kept hg5 (fun x hx => hne _ (hlt x hx))).same fun x hx => ?_
    unfold sxL
    rw [hl0]
    rfl
  · intro x
    rw [hnd.mem_erase_iff, h.hks x, List.mem_append, List.mem_singleton]
    constructor
    · rintro ⟨h1, h2, h3, h4⟩
      exact ⟨h2, h3, fun h5 => h5.elim h4 h1⟩
    · rintro ⟨h1, h2, h3⟩
      exact ⟨fun e => h3 (.inr e), h1, h2, fun e => h3 (.inl e)⟩
  · rw [List.length_erase_of_mem him, List.length_append]
    have := h.len
    have := List.length_pos_of_mem him
    show _ - 1 + (_ + 1) = _
    omega
  · intro x hx a
    have hxk := List.mem_of_mem_erase hx
    rw [(h.inn.ms x hxk).nd.mem_erase_iff, h.hsx x hxk a, List.mem_append, List.mem_singleton]
    constructor
    · rintro ⟨h1, h2, h3⟩
      exact ⟨h2, fun h5 => h5.elim h3 h1⟩
    · rintro ⟨h1, h2⟩
      exact ⟨fun e => h2 (.inr e), h1, fun e => h2 (.inl e)⟩
  · exact (hR.be.trans ((Below.refl _ _).grown hg4 (by omega) (by simp))).trans ((Below.refl _ _).grown hg5 (by omega) (fun k hk => by have := hv k hk; omega))
  · rw [List.length_append]
    show Pr.greedy l (l.length - (o.length + 1)) _ = R
    rw [show l.length - (o.length + 1) = f by omega, ← greedy_some hpk, hG]

/-- what the arrangement returns -/
def ArrPost (w : World) (l : List Opn) (e : Ending) (w' : World) : Prop :=
  (((Pr.srt l).length < l.length ∧ e = .returned (.tuple #[.slice none 0 0, .bool false])) ∨ ((Pr.srt l).length = l.length ∧ ∃ v, e = .returned (.tuple #[v, .bool true]) ∧ Oi w' w.heap.size v (Pr.srt l))) ∧ Below w.heap.size w w'
theorem Oi.base_le {w : World} {base base' : Nat} {v : Value} {l : List Int} (h : Oi w base v l) (hb : base' ≤ base) : Oi w base' v l := by
  refine ⟨h.1, ?_⟩
  rcases h.2 with h1 | ⟨g, cap, cur, h1, h2, h3⟩
  · exact .inl h1
  · exact .inr ⟨g, cap, cur, h1, by omega, h3⟩

set_option maxRecDepth 100000 in
set_option maxHeartbeats 2000000 in
theorem arrange_lay (A : Option Addr) (c : Nat) (l : List Opn) (w : World) (hl : So w w.heap.size A l) (hf : Fine l) (hk : Oks l) :
    Calls Try.prog 45 #[.slice A l.length c] w (ArrPost w l) := by
  have hmm := @run_makeMap Try.prog
  have hlen := hf.len
  go_enter Try.func45, Try.ntmps45
  go_wp2
  go_loopw [18] (fun s18 wr => ∃ (k : Nat) (bl : Int → Nat), k ≤ l.length ∧ s18 = .int .i64 k ∧ Mo wr w.heap.size k (Pr.ids k) bl ∧ Inn wr w.heap.size (Pr.ids k) bl (aftI l) ∧ Below w.heap.size w wr) (fun s18 _ => l.length - (intOf s18).toNat)
  case atStart => exact ⟨0, fun _ => 0, Nat.zero_le _, rfl, Mo.made w _, Inn.nil _ _ _ _, b_new w _⟩
  case round =>
    obtain ⟨k, bl, hk1, rfl, hmo, hin, hb⟩ := hrel
    by_cases hlt : k < l.length
    · obtain ⟨o, ho⟩ : ∃ o, l[k]? = some o := ⟨_, List.getElem?_eq_getElem hlt⟩
      obtain ⟨b, off, aA, aC, uA, uC, rfl, hbB, hop, hsa⟩ := (hl.below hb).get ho
      have hom : o ∈ l := List.mem_of_getElem? ho
      have hwk : Wf (k : Int) := wf_nat (by omega)
      have hnk : ¬ (k : Int) ∈ Pr.ids k := by rw [mem_ids]; omega
      have HAK : Hid (aftI l (k : Int) = o.after) := by show Pr.aft l _ = _; rw [Int.toNat_natCast]; exact aft_at ho
      have hwf := hk.wf o hom
      have haf := hk.aft o hom
      have hnd := hf.nd o hom
      obtain ⟨p0, p1, p2, p3, p4⟩ := hop
      have hz := hb.size
      -- the copy, the new map
      have hga := (World.grownBy_alloc wr (.cells #[.string o.name, .int .i64 o.machine, .int .i64 o.minutes, .slice aA o.after.length aC, .slice uA o.uses uC] 27) none).andThen (World.grownBy_alloc (wr.alloc (.cells #[.string o.name, .int .i64 o.machine, .int .i64 o.minutes, .slice aA o.after.length aC, .slice uA o.uses uC] 27)) (.map #[] 0) none) (fun _ e => by cases e)
      have hmo1 := hmo.kept hga (by simp)
      have hin1 := hin.kept hga (by simp)
      have hms1 := Ms.made (wr.alloc (.cells #[.string o.name, .int .i64 o.machine, .int .i64 o.minutes, .slice aA o.after.length aC, .slice uA o.uses uC] 27))
      rw [size_al] at hms1
      obtain ⟨w2, hput, hmo2, hgr2, hsz2⟩ := hmo1.put hwk hnk (by omega) (wr.heap.size + 1)
      have hg0 := hmo.lt
      have hB1 : Below w.heap.size w ((wr.alloc (.cells #[.string o.name, .int .i64 o.machine, .int .i64 o.minutes, .slice aA o.after.length aC, .slice uA o.uses uC] 27)).alloc (.map #[] 0)) := b_al (b_al hb _) _
      have hB2 : Below w.heap.size w w2 := below_grown hB1 hgr2 (Nat.le_refl _)
      have hc3 : w2.cell? ⟨wr.heap.size, 3, none⟩ = some (.slice aA o.after.length aC) := by
        have h5 := (new5 wr o aA aC uA uC).keep (b_new _ (.map #[] 0)) (by rw [size_al]; omega)
        refine (World.cell?_of_block (hgr2.block _ (by rw [size_al, size_al]; show wr.heap.size < _; omega) ?_)).trans h5.c3
        intro e
        injection e with e
        exact absurd e (by show ¬ wr.heap.size = _; omega)
      have hin2 : Inn w2 w.heap.size (Pr.ids (k + 1)) (upd bl (k : Int) (wr.heap.size + 1)) (updS (aftI l) (k : Int) (o.after.take 0)) := by
        rw [ids_succ]
        refine Inn.add (hin1.kept hgr2 (fun x hx e => by have := hin1.gt x hx; injection e with e; omega)) hnk ((hms1.kept hgr2 (fun e => by injection e with e; omega)).more (by omega)) (by omega) (fun y hy => ?_)
        have := hin.lt y hy
        omega
      rw [← ids_succ] at hmo2
      have hsW : Si w w.heap.size aA o.after := hsa.keep fun p hp => (hb.cell hp).symm
      have hsa2 := (hsW.below hB2).more hB2.size
      generalize upd bl (k : Int) (wr.heap.size + 1) = bl' at *
      clear hmo1 hin1 hms1 hgr2 hga hin hmo
      go_wp2
      clear hput hc3 p0 p1 p2 p3 p4
      obtain ⟨wo, rfl⟩ : ∃ wo : World, wo = wr := ⟨_, rfl⟩
      go_loopw [29] (fun s29 wq => ∃ (j : Nat), j ≤ o.after.length ∧ s29 = .int .i64 j ∧ Mo wq w.heap.size (k + 1) (Pr.ids (k + 1)) bl' ∧ Inn wq w.heap.size (Pr.ids (k + 1)) bl' (updS (aftI l) (k : Int) (o.after.take j)) ∧ Below w.heap.size w wq ∧ Si wq wq.heap.size aA o.after) (fun s29 _ => o.after.length - (intOf s29).toNat)
      case atStart => exact ⟨0, Nat.zero_le _, rfl, hmo2, hin2, hB2, hsa2⟩
      case round =>
        obtain ⟨j, hj, rfl, hmo, hin, hb, hsa⟩ := hrel
        have hkm : (k : Int) ∈ Pr.ids (k + 1) := by rw [mem_ids]; omega
        by_cases hjl : j < o.after.length
        · obtain ⟨x, hx⟩ := get_ex rfl hjl
          obtain ⟨b', off', rfl, hbB', cx⟩ := si_get hsa hx
          have hlook := hmo.look hwk hkm
          have hms := hin.ms (k : Int) hkm
          rw [updS_same] at hms
          have hxn : ¬ x ∈ o.after.take j := fun h => not_nodup hx h hnd
          have hwx := hwf x (List.mem_of_getElem? hx)
          obtain ⟨w3, hput, hms3, hgr3, hsz3⟩ := hms.put hwx hxn (by omega)
          rw [← take_succ_of hx] at hms3
          have hms3 := hms3.tight (m := 2000) (by rw [List.length_take]; omega)
          have hin3 := hin.set hkm hgr3 hms3
          have hgk := hin.gt (k : Int) hkm
          have hmo3 := hmo.kept hgr3 (fun e => by injection e with e; omega)
          have hb3 : Below w.heap.size w w3 := below_grown hb hgr3 (by omega)
          have hin3 := hin3.same (sx' := updS (aftI l) (k : Int) (o.after.take (j + 1))) (fun y hy => by
            by_cases e : y = (k : Int)
            · subst e; rw [updS_same, updS_same]
            · rw [updS_other _ _ e, updS_other _ _ e, updS_other _ _ e])
          have hsa3 : Si w3 w3.heap.size (some ⟨b', off', none⟩) o.after := by
            have hs0 : Si w w.heap.size (some ⟨b', off', none⟩) o.after := hsW
            exact (hs0.below hb3).more hb3.size
          clear hms hms3 hgr3 hx hxn hin hmo
          go_wp2
          go_roundw
          case rel => exact ⟨j + 1, by omega, by go_num, hmo3, hin3, hb3, hsa3⟩
          case measure => simp [intOf]; omega
        · obtain rfl : j = o.after.length := by omega
          rw [List.take_length] at hin
          have hin4 := hin.same (sx' := aftI l) (fun y hy => by
            by_cases e : y = (k : Int)
            · subst e; rw [updS_same, HAK.out]
            · rw [updS_other _ _ e])
          clear hin hjl hj
          go_wp2
          go_roundw
          case rel => exact ⟨k + 1, bl', by omega, by go_num, hmo, hin4, hb⟩
          case measure => simp [intOf]; omega
    · obtain rfl : k = l.length := by omega
      clear hlt hk1
      have hA := Arr.start hmo hin hb hlen
      generalize hM : wr.heap.size = M at hA
      clear hM hmo hin hb
      go_wp2
      obtain ⟨wo, rfl⟩ : ∃ wo : World, wo = wr := ⟨_, rfl⟩
      go_loopw [9] (fun v wr => ∃ (o ks : List Int) (sx : Int → List Int), Arr w l bl M (Pr.srt l) wr v o ks sx ∧ Hid (sliceLen v = o.length)) (fun v _ => l.length - sliceLen v)
      case atStart => exact ⟨[], _, _, hA, rfl⟩
      case round =>
        obtain ⟨o, ks, sx, hA, hsl⟩ := hrel
        have hkl := hA.mo.len
        have hkn := hA.len
        obtain ⟨Av, cv, rfl, _, _, _, _⟩ := hA.ow.shape
        by_cases h0 : 0 < ks.length
        · have h0' : (0 : Int) < (ks.length : Int) := by omega
          obtain ⟨f, hf'⟩ : ∃ f, l.length - o.length = f + 1 := ⟨l.length - o.length - 1, by omega⟩
          have HG : Hid (Pr.greedy l (f + 1) o = Pr.srt l) := by show _ = _; rw [← hf']; exact hA.gr
          go_wp2
          clear hkl
          go_loop [10] (fun s10 => ∃ i : Nat, i ≤ l.length ∧ s10 = .int .i64 i ∧ Hid (Pr.pickTo l o (l.length - i) i = Pr.pick l o)) (fun s10 => l.length - (intOf s10).toNat)
          case atStart => exact ⟨0, Nat.zero_le _, rfl, rfl⟩
          case round =>
            obtain ⟨i, hi, rfl, hpk⟩ := hrel
            by_cases hil : i < l.length
            · obtain ⟨r, hr⟩ : ∃ r, l.length - i = r + 1 := ⟨l.length - i - 1, by omega⟩
              have hwi : Wf (i : Int) := wf_nat (by omega)
              have HP := hpk.out
              rw [hr] at HP
              by_cases him : (i : Int) ∈ ks
              · have hio := ((hA.hks _).1 him).2.2
                have hlk := hA.mo.look_ok hwi him
                have hls := (hA.inn.ms _ him).len
                have hrd := ready_in hio (hA.hsx _ him)
                by_cases hsn : sx (i : Int) = []
                · rw [decide_eq_true hsn] at hrd
                  have HPI := Lib.hid ((pickTo_yes hrd).symm.trans HP)
                  rw [hsn] at hls
                  have hne1 : ((i : Int) == (l.length : Int)) = false := by simp; omega
                  have hne2 : (i == l.length) = false := by simp; omega
                  have hne3 : ¬ i = l.length := by omega
                  clear HP hrd hpk
                  go_wp2_with (first
                    | (at_delete; refine wpList_delete_mo _ rfl _ _ rfl w.heap.size 100 ks bl rfl hA.mo (i : Int) rfl hwi ?_; intro w1 hmo1 hg1 hz1; clear hz1; obtain ⟨D1, hown1, hOD1⟩ := hmo1)
                    | (at_range; refine wpList_range_own _ rfl _ 84 rfl 3 85 key3 Try.underlying84 _ w.heap.size 100 D1 rfl hown1 ?_; intro w2 hrg2 hg2 hz2; clear hz2))
                  have hwks : ∀ x ∈ ks.erase (i : Int), Wf x := fun x hx => by
                    have h1 := (hA.hks x).1 (List.mem_of_mem_erase hx)
                    obtain ⟨q, rfl⟩ := Int.eq_ofNat_of_zero_le h1.1
                    exact wf_nat (by omega)
                  have hRg := Rng.start (i := (i : Int)) hA.inn hA.ow hA.be hA.g0 (fun x hx => List.mem_of_mem_erase hx) (fun x hx hw => by rw [hOD1.has x hw]; simpa using hx) hwks hg1 hg2 hrg2
                  have hrM : M ≤ w1.heap.size := by have := hA.hM; have := hg1.size; omega
                  generalize hr1 : w1.heap.size = r1 at *
                  clear hr1 hg1 hg2 hrg2 hlk hls hown1
                  obtain ⟨wo2, rfl⟩ : ∃ wo2 : World, wo2 = wr := ⟨_, rfl⟩
                  go_loopw [14] (fun _ wq => ∃ (left : Lit → Bool) (cnt : Nat), Rng w w.heap.size M r1 D1 (ks.erase (i : Int)) bl sx (i : Int) (.slice Av o.length cv) o left cnt wq) (fun _ wq => wq.rangeLeft w.heap.size r1)
                  case atStart => exact ⟨_, _, hRg⟩
                  case round =>
                    obtain ⟨left, cnt, hR⟩ := hrel
                    go_wp2_with (at_next; go_loud (refine wpList_next_ranges _ rfl _ rfl 3 key3 ptrElem (Value.int .i64) Value.map invK invV w.heap.size r1 100 D1 left cnt rfl hR.rg ?_ ?_))
                    · intro hc0 hl0
                      go_wp2_with (at_builtin; refine wpList_append_ints _ rfl _ _ rfl M (.slice Av o.length cv) o rfl (oi_none hR.ow (World.grownBy_alloc _ _ none)) _ _ [(i : Int)] _ _ rfl rfl (one_cell _ _) (by simp; omega) (by simp; have := hR.rg.lt; omega) ?_; intro v5 w5 how5 hg5 hat5)
                      try go_frame
                      have hA5 := hA.next him HPI.out.symm HG.out hf' hR hOD1 hl0 hrM (World.grownBy_alloc _ _ none) hg5 how5
                      have hsl5 : Hid (sliceLen v5 = o.length + 1) := by
                        obtain ⟨A5, c5, rfl, _⟩ := hA5.ow.shape
                        show _ = _
                        simp [sliceLen]
                      go_roundw
                      case rel => exact ⟨_, _, _, hA5, by show _ = _; rw [hsl5.out]; simp⟩
                      case measure => show _ - sliceLen v5 < _ - o.length; rw [hsl5.out]; omega
                    · intro x cm kl' yd yp w3 cnt3 hkey hlx hRv hat hrg3 hlt3 hg3 hz3 hen
                      obtain ⟨x', hx1, rfl, hwx⟩ := Maps.keyOf_int_inv Try.underlying3 hkey
                      injection hx1 with _ hx1
                      subst hx1
                      have hxk : x ∈ ks.erase (i : Int) := by
                        have := hR.lf _ hlx
                        rw [hOD1.has x hwx] at this
                        simpa using this
                      obtain rfl : cm = some (bl x) := by
                        have := ptr_some (d := yd) (ps := yp) hRv ((hat (.agg [])).symm.trans (hOD1.at_ x hxk hwx _))
                        injection this
                      have hbM : ∀ z ∈ ks.erase (i : Int), bl z < M := fun z hz => hA.lt z (List.mem_of_mem_erase hz)
                      have hms3 := hR.ms hxk hlx hg3 (by have := hbM x hxk; omega)
                      have HST := Lib.hid (fun w4 h1 h2 => hR.step (w2 := w4) hxk hwx hbM hrM hA.g0 hrg3 hg3 hz3 h1 h2)
                      have HLT : Hid (cnt3 < cnt) := hlt3
                      have HLE := Lib.hid hR.rg.left_eq
                      clear hkey hRv hat hg3 hz3 hlt3 hrg3
                      go_wp2_with (at_delete; refine wpList_delete_ms _ rfl _ _ rfl (bl x) 2000 (sx x) rfl hms3 (i : Int) rfl hwi ?_; intro w4 hms4 hg4 hz4)
                      try go_frame
                      have hR4 := HST.out w4 hms4 hg4
                      go_roundw
                      case rel => exact ⟨_, _, hR4⟩
                      case measure => rw [hR4.rg.left_eq, HLE.out]; exact HLT.out
                · rw [decide_eq_false hsn] at hrd
                  have HPI : Hid (Pr.pickTo l o (l.length - (i + 1)) (i + 1) = Pr.pick l o) := by show _ = _; rw [show l.length - (i + 1) = r by omega, ← pickTo_no hrd, HP]
                  have hz : (((sx (i : Int)).length : Int) == 0) = false := by
                    have : (sx (i : Int)).length ≠ 0 := fun e => hsn (List.eq_nil_of_length_eq_zero e)
                    simp; omega
                  clear HP hrd hpk
                  go_wp2
                  go_round
                  case rel => exact ⟨i + 1, by omega, by go_num, HPI⟩
                  case measure => simp [intOf]; omega
              · have hio : (i : Int) ∈ o := by
                  by_cases h : (i : Int) ∈ o
                  · exact h
                  · exact absurd ((hA.hks _).2 ⟨by omega, by omega, h⟩) him
                have hlk := hA.mo.look_no hwi him
                have HPI : Hid (Pr.pickTo l o (l.length - (i + 1)) (i + 1) = Pr.pick l o) := by show _ = _; rw [show l.length - (i + 1) = r by omega, ← pickTo_no (ready_out hio), HP]
                clear HP hpk
                go_wp2
                go_round
                case rel => exact ⟨i + 1, by omega, by go_num, HPI⟩
                case measure => simp [intOf]; omega
            · obtain rfl : i = l.length := by omega
              have HPn : Hid (Pr.pick l o = none) := by show _ = _; rw [← hpk.out, Nat.sub_self]; rfl
              have hbe := hA.be
              have HR : Hid (Pr.srt l = o) := by show _ = _; rw [← HG.out, greedy_none HPn.out]
              clear hpk hil hi
              go_wp2
              go_ret2
              exact ⟨.inl ⟨by rw [HR.out]; omega, rfl⟩, hbe⟩
        · have hk0 : ks.length = 0 := by omega
          have HR : Hid (Pr.srt l = o) := by show _ = _; rw [← hA.gr, show l.length - o.length = 0 by omega]; rfl
          have hbe := hA.be
          have hoo := hA.ow.base_le (base' := w.heap.size) (by have := hA.g0; omega)
          have hnk : ¬ (0 : Int) < (ks.length : Int) := by omega
          go_wp2
          go_ret2
          exact ⟨.inr ⟨by rw [HR.out]; omega, _, rfl, by rw [HR.out]; exact hoo⟩, hbe⟩
end Go.Proofs.Ytcolekfjmhgldaa
