/- DrawsPermutes returns true for every state and every number: Shuffle returns each number below n once, and the state that n - 1 calls of Next lead to. -/
import Derived.Test.YtnfppdlicodgpaaG
namespace Go.Proofs.Ytnfppdlicodgpaa.permutes
open Go.ChangeShapes Go.WideShapes Go.ChangeAt Go.RowKit Go.Deep
open Pd (St)

/-- a slice of bools of the call's own -/
def Ob (w : World) (base : Nat) (v : Value) (l : List Bool) : Prop := w.ownsRow base 4 1 v l.length (l.map Value.bool)
theorem Ob.lenEq {w : World} {base g cap n : Nat} {l : List Bool} (h : Ob w base (.slice (some ⟨g, 0, none⟩) n cap) l) : n = l.length := by
  rcases h.2 with ⟨h1, _⟩ | ⟨g', cap', cur, h1, _⟩
  · cases h1
  · injection h1
theorem Ob.get {w : World} {base g cap n : Nat} {l : List Bool} (h : Ob w base (.slice (some ⟨g, 0, none⟩) n cap) l) {i : Nat} {x : Bool} (hi : l[i]? = some x) : w.cell? ⟨g, i, none⟩ = some (.bool x) := by
  have hn := h.lenEq
  subst hn
  obtain ⟨h1, h2⟩ := List.getElem?_eq_some_iff.1 hi
  have := World.ownsRow.cellAt h i (by omega)
  rw [this, List.getElem?_map, hi]
  rfl
theorem Ob.frozenAt {w : World} {base g cap n : Nat} {l : List Bool} (h : Ob w base (.slice (some ⟨g, 0, none⟩) n cap) l) (j : Nat) : w.frozen? ⟨g, j, none⟩ = false := by
  have hn := h.lenEq
  subst hn
  exact World.ownsRow.frozenAt h j
theorem Ob.set {w : World} {base g cap n : Nat} {l : List Bool} (h : Ob w base (.slice (some ⟨g, 0, none⟩) n cap) l) (j : Nat) (x : Bool) : Ob (w.setCell ⟨g, j, none⟩ (.bool x)) base (.slice (some ⟨g, 0, none⟩) n cap) (l.set j x) ∧ w.grownBy (w.setCell ⟨g, j, none⟩ (.bool x)) (some g) := by
  have hn := h.lenEq
  subst hn
  have := World.ownsRow.stored h j (.bool x)
  unfold Ob
  rw [List.length_set, List.map_set]
  exact this
theorem bool_info : (Try.prog.info? 4).map (fun i => (i.zero, i.size, i.bytes)) = some (some (.bool false), 1, 1) := by kernel_rfl
theorem made_false (n : Nat) : (madeCells (Value.cells (.bool false)) (n * 1)).toList = (List.replicate n false).map Value.bool := by
  apply List.ext_getElem?
  intro i
  simp [madeCells, Value.cells, List.getElem?_replicate]
  by_cases h : i < n
  · simp [h, Nat.mod_one]
  · simp [h]
theorem make_bools (w : World) (m : Nat) (hm : m ≤ 65536) : ∃ w', (Instr.makeSlice 37 (.int .i64 (m : Int)) (.int .i64 (m : Int))).run Try.prog w = .ok (.slice (some ⟨w.heap.size, 0, none⟩) m m) w' ∧
    Ob w' w.heap.size (.slice (some ⟨w.heap.size, 0, none⟩) m m) (List.replicate m false) ∧ Below w.heap.size w w' := by
  obtain ⟨i0, hi, hz0, hz1, hz2⟩ := info_parts bool_info
  obtain ⟨w', h1, h2, h3⟩ := run_make_full (P := Try.prog) w w.heap.size 37 4 i0 (.bool false) 1 Try.underlying37 hi hz0 hz1 .i64 .i64 m (by rw [hz2]; omega) (by unfold maxLen; omega) (Nat.le_refl _)
  refine ⟨w', h1, ?_, (Below.refl _ _).grown h3 (Nat.le_refl _) (by simp)⟩
  rw [made_false] at h2
  unfold Ob
  rw [List.length_replicate]
  exact h2

/-- the numbers among the first i elements are marked -/
structure Met (l : List Int) (c : List Bool) (m i : Nat) : Prop where
  len : c.length = m
  get : ∀ q : Nat, q < m → c[q]? = some (decide ((q : Int) ∈ l.take i))
theorem Met.start (l : List Int) (m : Nat) : Met l (List.replicate m false) m 0 := ⟨List.length_replicate, fun q hq => by simp [hq]⟩
theorem Met.new {l : List Int} {c : List Bool} {m i q : Nat} (h : Met l c m i) (hn : l.Nodup) (hi : l[i]? = some (q : Int)) (hq : q < m) : c[q]? = some false := by
  rw [h.get q hq]
  obtain ⟨h1, h2⟩ := List.getElem?_eq_some_iff.1 hi
  rw [decide_eq_false]
  intro hm
  obtain ⟨j, hj, he⟩ := List.getElem_of_mem hm
  rw [List.getElem_take] at he
  have hj' : j < i := by rw [List.length_take] at hj; omega
  have := List.getElem_inj (h₀ := (by rw [List.length_take] at hj; omega)) (h₁ := h1) hn |>.1 (he.trans h2.symm)
  omega
theorem Met.step {l : List Int} {c : List Bool} {m i q : Nat} (h : Met l c m i) (hi : l[i]? = some (q : Int)) : Met l (c.set q true) m (i + 1) where
  len := by rw [List.length_set, h.len]
  get := fun r hr => by
    obtain ⟨h1, h2⟩ := List.getElem?_eq_some_iff.1 hi
    rw [List.getElem?_set, List.take_succ_eq_append_getElem h1, h2]
    have hg := h.get r hr
    have hl := h.len
    by_cases e : q = r
    · subst e
      simp [hl, hr]
    · rw [if_neg e, hg]
      have : ¬ (r : Int) = (q : Int) := by omega
      simp [this]

theorem below_grown {a w w' : World} {g : Nat} (hb : Below a.heap.size a w) (hg : w.grownBy w' (some g)) (h : a.heap.size ≤ g) : Below a.heap.size a w' :=
  hb.trans ((Below.refl _ _).grown hg hb.size (fun k hk => by injection hk with hk; omega))
theorem oi_kept {w w' : World} {base n c g g2 : Nat} {l : List Int} (h : Oi w base (.slice (some ⟨g, 0, none⟩) n c) l) (hg : w.grownBy w' (some g2)) (hne : g ≠ g2) : Oi w' base (.slice (some ⟨g, 0, none⟩) n c) l :=
  World.ownsRow.kept h hg (.inr (by intro e; exact hne (by simpa [Value.ownBlock] using e)))

set_option maxHeartbeats 1000000 in
theorem walk_ok (d n : Int) (w : World) (h : St d) (n0 : 0 ≤ n) (n1 : n ≤ 1000) :
    Calls Try.prog 9 #[.int .u64 d, .int .i64 n] w fun e w' => e = .returned (.bool true) ∧ Below w.heap.size w w' := by
  obtain ⟨m, rfl⟩ := Int.eq_ofNat_of_zero_le n0
  have hlim : Pd.lim (m : Int) = m := by unfold Pd.lim; omega
  have hf := Pd.shuffle_facts d (m : Int)
  have hlen := Pd.shuffle_length d (m : Int)
  have hnd := Pd.shuffle_nodup d (m : Int)
  have hmem : ∀ x, x ∈ (Pd.shuffle d (m : Int)).2 → 0 ≤ x ∧ x < (m : Int) := fun x hx => by have := Pd.shuffle_mem.1 hx; rw [hlim] at this; exact this
  rw [hlim] at hf hlen
  have H1 := Lib.hid (by have := shuffle_any d (m : Int) w h; rw [hf.1] at this; exact this)
  have H2 := Lib.hid (fun W => by have := skip_any d ((m : Int) - 1) W h (by omega); rw [show ((m : Int) - 1).toNat = m - 1 by omega] at this; exact this)
  clear hf hlim
  generalize (Pd.shuffle d (m : Int)).2 = l at *
  generalize Pd.it (m - 1) d = d' at *
  have HL := Lib.hid hlen
  have HM := Lib.hid hmem
  clear hlen hmem
  go_enter Try.func9, Try.ntmps9
  go_wp2_with fail
  refine H1.out.mono ?_
  rintro e w1 ⟨m', hm', rfl, how1, hb1⟩
  obtain rfl : m' = m := hm'.symm.trans HL.out
  clear hm' H1
  have hgg := how1.lt
  obtain ⟨w2, hmk, hob, hb2⟩ := make_bools w1 m' (by omega)
  go_wp2_with fail
  refine (H2.out _).mono ?_
  rintro e w' ⟨rfl, rfl⟩
  clear H2
  go_wp2
  clear hmk
  have how2 := how1.below hb2
  have hB2 := b_tr hb1 hb2
  generalize hg2 : w1.heap.size = g2 at *
  clear hg2
  go_loopw [8] (fun i wr => ∃ (k : Nat) (c : List Bool), k ≤ m' ∧ i = .int .i64 k ∧ Hid (Met l c m' k) ∧ Oi wr w.heap.size (.slice (some ⟨w.heap.size, 0, none⟩) m' m') l ∧ Ob wr g2 (.slice (some ⟨g2, 0, none⟩) m' m') c ∧ Below w.heap.size w wr) (fun i _ => m' - (intOf i).toNat)
  case atStart => exact ⟨0, _, Nat.zero_le _, rfl, Met.start l m', how2, hob, hB2⟩
  case round =>
    obtain ⟨k, c, hk, rfl, hme, how, hoc, hb⟩ := hrel
    by_cases hlt : k < m'
    · obtain ⟨x, hx⟩ := get_ex HL.out hlt
      obtain ⟨x0, x1⟩ := HM.out x (List.mem_of_getElem? hx)
      obtain ⟨q, rfl⟩ := Int.eq_ofNat_of_zero_le x0
      have hq : q < m' := by omega
      have c1 := how.get hx
      have c2 := hoc.get (hme.out.new hnd hx hq)
      have f2 := hoc.frozenAt q
      obtain ⟨s1, s2⟩ := hoc.set q true
      have HS := Lib.hid (hme.out.step hx)
      have how' := oi_kept how s2 (by omega)
      have hb' := below_grown hb s2 (by omega)
      clear s2 hx
      go_wp2
      go_roundw
      case rel => exact ⟨k + 1, _, by omega, by go_num, HS, how', s1, hb'⟩
      case measure => simp [intOf]; omega
    · go_wp2_with fail
      refine (awake_any _).mono ?_
      rintro e w3 ⟨rfl, hb3⟩
      go_wp2
      go_ret
      exact ⟨rfl, b_tr hb hb3⟩

set_option maxHeartbeats 1000000 in
theorem walk (d n : Int) (w : World) (wd : (Lit.int .u64 d).wf = true) (_wn : (Lit.int .i64 n).wf = true) :
    Calls Try.prog 9 #[.int .u64 d, .int .i64 n] w fun e w' => e = .returned (.bool true) ∧ Below w.heap.size w w' := by
  have h := st_of wd
  clear wd
  by_cases h1 : n < 0
  · go_enter Try.func9, Try.ntmps9
    go_wp2_with fail
    refine (awake_any _).mono ?_
    rintro e w2 ⟨rfl, hb⟩
    go_wp2
    go_ret
    exact ⟨rfl, hb⟩
  · by_cases h2 : 1000 < n
    · go_enter Try.func9, Try.ntmps9
      go_wp2_with fail
      refine (awake_any _).mono ?_
      rintro e w2 ⟨rfl, hb⟩
      go_wp2
      go_ret
      exact ⟨rfl, hb⟩
    · exact walk_ok d n w h (by omega) (by omega)

set_option maxRecDepth 100000 in
theorem lifted (os : Os) (started : os.Started) (H : Type) (enc : TypeId × Value → H) :
    ReturnsInHanded {} Try.checked os 9 .any (Rows.drawsPermutesSpec.pre6 enc Try.prog Try.f9 Rows.drawsPermutesRow.domain false) (Rows.drawsPermutesSpec.post enc Try.prog Try.f9 false true false false) := by
  refine returnsInHanded_of_change (C := Try.checked) own started (by kernel_rfl) Try.func9
    (ChangeSpec.witness6 (enc := enc) (C := Try.checked) false ⟨#[], #[.int .u64 0, .int .i64 0], []⟩ 8 (by kernel_rfl) (by kernel_rfl) (by kernel_rfl) (by kernel_rfl)) ?_
  intro W base args ds gs before hval0 hW hcnd _
  have hval : ∀ (j : Nat) t v, Try.f9.params[j]? = some t → args[j]? = some v → Value.okWide Try.prog W .any base t v := hval0
  have hW' := hW
  obtain ⟨p, q, hA0, hV, rfl, hfz, hnd⟩ := hW
  have hA : DataW.TrodAll enc Try.prog W 0 (fun _ => true) true Try.f9.params.toList args.toList ds p := hA0
  rw [Try.params9] at hA hval
  obtain ⟨v0, vs0, d0, ds0, p0, qq0, hargs, rfl, rfl, h0, r0⟩ := trodAll_cons hA
  obtain ⟨v1, vs1, d1, ds1, p1, qq1, rfl, rfl, rfl, h1, r1⟩ := trodAll_cons r0
  obtain ⟨rfl, rfl, rfl⟩ := trodAll_nil r1
  obtain rfl : args = #[v0, v1] := by cases args; simp_all
  obtain ⟨rfl, rfl⟩ := trodVars_none hV
  obtain ⟨a0, rfl, rfl, rfl, w0⟩ := open_int Try.underlying23 (hval 0 23 v0 rfl rfl) h0
  obtain ⟨a1, rfl, rfl, rfl, w1⟩ := open_int Try.underlying3 (hval 1 3 v1 rfl rfl) h1
  clear hA0 hval0
  refine (walk a0 a1 W w0 w1).mono fun e W' ⟨he, bel⟩ => ?_
  subst he
  exact ⟨_, rfl, _, _, _, [], _, [], hW', trodAll_mk1 (shut_bool Try.underlying4 _), (trodAll_cons_mk (shut_int Try.underlying23 w0) (trodAll_cons_mk (shut_int Try.underlying3 w1) trodAll_mk0)), rfl, bel.frame _, fun h => by cases h⟩

theorem over : Rows.drawsPermutesRow.holds Try.pinned (OpenSpec.ofChange Rows.drawsPermutesSpec) :=
  OpenClaim.holds_of_wide 9 Try.f9 rfl rfl rfl rfl rfl rfl rfl ⟨rfl, rfl, rfl, rfl, rfl⟩ rfl rfl rfl rfl rfl (by kernel_rfl) Try.func9 (by kernel_rfl)
    (of_decide_eq_true (by kernel_rfl)) (by unfold Func.isWrapper; first | (rw [if_pos (by decide +kernel)]; kernel_rfl) | (rw [if_neg (by decide +kernel)]; exact ⟨rfl, rfl⟩))
    (fun os started H enc _ => lifted os started H enc)

theorem proved : Rows.DrawsPermutesSaid := over
#print axioms proved
end Go.Proofs.Ytnfppdlicodgpaa.permutes
