/- A map from ints to maps. -/
import Derived.Test.YtcolekfjmhgldaaE
namespace Go.Proofs.Ytcolekfjmhgldaa
open Go.RowKit
open Pr (Opn)

/-- how an element that is a map reads: by its block -/
def ptrElem : Value → Option (DataW Unit × List MemPlace)
  | .map (some b) => some (.lit (.int .i64 b), [])
  | .map none => some (.agg [], [])
  | _ => none
theorem ptr_inv {v : Value} {y : DataW Unit × List MemPlace} (h : ptrElem v = some y) : ∃ c, v = .map c := by
  cases v <;> first | exact ⟨_, rfl⟩ | (simp [ptrElem] at h)
theorem ptr_some {v : Value} {d : DataW Unit} {ps : List MemPlace} {b : Nat} (h : ptrElem v = some (d, ps)) (e : d = .lit (.int .i64 (b : Int))) : v = .map (some b) := by
  obtain ⟨c, rfl⟩ := ptr_inv h
  cases c with
  | none => simp [ptrElem] at h; rw [← h.1] at e; cases e
  | some b' =>
    simp [ptrElem] at h
    rw [← h.1] at e
    injection e with e
    injection e with _ e
    have : b' = b := by omega
    rw [this]
theorem ptr_none {v : Value} {d : DataW Unit} {ps : List MemPlace} (h : ptrElem v = some (d, ps)) (e : d = .agg []) : v = .map none := by
  obtain ⟨c, rfl⟩ := ptr_inv h
  cases c with
  | none => rfl
  | some b' => simp [ptrElem] at h; rw [← h.1] at e; cases e

/-- the datum D has the keys ks, each with its block -/
structure OutD (D : DataW Unit) (ks : List Int) (bl : Int → Nat) : Prop where
  has : ∀ x, Wf x → Maps.has D (kl x) = decide (x ∈ ks)
  at_ : ∀ x, x ∈ ks → Wf x → ∀ z, D.atKey (kl x) z = .lit (.int .i64 (bl x))
  size : Maps.size D = ks.length
  tidy : Maps.Tidy D
  nd : ks.Nodup
def upd (bl : Int → Nat) (x : Int) (b : Nat) : Int → Nat := fun y => if y = x then b else bl y
theorem upd_same (bl : Int → Nat) (x : Int) (b : Nat) : upd bl x b x = b := by unfold upd; rw [if_pos rfl]
theorem upd_other (bl : Int → Nat) {x y : Int} (b : Nat) (h : y ≠ x) : upd bl x b y = bl y := by unfold upd; rw [if_neg h]
theorem OutD.nil (bl : Int → Nat) : OutD (.map []) [] bl := ⟨fun _ _ => by simp [Maps.has], fun _ h => by simp at h, rfl, Maps.tidy_empty, List.nodup_nil⟩
theorem OutD.put {D : DataW Unit} {ks : List Int} {bl : Int → Nat} (h : OutD D ks bl) {x : Int} (hx : Wf x) (hn : ¬ x ∈ ks) (b : Nat) : OutD (D.put (kl x) (.lit (.int .i64 b))) (ks ++ [x]) (upd bl x b) where
  has := fun y hy => by
    by_cases e : y = x
    · subst e
      rw [Maps.has_put_same h.tidy.isMap (keyLit hy)]
      simp
    · rw [Maps.has_put_other (kl_ne e), h.has y hy]
      simp [e]
  at_ := fun y hm hy z => by
    by_cases e : y = x
    · subst e
      rw [Maps.atKey_put_same h.tidy.isMap (keyLit hy), upd_same]
    · rw [Maps.atKey_put_other (kl_ne e), upd_other _ _ e]
      refine h.at_ y ?_ hy z
      rcases List.mem_append.1 hm with hm | hm
      · exact hm
      · exact absurd (List.mem_singleton.1 hm) e
  size := by
    rw [Maps.size_put h.tidy, h.has x hx, decide_eq_false hn, h.size]
    simp
  tidy := h.tidy.put (keyLit hx) _
  nd := by
    rw [List.nodup_append]
    refine ⟨h.nd, by simp, ?_⟩
    intro a ha b hb e
    rw [List.mem_singleton] at hb
    subst hb
    subst e
    exact hn ha
theorem OutD.del {D : DataW Unit} {ks : List Int} {bl : Int → Nat} (h : OutD D ks bl) {x : Int} (hx : Wf x) : OutD (D.del (kl x)) (ks.erase x) bl where
  has := fun y hy => by
    by_cases e : y = x
    · subst e
      rw [Maps.has_del_same, decide_eq_false (by rw [h.nd.mem_erase_iff]; simp)]
    · rw [Maps.has_del_other (kl_ne e), h.has y hy]
      simp [h.nd.mem_erase_iff, e]
  at_ := fun y hm hy z => by
    rw [h.nd.mem_erase_iff] at hm
    rw [Maps.atKey_del_other (kl_ne hm.1)]
    exact h.at_ y hm.2 hy z
  size := by
    have h1 := Maps.size_del (k := kl x) h.tidy
    rw [h.has x hx, h.size] at h1
    rw [List.length_erase]
    by_cases e : x ∈ ks
    · rw [if_pos (by simpa using e)] at h1
      rw [if_pos e]
      omega
    · rw [if_neg (by simpa using e)] at h1
      rw [if_neg e]
      omega
  tidy := h.tidy.del _
  nd := h.nd.erase x

/-- the map in block b has the keys ks, each with its block -/
def Mo (w : World) (b n : Nat) (ks : List Int) (bl : Int → Nat) : Prop := ∃ D : DataW Unit, w.ownsMap Try.prog 3 ptrElem b n D ∧ OutD D ks bl
theorem Mo.made (w : World) (bl : Int → Nat) : Mo (w.alloc (.map #[] 0)) w.heap.size 0 [] bl := ⟨_, World.ownsMap_made w _ _ _, OutD.nil bl⟩
theorem Mo.lt {w : World} {b n : Nat} {ks : List Int} {bl : Int → Nat} (h : Mo w b n ks bl) : b < w.heap.size := by obtain ⟨D, h, _⟩ := h; exact h.lt
theorem Mo.kept {w w' : World} {b n : Nat} {ks : List Int} {bl : Int → Nat} {row : Option Nat} (h : Mo w b n ks bl) (hg : w.grownBy w' row) (hne : some b ≠ row) : Mo w' b n ks bl := by
  obtain ⟨D, h, hs⟩ := h
  exact ⟨D, h.kept hg hne, hs⟩
theorem Mo.len {w : World} {b n : Nat} {ks : List Int} {bl : Int → Nat} (h : Mo w b n ks bl) (ty : TypeId) : (Builtin.len_ #[84] ty #[.map (some b)]).run Try.prog w = .ok (.int .i64 ks.length) w := by
  obtain ⟨D, h, hs⟩ := h
  rw [h.len Try.underlying84, hs.size]
set_option maxRecDepth 100000 in
theorem Mo.look {w : World} {b n : Nat} {ks : List Int} {bl : Int → Nat} (h : Mo w b n ks bl) {x : Int} (hx : Wf x) (hm : x ∈ ks) : (Instr.lookup 84 (.map (some b)) (.int .i64 x) false).run Try.prog w = .ok (.map (some (bl x))) w := by
  obtain ⟨D, h, hs⟩ := h
  obtain ⟨v, ps, hrun, hR⟩ := h.lookup key3 Try.underlying84 (Try.zeroValue85 w) (zd := .agg []) (zp := []) rfl (key_mk hx)
  rw [hrun, ptr_some hR (hs.at_ x hm hx _)]
set_option maxRecDepth 100000 in
theorem Mo.look_ok {w : World} {b n : Nat} {ks : List Int} {bl : Int → Nat} (h : Mo w b n ks bl) {x : Int} (hx : Wf x) (hm : x ∈ ks) : (Instr.lookup 84 (.map (some b)) (.int .i64 x) true).run Try.prog w = .ok (.tuple #[.map (some (bl x)), .bool true]) w := by
  obtain ⟨D, h, hs⟩ := h
  obtain ⟨v, ps, hrun, hR⟩ := h.look_ok key3 Try.underlying84 (Try.zeroValue85 w) (zd := .agg []) (zp := []) rfl (key_mk hx)
  rw [hrun, ptr_some hR (hs.at_ x hm hx _), hs.has x hx, decide_eq_true hm]
set_option maxRecDepth 100000 in
theorem Mo.look_no {w : World} {b n : Nat} {ks : List Int} {bl : Int → Nat} (h : Mo w b n ks bl) {x : Int} (hx : Wf x) (hm : ¬ x ∈ ks) : (Instr.lookup 84 (.map (some b)) (.int .i64 x) true).run Try.prog w = .ok (.tuple #[.map none, .bool false]) w := by
  obtain ⟨D, h, hs⟩ := h
  obtain ⟨v, ps, hrun, hR⟩ := h.look_ok key3 Try.underlying84 (Try.zeroValue85 w) (zd := .agg []) (zp := []) rfl (key_mk hx)
  have hh : Maps.has D (kl x) = false := by rw [hs.has x hx, decide_eq_false hm]
  rw [hrun, ptr_none hR (Maps.atKey_of_not_has hh _), hh]
theorem Mo.put {w : World} {b n : Nat} {ks : List Int} {bl : Int → Nat} (h : Mo w b n ks bl) {x : Int} (hx : Wf x) (hn : ¬ x ∈ ks) (hl : n < 65536) (b' : Nat) :
    ∃ w', (Instr.mapUpdate 84 (.map (some b)) (.int .i64 x) (.map (some b'))).run Try.prog w = .ok () w' ∧ Mo w' b (n + 1) (ks ++ [x]) (upd bl x b') ∧ w.grownBy w' (some b) ∧ w'.heap.size = w.heap.size := by
  obtain ⟨D, h, hs⟩ := h
  obtain ⟨w', hrun, ho, ht⟩ := h.store key3 Try.underlying84 (by unfold maxLen; omega) (key_mk hx) (val := .map (some b')) (d := .lit (.int .i64 b')) (ps := []) rfl
  refine ⟨w', hrun, ⟨_, ho, hs.put hx hn b'⟩, ht.grown, ?_⟩
  obtain ⟨es, c, es', c', _, rfl⟩ := ht
  simp [ChangeMaps.setBlock]

section
variable (w : World) {ops : Array Oper} {rest : List Oper} {o : Oper} {a : Act} {Q : Exit → Act → World → Prop}
theorem turned_size {w w' : World} {b : Nat} (h : w.mapTurned w' b) : w'.heap.size = w.heap.size := by
  obtain ⟨es, c, es', c', _, rfl⟩ := h
  simp [ChangeMaps.setBlock]
theorem wpList_delete_ms (hg : o.guard = none) (m x : Operand) (hop : o.op = Op.call { callee := Callee.builtin Builtin.delete, args := #[m, x], argTypes := #[85, 3] })
    (b n : Nat) (s : List Int) (hm : a.eval m = .map (some b)) (h : Ms w b n s) (xv : Int) (hx : a.eval x = .int .i64 xv) (hw : Wf xv)
    (hK : ∀ w', Ms w' b n (s.erase xv) → w.grownBy w' (some b) → w'.heap.size = w.heap.size → wpList Try.prog ops Q rest (a.put o.dst (.tuple #[])) w') :
    wpList Try.prog ops Q (o :: rest) a w := by
  obtain ⟨D, h, hs⟩ := h
  exact wpList_delete_own w hg m x 85 3 hop 4 key3 Try.underlying85 _ b n D hm h _ _ hx (key_mk hw) fun w' h1 h2 => hK w' ⟨_, h1, hs.del hw⟩ h2.grown (turned_size h2)
theorem wpList_delete_mo (hg : o.guard = none) (m x : Operand) (hop : o.op = Op.call { callee := Callee.builtin Builtin.delete, args := #[m, x], argTypes := #[84, 3] })
    (b n : Nat) (ks : List Int) (bl : Int → Nat) (hm : a.eval m = .map (some b)) (h : Mo w b n ks bl) (xv : Int) (hx : a.eval x = .int .i64 xv) (hw : Wf xv)
    (hK : ∀ w', Mo w' b n (ks.erase xv) bl → w.grownBy w' (some b) → w'.heap.size = w.heap.size → wpList Try.prog ops Q rest (a.put o.dst (.tuple #[])) w') :
    wpList Try.prog ops Q (o :: rest) a w := by
  obtain ⟨D, h, hs⟩ := h
  exact wpList_delete_own w hg m x 84 3 hop 85 key3 Try.underlying84 _ b n D hm h _ _ hx (key_mk hw) fun w' h1 h2 => hK w' ⟨_, h1, hs.del hw⟩ h2.grown (turned_size h2)
end
theorem Ms.more {w : World} {b n n' : Nat} {s : List Int} (h : Ms w b n s) (hn : n ≤ n') : Ms w b n' s := by
  obtain ⟨D, h, hs⟩ := h
  exact ⟨D, h.mono hn, hs⟩
theorem Ms.tight {w : World} {b n m : Nat} {s : List Int} (h : Ms w b n s) (hm : s.length ≤ m) : Ms w b m s := by
  obtain ⟨D, ⟨es, clock, hb, F, hs, hD⟩, hd⟩ := h
  refine ⟨D, ⟨es, clock, hb, F, ?_, hD⟩, hd⟩
  have h1 := hd.size
  rw [hD, Maps.size_eq, length_sorted, List.length_map, Array.length_toList] at h1
  omega
theorem Ms.nd {w : World} {b n : Nat} {s : List Int} (h : Ms w b n s) : s.Nodup := by obtain ⟨D, _, hs⟩ := h; exact hs.nd
theorem Mo.nd {w : World} {b n : Nat} {ks : List Int} {bl : Int → Nat} (h : Mo w b n ks bl) : ks.Nodup := by obtain ⟨D, _, hs⟩ := h; exact hs.nd
theorem wf_nat {n : Nat} (h : n ≤ 65536) : Wf (n : Int) := by
  show (Lit.int .i64 (n : Int)).wf = true
  have e : wrap64 (n : Int) = (n : Int) := by unfold wrap64; omega
  rw [← e]
  exact wrap64_wf _
end Go.Proofs.Ytcolekfjmhgldaa
