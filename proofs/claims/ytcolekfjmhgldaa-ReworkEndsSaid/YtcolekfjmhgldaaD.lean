/- A map that is a set of ints; repeats and twice. -/
import Derived.Test.YtcolekfjmhgldaaC
import Derived.Maps.OwnSet
import Derived.Maps.RangeWalk
namespace Go.Proofs.Ytcolekfjmhgldaa
open Go.RowKit
open Pr (Opn)

abbrev Wf (x : Int) : Prop := (Lit.int .i64 x).wf = true
abbrev kl (x : Int) : Lit := .int .i64 x
theorem key3 : Maps.Keyed Try.prog 3 := Maps.int_keyed Try.underlying3
theorem key_mk {x : Int} (h : Wf x) : keyOf Try.prog 3 (.int .i64 x) = some (kl x) := Maps.keyOf_int_mk Try.underlying3 h
theorem keyLit {x : Int} (h : Wf x) : WideAt.IsKeyLit (kl x) := key3.key (key_mk h)
theorem kl_ne {x y : Int} (h : x ≠ y) : kl x ≠ kl y := by
  intro e
  injection e with _ e
  exact h e

/-- the datum D is the set s -/
structure SetD (D : DataW Unit) (s : List Int) : Prop where
  has : ∀ x, Wf x → Maps.has D (kl x) = decide (x ∈ s)
  at_ : ∀ x, Wf x → D.atKey (kl x) (.lit (.bool false)) = .lit (.bool (decide (x ∈ s)))
  size : Maps.size D = s.length
  tidy : Maps.Tidy D
  nd : s.Nodup

theorem SetD.nil : SetD (.map []) [] := ⟨fun _ _ => by simp [Maps.has], fun _ _ => rfl, rfl, Maps.tidy_empty, List.nodup_nil⟩
theorem SetD.put {D : DataW Unit} {s : List Int} (h : SetD D s) {x : Int} (hx : Wf x) (hn : ¬ x ∈ s) : SetD (D.put (kl x) (.lit (.bool true))) (s ++ [x]) where
  has := fun y hy => by
    by_cases e : y = x
    · subst e
      rw [Maps.has_put_same h.tidy.isMap (keyLit hy)]
      simp
    · rw [Maps.has_put_other (kl_ne e), h.has y hy]
      simp [e]
  at_ := fun y hy => by
    by_cases e : y = x
    · subst e
      rw [Maps.atKey_put_same h.tidy.isMap (keyLit hy)]
      simp
    · rw [Maps.atKey_put_other (kl_ne e), h.at_ y hy]
      simp [e]
  size := by
    rw [Maps.size_put h.tidy, h.has x hx, decide_eq_false hn, h.size]
    simp
  tidy := h.tidy.put (keyLit hx) _
  nd := by
    rw [List.nodup_append]
    refine ⟨h.nd, by simp, ?_⟩
    intro a ha b hb e
    rw [List.mem_singleton] at hb
    subst hb
    subst e
    exact hn ha
theorem SetD.del {D : DataW Unit} {s : List Int} (h : SetD D s) {x : Int} (hx : Wf x) : SetD (D.del (kl x)) (s.erase x) where
  has := fun y hy => by
    by_cases e : y = x
    · subst e
      rw [Maps.has_del_same, decide_eq_false (by rw [h.nd.mem_erase_iff]; simp)]
    · rw [Maps.has_del_other (kl_ne e), h.has y hy]
      simp [h.nd.mem_erase_iff, e]
  at_ := fun y hy => by
    by_cases e : y = x
    · subst e
      rw [Maps.atKey_del_same, decide_eq_false (by rw [h.nd.mem_erase_iff]; simp)]
    · rw [Maps.atKey_del_other (kl_ne e), h.at_ y hy]
      simp [h.nd.mem_erase_iff, e]
  size := by
    have h1 := Maps.size_del (k := kl x) h.tidy
    rw [h.has x hx, h.size] at h1
    rw [List.length_erase]
    by_cases e : x ∈ s
    · rw [if_pos (by simpa using e)] at h1
      rw [if_pos e]
      omega
    · rw [if_neg (by simpa using e)] at h1
      rw [if_neg e]
      omega
  tidy := h.tidy.del _
  nd := h.nd.erase x

/-- the map in block b is the set s; it has at most n entries -/
def Ms (w : World) (b n : Nat) (s : List Int) : Prop := ∃ D : DataW Unit, w.ownsMap Try.prog 3 (plainElem Try.prog 4) b n D ∧ SetD D s

set_option maxRecDepth 100000 in
theorem bool_inv {v : Value} {z : DataW Unit × List MemPlace} (h : plainElem Try.prog 4 v = some z) : ∃ x, v = .bool x ∧ z.1 = .lit (.bool x) := by
  unfold plainElem at h
  rw [Try.underlying4] at h
  cases v <;> simp at h
  exact ⟨_, rfl, by rw [← h]⟩
theorem Ms.made (w : World) : Ms (w.alloc (.map #[] 0)) w.heap.size 0 [] := ⟨_, World.ownsMap_made w _ _ _, SetD.nil⟩
theorem Ms.lt {w : World} {b n : Nat} {s : List Int} (h : Ms w b n s) : b < w.heap.size := by obtain ⟨D, h, _⟩ := h; exact h.lt
theorem Ms.kept {w w' : World} {b n : Nat} {s : List Int} {row : Option Nat} (h : Ms w b n s) (hg : w.grownBy w' row) (hne : some b ≠ row) : Ms w' b n s := by
  obtain ⟨D, h, hs⟩ := h
  exact ⟨D, h.kept hg hne, hs⟩
set_option maxRecDepth 100000 in
theorem Ms.look {w : World} {b n : Nat} {s : List Int} (h : Ms w b n s) {x : Int} (hx : Wf x) : (Instr.lookup 85 (.map (some b)) (.int .i64 x) false).run Try.prog w = .ok (.bool (decide (x ∈ s))) w := by
  obtain ⟨D, h, hs⟩ := h
  obtain ⟨v, ps, hrun, hR⟩ := h.lookup key3 Try.underlying85 (Try.zeroValue4 w) (plainElem_bool Try.underlying4 false) (key_mk hx)
  obtain ⟨y, rfl, hy⟩ := bool_inv hR
  rw [hs.at_ x hx] at hy
  injection hy with hy
  injection hy with hy
  rw [hrun, hy]
theorem Ms.len {w : World} {b n : Nat} {s : List Int} (h : Ms w b n s) (ty : TypeId) : (Builtin.len_ #[85] ty #[.map (some b)]).run Try.prog w = .ok (.int .i64 s.length) w := by
  obtain ⟨D, h, hs⟩ := h
  rw [h.len Try.underlying85, hs.size]
theorem Ms.put {w : World} {b n : Nat} {s : List Int} (h : Ms w b n s) {x : Int} (hx : Wf x) (hn : ¬ x ∈ s) (hl : n < 65536) :
    ∃ w', (Instr.mapUpdate 85 (.map (some b)) (.int .i64 x) (.bool true)).run Try.prog w = .ok () w' ∧ Ms w' b (n + 1) (s ++ [x]) ∧ w.grownBy w' (some b) ∧ w'.heap.size = w.heap.size := by
  obtain ⟨D, h, hs⟩ := h
  obtain ⟨w', hrun, ho, ht⟩ := h.store key3 Try.underlying85 (by unfold maxLen; omega) (key_mk hx) (plainElem_bool Try.underlying4 true)
  refine ⟨w', hrun, ⟨_, ho, hs.put hx hn⟩, ht.grown, ?_⟩
  obtain ⟨es, c, es', c', _, rfl⟩ := ht
  simp [ChangeMaps.setBlock]

theorem nodup_take_succ {l : List Int} {k : Nat} {x : Int} (hk : l[k]? = some x) (h : (l.take k).Nodup) (hn : ¬ x ∈ l.take k) : (l.take (k + 1)).Nodup := by
  obtain ⟨h1, h2⟩ := List.getElem?_eq_some_iff.1 hk
  rw [List.take_succ_eq_append_getElem h1, h2, List.nodup_append]
  refine ⟨h, by simp, ?_⟩
  intro a ha b hb e
  rw [List.mem_singleton] at hb
  subst hb
  subst e
  exact hn ha
theorem not_nodup {l : List Int} {k : Nat} {x : Int} (hk : l[k]? = some x) (hn : x ∈ l.take k) : ¬ l.Nodup := by
  intro h
  obtain ⟨h1, h2⟩ := List.getElem?_eq_some_iff.1 hk
  obtain ⟨j, hj, he⟩ := List.getElem_of_mem hn
  rw [List.getElem_take] at he
  have hj' : j < k := by rw [List.length_take] at hj; omega
  have := (List.getElem_inj (h₀ := (by omega)) (h₁ := h1) h).1 (he.trans h2.symm)
  omega
theorem take_succ_of {l : List Int} {k : Nat} {x : Int} (hk : l[k]? = some x) : l.take (k + 1) = l.take k ++ [x] := by
  obtain ⟨h1, h2⟩ := List.getElem?_eq_some_iff.1 hk
  rw [List.take_succ_eq_append_getElem h1, h2]

set_option maxHeartbeats 400000 in
theorem repeats_any (A : Option Addr) (c : Nat) (l : List Int) (w : World) (ha : Si w w.heap.size A l) (hn : l.length ≤ 1000) (hwf : ∀ x ∈ l, Wf x) :
    Calls Try.prog 59 #[.slice A l.length c] w fun e w' => e = .returned (.bool (!decide l.Nodup)) ∧ Below w.heap.size w w' := by
  have hmm := @run_makeMap Try.prog
  generalize hbb : (!decide l.Nodup) = bb
  have HB := Lib.hid hbb
  have HWF := Lib.hid hwf
  clear hbb hwf
  go_enter Try.func59, Try.ntmps59
  go_wp2
  clear hmm
  go_loopw [9] (fun i wr => ∃ k : Nat, k ≤ l.length ∧ i = .int .i64 k ∧ Ms wr w.heap.size k (l.take k) ∧ Hid ((l.take k).Nodup) ∧ Below w.heap.size w wr) (fun i _ => l.length - (intOf i).toNat)
  case atStart => exact ⟨0, Nat.zero_le _, rfl, Ms.made w, by show List.Nodup _; simp, b_new w _⟩
  case round =>
    obtain ⟨k, hk, rfl, hms, hnd, hb⟩ := hrel
    by_cases hlt : k < l.length
    · obtain ⟨x, hx⟩ := get_ex rfl hlt
      obtain ⟨b, off, rfl, h1, c1⟩ := si_get (ha.below hb) hx
      have hw := HWF.out x (List.mem_of_getElem? hx)
      have hlk := hms.look hw
      by_cases hm : x ∈ l.take k
      · have HR := Lib.hid (not_nodup hx hm)
        rw [decide_eq_true hm] at hlk
        clear hx hm
        go_wp2
        go_ret
        exact ⟨ret_bool (by rw [← HB.out, decide_eq_false HR.out]; rfl), hb⟩
      · obtain ⟨w2, hput, hms2, hgr, hsz⟩ := hms.put hw hm (by omega)
        rw [← take_succ_of hx] at hms2
        have HN := Lib.hid (nodup_take_succ hx hnd.out hm)
        rw [decide_eq_false hm] at hlk
        have hb2 := below_grown hb hgr (Nat.le_refl _)
        clear hx hm hgr hsz
        go_wp2
        go_roundw
        case rel => exact ⟨k + 1, by omega, by go_num, hms2, HN, hb2⟩
        case measure => simp [intOf]; omega
    · go_wp2
      go_ret
      have : l.take k = l := List.take_of_length_le (by omega)
      rw [this] at hnd
      exact ⟨ret_bool (by rw [← HB.out, decide_eq_true hnd.out]; rfl), hb⟩
end Go.Proofs.Ytcolekfjmhgldaa
