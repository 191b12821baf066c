/- Before and Followers. -/
import Derived.Test.YtcolekfjmhgldaaI
namespace Go.Proofs.Ytcolekfjmhgldaa
open Go.RowKit
open Pr (Opn)

theorem pickTo_lt {l : List Opn} {out : List Int} : ∀ (f i j : Nat), Pr.pickTo l out f i = some j → i ≤ j ∧ j < i + f
  | 0, i, j, h => by simp [Pr.pickTo] at h
  | f + 1, i, j, h => by
    rw [Pr.pickTo] at h
    split at h
    · injection h with h; omega
    · have := pickTo_lt f (i + 1) j h; omega
theorem pick_lt {l : List Opn} {out : List Int} {j : Nat} (h : Pr.pick l out = some j) : j < l.length := by
  have := pickTo_lt _ _ _ h
  omega
theorem greedy_range {l : List Opn} : ∀ (f : Nat) (out : List Int), (∀ x ∈ out, 0 ≤ x ∧ x < (l.length : Int)) → ∀ x ∈ Pr.greedy l f out, 0 ≤ x ∧ x < (l.length : Int)
  | 0, out, h => h
  | f + 1, out, h => by
    rw [Pr.greedy]
    split
    · rename_i i hi
      refine greedy_range f _ (fun x hx => ?_)
      rcases List.mem_append.1 hx with hx | hx
      · exact h x hx
      · rw [List.mem_singleton.1 hx]
        have := pick_lt hi
        omega
    · exact h
theorem greedy_length {l : List Opn} : ∀ (f : Nat) (out : List Int), (Pr.greedy l f out).length ≤ out.length + f
  | 0, out => Nat.le_refl _
  | f + 1, out => by
    rw [Pr.greedy]
    split
    · have := greedy_length (l := l) f (out ++ [((‹Nat› : Nat) : Int)])
      rw [List.length_append] at this
      simp only [List.length_cons, List.length_nil] at this
      omega
    · omega
theorem srt_range {l : List Opn} : ∀ x ∈ Pr.srt l, 0 ≤ x ∧ x < (l.length : Int) := greedy_range _ _ (by simp)
theorem srt_length (l : List Opn) : (Pr.srt l).length ≤ l.length := by have := greedy_length (l := l) l.length []; simpa [Pr.srt] using this
theorem ordE_zero {l : List Opn} (h : Pr.ordE l = 0) : l.length ≤ 16 ∧ Pr.singleE l = 0 ∧ (Pr.srt l).length = l.length := by
  unfold Pr.ordE at h
  split at h
  · omega
  · split at h
    · rename_i h1; exact absurd h h1
    · split at h
      · omega
      · rename_i h1 h2 h3
        have := srt_length l
        exact ⟨by omega, by omega, by omega⟩
theorem ordL_zero {l : List Opn} (h : Pr.ordE l = 0) : Pr.ordL l = Pr.srt l := by unfold Pr.ordL; rw [if_pos h]

def befE (l : List Opn) (a b : Int) : Int := if Pr.ordE l ≠ 0 then Pr.ordE l else if Pr.inB l.length a && Pr.inB l.length b then 0 else 3
def befB (l : List Opn) (a b : Int) : Bool := decide (befE l a b = 0) && Pr.folB l a b.toNat
def folE (l : List Opn) (a : Int) : Int := if Pr.ordE l ≠ 0 then Pr.ordE l else if Pr.inB l.length a then 0 else 3
def folL (l : List Opn) (a : Int) : List Int := if folE l a = 0 then Pr.fols l a else []
def FolPost (w : World) (l : List Opn) (a : Int) (e : Ending) (w' : World) : Prop :=
  ∃ v, e = .returned (.tuple #[v, .int .i64 (folE l a)]) ∧ Oi w' w.heap.size v (folL l a) ∧ Below w.heap.size w w'
theorem FolPost.bad {w w' : World} {l : List Opn} {a n : Int} (hn : folE l a = n) (h0 : n ≠ 0) (hb : Below w.heap.size w w') : FolPost w l a (.returned (.tuple #[.slice none 0 0, .int .i64 n])) w' := by
  refine ⟨_, by rw [hn], ?_, hb⟩
  unfold folL
  rw [hn, if_neg h0]
  exact World.ownsRow_nil _ _ _ _
theorem FolPost.good {w w' : World} {l : List Opn} {a : Int} {v : Value} (hn : folE l a = 0) (hv : Oi w' w.heap.size v (Pr.fols l a)) (hb : Below w.heap.size w w') : FolPost w l a (.returned (.tuple #[v, .int .i64 0])) w' := by
  refine ⟨_, by rw [hn], ?_, hb⟩
  unfold folL
  rw [hn, if_pos rfl]
  exact hv
theorem filter_ids_succ (f : Int → Bool) (k : Nat) : (Pr.ids (k + 1)).filter f = (Pr.ids k).filter f ++ (if f (k : Int) = true then [(k : Int)] else []) := by
  rw [ids_succ, List.filter_append]
  by_cases h : f (k : Int) = true
  · rw [if_pos h, List.filter_cons_of_pos h]; rfl
  · rw [if_neg h, List.filter_cons_of_neg h]; rfl
theorem ob_kept {w w' : World} {base n c g : Nat} {l : List Bool} {row : Option Nat} (h : Ob w base (.slice (some ⟨g, 0, none⟩) n c) l) (hg : w.grownBy w' row) (hne : some g ≠ row) : Ob w' base (.slice (some ⟨g, 0, none⟩) n c) l :=
  World.ownsRow.kept h hg (.inr (by intro e; exact hne (by simpa [Value.ownBlock] using e)))

set_option maxHeartbeats 1000000 in
theorem followers_any (A : Option Addr) (c : Nat) (l : List Opn) (a : Int) (w : World) (hl : So w w.heap.size A l) (hk : Oks l) (hc : l.length ≤ c) (hcm : c ≤ maxLen) :
    Calls Try.prog 65 #[.slice A l.length c, .int .i64 a] w (FolPost w l a) := by
  have hlen := hk.len
  have HC := Lib.hid (checkList_any A c l w hl hk hc hcm)
  clear hc hcm
  by_cases h0 : Pr.ordE l = 0
  · obtain ⟨h16, hS, hsl⟩ := ordE_zero h0
    have HF := Lib.hid (fine_of hS h16)
    have HI := Lib.hid (fun (W : World) (X : Nat) (AA : Option Addr) (hW : Si W W.heap.size AA [a]) => areIndices_any AA X l.length [a] W hW (by simp))
    go_enter Try.func65, Try.ntmps65
    go_wp2_with fail
    refine HC.out.mono ?_
    rintro e w1 ⟨v, rfl, hv, hb⟩
    rw [ordL_zero h0] at hv
    rw [h0]
    have HE : Hid (folE l a = if Pr.inB l.length a then 0 else 3) := by show _ = _; unfold folE; rw [if_neg (by rw [h0]; simp)]
    clear h0 HC
    go_wp2_with fail
    refine (HI.out _ _ _ (lit1 _ _)).mono ?_
    rintro e w2 ⟨rfl, rfl⟩
    have hall : [a].all (Pr.inB l.length) = Pr.inB l.length a := by simp
    rw [hall]
    clear HI hall
    have hb1 := b_al hb (.cells #[.int .i64 a] 3)
    cases hin : Pr.inB l.length a with
    | false =>
      have HE2 : Hid (folE l a = 3) := by show _ = _; rw [HE.out, hin]; rfl
      clear HE hin
      go_wp2
      go_ret2
      exact FolPost.bad HE2.out (by decide) hb1
    | true =>
      have HE2 : Hid (folE l a = 0) := by show _ = _; rw [HE.out, hin]; rfl
      clear HE hin
      obtain ⟨oA, oc, rfl, _, _, hsi, _⟩ := hv.shape
      have hsi1 : Si (w1.alloc (.cells #[.int .i64 a] 3)) (w1.alloc (.cells #[.int .i64 a] 3)).heap.size oA (Pr.srt l) := si_alloc hsi (Below.refl _ _) _
      have HP := Lib.hid (preceded_any A c l oA oc (Pr.srt l) a _ (hl.to hb1) hsi1 HF.out hk srt_range (by omega))
      rw [hsl] at HP
      rw [hsl]
      clear hsl hv
      go_wp2_with fail
      refine HP.out.mono ?_
      rintro e w3 ⟨rfl, hob, hb3⟩
      have hb4 := b_tr hb1 hb3
      have hgl := World.ownsRow.lt hob _ rfl
      have hgM := hb1.size
      generalize hg : (w1.alloc (.cells #[.int .i64 a] 3)).heap.size = g at *
      clear hb1 hb3 hg hsi hsi1 HP hb
      have hml := hob.lenEq
      have HFM : Hid (∀ i, (Pr.met l (Pr.srt l) a).getD i false = Pr.folB l a i) := fun i => rfl
      have HFF : Hid (Pr.fols l a = (Pr.ids l.length).filter fun b => Pr.folB l a b.toNat) := rfl
      generalize Pr.met l (Pr.srt l) a = mt at *
      have hon := World.ownsRow_nil w3 w3.heap.size 3 1
      generalize hM : w3.heap.size = M at *
      have hMz : M ≤ w3.heap.size := by omega
      clear hM
      go_wp2
      go_loopw [8, 30] (fun v s30 wr => ∃ k : Nat, k ≤ l.length ∧ s30 = .int .i64 k ∧ Oi wr M v ((Pr.ids k).filter fun b => Pr.folB l a b.toNat) ∧ Ob wr g (.slice (some ⟨g, 0, none⟩) l.length l.length) mt ∧ Below w.heap.size w wr ∧ M ≤ wr.heap.size) (fun _ s30 _ => l.length - (intOf s30).toNat)
      case atStart => exact ⟨0, Nat.zero_le _, rfl, hon, hob, hb4, hMz⟩
      case round =>
        obtain ⟨k, hk1, rfl, hv, hob, hb, hMw⟩ := hrel
        by_cases hlt : k < l.length
        · have c2 := hob.get (getD_some (l := mt) (q := k) (by omega))
          have HS := Lib.hid (filter_ids_succ (fun b => Pr.folB l a b.toNat) k)
          rw [HFM.out k] at c2
          cases hg : Pr.folB l a k with
          | true =>
            rw [hg] at c2
            have HS2 : Hid ((Pr.ids (k + 1)).filter (fun b => Pr.folB l a b.toNat) = (Pr.ids k).filter (fun b => Pr.folB l a b.toNat) ++ [(k : Int)]) := by show _ = _; rw [HS.out, if_pos (by show Pr.folB l a (Int.toNat (k : Int)) = true; rw [Int.toNat_natCast]; exact hg)]
            have hfl : ((Pr.ids k).filter (fun b => Pr.folB l a b.toNat)).length ≤ k := by have := List.length_filter_le (fun b => Pr.folB l a b.toNat) (Pr.ids k); rw [ids_length] at this; exact this
            clear HS hg
            go_wp2_with (at_builtin; refine wpList_append_ints _ rfl _ _ rfl M _ _ rfl (oi_none hv (World.grownBy_alloc _ _ none)) _ _ [(k : Int)] _ _ rfl rfl (one_cell _ _) (by simp; omega) (by simp; omega) ?_; intro v5 w5 how5 hg5 hat5)
            try go_frame
            have hvM : ∀ k, Value.ownBlock _ = some k → M ≤ k := fun k hk => (World.ownsRow.lt hv k hk).1
            have hob5 := ob_kept (ob_kept hob (World.grownBy_alloc _ (.cells #[.int .i64 (k : Int)] 3) none) (by simp)) hg5 (fun e => by have := hvM g e.symm; omega)
            have hb5 := (b_al hb (.cells #[.int .i64 (k : Int)] 3)).trans ((Below.refl _ _).grown hg5 (b_al hb (.cells #[.int .i64 (k : Int)] 3)).size (fun k hk => by have := hvM k hk; omega))
            have hsz5 := hg5.size
            rw [size_al] at hsz5
            go_roundw
            case rel => exact ⟨k + 1, by omega, by go_num, by rw [HS2.out]; exact how5, hob5, hb5, by omega⟩
            case measure => simp [intOf]; omega
          | false =>
            rw [hg] at c2
            have HS2 : Hid ((Pr.ids (k + 1)).filter (fun b => Pr.folB l a b.toNat) = (Pr.ids k).filter (fun b => Pr.folB l a b.toNat)) := by show _ = _; rw [HS.out, if_neg (by show ¬ Pr.folB l a (Int.toNat (k : Int)) = true; rw [Int.toNat_natCast, hg]; simp), List.append_nil]
            clear HS hg
            go_wp2
            go_roundw
            case rel => exact ⟨k + 1, by omega, by go_num, by rw [HS2.out]; exact hv, hob, hb, hMw⟩
            case measure => simp [intOf]; omega
        · obtain rfl : k = l.length := by omega
          have hv' := hv.base_le (base' := w.heap.size) (by omega)
          rw [← HFF.out] at hv'
          clear hlt hk1
          go_wp2
          go_ret2
          exact FolPost.good HE2.out hv' hb
  · have HE : Hid (folE l a = Pr.ordE l) := by show _ = _; unfold folE; rw [if_pos h0]
    have hne : (Pr.ordE l == 0) = false := by simpa using h0
    go_enter Try.func65, Try.ntmps65
    go_wp2_with fail
    refine HC.out.mono ?_
    rintro e w1 ⟨v, rfl, hv, hb⟩
    generalize Pr.ordE l = E at *
    go_wp2
    go_ret2
    exact FolPost.bad HE.out h0 hb

theorem lit2 (w : World) (x y : Int) : Si (w.alloc (.cells #[.int .i64 x, .int .i64 y] 3)) (w.alloc (.cells #[.int .i64 x, .int .i64 y] 3)).heap.size (some ⟨w.heap.size, 0, none⟩) [x, y] :=
  .inr ⟨w.heap.size, 0, rfl, by rw [size_al]; omega, fun i z hi => by
    match i, hi with
    | 0, hi => simp at hi; subst hi; simp
    | 1, hi => simp at hi; subst hi; simp⟩

theorem befB_of {l : List Opn} {a b : Int} {n : Int} (h : befE l a b = n) (h0 : n ≠ 0) : befB l a b = false := by unfold befB; rw [h, decide_eq_false h0]; rfl
theorem befB_zero {l : List Opn} {a b : Int} (h : befE l a b = 0) : befB l a b = Pr.folB l a b.toNat := by unfold befB; rw [h]; rfl
theorem ret_be {b b' : Bool} {n n' : Int} (h1 : b = b') (h2 : n = n') : Ending.returned (.tuple #[.bool b, .int .i64 n]) = .returned (.tuple #[.bool b', .int .i64 n']) := by rw [h1, h2]

set_option maxHeartbeats 1000000 in
theorem before_any (A : Option Addr) (c : Nat) (l : List Opn) (a b : Int) (w : World) (hl : So w w.heap.size A l) (hk : Oks l) (hc : l.length ≤ c) (hcm : c ≤ maxLen) :
    Calls Try.prog 13 #[.slice A l.length c, .int .i64 a, .int .i64 b] w fun e w' => e = .returned (.tuple #[.bool (befB l a b), .int .i64 (befE l a b)]) ∧ Below w.heap.size w w' := by
  have hlen := hk.len
  have HC := Lib.hid (checkList_any A c l w hl hk hc hcm)
  clear hc hcm
  by_cases h0 : Pr.ordE l = 0
  · obtain ⟨h16, hS, hsl⟩ := ordE_zero h0
    have HF := Lib.hid (fine_of hS h16)
    have HI := Lib.hid (fun (W : World) (X : Nat) (AA : Option Addr) (hW : Si W W.heap.size AA [a, b]) => areIndices_any AA X l.length [a, b] W hW (by simp))
    go_enter Try.func13, Try.ntmps13
    go_wp2_with fail
    refine HC.out.mono ?_
    rintro e w1 ⟨v, rfl, hv, hb⟩
    rw [ordL_zero h0] at hv
    rw [h0]
    have HE : Hid (befE l a b = if Pr.inB l.length a && Pr.inB l.length b then 0 else 3) := by show _ = _; unfold befE; rw [if_neg (by rw [h0]; simp)]
    clear h0 HC
    go_wp2_with fail
    refine (HI.out _ _ _ (lit2 _ _ _)).mono ?_
    rintro e w2 ⟨rfl, rfl⟩
    have hall : [a, b].all (Pr.inB l.length) = (Pr.inB l.length a && Pr.inB l.length b) := by simp
    rw [hall]
    clear HI hall
    have hb1 := b_al hb (.cells #[.int .i64 a, .int .i64 b] 3)
    cases hin : (Pr.inB l.length a && Pr.inB l.length b) with
    | false =>
      have HE2 : Hid (befE l a b = 3) := by show _ = _; rw [HE.out, hin]; rfl
      clear HE hin
      go_wp2
      go_ret2
      exact ⟨ret_be (befB_of HE2.out (by decide)).symm HE2.out.symm, hb1⟩
    | true =>
      have HE2 : Hid (befE l a b = 0) := by show _ = _; rw [HE.out, hin]; rfl
      have hbb : 0 ≤ b ∧ b < (l.length : Int) := by
        unfold Pr.inB at hin
        simp at hin
        exact hin.2
      clear HE hin
      obtain ⟨q, rfl⟩ := Int.eq_ofNat_of_zero_le hbb.1
      obtain ⟨oA, oc, rfl, _, _, hsi, _⟩ := hv.shape
      have hsi1 : Si (w1.alloc (.cells #[.int .i64 a, .int .i64 (q : Int)] 3)) (w1.alloc (.cells #[.int .i64 a, .int .i64 (q : Int)] 3)).heap.size oA (Pr.srt l) := si_alloc hsi (Below.refl _ _) _
      have HP := Lib.hid (preceded_any A c l oA oc (Pr.srt l) a _ (hl.to hb1) hsi1 HF.out hk srt_range (by omega))
      rw [hsl] at HP
      rw [hsl]
      clear hsl hv
      go_wp2_with fail
      refine HP.out.mono ?_
      rintro e w3 ⟨rfl, hob, hb3⟩
      have hb4 := b_tr hb1 hb3
      have hml := hob.lenEq
      have c2 := hob.get (getD_some (q := q) (by omega))
      have HB : Hid (befB l a (q : Int) = (Pr.met l (Pr.srt l) a).getD q false) := befB_zero HE2.out
      have hq : q < l.length := by omega
      generalize (Pr.met l (Pr.srt l) a).getD q false = r at *
      generalize hg : (w1.alloc (.cells #[.int .i64 a, .int .i64 (q : Int)] 3)).heap.size = g at *
      clear HP hob hb1 hb3 hg hsi hsi1 hb
      go_wp2
      go_ret2
      exact ⟨ret_be HB.out.symm HE2.out.symm, hb4⟩
  · have HE : Hid (befE l a b = Pr.ordE l) := by show _ = _; unfold befE; rw [if_pos h0]
    have hne : (Pr.ordE l == 0) = false := by simpa using h0
    go_enter Try.func13, Try.ntmps13
    go_wp2_with fail
    refine HC.out.mono ?_
    rintro e w1 ⟨v, rfl, hv, hb⟩
    generalize Pr.ordE l = E at *
    go_wp2
    go_ret2
    exact ⟨ret_be (befB_of HE.out h0).symm HE.out.symm, hb⟩
end Go.Proofs.Ytcolekfjmhgldaa
