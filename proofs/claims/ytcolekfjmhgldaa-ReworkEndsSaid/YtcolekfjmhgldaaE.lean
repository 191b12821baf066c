/- Slices of operations in memory; the check of one operation. -/
import Derived.Test.YtcolekfjmhgldaaD
namespace Go.Proofs.Ytcolekfjmhgldaa
open Go.RowKit
open Pr (Opn)

theorem cells27 : Try.prog.cellsOf 27 = 5 := by kernel_rfl

/-- the five cells of an operation, from place o of block b on -/
structure Opc (w : World) (b o : Nat) (x : Opn) (aA : Option Addr) (aC : Nat) (uA : Option Addr) (uC : Nat) : Prop where
  c0 : w.cell? ⟨b, o, none⟩ = some (.string x.name)
  c1 : w.cell? ⟨b, o + 1, none⟩ = some (.int .i64 x.machine)
  c2 : w.cell? ⟨b, o + 2, none⟩ = some (.int .i64 x.minutes)
  c3 : w.cell? ⟨b, o + 3, none⟩ = some (.slice aA x.after.length aC)
  c4 : w.cell? ⟨b, o + 4, none⟩ = some (.slice uA x.uses uC)
theorem Opc.keep {w w' : World} {b o : Nat} {x : Opn} {aA : Option Addr} {aC : Nat} {uA : Option Addr} {uC B : Nat} (h : Opc w b o x aA aC uA uC) (hb : Below B w w') (hB : b < B) : Opc w' b o x aA aC uA uC := by
  have hk : ∀ j, w'.cell? ⟨b, j, none⟩ = w.cell? ⟨b, j, none⟩ := fun j => hb.cell (p := ⟨b, j, none⟩) hB
  exact ⟨(hk _).trans h.c0, (hk _).trans h.c1, (hk _).trans h.c2, (hk _).trans h.c3, (hk _).trans h.c4⟩

/-- The slice at A reads as the operations l and lies below block B. -/
def So (w : World) (B : Nat) (A : Option Addr) (l : List Opn) : Prop :=
  l = [] ∨ ∃ b off, A = some ⟨b, off, none⟩ ∧ b < B ∧ ∀ i x, l[i]? = some x → ∃ aA aC uA uC, Opc w b (off + i * 5) x aA aC uA uC ∧ Si w B aA x.after
theorem So.get {w : World} {B : Nat} {A : Option Addr} {l : List Opn} (h : So w B A l) {i : Nat} {x : Opn} (hi : l[i]? = some x) :
    ∃ b off aA aC uA uC, A = some ⟨b, off, none⟩ ∧ b < B ∧ Opc w b (off + i * 5) x aA aC uA uC ∧ Si w B aA x.after := by
  rcases h with rfl | ⟨b, off, h1, h2, h3⟩
  · simp at hi
  · obtain ⟨aA, aC, uA, uC, h4, h5⟩ := h3 i x hi
    exact ⟨b, off, aA, aC, uA, uC, h1, h2, h4, h5⟩
theorem So.below {w w' : World} {B : Nat} {A : Option Addr} {l : List Opn} (h : So w B A l) (hb : Below B w w') : So w' B A l := by
  rcases h with rfl | ⟨b, off, h1, h2, h3⟩
  · exact .inl rfl
  · refine .inr ⟨b, off, h1, h2, fun i x hi => ?_⟩
    obtain ⟨aA, aC, uA, uC, h4, h5⟩ := h3 i x hi
    exact ⟨aA, aC, uA, uC, h4.keep hb h2, h5.below hb⟩
theorem So.more {w : World} {B B' : Nat} {A : Option Addr} {l : List Opn} (h : So w B A l) (hB : B ≤ B') : So w B' A l := by
  rcases h with rfl | ⟨b, off, h1, h2, h3⟩
  · exact .inl rfl
  · refine .inr ⟨b, off, h1, by omega, fun i x hi => ?_⟩
    obtain ⟨aA, aC, uA, uC, h4, h5⟩ := h3 i x hi
    exact ⟨aA, aC, uA, uC, h4, h5.more hB⟩
theorem So.to {w w' : World} {A : Option Addr} {l : List Opn} (h : So w w.heap.size A l) (hb : Below w.heap.size w w') : So w' w'.heap.size A l := (h.below hb).more hb.size

/-- operations within the reach -/
structure Oks (l : List Opn) : Prop where
  len : l.length ≤ 1000
  name : ∀ o ∈ l, o.name.size ≤ maxLen
  wf : ∀ o ∈ l, ∀ a ∈ o.after, Wf a
  aft : ∀ o ∈ l, o.after.length ≤ 1000

theorem new5 (w : World) (x : Opn) (aA : Option Addr) (aC : Nat) (uA : Option Addr) (uC : Nat) :
    Opc (w.alloc (.cells #[.string x.name, .int .i64 x.machine, .int .i64 x.minutes, .slice aA x.after.length aC, .slice uA x.uses uC] 27)) w.heap.size 0 x aA aC uA uC := by
  constructor <;> simp

theorem name_eq (a b : ByteArray) : (a.toList == b.toList) = decide (a = b) := by
  have h1 : a.toList = a.data.toList := ByteArray.toList_eq a
  have h2 : b.toList = b.data.toList := ByteArray.toList_eq b
  by_cases h : a = b
  · subst h; simp
  · rw [decide_eq_false h]
    rw [beq_eq_false_iff_ne]
    intro e
    rw [h1, h2] at e
    apply h
    cases a
    cases b
    simp at e
    rw [e]
theorem any_name_succ {l : List Opn} {k : Nat} {x : Opn} (f : Opn → Bool) (hk : l[k]? = some x) : (l.take (k + 1)).any f = ((l.take k).any f || f x) := by
  obtain ⟨h1, h2⟩ := List.getElem?_eq_some_iff.1 hk
  rw [List.take_succ_eq_append_getElem h1, List.any_append, h2]
  simp
theorem any_name_at {l : List Opn} {k i : Nat} {x : Opn} (f : Opn → Bool) (hk : l[k]? = some x) (hi : k < i) (h : f x = true) : (l.take i).any f = true := by
  refine List.any_eq_true.2 ⟨x, ?_, h⟩
  obtain ⟨h1, h2⟩ := List.getElem?_eq_some_iff.1 hk
  rw [← h2]
  refine List.mem_iff_getElem.2 ⟨k, by rw [List.length_take]; omega, ?_⟩
  rw [List.getElem_take]

theorem err1_at {l : List Opn} {i : Nat} {o : Opn} (h : l[i]? = some o) : Pr.err1 l i = if Pr.nameB o.name = false then 1 else if (l.take i).any (fun e => decide (e.name = o.name)) = true then 7 else if o.machine < 0 ∨ 8 ≤ o.machine ∨ o.minutes < 1 ∨ 10000 < o.minutes then 3
      else if o.after.all (Pr.inB l.length) = false then 3 else if o.after.Nodup then 0 else 7 := by
  unfold Pr.err1
  rw [h]

set_option maxHeartbeats 2000000 in
theorem checkOne_any (A : Option Addr) (c : Nat) (l : List Opn) (i : Nat) (w : World) (hl : So w w.heap.size A l) (hk : Oks l) (hi : i < l.length) (hc : l.length ≤ c) (hcm : c ≤ maxLen) :
    Calls Try.prog 44 #[.slice A l.length c, .int .i64 (i : Int), .int .i64 (-1)] w fun e w' => e = .returned (.int .i64 (Pr.err1 l i)) ∧ Below w.heap.size w w' := by
  obtain ⟨o, ho⟩ : ∃ o, l[i]? = some o := ⟨_, List.getElem?_eq_getElem hi⟩
  have hom : o ∈ l := List.mem_of_getElem? ho
  obtain ⟨b, off, aA, aC, uA, uC, rfl, hbB, hop, hsa⟩ := hl.get ho
  have hE := err1_at ho
  have hnm := hk.name o hom
  have hwf := hk.wf o hom
  have haf := hk.aft o hom
  have hlen := hk.len
  have HNm := Lib.hid (fun W => isName_any o.name W hnm)
  generalize Pr.err1 l i = R at *
  unfold maxLen at hcm
  clear ho hk
  have hB0 := b_new w (.cells #[.string o.name, .int .i64 o.machine, .int .i64 o.minutes, .slice aA o.after.length aC, .slice uA o.uses uC] 27)
  have hn5 := new5 w o aA aC uA uC
  obtain ⟨p0, p1, p2, p3, p4⟩ := hop
  have q0 := hn5.c0
  cases hnb : Pr.nameB o.name with
  | false =>
    rw [hnb, if_pos rfl] at hE
    rw [hnb] at HNm
    have HE := Lib.hid hE
    clear hnb hE
    go_enter Try.func44, Try.ntmps44
    go_wp2_with fail
    refine (HNm.out _).mono ?_
    rintro e w1 ⟨rfl, rfl⟩
    go_wp2
    go_ret
    exact ⟨ret_int HE.out.symm, hB0⟩
  | true =>
    rw [hnb, if_neg (by simp)] at hE
    rw [hnb] at HNm
    have HE := Lib.hid hE
    clear hnb hE
    go_enter Try.func44, Try.ntmps44
    go_wp2_with fail
    refine (HNm.out _).mono ?_
    rintro e w1 ⟨rfl, rfl⟩
    go_wp2
    clear q0 HNm
    go_loopw [22] (fun s22 wr => ∃ k : Nat, k ≤ i ∧ s22 = .int .i64 k ∧ Hid ((l.take k).any (fun e => decide (e.name = o.name)) = false) ∧ Opc wr w.heap.size 0 o aA aC uA uC ∧ w.heap.size < wr.heap.size ∧ Below w.heap.size w wr) (fun s22 _ => i - (intOf s22).toNat)
    case atStart => exact ⟨0, Nat.zero_le _, rfl, rfl, hn5, by rw [size_al]; omega, hB0⟩
    case round =>
      obtain ⟨k, hk, rfl, hany, hoc, hz, hb⟩ := hrel
      obtain ⟨r0, r1, r2, r3, r4⟩ := hoc
      by_cases hlt : k < i
      · obtain ⟨x, hx⟩ : ∃ x, l[k]? = some x := ⟨_, List.getElem?_eq_getElem (by omega)⟩
        obtain ⟨b', off', xA, xC, yA, yC, he, _, hxc, _⟩ := (hl.below hb).get hx
        obtain ⟨rfl, rfl⟩ : b = b' ∧ off = off' := by
          have := Option.some.inj he
          simp only [Addr.mk.injEq, and_true] at this
          exact this
        have HA1 := Lib.hid (any_name_succ (fun e => decide (e.name = o.name)) hx)
        have HA2 := Lib.hid (any_name_at (fun e => decide (e.name = o.name)) hx hlt)
        have hq := name_eq x.name o.name
        have hoc' : Opc (wr.alloc (.cells #[.string x.name, .int .i64 x.machine, .int .i64 x.minutes, .slice xA x.after.length xC, .slice yA x.uses yC] 27)) w.heap.size 0 o aA aC uA uC := Opc.keep ⟨r0, r1, r2, r3, r4⟩ (b_new wr _) hz
        have hb' := b_al hb (.cells #[.string x.name, .int .i64 x.machine, .int .i64 x.minutes, .slice xA x.after.length xC, .slice yA x.uses yC] 27)
        obtain ⟨x0, x1, x2, x3, x4⟩ := hxc
        clear hx he
        cases hqq : decide (x.name = o.name) with
        | true =>
          rw [hqq] at hq
          have HT := Lib.hid (HA2.out hqq)
          clear HA1 HA2 hqq
          go_wp2
          go_ret
          exact ⟨ret_int (by rw [HE.out, if_pos HT.out]), hb'⟩
        | false =>
          rw [hqq] at hq
          have HT : Hid ((l.take (k + 1)).any (fun e => decide (e.name = o.name)) = false) := by show _ = _; rw [HA1.out, hany.out, hqq]; rfl
          clear HA1 HA2 hqq
          go_wp2
          go_roundw
          case rel => exact ⟨k + 1, by omega, by go_num, HT, hoc', by rw [size_al]; omega, hb'⟩
          case measure => simp [intOf]; omega
      · obtain rfl : k = i := by omega
        have HE2 : Hid (R = if o.machine < 0 ∨ 8 ≤ o.machine ∨ o.minutes < 1 ∨ 10000 < o.minutes then 3 else if o.after.all (Pr.inB l.length) = false then 3 else if o.after.Nodup then 0 else 7) := by
          show _ = _
          rw [HE.out, hany.out, if_neg (by simp)]
        clear HE hany hlt hk
        have hsa' := (hsa.below hb).more hb.size
        have HI := Lib.hid (fun W hW => areIndices_any aA aC l.length o.after W hW (by omega))
        have HR := Lib.hid (fun W hW => repeats_any aA aC o.after W hW haf hwf)
        by_cases g : o.machine < 0 ∨ 8 ≤ o.machine ∨ o.minutes < 1 ∨ 10000 < o.minutes
        · have HE3 : Hid (R = 3) := by show _ = _; rw [HE2.out, if_pos g]
          clear HE2 HI HR
          have g' : o.machine < 0 ∨ (0 ≤ o.machine ∧ 8 ≤ o.machine) ∨ (0 ≤ o.machine ∧ o.machine < 8 ∧ o.minutes < 1) ∨ (0 ≤ o.machine ∧ o.machine < 8 ∧ 1 ≤ o.minutes ∧ 10000 < o.minutes) := by omega
          clear g
          rcases g' with g | ⟨g1, g2⟩ | ⟨g1, g2, g3⟩ | ⟨g1, g2, g3, g4⟩
          all_goals
            go_wp2
            go_ret
            exact ⟨ret_int HE3.out.symm, hb⟩
        · have HE3 : Hid (R = if o.after.all (Pr.inB l.length) = false then 3 else if o.after.Nodup then 0 else 7) := by show _ = _; rw [HE2.out, if_neg g]
          have g1 : 0 ≤ o.machine := by omega
          have g2 : o.machine < 8 := by omega
          have g3 : 1 ≤ o.minutes := by omega
          have g4 : o.minutes ≤ 10000 := by omega
          clear HE2 g
          cases hal : o.after.all (Pr.inB l.length) with
          | false =>
            rw [hal] at HI
            have HE4 : Hid (R = 3) := by show _ = _; rw [HE3.out, if_pos hal]
            clear HE3 hal HR
            go_wp2_with fail
            refine (HI.out _ hsa').mono ?_
            rintro e w1 ⟨rfl, rfl⟩
            go_wp2
            go_ret
            exact ⟨ret_int HE4.out.symm, hb⟩
          | true =>
            rw [hal] at HI
            have HE4 : Hid (R = if o.after.Nodup then 0 else 7) := by show _ = _; rw [HE3.out, if_neg (by rw [hal]; simp)]
            clear HE3 hal
            cases hnd : decide o.after.Nodup with
            | true =>
              rw [hnd] at HR
              have HE5 : Hid (R = 0) := by show _ = _; rw [HE4.out, if_pos (of_decide_eq_true hnd)]
              clear HE4 hnd
              go_wp2_with fail
              refine (HI.out _ hsa').mono ?_
              rintro e w1 ⟨rfl, rfl⟩
              go_wp2_with fail
              refine (HR.out _ hsa').mono ?_
              rintro e w2 ⟨rfl, hb2⟩
              go_wp2
              go_ret
              exact ⟨ret_int HE5.out.symm, b_tr hb hb2⟩
            | false =>
              rw [hnd] at HR
              have HE5 : Hid (R = 7) := by show _ = _; rw [HE4.out, if_neg (of_decide_eq_false hnd)]
              clear HE4 hnd
              go_wp2_with fail
              refine (HI.out _ hsa').mono ?_
              rintro e w1 ⟨rfl, rfl⟩
              go_wp2_with fail
              refine (HR.out _ hsa').mono ?_
              rintro e w2 ⟨rfl, hb2⟩
              go_wp2
              go_ret
              exact ⟨ret_int HE5.out.symm, b_tr hb hb2⟩
end Go.Proofs.Ytcolekfjmhgldaa
