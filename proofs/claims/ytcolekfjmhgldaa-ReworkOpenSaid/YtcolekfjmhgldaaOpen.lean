/- ReworkOpen: an operation that is not open was completed, and its predecessors are not open. Conditions: none beyond the statement's own. -/
import Derived.Test.YtcolekfjmhgldaaPlb
namespace Go.Proofs.Ytcolekfjmhgldaa.opens
open Go.ChangeShapes Go.WideShapes Go.ChangeAt Go.RowKit Go.Deep
open Pr (Opn Prg Res)

def marks (n : Nat) (l : List Int) : List Bool := l.foldl (fun m x => m.set x.toNat true) (List.replicate n false)
theorem marks_len (n : Nat) (l : List Int) : (marks n l).length = n := by
  unfold marks
  suffices h : ∀ m : List Bool, (l.foldl (fun m x => m.set x.toNat true) m).length = m.length by rw [h, List.length_replicate]
  induction l with
  | nil => intro m; rfl
  | cons x l ih => intro m; show (l.foldl _ (m.set x.toNat true)).length = _; rw [ih, List.length_set]
theorem marks_snoc (n : Nat) (l : List Int) (x : Int) : marks n (l ++ [x]) = (marks n l).set x.toNat true := by unfold marks; rw [List.foldl_append]; rfl
theorem marks_get {n : Nat} {l : List Int} (hr : ∀ x ∈ l, 0 ≤ x ∧ x < (n : Int)) {b : Nat} (hb : b < n) : (marks n l).getD b false = decide ((b : Int) ∈ l) := by
  suffices h : ∀ (k : Nat), k ≤ l.length → (marks n (l.take k)).getD b false = decide ((b : Int) ∈ l.take k) by
    have := h l.length (Nat.le_refl _)
    rw [List.take_length] at this
    exact this
  intro k
  induction k with
  | zero => intro _; simp [marks, List.getD_eq_getElem?_getD, hb]
  | succ k ih =>
    intro hk
    have hx : l[k]? = some l[k] := List.getElem?_eq_getElem (by omega)
    rw [List.take_add_one, hx]
    show (marks n (l.take k ++ [l[k]])).getD b false = decide ((b : Int) ∈ l.take k ++ [l[k]])
    rw [marks_snoc]
    have hxr := hr l[k] (List.getElem_mem (by omega))
    by_cases e : l[k].toNat = b
    · rw [← e, List.getD_eq_getElem?_getD, List.getElem?_set_self (by rw [marks_len]; omega)]
      rw [decide_eq_true (List.mem_append.2 (.inr (by simp; omega)))]
      rfl
    · rw [List.getD_eq_getElem?_getD, List.getElem?_set_ne e, ← List.getD_eq_getElem?_getD, ih (by omega)]
      congr 1
      refine propext ⟨fun h => List.mem_append.2 (.inl h), fun h => ?_⟩
      rcases List.mem_append.1 h with h | h
      · exact h
      · simp at h; omega

set_option maxRecDepth 100000 in
set_option maxHeartbeats 4000000 in
theorem walk (A : Option Addr) (len c : Nat) (l : List Opn) (eA : Option Addr) (elen ec : Nat) (es : List (Int × Int)) (most : Int) (w : World) (h0 : CameO w A len c l) (h1 : CameE w eA elen ec es) (_h2 : (Lit.int .i64 most).wf = true) :
    Calls Try.prog 9 #[.slice A len c, .slice eA elen ec, .int .i64 most] w fun e w' => e = .returned (.bool true) ∧ Below w.heap.size w w' := by
  obtain ⟨rfl, hc, hcm, hl, hwf⟩ := h0
  obtain ⟨rfl, hec, hecm, hes⟩ := h1
  have HL := Lib.hid (light_any A c l w hl (Nat.le_trans hc hcm))
  have HA := Lib.hid (fun W => alive_any W)
  by_cases g1 : lightB l = true
  · obtain ⟨hk, hl20, ha20⟩ := light_oks g1 hwf
    rw [g1] at HL
    by_cases g2 : (80 : Int) < (es.length : Int)
    · go_enter Try.func9, Try.ntmps9
      go_wp2_with fail
      refine HL.out.mono ?_
      rintro e w1 ⟨rfl, rfl⟩
      go_wp2_with fail
      refine (HA.out _).mono ?_
      rintro e w2 ⟨rfl, hb⟩
      go_wp2
      go_ret
      exact ⟨rfl, hb⟩
    have HR := Lib.hid (run_any A c l eA ec es most w hl hk hc hcm hes (by omega))
    have HI := Lib.hid (fun h => run_inv (l := l) (most := most) (es := es) h)
    generalize Pr.runR l es most = R at *
    obtain ⟨E, P, N⟩ := R
    dsimp only at HI
    by_cases hE : E = 0
    · subst hE
      obtain ⟨hI, hord⟩ := HI.out rfl
      have hPl : P.opn.length ≤ l.length := by
        have := nd_le (s := P.opn) (t := Pr.ids l.length) (hI.asc.imp (fun h => by omega)) (fun x hx => mem_ids.2 (hI.rng x hx))
        rw [ids_length] at this
        exact this
      clear HI
      go_enter Try.func9, Try.ntmps9
      go_wp2_with fail
      refine HL.out.mono ?_
      rintro e w1 ⟨rfl, rfl⟩
      go_wp2_with fail
      refine HR.out.mono ?_
      rintro e w2 ⟨dv, ov, rfl, hd, ho, hb2⟩
      dsimp only at hd ho
      obtain ⟨dA, dc, rfl, _, _, _, _⟩ := hd.shape
      obtain ⟨oA, oc, rfl, _, _, _, _⟩ := ho.shape
      have hP := Pc.new hd ho
      have hb3 := b_al hb2 (.cells #[.int .i64 P.state, .slice dA P.done.length dc, .slice oA P.opn.length oc, .int .i64 P.rework] 29)
      clear hd ho HL HR
      have hl3 := hl.to hb3
      obtain ⟨w4, hmk, hob, hb4⟩ := make_bools (w2.alloc (.cells #[.int .i64 P.state, .slice dA P.done.length dc, .slice oA P.opn.length oc, .int .i64 P.rework] 29)) l.length (by omega)
      go_wp2
      have hW0 : (w2.alloc (.cells #[.int .i64 P.state, .slice dA P.done.length dc, .slice oA P.opn.length oc, .int .i64 P.rework] 29)).heap.size = w2.heap.size + 1 := size_al _ _
      generalize w2.alloc (.cells #[.int .i64 P.state, .slice dA P.done.length dc, .slice oA P.opn.length oc, .int .i64 P.rework] 29) = W0 at *
      generalize w2.heap.size = g at *
      have c1 := hP.c1
      have c2 := hP.c2
      have hgl := hP.gl
      have hsd := oi_si hP.hd
      have hso := oi_si hP.ho
      have hm0 : marks l.length [] = List.replicate l.length false := rfl
      rw [← hm0] at hob
      clear hm0 hmk hP
      have hgb := Lib.hid hW0
      rw [hW0] at hob hb4 hl3 hsd hso hgl
      clear hW0
      go_loopw [11] (fun s11 wr => ∃ k : Nat, k ≤ P.opn.length ∧ s11 = .int .i64 k ∧ Ob wr (g + 1) (.slice (some ⟨g + 1, 0, none⟩) l.length l.length) (marks l.length (P.opn.take k)) ∧ Below (g + 1) W0 wr) (fun s11 _ => P.opn.length - (intOf s11).toNat)
      case atStart => exact ⟨0, Nat.zero_le _, rfl, hob, hb4⟩
      case round =>
        clear hob hb4
        obtain ⟨k, hk1, rfl, hob, hB⟩ := hrel
        have d1 := (hB.cell (p := ⟨g, 1, none⟩) hgl).trans c1
        have d2 := (hB.cell (p := ⟨g, 2, none⟩) hgl).trans c2
        by_cases hlt : k < P.opn.length
        · obtain ⟨x, hx⟩ := get_ex rfl hlt
          have hxr := hI.rng x (List.mem_of_getElem? hx)
          obtain ⟨q, rfl⟩ := Int.eq_ofNat_of_zero_le hxr.1
          have hso' := hso
          obtain ⟨ob, off, rfl, hobb, cx0⟩ := si_get hso' hx
          have cx := (hB.cell (p := ⟨ob, off + k, none⟩) hobb).trans cx0
          have hkI : (k : Int) < (P.opn.length : Int) := by omega
          have t1 : decide ((q : Int) < 0) = false := by simp
          have t2 : decide ((l.length : Int) ≤ (q : Int)) = false := by simp; omega
          have t2' : decide ((q : Int) ≥ (l.length : Int)) = false := by simp; omega
          have t2n : decide (l.length ≤ q) = false := by simp; omega
          have hqn : q < l.length := by omega
          have HN : Hid (marks l.length (P.opn.take (k + 1)) = (marks l.length (P.opn.take k)).set q true) := by
            show _ = _
            rw [List.take_add_one, hx]
            exact marks_snoc _ _ _
          obtain ⟨yb, hyb⟩ : ∃ y, (marks l.length (P.opn.take k))[q]? = some y := ⟨_, List.getElem?_eq_getElem (by rw [marks_len]; exact hqn)⟩
          have cb := hob.get hyb
          have fb := hob.frozenAt q
          obtain ⟨hob2, hgr⟩ := hob.set q true
          have hB2 := hB.trans ((Below.refl _ _).grown hgr (by have := hB.size; have := hgb.out; omega) (fun j e => by cases e; exact Nat.le_refl _))
          rcases Nat.eq_zero_or_pos k with hk0 | hk0
          · have t3 : decide ((0 : Int) < (k : Int)) = false := by simp; omega
            have t3' : decide ((k : Int) > 0) = false := by simp; omega
            have t3n : decide (0 < k) = false := by simp; omega
            clear hx cx0 hyb hob hk0
            go_wp2
            go_quiet (fail)
            go_wp2
            go_roundw
            case rel => exact ⟨k + 1, by omega, by go_num, by rw [HN.out]; exact hob2, below_drewN hB2 _⟩
            case measure => simp [intOf]; omega
          · obtain ⟨j, hkj⟩ : ∃ j, k = j + 1 := ⟨k - 1, by omega⟩
            have t3 : decide ((0 : Int) < (k : Int)) = true := by simp; omega
            have t3' : decide ((k : Int) > 0) = true := by simp; omega
            obtain ⟨y, hy⟩ := get_ex (c := P.opn) (i := j) rfl (by omega)
            have hxy : y < (q : Int) := by
              have := List.pairwise_iff_getElem.1 hI.asc j k (by omega) hlt (by omega)
              obtain ⟨_, e1⟩ := List.getElem?_eq_some_iff.1 hy
              obtain ⟨_, e2⟩ := List.getElem?_eq_some_iff.1 hx
              rw [e1, e2] at this
              exact this
            have cy := (hB.cell (p := ⟨ob, off + j, none⟩) hobb).trans (si_get' hso hy)
            have t4 : decide ((q : Int) ≤ y) = false := by simp; omega
            have t5 : IntKind.i64.wrap ((k : Int) - 1) = (j : Int) := by rw [IntKind.wrap_i64]; omega
            have t6 : wrap64 ((k : Int) - 1) = (j : Int) := by unfold wrap64; omega
            have hjI : (j : Int) < (P.opn.length : Int) := by omega
            have HKJ := Lib.hid hkj
            clear hkj
            clear hx cx0 hyb hob hy
            go_wp2
            go_quiet (fail)
            go_wp2
            go_roundw
            case rel => exact ⟨k + 1, by omega, by go_num, by rw [HN.out]; exact hob2, below_drewN hB2 _⟩
            case measure => simp [intOf]; omega
        · obtain rfl : k = P.opn.length := by omega
          rw [List.take_length] at hob
          have HM := Lib.hid (fun b (hb : b < l.length) => marks_get (n := l.length) hI.rng hb)
          clear hlt hk1
          go_wp2
          go_loopw [12] (fun s12 wr2 => ∃ b : Nat, b ≤ l.length ∧ s12 = .int .i64 b ∧ wr = wr2) (fun s12 _ => l.length - (intOf s12).toNat)
          case atStart => exact ⟨0, Nat.zero_le _, rfl, rfl⟩
          case round =>
            obtain ⟨b, hb1, rfl, hww⟩ := hrel
            subst hww
            by_cases hbl : b < l.length
            · have cm := hob.get (getD_some (l := marks l.length P.opn) (q := b) (by rw [marks_len]; exact hbl))
              rw [HM.out b hbl] at cm
              by_cases hbo : (b : Int) ∈ P.opn
              · rw [decide_eq_true hbo] at cm
                go_wp2
                go_roundw
                case rel => exact ⟨b + 1, by omega, by go_num, trivial⟩
                case measure => simp [intOf]; omega
              · rw [decide_eq_false hbo] at cm
                obtain ⟨hd1, hcl⟩ := hI.cl b hbl hbo
                obtain ⟨x, hx⟩ := get_ex hI.dl hbl
                rw [List.getD_eq_getElem?_getD, hx] at hd1
                have hx1 : ¬ x < 1 := by have : 1 ≤ x := hd1; omega
                obtain ⟨db, doff, rfl, hdb, cx0⟩ := si_get hsd hx
                have cx := (hB.cell (p := ⟨db, doff + b, none⟩) hdb).trans cx0
                have hbd : ¬ (P.done.length : Int) ≤ (b : Int) := by rw [hI.dl]; omega
                have hbd2 : (b : Int) < (P.done.length : Int) := by rw [hI.dl]; omega
                obtain ⟨o, hoi⟩ : ∃ o, l[b]? = some o := ⟨_, List.getElem?_eq_getElem hbl⟩
                obtain ⟨lb, loff, aA, aC, uA, uC, rfl, hlb, hop, hsa⟩ := (hl3.below hB).get hoi
                obtain ⟨p0, p1, p2, p3, p4⟩ := hop
                have h27 := cells27
                have haf : Pr.aft l b = o.after := aft_at hoi
                have hal := ha20 o (List.mem_of_getElem? hoi)
                clear hx cx0 hoi hd1
                go_wp2
                go_loopw [13] (fun s13 wr2 => ∃ i : Nat, i ≤ o.after.length ∧ s13 = .int .i64 i ∧ wr = wr2) (fun s13 _ => o.after.length - (intOf s13).toNat)
                case atStart => exact ⟨0, Nat.zero_le _, rfl, rfl⟩
                case round =>
                  obtain ⟨i, hi1, rfl, hww⟩ := hrel
                  subst hww
                  by_cases hil : i < o.after.length
                  · obtain ⟨a, ha⟩ := get_ex rfl hil
                    have ham : a ∈ Pr.aft l b := by rw [haf]; exact List.mem_of_getElem? ha
                    have har := aft_range hord ham
                    have hno := hcl a ham
                    obtain ⟨q, rfl⟩ := Int.eq_ofNat_of_zero_le har.1
                    have hqn : q < l.length := by omega
                    obtain ⟨ab, aoff, rfl, hab, ca⟩ := si_get hsa ha
                    have cq := hob.get (getD_some (l := marks l.length P.opn) (q := q) (by rw [marks_len]; exact hqn))
                    rw [HM.out q hqn, decide_eq_false hno] at cq
                    have u1 : ¬ (q : Int) < 0 := by omega
                    have u2 : ¬ (l.length : Int) ≤ (q : Int) := by omega
                    clear ha
                    go_wp2
                    go_roundw
                    case rel => exact ⟨i + 1, by omega, by go_num, trivial⟩
                    case measure => simp [intOf]; omega
                  · obtain rfl : i = o.after.length := by omega
                    clear hi1 hil
                    go_wp2
                    go_roundw
                    case rel => exact ⟨b + 1, by omega, by go_num, trivial⟩
                    case measure => simp [intOf]; omega
            · obtain rfl : b = l.length := by omega
              clear hbl hb1
              go_wp2_with fail
              refine (HA.out _).mono ?_
              rintro e w7 ⟨rfl, hb7⟩
              go_wp2
              go_ret
              exact ⟨rfl, b_tr (hb3.trans (hB.mono (by have := hb3.size; have := hgb.out; omega))) hb7⟩
    · have hE' : (E == 0) = false := by simpa using hE
      go_enter Try.func9, Try.ntmps9
      go_wp2_with fail
      refine HL.out.mono ?_
      rintro e w1 ⟨rfl, rfl⟩
      go_wp2_with fail
      refine HR.out.mono ?_
      rintro e w2 ⟨dv, ov, rfl, hd, ho, hb2⟩
      dsimp only at hd ho
      obtain ⟨dA, dc, rfl, _, _, _, _⟩ := hd.shape
      obtain ⟨oA, oc, rfl, _, _, _, _⟩ := ho.shape
      clear hd ho HL HR
      go_wp2_with fail
      refine (HA.out _).mono ?_
      rintro e w7 ⟨rfl, hb7⟩
      go_wp2
      go_ret
      exact ⟨rfl, b_tr (b_al hb2 _) hb7⟩
  · have g1' : lightB l = false := by simpa using g1
    rw [g1'] at HL
    go_enter Try.func9, Try.ntmps9
    go_wp2_with fail
    refine HL.out.mono ?_
    rintro e w1 ⟨rfl, rfl⟩
    go_wp2_with fail
    refine (HA.out _).mono ?_
    rintro e w2 ⟨rfl, hb⟩
    go_wp2
    go_ret
    exact ⟨rfl, hb⟩

set_option maxRecDepth 100000 in
theorem lifted (os : Os) (started : os.Started) (H : Type) (enc : TypeId × Value → H) :
    ReturnsInHanded {} Try.checked os 9 .any (Rows.reworkOpenSpec.pre6 enc Try.prog Try.f9 Rows.reworkOpenRow.domain false) (Rows.reworkOpenSpec.post enc Try.prog Try.f9 false true false false) := by
  refine returnsInHanded_of_change (C := Try.checked) own started (by kernel_rfl) Try.func9
    (ChangeSpec.witness6 (enc := enc) (C := Try.checked) false ⟨#[], #[.slice none 0 0, .slice none 0 0, .int .i64 0], []⟩ 8 (by kernel_rfl) (by kernel_rfl) (by kernel_rfl) (by kernel_rfl)) ?_
  intro W base args ds gs before hval0 hW hcnd _
  have hval : ∀ (j : Nat) t v, Try.f9.params[j]? = some t → args[j]? = some v → Value.okWide Try.prog W .any base t v := hval0
  have hW' := hW
  obtain ⟨p, q, hA0, hV, rfl, hfz, hnd⟩ := hW
  have hA : DataW.TrodAll enc Try.prog W 0 (fun _ => true) true Try.f9.params.toList args.toList ds p := hA0
  rw [Try.params9] at hA hval
  obtain ⟨v0, vs0, d0, ds0, p0, qq0, hargs, rfl, rfl, h0, r0⟩ := trodAll_cons hA
  obtain ⟨v1, vs1, d1, ds1, p1, qq1, rfl, rfl, rfl, h1, r1⟩ := trodAll_cons r0
  obtain ⟨v2, vs2, d2, ds2, p2, qq2, rfl, rfl, rfl, h2, r2⟩ := trodAll_cons r1
  obtain ⟨rfl, rfl, rfl⟩ := trodAll_nil r2
  obtain rfl : args = #[v0, v1, v2] := by cases args; simp_all
  obtain ⟨rfl, rfl⟩ := trodVars_none hV
  obtain ⟨a0, len0, cap0, rfl⟩ := okWide_slice Try.underlying22 (hval 0 22 v0 rfl rfl)
  have k0 := h0
  have lt0 : ∀ x ∈ p0, x.block < W.heap.size := by obtain ⟨m, hm⟩ := k0; exact DataW.trod_lt m _ _ _ hm
  obtain ⟨l0, w0⟩ : ∃ l, CameO W a0 len0 cap0 l := by
    obtain ⟨fuel, hf⟩ := h0
    exact open_ops (by simpa [Value.cells] using hf)
  obtain ⟨a1, len1, cap1, rfl⟩ := okWide_slice Try.underlying23 (hval 1 23 v1 rfl rfl)
  have k1 := h1
  have lt1 : ∀ x ∈ p1, x.block < W.heap.size := by obtain ⟨m, hm⟩ := k1; exact DataW.trod_lt m _ _ _ hm
  obtain ⟨l1, w1⟩ : ∃ l, CameE W a1 len1 cap1 l := by
    obtain ⟨fuel, hf⟩ := h1
    exact open_evs (by simpa [Value.cells] using hf)
  obtain ⟨a2, rfl, rfl, rfl, w2⟩ := open_int Try.underlying3 (hval 2 3 v2 rfl rfl) h2
  clear hA0 hval0
  refine (walk a0 len0 cap0 l0 a1 len1 cap1 l1 a2 W w0 w1 w2).mono fun e W' ⟨he, bel⟩ => ?_
  subst he
  exact ⟨_, rfl, _, _, _, [], _, [], hW', trodAll_mk1 (shut_bool Try.underlying4 _), (trodAll_cons_mk (Below.trod laidOut (by kernel_rfl) (of_decide_eq_true (by kernel_rfl)) k0 bel lt0) (trodAll_cons_mk (Below.trod laidOut (by kernel_rfl) (of_decide_eq_true (by kernel_rfl)) k1 bel lt1) (trodAll_cons_mk (shut_int Try.underlying3 w2) trodAll_mk0))), rfl, bel.frame _, fun h => by cases h⟩

theorem over : Rows.reworkOpenRow.holds Try.pinned (OpenSpec.ofChange Rows.reworkOpenSpec) :=
  OpenClaim.holds_of_wide 9 Try.f9 rfl rfl rfl rfl rfl rfl rfl ⟨rfl, rfl, rfl, rfl, rfl⟩ rfl rfl rfl rfl rfl (by kernel_rfl) Try.func9 (by kernel_rfl)
    (of_decide_eq_true (by kernel_rfl)) (by unfold Func.isWrapper; first | (rw [if_pos (by decide +kernel)]; kernel_rfl) | (rw [if_neg (by decide +kernel)]; exact ⟨rfl, rfl⟩))
    (fun os started H enc _ => lifted os started H enc)

theorem proved : Rows.ReworkOpenSaid := over
#print axioms proved
end Go.Proofs.Ytcolekfjmhgldaa.opens
