/- ReworkEnds: a garment that passed or was rejected has no further events, and it is rejected just by an event that says so, or by more defects than are permitted. Conditions: none beyond the statement's own. -/
import Derived.Test.YtcolekfjmhgldaaPle
import Derived.Test.YtcolekfjmhgldaaEva
import Derived.Test.YtcolekfjmhgldaaYc
import Derived.Deep.RegionHeld3
namespace Go.Proofs.Ytcolekfjmhgldaa.ends
open Go.ChangeShapes Go.WideShapes Go.ChangeAt Go.RowKit Go.Deep
open Pr (Opn Prg Res)

/-- an act in block g -/
structure Ac (w : World) (g : Nat) (ak ao am : Int) : Prop where
  c0 : w.cell? ⟨g, 0, none⟩ = some (.int .i64 ak)
  c1 : w.cell? ⟨g, 1, none⟩ = some (.int .i64 ao)
  c2 : w.cell? ⟨g, 2, none⟩ = some (.int .i64 am)
  gl : g < w.heap.size
theorem Ac.below {w w' : World} {g : Nat} {ak ao am : Int} (h : Ac w g ak ao am) (hb : Below w.heap.size w w') : Ac w' g ak ao am where
  c0 := (hb.cell (p := ⟨g, 0, none⟩) h.gl).trans h.c0
  c1 := (hb.cell (p := ⟨g, 1, none⟩) h.gl).trans h.c1
  c2 := (hb.cell (p := ⟨g, 2, none⟩) h.gl).trans h.c2
  gl := Nat.lt_of_lt_of_le h.gl hb.size
theorem ac1 (w : World) (ak ao am : Int) : Ac (w.alloc (.cells #[.int .i64 ak, .int .i64 ao, .int .i64 am] 39)) w.heap.size ak ao am :=
  ⟨by simp, by simp, by simp, by simp⟩
theorem oe0 (W : World) (b : Nat) (h : b ≤ W.heap.size) : Oe (W.alloc (.cells #[] 34)) b (.slice (some ⟨W.heap.size, 0, none⟩) 0 0) [] :=
  World.ownsRow_lit W #[] 0 h (by unfold maxLen; omega) rfl
theorem step_append_evs {ops : Array Oper} {o : Oper} {a : Act} {K : Act → World → Prop} {Q : Exit → Act → World → Prop} {E : Prop} (w : World) (hgd : o.guard = none) (s x : Operand)
    (ho : o.op = .call { callee := .builtin .append, args := #[s, x], argTypes := #[23, 23] })
    (base : Nat) (v : Value) (l1 : List (Int × Int)) (hv : a.eval s = v) (hown : Oe w base v l1) (B : Nat) (A : Option Addr) (l2 : List (Int × Int)) (n c : Nat) (hx : a.eval x = .slice A n c) (hn : n = l2.length) (hs : Se w B A l2)
    (hlen : l1.length + l2.length ≤ 65536) (hbase : base ≤ w.heap.size)
    (h : ∀ v' w', Oe w' base v' (l1 ++ l2) → w.grownBy w' v.ownBlock → (v'.ownBlock = v.ownBlock ∨ v'.ownBlock = some w.heap.size) → K (a.put o.dst v') w') :
    if Region.wanted o (yielded ops a.tmps) = true then Oper.wp Try.prog o a w K Q else E := by
  have hw : Region.wanted o (yielded ops a.tmps) = true := by simp [Region.wanted, hgd]
  rw [if_pos hw]
  exact wp_append_evs w s x ho base v l1 hv hown B A l2 n c hx hn hs hlen hbase h
theorem own_lt {w : World} {base : Nat} {v : Value} {l : List (Int × Int)} (h : Oe w base v l) (g : Nat) (hg : w.heap.size ≤ g) : v.ownBlock ≠ some g := fun e => by
  have := (World.ownsRow.lt h g e).2
  omega
/-- one event in a block of its own -/
structure Ev1 (w : World) (g : Nat) (ak ao : Int) : Prop where
  c0 : w.cell? ⟨g, 0, none⟩ = some (.int .i64 ak)
  c1 : w.cell? ⟨g, 1, none⟩ = some (.int .i64 ao)
  gl : g < w.heap.size
theorem Ev1.new (w : World) (ak ao : Int) : Ev1 (w.alloc (.cells #[.int .i64 ak, .int .i64 ao] 34)) w.heap.size ak ao := ⟨by simp, by simp, by simp⟩
theorem Ev1.new2 (w : World) (o : Obj) (ak ao : Int) : Ev1 ((w.alloc o).alloc (.cells #[.int .i64 ak, .int .i64 ao] 34)) (w.heap.size + 1) ak ao := by
  have := Ev1.new (w.alloc o) ak ao
  rw [size_al] at this
  exact this
theorem zn2 (w : World) (o : Obj) : Z4 ((w.alloc o).alloc (.cells #[.int .i64 0, .slice none 0 0, .slice none 0 0, .int .i64 0] 29)) (w.heap.size + 1) := by
  have := Z4.new (w.alloc o)
  rw [size_al] at this
  exact this
theorem Ev1.below {w w' : World} {g : Nat} {ak ao : Int} (h : Ev1 w g ak ao) (hb : Below w.heap.size w w') : Ev1 w' g ak ao where
  c0 := (hb.cell (p := ⟨g, 0, none⟩) h.gl).trans h.c0
  c1 := (hb.cell (p := ⟨g, 1, none⟩) h.gl).trans h.c1
  gl := Nat.lt_of_lt_of_le h.gl hb.size
theorem Ev1.se {w : World} {g : Nat} {ak ao : Int} (h : Ev1 w g ak ao) : Se w w.heap.size (some ⟨g, 0, none⟩) [(ak, ao)] :=
  .inr ⟨g, 0, rfl, h.gl, fun i e hi => by
    match i, hi with
    | 0, hi => simp at hi; subst hi; exact ⟨h.c0, h.c1⟩⟩
theorem Ev1.keepA {w w' : World} {g : Nat} {ak ao : Int} {v v' : Value} (h : Ev1 w g ak ao) (hg : w.grownBy w' v.ownBlock) (hat : v'.ownBlock = v.ownBlock ∨ v'.ownBlock = some w.heap.size) (ne : v.ownBlock ≠ some g) : Ev1 w' g ak ao ∧ v'.ownBlock ≠ some g := by
  have hb : w'.heap[g]? = w.heap[g]? := hg.block g h.gl (fun e => ne e.symm)
  refine ⟨⟨(World.cell?_of_block hb).trans h.c0, (World.cell?_of_block hb).trans h.c1, Nat.lt_of_lt_of_le h.gl hg.size⟩, fun e => ?_⟩
  rcases hat with h1 | h1
  · exact ne (h1 ▸ e)
  · rw [h1] at e
    injection e with e
    have := h.gl
    omega
theorem _root_.Go.Proofs.Ytcolekfjmhgldaa.Z4.keepA {w w' : World} {g : Nat} {v v' : Value} (h : Z4 w g) (hg : w.grownBy w' v.ownBlock) (hat : v'.ownBlock = v.ownBlock ∨ v'.ownBlock = some w.heap.size) (ne : v.ownBlock ≠ some g) : Z4 w' g ∧ v'.ownBlock ≠ some g := by
  have hb : w'.heap[g]? = w.heap[g]? := hg.block g h.gl (fun e => ne e.symm)
  have hk : ∀ j, w'.cell? ⟨g, j, none⟩ = w.cell? ⟨g, j, none⟩ := fun j => World.cell?_of_block hb
  refine ⟨⟨(hk _).trans h.c0, (hk _).trans h.c1, (hk _).trans h.c2, (hk _).trans h.c3, fun j => (World.frozen?_of_block hb).trans (h.fz j), Nat.lt_of_lt_of_le h.gl hg.size⟩, fun e => ?_⟩
  rcases hat with h1 | h1
  · exact ne (h1 ▸ e)
  · rw [h1] at e
    injection e with e
    have := h.gl
    omega
/-- what the region that appends reads -/
abbrev HeldA (W0 : World) (g : Nat) (ak ao am : Int) (w' : World) : Prop :=
  w'.cell? ⟨g, 0, none⟩ = some (.int .i64 ak) ∧ w'.cell? ⟨g, 1, none⟩ = some (.int .i64 ao) ∧ w'.cell? ⟨g, 2, none⟩ = some (.int .i64 am) ∧ Below W0.heap.size W0 w'
theorem HeldA.keep {W0 W W' : World} {g : Nat} {ak ao am : Int} (hg : g < W0.heap.size) (hbn : Below W.heap.size W W') (h : HeldA W0 g ak ao am W) : HeldA W0 g ak ao am W' := by
  obtain ⟨h1, h2, h3, h4⟩ := h
  have hk : ∀ o, W'.cell? ⟨g, o, none⟩ = W.cell? ⟨g, o, none⟩ := fun o => hbn.cell (p := ⟨g, o, none⟩) (Nat.lt_of_lt_of_le hg h4.size)
  exact ⟨(hk _).trans h1, (hk _).trans h2, (hk _).trans h3, h4.trans (hbn.mono h4.size)⟩
theorem HeldA.grown {W0 W W' : World} {g : Nat} {ak ao am : Int} {row : Option Nat} (hg : g < W0.heap.size) (hgr : W.grownBy W' row) (hr : ∀ k, row = some k → W0.heap.size ≤ k) (h : HeldA W0 g ak ao am W) : HeldA W0 g ak ao am W' := by
  obtain ⟨h1, h2, h3, h4⟩ := h
  have hb : Below W0.heap.size W W' := (Below.refl _ _).grown hgr h4.size hr
  have hk : ∀ o, W'.cell? ⟨g, o, none⟩ = W.cell? ⟨g, o, none⟩ := fun o => hb.cell (p := ⟨g, o, none⟩) hg
  exact ⟨(hk _).trans h1, (hk _).trans h2, (hk _).trans h3, h4.trans hb⟩
theorem HeldA.set {W0 W : World} {g G j : Nat} {ak ao am : Int} (hG : W0.heap.size ≤ G) (hg : g < W0.heap.size) (u : Value) (h : HeldA W0 g ak ao am W) : HeldA W0 g ak ao am (W.setCell ⟨G, j, none⟩ u) := by
  obtain ⟨h1, h2, h3, h4⟩ := h
  have hk : ∀ o, (W.setCell ⟨G, j, none⟩ u).cell? ⟨g, o, none⟩ = W.cell? ⟨g, o, none⟩ := fun o => World.cell?_setCell_other _ _ _ _ (fun e => by injection e; omega)
  exact ⟨(hk _).trans h1, (hk _).trans h2, (hk _).trans h3, b_set h4 hG _ _⟩
theorem rejB_at {es : List (Int × Int)} {k : Nat} {e : Int × Int} (hk : es.length = k + 1) (he : es[k]? = some e) : rejB es = decide (e.1 = 4) := by
  rw [snoc_of hk he, rejB_snoc]

set_option maxRecDepth 100000 in
set_option maxHeartbeats 16000000 in
theorem walk (A : Option Addr) (len c : Nat) (l : List Opn) (eA : Option Addr) (elen ec : Nat) (es : List (Int × Int)) (ak ao am : Int) (w : World) (h0 : CameO w A len c l) (h1 : CameE w eA elen ec es) :
    Calls Try.prog 10 #[.slice A len c, .slice eA elen ec, .agg #[.int .i64 ak, .int .i64 ao, .int .i64 am]] w fun e w' => e = .returned (.bool true) ∧ Below w.heap.size w w' := by
  obtain ⟨rfl, hc, hcm, hl, hwf⟩ := h0
  obtain ⟨rfl, hec, hecm, hes⟩ := h1
  have HA := Lib.hid (fun W => alive_any W)
  have hb1 := b_new w (.cells #[.int .i64 ak, .int .i64 ao, .int .i64 am] 39)
  have ha1 := ac1 w ak ao am
  have HL := Lib.hid (light_any A c l _ (hl.to hb1) (Nat.le_trans hc hcm))
  have h34 := cells34
  by_cases g1 : lightB l = true
  · obtain ⟨hk, hl20, ha20⟩ := light_oks g1 hwf
    rw [g1] at HL
    by_cases g2 : (80 : Int) < (es.length : Int)
    · go_enter Try.func10, Try.ntmps10
      go_upto_region 1 with fail
      generalize w.alloc (.cells #[.int .i64 ak, .int .i64 ao, .int .i64 am] 39) = W1 at *
      go_wp2_with fail
      refine HL.out.mono ?_
      rintro e W1 ⟨rfl, rfl⟩
      go_wp2_with fail
      refine (HA.out _).mono ?_
      rintro e w2 ⟨rfl, hb⟩
      go_wp2
      go_ret
      exact ⟨rfl, b_tr hb1 hb⟩
    have HR := Lib.hid (fun (W : World) (hb : Below w.heap.size w W) => run_any A c l eA ec es am W (hl.to hb) hk hc hcm (hes.to hb) (by omega))
    have HR2 := Lib.hid (fun (W : World) (hb : Below w.heap.size w W) eA2 ec2 (hs : Se W W.heap.size eA2 (es ++ [(ak, ao)])) => run_any A c l eA2 ec2 (es ++ [(ak, ao)]) am W (hl.to hb) hk hc hcm hs (by rw [List.length_append, List.length_singleton]; omega))
    have HLn := Lib.hid (fun h => runR_len (l := l) (most := am) (es := es) h)
    have HE := Lib.hid (fun h => ends_run (l := l) (most := am) (es := es) h)
    have HES := Lib.hid (fun h hs => ended_step (l := l) (most := am) (es := es) h (by omega) hs ak ao am)
    have HER := Lib.hid (fun h hs => ended_run (l := l) (most := am) (es := es) h (by omega) hs ak ao)
    have HST := Lib.hid (fun (W : World) (hb : Below w.heap.size w W) (p : Prg) dA dc oA oc => fun (hd : Si W W.heap.size dA p.done) (ho : Si W W.heap.size oA p.opn) (h1 : p.done.length ≤ 1000) (h2 : p.opn.length ≤ 1000) => step_any A c l W dA dc oA oc p ak ao am (hl.to hb) hk hc hcm hd ho h1 h2)
    generalize Pr.runR l es am = R at *
    obtain ⟨E, P, N⟩ := R
    dsimp only at HLn HE HES HER
    go_enter Try.func10, Try.ntmps10
    go_upto_region 1 with fail
    generalize w.alloc (.cells #[.int .i64 ak, .int .i64 ao, .int .i64 am] 39) = W1 at *
    obtain ⟨a0, a1, a2, al⟩ := id ha1
    go_wp2_with fail
    refine HL.out.mono ?_
    rintro e W1 ⟨rfl, rfl⟩
    go_wp2_with fail
    refine (HR.out _ hb1).mono ?_
    rintro e w2 ⟨dv, ov, rfl, hd, ho, hb2⟩
    dsimp only at hd ho
    obtain ⟨dA, dc, rfl, -⟩ := hd.shape
    obtain ⟨oA, oc, rfl, -⟩ := ho.shape
    have hP := Pc.new hd ho
    have hB2 := b_al hb2 (.cells #[.int .i64 P.state, .slice dA P.done.length dc, .slice oA P.opn.length oc, .int .i64 P.rework] 29)
    have hbw2 := b_tr hb1 hB2
    have ha2 := ha1.below hB2
    clear hd ho HL HR a0 a1 a2 al
    by_cases hE : E = 0
    · subst hE
      obtain ⟨e4, es1, e2, er, -⟩ := HE.out rfl
      have hLn := HLn.out rfl
      replace HES := Lib.hid (HES.out rfl)
      replace HER := Lib.hid (HER.out rfl)
      clear HE HLn hb1 ha1 hB2 hb2
      go_upto_region 6 with fail
      generalize w2.heap.size = g at *
      generalize w2.alloc (.cells #[.int .i64 P.state, .slice dA P.done.length dc, .slice oA P.opn.length oc, .int .i64 P.rework] 29) = W2 at *
      have hes2 := hes.to hbw2
      go_cut [10] (fun s10 wx => s10 = .bool (rejB es) ∧ wx = W2)
      case first =>
        clear e4 HES HER HST HR2 hP
        rcases Nat.eq_zero_or_pos es.length with hz | hz
        · have hn : es = [] := List.eq_nil_of_length_eq_zero hz
          have HRJ : Hid (rejB es = false) := by show _ = _; rw [hn]; rfl
          have t0 : ¬ (0 : Int) < (es.length : Int) := by omega
          have t0n : decide (0 < es.length) = false := by simp; omega
          clear hz hn
          go_wp2
          go_meet
          case rel => exact ⟨by rw [HRJ.out], rfl⟩
        · obtain ⟨k, hke⟩ : ∃ k, es.length = k + 1 := ⟨es.length - 1, by omega⟩
          obtain ⟨ev, hev⟩ : ∃ ev, es[k]? = some ev := ⟨_, List.getElem?_eq_getElem (by omega)⟩
          have HRJ := Lib.hid (rejB_at hke hev)
          obtain ⟨eb, eoff, rfl, heb, v0, v1⟩ := hes2.get hev
          have wk1 : wrap64 ((es.length : Int) - 1) = (k : Int) := by unfold wrap64; omega
          have wk2 : IntKind.i64.wrap ((es.length : Int) - 1) = (k : Int) := by rw [IntKind.wrap_i64]; omega
          have t0 : (0 : Int) < (es.length : Int) := by omega
          have t1 : (k : Int) < (es.length : Int) := by omega
          have t2 : ¬ (k : Int) < 0 := by omega
          have t3 : k < es.length := by omega
          clear hev hke g2
          by_cases hq : ev.1 = 4
          · rw [decide_eq_true hq] at HRJ
            rw [hq] at v0
            clear hq
            go_wp2
            go_meet
            case rel => exact ⟨by rw [HRJ.out], rfl⟩
          · rw [decide_eq_false hq] at HRJ
            have hq' : (ev.1 == 4) = false := by simpa using hq
            clear hq
            go_wp2
            go_meet
            case rel => exact ⟨by rw [HRJ.out], rfl⟩
      case rest =>
        obtain ⟨rfl, hwc⟩ := hcut
        clear hes2
        obtain ⟨WC, hWC⟩ : ∃ W : World, W = wc := ⟨_, rfl⟩
        subst hWC
        subst hwc
        have p0 := hP.c0
        have p3 := hP.c3
        have a2 := ha2.c2
        generalize rejB es = rb at *
        go_upto_region 7 with fail
        go_cut [66] (fun s66 wx => s66 = .bool false ∧ wx = WC)
        case first =>
          clear HES HER HST HR2 hP
          cases rb with
          | true =>
            rw [e4.2 (.inl rfl)] at p0
            go_wp2
            go_meet
            case rel => exact ⟨rfl, rfl⟩
          | false =>
            by_cases q0 : 0 < P.rework
            · by_cases q1 : am < P.rework
              · rw [e4.2 (.inr ⟨q0, q1⟩)] at p0
                go_wp2
                go_meet
                case rel => exact ⟨rfl, rfl⟩
              · have hn4 : ¬ P.state = 4 := fun h => by
                  rcases e4.1 h with h | h
                  · cases h
                  · exact q1 h.2
                have hn4' : (P.state == 4) = false := by simpa using hn4
                clear e4
                go_wp2
                go_meet
                case rel => exact ⟨rfl, rfl⟩
            · have hn4 : ¬ P.state = 4 := fun h => by
                rcases e4.1 h with h | h
                · cases h
                · exact q0 h.1
              have hn4' : (P.state == 4) = false := by simpa using hn4
              clear e4
              go_wp2
              go_meet
              case rel => exact ⟨rfl, rfl⟩
        case rest =>
          obtain ⟨rfl, hwc⟩ := hcut
          obtain ⟨W3, hWC⟩ : ∃ W : World, W = wc := ⟨_, rfl⟩
          subst hWC
          subst hwc
          clear p3 a2 e4
          have p2 := hP.c2
          by_cases s1 : P.state = 1
          · rw [s1] at p0
            clear HES HER HST HR2 hP
            go_wp2_with fail
            refine (HA.out _).mono ?_
            rintro e w7 ⟨rfl, hb7⟩
            go_wp2
            go_ret
            exact ⟨rfl, b_tr hbw2 hb7⟩
          by_cases s2 : P.state = 2
          · have hop := List.length_pos_iff.2 (e2 s2)
            have hop' : (0 : Int) < (P.opn.length : Int) := by omega
            rw [s2] at p0
            clear HES HER HST HR2 hP
            go_wp2_with fail
            refine (HA.out _).mono ?_
            rintro e w7 ⟨rfl, hb7⟩
            go_wp2
            go_ret
            exact ⟨rfl, b_tr hbw2 hb7⟩
          have s34 : P.state = 3 ∨ P.state = 4 := by omega
          have HS0 := HES.out s34
          have HR0 := HER.out s34
          have HR3 := Lib.hid (fun (W : World) (hb : Below w.heap.size w W) eA2 ec2 (hs : Se W W.heap.size eA2 (es ++ [(ak, ao)])) => HR2.out W hb eA2 ec2 hs)
          rw [HR0] at HR3
          have HS3 := Lib.hid (HST.out W3 hbw2 P dA dc oA oc (oi_si hP.hd) (oi_si hP.ho) (by have := hLn.d; omega) (by have := hLn.o; omega))
          rw [HS0] at HS3
          clear HES HER HST HR2 HS0 HR0 e2 es1 s1 s2 er
          have p1 := hP.c1
          have p3 := hP.c3
          obtain ⟨a0, a1, a2, al⟩ := id ha2
          go_upto_region 9 with fail
          go_cut [74] (fun s74 wx => s74 = .bool false ∧ wx = W3)
          case first =>
            clear HS3 HR3 hP
            rcases s34 with s3 | s4
            · rw [s3] at p0
              go_wp2
              go_meet
              case rel => exact ⟨rfl, rfl⟩
            · rw [s4] at p0
              go_wp2
              go_meet
              case rel => exact ⟨rfl, rfl⟩
          case rest =>
            obtain ⟨rfl, hwc⟩ := hcut
            obtain ⟨W4, hWC⟩ : ∃ W : World, W = wc := ⟨_, rfl⟩
            subst hWC
            subst hwc
            go_wp2_with fail
            refine HS3.out.mono ?_
            rintro e w5 ⟨dv5, ov5, rfl, hd5, ho5, hb5⟩
            dsimp only [Pr.zeroP] at hd5 ho5
            obtain ⟨dA5, dc5, rfl, -⟩ := hd5.shape
            obtain ⟨oA5, oc5, rfl, -⟩ := ho5.shape
            have hB5 := b_al hb5 (.cells #[.int .i64 Pr.zeroP.state, .slice dA5 0 dc5, .slice oA5 0 oc5, .int .i64 Pr.zeroP.rework] 29)
            have ha5 := ha2.below hB5
            have hbw5 := b_tr hbw2 hB5
            clear hd5 ho5 hB5 hb5 ha2 hbw2 HS3 hP p0 p1 p2 p3 a0 a1 a2 al
            go_upto_region 12 with fail
            generalize w5.heap.size = g5 at *
            generalize w5.alloc (.cells #[.int .i64 Pr.zeroP.state, .slice dA5 0 dc5, .slice oA5 0 oc5, .int .i64 Pr.zeroP.rework] 29) = K0 at *
            obtain ⟨a0, a1, a2, hag⟩ := ha5
            have hes5 := hes.to hbw5
            go_cut [14, 15] (fun s14 s15 wx => s14 = .int .i64 8 ∧ s15 = .int .i64 (es.length : Int) ∧ Below K0.heap.size K0 wx)
            case first =>
              clear HA s34 hLn g1 ha20 hl20 hk hwf hl hc hcm hec hecm hes
              as_aux_lemma =>
                have HSE := Lib.hid (fun W (hW : HeldA K0 w.heap.size ak ao am W) => (hes5.below hW.2.2.2))
                have HSz := Lib.hid (fun W (hW : HeldA K0 w.heap.size ak ao am W) => hW.2.2.2.size)
                have HKp := Lib.hid (fun W W' (hbn : Below W.heap.size W W') (hW : HeldA K0 w.heap.size ak ao am W) => HeldA.keep hag hbn hW)
                have HKg := Lib.hid (fun W W' row (hg : W.grownBy W' row) (hr : ∀ k, row = some k → K0.heap.size ≤ k) (hW : HeldA K0 w.heap.size ak ao am W) => HeldA.grown hag hg hr hW)
                have HSet := Lib.hid (fun W G (hG : K0.heap.size ≤ G) (hW : HeldA K0 w.heap.size ak ao am W) u0 u1 u2 u3 => HeldA.set (j := 3) hG hag u3 (HeldA.set (j := 2) hG hag u2 (HeldA.set (j := 1) hG hag u1 (HeldA.set (j := 0) hG hag u0 hW))))
                have HSt : Hid (HeldA K0 w.heap.size ak ao am K0.drew) := ⟨a0, a1, a2, below_drewN (Below.refl _ _) 1⟩
                have HRc := Lib.hid (fun W (hW : HeldA K0 w.heap.size ak ao am W) A4 c4 (hs : Se W W.heap.size A4 (es ++ [(ak, ao)])) => HR3.out W (b_tr hbw5 hW.2.2.2) A4 c4 hs)
                rw [List.length_append, List.length_singleton] at HRc
                have HO0 : Hid (Oe (K0.alloc (.cells #[] 34)).drew K0.heap.size (.slice (some ⟨K0.heap.size, 0, none⟩) 0 0) []) := by
                  have h := (oe0 K0 K0.heap.size (by exact Nat.le_refl _))
                  exact h
                have HO01 : Hid (Oe ((K0.alloc (.cells #[] 34)).alloc (.cells #[.int .i64 ak, .int .i64 ao] 34)).drew K0.heap.size (.slice (some ⟨K0.heap.size, 0, none⟩) 0 0) []) := by
                  have h := (Oe.alloc (oe0 K0 K0.heap.size (by exact Nat.le_refl _)) (.cells #[.int .i64 ak, .int .i64 ao] 34))
                  exact h
                have HE01 : Hid (Ev1 ((K0.alloc (.cells #[] 34)).alloc (.cells #[.int .i64 ak, .int .i64 ao] 34)).drew (K0.heap.size + 1) ak ao) := by
                  have h := (Ev1.new (K0.alloc (.cells #[] 34)) ak ao)
                  rw [size_al] at h
                  exact ⟨h.c0, h.c1, h.gl⟩
                have HO0z : Hid (Oe ((K0.alloc (.cells #[] 34)).alloc (.cells #[.int .i64 0, .slice none 0 0, .slice none 0 0, .int .i64 0] 29)).drew K0.heap.size (.slice (some ⟨K0.heap.size, 0, none⟩) 0 0) []) := by
                  have h := (Oe.alloc (oe0 K0 K0.heap.size (by exact Nat.le_refl _)) (.cells #[.int .i64 0, .slice none 0 0, .slice none 0 0, .int .i64 0] 29))
                  exact h
                have HZ0z : Hid (Z4 ((K0.alloc (.cells #[] 34)).alloc (.cells #[.int .i64 0, .slice none 0 0, .slice none 0 0, .int .i64 0] 29)).drew (K0.heap.size + 1)) := by
                  have h := (Z4.new (K0.alloc (.cells #[] 34)))
                  rw [size_al] at h
                  exact ⟨h.c0, h.c1, h.c2, h.c3, h.fz, h.gl⟩
                have HO10 : Hid (Oe ((K0.alloc (.cells #[.int .i64 ak, .int .i64 ao] 34)).alloc (.cells #[] 34)).drew K0.heap.size (.slice (some ⟨K0.heap.size + 1, 0, none⟩) 0 0) []) := by
                  have h := (oe0 (K0.alloc (.cells #[.int .i64 ak, .int .i64 ao] 34)) K0.heap.size (by rw [size_al]; omega))
                  rw [size_al] at h
                  exact h
                have HE10 : Hid (Ev1 ((K0.alloc (.cells #[.int .i64 ak, .int .i64 ao] 34)).alloc (.cells #[] 34)).drew (K0.heap.size) ak ao) := by
                  have h := ((Ev1.new K0 ak ao).below (b_new _ (.cells #[] 34)))
                  exact ⟨h.c0, h.c1, h.gl⟩
                have HOz0 : Hid (Oe ((K0.alloc (.cells #[.int .i64 0, .slice none 0 0, .slice none 0 0, .int .i64 0] 29)).alloc (.cells #[] 34)).drew K0.heap.size (.slice (some ⟨K0.heap.size + 1, 0, none⟩) 0 0) []) := by
                  have h := (oe0 (K0.alloc (.cells #[.int .i64 0, .slice none 0 0, .slice none 0 0, .int .i64 0] 29)) K0.heap.size (by rw [size_al]; omega))
                  rw [size_al] at h
                  exact h
                have HZz0 : Hid (Z4 ((K0.alloc (.cells #[.int .i64 0, .slice none 0 0, .slice none 0 0, .int .i64 0] 29)).alloc (.cells #[] 34)).drew (K0.heap.size)) := by
                  have h := ((Z4.new K0).below (b_new _ (.cells #[] 34)))
                  exact ⟨h.c0, h.c1, h.c2, h.c3, h.fz, h.gl⟩
                have HO01z : Hid (Oe (((K0.alloc (.cells #[] 34)).alloc (.cells #[.int .i64 ak, .int .i64 ao] 34)).alloc (.cells #[.int .i64 0, .slice none 0 0, .slice none 0 0, .int .i64 0] 29)).drew K0.heap.size (.slice (some ⟨K0.heap.size, 0, none⟩) 0 0) []) := by
                  have h := (Oe.alloc (Oe.alloc (oe0 K0 K0.heap.size (by exact Nat.le_refl _)) (.cells #[.int .i64 ak, .int .i64 ao] 34)) (.cells #[.int .i64 0, .slice none 0 0, .slice none 0 0, .int .i64 0] 29))
                  exact h
                have HE01z : Hid (Ev1 (((K0.alloc (.cells #[] 34)).alloc (.cells #[.int .i64 ak, .int .i64 ao] 34)).alloc (.cells #[.int .i64 0, .slice none 0 0, .slice none 0 0, .int .i64 0] 29)).drew (K0.heap.size + 1) ak ao) := by
                  have h := ((Ev1.new (K0.alloc (.cells #[] 34)) ak ao).below (b_new _ (.cells #[.int .i64 0, .slice none 0 0, .slice none 0 0, .int .i64 0] 29)))
                  rw [size_al] at h
                  exact ⟨h.c0, h.c1, h.gl⟩
                have HZ01z : Hid (Z4 (((K0.alloc (.cells #[] 34)).alloc (.cells #[.int .i64 ak, .int .i64 ao] 34)).alloc (.cells #[.int .i64 0, .slice none 0 0, .slice none 0 0, .int .i64 0] 29)).drew (K0.heap.size + 1 + 1)) := by
                  have h := (Z4.new ((K0.alloc (.cells #[] 34)).alloc (.cells #[.int .i64 ak, .int .i64 ao] 34)))
                  rw [size_al, size_al] at h
                  exact ⟨h.c0, h.c1, h.c2, h.c3, h.fz, h.gl⟩
                have HO0z1 : Hid (Oe (((K0.alloc (.cells #[] 34)).alloc (.cells #[.int .i64 0, .slice none 0 0, .slice none 0 0, .int .i64 0] 29)).alloc (.cells #[.int .i64 ak, .int .i64 ao] 34)).drew K0.heap.size (.slice (some ⟨K0.heap.size, 0, none⟩) 0 0) []) := by
                  have h := (Oe.alloc (Oe.alloc (oe0 K0 K0.heap.size (by exact Nat.le_refl _)) (.cells #[.int .i64 0, .slice none 0 0, .slice none 0 0, .int .i64 0] 29)) (.cells #[.int .i64 ak, .int .i64 ao] 34))
                  exact h
                have HE0z1 : Hid (Ev1 (((K0.alloc (.cells #[] 34)).alloc (.cells #[.int .i64 0, .slice none 0 0, .slice none 0 0, .int .i64 0] 29)).alloc (.cells #[.int .i64 ak, .int .i64 ao] 34)).drew (K0.heap.size + 1 + 1) ak ao) := by
                  have h := (Ev1.new ((K0.alloc (.cells #[] 34)).alloc (.cells #[.int .i64 0, .slice none 0 0, .slice none 0 0, .int .i64 0] 29)) ak ao)
                  rw [size_al, size_al] at h
                  exact ⟨h.c0, h.c1, h.gl⟩
                have HZ0z1 : Hid (Z4 (((K0.alloc (.cells #[] 34)).alloc (.cells #[.int .i64 0, .slice none 0 0, .slice none 0 0, .int .i64 0] 29)).alloc (.cells #[.int .i64 ak, .int .i64 ao] 34)).drew (K0.heap.size + 1)) := by
                  have h := ((Z4.new (K0.alloc (.cells #[] 34))).below (b_new _ (.cells #[.int .i64 ak, .int .i64 ao] 34)))
                  rw [size_al] at h
                  exact ⟨h.c0, h.c1, h.c2, h.c3, h.fz, h.gl⟩
                have HO10z : Hid (Oe (((K0.alloc (.cells #[.int .i64 ak, .int .i64 ao] 34)).alloc (.cells #[] 34)).alloc (.cells #[.int .i64 0, .slice none 0 0, .slice none 0 0, .int .i64 0] 29)).drew K0.heap.size (.slice (some ⟨K0.heap.size + 1, 0, none⟩) 0 0) []) := by
                  have h := (Oe.alloc (oe0 (K0.alloc (.cells #[.int .i64 ak, .int .i64 ao] 34)) K0.heap.size (by rw [size_al]; omega)) (.cells #[.int .i64 0, .slice none 0 0, .slice none 0 0, .int .i64 0] 29))
                  rw [size_al] at h
                  exact h
                have HE10z : Hid (Ev1 (((K0.alloc (.cells #[.int .i64 ak, .int .i64 ao] 34)).alloc (.cells #[] 34)).alloc (.cells #[.int .i64 0, .slice none 0 0, .slice none 0 0, .int .i64 0] 29)).drew (K0.heap.size) ak ao) := by
                  have h := (((Ev1.new K0 ak ao).below (b_new _ (.cells #[] 34))).below (b_new _ (.cells #[.int .i64 0, .slice none 0 0, .slice none 0 0, .int .i64 0] 29)))
                  exact ⟨h.c0, h.c1, h.gl⟩
                have HZ10z : Hid (Z4 (((K0.alloc (.cells #[.int .i64 ak, .int .i64 ao] 34)).alloc (.cells #[] 34)).alloc (.cells #[.int .i64 0, .slice none 0 0, .slice none 0 0, .int .i64 0] 29)).drew (K0.heap.size + 1 + 1)) := by
                  have h := (Z4.new ((K0.alloc (.cells #[.int .i64 ak, .int .i64 ao] 34)).alloc (.cells #[] 34)))
                  rw [size_al, size_al] at h
                  exact ⟨h.c0, h.c1, h.c2, h.c3, h.fz, h.gl⟩
                have HO1z0 : Hid (Oe (((K0.alloc (.cells #[.int .i64 ak, .int .i64 ao] 34)).alloc (.cells #[.int .i64 0, .slice none 0 0, .slice none 0 0, .int .i64 0] 29)).alloc (.cells #[] 34)).drew K0.heap.size (.slice (some ⟨K0.heap.size + 1 + 1, 0, none⟩) 0 0) []) := by
                  have h := (oe0 ((K0.alloc (.cells #[.int .i64 ak, .int .i64 ao] 34)).alloc (.cells #[.int .i64 0, .slice none 0 0, .slice none 0 0, .int .i64 0] 29)) K0.heap.size (by rw [size_al, size_al]; omega))
                  rw [size_al, size_al] at h
                  exact h
                have HE1z0 : Hid (Ev1 (((K0.alloc (.cells #[.int .i64 ak, .int .i64 ao] 34)).alloc (.cells #[.int .i64 0, .slice none 0 0, .slice none 0 0, .int .i64 0] 29)).alloc (.cells #[] 34)).drew (K0.heap.size) ak ao) := by
                  have h := (((Ev1.new K0 ak ao).below (b_new _ (.cells #[.int .i64 0, .slice none 0 0, .slice none 0 0, .int .i64 0] 29))).below (b_new _ (.cells #[] 34)))
                  exact ⟨h.c0, h.c1, h.gl⟩
                have HZ1z0 : Hid (Z4 (((K0.alloc (.cells #[.int .i64 ak, .int .i64 ao] 34)).alloc (.cells #[.int .i64 0, .slice none 0 0, .slice none 0 0, .int .i64 0] 29)).alloc (.cells #[] 34)).drew (K0.heap.size + 1)) := by
                  have h := ((Z4.new (K0.alloc (.cells #[.int .i64 ak, .int .i64 ao] 34))).below (b_new _ (.cells #[] 34)))
                  rw [size_al] at h
                  exact ⟨h.c0, h.c1, h.c2, h.c3, h.fz, h.gl⟩
                have HOz01 : Hid (Oe (((K0.alloc (.cells #[.int .i64 0, .slice none 0 0, .slice none 0 0, .int .i64 0] 29)).alloc (.cells #[] 34)).alloc (.cells #[.int .i64 ak, .int .i64 ao] 34)).drew K0.heap.size (.slice (some ⟨K0.heap.size + 1, 0, none⟩) 0 0) []) := by
                  have h := (Oe.alloc (oe0 (K0.alloc (.cells #[.int .i64 0, .slice none 0 0, .slice none 0 0, .int .i64 0] 29)) K0.heap.size (by rw [size_al]; omega)) (.cells #[.int .i64 ak, .int .i64 ao] 34))
                  rw [size_al] at h
                  exact h
                have HEz01 : Hid (Ev1 (((K0.alloc (.cells #[.int .i64 0, .slice none 0 0, .slice none 0 0, .int .i64 0] 29)).alloc (.cells #[] 34)).alloc (.cells #[.int .i64 ak, .int .i64 ao] 34)).drew (K0.heap.size + 1 + 1) ak ao) := by
                  have h := (Ev1.new ((K0.alloc (.cells #[.int .i64 0, .slice none 0 0, .slice none 0 0, .int .i64 0] 29)).alloc (.cells #[] 34)) ak ao)
                  rw [size_al, size_al] at h
                  exact ⟨h.c0, h.c1, h.gl⟩
                have HZz01 : Hid (Z4 (((K0.alloc (.cells #[.int .i64 0, .slice none 0 0, .slice none 0 0, .int .i64 0] 29)).alloc (.cells #[] 34)).alloc (.cells #[.int .i64 ak, .int .i64 ao] 34)).drew (K0.heap.size)) := by
                  have h := (((Z4.new K0).below (b_new _ (.cells #[] 34))).below (b_new _ (.cells #[.int .i64 ak, .int .i64 ao] 34)))
                  exact ⟨h.c0, h.c1, h.c2, h.c3, h.fz, h.gl⟩
                have HOz10 : Hid (Oe (((K0.alloc (.cells #[.int .i64 0, .slice none 0 0, .slice none 0 0, .int .i64 0] 29)).alloc (.cells #[.int .i64 ak, .int .i64 ao] 34)).alloc (.cells #[] 34)).drew K0.heap.size (.slice (some ⟨K0.heap.size + 1 + 1, 0, none⟩) 0 0) []) := by
                  have h := (oe0 ((K0.alloc (.cells #[.int .i64 0, .slice none 0 0, .slice none 0 0, .int .i64 0] 29)).alloc (.cells #[.int .i64 ak, .int .i64 ao] 34)) K0.heap.size (by rw [size_al, size_al]; omega))
                  rw [size_al, size_al] at h
                  exact h
                have HEz10 : Hid (Ev1 (((K0.alloc (.cells #[.int .i64 0, .slice none 0 0, .slice none 0 0, .int .i64 0] 29)).alloc (.cells #[.int .i64 ak, .int .i64 ao] 34)).alloc (.cells #[] 34)).drew (K0.heap.size + 1) ak ao) := by
                  have h := ((Ev1.new (K0.alloc (.cells #[.int .i64 0, .slice none 0 0, .slice none 0 0, .int .i64 0] 29)) ak ao).below (b_new _ (.cells #[] 34)))
                  rw [size_al] at h
                  exact ⟨h.c0, h.c1, h.gl⟩
                have HZz10 : Hid (Z4 (((K0.alloc (.cells #[.int .i64 0, .slice none 0 0, .slice none 0 0, .int .i64 0] 29)).alloc (.cells #[.int .i64 ak, .int .i64 ao] 34)).alloc (.cells #[] 34)).drew (K0.heap.size)) := by
                  have h := (((Z4.new K0).below (b_new _ (.cells #[.int .i64 ak, .int .i64 ao] 34))).below (b_new _ (.cells #[] 34)))
                  exact ⟨h.c0, h.c1, h.c2, h.c3, h.fz, h.gl⟩
                go_region_held3 (fun w' => w'.cell? ⟨w.heap.size, 0, none⟩ = some (.int .i64 ak) ∧ w'.cell? ⟨w.heap.size, 1, none⟩ = some (.int .i64 ao) ∧ w'.cell? ⟨w.heap.size, 2, none⟩ = some (.int .i64 am) ∧ Below K0.heap.size K0 w')
                  (first | (with_reducible exact HSt.out) | (with_reducible exact hS3) | (with_reducible exact hS4) | (with_reducible exact hS6) | (with_reducible exact HKp.out _ _ (b_new _ _) (by with_reducible assumption)) | (with_reducible exact HSet.out _ _ (by omega) (by with_reducible assumption) _ _ _ _))
                  (first | (refine step_append_evs _ (by rfl) _ _ (by rfl) K0.heap.size (.slice (some ⟨K0.heap.size, 0, none⟩) 0 0) [] (by rfl) (by first | with_reducible exact HO0.out | with_reducible exact HO01.out | with_reducible exact HO0z.out | with_reducible exact HO01z.out | with_reducible exact HO0z1.out) _ _ es _ _ (by rfl) (by rfl) (HSE.out _ (by with_reducible assumption)) (by rw [List.length_nil]; omega) (HSz.out _ (by with_reducible assumption)) ?_; intro v3 w3 how3 hg3 hat3; have hS3 := HKg.out _ _ _ hg3 (by intro k e; simp [Value.ownBlock] at e; omega) (by with_reducible assumption); (first | (have hs1 := HE01.out.keepA hg3 hat3 (by simp [Value.ownBlock] <;> omega)) | (have hs1 := HE01z.out.keepA hg3 hat3 (by simp [Value.ownBlock] <;> omega)) | (have hs1 := HE0z1.out.keepA hg3 hat3 (by simp [Value.ownBlock] <;> omega)) | skip); (first | (have hz := HZ0z.out.keepA hg3 hat3 (by simp [Value.ownBlock] <;> omega)) | (have hz := HZ01z.out.keepA hg3 hat3 (by simp [Value.ownBlock] <;> omega)) | (have hz := HZ0z1.out.keepA hg3 hat3 (by simp [Value.ownBlock] <;> omega)) | skip); rw [List.nil_append] at how3; have hlt3 := own_lt how3; have hz3 := HSz.out _ hS3; clear hg3 hat3) | (refine step_append_evs _ (by rfl) _ _ (by rfl) K0.heap.size (.slice (some ⟨K0.heap.size + 1, 0, none⟩) 0 0) [] (by rfl) (by first | with_reducible exact HO10.out | with_reducible exact HOz0.out | with_reducible exact HO10z.out | with_reducible exact HOz01.out) _ _ es _ _ (by rfl) (by rfl) (HSE.out _ (by with_reducible assumption)) (by rw [List.length_nil]; omega) (HSz.out _ (by with_reducible assumption)) ?_; intro v3 w3 how3 hg3 hat3; have hS3 := HKg.out _ _ _ hg3 (by intro k e; simp [Value.ownBlock] at e; omega) (by with_reducible assumption); (first | (have hs1 := HE10.out.keepA hg3 hat3 (by simp [Value.ownBlock] <;> omega)) | (have hs1 := HE10z.out.keepA hg3 hat3 (by simp [Value.ownBlock] <;> omega)) | (have hs1 := HEz01.out.keepA hg3 hat3 (by simp [Value.ownBlock] <;> omega)) | skip); (first | (have hz := HZz0.out.keepA hg3 hat3 (by simp [Value.ownBlock] <;> omega)) | (have hz := HZ10z.out.keepA hg3 hat3 (by simp [Value.ownBlock] <;> omega)) | (have hz := HZz01.out.keepA hg3 hat3 (by simp [Value.ownBlock] <;> omega)) | skip); rw [List.nil_append] at how3; have hlt3 := own_lt how3; have hz3 := HSz.out _ hS3; clear hg3 hat3) | (refine step_append_evs _ (by rfl) _ _ (by rfl) K0.heap.size (.slice (some ⟨K0.heap.size + 1 + 1, 0, none⟩) 0 0) [] (by rfl) (by first | with_reducible exact HO1z0.out | with_reducible exact HOz10.out) _ _ es _ _ (by rfl) (by rfl) (HSE.out _ (by with_reducible assumption)) (by rw [List.length_nil]; omega) (HSz.out _ (by with_reducible assumption)) ?_; intro v3 w3 how3 hg3 hat3; have hS3 := HKg.out _ _ _ hg3 (by intro k e; simp [Value.ownBlock] at e; omega) (by with_reducible assumption); (first | (have hs1 := HE1z0.out.keepA hg3 hat3 (by simp [Value.ownBlock] <;> omega)) | (have hs1 := HEz10.out.keepA hg3 hat3 (by simp [Value.ownBlock] <;> omega)) | skip); (first | (have hz := HZ1z0.out.keepA hg3 hat3 (by simp [Value.ownBlock] <;> omega)) | (have hz := HZz10.out.keepA hg3 hat3 (by simp [Value.ownBlock] <;> omega)) | skip); rw [List.nil_append] at how3; have hlt3 := own_lt how3; have hz3 := HSz.out _ hS3; clear hg3 hat3) | (refine step_append_evs _ (by rfl) _ _ (by rfl) K0.heap.size v3 es (by rfl) (by first | with_reducible exact how3 | with_reducible exact how3.alloc _ | with_reducible exact (how3.alloc _).alloc _) _ _ [(ak, ao)] _ _ (by rfl) (by rfl) (by first | with_reducible exact hs1.1.se | with_reducible exact (hs1.1.below (b_new _ _)).se | with_reducible exact (Ev1.new _ ak ao).se | with_reducible exact ((Ev1.new _ ak ao).below (b_new _ _)).se | with_reducible exact (Ev1.new2 _ _ ak ao).se) (by rw [List.length_singleton]; omega) (HSz.out _ (by with_reducible assumption)) ?_; intro v4 w4 how4 hg4 hat4; have hS4 := HKg.out _ _ _ hg4 (fun k e => (World.ownsRow.lt how3 k e).1) (by with_reducible assumption); (first | (have hz4 := hz.1.keepA hg4 hat4 hz.2) | (have hz4 := (hz.1.below (b_new _ _)).keepA hg4 hat4 hz.2) | (have hz4 := (Z4.new _).keepA hg4 hat4 (hlt3 _ (Nat.le_refl _))) | (have hz4 := ((Z4.new _).below (b_new _ _)).keepA hg4 hat4 (hlt3 _ (Nat.le_refl _))) | (have hz4 := (zn2 _ _).keepA hg4 hat4 (hlt3 _ (Nat.le_succ _))) | skip); obtain ⟨A4, c4, hv4, -, hs4⟩ := how4.shape; rw [List.length_append, List.length_singleton] at hv4; subst hv4; have hz4s := HSz.out _ hS4; clear hg4 hat4) | (go_at_call 12; (with_reducible refine (HRc.out _ (by with_reducible assumption) A4 c4 (by first | with_reducible exact hs4 | with_reducible exact hs4.to (b_new _ _))).mono ?_); rintro e w6 ⟨dv6, ov6, rfl, hd6, ho6, hbn⟩; dsimp only [Pr.zeroP] at hd6 ho6; obtain ⟨dA6, dc6, rfl, -⟩ := hd6.shape; obtain ⟨oA6, oc6, rfl, -⟩ := ho6.shape; have hS6 := HKp.out _ _ hbn (by with_reducible assumption); (try (have z := hz4.1.below hbn)); (try (have z := (Z4.new _).below hbn)); (try (obtain ⟨z0, z1, z2, z3, zf, zl⟩ := id z)); dsimp only [Pr.zeroP]))
                all_goals
                  go_wp2_with fail
                  go_meet
                  case rel => exact ⟨rfl, rfl, by first | with_reducible exact (HKp.out _ _ (b_new _ _) hS6).2.2.2 | with_reducible exact (HSet.out _ _ (by omega) hS6 _ _ _ _).2.2.2⟩
            case rest =>
              obtain ⟨rfl, rfl, hBx⟩ := hcut
              have hbX := b_tr hbw5 hBx
              clear HR3
              go_wp2_with fail
              refine (HA.out _).mono ?_
              rintro e w7 ⟨rfl, hb7⟩
              go_wp2
              go_ret
              exact ⟨rfl, b_tr hbX hb7⟩
    · have hE' : (E == 0) = false := by simpa using hE
      clear HE HLn HES HER
      go_wp2_with fail
      refine (HA.out _).mono ?_
      rintro e w7 ⟨rfl, hb7⟩
      go_wp2
      go_ret
      exact ⟨rfl, b_tr hbw2 hb7⟩
  · have g1' : lightB l = false := by simpa using g1
    rw [g1'] at HL
    go_enter Try.func10, Try.ntmps10
    go_upto_region 1 with fail
    generalize w.alloc (.cells #[.int .i64 ak, .int .i64 ao, .int .i64 am] 39) = W1 at *
    go_wp2_with fail
    refine HL.out.mono ?_
    rintro e W1 ⟨rfl, rfl⟩
    go_wp2_with fail
    refine (HA.out _).mono ?_
    rintro e w2 ⟨rfl, hb⟩
    go_wp2
    go_ret
    exact ⟨rfl, b_tr hb1 hb⟩
end Go.Proofs.Ytcolekfjmhgldaa.ends
