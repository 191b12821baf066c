/- Plain facts on a moved polyline. -/
import Derived.Test.YtnmmbcgbijinpaaPle
namespace Go.Proofs.Ytnmmbcgbijinpaa.Pl

def sh (d p : Pt) : Pt := (p.1 + d.1, p.2 + d.2)

theorem sh_inj {d p q : Pt} : sh d p = sh d q ↔ p = q := by
  obtain ⟨x, y⟩ := p
  obtain ⟨u, v⟩ := q
  unfold sh
  simp only [Prod.mk.injEq]
  omega

theorem seg_sh (d a b : Pt) : seg (sh d a) (sh d b) = seg a b := by
  unfold seg sh
  simp only
  rw [show b.1 + d.1 - (a.1 + d.1) = b.1 - a.1 by omega, show b.2 + d.2 - (a.2 + d.2) = b.2 - a.2 by omega]

theorem total_sh (d : Pt) : ∀ l : List Pt, total (l.map (sh d)) = total l
  | [] => rfl
  | [_] => rfl
  | a :: b :: r => by
    have ih := total_sh d (b :: r)
    simp only [List.map_cons] at ih ⊢
    rw [total, ih, seg_sh, total]

theorem at_sh (d a b : Pt) (t n : Int) : atSeg (sh d a) (sh d b) t n = sh d (atSeg a b t n) := by
  unfold atSeg sh
  simp only
  rw [show b.1 + d.1 - (a.1 + d.1) = b.1 - a.1 by omega, show b.2 + d.2 - (a.2 + d.2) = b.2 - a.2 by omega]
  simp only [Prod.mk.injEq]
  omega

theorem loc_sh (d : Pt) : ∀ (l : List Pt) (s : Int), loc (l.map (sh d)) s = (loc l s).map fun x => (x.1, sh d x.2)
  | [], _ => rfl
  | [_], _ => rfl
  | a :: b :: r, s => by
    have ih := loc_sh d (b :: r) (s - seg a b)
    simp only [List.map_cons] at ih ⊢
    rw [loc, loc, seg_sh, at_sh]
    split
    · rfl
    · rw [ih]
      cases loc (b :: r) (s - seg a b) <;> rfl

theorem compact_sh (d : Pt) : ∀ l : List Pt, compact (l.map (sh d)) = (compact l).map (sh d)
  | [] => rfl
  | [_] => rfl
  | a :: b :: r => by
    have ih := compact_sh d (b :: r)
    simp only [List.map_cons] at ih ⊢
    by_cases h : a = b
    · rw [compact, if_pos (sh_inj.2 h), ih, compact, if_pos h]
    · rw [compact, if_neg (fun e => h (sh_inj.1 e)), ih, compact, if_neg h, List.map_cons]

theorem part_sh (d : Pt) (l : List Pt) : part (l.map (sh d)) = (part l).map (sh d) := by
  unfold part
  rw [compact_sh]
  generalize compact l = m
  match m with
  | [] => rfl
  | [_] => rfl
  | _ :: _ :: _ => rfl
end Go.Proofs.Ytnmmbcgbijinpaa.Pl
