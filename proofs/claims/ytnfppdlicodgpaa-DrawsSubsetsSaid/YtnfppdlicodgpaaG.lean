/- What every law of the draws owes besides its walk. -/
import Derived.Test.YtnfppdlicodgpaaF
import Derived.ProofKit
import Derived.OpenShut
import Derived.ChangeOld
import Derived.Below
import Derived.Deep.Slices
import Derived.ChangeSame
namespace Go.Proofs.Ytnfppdlicodgpaa
open Go.RowKit
open Pd (St)
theorem own : ownKnob Try.prog.godebug = none := by kernel_rfl
theorem st_of {d : Int} (h : (Lit.int .u64 d).wf = true) : St d := by
  obtain ⟨h1, h2⟩ := bounds_u64 h
  exact ⟨h1, h2⟩
theorem ub {n : Int} (h : (Lit.int .i64 n).wf = true) : -9223372036854775808 ≤ n ∧ n ≤ 9223372036854775807 := bounds_i64 h
end Go.Proofs.Ytnfppdlicodgpaa
