/- quartoref06.Move, Position, Back, Kept, Range: what they return. Condition: the pieces and numbers read as values of their types. -/
import Derived.Test.YtdlbjfgpfjcpaaaRef6
import Derived.Test.YtdlbjfgpfjcpaaaKept
namespace Go.Proofs.Ytdlbjfgpfjcpaaa
open Go.RowKit

theorem sizes_io {l : List Pc} (h : errL l = 0) : (sizesS l).1 = inL l ∧ (sizesS l).2 = outL l := by
  have h1 := (lens_ok h).2.1
  rw [lens_of_err h] at h1
  simp only [Prod.mk.injEq] at h1
  exact ⟨h1.1.symm, h1.2.1.symm⟩
theorem left_eq {l : List Pc} (h : Mod l) (t : Bool) (x : Int) : leftQ x 0 (runsT t l) = leftP x 0 (runsT t l) :=
  leftQ_eq x _ 0 (runsT_up h.1 t) (fun r hr => (runs_ok h t r hr).2.2.2.2.1)
theorem runs_le {l : List Pc} (h : Mod l) : (runsT false l).length ≤ 100000 := Nat.le_trans (runs_len l 0 0) h.2.1
theorem turn_eq (l : List Pc) : (runsT false l).map turnR = runsT true l := rfl

end Go.Proofs.Ytdlbjfgpfjcpaaa
