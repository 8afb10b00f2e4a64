/- head on the tree machine. -/
import Derived.Test.YtjoajdlnfgfjgaaTmZg
namespace Go.TM
open Go.Proofs
set_option maxRecDepth 100000
set_option maxHeartbeats 4000000
set_option linter.all false
def keepAll : FuncId → List Nat := fun _ => List.range 200
theorem x5 : ∃ st', TM.call Try.prog keepAll 60 12 5 [] st0 = some (bool true, st') := by
  have h : (TM.call Try.prog keepAll 60 12 5 [] st0).map Prod.fst = some (bool true) := by kernel_rfl
  cases q : TM.call Try.prog keepAll 60 12 5 [] st0 with
  | none => rw [q] at h; cases h
  | some r =>
    obtain ⟨v, s⟩ := r
    rw [q] at h
    have h2 : v = bool true := Option.some.inj h
    subst h2; exact ⟨_, rfl⟩
end Go.TM
