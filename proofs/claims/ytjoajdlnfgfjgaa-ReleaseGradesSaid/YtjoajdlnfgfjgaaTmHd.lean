/- head on the tree machine. -/
import Derived.Test.YtjoajdlnfgfjgaaTmZg
namespace Go.TM
open Go.Proofs
set_option maxRecDepth 100000
set_option maxHeartbeats 4000000
set_option linter.all false
def keepAll : FuncId → List Nat := fun _ => List.range 200
theorem x5 : ∃ st', TM.call Try.prog keepAll 60 12 5 [] st0 = some (bool true, st') := by
  have h : (TM.call Try.prog keepAll 60 12 5 [] st0).map Prod.fst = some (bool true) := by kernel_rfl
  cases q : TM.call Try.prog keepAll 60 12 5 [] st0 with
  | none => rw [q] at h; cases h
  | some r =>
    obtain ⟨v, s⟩ := r
    rw [q] at h
    have h2 : v = bool true := Option.some.inj h
    subst h2; exact ⟨_, rfl⟩
/-- the loops of a function, in the text's order -/
def loops : Code → List Code
  | .loop c => [c]
  | .seq a b => loops a ++ loops b
  | .block _ c => loops c
  | .cond _ a b => loops a ++ loops b
  | _ => []
def loopNo (f : Func) (n : Nat) : Code := match f.body with
  | some c => (loops c).getD n .skip
  | none => .skip
def setLoops : List Code → Code → Code × List Code
  | L, .loop c => match L with
    | x :: r => (.loop x, r)
    | [] => (.loop c, [])
  | L, .seq a b => let p := setLoops L a; let q := setLoops p.2 b; (.seq p.1 q.1, q.2)
  | L, .block id c => let p := setLoops L c; (.block id p.1, p.2)
  | L, .cond c a b => let p := setLoops L a; let q := setLoops p.2 b; (.cond c p.1 q.1, q.2)
  | L, c => (c, L)
def put3 (f : Func) (L : List Code) : Code := match f.body with
  | some c => (setLoops L c).1
  | none => .skip
theorem load_lp (P : Program) (st : St) (t : TypeId) (b o : Nat) : load P st t (.lp b o) = match st.h[b]? with
    | some (.cells cs) => loadC P t (cs.drop o)
    | _ => none := rfl
end Go.TM
