/- ReleaseGrades on the tree machine: classes and debts. -/
import Derived.Test.YtjoajdlnfgfjgaaTmHd
namespace Go.TM
open Go.Proofs
set_option maxRecDepth 100000
set_option maxHeartbeats 4000000
set_option linter.all false
theorem fun26 : Try.prog.funcs[26]? = some Try.f26 := by kernel_rfl
theorem fun27 : Try.prog.funcs[27]? = some Try.f27 := by kernel_rfl
theorem fun28 : Try.prog.funcs[28]? = some Try.f28 := by kernel_rfl
theorem fun21 : Try.prog.funcs[21]? = some Try.f21 := by kernel_rfl
def inside (n lo hi : Int) : Bool := decide (lo ≤ n) && decide (n ≤ hi)
theorem x26 (n lo hi : Int) : callBody Try.prog (fun _ => [0, 1, 2, 6]) 0 none0 26 [int n, int lo, int hi] st0 = some (bool (inside n lo hi), st0) := by
  by_cases h1 : lo ≤ n <;> by_cases h2 : n ≤ hi <;>
  simp [inside, h1, h2, fun26, callBody, Try.f26, code, runL, stepU, wanted, op, op1, op2, op3, mem, enter, number, get, put, putO, keepS_nil, keepS_cons, opd, ofConst, scalar, int, bool, parts, one, push, bin, binInt, results, tuple, outT, TM.out, out1, down, old, st0]
def spec26 : List AV → Option AV
  | [.pv (.sc (.int .i64 n)), .pv (.sc (.int .i64 lo)), .pv (.sc (.int .i64 hi))] => some (bool (inside n lo hi))
  | _ => none
noncomputable def c26 : CallF := tab none0 26 spec26
theorem q26 (n lo hi : Int) (st : St) : c26 26 [.pv (.sc (.int .i64 n)), .pv (.sc (.int .i64 lo)), .pv (.sc (.int .i64 hi))] st = some (.pv (.sc (.bool (inside n lo hi))), st) := rfl
def okC (k t f : Int) : Bool := inside t 0 5 && (if k = 1 then decide (f = -1) else if k = 2 ∨ k = 3 then inside f 0 7 else false)
theorem fc0 : fieldOff Try.prog 77 0 = some 0 := by kernel_rfl
theorem fc1 : fieldOff Try.prog 77 1 = some 1 := by kernel_rfl
theorem fc2 : fieldOff Try.prog 77 2 = some 2 := by kernel_rfl
theorem x27 (k t f : Int) : ∃ st', callBody Try.prog (fun _ => [1, 2, 6, 8, 9, 10, 14]) 0 c26 27 [.agg [int k, int t, int f]] st0 = some (bool (okC k t f), st') := by
  cases h1 : inside t 0 5 <;> by_cases h2 : k = 1 <;> by_cases h3 : k = 2 <;> by_cases h4 : k = 3 <;> by_cases h5 : f = -1 <;>
  simp [okC, h1, h2, h3, h4, h5, fun27, callBody, Try.f27, code, runL, stepU, wanted, op, op1, op2, op3, mem, enter, number, get, put, putO, keepS_nil, keepS_cons, opd, ofConst, scalar, int, bool, parts, one, push, unop, load, loadC, shift, fc0, fc1, fc2, kn3, ag3, bin, binInt, arg, arg1, q26, results, tuple, outT, TM.out, out1, down, old, st0]
end Go.TM
