/- The release functions on the tree machine: compare. -/
import Derived.Test.YtjoajdlnfgfjgaaTmW
namespace Go.TM
open Go.Proofs
set_option maxRecDepth 100000
set_option maxHeartbeats 4000000
set_option linter.all false
theorem fun25 : Try.prog.funcs[25]? = some Try.f25 := by kernel_rfl
theorem fun30 : Try.prog.funcs[30]? = some Try.f30 := by kernel_rfl
theorem un68 : Try.prog.underlying 68 = some (.slice 3) := by kernel_rfl
theorem co3 : Program.cellsOf Try.prog 3 = 1 := by kernel_rfl
theorem zo3 : zeroOf Try.prog 3 = some [.int .i64 0] := by kernel_rfl
noncomputable def c25 : CallF := callBody Try.prog (fun _ => [0, 2, 3, 5, 6, 7, 8, 9, 14]) 4 none0
def or3 (p q r : Int) : Int := if p ≠ 0 then p else if q ≠ 0 then q else r
theorem x25 (a b c a' b' c' : Int) : callBody Try.prog (fun _ => [2, 3, 4]) 0 c25 25 [.agg [int a, int b, int c], .agg [int a', int b', int c']] st0 =
    some (int (or3 (IntKind.i64.wrap (a - a')) (IntKind.i64.wrap (b - b')) (IntKind.i64.wrap (c - c'))), st0) := by
  generalize h1 : IntKind.i64.wrap (a - a') = p
  generalize h2 : IntKind.i64.wrap (b - b') = q
  generalize h3 : IntKind.i64.wrap (c - c') = r
  have w0 : IntKind.i64.wrap (0 + 1) = 1 := by kernel_rfl
  have w1 : IntKind.i64.wrap (1 + 1) = 2 := by kernel_rfl
  have w2 : IntKind.i64.wrap (2 + 1) = 3 := by kernel_rfl
  have w0' : IntKind.i64.wrap 1 = 1 := by kernel_rfl
  have w1' : IntKind.i64.wrap 2 = 2 := by kernel_rfl
  have w2' : IntKind.i64.wrap 3 = 3 := by kernel_rfl
  by_cases hp : p = 0 <;> by_cases hq : q = 0 <;> by_cases hr : r = 0 <;>
  simp [or3, fun25, fun30, c25, h1, h2, h3, hp, hq, hr, w0, w1, w2, w0', w1', w2', callBody, Try.f25, Try.f30, code, iter, popS, runL, stepU, wanted, op, op1, op2, op3, mem, buildSlice, zo3, co3, un68, rep, fillP, splice, enter, number, get, put, putO, keepS_nil, keepS_cons, opd, ofConst, scalar, int, bool, parts, one, push, load, loadC, shift, indexAddr, isInt, lenOf, fq0, fq1, fq2, kn3, ag3, bin, binInt, arg, arg1, results, tuple, outT, out, out1, down, old, st0]
end Go.TM
