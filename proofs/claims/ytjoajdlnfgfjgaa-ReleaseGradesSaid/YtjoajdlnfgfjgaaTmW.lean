/- The release functions on the tree machine: places. -/
import Derived.Test.YtjoajdlnfgfjgaaTmV
namespace Go.TM
open Go.Proofs
set_option maxRecDepth 100000
set_option maxHeartbeats 4000000
set_option linter.all false
theorem fun24 : Try.prog.funcs[24]? = some Try.f24 := by kernel_rfl
theorem fq0 : fieldOff Try.prog 72 0 = some 0 := by kernel_rfl
theorem fq1 : fieldOff Try.prog 72 1 = some 1 := by kernel_rfl
theorem fq2 : fieldOff Try.prog 72 2 = some 2 := by kernel_rfl
def pl (a b c : Int) : AV := .agg [int a, int b, int c]
theorem x24 (a b c : Int) : callBody Try.prog (fun _ => [1, 2]) 0 none0 24 [.agg [int a, int b, int c]] st0 = some (bool (decide (0 ≤ a ∧ a < 512 ∧ 0 ≤ b ∧ b < 4 ∧ 0 ≤ c ∧ c < 8)), st0) := by
  by_cases h0 : 0 ≤ a
  · by_cases h1 : a < 512
    · by_cases h2 : 0 ≤ b
      · by_cases h3 : b < 4
        · by_cases h4 : 0 ≤ c
          · by_cases h5 : c < 8
            · simp [fun24, h0, h1, h2, h3, h4, h5, callBody, Try.f24, code, runL, stepU, wanted, op, op1, op2, op3, mem, enter, number, get, put, putO, keepS_nil, keepS_cons, opd, ofConst, scalar, int, bool, parts, one, push, load, loadC, shift, fq0, fq1, fq2, kn3, ag3, bin, binInt, results, tuple, outT, out, out1, down, old, st0]
            · simp [fun24, h0, h1, h2, h3, h4, h5, callBody, Try.f24, code, runL, stepU, wanted, op, op1, op2, op3, mem, enter, number, get, put, putO, keepS_nil, keepS_cons, opd, ofConst, scalar, int, bool, parts, one, push, load, loadC, shift, fq0, fq1, fq2, kn3, ag3, bin, binInt, results, tuple, outT, out, out1, down, old, st0]
          · simp [fun24, h0, h1, h2, h3, h4, callBody, Try.f24, code, runL, stepU, wanted, op, op1, op2, op3, mem, enter, number, get, put, putO, keepS_nil, keepS_cons, opd, ofConst, scalar, int, bool, parts, one, push, load, loadC, shift, fq0, fq1, fq2, kn3, ag3, bin, binInt, results, tuple, outT, out, out1, down, old, st0]
        · simp [fun24, h0, h1, h2, h3, callBody, Try.f24, code, runL, stepU, wanted, op, op1, op2, op3, mem, enter, number, get, put, putO, keepS_nil, keepS_cons, opd, ofConst, scalar, int, bool, parts, one, push, load, loadC, shift, fq0, fq1, fq2, kn3, ag3, bin, binInt, results, tuple, outT, out, out1, down, old, st0]
      · simp [fun24, h0, h1, h2, callBody, Try.f24, code, runL, stepU, wanted, op, op1, op2, op3, mem, enter, number, get, put, putO, keepS_nil, keepS_cons, opd, ofConst, scalar, int, bool, parts, one, push, load, loadC, shift, fq0, fq1, fq2, kn3, ag3, bin, binInt, results, tuple, outT, out, out1, down, old, st0]
    · simp [fun24, h0, h1, callBody, Try.f24, code, runL, stepU, wanted, op, op1, op2, op3, mem, enter, number, get, put, putO, keepS_nil, keepS_cons, opd, ofConst, scalar, int, bool, parts, one, push, load, loadC, shift, fq0, fq1, fq2, kn3, ag3, bin, binInt, results, tuple, outT, out, out1, down, old, st0]
  · simp [fun24, h0, callBody, Try.f24, code, runL, stepU, wanted, op, op1, op2, op3, mem, enter, number, get, put, putO, keepS_nil, keepS_cons, opd, ofConst, scalar, int, bool, parts, one, push, load, loadC, shift, fq0, fq1, fq2, kn3, ag3, bin, binInt, results, tuple, outT, out, out1, down, old, st0]
end Go.TM
