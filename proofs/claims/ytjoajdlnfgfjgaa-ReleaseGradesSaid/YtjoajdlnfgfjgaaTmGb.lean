/- ReleaseGrades on the tree machine: Owe. -/
import Derived.Test.YtjoajdlnfgfjgaaTmGa
namespace Go.TM
open Go.Proofs
set_option maxRecDepth 100000
set_option maxHeartbeats 4000000
set_option linter.all false
structure Fr where
  at_ : Int
  tel : Int
  prog : Int
  tile : Int
  filt : Int
  r0 : Int
  r1 : Int
  r2 : Int
  r3 : Int
def frC (f : Fr) : List AV := [int f.at_, int f.tel, int f.prog, int f.tile, int f.filt, int f.r0, int f.r1, int f.r2, int f.r3]
def frA (f : Fr) : AV := .agg (frC f)
structure D6 where
  kind : Int
  tel : Int
  filt : Int
  frm : Int
  til : Int
  prog : Int
def dC (d : D6) : List PV := [pint d.kind, pint d.tel, pint d.filt, pint d.frm, pint d.til, pint d.prog]
def dA (d : D6) : AV := .agg [int d.kind, int d.tel, int d.filt, int d.frm, int d.til, int d.prog]
def encD (l : List D6) : List PV := l.flatMap dC
def spec27 : List AV → Option AV
  | [.agg [.pv (.sc (.int .i64 k)), .pv (.sc (.int .i64 t)), .pv (.sc (.int .i64 f))]] => some (bool (okC k t f))
  | _ => none
/-- within, valid; the rest by its body -/
noncomputable def c21 : CallF := tab (tab (callBody Try.prog (fun _ => [0, 1, 2, 3, 4, 9]) 0 none0) 26 spec26) 27 spec27
theorem q26' (n lo hi : Int) (st : St) : c21 26 [.pv (.sc (.int .i64 n)), .pv (.sc (.int .i64 lo)), .pv (.sc (.int .i64 hi))] st = some (.pv (.sc (.bool (inside n lo hi))), st) := rfl
theorem q27' (k t f : Int) (st : St) : c21 27 [.agg [.pv (.sc (.int .i64 k)), .pv (.sc (.int .i64 t)), .pv (.sc (.int .i64 f))]] st = some (.pv (.sc (.bool (okC k t f))), st) := rfl
theorem zo79 : zeroOf Try.prog 79 = some [.int .i64 0, .int .i64 0, .int .i64 0, .int .i64 0, .int .i64 0, .int .i64 0] := by kernel_rfl
theorem co79 : Program.cellsOf Try.prog 79 = 6 := by kernel_rfl
theorem kn79 : known Try.prog 79 = true := by kernel_rfl
theorem ag79 : isAgg Try.prog 79 = true := by kernel_rfl
theorem fk79 : fieldsKnown Try.prog 79 = true := by kernel_rfl
theorem fk77 : fieldsKnown Try.prog 77 = true := by kernel_rfl
theorem zo77 : zeroOf Try.prog 77 = some [.int .i64 0, .int .i64 0, .int .i64 0] := by kernel_rfl
theorem so77 : structOffs Try.prog 77 0 = some (0, 1) ∧ structOffs Try.prog 77 1 = some (1, 1) ∧ structOffs Try.prog 77 2 = some (2, 1) := by refine ⟨?_, ?_, ?_⟩ <;> kernel_rfl
theorem so79 : structOffs Try.prog 79 0 = some (0, 1) ∧ structOffs Try.prog 79 1 = some (1, 1) ∧ structOffs Try.prog 79 2 = some (2, 1) ∧ structOffs Try.prog 79 3 = some (3, 1) ∧ structOffs Try.prog 79 4 = some (4, 1) ∧ structOffs Try.prog 79 5 = some (5, 1) := by
  refine ⟨?_, ?_, ?_, ?_, ?_, ?_⟩ <;> kernel_rfl
theorem ff0 : fieldOff Try.prog 46 0 = some 0 := by kernel_rfl
theorem ff1 : fieldOff Try.prog 46 1 = some 1 := by kernel_rfl
theorem ff2 : fieldOff Try.prog 46 2 = some 2 := by kernel_rfl
theorem ff4 : fieldOff Try.prog 46 4 = some 4 := by kernel_rfl
/-- the closure of Owe, over the frame in the first block -/
theorem x28 (f : Fr) (k t b a : Int) :
    c21 28 [int k, int t, int b, int a, .lp 0 0] ⟨[.cells (frC f)], [0], [(0, 0)], 1, 1⟩ = some (.agg [int k, int f.tel, int t, int (IntKind.i64.wrap (f.at_ - b)), int (IntKind.i64.wrap (f.at_ + a)), int f.prog], ⟨[.cells (frC f)], [0], [(0, 0)], 1, 1⟩) := by
  kernel_rfl
def okF (f : Fr) : Bool := inside f.at_ 0 38399 && (inside f.prog 0 63 && okC 2 f.tel f.filt)
def owes (f : Fr) : List D6 := [⟨1, f.tel, -1, f.at_ - 96, f.at_ + 96, f.prog⟩, ⟨2, f.tel, f.filt, f.at_ - 288, f.at_ + 288, f.prog⟩, ⟨3, f.tel, f.filt, f.at_, f.at_ + 48, f.prog⟩]
def res21 (f : Fr) : AV := if okF f then .tup [.pv (.sl 3 (encD (owes f))), int 0] else .tup [.pv (.sl 0 []), int 1]
theorem un65 : Try.prog.underlying 65 = some (.slice 79) := by kernel_rfl
theorem x21 (f : Fr) : ∃ st', callBody Try.prog (fun _ => [1, 2, 3, 4, 23]) 0 c21 21 [frA f] st0 = some (res21 f, st') := by
  obtain ⟨s0, s1, s2⟩ := so77
  have h28 := fun k t b a => x28 f k t b a
  simp only [int, frC] at h28
  cases h1 : inside f.at_ 0 38399 <;> cases h2 : inside f.prog 0 63 <;> cases h3 : okC 2 f.tel f.filt <;>
  simp [res21, okF, h1, h2, h3, fun21, callBody, Try.f21, frA, frC, code, runL, stepU, stepD, isWr, op1D, memD, wanted, op, op1, op2, op3, mem, enter, number, get, put, putO, keepS_nil, keepS_cons, opd, ofConst, scalar, int, bool, parts, one, push, unop, load, loadC, shift, ff0, ff1, ff2, ff4, kn3, ag3, co3, zo77, fk77, build, s0, s1, s2, fillP, openNil, countA, isNilA, isNilV, zeros, splice, bin, binInt, arg, arg1, q26', q27', h28, strip, strip2, strip1, results, tuple, outT, TM.out, out1, down, old, oldCh, st0]
  have hat : 0 ≤ f.at_ ∧ f.at_ ≤ 38399 := by simpa [inside] using h1
  have w1 : IntKind.i64.wrap (f.at_ - 96) = f.at_ - 96 := by rw [IntKind.wrap_i64]; omega
  have w2 : IntKind.i64.wrap (f.at_ + 96) = f.at_ + 96 := by rw [IntKind.wrap_i64]; omega
  have w3 : IntKind.i64.wrap (f.at_ - 288) = f.at_ - 288 := by rw [IntKind.wrap_i64]; omega
  have w4 : IntKind.i64.wrap (f.at_ + 288) = f.at_ + 288 := by rw [IntKind.wrap_i64]; omega
  have w5 : IntKind.i64.wrap f.at_ = f.at_ := by rw [IntKind.wrap_i64]; omega
  have w6 : IntKind.i64.wrap (f.at_ + 48) = f.at_ + 48 := by rw [IntKind.wrap_i64]; omega
  simp [buildSlice, un65, zo79, co79, rep, fillP, opd, get, put, putO, keepS_nil, keepS_cons, ofConst, scalar, arg, arg1, splice, parts, one, push, results, tuple, outT, TM.out, out1, down, old, oldCh, pures, pureOf, w1, w2, w3, w4, w5, w6, encD, owes, dC, pint, int]
end Go.TM
