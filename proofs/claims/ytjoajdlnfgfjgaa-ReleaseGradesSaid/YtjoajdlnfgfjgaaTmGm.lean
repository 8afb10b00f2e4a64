/- ReleaseGrades on the tree machine: Grade, FewScript. -/
import Derived.Test.YtjoajdlnfgfjgaaTmGl
namespace Go.TM
open Go.Proofs
set_option maxRecDepth 100000
set_option maxHeartbeats 4000000
set_option linter.all false
def gOk (f : Fr) (ps : List P4) (at_ : Int) : Bool := okF f && okAll (owes f) ps at_
def spec14 : List AV → Option AV
  | [.agg [.pv (.sc (.int .i64 a)), .pv (.sc (.int .i64 b)), .pv (.sc (.int .i64 c)), .pv (.sc (.int .i64 d)), .pv (.sc (.int .i64 e)), .pv (.sc (.int .i64 f)), .pv (.sc (.int .i64 g)), .pv (.sc (.int .i64 h)), .pv (.sc (.int .i64 i))], .pv (.sl m es), .pv (.sc (.int .i64 at_))] => match decP es with
    | some ps => if ps.length = m ∧ m < 64 then some (res14 ⟨a, b, c, d, e, f, g, h, i⟩ ps at_) else none
    | _ => none
  | _ => none
noncomputable def c9 : CallF := tab none0 14 spec14
theorem ok9 : CallOK Try.prog c9 := tab_ok none_ok (body_ok pr ok14 (fun _ => K14) 64) fun args v h => by
  unfold spec14 at h
  split at h
  case h_2 => cases h
  split at h
  case h_2 => cases h
  rename_i ps hp
  split at h
  case isFalse => cases h
  rename_i hn
  obtain ⟨rfl, hm⟩ := hn
  obtain rfl := Option.some.inj h
  obtain rfl := decP_dec _ _ hp
  obtain ⟨st', q⟩ := x14 ⟨_, _, _, _, _, _, _, _, _⟩ ps _ hm
  refine ⟨rfl, _, _, q, ?_⟩
  unfold res14; split <;> rfl
theorem q14 (f : Fr) (ps : List P4) (at_ : Int) (hp : ps.length < 64) (st : St) : c9 14 [frA f, flat pC ps, .pv (.sc (.int .i64 at_))] st = some (.tup [.pv (.sc (.bool (gOk f ps at_ && paid f ps at_))), .pv (.sc (.int .i64 (if gOk f ps at_ then 0 else 1)))], st) := by
  show (match spec14 [frA f, flat pC ps, .pv (.sc (.int .i64 at_))] with | some v => some (v, st) | none => none) = _
  simp only [spec14, frA, frC, int, flat, decP_enc, hp, and_self, if_true, res14]
  unfold gOk
  cases okF f && okAll (owes f) ps at_ <;> simp [bool, int]
structure Sc where
  a0 : Int
  a1 : Int
  n2 : Nat
  s2 : List PV
  n3 : Nat
  s3 : List PV
  n4 : Nat
  s4 : List PV
  ps : List P4
  n6 : Nat
  s6 : List PV
def scC (s : Sc) : List AV := [int s.a0, int s.a1, .pv (.sl s.n2 s.s2), .pv (.sl s.n3 s.s3), .pv (.sl s.n4 s.s4), flat pC s.ps, .pv (.sl s.n6 s.s6)]
structure Rl where
  b0 : ByteArray
  b1 : ByteArray
  b2 : Int
  n3 : Nat
  s3 : List PV
  at_ : Int
  b5 : Int
def rlC (r : Rl) : List AV := [.pv (.sc (.string r.b0)), .pv (.sc (.string r.b1)), int r.b2, .pv (.sl r.n3 r.s3), int r.at_, int r.b5]
theorem fun9 : Try.prog.funcs[9]? = some Try.f9 := by kernel_rfl
theorem fun8 : Try.prog.funcs[8]? = some Try.f8 := by kernel_rfl
theorem fs2 : fieldOff Try.prog 37 2 = some 2 := by kernel_rfl
theorem fs3 : fieldOff Try.prog 37 3 = some 3 := by kernel_rfl
theorem fs4 : fieldOff Try.prog 37 4 = some 4 := by kernel_rfl
theorem fs5 : fieldOff Try.prog 37 5 = some 5 := by kernel_rfl
theorem fs6 : fieldOff Try.prog 37 6 = some 6 := by kernel_rfl
theorem fr2 : fieldOff Try.prog 42 2 = some 4 := by kernel_rfl
theorem kn34 : known Try.prog 34 = true := by kernel_rfl
theorem ag34 : isAgg Try.prog 34 = false := by kernel_rfl
theorem kn31 : known Try.prog 31 = true := by kernel_rfl
theorem ag31 : isAgg Try.prog 31 = false := by kernel_rfl
theorem kn32 : known Try.prog 32 = true := by kernel_rfl
theorem ag32 : isAgg Try.prog 32 = false := by kernel_rfl
theorem kn33 : known Try.prog 33 = true := by kernel_rfl
theorem ag33 : isAgg Try.prog 33 = false := by kernel_rfl
theorem kn35 : known Try.prog 35 = true := by kernel_rfl
theorem ag35 : isAgg Try.prog 35 = false := by kernel_rfl
theorem un31 : Try.prog.underlying 31 = some (.slice 101) := by kernel_rfl
theorem un32 : Try.prog.underlying 32 = some (.slice 103) := by kernel_rfl
theorem un33 : Try.prog.underlying 33 = some (.slice 105) := by kernel_rfl
theorem un35 : Try.prog.underlying 35 = some (.slice 109) := by kernel_rfl
theorem kn46 : known Try.prog 46 = true := by kernel_rfl
theorem ag46 : isAgg Try.prog 46 = true := by kernel_rfl
theorem co46 : Program.cellsOf Try.prog 46 = 9 := by kernel_rfl
theorem arg_agg' (cs : List AV) : arg (.agg cs) = .agg (cs.map arg1) := rfl
theorem arg_sl (n : Nat) (cs : List PV) : arg (.pv (.sl n cs)) = .pv (.sl n cs) := rfl
theorem x9 (s : Sc) (r : Rl) (f : Fr) (hp : s.ps.length < 64) :
    ∃ st', callBody Try.prog (fun _ => [3, 4, 5, 6, 7]) 0 c9 9 [.agg (scC s), .agg (rlC r), frA f] st0 = some (.tup [bool (gOk f s.ps r.at_ && paid f s.ps r.at_), int (if gOk f s.ps r.at_ then 0 else 1)], st') := by
  have h14 := q14 f s.ps r.at_ hp
  simp only [frA, frC, int, flat] at h14
  simp [fun9, callBody, Try.f9, scC, rlC, frA, frC, code, runL, stepU, wanted, op, op1, op2, op3, mem, enter, number, get, put, putO, keepS_nil, keepS_cons, opd, ofConst, scalar, int, bool, parts, one, push, load_lp, loadC, shift, fs5, fr2, kn34, ag34, kn3, ag3, kn46, ag46, co46, arg_agg', flat, arg_int, arg_sl, arg1, h14, results, tuple, outT, TM.out, out1, down, old, oldCh, st0]
def fewS (s : Sc) : Bool := decide ((s.n2 : Int) ≤ 8) && (decide ((s.n3 : Int) ≤ 8) && (decide ((s.n4 : Int) ≤ 8) && (decide ((s.ps.length : Int) ≤ 12) && decide ((s.n6 : Int) ≤ 8))))
theorem x8 (s : Sc) : ∃ st', callBody Try.prog (fun _ => [1, 2]) 0 none0 8 [.agg (scC s)] st0 = some (bool (fewS s), st') := by
  have l5 := fun st => lenF (f := pC) un34 st s.ps
  have l2 : ∀ st n cs, lenOf Try.prog st 31 (.pv (.sl n cs)) = some (int n) := fun st n cs => by simp [lenOf, un31]
  have l3 : ∀ st n cs, lenOf Try.prog st 32 (.pv (.sl n cs)) = some (int n) := fun st n cs => by simp [lenOf, un32]
  have l4 : ∀ st n cs, lenOf Try.prog st 33 (.pv (.sl n cs)) = some (int n) := fun st n cs => by simp [lenOf, un33]
  have l6 : ∀ st n cs, lenOf Try.prog st 35 (.pv (.sl n cs)) = some (int n) := fun st n cs => by simp [lenOf, un35]
  simp only [int, flat] at l2 l3 l4 l5 l6
  by_cases h2 : (s.n2 : Int) ≤ 8
  · by_cases h3 : (s.n3 : Int) ≤ 8
    · by_cases h4 : (s.n4 : Int) ≤ 8
      · by_cases h5 : (s.ps.length : Int) ≤ 12
        · by_cases h6 : (s.n6 : Int) ≤ 8
          · simp [fewS, flat, h2, h3, h4, h5, h6, fun8, callBody, Try.f8, scC, code, runL, stepU, wanted, op, op1, op2, op3, mem, enter, number, get, put, putO, keepS_nil, keepS_cons, opd, ofConst, scalar, int, bool, parts, one, push, load_lp, loadC, shift, fs2, fs3, fs4, fs5, fs6, kn31, ag31, kn32, ag32, kn33, ag33, kn34, ag34, kn35, ag35, l2, l3, l4, l5, l6, bin, binInt, results, tuple, outT, TM.out, out1, down, old, oldCh, st0]
          · simp [fewS, flat, h2, h3, h4, h5, h6, fun8, callBody, Try.f8, scC, code, runL, stepU, wanted, op, op1, op2, op3, mem, enter, number, get, put, putO, keepS_nil, keepS_cons, opd, ofConst, scalar, int, bool, parts, one, push, load_lp, loadC, shift, fs2, fs3, fs4, fs5, fs6, kn31, ag31, kn32, ag32, kn33, ag33, kn34, ag34, kn35, ag35, l2, l3, l4, l5, l6, bin, binInt, results, tuple, outT, TM.out, out1, down, old, oldCh, st0]
        · simp [fewS, flat, h2, h3, h4, h5, fun8, callBody, Try.f8, scC, code, runL, stepU, wanted, op, op1, op2, op3, mem, enter, number, get, put, putO, keepS_nil, keepS_cons, opd, ofConst, scalar, int, bool, parts, one, push, load_lp, loadC, shift, fs2, fs3, fs4, fs5, fs6, kn31, ag31, kn32, ag32, kn33, ag33, kn34, ag34, kn35, ag35, l2, l3, l4, l5, l6, bin, binInt, results, tuple, outT, TM.out, out1, down, old, oldCh, st0]
      · simp [fewS, flat, h2, h3, h4, fun8, callBody, Try.f8, scC, code, runL, stepU, wanted, op, op1, op2, op3, mem, enter, number, get, put, putO, keepS_nil, keepS_cons, opd, ofConst, scalar, int, bool, parts, one, push, load_lp, loadC, shift, fs2, fs3, fs4, fs5, fs6, kn31, ag31, kn32, ag32, kn33, ag33, kn34, ag34, kn35, ag35, l2, l3, l4, l5, l6, bin, binInt, results, tuple, outT, TM.out, out1, down, old, oldCh, st0]
    · simp [fewS, flat, h2, h3, fun8, callBody, Try.f8, scC, code, runL, stepU, wanted, op, op1, op2, op3, mem, enter, number, get, put, putO, keepS_nil, keepS_cons, opd, ofConst, scalar, int, bool, parts, one, push, load_lp, loadC, shift, fs2, fs3, fs4, fs5, fs6, kn31, ag31, kn32, ag32, kn33, ag33, kn34, ag34, kn35, ag35, l2, l3, l4, l5, l6, bin, binInt, results, tuple, outT, TM.out, out1, down, old, oldCh, st0]
  · simp [fewS, flat, h2, fun8, callBody, Try.f8, scC, code, runL, stepU, wanted, op, op1, op2, op3, mem, enter, number, get, put, putO, keepS_nil, keepS_cons, opd, ofConst, scalar, int, bool, parts, one, push, load_lp, loadC, shift, fs2, fs3, fs4, fs5, fs6, kn31, ag31, kn32, ag32, kn33, ag33, kn34, ag34, kn35, ag35, l2, l3, l4, l5, l6, bin, binInt, results, tuple, outT, TM.out, out1, down, old, oldCh, st0]
end Go.TM
