/- The release functions on the tree machine: only. -/
import Derived.Test.YtjoajdlnfgfjgaaTmZ
namespace Go.TM
open Go.Proofs
set_option maxRecDepth 100000
set_option maxHeartbeats 4000000
set_option linter.all false
theorem fun17 : Try.prog.funcs[17]? = some Try.f17 := by kernel_rfl
/-- the condition of Confirmed, at a state whose first block holds the number -/
theorem x17 (x : T4) (n : Int) (ch : List Nat) (ms : List (Nat × Nat)) (r : List Obj) (fl cf : Nat) (c : CallF) :
    callBody Try.prog (fun _ => [1, 2, 3]) 0 c 17 [tal x, .lp 0 0] ⟨.cells [int n] :: r, ch, ms, fl, cf⟩ = some (bool (decide (x.d ≥ n)), ⟨.cells [int n] :: r, ch, ms, fl, cf⟩) := by
  simp [callBody, fun17, Try.f17, code, runL, stepU, wanted, op, op1, op2, op3, mem, enter, number, get, put, putO, keepS_nil, keepS_cons, opd, ofConst, scalar, tal, int, bool, parts, one, push, load, loadC, shift, fo3, kn3, ag3, bin, binInt, results, tuple, outT, out, out1, down, old]
theorem row22 : rowType Try.prog 22 = some 29 := by kernel_rfl
theorem by29 : Program.bytesOf Try.prog 29 = 32 := by kernel_rfl
theorem sl22 : isSlice Try.prog 22 = true := by kernel_rfl
noncomputable def c16 : CallF := callBody Try.prog (fun _ => [1, 2, 3]) 0 none0
def σ16 (l out : List T4) (i : Int) : Slots := [(0, tls l), (1, .fn (.func 17) [] [.lp 0 0]), (4, .g (.v 1) 0 []), (5, .g (.v 2) out.length (enc out)), (8, tls l), (9, int l.length), (10, int i)]
def st16 (n : Nat) : St := ⟨[.cells [int 1]], [0, 0, n], [(1, 1), (0, 0)], 0, 0⟩
theorem enc_snoc (out : List T4) (t : T4) : enc (out ++ [t]) = enc out ++ cells t := by simp [enc]
theorem r16f (l out : List T4) (t : T4) (i : Nat) (hi : i < l.length) (hb : l.length < 100000) (ht : l[i] = t) (hn : ¬ 1 ≤ t.d) (N : Nat) :
    ∃ σ', code Try.prog c16 N [0, 1, 4, 5, 7, 8, 9, 10, 11, 16] (bodyOf Try.f16) (σ16 l out (i : Int)) (enter (st16 out.length)) =
      some (.normal, σ', { enter (st16 out.length) with h := [.cells [int 1], .cells [int t.a, int t.b, int t.c, int t.d]] }) ∧
      get σ' 0 = tls l ∧ get σ' 1 = .fn (.func 17) [] [.lp 0 0] ∧ get σ' 4 = .g (.v 1) 0 [] ∧ get σ' 5 = .g (.v 2) out.length (enc out) ∧ get σ' 8 = tls l ∧ get σ' 9 = int l.length ∧ get σ' 10 = int ((i + 1 : Nat) : Int) := by
  have hix := ix l hi
  have nl := hi
  have w1 : IntKind.i64.wrap ((i : Int) + 1) = (i : Int) + 1 := by rw [IntKind.wrap_i64]; omega
  have hld : ∀ st : St, load Try.prog st 29 (.pv (.pt ((enc l).drop (i * 4)))) = some (tal t) := fun st => by
    have := ld st l hi
    rw [ht] at this; exact this
  have hlt : ∀ ch ms, load Try.prog { h := [.cells [int 1], .cells [int t.a, int t.b, int t.c, int t.d]], ch := ch, ms := ms, fl := 0, cf := 0 } 29 (.lp 1 0) = some (tal t) := fun _ _ => rfl
  have hx : ∀ ch ms r, c16 17 [tal t, .lp 0 0] ⟨.cells [int 1] :: r, ch, ms, 0, 0⟩ = some (bool (decide (t.d ≥ 1)), ⟨.cells [int 1] :: r, ch, ms, 0, 0⟩) := fun ch ms r => x17 t 1 ch ms r 0 0 none0
  simp only [int, tal] at hlt hld hx ⊢
  simp [bodyOf, Try.f16, loopOf, code, runL, stepU, stepD, isWr, op1D, memD, mem, op2, op3, wanted, op, op1, σ16, get, put, putO, opd, len22, bin, binInt, nl, keepS_nil, keepS_cons, hix, isInt, hld, hlt, arg, arg1, skipS, hx, hn, w1, bool, ofConst, scalar, zo29, zeroCells, countV, isNilV, zeros, one, push, enter, st16, store, kn29, co29, stored, limit, parts, splice, setH, tal, int, strip, strip2, strip1]
theorem r16t (l out : List T4) (t : T4) (i : Nat) (hi : i < l.length) (hb : l.length < 100000) (ht : l[i] = t) (hn : 1 ≤ t.d) (ho : out.length < 100000) (N : Nat) :
    ∃ σ', code Try.prog c16 N [0, 1, 4, 5, 7, 8, 9, 10, 11, 16] (bodyOf Try.f16) (σ16 l out (i : Int)) (enter (st16 out.length)) =
      some (.normal, σ', { enter (st16 (out.length + 1)) with h := [.cells [int 1], .cells [int t.a, int t.b, int t.c, int t.d], .cells [int t.a, int t.b, int t.c, int t.d]] }) ∧
      get σ' 0 = tls l ∧ get σ' 1 = .fn (.func 17) [] [.lp 0 0] ∧ get σ' 4 = .g (.v 1) 0 [] ∧ get σ' 5 = .g (.v 2) (out.length + 1) (enc (out ++ [t])) ∧ get σ' 8 = tls l ∧ get σ' 9 = int l.length ∧ get σ' 10 = int ((i + 1 : Nat) : Int) := by
  have hix := ix l hi
  have nl := hi
  have w1 : IntKind.i64.wrap ((i : Int) + 1) = (i : Int) + 1 := by rw [IntKind.wrap_i64]; omega
  have hld : ∀ st : St, load Try.prog st 29 (.pv (.pt ((enc l).drop (i * 4)))) = some (tal t) := fun st => by
    have := ld st l hi
    rw [ht] at this; exact this
  have hlt : ∀ ch ms, load Try.prog { h := [.cells [int 1], .cells [int t.a, int t.b, int t.c, int t.d]], ch := ch, ms := ms, fl := 0, cf := 0 } 29 (.lp 1 0) = some (tal t) := fun _ _ => rfl
  have hx : ∀ ch ms r, c16 17 [tal t, .lp 0 0] ⟨.cells [int 1] :: r, ch, ms, 0, 0⟩ = some (bool (decide (t.d ≥ 1)), ⟨.cells [int 1] :: r, ch, ms, 0, 0⟩) := fun ch ms r => x17 t 1 ch ms r 0 0 none0
  have he := enc_len out
  have o1 : out.length + 1 ≤ 70368744177664 := by omega
  have o2 : (out.length + 1) * 32 ≤ 70368744177664 := by omega
  simp only [int, tal] at hlt hld hx ⊢
  simp [bodyOf, Try.f16, loopOf, code, runL, stepU, stepD, isWr, op1D, memD, mem, op2, op3, wanted, op, op1, σ16, get, put, putO, opd, len22, bin, binInt, nl, keepS_nil, keepS_cons, hix, isInt, hld, hlt, arg, arg1, skipS, hx, hn, w1, append, row22, by29, sl22, contents, pures, pureOf, mark, chOk, setMark, he, o1, o2, enc_snoc, cells, pint, buildSlice, un22, rep, fillP, bool, ofConst, scalar, zo29, zeroCells, countV, isNilV, zeros, one, push, enter, st16, store, kn29, co29, stored, limit, parts, splice, setH, tal, int, strip, strip2, strip1]
end Go.TM
