/- The release functions on the tree machine: tallies. -/
import Derived.Test.YtjoajdlnfgfjgaaTmX
namespace Go.TM
open Go.Proofs
set_option maxRecDepth 100000
set_option maxHeartbeats 4000000
set_option linter.all false
def spec23 : List AV → Option AV
  | [.agg [.pv (.sc (.int .i64 a)), .pv (.sc (.int .i64 b)), .pv (.sc (.int .i64 c)), .pv (.sc (.int .i64 _))]] => some (.agg [int a, int b, int c])
  | _ => none
def there (a b c : Int) : Bool := decide (0 ≤ a ∧ a < 512 ∧ 0 ≤ b ∧ b < 4 ∧ 0 ≤ c ∧ c < 8)
def spec24 : List AV → Option AV
  | [.agg [.pv (.sc (.int .i64 a)), .pv (.sc (.int .i64 b)), .pv (.sc (.int .i64 c))]] => some (bool (there a b c))
  | _ => none
def cmp3 (x y : T4) : Int := or3 (IntKind.i64.wrap (x.a - y.a)) (IntKind.i64.wrap (x.b - y.b)) (IntKind.i64.wrap (x.c - y.c))
def spec25 : List AV → Option AV
  | [.agg [.pv (.sc (.int .i64 a)), .pv (.sc (.int .i64 b)), .pv (.sc (.int .i64 c))], .agg [.pv (.sc (.int .i64 a')), .pv (.sc (.int .i64 b')), .pv (.sc (.int .i64 c'))]] =>
    some (int (or3 (IntKind.i64.wrap (a - a')) (IntKind.i64.wrap (b - b')) (IntKind.i64.wrap (c - c'))))
  | _ => none
noncomputable def c15 : CallF := tab (tab (tab none0 23 spec23) 24 spec24) 25 spec25
theorem zo29 : zeroOf Try.prog 29 = some [.int .i64 0, .int .i64 0, .int .i64 0, .int .i64 0] := by kernel_rfl
theorem fo3 : fieldOff Try.prog 29 3 = some 3 := by kernel_rfl
def σ15 (l : List T4) (i : Int) : Slots := [(0, tls l), (2, .pv (.sc (.bool false))), (5, tls l), (6, int l.length), (7, int i)]
def st15 : St := ⟨[], [], [(0, 0)], 0, 0⟩
def pt (x : T4) : AV := .agg [int x.a, int x.b, int x.c]
theorem q23' (a b c d : Int) (st : St) : c15 23 [.agg [.pv (.sc (.int .i64 a)), .pv (.sc (.int .i64 b)), .pv (.sc (.int .i64 c)), .pv (.sc (.int .i64 d))]] st = some (.agg [.pv (.sc (.int .i64 a)), .pv (.sc (.int .i64 b)), .pv (.sc (.int .i64 c))], st) := rfl
theorem q24' (a b c : Int) (st : St) : c15 24 [.agg [.pv (.sc (.int .i64 a)), .pv (.sc (.int .i64 b)), .pv (.sc (.int .i64 c))]] st = some (.pv (.sc (.bool (there a b c))), st) := rfl
theorem q25' (a b c a' b' c' : Int) (st : St) : c15 25 [.agg [.pv (.sc (.int .i64 a)), .pv (.sc (.int .i64 b)), .pv (.sc (.int .i64 c))], .agg [.pv (.sc (.int .i64 a')), .pv (.sc (.int .i64 b')), .pv (.sc (.int .i64 c'))]] st =
    some (.pv (.sc (.int .i64 (or3 (IntKind.i64.wrap (a - a')) (IntKind.i64.wrap (b - b')) (IntKind.i64.wrap (c - c'))))), st) := rfl
theorem q23 (x : T4) (st : St) : c15 23 [tal x] st = some (pt x, st) := rfl
theorem q24 (x : T4) (st : St) : c15 24 [pt x] st = some (bool (there x.a x.b x.c), st) := rfl
theorem q25 (x y : T4) (st : St) : c15 25 [pt x, pt y] st = some (int (cmp3 x y), st) := rfl
def good (t : T4) : Bool := there t.a t.b t.c && decide (1 ≤ t.d) && decide (t.d ≤ 1000)
theorem r15z (l : List T4) (t : T4) (hi : 0 < l.length) (ht : l[0] = t) (hg : good t = true) (N : Nat) :
    ∃ σ', code Try.prog c15 N [0, 2, 3, 4, 5, 6, 7, 8, 41] (bodyOf Try.f15) (σ15 l 0) (enter st15) = some (.normal, σ', { enter st15 with h := [.cells [int t.a, int t.b, int t.c, int t.d]] }) ∧
      get σ' 0 = tls l ∧ get σ' 2 = bool false ∧ get σ' 5 = tls l ∧ get σ' 6 = int l.length ∧ get σ' 7 = int 1 := by
  have hix := ix l hi
  have hl := ld (push (enter st15) (.cells [int 0, int 0, int 0, int 0])) l hi
  have hl0 := ld (enter st15) l hi
  simp only [good, Bool.and_eq_true, decide_eq_true_eq] at hg
  obtain ⟨⟨g1, g2⟩, g3⟩ := hg
  have g2' : ¬ t.d < 1 := by omega
  have g3' : ¬ 1000 < t.d := by omega
  have a1 : arg (tal t) = tal t := rfl
  have a2 : arg (pt t) = pt t := rfl
  have s1 : strip (pt t) = pt t := rfl
  have w1 : IntKind.i64.wrap (0 + 1) = 1 := by kernel_rfl
  have w1' : IntKind.i64.wrap 1 = 1 := by kernel_rfl
  rw [ht] at hl hl0
  have hix0 : indexAddr Try.prog 22 (tls l) 0 = some (.pv (.pt (enc l))) := by simpa using hix
  simp only [Nat.zero_mul, List.drop_zero] at hl hl0
  have hld : ∀ st : St, load Try.prog st 29 (.pv (.pt (enc l))) = some (tal t) := fun st => by
    have := ld st l hi
    rw [ht] at this
    simpa using this
  have hlt : load Try.prog { h := [.cells [int t.a, int t.b, int t.c, int t.d]], ch := [], ms := [(0, 0), (0, 0)], fl := 0, cf := 0 } 29 (.lp 0 0) = some (tal t) := rfl
  have hlt3 : load Try.prog { h := [.cells [int t.a, int t.b, int t.c, int t.d]], ch := [], ms := [(0, 0), (0, 0)], fl := 0, cf := 0 } 3 (.lp 0 3) = some (int t.d) := by
    simp [load, loadC, kn3, ag3]
  simp only [int, tal] at hlt hlt3 hld ⊢
  simp [bodyOf, Try.f15, loopOf, code, runL, stepU, stepD, isWr, op1D, memD, mem, op2, op3, wanted, op, op1, σ15, get, put, putO, opd, len22, bin, binInt, hi, keepS_nil, keepS_cons, hix0, isInt, hld, hlt, hlt3, arg, arg1, skipS, q23', q24', g1, g2', g3', w1, w1', unop, shift, fo3, bool, ofConst, scalar, zo29, zeroCells, countV, isNilV, zeros, one, push, enter, st15, store, kn29, co29, stored, limit, parts, splice, setH, tal, int, strip, strip2, strip1]
theorem r15s (l : List T4) (t p : T4) (i : Nat) (hi : i + 1 < l.length) (hb : l.length < 100000) (ht : l[i + 1] = t) (hp : l[i] = p) (hg : good t = true) (hc : cmp3 p t < 0) (N : Nat) :
    ∃ σ', code Try.prog c15 N [0, 2, 3, 4, 5, 6, 7, 8, 41] (bodyOf Try.f15) (σ15 l ((i + 1 : Nat) : Int)) (enter st15) = some (.normal, σ', { enter st15 with h := [.cells [int t.a, int t.b, int t.c, int t.d]] }) ∧
      get σ' 0 = tls l ∧ get σ' 2 = bool false ∧ get σ' 5 = tls l ∧ get σ' 6 = int l.length ∧ get σ' 7 = int ((i + 2 : Nat) : Int) := by
  have hi0 : i < l.length := by omega
  have hix := ix l hi
  have hixp := ix l hi0
  generalize hn : ((i + 1 : Nat) : Int) = n at *
  simp only [good, Bool.and_eq_true, decide_eq_true_eq] at hg
  obtain ⟨⟨g1, g2⟩, g3⟩ := hg
  have g2' : ¬ t.d < 1 := by omega
  have g3' : ¬ 1000 < t.d := by omega
  have n0 : 0 < n := by omega
  have nl : n < l.length := by omega
  have w1 : IntKind.i64.wrap (n + 1) = ((i + 2 : Nat) : Int) := by rw [IntKind.wrap_i64]; omega
  have w2 : IntKind.i64.wrap (n - 1) = (i : Int) := by rw [IntKind.wrap_i64]; omega
  have hld : ∀ st : St, load Try.prog st 29 (.pv (.pt ((enc l).drop ((i + 1) * 4)))) = some (tal t) := fun st => by
    have := ld st l hi
    rw [ht] at this; exact this
  have hldp : ∀ st : St, load Try.prog st 29 (.pv (.pt ((enc l).drop (i * 4)))) = some (tal p) := fun st => by
    have := ld st l hi0
    rw [hp] at this; exact this
  have hlt : load Try.prog { h := [.cells [int t.a, int t.b, int t.c, int t.d]], ch := [], ms := [(0, 0), (0, 0)], fl := 0, cf := 0 } 29 (.lp 0 0) = some (tal t) := rfl
  have hlt3 : load Try.prog { h := [.cells [int t.a, int t.b, int t.c, int t.d]], ch := [], ms := [(0, 0), (0, 0)], fl := 0, cf := 0 } 3 (.lp 0 3) = some (int t.d) := by
    simp [load, loadC, kn3, ag3]
  have hc' : ¬ 0 ≤ or3 (IntKind.i64.wrap (p.a - t.a)) (IntKind.i64.wrap (p.b - t.b)) (IntKind.i64.wrap (p.c - t.c)) := by
    have : cmp3 p t = or3 (IntKind.i64.wrap (p.a - t.a)) (IntKind.i64.wrap (p.b - t.b)) (IntKind.i64.wrap (p.c - t.c)) := rfl
    omega
  simp only [int, tal] at hlt hlt3 hld hldp ⊢
  simp [bodyOf, Try.f15, loopOf, code, runL, stepU, stepD, isWr, op1D, memD, mem, op2, op3, wanted, op, op1, σ15, get, put, putO, opd, len22, bin, binInt, n0, nl, keepS_nil, keepS_cons, hix, hixp, isInt, hld, hldp, hlt, hlt3, arg, arg1, skipS, q23', q24', q25', hc', g1, g2', g3', w1, w2, unop, shift, fo3, bool, ofConst, scalar, zo29, zeroCells, countV, isNilV, zeros, one, push, enter, st15, store, kn29, co29, stored, limit, parts, splice, setH, tal, int, strip, strip2, strip1]
theorem r15b (l : List T4) (t : T4) (i : Nat) (hi : i < l.length) (ht : l[i] = t) (hg : good t = false) (N : Nat) :
    ∃ σ', code Try.prog c15 N [0, 2, 3, 4, 5, 6, 7, 8, 41] (bodyOf Try.f15) (σ15 l (i : Int)) (enter st15) = some (.ret, σ', { enter st15 with h := [.cells [int t.a, int t.b, int t.c, int t.d]] }) ∧ get σ' 2 = bool false := by
  have hix := ix l hi
  have nl := hi
  have hld : ∀ st : St, load Try.prog st 29 (.pv (.pt ((enc l).drop (i * 4)))) = some (tal t) := fun st => by
    have := ld st l hi
    rw [ht] at this; exact this
  have hlt : load Try.prog { h := [.cells [int t.a, int t.b, int t.c, int t.d]], ch := [], ms := [(0, 0), (0, 0)], fl := 0, cf := 0 } 29 (.lp 0 0) = some (tal t) := rfl
  have hlt3 : load Try.prog { h := [.cells [int t.a, int t.b, int t.c, int t.d]], ch := [], ms := [(0, 0), (0, 0)], fl := 0, cf := 0 } 3 (.lp 0 3) = some (int t.d) := by
    simp [load, loadC, kn3, ag3]
  simp only [int, tal] at hlt hlt3 hld ⊢
  cases g1 : there t.a t.b t.c with
  | false =>
    simp [g1, bodyOf, Try.f15, loopOf, code, runL, stepU, stepD, isWr, op1D, memD, mem, op2, op3, wanted, op, op1, σ15, get, put, putO, opd, len22, bin, binInt, nl, keepS_nil, keepS_cons, hix, isInt, hld, hlt, hlt3, arg, arg1, skipS, q23', q24', unop, shift, fo3, bool, ofConst, scalar, zo29, zeroCells, countV, isNilV, zeros, one, push, enter, st15, store, kn29, co29, stored, limit, parts, splice, setH, tal, int, strip, strip2, strip1]
  | true =>
    by_cases g2 : t.d < 1
    · simp [g1, g2, bodyOf, Try.f15, loopOf, code, runL, stepU, stepD, isWr, op1D, memD, mem, op2, op3, wanted, op, op1, σ15, get, put, putO, opd, len22, bin, binInt, nl, keepS_nil, keepS_cons, hix, isInt, hld, hlt, hlt3, arg, arg1, skipS, q23', q24', unop, shift, fo3, bool, ofConst, scalar, zo29, zeroCells, countV, isNilV, zeros, one, push, enter, st15, store, kn29, co29, stored, limit, parts, splice, setH, tal, int, strip, strip2, strip1]
    · have g3 : 1000 < t.d := by
        simp only [good, g1, Bool.true_and, Bool.and_eq_false_iff, decide_eq_false_iff_not] at hg
        omega
      simp [g1, g2, g3, bodyOf, Try.f15, loopOf, code, runL, stepU, stepD, isWr, op1D, memD, mem, op2, op3, wanted, op, op1, σ15, get, put, putO, opd, len22, bin, binInt, nl, keepS_nil, keepS_cons, hix, isInt, hld, hlt, hlt3, arg, arg1, skipS, q23', q24', unop, shift, fo3, bool, ofConst, scalar, zo29, zeroCells, countV, isNilV, zeros, one, push, enter, st15, store, kn29, co29, stored, limit, parts, splice, setH, tal, int, strip, strip2, strip1]
theorem r15c (l : List T4) (t p : T4) (i : Nat) (hi : i + 1 < l.length) (hb : l.length < 100000) (ht : l[i + 1] = t) (hp : l[i] = p) (hg : good t = true) (hc : 0 ≤ cmp3 p t) (N : Nat) :
    ∃ σ', code Try.prog c15 N [0, 2, 3, 4, 5, 6, 7, 8, 41] (bodyOf Try.f15) (σ15 l ((i + 1 : Nat) : Int)) (enter st15) = some (.ret, σ', { enter st15 with h := [.cells [int t.a, int t.b, int t.c, int t.d]] }) ∧ get σ' 2 = bool false := by
  have hi0 : i < l.length := by omega
  have hix := ix l hi
  have hixp := ix l hi0
  generalize hn : ((i + 1 : Nat) : Int) = n at *
  simp only [good, Bool.and_eq_true, decide_eq_true_eq] at hg
  obtain ⟨⟨g1, g2⟩, g3⟩ := hg
  have g2' : ¬ t.d < 1 := by omega
  have g3' : ¬ 1000 < t.d := by omega
  have n0 : 0 < n := by omega
  have nl : n < l.length := by omega
  have w1 : IntKind.i64.wrap (n + 1) = ((i + 2 : Nat) : Int) := by rw [IntKind.wrap_i64]; omega
  have w2 : IntKind.i64.wrap (n - 1) = (i : Int) := by rw [IntKind.wrap_i64]; omega
  have hld : ∀ st : St, load Try.prog st 29 (.pv (.pt ((enc l).drop ((i + 1) * 4)))) = some (tal t) := fun st => by
    have := ld st l hi
    rw [ht] at this; exact this
  have hldp : ∀ st : St, load Try.prog st 29 (.pv (.pt ((enc l).drop (i * 4)))) = some (tal p) := fun st => by
    have := ld st l hi0
    rw [hp] at this; exact this
  have hlt : load Try.prog { h := [.cells [int t.a, int t.b, int t.c, int t.d]], ch := [], ms := [(0, 0), (0, 0)], fl := 0, cf := 0 } 29 (.lp 0 0) = some (tal t) := rfl
  have hlt3 : load Try.prog { h := [.cells [int t.a, int t.b, int t.c, int t.d]], ch := [], ms := [(0, 0), (0, 0)], fl := 0, cf := 0 } 3 (.lp 0 3) = some (int t.d) := by
    simp [load, loadC, kn3, ag3]
  have hc' : 0 ≤ or3 (IntKind.i64.wrap (p.a - t.a)) (IntKind.i64.wrap (p.b - t.b)) (IntKind.i64.wrap (p.c - t.c)) := by
    have : cmp3 p t = or3 (IntKind.i64.wrap (p.a - t.a)) (IntKind.i64.wrap (p.b - t.b)) (IntKind.i64.wrap (p.c - t.c)) := rfl
    omega
  simp only [int, tal] at hlt hlt3 hld hldp ⊢
  simp [bodyOf, Try.f15, loopOf, code, runL, stepU, stepD, isWr, op1D, memD, mem, op2, op3, wanted, op, op1, σ15, get, put, putO, opd, len22, bin, binInt, n0, nl, keepS_nil, keepS_cons, hix, hixp, isInt, hld, hldp, hlt, hlt3, arg, arg1, skipS, q23', q24', q25', hc', g1, g2', g3', w1, w2, unop, shift, fo3, bool, ofConst, scalar, zo29, zeroCells, countV, isNilV, zeros, one, push, enter, st15, store, kn29, co29, stored, limit, parts, splice, setH, tal, int, strip, strip2, strip1]
theorem r15e (l : List T4) (N : Nat) :
    ∃ σ', code Try.prog c15 N [0, 2, 3, 4, 5, 6, 7, 8, 41] (bodyOf Try.f15) (σ15 l l.length) (enter st15) = some (.exit 0, σ', enter st15) ∧ get σ' 0 = tls l := by
  simp [bodyOf, Try.f15, loopOf, code, runL, stepU, wanted, op, op1, σ15, get, put, putO, opd, bin, binInt, int, keepS_nil, keepS_cons, bool, ofConst, scalar]
end Go.TM
