/- The release functions on the tree machine: tallies, and Find. -/
import Derived.Test.YtjoajdlnfgfjgaaTmU
import Derived.Test.YtjoajdlnfgfjgaaRows
namespace Go.TM
open Go.Proofs
set_option maxRecDepth 100000
set_option linter.all false
set_option maxHeartbeats 4000000
structure T4 where
  a : Int
  b : Int
  c : Int
  d : Int
  deriving DecidableEq
def cells (t : T4) : List PV := [pint t.a, pint t.b, pint t.c, pint t.d]
def enc (l : List T4) : List PV := l.flatMap cells
def tal (t : T4) : AV := .agg [int t.a, int t.b, int t.c, int t.d]
def tls (l : List T4) : AV := .pv (.sl l.length (enc l))
def same (x y : T4) : Bool := x.a == y.a && (x.b == y.b && x.c == y.c)
def spec13 : List AV → Option AV
  | [.agg [.pv (.sc (.int .i64 a)), .pv (.sc (.int .i64 b)), .pv (.sc (.int .i64 c)), .pv (.sc (.int .i64 d))], .agg [.pv (.sc (.int .i64 a')), .pv (.sc (.int .i64 b')), .pv (.sc (.int .i64 c')), .pv (.sc (.int .i64 d'))]] =>
    some (bool (same ⟨a, b, c, d⟩ ⟨a', b', c', d'⟩))
  | _ => none
theorem enc_len (l : List T4) : (enc l).length = l.length * 4 := by
  induction l with
  | nil => rfl
  | cons x l ih => simp only [enc, List.flatMap_cons, List.length_append, List.length_cons] at ih ⊢; rw [ih]; simp [cells]; omega
theorem enc_drop (l : List T4) : ∀ (i : Nat) (t : T4), l[i]? = some t → ∃ r, (enc l).drop (i * 4) = cells t ++ r := by
  induction l with
  | nil => intro i t h; simp at h
  | cons x l ih =>
    intro i t h
    cases i with
    | zero => obtain rfl := Option.some.inj h; exact ⟨enc l, by simp [enc]⟩
    | succ i =>
      obtain ⟨r, hr⟩ := ih i t (by simpa using h)
      refine ⟨r, ?_⟩
      rw [← hr, show (i + 1) * 4 = 4 + i * 4 by omega]
      show List.drop (4 + i * 4) (cells x ++ enc l) = _
      rw [Nat.add_comm 4]
      rfl
theorem co29 : Program.cellsOf Try.prog 29 = 4 := by kernel_rfl
theorem kn29 : known Try.prog 29 = true := by kernel_rfl
theorem ag29 : isAgg Try.prog 29 = true := by kernel_rfl
theorem un22 : Try.prog.underlying 22 = some (.slice 29) := by kernel_rfl
theorem ix (l : List T4) {i : Nat} (h : i < l.length) : indexAddr Try.prog 22 (tls l) i = some (.pv (.pt ((enc l).drop (i * 4)))) := by
  have h2 : (i : Int) < l.length := by omega
  simp [indexAddr, un22, tls, kn29, co29, h2]
theorem ld (st : St) (l : List T4) {i : Nat} (h : i < l.length) : load Try.prog st 29 (.pv (.pt ((enc l).drop (i * 4)))) = some (tal l[i]) := by
  obtain ⟨r, hr⟩ := enc_drop l i l[i] (by simp [h])
  rw [hr]
  simp [load, loadC, kn29, ag29, co29, cells, tal, int, pint]

def loopOf : Code → Option Code
  | .loop c => some c
  | .seq a b => match loopOf a with
    | some c => some c
    | none => loopOf b
  | .block _ c => loopOf c
  | .cond _ a b => match loopOf a with
    | some c => some c
    | none => loopOf b
  | _ => none
def bodyOf (f : Func) : Code := match f.body with
  | some c => match loopOf c with
    | some b => b
    | none => .skip
  | none => .skip
noncomputable def c7 : CallF := tab (fun _ _ _ => none) 13 spec13
def σ7 (l : List T4) (i : Int) : Slots := [(0, tls l), (3, .lp 0 0), (4, int 0), (5, int i)]
def st7 (x : T4) : St := ⟨[.cells (cells x |>.map .pv)], [], [(0, 0)], 0, 0⟩
theorem len22 (st : St) (l : List T4) : lenOf Try.prog st 22 (tls l) = some (int l.length) := by simp [lenOf, un22, tls]
theorem ld29 (t : T4) (st : St) (r : List Obj) (h : st.h = .cells (cells t |>.map .pv) :: r) : load Try.prog st 29 (.lp 0 0) = some (tal t) := by
  simp [load, h, loadC, kn29, ag29, co29, cells, tal, int, pint]
theorem r7a (l : List T4) (x : T4) (i : Nat) (hi : i < l.length) (hs : same l[i] x = true) (N : Nat) :
    ∃ σ', code Try.prog c7 N [0, 3, 4, 5, 9, 17] (bodyOf Try.f7) (σ7 l i) (enter (st7 x)) = some (.ret, σ', enter (st7 x)) ∧ get σ' 4 = int i := by
  have h1 : decide ((i : Int) < l.length) = true := by simp; omega
  have hix := ix l hi
  have hl := ld (enter (st7 x)) l hi
  have hx := ld29 x (enter (st7 x)) [] rfl
  have h13 : ∀ st, c7 13 [tal l[i], tal x] st = some (bool true, st) := fun st => by
    show (match spec13 [tal l[i], tal x] with | some v => some (v, st) | none => none) = _
    have : spec13 [tal l[i], tal x] = some (bool (same l[i] x)) := rfl
    rw [this, hs]
  have hg : arg (tal l[i]) = tal l[i] := rfl
  have hgx : arg (tal x) = tal x := rfl
  simp [bodyOf, Try.f7, loopOf, code, runL, stepU, stepD, isWr, op1D, memD, mem, op2, op3, wanted, op, op1, σ7, get, put, putO, opd, len22, bin, binInt, int, hi, keepS, hix, isInt, hl, hx, hg, hgx, h13, strip, strip2, strip1, bool, ofConst, scalar]
theorem r7b (l : List T4) (x : T4) (i : Nat) (hi : i < l.length) (hs : same l[i] x = false) (hb : l.length < 1000) (N : Nat) :
    ∃ σ', code Try.prog c7 N [0, 3, 4, 5, 9, 17] (bodyOf Try.f7) (σ7 l i) (enter (st7 x)) = some (.normal, σ', enter (st7 x)) ∧ popS (σ7 l i) (st7 x) σ' (enter (st7 x)) = (σ7 l ((i + 1 : Nat) : Int), st7 x) := by
  have hix := ix l hi
  have hl := ld (enter (st7 x)) l hi
  have hx := ld29 x (enter (st7 x)) [] rfl
  have h13 : ∀ st, c7 13 [tal l[i], tal x] st = some (bool false, st) := fun st => by
    show (match spec13 [tal l[i], tal x] with | some v => some (v, st) | none => none) = _
    have : spec13 [tal l[i], tal x] = some (bool (same l[i] x)) := rfl
    rw [this, hs]
  have hg : arg (tal l[i]) = tal l[i] := rfl
  have hgx : arg (tal x) = tal x := rfl
  have hw : IntKind.i64.wrap ((i : Int) + 1) = (i : Int) + 1 := by rw [IntKind.wrap_i64]; omega
  have run : ∃ σ', code Try.prog c7 N [0, 3, 4, 5, 9, 17] (bodyOf Try.f7) (σ7 l i) (enter (st7 x)) = some (.normal, σ', enter (st7 x)) ∧
      get σ' 0 = tls l ∧ get σ' 5 = int ((i : Int) + 1) ∧ get σ' 3 = .lp 0 0 ∧ get σ' 4 = int 0 := by
    simp [bodyOf, Try.f7, loopOf, code, runL, stepU, stepD, isWr, op1D, memD, mem, op2, op3, wanted, op, op1, σ7, get, put, putO, opd, len22, bin, binInt, int, hi, keepS, hix, isInt, hl, hx, hg, hgx, h13, strip, strip2, strip1, bool, ofConst, scalar, hw]
  obtain ⟨σ', h1, h2, h3, h4, h5⟩ := run
  refine ⟨σ', h1, ?_⟩
  simp [popS, σ7, h2, h3, h4, h5, st7, enter, outT, out, out1, down, old, tls, int]
def findFrom (x : T4) : List T4 → Int → Int
  | [], _ => -1
  | t :: r, i => if same t x then i else findFrom x r (i + 1)
theorem r7c (l : List T4) (x : T4) (N : Nat) :
    ∃ σ', code Try.prog c7 N [0, 3, 4, 5, 9, 17] (bodyOf Try.f7) (σ7 l l.length) (enter (st7 x)) = some (.exit 0, σ', enter (st7 x)) := by
  have hn : ¬ (l.length : Int) < l.length := by omega
  simp [bodyOf, Try.f7, loopOf, code, runL, stepU, wanted, op, op1, σ7, get, put, putO, opd, len22, bin, binInt, int, keepS, bool, ofConst, scalar]
theorem k7 (l : List T4) (x : T4) (hb : l.length < 1000) (N : Nat) : ∀ (k i : Nat), i ≤ l.length → l.length < i + k →
    ∃ e σ', iter (fun σ st => code Try.prog c7 N [0, 3, 4, 5, 9, 17] (bodyOf Try.f7) σ st) k (σ7 l i) (st7 x) = some (e, σ', st7 x) ∧
      ((e = .exit 0 ∧ findFrom x (l.drop i) i = -1) ∨ (e = .ret ∧ get σ' 4 = int (findFrom x (l.drop i) i)))
  | 0, i, h, h2 => by omega
  | k + 1, i, h, h2 => by
    simp only [iter]
    by_cases hi : i = l.length
    · subst hi
      obtain ⟨σ', h1⟩ := r7c l x N
      rw [h1]
      exact ⟨_, _, rfl, .inl ⟨rfl, by simp [findFrom]⟩⟩
    · have hlt : i < l.length := by omega
      have hd : l.drop i = l[i] :: l.drop (i + 1) := List.drop_eq_getElem_cons hlt
      cases hs : same l[i] x with
      | true =>
        obtain ⟨σ', h1, h3⟩ := r7a l x i hlt hs N
        rw [h1]
        refine ⟨_, _, rfl, .inr ⟨rfl, ?_⟩⟩
        rw [hd]
        simp [popS, σ7, get, findFrom, hs, h3, outT, out, out1, down, old, int]
      | false =>
        obtain ⟨σ', h1, h3⟩ := r7b l x i hlt hs hb N
        rw [h1]
        simp only [h3]
        obtain ⟨e, σ'', q1, q2⟩ := k7 l x hb N k (i + 1) (by omega) (by omega)
        refine ⟨e, σ'', q1, ?_⟩
        rw [hd]
        simp only [findFrom, hs, Bool.false_eq_true, if_false]
        exact q2
def hasLoop : Code → Bool
  | .loop _ => true
  | .seq a b => hasLoop a || hasLoop b
  | .block _ c => hasLoop c
  | .cond _ a b => hasLoop a || hasLoop b
  | _ => false
def setLoop (L : Code) : Code → Code
  | .loop _ => .loop L
  | .seq a b => if hasLoop a then .seq (setLoop L a) b else .seq a (setLoop L b)
  | .block id c => .block id (setLoop L c)
  | .cond c a b => if hasLoop a then .cond c (setLoop L a) b else .cond c a (setLoop L b)
  | c => c
theorem keepS_nil (k : List Nat) : keepS k [] = [] := rfl
theorem keepS_cons (k : List Nat) (u : Nat) (v : AV) (r : Slots) : keepS k ((u, v) :: r) = if k.contains u then (u, v) :: keepS k r else keepS k r := by
  simp only [keepS, List.filter_cons]
theorem get_keepS (k : List Nat) (σ : Slots) (t : Nat) : get (keepS k σ) t = if k.contains t then get σ t else .bad := get_only k σ t
theorem x7 (l : List T4) (x : T4) (hb : l.length < 1000) (n : Nat) (hn : l.length < n) : ∃ st', callBody Try.prog (fun _ => [0, 3, 4, 5, 9, 17]) n c7 7 [tls l, tal x] st0 = some (int (findFrom x l 0), st') := by
  obtain ⟨e, σ', h1, h2⟩ := k7 l x hb n n 0 (Nat.zero_le _) (by omega)
  have f7 : Try.prog.funcs[7]? = some Try.f7 := by kernel_rfl
  have hz : ((0 : Nat) : Int) = 0 := rfl
  rw [hz, List.drop_zero] at h2
  rw [hz] at h1
  have hbody : Try.f7.body = some (setLoop (bodyOf Try.f7) (Try.f7.body.getD .skip)) := by kernel_rfl
  have hres : Try.f7.results = #[ResultVar.tmp 4] := rfl
  simp only [callBody, f7, hres]
  rw [hbody]
  generalize bodyOf Try.f7 = L at h1 ⊢
  have hσ : σ7 l 0 = [(0, tls l), (3, .lp 0 0), (4, .pv (.sc (.int .i64 0))), (5, .pv (.sc (.int .i64 0)))] := rfl
  rw [hσ] at h1
  have hst : st7 x = { h := [.cells [.pv (.sc (.int .i64 x.a)), .pv (.sc (.int .i64 x.b)), .pv (.sc (.int .i64 x.c)), .pv (.sc (.int .i64 x.d))]], ch := [], ms := [(0, 0)], fl := 0, cf := 0 } := rfl
  rw [hst] at h1
  rcases h2 with ⟨rfl, h2⟩ | ⟨rfl, h2⟩
  · simp [Try.f7, setLoop, hasLoop, number, enter, st0, code, runL, stepU, wanted, op, op1, op2, mem, get, put, putO, opd, keepS_nil, keepS_cons, get_keepS, get_put, bool, ofConst, scalar, tal, parts, one, int, push, h1, pint, results, tuple, outT, out, out1, down, old, h2]
  · simp only [int] at h2
    simp [Try.f7, setLoop, hasLoop, number, enter, st0, code, runL, stepU, wanted, op, op1, op2, mem, get, put, putO, opd, keepS_nil, keepS_cons, get_keepS, get_put, bool, ofConst, scalar, tal, parts, one, int, push, h1, pint, results, tuple, outT, out, out1, down, old, h2]

theorem fun13 : Try.prog.funcs[13]? = some Try.f13 := by kernel_rfl
theorem fo0 : fieldOff Try.prog 29 0 = some 0 := by kernel_rfl
theorem fo1 : fieldOff Try.prog 29 1 = some 1 := by kernel_rfl
theorem fo2 : fieldOff Try.prog 29 2 = some 2 := by kernel_rfl
theorem kn3 : known Try.prog 3 = true := by kernel_rfl
theorem ag3 : isAgg Try.prog 3 = false := by kernel_rfl
def none0 : CallF := fun _ _ _ => none
theorem x13 (x y : T4) : callBody Try.prog (fun _ => [2, 3, 4]) 0 none0 13 [tal x, tal y] st0 = some (bool (same x y), st0) := by
  obtain ⟨a, b, c, d⟩ := x
  obtain ⟨a', b', c', d'⟩ := y
  simp only [same]
  cases h1 : (a == a') <;> cases h2 : (b == b') <;> cases h3 : (c == c') <;>
  simp [h1, h2, h3, -beq_eq_false_iff_ne, -beq_iff_eq, callBody, fun13, Try.f13, code, runL, stepU, wanted, op, op1, op2, op3, mem, enter, number, get, put, putO, keepS_nil, keepS_cons, opd, ofConst, scalar, tal, int, bool, parts, one, push, load, loadC, shift, fo0, fo1, fo2, kn3, ag3, bin, binInt, results, tuple, outT, out, out1, down, old, st0]
theorem x18 (x : T4) : callBody Try.prog (fun _ => [1, 2]) 0 none0 18 [tal x] st0 = some (.agg [int x.a, int x.b, int x.c], st0) := by
  kernel_rfl
theorem x23 (x : T4) : callBody Try.prog (fun _ => [1, 2]) 0 none0 23 [tal x] st0 = some (.agg [int x.a, int x.b, int x.c], st0) := by
  kernel_rfl
end Go.TM
