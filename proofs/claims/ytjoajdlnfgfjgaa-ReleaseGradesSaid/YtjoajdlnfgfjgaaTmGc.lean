/- ReleaseGrades on the tree machine: valid. -/
import Derived.Test.YtjoajdlnfgfjgaaTmGb
namespace Go.TM
open Go.Proofs
set_option maxRecDepth 100000
set_option maxHeartbeats 4000000
set_option linter.all false
theorem flat_drop {α : Type} (f : α → List PV) (c : Nat) (hf : ∀ x, (f x).length = c) : ∀ (l : List α) (i : Nat) x, l[i]? = some x → ∃ r, (l.flatMap f).drop (i * c) = f x ++ r
  | [], i, x, h => by simp at h
  | y :: l, 0, x, h => by obtain rfl := Option.some.inj h; exact ⟨l.flatMap f, by simp⟩
  | y :: l, i + 1, x, h => by
    obtain ⟨r, hr⟩ := flat_drop f c hf l i x (by simpa using h)
    refine ⟨r, ?_⟩
    rw [← hr, List.flatMap_cons, show (i + 1) * c = (f y).length + i * c by rw [hf, Nat.add_mul]; omega]
    simp
def flat {α : Type} (f : α → List PV) (l : List α) : AV := .pv (.sl l.length (l.flatMap f))
theorem ixF {P : Program} {t e c : Nat} {α : Type} {f : α → List PV} (ht : P.underlying t = some (.slice e)) (hk : known P e = true) (hc : P.cellsOf e = c) (l : List α) {i : Nat} (h : i < l.length) :
    indexAddr P t (flat f l) i = some (.pv (.pt ((l.flatMap f).drop (i * c)))) := by
  have h2 : (i : Int) < l.length := by omega
  simp [indexAddr, ht, flat, hk, hc, h2]
theorem ldF {P : Program} {e c : Nat} {α : Type} {f : α → List PV} (hk : known P e = true) (ha : isAgg P e = true) (hc : P.cellsOf e = c) (hf : ∀ x, (f x).length = c) (st : St) (l : List α) {i : Nat} (h : i < l.length) :
    load P st e (.pv (.pt ((l.flatMap f).drop (i * c)))) = some (.agg ((f l[i]).map .pv)) := by
  obtain ⟨r, hr⟩ := flat_drop f c hf l i l[i] (by simp [h])
  rw [hr]
  have h1 := hf l[i]
  simp only [load, loadC, hk, ha, hc, List.map_append, List.length_append, List.length_map, h1, if_true]
  rw [if_pos (by omega), List.take_append_of_le_length (by simp [h1]), List.take_of_length_le (by simp [h1])]
theorem lenF {P : Program} {t e : Nat} {α : Type} {f : α → List PV} (ht : P.underlying t = some (.slice e)) (st : St) (l : List α) : lenOf P st t (flat f l) = some (int l.length) := by
  simp [lenOf, ht, flat]
theorem arg_flat {α : Type} (f : α → List PV) (l : List α) : arg (flat f l) = flat f l := rfl
structure P4 where
  kind : Int
  tel : Int
  filt : Int
  at_ : Int
def pC (p : P4) : List PV := [pint p.kind, pint p.tel, pint p.filt, pint p.at_]
theorem un34 : Try.prog.underlying 34 = some (.slice 52) := by kernel_rfl
theorem kn52 : known Try.prog 52 = true := by kernel_rfl
theorem ag52 : isAgg Try.prog 52 = true := by kernel_rfl
theorem co52 : Program.cellsOf Try.prog 52 = 4 := by kernel_rfl
theorem zo52 : zeroOf Try.prog 52 = some [.int .i64 0, .int .i64 0, .int .i64 0, .int .i64 0] := by kernel_rfl
theorem fun29 : Try.prog.funcs[29]? = some Try.f29 := by kernel_rfl
theorem fd0 : fieldOff Try.prog 79 0 = some 0 := by kernel_rfl
theorem fd1 : fieldOff Try.prog 79 1 = some 1 := by kernel_rfl
theorem fd2 : fieldOff Try.prog 79 2 = some 2 := by kernel_rfl
theorem fd3 : fieldOff Try.prog 79 3 = some 3 := by kernel_rfl
theorem fd4 : fieldOff Try.prog 79 4 = some 4 := by kernel_rfl
theorem fd5 : fieldOff Try.prog 79 5 = some 5 := by kernel_rfl
theorem fp0 : fieldOff Try.prog 52 0 = some 0 := by kernel_rfl
theorem fp1 : fieldOff Try.prog 52 1 = some 1 := by kernel_rfl
theorem fp2 : fieldOff Try.prog 52 2 = some 2 := by kernel_rfl
theorem fp3 : fieldOff Try.prog 52 3 = some 3 := by kernel_rfl
def okD (d : D6) : Bool := okC d.kind d.tel d.filt && (inside d.prog 0 63 && (!decide (d.frm < -1000) && (!decide (d.til > 39399) && !decide (d.frm > d.til))))
def okP (p : P4) : Bool := okC p.kind p.tel p.filt && inside p.at_ 0 38399
def K29 : List Nat := [0, 1, 2, 6, 8, 10, 23, 24, 25, 26, 27, 61, 63, 64, 65, 66, 83]
def σ29 (ds : List D6) (ps : List P4) (at_ i : Int) : Slots := [(0, flat dC ds), (1, flat pC ps), (2, int at_), (6, bool false), (23, bool false), (24, flat dC ds), (25, int ds.length), (26, int i)]
theorem r29t (ds : List D6) (ps : List P4) (d : D6) (at_ : Int) (i : Nat) (hi : i < ds.length) (hb : ds.length < 1000) (hd : ds[i] = d) (N : Nat) (hok : okD d = true) :
    ∃ σ' st', code Try.prog c21 N K29 (loopNo Try.f29 0) (σ29 ds ps at_ i) (enter st15) = some (.normal, σ', st') ∧ popS (σ29 ds ps at_ i) st15 σ' st' = (σ29 ds ps at_ ((i + 1 : Nat) : Int), st15) := by
  have hix := ixF (f := dC) un65 kn79 co79 ds hi
  have hld : ∀ st : St, load Try.prog st 79 (.pv (.pt ((ds.flatMap dC).drop (i * 6)))) = some (dA d) := fun st => by
    have := ldF (f := dC) kn79 ag79 co79 (fun _ => rfl) st ds hi
    rw [hd] at this; exact this
  obtain ⟨s0, s1, s2⟩ := so77
  have w1 : IntKind.i64.wrap ((i : Int) + 1) = (i : Int) + 1 := by rw [IntKind.wrap_i64]; omega
  simp only [okD, Bool.and_eq_true, Bool.not_eq_true', decide_eq_false_iff_not] at hok
  obtain ⟨h1, h2, h3, h4, h5⟩ := hok
  have h4' : ¬ 39399 < d.til := h4
  have h5' : ¬ d.til < d.frm := h5
  simp only [dA, int] at hld
  have run : ∃ σ', code Try.prog c21 N K29 (loopNo Try.f29 0) (σ29 ds ps at_ i) (enter st15) = some (.normal, σ', { enter st15 with h := [.cells [int d.kind, int d.tel, int d.filt, int d.frm, int d.til, int d.prog]] }) ∧
      get σ' 0 = flat dC ds ∧ get σ' 1 = flat pC ps ∧ get σ' 2 = int at_ ∧ get σ' 6 = bool false ∧ get σ' 23 = bool false ∧ get σ' 24 = flat dC ds ∧ get σ' 25 = int ds.length ∧ get σ' 26 = int ((i : Int) + 1) := by
    simp [K29, loopNo, loops, Try.f29, code, runL, stepU, stepD, isWr, op1D, memD, mem, op2, op3, wanted, op, op1, σ29, get, put, putO, opd, bin, binInt, int, bool, hi, keepS_nil, keepS_cons, hix, isInt, hld, h1, h2, h3, h4', h5', w1, skipS, zo79, zeroCells, countV, isNilV, zeros, store, kn79, co79, stored, limit, splice, setH, parts, one, push, down, old, load_lp, loadC, shift, fd0, fd1, fd2, fd3, fd4, fd5, kn3, ag3, co3, zo77, fk77, build, s0, s1, s2, fillP, openNil, countA, isNilA, unop, q26', q27', arg, arg1, strip, strip2, strip1, ofConst, scalar, enter, st15]
  obtain ⟨σ', q, g0, g1, g2, g6, g23, g24, g25, g26⟩ := run
  refine ⟨σ', _, q, ?_⟩
  simp [popS, σ29, g0, g1, g2, g6, g23, g24, g25, g26, st15, enter, outT, TM.out, out1, down, old, flat, int, bool]

theorem r29f (ds : List D6) (ps : List P4) (d : D6) (at_ : Int) (i : Nat) (hi : i < ds.length) (hd : ds[i] = d) (N : Nat) (hok : okD d = false) :
    ∃ σ', code Try.prog c21 N K29 (loopNo Try.f29 0) (σ29 ds ps at_ i) (enter st15) = some (.ret, σ', { enter st15 with h := [.cells [int d.kind, int d.tel, int d.filt, int d.frm, int d.til, int d.prog]] }) ∧ get σ' 6 = bool false := by
  have hix := ixF (f := dC) un65 kn79 co79 ds hi
  have hld : ∀ st : St, load Try.prog st 79 (.pv (.pt ((ds.flatMap dC).drop (i * 6)))) = some (dA d) := fun st => by
    have := ldF (f := dC) kn79 ag79 co79 (fun _ => rfl) st ds hi
    rw [hd] at this; exact this
  obtain ⟨s0, s1, s2⟩ := so77
  simp only [dA, int] at hld
  cases h1 : okC d.kind d.tel d.filt
  case false => simp [h1, hi, σ29, hix, hld, zo79, kn79, co79, fd0, fd1, fd2, fd3, fd4, fd5, K29, loopNo, loops, Try.f29, code, runL, stepU, stepD, isWr, op1D, memD, mem, op2, op3, wanted, op, op1, get, put, putO, opd, bin, binInt, int, bool, keepS_nil, keepS_cons, isInt, skipS, zeroCells, countV, isNilV, zeros, store, stored, limit, splice, setH, parts, one, push, down, old, load_lp, loadC, shift, kn3, ag3, co3, zo77, fk77, build, s0, s1, s2, fillP, openNil, countA, isNilA, unop, q26', q27', arg, arg1, strip, strip2, strip1, ofConst, scalar, enter, st15]
  cases h2 : inside d.prog 0 63
  case false => simp [h1, h2, hi, σ29, hix, hld, zo79, kn79, co79, fd0, fd1, fd2, fd3, fd4, fd5, K29, loopNo, loops, Try.f29, code, runL, stepU, stepD, isWr, op1D, memD, mem, op2, op3, wanted, op, op1, get, put, putO, opd, bin, binInt, int, bool, keepS_nil, keepS_cons, isInt, skipS, zeroCells, countV, isNilV, zeros, store, stored, limit, splice, setH, parts, one, push, down, old, load_lp, loadC, shift, kn3, ag3, co3, zo77, fk77, build, s0, s1, s2, fillP, openNil, countA, isNilA, unop, q26', q27', arg, arg1, strip, strip2, strip1, ofConst, scalar, enter, st15]
  by_cases h3 : d.frm < -1000
  · simp [h1, h2, h3, hi, σ29, hix, hld, zo79, kn79, co79, fd0, fd1, fd2, fd3, fd4, fd5, K29, loopNo, loops, Try.f29, code, runL, stepU, stepD, isWr, op1D, memD, mem, op2, op3, wanted, op, op1, get, put, putO, opd, bin, binInt, int, bool, keepS_nil, keepS_cons, isInt, skipS, zeroCells, countV, isNilV, zeros, store, stored, limit, splice, setH, parts, one, push, down, old, load_lp, loadC, shift, kn3, ag3, co3, zo77, fk77, build, s0, s1, s2, fillP, openNil, countA, isNilA, unop, q26', q27', arg, arg1, strip, strip2, strip1, ofConst, scalar, enter, st15]
  by_cases h4 : 39399 < d.til
  · simp [h1, h2, h3, h4, hi, σ29, hix, hld, zo79, kn79, co79, fd0, fd1, fd2, fd3, fd4, fd5, K29, loopNo, loops, Try.f29, code, runL, stepU, stepD, isWr, op1D, memD, mem, op2, op3, wanted, op, op1, get, put, putO, opd, bin, binInt, int, bool, keepS_nil, keepS_cons, isInt, skipS, zeroCells, countV, isNilV, zeros, store, stored, limit, splice, setH, parts, one, push, down, old, load_lp, loadC, shift, kn3, ag3, co3, zo77, fk77, build, s0, s1, s2, fillP, openNil, countA, isNilA, unop, q26', q27', arg, arg1, strip, strip2, strip1, ofConst, scalar, enter, st15]
  by_cases h5 : d.til < d.frm
  · simp [h1, h2, h3, h4, h5, hi, σ29, hix, hld, zo79, kn79, co79, fd0, fd1, fd2, fd3, fd4, fd5, K29, loopNo, loops, Try.f29, code, runL, stepU, stepD, isWr, op1D, memD, mem, op2, op3, wanted, op, op1, get, put, putO, opd, bin, binInt, int, bool, keepS_nil, keepS_cons, isInt, skipS, zeroCells, countV, isNilV, zeros, store, stored, limit, splice, setH, parts, one, push, down, old, load_lp, loadC, shift, kn3, ag3, co3, zo77, fk77, build, s0, s1, s2, fillP, openNil, countA, isNilA, unop, q26', q27', arg, arg1, strip, strip2, strip1, ofConst, scalar, enter, st15]
  · simp [okD, h1, h2, h3, h4, h5] at hok
theorem r29e (ds : List D6) (ps : List P4) (at_ : Int) (N : Nat) :
    ∃ σ', code Try.prog c21 N K29 (loopNo Try.f29 0) (σ29 ds ps at_ ds.length) (enter st15) = some (.exit 0, σ', enter st15) ∧ popS (σ29 ds ps at_ ds.length) st15 σ' (enter st15) = (σ29 ds ps at_ ds.length, st15) := by
  simp [K29, loopNo, loops, Try.f29, code, runL, stepU, wanted, op, op1, σ29, get, put, putO, opd, bin, binInt, int, bool, keepS_nil, keepS_cons, ofConst, scalar, enter, st15, popS, outT, TM.out, out1, down, old, flat]
def σ29b (ds : List D6) (ps : List P4) (at_ i : Int) : Slots := σ29 ds ps at_ ds.length ++ [(63, flat pC ps), (64, int ps.length), (65, int i)]
theorem r29u (ds : List D6) (ps : List P4) (d : P4) (at_ : Int) (i : Nat) (hi : i < ps.length) (hb : ps.length < 1000) (hd : ps[i] = d) (N : Nat) (hok : okP d = true) :
    ∃ σ' st', code Try.prog c21 N K29 (loopNo Try.f29 1) (σ29b ds ps at_ i) (enter st15) = some (.normal, σ', st') ∧ popS (σ29b ds ps at_ i) st15 σ' st' = (σ29b ds ps at_ ((i + 1 : Nat) : Int), st15) := by
  have hix := ixF (f := pC) un34 kn52 co52 ps hi
  have hld : ∀ st : St, load Try.prog st 52 (.pv (.pt ((ps.flatMap pC).drop (i * 4)))) = some (.agg ((pC d).map .pv)) := fun st => by
    have := ldF (f := pC) kn52 ag52 co52 (fun _ => rfl) st ps hi
    rw [hd] at this; exact this
  obtain ⟨s0, s1, s2⟩ := so77
  have w1 : IntKind.i64.wrap ((i : Int) + 1) = (i : Int) + 1 := by rw [IntKind.wrap_i64]; omega
  simp only [okP, Bool.and_eq_true] at hok
  obtain ⟨h1, h2⟩ := hok
  simp only [pC, pint, List.map_cons, List.map_nil] at hld
  have run : ∃ σ', code Try.prog c21 N K29 (loopNo Try.f29 1) (σ29b ds ps at_ i) (enter st15) = some (.normal, σ', { enter st15 with h := [.cells [int d.kind, int d.tel, int d.filt, int d.at_]] }) ∧
      get σ' 0 = flat dC ds ∧ get σ' 1 = flat pC ps ∧ get σ' 2 = int at_ ∧ get σ' 6 = bool false ∧ get σ' 23 = bool false ∧ get σ' 24 = flat dC ds ∧ get σ' 25 = int ds.length ∧ get σ' 26 = int ds.length ∧ get σ' 63 = flat pC ps ∧ get σ' 64 = int ps.length ∧ get σ' 65 = int ((i : Int) + 1) := by
    simp [h1, h2, hi, w1, σ29, σ29b, hix, hld, zo52, kn52, co52, fp0, fp1, fp2, fp3, K29, loopNo, loops, Try.f29, code, runL, stepU, stepD, isWr, op1D, memD, mem, op2, op3, wanted, op, op1, get, put, putO, opd, bin, binInt, int, bool, keepS_nil, keepS_cons, isInt, skipS, zeroCells, countV, isNilV, zeros, store, stored, limit, splice, setH, parts, one, push, down, old, load_lp, loadC, shift, kn3, ag3, co3, zo77, fk77, build, s0, s1, s2, fillP, openNil, countA, isNilA, unop, q26', q27', arg, arg1, strip, strip2, strip1, ofConst, scalar, enter, st15]
  obtain ⟨σ', q, g0, g1, g2, g6, g23, g24, g25, g26, g63, g64, g65⟩ := run
  refine ⟨σ', _, q, ?_⟩
  simp [popS, σ29, σ29b, g0, g1, g2, g6, g23, g24, g25, g26, g63, g64, g65, st15, enter, outT, TM.out, out1, down, old, flat, int, bool]
theorem r29v (ds : List D6) (ps : List P4) (d : P4) (at_ : Int) (i : Nat) (hi : i < ps.length) (hd : ps[i] = d) (N : Nat) (hok : okP d = false) :
    ∃ σ', code Try.prog c21 N K29 (loopNo Try.f29 1) (σ29b ds ps at_ i) (enter st15) = some (.ret, σ', { enter st15 with h := [.cells [int d.kind, int d.tel, int d.filt, int d.at_]] }) ∧ get σ' 6 = bool false := by
  have hix := ixF (f := pC) un34 kn52 co52 ps hi
  have hld : ∀ st : St, load Try.prog st 52 (.pv (.pt ((ps.flatMap pC).drop (i * 4)))) = some (.agg ((pC d).map .pv)) := fun st => by
    have := ldF (f := pC) kn52 ag52 co52 (fun _ => rfl) st ps hi
    rw [hd] at this; exact this
  obtain ⟨s0, s1, s2⟩ := so77
  simp only [pC, pint, List.map_cons, List.map_nil] at hld
  cases h1 : okC d.kind d.tel d.filt
  case false => simp [h1, hi, σ29, σ29b, hix, hld, zo52, kn52, co52, fp0, fp1, fp2, fp3, K29, loopNo, loops, Try.f29, code, runL, stepU, stepD, isWr, op1D, memD, mem, op2, op3, wanted, op, op1, get, put, putO, opd, bin, binInt, int, bool, keepS_nil, keepS_cons, isInt, skipS, zeroCells, countV, isNilV, zeros, store, stored, limit, splice, setH, parts, one, push, down, old, load_lp, loadC, shift, kn3, ag3, co3, zo77, fk77, build, s0, s1, s2, fillP, openNil, countA, isNilA, unop, q26', q27', arg, arg1, strip, strip2, strip1, ofConst, scalar, enter, st15]
  cases h2 : inside d.at_ 0 38399
  case false => simp [h1, h2, hi, σ29, σ29b, hix, hld, zo52, kn52, co52, fp0, fp1, fp2, fp3, K29, loopNo, loops, Try.f29, code, runL, stepU, stepD, isWr, op1D, memD, mem, op2, op3, wanted, op, op1, get, put, putO, opd, bin, binInt, int, bool, keepS_nil, keepS_cons, isInt, skipS, zeroCells, countV, isNilV, zeros, store, stored, limit, splice, setH, parts, one, push, down, old, load_lp, loadC, shift, kn3, ag3, co3, zo77, fk77, build, s0, s1, s2, fillP, openNil, countA, isNilA, unop, q26', q27', arg, arg1, strip, strip2, strip1, ofConst, scalar, enter, st15]
  simp [okP, h1, h2] at hok
theorem r29w (ds : List D6) (ps : List P4) (at_ : Int) (N : Nat) :
    ∃ σ', code Try.prog c21 N K29 (loopNo Try.f29 1) (σ29b ds ps at_ ps.length) (enter st15) = some (.exit 2, σ', enter st15) ∧ popS (σ29b ds ps at_ ps.length) st15 σ' (enter st15) = (σ29b ds ps at_ ps.length, st15) := by
  simp [K29, loopNo, loops, Try.f29, code, runL, stepU, wanted, op, op1, σ29, σ29b, get, put, putO, opd, bin, binInt, int, bool, keepS_nil, keepS_cons, ofConst, scalar, enter, st15, popS, outT, TM.out, out1, down, old, flat]
end Go.TM
