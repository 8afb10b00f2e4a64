/- ReleaseGrades on the tree machine: Paid, whole; Grade; FewScript. -/
import Derived.Test.YtjoajdlnfgfjgaaTmGk
namespace Go.TM
open Go.Proofs
set_option maxRecDepth 100000
set_option maxHeartbeats 4000000
set_option linter.all false
theorem r14f (f : Fr) (ps : List P4) (at_ : Int) (ds : List D6) (L : List Int) (x : Int) (i : Nat) (hi : i < L.length) (hx : L[i] = x) (h0 : x < 0) (N : Nat) :
    ∃ σ', code Try.prog c14 N K14 (loopNo Try.f14 0) (σ14 ps at_ ds L i) (enter (st14 f)) = some (.ret, σ', enter (st14 f)) ∧ get σ' 6 = bool false ∧ get σ' 7 = int 0 := by
  obtain ⟨r, hr⟩ := ixF' (f := fun n => [pint n]) un68 kn3 co3 (fun _ => rfl) L x (i : Int) (by omega) (by simp [hi, hx])
  simp only [pint, List.cons_append, List.nil_append] at hr
  simp [K14, loopNo, loops, Try.f14, code, runL, stepU, wanted, op, op1, op2, op3, mem, σ14, get, put, putO, opd, bin, binInt, int, bool, hi, h0, hr, isInt, load_pt, loadC, kn3, ag3, pint, keepS_nil, keepS_cons, ofConst, scalar, enter, st14]
theorem r14e (f : Fr) (ps : List P4) (at_ : Int) (ds : List D6) (L : List Int) (N : Nat) :
    ∃ σ', code Try.prog c14 N K14 (loopNo Try.f14 0) (σ14 ps at_ ds L L.length) (enter (st14 f)) = some (.exit 0, σ', enter (st14 f)) := by
  simp [K14, loopNo, loops, Try.f14, code, runL, stepU, wanted, op, op1, op2, op3, mem, σ14, get, put, putO, opd, bin, binInt, int, bool, keepS_nil, keepS_cons, ofConst, scalar, enter, st14]
theorem k14 (f : Fr) (ps : List P4) (at_ : Int) (ds : List D6) (L : List Int) (hL : L.length < 64) (N : Nat) :
    ∃ e σ' st', iter (fun σ st => code Try.prog c14 N K14 (loopNo Try.f14 0) σ st) 64 (σ14 ps at_ ds L 0) (st14 f) = some (e, σ', st') ∧ st' = st14 f ∧
      ((L.all (fun x => decide (0 ≤ x)) = true ∧ e = .exit 0) ∨ (L.all (fun x => decide (0 ≤ x)) = false ∧ e = .ret ∧ get σ' 6 = bool false ∧ get σ' 7 = int 0)) := by
  obtain ⟨e, ⟨σ', st'⟩, h1, h2⟩ := iter_scan (body := fun σ st => code Try.prog c14 N K14 (loopNo Try.f14 0) σ st) (S := fun i => (σ14 ps at_ ds L (i : Int), st14 f)) (ok := okAt (fun x => decide (0 ≤ x)) L) (n := L.length)
    (R := fun _ e p => e = .ret ∧ p.2 = st14 f ∧ get p.1 6 = bool false ∧ get p.1 7 = int 0) (Q := fun e p => e = .exit 0 ∧ p.2 = st14 f)
    (fun i hi ho => by
      simp only [okAt, List.getElem?_eq_getElem hi, decide_eq_true_eq] at ho
      exact r14 f ps at_ ds L L[i] i hi hL rfl ho N)
    (fun i hi ho => by
      simp only [okAt, List.getElem?_eq_getElem hi, decide_eq_false_iff_not] at ho
      obtain ⟨σ', q1, q2, q3⟩ := r14f f ps at_ ds L L[i] i hi rfl (by omega) N
      refine ⟨_, _, _, q1, by simp, rfl, rfl, ?_, ?_⟩
      · simp [popS, σ14, get, q2, outT, TM.out, out1, down, old, bool]
      · simp [popS, σ14, get, q3, outT, TM.out, out1, down, old, int])
    (by
      obtain ⟨σ', q1⟩ := r14e f ps at_ ds L N
      exact ⟨_, _, _, q1, by simp, rfl, rfl⟩)
    64 0 (Nat.zero_le _) (by omega)
  refine ⟨e, σ', st', h1, ?_⟩
  rcases h2 with ⟨a, b, c⟩ | ⟨j, a, b, c, d, f', g, k, m⟩
  · exact ⟨c, .inl ⟨all_of a, b⟩⟩
  · exact ⟨g, .inr ⟨not_all_of b d, f', k, m⟩⟩
theorem fun14 : Try.prog.funcs[14]? = some Try.f14 := by kernel_rfl
def paid (f : Fr) (ps : List P4) (at_ : Int) : Bool := (settle (owes f) ps at_).all fun x => decide (0 ≤ x)
def res14 (f : Fr) (ps : List P4) (at_ : Int) : AV := if okF f && okAll (owes f) ps at_ then .tup [bool (paid f ps at_), int 0] else .tup [bool false, int 1]
theorem x14 (f : Fr) (ps : List P4) (at_ : Int) (hp : ps.length < 64) : ∃ st', callBody Try.prog (fun _ => K14) 64 c14 14 [frA f, flat pC ps, int at_] st0 = some (res14 f ps at_, st') := by
  have h21 := q21 f
  have h22 := q22 (owes f) ps at_ (by show (3 : Nat) < 64; omega) hp
  obtain ⟨e, s1, t1, i1, rfl, h1⟩ := k14 f ps at_ (owes f) (settle (owes f) ps at_) (by simp [settle, owes]) 64
  have hll : (settle (owes f) ps at_).length = 3 := rfl
  have hbody : Try.f14.body = some (put3 Try.f14 [loopNo Try.f14 0]) := by kernel_rfl
  have l1 := fun st => lenF (f := fun n => [pint n]) un68 st (settle (owes f) ps at_)
  have hfd : flat dC (owes f) = .pv (.sl 3 ((owes f).flatMap dC)) := rfl
  have hee : encD (owes f) = (owes f).flatMap dC := rfl
  have hld : ∀ o r ch ms, load Try.prog { h := .cells (frC f) :: r, ch := ch, ms := ms, fl := 0, cf := o } 46 (.lp 0 0) = some (frA f) := fun o r ch ms => by kernel_rfl
  have hpar : parts (frA f) = frC f := rfl
  have hone : (frC f).all one = true := rfl
  have harg : arg (frA f) = frA f := rfl
  rw [hll] at l1
  simp only [callBody, fun14]
  rw [hbody]
  generalize loopNo Try.f14 0 = L1 at i1 ⊢
  have hc3 : ((3 : Nat) : Int) = 3 := rfl
  simp only [K14, σ14, st14, hll, hc3, int, bool] at i1
  have hkl : (settle (owes f) ps at_).all (fun x => decide (0 ≤ x)) = paid f ps at_ := rfl
  rw [hkl] at h1
  have harg2 : arg (.pv (.sl 3 ((owes f).flatMap dC))) = .pv (.sl 3 ((owes f).flatMap dC)) := rfl
  rw [hfd] at h22
  simp only [res21, int, hee] at h21
  simp only [res22, int] at h22
  simp only [res14, int, bool]
  generalize frA f = FA at *
  generalize frC f = FC at *
  generalize (owes f).flatMap dC = DD at *
  generalize settle (owes f) ps at_ = SS at *
  cases hF : okF f
  case false =>
    simp only [hF, Bool.false_eq_true, if_false] at h21
    simp [hF, h21, K14, put3, setLoops, Try.f14, code, runL, stepU, wanted, op, op1, op2, op3, mem, enter, number, get, put, putO, keepS_nil, keepS_cons, get_keepS, get_put, opd, ofConst, scalar, arg_flat, arg_int, harg, harg2, hpar, hone, hld, l1, push, int, bool, bin, binInt, results, tuple, outT, TM.out, out1, down, old, oldCh, st0]
  simp only [hF, if_true] at h21
  cases hA : okAll (owes f) ps at_
  case false =>
    simp only [hA, Bool.false_eq_true, if_false] at h22
    simp [hF, hA, h21, h22, K14, put3, setLoops, Try.f14, code, runL, stepU, wanted, op, op1, op2, op3, mem, enter, number, get, put, putO, keepS_nil, keepS_cons, get_keepS, get_put, opd, ofConst, scalar, arg_flat, arg_int, harg, harg2, hpar, hone, hld, l1, push, int, bool, bin, binInt, results, tuple, outT, TM.out, out1, down, old, oldCh, st0]
  simp only [hA, if_true] at h22
  rcases h1 with ⟨a, rfl⟩ | ⟨a, rfl, b, c⟩
  · simp [hF, hA, a, h21, h22, i1, K14, put3, setLoops, Try.f14, code, runL, stepU, wanted, op, op1, op2, op3, mem, enter, number, get, put, putO, keepS_nil, keepS_cons, get_keepS, get_put, opd, ofConst, scalar, arg_flat, arg_int, harg, harg2, hpar, hone, hld, l1, push, int, bool, bin, binInt, results, tuple, outT, TM.out, out1, down, old, oldCh, st0]
  · simp only [int, bool] at b c
    simp [hF, hA, a, b, c, h21, h22, i1, K14, put3, setLoops, Try.f14, code, runL, stepU, wanted, op, op1, op2, op3, mem, enter, number, get, put, putO, keepS_nil, keepS_cons, get_keepS, get_put, opd, ofConst, scalar, arg_flat, arg_int, harg, harg2, hpar, hone, hld, l1, push, int, bool, bin, binInt, results, tuple, outT, TM.out, out1, down, old, oldCh, st0]
end Go.TM
