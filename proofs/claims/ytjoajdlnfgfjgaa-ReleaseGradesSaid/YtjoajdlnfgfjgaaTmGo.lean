/- ReleaseGrades on the tree machine: it answers true. -/
import Derived.Test.YtjoajdlnfgfjgaaTmGn
namespace Go.TM
open Go.Proofs
set_option maxRecDepth 100000
set_option maxHeartbeats 4000000
set_option linter.all false
theorem settle_mono (ps : List P4) (d : D6) (a b : Int) (h : a ≤ b) (hs : 0 ≤ settleOne ps (classes [] 0 ps) a d) : 0 ≤ settleOne ps (classes [] 0 ps) b d := by
  unfold settleOne at *
  rw [idx_classes] at *
  simp only [idx, List.nil_append] at *
  have hx : ∀ x ∈ posns (clsD d) ps 0, isIdx ps x := fun x hx => posns_idx _ _ _ hx
  rw [best_iff ps _ _ _ _ hx] at *
  rcases hs with hs | ⟨x, h1, p, h2, h3⟩
  · omega
  · refine .inr ⟨x, h1, p, h2, ?_⟩
    simp only [inside, Bool.and_eq_true, decide_eq_true_eq] at h3 ⊢
    refine ⟨h3.1, ?_⟩
    have := h3.2
    split at this <;> split <;> omega
theorem paid_mono (f : Fr) (ps : List P4) (a b : Int) (h : a ≤ b) (hp : paid f ps a = true) : paid f ps b = true := by
  unfold paid settle at *
  simp only [List.all_eq_true, decide_eq_true_eq, List.mem_map] at *
  rintro x ⟨d, hd, rfl⟩
  exact settle_mono ps d a b h (hp _ ⟨d, hd, rfl⟩)
theorem fun4 : Try.prog.funcs[4]? = some Try.f4 := by kernel_rfl
def K4 : List Nat := [4, 5, 6, 7, 8, 9, 10, 11, 12, 13, 17, 23]
def law4 (s : Sc) (lo hi : Rl) (f : Fr) : Prop := lo.at_ ≤ hi.at_
theorem x4 (s : Sc) (r1 r2 : Rl) (f : Fr) : ∃ st', callBody Try.prog (fun _ => K4) 0 c4 4 [.agg (scC s), .agg (rlC r1), .agg (rlC r2), .agg (frC f)] st0 = some (bool true, st') := by
  have h5 := qG5
  have h8 := q8 s
  have pS : parts (.agg (scC s)) = scC s := rfl
  have oS : (scC s).all one = true := rfl
  have oR : ∀ r, (rlC r).all one = true := fun r => rfl
  have oF : (frC f).all one = true := rfl
  have aS : (scC s).map arg1 = scC s := rfl
  have aR : ∀ r, (rlC r).map arg1 = rlC r := fun r => rfl
  have aF : (frC f).map arg1 = frC f := rfl
  have lS : ∀ (r : List Obj) ch ms, load Try.prog { h := .cells (scC s) :: r, ch := ch, ms := ms, fl := 0, cf := 0 } 37 (.lp 0 0) = some (.agg (scC s)) := fun r ch ms => by kernel_rfl
  have l1 : ∀ (a : Obj) x (r : List Obj) ch ms, load Try.prog { h := a :: .cells (rlC x) :: r, ch := ch, ms := ms, fl := 0, cf := 0 } 42 (.lp 1 0) = some (.agg (rlC x)) := fun a x r ch ms => by kernel_rfl
  have l2 : ∀ (a b : Obj) x (r : List Obj) ch ms, load Try.prog { h := a :: b :: .cells (rlC x) :: r, ch := ch, ms := ms, fl := 0, cf := 0 } 42 (.lp 2 0) = some (.agg (rlC x)) := fun a b x r ch ms => by kernel_rfl
  have l3 : ∀ (a b c : Obj) (r : List Obj) ch ms, load Try.prog { h := a :: b :: c :: .cells (frC f) :: r, ch := ch, ms := ms, fl := 0, cf := 0 } 46 (.lp 3 0) = some (.agg (frC f)) := fun a b c r ch ms => by kernel_rfl
  have f1 : ∀ (a : Obj) x (r : List Obj) ch ms, load Try.prog { h := a :: .cells (rlC x) :: r, ch := ch, ms := ms, fl := 0, cf := 0 } 3 (.lp 1 4) = some (.pv (.sc (.int .i64 x.at_))) := fun a x r ch ms => by kernel_rfl
  have f2 : ∀ (a b : Obj) x (r : List Obj) ch ms, load Try.prog { h := a :: b :: .cells (rlC x) :: r, ch := ch, ms := ms, fl := 0, cf := 0 } 3 (.lp 2 4) = some (.pv (.sc (.int .i64 x.at_))) := fun a b x r ch ms => by kernel_rfl
  have s1 : ∀ (a : Obj) x y (r : List Obj) ch, store Try.prog { h := a :: .cells (rlC x) :: r, ch := ch, ms := [(0, 0)], fl := 0, cf := 0 } 42 (.lp 1 0) (.agg (rlC y)) = some { h := a :: .cells (rlC y) :: r, ch := ch, ms := [(0, 0)], fl := 0, cf := 0 } := fun a x y r ch => by kernel_rfl
  have s2 : ∀ (a b : Obj) x y (r : List Obj) ch, store Try.prog { h := a :: b :: .cells (rlC x) :: r, ch := ch, ms := [(0, 0)], fl := 0, cf := 0 } 42 (.lp 2 0) (.agg (rlC y)) = some { h := a :: b :: .cells (rlC y) :: r, ch := ch, ms := [(0, 0)], fl := 0, cf := 0 } := fun a b x y r ch => by kernel_rfl
  cases hfew : fewS s
  case false =>
    simp only [hfew, bool] at h8 h5
    simp [K4, fun4, callBody, Try.f4, code, runL, stepU, wanted, op, op1, op2, op3, mem, enter, number, get, put, putO, keepS_nil, keepS_cons, opd, ofConst, scalar, int, bool, push, unop, oS, oR, oF, aS, aR, aF, lS, arg_agg', h5, h8, parts, results, tuple, outT, TM.out, out1, down, old, st0]
  have hp : s.ps.length < 64 := by
    simp only [fewS, Bool.and_eq_true, decide_eq_true_eq] at hfew
    omega
  have h9 := fun r => q9 s r f hp
  simp only [hfew, bool, int, frA] at h8 h5 h9
  have mono : ∀ a b : Int, a ≤ b → gOk f s.ps a = true → gOk f s.ps b = true → paid f s.ps a = true → paid f s.ps b = true := fun a b h _ _ hpd => paid_mono f s.ps a b h hpd
  by_cases hgt : r1.at_ > r2.at_
  · have hgt' : r2.at_ < r1.at_ := hgt
    have hm := mono r2.at_ r1.at_ (by omega)
    cases g1 : gOk f s.ps r1.at_ <;> cases g2 : gOk f s.ps r2.at_ <;> cases p1 : paid f s.ps r1.at_ <;> cases p2 : paid f s.ps r2.at_ <;> simp only [g1, g2, p1, p2] at hm <;>
    first | (simp at hm; done) | simp [hgt', g1, g2, p1, p2, K4, fun4, callBody, Try.f4, code, runL, stepU, wanted, op, op1, op2, op3, mem, enter, number, get, put, putO, keepS_nil, keepS_cons, opd, ofConst, scalar, int, bool, push, unop, oS, oR, oF, aS, aR, aF, lS, l1, l2, l3, f1, f2, s1, s2, shift, fr2, skipS, arg_agg', h5, h8, h9, parts, bin, binInt, results, tuple, outT, TM.out, out1, down, old, st0]
  · have hgt' : ¬ r2.at_ < r1.at_ := hgt
    have hm := mono r1.at_ r2.at_ (by omega)
    cases g1 : gOk f s.ps r1.at_ <;> cases g2 : gOk f s.ps r2.at_ <;> cases p1 : paid f s.ps r1.at_ <;> cases p2 : paid f s.ps r2.at_ <;> simp only [g1, g2, p1, p2] at hm <;>
    first | (simp at hm; done) | simp [hgt', g1, g2, p1, p2, K4, fun4, callBody, Try.f4, code, runL, stepU, wanted, op, op1, op2, op3, mem, enter, number, get, put, putO, keepS_nil, keepS_cons, opd, ofConst, scalar, int, bool, push, unop, oS, oR, oF, aS, aR, aF, lS, l1, l2, l3, f1, f2, s1, s2, shift, fr2, skipS, arg_agg', h5, h8, h9, parts, bin, binInt, results, tuple, outT, TM.out, out1, down, old, st0]
end Go.TM
