/- ReleaseGrades on the tree machine: Settle, its second loop. -/
import Derived.Test.YtjoajdlnfgfjgaaTmGf
namespace Go.TM
open Go.Proofs
set_option maxRecDepth 100000
set_option maxHeartbeats 4000000
set_option linter.all false
theorem load_pt (P : Program) (st : St) (t : TypeId) (ps : List PV) : load P st t (.pv (.pt ps)) = loadC P t (ps.map .pv) := rfl
theorem ixF' {P : Program} {t e c : Nat} {α : Type} {f : α → List PV} (ht : P.underlying t = some (.slice e)) (hk : known P e = true) (hc : P.cellsOf e = c) (hf : ∀ x, (f x).length = c) (l : List α) (x : α) (i : Int) (h0 : 0 ≤ i) (h : l[i.toNat]? = some x) :
    ∃ r, indexAddr P t (flat f l) i = some (.pv (.pt (f x ++ r))) := by
  obtain ⟨r, hr⟩ := flat_drop f c hf l i.toNat x h
  refine ⟨r, ?_⟩
  have hlt := (List.getElem?_eq_some_iff.1 h).1
  have := ixF (f := f) ht hk hc l hlt
  rw [hr] at this
  have e : ((i.toNat : Nat) : Int) = i := Int.toNat_of_nonneg h0
  rw [e] at this
  exact this
def cellsI (outs : List Int) : List AV := outs.map int
theorem splice_set (outs : List Int) (i : Nat) (x : Int) (hi : i < outs.length) : splice (outs.map int) i [int x] = (outs.set i x).map int := by
  unfold splice
  rw [List.length_singleton, List.set_eq_take_append_cons_drop, if_pos hi, List.map_append, List.map_cons, ← List.map_take, ← List.map_drop]
  simp
theorem sto (M : Obj) (outs : List Int) (i : Nat) (x : Int) (hi : i < outs.length) (r : List Obj) (ch : List Nat) (ms : List (Nat × Nat)) :
    store Try.prog ⟨M :: .cells (cellsI outs) :: r, ch, ms, 0, 0⟩ 3 (.lp 1 i) (.pv (.sc (.int .i64 x))) = some ⟨M :: .cells (cellsI (outs.set i x)) :: r, ch, ms, 0, 0⟩ := by
  have hs : stored ⟨M :: .cells (cellsI outs) :: r, ch, ms, 0, 0⟩ 1 (.pv (.sc (.int .i64 x))) = [int x] := by
    unfold stored
    split <;> rfl
  have hle : i + 1 ≤ (cellsI outs).length := by unfold cellsI; rw [List.length_map]; omega
  simp only [store, List.getElem?_cons_succ, List.getElem?_cons_zero, hs, kn3, co3, Nat.zero_le, decide_true, Bool.true_and, List.length_singleton, hle, List.all_cons, List.all_nil, one, int, beq_self_eq_true, Bool.and_self, if_true]
  show some (setH _ 1 (.cells (splice (cellsI outs) i [int x]))) = _
  have := splice_set outs i x hi
  unfold cellsI
  rw [this]
  rfl
theorem ldo (M : Obj) (outs : List Int) (i : Nat) (o : Int) (h : outs[i]? = some o) (r : List Obj) (ch : List Nat) (ms : List (Nat × Nat)) :
    load Try.prog ⟨M :: .cells (cellsI outs) :: r, ch, ms, 0, 0⟩ 3 (.lp 1 i) = some (.pv (.sc (.int .i64 o))) := by
  obtain ⟨hi, rfl⟩ := List.getElem?_eq_some_iff.1 h
  simp only [load, List.getElem?_cons_succ, List.getElem?_cons_zero, loadC, kn3, ag3, if_true, Bool.false_eq_true, if_false]
  unfold cellsI
  rw [List.drop_eq_getElem_cons (by simpa using hi)]
  simp [int]
theorem ixo (n i : Nat) (hi : i < n) : indexAddr Try.prog 68 (.ls 1 0 n) (i : Int) = some (.lp 1 i) := by
  have : (i : Int) < n := by omega
  simp [indexAddr, un68, kn3, co3, this]
def pickK (ps : List P4) (frm mn : Int) (o x : Int) : Int :=
  match ps[x.toNat]? with
  | some p => if inside p.at_ frm mn then (if o < 0 then x else match ps[o.toNat]? with
      | some q => if p.at_ < q.at_ then x else o
      | none => o) else o
  | none => o
def σ22b (ds : List D6) (ps : List P4) (at_ : Int) (i : Int) : Slots := [(0, flat dC ds), (1, flat pC ps), (2, int at_), (6, .g (.v 0) 0 []), (7, int 0), (22, bool false), (8, .lm 0), (24, flat pC ps), (25, int ps.length), (26, int ps.length), (12, .ls 1 0 ds.length), (50, flat dC ds), (51, int ds.length), (52, int i)]
def σ22c (ds : List D6) (ps : List P4) (at_ : Int) (i : Nat) (w : AV) (m k : Int) : Slots := σ22b ds ps at_ i ++ [(53, bool true), (14, .lp 2 0), (13, int i), (68, w), (69, int m), (70, int k)]
def stI (gs : Gs) (outs : List Int) (d : D6) : St := stG gs [.cells (cellsI outs), .cells ((dC d).map .pv)] [0] [(2, 1), (0, 0)]
noncomputable def inner22 : Code := ((loops (loopNo Try.f22 1))[0]?).getD .skip
theorem r22i (ds : List D6) (ps : List P4) (gs : Gs) (outs : List Int) (d : D6) (w : AV) (L : List Int) (p : P4) (at_ x o : Int) (i k : Nat) (hps : ps.length < 64) (hi : i < ds.length) (hol : outs.length = ds.length) (hk : k < L.length) (hL : L.length < 64)
    (hw : ∃ r, indexAddr Try.prog 68 w k = some (.pv (.pt (pint x :: r)))) (hww : old 3 1 w = true) (hw2 : w = flat (fun n => [pint n]) L) (hx0 : 0 ≤ x) (hxp : ps[x.toNat]? = some p) (ho : outs[i]? = some o) (hov : o < 0 ∨ ∃ q, 0 ≤ o ∧ ps[o.toNat]? = some q) (N : Nat) :
    ∃ σ' st', code Try.prog c22 N K22 inner22 (σ22c ds ps at_ i w L.length k) (enter (stI gs outs d)) = some (.normal, σ', st') ∧
      popS (σ22c ds ps at_ i w L.length k) (stI gs outs d) σ' st' = (σ22c ds ps at_ i w L.length ((k + 1 : Nat) : Int), stI gs (outs.set i (pickK ps d.frm (if at_ < d.til then at_ else d.til) o x)) d) := by
  obtain ⟨r1, hw⟩ := hw
  obtain ⟨r2, h2⟩ := ixF' (f := pC) un34 kn52 co52 (fun _ => rfl) ps p x hx0 hxp
  simp only [pC, pint, List.cons_append, List.nil_append] at hw h2
  have hio := ixo ds.length i hi
  have w1 : IntKind.i64.wrap ((k : Int) + 1) = (k : Int) + 1 := by rw [IntKind.wrap_i64]; omega
  have hld := fun r ch ms => ldo (.map (gents gs 0) gs.length) outs i o ho r ch ms
  have hst := fun r ch ms => sto (.map (gents gs 0) gs.length) outs i x (by omega) r ch ms
  generalize hmn : (if at_ < d.til then at_ else d.til) = mn
  have hself : outs.set i o = outs := by
    obtain ⟨h, rfl⟩ := List.getElem?_eq_some_iff.1 ho
    simp
  have fin : ∀ (outs' : List Int) (r : List Obj) (σ' : Slots), (get σ' 0 = flat dC ds ∧ get σ' 1 = flat pC ps ∧ get σ' 2 = int at_ ∧ get σ' 6 = .g (.v 0) 0 [] ∧ get σ' 7 = int 0 ∧ get σ' 22 = bool false ∧ get σ' 8 = .lm 0 ∧ get σ' 24 = flat pC ps ∧ get σ' 25 = int ps.length ∧ get σ' 26 = int ps.length ∧
      get σ' 12 = .ls 1 0 ds.length ∧ get σ' 50 = flat dC ds ∧ get σ' 51 = int ds.length ∧ get σ' 52 = int i ∧ get σ' 53 = bool true ∧ get σ' 14 = .lp 2 0 ∧ get σ' 13 = int i ∧ get σ' 68 = w ∧ get σ' 69 = int L.length ∧ get σ' 70 = int ((k : Int) + 1)) →
      popS (σ22c ds ps at_ i w L.length k) (stI gs outs d) σ' (enter (stI gs outs' d)) = (σ22c ds ps at_ i w L.length ((k + 1 : Nat) : Int), stI gs outs' d) := by
    intro outs' r σ' ⟨g0, g1, g2, g6, g7, g22, g8, g24, g25, g26, g12, g50, g51, g52, g53, g14, g13, g68, g69, g70⟩
    subst hw2
    simp [popS, σ22c, σ22b, g0, g1, g2, g6, g7, g22, g8, g24, g25, g26, g12, g50, g51, g52, g53, g14, g13, g68, g69, g70, stI, stG, enter, outT, TM.out, out1, down, old, oldCh, flat, int, bool]
  have hmm : (Option.some (AV.pv (PV.sc (Value.int IntKind.i64 (if at_ < d.til then at_ else d.til))))) = some (AV.pv (PV.sc (Value.int IntKind.i64 mn))) := by rw [hmn]
  have hnew : pickK ps d.frm mn o x = (if inside p.at_ d.frm mn then (if o < 0 then x else match ps[o.toNat]? with
      | some q => if p.at_ < q.at_ then x else o
      | none => o) else o) := by unfold pickK; rw [hxp]
  rw [hnew]
  have hkl : (k : Int) < L.length := by omega
  have stay : ∀ (h : ∃ σ', code Try.prog c22 N K22 inner22 (σ22c ds ps at_ i w L.length k) (enter (stI gs outs d)) = some (.normal, σ', enter (stI gs outs d)) ∧ (get σ' 0 = flat dC ds ∧ get σ' 1 = flat pC ps ∧ get σ' 2 = int at_ ∧ get σ' 6 = .g (.v 0) 0 [] ∧ get σ' 7 = int 0 ∧ get σ' 22 = bool false ∧ get σ' 8 = .lm 0 ∧ get σ' 24 = flat pC ps ∧ get σ' 25 = int ps.length ∧ get σ' 26 = int ps.length ∧
      get σ' 12 = .ls 1 0 ds.length ∧ get σ' 50 = flat dC ds ∧ get σ' 51 = int ds.length ∧ get σ' 52 = int i ∧ get σ' 53 = bool true ∧ get σ' 14 = .lp 2 0 ∧ get σ' 13 = int i ∧ get σ' 68 = w ∧ get σ' 69 = int L.length ∧ get σ' 70 = int ((k : Int) + 1))),
      ∃ σ' st', code Try.prog c22 N K22 inner22 (σ22c ds ps at_ i w L.length k) (enter (stI gs outs d)) = some (.normal, σ', st') ∧
      popS (σ22c ds ps at_ i w L.length k) (stI gs outs d) σ' st' = (σ22c ds ps at_ i w L.length ((k + 1 : Nat) : Int), stI gs (outs.set i o) d) := by
    rintro ⟨σ', q, g⟩
    rw [hself]
    exact ⟨σ', _, q, fin outs [] σ' g⟩
  have move : ∀ (h : ∃ σ', code Try.prog c22 N K22 inner22 (σ22c ds ps at_ i w L.length k) (enter (stI gs outs d)) = some (.normal, σ', enter (stI gs (outs.set i x) d)) ∧ (get σ' 0 = flat dC ds ∧ get σ' 1 = flat pC ps ∧ get σ' 2 = int at_ ∧ get σ' 6 = .g (.v 0) 0 [] ∧ get σ' 7 = int 0 ∧ get σ' 22 = bool false ∧ get σ' 8 = .lm 0 ∧ get σ' 24 = flat pC ps ∧ get σ' 25 = int ps.length ∧ get σ' 26 = int ps.length ∧
      get σ' 12 = .ls 1 0 ds.length ∧ get σ' 50 = flat dC ds ∧ get σ' 51 = int ds.length ∧ get σ' 52 = int i ∧ get σ' 53 = bool true ∧ get σ' 14 = .lp 2 0 ∧ get σ' 13 = int i ∧ get σ' 68 = w ∧ get σ' 69 = int L.length ∧ get σ' 70 = int ((k : Int) + 1))),
      ∃ σ' st', code Try.prog c22 N K22 inner22 (σ22c ds ps at_ i w L.length k) (enter (stI gs outs d)) = some (.normal, σ', st') ∧
      popS (σ22c ds ps at_ i w L.length k) (stI gs outs d) σ' st' = (σ22c ds ps at_ i w L.length ((k + 1 : Nat) : Int), stI gs (outs.set i x) d) := by
    rintro ⟨σ', q, g⟩
    exact ⟨σ', _, q, fin (outs.set i x) [] σ' g⟩
  cases hin : inside p.at_ d.frm mn
  case false =>
    rw [if_neg (by simp)]
    refine stay ?_
    simp [hk, hw, h2, hio, w1, hld, hst, hmn, hin, K22, inner22, loopNo, loops, Try.f22, code, runL, stepU, wanted, op, op1, op2, op3, mem, σ22c, σ22b, get, put, putO, opd, bin, binInt, minmax, int, bool, keepS_nil, keepS_cons, isInt, skipS, load_lp, load_pt, loadC, shift, fd3, fd4, fp3, kn3, ag3, co3, q26s, arg, arg1, ofConst, scalar, enter, stI, stG, dC, pint]
  rw [if_pos rfl]
  by_cases hneg : o < 0
  · rw [if_pos hneg]
    refine move ?_
    simp [hk, hw, h2, hio, w1, hld, hst, hmn, hin, hneg, K22, inner22, loopNo, loops, Try.f22, code, runL, stepU, wanted, op, op1, op2, op3, mem, σ22c, σ22b, get, put, putO, opd, bin, binInt, minmax, int, bool, keepS_nil, keepS_cons, isInt, skipS, load_lp, load_pt, loadC, shift, fd3, fd4, fp3, kn3, ag3, co3, q26s, arg, arg1, ofConst, scalar, enter, stI, stG, dC, pint]
  · rw [if_neg hneg]
    rcases hov with h | ⟨q, ho0, hq⟩
    · exact absurd h hneg
    rw [hq]
    obtain ⟨r3, h3⟩ := ixF' (f := pC) un34 kn52 co52 (fun _ => rfl) ps q o ho0 hq
    simp only [pC, pint, List.cons_append, List.nil_append] at h3
    by_cases hlt : p.at_ < q.at_
    · simp only [hlt, if_true]
      refine move ?_
      simp [hk, hw, h2, h3, hio, w1, hld, hst, hmn, hin, hneg, hlt, K22, inner22, loopNo, loops, Try.f22, code, runL, stepU, wanted, op, op1, op2, op3, mem, σ22c, σ22b, get, put, putO, opd, bin, binInt, minmax, int, bool, keepS_nil, keepS_cons, isInt, skipS, load_lp, load_pt, loadC, shift, fd3, fd4, fp3, kn3, ag3, co3, q26s, arg, arg1, ofConst, scalar, enter, stI, stG, dC, pint]
    · simp only [hlt, if_false]
      refine stay ?_
      simp [hk, hw, h2, h3, hio, w1, hld, hst, hmn, hin, hneg, hlt, K22, inner22, loopNo, loops, Try.f22, code, runL, stepU, wanted, op, op1, op2, op3, mem, σ22c, σ22b, get, put, putO, opd, bin, binInt, minmax, int, bool, keepS_nil, keepS_cons, isInt, skipS, load_lp, load_pt, loadC, shift, fd3, fd4, fp3, kn3, ag3, co3, q26s, arg, arg1, ofConst, scalar, enter, stI, stG, dC, pint]
end Go.TM
