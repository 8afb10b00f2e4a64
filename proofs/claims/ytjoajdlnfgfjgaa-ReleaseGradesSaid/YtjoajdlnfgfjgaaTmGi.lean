/- ReleaseGrades on the tree machine: Settle, whole. -/
import Derived.Test.YtjoajdlnfgfjgaaTmGh
namespace Go.TM
open Go.Proofs
set_option maxRecDepth 100000
set_option maxHeartbeats 4000000
set_option linter.all false
theorem setLoops_loops : ∀ (c : Code) (L : List Code), setLoops (loops c ++ L) c = (c, L)
  | .loop c, L => rfl
  | .seq a b, L => by
    simp only [loops, setLoops, List.append_assoc, setLoops_loops a, setLoops_loops b]
  | .cond x a b, L => by
    simp only [loops, setLoops, List.append_assoc, setLoops_loops a, setLoops_loops b]
  | .block id c, L => by
    simp only [loops, setLoops, setLoops_loops c]
  | .skip, L => rfl
  | .label _, L => rfl
  | .region _ _ _, L => rfl
  | .exit _, L => rfl
  | .ret, L => rfl
  | .rangeFunc _ _ _ _, L => rfl
  | .scope _, L => rfl
  | .goto _, L => rfl
  | .refuse _, L => rfl
theorem loops22 : (loops (loopNo Try.f22 1)).length = 1 := by kernel_rfl
theorem body22 : loopNo Try.f22 1 = (setLoops [inner22] (loopNo Try.f22 1)).1 := by
  have h : loops (loopNo Try.f22 1) = [inner22] := by
    have h1 := loops22
    unfold inner22
    match hl : loops (loopNo Try.f22 1), h1 with
    | [x], _ => rfl
  have := setLoops_loops (loopNo Try.f22 1) []
  rw [List.append_nil, h] at this
  rw [this]
theorem iter_exit {body : Slots → St → Option (Ex × Slots × St)} {σ σ' : Slots} {st st' : St} {id k : Nat} (h : body σ (enter st) = some (.exit id, σ', st')) : iter body (k + 1) σ st = some (.exit id, popS σ st σ' st') := by
  rw [iter, h]
def clsD (d : D6) : P3 := (d.kind, d.tel, d.filt)
def settleOne (ps : List P4) (gs : Gs) (at_ : Int) (d : D6) : Int := best ps d.frm (if at_ < d.til then at_ else d.til) (idx gs (clsD d)) (-1)
def st22b (gs : Gs) (outs : List Int) : St := stG gs [.cells (cellsI outs)] [0] [(0, 0)]
theorem r22o (ds : List D6) (ps : List P4) (gs : Gs) (outs : List Int) (d : D6) (at_ : Int) (i : Nat) (hps : ps.length < 64) (hds : ds.length < 64) (hi : i < ds.length) (hol : outs.length = ds.length) (hd : ds[i] = d) (hL : (idx gs (clsD d)).length < 64) (hLi : ∀ x ∈ idx gs (clsD d), isIdx ps x) :
    ∃ σ' st', code Try.prog c22 64 K22 (loopNo Try.f22 1) (σ22b ds ps at_ i) (enter (st22b gs outs)) = some (.normal, σ', st') ∧
      popS (σ22b ds ps at_ i) (st22b gs outs) σ' st' = (σ22b ds ps at_ ((i + 1 : Nat) : Int), st22b gs (outs.set i (settleOne ps gs at_ d))) := by
  have hix := ixF (f := dC) un65 kn79 co79 ds hi
  have hld : ∀ st : St, load Try.prog st 79 (.pv (.pt ((ds.flatMap dC).drop (i * 6)))) = some (.agg ((dC d).map .pv)) := fun st => by
    have := ldF (f := dC) kn79 ag79 co79 (fun _ => rfl) st ds hi
    rw [hd] at this; exact this
  obtain ⟨s0, s1, s2⟩ := so77
  have w1 : IntKind.i64.wrap ((i : Int) + 1) = (i : Int) + 1 := by rw [IntKind.wrap_i64]; omega
  have hio := ixo ds.length i hi
  have hst := fun r ch ms => sto (.map (gents gs 0) gs.length) outs i (-1) (by omega) r ch ms
  obtain ⟨w, hlk, hlen, hw⟩ := lk82 gs (clsD d) [.cells (cellsI (outs.set i (-1))), .cells ((dC d).map .pv)] [0] [(2, 1), (0, 0)]
  have inner : iter (fun σ st => code Try.prog c22 64 K22 inner22 σ st) 64 (σ22c ds ps at_ i w (idx gs (clsD d)).length 0) (stI gs (outs.set i (-1)) d) =
      some (.exit 4, σ22c ds ps at_ i w (idx gs (clsD d)).length (idx gs (clsD d)).length, stI gs (outs.set i (settleOne ps gs at_ d)) d) := by
    rcases hw with ⟨rfl, h0⟩ | rfl
    · obtain ⟨σ', st', h1, h3⟩ := r22j ds ps gs (outs.set i (-1)) d nil at_ i 0 (.inr (.inl rfl)) 64
      have e0 : ((0 : Nat) : Int) = 0 := rfl
      rw [e0] at h1 h3
      rw [h0, List.length_nil, e0]
      rw [iter_exit (k := 63) h1, h3]
      simp only [settleOne, h0, best, List.foldl_nil]
    · have hil : i < outs.length := by omega
      have := k22i ds ps gs d (idx gs (clsD d)) at_ i hps hi hL hLi 64 64 0 (outs.set i (-1)) (-1) (by simpa using hol) (by simp [hil]) (.inl (by omega)) (Nat.zero_le _) (by omega)
      have e0 : ((0 : Nat) : Int) = 0 := rfl
      rw [List.drop_zero, List.set_set, e0] at this
      unfold settleOne
      rw [this]
  rw [body22]
  generalize inner22 = L at inner ⊢
  have hdl : (List.map AV.pv (dC d)) = [.pv (.sc (.int .i64 d.kind)), .pv (.sc (.int .i64 d.tel)), .pv (.sc (.int .i64 d.filt)), .pv (.sc (.int .i64 d.frm)), .pv (.sc (.int .i64 d.til)), .pv (.sc (.int .i64 d.prog))] := rfl
  have run : ∃ σ', code Try.prog c22 64 K22 (setLoops [L] (loopNo Try.f22 1)).1 (σ22b ds ps at_ i) (enter (st22b gs outs)) = some (.normal, σ', stI gs (outs.set i (settleOne ps gs at_ d)) d) ∧ (get σ' 0 = flat dC ds ∧ get σ' 1 = flat pC ps ∧ get σ' 2 = int at_ ∧ get σ' 6 = .g (.v 0) 0 [] ∧ get σ' 7 = int 0 ∧ get σ' 22 = bool false ∧ get σ' 8 = .lm 0 ∧ get σ' 24 = flat pC ps ∧ get σ' 25 = int ps.length ∧ get σ' 26 = int ps.length ∧
      get σ' 12 = .ls 1 0 ds.length ∧ get σ' 50 = flat dC ds ∧ get σ' 51 = int ds.length ∧ get σ' 52 = int ((i : Int) + 1)) := by
    simp only [stI, stG, σ22c, σ22b, List.cons_append, List.nil_append, int, bool, hdl] at inner hlk hlen
    simp only [hdl] at hld
    simp only [keyA, clsD] at hlk hlen inner
    simp only [K22] at inner
    have hsd : store Try.prog ⟨[.map (gents gs 0) gs.length, .cells (cellsI outs), .cells [.pv (.sc (.int .i64 0)), .pv (.sc (.int .i64 0)), .pv (.sc (.int .i64 0)), .pv (.sc (.int .i64 0)), .pv (.sc (.int .i64 0)), .pv (.sc (.int .i64 0))]], [0], [(2, 1), (0, 0)], 0, 0⟩ 79 (.lp 2 0)
        (.agg [.pv (.sc (.int .i64 d.kind)), .pv (.sc (.int .i64 d.tel)), .pv (.sc (.int .i64 d.filt)), .pv (.sc (.int .i64 d.frm)), .pv (.sc (.int .i64 d.til)), .pv (.sc (.int .i64 d.prog))]) =
        some ⟨[.map (gents gs 0) gs.length, .cells (cellsI outs), .cells [.pv (.sc (.int .i64 d.kind)), .pv (.sc (.int .i64 d.tel)), .pv (.sc (.int .i64 d.filt)), .pv (.sc (.int .i64 d.frm)), .pv (.sc (.int .i64 d.til)), .pv (.sc (.int .i64 d.prog))]], [0], [(2, 1), (0, 0)], 0, 0⟩ := by kernel_rfl
    simp [K22, loopNo, loops, setLoops, Try.f22, code, runL, stepU, wanted, op, op1, op2, op3, mem, st22b, σ22b, get, put, putO, opd, bin, binInt, int, bool, keepS_nil, keepS_cons, isInt, skipS, hi, hix, hld, hio, hst, hlk, hlen, inner, w1, zo79, kn79, co79, kn77, co77, zeroCells, countV, isNilV, zeros, hsd, splice, parts, one, push, down, old, load_lp, loadC, shift, fd0, fd1, fd2, kn3, ag3, co3, zo77, fk77, ag77, build, s0, s1, s2, fillP, openNil, countA, isNilA, arg, arg1, ofConst, scalar, enter, stI, stG, hdl]
  obtain ⟨σ', q, g0, g1, g2, g6, g7, g22, g8, g24, g25, g26, g12, g50, g51, g52⟩ := run
  refine ⟨σ', _, q, ?_⟩
  simp [popS, σ22b, g0, g1, g2, g6, g7, g22, g8, g24, g25, g26, g12, g50, g51, g52, stI, st22b, stG, enter, outT, TM.out, out1, down, old, oldCh, flat, int, bool]
theorem r22p (ds : List D6) (ps : List P4) (gs : Gs) (outs : List Int) (at_ : Int) (N : Nat) :
    ∃ σ' st', code Try.prog c22 N K22 (loopNo Try.f22 1) (σ22b ds ps at_ ds.length) (enter (st22b gs outs)) = some (.exit 2, σ', st') ∧ popS (σ22b ds ps at_ ds.length) (st22b gs outs) σ' st' = (σ22b ds ps at_ ds.length, st22b gs outs) := by
  have run : ∃ σ', code Try.prog c22 N K22 (loopNo Try.f22 1) (σ22b ds ps at_ ds.length) (enter (st22b gs outs)) = some (.exit 2, σ', enter (st22b gs outs)) ∧ (get σ' 0 = flat dC ds ∧ get σ' 1 = flat pC ps ∧ get σ' 2 = int at_ ∧ get σ' 6 = .g (.v 0) 0 [] ∧ get σ' 7 = int 0 ∧ get σ' 22 = bool false ∧ get σ' 8 = .lm 0 ∧ get σ' 24 = flat pC ps ∧ get σ' 25 = int ps.length ∧ get σ' 26 = int ps.length ∧
      get σ' 12 = .ls 1 0 ds.length ∧ get σ' 50 = flat dC ds ∧ get σ' 51 = int ds.length ∧ get σ' 52 = int ds.length) := by
    simp [K22, loopNo, loops, Try.f22, code, runL, stepU, wanted, op, op1, op2, op3, mem, σ22b, get, put, putO, opd, bin, binInt, int, bool, keepS_nil, keepS_cons, ofConst, scalar, enter, st22b, stG]
  obtain ⟨σ', q, g0, g1, g2, g6, g7, g22, g8, g24, g25, g26, g12, g50, g51, g52⟩ := run
  refine ⟨σ', _, q, ?_⟩
  simp [popS, σ22b, g0, g1, g2, g6, g7, g22, g8, g24, g25, g26, g12, g50, g51, g52, st22b, stG, enter, outT, TM.out, out1, down, old, oldCh, flat, int, bool]
theorem k22b (ds : List D6) (ps : List P4) (gs : Gs) (at_ : Int) (hps : ps.length < 64) (hds : ds.length < 64) (hL : ∀ d ∈ ds, (idx gs (clsD d)).length < 64 ∧ ∀ x ∈ idx gs (clsD d), isIdx ps x) : ∀ (k i : Nat) (outs : List Int),
    outs.length = ds.length → i ≤ ds.length → ds.length < i + k →
    iter (fun σ st => code Try.prog c22 64 K22 (loopNo Try.f22 1) σ st) k (σ22b ds ps at_ i) (st22b gs outs) = some (.exit 2, σ22b ds ps at_ ds.length, st22b gs (outs.take i ++ (ds.drop i).map (settleOne ps gs at_)))
  | 0, i, outs, _, h, h2 => by omega
  | k + 1, i, outs, ho, h, h2 => by
    by_cases hi : i = ds.length
    · subst hi
      obtain ⟨σ', st', h1, h3⟩ := r22p ds ps gs outs at_ 64
      rw [iter_exit (k := k) h1, h3]
      rw [List.drop_length, List.map_nil, List.append_nil, List.take_of_length_le (by omega)]
    · have hlt : i < ds.length := by omega
      obtain ⟨hL1, hL2⟩ := hL ds[i] (List.getElem_mem hlt)
      obtain ⟨σ', st', h1, h3⟩ := r22o ds ps gs outs ds[i] at_ i hps hds hlt ho rfl hL1 hL2
      rw [iter, h1]
      simp only [h3]
      rw [k22b ds ps gs at_ hps hds hL k (i + 1) _ (by simpa using ho) (by omega) (by omega)]
      have e : (outs.set i (settleOne ps gs at_ ds[i])).take (i + 1) ++ (ds.drop (i + 1)).map (settleOne ps gs at_) = outs.take i ++ (ds.drop i).map (settleOne ps gs at_) := by
        rw [List.drop_eq_getElem_cons hlt, List.map_cons]
        have hi' : i < outs.length := by omega
        rw [List.take_add_one, List.take_set_of_le (Nat.le_refl _)]
        simp [hi']
      rw [e]
end Go.TM
