/- ReleaseGrades on the tree machine: Settle, its first loop. -/
import Derived.Test.YtjoajdlnfgfjgaaTmGe
namespace Go.TM
open Go.Proofs
set_option maxRecDepth 100000
set_option maxHeartbeats 4000000
set_option linter.all false
def decD : List PV → Option (List D6)
  | [] => some []
  | .sc (.int .i64 a) :: .sc (.int .i64 b) :: .sc (.int .i64 c) :: .sc (.int .i64 d) :: .sc (.int .i64 e) :: .sc (.int .i64 f) :: r => match decD r with
    | some l => some (⟨a, b, c, d, e, f⟩ :: l)
    | none => none
  | _ => none
theorem decD_enc (l : List D6) : decD (l.flatMap dC) = some l := by
  induction l with
  | nil => rfl
  | cons x l ih =>
    show (match decD (l.flatMap dC) with | some l => some (_ :: l) | none => none) = _
    rw [ih]
theorem decD_dec : ∀ (cs : List PV) (l : List D6), decD cs = some l → cs = l.flatMap dC := by
  intro cs
  induction cs using decD.induct with
  | case1 => intro l h; obtain rfl := Option.some.inj h; rfl
  | case2 a b c d e f r l' hl' ih =>
    intro l h
    simp only [decD, hl'] at h
    obtain rfl := Option.some.inj h
    rw [ih l' hl']; rfl
  | case3 a b c d e f r hn ih => intro l h; simp only [decD, hn] at h; cases h
  | case4 cs h1 h2 => intro l h; rw [decD] at h; cases h; exact h1; exact h2
def decP : List PV → Option (List P4)
  | [] => some []
  | .sc (.int .i64 a) :: .sc (.int .i64 b) :: .sc (.int .i64 c) :: .sc (.int .i64 d) :: r => match decP r with
    | some l => some (⟨a, b, c, d⟩ :: l)
    | none => none
  | _ => none
theorem decP_enc (l : List P4) : decP (l.flatMap pC) = some l := by
  induction l with
  | nil => rfl
  | cons x l ih =>
    show (match decP (l.flatMap pC) with | some l => some (_ :: l) | none => none) = _
    rw [ih]
theorem decP_dec : ∀ (cs : List PV) (l : List P4), decP cs = some l → cs = l.flatMap pC := by
  intro cs
  induction cs using decP.induct with
  | case1 => intro l h; obtain rfl := Option.some.inj h; rfl
  | case2 a b c d r l' hl' ih =>
    intro l h
    simp only [decP, hl'] at h
    obtain rfl := Option.some.inj h
    rw [ih l' hl']; rfl
  | case3 a b c d r hn ih => intro l h; simp only [decP, hn] at h; cases h
  | case4 cs h1 h2 => intro l h; rw [decP] at h; cases h; exact h1; exact h2
def spec29 : List AV → Option AV
  | [.pv (.sl n cs), .pv (.sl m es), .pv (.sc (.int .i64 at_))] => match decD cs, decP es with
    | some ds, some ps => if (ds.length = n ∧ n < 64) ∧ ps.length = m ∧ m < 64 then some (bool (okAll ds ps at_)) else none
    | _, _ => none
  | _ => none
noncomputable def c22 : CallF := tab (tab none0 26 spec26) 29 spec29
theorem q26s (n lo hi : Int) (st : St) : c22 26 [.pv (.sc (.int .i64 n)), .pv (.sc (.int .i64 lo)), .pv (.sc (.int .i64 hi))] st = some (.pv (.sc (.bool (inside n lo hi))), st) := rfl
theorem q29 (ds : List D6) (ps : List P4) (at_ : Int) (hd : ds.length < 64) (hp : ps.length < 64) (st : St) : c22 29 [flat dC ds, flat pC ps, .pv (.sc (.int .i64 at_))] st = some (bool (okAll ds ps at_), st) := by
  show (match spec29 [flat dC ds, flat pC ps, .pv (.sc (.int .i64 at_))] with | some v => some (v, st) | none => none) = _
  simp only [spec29, flat, decD_enc, decP_enc, hd, hp, and_self, if_true]
def K22 : List Nat := [0, 1, 2, 6, 7, 8, 9, 10, 11, 12, 13, 14, 16, 17, 22, 24, 25, 26, 27, 50, 51, 52, 53, 68, 69, 70, 71, 105]
def σ22 (ds : List D6) (ps : List P4) (at_ i : Int) : Slots := [(0, flat dC ds), (1, flat pC ps), (2, int at_), (6, .g (.v 0) 0 []), (7, int 0), (22, bool false), (8, .lm 0), (24, flat pC ps), (25, int ps.length), (26, int i)]
def st22 (gs : Gs) : St := stG gs [] [0] [(0, 0)]
def clsP (p : P4) : P3 := (p.kind, p.tel, p.filt)
theorem co77 : Program.cellsOf Try.prog 77 = 3 := by kernel_rfl
theorem kn77 : known Try.prog 77 = true := by kernel_rfl
def tot : Gs → Nat
  | [] => 0
  | x :: r => x.2.length + tot r
theorem tot_append : ∀ (a b : Gs), tot (a ++ b) = tot a + tot b
  | [], b => by simp [tot]
  | x :: r, b => by simp only [List.cons_append, tot, tot_append r b]; omega
theorem tot_addG (p : P3) (i : Int) : ∀ gs : Gs, tot (addG gs p i) = tot gs + 1
  | [] => rfl
  | x :: r => by
    unfold addG
    split
    · simp only [tot, List.length_append, List.length_singleton]; omega
    · simp only [tot, tot_addG p i r]; omega
theorem r22 (ds : List D6) (ps : List P4) (gs : Gs) (p : P4) (at_ : Int) (i : Nat) (hi : i < ps.length) (hb : ps.length < 64) (hg : tot gs < 64) (hp : ps[i] = p) (N : Nat) :
    ∃ σ' st', code Try.prog c22 N K22 (loopNo Try.f22 0) (σ22 ds ps at_ i) (enter (st22 gs)) = some (.normal, σ', st') ∧ popS (σ22 ds ps at_ i) (st22 gs) σ' st' = (σ22 ds ps at_ ((i + 1 : Nat) : Int), st22 (addG gs (clsP p) i)) := by
  have hix := ixF (f := pC) un34 kn52 co52 ps hi
  have hld : ∀ st : St, load Try.prog st 52 (.pv (.pt ((ps.flatMap pC).drop (i * 4)))) = some (.agg ((pC p).map .pv)) := fun st => by
    have := ldF (f := pC) kn52 ag52 co52 (fun _ => rfl) st ps hi
    rw [hp] at this; exact this
  obtain ⟨s0, s1, s2⟩ := so77
  have w1 : IntKind.i64.wrap ((i : Int) + 1) = (i : Int) + 1 := by rw [IntKind.wrap_i64]; omega
  simp only [pC, pint, List.map_cons, List.map_nil] at hld
  have r3 : [Obj.cells [int p.kind, int p.tel, int p.filt, int p.at_], .cells [int p.kind, int p.tel, int p.filt], .cells [.pv (.sc (.int .i64 i))]] = [Obj.cells [int p.kind, int p.tel, int p.filt, int p.at_], .cells [int p.kind, int p.tel, int p.filt], .cells [.pv (.sc (.int .i64 i))]] := rfl
  obtain ⟨g1, l, g2, hme, hadd⟩ := me82 gs (clsP p) [.cells [int p.kind, int p.tel, int p.filt, int p.at_], .cells [int p.kind, int p.tel, int p.filt], .cells [.pv (.sc (.int .i64 i))]] [0] [(1, 1), (0, 0)]
  have hll : l.length < 1000 := by
    have h1 := tot_addG (clsP p) 0 gs
    rw [hadd 0, tot_append] at h1
    simp only [tot, List.length_append, List.length_singleton] at h1
    omega
  have hap := ap82 g1 (clsP p) l g2 (.cells [int p.kind, int p.tel, int p.filt, int p.at_]) (.cells [int p.kind, int p.tel, int p.filt]) i [0] [(1, 1), (0, 0)] hll
  have hes := es82 g1 (clsP p) l g2 [.cells [int p.kind, int p.tel, int p.filt, int p.at_], .cells [int p.kind, int p.tel, int p.filt], .cells [.pv (.sc (.int .i64 i))]] i [0] [(1, 1), (0, 0)]
  rw [hadd]
  generalize hG2 : g1 ++ (clsP p, l ++ [(i : Int)]) :: g2 = G2 at hes ⊢
  generalize hL2 : l ++ [(i : Int)] = L2 at hap hes
  simp only [stH] at hap hes
  generalize hM : mid g1 (clsP p) l g2 = M at hap hes
  generalize hG1 : g1 ++ (clsP p, l) :: g2 = G1 at hme hap hes
  simp only [keyA, clsP, stG, int] at hme hap hes
  have run : ∃ σ', code Try.prog c22 N K22 (loopNo Try.f22 0) (σ22 ds ps at_ i) (enter (st22 gs)) = some (.normal, σ', stG G2 [.cells [int p.kind, int p.tel, int p.filt, int p.at_], .cells [int p.kind, int p.tel, int p.filt], .cells [int i]] [0] [(1, 1), (0, 0)]) ∧
      get σ' 0 = flat dC ds ∧ get σ' 1 = flat pC ps ∧ get σ' 2 = int at_ ∧ get σ' 6 = .g (.v 0) 0 [] ∧ get σ' 7 = int 0 ∧ get σ' 22 = bool false ∧ get σ' 8 = .lm 0 ∧ get σ' 24 = flat pC ps ∧ get σ' 25 = int ps.length ∧ get σ' 26 = int ((i : Int) + 1) := by
    simp only [st22, stG, int, bool, clsP]
    simp [K22, loopNo, loops, Try.f22, code, runL, stepU, stepD, isWr, op1D, memD, mem, op2, op3, wanted, op, op1, σ22, get, put, putO, opd, bin, binInt, int, bool, hi, keepS_nil, keepS_cons, hix, isInt, hld, w1, skipS, zo52, zeroCells, countV, isNilV, zeros, store, kn52, co52, kn77, co77, stored, limit, splice, setH, parts, one, push, down, old, load_lp, loadC, shift, fp0, fp1, fp2, kn3, ag3, co3, zo77, fk77, ag77, build, buildSlice, un68, zo3, rep, s0, s1, s2, fillP, openNil, countA, isNilA, arg, arg1, ofConst, scalar, enter, hme, hap, hes, sl68]
  obtain ⟨σ', q, g0, g1', g2', g6, g7, g22, g8, g24, g25, g26⟩ := run
  refine ⟨σ', _, q, ?_⟩
  simp [popS, σ22, g0, g1', g2', g6, g7, g22, g8, g24, g25, g26, st22, stG, enter, outT, TM.out, out1, down, old, oldCh, flat, int, bool]
theorem r22e (ds : List D6) (ps : List P4) (gs : Gs) (at_ : Int) (N : Nat) :
    ∃ σ', code Try.prog c22 N K22 (loopNo Try.f22 0) (σ22 ds ps at_ ps.length) (enter (st22 gs)) = some (.exit 0, σ', enter (st22 gs)) ∧ popS (σ22 ds ps at_ ps.length) (st22 gs) σ' (enter (st22 gs)) = (σ22 ds ps at_ ps.length, st22 gs) := by
  simp [K22, loopNo, loops, Try.f22, code, runL, stepU, wanted, op, op1, σ22, get, put, putO, opd, bin, binInt, int, bool, keepS_nil, keepS_cons, ofConst, scalar, enter, st22, stG, popS, outT, TM.out, out1, down, old, oldCh, flat]
def classes : Gs → Int → List P4 → Gs
  | gs, _, [] => gs
  | gs, i, p :: r => classes (addG gs (clsP p) i) (i + 1) r
theorem k22a (ds : List D6) (ps : List P4) (at_ : Int) (hb : ps.length < 64) (N : Nat) : ∀ (k i : Nat) (gs : Gs), i ≤ ps.length → ps.length < i + k → tot gs ≤ i →
    iter (fun σ st => code Try.prog c22 N K22 (loopNo Try.f22 0) σ st) k (σ22 ds ps at_ i) (st22 gs) = some (.exit 0, σ22 ds ps at_ ps.length, st22 (classes gs i (ps.drop i)))
  | 0, i, gs, h, h2, _ => by omega
  | k + 1, i, gs, h, h2, ht => by
    simp only [iter]
    by_cases hi : i = ps.length
    · subst hi
      obtain ⟨σ', h1, h3⟩ := r22e ds ps gs at_ N
      rw [h1]
      simp only [h3, List.drop_length, classes]
    · have hlt : i < ps.length := by omega
      obtain ⟨σ', st', h1, h3⟩ := r22 ds ps gs ps[i] at_ i hlt hb (by omega) rfl N
      rw [h1]
      simp only [h3]
      rw [k22a ds ps at_ hb N k (i + 1) _ (by omega) (by omega) (by rw [tot_addG]; omega), List.drop_eq_getElem_cons hlt]
      simp only [classes]
      rfl
end Go.TM
