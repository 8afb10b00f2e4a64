/- ReleaseGrades on the tree machine: Settle, its loops. -/
import Derived.Test.YtjoajdlnfgfjgaaTmGg
namespace Go.TM
open Go.Proofs
set_option maxRecDepth 100000
set_option maxHeartbeats 4000000
set_option linter.all false
theorem r22j (ds : List D6) (ps : List P4) (gs : Gs) (outs : List Int) (d : D6) (w : AV) (at_ : Int) (i m : Nat) (hw : w = flat (fun n => [pint n]) ([] : List Int) ∨ w = nil ∨ ∃ L : List Int, w = flat (fun n => [pint n]) L) (N : Nat) :
    ∃ σ' st', code Try.prog c22 N K22 inner22 (σ22c ds ps at_ i w m m) (enter (stI gs outs d)) = some (.exit 4, σ', st') ∧ popS (σ22c ds ps at_ i w m m) (stI gs outs d) σ' st' = (σ22c ds ps at_ i w m m, stI gs outs d) := by
  have run : ∃ σ', code Try.prog c22 N K22 inner22 (σ22c ds ps at_ i w m m) (enter (stI gs outs d)) = some (.exit 4, σ', enter (stI gs outs d)) ∧ (get σ' 0 = flat dC ds ∧ get σ' 1 = flat pC ps ∧ get σ' 2 = int at_ ∧ get σ' 6 = .g (.v 0) 0 [] ∧ get σ' 7 = int 0 ∧ get σ' 22 = bool false ∧ get σ' 8 = .lm 0 ∧ get σ' 24 = flat pC ps ∧ get σ' 25 = int ps.length ∧ get σ' 26 = int ps.length ∧
      get σ' 12 = .ls 1 0 ds.length ∧ get σ' 50 = flat dC ds ∧ get σ' 51 = int ds.length ∧ get σ' 52 = int i ∧ get σ' 53 = bool true ∧ get σ' 14 = .lp 2 0 ∧ get σ' 13 = int i ∧ get σ' 68 = w ∧ get σ' 69 = int m ∧ get σ' 70 = int m) := by
    simp [K22, inner22, loopNo, loops, Try.f22, code, runL, stepU, wanted, op, op1, op2, op3, mem, σ22c, σ22b, get, put, putO, opd, bin, binInt, int, bool, keepS_nil, keepS_cons, ofConst, scalar, enter, stI, stG]
  obtain ⟨σ', q, g0, g1, g2, g6, g7, g22, g8, g24, g25, g26, g12, g50, g51, g52, g53, g14, g13, g68, g69, g70⟩ := run
  refine ⟨σ', _, q, ?_⟩
  have hw' : outT (enter (stI gs outs d)) (stI gs outs d).h.length (stI gs outs d).ch.length w = w := by
    rcases hw with rfl | rfl | ⟨L, rfl⟩ <;> rfl
  simp only [popS, σ22c, σ22b, List.map_cons, List.map_nil, List.cons_append, List.nil_append, g0, g1, g2, g6, g7, g22, g8, g24, g25, g26, g12, g50, g51, g52, g53, g14, g13, g68, g69, g70, hw']
  simp [stI, stG, enter, outT, TM.out, out1, down, old, oldCh, flat, int, bool]
def best (ps : List P4) (frm mn : Int) (L : List Int) (o : Int) : Int := L.foldl (pickK ps frm mn) o
abbrev isIdx (ps : List P4) (x : Int) : Prop := 0 ≤ x ∧ ∃ p, ps[x.toNat]? = some p
theorem pickK_ok (ps : List P4) (frm mn o x : Int) (ho : o < 0 ∨ isIdx ps o) (hx : isIdx ps x) : pickK ps frm mn o x < 0 ∨ isIdx ps (pickK ps frm mn o x) := by
  have h : pickK ps frm mn o x = o ∨ pickK ps frm mn o x = x := by
    unfold pickK
    split
    · split
      · split
        · exact .inr rfl
        · split
          · split
            · exact .inr rfl
            · exact .inl rfl
          · exact .inl rfl
      · exact .inl rfl
    · exact .inl rfl
  rcases h with h | h <;> rw [h]
  · exact ho
  · exact .inr hx
theorem k22i (ds : List D6) (ps : List P4) (gs : Gs) (d : D6) (L : List Int) (at_ : Int) (i : Nat) (hps : ps.length < 64) (hi : i < ds.length) (hL : L.length < 64) (hLi : ∀ x ∈ L, isIdx ps x) (N : Nat) : ∀ (k j : Nat) (outs : List Int) (o : Int),
    outs.length = ds.length → outs[i]? = some o → (o < 0 ∨ isIdx ps o) → j ≤ L.length → L.length < j + k →
    iter (fun σ st => code Try.prog c22 N K22 inner22 σ st) k (σ22c ds ps at_ i (flat (fun n => [pint n]) L) L.length j) (stI gs outs d) =
      some (.exit 4, σ22c ds ps at_ i (flat (fun n => [pint n]) L) L.length L.length, stI gs (outs.set i (best ps d.frm (if at_ < d.til then at_ else d.til) (L.drop j) o)) d)
  | 0, j, outs, o, _, _, _, h, h2 => by omega
  | k + 1, j, outs, o, hol, ho, hov, h, h2 => by
    simp only [iter]
    by_cases hj : j = L.length
    · subst hj
      obtain ⟨σ', st', h1, h3⟩ := r22j ds ps gs outs d (flat (fun n => [pint n]) L) at_ i L.length (.inr (.inr ⟨L, rfl⟩)) N
      rw [h1]
      have : outs.set i o = outs := by
        obtain ⟨h, rfl⟩ := List.getElem?_eq_some_iff.1 ho
        simp
      simp only [h3, List.drop_length, best, List.foldl_nil, this]
    · have hlt : j < L.length := by omega
      obtain ⟨hx0, p, hxp⟩ := hLi L[j] (List.getElem_mem hlt)
      obtain ⟨r, hr⟩ := ixF' (f := fun n => [pint n]) un68 kn3 co3 (fun _ => rfl) L L[j] (j : Int) (by omega) (by simp [hlt])
      obtain ⟨σ', st', h1, h3⟩ := r22i ds ps gs outs d (flat (fun n => [pint n]) L) L p at_ L[j] o i j hps hi hol hlt hL ⟨r, hr⟩ rfl rfl hx0 hxp ho (by
        rcases hov with h | ⟨h, q, hq⟩
        · exact .inl h
        · exact .inr ⟨q, h, hq⟩) N
      rw [h1]
      simp only [h3]
      have hil : i < outs.length := by omega
      rw [k22i ds ps gs d L at_ i hps hi hL hLi N k (j + 1) _ _ (by simpa using hol) (by simp [hil]; rfl) (pickK_ok ps _ _ o L[j] hov (hLi L[j] (List.getElem_mem hlt))) (by omega) (by omega)]
      rw [List.drop_eq_getElem_cons hlt, List.set_set]
      rfl
def idx : Gs → P3 → List Int
  | [], _ => []
  | x :: r, p => if x.1 = p then x.2 else idx r p
theorem flat_pint (l : List Int) : AV.pv (.sl l.length (l.map pint)) = flat (fun n => [pint n]) l := by
  unfold flat
  congr 2
  induction l with
  | nil => rfl
  | cons x r ih => simp [List.flatMap_cons, ih]
theorem idx_not (p : P3) : ∀ (g1 : Gs) (l : List Int) (g2 : Gs), (∀ i, addG (g1 ++ (p, l) :: g2) p i = g1 ++ (p, l ++ [i]) :: g2) → idx (g1 ++ (p, l) :: g2) p = l
  | [], l, g2, _ => by simp [idx]
  | x :: r, l, g2, h => by
    by_cases hx : x.1 = p
    · have := h 0
      simp only [List.cons_append, addG, hx, if_true] at this
      have h1 := (List.cons.inj this).1
      have h2 := congrArg (fun y => y.2.length) h1
      simp at h2
    · simp only [List.cons_append, idx, hx, if_false]
      refine idx_not p r l g2 fun i => ?_
      have := h i
      simp only [List.cons_append, addG, hx, if_false] at this
      exact (List.cons.inj this).2
theorem idx_none (p : P3) : ∀ gs : Gs, (∀ i, addG gs p i = gs ++ [(p, [i])]) → idx gs p = []
  | [], _ => rfl
  | x :: r, h => by
    by_cases hx : x.1 = p
    · have := h 0
      simp only [addG, hx, if_true, List.cons_append] at this
      have h1 := (List.cons.inj this).1
      have h2 := congrArg (fun y => y.2.length) h1
      simp at h2
    · simp only [idx, hx, if_false]
      refine idx_none p r fun i => ?_
      have := h i
      simp only [addG, hx, if_false, List.cons_append] at this
      exact (List.cons.inj this).2
theorem lk82 (gs : Gs) (p : P3) (r : List Obj) (ch : List Nat) (ms : List (Nat × Nat)) : ∃ w, lookup Try.prog (stG gs r ch ms) 82 (.lm 0) (keyA p) false = some w ∧ (∀ st, lenOf Try.prog st 68 w = some (int (idx gs p).length)) ∧
    ((w = nil ∧ idx gs p = []) ∨ w = flat (fun n => [pint n]) (idx gs p)) := by
  have hk : keyOf (keyA p) = some (true, k3 p) := rfl
  have hh : (stG gs r ch ms).h[0]? = some (.map (gents gs 0) gs.length) := rfl
  rcases find77 p gs 0 with ⟨h1, h2⟩ | ⟨g1, l, g2, rfl, h2, h3⟩
  · refine ⟨nil, ?_, fun st => ?_, .inl ⟨rfl, idx_none p gs h2⟩⟩
    · simp only [lookup, un82, hk, hh, ko77, ag77, h1, za68, Bool.true_and, beq_self_eq_true, if_true]
      rfl
    · rw [idx_none p gs h2]
      simp [lenOf, un68, nil, int]
  · have hi := idx_not p g1 l g2 h3
    refine ⟨flat (fun n => [pint n]) l, ?_, fun st => ?_, .inr (by rw [hi])⟩
    · simp only [lookup, un82, hk, hh, ko77, ag77, h2, Bool.true_and, beq_self_eq_true, if_true]
      rw [← flat_pint]
      rfl
    · rw [hi]
      exact lenF un68 st l
end Go.TM
