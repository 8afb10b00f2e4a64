/- ReleaseGrades on the tree machine: Settle answers; Paid. -/
import Derived.Test.YtjoajdlnfgfjgaaTmGi
namespace Go.TM
open Go.Proofs
set_option maxRecDepth 100000
set_option maxHeartbeats 4000000
set_option linter.all false
/-- the payments of a class, from index i on -/
def posns (p : P3) : List P4 → Int → List Int
  | [], _ => []
  | x :: r, i => if clsP x = p then i :: posns p r (i + 1) else posns p r (i + 1)
theorem idx_addG (p q : P3) (i : Int) : ∀ gs : Gs, idx (addG gs q i) p = if q = p then idx gs p ++ [i] else idx gs p
  | [] => by simp only [addG, idx]; split <;> simp
  | x :: r => by
    have ih := idx_addG p q i r
    by_cases hx : x.1 = q
    · by_cases hp : q = p
      · simp [addG, idx, hx, hp]
      · simp [addG, idx, hx, hp]
    · by_cases hxp : x.1 = p
      · have : ¬ q = p := fun e => hx (hxp.trans e.symm)
        rw [addG, if_neg hx, idx, if_pos hxp, idx, if_pos hxp, if_neg this]
      · simp only [addG, idx, hx, hxp, if_false, ih]
theorem idx_classes (p : P3) : ∀ (ps : List P4) (gs : Gs) (i : Int), idx (classes gs i ps) p = idx gs p ++ posns p ps i
  | [], gs, i => by simp [classes, posns]
  | x :: r, gs, i => by
    rw [classes, idx_classes p r, idx_addG, posns]
    split <;> simp
theorem posns_len (p : P3) : ∀ (ps : List P4) (i : Int), (posns p ps i).length ≤ ps.length
  | [], i => Nat.le_refl _
  | x :: r, i => by
    have := posns_len p r (i + 1)
    unfold posns
    split <;> simp only [List.length_cons] <;> omega
theorem mem_posns (p : P3) (k : Int) : ∀ (ps : List P4) (i : Int), k ∈ posns p ps i ↔ ∃ (j : Nat) (x : P4), ps[j]? = some x ∧ clsP x = p ∧ k = i + j
  | [], i => by simp [posns]
  | x :: r, i => by
    have ih := mem_posns p k r (i + 1)
    have e : k ∈ posns p (x :: r) i ↔ (clsP x = p ∧ k = i) ∨ k ∈ posns p r (i + 1) := by
      show k ∈ (if clsP x = p then i :: posns p r (i + 1) else posns p r (i + 1)) ↔ _
      split
      · rename_i h; simp [h]
      · rename_i h; simp [h]
    rw [e, ih]
    constructor
    · rintro (⟨h1, h2⟩ | ⟨j, y, h1, h2, h3⟩)
      · exact ⟨0, x, rfl, h1, by simpa using h2⟩
      · exact ⟨j + 1, y, by simpa using h1, h2, by omega⟩
    · rintro ⟨j, y, h1, h2, h3⟩
      cases j with
      | zero => obtain rfl := Option.some.inj h1; exact .inl ⟨h2, by simpa using h3⟩
      | succ j => exact .inr ⟨j, y, by simpa using h1, h2, by omega⟩
theorem posns_idx (p : P3) (ps : List P4) (x : Int) (h : x ∈ posns p ps 0) : isIdx ps x := by
  obtain ⟨j, y, h1, _, h3⟩ := (mem_posns p x ps 0).1 h
  refine ⟨by omega, y, ?_⟩
  have : x.toNat = j := by omega
  rw [this]; exact h1
/-- an index is found just if one of the class lies between -/
theorem best_iff (ps : List P4) (frm mn : Int) : ∀ (L : List Int) (o : Int), (∀ x ∈ L, isIdx ps x) → (0 ≤ best ps frm mn L o ↔ 0 ≤ o ∨ ∃ x ∈ L, ∃ p, ps[x.toNat]? = some p ∧ inside p.at_ frm mn = true)
  | [], o, _ => by simp [best]
  | x :: L, o, h => by
    have ih := best_iff ps frm mn L (pickK ps frm mn o x) fun y hy => h y (List.mem_cons_of_mem _ hy)
    have e : best ps frm mn (x :: L) o = best ps frm mn L (pickK ps frm mn o x) := rfl
    obtain ⟨hx0, p, hp⟩ := h x (List.mem_cons_self ..)
    have e2 : 0 ≤ pickK ps frm mn o x ↔ 0 ≤ o ∨ inside p.at_ frm mn = true := by
      unfold pickK
      rw [hp]
      simp only
      cases hin : inside p.at_ frm mn
      · simp
      · simp only [if_true, or_true, iff_true]
        split
        · exact hx0
        · split
          · split
            · exact hx0
            · omega
          · omega
    rw [e, ih, e2]
    constructor
    · rintro ((h1 | h1) | ⟨y, hy, q⟩)
      · exact .inl h1
      · exact .inr ⟨x, List.mem_cons_self .., p, hp, h1⟩
      · exact .inr ⟨y, List.mem_cons_of_mem _ hy, q⟩
    · rintro (h1 | ⟨y, hy, q⟩)
      · exact .inl (.inl h1)
      · rcases List.mem_cons.1 hy with rfl | hy
        · obtain ⟨p', hp', hq⟩ := q
          rw [hp] at hp'
          obtain rfl := Option.some.inj hp'
          exact .inl (.inr hq)
        · exact .inr ⟨y, hy, q⟩
theorem arg_int (k : IntKind) (n : Int) : arg (.pv (.sc (.int k n))) = .pv (.sc (.int k n)) := rfl
theorem fun22 : Try.prog.funcs[22]? = some Try.f22 := by kernel_rfl
theorem rep_rep : ∀ n : Nat, rep [int 0] n = cellsI (List.replicate n 0)
  | 0 => rfl
  | n + 1 => by
    show int 0 :: rep [int 0] n = _
    rw [rep_rep n]; rfl
theorem mk68 (n : Nat) (h : n < 64) : makeSlice Try.prog 68 (.pv (.sc (.int .i64 n))) (.pv (.sc (.int .i64 n))) = some (n, cellsI (List.replicate n 0)) := by
  have h1 : (n : Int) ≤ 1073741824 := by omega
  have h2 : (n : Int) * 8 ≤ 70368744177664 := by omega
  have := rep_rep n
  simp only [int] at this
  simp [makeSlice, un68, zo3, co3, by3, scalar, h1, h2, ofConst, this]
def settle (ds : List D6) (ps : List P4) (at_ : Int) : List Int := ds.map (settleOne ps (classes [] 0 ps) at_)
def res22 (ds : List D6) (ps : List P4) (at_ : Int) : AV := if okAll ds ps at_ then .tup [flat (fun n => [pint n]) (settle ds ps at_), int 0] else .tup [.pv (.sl 0 []), int 1]
theorem pures_cells : ∀ l : List Int, pures (cellsI l) = some (l.map pint)
  | [] => rfl
  | x :: r => by
    show (match pures (cellsI r) with | some ps => some (pint x :: ps) | none => none) = _
    rw [pures_cells r]; rfl
theorem x22 (ds : List D6) (ps : List P4) (at_ : Int) (hd : ds.length < 64) (hp : ps.length < 64) :
    ∃ st', callBody Try.prog (fun _ => K22) 64 c22 22 [flat dC ds, flat pC ps, int at_] st0 = some (res22 ds ps at_, st') := by
  have i1 := k22a ds ps at_ hp 64 64 0 [] (Nat.zero_le _) (by omega) (Nat.le_refl _)
  have hL : ∀ d ∈ ds, (idx (classes [] 0 ps) (clsD d)).length < 64 ∧ ∀ x ∈ idx (classes [] 0 ps) (clsD d), isIdx ps x := by
    intro d _
    rw [idx_classes]
    simp only [idx, List.nil_append]
    exact ⟨Nat.lt_of_le_of_lt (posns_len _ _ _) hp, fun x hx => posns_idx _ _ _ hx⟩
  have i2 := k22b ds ps (classes [] 0 ps) at_ hp hd hL 64 0 (List.replicate ds.length 0) (by simp) (Nat.zero_le _) (by omega)
  have e0 : ((0 : Nat) : Int) = 0 := rfl
  rw [List.drop_zero, e0] at i1
  rw [List.drop_zero, List.take_zero, List.nil_append, e0] at i2
  have hmk := mk68 ds.length hd
  have h29 := q29 ds ps at_ hd hp
  have l1 := fun st => lenF (f := dC) un65 st ds
  have l2 := fun st => lenF (f := pC) un34 st ps
  have hbody : Try.f22.body = some (put3 Try.f22 [loopNo Try.f22 0, loopNo Try.f22 1]) := by
    have hb : ∃ b, Try.f22.body = some b ∧ (loops b).length = 2 := ⟨_, rfl, by kernel_rfl⟩
    obtain ⟨b, hb, h2⟩ := hb
    unfold put3 loopNo
    rw [hb]
    have := setLoops_loops b []
    rw [List.append_nil] at this
    simp only
    match hl : loops b, h2 with
    | [x, y], _ =>
      rw [hl] at this
      simp only [List.getD_cons_zero, List.getD_cons_succ, this]
  simp only [callBody, fun22]
  rw [hbody]
  generalize loopNo Try.f22 0 = L1 at i1 ⊢
  generalize loopNo Try.f22 1 = L2 at i2 ⊢
  simp only [K22, σ22, σ22b, st22, st22b, stG, gents, List.length_nil, int, bool] at i1 i2 l1 l2 h29
  have hset : ds.map (settleOne ps (classes [] 0 ps) at_) = settle ds ps at_ := rfl
  rw [hset] at i2
  have hpu := pures_cells (settle ds ps at_)
  have hfl := flat_pint (settle ds ps at_)
  have hsl : (settle ds ps at_).length = ds.length := by simp [settle]
  rw [hsl] at hfl
  cases hok : okAll ds ps at_
  case false =>
    simp only [hok] at h29
    simp [res22, hok, K22, put3, setLoops, Try.f22, code, runL, stepU, wanted, op, op1, op2, op3, mem, enter, number, get, put, putO, keepS_nil, keepS_cons, opd, ofConst, scalar, h29, arg_flat, unop, int, bool, bin, binInt, arg_int, results, tuple, outT, TM.out, out1, down, old, oldCh, st0]
  simp only [hok] at h29
  simp [res22, hok, K22, put3, setLoops, Try.f22, code, runL, stepU, wanted, op, op1, op2, op3, mem, enter, number, get, put, putO, keepS_nil, keepS_cons, opd, ofConst, scalar, h29, arg_flat, unop, int, bool, bin, binInt, arg_int, i1, i2, l1, l2, hmk, hpu, hfl, push, results, tuple, outT, TM.out, out1, down, old, oldCh, st0]
end Go.TM
