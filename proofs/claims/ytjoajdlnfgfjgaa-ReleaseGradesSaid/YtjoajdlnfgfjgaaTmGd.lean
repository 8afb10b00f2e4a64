/- ReleaseGrades on the tree machine: valid, whole. -/
import Derived.Test.YtjoajdlnfgfjgaaTmGc
namespace Go.TM
open Go.Proofs
set_option maxRecDepth 100000
set_option maxHeartbeats 4000000
set_option linter.all false
/-- a loop that goes through its rounds until one leaves it -/
theorem iter_scan {body : Slots → St → Option (Ex × Slots × St)} {S : Nat → Slots × St} {ok : Nat → Bool} {n : Nat} {R : Nat → Ex → Slots × St → Prop} {Q : Ex → Slots × St → Prop}
    (hg : ∀ i, i < n → ok i = true → ∃ σ' st', body (S i).1 (enter (S i).2) = some (.normal, σ', st') ∧ popS (S i).1 (S i).2 σ' st' = S (i + 1))
    (hb : ∀ i, i < n → ok i = false → ∃ e σ' st', body (S i).1 (enter (S i).2) = some (e, σ', st') ∧ e ≠ .normal ∧ R i e (popS (S i).1 (S i).2 σ' st'))
    (he : ∃ e σ' st', body (S n).1 (enter (S n).2) = some (e, σ', st') ∧ e ≠ .normal ∧ Q e (popS (S n).1 (S n).2 σ' st')) :
    ∀ (k i : Nat), i ≤ n → n < i + k → ∃ e p, iter body k (S i).1 (S i).2 = some (e, p) ∧ (((∀ j, i ≤ j → j < n → ok j = true) ∧ Q e p) ∨ ∃ j, i ≤ j ∧ j < n ∧ (∀ m, i ≤ m → m < j → ok m = true) ∧ ok j = false ∧ R j e p)
  | 0, i, h, h2 => by omega
  | k + 1, i, h, h2 => by
    simp only [iter]
    by_cases hi : i = n
    · subst hi
      obtain ⟨e, σ', st', h1, h3, h4⟩ := he
      rw [h1]
      refine ⟨e, popS (S i).1 (S i).2 σ' st', ?_, .inl ⟨fun j hj hj' => by omega, h4⟩⟩
      cases e <;> first | rfl | exact absurd rfl h3
    · cases ho : ok i with
      | true =>
        obtain ⟨σ', st', h1, h3⟩ := hg i (by omega) ho
        rw [h1]
        simp only [h3]
        obtain ⟨e, p, q1, q2⟩ := iter_scan hg hb he k (i + 1) (by omega) (by omega)
        refine ⟨e, p, q1, ?_⟩
        rcases q2 with ⟨a, b⟩ | ⟨j, a, b, c, d, f⟩
        · refine .inl ⟨fun j hj hj' => ?_, b⟩
          rcases Nat.eq_or_lt_of_le hj with rfl | hlt
          · exact ho
          · exact a j hlt hj'
        · refine .inr ⟨j, by omega, b, fun m hm hm' => ?_, d, f⟩
          rcases Nat.eq_or_lt_of_le hm with rfl | hlt
          · exact ho
          · exact c m hlt hm'
      | false =>
        obtain ⟨e, σ', st', h1, h3, h4⟩ := hb i (by omega) ho
        rw [h1]
        refine ⟨e, popS (S i).1 (S i).2 σ' st', ?_, .inr ⟨i, Nat.le_refl _, by omega, fun m hm hm' => by omega, ho, h4⟩⟩
        cases e <;> first | rfl | exact absurd rfl h3
theorem all_of {α : Type} {p : α → Bool} {l : List α} (h : ∀ j, 0 ≤ j → j < l.length → (match l[j]? with | some x => p x | none => true) = true) : l.all p = true := by
  refine List.all_eq_true.2 fun x hx => ?_
  obtain ⟨i, hi⟩ := List.getElem?_of_mem hx
  have := h i (Nat.zero_le _) (List.getElem?_eq_some_iff.1 hi).1
  rw [hi] at this; exact this
theorem not_all_of {α : Type} {p : α → Bool} {l : List α} {j : Nat} (hj : j < l.length) (h : (match l[j]? with | some x => p x | none => true) = false) : l.all p = false := by
  rw [List.getElem?_eq_getElem hj] at h
  refine List.all_eq_false.2 ⟨l[j], List.getElem_mem hj, by simpa using h⟩
def okAt {α : Type} (p : α → Bool) (l : List α) (j : Nat) : Bool := match l[j]? with
  | some x => p x
  | none => true
theorem k29a (ds : List D6) (ps : List P4) (at_ : Int) (hb : ds.length < 1000) (N : Nat) (hN : ds.length < N) :
    ∃ e σ' st', iter (fun σ st => code Try.prog c21 N K29 (loopNo Try.f29 0) σ st) N (σ29 ds ps at_ 0) st15 = some (e, σ', st') ∧
      ((ds.all okD = true ∧ e = .exit 0 ∧ (σ', st') = (σ29 ds ps at_ ds.length, st15)) ∨ (ds.all okD = false ∧ e = .ret ∧ st' = st15 ∧ get σ' 6 = bool false)) := by
  obtain ⟨e, ⟨σ', st'⟩, h1, h2⟩ := iter_scan (body := fun σ st => code Try.prog c21 N K29 (loopNo Try.f29 0) σ st) (S := fun i => (σ29 ds ps at_ (i : Int), st15)) (ok := okAt okD ds) (n := ds.length)
    (R := fun _ e p => e = .ret ∧ p.2 = st15 ∧ get p.1 6 = bool false) (Q := fun e p => e = .exit 0 ∧ p = (σ29 ds ps at_ ds.length, st15))
    (fun i hi ho => by
      simp only [okAt, List.getElem?_eq_getElem hi] at ho
      exact r29t ds ps ds[i] at_ i hi hb rfl N ho)
    (fun i hi ho => by
      simp only [okAt, List.getElem?_eq_getElem hi] at ho
      obtain ⟨σ', q1, q2⟩ := r29f ds ps ds[i] at_ i hi rfl N ho
      refine ⟨_, _, _, q1, by simp, rfl, rfl, ?_⟩
      simp [popS, σ29, get, q2, outT, TM.out, out1, down, old, bool])
    (by
      obtain ⟨σ', q1, q2⟩ := r29e ds ps at_ N
      exact ⟨_, _, _, q1, by simp, rfl, q2⟩)
    N 0 (Nat.zero_le _) (by omega)
  refine ⟨e, σ', st', h1, ?_⟩
  rcases h2 with ⟨a, b, c⟩ | ⟨j, a, b, c, d, f, g, k⟩
  · exact .inl ⟨all_of a, b, c⟩
  · exact .inr ⟨not_all_of b d, f, g, k⟩
theorem k29b (ds : List D6) (ps : List P4) (at_ : Int) (hb : ps.length < 1000) (N : Nat) (hN : ps.length < N) :
    ∃ e σ' st', iter (fun σ st => code Try.prog c21 N K29 (loopNo Try.f29 1) σ st) N (σ29b ds ps at_ 0) st15 = some (e, σ', st') ∧
      ((ps.all okP = true ∧ e = .exit 2 ∧ (σ', st') = (σ29b ds ps at_ ps.length, st15)) ∨ (ps.all okP = false ∧ e = .ret ∧ st' = st15 ∧ get σ' 6 = bool false)) := by
  obtain ⟨e, ⟨σ', st'⟩, h1, h2⟩ := iter_scan (body := fun σ st => code Try.prog c21 N K29 (loopNo Try.f29 1) σ st) (S := fun i => (σ29b ds ps at_ (i : Int), st15)) (ok := okAt okP ps) (n := ps.length)
    (R := fun _ e p => e = .ret ∧ p.2 = st15 ∧ get p.1 6 = bool false) (Q := fun e p => e = .exit 2 ∧ p = (σ29b ds ps at_ ps.length, st15))
    (fun i hi ho => by
      simp only [okAt, List.getElem?_eq_getElem hi] at ho
      exact r29u ds ps ps[i] at_ i hi hb rfl N ho)
    (fun i hi ho => by
      simp only [okAt, List.getElem?_eq_getElem hi] at ho
      obtain ⟨σ', q1, q2⟩ := r29v ds ps ps[i] at_ i hi rfl N ho
      refine ⟨_, _, _, q1, by simp, rfl, rfl, ?_⟩
      simp [popS, σ29b, σ29, get, q2, outT, TM.out, out1, down, old, bool])
    (by
      obtain ⟨σ', q1, q2⟩ := r29w ds ps at_ N
      exact ⟨_, _, _, q1, by simp, rfl, q2⟩)
    N 0 (Nat.zero_le _) (by omega)
  refine ⟨e, σ', st', h1, ?_⟩
  rcases h2 with ⟨a, b, c⟩ | ⟨j, a, b, c, d, f, g, k⟩
  · exact .inl ⟨all_of a, b, c⟩
  · exact .inr ⟨not_all_of b d, f, g, k⟩
def okAll (ds : List D6) (ps : List P4) (at_ : Int) : Bool := inside at_ 0 38399 && (ds.all okD && ps.all okP)
theorem x29 (ds : List D6) (ps : List P4) (at_ : Int) (hd : ds.length < 64) (hp : ps.length < 64) :
    ∃ st', callBody Try.prog (fun _ => K29) 64 c21 29 [flat dC ds, flat pC ps, int at_] st0 = some (bool (okAll ds ps at_), st') := by
  obtain ⟨e1, s1, t1, i1, h1⟩ := k29a ds ps at_ (by omega) 64 hd
  obtain ⟨e2, s2, t2, i2, h2⟩ := k29b ds ps at_ (by omega) 64 hp
  have hbody : Try.f29.body = some (put3 Try.f29 [loopNo Try.f29 0, loopNo Try.f29 1]) := by kernel_rfl
  have l1 := fun st => lenF (f := dC) un65 st ds
  have l2 := fun st => lenF (f := pC) un34 st ps
  have n1 : ¬ (1000 : Int) < ds.length := by omega
  have n2 : ¬ (1000 : Int) < ps.length := by omega
  simp only [callBody, fun29]
  rw [hbody]
  generalize loopNo Try.f29 0 = L1 at i1 ⊢
  generalize loopNo Try.f29 1 = L2 at i2 ⊢
  have hst : st15 = { h := [], ch := [], ms := [(0, 0)], fl := 0, cf := 0 } := rfl
  simp only [K29, σ29b, σ29, List.cons_append, List.nil_append, int, bool, hst, Prod.mk.injEq] at i1 i2 h1 h2 l1 l2
  cases hin : inside at_ 0 38399
  case false => simp [okAll, hin, K29, put3, setLoops, Try.f29, code, runL, stepU, wanted, op, op1, op2, op3, mem, enter, number, get, put, putO, keepS_nil, keepS_cons, opd, ofConst, scalar, l1, l2, n1, n2, q26', unop, int, bool, bin, binInt, arg, arg1, results, tuple, outT, TM.out, out1, down, old, st0]
  rcases h1 with ⟨a1, rfl, rfl, rfl⟩ | ⟨a1, rfl, rfl, b1⟩
  · rcases h2 with ⟨a2, rfl, rfl, rfl⟩ | ⟨a2, rfl, rfl, b2⟩
    · simp [okAll, hin, a1, a2, i1, i2, K29, put3, setLoops, Try.f29, code, runL, stepU, wanted, op, op1, op2, op3, mem, enter, number, get, put, putO, keepS_nil, keepS_cons, opd, ofConst, scalar, l1, l2, n1, n2, q26', unop, int, bool, bin, binInt, arg, arg1, results, tuple, outT, TM.out, out1, down, old, st0]
    · simp [okAll, hin, a1, a2, i1, i2, b2, K29, put3, setLoops, Try.f29, code, runL, stepU, wanted, op, op1, op2, op3, mem, enter, number, get, put, putO, keepS_nil, keepS_cons, opd, ofConst, scalar, l1, l2, n1, n2, q26', unop, int, bool, bin, binInt, arg, arg1, results, tuple, outT, TM.out, out1, down, old, st0]
  · simp [okAll, hin, a1, i1, b1, K29, put3, setLoops, Try.f29, code, runL, stepU, wanted, op, op1, op2, op3, mem, enter, number, get, put, putO, keepS_nil, keepS_cons, opd, ofConst, scalar, l1, l2, n1, n2, q26', unop, int, bool, bin, binInt, arg, arg1, results, tuple, outT, TM.out, out1, down, old, st0]
end Go.TM
