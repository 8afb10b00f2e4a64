/- ReleaseGrades on the tree machine: the map of classes. -/
import Derived.Test.YtjoajdlnfgfjgaaTmGd
import Derived.Test.YtjoajdlnfgfjgaaTmZe
namespace Go.TM
open Go.Proofs
set_option maxRecDepth 100000
set_option maxHeartbeats 4000000
set_option linter.all false
abbrev Gs := List (P3 × List Int)
def gent (p : P3) (l : List Int) (b : Nat) : Ent := { kagg := true, key := k3 p, val := .pv (.sl l.length (l.map pint)), born := b, lim := some l.length }
def gents : Gs → Nat → List Ent
  | [], _ => []
  | x :: r, s => gent x.1 x.2 s :: gents r (s + 1)
theorem gents_append : ∀ (a b : Gs) (s : Nat), gents (a ++ b) s = gents a s ++ gents b (s + a.length)
  | [], b, s => by simp [gents]
  | x :: r, b, s => by
    show gent x.1 x.2 s :: gents (r ++ b) (s + 1) = gent x.1 x.2 s :: (gents r (s + 1) ++ _)
    rw [gents_append r b (s + 1), List.length_cons, show s + 1 + r.length = s + (r.length + 1) by omega]
theorem gents_born : ∀ (a : Gs) (s : Nat) (e : Ent), e ∈ gents a s → s ≤ e.born ∧ e.born < s + a.length
  | [], s, e, h => by simp [gents] at h
  | x :: r, s, e, h => by
    rcases List.mem_cons.1 h with rfl | h
    · simp [gent]
    · have := gents_born r (s + 1) e h
      simp only [List.length_cons]; omega
def addG : Gs → P3 → Int → Gs
  | [], p, i => [(p, [i])]
  | x :: r, p, i => if x.1 = p then (x.1, x.2 ++ [i]) :: r else x :: addG r p i
theorem un82 : Try.prog.underlying 82 = some (.map 77 68) := by kernel_rfl
theorem ag77 : isAgg Try.prog 77 = true := by kernel_rfl
theorem ti77 : tiles Try.prog 8 77 = true := by kernel_rfl
theorem ko77 (p : P3) : keyOk Try.prog 8 77 (k3 p) = true := by kernel_rfl
theorem eq77 (p q : P3) : eqV Try.prog 8 77 (k3 p) (k3 q) = some (p.1 == q.1 && (p.2.1 == q.2.1 && (p.2.2 == q.2.2 && true))) := by
  kernel_rfl
theorem za68 : zeroAV Try.prog 68 = some (.pv (.sc (.slice none 0 0))) := by kernel_rfl
theorem find77 (p : P3) : ∀ (gs : Gs) (s : Nat), (findKey Try.prog 77 (true, k3 p) (gents gs s) = some none ∧ ∀ i, addG gs p i = gs ++ [(p, [i])]) ∨
    ∃ g1 l g2, gs = g1 ++ (p, l) :: g2 ∧ findKey Try.prog 77 (true, k3 p) (gents gs s) = some (some (gent p l (s + g1.length))) ∧ ∀ i, addG gs p i = g1 ++ (p, l ++ [i]) :: g2
  | [], s => .inl ⟨rfl, fun _ => rfl⟩
  | (q, l) :: r, s => by
    simp only [gents, findKey, ag77, gent, eq77, eqk, Bool.true_and, beq_self_eq_true, if_true]
    by_cases h : p = q
    · subst h
      refine .inr ⟨[], l, r, rfl, by simp [gent], fun i => by simp [addG]⟩
    · have h' : ¬ q = p := fun e => h e.symm
      simp only [h, decide_false]
      rcases find77 p r (s + 1) with ⟨h1, h2⟩ | ⟨g1, l', g2, rfl, h2, h3⟩
      · exact .inl ⟨h1, fun i => by simp [addG, h', h2]⟩
      · refine .inr ⟨(q, l) :: g1, l', g2, rfl, ?_, fun i => by simp [addG, h', h3]⟩
        rw [h2, List.length_cons, show s + 1 + g1.length = s + (g1.length + 1) by omega]
        rfl
/-- a state whose first block is the map of classes -/
def stG (gs : Gs) (r : List Obj) (ch : List Nat) (ms : List (Nat × Nat)) : St := ⟨.map (gents gs 0) gs.length :: r, ch, ms, 0, 0⟩
def keyA (p : P3) : AV := .agg [.pv (.sc (.int .i64 p.1)), .pv (.sc (.int .i64 p.2.1)), .pv (.sc (.int .i64 p.2.2))]
theorem me82 (gs : Gs) (p : P3) (r : List Obj) (ch : List Nat) (ms : List (Nat × Nat)) : ∃ g1 l g2,
    mapEntry Try.prog (stG gs r ch ms) 82 (.lm 0) (keyA p) = some (.tup [.g (.e 0 g1.length) l.length (l.map pint), int g1.length], stG (g1 ++ (p, l) :: g2) r ch ms) ∧ ∀ i, addG gs p i = g1 ++ (p, l ++ [i]) :: g2 := by
  have hk : keyOf (keyA p) = some (true, k3 p) := rfl
  have hh : (stG gs r ch ms).h[0]? = some (.map (gents gs 0) gs.length) := rfl
  have hf : (stG gs r ch ms).fl = 0 := rfl
  rcases find77 p gs 0 with ⟨h1, h2⟩ | ⟨g1, l, g2, rfl, h2, h3⟩
  · refine ⟨gs, [], [], ?_, h2⟩
    simp only [mapEntry, un82, hk, hh, hf, ti77, ko77, ag77, h1, za68, Nat.le_refl, decide_true, Bool.true_and, beq_self_eq_true, if_true]
    congr 1
    congr 1
    simp [setH, stG, gents_append, gents, gent]
  · refine ⟨g1, l, g2, ?_, h3⟩
    simp only [mapEntry, un82, hk, hh, hf, ti77, ko77, ag77, h2, Nat.le_refl, decide_true, Bool.true_and, beq_self_eq_true, if_true]
    simp [gent]
def mid (g1 : Gs) (p : P3) (l : List Int) (g2 : Gs) : List Ent := gents g1 0 ++ { gent p l g1.length with lim := some (l.length + 1) } :: gents g2 (g1.length + 1)
theorem find_born (g1 g2 : Gs) (e : Ent) (he : e.born = g1.length) : (gents g1 0 ++ e :: gents g2 (g1.length + 1)).find? (·.born == g1.length) = some e := by
  rw [List.find?_append]
  have : (gents g1 0).find? (·.born == g1.length) = none := by
    refine List.find?_eq_none.2 fun x hx => ?_
    have := gents_born g1 0 x hx
    simp; omega
  rw [this]
  simp [he]
theorem upd_born (g1 g2 : Gs) (e : Ent) (he : e.born = g1.length) (f : Ent → Ent) : (gents g1 0 ++ e :: gents g2 (g1.length + 1)).map (updE g1.length f) = gents g1 0 ++ f e :: gents g2 (g1.length + 1) := by
  have h0 : ∀ (l : List Ent), (∀ x ∈ l, x.born ≠ g1.length) → l.map (updE g1.length f) = l := by
    intro l h
    induction l with
    | nil => rfl
    | cons x r ih =>
      have h1 := h x (List.mem_cons_self ..)
      rw [List.map_cons, ih fun y hy => h y (List.mem_cons_of_mem _ hy)]
      simp [updE, h1]
  rw [List.map_append, List.map_cons, h0 _ fun x hx => by have := gents_born g1 0 x hx; omega, h0 _ fun x hx => by have := gents_born g2 _ x hx; omega]
  simp [updE, he]
theorem gents_mid (g1 : Gs) (p : P3) (l : List Int) (g2 : Gs) : gents (g1 ++ (p, l) :: g2) 0 = gents g1 0 ++ gent p l g1.length :: gents g2 (g1.length + 1) := by
  rw [gents_append]; simp [gents]
/-- the state between append and the store into the entry -/
def stH (g1 : Gs) (p : P3) (l : List Int) (g2 : Gs) (r : List Obj) (ch : List Nat) (ms : List (Nat × Nat)) : St := ⟨.map (mid g1 p l g2) (g1 ++ (p, l) :: g2).length :: r, ch, ms, 0, 0⟩
theorem row68 : rowType Try.prog 68 = some 3 := by kernel_rfl
theorem by3 : Program.bytesOf Try.prog 3 = 8 := by kernel_rfl
theorem sl68 : isSlice Try.prog 68 = true := by kernel_rfl
theorem ap82 (g1 : Gs) (p : P3) (l : List Int) (g2 : Gs) (a b : Obj) (i : Int) (ch : List Nat) (ms : List (Nat × Nat)) (hl : l.length < 1000) :
    append Try.prog (stG (g1 ++ (p, l) :: g2) [a, b, .cells [.pv (.sc (.int .i64 i))]] ch ms) 68 (.g (.e 0 g1.length) l.length (l.map pint)) (.ls 3 0 1) =
      some (.g (.e 0 g1.length) (l ++ [i]).length ((l ++ [i]).map pint), stH g1 p l g2 [a, b, .cells [.pv (.sc (.int .i64 i))]] ch ms) := by
  have hm : mark (stG (g1 ++ (p, l) :: g2) [a, b, .cells [.pv (.sc (.int .i64 i))]] ch ms) (.e 0 g1.length) = some l.length := by
    simp only [mark, stG, List.getElem?_cons_zero, gents_mid]
    rw [find_born g1 g2 _ rfl]
    rfl
  have hs : setMark (stG (g1 ++ (p, l) :: g2) [a, b, .cells [.pv (.sc (.int .i64 i))]] ch ms) (.e 0 g1.length) (l.length + 1) = stH g1 p l g2 [a, b, .cells [.pv (.sc (.int .i64 i))]] ch ms := by
    simp only [setMark, stG, List.getElem?_cons_zero, gents_mid]
    rw [upd_born g1 g2 _ rfl]
    simp [setH, stH, mid, wrL, gent]
  have o1 : l.length + 1 ≤ 70368744177664 := by omega
  have o2 : (l.length + 1) * 8 ≤ 70368744177664 := by omega
  have hc : contents (stG (g1 ++ (p, l) :: g2) [a, b, .cells [.pv (.sc (.int .i64 i))]] ch ms) 1 (.ls 3 0 1) = some (1, [pint i]) := rfl
  have hch : chOk (stG (g1 ++ (p, l) :: g2) [a, b, .cells [.pv (.sc (.int .i64 i))]] ch ms) (.e 0 g1.length) = true := rfl
  simp only [append, row68, co3, by3, hc, hm, hs, hch]
  simp
  omega
theorem es82 (g1 : Gs) (p : P3) (l : List Int) (g2 : Gs) (r : List Obj) (i : Int) (ch : List Nat) (ms : List (Nat × Nat)) :
    entryStore (stH g1 p l g2 r ch ms) (.lm 0) (int g1.length) (.g (.e 0 g1.length) (l ++ [i]).length ((l ++ [i]).map pint)) = some (stG (g1 ++ (p, l ++ [i]) :: g2) r ch ms) := by
  have hf : (mid g1 p l g2).find? (·.born == g1.length) = some { gent p l g1.length with lim := some (l.length + 1) } := find_born g1 g2 _ rfl
  simp only [entryStore, isInt, int, stH, List.getElem?_cons_zero, Int.toNat_natCast, hf]
  have h0 : (0 : Int) ≤ g1.length := by omega
  simp only [Nat.le_refl, h0, decide_true, Bool.and_self, if_true, gent, true_and]
  unfold mid
  rw [upd_born g1 g2 _ rfl]
  simp [setH, stG, gents_mid, wrG, gent]
end Go.TM
