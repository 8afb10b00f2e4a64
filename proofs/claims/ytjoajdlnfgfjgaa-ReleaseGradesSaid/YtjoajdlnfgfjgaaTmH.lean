/- The tree machine: operations that make or write memory. -/
import Derived.Test.YtjoajdlnfgfjgaaTmG
import Derived.Laws.AppendOwn
import Derived.Laws.MakeOwn
namespace Go.TM
open Go.RowKit

section
variable {P : Program} {D : Bs} {X : Cx} {st : St}

theorem parts_sound {u : Value} {v : AV} (hu : AVR X u v) (h1 : (parts v).all one = true) :
    u.cells.size = (parts v).length ∧ (∀ j x, (parts v)[j]? = some x → AVR X (u.cells.getD j undef) x) ∧ ∀ j, j < (parts v).length → (u.cells.getD j undef).oneCell' = true := by
  have single : ∀ {v : AV}, AVR X u v → parts v = [v] → one v = true → u.cells.size = (parts v).length ∧ (∀ j x, (parts v)[j]? = some x → AVR X (u.cells.getD j undef) x) ∧ ∀ j, j < (parts v).length → (u.cells.getD j undef).oneCell' = true := by
    intro v hu hp ho
    have hc : u.oneCell' = true := hu.one ho
    have hcells : u.cells = #[u] := by cases u <;> simp [Value.oneCell', Value.cells] at hc ⊢
    rw [hp, hcells]
    refine ⟨rfl, fun j x hj => ?_, fun j hj => ?_⟩
    · match j, hj with
      | 0, hj => obtain rfl := Option.some.inj hj; exact hu
    · match j, hj with
      | 0, _ => exact hc
  cases v with
  | agg cs =>
    cases hu with | agg a1 a2 a3 => ?_
    exact ⟨a1, a2, a3⟩
  | pv p => exact single hu rfl (by simpa [parts] using h1)
  | g => exact single hu rfl (by simpa [parts] using h1)
  | lp => exact single hu rfl (by simpa [parts] using h1)
  | ls => exact single hu rfl (by simpa [parts] using h1)
  | lm => exact single hu rfl (by simpa [parts] using h1)
  | fn => exact single hu rfl (by simpa [parts] using h1)
  | ifc => exact single hu rfl (by simpa [parts] using h1)
  | tup => simp [parts, one] at h1
  | bad => simp [parts, one] at h1

theorem zeros_get : ∀ (n i : Nat), i < n → (zeros n)[i]? = some 0
  | 0, _, h => by omega
  | n + 1, 0, _ => rfl
  | n + 1, i + 1, h => zeros_get n i (by omega)
theorem zeros_len : ∀ n, (zeros n).length = n
  | 0 => rfl
  | n + 1 => by simp [zeros, zeros_len n]

theorem isNilV_eq {v : Value} (h : isNilV v = true) : v = .slice none 0 0 := by
  unfold isNilV at h
  split at h
  · rfl
  · cases h

theorem isNilA_eq {v : AV} (h : isNilA v = true) : v = nil := by
  unfold isNilA at h
  split at h
  · rw [isNilV_eq h]; rfl
  · cases h

theorem ofConst_sound {X : Cx} (v : Value) : AVR X v (ofConst v) := by
  unfold ofConst
  split
  · rename_i h; exact .pv (.sc h)
  · exact .bad

theorem zeroCells_sound {Y : Cx} : ∀ (z : List Value) (k : Nat), (∀ i, i < countV z → Y.mc (.v (k + i)) = some 0 ∧ Y.κ (.v (k + i)) = none) →
    (zeroCells z k).length = z.length ∧ ∀ (j : Nat) x, (zeroCells z k)[j]? = some x → AVR Y (z.getD j undef) x
  | [], k, _ => ⟨rfl, fun j x hj => by simp [zeroCells] at hj⟩
  | v :: r, k, h => by
    unfold zeroCells
    unfold countV at h
    cases hv : isNilV v with
    | true =>
      rw [hv] at h
      simp only [if_true] at h ⊢
      obtain rfl := isNilV_eq hv
      have h0 := h 0 (by omega)
      obtain ⟨i1, i2⟩ := zeroCells_sound r (k + 1) fun i hi => by
        have := h (i + 1) (by omega)
        rwa [show k + (i + 1) = k + 1 + i by omega] at this
      refine ⟨by simp [i1], fun j x hj => ?_⟩
      cases j with
      | zero =>
        obtain rfl := Option.some.inj hj
        exact .g (m := 0) .sl0 h0.1 (Nat.le_refl _) fun _ => .inl ⟨h0.2, rfl, rfl, rfl⟩
      | succ j => exact i2 j x hj
    | false =>
      rw [hv] at h
      simp only [Bool.false_eq_true, if_false] at h ⊢
      obtain ⟨i1, i2⟩ := zeroCells_sound r k h
      refine ⟨by simp [i1], fun j x hj => ?_⟩
      cases j with
      | zero =>
        obtain rfl := Option.some.inj hj
        exact ofConst_sound v
      | succ j => exact i2 j x hj

theorem openNil_sound {Y : Cx} (f : Nat → Value) : ∀ (cs : List AV) (k o : Nat), (∀ i, i < countA cs → Y.mc (.v (k + i)) = some 0 ∧ Y.κ (.v (k + i)) = none) →
    (∀ (j : Nat) x, cs[j]? = some x → AVR Y (f (o + j)) x) → (openNil cs k).length = cs.length ∧ ∀ (j : Nat) x, (openNil cs k)[j]? = some x → AVR Y (f (o + j)) x
  | [], k, _, _, _ => ⟨rfl, fun j x hj => by simp [openNil] at hj⟩
  | v :: r, k, o, h, hf => by
    unfold openNil
    unfold countA at h
    have hf' : ∀ (j : Nat) x, r[j]? = some x → AVR Y (f (o + 1 + j)) x := fun j x hj => by
      have := hf (j + 1) x hj
      rwa [show o + (j + 1) = o + 1 + j by omega] at this
    cases hv : isNilA v with
    | true =>
      rw [hv] at h
      simp only [if_true] at h ⊢
      obtain rfl := isNilA_eq hv
      have h0 := h 0 (by omega)
      obtain ⟨i1, i2⟩ := openNil_sound f r (k + 1) (o + 1) (fun i hi => by
        have := h (i + 1) (by omega)
        rwa [show k + (i + 1) = k + 1 + i by omega] at this) hf'
      refine ⟨by simp [i1], fun j x hj => ?_⟩
      cases j with
      | zero =>
        obtain rfl := Option.some.inj hj
        have e : AVR Y (f (o + 0)) (.pv (.sc (.slice none 0 0))) := hf 0 nil rfl
        have : f (o + 0) = .slice none 0 0 := by
          generalize f (o + 0) = y at e
          cases e with | pv hp => ?_
          cases hp; rfl
        rw [this]
        exact .g (m := 0) .sl0 h0.1 (Nat.le_refl _) fun _ => .inl ⟨h0.2, rfl, rfl, rfl⟩
      | succ j =>
        have := i2 j x hj
        rwa [show o + 1 + j = o + (j + 1) by omega] at this
    | false =>
      rw [hv] at h
      simp only [Bool.false_eq_true, if_false] at h ⊢
      obtain ⟨i1, i2⟩ := openNil_sound f r k (o + 1) h hf'
      refine ⟨by simp [i1], fun j x hj => ?_⟩
      cases j with
      | zero =>
        obtain rfl := Option.some.inj hj
        exact hf 0 v rfl
      | succ j =>
        have := i2 j x hj
        rwa [show o + 1 + j = o + (j + 1) by omega] at this

theorem chains_zero (X : Cx) (st : St) (n : Nat) : ∀ i, i < n → (X.chains st (zeros n)).mc (.v (st.ch.length + i)) = some 0 ∧ (X.chains st (zeros n)).κ (.v (st.ch.length + i)) = none := by
  intro i hi
  constructor
  · simp only [Cx.chains, mark]
    rw [List.getElem?_append_right (by omega), Nat.add_sub_cancel_left]
    exact zeros_get n i hi
  · simp only [Cx.chains]
    rw [if_neg (by omega)]

/-- what an operation that makes a value has done -/
def Done (D : Bs) (X : Cx) (P : Program) (s : Sem Value) (v : AV) (st' : St) : Prop :=
  ∃ Y u, X.Le Y ∧ SR D Y st' ∧ AVR Y u v ∧ s.run P X.w = .ok u Y.w

theorem pushed (hS : SR D X st) {cs : List AV} {C : Array Value} (ty : TypeId) (h1 : C.size = cs.length) (h2 : ∀ j x, cs[j]? = some x → AVR X (C.getD j undef) x)
    (h3 : ∀ j, j < cs.length → (C.getD j undef).oneCell' = true) : ∃ Y, X.Le Y ∧ SR D Y (push st (.cells cs)) ∧ Y.ρ st.h.length = some X.w.heap.size ∧ Y.w = X.w.alloc (.cells C ty) := by
  have hle := hS.leAlloc (.cells C ty)
  refine ⟨X.alloc st.h.length (.cells C ty), hle, hS.alloc (fun _ _ e => by cases e) ⟨C, ty, ?_, by omega, fun j x hj => (h2 j x hj).mono hle, h3⟩, Cx.alloc_new _ _ _, rfl⟩
  exact heap_alloc_eq

theorem zeroOf_some {t : TypeId} {z : List Value} (h : zeroOf P t = some z) : ∃ i v, P.info? t = some i ∧ i.zero = some v ∧ z = v.cells.toList := by
  unfold zeroOf at h
  split at h
  · rename_i i hi
    cases hz : i.zero with
    | none => rw [hz] at h; cases h
    | some v => rw [hz] at h; exact ⟨i, v, hi, hz, (Option.some.inj h).symm⟩
  · cases h

theorem alloc_sound (hS : SR D X st) {t : TypeId} {z : List Value} (hz : zeroOf P t = some z) (h1 : (zeroCells z st.ch.length).all one = true) :
    Done D X P (Instr.alloc t true (.tuple #[])) (.lp st.h.length 0) (push { st with ch := st.ch ++ zeros (countV z) } (.cells (zeroCells z st.ch.length))) := by
  obtain ⟨i, v, hi, hv, rfl⟩ := zeroOf_some hz
  obtain ⟨hS1, hle1⟩ := hS.chains (zeros (countV v.cells.toList))
  obtain ⟨c1, c2⟩ := zeroCells_sound v.cells.toList st.ch.length (chains_zero X st (countV v.cells.toList))
  have hg : ∀ j, v.cells.getD j undef = v.cells.toList.getD j undef := fun j => by simp [Array.getD_eq_getD_getElem?, List.getD]
  obtain ⟨Y, hle2, hS2, hρ, hw⟩ := pushed (cs := zeroCells v.cells.toList st.ch.length) (C := v.cells) hS1 t (by rw [c1]; simp) (fun j x hj => by rw [hg]; exact c2 j x hj) (fun j hj => by
    have hx : (zeroCells v.cells.toList st.ch.length)[j]? = some ((zeroCells v.cells.toList st.ch.length)[j]) := List.getElem?_eq_getElem hj
    rw [hg]
    exact (c2 j _ hx).one (List.all_eq_true.1 h1 _ (List.mem_of_getElem? hx)))
  refine ⟨Y, _, hle1.trans hle2, hS2, .lp (B := X.w.heap.size) hρ, ?_⟩
  rw [hw]
  simp [Instr.alloc, zeroValue, typeInfo, hi, hv, newVar, newRow]
  rfl

/-- what an operation that makes a block has done -/
def Made (X : Cx) (P : Program) (s : Sem Value) (n : Nat) (v : AV) (o : Obj) : Prop :=
  ∃ (u : Value) (go : Go.Obj), s.run P X.w = .ok u (X.w.alloc go) ∧ (∀ Y : Cx, Y.ρ n = some X.w.heap.size → AVR Y u v) ∧
    (∀ (Y : Cx) b, X.Le Y → Y.w.heap[X.w.heap.size]? = some go → ObjR Y b X.w.heap.size o) ∧ ∀ es k, o = .map es k → es = []

theorem made_cells {cs : List AV} {C : Array Value} (ty : TypeId) (h1 : C.size = cs.length) (h2 : ∀ (j : Nat) x, cs[j]? = some x → AVR X (C.getD j undef) x)
    (h3 : ∀ j, j < cs.length → (C.getD j undef).oneCell' = true) {s : Sem Value} {u : Value} {n : Nat} {v : AV} (hrun : s.run P X.w = .ok u (X.w.alloc (.cells C ty))) (hv : ∀ Y : Cx, Y.ρ n = some X.w.heap.size → AVR Y u v) :
    Made X P s n v (.cells cs) :=
  ⟨u, _, hrun, hv, fun Y b hle hh => ⟨C, ty, hh, by omega, fun j x hj => (h2 j x hj).mono hle, h3⟩, fun _ _ e => by cases e⟩

theorem Made.done (hS : SR D X st) {s : Sem Value} {v : AV} {o : Obj} (h : Made X P s st.h.length v o) : Done D X P s v (push st o) := by
  obtain ⟨u, go, h1, h2, h3, h4⟩ := h
  have hle := hS.leAlloc go
  exact ⟨X.alloc st.h.length go, u, hle, hS.alloc h4 (h3 _ _ hle heap_alloc_eq), h2 _ (Cx.alloc_new _ _ _), h1⟩

theorem box_sound {t : TypeId} {u : Value} {v : AV} (hu : AVR X u v) (h1 : (parts v).all one = true) (n : Nat) : Made X P (Instr.box t u) n (.lp n 0) (.cells (parts v)) := by
  obtain ⟨a1, a2, a3⟩ := parts_sound hu h1
  exact made_cells (C := u.cells) t a1 a2 a3 (by simp [Instr.box, newVar, newRow]) fun Y hY => .lp hY

theorem makeMap_sound (t : TypeId) (n : Nat) : Made X P (Instr.makeMap t none) n (.lm n) (.map [] 0) :=
  ⟨_, .map #[] 0, by simp [Instr.makeMap], fun Y hY => .lm hY, fun Y b _ hh => ⟨#[], hh, rfl, fun j m e h => by simp at h, by simp, fun e he => by cases he⟩, fun es k e => by cases e; rfl⟩

theorem nilChain_sound (hS : SR D X st) : ∃ Y, X.Le Y ∧ SR D Y { st with ch := st.ch ++ [0] } ∧ AVR Y (.slice none 0 0) (.g (.v st.ch.length) 0 []) ∧ Y.w = X.w := by
  obtain ⟨hS1, hle1⟩ := hS.chains [0]
  exact ⟨_, hle1, hS1, AVR.newChain hS [0] 0 rfl, rfl⟩

end
end Go.TM
