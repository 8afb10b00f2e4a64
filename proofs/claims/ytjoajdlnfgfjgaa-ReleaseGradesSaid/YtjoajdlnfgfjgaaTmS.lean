/- The tree machine: a region whose order is drawn. -/
import Derived.Test.YtjoajdlnfgfjgaaTmR
namespace Go.TM
open Go.RowKit

theorem memD_map {P : Program} {σ : Slots} {n : Nat} {o : Op} {v : AV} {x : Obj} (h : memD P σ n o = some (v, x)) : ∀ es k, x = .map es k → es = [] := by
  intro es k hx
  subst hx
  cases o <;> simp only [memD, mem] at h
  case makeMap t r =>
    cases r with
    | none => simp only [Option.some.injEq, Prod.mk.injEq, Obj.map.injEq] at h; exact h.2.1.symm
    | some r => cases h
  all_goals first
    | cases h; done
    | (repeat' split at h) <;> cases h

/-- the run in the text's order, and what it tells -/
structure Text (P : Program) (D : Bs) (call : CallF) (ops : Array Oper) (X0 : Cx) (st0 : St) (N : Nat) (tr : Nat → Slots × St) (vs : Nat → AV) : Prop where
  ok : drawOk ops = true
  fit : fits N ops = true
  step : ∀ (j : Nat) o, ops[j]? = some o → stepD P call ops (tr j).1 (tr j).2 o = some (vs j, (tr (j + 1)).2) ∧ (tr (j + 1)).1 = putO (tr j).1 o.dst (vs j)
  ti : ∀ j, j ≤ ops.size → TI D X0 st0 N (tr j).1 (tr j).2
  n0 : X0.n = st0.h.length
  s0 : (tr 0).2 = st0

def Down (ops : Array Oper) (listed : Array Bool) : Prop :=
  ∀ (j : Nat) o, listed.getD j false = true → ops[j]? = some o → ∀ e ∈ o.after, Region.binds .any e = true → listed.getD e.on false = true

section
variable {P : Program} {D : Bs} {call : CallF} {ops : Array Oper} {X0 : Cx} {st0 : St} {N : Nat} {tr : Nat → Slots × St} {vs : Nat → AV}

theorem Text.maskOk (T : Text P D call ops X0 st0 N tr vs) : TM.maskOk ops.toList (masks ops.toList) = true := by
  have := T.ok
  simp only [drawOk, Bool.and_eq_true] at this
  exact this.1.2

theorem Text.noSelect (T : Text P D call ops X0 st0 N tr vs) : Region.noSelect ops = true := by
  have := T.ok
  simp only [drawOk, Bool.and_eq_true] at this
  exact this.1.1

/-- two operations that are not independent: the earlier one is listed when the later one may go -/
theorem Text.before (T : Text P D call ops X0 st0 N tr vs) {listed : Array Bool} (hdown : Down ops listed) {i j : Nat} {x y : Oper} (hi : ops[i]? = some x) (hj : ops[j]? = some y) (hij : i < j)
    (hd : indep ops x y = false) (hall : ∀ e ∈ y.after, Region.binds .any e = true → listed.getD e.on false = true) : listed.getD i false = true := by
  have hok := T.ok
  simp only [drawOk, Bool.and_eq_true] at hok
  have hj' : j < ops.size := (Array.getElem?_eq_some_iff.1 hj).1
  have h1 := List.all_eq_true.1 (List.all_eq_true.1 hok.2 j (List.mem_range.2 hj')) i (List.mem_range.2 hij)
  simp only [hi, hj, hd, Bool.false_or] at h1
  exact mask_listed T.maskOk (listed := listed) (fun k o hk ho => hdown k o hk (by simpa using ho)) j i y (by simpa using hj) (by simp; omega) hall h1

theorem Text.before' (T : Text P D call ops X0 st0 N tr vs) {listed : Array Bool} (hdown : Down ops listed) {i j : Nat} {x y : Oper} (hi : ops[i]? = some x) (hj : ops[j]? = some y) (hij : i < j)
    (hd : indep ops x y = false) (hl : listed.getD j false = true) : listed.getD i false = true := T.before hdown hi hj hij hd (hdown j y hl hj)

theorem indep_wr {x y : Oper} (h1 : isWr x.op = true) (h2 : isMem y.op = true) : indep ops x y = false ∧ indep ops y x = false := by
  constructor <;> simp [indep, h1, h2]

theorem indep_slot {x y : Oper} {t : Nat} (h1 : x.dst = some t) (h2 : t ∈ y.looksAt ops ∨ y.dst = some t) : indep ops x y = false ∧ indep ops y x = false := by
  have key : x.apart ops y = false ∧ y.apart ops x = false := by
    constructor
    · cases h : x.apart ops y with
      | false => rfl
      | true =>
        obtain ⟨a, b, c⟩ := Oper.apart_spec h
        rcases h2 with h2 | h2
        · exact absurd h2 (a t h1)
        · exact absurd h2 (b t h1)
    · cases h : y.apart ops x with
      | false => rfl
      | true =>
        obtain ⟨a, b, c⟩ := Oper.apart_spec h
        rcases h2 with h2 | h2
        · exact absurd h2 (c t h1)
        · exact absurd h1 (b t h2)
  constructor <;> simp [indep, key.1, key.2]

/-- between two places with no write there only blocks come -/
theorem Text.ext (T : Text P D call ops X0 st0 N tr vs) {i : Nat} : ∀ q, i ≤ q → q ≤ ops.size → (∀ j, i ≤ j → j < q → ∀ o, ops[j]? = some o → isWr o.op = false) → Ext (tr i).2 (tr q).2 := by
  intro q
  induction q with
  | zero => intro h _ _; obtain rfl : i = 0 := (by omega); exact Ext.refl _
  | succ q ih =>
    intro h hq hno
    by_cases hiq : i = q + 1
    · rw [hiq]; exact Ext.refl _
    · refine (ih (by omega) (by omega) fun j h1 h2 => hno j h1 (by omega)).trans ?_
      have ho : ops[q]? = some ops[q] := Array.getElem?_eq_getElem (by omega)
      obtain ⟨h1, _⟩ := T.step q _ ho
      cases stepD_kind h1 with
      | off hw hv hs => rw [hs]; exact Ext.refl _
      | write hw h1 h => rw [hno q (by omega) (by omega) _ ho] at h1; cases h1
      | val hw h1 h hs => rw [hs]; exact Ext.refl _
      | make x hw h1 h hs => rw [hs]; exact Ext.push (memD_map h)
      | call f args v0 s0 hw h1 h hc hv hs => rw [hs]; exact Ext.refl _

theorem Text.get (T : Text P D call ops X0 st0 N tr vs) {i t : Nat} : ∀ q, i ≤ q → q ≤ ops.size → (∀ j, i ≤ j → j < q → ∀ o, ops[j]? = some o → o.dst ≠ some t) → TM.get (tr q).1 t = TM.get (tr i).1 t := by
  intro q
  induction q with
  | zero => intro h _ _; obtain rfl : i = 0 := (by omega); rfl
  | succ q ih =>
    intro h hq hno
    by_cases hiq : i = q + 1
    · rw [hiq]
    · have ho : ops[q]? = some ops[q] := Array.getElem?_eq_getElem (by omega)
      obtain ⟨_, h2⟩ := T.step q _ ho
      rw [h2, ← ih (by omega) (by omega) fun j h1 h2 => hno j h1 (by omega)]
      have := hno q (by omega) (by omega) _ ho
      cases hd : (ops[q]).dst with
      | none => rfl
      | some d =>
        simp only [putO]
        rw [get_put, if_neg (by intro e; subst e; exact this hd)]

theorem Text.len (T : Text P D call ops X0 st0 N tr vs) {i : Nat} : ∀ q, i ≤ q → q ≤ ops.size → (tr i).2.h.length ≤ (tr q).2.h.length := by
  intro q
  induction q with
  | zero => intro h _; obtain rfl : i = 0 := (by omega); exact Nat.le_refl _
  | succ q ih =>
    intro h hq
    by_cases hiq : i = q + 1
    · rw [hiq]; exact Nat.le_refl _
    · refine Nat.le_trans (ih (by omega) (by omega)) ?_
      have ho : ops[q]? = some ops[q] := Array.getElem?_eq_getElem (by omega)
      obtain ⟨h1, _⟩ := T.step q _ ho
      cases stepD_kind h1 with
      | off hw hv hs => rw [hs]; exact Nat.le_refl _
      | write hw h1 h => exact (op2_step h).g.h
      | val hw h1 h hs => rw [hs]; exact Nat.le_refl _
      | make x hw h1 h hs => rw [hs]; simp [push]
      | call f args v0 s0 hw h1 h hc hv hs => rw [hs]; exact Nat.le_refl _

/-- what holds when some operations are done, in whatever order: q is the first write that is not -/
structure Mid (P : Program) (D : Bs) (ops : Array Oper) (X0 : Cx) (N : Nat) (tr : Nat → Slots × St) (ds : List Deferred) (listed : Array Bool) (a : Act) (X : Cx) (q : Nat) : Prop where
  size : listed.size = ops.size
  down : Down ops listed
  le : X0.Le X
  s : SR D X (tr q).2
  hq : q ≤ ops.size
  past : ∀ j o, j < q → ops[j]? = some o → isWr o.op = true → listed.getD j false = true
  now : q < ops.size → (∃ o, ops[q]? = some o ∧ isWr o.op = true) ∧ listed.getD q false = false
  new : ∀ i, i < ops.size → listed.getD i false = false → (tr (i + 1)).2.h.length = (tr i).2.h.length + 1 → X.ρ (tr i).2.h.length = none
  slot : ∀ t j, j ≤ ops.size → (∀ i o, i < j → ops[i]? = some o → o.dst = some t → listed.getD i false = true) → (∀ i o, j ≤ i → ops[i]? = some o → o.dst = some t → listed.getD i false = false) →
    AVR X (a.tmps.getD t undef) (TM.get (tr j).1 t)
  n : a.tmps.size = N
  d : a.defers = ds

theorem getD_set {l : Array Bool} {i : Nat} (hi : i < l.size) (j : Nat) (d : Bool) : (l.setIfInBounds i true).getD j d = if j = i then true else l.getD j d := by
  by_cases h : j = i
  · subst h; simp [hi]
  · rw [if_neg h]; exact getD_set_ne d (Ne.symm h)

/-- the first write from j on that is not listed -/
theorem nextWr (ops : Array Oper) (listed : Array Bool) : ∀ (k j : Nat), j + k = ops.size → ∃ q, j ≤ q ∧ q ≤ ops.size ∧ (∀ i o, j ≤ i → i < q → ops[i]? = some o → isWr o.op = true → listed.getD i false = true) ∧
    (q < ops.size → (∃ o, ops[q]? = some o ∧ isWr o.op = true) ∧ listed.getD q false = false)
  | 0, j, h => ⟨j, Nat.le_refl _, by omega, fun i o h1 h2 => by omega, fun hq => by omega⟩
  | k + 1, j, h => by
    have hj : ops[j]? = some ops[j] := Array.getElem?_eq_getElem (by omega)
    by_cases hw : isWr ops[j].op = true ∧ listed.getD j false = false
    · exact ⟨j, Nat.le_refl _, by omega, fun i o h1 h2 => by omega, fun _ => ⟨⟨_, hj, hw.1⟩, hw.2⟩⟩
    · obtain ⟨q, h1, h2, h3, h4⟩ := nextWr ops listed k (j + 1) (by omega)
      refine ⟨q, by omega, h2, fun i o hi1 hi2 ho hwr => ?_, h4⟩
      by_cases hij : i = j
      · subst hij
        rw [hj] at ho
        obtain rfl := Option.some.inj ho
        cases hl : listed.getD i false with
        | true => rfl
        | false => exact absurd ⟨hwr, hl⟩ hw
      · exact h3 i o (by omega) hi2 ho hwr

variable {ds : List Deferred} {listed : Array Bool} {a : Act} {X : Cx} {q : Nat}

/-- one operation is done: what is left to show -/
theorem Mid.next (T : Text P D call ops X0 st0 N tr vs) (M : Mid P D ops X0 N tr ds listed a X q) {i : Nat} {o : Oper} (ho : ops[i]? = some o) (hun : listed.getD i false = false)
    (hall : ∀ e ∈ o.after, Region.binds .any e = true → listed.getD e.on false = true) {Y : Cx} {q' : Nat} {u : Value} (hle : X.Le Y) (hS : SR D Y (tr q').2) (hq : q' ≤ ops.size) (hu : AVR Y u (vs i))
    (hpast : ∀ j o, j < q' → ops[j]? = some o → isWr o.op = true → j = i ∨ listed.getD j false = true)
    (hnow : q' < ops.size → (∃ o, ops[q']? = some o ∧ isWr o.op = true) ∧ q' ≠ i ∧ listed.getD q' false = false)
    (hnew : ∀ j, j < ops.size → j ≠ i → listed.getD j false = false → (tr (j + 1)).2.h.length = (tr j).2.h.length + 1 → Y.ρ (tr j).2.h.length = none) :
    Mid P D ops X0 N tr ds (listed.setIfInBounds i true) (a.put o.dst u) Y q' := by
  have hi : i < ops.size := (Array.getElem?_eq_some_iff.1 ho).1
  have hset := fun j d => getD_set (l := listed) (i := i) (by rw [M.size]; exact hi) j d
  have hfit : ∀ t, o.dst = some t → t < a.tmps.size := by
    intro t ht
    have := Array.all_eq_true_iff_forall_mem.1 T.fit o (Array.mem_of_getElem? ho)
    rw [ht] at this
    rw [M.n]; simpa using this
  refine ⟨by simpa using M.size, fun j y hj hy e he hb => ?_, M.le.trans hle, hS, hq, fun j y h1 h2 h3 => ?_, fun h => ?_, fun j h1 h2 h3 => ?_, fun t j hj h1 h2 => ?_, (put_size _ _ _).1.trans M.n, (put_size _ _ _).2.trans M.d⟩
  · rw [hset] at hj ⊢
    split
    · rfl
    · by_cases hji : j = i
      · subst hji
        rw [ho] at hy
        obtain rfl := Option.some.inj hy
        exact hall e he hb
      · rw [if_neg hji] at hj
        exact M.down j y hj hy e he hb
  · rw [hset]
    split
    · rfl
    · rename_i hne
      exact (hpast j y h1 h2 h3).resolve_left hne
  · obtain ⟨h1, h2, h3⟩ := hnow h
    exact ⟨h1, by rw [hset, if_neg h2]; exact h3⟩
  · rw [hset] at h2
    split at h2
    · cases h2
    · rename_i hne
      exact hnew j h1 hne h2 h3
  · by_cases hd : o.dst = some t
    · have hij : i < j := by
        rcases Nat.lt_or_ge i j with h | h
        · exact h
        · have := h2 i o h ho hd
          rw [hset, if_pos rfl] at this
          cases this
      have hg : TM.get (tr j).1 t = vs i := by
        rw [T.get (i := i + 1) j (by omega) hj fun k hk1 hk2 y hy hyd => ?_, (T.step i o ho).2, hd]
        · simp only [putO]; rw [get_put, if_pos rfl]
        · have hl := h1 k y hk2 hy hyd
          rw [hset, if_neg (by omega)] at hl
          have := T.before' M.down ho hy (by omega) (indep_slot hd (.inr hyd)).1 hl
          rw [this] at hun; cases hun
      rw [hg]
      simpa [hd, Act.put, hfit t hd] using hu
    · have e : (a.put o.dst u).tmps.getD t undef = a.tmps.getD t undef := by
        cases hdst : o.dst with
        | none => rfl
        | some d =>
          have : d ≠ t := fun e => hd (by rw [hdst, e])
          simp [Act.put, Array.getElem?_setIfInBounds_ne this]
      rw [e]
      refine (M.slot t j hj (fun k y hk hy hyd => ?_) fun k y hk hy hyd => ?_).mono hle
      · have := h1 k y hk hy hyd
        rw [hset] at this
        split at this
        · rename_i hki; subst hki
          rw [ho] at hy
          obtain rfl := Option.some.inj hy
          exact absurd hyd hd
        · exact this
      · have := h2 k y hk hy hyd
        rw [hset] at this
        split at this
        · cases this
        · exact this

/-- what an operation that may go looks at is as in the text's order -/
theorem Mid.sees (T : Text P D call ops X0 st0 N tr vs) (M : Mid P D ops X0 N tr ds listed a X q) {i : Nat} {o : Oper} (ho : ops[i]? = some o) (hun : listed.getD i false = false)
    (hall : ∀ e ∈ o.after, Region.binds .any e = true → listed.getD e.on false = true) : ∀ t ∈ o.looksAt ops, AVR X (a.tmps.getD t undef) (TM.get (tr i).1 t) := by
  intro t ht
  have hi : i < ops.size := (Array.getElem?_eq_some_iff.1 ho).1
  refine M.slot t i (by omega) (fun k y hk hy hyd => ?_) fun k y hk hy hyd => ?_
  · exact T.before M.down hy ho hk (indep_slot hyd (.inl ht)).1 hall
  · cases hl : listed.getD k false with
    | false => rfl
    | true =>
      by_cases hki : k = i
      · subst hki; rw [hl] at hun; cases hun
      · have := T.before' M.down ho hy (by omega) (indep_slot hyd (.inl ht)).2 hl
        rw [this] at hun; cases hun

/-- an operation that looks at memory: between it and the next write only blocks come -/
theorem Mid.near (T : Text P D call ops X0 st0 N tr vs) (M : Mid P D ops X0 N tr ds listed a X q) {i : Nat} {o : Oper} (ho : ops[i]? = some o) (hun : listed.getD i false = false)
    (hall : ∀ e ∈ o.after, Region.binds .any e = true → listed.getD e.on false = true) (hm : isMem o.op = true) : i ≤ q ∧ (i < q → ∀ j, i < j → j < q → ∀ y, ops[j]? = some y → isWr y.op = false) := by
  have hi : i < ops.size := (Array.getElem?_eq_some_iff.1 ho).1
  refine ⟨?_, fun _ j h1 h2 y hy => ?_⟩
  · rcases Nat.lt_or_ge q i with h | h
    · obtain ⟨⟨y, hy, hw⟩, hl⟩ := M.now (by omega)
      have := T.before M.down hy ho h (indep_wr hw hm).1 hall
      rw [this] at hl; cases hl
    · exact h
  · cases hw : isWr y.op with
    | false => rfl
    | true =>
      have hl := M.past j y h2 hy hw
      have := T.before' M.down ho hy h1 (indep_wr hw hm).2 hl
      rw [this] at hun; cases hun

end
end Go.TM
