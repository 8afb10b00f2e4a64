/- The tree machine: one operation. -/
import Derived.Test.YtjoajdlnfgfjgaaTmK
namespace Go.TM
open Go.RowKit

section
variable {P : Program} {D : Bs} {X : Cx} {st : St}

theorem putAll {σ : Slots} {a : Act} (hσ : SlotR X σ a.tmps) (xs : List Operand) : ∀ (j : Nat) x, (xs.map (opd σ))[j]? = some x → AVR X ((xs.map a.eval).getD j undef) x := by
  intro j x hj
  rw [List.getElem?_map] at hj
  cases hx : xs[j]? with
  | none => rw [hx] at hj; cases hj
  | some y =>
    rw [hx] at hj
    obtain rfl := Option.some.inj hj
    simp only [List.getD, List.getElem?_map, hx, Option.map_some, Option.getD_some]
    exact opds_sound hσ y

theorem putAllA {σ : Slots} {a : Act} (hσ : SlotR X σ a.tmps) (xs : Array Operand) : ∀ (j : Nat) x, (xs.toList.map (opd σ))[j]? = some x → AVR X ((xs.map a.eval).getD j undef) x := by
  intro j x hj
  have := putAll hσ xs.toList j x hj
  simpa [Array.getD_eq_getD_getElem?, List.getD] using this

theorem optR_map {σ : Slots} {a : Act} (hσ : SlotR X σ a.tmps) (x : Option Operand) : OptR X (x.map a.eval) (x.map (opd σ)) := by
  cases x with
  | none => trivial
  | some x => exact opds_sound hσ x

theorem minmax_sound (isMax : Bool) (w : World) : ∀ (r : List AV) (us : List Value) (x : AV) (u : Value) (v : AV), us.length = r.length → (∀ (j : Nat) y, r[j]? = some y → AVR X (us.getD j undef) y) → AVR X u x →
    (r.foldlM (fun a b => match a, b with
      | .pv (.sc (.int k a)), .pv (.sc (.int k' b)) => if k = k' then some (.pv (.sc (.int k (if isMax then (if b > a then b else a) else (if b < a then b else a))))) else none
      | _, _ => none) x) = some v → ∃ z, (us.foldlM (if isMax then Builtin.max2 else Builtin.min2) u).run P w = .ok z w ∧ AVR X z v
  | [], us, x, u, v, hl, _, hu, h => by
    obtain rfl : us = [] := List.eq_nil_of_length_eq_zero hl
    obtain rfl := Option.some.inj h
    exact ⟨u, rfl, hu⟩
  | b :: r, [], _, _, _, hl, _, _, _ => by simp at hl
  | b :: r, ub :: us, x, u, v, hl, hr, hu, h => by
    have hb : AVR X ub b := hr 0 b rfl
    have hr' : ∀ (j : Nat) y, r[j]? = some y → AVR X (us.getD j undef) y := fun j y hj => hr (j + 1) y hj
    rw [List.foldlM_cons] at h
    split at h
    case h_2 => cases h
    rename_i k p k' q
    cases hu with | pv hu => ?_
    cases hb with | pv hb => ?_
    cases hu with | sc _ => ?_
    cases hb with | sc _ => ?_
    split at h
    case isFalse => cases h
    rename_i hk
    subst hk
    obtain ⟨z, h1, h2⟩ := minmax_sound isMax w r us _ (.int k (if isMax then (if q > p then q else p) else (if q < p then q else p))) v (by simpa using hl) hr' (.pv (.sc rfl)) h
    refine ⟨z, ?_, h2⟩
    rw [List.foldlM_cons]
    have : ((if isMax then Builtin.max2 else Builtin.min2) (.int k p) (.int k q)).run P w = .ok (.int k (if isMax then (if q > p then q else p) else (if q < p then q else p))) w := by
      cases isMax <;> rfl
    simp only [Sem.run_bind, this, Result.andThen_ok]
    exact h1

theorem minmax_run (isMax : Bool) {us : List Value} {xs : List AV} {v : AV} (hl : us.length = xs.length) (hr : ∀ (j : Nat) y, xs[j]? = some y → AVR X (us.getD j undef) y) (h : minmax isMax xs = some v) (ts : Array TypeId) (ty : TypeId) (w : World) :
    ∃ z, ((if isMax then Builtin.max_ else Builtin.min_) ts ty us.toArray).run P w = .ok z w ∧ AVR X z v := by
  cases xs with
  | nil => cases h
  | cons x r =>
    cases us with
    | nil => simp at hl
    | cons u us =>
      obtain ⟨z, h1, h2⟩ := minmax_sound (P := P) isMax w r us x u v (by simpa using hl) (fun j y hj => hr (j + 1) y hj) (hr 0 x rfl) h
      refine ⟨z, ?_, h2⟩
      cases isMax <;> simpa [Builtin.max_, Builtin.min_] using h1

theorem op1_sound (hS : SR D X st) {σ : Slots} {a : Act} (hσ : SlotR X σ a.tmps) {o : Oper} {v : AV} (h : op1 P σ st o.op = some v) :
    ∃ u, AVR X u v ∧ (execOp a.eval o).run P X.w = .ok (.value u) X.w := by
  obtain ⟨dst, op, type, pos, after, guard⟩ := o
  have hv := fun x => opds_sound hσ x
  dsimp only at h
  unfold op1 at h
  split at h
  · cases h
  · rename_i x; obtain rfl := Option.some.inj h; exact ⟨_, hv x, rfl⟩
  · rename_i x _; obtain rfl := Option.some.inj h; exact ⟨_, hv x, rfl⟩
  · rename_i c x y
    split at h
    case h_2 => cases h
    rename_i t ht
    obtain rfl := Option.some.inj h
    have hc := hv c
    rw [ht] at hc
    have hb : a.eval c = .bool t := by
      generalize a.eval c = q at hc
      cases hc with | pv hc => ?_
      cases hc; rfl
    refine ⟨if t then a.eval x else a.eval y, by cases t <;> exact hv _, ?_⟩
    simp [execOp, hb, asBool]
  · rename_i t x
    obtain ⟨z, h1, h2⟩ := load_sound hS (hv x) h
    exact ⟨z, h2, by simp [execOp, h1]⟩
  · rename_i b t x y p
    obtain ⟨z, h1, h2⟩ := bin_sound (hv x) (hv y) h x y
    exact ⟨z, h2, by simp only [execOp, Sem.run_bind, h1, Result.andThen_ok]; rfl⟩
  · rename_i u t x
    obtain ⟨z, h1, h2⟩ := unop_sound (P := P) (hv x) h
    exact ⟨z, h2, by simp [execOp, h1]⟩
  · rename_i s x f
    split at h
    case h_2 => cases h
    rename_i n hn
    obtain ⟨z, h1, h2⟩ := field_sound (hv x) hn h
    exact ⟨z, h2, by simp [execOp, h1]⟩
  · rename_i t x i
    split at h
    case h_2 => cases h
    rename_i n hn
    obtain ⟨k, hk⟩ := isInt_sound (hv i) hn
    obtain ⟨z, h1, h2⟩ := index_sound (k := k) (hv x) h
    exact ⟨z, h2, by simp [execOp, hk, h1]⟩
  · rename_i t x lo hi
    obtain ⟨z, h1, h2⟩ := slice_sound (hv x) (optR_map hσ lo) (optR_map hσ hi) h
    exact ⟨z, h2, by simp [execOp, h1]⟩
  · rename_i f x c
    obtain rfl := Option.some.inj h
    refine ⟨_, .fn (fa := x.map a.eval) (ca := c.map a.eval) (by simp) (by simp) (putAllA hσ x) (putAllA hσ c), by simp [execOp, Instr.makeFunc]⟩
  · rename_i t m k ok
    obtain ⟨z, h1, h2⟩ := lookup_sound hS (hv m) (hv k) h
    exact ⟨z, h2, by simp [execOp, h1]⟩
  · rename_i t i
    split at h
    case h_2 => cases h
    rename_i vs hvs
    have ht := hv t
    rw [hvs] at ht
    generalize hq : a.eval t = q at ht
    cases ht with | tup h1 h2 => ?_
    rename_i us
    have hlt : i < us.size := by rw [h1]; exact (List.getElem?_eq_some_iff.1 h).1
    refine ⟨us.getD i undef, h2 i v h, ?_⟩
    simp [execOp, hq, Instr.extract, hlt]
  · rename_i args argTypes
    split at h
    case h_2 => cases h
    rename_i t x ht hx
    have hargs : args = #[x] := by rw [← Array.toArray_toList (xs := args), hx]
    subst hargs
    obtain ⟨z, h1, h2⟩ := len_sound (ty := type) hS (hv x) h argTypes ht
    exact ⟨z, h2, by simp [execOp, resolve, invoke, builtin, h1]⟩
  · rename_i args argTypes
    obtain ⟨z, h1, h2⟩ := minmax_run (P := P) (us := args.toList.map a.eval) true (by simp) (putAll hσ args.toList) h argTypes type X.w
    refine ⟨z, h2, ?_⟩
    simp only [if_true] at h1
    have e : (args.toList.map a.eval).toArray = args.map a.eval := by apply Array.ext'; simp
    rw [e] at h1
    simp [execOp, resolve, invoke, builtin, h1]
  · rename_i args argTypes
    obtain ⟨z, h1, h2⟩ := minmax_run (P := P) (us := args.toList.map a.eval) false (by simp) (putAll hσ args.toList) h argTypes type X.w
    refine ⟨z, h2, ?_⟩
    simp only [Bool.false_eq_true, if_false] at h1
    have e : (args.toList.map a.eval).toArray = args.map a.eval := by apply Array.ext'; simp
    rw [e] at h1
    simp [execOp, resolve, invoke, builtin, h1]
  · cases h

/-- what an operation that changes memory has done -/
def Did (D : Bs) (X : Cx) (P : Program) (s : Sem Next) (v : AV) (st' : St) : Prop :=
  ∃ Y, X.Le Y ∧ SR D Y st' ∧ ((∃ u, AVR Y u v ∧ s.run P X.w = .ok (.value u) Y.w) ∨ (v = .tup [] ∧ s.run P X.w = .ok .skip Y.w))

theorem Done.did {s : Sem Value} {v : AV} {st' : St} (h : Done D X P s v st') : Did D X P (do pure (.value (← s))) v st' := by
  obtain ⟨Y, u, h1, h2, h3, h4⟩ := h
  exact ⟨Y, h1, h2, .inl ⟨u, h3, by simp [h4]⟩⟩

theorem did_unit {s : Sem Unit} {o : Option St} {v : AV} {st' : St} (h : skipS o = some (v, st')) (hd : ∀ st', o = some st' → ∃ Y, X.Le Y ∧ SR D Y st' ∧ s.run P X.w = .ok () Y.w) :
    Did D X P (do s; pure .skip) v st' := by
  cases o with
  | none => cases h
  | some st1 =>
    simp only [skipS, Option.some.injEq, Prod.mk.injEq] at h
    obtain ⟨rfl, rfl⟩ := h
    obtain ⟨Y, h1, h2, h3⟩ := hd _ rfl
    exact ⟨Y, h1, h2, .inr ⟨rfl, by simp [h3]⟩⟩

/-- an operation that makes a block -/
def MadeN (X : Cx) (P : Program) (s : Sem Next) (n : Nat) (v : AV) (o : Obj) : Prop :=
  ∃ (u : Value) (go : Go.Obj), s.run P X.w = .ok (.value u) (X.w.alloc go) ∧ (∀ Y : Cx, Y.ρ n = some X.w.heap.size → AVR Y u v) ∧
    (∀ (Y : Cx) b, X.Le Y → Y.w.heap[X.w.heap.size]? = some go → ObjR Y b X.w.heap.size o) ∧ ∀ es k, o = .map es k → es = []

theorem Made.next {s : Sem Value} {n : Nat} {v : AV} {o : Obj} (h : Made X P s n v o) : MadeN X P (do pure (.value (← s))) n v o := by
  obtain ⟨u, go, h1, h2⟩ := h
  exact ⟨u, go, by simp [h1], h2⟩

theorem mem_sound {σ : Slots} {a : Act} (hσ : SlotR X σ a.tmps) {o : Oper} {n : Nat} {v : AV} {x : Obj} (h : mem P σ n o.op = some (v, x)) : MadeN X P (execOp a.eval o) n v x := by
  obtain ⟨dst, op, type, pos, after, guard⟩ := o
  have hv := fun x => opds_sound hσ x
  dsimp only at h
  unfold mem at h
  split at h
  · rename_i x
    split at h
    case isFalse => cases h
    rename_i h1
    obtain ⟨rfl, rfl⟩ := Prod.mk.inj (Option.some.inj h)
    exact (box_sound (hv x) h1 n).next
  · split at h
    case h_2 => cases h
    rename_i cs hb
    obtain ⟨rfl, rfl⟩ := Prod.mk.inj (Option.some.inj h)
    exact (buildSlice_sound hσ hb n).next
  · obtain ⟨rfl, rfl⟩ := Prod.mk.inj (Option.some.inj h)
    exact (makeMap_sound _ n).next
  · split at h
    case h_2 => cases h
    rename_i k cs hb
    obtain ⟨rfl, rfl⟩ := Prod.mk.inj (Option.some.inj h)
    exact (makeSlice_sound (hv _) (hv _) hb n).next
  · cases h

theorem mem_did (hS : SR D X st) {σ : Slots} {a : Act} (hσ : SlotR X σ a.tmps) {o : Oper} {v : AV} {x : Obj} (h : mem P σ st.h.length o.op = some (v, x)) : Did D X P (execOp a.eval o) v (push st x) := by
  obtain ⟨u, go, h1, h2, h3, h4⟩ := mem_sound hσ h
  have hle := hS.leAlloc go
  exact ⟨X.alloc st.h.length go, hle, hS.alloc h4 (h3 _ _ hle heap_alloc_eq), .inl ⟨u, h2 _ (Cx.alloc_new _ _ _), h1⟩⟩

theorem op2_sound (hS : SR D X st) {σ : Slots} {a : Act} (hσ : SlotR X σ a.tmps) {o : Oper} {v : AV} {st' : St} (h : op2 P σ st o.op = some (v, st')) :
    Did D X P (execOp a.eval o) v st' := by
  obtain ⟨dst, op, type, pos, after, guard⟩ := o
  have hv := fun x => opds_sound hσ x
  dsimp only at h
  unfold op2 at h
  split at h
  · obtain ⟨rfl, rfl⟩ := Prod.mk.inj (Option.some.inj h)
    obtain ⟨Y, h1, h2, h3, h4⟩ := nilChain_sound hS
    exact ⟨Y, h1, h2, .inl ⟨_, h3, by rw [h4]; rfl⟩⟩
  · split at h
    case h_2 => cases h
    rename_i z hz
    split at h
    case isFalse => cases h
    rename_i h1
    obtain ⟨rfl, rfl⟩ := Prod.mk.inj (Option.some.inj h)
    exact (alloc_sound hS hz h1).did
  · split at h
    case isFalse => cases h
    rename_i hf
    exact (build_sound hS hσ hf h).did
  · exact did_unit h fun st' h' => store_sound hS (hv _) (hv _) h'
  · exact did_unit h fun st' h' => mapUpdate_sound hS (hv _) (hv _) (hv _) h'
  · exact (mapEntry_sound hS (hv _) (hv _) h).did
  · exact did_unit h fun st' h' => entryStore_sound hS (hv _) (hv _) (hv _) h'
  · rename_i args argTypes
    split at h
    case h_2 => cases h
    rename_i t tx s x ht htx hx
    split at h
    case isFalse => cases h
    rename_i hs
    simp only [Bool.and_eq_true, beq_iff_eq] at hs
    have hargs : args = #[s, x] := by rw [← Array.toArray_toList (xs := args), hx]
    subst hargs
    have hts : argTypes = #[t, tx] := by
      apply Array.ext'
      have e : argTypes.toList.length = 2 := by rw [Array.length_toList]; exact hs.2
      match hq : argTypes.toList, e with
      | [p, q], _ =>
        have h0 : argTypes.toList[0]? = some t := by rw [Array.getElem?_toList]; exact ht
        have h1 : argTypes.toList[1]? = some tx := by rw [Array.getElem?_toList]; exact htx
        rw [hq] at h0 h1
        simp at h0 h1
        simp [h0, h1]
    subst hts
    obtain ⟨e', he'⟩ : ∃ e', P.underlying tx = some (.slice e') := by
      have := hs.1
      unfold isSlice at this
      split at this
      · rename_i e _; exact ⟨e, by assumption⟩
      · cases this
    have := (append_sound (ty := type) hS he' (hv s) (hv x) h).did
    simpa [Did, execOp, resolve, invoke, builtin] using this
  · split at h
    case h_2 => cases h
    rename_i v' x hm
    obtain ⟨rfl, rfl⟩ := Prod.mk.inj (Option.some.inj h)
    exact mem_did (o := ⟨dst, op, type, pos, after, guard⟩) hS hσ hm

/-- a function that a call enters -/
def Entered (P : Program) (f : FuncId) : Prop := ∃ fn, P.funcs[f]? = some fn ∧ fn.name ≠ "runtime.NumGoroutine" ∧ fn.body.isSome = true

theorem args_sound {xs : List AV} {us : List Value} (hl : us.length = xs.length) (h : ∀ (j : Nat) x, xs[j]? = some x → AVR X (us.getD j undef) x) :
    us.length = (xs.map arg).length ∧ ∀ (j : Nat) x, (xs.map arg)[j]? = some x → AVR X (us.getD j undef) x := by
  refine ⟨by simpa using hl, fun j x hj => ?_⟩
  rw [List.getElem?_map] at hj
  cases hx : xs[j]? with
  | none => rw [hx] at hj; cases hj
  | some y =>
    rw [hx] at hj
    obtain rfl := Option.some.inj hj
    exact arg_sound (h j y hx)

def Rel (X : Cx) (us : List Value) (xs : List AV) : Prop := us.length = xs.length ∧ ∀ (j : Nat) x, xs[j]? = some x → AVR X (us.getD j undef) x

theorem Rel.append {us vs : List Value} {xs ys : List AV} (h : Rel X us xs) (k : Rel X vs ys) : Rel X (us ++ vs) (xs ++ ys) := by
  refine ⟨by simp [h.1, k.1], fun j x hj => ?_⟩
  rcases Nat.lt_or_ge j xs.length with q | q
  · rw [List.getElem?_append_left q] at hj
    have := h.2 j x hj
    simpa only [List.getD, List.getElem?_append_left (show j < us.length by rw [h.1]; exact q)] using this
  · rw [List.getElem?_append_right q] at hj
    have := k.2 _ x hj
    rw [← h.1] at this q
    simpa only [List.getD, List.getElem?_append_right q] using this

theorem Rel.arr {c : Array Value} {ys : List AV} (h1 : c.size = ys.length) (h2 : ∀ (j : Nat) x, ys[j]? = some x → AVR X (c.getD j undef) x) : Rel X c.toList ys :=
  ⟨by simpa using h1, fun j x hj => by simpa [Array.getD_eq_getD_getElem?, List.getD] using h2 j x hj⟩

theorem Rel.toArr {us : Array Value} {xs : List AV} (h : Rel X us.toList xs) : us.size = xs.length ∧ ∀ (j : Nat) x, xs[j]? = some x → AVR X (us.getD j undef) x :=
  ⟨by simpa using h.1, fun j x hj => by
    have := h.2 j x hj
    rw [List.getD, Array.getElem?_toList] at this
    rw [Array.getD_eq_getD_getElem?]
    exact this⟩

theorem run_callFunc {f : FuncId} (hf : Entered P f) (args : Array Value) (w : World) : (callFunc f args).run P w = .ok (.enter f args) w := by
  obtain ⟨fn, hfn, hname, hbody⟩ := hf
  obtain ⟨c, hc⟩ := Option.isSome_iff_exists.1 hbody
  simp [callFunc, hfn, hname, hc]

theorem op3_sound {σ : Slots} {a : Act} (hσ : SlotR X σ a.tmps) {o : Oper} {f : FuncId} {args : List AV} (h : op3 σ o.op = some (f, args)) :
    ∃ us : Array Value, us.size = args.length ∧ (∀ (j : Nat) x, args[j]? = some x → AVR X (us.getD j undef) x) ∧ (Entered P f → (execOp a.eval o).run P X.w = .ok (.enter f us) X.w) := by
  obtain ⟨dst, op, type, pos, after, guard⟩ := o
  have hv := fun x => opds_sound hσ x
  dsimp only at h
  unfold op3 at h
  split at h
  case h_2 => cases h
  rename_i g xs _
  have hxs : Rel X (xs.map a.eval).toList (xs.toList.map (opd σ)) := .arr (by simp) (putAllA hσ xs)
  split at h
  · rename_i k first cap hk
    obtain ⟨rfl, rfl⟩ := Prod.mk.inj (Option.some.inj h)
    have hg := hv g
    rw [hk] at hg
    generalize hq : a.eval g = q at hg
    cases hg with | fn h1 h2 h3 h4 => ?_
    rename_i fa ca
    obtain ⟨r1, r2⟩ := ((Rel.arr h1 h3).append hxs).append (Rel.arr h2 h4)
    have r := args_sound r1 r2
    have e : fa.toList ++ (xs.map a.eval).toList ++ ca.toList = (fa ++ xs.map a.eval ++ ca).toList := by simp
    rw [e] at r
    obtain ⟨r1, r2⟩ := Rel.toArr r
    refine ⟨fa ++ xs.map a.eval ++ ca, r1, r2, fun hf => ?_⟩
    simp only [execOp, resolve, hq, Deferred.ofValue, invoke, Sem.run_bind, Sem.run_pure, Result.andThen_ok]
    exact run_callFunc hf _ _
  · rename_i k fa ca hk
    obtain ⟨rfl, rfl⟩ := Prod.mk.inj (Option.some.inj h)
    have hg := hv g
    rw [hk] at hg
    have hgc : a.eval g = .func (.func k) #[] #[] := by
      generalize a.eval g = q at hg
      cases hg with | pv hg => ?_
      cases hg with | sc hs => ?_
      simp only [scalar, Bool.and_eq_true, Array.isEmpty_iff] at hs
      rw [hs.1, hs.2]
    obtain ⟨r1, r2⟩ := Rel.toArr (args_sound hxs.1 hxs.2)
    refine ⟨xs.map a.eval, r1, r2, fun hf => ?_⟩
    simp only [execOp, resolve, hgc, Deferred.ofValue, invoke, Sem.run_bind, Sem.run_pure, Result.andThen_ok]
    rw [show #[] ++ xs.map a.eval ++ #[] = xs.map a.eval by simp]
    exact run_callFunc hf _ _
  · cases h

end
end Go.TM
