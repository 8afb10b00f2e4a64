/- The tree machine: an operation looks at its operands alone. -/
import Derived.Test.YtjoajdlnfgfjgaaTmO
import Derived.Orders
namespace Go.TM
open Go.RowKit

section
variable {P : Program} {σ τ : Slots} {st : St}

theorem map_pairs {l : List (Nat × Operand)} (f : AV → AV) (h : ∀ x ∈ l.map (·.2), opd σ x = opd τ x) : (l.map fun x => (x.1, f (opd σ x.2))) = l.map fun x => (x.1, f (opd τ x.2)) :=
  List.map_congr_left fun p hp => by simp only [h p.2 (List.mem_map_of_mem (f := (·.2)) hp)]

theorem map_ops {l : List Operand} (h : ∀ x ∈ l, opd σ x = opd τ x) : l.map (opd σ) = l.map (opd τ) := List.map_congr_left h

theorem opt_map {x : Option Operand} (h : ∀ y ∈ x.toArray, opd σ y = opd τ y) : x.map (opd σ) = x.map (opd τ) := by
  cases x with
  | none => rfl
  | some x => simp [h x (by simp)]

theorem op1_congr {o : Op} (h : ∀ x ∈ o.operands, opd σ x = opd τ x) : op1 P σ st o = op1 P τ st o := by
  cases o <;> simp only [Op.operands] at h
  case assign x =>
    have := h x (by simp)
    unfold op1
    split <;> first | rfl | simp_all
  case move x => simp only [op1, h x (by simp)]
  case pick c a b => simp only [op1, h c (by simp), h a (by simp), h b (by simp)]
  case load t a => simp only [op1, h a (by simp)]
  case binOp b t x y p => simp only [op1, h x (by simp), h y (by simp)]
  case unOp u t x => simp only [op1, h x (by simp)]
  case fieldAddr s x f => simp only [op1, h x (by simp)]
  case indexAddr t x i => simp only [op1, h x (by simp), h i (by simp)]
  case slice t x lo hi mx =>
    have e1 := opt_map (x := lo) fun y hy => h y (by simp only [Array.mem_append]; exact .inl (.inl (.inr hy)))
    have e2 := opt_map (x := hi) fun y hy => h y (by simp only [Array.mem_append]; exact .inl (.inr hy))
    cases mx with
    | none => simp only [op1, h x (by simp), e1, e2]
    | some m => rfl
  case makeFunc f a c =>
    simp only [op1, map_ops (l := a.toList) fun x hx => h x (by simp at hx ⊢; exact .inl hx), map_ops (l := c.toList) fun x hx => h x (by simp at hx ⊢; exact .inr hx)]
  case lookup t m k ok => simp only [op1, h m (by simp), h k (by simp)]
  case extract t i => simp only [op1, h t (by simp)]
  case call c =>
    obtain ⟨callee, args, ts⟩ := c
    simp only [Call.operands] at h
    cases callee with
    | value f => rfl
    | invoke r m => rfl
    | builtin b =>
      have ha : ∀ x ∈ args.toList, opd σ x = opd τ x := fun x hx => h x (by simp at hx ⊢; exact hx)
      cases b
      case len =>
        simp only [op1]
        split
        · rename_i t x ht hx
          rw [ha x (by rw [hx]; simp)]
        · rfl
      case max => simp only [op1, map_ops ha]
      case min => simp only [op1, map_ops ha]
      all_goals rfl
  all_goals rfl

theorem op1D_congr {o : Op} (h : ∀ x ∈ o.operands, opd σ x = opd τ x) : op1D P σ st o = op1D P τ st o := by
  have h1 := op1_congr (P := P) (st := st) h
  cases o <;> try exact h1
  case assign x =>
    simp only [Op.operands] at h
    simp only [op1D, h x (by simp)]
  case build t ps =>
    simp only [Op.operands] at h
    simp only [op1D, buildD]
    have e := map_pairs (l := ps.toList) id fun x hx => h x (by simpa using hx)
    simp only [id] at e
    rw [e]

theorem mem_congr {n : Nat} {o : Op} (h : ∀ x ∈ o.operands, opd σ x = opd τ x) : mem P σ n o = mem P τ n o := by
  cases o <;> simp only [Op.operands] at h
  case box t v => simp only [mem, h v (by simp)]
  case buildSlice t k ps =>
    simp only [mem, buildSlice]
    have e := map_pairs (l := ps.toList) arg fun x hx => h x (by simpa using hx)
    rw [e]
  case makeMap t r => cases r <;> rfl
  case makeSlice t l c => simp only [mem, h l (by simp), h c (by simp)]
  all_goals rfl

theorem memD_congr {n : Nat} {o : Op} (h : ∀ x ∈ o.operands, opd σ x = opd τ x) : memD P σ n o = memD P τ n o := by
  have h1 := mem_congr (P := P) (n := n) h
  cases o <;> first | exact h1 | rfl

theorem op2_congr {o : Op} (hw : isWr o = true) (h : ∀ x ∈ o.operands, opd σ x = opd τ x) : op2 P σ st o = op2 P τ st o := by
  cases o <;> simp only [Op.operands] at h
  case store t a v => simp only [op2, h a (by simp), h v (by simp)]
  case mapUpdate t m k v => simp only [op2, h m (by simp), h k (by simp), h v (by simp)]
  case mapEntry t m k => simp only [op2, h m (by simp), h k (by simp)]
  case entryStore t m k v => simp only [op2, h m (by simp), h k (by simp), h v (by simp)]
  case call c =>
    obtain ⟨callee, args, ts⟩ := c
    simp only [Call.operands] at h
    cases callee with
    | value f => simp [isWr] at hw
    | invoke r m => simp [isWr] at hw
    | builtin b =>
      have ha : ∀ x ∈ args.toList, opd σ x = opd τ x := fun x hx => h x (by simp at hx ⊢; exact hx)
      cases b
      case append =>
        simp only [op2]
        split
        · rename_i t tx s x _ _ hx
          rw [ha s (by rw [hx]; simp), ha x (by rw [hx]; simp)]
        · rfl
      all_goals simp [isWr] at hw
  all_goals simp [isWr] at hw

theorem op3_congr {o : Op} (h : ∀ x ∈ o.operands, opd σ x = opd τ x) : op3 σ o = op3 τ o := by
  cases o <;> simp only [Op.operands] at h
  case call c =>
    obtain ⟨callee, args, ts⟩ := c
    simp only [Call.operands] at h
    cases callee with
    | value f =>
      have ha : ∀ x ∈ args.toList, opd σ x = opd τ x := fun x hx => h x (by simp at hx ⊢; exact .inr hx)
      simp only [op3, h f (by simp), map_ops ha]
    | invoke r m => rfl
    | builtin b => rfl
  all_goals rfl

theorem wanted_congr {ops : Array Oper} {o : Oper} (h : ∀ t ∈ o.looksAt ops, get σ t = get τ t) : wanted ops σ o = wanted ops τ o := by
  unfold wanted
  cases hg : o.guard with
  | none => rfl
  | some jb =>
    obtain ⟨j, b⟩ := jb
    simp only
    cases hd : (ops[j]?).bind (·.dst) with
    | none => rfl
    | some t => simp only [h t (by simp [Oper.looksAt, hg, hd])]

theorem opd_looks {ops : Array Oper} {o : Oper} (h : ∀ t ∈ o.looksAt ops, get σ t = get τ t) : ∀ x ∈ o.op.operands, opd σ x = opd τ x := by
  intro x hx
  cases x with
  | tmp t => exact h t (List.mem_append_left _ (List.mem_filterMap.2 ⟨.tmp t, by simpa using hx, rfl⟩))
  | _ => rfl

theorem stepD_congr {call : CallF} {ops : Array Oper} {o : Oper} (h : ∀ t ∈ o.looksAt ops, get σ t = get τ t) : stepD P call ops σ st o = stepD P call ops τ st o := by
  have hx := opd_looks h
  unfold stepD
  rw [wanted_congr h]
  split
  · by_cases hw : isWr o.op = true
    · rw [if_pos hw, if_pos hw, op2_congr hw hx]
    · rw [if_neg hw, if_neg hw, op1D_congr hx, memD_congr hx, op3_congr hx]
  · rfl
  · rfl

/-- the slots of L alone -/
def only (L : List Nat) (σ : Slots) : Slots := σ.filter fun x => L.contains x.1

theorem get_only (L : List Nat) : ∀ (σ : Slots) (t : Nat), get (only L σ) t = if L.contains t then get σ t else .bad
  | [], t => by simp [only, get]
  | (u, v) :: r, t => by
    have ih := get_only L r t
    simp only [only] at ih ⊢
    simp only [List.filter_cons]
    by_cases hu : L.contains u = true
    · rw [if_pos hu]
      simp only [get]
      by_cases ht : t = u
      · subst ht; rw [if_pos hu]; simp
      · have e : (t == u) = false := by simpa using ht
        simp only [e, Bool.false_eq_true, if_false]
        exact ih
    · rw [if_neg hu, ih]
      by_cases ht : t = u
      · subst ht; rw [if_neg hu, if_neg hu]
      · have e : (t == u) = false := by simpa using ht
        simp only [get, e, Bool.false_eq_true, if_false]

end
end Go.TM
