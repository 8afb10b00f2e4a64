/- The tree machine: what an operation does to the state alone. -/
import Derived.Test.YtjoajdlnfgfjgaaTmM
namespace Go.TM
open Go.RowKit

section
variable {P : Program} {D : Bs} {X : Cx} {st st' : St}

/-- the marks stay, nothing goes -/
structure Grow (st st' : St) : Prop where
  fl : st'.fl = st.fl
  cf : st'.cf = st.cf
  ms : st'.ms = st.ms
  h : st.h.length ≤ st'.h.length
  c : st.ch.length ≤ st'.ch.length

theorem Grow.refl (st : St) : Grow st st := ⟨rfl, rfl, rfl, Nat.le_refl _, Nat.le_refl _⟩
theorem Grow.trans {a b c : St} (h : Grow a b) (k : Grow b c) : Grow a c :=
  ⟨k.fl.trans h.fl, k.cf.trans h.cf, k.ms.trans h.ms, Nat.le_trans h.h k.h, Nat.le_trans h.c k.c⟩

/-- the marks lie one on another -/
def Sorted : List (Nat × Nat) → Prop
  | [] => True
  | m :: r => (∀ x ∈ r, x.1 ≤ m.1 ∧ x.2 ≤ m.2) ∧ Sorted r

structure Step (st st' : St) : Prop where
  g : Grow st st'
  o : Sorted st.ms → ∀ m ∈ st.ms, ∀ b o', b < m.1 → st'.h[b]? = some o' → b < st.h.length → ∃ o, st.h[b]? = some o ∧ (oldO m.1 m.2 o → oldO m.1 m.2 o')

theorem Step.refl (st : St) : Step st st := ⟨Grow.refl _, fun _ _ _ _ o' _ h _ => ⟨o', h, id⟩⟩

theorem Step.same {l : List Nat} : Step st { st with ch := st.ch ++ l } :=
  ⟨⟨rfl, rfl, rfl, Nat.le_refl _, by simp⟩, fun _ _ _ _ o' _ h _ => ⟨o', h, id⟩⟩

theorem Step.push (x : Obj) : Step st (push st x) :=
  ⟨⟨rfl, rfl, rfl, by simp [TM.push], Nat.le_refl _⟩, fun _ _ _ b o' _ h hl => ⟨o', by simpa [TM.push, List.getElem?_append_left hl] using h, id⟩⟩

theorem Step.trans {a b c : St} (h : Step a b) (k : Step b c) : Step a c :=
  ⟨h.g.trans k.g, fun hs m hm i o' hi ho hl => by
    obtain ⟨o1, h1, h2⟩ := k.o (by rw [h.g.ms]; exact hs) m (by rw [h.g.ms]; exact hm) i o' hi ho (Nat.lt_of_lt_of_le hl h.g.h)
    obtain ⟨o2, h3, h4⟩ := h.o hs m hm i o1 hi h1 hl
    exact ⟨o2, h3, fun q => h2 (h4 q)⟩⟩

theorem Step.setH {b : Nat} {x : Obj} (hx : Sorted st.ms → ∀ m ∈ st.ms, b < m.1 → ∀ o, st.h[b]? = some o → oldO m.1 m.2 o → oldO m.1 m.2 x) : Step st (setH st b x) := by
  refine ⟨⟨rfl, rfl, rfl, by simp [TM.setH], Nat.le_refl _⟩, fun hs m hm i o' hi ho hl => ?_⟩
  by_cases hb : b = i
  · subst hb
    have ho' : some x = some o' := by rw [← ho]; simp [TM.setH, hl]
    obtain rfl := Option.some.inj ho'
    exact ⟨st.h[b], List.getElem?_eq_getElem hl, hx hs m hm hi _ (List.getElem?_eq_getElem hl)⟩
  · simp only [TM.setH] at ho
    rw [List.getElem?_set_ne hb] at ho
    exact ⟨o', ho, id⟩

theorem oldCh_mono {bm cm bm' cm' : Nat} (h1 : bm ≤ bm') (h2 : cm ≤ cm') {c : Ch} (h : oldCh bm cm c = true) : oldCh bm' cm' c = true := by
  cases c <;> simp only [oldCh, decide_eq_true_eq] at h ⊢ <;> omega

mutual
theorem old_mono {bm cm bm' cm' : Nat} (h1 : bm ≤ bm') (h2 : cm ≤ cm') : ∀ (v : AV), old bm cm v = true → old bm' cm' v = true
  | .pv _, _ => by simp [old]
  | .g c _ _, h => by simp only [old] at h ⊢; exact oldCh_mono h1 h2 h
  | .lp b _, h => by simp only [old, decide_eq_true_eq] at h ⊢; omega
  | .ls b _ _, h => by simp only [old, decide_eq_true_eq] at h ⊢; omega
  | .lm b, h => by simp only [old, decide_eq_true_eq] at h ⊢; omega
  | .fn _ x y, h => by simp only [old, Bool.and_eq_true] at h ⊢; exact ⟨olds_mono h1 h2 x h.1, olds_mono h1 h2 y h.2⟩
  | .ifc _ v, h => by simp only [old] at h ⊢; exact old_mono h1 h2 v h
  | .agg cs, h => by simp only [old] at h ⊢; exact olds_mono h1 h2 cs h
  | .tup cs, h => by simp only [old] at h ⊢; exact olds_mono h1 h2 cs h
  | .bad, _ => by simp [old]
theorem olds_mono {bm cm bm' cm' : Nat} (h1 : bm ≤ bm') (h2 : cm ≤ cm') : ∀ (vs : List AV), olds bm cm vs = true → olds bm' cm' vs = true
  | [], _ => rfl
  | v :: r, h => by simp only [olds, Bool.and_eq_true] at h ⊢; exact ⟨old_mono h1 h2 v h.1, olds_mono h1 h2 r h.2⟩
end

theorem limit_low : ∀ (ms : List (Nat × Nat)) (b : Nat), Sorted ms → ∀ m ∈ ms, b < m.1 → ∃ x, limit ms b = some x ∧ x.1 ≤ m.1 ∧ x.2 ≤ m.2
  | [], _, _, m, hm, _ => by cases hm
  | y :: r, b, hs, m, hm, hb => by
    obtain ⟨h1, h2⟩ := hs
    have hy : b < y.1 := by
      rcases List.mem_cons.1 hm with rfl | hm
      · exact hb
      · exact Nat.lt_of_lt_of_le hb (h1 m hm).1
    simp only [limit, hy, if_true]
    rcases List.mem_cons.1 hm with rfl | hm
    · cases hl : limit r b with
      | none => exact ⟨_, rfl, Nat.le_refl _, Nat.le_refl _⟩
      | some x =>
        refine ⟨x, rfl, ?_⟩
        exact h1 x (limit_mem hl)
    · obtain ⟨x, e1, e2⟩ := limit_low r b h2 m hm hb
      rw [e1]
      exact ⟨x, rfl, e2⟩
where
  limit_mem {r : List (Nat × Nat)} {b : Nat} {x : Nat × Nat} (h : limit r b = some x) : x ∈ r := by
    induction r with
    | nil => cases h
    | cons y r ih =>
      simp only [limit] at h
      split at h
      case isFalse => cases h
      split at h
      · rename_i z hz
        obtain rfl := Option.some.inj h
        exact List.mem_cons_of_mem _ (ih hz)
      · obtain rfl := Option.some.inj h
        exact List.mem_cons_self

theorem old_down (bm cm : Nat) (v : AV) : old bm cm (down bm cm v) = true := by
  unfold down
  split
  · split
    · rename_i q; simpa only [old] using q
    · simp [old]
  · split
    · assumption
    · simp [old]

theorem old_arg1 {bm cm : Nat} {v : AV} (h : old bm cm v = true) : old bm cm (arg1 v) = true := by
  unfold arg1
  split
  · simp [old]
  · simp [old]
  · exact h

theorem old_entV {b : Nat} {m : Nat × Nat} (hs : Sorted st.ms) (hm : m ∈ st.ms) (hb : b < m.1) (v : AV) : old m.1 m.2 (entV st b v) = true := by
  obtain ⟨x, h1, h2, h3⟩ := limit_low st.ms b hs m hm hb
  unfold entV
  rw [h1]
  exact old_arg1 (old_mono h2 h3 _ (old_down _ _ _))

theorem map_upd {bm cm born k : Nat} {es : List Ent} {f : Ent → Ent} (hf : ∀ x, old bm cm x.val = true → old bm cm (f x).val = true) (h : oldO bm cm (.map es k)) : oldO bm cm (.map (es.map (updE born f)) k) := by
  intro e he
  rw [List.mem_map] at he
  obtain ⟨x, hx, rfl⟩ := he
  unfold updE
  split
  · exact hf x (h x hx)
  · exact h x hx

theorem Step.setMark (c : Ch) (k : Nat) : Step st (setMark st c k) := by
  cases c with
  | v i => exact ⟨⟨rfl, rfl, rfl, Nat.le_refl _, by simp [TM.setMark]⟩, fun _ _ _ _ o' _ h _ => ⟨o', h, id⟩⟩
  | e b born =>
    simp only [TM.setMark]
    split
    · rename_i es q hb
      refine Step.setH fun _ _ _ _ o ho h => ?_
      rw [hb] at ho
      obtain rfl := Option.some.inj ho
      exact map_upd (fun x hx => hx) h
    · exact ⟨Grow.refl _, fun _ _ _ _ o' _ h _ => ⟨o', h, id⟩⟩

theorem store_step {t : TypeId} {a v : AV} (h : store P st t a v = some st') : Step st st' := by
  unfold store at h
  split at h
  case h_2 => cases h
  rename_i b o
  split at h
  case h_2 => cases h
  rename_i cs ho
  split at h
  case isFalse => cases h
  obtain rfl := Option.some.inj h
  refine Step.setH fun hs m hm hb x hx hold => ?_
  rw [ho] at hx
  obtain rfl := Option.some.inj hx
  intro w hw
  simp only [splice, List.mem_append] at hw
  rcases hw with (hw | hw) | hw
  · exact hold w (List.mem_of_mem_take hw)
  · obtain ⟨q, h1, h2, h3⟩ := limit_low st.ms b hs m hm hb
    unfold stored at hw
    rw [h1] at hw
    simp only [List.mem_map] at hw
    obtain ⟨y, _, rfl⟩ := hw
    exact old_mono h2 h3 _ (old_down _ _ _)
  · exact hold w (List.mem_of_mem_drop hw)

theorem mapUpdate_step {t : TypeId} {m k v : AV} (h : mapUpdate P st t m k v = some st') : Step st st' := by
  unfold mapUpdate at h
  repeat' split at h
  all_goals first
    | cases h; done
    | skip
  all_goals
    obtain rfl := Option.some.inj h
    refine Step.setH fun hs m hm hb x hx hold => ?_
    rw [show st.h[_]? = some (.map _ _) by assumption] at hx
    obtain rfl := Option.some.inj hx
  · exact map_upd (fun x _ => old_entV hs hm hb v) hold
  · intro e he
    rcases List.mem_append.1 he with he | he
    · exact hold e he
    · obtain rfl := List.mem_singleton.1 he
      exact old_entV hs hm hb v

theorem old_zeroAV {t : TypeId} {z : AV} {bm cm : Nat} (h : zeroAV P t = some z) (h1 : one z = true) : old bm cm z = true := by
  unfold zeroAV at h
  repeat' split at h
  all_goals first
    | cases h; done
    | (obtain rfl := Option.some.inj h; first | (simp [one] at h1; done) | simp [old])

theorem mapEntry_step {t : TypeId} {m k v : AV} (h : mapEntry P st t m k = some (v, st')) : Step st st' := by
  unfold mapEntry at h
  split at h
  case h_2 => cases h
  split at h
  case h_2 => cases h
  split at h
  case h_2 => cases h
  rename_i es clock ho
  split at h
  case isFalse => cases h
  split at h
  case h_3 => cases h
  · split at h
    · obtain ⟨_, rfl⟩ := Prod.mk.inj (Option.some.inj h)
      exact ⟨Grow.refl _, fun _ _ _ _ o' _ h _ => ⟨o', h, id⟩⟩
    · obtain ⟨_, rfl⟩ := Prod.mk.inj (Option.some.inj h)
      exact ⟨Grow.refl _, fun _ _ _ _ o' _ h _ => ⟨o', h, id⟩⟩
  · split at h
    case h_3 => cases h
    · obtain ⟨_, rfl⟩ := Prod.mk.inj (Option.some.inj h)
      refine Step.setH fun hs m hm hb x hx hold => ?_
      rw [ho] at hx
      obtain rfl := Option.some.inj hx
      intro e he
      rcases List.mem_append.1 he with he | he
      · exact hold e he
      · obtain rfl := List.mem_singleton.1 he
        simp [old]
    · rename_i z _ hz
      split at h
      case isFalse => cases h
      rename_i h1
      obtain ⟨_, rfl⟩ := Prod.mk.inj (Option.some.inj h)
      refine Step.setH fun hs m hm hb x hx hold => ?_
      rw [ho] at hx
      obtain rfl := Option.some.inj hx
      intro e he
      rcases List.mem_append.1 he with he | he
      · exact hold e he
      · obtain rfl := List.mem_singleton.1 he
        exact old_zeroAV hz h1

theorem entryStore_step {m s v : AV} (h : entryStore st m s v = some st') : Step st st' := by
  unfold entryStore at h
  split at h
  case h_2 => cases h
  split at h
  case h_2 => cases h
  rename_i es clock ho
  split at h
  case h_2 => cases h
  split at h
  case isFalse => cases h
  split at h
  · split at h
    case isFalse => cases h
    obtain rfl := Option.some.inj h
    refine Step.setH fun hs m hm hb x hx hold => ?_
    rw [ho] at hx
    obtain rfl := Option.some.inj hx
    exact map_upd (fun x _ => by simp [wrG, old]) hold
  · split at h
    case isFalse => cases h
    obtain rfl := Option.some.inj h
    refine Step.setH fun hs m hm hb x hx hold => ?_
    rw [ho] at hx
    obtain rfl := Option.some.inj hx
    exact map_upd (fun x _ => old_entV hs hm hb _) hold

theorem append_step {t : TypeId} {s x v : AV} (h : append P st t s x = some (v, st')) : Step st st' := by
  unfold append at h
  repeat' split at h
  all_goals first
    | cases h; done
    | skip
  · obtain ⟨_, rfl⟩ := Prod.mk.inj (Option.some.inj h)
    exact Step.setMark _ _
  · obtain ⟨_, rfl⟩ := Prod.mk.inj (Option.some.inj h)
    exact Step.same

theorem build_step {σ : Slots} {t : TypeId} {ps : List (Nat × Operand)} {v : AV} (h : build P σ st t ps = some (v, st')) : Step st st' := by
  unfold build at h
  repeat' split at h
  all_goals first
    | cases h; done
    | skip
  obtain ⟨_, rfl⟩ := Prod.mk.inj (Option.some.inj h)
  exact Step.same

theorem skipS_step {o : Option St} {v : AV} (h : skipS o = some (v, st')) (hs : ∀ s, o = some s → Step st s) : Step st st' := by
  cases o with
  | none => cases h
  | some s =>
    simp only [skipS, Option.some.injEq, Prod.mk.injEq] at h
    obtain ⟨_, rfl⟩ := h
    exact hs _ rfl

theorem op2_step {σ : Slots} {o : Op} {v : AV} (h : op2 P σ st o = some (v, st')) : Step st st' := by
  unfold op2 at h
  split at h
  · obtain ⟨_, rfl⟩ := Prod.mk.inj (Option.some.inj h)
    exact Step.same
  · split at h
    case h_2 => cases h
    split at h
    case isFalse => cases h
    obtain ⟨_, rfl⟩ := Prod.mk.inj (Option.some.inj h)
    exact Step.same.trans (Step.push _)
  · split at h
    case isFalse => cases h
    exact build_step h
  · exact skipS_step h fun _ => store_step
  · exact skipS_step h fun _ => mapUpdate_step
  · exact mapEntry_step h
  · exact skipS_step h fun _ => entryStore_step
  · split at h
    case h_2 => cases h
    split at h
    case isFalse => cases h
    exact append_step h
  · split at h
    case h_2 => cases h
    obtain ⟨_, rfl⟩ := Prod.mk.inj (Option.some.inj h)
    exact Step.push _

/-- what holds of a state in the midst of a frame -/
structure Inv (D : Bs) (X : Cx) (st : St) : Prop where
  s : SR D X st
  old : OldS X st
  so : Sorted st.ms
  b : ∀ m ∈ st.ms, m.1 ≤ X.n ∧ m.2 ≤ st.ch.length
  f : st.fl ≤ st.h.length
  g : st.cf ≤ st.ch.length

theorem Inv.le (h : Inv D X st) {m : Nat × Nat} (hm : m ∈ st.ms) : m.1 ≤ st.h.length ∧ m.2 ≤ st.ch.length := ⟨Nat.le_trans (h.b m hm).1 h.s.nE, (h.b m hm).2⟩

theorem Inv.step (h : Inv D X st) {Y : Cx} (hle : X.Le Y) (hY : SR D Y st') (hs : Step st st') : Inv D Y st' := by
  refine ⟨hY, fun m hm b o' hb hρ ho => ?_, by rw [hs.g.ms]; exact h.so, fun m hm => ?_, by rw [hs.g.fl]; exact Nat.le_trans h.f hs.g.h, by rw [hs.g.cf]; exact Nat.le_trans h.g hs.g.c⟩
  · rw [hs.g.ms] at hm
    have hlt := Nat.lt_of_lt_of_le hb (h.le hm).1
    obtain ⟨o, h1, h2⟩ := hs.o h.so m hm b o' hb ho hlt
    refine h2 (h.old m hm b o hb (fun e => ?_) h1)
    cases hB : Y.ρ b with
    | none => exact hρ hB
    | some B =>
      rcases hle.ρn b B hB with q | q
      · rw [q] at e; cases e
      · have := (h.b m hm).1; omega
  · rw [hs.g.ms] at hm
    exact ⟨by rw [hle.nn]; exact (h.b m hm).1, Nat.le_trans (h.b m hm).2 hs.g.c⟩

theorem Inv.raise (h : Inv D X st) : Inv D (X.raise st.h.length) st :=
  ⟨h.s.raise (Nat.le_refl _), h.old, h.so, fun _ hm => h.le hm, h.f, h.g⟩

theorem Inv.enter (h : Inv D X st) : Inv D (X.raise st.h.length) (TM.enter st) := by
  have h := h.raise
  refine ⟨(h.s.enter h.old).1, (h.s.enter h.old).2, ⟨fun x hx => h.le hx, h.so⟩, fun m hm => ?_, h.f, h.g⟩
  rcases List.mem_cons.1 hm with rfl | hm
  · exact ⟨Nat.le_refl _, Nat.le_refl _⟩
  · exact h.b m hm

end
end Go.TM
