/- The tree machine: a region whose order is drawn, in the text's order. -/
import Derived.Test.YtjoajdlnfgfjgaaTmQ
namespace Go.TM
open Go.RowKit

section
variable {P : Program} {D : Bs} {X : Cx} {st st' : St}

theorem trace {call : CallF} {ops : Array Oper} : ∀ (l : List Oper) (σ : Slots) (st : St) (σ' : Slots) (st' : St), runL P call true ops l σ st = some (σ', st') →
    ∃ (tr : Nat → Slots × St) (vs : Nat → AV), tr 0 = (σ, st) ∧ tr l.length = (σ', st') ∧
      ∀ j o, l[j]? = some o → stepD P call ops (tr j).1 (tr j).2 o = some (vs j, (tr (j + 1)).2) ∧ (tr (j + 1)).1 = putO (tr j).1 o.dst (vs j)
  | [], σ, st, σ', st', h => by
    obtain ⟨rfl, rfl⟩ := Prod.mk.inj (Option.some.inj h)
    exact ⟨fun _ => (σ, st), fun _ => .bad, rfl, rfl, fun j o hj => by simp at hj⟩
  | o :: r, σ, st, σ', st', h => by
    simp only [runL, if_true] at h
    split at h
    case h_2 => cases h
    rename_i v st1 hs
    obtain ⟨tr, vs, h1, h2, h3⟩ := trace r _ _ _ _ h
    refine ⟨fun j => match j with | 0 => (σ, st) | j + 1 => tr j, fun j => match j with | 0 => v | j + 1 => vs j, rfl, h2, fun j o' hj => ?_⟩
    cases j with
    | zero =>
      obtain rfl := Option.some.inj hj
      show stepD P call ops σ st o = some (v, (tr 0).2) ∧ (tr 0).1 = putO σ o.dst v
      rw [h1]; exact ⟨hs, rfl⟩
    | succ j => exact h3 j o' hj

theorem memD_isMem {σ : Slots} {n : Nat} {o : Op} {x : AV × Obj} (h : memD P σ n o = some x) : isMem o = true := by
  cases o <;> first | rfl | cases h

theorem op3_isMem {σ : Slots} {o : Op} {x : FuncId × List AV} (h : op3 σ o = some x) : isMem o = true := by
  cases o <;> first | rfl | cases h

theorem isWr_isMem {o : Op} (h : isWr o = true) : isMem o = true := by
  cases o <;> first | rfl | cases h

theorem op1D_pure {σ : Slots} {o : Op} (h : isMem o = false) : op1D P σ st o = op1D P σ st' o := by
  cases o <;> first | rfl | (simp [isMem] at h; done) | skip
  case slice t x lo hi mx => cases mx <;> rfl

theorem op2_wr_len {σ : Slots} {o : Op} {v : AV} (hw : isWr o = true) (h : op2 P σ st o = some (v, st')) : st'.h.length = st.h.length := by
  have sk : ∀ {s : Option St} {v : AV}, skipS s = some (v, st') → (∀ q, s = some q → q.h.length = st.h.length) → st'.h.length = st.h.length := by
    intro s v h hs
    cases s with
    | none => cases h
    | some q =>
      simp only [skipS, Option.some.injEq, Prod.mk.injEq] at h
      obtain ⟨_, rfl⟩ := h
      exact hs _ rfl
  cases o <;> first | (simp [isWr] at hw; done) | skip
  case store t a v =>
    refine sk h fun q hq => ?_
    unfold store at hq
    repeat' split at hq
    all_goals first | cases hq; done | (obtain rfl := Option.some.inj hq; simp [setH])
  case mapUpdate t m k v =>
    refine sk h fun q hq => ?_
    unfold mapUpdate at hq
    repeat' split at hq
    all_goals first | cases hq; done | (obtain rfl := Option.some.inj hq; simp [setH])
  case mapEntry t m k =>
    have h' : mapEntry P st t (opd σ m) (opd σ k) = some (v, st') := h
    unfold mapEntry at h'
    repeat' split at h'
    all_goals first | cases h'; done | (obtain ⟨_, rfl⟩ := Prod.mk.inj (Option.some.inj h'); simp [setH])
  case entryStore t m k v =>
    refine sk h fun q hq => ?_
    unfold entryStore at hq
    repeat' split at hq
    all_goals first | cases hq; done | (obtain rfl := Option.some.inj hq; simp [setH])
  case call c =>
    obtain ⟨callee, args, ts⟩ := c
    cases callee with
    | value f => simp [isWr] at hw
    | invoke r m => simp [isWr] at hw
    | builtin b =>
      cases b <;> first | (simp [isWr] at hw; done) | skip
      simp only [op2] at h
      split at h
      case h_2 => cases h
      split at h
      case isFalse => cases h
      unfold append at h
      repeat' split at h
      all_goals first | cases h; done | (obtain ⟨_, rfl⟩ := Prod.mk.inj (Option.some.inj h); first | exact setMark_len _ _ | rfl)

/-- the kinds of steps -/
inductive Kind (P : Program) (call : CallF) (ops : Array Oper) (σ : Slots) (st : St) (o : Oper) (v : AV) (st' : St) : Prop
  | off (hw : wanted ops σ o = some false) (hv : v = .tup []) (hs : st' = st)
  | write (hw : wanted ops σ o = some true) (h1 : isWr o.op = true) (h : op2 P σ st o.op = some (v, st'))
  | val (hw : wanted ops σ o = some true) (h1 : isWr o.op = false) (h : op1D P σ st o.op = some v) (hs : st' = st)
  | make (x : Obj) (hw : wanted ops σ o = some true) (h1 : isWr o.op = false) (h : memD P σ st.h.length o.op = some (v, x)) (hs : st' = push st x)
  | call (f : FuncId) (args : List AV) (v0 : AV) (s0 : St) (hw : wanted ops σ o = some true) (h1 : isWr o.op = false) (h : op3 σ o.op = some (f, args))
      (hc : call f args { st with fl := st.h.length, cf := st.ch.length } = some (v0, s0)) (hv : v = strip v0) (hs : st' = st)

theorem stepD_kind {call : CallF} {ops : Array Oper} {σ : Slots} {o : Oper} {v : AV} (h : stepD P call ops σ st o = some (v, st')) : Kind P call ops σ st o v st' := by
  unfold stepD at h
  split at h
  case h_3 => cases h
  · rename_i hw
    split at h
    · rename_i h1; exact .write hw h1 h
    · rename_i h1
      have h1 : isWr o.op = false := by simpa using h1
      split at h
      · rename_i v1 h2
        obtain ⟨rfl, rfl⟩ := Prod.mk.inj (Option.some.inj h)
        exact .val hw h1 h2 rfl
      · split at h
        · rename_i v1 x h2
          obtain ⟨rfl, rfl⟩ := Prod.mk.inj (Option.some.inj h)
          exact .make x hw h1 h2 rfl
        · split at h
          case h_2 => cases h
          rename_i f args h2
          split at h
          case h_2 => cases h
          rename_i v0 s0 h3
          obtain ⟨rfl, rfl⟩ := Prod.mk.inj (Option.some.inj h)
          exact .call f args v0 s0 hw h1 h2 h3 rfl rfl
  · rename_i hw
    obtain ⟨rfl, rfl⟩ := Prod.mk.inj (Option.some.inj h)
    exact .off hw rfl rfl

/-- what holds of the text's order -/
structure TI (D : Bs) (X0 : Cx) (st0 : St) (N : Nat) (σ : Slots) (st : St) : Prop where
  ex : ∃ (X : Cx) (tmps : Array Value), Inv D X st ∧ SlotR X σ tmps ∧ tmps.size = N ∧ X0.Le X ∧ ∀ b, st0.h.length ≤ b → b < st.h.length → X.ρ b ≠ none
  step : Step st0 st

theorem Inv.olds (h : Inv D X st) : (∀ b o, b < st.h.length → X.ρ b ≠ none → st.h[b]? = some o → oldO st.h.length st.ch.length o) ∧
    ∀ m ∈ st.ms, m.1 ≤ st.h.length ∧ m.2 ≤ st.ch.length ∧ ∀ b o, b < m.1 → X.ρ b ≠ none → st.h[b]? = some o → oldO m.1 m.2 o :=
  ⟨fun b o hb hρ ho => (h.s.enter h.old).2 (st.h.length, st.ch.length) (by simp [TM.enter]) b o hb hρ ho,
   fun m hm => ⟨(h.le hm).1, (h.le hm).2, fun b o hb hρ ho => h.old m hm b o hb hρ ho⟩⟩

theorem TI.next {call : CallF} (hC : CallOK P call) {ops : Array Oper} {X0 : Cx} {st0 : St} {N : Nat} {σ : Slots} {o : Oper} {v : AV} (hd : ∀ t, o.dst = some t → t < N) (h : TI D X0 st0 N σ st)
    (hst : stepD P call ops σ st o = some (v, st')) : TI D X0 st0 N (putO σ o.dst v) st' := by
  obtain ⟨⟨X, tmps, hI, hσ, hN, hle, ht⟩, hstep⟩ := h
  have hd' : ∀ t, o.dst = some t → t < (Act.mk tmps []).tmps.size := fun t e => by show t < tmps.size; rw [hN]; exact hd t e
  have hsz : ∀ u, ((Act.mk tmps []).put o.dst u).tmps.size = N := fun u => (put_size _ _ _).1.trans hN
  have hk := stepD_kind hst
  clear hst
  cases hk with
  | off hw hv hs =>
    subst hv; subst hs
    exact ⟨⟨X, _, hI, SlotR.put (a := ⟨tmps, []⟩) hσ hd' (u := undef) (.tup rfl fun j x hj => by simp at hj), hsz _, hle, ht⟩, hstep⟩
  | write hw h1 h =>
    have hσ' : SlotR X σ (Act.mk tmps []).tmps := hσ
    obtain ⟨Y, hle', hY, hr⟩ := op2_sound (a := ⟨tmps, []⟩) hI.s hσ' h
    have hI' := hI.step hle' hY (op2_step h)
    have ht' : ∀ b, st0.h.length ≤ b → b < st'.h.length → Y.ρ b ≠ none := fun b h1' h2' => by
      rw [op2_wr_len h1 h] at h2'
      cases hB : X.ρ b with
      | none => exact absurd hB (ht b h1' h2')
      | some B => rw [hle'.ρ b B hB]; simp
    rcases hr with ⟨u, hu, _⟩ | ⟨rfl, _⟩
    · exact ⟨⟨Y, _, hI', SlotR.put (a := ⟨tmps, []⟩) (hσ.mono hle') hd' hu, hsz _, hle.trans hle', ht'⟩, hstep.trans (op2_step h)⟩
    · exact ⟨⟨Y, _, hI', SlotR.put (a := ⟨tmps, []⟩) (u := undef) (hσ.mono hle') hd' (.tup rfl fun j x hj => by simp at hj), hsz _, hle.trans hle', ht'⟩, hstep.trans (op2_step h)⟩
  | val hw h1 h hs =>
    subst hs
    obtain ⟨u, hu, _⟩ := op1D_sound (a := ⟨tmps, []⟩) hI.s hσ h
    exact ⟨⟨X, _, hI, SlotR.put (a := ⟨tmps, []⟩) hσ hd' hu, hsz _, hle, ht⟩, hstep⟩
  | make x hw h1 h hs =>
    subst hs
    obtain ⟨u, go, _, hu, hob, hmap⟩ := memD_sound (a := ⟨tmps, []⟩) hσ h
    have hle' := hI.s.leAlloc go
    have hY := hI.s.alloc hmap (hob _ _ hle' heap_alloc_eq)
    have hnew := Cx.alloc_new X st.h.length go
    refine ⟨⟨_, _, hI.step hle' hY (Step.push x), SlotR.put (a := ⟨tmps, []⟩) (hσ.mono hle') hd' (hu _ hnew), hsz _, hle.trans hle', fun b h1' h2' => ?_⟩, hstep.trans (Step.push x)⟩
    simp only [push, List.length_append, List.length_singleton] at h2'
    by_cases hb : b = st.h.length
    · rw [hb, hnew]; simp
    · cases hB : X.ρ b with
      | none => exact absurd hB (ht b h1' (by omega))
      | some B => rw [hle'.ρ b B hB]; simp
  | call f args v0 s0 hw h1 h hc hv hs =>
    subst hs; subst hv
    obtain ⟨us, a1, a2, _⟩ := op3_sound (P := P) (a := ⟨tmps, []⟩) hσ h
    have ho := hI.olds
    obtain ⟨_, hcalls⟩ := drawCall hC hI.s (Ext.refl _) hI.s.nE ho.1 ho.2 hI.so hc a1 fun j x hj => (a2 j x hj).lim ((a2 j x hj).old hI.s)
    obtain ⟨e, w', fr, hR, _⟩ := hcalls []
    cases e with
    | panicked c => exact hR.elim
    | outgrown => exact hR.elim
    | returned u =>
      obtain ⟨Y, hle', hY, hu, _, hρ⟩ := hR
      exact ⟨⟨Y, _, hI.step hle' hY (Step.refl _), SlotR.put (a := ⟨tmps, []⟩) (hσ.mono hle') hd' hu, hsz _, hle.trans hle', by rw [hρ]; exact ht⟩, hstep⟩

/-- what the masks name is listed -/
theorem mask_listed {l : List Oper} {ms : List Nat} (hm : maskOk l ms = true) {listed : Array Bool} (hdown : ∀ (j : Nat) o, listed.getD j false = true → l[j]? = some o → ∀ e ∈ o.after, Region.binds .any e = true → listed.getD e.on false = true) :
    ∀ (j i : Nat) (o : Oper), l[j]? = some o → i < l.length → (∀ e ∈ o.after, Region.binds .any e = true → listed.getD e.on false = true) → (ms.getD j 0).testBit i = true → listed.getD i false = true := by
  intro j
  induction j using Nat.strongRecOn with
  | _ j ih =>
    intro i o ho hi hall hbit
    unfold maskOk at hm
    have hj : j < l.length := (List.getElem?_eq_some_iff.1 ho).1
    have h1 := List.all_eq_true.1 hm j (List.mem_range.2 hj)
    simp only [ho, Bool.and_eq_true] at h1
    obtain ⟨h1, h2⟩ := h1
    have h3 := List.all_eq_true.1 h2 i (List.mem_range.2 hi)
    simp only [hbit, Bool.not_true, Bool.false_or] at h3
    obtain ⟨e, he, hb⟩ := List.any_eq_true.1 h3
    simp only [Bool.and_eq_true, Bool.or_eq_true, beq_iff_eq] at hb
    have he' : e ∈ o.after := Array.mem_toList_iff.1 he
    have hlt := List.all_eq_true.1 h1 e he
    simp only [hb.1, Bool.not_true, Bool.false_or, decide_eq_true_eq] at hlt
    have hl := hall e he' hb.1
    rcases hb.2 with rfl | hb2
    · exact hl
    · have hlt' : e.on < l.length := by omega
      exact ih e.on hlt i l[e.on] (List.getElem?_eq_getElem hlt') hi (fun e' he' hb' => hdown e.on _ hl (List.getElem?_eq_getElem hlt') e' he' hb') hb2

end
end Go.TM
