/- The tree machine: all of it. -/
import Derived.Test.YtjoajdlnfgfjgaaTmT
namespace Go.TM
open Go.RowKit

section
variable {P : Program} {D : Bs} {X : Cx} {st : St}

theorem Inv.setn (h : Inv D X st) {n : Nat} (hn : n ≤ st.h.length) (hm : ∀ m ∈ st.ms, m.1 ≤ n) : Inv D (X.raise n) st :=
  ⟨h.s.raise hn, h.old, h.so, fun m hmm => ⟨hm m hmm, (h.b m hmm).2⟩, h.f, h.g⟩

theorem draw_sound (hm : P.follows .mixedOrders = true) {call : CallF} (hC : CallOK P call) : DrawOK P call := by
  intro D X st σ a σ' st' id ops Q hok hfit hrun hI hσ hQ
  refine wp_region_any hm ?_
  -- the draw
  have hdrew : ({ X.w with drawn := X.w.drawn + 1 } : World) = X.w.drew := rfl
  rw [hdrew]
  obtain ⟨hS1, hle1⟩ := hI.s.world (w' := X.w.drew) (Below.refl _ _).drew
  let X1 : Cx := { X with w := X.w.drew }
  have hI1 : Inv D X1 st := ⟨hS1, hI.old, hI.so, hI.b, hI.f, hI.g⟩
  have hI0 := hI1.raise
  have hσ0 : SlotR (X1.raise st.h.length) σ a.tmps := fun t => ((hσ t).mono hle1).raise
  obtain ⟨tr, vs, t0, tn, hstep⟩ := trace ops.toList σ st σ' st' hrun
  have hstep' : ∀ (j : Nat) o, ops[j]? = some o → stepD P call ops (tr j).1 (tr j).2 o = some (vs j, (tr (j + 1)).2) ∧ (tr (j + 1)).1 = putO (tr j).1 o.dst (vs j) := fun j o ho => hstep j o (by simpa using ho)
  have htn : tr ops.size = (σ', st') := by rw [← Array.length_toList]; exact tn
  have hti : ∀ j, j ≤ ops.size → TI D (X1.raise st.h.length) st a.tmps.size (tr j).1 (tr j).2 := by
    intro j
    induction j with
    | zero =>
      intro _
      rw [t0]
      exact ⟨⟨_, a.tmps, hI0, hσ0, rfl, Cx.Le.refl _, fun b h1 h2 => by have h2' : b < st.h.length := h2; omega⟩, Step.refl _⟩
    | succ j ih =>
      intro hj
      have ho : ops[j]? = some ops[j] := Array.getElem?_eq_getElem (by omega)
      obtain ⟨h1, h2⟩ := hstep' j _ ho
      rw [h2]
      refine (ih (by omega)).next hC (fun t ht => ?_) h1
      have := Array.all_eq_true_iff_forall_mem.1 hfit ops[j] (Array.mem_of_getElem? ho)
      rw [ht] at this
      simpa using this
  have T : Text P D call ops (X1.raise st.h.length) st a.tmps.size tr vs := ⟨hok, hfit, hstep', hti, rfl, by rw [t0]⟩
  have hfalse : ∀ j d, j < ops.size → (Array.replicate ops.size false).getD j d = false := fun j d hj => by simp [hj]
  have hfalse' : ∀ j, (Array.replicate ops.size false).getD j false = false := fun j => by
    rcases Nat.lt_or_ge j ops.size with h | h
    · exact hfalse j _ h
    · simp [Nat.not_lt.2 h]
  obtain ⟨q, q1, q2, q3, q4⟩ := nextWr ops (Array.replicate ops.size false) ops.size 0 (by omega)
  have M : Mid P D ops (X1.raise st.h.length) a.tmps.size tr a.defers (Array.replicate ops.size false) a (X1.raise st.h.length) q := by
    refine ⟨by simp, fun j o hj => ?_, Cx.Le.refl _, ?_, q2, fun j o hj ho hw => q3 j o (Nat.zero_le _) hj ho hw, q4, fun i hi _ _ => ?_, fun t j hj h1 _ => ?_, rfl, rfl⟩
    · rw [hfalse'] at hj; cases hj
    · refine SR.more (st := (tr 0).2) (by rw [t0]; exact hI0.s) (T.ext q q1 q2 fun j hj1 hj2 y hy => ?_)
      cases hw : isWr y.op with
      | false => rfl
      | true =>
        have := q3 j y hj1 hj2 hy hw
        rw [hfalse'] at this; cases this
    · cases hB : (X1.raise st.h.length).ρ (tr i).2.h.length with
      | none => rfl
      | some B =>
        have h1 := (hI0.s.dom _ B hB).1
        have h2 := T.len (i := 0) i (Nat.zero_le _) (by omega)
        rw [t0] at h2
        have h2' : st.h.length ≤ (tr i).2.h.length := h2
        omega
    · rw [T.get (i := 0) j (Nat.zero_le _) hj fun k _ hk y hy hyd => ?_, t0]
      · exact hσ0 t
      · have := h1 k y hk hy hyd
        rw [hfalse'] at this; cases this
  have hleft : left ops (Array.replicate ops.size false) ≤ ops.size := by
    unfold left
    have := List.length_filter_le (fun i => !(Array.replicate ops.size false).getD i true) (List.range ops.size)
    simpa using this
  refine Mid.all hC T (fun listed a' Y q' M' hr => ?_) ops.size _ a (X1.raise st.h.length) q hleft M
  have hfull := M'.full T hr
  have hq' : q' = ops.size := by
    rcases Nat.lt_or_ge q' ops.size with h | h
    · have h1 := (M'.now h).2
      rw [hfull q' h] at h1; cases h1
    · exact Nat.le_antisymm M'.hq h
  subst hq'
  obtain ⟨⟨Xn, _, hIn, _, _, hlen, _⟩, hst⟩ := hti ops.size (Nat.le_refl _)
  rw [htn] at hIn hst
  have hSY := M'.s
  rw [htn] at hSY
  have hms : st'.ms = st.ms := hst.g.ms
  have hn1 : X.n ≤ st'.h.length := Nat.le_trans hI.s.nE hst.g.h
  have hIY : Inv D (Y.raise X.n) st' := by
    refine ⟨hSY.raise hn1, fun m hm b o hb hρ hob => ?_, hIn.so, fun m hm => ⟨(hI.b m (by rw [← hms]; exact hm)).1, (hIn.b m hm).2⟩, hIn.f, hIn.g⟩
    refine hIn.old m hm b o hb ?_ hob
    have hmb := (hI.le (m := m) (by rw [← hms]; exact hm)).1
    cases hB : Y.ρ b with
    | none => exact absurd hB hρ
    | some B =>
      rcases M'.le.ρn b B hB with h | h
      · rw [hlen.ρ b B h]; simp
      · have h' : st.h.length ≤ b := h
        omega
  have hleY : X.Le (Y.raise X.n) := by
    have h := M'.le
    refine ⟨fun b B hb => h.ρ b B hb, fun B j hj => ⟨(h.im B j hj).1, (h.im B j hj).2.trans (hle1.im B j hj).2⟩, fun c m hc => ?_, fun b B hb => ?_, rfl⟩
    · obtain ⟨m1, e1, e2⟩ := hle1.ch c m hc
      obtain ⟨m2, f1, f2⟩ := h.ch c m1 e1
      have tr1 : ∀ {m1 m2 : Nat}, (m < m1 ∨ (m1 = m ∧ X1.κ c = X.κ c ∧ ∀ B e C ty, X.κ c = some (B, e) → X.w.heap[B]? = some (.cells C ty (0, 0)) → ∃ C', X1.w.heap[B]? = some (.cells C' ty (0, 0)) ∧ C'.size = C.size)) →
          (m1 < m2 ∨ (m2 = m1 ∧ Y.κ c = X1.κ c ∧ ∀ B e C ty, X1.κ c = some (B, e) → X1.w.heap[B]? = some (.cells C ty (0, 0)) → ∃ C', Y.w.heap[B]? = some (.cells C' ty (0, 0)) ∧ C'.size = C.size)) →
          (m < m2 ∨ (m2 = m ∧ Y.κ c = X.κ c ∧ ∀ B e C ty, X.κ c = some (B, e) → X.w.heap[B]? = some (.cells C ty (0, 0)) → ∃ C', Y.w.heap[B]? = some (.cells C' ty (0, 0)) ∧ C'.size = C.size)) := by
        intro m1 m2 p r
        rcases p with p | ⟨rfl, p2, p3⟩
        · rcases r with r | ⟨rfl, _⟩
          · exact .inl (by omega)
          · exact .inl p
        · rcases r with r | ⟨rfl, r2, r3⟩
          · exact .inl r
          · refine .inr ⟨rfl, r2.trans p2, fun B e C ty h1 h2 => ?_⟩
            obtain ⟨C', k1, k2⟩ := p3 B e C ty h1 h2
            obtain ⟨C'', k3, k4⟩ := r3 B e C' ty (p2.trans h1) k1
            exact ⟨C'', k3, k4.trans k2⟩
      exact ⟨m2, f1, tr1 e2 f2⟩
    · rcases h.ρn b B hb with q | q
      · exact .inl q
      · have q' : st.h.length ≤ b := q
        exact .inr (Nat.le_trans hI.s.nE q')
  refine hQ (Y.raise X.n) a' hleY hIY hst (fun t => ?_) M'.n M'.d
  have hv := M'.slot t ops.size (Nat.le_refl _) (fun i o hi _ _ => hfull i hi) (fun i o hi ho _ => by have := (Array.getElem?_eq_some_iff.1 ho).1; omega)
  rw [htn] at hv
  exact hv.raise

/-- what a program must be once -/
def okProg (P : Program) : Bool := P.follows .mixedOrders && P.funcs.all okFunc

theorem calls_ok (h : okProg P = true) (H : FuncId → List Nat) (n k : Nat) : CallOK P (TM.call P H n k) := by
  simp only [okProg, Bool.and_eq_true] at h
  exact call_sound h.2 (fun _ => draw_sound h.1) H n k

def st0 : St := ⟨[], [], [], 0, 0⟩

/-- what is known of a world before a call: im says which cells -/
def base (W : World) (im : Nat → Nat → Prop) : Cx := { ρ := fun _ => none, κ := fun _ => none, im := im, mc := mark st0, w := W, n := 0 }

theorem base_inv (W : World) (im : Nat → Nat → Prop) (him : ∀ B j, im B j → B < W.heap.size) : Inv { W := W, Z := fun B => B < W.heap.size, im := im } (base W im) st0 := by
  refine ⟨⟨Nat.le_refl _, rfl, fun b o B ho => (by simp [st0] at ho), fun b B h => (by cases h), fun b c B h => (by cases h), fun b B j h => (by cases h), him, fun B j h => .inl h, fun c B e _ h => (by cases h), Still.refl _ _, fun k h => h, fun c _ => rfl⟩,
    fun m hm => (by cases hm), trivial, fun m hm => (by cases hm), Nat.le_refl _, Nat.le_refl _⟩

/-- THE LAW: what the machine answers the program answers, and what was there is as it was -/
theorem sound (h : okProg P = true) {H : FuncId → List Nat} {n k : Nat} {f : FuncId} {args : List AV} {v : AV} {st' : St} (hc : TM.call P H n k f args st0 = some (v, st'))
    {W : World} {im : Nat → Nat → Prop} (him : ∀ B j, im B j → B < W.heap.size) {us : Array Value} (hl : us.size = args.length) (ha : ∀ (j : Nat) x, args[j]? = some x → AVR (base W im) (us.getD j undef) x) :
    Calls P f us W fun
      | .returned u, w' => Below W.heap.size W w' ∧ ∃ Y : Cx, Y.w = w' ∧ AVR Y u v
      | _, _ => False := by
  obtain ⟨_, h1⟩ := calls_ok h H n k _ (base W im) st0 f args us v st' hc (base_inv W im him) hl ha
  refine h1.mono fun e w' he => ?_
  cases e with
  | panicked c => exact he
  | outgrown => exact he
  | returned u =>
    obtain ⟨Y, _, hY, _, _, hu, rfl⟩ := he
    have hb := hY.s.below
    exact ⟨⟨hb.os, hb.tape, hb.output, hb.size, hb.block⟩, Y, rfl, hu⟩

/-- a value that refers to nothing of the state -/
def pureA : AV → Bool
  | .pv _ => true
  | .fn _ [] [] => true
  | .agg cs => cs.all fun c => match c with
    | .pv _ => true
    | _ => false
  | _ => false

theorem AVR.pure {X Y : Cx} (him : ∀ B j, X.im B j → Y.im B j) (hw : Y.w = X.w) {u : Value} {v : AV} (h : AVR X u v) (hp : pureA v = true) : AVR Y u v := by
  have one : ∀ {u : Value} {p : PV}, AVR X u (.pv p) → AVR Y u (.pv p) := fun h => by
    cases h with | pv h => exact .pv (h.mono fun B j hj => ⟨him B j hj, by rw [hw]⟩)
  unfold pureA at hp
  split at hp
  · exact one h
  · cases h with | fn h1 h2 _ _ => exact .fn h1 h2 (fun j x hj => by simp at hj) (fun j x hj => by simp at hj)
  · rename_i cs
    cases h with | agg h1 h2 h3 => ?_
    refine .agg h1 (fun j x hj => ?_) h3
    have hx := List.all_eq_true.1 hp x (List.mem_of_getElem? hj)
    split at hx
    · exact one (h2 j _ hj)
    · cases hx
  · cases hp

/-- what is known of a function is used in place of its body -/
def tab (c : CallF) (f : FuncId) (spec : List AV → Option AV) : CallF := fun g args st =>
  if g = f then match spec args with
    | some v => some (v, st)
    | none => none
  else c g args st

/-- a function's answer at the empty state is its answer at every state -/
theorem tab_ok {c d : CallF} (hc : CallOK P c) (hd : CallOK P d) {f : FuncId} {spec : List AV → Option AV}
    (hs : ∀ args v, spec args = some v → args.all pureA = true ∧ ∃ v' st', d f args st0 = some (v', st') ∧ strip v' = v) : CallOK P (tab c f spec) := by
  intro D X st g args us v st' h hI hl ha
  unfold tab at h
  split at h
  case isFalse => exact hc D X st g args us v st' h hI hl ha
  rename_i hg
  subst hg
  split at h
  case h_2 => cases h
  rename_i v1 hv
  obtain ⟨rfl, rfl⟩ := Prod.mk.inj (Option.some.inj h)
  obtain ⟨hp, v', st'', hrun, rfl⟩ := hs args v1 hv
  obtain ⟨h1, h2⟩ := hd { W := X.w, Z := fun B => B < X.w.heap.size, im := X.im } (base X.w X.im) st0 g args us v' st'' hrun (base_inv X.w X.im hI.s.imlt) hl fun j x hj =>
    AVR.pure (X := X) (Y := base X.w X.im) (fun _ _ h => h) rfl (ha j x hj) (List.all_eq_true.1 hp x (List.mem_of_getElem? hj))
  refine ⟨h1, h2.mono fun e w' he => ?_⟩
  cases e with
  | panicked c => exact he
  | outgrown => exact he
  | returned u =>
    obtain ⟨Y, hle, hY, _, hlen, hu, rfl⟩ := he
    have him : ∀ B j, Y.im B j → X.im B j ∨ X.w.heap.size ≤ B := by
      intro B j hj
      rcases hY.s.im0 B j hj with q | q
      · exact .inl q
      · exact .inr (Nat.le_of_not_lt q)
    obtain ⟨q1, q2⟩ := hI.s.quiet hY.s.below (fun B j hj => hle.im B j hj) him hY.s.imlt
    refine ⟨_, q1, hI.step q1 q2 (Step.refl _), Step.refl _, rfl, strip_sound (X := { X with w := Y.w, im := Y.im }) (Y := Y) (fun _ _ h => h) rfl hu fun b B hB => ?_, rfl⟩
    have := (hY.s.dom b B hB).1
    rw [hlen] at this
    exact absurd this (Nat.not_lt_zero _)

theorem none_ok : CallOK P (fun _ _ _ => none) := fun D X st f args us v st' h => by cases h

theorem body_ok (h : okProg P = true) {c : CallF} (hc : CallOK P c) (H : FuncId → List Nat) (n : Nat) : CallOK P (callBody P H n c) := by
  simp only [okProg, Bool.and_eq_true] at h
  exact body_sound h.2 hc (draw_sound h.1 hc) H n

/-- THE LAW, with what is known of the functions below in place of their bodies -/
theorem sound_of {c : CallF} (hc : CallOK P c) {f : FuncId} {args : List AV} {v : AV} {st' : St} (hr : c f args st0 = some (v, st'))
    {W : World} {im : Nat → Nat → Prop} (him : ∀ B j, im B j → B < W.heap.size) {us : Array Value} (hl : us.size = args.length) (ha : ∀ (j : Nat) x, args[j]? = some x → AVR (base W im) (us.getD j undef) x) :
    Calls P f us W fun
      | .returned u, w' => Below W.heap.size W w' ∧ ∃ Y : Cx, Y.w = w' ∧ AVR Y u v
      | _, _ => False := by
  obtain ⟨_, h1⟩ := hc _ (base W im) st0 f args us v st' hr (base_inv W im him) hl ha
  refine h1.mono fun e w' he => ?_
  cases e with
  | panicked c => exact he
  | outgrown => exact he
  | returned u =>
    obtain ⟨Y, _, hY, _, _, hu, rfl⟩ := he
    have hb := hY.s.below
    exact ⟨⟨hb.os, hb.tape, hb.output, hb.size, hb.block⟩, Y, rfl, hu⟩

end
end Go.TM
