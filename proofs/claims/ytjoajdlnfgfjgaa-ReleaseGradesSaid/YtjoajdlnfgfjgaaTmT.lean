/- The tree machine: a region whose order is drawn, one operation and all. -/
import Derived.Test.YtjoajdlnfgfjgaaTmS
namespace Go.TM
open Go.RowKit

section
variable {P : Program} {D : Bs} {call : CallF} {ops : Array Oper} {X0 : Cx} {st0 : St} {N : Nat} {tr : Nat → Slots × St} {vs : Nat → AV}
variable {ds : List Deferred} {listed : Array Bool} {a : Act} {X : Cx} {q : Nat}

theorem Mid.done (T : Text P D call ops X0 st0 N tr vs) (M : Mid P D ops X0 N tr ds listed a X q) {i : Nat} {o : Oper} (ho : ops[i]? = some o) (hun : listed.getD i false = false)
    (hall : ∀ e ∈ o.after, Region.binds .any e = true → listed.getD e.on false = true) {Y : Cx} {u : Value} (hle : X.Le Y) (hS : SR D Y (tr (if i = q then q + 1 else q)).2) (hu : AVR Y u (vs i))
    (hnew : ∀ j, j < ops.size → j ≠ i → listed.getD j false = false → (tr (j + 1)).2.h.length = (tr j).2.h.length + 1 → Y.ρ (tr j).2.h.length = none) :
    ∃ q', Mid P D ops X0 N tr ds (listed.setIfInBounds i true) (a.put o.dst u) Y q' := by
  have hi : i < ops.size := (Array.getElem?_eq_some_iff.1 ho).1
  by_cases hiq : i = q
  · subst hiq
    rw [if_pos rfl] at hS
    obtain ⟨q', h1, h2, h3, h4⟩ := nextWr ops listed (ops.size - (i + 1)) (i + 1) (by omega)
    obtain ⟨⟨o', ho', hwr⟩, _⟩ := M.now hi
    rw [ho] at ho'
    obtain rfl := Option.some.inj ho'
    refine ⟨q', M.next T ho hun hall hle (hS.more (T.ext q' h1 h2 fun j hj1 hj2 y hy => ?_)) h2 hu (fun j y hj hy hw => ?_) (fun h => ?_) hnew⟩
    · cases hw : isWr y.op with
      | false => rfl
      | true =>
        have hl := h3 j y hj1 hj2 hy hw
        have := T.before' M.down ho hy (by omega) (indep_wr hwr (isWr_isMem hw)).1 hl
        rw [this] at hun; cases hun
    · rcases Nat.lt_trichotomy j i with h | h | h
      · exact .inr (M.past j y h hy hw)
      · exact .inl h
      · exact .inr (h3 j y (by omega) hj hy hw)
    · exact ⟨(h4 h).1, by omega, (h4 h).2⟩
  · rw [if_neg hiq] at hS
    exact ⟨q, M.next T ho hun hall hle hS M.hq hu (fun j y hj hy hw => .inr (M.past j y hj hy hw)) (fun h => ⟨(M.now h).1, Ne.symm hiq, (M.now h).2⟩) hnew⟩

theorem Text.isMem (T : Text P D call ops X0 st0 N tr vs) {j : Nat} {o : Oper} (ho : ops[j]? = some o) (h : (tr (j + 1)).2.h.length = (tr j).2.h.length + 1) : TM.isMem o.op = true := by
  obtain ⟨h1, _⟩ := T.step j o ho
  cases stepD_kind h1 with
  | off hw hv hs => rw [hs] at h; omega
  | write hw h1 h2 => exact isWr_isMem h1
  | val hw h1 h2 hs => rw [hs] at h; omega
  | make x hw h1 h2 hs => exact memD_isMem h2
  | call f args v0 s0 hw h1 h2 hc hv hs => exact op3_isMem h2

theorem Mid.go (hC : CallOK P call) (T : Text P D call ops X0 st0 N tr vs) (M : Mid P D ops X0 N tr ds listed a X q) {i : Nat} (hi : i ∈ Region.ready .any ops listed) {Q : Exit → Act → World → Prop} {K : Act → World → Prop}
    (hK : ∀ Y q' a', Mid P D ops X0 N tr ds (listed.setIfInBounds i true) a' Y q' → K a' Y.w) : wpOp P ops Q i K a X.w := by
  obtain ⟨h0, o, ho, hall⟩ := mem_ready.1 hi
  have hisz : i < ops.size := (Array.getElem?_eq_some_iff.1 ho).1
  have hun : listed.getD i false = false := by
    have : i < listed.size := by rw [M.size]; exact hisz
    simpa [this] using h0
  have hsee := M.sees T ho hun hall
  have hσ : SlotR X (only (o.looksAt ops) (tr i).1) a.tmps := by
    intro t
    rw [get_only]
    split
    · rename_i h; exact hsee t (by simpa using h)
    · exact .bad
  obtain ⟨hs, _⟩ := T.step i o ho
  rw [← stepD_congr (σ := only (o.looksAt ops) (tr i).1) (τ := (tr i).1) fun t ht => by rw [get_only, if_pos (by simpa using ht)]] at hs
  have hX : X.n ≤ (tr i).2.h.length := by
    rw [M.le.nn, T.n0, ← T.s0]
    exact T.len i (Nat.zero_le _) (by omega)
  unfold wpOp
  simp only [ho]
  have hnotq : isWr o.op = false → i ≠ q := by
    intro h e
    subst e
    obtain ⟨⟨o', ho', hwr⟩, _⟩ := M.now hisz
    rw [ho] at ho'
    obtain rfl := Option.some.inj ho'
    rw [h] at hwr; cases hwr
  have hw : ∀ {b}, wanted ops (only (o.looksAt ops) (tr i).1) o = some b → Region.wanted o (yielded ops a.tmps) = b := fun hw => wanted_sound (fun _ _ t _ _ => hσ t) hw
  have near : TM.isMem o.op = true → isWr o.op = false → i < q ∧ Ext (tr i).2 (tr q).2 ∧ Ext (tr (i + 1)).2 (tr q).2 := by
    intro hm hwr
    obtain ⟨h1, h2⟩ := M.near T ho hun hall hm
    have hlt : i < q := by have := hnotq hwr; omega
    have hno := h2 hlt
    refine ⟨hlt, T.ext q h1 M.hq fun j hj1 hj2 y hy => ?_, T.ext q hlt M.hq fun j hj1 hj2 y hy => hno j (by omega) hj2 y hy⟩
    by_cases hj : j = i
    · subst hj
      rw [ho] at hy
      obtain rfl := Option.some.inj hy
      exact hwr
    · exact hno j (by omega) hj2 y hy
  cases stepD_kind hs with
  | off hwa hv hst =>
    rw [hw hwa]
    simp only [Bool.false_eq_true, if_false]
    obtain ⟨q', M'⟩ := M.done T ho hun hall (u := undef) (Cx.Le.refl X) (by
      split
      · rename_i e; subst e; rw [hst]; exact M.s
      · exact M.s) (by rw [hv]; exact .tup rfl fun j x hj => by simp at hj) fun j hj hne hl hlen => M.new j hj hl hlen
    exact hK X q' _ M'
  | write hwa h1 h =>
    rw [hw hwa]
    simp only [if_true]
    refine .inl ?_
    unfold Oper.wp
    have hiq : i = q := by
      obtain ⟨h2, _⟩ := M.near T ho hun hall (isWr_isMem h1)
      rcases Nat.lt_or_ge i q with h3 | h3
      · have := M.past i o h3 ho h1
        rw [this] at hun; cases hun
      · omega
    obtain ⟨Y, hle, hY, hr⟩ := op2_sound (st := (tr i).2) (by rw [hiq]; exact M.s) hσ h
    have hnew : ∀ j, j < ops.size → j ≠ i → listed.getD j false = false → (tr (j + 1)).2.h.length = (tr j).2.h.length + 1 → Y.ρ (tr j).2.h.length = none := by
      intro j hj hne hl hlen
      cases hB : Y.ρ (tr j).2.h.length with
      | none => rfl
      | some B =>
        have hlt := (hY.dom _ B hB).1
        have hjo : ops[j]? = some ops[j] := Array.getElem?_eq_getElem hj
        rcases Nat.lt_or_ge j i with h3 | h3
        · have := T.before M.down hjo ho h3 (indep_wr h1 (T.isMem hjo hlen)).2 hall
          rw [this] at hl; cases hl
        · have := T.len (i := i + 1) j (by omega) (by omega)
          omega
    have hS : SR D Y (tr (if i = q then q + 1 else q)).2 := by rw [if_pos hiq, ← hiq]; exact hY
    rcases hr with ⟨u, hu, hr⟩ | ⟨hv, hr⟩
    · rw [hr]
      obtain ⟨q', M'⟩ := M.done T ho hun hall hle hS hu hnew
      exact hK Y q' _ M'
    · rw [hr]
      obtain ⟨q', M'⟩ := M.done T ho hun hall (u := undef) hle hS (by rw [hv]; exact .tup rfl fun j x hj => by simp at hj) hnew
      exact hK Y q' _ M'
  | val hwa h1 h hst =>
    rw [hw hwa]
    simp only [if_true]
    refine .inl ?_
    unfold Oper.wp
    have h' : op1D P (only (o.looksAt ops) (tr i).1) (tr q).2 o.op = some (vs i) := by
      cases hm : TM.isMem o.op with
      | false => rw [← op1D_pure (st := (tr i).2) hm]; exact h
      | true => exact op1D_ext (near hm h1).2.1 h
    obtain ⟨u, hu, hr⟩ := op1D_sound M.s hσ h'
    rw [hr]
    obtain ⟨q', M'⟩ := M.done T ho hun hall (Cx.Le.refl X) (by rw [if_neg (hnotq h1)]; exact M.s) hu fun j hj hne hl hlen => M.new j hj hl hlen
    exact hK X q' _ M'
  | make x hwa h1 h hst =>
    rw [hw hwa]
    simp only [if_true]
    refine .inl ?_
    unfold Oper.wp
    obtain ⟨hlt, hE, hE'⟩ := near (memD_isMem h) h1
    obtain ⟨u, go, hr, hu, hob, _⟩ := memD_sound hσ h
    have hlen1 : (tr (i + 1)).2.h.length = (tr i).2.h.length + 1 := by rw [hst]; simp [push]
    have hx : (tr q).2.h[(tr i).2.h.length]? = some x := hE'.get (by rw [hst]; simp [push])
    have hY := M.s.place (go := go) hx (M.new i hisz hun hlen1) hX fun Y hle hh => hob Y _ hle hh
    rw [hr]
    obtain ⟨q', M'⟩ := M.done T ho hun hall hY.1 (by rw [if_neg (hnotq h1)]; exact hY.2) (hu _ (Cx.alloc_new _ _ _)) fun j hj hne hl hlen => by
      have hne' : (tr j).2.h.length ≠ (tr i).2.h.length := by
        rcases Nat.lt_or_ge j i with h3 | h3
        · have := T.len (i := j + 1) i (by omega) (by omega)
          omega
        · have := T.len (i := i + 1) j (by omega) (by omega)
          omega
      show (if (tr j).2.h.length = (tr i).2.h.length then _ else X.ρ _) = none
      rw [if_neg hne']
      exact M.new j hj hl hlen
    exact hK _ q' _ M'
  | call f args v0 s0 hwa h1 h hc hv hst =>
    rw [hw hwa]
    simp only [if_true]
    refine .inl ?_
    unfold Oper.wp
    obtain ⟨hlt, hE, _⟩ := near (op3_isMem h) h1
    obtain ⟨us, a1, a2, hr⟩ := op3_sound (P := P) hσ h
    obtain ⟨⟨Xi, tmpsi, hIi, hσi, _, hlei, hti⟩, _⟩ := T.ti i (by omega)
    have hρ : ∀ b, b < (tr i).2.h.length → X.ρ b ≠ none → Xi.ρ b ≠ none := by
      intro b hb hx
      rcases Nat.lt_or_ge b st0.h.length with h3 | h3
      · cases hB : X.ρ b with
        | none => exact absurd hB hx
        | some B =>
          rcases M.le.ρn b B hB with h4 | h4
          · rw [hlei.ρ b B h4]; simp
          · rw [T.n0] at h4; omega
      · exact hti b h3 hb
    have hol := hIi.olds
    have hold : ∀ (j : Nat) x, args[j]? = some x → old (tr i).2.h.length (tr i).2.ch.length x = true := by
      intro j x hj
      have h' : op3 (tr i).1 o.op = some (f, args) := by
        rw [← op3_congr (σ := only (o.looksAt ops) (tr i).1) (τ := (tr i).1) (opd_looks (ops := ops) fun t ht => by rw [get_only, if_pos (by simpa using ht)])]
        exact h
      obtain ⟨us', _, b2, _⟩ := op3_sound (P := P) (a := ⟨tmpsi, []⟩) hσi h'
      exact (b2 j x hj).old hIi.s
    obtain ⟨hent, hcalls⟩ := drawCall hC M.s hE hX (fun b o hb hx hob => hol.1 b o hb (hρ b hb hx) hob)
      (fun m hm => ⟨(hol.2 m hm).1, (hol.2 m hm).2.1, fun b o hb hx hob => (hol.2 m hm).2.2 b o hb (hρ b (Nat.lt_of_lt_of_le hb (hol.2 m hm).1) hx) hob⟩) hIi.so hc a1 fun j x hj => (a2 j x hj).lim (hold j x hj)
    rw [hr hent]
    simp only [Oper.upon_enter]
    refine hcalls.mono fun e w' he => ?_
    cases e with
    | panicked c => exact he.elim
    | outgrown => exact he.elim
    | returned u =>
      obtain ⟨Y, hle, hY, hu, rfl, hρY⟩ := he
      obtain ⟨q', M'⟩ := M.done T ho hun hall hle (by rw [if_neg (hnotq h1)]; exact hY) (by rw [hv]; exact hu) fun j hj hne hl hlen => by rw [hρY]; exact M.new j hj hl hlen
      exact hK Y q' _ M'

def left (ops : Array Oper) (listed : Array Bool) : Nat := ((List.range ops.size).filter fun i => !listed.getD i true).length

theorem filter_lt {l : List Nat} {p r : Nat → Bool} (h : ∀ x, r x = true → p x = true) {i : Nat} (hi : i ∈ l) (hp : p i = true) (hr : r i = false) : (l.filter r).length < (l.filter p).length := by
  induction l with
  | nil => cases hi
  | cons x l ih =>
    have hle : ∀ l : List Nat, (l.filter r).length ≤ (l.filter p).length := by
      intro l
      induction l with
      | nil => exact Nat.le_refl _
      | cons y l ih =>
        simp only [List.filter_cons]
        cases hy : r y with
        | true => simp only [h y hy, if_true, List.length_cons]; omega
        | false =>
          simp only [Bool.false_eq_true, if_false]
          split
          · simp only [List.length_cons]; omega
          · exact ih
    simp only [List.filter_cons]
    rcases List.mem_cons.1 hi with rfl | hi
    · rw [hp, hr]
      simp only [if_true, Bool.false_eq_true, if_false, List.length_cons]
      have := hle l
      omega
    · have ih := ih hi
      cases hx : r x with
      | true => simp only [h x hx, if_true, List.length_cons]; omega
      | false =>
        simp only [Bool.false_eq_true, if_false]
        split
        · simp only [List.length_cons]; omega
        · exact ih

theorem Mid.all (hC : CallOK P call) (T : Text P D call ops X0 st0 N tr vs) {Q : Exit → Act → World → Prop}
    (hQ : ∀ listed a X q, Mid P D ops X0 N tr ds listed a X q → Region.ready .any ops listed = [] → Q .normal a X.w) :
    ∀ (fuel : Nat) (listed : Array Bool) (a : Act) (X : Cx) (q : Nat), left ops listed ≤ fuel → Mid P D ops X0 N tr ds listed a X q → wpAny P .any ops Q fuel listed a X.w := by
  intro fuel
  induction fuel with
  | zero =>
    intro listed a X q hl M
    have hr : Region.ready .any ops listed = [] := by
      cases h : Region.ready .any ops listed with
      | nil => rfl
      | cons i r =>
        exfalso
        have hi : i ∈ Region.ready .any ops listed := by rw [h]; simp
        obtain ⟨h0, o, ho, _⟩ := mem_ready.1 hi
        have hm : i ∈ (List.range ops.size).filter fun i => !listed.getD i true := List.mem_filter.2 ⟨List.mem_range.2 (Array.getElem?_eq_some_iff.1 ho).1, by rw [h0]; rfl⟩
        unfold left at hl
        have := List.length_pos_of_mem hm
        omega
    exact ⟨hr, hQ listed a X q M hr⟩
  | succ fuel ih =>
    intro listed a X q hl M
    refine ⟨fun hr => hQ listed a X q M hr, fun i hi => M.go hC T hi fun Y q' a' M' => ih _ a' Y q' ?_ M'⟩
    obtain ⟨h0, o, ho, _⟩ := mem_ready.1 hi
    have hisz : i < ops.size := (Array.getElem?_eq_some_iff.1 ho).1
    have := filter_lt (l := List.range ops.size) (p := fun i => !listed.getD i true) (r := fun j => !(listed.setIfInBounds i true).getD j true) (fun j hj => by
      rw [getD_set (by rw [M.size]; exact hisz)] at hj
      split at hj
      · cases hj
      · exact hj) (List.mem_range.2 hisz) (by rw [h0]; rfl) (by rw [getD_set (by rw [M.size]; exact hisz), if_pos rfl]; rfl)
    unfold left at hl ⊢
    omega

theorem Mid.full (T : Text P D call ops X0 st0 N tr vs) (M : Mid P D ops X0 N tr ds listed a X q) (hr : Region.ready .any ops listed = []) : ∀ j, j < ops.size → listed.getD j false = true := by
  intro j
  induction j using Nat.strongRecOn with
  | _ j ih =>
    intro hj
    cases hl : listed.getD j false with
    | true => rfl
    | false =>
      exfalso
      have ho : ops[j]? = some ops[j] := Array.getElem?_eq_getElem hj
      have hm : j ∈ Region.ready .any ops listed := by
        rw [mem_ready]
        refine ⟨?_, _, ho, fun e he hb => ?_⟩
        · have : j < listed.size := by rw [M.size]; exact hj
          simpa [this] using hl
        · have hmk := T.maskOk
          unfold TM.maskOk at hmk
          have h1 := List.all_eq_true.1 hmk j (List.mem_range.2 (by simpa using hj))
          have ho' : ops.toList[j]? = some ops[j] := by simp
          simp only [ho', Bool.and_eq_true] at h1
          have hlt := List.all_eq_true.1 h1.1 e (Array.mem_toList_iff.2 he)
          simp only [hb, Bool.not_true, Bool.false_or, decide_eq_true_eq] at hlt
          exact ih e.on hlt (by omega)
      rw [hr] at hm
      cases hm

end
end Go.TM
