/- The tree machine: regions, code, calls. -/
import Derived.Test.YtjoajdlnfgfjgaaTmN
import Derived.Tactics
import Derived.LoopN
namespace Go.TM
open Go.RowKit

section
variable {P : Program} {D : Bs} {X : Cx} {st st' : St}

theorem get_put (σ : Slots) (d t : Nat) (v : AV) : get (put σ d v) t = if t = d then v else get σ t := by
  induction σ with
  | nil =>
    simp only [put, get, beq_iff_eq]
  | cons x r ih =>
    obtain ⟨u, w⟩ := x
    simp only [put]
    by_cases h : d = u
    · subst h
      simp only [beq_self_eq_true, if_true, get, beq_iff_eq]
      by_cases h2 : t = d <;> simp [h2]
    · have h' : (d == u) = false := by simpa using h
      simp only [h', Bool.false_eq_true, if_false, get, beq_iff_eq, ih]
      by_cases h2 : t = u
      · subst h2
        simp [Ne.symm h]
      · simp [h2]

theorem SlotR.mono {Y : Cx} (hle : X.Le Y) {σ : Slots} {tmps : Array Value} (h : SlotR X σ tmps) : SlotR Y σ tmps := fun t => (h t).mono hle

theorem SlotR.put {σ : Slots} {a : Act} (h : SlotR X σ a.tmps) {d : Option Tmp} (hd : ∀ t, d = some t → t < a.tmps.size) {u : Value} {v : AV} (hu : AVR X u v) : SlotR X (putO σ d v) (a.put d u).tmps := by
  cases d with
  | none => exact h
  | some d =>
    intro t
    simp only [putO, Act.put]
    rw [get_put]
    by_cases ht : t = d
    · subst ht
      rw [if_pos rfl]
      simpa [hd t rfl] using hu
    · rw [if_neg ht]
      have := h t
      simp only [Array.getD_eq_getD_getElem?] at this ⊢
      rw [Array.getElem?_setIfInBounds_ne (Ne.symm ht)]
      exact this

theorem put_size (a : Act) (d : Option Tmp) (u : Value) : (a.put d u).tmps.size = a.tmps.size ∧ (a.put d u).defers = a.defers := by
  cases d <;> simp [Act.put]

theorem wanted_sound {ops : Array Oper} {σ : Slots} {tmps : Array Value} {o : Oper} {b : Bool} (hσ : ∀ j w t, o.guard = some (j, w) → (ops[j]?).bind (·.dst) = some t → AVR X (tmps.getD t undef) (get σ t)) (h : wanted ops σ o = some b) :
    Region.wanted o (yielded ops tmps) = b := by
  unfold wanted at h
  unfold Region.wanted
  split at h
  · rename_i hg; simp only [hg]; exact Option.some.inj h
  · rename_i j w hg
    simp only [hg]
    split at h
    case h_2 => cases h
    rename_i t ht
    have hv := hσ j w t hg ht
    unfold yielded
    rw [ht]
    simp only [Option.bind_some]
    rw [Array.getD_eq_getD_getElem?] at hv
    split at h
    · rename_i x hx
      obtain rfl := Option.some.inj h
      rw [hx] at hv
      cases hq : tmps[t]? with
      | none =>
        rw [hq] at hv
        cases hv with | pv hv => ?_
        cases hv
      | some q =>
        rw [hq] at hv
        simp only [Option.getD_some] at hv
        cases hv with | pv hv => ?_
        cases hv
        simp
    · rename_i hx
      obtain rfl := Option.some.inj h
      rw [hx] at hv
      cases hq : tmps[t]? with
      | none => simp
      | some q =>
        rw [hq] at hv
        simp only [Option.getD_some] at hv
        cases hv with | tup h1 _ => ?_
        simp
    · cases h

/-- what a call of the machine says of the program's -/
def CallOK (P : Program) (call : CallF) : Prop :=
  ∀ (D : Bs) (X : Cx) (st : St) (f : FuncId) (args : List AV) (us : Array Value) (v : AV) (st' : St), call f args st = some (v, st') → Inv D X st → us.size = args.length →
    (∀ (j : Nat) x, args[j]? = some x → AVR X (us.getD j undef) x) → Entered P f ∧
    Calls P f us X.w fun
      | .returned u, w' => ∃ Y, X.Le Y ∧ Inv D Y st' ∧ Step st st' ∧ st'.h.length = st.h.length ∧ AVR Y u v ∧ Y.w = w'
      | _, _ => False

theorem stepU_sound {call : CallF} (hC : CallOK P call) {ops : Array Oper} (hI : Inv D X st) {σ : Slots} {a : Act} (hσ : SlotR X σ a.tmps) {o : Oper} (hd : ∀ t, o.dst = some t → t < a.tmps.size) {v : AV}
    (h : stepU P call ops σ st o = some (v, st')) {K : Act → World → Prop} {Q : Exit → Act → World → Prop}
    (hK : ∀ Y a', X.Le Y → Inv D Y st' → Step st st' → SlotR Y (putO σ o.dst v) a'.tmps → a'.tmps.size = a.tmps.size → a'.defers = a.defers → K a' Y.w) :
    if Region.wanted o (yielded ops a.tmps) then o.wp P a X.w K Q ∨ (o.asks P a X.w ∧ LetsOut Q) else K (a.put o.dst undef) X.w := by
  unfold stepU at h
  split at h
  case h_3 => cases h
  · rename_i hw
    rw [wanted_sound (fun j w t _ _ => hσ t) hw]
    simp only [if_true]
    refine .inl ?_
    unfold Oper.wp
    split at h
    case h_3 => cases h
    · rename_i v' st1 hop
      obtain ⟨rfl, rfl⟩ := Prod.mk.inj (Option.some.inj h)
      unfold TM.op at hop
      split at hop
      · rename_i v1 h1
        simp only [Option.some.injEq, Res.val.injEq] at hop
        obtain ⟨rfl, rfl⟩ := hop
        obtain ⟨u, hu, hr⟩ := op1_sound hI.s hσ h1
        rw [hr]
        exact hK X _ (Cx.Le.refl X) hI (Step.refl _) (hσ.put hd hu) (put_size a o.dst u).1 (put_size a o.dst u).2
      · split at hop
        · rename_i v1 st2 h2
          simp only [Option.some.injEq, Res.val.injEq] at hop
          obtain ⟨rfl, rfl⟩ := hop
          obtain ⟨Y, hle, hY, hr⟩ := op2_sound hI.s hσ h2
          have hI' := hI.step hle hY (op2_step h2)
          rcases hr with ⟨u, hu, hr⟩ | ⟨rfl, hr⟩
          · rw [hr]
            exact hK Y _ hle hI' (op2_step h2) ((hσ.mono hle).put hd hu) (put_size a o.dst u).1 (put_size a o.dst u).2
          · rw [hr]
            exact hK Y _ hle hI' (op2_step h2) ((hσ.mono hle).put hd (.tup rfl fun j x hj => by simp at hj)) (put_size a o.dst undef).1 (put_size a o.dst undef).2
        · split at hop <;> cases hop
    · rename_i f args hop
      have h3 : op3 σ o.op = some (f, args) := by
        unfold TM.op at hop
        split at hop
        · cases hop
        · split at hop
          · cases hop
          · split at hop
            · rename_i g xs h3
              simp only [Option.some.injEq, Res.call.injEq] at hop
              obtain ⟨rfl, rfl⟩ := hop
              exact h3
            · cases hop
      obtain ⟨us, h1, h2, hr⟩ := op3_sound hσ h3
      obtain ⟨hent, hcall⟩ := hC D X st f args us v st' h hI h1 h2
      have hr := hr hent
      rw [hr]
      simp only [Oper.upon_enter]
      refine hcall.mono fun e w' he => ?_
      cases e with
      | returned u =>
        obtain ⟨Y, hle, hY, hs, _, hu, rfl⟩ := he
        exact hK Y _ hle hY hs ((hσ.mono hle).put hd hu) (put_size a o.dst u).1 (put_size a o.dst u).2
      | panicked c => exact he.elim
      | outgrown => exact he.elim
  · rename_i hw
    rw [wanted_sound (fun j w t _ _ => hσ t) hw]
    obtain ⟨rfl, rfl⟩ := Prod.mk.inj (Option.some.inj h)
    simp only [Bool.false_eq_true, if_false]
    exact hK X _ (Cx.Le.refl X) hI (Step.refl _) (hσ.put hd (.tup rfl fun j x hj => by simp at hj)) (put_size a o.dst undef).1 (put_size a o.dst undef).2

theorem runL_sound {call : CallF} (hC : CallOK P call) {ops : Array Oper} {Q : Exit → Act → World → Prop} : ∀ (l : List Oper) (X : Cx) (st : St) (σ : Slots) (a : Act) (σ' : Slots), Inv D X st → SlotR X σ a.tmps → (∀ o ∈ l, ∀ t, o.dst = some t → t < a.tmps.size) →
    runL P call false ops l σ st = some (σ', st') →
    (∀ Y a', X.Le Y → Inv D Y st' → Step st st' → SlotR Y σ' a'.tmps → a'.tmps.size = a.tmps.size → a'.defers = a.defers → Q .normal a' Y.w) → wpList P ops Q l a X.w
  | [], X, st, σ, a, σ', hI, hσ, _, h, hQ => by
    obtain ⟨rfl, rfl⟩ := Prod.mk.inj (Option.some.inj h)
    exact hQ X a (Cx.Le.refl X) hI (Step.refl _) hσ rfl rfl
  | o :: r, X, st, σ, a, σ', hI, hσ, hd, h, hQ => by
    simp only [runL, Bool.false_eq_true, if_false] at h
    split at h
    case h_2 => cases h
    rename_i v st1 hs
    unfold wpList
    refine stepU_sound hC hI hσ (hd o (by simp)) hs fun Y a' hle hI' hst hσ' hsz hde => ?_
    refine runL_sound hC r Y st1 _ a' σ' hI' hσ' (fun o ho t ht => by rw [hsz]; exact hd o (by simp [ho]) t ht) h fun Z a'' hle' hI'' hst' hσ'' hsz' hde' => ?_
    exact hQ Z a'' (hle.trans hle') hI'' (hst.trans hst') hσ'' (hsz'.trans hsz) (hde'.trans hde)

/-- the regions whose order is drawn -/
def DrawOK (P : Program) (call : CallF) : Prop :=
  ∀ (D : Bs) (X : Cx) (st : St) (σ : Slots) (a : Act) (σ' : Slots) (st' : St) (id : Nat) (ops : Array Oper) (Q : Exit → Act → World → Prop), drawOk ops = true → fits a.tmps.size ops = true →
    runL P call true ops ops.toList σ st = some (σ', st') → Inv D X st → SlotR X σ a.tmps →
    (∀ Y a', X.Le Y → Inv D Y st' → Step st st' → SlotR Y σ' a'.tmps → a'.tmps.size = a.tmps.size → a'.defers = a.defers → Q .normal a' Y.w) → (Code.region id ops true).wp P Q a X.w

def exOf : Ex → Exit
  | .normal => .normal
  | .exit id => .exit id
  | .ret => .ret

theorem get_keep (keep : List Nat) : ∀ (σ : Slots) (t : Nat), get (keepS keep σ) t = get σ t ∨ get (keepS keep σ) t = .bad
  | [], t => .inl rfl
  | (u, v) :: r, t => by
    simp only [keepS, List.filter_cons]
    split
    · simp only [get]
      split
      · exact .inl rfl
      · exact get_keep keep r t
    · rename_i hk
      rcases get_keep keep r t with h | h
      · by_cases ht : t = u
        · subst ht
          right
          clear h
          have : ∀ r : Slots, get (r.filter fun x => keep.contains x.1) t = .bad := by
            intro r
            induction r with
            | nil => rfl
            | cons x r ih =>
              obtain ⟨u, w⟩ := x
              simp only [List.filter_cons]
              split
              · rename_i hu
                simp only [get]
                split
                · rename_i he
                  rw [beq_iff_eq] at he
                  subst he
                  exact absurd hu hk
                · exact ih
              · exact ih
          exact this r
        · left
          simp only [get, beq_iff_eq, ht, if_false]
          exact h
      · exact .inr h

theorem SlotR.keep {σ : Slots} {tmps : Array Value} (h : SlotR X σ tmps) (keep : List Nat) : SlotR X (keepS keep σ) tmps := fun t => by
  rcases get_keep keep σ t with e | e
  · rw [e]; exact h t
  · rw [e]; exact .bad

theorem get_map (f : Nat → AV) : ∀ (σ : Slots) (t : Nat), get (σ.map fun x => (x.1, f x.1)) t = f t ∨ get (σ.map fun x => (x.1, f x.1)) t = .bad
  | [], t => .inr rfl
  | (u, v) :: r, t => by
    simp only [List.map_cons, get]
    split
    · rename_i h
      rw [beq_iff_eq] at h
      subst h
      exact .inl rfl
    · exact get_map f r t

/-- a frame or a round ends -/
theorem Inv.cut {X0 : Cx} (h0 : Inv D X0 st) (h : Inv D X st') (hg : Step (TM.enter st) st') (hle : (X0.raise st.h.length).Le X) :
    ∃ Y, X0.Le Y ∧ Inv D Y (TM.cut st' st.h.length st.ch.length st.ms) ∧ Step st (TM.cut st' st.h.length st.ch.length st.ms) ∧ Y.w = X.w ∧ (∀ u v, AVR X u v → AVR Y u (outT st' st.h.length st.ch.length v)) := by
  have hms : st'.ms = (st.h.length, st.ch.length) :: st.ms := hg.g.ms
  have hfl : st'.fl = st.fl := hg.g.fl
  have hcf : st'.cf = st.cf := hg.g.cf
  have hl1 : st.h.length ≤ st'.h.length := hg.g.h
  have hl2 : st.ch.length ≤ st'.ch.length := hg.g.c
  have hS := h.s.cut (n := st.h.length) (m := st.ch.length) (pn := X0.n) h0.s.nE (fun b o hb hρ ho => h.old (st.h.length, st.ch.length) (by rw [hms]; simp) b o hb hρ ho) hl1 (by rw [hfl]; exact h0.f) st.ms
  refine ⟨_, Cx.Le.cut h0.s h.s hle st.ms rfl rfl, ⟨hS, fun m hm b o hb hρ ho => ?_, h0.so, fun m hm => ?_, ?_, ?_⟩, ⟨⟨hfl, hcf, rfl, by simp [TM.cut]; omega, by simp [TM.cut]; omega⟩, fun hs m hm b o' hb ho hl => ?_⟩, rfl, fun u v hu => outT_cut h.s hu⟩
  · have hlt : b < st.h.length := Nat.lt_of_lt_of_le hb (h0.le hm).1
    refine h.old m (by rw [hms]; exact List.mem_cons_of_mem _ hm) b o hb (fun e => hρ ?_) ?_
    · show (if b < st.h.length then X.ρ b else none) = none
      rw [if_pos hlt]; exact e
    · simp only [TM.cut] at ho
      rwa [List.getElem?_take_of_lt hlt] at ho
  · have := h0.le hm
    exact ⟨(h0.b m hm).1, by simp only [TM.cut, List.length_take]; omega⟩
  · have := h0.f
    simp only [TM.cut, List.length_take, hfl]
    omega
  · have := h0.g
    simp only [TM.cut, List.length_take, hcf]
    omega
  · have hlt : b < st.h.length := hl
    refine hg.o ⟨fun x hx => h0.le hx, h0.so⟩ m (List.mem_cons_of_mem _ hm) b o' hb ?_ hlt
    simp only [TM.cut] at ho
    rwa [List.getElem?_take_of_lt hlt] at ho

theorem Step.of_enter {st2 : St} (h : Step (enter st) st2) : st.h.length ≤ st2.h.length := h.g.h

theorem code_sound {call : CallF} (hC : CallOK P call) (hD : DrawOK P call) (n : Nat) (keep : List Nat) : ∀ (c : Code) (D : Bs) (X : Cx) (st : St) (σ : Slots) (a : Act) (e : Ex) (σ' : Slots) (st' : St) (Q : Exit → Act → World → Prop),
    code P call n keep c σ st = some (e, σ', st') → okCode a.tmps.size c = true → Inv D X st → SlotR X σ a.tmps →
    (∀ Y a', X.Le Y → Inv D Y st' → Step st st' → SlotR Y σ' a'.tmps → a'.tmps.size = a.tmps.size → a'.defers = a.defers → Q (exOf e) a' Y.w) → c.wp P Q a X.w := by
  intro c
  induction c with
  | skip =>
    intro D X st σ a e σ' st' Q h _ hI hσ hQ
    simp only [code, Option.some.injEq, Prod.mk.injEq] at h
    obtain ⟨rfl, rfl, rfl⟩ := h
    exact wp_skip (hQ X a (Cx.Le.refl X) hI (Step.refl _) hσ rfl rfl)
  | label l =>
    intro D X st σ a e σ' st' Q h _ hI hσ hQ
    simp only [code, Option.some.injEq, Prod.mk.injEq] at h
    obtain ⟨rfl, rfl, rfl⟩ := h
    exact wp_label (hQ X a (Cx.Le.refl X) hI (Step.refl _) hσ rfl rfl)
  | exit id =>
    intro D X st σ a e σ' st' Q h _ hI hσ hQ
    simp only [code, Option.some.injEq, Prod.mk.injEq] at h
    obtain ⟨rfl, rfl, rfl⟩ := h
    exact wp_exit (hQ X a (Cx.Le.refl X) hI (Step.refl _) hσ rfl rfl)
  | ret =>
    intro D X st σ a e σ' st' Q h _ hI hσ hQ
    simp only [code, Option.some.injEq, Prod.mk.injEq] at h
    obtain ⟨rfl, rfl, rfl⟩ := h
    exact wp_ret (hQ X a (Cx.Le.refl X) hI (Step.refl _) hσ rfl rfl)
  | region id ops draw =>
    intro D X st σ a e σ' st' Q h hok hI hσ hQ
    simp only [okCode, Bool.and_eq_true, Bool.or_eq_true, Bool.not_eq_true'] at hok
    simp only [code] at h
    split at h
    case h_2 => cases h
    rename_i σ1 st1 hr
    simp only [Option.some.injEq, Prod.mk.injEq] at h
    obtain ⟨rfl, rfl, rfl⟩ := h
    have hfit : ∀ o ∈ ops.toList, ∀ t, o.dst = some t → t < a.tmps.size := by
      intro o ho t ht
      have := Array.all_eq_true_iff_forall_mem.1 hok.1 o (Array.mem_toList_iff.1 ho)
      rw [ht] at this
      simpa using this
    cases draw with
    | false =>
      exact wp_region_list (runL_sound hC ops.toList X st σ a σ1 hI hσ hfit hr fun Y a' hle hI' hs hσ' h1 h2 => hQ Y a' hle hI' hs (hσ'.keep keep) h1 h2)
    | true =>
      exact hD D X st σ a σ1 st1 id ops Q (hok.2.resolve_left (by simp)) hok.1 hr hI hσ fun Y a' hle hI' hs hσ' h1 h2 => hQ Y a' hle hI' hs (hσ'.keep keep) h1 h2
  | seq x y ihx ihy =>
    intro D X st σ a e σ' st' Q h hok hI hσ hQ
    simp only [okCode, Bool.and_eq_true] at hok
    simp only [code] at h
    split at h
    · rename_i σ1 st1 hx
      refine wp_seq (ihx D X st σ a .normal σ1 st1 _ hx hok.1 hI hσ fun Y a' hle hI' hs hσ' h1 h2 => ?_)
      exact ihy D Y st1 σ1 a' e σ' st' Q h (by rw [h1]; exact hok.2) hI' hσ' fun Z a'' hle' hI'' hs' hσ'' h1' h2' => hQ Z a'' (hle.trans hle') hI'' (hs.trans hs') hσ'' (h1'.trans h1) (h2'.trans h2)
    · rename_i hne
      refine wp_seq (ihx D X st σ a e σ' st' _ h hok.1 hI hσ fun Y a' hle hI' hs hσ' h1 h2 => ?_)
      have := hQ Y a' hle hI' hs hσ' h1 h2
      cases e with
      | normal => exact absurd h (by intro hh; exact hne σ' st' hh)
      | exit id => exact this
      | ret => exact this
  | cond c x y ihx ihy =>
    intro D X st σ a e σ' st' Q h hok hI hσ hQ
    simp only [okCode, Bool.and_eq_true] at hok
    simp only [code] at h
    split at h
    case h_2 => cases h
    rename_i t ht
    have hc := opds_sound hσ c
    rw [ht] at hc
    have hb : a.eval c = .bool t := by
      generalize a.eval c = q at hc
      cases hc with | pv hc => ?_
      cases hc; rfl
    refine wp_cond hb ?_
    cases t with
    | true => exact ihx D X st σ a e σ' st' Q h hok.1 hI hσ hQ
    | false => exact ihy D X st σ a e σ' st' Q h hok.2 hI hσ hQ
  | block id c ih =>
    intro D X st σ a e σ' st' Q h hok hI hσ hQ
    simp only [okCode] at hok
    simp only [code] at h
    split at h
    · rename_i k σ1 st1 hx
      refine wp_block (ih D X st σ a (.exit k) σ1 st1 _ hx hok hI hσ fun Y a' hle hI' hs hσ' h1 h2 => ?_)
      by_cases hk : k = id
      · rw [if_pos hk] at h
        simp only [Option.some.injEq, Prod.mk.injEq] at h
        obtain ⟨rfl, rfl, rfl⟩ := h
        have := hQ Y a' hle hI' hs hσ' h1 h2
        simp only [exOf, Exit.inBlock, hk, if_true] at this ⊢
        exact this
      · rw [if_neg hk] at h
        simp only [Option.some.injEq, Prod.mk.injEq] at h
        obtain ⟨rfl, rfl, rfl⟩ := h
        have := hQ Y a' hle hI' hs hσ' h1 h2
        simp only [exOf, Exit.inBlock, hk, if_false] at this ⊢
        exact this
    · rename_i hne
      refine wp_block (ih D X st σ a e σ' st' _ h hok hI hσ fun Y a' hle hI' hs hσ' h1 h2 => ?_)
      have := hQ Y a' hle hI' hs hσ' h1 h2
      cases e with
      | normal => exact this
      | exit k => exact absurd h (by intro hh; exact hne k σ' st' hh)
      | ret => exact this
  | loop c ih =>
    intro D X st σ a e σ' st' Q h hok hI hσ hQ
    simp only [okCode] at hok
    simp only [code] at h
    refine wp_loop_rounds n ?_
    have key : ∀ (k : Nat) (X0 : Cx) (st0 : St) (σ0 : Slots) (a0 : Act), iter (fun σ st => code P call n keep c σ st) k σ0 st0 = some (e, σ', st') → X.Le X0 → Step st st0 → Inv D X0 st0 → SlotR X0 σ0 a0.tmps → a0.tmps.size = a.tmps.size → a0.defers = a.defers →
        Code.rounds P c Q k a0 X0.w := by
      intro k
      induction k with
      | zero => intro X0 st0 σ0 a0 h; cases h
      | succ k ihk =>
        intro X0 st0 σ0 a0 h hle0 hs0 hI0 hσ0 hsz hde
        simp only [iter] at h
        rw [rounds_succ]
        split at h
        case h_3 => cases h
        · rename_i σ1 st1 hx
          refine ih D (X0.raise st0.h.length) (enter st0) σ0 a0 .normal σ1 st1 _ hx (by rw [hsz]; exact hok) hI0.enter (fun t => (hσ0 t).raise) fun Y a' hle hI' hs hσ' h1 h2 => ?_
          obtain ⟨Z, z1, z2, z3, z4, z5⟩ := hI0.cut hI' hs hle
          have := ihk Z _ _ a' h (hle0.trans z1) (hs0.trans z3) z2 (fun t => by
            rcases get_map (fun t => outT st1 st0.h.length st0.ch.length (get σ1 t)) σ0 t with q | q
            · show AVR Z _ (get (σ0.map fun x => (x.1, outT st1 st0.h.length st0.ch.length (get σ1 x.1))) t)
              rw [q]; exact z5 _ _ (hσ' t)
            · show AVR Z _ (get (σ0.map fun x => (x.1, outT st1 st0.h.length st0.ch.length (get σ1 x.1))) t)
              rw [q]; exact .bad) (h1.trans hsz) (h2.trans hde)
          rw [z4] at this
          exact this
        · rename_i e1 σ1 st1 hne hx
          simp only [Option.some.injEq, Prod.mk.injEq] at h
          obtain ⟨rfl, rfl, rfl⟩ := h
          refine ih D (X0.raise st0.h.length) (enter st0) σ0 a0 e1 σ1 st1 _ hx (by rw [hsz]; exact hok) hI0.enter (fun t => (hσ0 t).raise) fun Y a' hle hI' hs hσ' h1 h2 => ?_
          obtain ⟨Z, z1, z2, z3, z4, z5⟩ := hI0.cut hI' hs hle
          have := hQ Z a' (hle0.trans z1) z2 (hs0.trans z3) (fun t => by
            rcases get_map (fun t => outT st1 st0.h.length st0.ch.length (get σ1 t)) σ0 t with q | q
            · show AVR Z _ (get (σ0.map fun x => (x.1, outT st1 st0.h.length st0.ch.length (get σ1 x.1))) t)
              rw [q]; exact z5 _ _ (hσ' t)
            · show AVR Z _ (get (σ0.map fun x => (x.1, outT st1 st0.h.length st0.ch.length (get σ1 x.1))) t)
              rw [q]; exact .bad) (h1.trans hsz) (h2.trans hde)
          rw [z4] at this
          cases e1 with
          | normal => exact absurd rfl hne
          | exit id => exact this
          | ret => exact this
    exact key n X st σ a h (Cx.Le.refl X) (Step.refl _) hI hσ rfl rfl
  | _ =>
    intro D X st σ a e σ' st' Q h
    simp only [code] at h
    cases h

theorem get_number : ∀ (args : List AV) (i t : Nat), get (number i args) t = if i ≤ t then (args[t - i]?).getD .bad else .bad
  | [], i, t => by simp [number, get]
  | v :: r, i, t => by
    simp only [number, get, beq_iff_eq]
    by_cases h : t = i
    · subst h; simp
    · rw [if_neg h, get_number r (i + 1) t]
      by_cases h2 : i + 1 ≤ t
      · rw [if_pos h2, if_pos (by omega), show t - i = (t - (i + 1)) + 1 by omega]; simp
      · rw [if_neg h2, if_neg (by omega)]

theorem results_sound (hS : SR D X st) {σ : Slots} {tmps : Array Value} (hσ : SlotR X σ tmps) {g : ResultVar → Sem Value} (hg1 : ∀ t, g (.tmp t) = pure (tmps.getD t undef))
    (hg2 : ∀ a t, g (.cell a t) = do loadVar t (← asAddr (tmps.getD a undef))) : ∀ (rs : List ResultVar) (vs : List AV), TM.results P st σ rs = some vs →
    ∃ us : List Value, us.length = vs.length ∧ (∀ (j : Nat) x, vs[j]? = some x → AVR X (us.getD j undef) x) ∧
      (rs.mapM g).run P X.w = .ok us X.w
  | [], vs, h => by
    obtain rfl := Option.some.inj h
    exact ⟨[], rfl, fun j x hj => by simp at hj, by simp⟩
  | .tmp t :: r, vs, h => by
    simp only [TM.results] at h
    split at h
    case h_2 => cases h
    rename_i vs' hr
    obtain rfl := Option.some.inj h
    obtain ⟨us, h1, h2, h3⟩ := results_sound hS hσ hg1 hg2 r vs' hr
    refine ⟨tmps.getD t undef :: us, by simp [h1], fun j x hj => ?_, ?_⟩
    · cases j with
      | zero => obtain rfl := Option.some.inj hj; exact hσ t
      | succ j => exact h2 j x hj
    · rw [List.mapM_cons]
      simp only [hg1, Sem.run_bind, Sem.run_pure, Result.andThen_ok, h3]
  | .cell a t :: r, vs, h => by
    simp only [TM.results] at h
    split at h
    case h_2 => cases h
    rename_i v vs' hl hr
    obtain rfl := Option.some.inj h
    obtain ⟨us, h1, h2, h3⟩ := results_sound hS hσ hg1 hg2 r vs' hr
    obtain ⟨B, o, x, e1, e2, e3⟩ := load_at hS (hσ a) hl
    refine ⟨x :: us, by simp [h1], fun j y hj => ?_, ?_⟩
    · cases j with
      | zero => obtain rfl := Option.some.inj hj; exact e3
      | succ j => exact h2 j y hj
    · have ea : (asAddr (tmps.getD a undef)).run P X.w = .ok ⟨B, o, none⟩ X.w := by rw [e1]; rfl
      rw [List.mapM_cons]
      simp only [hg2, Sem.run_bind, ea, Sem.run_pure, Result.andThen_ok, e2, h3]

theorem tuple_sound {us : List Value} {vs : List AV} (h1 : us.length = vs.length) (h2 : ∀ (j : Nat) x, vs[j]? = some x → AVR X (us.getD j undef) x) :
    AVR X (if h : us.toArray.size = 1 then us.toArray[0] else .tuple us.toArray) (tuple vs) := by
  match vs, us with
  | [v], [u] => exact h2 0 v rfl
  | [], [] => exact .tup rfl fun j x hj => by simp at hj
  | v :: w :: r, u :: u' :: us =>
    refine .tup (by simpa using h1) fun j x hj => ?_
    have := h2 j x hj
    simpa [Array.getD_eq_getD_getElem?, List.getD] using this
  | [], _ :: _ => simp at h1
  | _ :: _, [] => simp at h1
  | [_], _ :: _ :: _ => simp at h1
  | _ :: _ :: _, [_] => simp at h1

theorem results_run (hS : SR D X st) {σ : Slots} {tmps : Array Value} (hσ : SlotR X σ tmps) {fn : Func} {vs : List AV} (h : TM.results P st σ fn.results.toList = some vs) :
    ∃ u, AVR X u (tuple vs) ∧ (Go.results fn tmps).run P X.w = .ok u X.w := by
  unfold Go.results
  simp only [Array.mapM_eq_mapM_toList]
  suffices ∀ g : ResultVar → Sem Value, (∀ t, g (.tmp t) = pure (tmps.getD t undef)) → (∀ a t, g (.cell a t) = do loadVar t (← asAddr (tmps.getD a undef))) →
      ∃ u, AVR X u (tuple vs) ∧ Sem.run P (do
        let vs ← List.toArray <$> List.mapM g fn.results.toList
        pure (if h : vs.size = 1 then vs[0] else .tuple vs)) X.w = .ok u X.w from this _ (fun _ => rfl) (fun _ _ => rfl)
  intro g hg1 hg2
  obtain ⟨rs, r1, r2, r3⟩ := results_sound hS hσ hg1 hg2 fn.results.toList vs h
  exact ⟨_, tuple_sound r1 r2, by simp only [Sem.run_bind, Sem.run_map, r3, Result.andThen_ok, Sem.run_pure]⟩

theorem fits_mono {n m : Nat} (h : n ≤ m) {ops : Array Oper} (hf : fits n ops = true) : fits m ops = true := by
  rw [fits, Array.all_eq_true_iff_forall_mem] at hf ⊢
  intro o ho
  have := hf o ho
  cases hd : o.dst with
  | none => rfl
  | some d =>
    simp only [hd, decide_eq_true_eq] at this ⊢
    exact Nat.lt_of_lt_of_le this h

theorem okCode_mono {n m : Nat} (h : n ≤ m) : ∀ c, okCode n c = true → okCode m c = true := by
  intro c
  induction c with
  | region id ops draw =>
    intro hc
    simp only [okCode, Bool.and_eq_true] at hc ⊢
    exact ⟨fits_mono h hc.1, hc.2⟩
  | seq x y ihx ihy =>
    intro hc
    simp only [okCode, Bool.and_eq_true] at hc ⊢
    exact ⟨ihx hc.1, ihy hc.2⟩
  | cond c x y ihx ihy =>
    intro hc
    simp only [okCode, Bool.and_eq_true] at hc ⊢
    exact ⟨ihx hc.1, ihy hc.2⟩
  | block id c ih => intro hc; simp only [okCode] at hc ⊢; exact ih hc
  | loop c ih => intro hc; simp only [okCode] at hc ⊢; exact ih hc
  | _ => intro _; rfl

theorem body_sound (hP : P.funcs.all okFunc = true) {call : CallF} (ih : CallOK P call) (hDraw : DrawOK P call) (H : FuncId → List Nat) (n : Nat) : CallOK P (callBody P H n call) :=
  fun D X st f args us v st' h hI hlen hargs => by
    simp only [callBody] at h
    split at h
    case h_2 => cases h
    rename_i fn hfn
    split at h
    case h_2 => cases h
    rename_i c hc
    have hok := Array.all_eq_true_iff_forall_mem.1 hP fn (Array.mem_of_getElem? hfn)
    simp only [okFunc, hc, Bool.and_eq_true, bne_iff_ne, ne_eq] at hok
    have hent : Entered P f := ⟨fn, hfn, hok.2, by rw [hc]; rfl⟩
    split at h
    case h_1 => cases h
    case h_2 => cases h
    rename_i e σ1 st1 hne hx
    split at h
    case h_2 => cases h
    rename_i vs hvs
    obtain ⟨rfl, rfl⟩ := Prod.mk.inj (Option.some.inj h)
    have hσ0 : SlotR X (number 0 args) (us ++ Array.replicate (fn.ntmps - us.size) undef) := by
      intro t
      rw [get_number, if_pos (Nat.zero_le t), Nat.sub_zero]
      cases hx : args[t]? with
      | none => exact .bad
      | some x =>
        have hlt : t < us.size := by rw [hlen]; exact (List.getElem?_eq_some_iff.1 hx).1
        have := hargs t x hx
        rw [Array.getD_eq_getD_getElem?] at this ⊢
        rw [Array.getElem?_append_left hlt]
        exact this
    refine ⟨hent, ?_⟩
    have hle0 : okCode (us ++ Array.replicate (fn.ntmps - us.size) undef).size c = true := okCode_mono (by simp; omega) c hok.1
    refine calls_of_wp hfn hc ?_
    refine code_sound ih hDraw n (H f) c D (X.raise st.h.length) (enter st) (number 0 args) { tmps := us ++ Array.replicate (fn.ntmps - us.size) undef, defers := [] } e σ1 st1 _ hx hle0 hI.enter (fun t => (hσ0 t).raise) fun Y a' hle hI' hs hσ' h1 h2 => ?_
    obtain ⟨Z, z1, z2, z3, z4, z5⟩ := hI.cut hI' hs hle
    have hcut : TM.cut st1 st.h.length st.ch.length st.ms = { h := st1.h.take st.h.length, ch := st1.ch.take st.ch.length, ms := st.ms, fl := st.fl, cf := st.cf } := by
      have e1 : st1.fl = st.fl := hs.g.fl
      have e2 : st1.cf = st.cf := hs.g.cf
      simp only [TM.cut, e1, e2]
    rw [hcut] at z2 z3
    obtain ⟨u, r1, r2⟩ := results_run hI'.s hσ' hvs
    have fin : a'.defers = [] ∧ ∃ v, (Go.results fn a'.tmps).run P Y.w = .ok v Y.w ∧ ∃ Z', X.Le Z' ∧ Inv D Z' { h := st1.h.take st.h.length, ch := st1.ch.take st.ch.length, ms := st.ms, fl := st.fl, cf := st.cf } ∧
        Step st { h := st1.h.take st.h.length, ch := st1.ch.take st.ch.length, ms := st.ms, fl := st.fl, cf := st.cf } ∧ (st1.h.take st.h.length).length = st.h.length ∧
        AVR Z' v (outT st1 st.h.length st.ch.length (tuple vs)) ∧ Z'.w = Y.w :=
      ⟨h2, u, r2, Z, z1, z2, z3, by have : st.h.length ≤ st1.h.length := hs.g.h; rw [List.length_take]; omega, z5 _ _ r1, z4⟩
    cases e with
    | normal => exact fin
    | ret => exact fin
    | exit id => exact absurd rfl (hne id)

theorem call_sound (hP : P.funcs.all okFunc = true) (hDraw : ∀ call, CallOK P call → DrawOK P call) (H : FuncId → List Nat) (n : Nat) : ∀ k, CallOK P (TM.call P H n k)
  | 0 => fun D X st f args us v st' h => by cases h
  | k + 1 => body_sound hP (call_sound hP hDraw H n k) (hDraw _ (call_sound hP hDraw H n k)) H n

end
end Go.TM
