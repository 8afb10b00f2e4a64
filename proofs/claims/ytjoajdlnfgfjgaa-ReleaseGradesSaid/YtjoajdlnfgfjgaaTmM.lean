/- The tree machine: the end of a round or of a call. -/
import Derived.Test.YtjoajdlnfgfjgaaTmL
namespace Go.TM
open Go.RowKit

section
variable {P : Program} {D : Bs} {X : Cx} {st : St}

def oldO (bm cm : Nat) : Obj → Prop
  | .dead => True
  | .cells cs => ∀ v ∈ cs, old bm cm v = true
  | .map es _ => ∀ e ∈ es, old bm cm e.val = true

/-- the objects below a mark refer to nothing above it -/
def OldS (X : Cx) (st : St) : Prop := ∀ m ∈ st.ms, ∀ b o, b < m.1 → X.ρ b ≠ none → st.h[b]? = some o → oldO m.1 m.2 o

theorem olds_all {bm cm : Nat} : ∀ {cs : List AV}, (∀ v ∈ cs, old bm cm v = true) → olds bm cm cs = true
  | [], _ => rfl
  | v :: r, h => by
    simp only [olds, h v (by simp), olds_all fun w hw => h w (List.mem_cons_of_mem _ hw), Bool.and_self]

theorem all_olds {bm cm : Nat} : ∀ {cs : List AV}, olds bm cm cs = true → ∀ v ∈ cs, old bm cm v = true
  | [], _, v, hv => by cases hv
  | w :: r, h, v, hv => by
    simp only [olds, Bool.and_eq_true] at h
    rcases List.mem_cons.1 hv with rfl | hv
    · exact h.1
    · exact all_olds h.2 v hv

theorem mark_lt {c : Ch} (h : mark st c ≠ none) : oldCh st.h.length st.ch.length c = true := by
  cases c with
  | v k =>
    simp only [mark, ne_eq, List.getElem?_eq_none_iff, Nat.not_le] at h
    simpa [oldCh] using h
  | e b born =>
    simp only [oldCh, decide_eq_true_eq]
    rcases Nat.lt_or_ge b st.h.length with q | q
    · exact q
    · simp [mark, List.getElem?_eq_none q] at h

theorem AVR.old (hS : SR D X st) {u : Value} {v : AV} (h : AVR X u v) : TM.old st.h.length st.ch.length v = true := by
  induction h with
  | pv => simp [TM.old]
  | g _ hm => simp only [TM.old]; exact mark_lt (by rw [← hS.mcE, hm]; simp)
  | lp hb => simp only [TM.old, decide_eq_true_eq]; exact (hS.dom _ _ hb).1
  | ls hb => simp only [TM.old, decide_eq_true_eq]; exact (hS.dom _ _ hb).1
  | lm hb => simp only [TM.old, decide_eq_true_eq]; exact (hS.dom _ _ hb).1
  | fn _ _ _ _ i1 i2 =>
    simp only [TM.old, Bool.and_eq_true]
    exact ⟨olds_all fun v hv => by obtain ⟨j, hj⟩ := List.getElem?_of_mem hv; exact i1 j v hj, olds_all fun v hv => by obtain ⟨j, hj⟩ := List.getElem?_of_mem hv; exact i2 j v hj⟩
  | ifc _ ih => simpa only [TM.old] using ih
  | agg _ _ _ ih => simp only [TM.old]; exact olds_all fun v hv => by obtain ⟨j, hj⟩ := List.getElem?_of_mem hv; exact ih j v hj
  | tup _ _ ih => simp only [TM.old]; exact olds_all fun v hv => by obtain ⟨j, hj⟩ := List.getElem?_of_mem hv; exact ih j v hj
  | bad => simp [TM.old]

/-- from here on what is new is new after this -/
def Cx.raise (X : Cx) (n : Nat) : Cx := { X with n := n }

theorem AVR.raise {n : Nat} {u : Value} {v : AV} (h : AVR X u v) : AVR (X.raise n) u v := by
  induction h with
  | pv hp => exact .pv hp
  | g hp hm hn hr => exact .g hp hm hn hr
  | lp hb => exact .lp hb
  | ls hb hn => exact .ls hb hn
  | lm hb => exact .lm hb
  | fn h1 h2 _ _ i1 i2 => exact .fn h1 h2 i1 i2
  | ifc _ ih => exact .ifc ih
  | agg h1 _ h3 ih => exact .agg h1 ih h3
  | tup h1 _ ih => exact .tup h1 ih
  | bad => exact .bad

theorem ObjR.raise {n b B : Nat} {o : Obj} (h : ObjR X b B o) : ObjR (X.raise n) b B o := by
  cases o with
  | dead => trivial
  | cells cs =>
    obtain ⟨C, ty, h1, h2, h3, h4⟩ := h
    exact ⟨C, ty, h1, h2, fun j x e => (h3 j x e).raise, h4⟩
  | map es clock =>
    obtain ⟨EN, h1, h2, h3, h4⟩ := h
    exact ⟨EN, h1, h2, fun j m e e1 e2 => ⟨(h3 j m e e1 e2).1, (h3 j m e e1 e2).2.1, (h3 j m e e1 e2).2.2.1.raise, (h3 j m e e1 e2).2.2.2⟩, h4⟩

theorem SR.raise (hS : SR D X st) {n : Nat} (hn : n ≤ st.h.length) : SR D (X.raise n) st :=
  ⟨hn, hS.mcE, fun b o B ho hB => (hS.obj b o B ho hB).raise, hS.dom, hS.inj, hS.loc, hS.imlt, hS.im0, hS.ch, hS.below, hS.base, hS.κd⟩

theorem SR.enter (hS : SR D X st) (hO : OldS X st) : SR D X (TM.enter st) ∧ OldS X (TM.enter st) := by
  refine ⟨⟨hS.nE, hS.mcE, hS.obj, hS.dom, hS.inj, hS.loc, hS.imlt, hS.im0, hS.ch, hS.below, hS.base, hS.κd⟩, fun m hm b o hb hρ ho => ?_⟩
  rcases List.mem_cons.1 hm with rfl | hm
  rotate_left
  · exact hO m hm b o hb hρ ho
  dsimp only
  cases hB : X.ρ b with
  | none => exact absurd hB hρ
  | some B =>
    have hob := hS.obj b o B ho hB
    cases o with
    | dead => trivial
    | cells cs =>
      obtain ⟨C, ty, _, _, h3, _⟩ := hob
      intro v hv
      obtain ⟨j, hj⟩ := List.getElem?_of_mem hv
      exact (h3 j v hj).old hS
    | map es k =>
      obtain ⟨EN, _, h2, h3, _⟩ := hob
      intro e he
      obtain ⟨j, hj⟩ := List.getElem?_of_mem he
      have hlt : j < EN.size := by rw [h2]; exact (List.getElem?_eq_some_iff.1 hj).1
      exact (h3 j EN[j] e (Array.getElem?_eq_getElem hlt) hj).2.2.1.old hS

/-- what is left of a state: the blocks and chains below n and m -/
def cut (st : St) (n m : Nat) (ms : List (Nat × Nat)) : St := { st with h := st.h.take n, ch := st.ch.take m, ms := ms }

def Cx.cut (X : Cx) (st : St) (n m : Nat) (ms : List (Nat × Nat)) (p : Nat) : Cx :=
  { ρ := fun b => if b < n then X.ρ b else none, κ := fun c => if oldCh n m c then X.κ c else none, im := fun B j => X.im B j ∨ ∃ b, n ≤ b ∧ X.ρ b = some B,
    mc := mark (TM.cut st n m ms), w := X.w, n := p }

theorem mark_cut {n m : Nat} {ms : List (Nat × Nat)} {c : Ch} (h : oldCh n m c = true) : mark (cut st n m ms) c = mark st c := by
  cases c with
  | v k =>
    simp only [oldCh, decide_eq_true_eq] at h
    simp only [mark, cut]
    rw [List.getElem?_take_of_lt h]
  | e b born =>
    simp only [oldCh, decide_eq_true_eq] at h
    simp only [mark, cut]
    rw [List.getElem?_take_of_lt h]

theorem mark_cut_old {n m : Nat} {ms : List (Nat × Nat)} {c : Ch} (h : mark (cut st n m ms) c ≠ none) : oldCh n m c = true := by
  have := mark_lt h
  cases c with
  | v k =>
    simp only [oldCh, cut, List.length_take, decide_eq_true_eq] at this ⊢
    omega
  | e b born =>
    simp only [oldCh, cut, List.length_take, decide_eq_true_eq] at this ⊢
    omega

theorem PVR.cut {n m pn : Nat} {ms : List (Nat × Nat)} {u : Value} {p : PV} (h : PVR X.im X.w u p) : PVR (X.cut st n m ms pn).im (X.cut st n m ms pn).w u p := h.mono fun _ _ hj => ⟨.inl hj, rfl⟩

theorem AVR.cut (hS : SR D X st) {n m pn : Nat} {ms : List (Nat × Nat)} {u : Value} {v : AV} (h : AVR X u v) : TM.old n m v = true → AVR (X.cut st n m ms pn) u v := by
  induction h with
  | pv hp => exact fun _ => .pv hp.cut
  | g hp hm hn hr =>
    intro ho
    simp only [TM.old] at ho
    refine .g hp.cut ?_ hn fun e => ?_
    · show mark (TM.cut st n m ms) _ = _
      rw [mark_cut ho, ← hS.mcE]; exact hm
    · show Rt X.w (if oldCh n m _ then _ else none) _ _ _
      rw [if_pos ho]; exact hr e
  | lp hb =>
    intro ho
    simp only [TM.old, decide_eq_true_eq] at ho
    exact .lp (by show (if _ then _ else none) = _; rw [if_pos ho]; exact hb)
  | ls hb hn =>
    intro ho
    simp only [TM.old, decide_eq_true_eq] at ho
    exact .ls (by show (if _ then _ else none) = _; rw [if_pos ho]; exact hb) hn
  | lm hb =>
    intro ho
    simp only [TM.old, decide_eq_true_eq] at ho
    exact .lm (by show (if _ then _ else none) = _; rw [if_pos ho]; exact hb)
  | fn h1 h2 _ _ i1 i2 =>
    intro ho
    simp only [TM.old, Bool.and_eq_true] at ho
    exact .fn h1 h2 (fun j x hj => i1 j x hj (all_olds ho.1 x (List.mem_of_getElem? hj))) (fun j x hj => i2 j x hj (all_olds ho.2 x (List.mem_of_getElem? hj)))
  | ifc _ ih => exact fun ho => .ifc (ih (by simpa only [TM.old] using ho))
  | agg h1 _ h3 ih =>
    intro ho
    simp only [TM.old] at ho
    exact .agg h1 (fun j x hj => ih j x hj (all_olds ho x (List.mem_of_getElem? hj))) h3
  | tup h1 _ ih =>
    intro ho
    simp only [TM.old] at ho
    exact .tup h1 (fun j x hj => ih j x hj (all_olds ho x (List.mem_of_getElem? hj)))
  | bad => exact fun _ => .bad

theorem SR.cut (hS : SR D X st) {n m pn : Nat} (hp : pn ≤ n) (ho : ∀ b o, b < n → X.ρ b ≠ none → st.h[b]? = some o → oldO n m o) (hn : n ≤ st.h.length) (hf : st.fl ≤ n) (ms : List (Nat × Nat)) : SR D (X.cut st n m ms pn) (TM.cut st n m ms) := by
  have hρ : ∀ b B, (X.cut st n m ms pn).ρ b = some B → b < n ∧ X.ρ b = some B := by
    intro b B h
    have h' : (if b < n then X.ρ b else none) = some B := h
    split at h'
    · rename_i q; exact ⟨q, h'⟩
    · cases h'
  have hκ : ∀ c B e, (X.cut st n m ms pn).mc c ≠ none → (X.cut st n m ms pn).κ c = some (B, e) → X.mc c ≠ none ∧ X.κ c = some (B, e) := by
    intro c B e h1 h2
    have hold := mark_cut_old h1
    have h1' : mark (TM.cut st n m ms) c ≠ none := h1
    rw [mark_cut hold, ← hS.mcE] at h1'
    have h2' : (if oldCh n m c then X.κ c else none) = some (B, e) := h2
    rw [if_pos hold] at h2'
    exact ⟨h1', h2'⟩
  refine ⟨?_, rfl, fun b o B hob hB => ?_, fun b B hB => ?_, fun b c B hb hc => hS.inj b c B (hρ b B hb).2 (hρ c B hc).2, fun b B j hB hj => ?_, fun B j hj => ?_, fun B j hj => ?_, fun c B e hc hk => ?_, hS.below, hS.base, fun c hc => ?_⟩
  · simp [TM.cut, Cx.cut]; omega
  · obtain ⟨hlt, hB'⟩ := hρ b B hB
    have hob' : st.h[b]? = some o := by
      simp only [TM.cut] at hob
      rwa [List.getElem?_take_of_lt hlt] at hob
    have h1 := hS.obj b o B hob' hB'
    have h2 := ho b o hlt (by rw [hB']; simp) hob'
    cases o with
    | dead => trivial
    | cells cs =>
      obtain ⟨C, ty, r1, r2, r3, r4⟩ := h1
      exact ⟨C, ty, r1, r2, fun j x hj => (r3 j x hj).cut hS (h2 x (List.mem_of_getElem? hj)), r4⟩
    | map es k =>
      obtain ⟨EN, r1, r2, r3, r4⟩ := h1
      refine ⟨EN, r1, r2, fun j me e hj he => ?_, r4⟩
      obtain ⟨e1, e2, e3, e4⟩ := r3 j me e hj he
      refine ⟨e1, e2, e3.cut hS (h2 e (List.mem_of_getElem? he)), fun m' n' cs hl hv => ⟨(e4 m' n' cs hl hv).1, fun hq => ?_⟩⟩
      show Rt X.w (if oldCh n m (.e b e.born) then _ else none) _ _ _
      rw [if_pos (by simp [oldCh, hlt])]
      exact (e4 m' n' cs hl hv).2 hq
  · obtain ⟨hlt, hB'⟩ := hρ b B hB
    have hd := hS.dom b B hB'
    exact ⟨by simp [TM.cut]; omega, hd.2.1, hd.2.2⟩
  · obtain ⟨hlt, hB'⟩ := hρ b B hB
    rcases hj with hj | ⟨b', hb', hj⟩
    · exact hS.loc b B j hB' hj
    · have := hS.inj b b' B hB' hj
      omega
  · rcases hj with hj | ⟨b', hb', hj⟩
    · exact hS.imlt B j hj
    · exact (hS.dom b' B hj).2.2
  · rcases hj with hj | ⟨b', hb', hj⟩
    · exact hS.im0 B j hj
    · exact .inr ((hS.dom b' B hj).2.1 (by omega))
  · obtain ⟨h1, h2⟩ := hκ c B e hc hk
    obtain ⟨c1, c2, c3, c4, c5⟩ := hS.ch c B e h1 h2
    refine ⟨fun q => c1 (by cases c <;> exact q), c2, fun j hj hij => ?_, fun b hb => c4 b (hρ b B hb).2, fun c' e' hc' hk' => ?_⟩
    · rcases hij with hij | ⟨b', _, hb'⟩
      · exact c3 j hj hij
      · exact c4 b' hb'
    · obtain ⟨h1', h2'⟩ := hκ c' B e' hc' hk'
      exact c5 c' e' h1' h2'
  · show (if oldCh n m c then X.κ c else none) = none
    by_cases hold : oldCh n m c = true
    · rw [if_pos hold]
      have hc' : mark (TM.cut st n m ms) c = none := hc
      rw [mark_cut hold, ← hS.mcE] at hc'
      exact hS.κd c hc'
    · rw [if_neg hold]

theorem Cx.Le.cut {X0 : Cx} {st0 : St} (hS0 : SR D X0 st0) (hS : SR D X st) (hle : (X0.raise st0.h.length).Le X) (ms : List (Nat × Nat)) {n m : Nat} (hn : n = st0.h.length) (hm : m = st0.ch.length) : X0.Le (X.cut st n m ms X0.n) := by
  subst hn; subst hm
  have hc : ∀ c k, X0.mc c = some k → oldCh st0.h.length st0.ch.length c = true := fun c k h => mark_lt (by rw [← hS0.mcE, h]; simp)
  refine ⟨fun b B hb => ?_, fun B j hj => ⟨.inl (hle.im B j hj).1, (hle.im B j hj).2⟩, fun c k hk => ?_, fun b B hb => ?_, rfl⟩
  · show (if b < st0.h.length then X.ρ b else none) = some B
    rw [if_pos (hS0.dom b B hb).1]
    exact hle.ρ b B hb
  · obtain ⟨k', h1, h2⟩ := hle.ch c k hk
    have hold := hc c k hk
    refine ⟨k', ?_, ?_⟩
    · show mark (TM.cut st _ _ ms) c = some k'
      rw [mark_cut hold, ← hS.mcE]; exact h1
    · rcases h2 with h2 | ⟨h2, h3, h4⟩
      · exact .inl h2
      · refine .inr ⟨h2, ?_, h4⟩
        show (if oldCh _ _ c then X.κ c else none) = _
        rw [if_pos hold]; exact h3
  · have hb' : (if b < st0.h.length then X.ρ b else none) = some B := hb
    split at hb'
    · rename_i q
      rcases hle.ρn b B hb' with r | r
      · exact .inl r
      · have r' : st0.h.length ≤ b := r
        omega
    · cases hb'

theorem down_cut (hS : SR D X st) {n m pn : Nat} {ms : List (Nat × Nat)} {u : Value} {v : AV} (h : AVR X u v) : AVR (X.cut st n m ms pn) u (down n m v) := by
  unfold down
  split
  · rename_i c k cs
    split
    · rename_i q; exact h.cut hS (by simp only [TM.old]; exact q)
    · exact .pv (h.sl (.inr ⟨_, rfl⟩)).cut
  · split
    · rename_i q; exact h.cut hS q
    · exact .bad

theorem out1_cut (hS : SR D X st) {n m pn : Nat} {ms : List (Nat × Nat)} {u : Value} {v : AV} (h : AVR X u v) : AVR (X.cut st n m ms pn) u (out1 st n m v) := by
  have cells : ∀ {b o B : Nat} {cs : List AV} {ps : List PV}, X.ρ b = some B → n ≤ b → st.h[b]? = some (.cells cs) → pures (cs.drop o) = some ps →
      (∀ (j : Nat) p, ps[j]? = some p → (X.cut st n m ms pn).im B (o + j)) ∧ ∀ (j : Nat) p, ps[j]? = some p → PVR (X.cut st n m ms pn).im (X.cut st n m ms pn).w (rd (X.cut st n m ms pn).w B (o + j)) p := by
    intro b o B cs ps hB hb ho hps
    have hat := ((hS.obj _ _ _ ho hB).at_).drop o
    obtain ⟨_, i2⟩ := pures_sound (X := X) (f := fun j => rd X.w B j) _ _ o hps fun j x hj => by
      obtain ⟨v, h1, h2, _⟩ := hat j x hj
      rw [Nat.zero_add] at h1
      have e : rd X.w B (o + j) = v := by unfold rd; rw [h1]; rfl
      rw [e]; exact h2
    exact ⟨fun j p hj => .inr ⟨b, hb, hB⟩, fun j p hj => (i2 j p hj).cut⟩
  unfold out1
  split
  · rename_i b o
    split
    · rename_i q; exact h.cut hS (by simp [TM.old, q])
    · cases h with | lp hB => ?_
      split
      · rename_i cs hcs
        split
        · rename_i ps hps
          obtain ⟨h1, h2⟩ := cells hB (by omega) hcs hps
          exact .pv (.pt h1 h2)
        · exact .bad
      · exact .bad
  · rename_i b o k
    split
    · rename_i q; exact h.cut hS (by simp [TM.old, q])
    · cases h with | ls hB hk => ?_
      split
      · rename_i cs hcs
        split
        · rename_i ps hps
          obtain ⟨h1, h2⟩ := cells hB (by omega) hcs hps
          exact .pv (.sl hk h1 h2)
        · exact .bad
      · exact .bad
  · exact down_cut hS h

theorem outs_len (n m : Nat) : ∀ cs : List AV, (outs st n m cs).length = cs.length
  | [] => rfl
  | v :: r => by simp [outs, outs_len n m r]

theorem outs_get (n m : Nat) : ∀ (cs : List AV) (j : Nat), (outs st n m cs)[j]? = (cs[j]?).map (out1 st n m)
  | [], j => by simp [outs]
  | v :: r, 0 => by simp [outs]
  | v :: r, j + 1 => by simp [outs, outs_get n m r j]

theorem out_cut (hS : SR D X st) {n m pn : Nat} {ms : List (Nat × Nat)} {u : Value} {v : AV} (h : AVR X u v) : AVR (X.cut st n m ms pn) u (out st n m v) := by
  unfold out
  split
  · rename_i cs
    cases h with | agg h1 h2 h3 => ?_
    refine .agg (by rw [outs_len]; exact h1) (fun j x hj => ?_) (fun j hj => h3 j (by rwa [outs_len] at hj))
    rw [outs_get] at hj
    cases hx : cs[j]? with
    | none => rw [hx] at hj; cases hj
    | some y =>
      rw [hx] at hj
      obtain rfl := Option.some.inj hj
      exact out1_cut hS (h2 j y hx)
  · exact out1_cut hS h

theorem outT_cut (hS : SR D X st) {n m pn : Nat} {ms : List (Nat × Nat)} {u : Value} {v : AV} (h : AVR X u v) : AVR (X.cut st n m ms pn) u (outT st n m v) := by
  unfold outT
  split
  · rename_i vs
    cases h with | tup h1 h2 => ?_
    refine .tup (by simpa using h1) fun j x hj => ?_
    rw [List.getElem?_map] at hj
    cases hx : vs[j]? with
    | none => rw [hx] at hj; cases hj
    | some y =>
      rw [hx] at hj
      obtain rfl := Option.some.inj hj
      exact out_cut hS (h2 j y hx)
  · exact out_cut hS h

end
end Go.TM
