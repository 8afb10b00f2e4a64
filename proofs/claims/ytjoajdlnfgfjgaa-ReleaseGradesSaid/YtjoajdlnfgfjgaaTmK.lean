/- The tree machine: append. -/
import Derived.Test.YtjoajdlnfgfjgaaTmJ
import Derived.Deep.AppendSrc
namespace Go.TM
open Go.RowKit

section
variable {P : Program} {D : Bs} {X : Cx} {st : St}

theorem mark_setMark {c : Ch} {n k : Nat} (h : mark st c = some n) (d : Ch) : mark (setMark st c k) d = if d = c then some k else mark st d := by
  cases c with
  | v i =>
    have hlt : i < st.ch.length := by
      rcases Nat.lt_or_ge i st.ch.length with q | q
      · exact q
      · simp [mark, List.getElem?_eq_none q] at h
    cases d with
    | v j =>
      simp only [mark, setMark]
      by_cases hij : j = i
      · subst hij; simp [hlt]
      · rw [if_neg (by intro e; cases e; exact hij rfl), List.getElem?_set_ne (Ne.symm hij)]
    | e b born => rw [if_neg (by intro e; cases e)]; rfl
  | e b born =>
    cases hb : st.h[b]? with
    | none => simp [mark, hb] at h
    | some o =>
      cases o with
      | dead => simp [mark, hb] at h
      | cells cs => simp [mark, hb] at h
      | map es q =>
        have hlt : b < st.h.length := (List.getElem?_eq_some_iff.1 hb).1
        have hset : setMark st (.e b born) k = setH st b (.map (es.map (updE born (wrL k))) q) := by simp [setMark, hb]
        rw [hset]
        have hu := updE_born (born := born) (f := wrL k) (fun _ => rfl)
        cases d with
        | v j => rw [if_neg (by intro e; cases e)]; rfl
        | e d born' =>
          by_cases hd : b = d
          · subst hd
            rw [mark_e (es := es.map (updE born (wrL k))) (k := q) (by simp [setH, hlt]), find_map hu]
            rw [mark_e hb] at h ⊢
            by_cases hbb : born' = born
            · subst hbb
              rw [if_pos rfl]
              cases hx : es.find? (·.born == born') with
              | none => rw [hx] at h; cases h
              | some x =>
                have : x.born = born' := by simpa using List.find?_some hx
                simp [updE, this, wrL]
            · rw [if_neg (by intro e; cases e; exact hbb rfl)]
              cases hx : es.find? (·.born == born') with
              | none => rfl
              | some x =>
                have : x.born = born' := by simpa using List.find?_some hx
                have hne : (x.born == born) = false := by simp [this, hbb]
                simp [updE, hne]
          · rw [if_neg (by intro e; cases e; exact hd rfl)]
            simp only [mark, setH, List.getElem?_set_ne hd]

theorem SR.nodup (hS : SR D X st) {b B : Nat} {es : List Ent} {q : Nat} (hB : X.ρ b = some B) (h : st.h[b]? = some (.map es q)) : (es.map (·.born)).Nodup := by
  obtain ⟨_, _, _, _, h4, _⟩ := hS.obj b _ B h hB
  exact h4

theorem setMark_len (c : Ch) (k : Nat) : (setMark st c k).h.length = st.h.length := by
  cases c with
  | v i => rfl
  | e d born =>
    simp only [setMark]
    split
    · simp [setH]
    · rfl

theorem setMark_marks (c : Ch) (k : Nat) : (setMark st c k).fl = st.fl ∧ (setMark st c k).cf = st.cf := by
  cases c with
  | v i => exact ⟨rfl, rfl⟩
  | e d born =>
    simp only [setMark]
    split <;> exact ⟨rfl, rfl⟩

theorem chOk_setMark (c d : Ch) (k : Nat) : chOk (setMark st c k) d = chOk st d := by
  obtain ⟨h1, h2⟩ := setMark_marks (st := st) c k
  cases d <;> simp [chOk, h1, h2]

/-- one chain grows -/
theorem SR.grow (hS : SR D X st) {c : Ch} {n k : Nat} (hm : X.mc c = some n) (hk : n ≤ k) {w' : World} {im' : Nat → Nat → Prop} {at_ : Option (Nat × Nat)}
    (hw : ∀ B, ((∃ b, X.ρ b = some B) ∨ ∃ c' e, c' ≠ c ∧ X.mc c' ≠ none ∧ X.κ c' = some (B, e)) → w'.heap[B]? = X.w.heap[B]?) (hsz : X.w.heap.size ≤ w'.heap.size)
    (him : ∀ B j, X.im B j → im' B j ∧ w'.cell? ⟨B, j, none⟩ = X.w.cell? ⟨B, j, none⟩) (hnew : ∀ B j, im' B j → X.im B j ∨ ∃ e, at_ = some (B, e) ∧ j < e)
    (hat : ∀ B e, at_ = some (B, e) → ¬ D.Z B ∧ B < w'.heap.size ∧ (∀ b, X.ρ b ≠ some B) ∧ (∀ c' e', c' ≠ c → X.mc c' ≠ none → X.κ c' ≠ some (B, e')) ∧ ∀ j, e ≤ j → ¬ X.im B j)
    (hbelow : Still D.Z X.w w') (hsame : k = n → at_ = X.κ c ∧ ∀ B e C ty, X.κ c = some (B, e) → X.w.heap[B]? = some (.cells C ty (0, 0)) → ∃ C', w'.heap[B]? = some (.cells C' ty (0, 0)) ∧ C'.size = C.size)
    {Y : Cx} (hY : Y = { ρ := X.ρ, κ := fun d => if d = c then at_ else X.κ d, im := im', mc := mark (setMark st c k), w := w', n := X.n }) : X.Le Y ∧ SR D Y (setMark st c k) := by
  subst hY
  have hm' : mark st c = some n := by rw [← hS.mcE]; exact hm
  have hmk := fun d => mark_setMark (k := k) hm' d
  have hle : X.Le { ρ := X.ρ, κ := fun d => if d = c then at_ else X.κ d, im := im', mc := mark (setMark st c k), w := w', n := X.n } := by
    refine ⟨fun _ _ e => e, him, fun d m hd => ?_, fun _ _ e => .inl e, rfl⟩
    rw [hS.mcE] at hd
    by_cases hdc : d = c
    · subst hdc
      rw [hm'] at hd
      obtain rfl := Option.some.inj hd
      refine ⟨k, by show mark (setMark st d k) d = some k; rw [hmk, if_pos rfl], ?_⟩
      rcases Nat.lt_or_ge n k with q | q
      · exact .inl q
      · obtain rfl : k = n := by omega
        obtain ⟨e1, e2⟩ := hsame rfl
        exact .inr ⟨rfl, by show (if d = d then at_ else X.κ d) = X.κ d; rw [if_pos rfl]; exact e1, e2⟩
    · refine ⟨m, by show mark (setMark st c k) d = some m; rw [hmk, if_neg hdc]; exact hd, .inr ⟨rfl, by show (if d = c then at_ else X.κ d) = X.κ d; rw [if_neg hdc], fun B e C ty hκ hh => ?_⟩⟩
      exact ⟨C, (hw B (.inr ⟨d, e, hdc, by rw [hS.mcE, hd]; simp, hκ⟩)).trans hh, rfl⟩
  refine ⟨hle, ⟨by rw [setMark_len]; exact hS.nE, rfl, fun b o B ho hB => ?_, fun b B hB => ?_, hS.inj, fun b B j hB hj => ?_, fun B j hj => ?_, fun B j hj => ?_, fun d B e hd hκ => ?_, hS.below.trans hbelow, fun k hk => Nat.lt_of_lt_of_le (hS.base k hk) hsz, fun d hd => ?_⟩⟩
  · have hheap := hw B (.inl ⟨b, hB⟩)
    have plainCase : ∀ o, st.h[b]? = some o → (∀ es q, o = .map es q → ∀ e ∈ es, c ≠ .e b e.born) → ObjR { ρ := X.ρ, κ := fun d => if d = c then at_ else X.κ d, im := im', mc := mark (setMark st c k), w := w', n := X.n } b B o := by
      intro o ho hno
      refine (hS.obj b o B ho hB).mono hle hheap fun es q eq e he => ?_
      subst eq
      have h1 := hS.markEnt ho hB e he
      refine ⟨h1, ?_⟩
      show mark (setMark st c k) (.e b e.born) = e.lim
      rw [hmk, if_neg (Ne.symm (hno es q rfl e he)), ← hS.mcE]; exact h1
    cases c with
    | v i =>
      have ho' : st.h[b]? = some o := ho
      exact plainCase o ho' fun es q eq e he h => by cases h
    | e d born =>
      cases hb : st.h[d]? with
      | none => simp [mark, hb] at hm'
      | some od =>
        cases od with
        | dead => simp [mark, hb] at hm'
        | cells cs => simp [mark, hb] at hm'
        | map es q =>
          have hset : setMark st (.e d born) k = setH st d (.map (es.map (updE born (wrL k))) q) := by simp [setMark, hb]
          rw [hset] at ho
          by_cases hbd : b = d
          · subst hbd
            have ho' : some (Obj.map (es.map (updE born (wrL k))) q) = some o := by
              rw [← ho]; simp [setH, (List.getElem?_eq_some_iff.1 hb).1]
            obtain rfl := Option.some.inj ho'
            obtain ⟨EN, e1, e2, e3, e4, e5⟩ := hS.obj b _ B hb hB
            have hu := updE_born (born := born) (f := wrL k) (fun _ => rfl)
            refine ⟨EN, hheap.trans e1, by rw [List.length_map]; exact e2, fun j m e hj he => ?_, by rw [map_born hu]; exact e4, fun x hx => ?_⟩
            · rw [List.getElem?_map] at he
              cases hx : es[j]? with
              | none => rw [hx] at he; cases he
              | some x =>
                rw [hx] at he
                obtain rfl := Option.some.inj he
                have hr := e3 j m x hj hx
                have hmx := hS.markEnt hb hB x (List.mem_of_getElem? hx)
                unfold updE
                split
                · rename_i hxb
                  have hxb' : x.born = born := by simpa using hxb
                  have hxl : x.lim = some n := by rw [← hmx, hxb']; exact hm
                  refine ⟨hr.1, hr.2.1, hr.2.2.1.mono hle, fun m' n' cs h1 h2 => ?_⟩
                  obtain rfl := Option.some.inj h1
                  obtain ⟨r1, r2⟩ := hr.2.2.2 n n' cs hxl h2
                  refine ⟨by omega, fun hnk => ?_⟩
                  have hkn : k = n := by omega
                  have hn' : n' = n := by omega
                  have hrt := r2 hn'
                  rw [hxb'] at hrt
                  have := hrt.mono hle hm (show mark (setMark st (.e b born) k) (.e b born) = some n by rw [hmk, if_pos rfl, hkn])
                  show Rt w' (if Ch.e b x.born = Ch.e b born then at_ else X.κ (.e b x.born)) m.val n' cs
                  rw [hxb', if_pos rfl]
                  have t : Rt w' (if Ch.e b born = Ch.e b born then at_ else X.κ (.e b born)) m.val n' cs := this
                  rw [if_pos rfl] at t
                  exact t
                · rename_i hxb
                  have hxb' : x.born ≠ born := by simpa using hxb
                  refine hr.mono hle fun n' hn' => ⟨hmx.trans hn', ?_⟩
                  show mark (setMark st (.e b born) k) (.e b x.born) = some n'
                  rw [hmk, if_neg (by intro e; cases e; exact hxb' rfl), ← hS.mcE]; exact hmx.trans hn'
            · rw [List.mem_map] at hx
              obtain ⟨y, hy, rfl⟩ := hx
              rw [hu]; exact e5 y hy
          · have ho' : st.h[b]? = some o := by
              rw [← ho]; simp only [setH]; rw [List.getElem?_set_ne (Ne.symm hbd)]
            exact plainCase o ho' fun es q eq e he h => by cases h; exact hbd rfl
  · have hd := hS.dom b B hB
    have hlen := setMark_len (st := st) c k
    exact ⟨by rw [hlen]; exact hd.1, by rw [(setMark_marks c k).1]; exact hd.2.1, Nat.lt_of_lt_of_le hd.2.2 hsz⟩
  · rcases hnew B j hj with q | ⟨e, h1, _⟩
    · exact hS.loc b B j hB q
    · exact (hat B e h1).2.2.1 b hB
  · rcases hnew B j hj with q | ⟨e, h1, _⟩
    · exact Nat.lt_of_lt_of_le (hS.imlt B j q) hsz
    · exact (hat B e h1).2.1
  · rcases hnew B j hj with q | ⟨e, h1, _⟩
    · exact hS.im0 B j q
    · exact .inr (hat B e h1).1
  · have hcc : ∀ d, mark (setMark st c k) d ≠ none → d ≠ c → X.mc d ≠ none := by
      intro d h1 h2
      rw [hmk, if_neg h2] at h1
      rw [hS.mcE]; exact h1
    by_cases hdc : d = c
    · subst hdc
      simp only [if_true] at hκ
      obtain ⟨a1, a2, a3, a4, a5⟩ := hat B e hκ
      refine ⟨fun _ => a1, a2, fun j hj hij => ?_, a3, fun c' e' h1 h2 => ?_⟩
      · rcases hnew B j hij with q | ⟨e2, h1, h2⟩
        · exact a5 j hj q
        · rw [hκ] at h1
          simp only [Option.some.injEq, Prod.mk.injEq] at h1
          omega
      · by_cases h3 : c' = d
        · exact h3
        · simp only [if_neg h3] at h2
          exact absurd h2 (a4 c' e' h3 (hcc c' h1 h3))
    · simp only [if_neg hdc] at hκ
      obtain ⟨c1, c2, c3, c4, c5⟩ := hS.ch d B e (hcc d hd hdc) hκ
      refine ⟨fun q => c1 (by rw [chOk_setMark] at q; exact q), Nat.lt_of_lt_of_le c2 hsz, fun j hj hij => ?_, c4, fun c' e' h1 h2 => ?_⟩
      · rcases hnew B j hij with q | ⟨e2, h1, _⟩
        · exact c3 j hj q
        · exact (hat B e2 h1).2.2.2.1 d e hdc (hcc d hd hdc) hκ
      · by_cases h3 : c' = c
        · subst h3
          simp only [if_true] at h2
          exact absurd hκ ((hat B e' h2).2.2.2.1 d e hdc (hcc d hd hdc))
        · simp only [if_neg h3] at h2
          exact c5 c' e' (hcc c' h1 h3) h2
  · have hd' : mark (setMark st c k) d = none := hd
    rw [hmk] at hd'
    by_cases hdc : d = c
    · rw [if_pos hdc] at hd'; cases hd'
    · rw [if_neg hdc] at hd'
      show (if d = c then at_ else X.κ d) = none
      rw [if_neg hdc]
      exact hS.κd d (by rw [hS.mcE]; exact hd')

theorem pureOf_sound {u : Value} {v : AV} {p : PV} (h : AVR X u v) (hp : pureOf v = some p) : PVR X.im X.w u p := by
  unfold pureOf at hp
  split at hp
  · obtain rfl := Option.some.inj hp
    cases h with | pv h => exact h
  · obtain rfl := Option.some.inj hp
    cases h with | g h => exact h
  · obtain rfl := Option.some.inj hp
    cases h with | ifc h => ?_
    cases h with | pv h => exact .ifc h
  · obtain rfl := Option.some.inj hp
    cases h with | fn h1 h2 h3 h4 => ?_
    rename_i fa ca
    obtain rfl : fa = #[] := Array.eq_empty_of_size_eq_zero h1
    obtain rfl : ca = #[] := Array.eq_empty_of_size_eq_zero h2
    exact .sc rfl
  · cases hp

theorem pures_sound {f : Nat → Value} : ∀ (cs : List AV) (ps : List PV) (o : Nat), pures cs = some ps → (∀ (j : Nat) x, cs[j]? = some x → AVR X (f (o + j)) x) →
    ps.length = cs.length ∧ ∀ (j : Nat) p, ps[j]? = some p → PVR X.im X.w (f (o + j)) p
  | [], ps, o, h, _ => by
    obtain rfl := Option.some.inj h
    exact ⟨rfl, fun j p hj => by simp at hj⟩
  | v :: r, ps, o, h, hf => by
    unfold pures at h
    split at h
    case h_2 => cases h
    rename_i p hp
    split at h
    case h_2 => cases h
    rename_i ps' hps
    obtain rfl := Option.some.inj h
    obtain ⟨i1, i2⟩ := pures_sound r ps' (o + 1) hps fun j x hj => by
      have := hf (j + 1) x hj
      rwa [show o + (j + 1) = o + 1 + j by omega] at this
    refine ⟨by simp [i1], fun j q hj => ?_⟩
    cases j with
    | zero =>
      obtain rfl := Option.some.inj hj
      exact pureOf_sound (hf 0 v rfl) hp
    | succ j =>
      have := i2 j q hj
      rwa [show o + 1 + j = o + (j + 1) by omega] at this

/-- the cells of a slice whose contents are known -/
def Source (X : Cx) (u : Value) (m : Nat) (xs : List PV) : Prop :=
  ∃ A c, u = .slice A m c ∧ (xs = [] ∨ ∃ b o, A = some ⟨b, o, none⟩ ∧ ∀ j p, xs[j]? = some p → PVR X.im X.w (rd X.w b (o + j)) p)

theorem contents_sound (hS : SR D X st) {size m : Nat} {xs : List PV} {u : Value} {a : AV} (hu : AVR X u a) (h : contents st size a = some (m, xs)) : Source X u m xs := by
  have slc : ∀ {n : Nat} {cs : List PV}, PVR X.im X.w u (.sl n cs) → Source X u n cs := by
    intro n cs hp
    cases hp with
    | sl0 => exact ⟨_, _, rfl, .inl rfl⟩
    | sl hc q1 q2 => exact ⟨_, _, rfl, .inr ⟨_, _, rfl, q2⟩⟩
  unfold contents at h
  split at h
  · obtain ⟨rfl, rfl⟩ := Prod.mk.inj (Option.some.inj h)
    exact slc (hu.sl (.inl rfl))
  · obtain ⟨rfl, rfl⟩ := Prod.mk.inj (Option.some.inj h)
    exact slc (hu.sl (.inr ⟨_, rfl⟩))
  · obtain ⟨rfl, rfl⟩ := Prod.mk.inj (Option.some.inj h)
    cases hu with | pv hp => ?_
    cases hp
    exact ⟨none, 0, rfl, .inl rfl⟩
  · rename_i b o n
    cases hu with | ls hB hc => ?_
    rename_i B c
    split at h
    case h_2 => cases h
    rename_i cs ho
    split at h
    case h_2 => cases h
    rename_i ps hps
    obtain ⟨rfl, rfl⟩ := Prod.mk.inj (Option.some.inj h)
    have hat := (((hS.obj _ _ _ ho hB).at_).drop o).take (n * size)
    obtain ⟨_, i2⟩ := pures_sound (X := X) (f := fun j => rd X.w B j) _ _ o hps fun j x hj => by
      obtain ⟨v, h1, h2, _⟩ := hat j x hj
      rw [Nat.zero_add] at h1
      have e : rd X.w B (o + j) = v := by unfold rd; rw [h1]; rfl
      rw [e]; exact h2
    exact ⟨_, _, rfl, .inr ⟨_, _, rfl, i2⟩⟩
  · cases h

theorem Source.cells {u : Value} {m size : Nat} {xs : List PV} (h : Source X u m xs) (hl : xs.length = m * size) :
    ∃ news : List Value, news.length = xs.length ∧ (∀ j p, xs[j]? = some p → PVR X.im X.w (news.getD j undef) p) ∧ (∀ v ∈ news, v.oneCell' = true) ∧
      ∀ w' : World, (∀ a, w'.cell? a = X.w.cell? a) → (Builtin.firstCells size m u).run P w' = .ok news.toArray w' := by
  obtain ⟨A, c, rfl, hx⟩ := h
  rcases hx with rfl | ⟨b, o, rfl, hp⟩
  · refine ⟨[], rfl, fun j p hj => by simp at hj, by simp, fun w' _ => ?_⟩
    have h0 : m * size = 0 := hl.symm
    cases A with
    | none => simp [Builtin.firstCells]
    | some a => simp [Builtin.firstCells, h0, loadCells, loadCellsFrom]
  · have hg : ∀ j p, xs[j]? = some p → ((List.range xs.length).map fun j => rd X.w b (o + j))[j]? = some (rd X.w b (o + j)) := fun j p hj => by
      have := (List.getElem?_eq_some_iff.1 hj).1
      simp [this]
    have hmem : ∀ v ∈ (List.range xs.length).map (fun j => rd X.w b (o + j)), ∃ j p, xs[j]? = some p ∧ v = rd X.w b (o + j) := by
      intro v hv
      simp only [List.mem_map, List.mem_range] at hv
      obtain ⟨j, hj, rfl⟩ := hv
      exact ⟨j, xs[j], List.getElem?_eq_getElem hj, rfl⟩
    refine ⟨(List.range xs.length).map fun j => rd X.w b (o + j), by simp, fun j p hj => ?_, fun v hv => ?_, fun w' hw => ?_⟩
    · simp only [List.getD, hg j p hj, Option.getD_some]; exact hp j p hj
    · obtain ⟨j, p, hj, rfl⟩ := hmem v hv
      exact (hp j p hj).one
    · refine run_firstCells_some w' size m ⟨b, o, none⟩ m c _ (by simpa using hl) fun j v hj => ?_
      have hlt : j < xs.length := by
        have := (List.getElem?_eq_some_iff.1 hj).1
        simpa using this
      rw [hg j _ (List.getElem?_eq_getElem hlt)] at hj
      obtain rfl := Option.some.inj hj
      rw [hw, add_addr]
      exact (hp j _ (List.getElem?_eq_getElem hlt)).cell

theorem Source.src {u : Value} {m size : Nat} {xs : List PV} {tx e' : TypeId} (hk : P.underlying tx = some (.slice e')) (h : Source X u m xs) (hl : xs.length = m * size) :
    ∃ news : List Value, news.length = xs.length ∧ (∀ j p, xs[j]? = some p → PVR X.im X.w (news.getD j undef) p) ∧ Src P size tx u m news X.w := by
  obtain ⟨news, h1, h2, h3, h4⟩ := h.cells (P := P) hl
  refine ⟨news, h1, h2, .inl ⟨e', hk⟩, ?_, h4 X.w fun _ => rfl, h4 X.w.drew fun _ => rfl, by rw [h1]; exact hl, h3⟩
  obtain ⟨A, c, rfl, _⟩ := h
  exact fun _ => rfl

/-- a chain moves to a new block -/
theorem newRow_chain (hS : SR D X st) {c : Ch} {n k s cap : Nat} (hm : X.mc c = some n) (hk : n < k) (vals : List Value) (ps : List PV)
    (hv : ∀ j p, ps[j]? = some p → PVR X.im X.w (vals.getD j undef) p) (hl : vals.length = ps.length) (hps : ps.length = k * s) (Z : Array Value) (hcap : cap * s ≤ vals.length + Z.size) (hkc : k ≤ cap) (e : TypeId) :
    ∃ Y, X.Le Y ∧ SR D Y (setMark st c k) ∧ AVR Y (.slice (some ⟨X.w.heap.size, 0, none⟩) k cap) (.g c k ps) ∧ Y.w = X.w.drew.alloc (.cells (vals.toArray ++ Z) e) := by
  have hh : ∀ B, B < X.w.heap.size → (X.w.drew.alloc (.cells (vals.toArray ++ Z) e)).heap[B]? = X.w.heap[B]? := fun B hB => heap_alloc_lt (w := X.w.drew) hB
  have hnewh : (X.w.drew.alloc (.cells (vals.toArray ++ Z) e)).heap[X.w.heap.size]? = some (.cells (vals.toArray ++ Z) e (0, 0)) := heap_alloc_eq (w := X.w.drew)
  have hsz : (X.w.drew.alloc (.cells (vals.toArray ++ Z) e)).heap.size = X.w.heap.size + 1 := by simp
  have hnim : ∀ j, ¬ X.im X.w.heap.size j := fun j h => by have := hS.imlt _ j h; omega
  obtain ⟨hle, hS'⟩ := hS.grow (c := c) (n := n) (k := k) hm (by omega) (w' := X.w.drew.alloc (.cells (vals.toArray ++ Z) e)) (im' := fun B j => X.im B j ∨ (B = X.w.heap.size ∧ j < ps.length)) (at_ := some (X.w.heap.size, ps.length))
    (fun B hB => by
      refine hh B ?_
      rcases hB with ⟨b, hb⟩ | ⟨c', e', _, h1, h2⟩
      · exact (hS.dom b B hb).2.2
      · exact (hS.ch c' B e' h1 h2).2.1)
    (by omega)
    (fun B j hj => ⟨.inl hj, cell_of_heap (hh B (hS.imlt B j hj))⟩)
    (fun B j hj => by
      rcases hj with hj | ⟨rfl, hj⟩
      · exact .inl hj
      · exact .inr ⟨_, rfl, hj⟩)
    (fun B e' he => by
      simp only [Option.some.injEq, Prod.mk.injEq] at he
      obtain ⟨rfl, rfl⟩ := he
      refine ⟨fun hz => by have := hS.base _ hz; omega, by omega, fun b hb => ?_, fun c' e' _ h1 h2 => ?_, fun j _ => hnim j⟩
      · have := (hS.dom b _ hb).2.2; omega
      · have := (hS.ch c' _ e' h1 h2).2.1; omega)
    (Still.alloc (a := X.w) (w := X.w.drew) ⟨rfl, rfl, rfl, Nat.le_refl _, fun _ _ => rfl⟩ hS.base _)
    (fun h => by omega) rfl
  refine ⟨_, hle, hS', ?_, rfl⟩
  have hrd : ∀ j p, ps[j]? = some p → rd (X.w.drew.alloc (.cells (vals.toArray ++ Z) e)) X.w.heap.size (0 + j) = vals.getD j undef := fun j p hj => by
    have hlt : j < vals.length := by rw [hl]; exact (List.getElem?_eq_some_iff.1 hj).1
    simp only [rd, World.cell?, hnewh, Nat.zero_add]
    rw [Array.getElem?_append_left (by simpa using hlt)]
    simp [hlt]
  refine .g (m := k) (.sl hkc (fun j p hj => .inr ⟨rfl, by have := (List.getElem?_eq_some_iff.1 hj).1; omega⟩) fun j p hj => ?_) ?_ (Nat.le_refl _) fun _ => .inr ⟨X.w.heap.size, 0, cap, _, e, s, ?_, by omega, rfl, hps, hnewh, ?_⟩
  · show PVR _ (X.w.drew.alloc (.cells (vals.toArray ++ Z) e)) _ _
    rw [hrd j p hj]
    exact (hv j p hj).mono hle.im
  · show mark (setMark st c k) c = some k
    rw [mark_setMark (by rw [← hS.mcE]; exact hm), if_pos rfl]
  · show (if c = c then _ else _) = _
    rw [if_pos rfl, Nat.zero_add]
  · simp only [Array.size_append, List.size_toArray]; omega

/-- a chain grows where it lies -/
theorem room_chain (hS : SR D X st) {c : Ch} (hok : chOk st c = true) {n k s cap B o : Nat} (hm : X.mc c = some n) (hn : n ≤ k) (news : List Value) (cs xs : List PV) {C : Array Value} {ty : TypeId}
    (hκ : X.κ c = some (B, o + cs.length)) (hB : X.w.heap[B]? = some (.cells C ty (0, 0))) (hfit : o + cap * s ≤ C.size) (hkc : k ≤ cap) (hpos : 0 < k) (hlen : (cs ++ xs).length = k * s)
    (hkn : k = n → xs = [])
    (q1 : ∀ j p, cs[j]? = some p → X.im B (o + j)) (q2 : ∀ j p, cs[j]? = some p → PVR X.im X.w (rd X.w B (o + j)) p) (hl : news.length = xs.length) (hv : ∀ j p, xs[j]? = some p → PVR X.im X.w (news.getD j undef) p) :
    ∃ Y, X.Le Y ∧ SR D Y (setMark st c k) ∧ AVR Y (.slice (some ⟨B, o, none⟩) k cap) (.g c k (cs ++ xs)) ∧
      Y.w = X.w.setRow B (C.toList.take (o + cs.length) ++ news ++ C.toList.drop (o + cs.length + news.length)).toArray := by
  have hmul : k * s ≤ cap * s := Nat.mul_le_mul_right _ hkc
  have hlen' : cs.length + xs.length = k * s := by rw [← List.length_append]; exact hlen
  have hfit' : o + cs.length + news.length ≤ C.size := by omega
  obtain ⟨c1, c2, c3, c4, c5⟩ := hS.ch c B (o + cs.length) (by rw [hm]; simp) hκ
  have hnew : (X.w.setRow B (C.toList.take (o + cs.length) ++ news ++ C.toList.drop (o + cs.length + news.length)).toArray).heap[B]? =
      some (.cells (C.toList.take (o + cs.length) ++ news ++ C.toList.drop (o + cs.length + news.length)).toArray ty (0, 0)) := setRow_heap X.w B C _ ty _ hB
  have hoth : ∀ B', B' ≠ B → (X.w.setRow B (C.toList.take (o + cs.length) ++ news ++ C.toList.drop (o + cs.length + news.length)).toArray).heap[B']? = X.w.heap[B']? := fun B' h => setRow_other X.w B B' _ h
  have hsz : (X.w.setRow B (C.toList.take (o + cs.length) ++ news ++ C.toList.drop (o + cs.length + news.length)).toArray).heap.size = X.w.heap.size := by simp [World.setRow]
  have hget1 : ∀ j, j < o + cs.length → (C.toList.take (o + cs.length) ++ news ++ C.toList.drop (o + cs.length + news.length)).toArray[j]? = C[j]? := fun j hj => by
    simp only [List.getElem?_toArray, List.append_assoc]
    rw [List.getElem?_append_left (by simp; omega), List.getElem?_take_of_lt hj]
    simp
  have hcell1 : ∀ j, j < o + cs.length → (X.w.setRow B (C.toList.take (o + cs.length) ++ news ++ C.toList.drop (o + cs.length + news.length)).toArray).cell? ⟨B, j, none⟩ = X.w.cell? ⟨B, j, none⟩ := fun j hj => by
    simp only [World.cell?, hnew, hB]
    rw [hget1 j hj]
  obtain ⟨hle, hS'⟩ := hS.grow (c := c) (n := n) (k := k) hm hn (w' := X.w.setRow B (C.toList.take (o + cs.length) ++ news ++ C.toList.drop (o + cs.length + news.length)).toArray)
    (im' := fun B' j => X.im B' j ∨ (B' = B ∧ o + cs.length ≤ j ∧ j < o + cs.length + xs.length)) (at_ := some (B, o + cs.length + xs.length))
    (fun B' hB' => hoth B' fun e => by
      subst e
      rcases hB' with ⟨b, hb⟩ | ⟨c', e', h0, h1, h2⟩
      · exact c4 b hb
      · exact h0 (c5 c' e' h1 h2))
    (by omega)
    (fun B' j hj => ⟨.inl hj, by
      by_cases e : B' = B
      · subst e
        rcases Nat.lt_or_ge j (o + cs.length) with q | q
        · exact hcell1 j q
        · exact absurd hj (c3 j q)
      · exact cell_of_heap (hoth B' e)⟩)
    (fun B' j hj => by
      rcases hj with hj | ⟨rfl, _, hj⟩
      · exact .inl hj
      · exact .inr ⟨_, rfl, hj⟩)
    (fun B' e' he => by
      simp only [Option.some.injEq, Prod.mk.injEq] at he
      obtain ⟨rfl, rfl⟩ := he
      refine ⟨c1 hok, by omega, c4, fun c' e' h0 h1 h2 => h0 (c5 c' e' h1 h2), fun j hj => c3 j (by omega)⟩)
    ⟨rfl, rfl, rfl, by omega, fun k hk => hoth k fun e => c1 hok (e ▸ hk)⟩
    (fun h => by
      obtain rfl := hkn h
      refine ⟨by rw [hκ]; simp, fun B' e' C' ty' h1 h2 => ?_⟩
      rw [hκ] at h1
      simp only [Option.some.injEq, Prod.mk.injEq] at h1
      obtain ⟨rfl, rfl⟩ := h1
      rw [hB] at h2
      simp only [Option.some.injEq, Go.Obj.cells.injEq] at h2
      obtain ⟨rfl, rfl, _⟩ := h2
      exact ⟨_, hnew, by simp; omega⟩) rfl
  refine ⟨_, hle, hS', ?_, rfl⟩
  have hrd1 : ∀ j, j < cs.length → rd (X.w.setRow B (C.toList.take (o + cs.length) ++ news ++ C.toList.drop (o + cs.length + news.length)).toArray) B (o + j) = rd X.w B (o + j) := fun j hj => by
    unfold rd
    rw [hcell1 _ (by omega)]
  have hrd2 : ∀ j, j < news.length → rd (X.w.setRow B (C.toList.take (o + cs.length) ++ news ++ C.toList.drop (o + cs.length + news.length)).toArray) B (o + (cs.length + j)) = news.getD j undef := fun j hj => by
    simp only [rd, World.cell?, hnew]
    simp only [List.getElem?_toArray, List.append_assoc]
    rw [List.getElem?_append_right (by simp; omega), List.getElem?_append_left (by simp; omega)]
    simp only [List.length_take, Array.length_toList, List.getD]
    rw [show o + (cs.length + j) - min (o + cs.length) C.size = j by omega]
    simp
  refine .g (m := k) (.sl hkc (fun j p hj => ?_) fun j p hj => ?_) ?_ (Nat.le_refl _) fun _ => .inr ⟨B, o, cap, _, ty, s, ?_, hpos, rfl, hlen, hnew, ?_⟩
  · rcases Nat.lt_or_ge j cs.length with q | q
    · rw [List.getElem?_append_left q] at hj
      exact .inl (q1 j p hj)
    · have := (List.getElem?_eq_some_iff.1 hj).1
      rw [List.length_append] at this
      exact .inr ⟨rfl, by omega, by omega⟩
  · rcases Nat.lt_or_ge j cs.length with q | q
    · rw [List.getElem?_append_left q] at hj
      show PVR _ _ (rd (X.w.setRow _ _) _ _) _
      rw [hrd1 j q]
      exact (q2 j p hj).mono hle.im
    · have h1 := (List.getElem?_eq_some_iff.1 hj).1
      rw [List.length_append] at h1
      rw [List.getElem?_append_right q] at hj
      show PVR _ _ (rd (X.w.setRow _ _) _ _) _
      have := hrd2 (j - cs.length) (by omega)
      rw [show cs.length + (j - cs.length) = j by omega] at this
      rw [this]
      exact (hv _ p hj).mono hle.im
  · show mark (setMark st c k) c = some k
    rw [mark_setMark (by rw [← hS.mcE]; exact hm), if_pos rfl]
  · show (if c = c then _ else _) = _
    rw [if_pos rfl, List.length_append, Nat.add_assoc]
  · simp only [List.size_toArray, List.length_append, List.length_take, List.length_drop, Array.length_toList]; omega

theorem append_chain (hS : SR D X st) {t tx ty e e' : TypeId} {i : TypeInfo} {z : Value} (ht : P.underlying t = some (.slice e)) (htx : P.underlying tx = some (.slice e')) (hi : P.info? e = some i) (hz : i.zero = some z)
    (hzs : z.cells.size = i.size) {u ux : Value} {c : Ch} (hok : chOk st c = true) {n m : Nat} {cs xs : List PV} (hu : AVR X u (.g c n cs)) (hm : X.mc c = some n) (hsrc : Source X ux m xs) (hxl : xs.length = m * i.size) (hcl : cs.length = n * i.size)
    (hb : (n + m) * i.bytes ≤ 70368744177664) (hn : n + m ≤ 70368744177664) : Done D X P (Builtin.append_ #[t, tx] ty #[u, ux]) (.g c (n + m) (cs ++ xs)) (setMark st c (n + m)) := by
  obtain ⟨news, n1, n2, n3⟩ := hsrc.src (P := P) htx hxl
  cases hu with | g hp hm' _ hr => ?_
  rw [hm] at hm'
  obtain rfl := Option.some.inj hm'
  have hlen : (cs ++ xs).length = (n + m) * i.size := by rw [List.length_append, hcl, hxl, Nat.add_mul]
  have grow : ∀ (base : Option Addr) (cap : Nat) (olds : List Value), u = .slice base n cap → olds.length = cs.length → (∀ j p, cs[j]? = some p → PVR X.im X.w (olds.getD j undef) p) →
      (Builtin.firstCells i.size n u).run P X.w.drew = .ok olds.toArray X.w.drew → n ≤ cap → cap < n + m → Done D X P (Builtin.append_ #[t, tx] ty #[u, ux]) (.g c (n + m) (cs ++ xs)) (setMark st c (n + m)) := by
    intro base cap olds hu ho hop hof hnc hcap
    subst hu
    have hrun := run_append_grow_src (P := P) X.w t tx ty e i z ht hi hz base n cap olds hof ux m news n3 hcap (by omega) (growslice_fits hcap (by omega))
    have hge := grownCap_ge X.w (n + m) cap e
    obtain ⟨Y, y1, y2, y3, y4⟩ := newRow_chain hS (k := n + m) (s := i.size) (cap := grownCap X.w (n + m) cap e) hm (by omega) (olds ++ news) (cs ++ xs) (fun j p hj => by
      rcases Nat.lt_or_ge j cs.length with q | q
      · rw [List.getElem?_append_left q] at hj
        have := hop j p hj
        simpa only [List.getD, List.getElem?_append_left (show j < olds.length by omega)] using this
      · rw [List.getElem?_append_right q] at hj
        have := n2 _ p hj
        simp only [List.getD, List.getElem?_append_right (show olds.length ≤ j by omega), ho]
        exact this) (by simp [ho, n1]) hlen (Builtin.zeroCells z.cells (grownCap X.w (n + m) cap e - (n + m))) (by
      rw [size_zeroCells, hzs, List.length_append, ho, n1, ← List.length_append, hlen, ← Nat.add_mul]
      exact Nat.mul_le_mul_right _ (by omega)) hge e
    exact ⟨Y, _, y1, y2, y3, by rw [y4]; exact hrun⟩
  rcases hr rfl with ⟨hκ, rfl, rfl, rfl⟩ | ⟨B, o, cap, C, tyB, s, hκ, hpos, rfl, hs, hB, hfit⟩
  · rcases Nat.eq_zero_or_pos m with rfl | hmp
    · have hx : xs = [] := List.eq_nil_of_length_eq_zero (by omega)
      subst hx
      obtain ⟨hle, hS'⟩ := hS.grow (c := c) (n := 0) (k := 0) hm (Nat.le_refl _) (w' := X.w) (im' := X.im) (at_ := none) (fun _ _ => rfl) (Nat.le_refl _) (fun _ _ h => ⟨h, rfl⟩) (fun _ _ h => .inl h)
        (fun _ _ h => by cases h) (Still.refl _ _) (fun _ => ⟨hκ.symm, fun _ _ C _ _ hh => ⟨C, hh, rfl⟩⟩) rfl
      refine ⟨_, .slice none 0 0, hle, hS', .g (m := 0) .sl0 ?_ (Nat.le_refl _) fun _ => .inl ⟨?_, rfl, rfl, rfl⟩, ?_⟩
      · show mark (setMark st c 0) c = some 0
        rw [mark_setMark (by rw [← hS.mcE]; exact hm), if_pos rfl]
      · show (if c = c then none else X.κ c) = none
        rw [if_pos rfl]
      · simp [Builtin.append_, run_underlying ht, run_underlying htx, sizeOf, typeInfo, hi, n3.len, n3.cells]
    · exact grow none 0 [] rfl rfl (fun j p hj => by simp at hj) (run_firstCells_none _ _ _ _ _) (Nat.le_refl _) (by omega)
  · have hsi : s = i.size := by
      rw [hcl] at hs
      exact (Nat.eq_of_mul_eq_mul_left hpos hs).symm
    subst hsi
    have hq : n ≤ cap ∧ (∀ j p, cs[j]? = some p → X.im B (o + j)) ∧ ∀ j p, cs[j]? = some p → PVR X.im X.w (rd X.w B (o + j)) p := by
      cases hp with
      | sl0 => omega
      | sl hc q1 q2 => exact ⟨hc, q1, q2⟩
    obtain ⟨hnc, q1, q2⟩ := hq
    by_cases hroom : n + m ≤ cap
    · have hmul : (n + m) * i.size ≤ cap * i.size := Nat.mul_le_mul_right _ hroom
      rw [List.length_append] at hlen
      have hst := run_storeCells_at P B (o + cs.length) tyB news 0 C X.w hB (by omega) n3.one
      simp only [Nat.add_zero] at hst
      obtain ⟨Y, y1, y2, y3, y4⟩ := room_chain hS hok (k := n + m) (s := i.size) (cap := cap) hm (by omega) news cs xs hκ hB hfit hroom (by omega) (by rw [List.length_append]; exact hlen)
        (fun h => List.eq_nil_of_length_eq_zero (by rw [hxl, show m = 0 by omega, Nat.zero_mul])) q1 q2 n1 n2
      refine ⟨Y, _, y1, y2, y3, ?_⟩
      rw [y4]
      have ha : (⟨B, o, none⟩ : Addr).add (n * i.size) = ⟨B, o + cs.length, none⟩ := by rw [add_addr, hcl]
      simp [Builtin.append_, run_underlying ht, run_underlying htx, sizeOf, typeInfo, hi, n3.len, hroom, n3.cells, ha, hst]
    · refine grow _ cap ((List.range cs.length).map fun j => rd X.w B (o + j)) rfl (by simp) (fun j p hj => ?_) ?_ hnc (by omega)
      · have := (List.getElem?_eq_some_iff.1 hj).1
        simp only [List.getD, List.getElem?_map, List.getElem?_range this, Option.map_some, Option.getD_some]
        exact q2 j p hj
      · refine run_firstCells_some X.w.drew i.size n ⟨B, o, none⟩ n cap _ (by simpa using hcl) fun j v hj => ?_
        have hlt : j < cs.length := by
          have := (List.getElem?_eq_some_iff.1 hj).1
          simpa using this
        simp only [List.getElem?_map, List.getElem?_range hlt, Option.map_some, Option.some.injEq] at hj
        subst hj
        rw [add_addr]
        exact (q2 j _ (List.getElem?_eq_getElem hlt)).cell

theorem Source.mono {Y : Cx} (h : X.Le Y) {u : Value} {m : Nat} {xs : List PV} (hs : Source X u m xs) (hi : ∀ b o, u = .slice (some ⟨b, o, none⟩) m (match u with | .slice _ _ c => c | _ => 0) → ∀ j p, xs[j]? = some p → Y.w.cell? ⟨b, o + j, none⟩ = X.w.cell? ⟨b, o + j, none⟩) : Source Y u m xs := by
  obtain ⟨A, c, rfl, hx⟩ := hs
  refine ⟨A, c, rfl, ?_⟩
  rcases hx with rfl | ⟨b, o, rfl, hp⟩
  · exact .inl rfl
  · refine .inr ⟨b, o, rfl, fun j p hj => ?_⟩
    have := hi b o rfl j p hj
    have e : rd Y.w b (o + j) = rd X.w b (o + j) := by unfold rd; rw [this]
    rw [e]; exact (hp j p hj).mono h.im

theorem rowType_some {t e : TypeId} (h : rowType P t = some e) : P.underlying t = some (.slice e) ∧ ∃ i z, P.info? e = some i ∧ i.zero = some z ∧ z.cells.size = i.size ∧ P.cellsOf e = i.size := by
  unfold rowType at h
  split at h
  case h_2 => cases h
  rename_i e0 he
  split at h
  case h_2 => cases h
  rename_i z hz
  split at h
  case isFalse => cases h
  rename_i hl
  obtain rfl := Option.some.inj h
  obtain ⟨i, v, hi, hv, rfl⟩ := zeroOf_some hz
  have hc : P.cellsOf e0 = i.size := by simp [Program.cellsOf, hi]
  refine ⟨he, i, v, hi, hv, ?_, hc⟩
  have := eq_of_beq hl
  simpa [hc] using this

theorem append_sound (hS : SR D X st) {t tx ty e' : TypeId} (htx : P.underlying tx = some (.slice e')) {u ux : Value} {s x v : AV} {st' : St} (hu : AVR X u s) (hux : AVR X ux x) (h : append P st t s x = some (v, st')) :
    Done D X P (Builtin.append_ #[t, tx] ty #[u, ux]) v st' := by
  unfold append at h
  split at h
  case h_2 => cases h
  rename_i e he
  obtain ⟨ht, i, z, hi, hz, hzs, hc⟩ := rowType_some he
  have hby : P.bytesOf e = i.bytes := by simp [Program.bytesOf, hi]
  rw [hc, hby] at h
  split at h
  case h_2 => cases h
  rename_i m xs hx
  have hsrc := contents_sound hS hux hx
  split at h
  case isFalse => cases h
  rename_i hxl
  have hxl := eq_of_beq hxl
  split at h
  · rename_i c n cs
    split at h
    case isFalse => cases h
    rename_i hb
    simp only [Bool.and_eq_true, decide_eq_true_eq] at hb
    obtain ⟨⟨⟨⟨b1, b2⟩, b3⟩, b4⟩, b5⟩ := hb
    obtain ⟨rfl, rfl⟩ := Prod.mk.inj (Option.some.inj h)
    exact append_chain hS ht htx hi hz hzs b2 hu (by rw [hS.mcE]; exact eq_of_beq b1) hsrc hxl (eq_of_beq b3) b4 b5
  · split at h
    case isFalse => cases h
    rename_i hb
    simp only [Bool.and_eq_true, decide_eq_true_eq] at hb
    obtain ⟨rfl, rfl⟩ := Prod.mk.inj (Option.some.inj h)
    obtain ⟨hS1, hle1⟩ := hS.chains [0]
    have hu0 : u = .slice none 0 0 := by
      cases hu with | pv hp => ?_
      cases hp; rfl
    subst hu0
    have hg := AVR.newChain hS [0] 0 rfl
    have hm0 : (X.chains st [0]).mc (.v (st.ch.length + 0)) = some 0 := by
      show mark { st with ch := st.ch ++ [0] } (.v (st.ch.length + 0)) = some 0
      simp [mark]
    obtain ⟨Y, u', y1, y2, y3, y4⟩ := append_chain (ty := ty) (cs := []) (xs := xs) hS1 ht htx hi hz hzs (by simpa [chOk] using hb.2) hg hm0 (hsrc.mono hle1 fun _ _ _ _ _ _ => rfl) hxl (by simp) (by simpa using hb.1.1) (by simpa using hb.1.2)
    refine ⟨Y, u', hle1.trans y1, ?_, by simpa using y3, y4⟩
    have e : setMark { st with ch := st.ch ++ [0] } (.v (st.ch.length + 0)) (0 + m) = { st with ch := st.ch ++ [m] } := by simp [setMark]
    rw [← e]; exact y2
  · cases h

end
end Go.TM
