/- The tree machine: stores, composite values, make. -/
import Derived.Test.YtjoajdlnfgfjgaaTmH
namespace Go.TM
open Go.RowKit

section
variable {P : Program} {D : Bs} {X : Cx} {st : St}

theorem down_sound {bm cm : Nat} {u : Value} {v : AV} (h : AVR X u v) : AVR X u (down bm cm v) := by
  unfold down
  split
  · split
    · exact h
    · exact .pv (h.sl (.inr ⟨_, rfl⟩))
  · split
    · exact h
    · exact .bad

theorem splice_get {cs vs : List AV} {o j : Nat} (h : o + vs.length ≤ cs.length) : (splice cs o vs)[j]? = if j < o then cs[j]? else if j < o + vs.length then vs[j - o]? else cs[j]? := by
  unfold splice
  rw [List.append_assoc, List.getElem?_append, List.getElem?_append]
  simp only [List.length_take, Nat.min_eq_left (show o ≤ cs.length by omega)]
  by_cases h1 : j < o
  · simp [h1]
  · simp only [h1, if_false]
    by_cases h2 : j < o + vs.length
    · rw [if_pos (by omega), if_pos h2]
    · rw [if_neg (by omega), if_neg h2, List.getElem?_drop]
      congr 1; omega

theorem splice_len {cs vs : List AV} {o : Nat} (h : o + vs.length ≤ cs.length) : (splice cs o vs).length = cs.length := by
  unfold splice; simp; omega

theorem splice_getV {cs vs : List Value} {o j : Nat} (h : o + vs.length ≤ cs.length) : (cs.take o ++ vs ++ cs.drop (o + vs.length))[j]? = if j < o then cs[j]? else if j < o + vs.length then vs[j - o]? else cs[j]? := by
  rw [List.append_assoc, List.getElem?_append, List.getElem?_append]
  simp only [List.length_take, Nat.min_eq_left (show o ≤ cs.length by omega)]
  by_cases h1 : j < o
  · simp [h1]
  · simp only [h1, if_false]
    by_cases h2 : j < o + vs.length
    · rw [if_pos (by omega), if_pos h2]
    · rw [if_neg (by omega), if_neg h2, List.getElem?_drop]
      congr 1; omega

theorem mark_setCells {b : Nat} {cs cs' : List AV} (h : st.h[b]? = some (.cells cs)) : mark (setH st b (.cells cs')) = mark st := by
  funext c
  cases c with
  | v k => rfl
  | e d born =>
    simp only [mark, setH]
    by_cases hd : b = d
    · subst hd
      rw [List.getElem?_set_self (List.getElem?_eq_some_iff.1 h).1, h]
    · rw [List.getElem?_set_ne hd]

theorem store_sound (hS : SR D X st) {t : TypeId} {a v : AV} {ua uv : Value} {st' : St} (ha : AVR X ua a) (hv : AVR X uv v) (h : store P st t a v = some st') :
    ∃ Y, X.Le Y ∧ SR D Y st' ∧ (Instr.storeAt t ua uv).run P X.w = .ok () Y.w := by
  unfold store at h
  split at h
  case h_2 => cases h
  rename_i b o
  cases ha with | lp hB => ?_
  rename_i B
  split at h
  case h_2 => cases h
  rename_i cs ho
  split at h
  case isFalse => cases h
  rename_i hc
  simp only [Bool.and_eq_true, decide_eq_true_eq, beq_iff_eq] at hc
  obtain ⟨⟨⟨⟨hfl, hk⟩, hlen⟩, hone⟩, hfit⟩ := hc
  obtain ⟨d, hd⟩ := known_some hk
  have hparts : uv.cells.size = (stored st b v).length ∧ (∀ j x, (stored st b v)[j]? = some x → AVR X (uv.cells.getD j undef) x) ∧ ∀ j, j < (stored st b v).length → (uv.cells.getD j undef).oneCell' = true := by
    unfold stored at hone ⊢
    cases hb : limit st.ms b with
    | some mk =>
      rw [hb] at hone
      simp only at hone ⊢
      have h1' : (parts v).all one = true := by
        rw [List.all_eq_true] at hone ⊢
        intro x hx
        have := hone _ (List.mem_map_of_mem hx)
        unfold down at this
        cases x <;> first | rfl | (simp only at this; split at this <;> first | exact this | cases this)
      obtain ⟨a1, a2, a3⟩ := parts_sound hv h1'
      refine ⟨by simpa using a1, fun j x hj => ?_, fun j hj => a3 j (by simpa using hj)⟩
      rw [List.getElem?_map] at hj
      cases hp : (parts v)[j]? with
      | none => rw [hp] at hj; cases hj
      | some y =>
        rw [hp] at hj
        obtain rfl := Option.some.inj hj
        exact down_sound (a2 j y hp)
    | none =>
      rw [hb] at hone
      exact parts_sound hv hone
  generalize stored st b v = vs at *
  obtain ⟨a1, a2, a3⟩ := hparts
  obtain rfl := Option.some.inj h
  obtain ⟨C, ty, h1, h2, h3, h4⟩ := hS.obj _ _ _ ho hB
  have hmark := mark_setCells (cs' := splice cs o vs) ho
  have hallone : ∀ x ∈ uv.cells.toList, x.oneCell' = true := by
    intro x hx
    obtain ⟨j, hj⟩ := List.getElem?_of_mem hx
    have hlt : j < uv.cells.size := by
      have := (List.getElem?_eq_some_iff.1 hj).1
      simpa using this
    have := a3 j (by omega)
    rwa [show uv.cells.getD j undef = x by
      have : uv.cells[j]? = some x := by simpa using hj
      simp [Array.getD_eq_getD_getElem?, this]] at this
  have hrun := run_storeCells_at P B o ty uv.cells.toList 0 C X.w h1 (by simp; omega) hallone
  simp only [Nat.add_zero] at hrun
  have hlen' : uv.cells.toList.length = vs.length := by simpa using a1
  generalize hC' : (C.toList.take o ++ uv.cells.toList ++ C.toList.drop (o + uv.cells.toList.length)).toArray = C' at hrun
  have hget : ∀ j, C'[j]? = if j < o then C[j]? else if j < o + vs.length then uv.cells[j - o]? else C[j]? := by
    intro j
    rw [← hC']
    have := splice_getV (cs := C.toList) (vs := uv.cells.toList) (o := o) (j := j) (by simp; omega)
    simp only [List.getElem?_toArray]
    rw [this, hlen']
    simp
  have hsize : C'.size = C.size := by rw [← hC']; simp; omega
  have hgetD : ∀ j, C'.getD j undef = if j < o then C.getD j undef else if j < o + vs.length then uv.cells.getD (j - o) undef else C.getD j undef := by
    intro j
    simp only [Array.getD_eq_getD_getElem?, hget j]
    split
    · rfl
    · split <;> rfl
  have hnew := setRow_heap X.w B C C' ty (0, 0) h1
  have hset := hS.set (a := .cells (splice cs o vs)) (w' := X.w.setRow B C') hfl hB (fun k hk => setRow_other X.w B k C' hk) (setRow_size _ _ _) rfl rfl rfl
    (fun c m hm => ⟨m, by rw [hmark, ← hS.mcE]; exact hm, Nat.le_refl _⟩) (by
      have hle := hS.leSet (mc' := mark (setH st b (.cells (splice cs o vs)))) (w' := X.w.setRow B C') hB (fun k hk => setRow_other X.w B k C' hk) (fun c m hm => ⟨m, by rw [hmark, ← hS.mcE]; exact hm, Nat.le_refl _⟩)
      refine ⟨C', ty, hnew, by rw [splice_len hfit]; omega, fun j x hj => ?_, fun j hj => ?_⟩
      · rw [splice_get hfit] at hj
        rw [hgetD]
        split
        · rename_i q; rw [if_pos q] at hj; exact (h3 j x hj).mono hle
        · rename_i q
          rw [if_neg q] at hj
          split
          · rename_i q2; rw [if_pos q2] at hj; exact (a2 _ x hj).mono hle
          · rename_i q2; rw [if_neg q2] at hj; exact (h3 j x hj).mono hle
      · rw [splice_len hfit] at hj
        rw [hgetD]
        split
        · exact h4 j hj
        · split
          · exact a3 _ (by omega)
          · exact h4 j hj)
  refine ⟨_, hS.leSet hB (fun k hk => setRow_other X.w B k C' hk) (fun c m hm => ⟨m, by rw [hmark, ← hS.mcE]; exact hm, Nat.le_refl _⟩), hset, ?_⟩
  have hsz : uv.cells.size = P.cellsOf t := by omega
  simp [Instr.storeAt, Instr.sureAddr, storeVar, run_sizeOf' hd, hsz, hrun]

theorem foldl_splice : ∀ (l : List Value) (o : Nat) (C : Array Value), o + l.length ≤ C.size →
    ((l.zipIdx 0).foldl (fun (cs : Array Value) (x : Value × Nat) => cs.setIfInBounds (o + x.2) x.1) C).toList = C.toList.take o ++ l ++ C.toList.drop (o + l.length) := by
  have gen : ∀ (l : List Value) (k o : Nat) (C : Array Value), o + k + l.length ≤ C.size →
      ((l.zipIdx k).foldl (fun (cs : Array Value) (x : Value × Nat) => cs.setIfInBounds (o + x.2) x.1) C).toList = C.toList.take (o + k) ++ l ++ C.toList.drop (o + k + l.length) := by
    intro l
    induction l with
    | nil => intro k o C _; simp
    | cons v r ih =>
      intro k o C h
      simp only [List.length_cons] at h
      rw [List.zipIdx_cons, List.foldl_cons, ih (k + 1) o _ (by simp; omega)]
      have e := list_seg_step C.toList (o + k) v r (by simp; omega)
      simpa [Array.toList_setIfInBounds, Nat.add_assoc] using e
  intro l o C h
  simpa using gen l 0 o C (by omega)

/-- the cells of X that stand for those of the world, for some reading of them -/
def Cells (X : Cx) (C : List Value) (cs : List AV) : Prop := C.length = cs.length ∧ (∀ (j : Nat) x, cs[j]? = some x → AVR X (C.getD j undef) x) ∧ ∀ j, j < cs.length → (C.getD j undef).oneCell' = true

theorem Cells.splice {C V : List Value} {cs vs : List AV} {o : Nat} (h : Cells X C cs) (k : Cells X V vs) (hf : o + vs.length ≤ cs.length) :
    Cells X (C.take o ++ V ++ C.drop (o + V.length)) (splice cs o vs) := by
  have hl : o + V.length ≤ C.length := by rw [h.1, k.1]; exact hf
  have hg : ∀ j, (C.take o ++ V ++ C.drop (o + V.length)).getD j undef = if j < o then C.getD j undef else if j < o + vs.length then V.getD (j - o) undef else C.getD j undef := by
    intro j
    simp only [List.getD]
    rw [splice_getV hl, k.1]
    split
    · rfl
    · split <;> rfl
  refine ⟨?_, fun j x hj => ?_, fun j hj => ?_⟩
  · rw [splice_len hf]
    have h1 := h.1
    simp only [List.length_append, List.length_take, List.length_drop]
    omega
  · rw [hg]
    rw [splice_get hf] at hj
    split
    · rename_i q; rw [if_pos q] at hj; exact h.2.1 j x hj
    · rename_i q
      rw [if_neg q] at hj
      split
      · rename_i q2; rw [if_pos q2] at hj; exact k.2.1 _ x hj
      · rename_i q2; rw [if_neg q2] at hj; exact h.2.1 j x hj
  · rw [splice_len hf] at hj
    rw [hg]
    split
    · exact h.2.2 j hj
    · split
      · exact k.2.2 _ (by omega)
      · exact h.2.2 j hj

theorem Cells.parts {u : Value} {v : AV} (hu : AVR X u v) (h1 : (parts v).all one = true) : Cells X u.cells.toList (parts v) := by
  obtain ⟨a1, a2, a3⟩ := parts_sound hu h1
  have e : ∀ j, u.cells.toList.getD j undef = u.cells.getD j undef := fun j => by simp [Array.getD_eq_getD_getElem?, List.getD]
  exact ⟨by simpa using a1, fun j x hj => by rw [e]; exact a2 j x hj, fun j hj => by rw [e]; exact a3 j hj⟩

theorem fill_sound {place : Nat → Option (Nat × Nat)} {offs : Nat → Option (Nat × Nat)} : ∀ (ps : List (Nat × AV)) (us : List (Nat × Value)) (cs cs' : List AV) (C : Array Value),
    (∀ (i o n : Nat), offs i = some (o, n) → place i = some (o, n)) → us.length = ps.length → (∀ (j : Nat) p q, ps[j]? = some p → us[j]? = some q → q.1 = p.1 ∧ AVR X q.2 p.2) →
    Cells X C.toList cs → fillP offs cs ps = some cs' → ∃ C' : Array Value, Instr.fill place C us = some C' ∧ Cells X C'.toList cs'
  | [], [], cs, cs', C, _, _, _, hC, h => by
    obtain rfl := Option.some.inj h
    exact ⟨C, rfl, hC⟩
  | [], _ :: _, _, _, _, _, hl, _, _, _ => by simp at hl
  | _ :: _, [], _, _, _, _, hl, _, _, _ => by simp at hl
  | (i, v) :: ps, (i', u) :: us, cs, cs', C, hp, hl, hr, hC, h => by
    obtain ⟨hi, hv⟩ := hr 0 (i, v) (i', u) rfl rfl
    simp only at hi hv
    subst hi
    unfold fillP at h
    cases ho : offs i' with
    | none => rw [ho] at h; cases h
    | some x =>
      obtain ⟨o, n⟩ := x
      rw [ho] at h
      simp only at h
      split at h
      case isFalse => cases h
      rename_i hc
      obtain ⟨h1, h2, h3⟩ := hc
      have hk := Cells.parts hv h3
      have hsz : u.cells.size = n := by have := hk.1; simp at this; omega
      have hCs : C.size = cs.length := by have := hC.1; simpa using this
      have hfold := foldl_splice u.cells.toList o C (by simp; omega)
      have e : Instr.fill place C ((i', u) :: us) = Instr.fill place (u.cells.zipIdx.foldl (fun cs (c, j) => cs.setIfInBounds (o + j) c) C) us := by
        rw [Instr.fill, hp i' o n ho]
        simp only
        rw [if_neg]
        simp only [hsz, ne_eq, not_true_eq_false, decide_false, Bool.false_or, decide_eq_true_eq]
        simp; omega
      have e2 : (u.cells.zipIdx.foldl (fun (cs : Array Value) (x : Value × Nat) => cs.setIfInBounds (o + x.2) x.1) C).toList = C.toList.take o ++ u.cells.toList ++ C.toList.drop (o + u.cells.toList.length) := by
        rw [← hfold, ← Array.foldl_toList, Array.toList_zipIdx]
      have hC2 : Cells X (u.cells.zipIdx.foldl (fun (cs : Array Value) (x : Value × Nat) => cs.setIfInBounds (o + x.2) x.1) C).toList (TM.splice cs o (TM.parts v)) := by
        rw [e2]
        exact hC.splice hk (by omega)
      obtain ⟨C', r1, r2⟩ := fill_sound ps us _ cs' _ hp (by simpa using hl) (fun j p q h1 h2 => hr (j + 1) p q h1 h2) hC2 h
      exact ⟨C', e.trans r1, r2⟩

theorem Cells.mono {X Y : Cx} (hle : X.Le Y) {C : List Value} {cs : List AV} (h : Cells X C cs) : Cells Y C cs := ⟨h.1, fun j x hj => (h.2.1 j x hj).mono hle, h.2.2⟩

theorem Cells.const (X : Cx) {z : List Value} (h : z.all scalar = true) : Cells X z (z.map ofConst) := by
  refine ⟨by simp, fun j x hj => ?_, fun j hj => ?_⟩
  · rw [List.getElem?_map] at hj
    cases hz : z[j]? with
    | none => rw [hz] at hj; cases hj
    | some v =>
      rw [hz] at hj
      obtain rfl := Option.some.inj hj
      simp only [List.getD, hz, Option.getD_some]
      exact ofConst_sound v
  · have hj' : j < z.length := by simpa using hj
    simp only [List.getD, List.getElem?_eq_getElem hj', Option.getD_some]
    exact scalar_one (List.all_eq_true.1 h _ (List.getElem_mem hj'))

theorem Cells.append {C D : List Value} {cs ds : List AV} (h : Cells X C cs) (k : Cells X D ds) : Cells X (C ++ D) (cs ++ ds) := by
  have hg : ∀ j, (C ++ D).getD j undef = if j < cs.length then C.getD j undef else D.getD (j - cs.length) undef := by
    intro j
    simp only [List.getD, List.getElem?_append, h.1]
    split <;> rfl
  refine ⟨by simp [h.1, k.1], fun j x hj => ?_, fun j hj => ?_⟩
  · rw [hg]
    rw [List.getElem?_append] at hj
    split
    · rename_i q; rw [if_pos q] at hj; exact h.2.1 j x hj
    · rename_i q; rw [if_neg q] at hj; exact k.2.1 _ x hj
  · rw [hg]
    simp only [List.length_append] at hj
    split
    · exact h.2.2 j ‹_›
    · exact k.2.2 _ (by omega)

def repV (z : List Value) : Nat → List Value
  | 0 => []
  | n + 1 => z ++ repV z n

theorem Cells.rep {z : List Value} {cs : List AV} (h : Cells X z cs) : ∀ n, Cells X (repV z n) (rep cs n)
  | 0 => ⟨rfl, fun j x hj => by simp [TM.rep] at hj, fun j hj => by simp [TM.rep] at hj⟩
  | n + 1 => h.append (h.rep n)

theorem repV_len (z : List Value) : ∀ n, (repV z n).length = n * z.length
  | 0 => by simp [repV]
  | n + 1 => by simp [repV, repV_len z n, Nat.succ_mul, Nat.add_comm]

theorem repV_get (z : List Value) (hz : 0 < z.length) : ∀ (n j : Nat), j < n * z.length → (repV z n)[j]? = z[j % z.length]?
  | 0, j, h => by omega
  | n + 1, j, h => by
    simp only [repV, List.getElem?_append]
    split
    · rename_i q; rw [Nat.mod_eq_of_lt q]
    · rename_i q
      rw [Nat.succ_mul] at h
      rw [repV_get z hz n (j - z.length) (by omega)]
      congr 1
      exact (Nat.mod_eq_sub_mod (by omega)).symm

theorem madeCells_eq (z : Array Value) (hz : 0 < z.size) (n : Nat) : (madeCells z (n * z.size)).toList = repV z.toList n := by
  apply List.ext_getElem?
  intro j
  simp only [madeCells, Array.toList_map, Array.toList_range, List.getElem?_map]
  by_cases hj : j < n * z.size
  · rw [repV_get z.toList (by simpa using hz) n j (by simpa using hj)]
    have hm : j % z.size < z.size := Nat.mod_lt _ hz
    simp [hj, hm]
  · rw [List.getElem?_eq_none (l := repV z.toList n) (by rw [repV_len]; simp; omega)]
    simp
    omega

theorem structOffs_sound {t : TypeId} {fs : Array Field} {places : Array (Nat × Nat)} (hd : P.underlying t = some (.struct fs))
    (hp : ∀ (i : Nat) f, fs[i]? = some f → places[i]? = some (f.offset, P.cellsOf f.type)) (i o n : Nat) (h : structOffs P t i = some (o, n)) : places[i]? = some (o, n) := by
  unfold structOffs at h
  rw [hd] at h
  simp only at h
  split at h
  · rename_i f hf
    obtain ⟨rfl, rfl⟩ := Prod.mk.inj (Option.some.inj h)
    exact hp i f hf
  · cases h

theorem run_places' (w : World) : ∀ (fs : List Field), (∀ f ∈ fs, ∃ i, P.info? f.type = some i) → (fs.mapM fun f => Prod.mk f.offset <$> sizeOf f.type : Sem _).run P w = .ok (fs.map fun f => (f.offset, P.cellsOf f.type)) w
  | [], _ => by simp
  | f :: fs, h => by
    obtain ⟨i, hi⟩ := h f (by simp)
    have hs : (sizeOf f.type).run P w = .ok (P.cellsOf f.type) w := run_sizeOf w hi
    simp [List.mapM_cons, hs, run_places' w fs fun g hg => h g (by simp [hg])]

theorem opds_sound {σ : Slots} {a : Act} (hσ : SlotR X σ a.tmps) (x : Operand) : AVR X (a.eval x) (opd σ x) := by
  cases x with
  | tmp t => exact hσ t
  | const v => exact ofConst_sound v
  | global g => exact .bad
  | func f => exact .fn rfl rfl (fun j x h => by simp at h) (fun j x h => by simp at h)

theorem build_sound (hS : SR D X st) {σ : Slots} {a : Act} (hσ : SlotR X σ a.tmps) {t : TypeId} {ps : Array (Nat × Operand)} {v : AV} {st' : St} (hf : fieldsKnown P t = true)
    (h : build P σ st t ps.toList = some (v, st')) : Done D X P (Instr.build t (ps.map fun (i, x) => (i, a.eval x))) v st' := by
  unfold build at h
  split at h
  case h_2 => cases h
  rename_i z hz
  split at h
  case isFalse => cases h
  rename_i hsc
  split at h
  case h_2 => cases h
  rename_i cs hfill
  obtain ⟨rfl, rfl⟩ := Prod.mk.inj (Option.some.inj h)
  obtain ⟨it, zv, hi, hzv, rfl⟩ := zeroOf_some hz
  have hC0 := Cells.const X hsc
  have hzr : (zeroValue t).run P X.w = .ok zv X.w := by simp [zeroValue, typeInfo, hi, hzv]
  have hlen : (ps.map fun (i, x) => (i, a.eval x)).toList.length = (ps.toList.map fun (i, x) => (i, opd σ x)).length := by simp
  have hrel : ∀ (j : Nat) p q, (ps.toList.map fun (i, x) => (i, opd σ x))[j]? = some p → (ps.map fun (i, x) => (i, a.eval x)).toList[j]? = some q → q.1 = p.1 ∧ AVR X q.2 p.2 := by
    intro j p q hp hq
    simp only [Array.toList_map, List.getElem?_map] at hp hq
    cases hx : ps.toList[j]? with
    | none => rw [hx] at hp; cases hp
    | some y =>
      obtain ⟨i, x⟩ := y
      rw [hx] at hp hq
      obtain rfl := Option.some.inj hp
      obtain rfl := Option.some.inj hq
      exact ⟨rfl, opds_sound hσ x⟩
  have finish : ∀ C' : Array Value, Cells X C'.toList cs → (Instr.build t (ps.map fun (i, x) => (i, a.eval x))).run P X.w = .ok (.agg C') X.w →
      Done D X P (Instr.build t (ps.map fun (i, x) => (i, a.eval x))) (.agg (openNil cs st.ch.length)) { st with ch := st.ch ++ zeros (countA cs) } := by
    intro C' hC' hrun
    obtain ⟨hS1, hle1⟩ := hS.chains (zeros (countA cs))
    have hC1 := hC'.mono hle1
    obtain ⟨o1, o2⟩ := openNil_sound (Y := X.chains st (zeros (countA cs))) (fun j => C'.toList.getD j undef) cs st.ch.length 0 (chains_zero X st (countA cs)) (fun j x hj => by
      rw [Nat.zero_add]; exact hC1.2.1 j x hj)
    have e : ∀ j, C'.getD j undef = C'.toList.getD j undef := fun j => by simp [Array.getD_eq_getD_getElem?, List.getD]
    refine ⟨_, _, hle1, hS1, .agg (by rw [o1]; simpa using hC1.1) (fun j x hj => ?_) (fun j hj => ?_), hrun⟩
    · have := o2 j x hj
      rw [Nat.zero_add] at this
      rw [e]; exact this
    · rw [o1] at hj
      rw [e]; exact hC1.2.2 j hj
  unfold fieldsKnown at hf
  split at hf
  · rename_i fs hd
    have hfs : ∀ f ∈ fs.toList, ∃ i, P.info? f.type = some i := by
      intro f hm
      obtain ⟨d, hd⟩ := known_some (List.all_eq_true.1 hf f hm)
      exact underlying_info hd
    have hpl := run_places' (P := P) X.w fs.toList hfs
    obtain ⟨C', r1, r2⟩ := fill_sound (place := ((fs.toList.map fun f => (f.offset, P.cellsOf f.type)).toArray[·]?)) _ _ _ _ zv.cells (structOffs_sound hd (fun i f hfi => by
      have : fs.toList[i]? = some f := by simpa using hfi
      simp [this])) hlen hrel hC0 hfill
    refine finish C' r2 ?_
    have hpl' : (fs.mapM fun f => Prod.mk f.offset <$> sizeOf f.type : Sem _).run P X.w = .ok (fs.toList.map fun f => (f.offset, P.cellsOf f.type)).toArray X.w := by
      rw [Array.mapM_eq_mapM_toList]
      simp [hpl]
    simp at r1
    simp [Instr.build, hzr, run_underlying hd, hpl']
    rw [r1]; rfl
  · rename_i n e hd
    obtain ⟨de, hde⟩ := known_some hf
    obtain ⟨C', r1, r2⟩ := fill_sound (place := fun i => some (i * P.cellsOf e, P.cellsOf e)) _ _ _ _ zv.cells (fun i o n h => by
      unfold structOffs at h
      rw [hd] at h
      exact h) hlen hrel hC0 hfill
    refine finish C' r2 ?_
    simp at r1
    simp [Instr.build, hzr, run_underlying hd, run_sizeOf' hde]
    rw [r1]; rfl
  · cases hf

theorem arg1_sound {u : Value} {v : AV} (h : AVR X u v) : AVR X u (arg1 v) := by
  unfold arg1
  split
  · exact .pv (h.sl (.inr ⟨_, rfl⟩))
  · cases h with | pv hp => ?_
    cases hp
    exact .pv .sl0
  · exact h

theorem arg_sound {u : Value} {v : AV} (h : AVR X u v) : AVR X u (arg v) := by
  unfold arg
  split
  · cases h with | agg h1 h2 h3 => ?_
    refine .agg (by simpa using h1) (fun j x hj => ?_) (fun j hj => h3 j (by simpa using hj))
    rw [List.getElem?_map] at hj
    rename_i cs arr
    cases hc : cs[j]? with
    | none => rw [hc] at hj; cases hj
    | some y =>
      rw [hc] at hj
      obtain rfl := Option.some.inj hj
      exact arg1_sound (h2 j y hc)
  · exact arg1_sound h

theorem buildSlice_sound {σ : Slots} {a : Act} (hσ : SlotR X σ a.tmps) {t : TypeId} {n : Nat} {ps : Array (Nat × Operand)} {cs : List AV}
    (h : buildSlice P σ t n ps.toList = some cs) (b : Nat) : Made X P (Instr.buildSlice t n (ps.map fun (i, x) => (i, a.eval x))) b (.ls b 0 n) (.cells cs) := by
  unfold buildSlice at h
  split at h
  case h_2 => cases h
  rename_i e hd
  split at h
  case h_2 => cases h
  rename_i z hz
  split at h
  case isFalse => cases h
  rename_i hc
  simp only [Bool.and_eq_true, beq_iff_eq, decide_eq_true_eq] at hc
  obtain ⟨⟨hsc, hfit⟩, hzl⟩ := hc
  have hfill := h
  obtain ⟨it, zv, hi, hzv, rfl⟩ := zeroOf_some hz
  have hzr : (zeroValue e).run P X.w = .ok zv X.w := by simp [zeroValue, typeInfo, hi, hzv]
  have hcell : P.cellsOf e = it.size := by simp [Program.cellsOf, hi]
  have hC0 := (Cells.const X hsc).rep n
  have hlen : (ps.map fun (i, x) => (i, a.eval x)).toList.length = (ps.toList.map fun (i, x) => (i, arg (opd σ x))).length := by simp
  have hrel : ∀ (j : Nat) p q, (ps.toList.map fun (i, x) => (i, arg (opd σ x)))[j]? = some p → (ps.map fun (i, x) => (i, a.eval x)).toList[j]? = some q → q.1 = p.1 ∧ AVR X q.2 p.2 := by
    intro j p q hp hq
    simp only [Array.toList_map, List.getElem?_map] at hp hq
    cases hx : ps.toList[j]? with
    | none => rw [hx] at hp; cases hp
    | some y =>
      obtain ⟨i, x⟩ := y
      rw [hx] at hp hq
      obtain rfl := Option.some.inj hp
      obtain rfl := Option.some.inj hq
      exact ⟨rfl, arg_sound (opds_sound hσ x)⟩
  obtain ⟨row, hrow, hrun⟩ : ∃ row : Array Value, row.toList = repV zv.cells.toList n ∧ ∀ C', Instr.fill (fun i => some (i * it.size, it.size)) row (ps.map fun (i, x) => (i, a.eval x)).toList = some C' →
      (Instr.buildSlice t n (ps.map fun (i, x) => (i, a.eval x))).run P X.w = .ok (.slice (some ⟨X.w.heap.size, 0, none⟩) n n) (X.w.alloc (.cells C' e)) := by
    have hsz : zv.cells.size = it.size := by rw [← hcell, ← hzl]; simp
    have hmax : ¬ (16777216 < n * it.size) := by rw [← hcell]; omega
    by_cases h0 : n * it.size = 0
    · refine ⟨#[], ?_, fun C' hC' => ?_⟩
      · have : (repV zv.cells.toList n).length = 0 := by rw [repV_len]; simp [hsz, h0]
        simp [List.eq_nil_of_length_eq_zero this]
      · simp [Instr.buildSlice, run_underlying hd, sizeOf, typeInfo, hi, h0, newRow, Array.range_zero']
        simp at hC'
        rw [hC']; rfl
    · have hpos : 0 < zv.cells.size := by
        rcases Nat.eq_zero_or_pos zv.cells.size with q | q
        · rw [hsz] at q; rw [q] at h0; simp at h0
        · exact q
      refine ⟨madeCells zv.cells (n * it.size), by rw [← hsz]; exact madeCells_eq _ hpos n, fun C' hC' => ?_⟩
      simp at hC'
      simp [Instr.buildSlice, run_underlying hd, sizeOf, typeInfo, zeroValue, hi, hzv, h0, hmax, newRow]
      unfold madeCells at hC'
      rw [hC']; rfl
  have hCr : Cells X row.toList (rep (zv.cells.toList.map ofConst) n) := by rw [hrow]; exact hC0
  obtain ⟨C', r1, r2⟩ := fill_sound (place := fun i => some (i * it.size, it.size)) _ _ _ _ row (fun i o m h => by rw [← hcell]; exact h) hlen hrel hCr hfill
  have hg : ∀ j, C'.getD j undef = C'.toList.getD j undef := fun j => by simp [Array.getD_eq_getD_getElem?, List.getD]
  exact made_cells (C := C') e (by simpa using r2.1) (fun j x hj => by rw [hg]; exact r2.2.1 j x hj) (fun j hj => by rw [hg]; exact r2.2.2 j hj) (hrun C' r1) fun Y hY => .ls hY (Nat.le_refl _)

theorem makeSlice_sound {t : TypeId} {l c : AV} {ul uc : Value} {k : Nat} {cs : List AV} (hl : AVR X ul l) (hc : AVR X uc c) (h : makeSlice P t l c = some (k, cs)) (b : Nat) :
    Made X P (Instr.makeSlice t ul uc) b (.ls b 0 k) (.cells cs) := by
  unfold makeSlice at h
  split at h
  case h_2 => cases h
  rename_i e n m hd
  split at h
  case h_2 => cases h
  rename_i z hz
  split at h
  case isFalse => cases h
  rename_i hq
  simp only [Bool.and_eq_true, beq_iff_eq, decide_eq_true_eq] at hq
  obtain ⟨⟨⟨⟨⟨hsc, hzl⟩, rfl⟩, h0⟩, hn⟩, hb⟩ := hq
  obtain ⟨rfl, rfl⟩ := Prod.mk.inj (Option.some.inj h)
  obtain ⟨it, zv, hi, hzv, rfl⟩ := zeroOf_some hz
  have hcell : P.cellsOf e = it.size := by simp [Program.cellsOf, hi]
  have hbytes : P.bytesOf e = it.bytes := by simp [Program.bytesOf, hi]
  cases hl with | pv hp => ?_
  cases hp
  cases hc with | pv hp => ?_
  cases hp
  rw [hbytes] at hb
  have hb' : (it.bytes : Int) * n ≤ 281474976710656 := by rw [Int.mul_comm]; omega
  have hrun := run_make (P := P) X.w t e it zv hd hi hzv .i64 .i64 n n h0 (Int.le_refl _) hb' (by omega)
  have hsz : zv.cells.size = it.size := by rw [← hcell, ← hzl]; simp
  have hrow : (madeCells zv.cells (n.toNat * it.size)).toList = repV zv.cells.toList n.toNat := by
    rcases Nat.eq_zero_or_pos zv.cells.size with q | q
    · have q' : it.size = 0 := by omega
      have : (repV zv.cells.toList n.toNat).length = 0 := by rw [repV_len]; simp [q]
      rw [List.eq_nil_of_length_eq_zero this, q']
      simp [madeCells]
    · rw [← hsz]; exact madeCells_eq _ q _
  have r2 : Cells X (madeCells zv.cells (n.toNat * it.size)).toList (rep (zv.cells.toList.map ofConst) n.toNat) := by rw [hrow]; exact (Cells.const X hsc).rep _
  generalize madeCells zv.cells (n.toNat * it.size) = C' at *
  have hg : ∀ j, C'.getD j undef = C'.toList.getD j undef := fun j => by simp [Array.getD_eq_getD_getElem?, List.getD]
  exact made_cells (C := C') e (by simpa using r2.1) (fun j x hj => by rw [hg]; exact r2.2.1 j x hj) (fun j hj => by rw [hg]; exact r2.2.2 j hj) hrun fun Y hY => .ls hY (Nat.le_refl _)

end
end Go.TM
