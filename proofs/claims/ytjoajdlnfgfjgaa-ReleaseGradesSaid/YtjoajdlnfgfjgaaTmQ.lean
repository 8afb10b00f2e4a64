/- The tree machine: the operations of a region whose order is drawn. -/
import Derived.Test.YtjoajdlnfgfjgaaTmP
namespace Go.TM
open Go.RowKit

section
variable {P : Program} {D : Bs} {X : Cx} {st st' : St}

theorem buildD_sound {σ : Slots} {a : Act} (hσ : SlotR X σ a.tmps) {t : TypeId} {ps : Array (Nat × Operand)} {v : AV} (hf : fieldsKnown P t = true)
    (h : buildD P σ t ps.toList = some v) : ∃ u, AVR X u v ∧ (Instr.build t (ps.map fun (i, x) => (i, a.eval x))).run P X.w = .ok u X.w := by
  unfold buildD at h
  split at h
  case h_2 => cases h
  rename_i z hz
  split at h
  case isFalse => cases h
  rename_i hsc
  split at h
  case h_2 => cases h
  rename_i cs hfill
  obtain rfl := Option.some.inj h
  obtain ⟨it, zv, hi, hzv, rfl⟩ := zeroOf_some hz
  have hC0 := Cells.const X hsc
  have hzr : (zeroValue t).run P X.w = .ok zv X.w := by simp [zeroValue, typeInfo, hi, hzv]
  have hlen : (ps.map fun (i, x) => (i, a.eval x)).toList.length = (ps.toList.map fun (i, x) => (i, opd σ x)).length := by simp
  have hrel : ∀ (j : Nat) p q, (ps.toList.map fun (i, x) => (i, opd σ x))[j]? = some p → (ps.map fun (i, x) => (i, a.eval x)).toList[j]? = some q → q.1 = p.1 ∧ AVR X q.2 p.2 := by
    intro j p q hp hq
    simp only [Array.toList_map, List.getElem?_map] at hp hq
    cases hx : ps.toList[j]? with
    | none => rw [hx] at hp; cases hp
    | some y =>
      obtain ⟨i, x⟩ := y
      rw [hx] at hp hq
      obtain rfl := Option.some.inj hp
      obtain rfl := Option.some.inj hq
      exact ⟨rfl, opds_sound hσ x⟩
  have finish : ∀ C' : Array Value, Cells X C'.toList cs → (Instr.build t (ps.map fun (i, x) => (i, a.eval x))).run P X.w = .ok (.agg C') X.w →
      ∃ u, AVR X u (.agg cs) ∧ (Instr.build t (ps.map fun (i, x) => (i, a.eval x))).run P X.w = .ok u X.w := by
    intro C' hC' hrun
    have e : ∀ j, C'.getD j undef = C'.toList.getD j undef := fun j => by simp [Array.getD_eq_getD_getElem?, List.getD]
    exact ⟨.agg C', .agg (by simpa using hC'.1) (fun j x hj => by rw [e]; exact hC'.2.1 j x hj) (fun j hj => by rw [e]; exact hC'.2.2 j hj), hrun⟩
  unfold fieldsKnown at hf
  split at hf
  · rename_i fs hd
    have hfs : ∀ f ∈ fs.toList, ∃ i, P.info? f.type = some i := by
      intro f hm
      obtain ⟨d, hd⟩ := known_some (List.all_eq_true.1 hf f hm)
      exact underlying_info hd
    have hpl := run_places' (P := P) X.w fs.toList hfs
    obtain ⟨C', r1, r2⟩ := fill_sound (place := ((fs.toList.map fun f => (f.offset, P.cellsOf f.type)).toArray[·]?)) _ _ _ _ zv.cells (structOffs_sound hd (fun i f hfi => by
      have : fs.toList[i]? = some f := by simpa using hfi
      simp [this])) hlen hrel hC0 hfill
    refine finish C' r2 ?_
    have hpl' : (fs.mapM fun f => Prod.mk f.offset <$> sizeOf f.type : Sem _).run P X.w = .ok (fs.toList.map fun f => (f.offset, P.cellsOf f.type)).toArray X.w := by
      rw [Array.mapM_eq_mapM_toList]
      simp [hpl]
    simp at r1
    simp [Instr.build, hzr, run_underlying hd, hpl']
    rw [r1]; rfl
  · rename_i n e hd
    obtain ⟨de, hde⟩ := known_some hf
    obtain ⟨C', r1, r2⟩ := fill_sound (place := fun i => some (i * P.cellsOf e, P.cellsOf e)) _ _ _ _ zv.cells (fun i o n h => by
      unfold structOffs at h
      rw [hd] at h
      exact h) hlen hrel hC0 hfill
    refine finish C' r2 ?_
    simp at r1
    simp [Instr.build, hzr, run_underlying hd, run_sizeOf' hde]
    rw [r1]; rfl
  · cases hf

theorem op1D_sound (hS : SR D X st) {σ : Slots} {a : Act} (hσ : SlotR X σ a.tmps) {o : Oper} {v : AV} (h : op1D P σ st o.op = some v) :
    ∃ u, AVR X u v ∧ (execOp a.eval o).run P X.w = .ok (.value u) X.w := by
  have h1 := op1_sound (P := P) (v := v) hS hσ (o := o)
  obtain ⟨dst, op, type, pos, after, guard⟩ := o
  cases op <;> try exact h1 h
  case assign x =>
    simp only [op1D, Option.some.injEq] at h
    subst h
    exact ⟨_, opds_sound hσ x, rfl⟩
  case build t ps =>
    simp only [op1D] at h
    split at h
    case isFalse => cases h
    rename_i hf
    obtain ⟨u, h1, h2⟩ := buildD_sound hσ hf h
    exact ⟨u, h1, by simp [execOp, h2]⟩

theorem memD_sound {σ : Slots} {a : Act} (hσ : SlotR X σ a.tmps) {o : Oper} {n : Nat} {v : AV} {x : Obj} (h : memD P σ n o.op = some (v, x)) : MadeN X P (execOp a.eval o) n v x := by
  have h1 := mem_sound (P := P) (v := v) (x := x) hσ (o := o) (n := n)
  obtain ⟨dst, op, type, pos, after, guard⟩ := o
  cases op <;> try exact h1 h
  case alloc t =>
    simp only [memD] at h
    split at h
    case h_2 => cases h
    rename_i z hz
    split at h
    case isFalse => cases h
    rename_i hsc
    obtain ⟨rfl, rfl⟩ := Prod.mk.inj (Option.some.inj h)
    obtain ⟨i, zv, hi, hv, rfl⟩ := zeroOf_some hz
    have hC := Cells.const X hsc
    have e : ∀ j, zv.cells.getD j undef = zv.cells.toList.getD j undef := fun j => by simp [Array.getD_eq_getD_getElem?, List.getD]
    refine (made_cells (C := zv.cells) (s := Instr.alloc t true (.tuple #[])) t (by simp) (fun j x hj => by rw [e]; exact hC.2.1 j x hj) (fun j hj => by rw [e]; exact hC.2.2 j hj) (u := .pointer (some ⟨X.w.heap.size, 0, none⟩)) ?_ fun Y hY => .lp hY).next
    simp [Instr.alloc, zeroValue, typeInfo, hi, hv, newVar, newRow]

/-- blocks have come, nothing else -/
structure Ext (st st' : St) : Prop where
  h : ∃ l, st'.h = st.h ++ l ∧ ∀ x ∈ l, ∀ es k, x = .map es k → es = []
  ch : st'.ch = st.ch
  ms : st'.ms = st.ms
  fl : st'.fl = st.fl
  cf : st'.cf = st.cf

theorem Ext.refl (st : St) : Ext st st := ⟨⟨[], by simp, fun _ h => by cases h⟩, rfl, rfl, rfl, rfl⟩
theorem Ext.trans {a b c : St} (h : Ext a b) (k : Ext b c) : Ext a c := by
  obtain ⟨l, h1, h2⟩ := h.h
  obtain ⟨m, k1, k2⟩ := k.h
  refine ⟨⟨l ++ m, by rw [k1, h1, List.append_assoc], fun x hx => ?_⟩, k.ch.trans h.ch, k.ms.trans h.ms, k.fl.trans h.fl, k.cf.trans h.cf⟩
  rcases List.mem_append.1 hx with hx | hx
  · exact h2 x hx
  · exact k2 x hx

theorem Ext.push {x : Obj} (h : ∀ es k, x = .map es k → es = []) : Ext st (push st x) :=
  ⟨⟨[x], rfl, fun y hy => by obtain rfl := List.mem_singleton.1 hy; exact h⟩, rfl, rfl, rfl, rfl⟩

theorem Ext.get (h : Ext st st') {b : Nat} {o : Obj} (ho : st.h[b]? = some o) : st'.h[b]? = some o := by
  obtain ⟨l, h1, _⟩ := h.h
  rw [h1, List.getElem?_append_left (List.getElem?_eq_some_iff.1 ho).1]
  exact ho

theorem Ext.get_lt (h : Ext st st') {b : Nat} (hb : b < st.h.length) : st'.h[b]? = st.h[b]? := by
  obtain ⟨l, h1, _⟩ := h.h
  rw [h1, List.getElem?_append_left hb]

theorem Ext.len (h : Ext st st') : st.h.length ≤ st'.h.length := by
  obtain ⟨l, h1, _⟩ := h.h
  rw [h1]; simp

theorem Ext.mark (h : Ext st st') : TM.mark st' = TM.mark st := by
  obtain ⟨l, h1, h2⟩ := h.h
  funext c
  cases c with
  | v k => simp [TM.mark, h.ch]
  | e b born =>
    simp only [TM.mark, h1]
    rcases Nat.lt_or_ge b st.h.length with q | q
    · rw [List.getElem?_append_left q]
    · rw [List.getElem?_append_right q, List.getElem?_eq_none q]
      cases hx : l[b - st.h.length]? with
      | none => rfl
      | some x =>
        cases x with
        | map es k =>
          obtain rfl := h2 _ (List.mem_of_getElem? hx) es k rfl
          rfl
        | _ => rfl

theorem load_ext (h : Ext st st') {t : TypeId} {a v : AV} (hl : load P st t a = some v) : load P st' t a = some v := by
  unfold load at hl ⊢
  split at hl
  · rename_i b o
    split at hl
    case h_2 => cases hl
    rename_i cs ho
    simp only [h.get ho]
    exact hl
  · exact hl
  · cases hl

theorem lookup_ext (h : Ext st st') {t : TypeId} {m k v : AV} {ok : Bool} (hl : lookup P st t m k ok = some v) : lookup P st' t m k ok = some v := by
  unfold lookup at hl ⊢
  split at hl
  case h_2 => cases hl
  rename_i kt et hd
  split at hl
  case h_2 => cases hl
  rename_i b key hk
  split at hl
  case h_2 => cases hl
  rename_i es clock ho
  simp only [h.get ho]
  exact hl

theorem lenOf_ext (h : Ext st st') {t : TypeId} {x v : AV} (hl : lenOf P st t x = some v) : lenOf P st' t x = some v := by
  unfold lenOf at hl ⊢
  split at hl
  · exact hl
  · exact hl
  · exact hl
  · split at hl
    case h_2 => cases hl
    rename_i b
    split at hl
    case h_2 => cases hl
    rename_i es clock ho
    simp only [h.get ho]
    exact hl
  · cases hl

theorem op1_ext (h : Ext st st') {σ : Slots} {o : Op} {v : AV} (hl : op1 P σ st o = some v) : op1 P σ st' o = some v := by
  cases o
  case load t a => exact load_ext h hl
  case lookup t m k ok => exact lookup_ext h hl
  case assign x =>
    have e : op1 P σ st' (.assign x) = op1 P σ st (.assign x) := by
      unfold op1
      split <;> first | rfl | (rename_i q; cases q; done) | (rename_i q _; cases q; done) | simp_all
    rw [e]; exact hl
  case slice t x lo hi mx => cases mx <;> exact hl
  case call c =>
    obtain ⟨callee, args, ts⟩ := c
    cases callee with
    | value f => exact hl
    | invoke r m => exact hl
    | builtin b =>
      cases b
      case len =>
        simp only [op1] at hl ⊢
        split at hl
        case h_2 => cases hl
        rename_i t x ht hx
        exact lenOf_ext h hl
      all_goals exact hl
  all_goals exact hl

theorem op1D_ext (h : Ext st st') {σ : Slots} {o : Op} {v : AV} (hl : op1D P σ st o = some v) : op1D P σ st' o = some v := by
  have h1 := op1_ext (P := P) (σ := σ) (o := o) (v := v) h
  cases o <;> first | exact h1 hl | exact hl

/-- a block of the world for a block that the state has already -/
theorem SR.place (hS : SR D X st) {n : Nat} {x : Obj} {go : Go.Obj} (hn : st.h[n]? = some x) (hρ : X.ρ n = none) (hX : X.n ≤ n) (hr : ∀ Y : Cx, X.Le Y → Y.w.heap[X.w.heap.size]? = some go → ObjR Y n X.w.heap.size x) :
    X.Le (X.alloc n go) ∧ SR D (X.alloc n go) st := by
  have hle : X.Le (X.alloc n go) := by
    refine ⟨fun b B hb => ?_, fun B j hj => ⟨hj, cell_of_heap (heap_alloc_lt (hS.imlt B j hj))⟩, fun c m hm => ⟨m, hm, .inr ⟨rfl, rfl, fun B e C ty hk hh => ⟨C, ?_, rfl⟩⟩⟩, fun b B hb => ?_, rfl⟩
    · simp only [Cx.alloc]
      rw [if_neg (by intro e; rw [e, hρ] at hb; cases hb)]; exact hb
    · exact (heap_alloc_lt (hS.ch c B e (by simp [hm]) hk).2.1).trans hh
    · simp only [Cx.alloc] at hb
      by_cases hbn : b = n
      · exact .inr (by omega)
      · rw [if_neg hbn] at hb; exact .inl hb
  have hlt : n < st.h.length := (List.getElem?_eq_some_iff.1 hn).1
  refine ⟨hle, ⟨hS.nE, hS.mcE, fun b y B hy hB => ?_, fun b B hB => ?_, fun b c B hb hc => ?_, fun b B j hB => ?_, fun B j hj => ?_, hS.im0, fun c B e hc hκ => ?_, ?_, fun k hk => ?_, hS.κd⟩⟩
  · simp only [Cx.alloc] at hB
    by_cases hb : b = n
    · subst hb
      rw [if_pos rfl] at hB
      obtain rfl := Option.some.inj hB
      rw [hn] at hy
      obtain rfl := Option.some.inj hy
      exact hr _ hle heap_alloc_eq
    · rw [if_neg hb] at hB
      refine (hS.obj b y B hy hB).mono hle (heap_alloc_lt (hS.dom b B hB).2.2) fun es k e z hz => ?_
      subst e
      have h1 := hS.markEnt hy hB z hz
      exact ⟨h1, h1⟩
  · simp only [Cx.alloc] at hB ⊢
    simp only [World.size_alloc]
    by_cases hb : b = n
    · rw [if_pos hb] at hB
      obtain rfl := Option.some.inj hB
      exact ⟨by omega, fun _ hz => by have := hS.base _ hz; omega, by omega⟩
    · rw [if_neg hb] at hB
      have hd := hS.dom b B hB
      exact ⟨hd.1, hd.2.1, by omega⟩
  · simp only [Cx.alloc] at hb hc
    by_cases hb' : b = n <;> by_cases hc' : c = n
    · omega
    · rw [if_pos hb'] at hb; rw [if_neg hc'] at hc
      obtain rfl := Option.some.inj hb
      have := (hS.dom c _ hc).2.2
      omega
    · rw [if_neg hb'] at hb; rw [if_pos hc'] at hc
      obtain rfl := Option.some.inj hc
      have := (hS.dom b _ hb).2.2
      omega
    · rw [if_neg hb'] at hb; rw [if_neg hc'] at hc
      exact hS.inj b c B hb hc
  · simp only [Cx.alloc] at hB
    by_cases hb : b = n
    · rw [if_pos hb] at hB
      obtain rfl := Option.some.inj hB
      intro hj
      have := hS.imlt _ j hj
      omega
    · rw [if_neg hb] at hB
      exact hS.loc b B j hB
  · have := hS.imlt B j hj
    simp only [Cx.alloc, World.size_alloc]; omega
  · obtain ⟨c1, c2, c3, c4, c5⟩ := hS.ch c B e hc hκ
    refine ⟨c1, by simp only [Cx.alloc, World.size_alloc]; omega, c3, fun b => ?_, c5⟩
    simp only [Cx.alloc]
    by_cases hb : b = n
    · rw [if_pos hb]; intro e'; obtain rfl := Option.some.inj e'; omega
    · rw [if_neg hb]; exact c4 b
  · exact hS.below.alloc hS.base _
  · have := hS.base k hk
    simp only [Cx.alloc, World.size_alloc]; omega

/-- a state for which the world has not yet made its newest blocks -/
theorem SR.more (hS : SR D X st) (h : Ext st st') : SR D X st' := by
  refine ⟨Nat.le_trans hS.nE h.len, by rw [h.mark]; exact hS.mcE, fun b o B ho hB => ?_, fun b B hB => ?_, hS.inj, hS.loc, hS.imlt, hS.im0, fun c B e hc hκ => ?_, hS.below, hS.base, hS.κd⟩
  · rw [h.get_lt (hS.dom b B hB).1] at ho
    exact hS.obj b o B ho hB
  · have hd := hS.dom b B hB
    exact ⟨Nat.lt_of_lt_of_le hd.1 h.len, by rw [h.fl]; exact hd.2.1, hd.2.2⟩
  · obtain ⟨c1, c2⟩ := hS.ch c B e hc hκ
    exact ⟨fun q => c1 (by cases c <;> simpa [chOk, h.fl, h.cf] using q), c2⟩

/-- the blocks from k on are forgotten -/
def Cx.lim (X : Cx) (k : Nat) : Cx := { X with ρ := fun b => if b < k then X.ρ b else none }

theorem AVR.lim {k m : Nat} {u : Value} {v : AV} (h : AVR X u v) : TM.old k m v = true → AVR (X.lim k) u v := by
  induction h with
  | pv hp => exact fun _ => .pv hp
  | g hp hm hn hr => exact fun _ => .g hp hm hn hr
  | lp hb =>
    intro ho
    simp only [TM.old, decide_eq_true_eq] at ho
    exact .lp (by show (if _ then _ else none) = _; rw [if_pos ho]; exact hb)
  | ls hb hn =>
    intro ho
    simp only [TM.old, decide_eq_true_eq] at ho
    exact .ls (by show (if _ then _ else none) = _; rw [if_pos ho]; exact hb) hn
  | lm hb =>
    intro ho
    simp only [TM.old, decide_eq_true_eq] at ho
    exact .lm (by show (if _ then _ else none) = _; rw [if_pos ho]; exact hb)
  | fn h1 h2 _ _ i1 i2 =>
    intro ho
    simp only [TM.old, Bool.and_eq_true] at ho
    exact .fn h1 h2 (fun j x hj => i1 j x hj (all_olds ho.1 x (List.mem_of_getElem? hj))) (fun j x hj => i2 j x hj (all_olds ho.2 x (List.mem_of_getElem? hj)))
  | ifc _ ih => exact fun ho => .ifc (ih (by simpa only [TM.old] using ho))
  | agg h1 _ h3 ih =>
    intro ho
    simp only [TM.old] at ho
    exact .agg h1 (fun j x hj => ih j x hj (all_olds ho x (List.mem_of_getElem? hj))) h3
  | tup h1 _ ih =>
    intro ho
    simp only [TM.old] at ho
    exact .tup h1 (fun j x hj => ih j x hj (all_olds ho x (List.mem_of_getElem? hj)))
  | bad => exact fun _ => .bad

/-- back to the state before the newest blocks -/
theorem SR.less (hS : SR D X st') (h : Ext st st') (hX : X.n ≤ st.h.length) (ho : ∀ b o, b < st.h.length → X.ρ b ≠ none → st.h[b]? = some o → oldO st.h.length st.ch.length o) : SR D (X.lim st.h.length) st := by
  have hρ : ∀ b B, (X.lim st.h.length).ρ b = some B → b < st.h.length ∧ X.ρ b = some B := by
    intro b B h
    have h' : (if b < st.h.length then X.ρ b else none) = some B := h
    split at h'
    · rename_i q; exact ⟨q, h'⟩
    · cases h'
  refine ⟨hX, by rw [← h.mark]; exact hS.mcE, fun b o B hob hB => ?_, fun b B hB => ?_, fun b c B hb hc => hS.inj b c B (hρ b B hb).2 (hρ c B hc).2, fun b B j hB => hS.loc b B j (hρ b B hB).2, hS.imlt, hS.im0, fun c B e hc hκ => ?_, hS.below, hS.base, hS.κd⟩
  · obtain ⟨hlt, hB'⟩ := hρ b B hB
    have h1 := hS.obj b o B (h.get hob) hB'
    have h2 := ho b o hlt (by rw [hB']; simp) hob
    cases o with
    | dead => trivial
    | cells cs =>
      obtain ⟨C, ty, r1, r2, r3, r4⟩ := h1
      exact ⟨C, ty, r1, r2, fun j x hj => (r3 j x hj).lim (h2 x (List.mem_of_getElem? hj)), r4⟩
    | map es k =>
      obtain ⟨EN, r1, r2, r3, r4⟩ := h1
      refine ⟨EN, r1, r2, fun j me e hj he => ?_, r4⟩
      obtain ⟨e1, e2, e3, e4⟩ := r3 j me e hj he
      exact ⟨e1, e2, e3.lim (h2 e (List.mem_of_getElem? he)), e4⟩
  · obtain ⟨hlt, hB'⟩ := hρ b B hB
    have hd := hS.dom b B hB'
    exact ⟨hlt, by rw [← h.fl]; exact hd.2.1, hd.2.2⟩
  · obtain ⟨c1, c2, c3, c4, c5⟩ := hS.ch c B e hc hκ
    exact ⟨fun q => c1 (by cases c <;> simpa [chOk, h.fl, h.cf] using q), c2, c3, fun b hb => c4 b (hρ b B hb).2, c5⟩

theorem strip1_sound {X Y : Cx} (him : ∀ B j, Y.im B j → X.im B j) (hw : X.w = Y.w) {u : Value} {v : AV} (h : AVR Y u v) (hρ : ∀ b B, Y.ρ b = some B → X.ρ b = some B) : AVR X u (strip1 v) := by
  have hp : ∀ {u : Value} {p : PV}, PVR Y.im Y.w u p → PVR X.im X.w u p := fun hp => hp.mono fun B j hj => ⟨him B j hj, by rw [hw]⟩
  unfold strip1
  split
  · exact .pv (hp (h.sl (.inr ⟨_, rfl⟩)))
  · cases h with | pv h => exact .pv (hp h)
  · cases h with | lp hb => exact .lp (hρ _ _ hb)
  · cases h with | ls hb hn => exact .ls (hρ _ _ hb) hn
  · cases h with | lm hb => exact .lm (hρ _ _ hb)
  · cases h with | fn h1 h2 h3 h4 => exact .fn h1 h2 (fun j x hj => by simp at hj) (fun j x hj => by simp at hj)
  · cases h with | ifc h => ?_
    cases h with | pv h => exact .ifc (.pv (hp h))
  · exact .bad

theorem strip2_sound {X Y : Cx} (him : ∀ B j, Y.im B j → X.im B j) (hw : X.w = Y.w) {u : Value} {v : AV} (h : AVR Y u v) (hρ : ∀ b B, Y.ρ b = some B → X.ρ b = some B) : AVR X u (strip2 v) := by
  unfold strip2
  split
  · cases h with | agg h1 h2 h3 => ?_
    refine .agg (by simpa using h1) (fun j x hj => ?_) (fun j hj => h3 j (by simpa using hj))
    rw [List.getElem?_map] at hj
    rename_i cs _
    cases hx : cs[j]? with
    | none => rw [hx] at hj; cases hj
    | some y =>
      rw [hx] at hj
      obtain rfl := Option.some.inj hj
      exact strip1_sound him hw (h2 j y hx) hρ
  · exact strip1_sound him hw h hρ

theorem strip_sound {X Y : Cx} (him : ∀ B j, Y.im B j → X.im B j) (hw : X.w = Y.w) {u : Value} {v : AV} (h : AVR Y u v) (hρ : ∀ b B, Y.ρ b = some B → X.ρ b = some B) : AVR X u (strip v) := by
  unfold strip
  split
  · cases h with | tup h1 h2 => ?_
    refine .tup (by simpa using h1) fun j x hj => ?_
    rw [List.getElem?_map] at hj
    rename_i vs _
    cases hx : vs[j]? with
    | none => rw [hx] at hj; cases hj
    | some y =>
      rw [hx] at hj
      obtain rfl := Option.some.inj hj
      exact strip2_sound him hw (h2 j y hx) hρ
  · exact strip2_sound him hw h hρ

/-- new blocks, known or not -/
theorem SR.quiet (hS : SR D X st) {w' : World} {im' : Nat → Nat → Prop} (hst : Still (fun B => B < X.w.heap.size) X.w w') (him1 : ∀ B j, X.im B j → im' B j ∧ w'.cell? ⟨B, j, none⟩ = X.w.cell? ⟨B, j, none⟩)
    (him : ∀ B j, im' B j → X.im B j ∨ X.w.heap.size ≤ B) (hlt : ∀ B j, im' B j → B < w'.heap.size) : X.Le { X with w := w', im := im' } ∧ SR D { X with w := w', im := im' } st := by
  have hheap : ∀ B, B < X.w.heap.size → w'.heap[B]? = X.w.heap[B]? := hst.block
  have hleX : X.Le { X with w := w', im := im' } := by
    refine ⟨fun _ _ e => e, him1, fun c m hm => ⟨m, hm, .inr ⟨rfl, rfl, fun B e C ty hκ hh => ⟨C, ?_, rfl⟩⟩⟩, fun _ _ e => .inl e, rfl⟩
    exact (hheap B (hS.ch c B e (by rw [hm]; simp) hκ).2.1).trans hh
  refine ⟨hleX, ⟨hS.nE, hS.mcE, fun b o B hob hB => ?_, fun b B hB => ?_, hS.inj, fun b B j hB hj => ?_, hlt, fun B j hj => ?_, fun c B e hc hκ => ?_, hS.below.trans ⟨hst.os, hst.tape, hst.output, hst.size, fun k hk => hheap k (hS.base k hk)⟩,
    fun k hk => Nat.lt_of_lt_of_le (hS.base k hk) hst.size, hS.κd⟩⟩
  · refine (hS.obj b o B hob hB).mono hleX (hheap B (hS.dom b B hB).2.2) fun es k e x hx => ?_
    subst e
    have h1 := hS.markEnt hob hB x hx
    exact ⟨h1, h1⟩
  · have := hS.dom b B hB
    exact ⟨this.1, this.2.1, Nat.lt_of_lt_of_le this.2.2 hst.size⟩
  · rcases him B j hj with q | q
    · exact hS.loc b B j hB q
    · have := (hS.dom b B hB).2.2
      omega
  · rcases him B j hj with q | q
    · exact hS.im0 B j q
    · exact .inr fun hz => by have := hS.base B hz; omega
  · obtain ⟨c1, c2, c3, c4⟩ := hS.ch c B e hc hκ
    refine ⟨c1, Nat.lt_of_lt_of_le c2 hst.size, fun j hj hij => ?_, c4⟩
    rcases him B j hij with q | q
    · exact c3 j hj q
    · omega

/-- a call that changes nothing -/
theorem drawCall {call : CallF} (hC : CallOK P call) {stq : St} (hS : SR D X stq) (hE : Ext st stq) (hX : X.n ≤ st.h.length) (ho : ∀ b o, b < st.h.length → X.ρ b ≠ none → st.h[b]? = some o → oldO st.h.length st.ch.length o)
    (hms : ∀ m ∈ st.ms, m.1 ≤ st.h.length ∧ m.2 ≤ st.ch.length ∧ ∀ b o, b < m.1 → X.ρ b ≠ none → st.h[b]? = some o → oldO m.1 m.2 o) (hso : Sorted st.ms)
    {f : FuncId} {args : List AV} {v : AV} {st' : St} (h : call f args { st with fl := st.h.length, cf := st.ch.length } = some (v, st'))
    {us : Array Value} (hl : us.size = args.length) (ha : ∀ (j : Nat) x, args[j]? = some x → AVR (X.lim st.h.length) (us.getD j undef) x) :
    Entered P f ∧ Calls P f us X.w fun
      | .returned u, w' => ∃ Y, X.Le Y ∧ SR D Y stq ∧ AVR Y u (strip v) ∧ Y.w = w' ∧ Y.ρ = X.ρ
      | _, _ => False := by
  let D' : Bs := { W := X.w, Z := fun B => B < X.w.heap.size, im := X.im }
  have h1 := (hS.less hE hX ho).raise (n := st.h.length) (Nat.le_refl _)
  have hS' : SR D' ((X.lim st.h.length).raise st.h.length) { st with fl := st.h.length, cf := st.ch.length } := by
    refine ⟨h1.nE, h1.mcE, h1.obj, fun b B hB => ?_, h1.inj, h1.loc, h1.imlt, fun B j hj => .inl hj, fun c B e hc hκ => ?_, Still.refl _ _, fun k hk => hk, h1.κd⟩
    · have := h1.dom b B hB
      exact ⟨this.1, fun q => by have q' : st.h.length ≤ b := q; omega, this.2.2⟩
    · obtain ⟨c1, c2, c3⟩ := h1.ch c B e hc hκ
      refine ⟨fun q => ?_, c2, c3⟩
      have hold := mark_lt (st := st) (c := c) (by rw [← h1.mcE]; exact hc)
      cases c with
      | v k =>
        simp only [oldCh, chOk, decide_eq_true_eq] at hold q
        omega
      | e b born =>
        simp only [oldCh, chOk, decide_eq_true_eq] at hold q
        omega
  have hρ' : ∀ b, (X.lim st.h.length).ρ b ≠ none → X.ρ b ≠ none := by
    intro b hb e
    apply hb
    show (if b < st.h.length then X.ρ b else none) = none
    split
    · exact e
    · rfl
  have hI : Inv D' ((X.lim st.h.length).raise st.h.length) { st with fl := st.h.length, cf := st.ch.length } :=
    ⟨hS', fun m hm b o hb hρ hob => (hms m hm).2.2 b o hb (hρ' b hρ) hob, hso, fun m hm => ⟨(hms m hm).1, (hms m hm).2.1⟩, Nat.le_refl _, Nat.le_refl _⟩
  obtain ⟨c1, c2⟩ := hC D' _ _ f args us v st' h hI hl fun j x hj => (ha j x hj).raise
  refine ⟨c1, c2.mono fun e w' he => ?_⟩
  cases e with
  | panicked c => exact he
  | outgrown => exact he
  | returned u =>
    obtain ⟨Y, hle, hY, _, hlen, hu, rfl⟩ := he
    have hS2 := hY.s
    have hlen' : st'.h.length = st.h.length := hlen
    have hρY : ∀ b B, Y.ρ b = some B → X.ρ b = some B := by
      intro b B hB
      have hlt := (hS2.dom b B hB).1
      rcases hle.ρn b B hB with q | q
      · have q' : (if b < st.h.length then X.ρ b else none) = some B := q
        split at q'
        · exact q'
        · cases q'
      · have q' : st.h.length ≤ b := q
        omega
    have him : ∀ B j, Y.im B j → X.im B j ∨ X.w.heap.size ≤ B := by
      intro B j hj
      rcases hS2.im0 B j hj with q | q
      · exact .inl q
      · exact .inr (Nat.le_of_not_lt q)
    have hst := hS2.below
    obtain ⟨q1, q2⟩ := hS.quiet hst (fun B j hj => hle.im B j hj) him hS2.imlt
    exact ⟨_, q1, q2, strip_sound (X := { X with w := Y.w, im := Y.im }) (Y := Y) (fun _ _ h => h) rfl hu hρY, rfl, rfl⟩

end
end Go.TM
