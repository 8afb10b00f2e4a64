/- The bridge: from a run of the tree machine to the contract of a law. -/
import Derived.Test.YtjoajdlnfgfjgaaTmBr
namespace Go.TM
open Go.RowKit Go.ChangeShapes Go.WideShapes
set_option linter.all false
section
variable {H : Type} {enc : TypeId × Value → H} {P : Program} {W W' : World}

theorem trodAll_stays (hl : laidOutB P = true) (hb : Below W.heap.size W W') {sp : Nat → Bool} : ∀ (ts : List TypeId) (vs : List Value) (ds : List (DataW H)) (ps : List MemPlace), DataW.TrodAll enc P W 0 (fun _ => true) true ts vs ds ps →
    (∀ t ∈ ts, P.readableRec t = true ∧ t < P.types.size) → (∀ p ∈ ps, p.block < W.heap.size) → (∀ p ∈ ps, sp p.block = true) → DataW.TrodAll enc P W' 0 sp true ts vs ds ps
  | [], vs, ds, ps, h, _, _, _ => by
    obtain ⟨rfl, rfl, rfl⟩ := trodAll_nil h
    exact rfl
  | t :: ts, vs, ds, ps, h, hr, hlt, hs => by
    obtain ⟨v, vs1, d, ds1, a, b, rfl, rfl, rfl, h1, h2⟩ := trodAll_cons h
    refine ⟨a, b, ?_, trodAll_stays hl hb ts vs1 ds1 b h2 (fun t ht => hr t (List.mem_cons_of_mem _ ht)) (fun p hp => hlt p (List.mem_append_right _ hp)) (fun p hp => hs p (List.mem_append_right _ hp)), rfl⟩
    exact WideElems.Trod_stays hl (hr t (List.mem_cons_self ..)).1 (hr t (List.mem_cons_self ..)).2 h1 (fun x hx => hb.same (hlt x (List.mem_append_left _ hx))) (fun x hx => hs x (List.mem_append_left _ hx))

theorem trodAll_len {base : Nat} {spare : Nat → Bool} {held : Bool} : ∀ {ts : List TypeId} {vs : List Value} {ds : List (DataW H)} {ps : List MemPlace}, DataW.TrodAll enc P W base spare held ts vs ds ps → ds.length = ts.length
  | [], vs, ds, ps, h => by
    obtain ⟨rfl, rfl, rfl⟩ := trodAll_nil h; rfl
  | t :: ts, vs, ds, ps, h => by
    obtain ⟨v, vs1, d, ds1, a, b, rfl, rfl, rfl, h1, h2⟩ := trodAll_cons h
    rw [List.length_cons, List.length_cons, trodAll_len h2]

/-- what stands behind a call that answers true and turns nothing that was there -/
theorem law_post {f : Func} {s : ChangeSpec} {apart fresh handsOn again : Bool} {args : Array Value} {ds gs : List (DataW H)} {before : List MemPlace} {tb : TypeId}
    (hW : DataW.Whole enc P f.params.toList s.vars apart W args.toList ds gs before) (hb : Below W.heap.size W W') (hl : laidOutB P = true) (hr : ∀ t ∈ f.params.toList, P.readableRec t = true ∧ t < P.types.size)
    (hv : s.vars = []) (ht : f.resultTypes = #[tb]) (ub : P.underlying tb = some .bool) (hs : s.fn H (ds ++ gs) = { results := [.lit (.bool true)], args := ds, vars := [] }) :
    s.post enc P f apart fresh handsOn again W args (.bool true) W' := by
  have hlt := hW.lt
  obtain ⟨p, q, hA, hV, rfl, hz, hn⟩ := hW
  rw [hv] at hV
  obtain ⟨rfl, rfl⟩ := trodVars_none hV
  have hs0 : ∀ p' ∈ p, decide (p'.block < W.heap.size) = true := fun p' hp => by simpa using hlt p' (List.mem_append_left _ hp)
  have hlt' : ∀ p' ∈ p, p'.block < W.heap.size := fun p' hp => hlt p' (List.mem_append_left _ hp)
  have hA1 := trodAll_stays hl hb (sp := fun b => decide (b < W.heap.size)) _ _ _ _ hA hr hlt' hs0
  have hA2 := trodAll_stays hl hb (sp := fun _ => true) _ _ _ _ hA hr hlt' (fun _ _ => rfl)
  have hrt : f.resultTypes.toList = [tb] := by rw [ht]
  have hrl : (Value.bool true).resultList f.resultTypes.size = [.bool true] := by rw [ht]; rfl
  refine ⟨ds, [], p ++ [], [], p, [], ⟨p, [], hA, by rw [hv]; rfl, rfl, hz, hn⟩, ?_, ?_, ?_, World.keptBut_mono (fun p' hp => ⟨hp, .inr (.inl (by simpa using hp))⟩) (hb.frame _),
    fun _ => ⟨ok_one ht (by rfl) (okWide_bool_mk ub true), .lit (.bool true) :: ds, [], p ++ [], ⟨p, [], ?_, by rw [hv]; rfl, rfl, ?_, hn⟩, fun p' hp _ => hp⟩⟩
  · rw [hs, hrt, hrl]
    exact trodAll_mk1 (shut_bool ub true)
  · rw [hs]; exact hA1
  · rw [hs, hv]; rfl
  · rw [hrt, hrl]
    exact ⟨[], p, shut_bool ub true, hA2, rfl⟩
  · intro b off hp
    have hp' : MemPlace.cell b off ∈ p := by simpa using hp
    rw [hb.frozen (p := ⟨b, off, none⟩) (hlt' _ hp')]
    exact hz b off hp

/-- the arguments, one after the other -/
theorem args_avr {base b0 d : Nat} {spare : Nat → Bool} {held : Bool} : ∀ (ts : List TypeId) (vs : List Value) (ds : List (DataW H)) (ps : List MemPlace), DataW.TrodAll enc P W base spare held ts vs ds ps →
    (∀ (j : Nat) t v, ts[j]? = some t → vs[j]? = some v → Value.okWide P W .any b0 t v) →
    (∀ t ∈ ts, plainTy P d t = true ∧ (isAgg P t = true ∨ P.cellsOf t = 1)) →
    ∃ pss : List (List PV), pss.length = ts.length ∧ vs.length = ts.length ∧ (∀ (j : Nat) t pcs, ts[j]? = some t → pss[j]? = some pcs → Shaped P d t pcs) ∧
      ∀ (j : Nat) x, (List.zipWith (avOf P) ts pss)[j]? = some x → AVR (TM.base W (seen W)) (vs.toArray.getD j undef) x
  | [], vs, ds, ps, h, _, _ => by
    obtain ⟨rfl, rfl, rfl⟩ := trodAll_nil h
    exact ⟨[], rfl, rfl, by simp, by simp⟩
  | t :: ts, vs, ds, ps, h, hok, hp => by
    obtain ⟨v, vs1, dd, ds1, a, b, rfl, rfl, rfl, h1, h2⟩ := trodAll_cons h
    obtain ⟨pss, q1, q2, q3, q4⟩ := args_avr ts vs1 ds1 b h2 (fun j t v ht hv => hok (j + 1) t v (by simpa using ht) (by simpa using hv)) (fun t ht => hp t (List.mem_cons_of_mem _ ht))
    obtain ⟨pcs, r1, r2⟩ := arg_avr (hp t (List.mem_cons_self ..)).1 (hok 0 t v rfl rfl) h1 (hp t (List.mem_cons_self ..)).2
    refine ⟨pcs :: pss, by simp [q1], by simp [q2], fun j t' pcs' ht' hp' => ?_, fun j x hx => ?_⟩
    · cases j with
      | zero => obtain rfl := Option.some.inj ht'; obtain rfl := Option.some.inj hp'; exact r1
      | succ j => exact q3 j t' pcs' (by simpa using ht') (by simpa using hp')
    · cases j with
      | zero =>
        have : avOf P t pcs = x := Option.some.inj hx
        subst this; exact r2
      | succ j =>
        have := q4 j x (by simpa using hx)
        simpa using this

/-- THE LAW OF A LAW: a run of the tree machine at every shaped input is the contract -/
theorem law_lifted {C : Checked} {os : Os} {f : FuncId} {fn : Func} {s : ChangeSpec} {conds : List PathCond} {apart fresh handsOn again : Bool} {tb : TypeId} {d : Nat}
    (own : ownKnob C.prog.godebug = none) (started : os.Started) (noInit : C.prog.inits.idxOf? f = none) (hfn : C.prog.funcs[f]? = some fn)
    (witness : ∃ (w : World) (tape : Tape) (i : Input), w.os = os ∧ (w.forCall tape i).Shaped C.prog ∧ i.vars = [] ∧ Input.okWide C.prog (w.forCall tape i) .any w.heap.size f i ∧
      s.pre6 enc C.prog fn conds apart (w.forCall tape i).memory i.args ∧ ({} : Assume).holds C.prog (lone (Frame.enter C.prog f i.args .normal) [] (w.forCall tape i)))
    (hl : laidOutB C.prog = true) (hr : ∀ t ∈ fn.params.toList, C.prog.readableRec t = true ∧ t < C.prog.types.size)
    (hv : s.vars = []) (ht : fn.resultTypes = #[tb]) (ub : C.prog.underlying tb = some .bool) (hs : ∀ ds : List (DataW H), ds.length = fn.params.size → s.fn H ds = { results := [.lit (.bool true)], args := ds, vars := [] })
    (hp : ∀ t ∈ fn.params.toList, plainTy C.prog d t = true ∧ (isAgg C.prog t = true ∨ C.prog.cellsOf t = 1))
    (hrun : ∀ pss : List (List PV), pss.length = fn.params.toList.length → (∀ (j : Nat) t pcs, fn.params.toList[j]? = some t → pss[j]? = some pcs → Shaped C.prog d t pcs) →
      ∃ (c : CallF) (st' : St), CallOK C.prog c ∧ c f (List.zipWith (avOf C.prog) fn.params.toList pss) st0 = some (TM.bool true, st')) :
    ReturnsInHanded {} C os f .any (s.pre6 enc C.prog fn conds apart) (s.post enc C.prog fn apart fresh handsOn again) := by
  refine returnsInHanded_of_change own started noInit hfn witness ?_
  intro W base args ds gs before hval hW _ _
  have hW' := hW
  obtain ⟨p, q, hA, hV, rfl, hz, hn⟩ := hW
  rw [hv] at hV
  obtain ⟨rfl, rfl⟩ := trodVars_none hV
  obtain ⟨pss, q1, q2, q3, q4⟩ := args_avr (b0 := base) (d := d) _ _ _ _ hA (fun j t v ht hv => hval j t v (by simpa using ht) (by simpa using hv)) hp
  obtain ⟨c, st', hc, hrun⟩ := hrun pss q1 q3
  have hsz : args.size = (List.zipWith (avOf C.prog) fn.params.toList pss).length := by
    rw [List.length_zipWith, q1, Nat.min_self]
    simpa using q2
  refine (sound_of hc hrun (W := W) (im := seen W) (fun B j h => h) hsz (fun j x hx => by simpa using q4 j x hx)).mono fun e W' he => ?_
  cases e with
  | panicked c => exact he.elim
  | outgrown => exact he.elim
  | returned u =>
    obtain ⟨hb, Y, rfl, hu⟩ := he
    have hu' : u = .bool true := by
      cases hu with
      | pv h => cases h with
        | sc _ => rfl
    subst hu'
    refine ⟨_, rfl, law_post hW' hb hl hr hv ht ub ?_⟩
    rw [List.append_nil]
    refine hs ds ?_
    have : ds.length = fn.params.toList.length := trodAll_len hA
    simpa using this
end
end Go.TM
