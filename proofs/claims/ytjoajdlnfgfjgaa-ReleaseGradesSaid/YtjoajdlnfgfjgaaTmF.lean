/- The tree machine: keys of maps. -/
import Derived.Test.YtjoajdlnfgfjgaaTmE
namespace Go.TM
open Go.RowKit

theorem keyOk_len {P : Program} {d : Nat} {t : TypeId} {xs : List Value} (h : keyOk P d t xs = true) :
    (∃ e, P.underlying t = some e) ∧ xs.length = (if TM.isAgg P t then P.cellsOf t else 1) := by
  cases d with
  | zero => cases h
  | succ d =>
    unfold keyOk at h
    split at h
    · rename_i fs hd
      simp only [Bool.and_eq_true, beq_iff_eq] at h
      exact ⟨⟨_, hd⟩, by simp [TM.isAgg, hd, h.1]⟩
    · rename_i n e hd
      simp only [Bool.and_eq_true, beq_iff_eq] at h
      exact ⟨⟨_, hd⟩, by simp [TM.isAgg, hd, h.1.1]⟩
    · rename_i hd; exact ⟨⟨_, hd⟩, by simp [TM.isAgg, hd]; simpa using h⟩
    · rename_i hd; exact ⟨⟨_, hd⟩, by simp [TM.isAgg, hd]; simpa using h⟩
    · rename_i hd; exact ⟨⟨_, hd⟩, by simp [TM.isAgg, hd]; simpa using h⟩
    · cases h

theorem checkKey_sound {P : Program} (em : Bool) : ∀ (d : Nat) (t : TypeId) (xs : List Value), keyOk P d t xs = true → ∀ (D : Nat) (w : World), d ≤ D →
    (Instr.checkKey em D t (valOf P t xs)).run P w = .ok () w
  | 0, _, _, h, _, _, _ => by cases h
  | d + 1, t, xs, h, D, w, hD => by
    obtain ⟨D, rfl⟩ : ∃ E, D = E + 1 := ⟨D - 1, by omega⟩
    unfold keyOk at h
    split at h
    · rename_i fs hd
      have ha : TM.isAgg P t = true := by simp [TM.isAgg, hd]
      simp only [Bool.and_eq_true] at h
      simp only [valOf, ha, if_true, Instr.checkKey, Sem.run_bind, run_underlying hd, Result.andThen_ok]
      have key : ∀ l : List Field, okFs P (keyOk P d) xs l = true →
          (forIn l PUnit.unit (fun f _ => do
            if f.name ≠ "_" then Instr.checkKey em D f.type (← part f.type xs.toArray f.offset)
            pure (ForInStep.yield PUnit.unit)) : Sem PUnit).run P w = .ok PUnit.unit w := by
        intro l
        induction l with
        | nil => intro _; rfl
        | cons f r ih =>
          intro hl
          simp only [okFs, Bool.and_eq_true, bne_iff_ne, ne_eq] at hl
          obtain ⟨⟨hn, hk⟩, hr⟩ := hl
          obtain ⟨⟨e, he⟩, hlen⟩ := keyOk_len hk
          have h1 := checkKey_sound em d f.type _ hk D w (by omega)
          rw [List.forIn_cons]
          simp only [ne_eq, hn, not_false_eq_true, if_true, Sem.run_bind, part_sub he xs _ hlen, h1, Result.andThen_ok, Sem.run_pure]
          have := ih hr
          simpa using this
      have := key fs.toList h.2
      rw [Array.forIn_toList] at this
      simp at this ⊢
      rw [this]; rfl
    · rename_i n e hd
      have ha : TM.isAgg P t = true := by simp [TM.isAgg, hd]
      simp only [Bool.and_eq_true] at h
      obtain ⟨⟨hl, hk⟩, hi⟩ := h
      obtain ⟨de, hde⟩ := known_some hk
      simp only [valOf, ha, if_true, Instr.checkKey, Sem.run_bind, run_underlying hd, Result.andThen_ok]
      simp only [Std.Legacy.Range.forIn_eq_forIn_range', Std.Legacy.Range.size, Nat.sub_zero, Nat.add_one_sub_one, Nat.div_one]
      have key : ∀ (m i : Nat), okIs P e (keyOk P d) xs m i = true →
          (forIn (List.range' i m) PUnit.unit (fun i _ => do
            Instr.checkKey em D e (← part e xs.toArray (i * (← sizeOf e)))
            pure (ForInStep.yield PUnit.unit)) : Sem PUnit).run P w = .ok PUnit.unit w := by
        intro m
        induction m with
        | zero => intro i _; rfl
        | succ m ih =>
          intro i hm
          simp only [okIs, Bool.and_eq_true] at hm
          obtain ⟨⟨e', he'⟩, hlen⟩ := keyOk_len hm.1
          have h1 := checkKey_sound em d e _ hm.1 D w (by omega)
          rw [List.range'_succ, List.forIn_cons]
          simp only [Sem.run_bind, run_sizeOf' hde, part_sub he' xs _ hlen, h1, Result.andThen_ok, Sem.run_pure]
          have := ih (i + 1) hm.2
          simpa using this
      have := key n 0 hi
      simp at this ⊢
      rw [this]; rfl
    · rename_i hd; simp [Instr.checkKey, run_underlying hd]
    · rename_i hd; simp [Instr.checkKey, run_underlying hd]
    · rename_i hd; simp [Instr.checkKey, run_underlying hd]
    · cases h

/-- a key as the world holds it -/
def KeyV (v : Value) (k : Bool × List Value) : Prop := (k.1 = false ∧ k.2 = [v]) ∨ (k.1 = true ∧ ∃ a : Array Value, v = .agg a ∧ a.toList = k.2)

theorem scs_sound {X : Cx} : ∀ (cs : List AV) (vs : List Value) (a : Array Value), scs cs = some vs → a.size = cs.length → (∀ j x, cs[j]? = some x → AVR X (a.getD j undef) x) → a.toList = vs
  | [], vs, a, h, hl, _ => by
    obtain rfl := Option.some.inj h
    have : a.size = 0 := hl
    simpa using this
  | .pv (.sc v) :: r, vs, a, h, hl, hr => by
    simp only [scs] at h
    cases hs : scs r with
    | none => rw [hs] at h; cases h
    | some ws =>
      rw [hs] at h
      obtain rfl := Option.some.inj h
      obtain ⟨l⟩ := a
      cases l with
      | nil => simp at hl
      | cons y l =>
        have h0 := hr 0 _ rfl
        have ih := scs_sound (X := X) r ws l.toArray hs (by simpa using hl) fun j x hj => by
          have := hr (j + 1) x hj
          simpa using this
        have : y = v := by
          cases h0 with
          | pv hp => cases hp; rfl
        subst this
        simp at ih
        simp [ih]
  | .pv (.sl ..) :: _, _, _, h, _, _ => by cases h
  | .pv (.pt ..) :: _, _, _, h, _, _ => by cases h
  | .pv (.ifc ..) :: _, _, _, h, _, _ => by cases h
  | .g .. :: _, _, _, h, _, _ => by cases h
  | .lp .. :: _, _, _, h, _, _ => by cases h
  | .ls .. :: _, _, _, h, _, _ => by cases h
  | .lm .. :: _, _, _, h, _, _ => by cases h
  | .fn .. :: _, _, _, h, _, _ => by cases h
  | .ifc .. :: _, _, _, h, _, _ => by cases h
  | .agg .. :: _, _, _, h, _, _ => by cases h
  | .tup .. :: _, _, _, h, _, _ => by cases h
  | .bad :: _, _, _, h, _, _ => by cases h

theorem keyOf_sound {X : Cx} {u : Value} {a : AV} {k : Bool × List Value} (hu : AVR X u a) (h : keyOf a = some k) : KeyV u k := by
  unfold keyOf at h
  split at h
  · obtain rfl := Option.some.inj h
    cases hu with
    | pv hp => cases hp; exact .inl ⟨rfl, rfl⟩
  · split at h
    · rename_i vs hs
      obtain rfl := Option.some.inj h
      cases hu with
      | agg h1 h2 _ => exact .inr ⟨rfl, _, rfl, scs_sound _ _ _ hs h1 h2⟩
    · cases h
  · cases h

theorem KeyV.val {P : Program} {t : TypeId} {u : Value} {k : Bool × List Value} (h : KeyV u k) (ht : k.1 = TM.isAgg P t) : u = valOf P t k.2 := by
  rcases h with ⟨h1, h2⟩ | ⟨h1, a, rfl, h2⟩
  · rw [h1] at ht
    simp [valOf, ← ht, h2]
  · rw [h1] at ht
    simp [valOf, ← ht, ← h2]

theorem sameNow_sound {P : Program} {kt : TypeId} {k : TypeDesc} {a b : Value} {r : Bool} (_hd : P.underlying kt = some k) (h : scEq k a b = some r) :
    Instr.sameNow k a b = some r := by
  unfold scEq at h
  split at h
  · split at h
    · rename_i hk
      obtain rfl := Option.some.inj h
      simp [Instr.sameNow, hk]
    · cases h
  · obtain rfl := Option.some.inj h; rfl
  · obtain rfl := Option.some.inj h; rfl
  · cases h

theorem sameNow_agg {k : TypeDesc} {a : Array Value} {v : Value} : Instr.sameNow k (.agg a) v = none := by
  cases k <;> rfl

/-- the entries of the world beside those of the state -/
def Ents (es : List Ent) (EN : List MapEntry) : Prop := EN.length = es.length ∧ ∀ (j : Nat) (m : MapEntry) (e : Ent), EN[j]? = some m → es[j]? = some e → KeyV m.key (e.kagg, e.key)

theorem findAsking_sound {P : Program} {kt : TypeId} {k : Bool × List Value} {u : Value} (hu : u = valOf P kt k.2) {w : World} : ∀ (es : List Ent) (EN : List MapEntry) (i : Nat) (r : Option Ent),
    findKey P kt k es = some r → Ents es EN →
    (r = none ∧ (Instr.findAsking kt u EN i).run P w = .ok none w) ∨
    ∃ (j : Nat) (e : Ent) (m : MapEntry), r = some e ∧ es[j]? = some e ∧ EN[j]? = some m ∧ (Instr.findAsking kt u EN i).run P w = .ok (some (i + j, m.val)) w
  | [], EN, i, r, h, hE => by
    obtain rfl := Option.some.inj h
    have : EN = [] := by have := hE.1; simpa using this
    subst this
    exact .inl ⟨rfl, rfl⟩
  | e :: es, [], _, _, _, hE => by have := hE.1; simp at this
  | e :: es, m :: EN, i, r, h, hE => by
    have hE' : Ents es EN := ⟨by have := hE.1; simpa using this, fun j m' e' h1 h2 => hE.2 (j + 1) m' e' h1 h2⟩
    unfold findKey at h
    split at h
    case isFalse => cases h
    rename_i hc
    simp only [Bool.and_eq_true, beq_iff_eq] at hc
    have hm : m.key = valOf P kt e.key := (hE.2 0 m e rfl rfl).val (hc.2.symm.trans hc.1)
    cases hq : eqV P 8 kt k.2 e.key with
    | none => rw [hq] at h; cases h
    | some b =>
      have hrun : (Op.equal kt u m.key).run P w = .ok b w := by rw [hu, hm]; exact eqV_sound 8 kt _ _ b hq 10000 w (by omega)
      rw [hq] at h
      cases b with
      | true =>
        obtain rfl := Option.some.inj h
        exact .inr ⟨0, e, m, rfl, rfl, rfl, by simp [Instr.findAsking, hrun]⟩
      | false =>
        rcases findAsking_sound (w := w) hu es EN (i + 1) r h hE' with ⟨h1, h2⟩ | ⟨j, e', m', h1, h2, h3, h4⟩
        · exact .inl ⟨h1, by simp [Instr.findAsking, hrun, h2]⟩
        · exact .inr ⟨j + 1, e', m', h1, h2, h3, by simp [Instr.findAsking, hrun, h4, Nat.add_assoc, Nat.add_comm 1 j]⟩

theorem findNow_sound {P : Program} {kt : TypeId} {k : Bool × List Value} {u : Value} (hu : u = valOf P kt k.2) {d : TypeDesc} (hd : P.underlying kt = some d) (ha : TM.isAgg P kt = false) :
    ∀ (es : List Ent) (EN : List MapEntry) (i : Nat) (r : Option Ent), findKey P kt k es = some r → Ents es EN →
    (r = none ∧ Instr.findNow d u EN i = some none) ∨
    ∃ (j : Nat) (e : Ent) (m : MapEntry), r = some e ∧ es[j]? = some e ∧ EN[j]? = some m ∧ Instr.findNow d u EN i = some (some (i + j, m.val))
  | [], EN, i, r, h, hE => by
    obtain rfl := Option.some.inj h
    have : EN = [] := by have := hE.1; simpa using this
    subst this
    exact .inl ⟨rfl, rfl⟩
  | e :: es, [], _, _, _, hE => by have := hE.1; simp at this
  | e :: es, m :: EN, i, r, h, hE => by
    have hE' : Ents es EN := ⟨by have := hE.1; simpa using this, fun j m' e' h1 h2 => hE.2 (j + 1) m' e' h1 h2⟩
    unfold findKey at h
    split at h
    case isFalse => cases h
    rename_i hc
    simp only [Bool.and_eq_true, beq_iff_eq] at hc
    have hm : m.key = valOf P kt e.key := (hE.2 0 m e rfl rfl).val (hc.2.symm.trans hc.1)
    cases hq : eqV P 8 kt k.2 e.key with
    | none => rw [hq] at h; cases h
    | some b =>
      have hs : Instr.sameNow d u m.key = some b := by
        rw [hu, hm]
        simp only [valOf, ha, Bool.false_eq_true, if_false]
        have hq' := hq
        unfold eqV at hq'
        rw [hd] at hq'
        cases d with
        | struct fs => simp [TM.isAgg, hd] at ha
        | array n e => simp [TM.isAgg, hd] at ha
        | _ =>
          simp only at hq'
          split at hq'
          · rename_i q1 q2
            rw [q1, q2]
            exact sameNow_sound hd hq'
          · cases hq'
      rw [hq] at h
      cases b with
      | true =>
        obtain rfl := Option.some.inj h
        exact .inr ⟨0, e, m, rfl, rfl, rfl, by simp [Instr.findNow, hs]⟩
      | false =>
        rcases findNow_sound hu hd ha es EN (i + 1) r h hE' with ⟨h1, h2⟩ | ⟨j, e', m', h1, h2, h3, h4⟩
        · exact .inl ⟨h1, by simp [Instr.findNow, hs, h2]⟩
        · exact .inr ⟨j + 1, e', m', h1, h2, h3, by simp [Instr.findNow, hs, h4, Nat.add_assoc, Nat.add_comm 1 j]⟩

theorem findKey_sound {P : Program} {kt : TypeId} {k : Bool × List Value} {u : Value} (hu : KeyV u k) (hk : keyOk P 8 kt k.2 = true) (hg : k.1 = TM.isAgg P kt) {es : List Ent} {EN : List MapEntry} {r : Option Ent}
    (h : findKey P kt k es = some r) (hE : Ents es EN) (w : World) :
    (r = none ∧ (Instr.findKey kt u EN).run P w = .ok none w) ∨
    ∃ (j : Nat) (e : Ent) (m : MapEntry), r = some e ∧ es[j]? = some e ∧ EN[j]? = some m ∧ (Instr.findKey kt u EN).run P w = .ok (some (j, m.val)) w := by
  obtain ⟨⟨d, hd⟩, _⟩ := keyOk_len hk
  have hv := hu.val hg
  unfold Instr.findKey
  cases ha : TM.isAgg P kt with
  | false =>
    rcases findNow_sound hv hd ha es EN 0 r h hE with ⟨h1, h2⟩ | ⟨j, e', m', h1, h2, h3, h4⟩
    · exact .inl ⟨h1, by simp [run_underlying hd, h2]⟩
    · exact .inr ⟨j, e', m', h1, h2, h3, by simp [run_underlying hd, h4]⟩
  | true =>
    have hagg : ∃ a, u = .agg a := by rw [hv]; simp [valOf, ha]
    obtain ⟨a, rfl⟩ := hagg
    cases EN with
    | nil =>
      have : es = [] := List.eq_nil_of_length_eq_zero hE.1.symm
      subst this
      obtain rfl := Option.some.inj h
      exact .inl ⟨rfl, by simp [run_underlying hd, Instr.findNow]⟩
    | cons m EN =>
      have hn : Instr.findNow d (.agg a) (m :: EN) 0 = none := by simp [Instr.findNow, sameNow_agg]
      rcases findAsking_sound (w := w) hv es (m :: EN) 0 r h hE with ⟨h1, h2⟩ | ⟨j, e', m', h1, h2, h3, h4⟩
      · exact .inl ⟨h1, by simp [run_underlying hd, hn, h2]⟩
      · exact .inr ⟨j, e', m', h1, h2, h3, by simp [run_underlying hd, hn, h4]⟩

end Go.TM
