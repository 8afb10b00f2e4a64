/- The tree machine: writing into maps. -/
import Derived.Test.YtjoajdlnfgfjgaaTmI
namespace Go.TM
open Go.RowKit

def plain : Value → Bool
  | .int .. | .bool _ | .string _ => true
  | _ => false

theorem bytes_eq {a b : ByteArray} : (a == b) = true ↔ a = b := by
  rw [beq_toListBytes, ByteArray.toList_eq, ByteArray.toList_eq, beq_iff_eq]
  constructor
  · intro h
    obtain ⟨⟨x⟩⟩ := a
    obtain ⟨⟨y⟩⟩ := b
    simp at h
    rw [h]
  · intro h; rw [h]

theorem scEq_plain {k : TypeDesc} {a b : Value} {r : Bool} (h : scEq k a b = some r) : plain a = true ∧ (r = true → a = b) := by
  unfold scEq at h
  split at h
  · split at h
    case isFalse => cases h
    rename_i hk
    obtain rfl := Option.some.inj h
    exact ⟨rfl, fun e => by rw [hk, beq_iff_eq.1 e]⟩
  · obtain rfl := Option.some.inj h
    exact ⟨rfl, fun e => by rw [beq_iff_eq.1 e]⟩
  · obtain rfl := Option.some.inj h
    exact ⟨rfl, fun e => by rw [bytes_eq.1 e]⟩
  · cases h

def Cov (xs ys : List Value) (r : Bool) : Prop := (∀ c ∈ xs, plain c = true) ∧ (r = true → xs = ys)

theorem Cov.append {xs ys xs' ys' : List Value} {a b : Bool} (h : Cov xs ys a) (k : Cov xs' ys' b) : Cov (xs ++ xs') (ys ++ ys') (a && b) := by
  refine ⟨fun c hc => ?_, fun e => ?_⟩
  · rcases List.mem_append.1 hc with q | q
    · exact h.1 c q
    · exact k.1 c q
  · simp only [Bool.and_eq_true] at e
    rw [h.2 e.1, k.2 e.2]

theorem eqFs_cov {P : Program} {eq : TypeId → List Value → List Value → Option Bool} {ok : TypeId → Bool} {xs ys : List Value}
    (ih : ∀ t as bs r, ok t = true → eq t as bs = some r → Cov as bs r) : ∀ (fs : List Field) (o m : Nat) (r : Bool), tilesFs P ok fs o = some m → eqFs P eq xs ys fs = some r →
      o ≤ m ∧ Cov ((xs.drop o).take (m - o)) ((ys.drop o).take (m - o)) r
  | [], o, m, r, ht, h => by
    obtain rfl := Option.some.inj ht
    refine ⟨Nat.le_refl _, ?_, fun _ => ?_⟩ <;> simp
  | f :: fs, o, m, r, ht, h => by
    unfold tilesFs at ht
    split at ht
    case isFalse => cases ht
    rename_i hc
    simp only [Bool.and_eq_true, beq_iff_eq, bne_iff_ne, ne_eq, Bool.or_eq_true] at hc
    obtain ⟨⟨⟨h1, h2⟩, h3⟩, h4⟩ := hc
    unfold eqFs at h
    split at h
    case isTrue => cases h
    obtain ⟨x, y, e1, e2, rfl⟩ := both_some h
    obtain ⟨i1, i2⟩ := eqFs_cov ih fs _ m y ht e2
    have hs : ∀ zs : List Value, sub P f.type zs f.offset = (zs.drop o).take (P.cellsOf f.type) := by
      intro zs
      unfold sub
      rw [h1]
      cases ha : TM.isAgg P f.type with
      | true => simp
      | false =>
        rw [ha] at h4
        simp only [Bool.false_eq_true, false_or] at h4
        simp [h4]
    rw [hs, hs] at e1
    have c1 := ih _ _ _ _ h3 e1
    refine ⟨by omega, ?_⟩
    have split_ : ∀ zs : List Value, (zs.drop o).take (m - o) = (zs.drop o).take (P.cellsOf f.type) ++ (zs.drop (o + P.cellsOf f.type)).take (m - (o + P.cellsOf f.type)) := by
      intro zs
      rw [show m - o = P.cellsOf f.type + (m - (o + P.cellsOf f.type)) by omega, List.take_add, List.drop_drop]
    rw [split_, split_]
    exact c1.append i2

theorem eqIs_cov {P : Program} {e : TypeId} {eq : TypeId → List Value → List Value → Option Bool} {ok : TypeId → Bool} {xs ys : List Value}
    (ih : ∀ t as bs r, ok t = true → eq t as bs = some r → Cov as bs r) (he : ok e = true) (h4 : TM.isAgg P e = true ∨ P.cellsOf e = 1) : ∀ (n i : Nat) (r : Bool), eqIs P e eq xs ys n i = some r →
      Cov ((xs.drop (i * P.cellsOf e)).take (n * P.cellsOf e)) ((ys.drop (i * P.cellsOf e)).take (n * P.cellsOf e)) r
  | 0, i, r, h => by refine ⟨?_, fun _ => ?_⟩ <;> simp
  | n + 1, i, r, h => by
    unfold eqIs at h
    obtain ⟨x, y, e1, e2, rfl⟩ := both_some h
    have i2 := eqIs_cov ih he h4 n (i + 1) y e2
    have hs : ∀ zs : List Value, sub P e zs (i * P.cellsOf e) = (zs.drop (i * P.cellsOf e)).take (P.cellsOf e) := by
      intro zs
      unfold sub
      rcases h4 with h4 | h4
      · simp [h4]
      · cases ha : TM.isAgg P e <;> simp [h4]
    rw [hs, hs] at e1
    have c1 := ih _ _ _ _ he e1
    have split_ : ∀ zs : List Value, (zs.drop (i * P.cellsOf e)).take ((n + 1) * P.cellsOf e) = (zs.drop (i * P.cellsOf e)).take (P.cellsOf e) ++ (zs.drop ((i + 1) * P.cellsOf e)).take (n * P.cellsOf e) := by
      intro zs
      rw [Nat.succ_mul, Nat.add_comm (n * P.cellsOf e), List.take_add, List.drop_drop, Nat.succ_mul]
    rw [split_, split_]
    exact c1.append i2

theorem eqV_cov {P : Program} : ∀ (d : Nat) (t : TypeId) (xs ys : List Value) (r : Bool), tiles P d t = true → eqV P d t xs ys = some r → Cov xs ys r
  | 0, _, _, _, _, h, _ => by cases h
  | d + 1, t, xs, ys, r, ht, h => by
    have hl := (eqV_len h).2
    unfold tiles at ht
    unfold eqV at h
    split at h
    · rename_i fs hd
      rw [hd] at ht
      simp only [beq_iff_eq] at ht
      split at h
      · cases h
      · obtain ⟨_, i2⟩ := eqFs_cov (eqV_cov d) _ _ _ _ ht h
        have ha : TM.isAgg P t = true := by simp [TM.isAgg, hd]
        rw [if_pos ha] at hl
        simpa [List.take_of_length_le, hl.1, hl.2] using i2
    · rename_i n e hd
      rw [hd] at ht
      simp only [Bool.and_eq_true, beq_iff_eq, Bool.or_eq_true] at ht
      split at h
      · have i2 := eqIs_cov (eqV_cov d) ht.1.1 ht.1.2 _ _ _ h
        have ha : TM.isAgg P t = true := by simp [TM.isAgg, hd]
        rw [if_pos ha] at hl
        rw [ht.2] at i2
        simpa [List.take_of_length_le, hl.1, hl.2] using i2
      · cases h
    · split at h
      · obtain ⟨q1, q2⟩ := scEq_plain h
        refine ⟨fun c hc => ?_, fun e => by rw [q2 e]⟩
        rw [List.mem_singleton] at hc
        rw [hc]; exact q1
      · cases h
    · cases h

theorem sameBits_plain {v : Value} (n : Nat) (h : plain v = true) : Instr.sameBits n v v = true := by
  cases v <;> first | (simp [plain] at h; done) | (cases n <;> simp [Instr.sameBits, bytes_eq])

theorem sameBits_key {P : Program} {t : TypeId} {xs : List Value} (hn : xs.length = if TM.isAgg P t then P.cellsOf t else 1) (h : ∀ c ∈ xs, plain c = true) (n : Nat) : Instr.sameBits (n + 1) (valOf P t xs) (valOf P t xs) = true := by
  unfold valOf
  cases ha : TM.isAgg P t with
  | true =>
    simp only [if_true]
    simp only [Instr.sameBits, beq_self_eq_true, Bool.true_and, List.all_eq_true]
    rintro ⟨x, y⟩ hxy
    obtain ⟨i, hi⟩ := List.getElem?_of_mem hxy
    rw [List.getElem?_zip_eq_some] at hi
    obtain ⟨h1, h2⟩ := hi
    obtain rfl : x = y := Option.some.inj (h1.symm.trans h2)
    exact sameBits_plain n (h x (by simpa using List.mem_of_getElem? h1))
  | false =>
    rw [ha] at hn
    match xs, hn with
    | [x], _ => simpa using sameBits_plain (n + 1) (h x (by simp))


section
variable {P : Program} {D : Bs} {X : Cx} {st : St}

def World.setMap (w : World) (B : Nat) (o : Go.Obj) : World := { w with heap := w.heap.setIfInBounds B o }

theorem run_setMap {w : World} {B : Nat} {EN : Array MapEntry} {k : Nat} (h : w.heap[B]? = some (.map EN k)) (o : Go.Obj) : (setObj B o).run P w = .ok () (World.setMap w B o) := by
  simp [setObj, Sem.run, h, World.setMap]

theorem run_getMap {w : World} {B : Nat} {EN : Array MapEntry} {k : Nat} (h : w.heap[B]? = some (.map EN k)) : (getObj B).run P w = .ok (.map EN k) w := by simp [getObj, Sem.run, h]

theorem setMap_other (w : World) (B : Nat) (o : Go.Obj) (k : Nat) (h : k ≠ B) : (World.setMap w B o).heap[k]? = w.heap[k]? := by
  simp only [World.setMap]
  rw [Array.getElem?_setIfInBounds_ne (Ne.symm h)]

theorem setMap_self {w : World} {B : Nat} {EN : Array MapEntry} {k : Nat} (h : w.heap[B]? = some (.map EN k)) (o : Go.Obj) : (World.setMap w B o).heap[B]? = some o := by
  have hlt : B < w.heap.size := (Array.getElem?_eq_some_iff.1 h).1
  simp only [World.setMap]
  rw [Array.getElem?_setIfInBounds_self_of_lt hlt]

theorem setMap_same {w : World} {B : Nat} {EN : Array MapEntry} {k : Nat} (h : w.heap[B]? = some (.map EN k)) : World.setMap w B (.map EN k) = w := by
  have hlt : B < w.heap.size := (Array.getElem?_eq_some_iff.1 h).1
  have hv : w.heap[B] = .map EN k := (Array.getElem?_eq_some_iff.1 h).2
  unfold World.setMap
  cases w with
  | mk heap tape drawn os output =>
    congr 1
    apply Array.ext
    · simp
    · intro i h1 h2
      rw [Array.getElem_setIfInBounds]
      split
      · rename_i e; subst e; exact hv.symm
      · rfl

/-- the general step: block b's map is written -/
theorem SR.setMap (hS : SR D X st) {b B : Nat} (hfl : st.fl ≤ b) (hB : X.ρ b = some B) {es es' : List Ent} {k k' : Nat} {EN EN' : Array MapEntry} (ho : st.h[b]? = some (.map es k)) (hw : X.w.heap[B]? = some (.map EN k))
    (hm : ∀ born m, (es.find? (·.born == born)).bind (·.lim) = some m → ∃ m', (es'.find? (·.born == born)).bind (·.lim) = some m' ∧ m ≤ m')
    (h1 : EN'.size = es'.length) (h2 : ∀ Y, X.Le Y → Y.w = World.setMap X.w B (.map EN' k') → Y.mc = mark (setH st b (.map es' k')) → Y.κ = X.κ → ∀ (j : Nat) (m : MapEntry) (e : Ent), EN'[j]? = some m → es'[j]? = some e → EntR Y b m e)
    (h3 : (es'.map (·.born)).Nodup) (h4 : ∀ e ∈ es', e.born < k') :
    ∃ Y, X.Le Y ∧ SR D Y (setH st b (.map es' k')) ∧ Y.w = World.setMap X.w B (.map EN' k') ∧ Y.κ = X.κ ∧ Y.ρ = X.ρ := by
  have hlt : b < st.h.length := (List.getElem?_eq_some_iff.1 ho).1
  have hmark : ∀ c m, X.mc c = some m → ∃ m', mark (setH st b (.map es' k')) c = some m' ∧ m ≤ m' := by
    intro c m hc
    rw [hS.mcE] at hc
    cases c with
    | v i => exact ⟨m, hc, Nat.le_refl _⟩
    | e d born =>
      by_cases hd : b = d
      · subst hd
        rw [mark_e ho] at hc
        obtain ⟨m', e1, e2⟩ := hm born m hc
        exact ⟨m', by rw [mark_e (st := setH st b (.map es' k')) (es := es') (k := k') (by simp [setH, hlt])]; exact e1, e2⟩
      · refine ⟨m, ?_, Nat.le_refl _⟩
        simp only [mark, setH] at hc ⊢
        rw [List.getElem?_set_ne hd]; exact hc
  have hle := hS.leSet (w' := World.setMap X.w B (.map EN' k')) (mc' := mark (setH st b (.map es' k'))) hB (fun i hi => setMap_other _ _ _ _ hi) hmark
  exact ⟨_, hle, hS.set hfl hB (fun i hi => setMap_other _ _ _ _ hi) (by simp [World.setMap]) rfl rfl rfl hmark
    ⟨EN', setMap_self hw _, h1, h2 _ hle rfl rfl rfl, h3, h4⟩, rfl, rfl, rfl⟩

theorem updE_born {born : Nat} {f : Ent → Ent} (hf : ∀ x, (f x).born = x.born) (x : Ent) : (updE born f x).born = x.born := by
  unfold updE
  split
  · exact hf x
  · rfl

theorem map_born {es : List Ent} {f : Ent → Ent} (hf : ∀ x, (f x).born = x.born) : (es.map f).map (·.born) = es.map (·.born) := by
  rw [List.map_map]
  exact List.map_congr_left fun x _ => hf x

theorem find_map {es : List Ent} {f : Ent → Ent} (hf : ∀ e, (f e).born = e.born) (born : Nat) : (es.map f).find? (·.born == born) = (es.find? (·.born == born)).map f := by
  induction es with
  | nil => rfl
  | cons e r ih =>
    simp only [List.map_cons, List.find?_cons, hf]
    cases e.born == born
    · exact ih
    · rfl

/-- what the update of one entry does at each place -/
theorem upd_get {es : List Ent} {j : Nat} {e : Ent} (hn : (es.map (·.born)).Nodup) (hj : es[j]? = some e) (f : Ent → Ent) (i : Nat) :
    (es.map (updE e.born f))[i]? = if i = j then some (f e) else es[i]? := by
  rw [List.getElem?_map]
  by_cases h : i = j
  · subst h
    simp [hj, updE]
  · rw [if_neg h]
    cases hi : es[i]? with
    | none => rfl
    | some x =>
      have hne : x.born ≠ e.born := by
        intro he
        apply h
        have h1 : (es.map (·.born))[i]? = some e.born := by rw [List.getElem?_map, hi, ← he]; rfl
        have h2 : (es.map (·.born))[j]? = some e.born := by rw [List.getElem?_map, hj]; rfl
        have l1 : i < (es.map (·.born)).length := (List.getElem?_eq_some_iff.1 h1).1
        exact (List.getElem?_inj l1 hn).1 (h1.trans h2.symm)
      simp [updE, hne]

theorem born_ne {es : List Ent} {i j : Nat} {a e : Ent} (hn : (es.map (·.born)).Nodup) (hi : es[i]? = some a) (hj : es[j]? = some e) (h : i ≠ j) : a.born ≠ e.born := by
  intro he
  apply h
  have h1 : (es.map (·.born))[i]? = some e.born := by rw [List.getElem?_map, hi, ← he]; rfl
  have h2 : (es.map (·.born))[j]? = some e.born := by rw [List.getElem?_map, hj]; rfl
  exact (List.getElem?_inj (List.getElem?_eq_some_iff.1 h1).1 hn).1 (h1.trans h2.symm)

theorem modify_get {EN : Array MapEntry} {j : Nat} {m : MapEntry} (hj : EN[j]? = some m) (f : MapEntry → MapEntry) (i : Nat) : (EN.modify j f)[i]? = if i = j then some (f m) else EN[i]? := by
  rw [Array.getElem?_modify]
  by_cases h : i = j
  · subst h; simp [hj]
  · rw [if_neg (Ne.symm h), if_neg h]

theorem entV_sound {b : Nat} {u : Value} {v : AV} (h : AVR X u v) : AVR X u (entV st b v) := by
  unfold entV
  split
  · exact arg1_sound (down_sound h)
  · exact arg1_sound h

/-- an entry that is written -/
theorem EntR.write {Y : Cx} {b : Nat} {m : MapEntry} {e : Ent} (h : EntR X b m e) {u : Value} {v : AV} (hv : AVR Y u v) : EntR Y b { m with val := u } (wrE v e) := by
  refine ⟨h.1, h.2.1, hv, fun m' n cs hm hval => ?_⟩
  simp only [wrE, past, Option.map_eq_some_iff] at hm
  obtain ⟨n0, _, rfl⟩ := hm
  simp only [wrE] at hval
  rw [hval]
  simp only [lenAV]
  exact ⟨by omega, fun e => by omega⟩

/-- the key that an entry has is the key that was asked for -/
theorem key_same {kt : TypeId} {k : Bool × List Value} {es : List Ent} {e : Ent} (ht : tiles P 8 kt = true) (h : findKey P kt k es = some (some e)) : k.2 = e.key ∧ k.1 = e.kagg ∧ (∀ c ∈ k.2, plain c = true) := by
  induction es with
  | nil => cases h
  | cons a r ih =>
    unfold findKey at h
    split at h
    case isFalse => cases h
    rename_i hc
    simp only [Bool.and_eq_true, beq_iff_eq] at hc
    split at h
    · rename_i hq
      obtain rfl := Option.some.inj (Option.some.inj h)
      have := eqV_cov 8 kt _ _ _ ht hq
      exact ⟨this.2 rfl, hc.2, this.1⟩
    · exact ih h
    · cases h

theorem keyStays {kt : TypeId} {k : Bool × List Value} {u : Value} {m : MapEntry} {e : Ent} (hu : KeyV u k) (hg : k.1 = TM.isAgg P kt) (hk : keyOk P 8 kt k.2 = true) (hm : KeyR m.key e.kagg e.key) (h1 : k.2 = e.key) (h2 : k.1 = e.kagg) (h3 : ∀ c ∈ k.2, plain c = true) (w : World) :
    u = m.key ∧ (Instr.keyThatStays m.key u).run P w = .ok u w := by
  have e1 := hu.val hg
  have e2 : m.key = valOf P kt k.2 := by
    have : KeyV m.key k := by
      rcases hm with ⟨a, b, _⟩ | ⟨a, c⟩
      · exact .inl ⟨h2.trans a, h1.trans b⟩
      · obtain ⟨ar, b, c⟩ := c
        exact .inr ⟨h2.trans a, ar, b, c.trans h1.symm⟩
    exact this.val hg
  have e : u = m.key := e1.trans e2.symm
  refine ⟨e, ?_⟩
  have hs : Instr.sameBits 10000 m.key u = true := by
    rw [← e, e1]
    exact sameBits_key (keyOk_len hk).2 h3 9999
  simp [Instr.keyThatStays, hs]

/-- one entry of a map is written: f does not turn its stamp, nor lower its mark -/
theorem SR.updEnt (hS : SR D X st) {b B j : Nat} (hfl : st.fl ≤ b) (hB : X.ρ b = some B) {es : List Ent} {k : Nat} {EN : Array MapEntry} {e : Ent} {me : MapEntry} (ho : st.h[b]? = some (.map es k)) (hw : X.w.heap[B]? = some (.map EN k))
    (hj : es[j]? = some e) (hm : EN[j]? = some me) {f : Ent → Ent} (g : MapEntry → MapEntry) (hf : ∀ x, (f x).born = x.born) (hlim : ∀ n, e.lim = some n → ∃ n', (f e).lim = some n' ∧ n ≤ n')
    (hr : ∀ Y, X.Le Y → Y.w = World.setMap X.w B (.map (EN.modify j g) k) → Y.κ = X.κ → (∀ n, (f e).lim = some n → Y.mc (.e b e.born) = some n) → EntR Y b (g me) (f e)) :
    ∃ Y, X.Le Y ∧ SR D Y (setH st b (.map (es.map (updE e.born f)) k)) ∧ Y.w = World.setMap X.w B (.map (EN.modify j g) k) ∧ Y.κ = X.κ ∧ Y.ρ = X.ρ := by
  obtain ⟨EN', hw', hsz, hent, hnd, hbd⟩ := hS.obj _ _ _ ho hB
  obtain rfl : EN' = EN := by rw [hw] at hw'; injection hw' with q; injection q with q1 q2; exact q1.symm
  have hmem : e ∈ es := List.mem_of_getElem? hj
  have hub := updE_born (born := e.born) hf
  have hfind : ∀ born, (es.map (updE e.born f)).find? (·.born == born) = (es.find? (·.born == born)).map (updE e.born f) := find_map hub
  refine hS.setMap hfl hB ho hw (fun born m' hm' => ?_) (by simp [hsz]) (fun Y hle hYw hYm hYκ i m' e' hi he => ?_) (by rw [map_born hub]; exact hnd) (fun x hx => ?_)
  · rw [hfind]
    cases hx : es.find? (·.born == born) with
    | none => rw [hx] at hm'; cases hm'
    | some x =>
      rw [hx] at hm'
      simp only [Option.map_some, Option.bind_some] at hm' ⊢
      unfold updE
      split
      · rename_i hb
        have hxb : x.born = e.born := by simpa using hb
        have : x = e := by
          have q1 := find_nodup hnd (List.mem_of_find?_eq_some hx)
          rw [hxb, find_nodup hnd hmem] at q1
          exact (Option.some.inj q1).symm
        subst this
        exact hlim _ hm'
      · exact ⟨m', hm', Nat.le_refl _⟩
  · have hmk : ∀ y ∈ es, Y.mc (.e b y.born) = (updE e.born f y).lim := by
      intro y hy
      rw [hYm, mark_e (es := es.map (updE e.born f)) (k := k) (by simp [setH, (List.getElem?_eq_some_iff.1 ho).1]), hfind, find_nodup hnd hy]
      rfl
    rw [modify_get hm] at hi
    rw [upd_get hnd hj] at he
    by_cases hij : i = j
    · rw [if_pos hij] at hi he
      obtain rfl := Option.some.inj hi
      obtain rfl := Option.some.inj he
      refine hr Y hle hYw hYκ fun n hn => ?_
      rw [hmk e hmem]
      simpa [updE] using hn
    · rw [if_neg hij] at hi he
      refine (hent i m' e' hi he).mono hle fun n hn => ?_
      have hmem' := List.mem_of_getElem? he
      refine ⟨(hS.markEnt ho hB e' hmem').trans hn, ?_⟩
      rw [hmk e' hmem']
      have := born_ne hnd he hj hij
      simpa [updE, this] using hn
  · rw [List.mem_map] at hx
    obtain ⟨y, hy, rfl⟩ := hx
    rw [hub]
    exact hbd y hy

theorem find_new {es : List Ent} {e : Ent} (born m : Nat) (h : (es.find? (·.born == born)).bind (·.lim) = some m) :
    ((es ++ [e]).find? (·.born == born)).bind (·.lim) = some m := by
  cases hx : es.find? (·.born == born) with
  | none => rw [hx] at h; cases h
  | some x =>
    rw [hx] at h
    rw [List.find?_append, hx]
    exact h

/-- a new entry -/
theorem SR.newEnt (hS : SR D X st) {b B : Nat} (hfl : st.fl ≤ b) (hB : X.ρ b = some B) {es : List Ent} {k : Nat} {EN : Array MapEntry} {e : Ent} {me : MapEntry} (ho : st.h[b]? = some (.map es k)) (hw : X.w.heap[B]? = some (.map EN k))
    (hb : e.born = k) (hr : ∀ Y, X.Le Y → Y.κ (.e b k) = none → EntR Y b me e) :
    ∃ Y, X.Le Y ∧ SR D Y (setH st b (.map (es ++ [e]) (k + 1))) ∧ Y.w = World.setMap X.w B (.map (EN.push me) (k + 1)) ∧ Y.ρ = X.ρ ∧ (∀ n, e.lim = some n → Y.mc (.e b k) = some n) ∧ Y.κ (.e b k) = none := by
  obtain ⟨EN', hw', hsz, hent, hnd, hbd⟩ := hS.obj _ _ _ ho hB
  obtain rfl : EN' = EN := by rw [hw] at hw'; injection hw' with q; injection q with q1 q2; exact q1.symm
  have hno : es.find? (·.born == k) = none := by
    rw [List.find?_eq_none]
    intro x hx
    have := hbd x hx
    simp; omega
  have hκ : X.κ (.e b k) = none := by
    apply hS.κd
    rw [hS.mcE, mark_e ho, hno]
    rfl
  obtain ⟨Y, hle, hSY, hYw, hYκ', hYρ⟩ := hS.setMap (es' := es ++ [e]) (k' := k + 1) (EN' := EN'.push me) hfl hB ho hw (fun born m hm => ⟨m, find_new born m hm, Nat.le_refl _⟩) (by simp [hsz])
    (fun Y hle hYw hYm hYκ i m' e' hi he => by
      rw [Array.getElem?_push] at hi
      rw [List.getElem?_append] at he
      by_cases hi' : i = EN'.size
      · rw [if_pos hi'] at hi
        rw [if_neg (by omega)] at he
        obtain rfl := Option.some.inj hi
        rw [show i - es.length = 0 by omega] at he
        obtain rfl := Option.some.inj he
        exact hr Y hle (by rw [hYκ]; exact hκ)
      · rw [if_neg hi'] at hi
        have hlt : i < EN'.size := (Array.getElem?_eq_some_iff.1 hi).1
        rw [if_pos (by omega)] at he
        refine (hent i m' e' hi he).mono hle fun n hn => ?_
        have hmem' := List.mem_of_getElem? he
        refine ⟨(hS.markEnt ho hB e' hmem').trans hn, ?_⟩
        rw [hYm, mark_e (es := es ++ [e]) (k := k + 1) (by simp [setH, (List.getElem?_eq_some_iff.1 ho).1])]
        exact find_new _ _ (by rw [find_nodup hnd hmem']; exact hn))
    (by
      rw [List.map_append, List.nodup_append]
      refine ⟨hnd, by simp, fun x hx y hy => ?_⟩
      rw [List.mem_map] at hx
      obtain ⟨z, hz, rfl⟩ := hx
      simp only [List.map_cons, List.map_nil, List.mem_singleton] at hy
      have := hbd z hz
      rw [hy, hb]; omega)
    (by
      intro x hx
      rcases List.mem_append.1 hx with q | q
      · have := hbd x q; omega
      · rw [List.mem_singleton] at q; rw [q, hb]; omega)
  have hf : (es ++ [e]).find? (·.born == k) = some e := by
    rw [List.find?_append, hno]
    simp [hb]
  have hYκ : Y.κ (.e b k) = none := by rw [hYκ']; exact hκ
  refine ⟨Y, hle, hSY, hYw, hYρ, fun n hn => ?_, hYκ⟩
  rw [hSY.mcE, mark_e (es := es ++ [e]) (k := k + 1) (by simp [setH, (List.getElem?_eq_some_iff.1 ho).1]), hf]
  exact hn

theorem keyR_of {u : Value} {key : Bool × List Value} (h : KeyV u key) (hs : key.1 = false → scalar u = true) : KeyR u key.1 key.2 := by
  rcases h with ⟨a, b⟩ | ⟨a, b⟩
  · exact .inl ⟨a, b, hs a⟩
  · exact .inr ⟨a, b⟩

theorem keyOf_scalar {u : Value} {a : AV} {k : Bool × List Value} (hu : AVR X u a) (h : keyOf a = some k) (hk : k.1 = false) : scalar u = true := by
  unfold keyOf at h
  split at h
  · cases hu with | pv hp => ?_
    cases hp; assumption
  · split at h
    · obtain rfl := Option.some.inj h
      cases hk
    · cases h
  · cases h

theorem mapUpdate_sound (hS : SR D X st) {t : TypeId} {m k v : AV} {um uk uv : Value} {st' : St} (hm : AVR X um m) (hk : AVR X uk k) (hv : AVR X uv v) (h : mapUpdate P st t m k v = some st') :
    ∃ Y, X.Le Y ∧ SR D Y st' ∧ (Instr.mapUpdate t um uk uv).run P X.w = .ok () Y.w := by
  unfold mapUpdate at h
  split at h
  case h_2 => cases h
  rename_i kt et hd
  split at h
  case h_2 => cases h
  rename_i b key hkey
  cases hm with | lm hB => ?_
  rename_i B
  split at h
  case h_2 => cases h
  rename_i es clock ho
  split at h
  case isFalse => cases h
  rename_i hc
  simp only [Bool.and_eq_true, decide_eq_true_eq] at hc
  obtain ⟨⟨hfl, hone⟩, ht⟩ := hc
  obtain ⟨EN, hw, hsz, hent, hnd, hbd⟩ := hS.obj _ _ _ ho hB
  have hkv := keyOf_sound hk hkey
  have hgo := run_getMap (P := P) hw
  split at h
  · rename_i e hf
    split at hf
    case isFalse => cases hf
    rename_i hok
    simp only [Bool.and_eq_true, beq_iff_eq] at hok
    have hck : (Instr.checkKey false 10000 kt uk).run P X.w = .ok () X.w := by
      rw [hkv.val hok.2]; exact checkKey_sound _ 8 kt _ hok.1 10000 X.w (by omega)
    obtain ⟨s1, s2, s3⟩ := key_same ht hf
    rcases findKey_sound hkv hok.1 hok.2 hf (Ents.of hsz hent) X.w with ⟨h1, _⟩ | ⟨j, e', me, h1, h2, h3, h4⟩
    · cases h1
    obtain rfl := Option.some.inj h1
    have h3' : EN[j]? = some me := by simpa using h3
    have her := hent j me _ h3' h2
    obtain ⟨ke, kr⟩ := keyStays hkv hok.2 hok.1 her.2.1 s1 s2 s3 X.w
    obtain rfl := Option.some.inj h
    obtain ⟨Y, hle, hSY, hYw, _⟩ := hS.updEnt (f := wrE (entV st b v)) hfl hB ho hw h2 h3' (fun x => { x with key := uk, val := uv }) (fun _ => rfl) (fun n hn => by
      simp only [wrE, past, hn, Option.map_some]; exact ⟨_, rfl, by omega⟩) (fun Y hle _ _ _ => by
        rw [ke]
        exact her.write ((entV_sound hv).mono hle))
    refine ⟨Y, hle, hSY, ?_⟩
    rw [hYw]
    simp [Instr.mapUpdate, run_underlying hd, hgo, hck, h4, h3', kr, run_setMap hw]
  · rename_i hf
    split at hf
    case isFalse => cases hf
    rename_i hok
    simp only [Bool.and_eq_true, beq_iff_eq] at hok
    have hck : (Instr.checkKey false 10000 kt uk).run P X.w = .ok () X.w := by
      rw [hkv.val hok.2]; exact checkKey_sound _ 8 kt _ hok.1 10000 X.w (by omega)
    rcases findKey_sound hkv hok.1 hok.2 hf (Ents.of hsz hent) X.w with ⟨_, h4⟩ | ⟨j, e', me, h1, _⟩
    · obtain rfl := Option.some.inj h
      obtain ⟨Y, hle, hSY, hYw, _⟩ := hS.newEnt (me := { key := uk, val := uv, born := clock }) (e := { kagg := key.1, key := key.2, val := entV st b v, born := clock, lim := none }) hfl hB ho hw rfl
        (fun Y hle _ => ⟨rfl, keyR_of hkv (keyOf_scalar hk hkey), (entV_sound hv).mono hle, fun m' n cs hm => by cases hm⟩)
      refine ⟨Y, hle, hSY, ?_⟩
      rw [hYw]
      simp [Instr.mapUpdate, run_underlying hd, hgo, hck, h4, run_setMap hw]
    · cases h1
  · cases h

theorem tup2_sound {Y : Cx} {u : Value} {v : AV} {n : Nat} (h : AVR Y u v) : AVR Y (.tuple #[u, goInt n]) (.tup [v, int n]) := by
  refine .tup rfl fun j x hj => ?_
  match j, hj with
  | 0, hj => obtain rfl := Option.some.inj hj; exact h
  | 1, hj => obtain rfl := Option.some.inj hj; exact .pv (.sc rfl)

theorem modify_self {EN : Array MapEntry} {j : Nat} {m : MapEntry} (hj : EN[j]? = some m) {f : MapEntry → MapEntry} (hf : f m = m) : EN.modify j f = EN := by
  apply Array.ext_getElem?
  intro i
  rw [modify_get hj]
  split
  · rename_i e; rw [e, hj, hf]
  · rfl

theorem mapEntry_sound (hS : SR D X st) {t : TypeId} {m k v : AV} {um uk : Value} {st' : St} (hm : AVR X um m) (hk : AVR X uk k) (h : mapEntry P st t m k = some (v, st')) :
    Done D X P (Instr.mapEntry t um uk) v st' := by
  unfold mapEntry at h
  split at h
  case h_2 => cases h
  rename_i kt et hd
  split at h
  case h_2 => cases h
  rename_i b key hkey
  cases hm with | lm hB => ?_
  rename_i B
  split at h
  case h_2 => cases h
  rename_i es clock ho
  split at h
  case isFalse => cases h
  rename_i hc
  simp only [Bool.and_eq_true, decide_eq_true_eq] at hc
  obtain ⟨hfl, ht⟩ := hc
  obtain ⟨EN, hw, hsz, hent, hnd, hbd⟩ := hS.obj _ _ _ ho hB
  have hkv := keyOf_sound hk hkey
  have hgo := run_getMap (P := P) hw
  split at h
  · rename_i e hf
    split at hf
    case isFalse => cases hf
    rename_i hok
    simp only [Bool.and_eq_true, beq_iff_eq] at hok
    have hck : (Instr.checkKey false 10000 kt uk).run P X.w = .ok () X.w := by
      rw [hkv.val hok.2]; exact checkKey_sound _ 8 kt _ hok.1 10000 X.w (by omega)
    obtain ⟨s1, s2, s3⟩ := key_same ht hf
    rcases findKey_sound hkv hok.1 hok.2 hf (Ents.of hsz hent) X.w with ⟨h1, _⟩ | ⟨j, e', me, h1, h2, h3, h4⟩
    · cases h1
    obtain rfl := Option.some.inj h1
    have h3' : EN[j]? = some me := by simpa using h3
    have her := hent j me _ h3' h2
    obtain ⟨ke, kr⟩ := keyStays hkv hok.2 hok.1 her.2.1 s1 s2 s3 X.w
    have hself : EN.modify j (fun x => { x with key := uk }) = EN := modify_self h3' (by rw [ke])
    have hrun : (Instr.mapEntry t (.map (some B)) uk).run P X.w = .ok (.tuple #[me.val, goInt e.born]) X.w := by
      have hself' := setMap_same hw
      simp [Instr.mapEntry, run_underlying hd, hgo, hck, h4, h3', kr, hself, run_setMap hw, hself', her.1]
    split at h
    · rename_i n cs l hval hlim
      obtain ⟨rfl, rfl⟩ := Prod.mk.inj (Option.some.inj h)
      have q := her.2.2.2 _ _ _ hlim hval
      have hp := AVR.sl her.2.2.1 (.inl hval)
      exact ⟨X, _, .refl X, hS, tup2_sound (.g hp ((hS.markEnt ho hB e (List.mem_of_getElem? h2)).trans hlim) q.1 q.2), hrun⟩
    · obtain ⟨rfl, rfl⟩ := Prod.mk.inj (Option.some.inj h)
      exact ⟨X, _, .refl X, hS, tup2_sound her.2.2.1, hrun⟩
  · rename_i hf
    split at hf
    case isFalse => cases hf
    rename_i hok
    simp only [Bool.and_eq_true, beq_iff_eq] at hok
    have hck : (Instr.checkKey false 10000 kt uk).run P X.w = .ok () X.w := by
      rw [hkv.val hok.2]; exact checkKey_sound _ 8 kt _ hok.1 10000 X.w (by omega)
    rcases findKey_sound hkv hok.1 hok.2 hf (Ents.of hsz hent) X.w with ⟨_, h4⟩ | ⟨j, e', me, h1, _⟩
    · split at h
      · rename_i hz
        obtain ⟨zv, hzr, hzv⟩ := zeroAV_sound (X := X) hz
        obtain rfl : zv = .slice none 0 0 := by
          cases hzv with | pv hp => ?_
          cases hp; rfl
        obtain ⟨rfl, rfl⟩ := Prod.mk.inj (Option.some.inj h)
        obtain ⟨Y, hle, hSY, hYw, hYρ, hYm, hYκ⟩ := hS.newEnt (me := { key := uk, val := .slice none 0 0, born := clock }) (e := { kagg := key.1, key := key.2, val := .pv (.sl 0 []), born := clock, lim := some 0 }) hfl hB ho hw rfl
          (fun Y hle hκ => ⟨rfl, keyR_of hkv (keyOf_scalar hk hkey), .pv .sl0, fun m' n cs hm hval => by
            obtain rfl := Option.some.inj hm
            cases hval
            exact ⟨Nat.le_refl _, fun _ => .inl ⟨hκ, rfl, rfl, rfl⟩⟩⟩)
        refine ⟨Y, _, hle, hSY, tup2_sound (u := .slice none 0 0) (.g (m := 0) .sl0 (hYm 0 rfl) (Nat.le_refl _) fun _ => .inl ⟨hYκ, rfl, rfl, rfl⟩), ?_⟩
        rw [hYw]
        simp [Instr.mapEntry, run_underlying hd, hgo, hck, h4, run_setMap hw, hzr]
      · rename_i z hne hz
        split at h
        case isFalse => cases h
        obtain ⟨zv, hzr, hzv⟩ := zeroAV_sound (X := X) hz
        obtain ⟨rfl, rfl⟩ := Prod.mk.inj (Option.some.inj h)
        obtain ⟨Y, hle, hSY, hYw, hYρ, hYm, hYκ⟩ := hS.newEnt (me := { key := uk, val := zv, born := clock }) (e := { kagg := key.1, key := key.2, val := z, born := clock, lim := none }) hfl hB ho hw rfl
          (fun Y hle hκ => ⟨rfl, keyR_of hkv (keyOf_scalar hk hkey), hzv.mono hle, fun m' n cs hm hval => by cases hm⟩)
        refine ⟨Y, _, hle, hSY, tup2_sound (hzv.mono hle), ?_⟩
        rw [hYw]
        simp [Instr.mapEntry, run_underlying hd, hgo, hck, h4, run_setMap hw, hzr]
      · cases h
    · cases h1
  · cases h

theorem findIdx_born {EN : Array MapEntry} {es : List Ent} {j : Nat} {e : Ent} {me : MapEntry} {z : Int} (hE : ∀ (j : Nat) (m : MapEntry) (e : Ent), EN[j]? = some m → es[j]? = some e → m.born = e.born) (hsz : EN.size = es.length)
    (hn : (es.map (·.born)).Nodup) (hj : es[j]? = some e) (hm : EN[j]? = some me) (hz : (e.born : Int) = z) : EN.findIdx? (fun x => (x.born : Int) == z) = some j := by
  rw [Array.findIdx?_eq_some_iff_getElem]
  obtain ⟨hlt, hv⟩ := Array.getElem?_eq_some_iff.1 hm
  refine ⟨hlt, ?_, fun i hi => ?_⟩
  · rw [hv, hE j me e hm hj]; simpa using hz
  · have hlt' : i < es.length := by omega
    have h1 : EN[i]? = some EN[i] := by simp
    have h2 : es[i]? = some es[i] := List.getElem?_eq_getElem hlt'
    have := born_ne hn h2 hj (by omega)
    rw [hE i _ _ h1 h2]
    simp
    omega

theorem entryStore_sound (hS : SR D X st) {t : TypeId} {m s v : AV} {um us uv : Value} {st' : St} (hm : AVR X um m) (hs : AVR X us s) (hv : AVR X uv v) (h : entryStore st m s v = some st') :
    ∃ Y, X.Le Y ∧ SR D Y st' ∧ (Instr.entryStore t um us uv).run P X.w = .ok () Y.w := by
  unfold entryStore at h
  split at h
  case h_2 => cases h
  rename_i b z hz
  cases hm with | lm hB => ?_
  rename_i B
  obtain ⟨ki, rfl⟩ := isInt_sound hs hz
  split at h
  case h_2 => cases h
  rename_i es clock ho
  obtain ⟨EN, hw, hsz, hent, hnd, hbd⟩ := hS.obj _ _ _ ho hB
  have hgo := run_getMap (P := P) hw
  split at h
  case h_2 => cases h
  rename_i e hf
  split at h
  case isFalse => cases h
  rename_i hc
  simp only [Bool.and_eq_true, decide_eq_true_eq] at hc
  have hfl := hc.1
  have hmem := List.mem_of_find?_eq_some hf
  obtain ⟨j, hj⟩ := List.getElem?_of_mem hmem
  have hborn : e.born = z.toNat := by simpa using List.find?_some hf
  have hlt : j < EN.size := by rw [hsz]; exact (List.getElem?_eq_some_iff.1 hj).1
  have hme : EN[j]? = some EN[j] := by simp
  have her := hent j _ e hme hj
  have hidx : EN.findIdx? (fun x => (x.born : Int) == z) = some j := findIdx_born (fun j m e h1 h2 => (hent j m e h1 h2).1) hsz hnd hj hme (by omega)
  have hrun : ∀ Y : Cx, Y.w = World.setMap X.w B (.map (EN.modify j fun x => { x with val := uv }) clock) → (Instr.entryStore t (.map (some B)) (.int ki z) uv).run P X.w = .ok () Y.w := by
    intro Y hY
    rw [hY]
    simp [Instr.entryStore, hgo, asInt, asIntOf, hidx, run_setMap hw]
  have hmk := hS.markEnt ho hB e hmem
  split at h
  · rename_i b' born' n cs
    split at h
    case isFalse => cases h
    rename_i hb
    obtain ⟨rfl, rfl⟩ := hb
    obtain rfl := Option.some.inj h
    cases hv with | g hp hmc hn hR => ?_
    rename_i m0
    rw [hmk] at hmc
    obtain ⟨Y, hle, hSY, hYw, _⟩ := hS.updEnt (f := wrG n cs) hfl hB ho hw hj hme (fun x => { x with val := uv }) (fun _ => rfl) (fun n' hn' => by
      simp only [wrG]
      split
      · exact ⟨n', hn', Nat.le_refl _⟩
      · simp only [past, hn', Option.map_some]; exact ⟨_, rfl, by omega⟩) (fun Y hle _ hYκ hYm => by
        refine ⟨her.1, her.2.1, .pv (hp.mono hle.im), fun m' n' cs' hm' hval => ?_⟩
        simp only [wrG] at hm' hval
        cases hval
        split at hm'
        · rename_i hq
          have hq' : e.lim = some n := by simpa using hq
          rw [hq'] at hm'
          obtain rfl := Option.some.inj hm'
          have hm0 : n = m0 := by rw [hq'] at hmc; exact Option.some.inj hmc
          refine ⟨Nat.le_refl _, fun _ => ?_⟩
          have hx : X.mc (.e b' e.born) = some n := by rw [hmk]; exact hq'
          have hy : Y.mc (.e b' e.born) = some n := hYm n (by simp [wrG, hq'])
          exact (hR hm0).mono hle hx hy
        · rw [hmc] at hm'
          simp only [past, Option.map_some, lenAV] at hm'
          obtain rfl := Option.some.inj hm'
          exact ⟨by omega, fun e => by omega⟩)
    exact ⟨Y, hle, hSY, hrun Y hYw⟩
  · split at h
    case isFalse => cases h
    obtain rfl := Option.some.inj h
    obtain ⟨Y, hle, hSY, hYw, _⟩ := hS.updEnt (f := wrE (entV st b v)) hfl hB ho hw hj hme (fun x => { x with val := uv }) (fun _ => rfl) (fun n hn => by
      simp only [wrE, past, hn, Option.map_some]; exact ⟨_, rfl, by omega⟩) (fun Y hle _ _ _ => her.write ((entV_sound hv).mono hle))
    exact ⟨Y, hle, hSY, hrun Y hYw⟩

end
end Go.TM
