/- The bridge from readable arguments to the tree machine's values. -/
import Derived.Test.YtjoajdlnfgfjgaaTmU
import Derived.ProofKit
import Derived.OpenShut
namespace Go.TM
open Go.RowKit
set_option linter.all false

def plainFs (P : Program) (pl : TypeId → Bool) : List Field → Nat → Option Nat
  | [], o => some o
  | f :: r, o => if f.offset == o && pl f.type then plainFs P pl r (o + P.cellsOf f.type) else none

/-- made of numbers, truth values, strings, slices, structs and arrays alone, side by side -/
def plainTy (P : Program) : Nat → TypeId → Bool
  | 0, _ => false
  | d + 1, t => match P.underlying t with
    | some .bool | some (.int _) | some .string => P.cellsOf t == 1
    | some (.slice e) => P.cellsOf t == 1 && plainTy P d e && decide (0 < P.cellsOf e)
    | some (.struct fs) => plainFs P (plainTy P d) fs.toList 0 == some (P.cellsOf t)
    | some (.array n e) => plainTy P d e && n * P.cellsOf e == P.cellsOf t
    | _ => false

def partsOk (S : TypeId → List PV → Prop) : List Field → List PV → Prop
  | [], pcs => pcs = []
  | f :: r, pcs => ∃ a b, pcs = a ++ b ∧ S f.type a ∧ partsOk S r b

/-- the cells of a value of the type -/
def Shaped (P : Program) : Nat → TypeId → List PV → Prop
  | 0, _, _ => False
  | d + 1, t, pcs => match P.underlying t with
    | some .bool => ∃ b, pcs = [.sc (.bool b)]
    | some (.int k) => ∃ n, pcs = [.sc (.int k n)] ∧ (Lit.int k n).wf = true
    | some .string => ∃ s : ByteArray, pcs = [.sc (.string s)] ∧ s.size ≤ maxLen
    | some (.slice e) => ∃ rows : List (List PV), pcs = [.sl rows.length rows.flatten] ∧ rows.length ≤ maxLen ∧ ∀ r ∈ rows, Shaped P d e r
    | some (.struct fs) => partsOk (Shaped P d) fs.toList pcs
    | some (.array n e) => ∃ rows : List (List PV), pcs = rows.flatten ∧ rows.length = n ∧ ∀ r ∈ rows, Shaped P d e r
    | _ => False

def partsT (S : TypeId → List PV → Prop) : List TypeId → List PV → Prop
  | [], pcs => pcs = []
  | f :: r, pcs => ∃ a b, pcs = a ++ b ∧ S f a ∧ partsT S r b
theorem partsT_of {S : TypeId → List PV → Prop} : ∀ (fs : List Field) (pcs : List PV), partsOk S fs pcs → partsT S (fs.map (·.type)) pcs
  | [], pcs, h => h
  | f :: r, pcs, ⟨a, b, h1, h2, h3⟩ => ⟨a, b, h1, h2, partsT_of r b h3⟩
/-- the types of a struct's fields -/
def fieldTys (P : Program) (t : TypeId) : Option (List TypeId) := match P.underlying t with
  | some (.struct fs) => some (fs.toList.map (·.type))
  | _ => none
def elemTy (P : Program) (t : TypeId) : Option TypeId := match P.underlying t with
  | some (.slice e) => some e
  | _ => none
theorem Shaped.struct {P : Program} {d : Nat} {t : TypeId} {pcs : List PV} {ts : List TypeId} (h : Shaped P (d + 1) t pcs) (ht : fieldTys P t = some ts) : partsT (Shaped P d) ts pcs := by
  unfold Shaped at h
  unfold fieldTys at ht
  cases hu : P.underlying t with
  | none => rw [hu] at ht; cases ht
  | some k =>
    rw [hu] at h ht
    cases k with
    | struct fs =>
      obtain rfl := Option.some.inj ht
      exact partsT_of _ _ h
    | _ => cases ht
theorem Shaped.slice {P : Program} {d : Nat} {t e : TypeId} {pcs : List PV} (h : Shaped P (d + 1) t pcs) (ht : elemTy P t = some e) :
    ∃ rows : List (List PV), pcs = [.sl rows.length rows.flatten] ∧ rows.length ≤ maxLen ∧ ∀ r ∈ rows, Shaped P d e r := by
  unfold Shaped at h
  unfold elemTy at ht
  cases hu : P.underlying t with
  | none => rw [hu] at ht; cases ht
  | some k =>
    rw [hu] at h ht
    cases k with
    | slice e' =>
      obtain rfl := Option.some.inj ht
      exact h
    | _ => cases ht
def seen (w : World) : Nat → Nat → Prop := fun B _ => B < w.heap.size

section
variable {H : Type} {enc : TypeId × Value → H} {P : Program} {w : World} {base : Nat} {spare : Nat → Bool} {held : Bool}

def Fits (w : World) (cs : List Value) (pcs : List PV) : Prop := pcs.length = cs.length ∧ ∀ (j : Nat) u p, cs[j]? = some u → pcs[j]? = some p → PVR (seen w) w u p

theorem Fits.append {cs cs' : List Value} {pcs pcs' : List PV} (h : Fits w cs pcs) (h' : Fits w cs' pcs') : Fits w (cs ++ cs') (pcs ++ pcs') := by
  refine ⟨by rw [List.length_append, List.length_append, h.1, h'.1], fun j u p hu hp => ?_⟩
  by_cases hj : j < cs.length
  · rw [List.getElem?_append_left hj] at hu
    rw [List.getElem?_append_left (by rw [h.1]; exact hj)] at hp
    exact h.2 j u p hu hp
  · rw [List.getElem?_append_right (by omega)] at hu
    rw [List.getElem?_append_right (by rw [h.1]; omega), h.1] at hp
    exact h'.2 _ u p hu hp

theorem Fits.one {u : Value} {p : PV} (h : PVR (seen w) w u p) : Fits w [u] [p] := by
  refine ⟨rfl, fun j u' p' hu hp => ?_⟩
  cases j with
  | zero => obtain rfl := Option.some.inj hu; obtain rfl := Option.some.inj hp; exact h
  | succ j => simp at hu

theorem cell_lt {a : Addr} {v : Value} (h : w.cell? a = some v) : a.block < w.heap.size ∧ a.spot = none := by
  unfold World.cell? at h
  split at h
  · rename_i c _ _ hb
    refine ⟨(Array.getElem?_eq_some_iff.1 hb).1, ?_⟩
    split at h
    · cases h
    · rename_i hs; simpa using hs
  · cases h

theorem add_none {a : Addr} (h : a.spot = none) (n : Nat) : a.add n = ⟨a.block, a.off + n, none⟩ := by
  obtain ⟨b, o, s⟩ := a
  simp only at h
  subst h
  unfold Addr.add
  split
  · rename_i h0; subst h0; rfl
  · rfl

/-- the rows of a slice, one behind the other -/
theorem rows_fit {c : Nat} {b o : Nat} : ∀ (rows : List (List PV)) (k : Nat),
    (∀ i r, rows[i]? = some r → r.length = c ∧ ∀ j p, r[j]? = some p → b < w.heap.size ∧ PVR (seen w) w (rd w b (o + (k + i) * c + j)) p) →
    ∀ j p, rows.flatten[j]? = some p → b < w.heap.size ∧ PVR (seen w) w (rd w b (o + k * c + j)) p
  | [], k, _, j, p, hp => by simp at hp
  | r :: rs, k, h, j, p, hp => by
    obtain ⟨hl, h0⟩ := h 0 r rfl
    rw [List.flatten_cons] at hp
    by_cases hj : j < c
    · rw [List.getElem?_append_left (by omega)] at hp
      exact h0 j p hp
    · rw [List.getElem?_append_right (by omega), hl] at hp
      have := rows_fit rs (k + 1) (fun i r' hr => by
        have := h (i + 1) r' (by simpa using hr)
        rw [show k + (i + 1) = k + 1 + i by omega] at this
        exact this) (j - c) p hp
      have e : o + (k + 1) * c + (j - c) = o + k * c + j := by
        rw [Nat.add_mul]; omega
      rw [e] at this
      exact this

theorem plainFs_le {pl : TypeId → Bool} : ∀ (fs : List Field) (o e : Nat), plainFs P pl fs o = some e → o ≤ e
  | [], o, e, h => by have : o = e := Option.some.inj h; omega
  | f :: r, o, e, h => by
    unfold plainFs at h
    split at h
    · have := plainFs_le r _ e h; omega
    · cases h

theorem parts_fit {pl : TypeId → Bool} {S : TypeId → List PV → Prop} {cs : List Value} : ∀ (fs : List Field) (o e : Nat), plainFs P pl fs o = some e → e = cs.length →
    (∀ f ∈ fs, pl f.type = true → ((cs.drop f.offset).take (P.cellsOf f.type)).length = P.cellsOf f.type → ∃ pcs, S f.type pcs ∧ Fits w ((cs.drop f.offset).take (P.cellsOf f.type)) pcs) →
    ∃ pcs : List PV, partsOk S fs pcs ∧ Fits w (cs.drop o) pcs
  | [], o, e, h, he, _ => by
    have : o = e := Option.some.inj h
    refine ⟨[], rfl, ?_⟩
    rw [this, he, List.drop_length]
    exact ⟨rfl, fun j u p hu => by simp at hu⟩
  | f :: r, o, e, h, he, hf => by
    unfold plainFs at h
    split at h
    case isFalse => cases h
    rename_i hc
    simp only [Bool.and_eq_true, beq_iff_eq] at hc
    obtain ⟨ho, hp⟩ := hc
    have hle := plainFs_le r _ e h
    obtain ⟨pcs, h1, h2⟩ := hf f (List.mem_cons_self ..) hp (by rw [List.length_take, List.length_drop, ho]; omega)
    obtain ⟨parts, h3, h4⟩ := parts_fit r _ e h he (fun g hg => hf g (List.mem_cons_of_mem _ hg))
    refine ⟨pcs ++ parts, ⟨pcs, parts, rfl, h1, h3⟩, ?_⟩
    rw [ho] at h2
    have e1 : cs.drop o = (cs.drop o).take (P.cellsOf f.type) ++ cs.drop (o + P.cellsOf f.type) := by
      rw [← List.drop_drop, List.take_append_drop]
    rw [e1]
    exact h2.append h4

theorem elems_fit {S : List PV → Prop} {cs : List Value} {c : Nat} : ∀ (n k : Nat), cs.length = (k + n) * c →
    (∀ i, i < k + n → ∃ pcs, S pcs ∧ Fits w ((cs.drop (i * c)).take c) pcs) →
    ∃ rows : List (List PV), rows.length = n ∧ (∀ r ∈ rows, S r) ∧ Fits w (cs.drop (k * c)) rows.flatten
  | 0, k, h, _ => ⟨[], rfl, by simp, by
    rw [show k * c = cs.length by rw [h]; simp, List.drop_length]
    exact ⟨rfl, fun j u p hu => by simp at hu⟩⟩
  | n + 1, k, h, hi => by
    obtain ⟨pcs, h1, h2⟩ := hi k (by omega)
    obtain ⟨rows, h3, h4, h5⟩ := elems_fit n (k + 1) (by rw [h]; congr 1; omega) (fun i hi' => hi i (by omega))
    refine ⟨pcs :: rows, by simp [h3], fun r hr => ?_, ?_⟩
    · rcases List.mem_cons.1 hr with rfl | hr
      · exact h1
      · exact h4 r hr
    · rw [List.flatten_cons]
      have e1 : cs.drop (k * c) = (cs.drop (k * c)).take c ++ cs.drop ((k + 1) * c) := by
        rw [Nat.add_mul, Nat.one_mul, ← List.drop_drop, List.take_append_drop]
      rw [e1]
      exact h2.append h5

theorem getsAll {α : Type} {p : Nat → α → Prop} : ∀ (n : Nat), (∀ i, i < n → ∃ x, p i x) → ∃ l : List α, l.length = n ∧ ∀ (i : Nat) x, l[i]? = some x → p i x
  | 0, _ => ⟨[], rfl, by simp⟩
  | n + 1, h => by
    obtain ⟨l, h1, h2⟩ := getsAll n fun i hi => h i (by omega)
    obtain ⟨x, hx⟩ := h n (by omega)
    refine ⟨l ++ [x], by simp [h1], fun i y hy => ?_⟩
    by_cases hi : i < l.length
    · rw [List.getElem?_append_left hi] at hy; exact h2 i y hy
    · rw [List.getElem?_append_right (by omega)] at hy
      have : i - l.length = 0 := by
        rcases Nat.eq_zero_or_pos (i - l.length) with h | h
        · exact h
        · rw [List.getElem?_eq_none (by rw [List.length_singleton]; omega)] at hy; cases hy
      rw [this] at hy
      obtain rfl := Option.some.inj hy
      have : i = n := by omega
      subst this; exact hx

theorem shaped : ∀ (d : Nat) (t : TypeId) (fuel : Nat) (cs : List Value) (x : DataW H × List MemPlace), plainTy P d t = true →
    DataW.trod enc P w base spare held fuel t cs = some x → cs.length = P.cellsOf t → ∃ pcs, Shaped P d t pcs ∧ Fits w cs pcs
  | 0, t, fuel, cs, x, h, _, _ => by cases h
  | d + 1, t, fuel, cs, x, h, hx, hlen => by
    simp only [plainTy] at h
    simp only [Shaped]
    split at h
    · rename_i ht
      obtain ⟨b, rfl, rfl⟩ := DataW.trod_bool ht hx
      exact ⟨_, ⟨b, rfl⟩, .one (.sc rfl)⟩
    · rename_i k ht
      obtain ⟨n, rfl, rfl, hw⟩ := DataW.trod_int ht hx
      exact ⟨_, ⟨n, rfl, hw⟩, .one (.sc rfl)⟩
    · rename_i ht
      obtain ⟨s, rfl, rfl, hs⟩ := DataW.trod_string ht hx
      exact ⟨_, ⟨s, rfl, hs⟩, .one (.sc rfl)⟩
    · rename_i e ht
      simp only [Bool.and_eq_true, beq_iff_eq, decide_eq_true_eq] at h
      obtain ⟨⟨_, he⟩, hc⟩ := h
      rcases DataW.trod_slice ht hx with ⟨rfl, rfl⟩ | ⟨a, len, cap, elems, rest, n, _, rfl, rfl, hb, hl, hm, hlen, hel, _, _⟩
      · exact ⟨_, ⟨[], rfl, Nat.zero_le _, by simp⟩, .one .sl0⟩
      · have each : ∀ i, i < len → ∃ r : List PV, Shaped P d e r ∧ r.length = P.cellsOf e ∧ ∀ j p, r[j]? = some p → a.block < w.heap.size ∧ a.spot = none ∧ PVR (seen w) w (rd w a.block (a.off + i * P.cellsOf e + j)) p := by
          intro i hi
          have h1 := hel i hi
          rw [List.getElem?_eq_getElem (by omega), Option.bind_eq_some_iff] at h1
          obtain ⟨cs', hcs, hy⟩ := h1
          obtain ⟨_, hlc, hget⟩ := World.cells?_some hcs
          obtain ⟨r, hr, hf⟩ := shaped d e n cs' _ he hy hlc
          refine ⟨r, hr, hf.1.trans hlc, fun j p hp => ?_⟩
          have hj : j < cs'.length := by rw [← hf.1]; exact (List.getElem?_eq_some_iff.1 hp).1
          have hg := hget j (by omega)
          have hcell : w.cell? ((a.add (i * P.cellsOf e)).add j) = some cs'[j] := by rw [hg]; exact List.getElem?_eq_getElem hj
          have h0 := hel 0 (by omega)
          rw [List.getElem?_eq_getElem (by omega), Option.bind_eq_some_iff] at h0
          obtain ⟨cs0, hcs0, _⟩ := h0
          obtain ⟨_, hlc0, hget0⟩ := World.cells?_some hcs0
          have hg0 := hget0 0 hc
          rw [List.getElem?_eq_getElem (by omega)] at hg0
          rw [Nat.zero_mul] at hg0
          obtain ⟨q1, q2⟩ := cell_lt hg0
          have hsp : a.spot = none := by
            unfold Addr.add at q2
            simpa using q2
          have hadd2 : (a.add (i * P.cellsOf e)).add j = ⟨a.block, a.off + i * P.cellsOf e + j, none⟩ := by
            rw [add_none hsp, add_none rfl]
          have hbl : a.block < w.heap.size := by
            unfold Addr.add at q1
            simpa using q1
          refine ⟨hbl, hsp, ?_⟩
          have hrd : rd w a.block (a.off + i * P.cellsOf e + j) = cs'[j] := by
            unfold rd; rw [← hadd2, hcell]; rfl
          rw [hrd]
          exact hf.2 j _ p (List.getElem?_eq_getElem hj) hp
        obtain ⟨rows, hr1, hr2⟩ := getsAll len each
        refine ⟨_, ⟨rows, rfl, by omega, fun r hr => ?_⟩, ?_⟩
        · obtain ⟨i, hi⟩ := List.getElem?_of_mem hr
          exact (hr2 i r hi).1
        · refine .one ?_
          have hfit := rows_fit (w := w) (c := P.cellsOf e) (b := a.block) (o := a.off) rows 0 fun i r hi => by
            obtain ⟨_, q1, q2⟩ := hr2 i r hi
            refine ⟨q1, fun j p hp => ?_⟩
            obtain ⟨q3, _, q4⟩ := q2 j p hp
            rw [Nat.zero_add]
            exact ⟨q3, q4⟩
          rw [Nat.zero_mul, Nat.add_zero] at hfit
          rw [hr1]
          cases hrows : rows with
          | nil =>
            rw [hrows] at hr1
            have : len = 0 := by simpa using hr1.symm
            subst this
            exact .sl0
          | cons r0 rs =>
            obtain ⟨_, q1, q2⟩ := hr2 0 r0 (by rw [hrows]; rfl)
            obtain ⟨p0, hp0⟩ : ∃ p0, r0[0]? = some p0 := ⟨_, List.getElem?_eq_getElem (by omega)⟩
            have hsp := (q2 0 p0 hp0).2.1
            have ha : a = ⟨a.block, a.off, none⟩ := by cases a; simp only at hsp; simp only [hsp]
            rw [ha]
            rw [hrows] at hfit
            exact .sl hl (fun j p hp => (hfit j p hp).1) (fun j p hp => (hfit j p hp).2)
    · rename_i fs ht
      simp only [beq_iff_eq] at h
      obtain ⟨xs, n, _, _, hl, hsz, hf⟩ := DataW.trod_struct ht hx
      have hfs : ∀ f ∈ fs.toList, plainTy P d f.type = true → ((cs.drop f.offset).take (P.cellsOf f.type)).length = P.cellsOf f.type → ∃ pcs, Shaped P d f.type pcs ∧ Fits w ((cs.drop f.offset).take (P.cellsOf f.type)) pcs := by
        intro f hfm hp hle
        obtain ⟨i, hi⟩ := List.getElem?_of_mem hfm
        have hi' : fs[i]? = some f := by simpa using hi
        have hq := hf i f hi'
        have hlt : i < xs.length := by rw [hsz]; exact (Array.getElem?_eq_some_iff.1 hi').1
        rw [List.getElem?_eq_getElem hlt] at hq
        exact shaped d f.type n _ _ hp hq hle
      obtain ⟨pcs, h1, h2⟩ := parts_fit fs.toList 0 _ h hl.symm hfs
      exact ⟨pcs, h1, h2⟩
    · rename_i n e ht
      simp only [Bool.and_eq_true, beq_iff_eq] at h
      obtain ⟨he, hc⟩ := h
      obtain ⟨xs, m, _, _, hl, hsz, hf⟩ := DataW.trod_array ht hx
      have hes : ∀ i, i < 0 + n → ∃ pcs, Shaped P d e pcs ∧ Fits w ((cs.drop (i * P.cellsOf e)).take (P.cellsOf e)) pcs := by
        intro i hi
        have hq := hf i (by omega)
        rw [List.getElem?_eq_getElem (by omega)] at hq
        refine shaped d e m _ _ he hq ?_
        rw [List.length_take, List.length_drop, hl, ← hc]
        have : (i + 1) * P.cellsOf e ≤ n * P.cellsOf e := Nat.mul_le_mul_right _ (by omega)
        rw [Nat.add_mul] at this
        omega
      obtain ⟨rows, h1, h2, h3⟩ := elems_fit n 0 (by rw [hl, ← hc, Nat.zero_add]) hes
      rw [Nat.zero_mul, List.drop_zero] at h3
      exact ⟨_, ⟨rows, rfl, h1, h2⟩, h3⟩
    · cases h

/-- the machine's value of an argument of the type -/
def avOf (P : Program) (t : TypeId) (pcs : List PV) : AV := if isAgg P t then .agg (pcs.map .pv) else match pcs with
  | [p] => .pv p
  | _ => .bad

theorem arg_avr {t : TypeId} {v : Value} {dd : DataW H} {ps : List MemPlace} {b0 d : Nat} (hpl : plainTy P d t = true) (hok : Value.okWide P w .any b0 t v) (h : DataW.Trod enc P w base spare held t v dd ps) (hc1 : isAgg P t = true ∨ P.cellsOf t = 1) :
    ∃ pcs, Shaped P d t pcs ∧ AVR (TM.base w (seen w)) v (avOf P t pcs) := by
  obtain ⟨fuel, h⟩ := h
  unfold avOf
  cases ha : isAgg P t with
  | true =>
    have : ∃ cs, v = .agg cs ∧ cs.size = P.cellsOf t := by
      unfold isAgg at ha
      unfold Value.okWide at hok
      split at ha
      · rename_i fs ht
        rw [ht] at hok
        obtain ⟨cs, h1, h2, _⟩ := hok
        exact ⟨cs, h1, h2⟩
      · rename_i n e ht
        rw [ht] at hok
        obtain ⟨cs, h1, h2, _⟩ := hok
        exact ⟨cs, h1, h2⟩
      · cases ha
    obtain ⟨cs, rfl, hsz⟩ := this
    obtain ⟨pcs, h1, h2, h3⟩ := shaped d t fuel _ _ hpl h (by simpa [Value.cells] using hsz)
    refine ⟨pcs, h1, ?_⟩
    simp only [Value.cells, Array.length_toList] at h2 h3
    have hg : ∀ (j : Nat) p, pcs[j]? = some p → PVR (seen w) w (cs.getD j undef) p := by
      intro j p hp
      have hj : j < cs.size := by rw [← h2]; exact (List.getElem?_eq_some_iff.1 hp).1
      refine h3 j _ p ?_ hp
      simp [Array.getD, hj]
    rw [if_pos rfl]
    refine .agg (by rw [List.length_map, h2]) (fun j x hx => ?_) (fun j hj => ?_)
    · rw [List.getElem?_map] at hx
      obtain ⟨p, hp, rfl⟩ := Option.map_eq_some_iff.1 hx
      exact .pv (hg j p hp)
    · rw [List.length_map] at hj
      exact (hg j _ (List.getElem?_eq_getElem hj)).one
  | false =>
    have hc : P.cellsOf t = 1 := by
      rcases hc1 with h | h
      · rw [ha] at h; cases h
      · exact h
    have hcells : v.cells.toList = [v] := by
      have hk : Cell.okWide P w .any b0 t v := by
        unfold isAgg at ha
        unfold Value.okWide at hok
        split at hok
        · rename_i ht; rw [ht] at ha; cases ha
        · rename_i ht; rw [ht] at ha; cases ha
        · exact hok
      cases v <;> first | rfl | skip
      exfalso
      unfold Cell.okWide at hk
      split at hk
      all_goals first | (rename_i e1 e2; cases e2) | skip
      unfold Cell.ok at hk
      split at hk
      all_goals first | (rename_i e1 e2; cases e2) | exact hk
    rw [hcells] at h
    obtain ⟨pcs, h1, h2, h3⟩ := shaped d t fuel _ _ hpl h (by simpa using hc.symm)
    refine ⟨pcs, h1, ?_⟩
    rw [if_neg (by simp)]
    match pcs, h2 with
    | [p], _ => exact .pv (h3 0 v p rfl rfl)
end
end Go.TM
