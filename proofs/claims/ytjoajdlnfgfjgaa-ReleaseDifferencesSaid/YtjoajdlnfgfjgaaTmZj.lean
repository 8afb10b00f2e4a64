/- ReleaseDifferences: the plain law of sorted tallies. -/
import Derived.Test.YtjoajdlnfgfjgaaTmZi
namespace Go.TM
open Go.Proofs
set_option maxRecDepth 100000
set_option linter.all false
theorem same_iff (x y : T4) : same x y = decide (pl3 x = pl3 y) := by
  rw [Bool.eq_iff_iff]; simp [same, pl3]
theorem findFrom_neg (x : T4) : ∀ (l : List T4) (i : Int), 0 ≤ i → (findFrom x l i < 0 ↔ pl3 x ∉ l.map pl3)
  | [], i, _ => by simp [findFrom]
  | t :: r, i, hi => by
    simp only [findFrom, same_iff, decide_eq_true_eq, List.map_cons, List.mem_cons, not_or]
    by_cases h : pl3 t = pl3 x
    · simp [h]; omega
    · rw [if_neg h, findFrom_neg x r (i + 1) (by omega)]
      constructor
      · exact fun q => ⟨fun e => h e.symm, q⟩
      · exact fun q => q.2
theorem mem_addK (ks : List P3) (p q : P3) : q ∈ addK ks p ↔ q ∈ ks ∨ q = p := by
  unfold addK
  split
  · rename_i h
    constructor
    · exact .inl
    · rintro (h' | rfl) <;> assumption
  · simp
theorem mem_keys (q : P3) : ∀ (l : List T4) (ks : List P3), q ∈ keys ks l ↔ q ∈ ks ∨ q ∈ l.map pl3
  | [], ks => by simp [keys]
  | t :: r, ks => by
    rw [keys, mem_keys q r, mem_addK]
    simp only [List.map_cons, List.mem_cons]
    exact or_assoc
theorem gone_rest (a l : List T4) : gone (keys [] a) l = rest a l := by
  unfold gone rest
  refine List.filter_congr fun t _ => ?_
  rw [Bool.eq_iff_iff]
  have h1 := findFrom_neg t a 0 (Int.le_refl _)
  have h2 := mem_keys (pl3 t) a []
  simp only [memK, Bool.not_eq_true', decide_eq_false_iff_not, decide_eq_true_eq, h1, h2]
  simp
def lt3 (p q : P3) : Prop := p.1 < q.1 ∨ p.1 = q.1 ∧ (p.2.1 < q.2.1 ∨ p.2.1 = q.2.1 ∧ p.2.2 < q.2.2)
theorem lt3_trans {p q r : P3} (h : lt3 p q) (k : lt3 q r) : lt3 p r := by unfold lt3 at *; omega
theorem lt3_ne {p q : P3} (h : lt3 p q) : p ≠ q := by rintro rfl; unfold lt3 at h; omega
theorem cmp3_lt {x y : T4} (hx : good x = true) (hy : good y = true) (h : cmp3 x y < 0) : lt3 (pl3 x) (pl3 y) := by
  simp only [good, there, Bool.and_eq_true, decide_eq_true_eq] at hx hy
  unfold cmp3 or3 at h
  rw [IntKind.wrap_i64 _, IntKind.wrap_i64 _, IntKind.wrap_i64 _] at h
  unfold lt3 pl3
  simp only
  split at h
  · omega
  · split at h <;> omega
theorem okT_pair : ∀ (l : List T4) (p : T4), good p = true → okT (some p) l = true → (∀ t ∈ l, lt3 (pl3 p) (pl3 t)) ∧ l.Pairwise fun x y => lt3 (pl3 x) (pl3 y)
  | [], p, _, _ => ⟨by simp, .nil⟩
  | t :: r, p, hp, h => by
    simp only [okT, Bool.and_eq_true, decide_eq_true_eq] at h
    obtain ⟨⟨ht, hc⟩, hr⟩ := h
    obtain ⟨h1, h2⟩ := okT_pair r t ht hr
    have hpt := cmp3_lt hp ht hc
    refine ⟨fun s hs => ?_, .cons h1 h2⟩
    rcases List.mem_cons.1 hs with rfl | hs
    · exact hpt
    · exact lt3_trans hpt (h1 s hs)
theorem okT_nodup (l : List T4) (h : okT none l = true) : (l.map pl3).Nodup := by
  have : l.Pairwise fun x y => lt3 (pl3 x) (pl3 y) := by
    cases l with
    | nil => exact .nil
    | cons t r =>
      simp only [okT, Bool.and_eq_true] at h
      obtain ⟨h1, h2⟩ := okT_pair r t h.1 h.2
      exact .cons h1 h2
  exact List.pairwise_map.2 (this.imp lt3_ne)
/-- common places are counted alike on both sides -/
theorem counts (a b : List T4) (ha : (a.map pl3).Nodup) (hb : (b.map pl3).Nodup) : a.length - (rest b a).length = b.length - (rest a b).length ∧ (rest b a).length ≤ a.length ∧ (rest a b).length ≤ b.length := by
  have e : ∀ (a b : List T4), (rest b a).length + ((a.map pl3).filter fun p => decide (p ∈ b.map pl3)).length = a.length := by
    intro a b
    induction a with
    | nil => rfl
    | cons t r ih =>
      have h1 := findFrom_neg t b 0 (Int.le_refl _)
      by_cases hm : pl3 t ∈ b.map pl3
      · have : ¬ findFrom t b 0 < 0 := fun h => h1.1 h hm
        have e1 : rest b (t :: r) = rest b r := by unfold rest; rw [List.filter_cons, if_neg (by simpa using this)]
        rw [e1, List.map_cons, List.filter_cons, if_pos (by simpa using hm)]
        simp only [List.length_cons]; omega
      · have : findFrom t b 0 < 0 := h1.2 hm
        have e1 : rest b (t :: r) = t :: rest b r := by unfold rest; rw [List.filter_cons, if_pos (by simpa using this)]
        rw [e1, List.map_cons, List.filter_cons, if_neg (by simpa using hm)]
        simp only [List.length_cons]; omega
  have hp : ((a.map pl3).filter fun p => decide (p ∈ b.map pl3)).Perm ((b.map pl3).filter fun p => decide (p ∈ a.map pl3)) := by
    refine (List.perm_ext_iff_of_nodup (ha.filter _) (hb.filter _)).2 fun p => ?_
    simp only [List.mem_filter, decide_eq_true_eq]
    exact and_comm
  have h1 := e a b
  have h2 := e b a
  have h3 := hp.length_eq
  omega
theorem rest_self (a : List T4) : rest a a = [] := by
  unfold rest
  refine List.filter_eq_nil_iff.2 fun t ht => ?_
  have h1 := findFrom_neg t a 0 (Int.le_refl _)
  simp only [decide_eq_true_eq, h1, Classical.not_not]
  exact List.mem_map_of_mem ht
end Go.TM
