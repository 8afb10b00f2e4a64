/- The release functions on the tree machine: the map of places. -/
import Derived.Test.YtjoajdlnfgfjgaaTmZd
namespace Go.TM
open Go.Proofs
set_option maxRecDepth 100000
set_option maxHeartbeats 4000000
set_option linter.all false
abbrev P3 := Int × Int × Int
def k3 (p : P3) : List Value := [.int .i64 p.1, .int .i64 p.2.1, .int .i64 p.2.2]
def ent (p : P3) (i : Nat) : Ent := { kagg := true, key := k3 p, val := bool true, born := i, lim := none }
def entsFrom : List P3 → Nat → List Ent
  | [], _ => []
  | p :: r, i => ent p i :: entsFrom r (i + 1)
def ents (ks : List P3) : List Ent := entsFrom ks 0
def addK (ks : List P3) (p : P3) : List P3 := if p ∈ ks then ks else ks ++ [p]
theorem entsFrom_snoc (p : P3) : ∀ (ks : List P3) (i : Nat), entsFrom (ks ++ [p]) i = entsFrom ks i ++ [ent p (i + ks.length)]
  | [], i => by simp [entsFrom]
  | q :: r, i => by
    show ent q i :: entsFrom (r ++ [p]) (i + 1) = ent q i :: (entsFrom r (i + 1) ++ _)
    rw [entsFrom_snoc p r (i + 1), List.length_cons, show i + 1 + r.length = i + (r.length + 1) by omega]
theorem un62 : Try.prog.underlying 62 = some (.map 63 4) := by kernel_rfl
theorem ag63 : isAgg Try.prog 63 = true := by kernel_rfl
theorem ti63 : tiles Try.prog 8 63 = true := by kernel_rfl
theorem ko63 (p : P3) : keyOk Try.prog 8 63 (k3 p) = true := by kernel_rfl
theorem eq63 (p q : P3) : eqV Try.prog 8 63 (k3 p) (k3 q) = some (p.1 == q.1 && (p.2.1 == q.2.1 && (p.2.2 == q.2.2 && true))) := by
  kernel_rfl
theorem eqk (p q : P3) : (p.1 == q.1 && (p.2.1 == q.2.1 && (p.2.2 == q.2.2 && true))) = decide (p = q) := by
  obtain ⟨a, b, c⟩ := p; obtain ⟨d, e, f⟩ := q
  rw [Bool.eq_iff_iff]; simp
theorem find63 (p : P3) : ∀ (ks : List P3) (i : Nat), (p ∈ ks ∧ ∃ j, findKey Try.prog 63 (true, k3 p) (entsFrom ks i) = some (some (ent p j))) ∨ (p ∉ ks ∧ findKey Try.prog 63 (true, k3 p) (entsFrom ks i) = some none)
  | [], i => .inr ⟨by simp, rfl⟩
  | q :: r, i => by
    simp only [entsFrom, findKey, ag63, ent, eq63, eqk, Bool.true_and, beq_self_eq_true, if_true]
    by_cases h : p = q
    · subst h; simp [ent]
    · simp only [h, decide_false, List.mem_cons, false_or]
      exact find63 p r (i + 1)
theorem upd_ents (b : Nat) : ∀ (ks : List P3) (i : Nat), (entsFrom ks i).map (updE b (wrE (bool true))) = entsFrom ks i
  | [], _ => rfl
  | p :: r, i => by
    simp only [entsFrom, List.map_cons, upd_ents b r (i + 1)]
    congr 1
    unfold updE wrE
    split <;> simp [ent, past]
theorem mu62 (st : St) (ks : List P3) (p : P3) (h : st.h[0]? = some (.map (ents ks) ks.length)) (hf : st.fl = 0) :
    mapUpdate Try.prog st 62 (.lm 0) (.agg [.pv (.sc (.int .i64 p.1)), .pv (.sc (.int .i64 p.2.1)), .pv (.sc (.int .i64 p.2.2))]) (.pv (.sc (.bool true))) = some (setH st 0 (.map (ents (addK ks p)) (addK ks p).length)) := by
  have hk : keyOf (.agg [.pv (.sc (.int .i64 p.1)), .pv (.sc (.int .i64 p.2.1)), .pv (.sc (.int .i64 p.2.2))]) = some (true, k3 p) := rfl
  have he : entV st 0 (.pv (.sc (.bool true))) = bool true := by unfold entV; split <;> rfl
  simp only [mapUpdate, un62, hk, h, he, hf, ti63, ko63, ag63, one, bool, Nat.le_refl, decide_true, Bool.true_and, beq_self_eq_true, if_true]
  rcases find63 p ks 0 with ⟨hm, j, q⟩ | ⟨hm, q⟩
  · simp only [ents, q]
    have : addK ks p = ks := by simp [addK, hm]
    rw [this]
    have u := upd_ents (ent p j).born ks 0
    simp only [bool] at u
    rw [u]
  · simp only [ents, q]
    have : addK ks p = ks ++ [p] := by simp [addK, hm]
    rw [this, entsFrom_snoc]
    simp [ent, bool]
def memK (p : P3) (ks : List P3) : Bool := decide (p ∈ ks)
theorem lk62 (st : St) (ks : List P3) (p : P3) (h : st.h[0]? = some (.map (ents ks) ks.length)) :
    lookup Try.prog st 62 (.lm 0) (.agg [.pv (.sc (.int .i64 p.1)), .pv (.sc (.int .i64 p.2.1)), .pv (.sc (.int .i64 p.2.2))]) false = some (.pv (.sc (.bool (memK p ks)))) := by
  have hk : keyOf (.agg [.pv (.sc (.int .i64 p.1)), .pv (.sc (.int .i64 p.2.1)), .pv (.sc (.int .i64 p.2.2))]) = some (true, k3 p) := rfl
  have hz : zeroAV Try.prog 4 = some (bool false) := by kernel_rfl
  simp only [lookup, un62, hk, h, ko63, ag63, Bool.true_and, beq_self_eq_true, if_true]
  rcases find63 p ks 0 with ⟨hm, j, q⟩ | ⟨hm, q⟩
  · simp [ents, q, hm, ent, bool, memK]
  · simp [ents, q, hm, hz, bool, memK]
end Go.TM
