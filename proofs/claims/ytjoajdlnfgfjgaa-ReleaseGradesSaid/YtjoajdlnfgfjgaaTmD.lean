/- The tree machine: operations that only read. -/
import Derived.Test.YtjoajdlnfgfjgaaTmC
import Derived.Laws.CopyRow
import Derived.ChangeKeysEq
namespace Go.TM
open Go.RowKit

theorem underlying_info {P : Program} {t : TypeId} {d : TypeDesc} (h : P.underlying t = some d) : ∃ i, P.info? t = some i := by
  unfold Program.underlying at h
  cases hi : P.info? t with
  | some i => exact ⟨i, rfl⟩
  | none => rw [hi] at h; simp at h

theorem known_some {P : Program} {t : TypeId} (h : known P t = true) : ∃ d, P.underlying t = some d := by
  unfold known at h
  cases hd : P.underlying t with
  | some d => exact ⟨d, rfl⟩
  | none => rw [hd] at h; cases h

theorem run_sizeOf' {P : Program} {t : TypeId} {d : TypeDesc} (h : P.underlying t = some d) (w : World) : (sizeOf t).run P w = .ok (P.cellsOf t) w := by
  obtain ⟨i, hi⟩ := underlying_info h
  exact run_sizeOf w hi

theorem run_isAgg' {P : Program} {t : TypeId} (h : known P t = true) (w : World) : (Go.isAgg t).run P w = .ok (TM.isAgg P t) w := by
  obtain ⟨d, hd⟩ := known_some h
  unfold Go.isAgg TM.isAgg
  rw [Sem.run_bind, run_underlying hd, hd]
  cases d <;> rfl

/-- cells that lie in a row from a place on -/
def CellsAt (X : Cx) (B o : Nat) (cs : List AV) : Prop := ∀ j x, cs[j]? = some x → ∃ u, X.w.cell? ⟨B, o + j, none⟩ = some u ∧ AVR X u x ∧ u.oneCell' = true

theorem CellsAt.drop {X : Cx} {B o : Nat} {cs : List AV} (h : CellsAt X B o cs) (n : Nat) : CellsAt X B (o + n) (cs.drop n) := by
  intro j x hj
  rw [List.getElem?_drop] at hj
  have := h (n + j) x hj
  rwa [show o + (n + j) = o + n + j by omega] at this

theorem CellsAt.take {X : Cx} {B o : Nat} {cs : List AV} (h : CellsAt X B o cs) (n : Nat) : CellsAt X B o (cs.take n) := by
  intro j x hj
  rw [List.getElem?_take] at hj
  split at hj
  · exact h j x hj
  · cases hj

theorem ObjR.at_ {X : Cx} {b B : Nat} {cs : List AV} (h : ObjR X b B (.cells cs)) : CellsAt X B 0 cs := by
  obtain ⟨C, ty, h1, h2, h3, h4⟩ := h
  intro j x hj
  have hlt : j < cs.length := (List.getElem?_eq_some_iff.1 hj).1
  have e : C[j]? = some (C.getD j undef) := by
    have hl : j < C.size := by omega
    simp [Array.getD, hl]
  refine ⟨C.getD j undef, ?_, h3 j x hj, h4 j hlt⟩
  simp only [World.cell?, h1, Nat.zero_add]
  simpa using e

theorem PVR.at_ {X : Cx} {B o : Nat} {cs : List PV} (h : ∀ j p, cs[j]? = some p → PVR X.im X.w (rd X.w B (o + j)) p) : CellsAt X B o (cs.map .pv) := by
  intro j x hj
  rw [List.getElem?_map] at hj
  cases hc : cs[j]? with
  | none => rw [hc] at hj; cases hj
  | some p =>
    rw [hc] at hj
    obtain rfl := Option.some.inj hj
    have := h j p hc
    exact ⟨_, this.cell, .pv this, this.one⟩

theorem add_addr (B o n : Nat) : (⟨B, o, none⟩ : Addr).add n = ⟨B, o + n, none⟩ := by
  unfold Addr.add
  split
  · rename_i h; subst h; rfl
  · rfl

theorem loadC_sound {P : Program} {X : Cx} {B o : Nat} {cs : List AV} {t : TypeId} {v : AV} (h : CellsAt X B o cs) (hl : loadC P t cs = some v) :
    ∃ u, (loadVar t ⟨B, o, none⟩).run P X.w = .ok u X.w ∧ AVR X u v := by
  unfold loadC at hl
  split at hl
  case isFalse => cases hl
  rename_i hk
  obtain ⟨d, hd⟩ := known_some hk
  unfold loadVar
  rw [Sem.run_bind, run_isAgg' hk]
  simp only [Result.andThen_ok]
  split at hl
  · rename_i ha
    split at hl
    case isFalse => cases hl
    rename_i hle
    obtain rfl := Option.some.inj hl
    rw [ha, if_pos rfl, Sem.run_bind, run_sizeOf' hd]
    simp only [Result.andThen_ok, Sem.run_bind]
    have hf : ∀ j, j < P.cellsOf t → ∃ u, X.w.cell? ⟨B, o + j, none⟩ = some u ∧ AVR X u (cs.getD j .bad) ∧ u.oneCell' = true := by
      intro j hj
      have hlt : j < cs.length := by omega
      have := h j (cs[j]) (List.getElem?_eq_getElem hlt)
      rwa [show cs.getD j .bad = cs[j] by simp [List.getD, List.getElem?_eq_getElem hlt]]
    have hrun := run_loadCells (P := P) X.w ⟨B, o, none⟩ (P.cellsOf t) (fun j => rd X.w B (o + j)) (fun j hj => by
      obtain ⟨u, h1, _⟩ := hf j hj
      rw [add_addr]; unfold rd; rw [h1]; rfl)
    rw [hrun]
    refine ⟨_, rfl, .agg ?_ ?_ ?_⟩
    · simp; omega
    · intro j x hj
      have hlt : j < P.cellsOf t := by
        have := (List.getElem?_eq_some_iff.1 hj).1
        simp at this; omega
      obtain ⟨u, h1, h2, _⟩ := hf j hlt
      rw [List.getElem?_take, if_pos hlt] at hj
      have hx : cs.getD j .bad = x := by simp [List.getD, hj]
      rw [hx] at h2
      have e : (((List.range (P.cellsOf t)).map fun j => rd X.w B (o + j)).toArray).getD j undef = u := by
        simp [Array.getD, hlt, rd, h1]
      rw [e]; exact h2
    · intro j hj
      have hlt : j < P.cellsOf t := by simp at hj; omega
      obtain ⟨u, h1, _, h3⟩ := hf j hlt
      have e : (((List.range (P.cellsOf t)).map fun j => rd X.w B (o + j)).toArray).getD j undef = u := by
        simp [Array.getD, hlt, rd, h1]
      rw [e]; exact h3
  · rename_i ha
    have ha' : TM.isAgg P t = false := by simpa using ha
    rw [ha', if_neg (by simp)]
    cases cs with
    | nil => cases hl
    | cons x r =>
      obtain rfl := Option.some.inj hl
      obtain ⟨u, h1, h2, _⟩ := h 0 x rfl
      refine ⟨u, ?_, h2⟩
      simp only [Nat.add_zero] at h1
      simp [h1]

theorem load_at {P : Program} {D : Bs} {X : Cx} {st : St} (hS : SR D X st) {t : TypeId} {a v : AV} {u : Value} (hu : AVR X u a) (hl : load P st t a = some v) :
    ∃ B o x, u = .pointer (some ⟨B, o, none⟩) ∧ (loadVar t ⟨B, o, none⟩).run P X.w = .ok x X.w ∧ AVR X x v := by
  unfold load at hl
  split at hl
  · rename_i b o
    cases hu with
    | lp hB =>
      split at hl
      · rename_i cs ho
        have := loadC_sound (((hS.obj _ _ _ ho hB).at_).drop o) hl
        rw [Nat.zero_add] at this
        obtain ⟨x, h1, h2⟩ := this
        exact ⟨_, _, x, rfl, h1, h2⟩
      · cases hl
  · rename_i ps
    cases hu with
    | pv hp =>
      cases hp with
      | pt h1 h2 =>
        obtain ⟨x, h1, h2⟩ := loadC_sound (PVR.at_ h2) hl
        exact ⟨_, _, x, rfl, h1, h2⟩
  · cases hl

theorem load_sound {P : Program} {D : Bs} {X : Cx} {st : St} (hS : SR D X st) {t : TypeId} {a v : AV} {u : Value} (hu : AVR X u a) (hl : load P st t a = some v) :
    ∃ x, (Instr.loadAt t u).run P X.w = .ok x X.w ∧ AVR X x v := by
  unfold load at hl
  split at hl
  · rename_i b o
    cases hu with
    | lp hB =>
      split at hl
      · rename_i cs ho
        have := loadC_sound (((hS.obj _ _ _ ho hB).at_).drop o) hl
        simpa [Instr.loadAt, Instr.sureAddr] using this
      · cases hl
  · rename_i ps
    cases hu with
    | pv hp =>
      cases hp with
      | pt h1 h2 =>
        have := loadC_sound (PVR.at_ h2) hl
        simpa [Instr.loadAt, Instr.sureAddr] using this
  · cases hl

theorem shift_sound {X : Cx} {u : Value} {a v : AV} {n : Nat} (hu : AVR X u a) (hs : shift a n = some v) : ∃ B o, u = .pointer (some ⟨B, o, none⟩) ∧ AVR X (.pointer (some ⟨B, o + n, none⟩)) v := by
  unfold shift at hs
  split at hs
  · obtain rfl := Option.some.inj hs
    cases hu with
    | lp hB => exact ⟨_, _, rfl, .lp hB⟩
  · obtain rfl := Option.some.inj hs
    cases hu with
    | pv hp =>
      cases hp with
      | pt h1 h2 =>
        refine ⟨_, _, rfl, .pv (.pt ?_ ?_)⟩
        · intro j p hj
          rw [List.getElem?_drop] at hj
          have := h1 _ _ hj
          rwa [← Nat.add_assoc] at this
        · intro j p hj
          rw [List.getElem?_drop] at hj
          have := h2 _ _ hj
          rwa [← Nat.add_assoc] at this
  · cases hs

theorem field_sound {P : Program} {X : Cx} {s f n : Nat} {u : Value} {a v : AV} (hu : AVR X u a) (hf : fieldOff P s f = some n) (hs : shift a n = some v) :
    ∃ x, (Instr.fieldAt s u f).run P X.w = .ok x X.w ∧ AVR X x v := by
  obtain ⟨B, o, rfl, hv⟩ := shift_sound hu hs
  unfold fieldOff at hf
  split at hf
  case h_2 => cases hf
  rename_i fs hd
  split at hf
  case h_2 => cases hf
  rename_i x hx
  split at hf
  case isTrue => cases hf
  rename_i h0
  obtain rfl := Option.some.inj hf
  refine ⟨_, ?_, hv⟩
  have hi : ∃ i, P.info? x.type = some i := by
    cases hi : P.info? x.type with
    | some i => exact ⟨i, rfl⟩
    | none => simp [Program.cellsOf, hi] at h0
  obtain ⟨i, hi⟩ := hi
  simp [Instr.fieldAt, run_underlying hd, hx, Instr.sureAddr, fieldPlace, run_sizeOf _ hi, h0, add_addr]

theorem isInt_sound {X : Cx} {u : Value} {a : AV} {n : Int} (hu : AVR X u a) (h : isInt a = some n) : ∃ k, u = .int k n := by
  unfold isInt at h
  split at h
  · obtain rfl := Option.some.inj h
    cases hu with
    | pv hp => cases hp; exact ⟨_, rfl⟩
  · cases h

theorem drop_sl {X : Cx} {b o : Nat} {cs : List PV} (k : Nat) (h1 : ∀ j p, cs[j]? = some p → X.im b (o + j)) (h2 : ∀ j p, cs[j]? = some p → PVR X.im X.w (rd X.w b (o + j)) p) :
    (∀ j p, (cs.drop k)[j]? = some p → X.im b (o + k + j)) ∧ ∀ j p, (cs.drop k)[j]? = some p → PVR X.im X.w (rd X.w b (o + k + j)) p := by
  constructor
  · intro j p hj
    rw [List.getElem?_drop] at hj
    rw [Nat.add_assoc]; exact h1 _ _ hj
  · intro j p hj
    rw [List.getElem?_drop] at hj
    rw [Nat.add_assoc]; exact h2 _ _ hj

theorem take_sl {X : Cx} {b o : Nat} {cs : List PV} (k : Nat) (h1 : ∀ j p, cs[j]? = some p → X.im b (o + j)) (h2 : ∀ j p, cs[j]? = some p → PVR X.im X.w (rd X.w b (o + j)) p) :
    (∀ j p, (cs.take k)[j]? = some p → X.im b (o + j)) ∧ ∀ j p, (cs.take k)[j]? = some p → PVR X.im X.w (rd X.w b (o + j)) p := by
  constructor
  · intro j p hj
    rw [List.getElem?_take] at hj
    split at hj
    · exact h1 _ _ hj
    · cases hj
  · intro j p hj
    rw [List.getElem?_take] at hj
    split at hj
    · exact h2 _ _ hj
    · cases hj

theorem AVR.sl {X : Cx} {u : Value} {n : Nat} {cs : List PV} {a : AV} (h : AVR X u a) (ha : a = .pv (.sl n cs) ∨ ∃ c, a = .g c n cs) : PVR X.im X.w u (.sl n cs) := by
  rcases ha with rfl | ⟨c, rfl⟩
  · cases h with | pv h => exact h
  · cases h with | g h => exact h

theorem index_sound {P : Program} {X : Cx} {t : TypeId} {u : Value} {a v : AV} {n : Int} {k : IntKind} (hu : AVR X u a) (h : indexAddr P t a n = some v) :
    ∃ x, (Instr.indexAt t u (.int k n)).run P X.w = .ok x X.w ∧ AVR X x v := by
  unfold indexAddr at h
  split at h
  · rename_i len e hd
    split at h
    case isFalse => cases h
    rename_i hb
    simp only [Bool.and_eq_true, decide_eq_true_eq] at hb
    obtain ⟨⟨hk, h0⟩, h1⟩ := hb
    obtain ⟨d, hde⟩ := known_some hk
    obtain ⟨B, o, rfl, hv⟩ := shift_sound hu h
    refine ⟨_, ?_, hv⟩
    simp [Instr.indexAt, asIntOf, run_underlying hd, Instr.sureAddr, h0, h1, run_sizeOf' hde, add_addr]
  · rename_i e hd
    have main : ∀ (n' : Nat) cs, PVR X.im X.w u (.sl n' cs) → (if (known P e && decide (0 ≤ n) && decide (n < (n' : Int))) = true then some (AV.pv (.pt (cs.drop (n.toNat * P.cellsOf e)))) else none) = some v →
        ∃ x, (Instr.indexAt t u (.int k n)).run P X.w = .ok x X.w ∧ AVR X x v := by
      intro n' cs hp h
      split at h
      case isFalse => cases h
      rename_i hb
      simp only [Bool.and_eq_true, decide_eq_true_eq] at hb
      obtain ⟨⟨hk, h0⟩, h1⟩ := hb
      obtain ⟨d, hde⟩ := known_some hk
      obtain rfl := Option.some.inj h
      cases hp with
      | sl0 => exact absurd h1 (by simp; omega)
      | sl hc q1 q2 =>
        obtain ⟨r1, r2⟩ := drop_sl (n.toNat * P.cellsOf e) q1 q2
        refine ⟨_, ?_, .pv (.pt r1 r2)⟩
        simp [Instr.indexAt, asIntOf, run_underlying hd, h0, h1, run_sizeOf' hde, add_addr]
    split at h
    · exact main _ _ (hu.sl (.inl rfl)) h
    · exact main _ _ (hu.sl (.inr ⟨_, rfl⟩)) h
    · split at h
      case isFalse => cases h
      rename_i hb
      simp only [Bool.and_eq_true, decide_eq_true_eq] at hb
      obtain ⟨⟨hk, h0⟩, h1⟩ := hb
      obtain ⟨d, hde⟩ := known_some hk
      obtain rfl := Option.some.inj h
      cases hu with
      | ls hB hc =>
        refine ⟨_, ?_, .lp hB⟩
        simp [Instr.indexAt, asIntOf, run_underlying hd, h0, h1, run_sizeOf' hde, add_addr]
    · cases h
  · cases h

theorem opt_bound {X : Cx} {d m : Nat} {a : Option AV} {u : Option Value} (hu : match u, a with | none, none => True | some u, some a => AVR X u a | _, _ => False) (h : bound d a = some m) :
    (u = none ∧ m = d) ∨ ∃ k, u = some (.int k (m : Int)) := by
  unfold bound at h
  cases a with
  | none =>
    obtain rfl := Option.some.inj h
    cases u with
    | none => exact .inl ⟨rfl, rfl⟩
    | some u => exact hu.elim
  | some a =>
    cases u with
    | none => exact hu.elim
    | some u =>
      simp only at h hu
      cases hi : isInt a with
      | none => rw [hi] at h; cases h
      | some z =>
        rw [hi] at h
        simp only at h
        split at h
        case isFalse => cases h
        rename_i h0
        obtain rfl := Option.some.inj h
        obtain ⟨k, rfl⟩ := isInt_sound hu hi
        exact .inr ⟨k, by rw [Int.toNat_of_nonneg h0]⟩

end Go.TM
