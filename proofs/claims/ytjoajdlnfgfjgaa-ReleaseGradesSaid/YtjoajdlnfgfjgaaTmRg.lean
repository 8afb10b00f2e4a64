/- For all scripts c, releases one and two, and frames f the call observatorylaw44.ReleaseGrades(c, one, two, f) returns true, and all arguments read behind it as before. Conditions: none. -/
import Derived.Test.YtjoajdlnfgfjgaaTmBs
import Derived.Test.YtjoajdlnfgfjgaaTmGo
namespace Go.TM
open Go.Proofs
set_option maxRecDepth 100000
theorem sh3 {d : Nat} {pcs : List PV} (h : Shaped Try.prog d 3 pcs) : ∃ n, pcs = [pint n] := by
  cases d with
  | zero => exact h.elim
  | succ d =>
    unfold Shaped at h
    rw [show Try.prog.underlying 3 = some (.int .i64) by kernel_rfl] at h
    obtain ⟨n, h, _⟩ := h
    exact ⟨n, h⟩
theorem sh9 {d : Nat} {pcs : List PV} (h : Shaped Try.prog d 9 pcs) : ∃ s, pcs = [.sc (.string s)] := by
  cases d with
  | zero => exact h.elim
  | succ d =>
    unfold Shaped at h
    rw [show Try.prog.underlying 9 = some .string by kernel_rfl] at h
    obtain ⟨n, h, _⟩ := h
    exact ⟨n, h⟩
theorem shSl {d t e : Nat} {pcs : List PV} (h : Shaped Try.prog d t pcs) (ht : elemTy Try.prog t = some e) : ∃ n cs, pcs = [.sl n cs] := by
  cases d with
  | zero => exact h.elim
  | succ d =>
    obtain ⟨rows, rfl, _⟩ := h.slice ht
    exact ⟨_, _, rfl⟩
theorem sh52 {d : Nat} {pcs : List PV} (h : Shaped Try.prog d 52 pcs) : ∃ p, pcs = pC p := by
  cases d with
  | zero => exact h.elim
  | succ d =>
    obtain ⟨a, r, rfl, ha, b, s, rfl, hb, c, q, rfl, hc, e, z, rfl, he, rfl⟩ := h.struct (show fieldTys Try.prog 52 = some [3, 3, 3, 3] by kernel_rfl)
    obtain ⟨a, rfl⟩ := sh3 ha
    obtain ⟨b, rfl⟩ := sh3 hb
    obtain ⟨c, rfl⟩ := sh3 hc
    obtain ⟨e, rfl⟩ := sh3 he
    exact ⟨⟨a, b, c, e⟩, rfl⟩
theorem rowsP : ∀ (rows : List (List PV)), (∀ r ∈ rows, ∃ p, r = pC p) → ∃ l : List P4, l.length = rows.length ∧ l.flatMap pC = rows.flatten
  | [], _ => ⟨[], rfl, rfl⟩
  | r :: rs, h => by
    obtain ⟨t, rfl⟩ := h r (List.mem_cons_self ..)
    obtain ⟨l, h1, h2⟩ := rowsP rs fun r hr => h r (List.mem_cons_of_mem _ hr)
    refine ⟨t :: l, by simp [h1], ?_⟩
    rw [List.flatten_cons, ← h2]
    rfl
theorem sh34 {d : Nat} {pcs : List PV} (h : Shaped Try.prog d 34 pcs) : ∃ ps : List P4, pcs = [.sl ps.length (ps.flatMap pC)] := by
  cases d with
  | zero => exact h.elim
  | succ d =>
    obtain ⟨rows, rfl, _, hr⟩ := h.slice (show elemTy Try.prog 34 = some 52 by kernel_rfl)
    obtain ⟨l, h1, h2⟩ := rowsP rows fun r hr' => sh52 (hr r hr')
    exact ⟨l, by rw [h1, h2]⟩
theorem sh37 {d : Nat} {pcs : List PV} (h : Shaped Try.prog d 37 pcs) : ∃ s, avOf Try.prog 37 pcs = .agg (scC s) := by
  cases d with
  | zero => exact h.elim
  | succ d =>
    obtain ⟨a0, r0, rfl, h0, a1, r1, rfl, h1, a2, r2, rfl, h2, a3, r3, rfl, h3, a4, r4, rfl, h4, a5, r5, rfl, h5, a6, r6, rfl, h6, rfl⟩ := h.struct (show fieldTys Try.prog 37 = some [3, 3, 31, 32, 33, 34, 35] by kernel_rfl)
    obtain ⟨a0, rfl⟩ := sh3 h0
    obtain ⟨a1, rfl⟩ := sh3 h1
    obtain ⟨n2, s2, rfl⟩ := shSl h2 (show elemTy Try.prog 31 = some 101 by kernel_rfl)
    obtain ⟨n3, s3, rfl⟩ := shSl h3 (show elemTy Try.prog 32 = some 103 by kernel_rfl)
    obtain ⟨n4, s4, rfl⟩ := shSl h4 (show elemTy Try.prog 33 = some 105 by kernel_rfl)
    obtain ⟨ps, rfl⟩ := sh34 h5
    obtain ⟨n6, s6, rfl⟩ := shSl h6 (show elemTy Try.prog 35 = some 109 by kernel_rfl)
    refine ⟨⟨a0, a1, n2, s2, n3, s3, n4, s4, ps, n6, s6⟩, ?_⟩
    unfold avOf
    rw [show isAgg Try.prog 37 = true by kernel_rfl]
    rfl
theorem sh42 {d : Nat} {pcs : List PV} (h : Shaped Try.prog d 42 pcs) : ∃ r, avOf Try.prog 42 pcs = .agg (rlC r) := by
  cases d with
  | zero => exact h.elim
  | succ d =>
    obtain ⟨a0, r0, rfl, h0, a1, r1, rfl, h1, a2, r2, rfl, h2, a3, r3, rfl, h3, rfl⟩ := h.struct (show fieldTys Try.prog 42 = some [9, 40, 3, 3] by kernel_rfl)
    obtain ⟨b0, rfl⟩ := sh9 h0
    obtain ⟨at_, rfl⟩ := sh3 h2
    obtain ⟨b5, rfl⟩ := sh3 h3
    cases d with
    | zero => exact h1.elim
    | succ d =>
      obtain ⟨c0, q0, rfl, k0, c1, q1, rfl, k1, c2, q2, rfl, k2, rfl⟩ := h1.struct (show fieldTys Try.prog 40 = some [9, 3, 38] by kernel_rfl)
      obtain ⟨b1, rfl⟩ := sh9 k0
      obtain ⟨b2, rfl⟩ := sh3 k1
      obtain ⟨n3, s3, rfl⟩ := shSl k2 (show elemTy Try.prog 38 = some 111 by kernel_rfl)
      refine ⟨⟨b0, b1, b2, n3, s3, at_, b5⟩, ?_⟩
      unfold avOf
      rw [show isAgg Try.prog 42 = true by kernel_rfl]
      rfl
theorem sh44 {d : Nat} {pcs : List PV} (h : Shaped Try.prog d 44 pcs) : ∃ a b c e, pcs = [pint a, pint b, pint c, pint e] := by
  cases d with
  | zero => exact h.elim
  | succ d =>
    unfold Shaped at h
    rw [show Try.prog.underlying 44 = some (.array 4 3) by kernel_rfl] at h
    obtain ⟨rows, rfl, hl, hr⟩ := h
    match rows, hl with
    | [a, b, c, e], _ =>
      obtain ⟨a, rfl⟩ := sh3 (hr a (by simp))
      obtain ⟨b, rfl⟩ := sh3 (hr b (by simp))
      obtain ⟨c, rfl⟩ := sh3 (hr c (by simp))
      obtain ⟨e, rfl⟩ := sh3 (hr e (by simp))
      exact ⟨a, b, c, e, rfl⟩
theorem sh46 {d : Nat} {pcs : List PV} (h : Shaped Try.prog d 46 pcs) : ∃ f, avOf Try.prog 46 pcs = .agg (frC f) := by
  cases d with
  | zero => exact h.elim
  | succ d =>
    obtain ⟨a0, r0, rfl, h0, a1, r1, rfl, h1, a2, r2, rfl, h2, a3, r3, rfl, h3, a4, r4, rfl, h4, a5, r5, rfl, h5, rfl⟩ := h.struct (show fieldTys Try.prog 46 = some [3, 3, 3, 3, 3, 44] by kernel_rfl)
    obtain ⟨a0, rfl⟩ := sh3 h0
    obtain ⟨a1, rfl⟩ := sh3 h1
    obtain ⟨a2, rfl⟩ := sh3 h2
    obtain ⟨a3, rfl⟩ := sh3 h3
    obtain ⟨a4, rfl⟩ := sh3 h4
    obtain ⟨p, q, r, s, rfl⟩ := sh44 h5
    refine ⟨⟨a0, a1, a2, a3, a4, p, q, r, s⟩, ?_⟩
    unfold avOf
    rw [show isAgg Try.prog 46 = true by kernel_rfl]
    rfl
theorem run4 (pss : List (List PV)) (hl : pss.length = [37, 42, 42, 46].length) (h : ∀ (j : Nat) t pcs, [37, 42, 42, 46][j]? = some t → pss[j]? = some pcs → Shaped Try.prog 8 t pcs) :
    ∃ (c : CallF) (st' : St), CallOK Try.prog c ∧ c 4 (List.zipWith (avOf Try.prog) [37, 42, 42, 46] pss) st0 = some (TM.bool true, st') := by
  match pss, hl with
  | [p, q, r, s], _ =>
    obtain ⟨a, ha⟩ := sh37 (h 0 37 p rfl rfl)
    obtain ⟨b, hb⟩ := sh42 (h 1 42 q rfl rfl)
    obtain ⟨c, hc⟩ := sh42 (h 2 42 r rfl rfl)
    obtain ⟨f, hf⟩ := sh46 (h 3 46 s rfl rfl)
    obtain ⟨st', hx⟩ := x4 a b c f
    refine ⟨callBody Try.prog (fun _ => K4) 0 c4, st', body_ok pr ok4 _ _, ?_⟩
    show callBody Try.prog (fun _ => K4) 0 c4 4 [avOf Try.prog 37 p, avOf Try.prog 42 q, avOf Try.prog 42 r, avOf Try.prog 46 s] st0 = _
    rw [ha, hb, hc, hf]
    exact hx
end Go.TM
namespace Go.Proofs.Ytjoajdlnfgfjgaa
open Go.ChangeShapes Go.WideShapes Go.ChangeAt Go.RowKit
theorem Try.own : ownKnob Try.prog.godebug = none := by kernel_rfl
theorem Try.laidOut : laidOutB Try.prog = true := by kernel_rfl
def rel0 : Value := .agg #[.string ⟨#[]⟩, .string ⟨#[]⟩, .int .i64 0, .slice none 0 0, .int .i64 0, .int .i64 0]
def scr0 : Value := .agg #[.int .i64 0, .int .i64 0, .slice none 0 0, .slice none 0 0, .slice none 0 0, .slice none 0 0, .slice none 0 0]
def frm0 : Value := .agg #[.int .i64 0, .int .i64 0, .int .i64 0, .int .i64 0, .int .i64 0, .int .i64 0, .int .i64 0, .int .i64 0, .int .i64 0]
set_option maxRecDepth 100000 in
theorem releaseGrades_lifted (os : Os) (started : os.Started) (H : Type) (enc : TypeId × Value → H) :
    ReturnsInHanded {} Try.checked os 4 .any (Rows.releaseGradesSpec.pre6 enc Try.prog Try.f4 Rows.releaseGradesRow.domain false) (Rows.releaseGradesSpec.post enc Try.prog Try.f4 false true false false) :=
  TM.law_lifted (C := Try.checked) (tb := 4) (d := 8) Try.own started (by kernel_rfl) Try.func4
    (ChangeSpec.witness6 (enc := enc) (C := Try.checked) false ⟨#[], #[scr0, rel0, rel0, frm0], []⟩ 8 (by kernel_rfl) (by kernel_rfl) (by kernel_rfl) (by kernel_rfl))
    Try.laidOut (by decide +kernel) rfl rfl (by kernel_rfl) (fun ds h => by
      match ds, h with
      | [d1, d2, d3, d4], _ => rfl)
    (by decide +kernel) (fun pss hl h => TM.run4 pss hl h)
theorem releaseGrades_holds : Rows.ReleaseGradesSaid :=
  OpenClaim.holds_of_wide 4 Try.f4 rfl rfl rfl rfl rfl rfl rfl ⟨rfl, rfl, rfl, rfl, rfl⟩ rfl rfl rfl rfl rfl (by kernel_rfl) Try.func4 (by kernel_rfl)
    (of_decide_eq_true (by kernel_rfl)) (by unfold Func.isWrapper; first | (rw [if_pos (by decide +kernel)]; kernel_rfl) | (rw [if_neg (by decide +kernel)]; exact ⟨rfl, rfl⟩))
    (fun os started H enc _ => releaseGrades_lifted os started H enc)
#print axioms releaseGrades_holds
end Go.Proofs.Ytjoajdlnfgfjgaa
