/- For all lists of tallies a and b the call observatorylaw44.ReleaseDifferences(a, b) returns true, and both arguments read behind it as before. Conditions: none. -/
import Derived.Test.YtjoajdlnfgfjgaaTmBs
import Derived.Test.YtjoajdlnfgfjgaaTmZk
namespace Go.TM
open Go.Proofs
set_option maxRecDepth 100000
theorem u3 : Try.prog.underlying 3 = some (.int .i64) := by kernel_rfl
theorem u29 : fieldTys Try.prog 29 = some [3, 3, 3, 3] := by kernel_rfl
theorem shaped3 {d : Nat} {pcs : List PV} (h : Shaped Try.prog d 3 pcs) : ∃ n, pcs = [pint n] := by
  cases d with
  | zero => exact h.elim
  | succ d =>
    unfold Shaped at h
    rw [u3] at h
    obtain ⟨n, h, _⟩ := h
    exact ⟨n, h⟩
theorem shaped29 {d : Nat} {pcs : List PV} (h : Shaped Try.prog d 29 pcs) : ∃ t, pcs = cells t := by
  cases d with
  | zero => exact h.elim
  | succ d =>
    obtain ⟨a, r, rfl, ha, b, s, rfl, hb, c, q, rfl, hc, e, z, rfl, he, rfl⟩ := h.struct u29
    obtain ⟨a, rfl⟩ := shaped3 ha
    obtain ⟨b, rfl⟩ := shaped3 hb
    obtain ⟨c, rfl⟩ := shaped3 hc
    obtain ⟨e, rfl⟩ := shaped3 he
    exact ⟨⟨a, b, c, e⟩, rfl⟩
theorem rowsT4 : ∀ (rows : List (List PV)), (∀ r ∈ rows, ∃ t, r = cells t) → ∃ l : List T4, l.length = rows.length ∧ enc l = rows.flatten
  | [], _ => ⟨[], rfl, rfl⟩
  | r :: rs, h => by
    obtain ⟨t, rfl⟩ := h r (List.mem_cons_self ..)
    obtain ⟨l, h1, h2⟩ := rowsT4 rs fun r hr => h r (List.mem_cons_of_mem _ hr)
    refine ⟨t :: l, by simp [h1], ?_⟩
    rw [List.flatten_cons, ← h2]
    rfl
theorem shaped22 {d : Nat} {pcs : List PV} (h : Shaped Try.prog d 22 pcs) : ∃ l, avOf Try.prog 22 pcs = tls l := by
  cases d with
  | zero => exact h.elim
  | succ d =>
    unfold Shaped at h
    rw [un22] at h
    obtain ⟨rows, rfl, _, hr⟩ := h
    obtain ⟨l, h1, h2⟩ := rowsT4 rows fun r hr' => shaped29 (hr r hr')
    refine ⟨l, ?_⟩
    unfold avOf tls
    rw [ag22, h1, h2]
    rfl
theorem run3 (pss : List (List PV)) (hl : pss.length = [22, 22].length) (h : ∀ (j : Nat) t pcs, [22, 22][j]? = some t → pss[j]? = some pcs → Shaped Try.prog 8 t pcs) :
    ∃ (c : CallF) (st' : St), CallOK Try.prog c ∧ c 3 (List.zipWith (avOf Try.prog) [22, 22] pss) st0 = some (TM.bool true, st') := by
  match pss, hl with
  | [p, q], _ =>
    obtain ⟨l, hl⟩ := shaped22 (h 0 22 p rfl rfl)
    obtain ⟨m, hm⟩ := shaped22 (h 1 22 q rfl rfl)
    obtain ⟨st', hx⟩ := x3 l m
    refine ⟨callBody Try.prog (fun _ => K3) 64 c3, st', body_ok pr ok3 _ _, ?_⟩
    show callBody Try.prog (fun _ => K3) 64 c3 3 [avOf Try.prog 22 p, avOf Try.prog 22 q] st0 = _
    rw [hl, hm]
    exact hx
end Go.TM
namespace Go.Proofs.Ytjoajdlnfgfjgaa
open Go.ChangeShapes Go.WideShapes Go.ChangeAt Go.RowKit
theorem Try.own : ownKnob Try.prog.godebug = none := by kernel_rfl
theorem Try.laidOut : laidOutB Try.prog = true := by kernel_rfl
set_option maxRecDepth 100000 in
theorem releaseDifferences_lifted (os : Os) (started : os.Started) (H : Type) (enc : TypeId × Value → H) :
    ReturnsInHanded {} Try.checked os 3 .any (Rows.releaseDifferencesSpec.pre6 enc Try.prog Try.f3 Rows.releaseDifferencesRow.domain false) (Rows.releaseDifferencesSpec.post enc Try.prog Try.f3 false true false false) :=
  TM.law_lifted (C := Try.checked) (tb := 4) (d := 8) Try.own started (by kernel_rfl) Try.func3
    (ChangeSpec.witness6 (enc := enc) (C := Try.checked) false ⟨#[], #[.slice none 0 0, .slice none 0 0], []⟩ 8 (by kernel_rfl) (by kernel_rfl) (by kernel_rfl) (by kernel_rfl))
    Try.laidOut (by decide +kernel) rfl rfl (by kernel_rfl) (fun ds h => by
      match ds, h with
      | [d1, d2], _ => rfl)
    (by decide +kernel) (fun pss hl h => TM.run3 pss hl h)
theorem releaseDifferences_holds : Rows.ReleaseDifferencesSaid :=
  OpenClaim.holds_of_wide 3 Try.f3 rfl rfl rfl rfl rfl rfl rfl ⟨rfl, rfl, rfl, rfl, rfl⟩ rfl rfl rfl rfl rfl (by kernel_rfl) Try.func3 (by kernel_rfl)
    (of_decide_eq_true (by kernel_rfl)) (by unfold Func.isWrapper; first | (rw [if_pos (by decide +kernel)]; kernel_rfl) | (rw [if_neg (by decide +kernel)]; exact ⟨rfl, rfl⟩))
    (fun os started H enc _ => releaseDifferences_lifted os started H enc)
#print axioms releaseDifferences_holds
end Go.Proofs.Ytjoajdlnfgfjgaa
