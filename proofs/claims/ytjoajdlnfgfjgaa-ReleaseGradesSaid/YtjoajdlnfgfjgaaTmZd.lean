/- The release functions on the tree machine: Confirmed. -/
import Derived.Test.YtjoajdlnfgfjgaaTmZc
namespace Go.TM
open Go.Proofs
set_option maxRecDepth 100000
set_option maxHeartbeats 4000000
set_option linter.all false
theorem pr : okProg Try.prog = true := by decide +kernel
noncomputable def c11 : CallF := tab (callBody Try.prog (fun _ => [0, 1, 4, 5, 7, 8, 9, 10, 11, 16]) 64 c16) 15 spec15
theorem q15 (l : List T4) (hl : l.length < 64) (st : St) : c11 15 [tls l] st = some (bool (okT none l), st) := by
  show (match spec15 [tls l] with | some v => some (v, st) | none => none) = _
  simp only [spec15, tls, dec_enc, hl, true_and, if_true]
  have : l.length ≤ 1000 := by omega
  simp [this]
theorem q16 (l : List T4) (hl : l.length < 64) : c11 16 [tls l, .fn (.func 17) [] [.lp 0 0]] st16a = some (.pv (.sl (keep1 l).length (enc (keep1 l))), st16a) :=
  x16 l (by omega) 64 hl
def res11 (l : List T4) : AV := if okT none l then .tup [.pv (.sl (keep1 l).length (enc (keep1 l))), int 0] else .tup [.pv (.sl 0 []), int 1]
theorem x11 (l : List T4) (hl : l.length < 64) : ∃ st', callBody Try.prog (fun _ => [0, 3, 4, 5, 16]) 0 c11 11 [tls l, int 1] st0 = some (res11 l, st') := by
  have h15 := q15 l hl
  have h16 := q16 l hl
  simp only [st16a, tls, int] at h15 h16
  cases h : okT none l <;> simp only [h, bool] at h15 <;>
  simp [res11, h, fun11, callBody, Try.f11, code, runL, stepU, wanted, op, op1, op2, op3, mem, enter, number, get, put, putO, keepS_nil, keepS_cons, opd, ofConst, scalar, tls, int, bool, parts, one, push, unop, load, loadC, kn3, ag3, bin, binInt, arg, arg1, h15, h16, results, tuple, outT, TM.out, out1, down, old, oldCh, st0]
theorem ok16 : CallOK Try.prog c16 := body_ok pr none_ok _ _
theorem ok13 : CallOK Try.prog (tab (fun _ _ _ => none) 13 spec13) := tab_ok none_ok (body_ok pr none_ok (fun _ => [2, 3, 4]) 0) fun args v h => by
  unfold spec13 at h
  split at h
  · obtain rfl := Option.some.inj h
    exact ⟨rfl, _, _, x13 ⟨_, _, _, _⟩ ⟨_, _, _, _⟩, rfl⟩
  · cases h
theorem ok15 : CallOK Try.prog c15 := by
  refine tab_ok (tab_ok (tab_ok none_ok (body_ok pr none_ok (fun _ => [1, 2]) 0) ?_) (body_ok pr none_ok (fun _ => [1, 2]) 0) ?_) (body_ok pr (c := c25) (body_ok pr none_ok _ _) (fun _ => [2, 3, 4]) 0) ?_
  · intro args v h
    unfold spec23 at h
    split at h
    · obtain rfl := Option.some.inj h
      exact ⟨rfl, _, _, x23 ⟨_, _, _, _⟩, rfl⟩
    · cases h
  · intro args v h
    unfold spec24 at h
    split at h
    · obtain rfl := Option.some.inj h
      exact ⟨rfl, _, _, x24 _ _ _, rfl⟩
    · cases h
  · intro args v h
    unfold spec25 at h
    split at h
    · obtain rfl := Option.some.inj h
      exact ⟨rfl, _, _, x25 _ _ _ _ _ _, rfl⟩
    · cases h
theorem ok11 : CallOK Try.prog c11 := by
  refine tab_ok (body_ok pr ok16 _ _) (body_ok pr ok15 (fun _ => [0, 2, 3, 4, 5, 6, 7, 8, 41]) 64) fun args v h => ?_
  unfold spec15 at h
  split at h
  case h_2 => cases h
  rename_i n cs
  split at h
  case h_2 => cases h
  rename_i l hl
  split at h
  case isFalse => cases h
  rename_i hn
  obtain ⟨rfl, hn⟩ := hn
  obtain rfl := Option.some.inj h
  obtain rfl := enc_dec cs l hl
  obtain ⟨st', q⟩ := x15 l (by omega) 64 hn
  exact ⟨rfl, _, _, q, rfl⟩
end Go.TM
