/- ReleaseGrades on the tree machine: the law. -/
import Derived.Test.YtjoajdlnfgfjgaaTmGm
namespace Go.TM
open Go.Proofs
set_option maxRecDepth 100000
set_option maxHeartbeats 4000000
set_option linter.all false
def specG5 : List AV → Option AV
  | [] => some (bool true)
  | _ => none
def spec8 : List AV → Option AV
  | [.agg [.pv (.sc (.int .i64 a0)), .pv (.sc (.int .i64 a1)), .pv (.sl n2 s2), .pv (.sl n3 s3), .pv (.sl n4 s4), .pv (.sl n5 s5), .pv (.sl n6 s6)]] => match decP s5 with
    | some ps => if ps.length = n5 then some (bool (fewS ⟨a0, a1, n2, s2, n3, s3, n4, s4, ps, n6, s6⟩)) else none
    | none => none
  | _ => none
def spec9 : List AV → Option AV
  | [.agg [.pv (.sc (.int .i64 a0)), .pv (.sc (.int .i64 a1)), .pv (.sl n2 s2), .pv (.sl n3 s3), .pv (.sl n4 s4), .pv (.sl n5 s5), .pv (.sl n6 s6)], .agg [.pv (.sc (.string b0)), .pv (.sc (.string b1)), .pv (.sc (.int .i64 b2)), .pv (.sl n3' s3'), .pv (.sc (.int .i64 at_)), .pv (.sc (.int .i64 b5))],
     .agg [.pv (.sc (.int .i64 a)), .pv (.sc (.int .i64 b)), .pv (.sc (.int .i64 c)), .pv (.sc (.int .i64 d)), .pv (.sc (.int .i64 e)), .pv (.sc (.int .i64 f)), .pv (.sc (.int .i64 g)), .pv (.sc (.int .i64 h)), .pv (.sc (.int .i64 i))]] => match decP s5 with
    | some ps => if ps.length = n5 ∧ n5 < 64 then some (.tup [bool (gOk ⟨a, b, c, d, e, f, g, h, i⟩ ps at_ && paid ⟨a, b, c, d, e, f, g, h, i⟩ ps at_), int (if gOk ⟨a, b, c, d, e, f, g, h, i⟩ ps at_ then 0 else 1)]) else none
    | none => none
  | _ => none
noncomputable def c4 : CallF := tab (tab (tab none0 5 specG5) 8 spec8) 9 spec9
theorem ok4 : CallOK Try.prog c4 := by
  refine tab_ok (tab_ok (tab_ok none_ok (calls_ok pr keepAll 60 12) ?_) (body_ok pr none_ok (fun _ => [1, 2]) 0) ?_) (body_ok pr ok9 (fun _ => [3, 4, 5, 6, 7]) 0) ?_
  · intro args v h
    unfold specG5 at h
    split at h
    · obtain rfl := Option.some.inj h
      obtain ⟨st', q⟩ := x5
      exact ⟨rfl, _, _, q, rfl⟩
    · cases h
  · intro args v h
    unfold spec8 at h
    split at h
    case h_2 => cases h
    rename_i a0 a1 n2 s2 n3 s3 n4 s4 n5 s5 n6 s6
    split at h
    case h_2 => cases h
    rename_i ps hp
    split at h
    case isFalse => cases h
    rename_i hn
    obtain rfl := hn
    obtain rfl := Option.some.inj h
    obtain rfl := decP_dec _ _ hp
    obtain ⟨st', q⟩ := x8 ⟨a0, a1, n2, s2, n3, s3, n4, s4, ps, n6, s6⟩
    exact ⟨rfl, _, _, q, rfl⟩
  · intro args v h
    unfold spec9 at h
    split at h
    case h_2 => cases h
    rename_i a0 a1 n2 s2 n3 s3 n4 s4 n5 s5 n6 s6 b0 b1 b2 n3' s3' at_ b5 a b c d e f g hh i
    split at h
    case h_2 => cases h
    rename_i ps hp
    split at h
    case isFalse => cases h
    rename_i hn
    obtain ⟨rfl, hm⟩ := hn
    obtain rfl := Option.some.inj h
    obtain rfl := decP_dec _ _ hp
    obtain ⟨st', q⟩ := x9 ⟨a0, a1, n2, s2, n3, s3, n4, s4, ps, n6, s6⟩ ⟨b0, b1, b2, n3', s3', at_, b5⟩ ⟨a, b, c, d, e, f, g, hh, i⟩ hm
    exact ⟨rfl, _, _, q, rfl⟩
theorem qG5 (st : St) : c4 5 [] st = some (bool true, st) := rfl
theorem q8 (s : Sc) (st : St) : c4 8 [.agg (scC s)] st = some (bool (fewS s), st) := by
  show (match spec8 [.agg (scC s)] with | some v => some (v, st) | none => none) = _
  simp only [spec8, scC, int, flat, decP_enc, if_true]
theorem q9 (s : Sc) (r : Rl) (f : Fr) (hp : s.ps.length < 64) (st : St) : c4 9 [.agg (scC s), .agg (rlC r), frA f] st = some (.tup [bool (gOk f s.ps r.at_ && paid f s.ps r.at_), int (if gOk f s.ps r.at_ then 0 else 1)], st) := by
  show (match spec9 [.agg (scC s), .agg (rlC r), frA f] with | some v => some (v, st) | none => none) = _
  simp only [spec9, scC, rlC, frA, frC, int, flat, decP_enc, hp, and_self, if_true]
end Go.TM
