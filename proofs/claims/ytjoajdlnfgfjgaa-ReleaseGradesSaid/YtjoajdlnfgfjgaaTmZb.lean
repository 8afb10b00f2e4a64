/- The release functions on the tree machine: only, the loop; Confirmed. -/
import Derived.Test.YtjoajdlnfgfjgaaTmZa
namespace Go.TM
open Go.Proofs
set_option maxRecDepth 100000
set_option maxHeartbeats 4000000
set_option linter.all false
def keep1 (l : List T4) : List T4 := l.filter fun t => decide (1 ≤ t.d)
theorem pop16 (l out : List T4) (i j : Int) (out' : List T4) (σ' : Slots) (r : List Obj) (h0 : get σ' 0 = tls l) (h1 : get σ' 1 = .fn (.func 17) [] [.lp 0 0]) (h4 : get σ' 4 = .g (.v 1) 0 [])
    (h5 : get σ' 5 = .g (.v 2) out'.length (enc out')) (h8 : get σ' 8 = tls l) (h9 : get σ' 9 = int l.length) (h10 : get σ' 10 = int j) :
    popS (σ16 l out i) (st16 out.length) σ' { enter (st16 out'.length) with h := .cells [int 1] :: r } = (σ16 l out' j, st16 out'.length) := by
  simp [popS, σ16, h0, h1, h4, h5, h8, h9, h10, st16, enter, outT, TM.out, out1, down, old, olds, oldCh, tls, int]
theorem r16e (l out : List T4) (N : Nat) :
    ∃ σ', code Try.prog c16 N [0, 1, 4, 5, 7, 8, 9, 10, 11, 16] (bodyOf Try.f16) (σ16 l out l.length) (enter (st16 out.length)) = some (.exit 0, σ', enter (st16 out.length)) ∧ get σ' 5 = .g (.v 2) out.length (enc out) := by
  simp [bodyOf, Try.f16, loopOf, code, runL, stepU, wanted, op, op1, σ16, get, put, putO, opd, bin, binInt, int, keepS_nil, keepS_cons, bool, ofConst, scalar]
theorem end16 (l out : List T4) (i : Int) (σ' : Slots) (h5 : get σ' 5 = .g (.v 2) out.length (enc out)) :
    ∃ σ'', popS (σ16 l out i) (st16 out.length) σ' (enter (st16 out.length)) = (σ'', st16 out.length) ∧ get σ'' 5 = .g (.v 2) out.length (enc out) := by
  refine ⟨_, by simp only [popS]; rfl, ?_⟩
  simp [σ16, get, h5, st16, enter, outT, TM.out, out1, down, old, oldCh]
theorem k16 (l : List T4) (hb : l.length < 50000) (N : Nat) : ∀ (k i : Nat) (out : List T4), i ≤ l.length → l.length < i + k → out.length ≤ i →
    ∃ σ', iter (fun σ st => code Try.prog c16 N [0, 1, 4, 5, 7, 8, 9, 10, 11, 16] (bodyOf Try.f16) σ st) k (σ16 l out (i : Int)) (st16 out.length) = some (.exit 0, σ', st16 (out ++ keep1 (l.drop i)).length) ∧
      get σ' 5 = .g (.v 2) (out ++ keep1 (l.drop i)).length (enc (out ++ keep1 (l.drop i)))
  | 0, i, out, h, h2, _ => by omega
  | k + 1, i, out, h, h2, ho => by
    simp only [iter]
    by_cases hi : i = l.length
    · subst hi
      obtain ⟨σ', h1, h3⟩ := r16e l out N
      obtain ⟨σ'', p1, p2⟩ := end16 l out l.length σ' h3
      rw [h1]
      simp only [p1]
      simp only [List.drop_length, keep1, List.filter_nil, List.append_nil]
      exact ⟨_, rfl, p2⟩
    · have hlt : i < l.length := by omega
      have hd : l.drop i = l[i] :: l.drop (i + 1) := List.drop_eq_getElem_cons hlt
      by_cases hn : 1 ≤ l[i].d
      · obtain ⟨σ', h1, g0, g1, g4, g5, g8, g9, g10⟩ := r16t l out l[i] i hlt (by omega) rfl hn (by omega) N
        have hlen : (out ++ [l[i]]).length = out.length + 1 := by simp
        rw [← hlen] at g5 h1
        rw [h1]
        simp only [pop16 l out i _ (out ++ [l[i]]) σ' _ g0 g1 g4 g5 g8 g9 g10]
        obtain ⟨σ'', q1, q2⟩ := k16 l hb N k (i + 1) (out ++ [l[i]]) (by omega) (by omega) (by rw [hlen]; omega)
        have e : out ++ [l[i]] ++ keep1 (l.drop (i + 1)) = out ++ keep1 (l.drop i) := by
          unfold keep1
          rw [hd, List.filter_cons, if_pos (by simpa using hn), List.append_assoc]
          rfl
        rw [e] at q1 q2
        exact ⟨σ'', q1, q2⟩
      · obtain ⟨σ', h1, g0, g1, g4, g5, g8, g9, g10⟩ := r16f l out l[i] i hlt (by omega) rfl hn N
        rw [h1]
        simp only [pop16 l out i _ out σ' _ g0 g1 g4 g5 g8 g9 g10]
        obtain ⟨σ'', q1, q2⟩ := k16 l hb N k (i + 1) out (by omega) (by omega) (by omega)
        have e : keep1 (l.drop (i + 1)) = keep1 (l.drop i) := by
          unfold keep1
          rw [hd, List.filter_cons, if_neg (by simpa using hn)]
        rw [e] at q1 q2
        exact ⟨σ'', q1, q2⟩
end Go.TM
