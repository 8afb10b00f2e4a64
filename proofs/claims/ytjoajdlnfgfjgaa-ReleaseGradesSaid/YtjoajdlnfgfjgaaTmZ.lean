/- The release functions on the tree machine: tallies, the loop. -/
import Derived.Test.YtjoajdlnfgfjgaaTmY
namespace Go.TM
open Go.Proofs
set_option maxRecDepth 100000
set_option maxHeartbeats 4000000
set_option linter.all false
def okT : Option T4 → List T4 → Bool
  | _, [] => true
  | none, t :: r => good t && okT (some t) r
  | some p, t :: r => good t && decide (cmp3 p t < 0) && okT (some t) r
theorem pop15 (l : List T4) (i j : Int) (cs : List AV) (σ' : Slots) (h0 : get σ' 0 = tls l) (h2 : get σ' 2 = bool false) (h5 : get σ' 5 = tls l) (h6 : get σ' 6 = int l.length) (h7 : get σ' 7 = int j) :
    popS (σ15 l i) st15 σ' { enter st15 with h := [.cells cs] } = (σ15 l j, st15) := by
  simp [popS, σ15, h0, h2, h5, h6, h7, st15, enter, outT, out, out1, down, old, tls, int, bool]
theorem ret15 (l : List T4) (i : Int) (cs : List AV) (σ' : Slots) (h2 : get σ' 2 = bool false) :
    ∃ σ'', popS (σ15 l i) st15 σ' { enter st15 with h := [.cells cs] } = (σ'', st15) ∧ get σ'' 2 = bool false := by
  refine ⟨_, by simp only [popS]; rfl, ?_⟩
  simp [σ15, get, h2, st15, enter, outT, out, out1, down, old, bool]
theorem end15 (l : List T4) (i : Int) (σ' : Slots) (h0 : get σ' 0 = tls l) :
    ∃ σ'', popS (σ15 l i) st15 σ' (enter st15) = (σ'', st15) ∧ get σ'' 0 = tls l := by
  refine ⟨_, by simp only [popS]; rfl, ?_⟩
  simp [σ15, get, h0, st15, enter, outT, out, out1, down, old, tls]
theorem k15 (l : List T4) (hb : l.length < 100000) (N : Nat) : ∀ (k i : Nat) (prev : Option T4), i ≤ l.length → l.length < i + k → ((i = 0 ∧ prev = none) ∨ ∃ j p, i = j + 1 ∧ l[j]? = some p ∧ prev = some p) →
    ∃ e σ', iter (fun σ st => code Try.prog c15 N [0, 2, 3, 4, 5, 6, 7, 8, 41] (bodyOf Try.f15) σ st) k (σ15 l (i : Int)) st15 = some (e, σ', st15) ∧
      ((e = .exit 0 ∧ okT prev (l.drop i) = true ∧ get σ' 0 = tls l) ∨ (e = .ret ∧ okT prev (l.drop i) = false ∧ get σ' 2 = bool false))
  | 0, i, _, h, h2, _ => by omega
  | k + 1, i, prev, h, h2, hp => by
    simp only [iter]
    by_cases hi : i = l.length
    · subst hi
      obtain ⟨σ', h1, h3⟩ := r15e l N
      obtain ⟨σ'', p1, p2⟩ := end15 l l.length σ' h3
      rw [h1]
      simp only [p1]
      exact ⟨_, _, rfl, .inl ⟨rfl, by simp [okT], p2⟩⟩
    · have hlt : i < l.length := by omega
      have hd : l.drop i = l[i] :: l.drop (i + 1) := List.drop_eq_getElem_cons hlt
      have dich : (∃ σ', code Try.prog c15 N [0, 2, 3, 4, 5, 6, 7, 8, 41] (bodyOf Try.f15) (σ15 l (i : Int)) (enter st15) = some (.normal, σ', { enter st15 with h := [.cells [int l[i].a, int l[i].b, int l[i].c, int l[i].d]] }) ∧
          get σ' 0 = tls l ∧ get σ' 2 = bool false ∧ get σ' 5 = tls l ∧ get σ' 6 = int l.length ∧ get σ' 7 = int ((i + 1 : Nat) : Int) ∧ okT prev (l.drop i) = okT (some l[i]) (l.drop (i + 1))) ∨
          (∃ σ', code Try.prog c15 N [0, 2, 3, 4, 5, 6, 7, 8, 41] (bodyOf Try.f15) (σ15 l (i : Int)) (enter st15) = some (.ret, σ', { enter st15 with h := [.cells [int l[i].a, int l[i].b, int l[i].c, int l[i].d]] }) ∧
          get σ' 2 = bool false ∧ okT prev (l.drop i) = false) := by
        cases hg : good l[i] with
        | false =>
          obtain ⟨σ', e1, e2⟩ := r15b l l[i] i hlt rfl hg N
          refine .inr ⟨σ', e1, e2, ?_⟩
          rw [hd]; cases prev <;> simp [okT, hg]
        | true =>
          rcases hp with ⟨rfl, rfl⟩ | ⟨j, p, rfl, hj, rfl⟩
          · obtain ⟨σ', e1, e2⟩ := r15z l l[0] hlt rfl hg N
            refine .inl ⟨σ', e1, e2.1, e2.2.1, e2.2.2.1, e2.2.2.2.1, e2.2.2.2.2, ?_⟩
            rw [hd]; simp [okT, hg]
          · have hjl : l[j]'(by omega) = p := by
              have := (List.getElem?_eq_some_iff.1 hj).2; exact this
            by_cases hc : cmp3 p l[j + 1] < 0
            · obtain ⟨σ', e1, e2⟩ := r15s l l[j + 1] p j hlt hb rfl hjl hg hc N
              refine .inl ⟨σ', e1, e2.1, e2.2.1, e2.2.2.1, e2.2.2.2.1, e2.2.2.2.2, ?_⟩
              rw [hd]; simp [okT, hg, hc]
            · obtain ⟨σ', e1, e2⟩ := r15c l l[j + 1] p j hlt hb rfl hjl hg (by omega) N
              refine .inr ⟨σ', e1, e2, ?_⟩
              rw [hd]; simp [okT, hc]
      rcases dich with ⟨σ', h1, g0, g2, g5, g6, g7, hok⟩ | ⟨σ', h1, g2, hok⟩
      · rw [h1]
        simp only [pop15 l i _ _ σ' g0 g2 g5 g6 g7]
        rw [hok]
        exact k15 l hb N k (i + 1) (some l[i]) (by omega) (by omega) (.inr ⟨i, l[i], rfl, by simp [hlt], rfl⟩)
      · obtain ⟨σ'', p1, p2⟩ := ret15 l i [int l[i].a, int l[i].b, int l[i].c, int l[i].d] σ' g2
        rw [h1]
        simp only [p1]
        exact ⟨_, _, rfl, .inr ⟨rfl, hok, p2⟩⟩
theorem x15 (l : List T4) (hb : l.length < 100000) (n : Nat) (hn : l.length < n) : ∃ st', callBody Try.prog (fun _ => [0, 2, 3, 4, 5, 6, 7, 8, 41]) n c15 15 [tls l] st0 = some (bool (okT none l && decide (l.length ≤ 1000)), st') := by
  obtain ⟨e, σ', h1, h2⟩ := k15 l hb n n 0 none (Nat.zero_le _) (by omega) (.inl ⟨rfl, rfl⟩)
  have f15 : Try.prog.funcs[15]? = some Try.f15 := by kernel_rfl
  have hz : ((0 : Nat) : Int) = 0 := rfl
  rw [List.drop_zero] at h2
  rw [hz] at h1
  have hbody : Try.f15.body = some (setLoop (bodyOf Try.f15) (Try.f15.body.getD .skip)) := by kernel_rfl
  have hres : Try.f15.results = #[ResultVar.tmp 2] := rfl
  simp only [callBody, f15, hres]
  rw [hbody]
  generalize bodyOf Try.f15 = L at h1 ⊢
  have hσ : σ15 l 0 = [(0, tls l), (2, .pv (.sc (.bool false))), (5, tls l), (6, .pv (.sc (.int .i64 l.length))), (7, .pv (.sc (.int .i64 0)))] := rfl
  rw [hσ] at h1
  have hst : st15 = { h := [], ch := [], ms := [(0, 0)], fl := 0, cf := 0 } := rfl
  rw [hst] at h1
  rcases h2 with ⟨rfl, h2, h3⟩ | ⟨rfl, h2, h3⟩
  · simp [Try.f15, setLoop, hasLoop, number, enter, st0, code, runL, stepU, wanted, op, op1, op2, mem, get, put, putO, opd, keepS_nil, keepS_cons, get_keepS, get_put, len22, bin, binInt, bool, ofConst, scalar, int, h1, results, tuple, outT, out, out1, down, old, h2, h3]
    omega
  · simp only [bool] at h3
    simp [Try.f15, setLoop, hasLoop, number, enter, st0, code, runL, stepU, wanted, op, op1, op2, mem, get, put, putO, opd, keepS_nil, keepS_cons, get_keepS, get_put, len22, bin, binInt, bool, ofConst, scalar, int, h1, results, tuple, outT, out, out1, down, old, h2, h3]
end Go.TM
