/- ReleaseDifferences on the tree machine: the second loop. -/
import Derived.Test.YtjoajdlnfgfjgaaTmZh
namespace Go.TM
open Go.Proofs
set_option maxRecDepth 100000
set_option maxHeartbeats 4000000
set_option linter.all false
def σ3b (a b x y : List T4) (n m i : Int) : Slots := [(0, tls a), (1, tls b), (4, bool false), (5, bool true), (24, bool false), (6, sls x), (7, sls y), (8, int 0), (34, bool false), (9, int n), (10, int b.length), (11, int m), (12, int i)]
theorem s3t (b a y x : List T4) (t : T4) (nn : Int) (n i : Nat) (hi : i < a.length) (ha : b.length < 64) (hb : a.length < 64) (hx : y.length < 64) (ht : a[i] = t) (hf : findFrom t b 0 < 0) (hn : n < y.length) (hxn : y[n] = t) (N : Nat) :
    ∃ σ', code Try.prog c3 N K3 (loopNo Try.f3 1) (σ3b a b x y nn n i) (enter st15) = some (.normal, σ', enter st15) ∧
      popS (σ3b a b x y nn n i) st15 σ' (enter st15) = (σ3b a b x y nn ((n + 1 : Nat) : Int) ((i + 1 : Nat) : Int), st15) := by
  have hix := ix a hi
  have hixx := ix y hn
  have nl := hi
  have w1 : IntKind.i64.wrap ((i : Int) + 1) = (i : Int) + 1 := by rw [IntKind.wrap_i64]; omega
  have w2 : IntKind.i64.wrap ((n : Int) + 1) = (n : Int) + 1 := by rw [IntKind.wrap_i64]; omega
  have hld : ∀ st : St, load Try.prog st 29 (.pv (.pt ((enc a).drop (i * 4)))) = some (tal t) := fun st => by
    have := ld st a hi
    rw [ht] at this; exact this
  have hldx : ∀ st : St, load Try.prog st 29 (.pv (.pt ((enc y).drop (n * 4)))) = some (tal t) := fun st => by
    have := ld st y hn
    rw [hxn] at this; exact this
  have h7 := q7 b t ha
  have hnx : ¬ y.length ≤ n := by omega
  have lx : ∀ st, lenOf Try.prog st 22 (sls y) = some (int y.length) := fun st => len22 st y
  have ixx : indexAddr Try.prog 22 (sls y) n = some (.pv (.pt ((enc y).drop (n * 4)))) := hixx
  simp only [int, tal] at hld hldx h7 lx
  have run : ∃ σ', code Try.prog c3 N K3 (loopNo Try.f3 1) (σ3b a b x y nn n i) (enter st15) = some (.normal, σ', enter st15) ∧
      get σ' 0 = tls a ∧ get σ' 1 = tls b ∧ get σ' 4 = bool false ∧ get σ' 5 = bool true ∧ get σ' 6 = sls x ∧ get σ' 7 = sls y ∧ get σ' 8 = int 0 ∧ get σ' 11 = int ((n : Int) + 1) ∧ get σ' 12 = int ((i : Int) + 1) ∧ get σ' 9 = int nn ∧ get σ' 10 = int b.length ∧ get σ' 24 = bool false ∧ get σ' 34 = bool false := by
    simp [K3, loopNo, loops, Try.f3, code, runL, stepU, stepD, isWr, op1D, memD, mem, op2, op3, wanted, op, op1, σ3b, get, put, putO, opd, len22, lx, bin, binInt, int, bool, hi, hn, hnx, hf, keepS_nil, keepS_cons, hix, ixx, isInt, hld, hldx, h7, w1, w2, eq29, ty29, ag29, scs, arg_tls, arg_agg, arg1, strip, strip2, strip1, ofConst, scalar, enter, st15]
  obtain ⟨σ', h1, g0, g1, g4, g5, g6, g7, g8, g11, g12, g9, g10, g24, g34⟩ := run
  refine ⟨σ', h1, ?_⟩
  simp [popS, σ3b, g0, g1, g4, g5, g6, g7, g8, g11, g12, g9, g10, g24, g34, st15, enter, outT, TM.out, out1, down, old, tls, sls, int, bool]
theorem s3f (b a y x : List T4) (t : T4) (nn : Int) (n i : Nat) (hi : i < a.length) (ha : b.length < 64) (hb : a.length < 64) (hx : y.length < 64) (ht : a[i] = t) (hf : findFrom t b 0 ≥ 0) (hnn : n < 1000) (N : Nat) :
    ∃ σ', code Try.prog c3 N K3 (loopNo Try.f3 1) (σ3b a b x y nn n i) (enter st15) = some (.normal, σ', enter st15) ∧
      popS (σ3b a b x y nn n i) st15 σ' (enter st15) = (σ3b a b x y nn n ((i + 1 : Nat) : Int), st15) := by
  have hix := ix a hi
  have nl := hi
  have w1 : IntKind.i64.wrap ((i : Int) + 1) = (i : Int) + 1 := by rw [IntKind.wrap_i64]; omega
  have w2 : IntKind.i64.wrap ((n : Int) + 1) = (n : Int) + 1 := by rw [IntKind.wrap_i64]; omega
  have hld : ∀ st : St, load Try.prog st 29 (.pv (.pt ((enc a).drop (i * 4)))) = some (tal t) := fun st => by
    have := ld st a hi
    rw [ht] at this; exact this
  have h7 := q7 b t ha
  have hf' : ¬ findFrom t b 0 < 0 := by omega
  have lx : ∀ st, lenOf Try.prog st 22 (sls y) = some (int y.length) := fun st => len22 st y
  simp only [int, tal] at hld h7 lx
  have run : ∃ σ', code Try.prog c3 N K3 (loopNo Try.f3 1) (σ3b a b x y nn n i) (enter st15) = some (.normal, σ', enter st15) ∧
      get σ' 0 = tls a ∧ get σ' 1 = tls b ∧ get σ' 4 = bool false ∧ get σ' 5 = bool true ∧ get σ' 6 = sls x ∧ get σ' 7 = sls y ∧ get σ' 8 = int 0 ∧ get σ' 11 = int n ∧ get σ' 12 = int ((i : Int) + 1) ∧ get σ' 9 = int nn ∧ get σ' 10 = int b.length ∧ get σ' 24 = bool false ∧ get σ' 34 = bool false := by
    simp [K3, loopNo, loops, Try.f3, code, runL, stepU, stepD, isWr, op1D, memD, mem, op2, op3, wanted, op, op1, σ3b, get, put, putO, opd, len22, lx, bin, binInt, int, bool, hi, hf', keepS_nil, keepS_cons, hix, isInt, hld, h7, w1, w2, eq29, ty29, ag29, scs, arg_tls, arg_agg, arg1, strip, strip2, strip1, ofConst, scalar, enter, st15]
  obtain ⟨σ', h1, g0, g1, g4, g5, g6, g7, g8, g11, g12, g9, g10, g24, g34⟩ := run
  refine ⟨σ', h1, ?_⟩
  simp [popS, σ3b, g0, g1, g4, g5, g6, g7, g8, g11, g12, g9, g10, g24, g34, st15, enter, outT, TM.out, out1, down, old, tls, sls, int, bool]
theorem s3e (b a y x : List T4) (nn n : Int) (N : Nat) :
    ∃ σ', code Try.prog c3 N K3 (loopNo Try.f3 1) (σ3b a b x y nn n a.length) (enter st15) = some (.exit 2, σ', enter st15) ∧
      popS (σ3b a b x y nn n a.length) st15 σ' (enter st15) = (σ3b a b x y nn n a.length, st15) := by
  have run : ∃ σ', code Try.prog c3 N K3 (loopNo Try.f3 1) (σ3b a b x y nn n a.length) (enter st15) = some (.exit 2, σ', enter st15) ∧
      get σ' 0 = tls a ∧ get σ' 1 = tls b ∧ get σ' 4 = bool false ∧ get σ' 5 = bool true ∧ get σ' 6 = sls x ∧ get σ' 7 = sls y ∧ get σ' 8 = int 0 ∧ get σ' 11 = int n ∧ get σ' 12 = int a.length ∧ get σ' 9 = int nn ∧ get σ' 10 = int b.length ∧ get σ' 24 = bool false ∧ get σ' 34 = bool false := by
    simp [K3, loopNo, loops, Try.f3, code, runL, stepU, wanted, op, op1, σ3b, get, put, putO, opd, len22, bin, binInt, int, bool, keepS_nil, keepS_cons, ofConst, scalar, enter, st15]
  obtain ⟨σ', h1, g0, g1, g4, g5, g6, g7, g8, g11, g12, g9, g10, g24, g34⟩ := run
  refine ⟨σ', h1, ?_⟩
  simp [popS, σ3b, g0, g1, g4, g5, g6, g7, g8, g11, g12, g9, g10, g24, g34, st15, enter, outT, TM.out, out1, down, old, tls, sls, int, bool]
theorem k3b (b a x : List T4) (nn : Int) (ha : b.length < 64) (hb : a.length < 64) (N : Nat) : ∀ (k i : Nat) (p : List T4), i ≤ a.length → a.length < i + k → p.length ≤ i → (p ++ rest b (a.drop i)).length < 64 →
    ∃ σ', iter (fun σ st => code Try.prog c3 N K3 (loopNo Try.f3 1) σ st) k (σ3b a b x (p ++ rest b (a.drop i)) nn (p.length : Nat) (i : Nat)) st15 = some (.exit 2, σ', st15) ∧
      σ' = σ3b a b x (p ++ rest b (a.drop i)) nn (p ++ rest b (a.drop i)).length a.length
  | 0, i, p, h, h2, _, _ => by omega
  | k + 1, i, p, h, h2, hp, hx => by
    simp only [iter]
    by_cases hi : i = a.length
    · subst hi
      obtain ⟨σ', h1, h3⟩ := s3e b a (p ++ rest b (a.drop a.length)) x nn p.length N
      rw [h1]
      simp only [h3]
      refine ⟨_, rfl, ?_⟩
      simp [rest]
    · have hlt : i < a.length := by omega
      have hd : a.drop i = a[i] :: a.drop (i + 1) := List.drop_eq_getElem_cons hlt
      by_cases hf : findFrom a[i] b 0 < 0
      · have e : p ++ rest b (a.drop i) = (p ++ [a[i]]) ++ rest b (a.drop (i + 1)) := by
          unfold rest
          rw [hd, List.filter_cons, if_pos (by simpa using hf), List.append_assoc]
          rfl
        rw [e] at hx ⊢
        have hl : (p ++ [a[i]]).length = p.length + 1 := by simp
        obtain ⟨σ', h1, h3⟩ := s3t b a ((p ++ [a[i]]) ++ rest b (a.drop (i + 1))) x a[i] nn p.length i hlt ha hb hx rfl hf (by simp) (by simp) N
        rw [h1]
        simp only [h3]
        have q := k3b b a x nn ha hb N k (i + 1) (p ++ [a[i]]) (by omega) (by omega) (by rw [hl]; omega) hx
        rw [hl] at q
        exact q
      · have e : rest b (a.drop i) = rest b (a.drop (i + 1)) := by
          unfold rest
          rw [hd, List.filter_cons, if_neg (by simpa using hf)]
        rw [e] at hx ⊢
        obtain ⟨σ', h1, h3⟩ := s3f b a (p ++ rest b (a.drop (i + 1))) x a[i] nn p.length i hlt ha hb hx rfl (by omega) (by omega) N
        rw [h1]
        simp only [h3]
        exact k3b b a x nn ha hb N k (i + 1) p (by omega) (by omega) (by omega) hx
end Go.TM
