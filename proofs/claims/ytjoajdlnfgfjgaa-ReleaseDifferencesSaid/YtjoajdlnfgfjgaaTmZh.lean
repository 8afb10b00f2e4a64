/- ReleaseDifferences on the tree machine. -/
import Derived.Test.YtjoajdlnfgfjgaaTmHd
namespace Go.TM
open Go.Proofs
set_option maxRecDepth 100000
set_option maxHeartbeats 4000000
set_option linter.all false
def spec5 : List AV → Option AV
  | [] => some (bool true)
  | _ => none
def spec6 : List AV → Option AV
  | [.pv (.sl n cs), .pv (.sl m ds)] => match dec cs, dec ds with
    | some l, some k => if (l.length = n ∧ n < 64) ∧ k.length = m ∧ m < 64 then some (res6 l k) else none
    | _, _ => none
  | _ => none
def spec7 : List AV → Option AV
  | [.pv (.sl n cs), .agg [.pv (.sc (.int .i64 a)), .pv (.sc (.int .i64 b)), .pv (.sc (.int .i64 c)), .pv (.sc (.int .i64 d))]] => match dec cs with
    | some l => if l.length = n ∧ n < 64 then some (int (findFrom ⟨a, b, c, d⟩ l 0)) else none
    | _ => none
  | _ => none
noncomputable def c3 : CallF := tab (tab (tab none0 5 spec5) 6 spec6) 7 spec7
theorem x7' (l : List T4) (x : T4) (hl : l.length < 64) : ∃ st', callBody Try.prog (fun _ => [0, 3, 4, 5, 9, 17]) 64 c7 7 [tls l, tal x] st0 = some (int (findFrom x l 0), st') := x7 l x (by omega) 64 hl
theorem ok3 : CallOK Try.prog c3 := by
  refine tab_ok (tab_ok (tab_ok none_ok (calls_ok pr keepAll 60 12) ?_) (body_ok pr ok6 (fun _ => [0, 1, 4, 5, 6, 8, 9, 10, 13, 14, 15, 16, 25]) 4) ?_) (body_ok pr ok13 (fun _ => [0, 3, 4, 5, 9, 17]) 64) ?_
  · intro args v h
    unfold spec5 at h
    split at h
    · obtain rfl := Option.some.inj h
      obtain ⟨st', q⟩ := x5
      exact ⟨rfl, _, _, q, rfl⟩
    · cases h
  · intro args v h
    unfold spec6 at h
    split at h
    case h_2 => cases h
    rename_i n cs m ds
    split at h
    case h_2 => cases h
    rename_i l k hl hk
    split at h
    case isFalse => cases h
    rename_i hn
    obtain ⟨⟨rfl, hn⟩, rfl, hm⟩ := hn
    obtain rfl := Option.some.inj h
    obtain rfl := enc_dec cs l hl
    obtain rfl := enc_dec ds k hk
    obtain ⟨st', q⟩ := x6 l k hn hm
    refine ⟨rfl, _, _, q, ?_⟩
    unfold res6; split <;> rfl
  · intro args v h
    unfold spec7 at h
    split at h
    case h_2 => cases h
    rename_i n cs a b c d
    split at h
    case h_2 => cases h
    rename_i l hl
    split at h
    case isFalse => cases h
    rename_i hn
    obtain ⟨rfl, hn⟩ := hn
    obtain rfl := Option.some.inj h
    obtain rfl := enc_dec cs l hl
    obtain ⟨st', q⟩ := x7' l ⟨a, b, c, d⟩ hn
    exact ⟨rfl, _, _, q, rfl⟩
theorem q5 (st : St) : c3 5 [] st = some (bool true, st) := rfl
theorem q6 (a b : List T4) (ha : a.length < 64) (hb : b.length < 64) (st : St) : c3 6 [tls a, tls b] st = some (res6 a b, st) := by
  show (match spec6 [tls a, tls b] with | some v => some (v, st) | none => none) = _
  simp only [spec6, tls, dec_enc, ha, hb, and_self, if_true]
theorem q7 (l : List T4) (x : T4) (hl : l.length < 64) (st : St) : c3 7 [tls l, tal x] st = some (int (findFrom x l 0), st) := by
  show (match spec7 [tls l, tal x] with | some v => some (v, st) | none => none) = _
  simp only [spec7, tls, tal, int, dec_enc, hl, and_self, if_true]
theorem ty29 : Program.eqGuardType Try.prog Try.prog.depth 29 = false := by kernel_rfl
theorem eq29 (a b c d : Int) : eqV Try.prog 8 29 [.int .i64 a, .int .i64 b, .int .i64 c, .int .i64 d] [.int .i64 a, .int .i64 b, .int .i64 c, .int .i64 d] = some true := by
  have : eqV Try.prog 8 29 [.int .i64 a, .int .i64 b, .int .i64 c, .int .i64 d] [.int .i64 a, .int .i64 b, .int .i64 c, .int .i64 d] = some (a == a && (b == b && (c == c && (d == d && true)))) := by kernel_rfl
  rw [this]; simp
theorem fun3 : Try.prog.funcs[3]? = some Try.f3 := by kernel_rfl
/-- the loops of a function, in the text's order -/
def loops : Code → List Code
  | .loop c => [c]
  | .seq a b => loops a ++ loops b
  | .block _ c => loops c
  | .cond _ a b => loops a ++ loops b
  | _ => []
def loopNo (f : Func) (n : Nat) : Code := match f.body with
  | some c => (loops c).getD n .skip
  | none => .skip
def K3 : List Nat := [0, 1, 4, 5, 6, 7, 8, 9, 10, 11, 12, 13, 14, 15, 24, 34, 51, 60, 75, 81, 90, 105]
def σ3 (a b x y : List T4) (n i : Int) : Slots := [(0, tls a), (1, tls b), (4, bool false), (5, bool true), (24, bool false), (6, sls x), (7, sls y), (8, int 0), (34, bool false), (9, int n), (10, int i)]
theorem arg_tls (l : List T4) : arg (tls l) = tls l := rfl
theorem arg_sls (l : List T4) : arg (sls l) = sls l := rfl
theorem arg_agg (cs : List AV) : arg (.agg cs) = .agg (cs.map arg1) := rfl
theorem r3t (a b x y : List T4) (t : T4) (n i : Nat) (hi : i < b.length) (ha : a.length < 64) (hb : b.length < 64) (hx : x.length < 64) (ht : b[i] = t) (hf : findFrom t a 0 < 0) (hn : n < x.length) (hxn : x[n] = t) (N : Nat) :
    ∃ σ', code Try.prog c3 N K3 (loopNo Try.f3 0) (σ3 a b x y n i) (enter st15) = some (.normal, σ', enter st15) ∧
      popS (σ3 a b x y n i) st15 σ' (enter st15) = (σ3 a b x y ((n + 1 : Nat) : Int) ((i + 1 : Nat) : Int), st15) := by
  have hix := ix b hi
  have hixx := ix x hn
  have nl := hi
  have w1 : IntKind.i64.wrap ((i : Int) + 1) = (i : Int) + 1 := by rw [IntKind.wrap_i64]; omega
  have w2 : IntKind.i64.wrap ((n : Int) + 1) = (n : Int) + 1 := by rw [IntKind.wrap_i64]; omega
  have hld : ∀ st : St, load Try.prog st 29 (.pv (.pt ((enc b).drop (i * 4)))) = some (tal t) := fun st => by
    have := ld st b hi
    rw [ht] at this; exact this
  have hldx : ∀ st : St, load Try.prog st 29 (.pv (.pt ((enc x).drop (n * 4)))) = some (tal t) := fun st => by
    have := ld st x hn
    rw [hxn] at this; exact this
  have h7 := q7 a t ha
  have hnx : ¬ x.length ≤ n := by omega
  have lx : ∀ st, lenOf Try.prog st 22 (sls x) = some (int x.length) := fun st => len22 st x
  have ixx : indexAddr Try.prog 22 (sls x) n = some (.pv (.pt ((enc x).drop (n * 4)))) := hixx
  simp only [int, tal] at hld hldx h7 lx
  have run : ∃ σ', code Try.prog c3 N K3 (loopNo Try.f3 0) (σ3 a b x y n i) (enter st15) = some (.normal, σ', enter st15) ∧
      get σ' 0 = tls a ∧ get σ' 1 = tls b ∧ get σ' 4 = bool false ∧ get σ' 5 = bool true ∧ get σ' 6 = sls x ∧ get σ' 7 = sls y ∧ get σ' 8 = int 0 ∧ get σ' 9 = int ((n : Int) + 1) ∧ get σ' 10 = int ((i : Int) + 1) ∧ get σ' 24 = bool false ∧ get σ' 34 = bool false := by
    simp [K3, loopNo, loops, Try.f3, code, runL, stepU, stepD, isWr, op1D, memD, mem, op2, op3, wanted, op, op1, σ3, get, put, putO, opd, len22, lx, bin, binInt, int, bool, hi, hn, hnx, hf, keepS_nil, keepS_cons, hix, ixx, isInt, hld, hldx, h7, w1, w2, eq29, ty29, ag29, scs, arg_tls, arg_agg, arg1, strip, strip2, strip1, ofConst, scalar, enter, st15]
  obtain ⟨σ', h1, g0, g1, g4, g5, g6, g7, g8, g9, g10, g24, g34⟩ := run
  refine ⟨σ', h1, ?_⟩
  simp [popS, σ3, g0, g1, g4, g5, g6, g7, g8, g9, g10, g24, g34, st15, enter, outT, TM.out, out1, down, old, tls, sls, int, bool]
theorem r3f (a b x y : List T4) (t : T4) (n i : Nat) (hi : i < b.length) (ha : a.length < 64) (hb : b.length < 64) (hx : x.length < 64) (ht : b[i] = t) (hf : findFrom t a 0 ≥ 0) (hnn : n < 1000) (N : Nat) :
    ∃ σ', code Try.prog c3 N K3 (loopNo Try.f3 0) (σ3 a b x y n i) (enter st15) = some (.normal, σ', enter st15) ∧
      popS (σ3 a b x y n i) st15 σ' (enter st15) = (σ3 a b x y n ((i + 1 : Nat) : Int), st15) := by
  have hix := ix b hi
  have nl := hi
  have w1 : IntKind.i64.wrap ((i : Int) + 1) = (i : Int) + 1 := by rw [IntKind.wrap_i64]; omega
  have w2 : IntKind.i64.wrap ((n : Int) + 1) = (n : Int) + 1 := by rw [IntKind.wrap_i64]; omega
  have hld : ∀ st : St, load Try.prog st 29 (.pv (.pt ((enc b).drop (i * 4)))) = some (tal t) := fun st => by
    have := ld st b hi
    rw [ht] at this; exact this
  have h7 := q7 a t ha
  have hf' : ¬ findFrom t a 0 < 0 := by omega
  have lx : ∀ st, lenOf Try.prog st 22 (sls x) = some (int x.length) := fun st => len22 st x
  simp only [int, tal] at hld h7 lx
  have run : ∃ σ', code Try.prog c3 N K3 (loopNo Try.f3 0) (σ3 a b x y n i) (enter st15) = some (.normal, σ', enter st15) ∧
      get σ' 0 = tls a ∧ get σ' 1 = tls b ∧ get σ' 4 = bool false ∧ get σ' 5 = bool true ∧ get σ' 6 = sls x ∧ get σ' 7 = sls y ∧ get σ' 8 = int 0 ∧ get σ' 9 = int n ∧ get σ' 10 = int ((i : Int) + 1) ∧ get σ' 24 = bool false ∧ get σ' 34 = bool false := by
    simp [K3, loopNo, loops, Try.f3, code, runL, stepU, stepD, isWr, op1D, memD, mem, op2, op3, wanted, op, op1, σ3, get, put, putO, opd, len22, lx, bin, binInt, int, bool, hi, hf', keepS_nil, keepS_cons, hix, isInt, hld, h7, w1, w2, eq29, ty29, ag29, scs, arg_tls, arg_agg, arg1, strip, strip2, strip1, ofConst, scalar, enter, st15]
  obtain ⟨σ', h1, g0, g1, g4, g5, g6, g7, g8, g9, g10, g24, g34⟩ := run
  refine ⟨σ', h1, ?_⟩
  simp [popS, σ3, g0, g1, g4, g5, g6, g7, g8, g9, g10, g24, g34, st15, enter, outT, TM.out, out1, down, old, tls, sls, int, bool]
theorem r3e (a b x y : List T4) (n : Int) (N : Nat) :
    ∃ σ', code Try.prog c3 N K3 (loopNo Try.f3 0) (σ3 a b x y n b.length) (enter st15) = some (.exit 0, σ', enter st15) ∧
      popS (σ3 a b x y n b.length) st15 σ' (enter st15) = (σ3 a b x y n b.length, st15) := by
  have run : ∃ σ', code Try.prog c3 N K3 (loopNo Try.f3 0) (σ3 a b x y n b.length) (enter st15) = some (.exit 0, σ', enter st15) ∧
      get σ' 0 = tls a ∧ get σ' 1 = tls b ∧ get σ' 4 = bool false ∧ get σ' 5 = bool true ∧ get σ' 6 = sls x ∧ get σ' 7 = sls y ∧ get σ' 8 = int 0 ∧ get σ' 9 = int n ∧ get σ' 10 = int b.length ∧ get σ' 24 = bool false ∧ get σ' 34 = bool false := by
    simp [K3, loopNo, loops, Try.f3, code, runL, stepU, wanted, op, op1, σ3, get, put, putO, opd, len22, bin, binInt, int, bool, keepS_nil, keepS_cons, ofConst, scalar, enter, st15]
  obtain ⟨σ', h1, g0, g1, g4, g5, g6, g7, g8, g9, g10, g24, g34⟩ := run
  refine ⟨σ', h1, ?_⟩
  simp [popS, σ3, g0, g1, g4, g5, g6, g7, g8, g9, g10, g24, g34, st15, enter, outT, TM.out, out1, down, old, tls, sls, int, bool]
/-- the elements whose places the list does not have -/
def rest (a l : List T4) : List T4 := l.filter fun t => decide (findFrom t a 0 < 0)
theorem k3a (a b y : List T4) (ha : a.length < 64) (hb : b.length < 64) (N : Nat) : ∀ (k i : Nat) (p : List T4), i ≤ b.length → b.length < i + k → p.length ≤ i → (p ++ rest a (b.drop i)).length < 64 →
    ∃ σ', iter (fun σ st => code Try.prog c3 N K3 (loopNo Try.f3 0) σ st) k (σ3 a b (p ++ rest a (b.drop i)) y (p.length : Nat) (i : Nat)) st15 = some (.exit 0, σ', st15) ∧
      σ' = σ3 a b (p ++ rest a (b.drop i)) y (p ++ rest a (b.drop i)).length b.length
  | 0, i, p, h, h2, _, _ => by omega
  | k + 1, i, p, h, h2, hp, hx => by
    simp only [iter]
    by_cases hi : i = b.length
    · subst hi
      obtain ⟨σ', h1, h3⟩ := r3e a b (p ++ rest a (b.drop b.length)) y p.length N
      rw [h1]
      simp only [h3]
      refine ⟨_, rfl, ?_⟩
      simp [rest]
    · have hlt : i < b.length := by omega
      have hd : b.drop i = b[i] :: b.drop (i + 1) := List.drop_eq_getElem_cons hlt
      by_cases hf : findFrom b[i] a 0 < 0
      · have e : p ++ rest a (b.drop i) = (p ++ [b[i]]) ++ rest a (b.drop (i + 1)) := by
          unfold rest
          rw [hd, List.filter_cons, if_pos (by simpa using hf), List.append_assoc]
          rfl
        rw [e] at hx ⊢
        have hl : (p ++ [b[i]]).length = p.length + 1 := by simp
        obtain ⟨σ', h1, h3⟩ := r3t a b ((p ++ [b[i]]) ++ rest a (b.drop (i + 1))) y b[i] p.length i hlt ha hb hx rfl hf (by simp) (by simp) N
        rw [h1]
        simp only [h3]
        have q := k3a a b y ha hb N k (i + 1) (p ++ [b[i]]) (by omega) (by omega) (by rw [hl]; omega) hx
        rw [hl] at q
        exact q
      · have e : rest a (b.drop i) = rest a (b.drop (i + 1)) := by
          unfold rest
          rw [hd, List.filter_cons, if_neg (by simpa using hf)]
        rw [e] at hx ⊢
        obtain ⟨σ', h1, h3⟩ := r3f a b (p ++ rest a (b.drop (i + 1))) y b[i] p.length i hlt ha hb hx rfl (by omega) (by omega) N
        rw [h1]
        simp only [h3]
        exact k3a a b y ha hb N k (i + 1) p (by omega) (by omega) (by omega) hx
end Go.TM
