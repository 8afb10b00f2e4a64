/- ReleaseGrades on the tree machine: Paid, Grade. -/
import Derived.Test.YtjoajdlnfgfjgaaTmGj
namespace Go.TM
open Go.Proofs
set_option maxRecDepth 100000
set_option maxHeartbeats 4000000
set_option linter.all false
def spec21 : List AV → Option AV
  | [.agg [.pv (.sc (.int .i64 a)), .pv (.sc (.int .i64 b)), .pv (.sc (.int .i64 c)), .pv (.sc (.int .i64 d)), .pv (.sc (.int .i64 e)), .pv (.sc (.int .i64 f)), .pv (.sc (.int .i64 g)), .pv (.sc (.int .i64 h)), .pv (.sc (.int .i64 i))]] => some (res21 ⟨a, b, c, d, e, f, g, h, i⟩)
  | _ => none
def spec22 : List AV → Option AV
  | [.pv (.sl n cs), .pv (.sl m es), .pv (.sc (.int .i64 at_))] => match decD cs, decP es with
    | some ds, some ps => if (ds.length = n ∧ n < 64) ∧ ps.length = m ∧ m < 64 then some (res22 ds ps at_) else none
    | _, _ => none
  | _ => none
noncomputable def c14 : CallF := tab (tab none0 21 spec21) 22 spec22
theorem ok26 : CallOK Try.prog c26 := tab_ok none_ok (body_ok pr none_ok (fun _ => [0, 1, 2, 6]) 0) fun args v h => by
  unfold spec26 at h
  split at h
  · obtain rfl := Option.some.inj h
    exact ⟨rfl, _, _, x26 _ _ _, rfl⟩
  · cases h
theorem ok21 : CallOK Try.prog c21 := by
  refine tab_ok (tab_ok (body_ok pr none_ok _ _) (body_ok pr none_ok (fun _ => [0, 1, 2, 6]) 0) ?_) (body_ok pr ok26 (fun _ => [1, 2, 6, 8, 9, 10, 14]) 0) ?_
  · intro args v h
    unfold spec26 at h
    split at h
    · obtain rfl := Option.some.inj h
      exact ⟨rfl, _, _, x26 _ _ _, rfl⟩
    · cases h
  · intro args v h
    unfold spec27 at h
    split at h
    · obtain rfl := Option.some.inj h
      obtain ⟨st', q⟩ := x27 _ _ _
      exact ⟨rfl, _, _, q, rfl⟩
    · cases h
theorem ok22 : CallOK Try.prog c22 := by
  refine tab_ok (tab_ok none_ok (body_ok pr none_ok (fun _ => [0, 1, 2, 6]) 0) ?_) (body_ok pr ok21 (fun _ => K29) 64) ?_
  · intro args v h
    unfold spec26 at h
    split at h
    · obtain rfl := Option.some.inj h
      exact ⟨rfl, _, _, x26 _ _ _, rfl⟩
    · cases h
  · intro args v h
    unfold spec29 at h
    split at h
    case h_2 => cases h
    split at h
    case h_2 => cases h
    rename_i ds ps hd hp
    split at h
    case isFalse => cases h
    rename_i hn
    obtain ⟨⟨rfl, hn⟩, rfl, hm⟩ := hn
    obtain rfl := Option.some.inj h
    obtain rfl := decD_dec _ _ hd
    obtain rfl := decP_dec _ _ hp
    obtain ⟨st', q⟩ := x29 ds ps _ hn hm
    exact ⟨rfl, _, _, q, rfl⟩
theorem ok14 : CallOK Try.prog c14 := by
  refine tab_ok (tab_ok none_ok (body_ok pr ok21 (fun _ => [1, 2, 3, 4, 23]) 0) ?_) (body_ok pr ok22 (fun _ => K22) 64) ?_
  · intro args v h
    unfold spec21 at h
    split at h
    · obtain rfl := Option.some.inj h
      obtain ⟨st', q⟩ := x21 ⟨_, _, _, _, _, _, _, _, _⟩
      refine ⟨rfl, _, _, q, ?_⟩
      unfold res21; split <;> rfl
    · cases h
  · intro args v h
    unfold spec22 at h
    split at h
    case h_2 => cases h
    split at h
    case h_2 => cases h
    rename_i ds ps hd hp
    split at h
    case isFalse => cases h
    rename_i hn
    obtain ⟨⟨rfl, hn⟩, rfl, hm⟩ := hn
    obtain rfl := Option.some.inj h
    obtain rfl := decD_dec _ _ hd
    obtain rfl := decP_dec _ _ hp
    obtain ⟨st', q⟩ := x22 ds ps _ hn hm
    refine ⟨rfl, _, _, q, ?_⟩
    unfold res22; split <;> rfl
theorem q21 (f : Fr) (st : St) : c14 21 [frA f] st = some (res21 f, st) := by
  show (match spec21 [frA f] with | some v => some (v, st) | none => none) = _
  simp only [spec21, frA, frC, int]
theorem q22 (ds : List D6) (ps : List P4) (at_ : Int) (hd : ds.length < 64) (hp : ps.length < 64) (st : St) : c14 22 [flat dC ds, flat pC ps, .pv (.sc (.int .i64 at_))] st = some (res22 ds ps at_, st) := by
  show (match spec22 [flat dC ds, flat pC ps, .pv (.sc (.int .i64 at_))] with | some v => some (v, st) | none => none) = _
  simp only [spec22, flat, decD_enc, decP_enc, hd, hp, and_self, if_true]
def K14 : List Nat := [1, 2, 3, 6, 7, 8, 9, 10, 11, 12, 19, 29, 31, 32, 33, 34, 38]
def σ14 (ps : List P4) (at_ : Int) (ds : List D6) (L : List Int) (i : Int) : Slots := [(1, flat pC ps), (2, int at_), (3, .lp 0 0), (6, bool false), (7, int 0), (8, .pv (.sl 3 (ds.flatMap dC))), (9, int 0), (19, bool false), (10, flat (fun n => [pint n]) L), (29, bool false), (31, flat (fun n => [pint n]) L), (32, int L.length), (33, int i)]
def st14 (f : Fr) : St := ⟨[.cells (frC f)], [], [(0, 0)], 0, 0⟩
theorem r14 (f : Fr) (ps : List P4) (at_ : Int) (ds : List D6) (L : List Int) (x : Int) (i : Nat) (hi : i < L.length) (hL : L.length < 64) (hx : L[i] = x) (h0 : 0 ≤ x) (N : Nat) :
    ∃ σ' st', code Try.prog c14 N K14 (loopNo Try.f14 0) (σ14 ps at_ ds L i) (enter (st14 f)) = some (.normal, σ', st') ∧ popS (σ14 ps at_ ds L i) (st14 f) σ' st' = (σ14 ps at_ ds L ((i + 1 : Nat) : Int), st14 f) := by
  obtain ⟨r, hr⟩ := ixF' (f := fun n => [pint n]) un68 kn3 co3 (fun _ => rfl) L x (i : Int) (by omega) (by simp [hi, hx])
  simp only [pint, List.cons_append, List.nil_append] at hr
  have w1 : IntKind.i64.wrap ((i : Int) + 1) = (i : Int) + 1 := by rw [IntKind.wrap_i64]; omega
  have hn : ¬ x < 0 := by omega
  have run : ∃ σ', code Try.prog c14 N K14 (loopNo Try.f14 0) (σ14 ps at_ ds L i) (enter (st14 f)) = some (.normal, σ', enter (st14 f)) ∧ get σ' 1 = flat pC ps ∧ get σ' 2 = int at_ ∧ get σ' 3 = .lp 0 0 ∧ get σ' 6 = bool false ∧ get σ' 7 = int 0 ∧ get σ' 8 = .pv (.sl 3 (ds.flatMap dC)) ∧ get σ' 9 = int 0 ∧ get σ' 19 = bool false ∧ get σ' 10 = flat (fun n => [pint n]) L ∧ get σ' 29 = bool false ∧ get σ' 31 = flat (fun n => [pint n]) L ∧ get σ' 32 = int L.length ∧ get σ' 33 = int ((i : Int) + 1) := by
    simp [K14, loopNo, loops, Try.f14, code, runL, stepU, wanted, op, op1, op2, op3, mem, σ14, get, put, putO, opd, bin, binInt, int, bool, hi, hn, hr, w1, isInt, load_pt, loadC, kn3, ag3, pint, keepS_nil, keepS_cons, ofConst, scalar, enter, st14]
  obtain ⟨σ', q, g1, g2, g3, g6, g7, g8, g9, g19, g10, g29, g31, g32, g33⟩ := run
  refine ⟨σ', _, q, ?_⟩
  simp [popS, σ14, g1, g2, g3, g6, g7, g8, g9, g19, g10, g29, g31, g32, g33, st14, enter, outT, TM.out, out1, down, old, oldCh, flat, int, bool]
end Go.TM
