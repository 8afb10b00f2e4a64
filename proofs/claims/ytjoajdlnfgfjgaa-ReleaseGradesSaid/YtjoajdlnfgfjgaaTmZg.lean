/- The release functions on the tree machine: Difference. -/
import Derived.Test.YtjoajdlnfgfjgaaTmZf
namespace Go.TM
open Go.Proofs
set_option maxRecDepth 100000
set_option maxHeartbeats 4000000
set_option linter.all false
theorem fun6 : Try.prog.funcs[6]? = some Try.f6 := by kernel_rfl
def spec11 : List AV → Option AV
  | [.pv (.sl n cs), .pv (.sc (.int .i64 1))] => match dec cs with
    | some l => if l.length = n ∧ n < 64 then some (res11 l) else none
    | none => none
  | _ => none
def spec12 : List AV → Option AV
  | [.pv (.sl n cs), .pv (.sl m ds)] => match dec cs, dec ds with
    | some l, some k => if (l.length = n ∧ n < 64) ∧ k.length = m ∧ m < 64 then some (.pv (.sl (gone (keys [] k) l).length (enc (gone (keys [] k) l)))) else none
    | _, _ => none
  | _ => none
noncomputable def c6 : CallF := tab (tab none0 11 spec11) 12 spec12
theorem q11 (l : List T4) (hl : l.length < 64) (st : St) : c6 11 [tls l, int 1] st = some (res11 l, st) := by
  show (match spec11 [tls l, int 1] with | some v => some (v, st) | none => none) = _
  simp only [spec11, tls, int, dec_enc, hl, true_and, if_true]
theorem q12 (l k : List T4) (hl : l.length < 64) (hk : k.length < 64) (st : St) : c6 12 [tls l, tls k] st = some (.pv (.sl (gone (keys [] k) l).length (enc (gone (keys [] k) l))), st) := by
  show (match spec12 [tls l, tls k] with | some v => some (v, st) | none => none) = _
  simp only [spec12, tls, dec_enc, hl, hk, and_self, if_true]
theorem ok18 : CallOK Try.prog c18 := tab_ok none_ok (body_ok pr none_ok (fun _ => [1, 2]) 0) fun args v h => by
  unfold spec23 at h
  split at h
  · obtain rfl := Option.some.inj h
    exact ⟨rfl, _, _, x18 ⟨_, _, _, _⟩, rfl⟩
  · cases h
theorem ok19 : CallOK Try.prog c19 := body_ok pr ok18 _ _
theorem ok12 : CallOK Try.prog c12 := by
  have h := body_ok pr ok19 (fun _ => [0, 1, 4, 5, 7, 8, 9, 10, 11, 16]) 64
  intro D X st f args us v st' hr
  unfold c12 at hr
  split at hr
  · exact ok18 D X st f args us v st' hr
  · exact h D X st f args us v st' hr
theorem ok6 : CallOK Try.prog c6 := by
  refine tab_ok (tab_ok none_ok (body_ok pr ok11 (fun _ => [0, 3, 4, 5, 16]) 0) ?_) (body_ok pr ok12 (fun _ => [0, 1, 4, 5, 7, 9, 10, 11, 12]) 64) ?_
  · intro args v h
    unfold spec11 at h
    split at h
    case h_2 => cases h
    rename_i n cs
    split at h
    case h_2 => cases h
    rename_i l hl
    split at h
    case isFalse => cases h
    rename_i hn
    obtain ⟨rfl, hn⟩ := hn
    obtain rfl := Option.some.inj h
    obtain rfl := enc_dec cs l hl
    obtain ⟨st', q⟩ := x11 l hn
    refine ⟨rfl, _, _, q, ?_⟩
    unfold res11; split <;> rfl
  · intro args v h
    unfold spec12 at h
    split at h
    case h_2 => cases h
    rename_i n cs m ds
    split at h
    case h_2 => cases h
    rename_i l k hl hk
    split at h
    case isFalse => cases h
    rename_i hn
    obtain ⟨⟨rfl, hn⟩, rfl, hm⟩ := hn
    obtain rfl := Option.some.inj h
    obtain rfl := enc_dec cs l hl
    obtain rfl := enc_dec ds k hk
    obtain ⟨st', q⟩ := x12 l k hn hm
    exact ⟨rfl, _, _, q, rfl⟩
theorem un53 : Try.prog.underlying 53 = some (.slice 22) := by kernel_rfl
theorem kn22 : known Try.prog 22 = true := by kernel_rfl
theorem ag22 : isAgg Try.prog 22 = false := by kernel_rfl
theorem co22 : Program.cellsOf Try.prog 22 = 1 := by kernel_rfl
theorem zo22 : zeroOf Try.prog 22 = some [.slice none 0 0] := by kernel_rfl
theorem enc_nil : enc [] = [] := rfl
def sls (l : List T4) : AV := .pv (.sl l.length (enc l))
def res6 (a b : List T4) : AV := if okT none a && okT none b then .tup [sls (gone (keys [] a) b), sls (gone (keys [] b) a), int 0] else .tup [sls [], sls [], int 1]
theorem x6 (a b : List T4) (ha : a.length < 64) (hb : b.length < 64) : ∃ st', callBody Try.prog (fun _ => [0, 1, 4, 5, 6, 8, 9, 10, 13, 14, 15, 16, 25]) 4 c6 6 [tls a, tls b] st0 = some (res6 a b, st') := by
  have ha11 := q11 a ha
  have hb11 := q11 b hb
  have h12 := q12 a b ha hb
  have h12' := q12 b a hb ha
  have w0 : IntKind.i64.wrap (0 + 1) = 1 := by kernel_rfl
  have w1 : IntKind.i64.wrap (1 + 1) = 2 := by kernel_rfl
  have w0' : IntKind.i64.wrap 1 = 1 := by kernel_rfl
  have w1' : IntKind.i64.wrap 2 = 2 := by kernel_rfl
  simp only [tls, int, res11] at ha11 hb11 h12 h12'
  cases h : okT none a <;> cases h' : okT none b <;> simp only [h, h', if_true, if_false, Bool.false_eq_true] at ha11 hb11 <;>
  simp [res6, sls, enc_nil, h, h', fun6, callBody, Try.f6, iter, popS, code, runL, stepU, wanted, op, op1, op2, op3, mem, buildSlice, indexAddr, isInt, lenOf, un53, kn22, ag22, co22, zo22, rep, fillP, enter, number, get, put, putO, keepS_nil, keepS_cons, opd, ofConst, scalar, tls, int, bool, parts, one, push, unop, load, loadC, splice, w0, w1, w0', w1', bin, binInt, arg, arg1, ha11, hb11, h12, h12', results, tuple, outT, TM.out, out1, down, old, oldCh, st0]
end Go.TM
