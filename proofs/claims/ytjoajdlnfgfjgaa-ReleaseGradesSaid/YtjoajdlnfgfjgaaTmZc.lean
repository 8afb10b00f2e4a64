/- The release functions on the tree machine: only and Confirmed. -/
import Derived.Test.YtjoajdlnfgfjgaaTmZb
namespace Go.TM
open Go.Proofs
set_option maxRecDepth 100000
set_option maxHeartbeats 4000000
set_option linter.all false
theorem fun16 : Try.prog.funcs[16]? = some Try.f16 := by kernel_rfl
theorem fun11 : Try.prog.funcs[11]? = some Try.f11 := by kernel_rfl
def st16a : St := ⟨[.cells [int 1]], [0], [(0, 0)], 0, 0⟩
/-- the loop of only, at the state of Confirmed -/
theorem x16 (l : List T4) (hb : l.length < 50000) (n : Nat) (hn : l.length < n) :
    callBody Try.prog (fun _ => [0, 1, 4, 5, 7, 8, 9, 10, 11, 16]) n c16 16 [tls l, .fn (.func 17) [] [.lp 0 0]] st16a = some (.pv (.sl (keep1 l).length (enc (keep1 l))), st16a) := by
  obtain ⟨σ', h1, h2⟩ := k16 l hb n n 0 [] (Nat.zero_le _) (by omega) (by simp)
  have hz : ((0 : Nat) : Int) = 0 := rfl
  rw [List.drop_zero] at h1 h2
  rw [List.nil_append] at h1 h2
  rw [hz] at h1
  have hbody : Try.f16.body = some (setLoop (bodyOf Try.f16) (Try.f16.body.getD .skip)) := by kernel_rfl
  have hres : Try.f16.results = #[ResultVar.tmp 4] := rfl
  simp only [callBody, fun16, hres]
  rw [hbody]
  generalize bodyOf Try.f16 = L at h1 ⊢
  have hσ : σ16 l [] 0 = [(0, tls l), (1, .fn (.func 17) [] [.lp 0 0]), (4, .g (.v 1) 0 []), (5, .g (.v 2) 0 []), (8, tls l), (9, .pv (.sc (.int .i64 l.length))), (10, .pv (.sc (.int .i64 0)))] := rfl
  rw [hσ] at h1
  have hst : st16 (([] : List T4).length) = { h := [.cells [.pv (.sc (.int .i64 1))]], ch := [0, 0, 0], ms := [(1, 1), (0, 0)], fl := 0, cf := 0 } := rfl
  rw [hst] at h1
  simp [Try.f16, setLoop, hasLoop, number, enter, st16a, code, runL, stepU, wanted, op, op1, op2, mem, get, put, putO, opd, keepS_nil, keepS_cons, get_keepS, get_put, len22, bin, binInt, bool, ofConst, scalar, int, h1, results, tuple, outT, TM.out, out1, down, old, oldCh, h2, st16]
def dec : List PV → Option (List T4)
  | [] => some []
  | .sc (.int .i64 a) :: .sc (.int .i64 b) :: .sc (.int .i64 c) :: .sc (.int .i64 d) :: r => match dec r with
    | some l => some (⟨a, b, c, d⟩ :: l)
    | none => none
  | _ => none
def spec15 : List AV → Option AV
  | [.pv (.sl n cs)] => match dec cs with
    | some l => if l.length = n ∧ n < 64 then some (bool (okT none l && decide (l.length ≤ 1000))) else none
    | none => none
  | _ => none
theorem dec_enc (l : List T4) : dec (enc l) = some l := by
  induction l with
  | nil => rfl
  | cons x l ih =>
    show (match dec (enc l) with | some l => some (_ :: l) | none => none) = _
    rw [ih]
theorem enc_dec : ∀ (cs : List PV) (l : List T4), dec cs = some l → cs = enc l := by
  intro cs
  induction cs using dec.induct with
  | case1 => intro l h; obtain rfl := Option.some.inj h; rfl
  | case2 a b c d r l' hl' ih => 
    intro l h
    simp only [dec, hl'] at h
    obtain rfl := Option.some.inj h
    rw [ih l' hl']; rfl
  | case3 a b c d r hn ih => intro l h; simp only [dec, hn] at h; cases h
  | case4 cs h1 h2 => intro l h; rw [dec] at h; cases h; exact h1; exact h2
end Go.TM
