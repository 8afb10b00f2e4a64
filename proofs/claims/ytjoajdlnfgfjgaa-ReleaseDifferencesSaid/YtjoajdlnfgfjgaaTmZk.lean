/- ReleaseDifferences on the tree machine: it answers true. -/
import Derived.Test.YtjoajdlnfgfjgaaTmZj
namespace Go.TM
open Go.Proofs
set_option maxRecDepth 100000
set_option maxHeartbeats 4000000
set_option linter.all false
def setLoops : List Code → Code → Code × List Code
  | L, .loop c => match L with
    | x :: r => (.loop x, r)
    | [] => (.loop c, [])
  | L, .seq a b => let p := setLoops L a; let q := setLoops p.2 b; (.seq p.1 q.1, q.2)
  | L, .block id c => let p := setLoops L c; (.block id p.1, p.2)
  | L, .cond c a b => let p := setLoops L a; let q := setLoops p.2 b; (.cond c p.1 q.1, q.2)
  | L, c => (c, L)
def put3 (f : Func) (L : List Code) : Code := match f.body with
  | some c => (setLoops L c).1
  | none => .skip
/-- longer lists: the first lines answer -/
theorem x3long (a b : AV) (n m : Int) (hla : ∀ st, lenOf Try.prog st 22 a = some (int n)) (hlb : ∀ st, lenOf Try.prog st 22 b = some (int m)) (h : 30 < n ∨ 30 < m) : ∃ st', callBody Try.prog (fun _ => K3) 64 c3 3 [a, b] st0 = some (bool true, st') := by
  have h5 := q5
  simp only [bool, int] at h5 hla hlb
  by_cases h1 : n > 30
  · simp [K3, fun3, callBody, Try.f3, code, runL, stepU, wanted, op, op1, op2, op3, mem, enter, number, get, put, putO, keepS_nil, keepS_cons, opd, ofConst, scalar, hla, hlb, h1, h5, int, bool, bin, binInt, results, tuple, outT, TM.out, out1, down, old, st0]
  · have h2 : m > 30 := by omega
    simp [K3, fun3, callBody, Try.f3, code, runL, stepU, wanted, op, op1, op2, op3, mem, enter, number, get, put, putO, keepS_nil, keepS_cons, opd, ofConst, scalar, hla, hlb, h1, h2, h5, int, bool, bin, binInt, results, tuple, outT, TM.out, out1, down, old, st0]
theorem x3bad (a b : List T4) (ha : a.length ≤ 30) (hb : b.length ≤ 30) (h : (okT none a && okT none b) = false) : ∃ st', callBody Try.prog (fun _ => K3) 64 c3 3 [tls a, tls b] st0 = some (bool true, st') := by
  have h5 := q5
  have h6 := q6 a b (by omega) (by omega)
  have h1 : ¬ (30 : Int) < a.length := by omega
  have h2 : ¬ (30 : Int) < b.length := by omega
  simp only [res6, h, Bool.false_eq_true, if_false, sls, enc_nil] at h6
  simp only [int, bool] at h5 h6
  have lx : ∀ st, lenOf Try.prog st 22 (.pv (.sl 0 [])) = some (int 0) := fun st => len22 st []
  simp only [int] at lx
  have w0 : IntKind.i64.wrap 0 = 0 := by kernel_rfl
  simp [K3, fun3, callBody, Try.f3, code, runL, stepU, wanted, op, op1, op2, op3, mem, enter, number, get, put, putO, keepS_nil, keepS_cons, opd, ofConst, scalar, len22, lx, w0, h1, h2, h5, h6, int, bool, bin, binInt, arg_tls, results, tuple, outT, TM.out, out1, down, old, st0]
theorem x3good (a b : List T4) (ha : a.length ≤ 30) (hb : b.length ≤ 30) (oa : okT none a = true) (ob : okT none b = true) : ∃ st', callBody Try.prog (fun _ => K3) 64 c3 3 [tls a, tls b] st0 = some (bool true, st') := by
  obtain ⟨hc, hy, hx⟩ := counts a b (okT_nodup a oa) (okT_nodup b ob)
  have h5 := q5
  have h6 := q6 a b (by omega) (by omega)
  have h6a := q6 a a (by omega) (by omega)
  have h1 : ¬ (30 : Int) < a.length := by omega
  have h2 : ¬ (30 : Int) < b.length := by omega
  have hg1 : gone (keys [] a) b = rest a b := gone_rest a b
  have hg2 : gone (keys [] b) a = rest b a := gone_rest b a
  have hg3 : gone (keys [] a) a = [] := by rw [gone_rest, rest_self]
  simp only [res6, oa, ob, Bool.and_self, if_true, hg1, hg2] at h6
  simp only [res6, oa, Bool.and_self, if_true, hg3] at h6a
  have hm1 : (([] : List T4) ++ rest a (b.drop 0)).length < 64 := by simp; omega
  have hm2 : (([] : List T4) ++ rest b (a.drop 0)).length < 64 := by simp; omega
  obtain ⟨s1, e1, f1⟩ := k3a a b (rest b a) (by omega) (by omega) 64 64 0 [] (Nat.zero_le _) (by omega) (by simp) hm1
  obtain ⟨s2, e2, f2⟩ := k3b b a (rest a b) ((rest a b).length : Int) (by omega) (by omega) 64 64 0 [] (Nat.zero_le _) (by omega) (by simp) hm2
  rw [f1] at e1
  rw [f2] at e2
  clear f1 f2
  have hz : ((0 : Nat) : Int) = 0 := rfl
  simp only [List.drop_zero, List.nil_append, List.length_nil, hz] at e1 e2
  have w1 : IntKind.i64.wrap ((a.length : Int) - (rest b a).length) = (a.length : Int) - (rest b a).length := by rw [IntKind.wrap_i64]; omega
  have w2 : IntKind.i64.wrap ((a.length : Int) - (rest b a).length + (rest a b).length) = b.length := by rw [IntKind.wrap_i64]; omega
  have w0 : IntKind.i64.wrap 0 = 0 := by kernel_rfl
  have lx : ∀ st (l : List T4), lenOf Try.prog st 22 (sls l) = some (int l.length) := fun st l => len22 st l
  have hbody : Try.f3.body = some (put3 Try.f3 [loopNo Try.f3 0, loopNo Try.f3 1]) := by kernel_rfl
  simp only [callBody, fun3]
  rw [hbody]
  generalize loopNo Try.f3 0 = L1 at e1 ⊢
  generalize loopNo Try.f3 1 = L2 at e2 ⊢
  have hst : st15 = { h := [], ch := [], ms := [(0, 0)], fl := 0, cf := 0 } := rfl
  simp only [int, bool] at h5 h6 h6a lx
  simp only [K3, σ3, σ3b, int, bool, hst] at e1 e2
  simp [K3, put3, setLoops, Try.f3, code, runL, stepU, wanted, op, op1, op2, op3, mem, enter, number, get, put, putO, keepS_nil, keepS_cons, opd, ofConst, scalar, len22, lx, w0, w1, w2, h1, h2, h5, h6, h6a, e1, e2, int, bool, bin, binInt, arg_tls, results, tuple, outT, TM.out, out1, down, old, st0]
theorem x3 (l m : List T4) : ∃ st', callBody Try.prog (fun _ => K3) 64 c3 3 [tls l, tls m] st0 = some (bool true, st') := by
  by_cases h : 30 < l.length ∨ 30 < m.length
  · exact x3long (tls l) (tls m) l.length m.length (fun st => len22 st l) (fun st => len22 st m) (by omega)
  · cases ho : okT none l && okT none m with
    | false => exact x3bad l m (by omega) (by omega) ho
    | true => rw [Bool.and_eq_true] at ho; exact x3good l m (by omega) (by omega) ho.1 ho.2
end Go.TM
