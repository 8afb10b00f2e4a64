/- The release functions on the tree machine: missing. -/
import Derived.Test.YtjoajdlnfgfjgaaTmZe
namespace Go.TM
open Go.Proofs
set_option maxRecDepth 100000
set_option maxHeartbeats 4000000
set_option linter.all false
theorem fun20 : Try.prog.funcs[20]? = some Try.f20 := by kernel_rfl
theorem fun19 : Try.prog.funcs[19]? = some Try.f19 := by kernel_rfl
theorem fun12 : Try.prog.funcs[12]? = some Try.f12 := by kernel_rfl
noncomputable def c18 : CallF := tab none0 18 spec23
theorem q18' (a b c d : Int) (st : St) : c18 18 [.agg [.pv (.sc (.int .i64 a)), .pv (.sc (.int .i64 b)), .pv (.sc (.int .i64 c)), .pv (.sc (.int .i64 d))]] st = some (.agg [.pv (.sc (.int .i64 a)), .pv (.sc (.int .i64 b)), .pv (.sc (.int .i64 c))], st) := rfl
def pl3 (t : T4) : P3 := (t.a, t.b, t.c)
theorem kn62 : known Try.prog 62 = true := by kernel_rfl
theorem ag62 : isAgg Try.prog 62 = false := by kernel_rfl
theorem co62 : Program.cellsOf Try.prog 62 = 1 := by kernel_rfl
theorem zo62 : zeroOf Try.prog 62 = some [.map none] := by kernel_rfl
/-- the condition of missing -/
theorem x20 (x : T4) (ks : List P3) (ch : List Nat) (ms : List (Nat × Nat)) (cs : List AV) :
    callBody Try.prog (fun _ => [1, 2, 3]) 0 c18 20 [tal x, .lp 1 0] ⟨[.map (ents ks) ks.length, .cells [.lm 0], .cells cs], ch, ms, 0, 0⟩ =
      some (bool (!memK (pl3 x) ks), ⟨[.map (ents ks) ks.length, .cells [.lm 0], .cells cs], ch, ms, 0, 0⟩) := by
  have hl := fun st h => lk62 st ks (x.a, x.b, x.c) h
  simp [callBody, fun20, Try.f20, code, runL, stepU, stepD, isWr, op1D, memD, wanted, op, op1, op2, op3, mem, enter, number, get, put, putO, keepS_nil, keepS_cons, opd, ofConst, scalar, tal, int, bool, parts, one, push, unop, load, loadC, shift, fo3, kn29, ag29, co29, kn62, ag62, co62, arg, arg1, strip, strip2, strip1, q18', hl, pl3, bin, binInt, results, tuple, outT, TM.out, out1, down, old]
noncomputable def c19 : CallF := callBody Try.prog (fun _ => [1, 2, 3]) 0 c18
def stM (ks : List P3) (n : Nat) : St := ⟨[.map (ents ks) ks.length, .cells [.lm 0]], [0, 0, n], [(2, 1), (0, 0)], 0, 0⟩
def σ19 (l out : List T4) (i : Int) : Slots := [(0, tls l), (1, .fn (.func 20) [] [.lp 1 0]), (4, .g (.v 1) 0 []), (5, .g (.v 2) out.length (enc out)), (8, tls l), (9, int l.length), (10, int i)]
theorem r19f (l out : List T4) (ks : List P3) (t : T4) (i : Nat) (hi : i < l.length) (hb : l.length < 100000) (ht : l[i] = t) (hn : memK (pl3 t) ks = true) (N : Nat) :
    ∃ σ', code Try.prog c19 N [0, 1, 4, 5, 7, 8, 9, 10, 11, 16] (bodyOf Try.f19) (σ19 l out (i : Int)) (enter (stM ks out.length)) =
      some (.normal, σ', { enter (stM ks out.length) with h := [.map (ents ks) ks.length, .cells [.lm 0], .cells [int t.a, int t.b, int t.c, int t.d]] }) ∧
      get σ' 0 = tls l ∧ get σ' 1 = .fn (.func 20) [] [.lp 1 0] ∧ get σ' 4 = .g (.v 1) 0 [] ∧ get σ' 5 = .g (.v 2) out.length (enc out) ∧ get σ' 8 = tls l ∧ get σ' 9 = int l.length ∧ get σ' 10 = int ((i + 1 : Nat) : Int) := by
  have hix := ix l hi
  have nl := hi
  have w1 : IntKind.i64.wrap ((i : Int) + 1) = (i : Int) + 1 := by rw [IntKind.wrap_i64]; omega
  have hld : ∀ st : St, load Try.prog st 29 (.pv (.pt ((enc l).drop (i * 4)))) = some (tal t) := fun st => by
    have := ld st l hi
    rw [ht] at this; exact this
  have hlt : ∀ ch ms, load Try.prog { h := [.map (ents ks) ks.length, .cells [.lm 0], .cells [int t.a, int t.b, int t.c, int t.d]], ch := ch, ms := ms, fl := 0, cf := 0 } 29 (.lp 2 0) = some (tal t) := fun _ _ => rfl
  have hx : ∀ ch ms cs, c19 20 [tal t, .lp 1 0] ⟨[.map (ents ks) ks.length, .cells [.lm 0], .cells cs], ch, ms, 0, 0⟩ = some (bool false, ⟨[.map (ents ks) ks.length, .cells [.lm 0], .cells cs], ch, ms, 0, 0⟩) := fun ch ms r => by
    have := x20 t ks ch ms r
    rw [hn] at this; exact this
  simp only [int, tal, bool] at hlt hld hx ⊢
  simp [bodyOf, Try.f19, loopOf, code, runL, stepU, stepD, isWr, op1D, memD, mem, op2, op3, wanted, op, op1, σ19, get, put, putO, opd, len22, bin, binInt, nl, keepS_nil, keepS_cons, hix, isInt, hld, hlt, arg, arg1, skipS, hx, w1, bool, ofConst, scalar, zo29, zeroCells, countV, isNilV, zeros, one, push, enter, stM, store, kn29, co29, stored, limit, parts, splice, setH, tal, int, strip, strip2, strip1]
theorem r19t (l out : List T4) (ks : List P3) (t : T4) (i : Nat) (hi : i < l.length) (hb : l.length < 100000) (ht : l[i] = t) (hn : memK (pl3 t) ks = false) (ho : out.length < 100000) (N : Nat) :
    ∃ σ', code Try.prog c19 N [0, 1, 4, 5, 7, 8, 9, 10, 11, 16] (bodyOf Try.f19) (σ19 l out (i : Int)) (enter (stM ks out.length)) =
      some (.normal, σ', { enter (stM ks (out.length + 1)) with h := [.map (ents ks) ks.length, .cells [.lm 0], .cells [int t.a, int t.b, int t.c, int t.d], .cells [int t.a, int t.b, int t.c, int t.d]] }) ∧
      get σ' 0 = tls l ∧ get σ' 1 = .fn (.func 20) [] [.lp 1 0] ∧ get σ' 4 = .g (.v 1) 0 [] ∧ get σ' 5 = .g (.v 2) (out.length + 1) (enc (out ++ [t])) ∧ get σ' 8 = tls l ∧ get σ' 9 = int l.length ∧ get σ' 10 = int ((i + 1 : Nat) : Int) := by
  have hix := ix l hi
  have nl := hi
  have w1 : IntKind.i64.wrap ((i : Int) + 1) = (i : Int) + 1 := by rw [IntKind.wrap_i64]; omega
  have hld : ∀ st : St, load Try.prog st 29 (.pv (.pt ((enc l).drop (i * 4)))) = some (tal t) := fun st => by
    have := ld st l hi
    rw [ht] at this; exact this
  have hlt : ∀ ch ms, load Try.prog { h := [.map (ents ks) ks.length, .cells [.lm 0], .cells [int t.a, int t.b, int t.c, int t.d]], ch := ch, ms := ms, fl := 0, cf := 0 } 29 (.lp 2 0) = some (tal t) := fun _ _ => rfl
  have hx : ∀ ch ms cs, c19 20 [tal t, .lp 1 0] ⟨[.map (ents ks) ks.length, .cells [.lm 0], .cells cs], ch, ms, 0, 0⟩ = some (bool true, ⟨[.map (ents ks) ks.length, .cells [.lm 0], .cells cs], ch, ms, 0, 0⟩) := fun ch ms r => by
    have := x20 t ks ch ms r
    rw [hn] at this; exact this
  have he := enc_len out
  have o1 : out.length + 1 ≤ 70368744177664 := by omega
  have o2 : (out.length + 1) * 32 ≤ 70368744177664 := by omega
  simp only [int, tal, bool] at hlt hld hx ⊢
  simp [bodyOf, Try.f19, loopOf, code, runL, stepU, stepD, isWr, op1D, memD, mem, op2, op3, wanted, op, op1, σ19, get, put, putO, opd, len22, bin, binInt, nl, keepS_nil, keepS_cons, hix, isInt, hld, hlt, arg, arg1, skipS, hx, w1, append, row22, by29, sl22, contents, pures, pureOf, mark, chOk, setMark, he, o1, o2, enc_snoc, cells, pint, buildSlice, un22, rep, fillP, bool, ofConst, scalar, zo29, zeroCells, countV, isNilV, zeros, one, push, enter, stM, store, kn29, co29, stored, limit, parts, splice, setH, tal, int, strip, strip2, strip1]
def gone (ks : List P3) (l : List T4) : List T4 := l.filter fun t => !memK (pl3 t) ks
theorem pop19 (l out : List T4) (ks : List P3) (i j : Int) (out' : List T4) (σ' : Slots) (r : List Obj) (h0 : get σ' 0 = tls l) (h1 : get σ' 1 = .fn (.func 20) [] [.lp 1 0]) (h4 : get σ' 4 = .g (.v 1) 0 [])
    (h5 : get σ' 5 = .g (.v 2) out'.length (enc out')) (h8 : get σ' 8 = tls l) (h9 : get σ' 9 = int l.length) (h10 : get σ' 10 = int j) :
    popS (σ19 l out i) (stM ks out.length) σ' { enter (stM ks out'.length) with h := .map (ents ks) ks.length :: .cells [.lm 0] :: r } = (σ19 l out' j, stM ks out'.length) := by
  simp [popS, σ19, h0, h1, h4, h5, h8, h9, h10, stM, enter, outT, TM.out, out1, down, old, olds, oldCh, tls, int]
theorem r19e (l out : List T4) (ks : List P3) (N : Nat) :
    ∃ σ', code Try.prog c19 N [0, 1, 4, 5, 7, 8, 9, 10, 11, 16] (bodyOf Try.f19) (σ19 l out l.length) (enter (stM ks out.length)) = some (.exit 0, σ', enter (stM ks out.length)) ∧ get σ' 5 = .g (.v 2) out.length (enc out) := by
  simp [bodyOf, Try.f19, loopOf, code, runL, stepU, wanted, op, op1, σ19, get, put, putO, opd, bin, binInt, int, keepS_nil, keepS_cons, bool, ofConst, scalar]
theorem end19 (l out : List T4) (ks : List P3) (i : Int) (σ' : Slots) (h5 : get σ' 5 = .g (.v 2) out.length (enc out)) :
    ∃ σ'', popS (σ19 l out i) (stM ks out.length) σ' (enter (stM ks out.length)) = (σ'', stM ks out.length) ∧ get σ'' 5 = .g (.v 2) out.length (enc out) := by
  refine ⟨_, by simp only [popS]; rfl, ?_⟩
  simp [σ19, get, h5, stM, enter, outT, TM.out, out1, down, old, oldCh]
theorem k19 (l : List T4) (ks : List P3) (hb : l.length < 50000) (N : Nat) : ∀ (k i : Nat) (out : List T4), i ≤ l.length → l.length < i + k → out.length ≤ i →
    ∃ σ', iter (fun σ st => code Try.prog c19 N [0, 1, 4, 5, 7, 8, 9, 10, 11, 16] (bodyOf Try.f19) σ st) k (σ19 l out (i : Int)) (stM ks out.length) = some (.exit 0, σ', stM ks (out ++ gone ks (l.drop i)).length) ∧
      get σ' 5 = .g (.v 2) (out ++ gone ks (l.drop i)).length (enc (out ++ gone ks (l.drop i)))
  | 0, i, out, h, h2, _ => by omega
  | k + 1, i, out, h, h2, ho => by
    simp only [iter]
    by_cases hi : i = l.length
    · subst hi
      obtain ⟨σ', h1, h3⟩ := r19e l out ks N
      obtain ⟨σ'', p1, p2⟩ := end19 l out ks l.length σ' h3
      rw [h1]
      simp only [p1]
      simp only [List.drop_length, gone, List.filter_nil, List.append_nil]
      exact ⟨_, rfl, p2⟩
    · have hlt : i < l.length := by omega
      have hd : l.drop i = l[i] :: l.drop (i + 1) := List.drop_eq_getElem_cons hlt
      cases hn : memK (pl3 l[i]) ks
      · obtain ⟨σ', h1, g0, g1, g4, g5, g8, g9, g10⟩ := r19t l out ks l[i] i hlt (by omega) rfl hn (by omega) N
        have hlen : (out ++ [l[i]]).length = out.length + 1 := by simp
        rw [← hlen] at g5 h1
        rw [h1]
        simp only [pop19 l out ks i _ (out ++ [l[i]]) σ' _ g0 g1 g4 g5 g8 g9 g10]
        obtain ⟨σ'', q1, q2⟩ := k19 l ks hb N k (i + 1) (out ++ [l[i]]) (by omega) (by omega) (by rw [hlen]; omega)
        have e : out ++ [l[i]] ++ gone ks (l.drop (i + 1)) = out ++ gone ks (l.drop i) := by
          unfold gone
          rw [hd, List.filter_cons, if_pos (by simp [hn]), List.append_assoc]
          rfl
        rw [e] at q1 q2
        exact ⟨σ'', q1, q2⟩
      · obtain ⟨σ', h1, g0, g1, g4, g5, g8, g9, g10⟩ := r19f l out ks l[i] i hlt (by omega) rfl hn N
        rw [h1]
        simp only [pop19 l out ks i _ out σ' _ g0 g1 g4 g5 g8 g9 g10]
        obtain ⟨σ'', q1, q2⟩ := k19 l ks hb N k (i + 1) out (by omega) (by omega) (by omega)
        have e : gone ks (l.drop (i + 1)) = gone ks (l.drop i) := by
          unfold gone
          rw [hd, List.filter_cons, if_neg (by simp [hn])]
        rw [e] at q1 q2
        exact ⟨σ'', q1, q2⟩
def st12 (ks : List P3) : St := ⟨[.map (ents ks) ks.length, .cells [.lm 0]], [0], [(0, 0)], 0, 0⟩
theorem x19 (l : List T4) (ks : List P3) (hb : l.length < 50000) (n : Nat) (hn : l.length < n) :
    callBody Try.prog (fun _ => [0, 1, 4, 5, 7, 8, 9, 10, 11, 16]) n c19 19 [tls l, .fn (.func 20) [] [.lp 1 0]] (st12 ks) = some (.pv (.sl (gone ks l).length (enc (gone ks l))), st12 ks) := by
  obtain ⟨σ', h1, h2⟩ := k19 l ks hb n n 0 [] (Nat.zero_le _) (by omega) (by simp)
  have hz : ((0 : Nat) : Int) = 0 := rfl
  rw [List.drop_zero] at h1 h2
  rw [List.nil_append] at h1 h2
  rw [hz] at h1
  have hbody : Try.f19.body = some (setLoop (bodyOf Try.f19) (Try.f19.body.getD .skip)) := by kernel_rfl
  have hres : Try.f19.results = #[ResultVar.tmp 4] := rfl
  simp only [callBody, fun19, hres]
  rw [hbody]
  generalize bodyOf Try.f19 = L at h1 ⊢
  have hσ : σ19 l [] 0 = [(0, tls l), (1, .fn (.func 20) [] [.lp 1 0]), (4, .g (.v 1) 0 []), (5, .g (.v 2) 0 []), (8, tls l), (9, .pv (.sc (.int .i64 l.length))), (10, .pv (.sc (.int .i64 0)))] := rfl
  rw [hσ] at h1
  have hst : stM ks (([] : List T4).length) = { h := [.map (ents ks) ks.length, .cells [.lm 0]], ch := [0, 0, 0], ms := [(2, 1), (0, 0)], fl := 0, cf := 0 } := rfl
  rw [hst] at h1
  simp [Try.f19, setLoop, hasLoop, number, enter, st12, code, runL, stepU, wanted, op, op1, op2, mem, get, put, putO, opd, keepS_nil, keepS_cons, get_keepS, get_put, len22, bin, binInt, bool, ofConst, scalar, int, h1, results, tuple, outT, TM.out, out1, down, old, oldCh, h2, stM]
noncomputable def c12 : CallF := fun f args st => if f = 18 then c18 f args st else callBody Try.prog (fun _ => [0, 1, 4, 5, 7, 8, 9, 10, 11, 16]) 64 c19 f args st
theorem q18'' (a b c d : Int) (st : St) : c12 18 [.agg [.pv (.sc (.int .i64 a)), .pv (.sc (.int .i64 b)), .pv (.sc (.int .i64 c)), .pv (.sc (.int .i64 d))]] st = some (.agg [.pv (.sc (.int .i64 a)), .pv (.sc (.int .i64 b)), .pv (.sc (.int .i64 c))], st) := rfl
theorem q19 (l : List T4) (ks : List P3) (hl : l.length < 64) : c12 19 [tls l, .fn (.func 20) [] [.lp 1 0]] (st12 ks) = some (.pv (.sl (gone ks l).length (enc (gone ks l))), st12 ks) :=
  x19 l ks (by omega) 64 hl
def σ12 (l m : List T4) (i : Int) : Slots := [(0, tls l), (1, tls m), (4, .g (.v 0) 0 []), (5, .lp 1 0), (9, tls m), (10, int m.length), (11, int i)]
theorem r12 (l m : List T4) (ks : List P3) (t : T4) (i : Nat) (hi : i < m.length) (hb : m.length < 100000) (ht : m[i] = t) (N : Nat) :
    ∃ σ', code Try.prog c12 N [0, 1, 4, 5, 7, 9, 10, 11, 12] (bodyOf Try.f12) (σ12 l m (i : Int)) (enter (st12 ks)) =
      some (.normal, σ', { enter (st12 (addK ks (pl3 t))) with h := [.map (ents (addK ks (pl3 t))) (addK ks (pl3 t)).length, .cells [.lm 0], .cells [int t.a, int t.b, int t.c, int t.d]] }) ∧
      get σ' 0 = tls l ∧ get σ' 1 = tls m ∧ get σ' 4 = .g (.v 0) 0 [] ∧ get σ' 5 = .lp 1 0 ∧ get σ' 9 = tls m ∧ get σ' 10 = int m.length ∧ get σ' 11 = int ((i + 1 : Nat) : Int) := by
  have hix := ix m hi
  have nl := hi
  have w1 : IntKind.i64.wrap ((i : Int) + 1) = (i : Int) + 1 := by rw [IntKind.wrap_i64]; omega
  have hld : ∀ st : St, load Try.prog st 29 (.pv (.pt ((enc m).drop (i * 4)))) = some (tal t) := fun st => by
    have := ld st m hi
    rw [ht] at this; exact this
  have hlt : ∀ ch ms, load Try.prog { h := [.map (ents ks) ks.length, .cells [.lm 0], .cells [int t.a, int t.b, int t.c, int t.d]], ch := ch, ms := ms, fl := 0, cf := 0 } 29 (.lp 2 0) = some (tal t) := fun _ _ => rfl
  have hm := fun ch ms => mu62 ⟨[.map (ents ks) ks.length, .cells [.lm 0], .cells [int t.a, int t.b, int t.c, int t.d]], ch, ms, 0, 0⟩ ks (pl3 t) rfl rfl
  have hl62 : ∀ o r ch ms, load Try.prog { h := o :: .cells [.lm 0] :: r, ch := ch, ms := ms, fl := 0, cf := 0 } 62 (.lp 1 0) = some (.lm 0) := fun o r ch ms => by simp [load, loadC, kn62, ag62]
  simp only [int, tal, bool, pl3] at hlt hld hm ⊢
  simp [bodyOf, Try.f12, loopOf, code, runL, stepU, stepD, isWr, op1D, memD, mem, op2, op3, wanted, op, op1, σ12, get, put, putO, opd, len22, bin, binInt, nl, keepS_nil, keepS_cons, hix, isInt, hld, hlt, arg, arg1, skipS, q18'', hm, w1, bool, ofConst, scalar, zo29, zeroCells, countV, isNilV, zeros, one, push, enter, st12, store, hl62, kn29, co29, stored, limit, parts, splice, setH, tal, int, strip, strip2, strip1]
theorem r12e (l m : List T4) (ks : List P3) (N : Nat) :
    ∃ σ', code Try.prog c12 N [0, 1, 4, 5, 7, 9, 10, 11, 12] (bodyOf Try.f12) (σ12 l m m.length) (enter (st12 ks)) = some (.exit 0, σ', enter (st12 ks)) ∧ get σ' 0 = tls l ∧ get σ' 5 = .lp 1 0 := by
  simp [bodyOf, Try.f12, loopOf, code, runL, stepU, wanted, op, op1, σ12, get, put, putO, opd, bin, binInt, int, keepS_nil, keepS_cons, bool, ofConst, scalar]
theorem pop12 (l m : List T4) (ks ks' : List P3) (i j : Int) (σ' : Slots) (r : List Obj) (h0 : get σ' 0 = tls l) (h1 : get σ' 1 = tls m) (h4 : get σ' 4 = .g (.v 0) 0 [])
    (h5 : get σ' 5 = .lp 1 0) (h9 : get σ' 9 = tls m) (h10 : get σ' 10 = int m.length) (h11 : get σ' 11 = int j) :
    popS (σ12 l m i) (st12 ks) σ' { enter (st12 ks') with h := .map (ents ks') ks'.length :: .cells [.lm 0] :: r } = (σ12 l m j, st12 ks') := by
  simp [popS, σ12, h0, h1, h4, h5, h9, h10, h11, st12, enter, outT, TM.out, out1, down, old, olds, oldCh, tls, int]
theorem end12 (l m : List T4) (ks : List P3) (i : Int) (σ' : Slots) (h0 : get σ' 0 = tls l) (h5 : get σ' 5 = .lp 1 0) :
    ∃ σ'', popS (σ12 l m i) (st12 ks) σ' (enter (st12 ks)) = (σ'', st12 ks) ∧ get σ'' 0 = tls l ∧ get σ'' 5 = .lp 1 0 := by
  refine ⟨_, by simp only [popS]; rfl, ?_⟩
  simp [σ12, get, h0, h5, st12, enter, outT, TM.out, out1, down, old, oldCh, tls]
def keys : List P3 → List T4 → List P3
  | ks, [] => ks
  | ks, t :: r => keys (addK ks (pl3 t)) r
theorem k12 (l m : List T4) (hb : m.length < 50000) (N : Nat) : ∀ (k i : Nat) (ks : List P3), i ≤ m.length → m.length < i + k →
    ∃ σ', iter (fun σ st => code Try.prog c12 N [0, 1, 4, 5, 7, 9, 10, 11, 12] (bodyOf Try.f12) σ st) k (σ12 l m (i : Int)) (st12 ks) = some (.exit 0, σ', st12 (keys ks (m.drop i))) ∧ get σ' 0 = tls l ∧ get σ' 5 = .lp 1 0
  | 0, i, ks, h, h2 => by omega
  | k + 1, i, ks, h, h2 => by
    simp only [iter]
    by_cases hi : i = m.length
    · subst hi
      obtain ⟨σ', h1, h3, h4⟩ := r12e l m ks N
      obtain ⟨σ'', p1, p2⟩ := end12 l m ks m.length σ' h3 h4
      rw [h1]
      simp only [p1]
      simp only [List.drop_length, keys]
      exact ⟨_, rfl, p2⟩
    · have hlt : i < m.length := by omega
      have hd : m.drop i = m[i] :: m.drop (i + 1) := List.drop_eq_getElem_cons hlt
      obtain ⟨σ', h1, g0, g1, g4, g5, g9, g10, g11⟩ := r12 l m ks m[i] i hlt (by omega) rfl N
      rw [h1]
      simp only [pop12 l m ks _ i _ σ' _ g0 g1 g4 g5 g9 g10 g11]
      obtain ⟨σ'', q1, q2⟩ := k12 l m hb N k (i + 1) (addK ks (pl3 m[i])) (by omega) (by omega)
      rw [hd]
      exact ⟨σ'', q1, q2⟩
theorem x12 (l m : List T4) (hl : l.length < 64) (hm : m.length < 64) :
    ∃ st', callBody Try.prog (fun _ => [0, 1, 4, 5, 7, 9, 10, 11, 12]) 64 c12 12 [tls l, tls m] st0 = some (.pv (.sl (gone (keys [] m) l).length (enc (gone (keys [] m) l))), st') := by
  obtain ⟨σ', h1, h2, h3⟩ := k12 l m (by omega) 64 64 0 [] (Nat.zero_le _) (by omega)
  have hz : ((0 : Nat) : Int) = 0 := rfl
  rw [List.drop_zero] at h1
  rw [hz] at h1
  have h19 := q19 l (keys [] m) hl
  simp only [tls, st12] at h19 h2
  have hbody : Try.f12.body = some (setLoop (bodyOf Try.f12) (Try.f12.body.getD .skip)) := by kernel_rfl
  have hres : Try.f12.results = #[ResultVar.tmp 4] := rfl
  simp only [callBody, fun12, hres]
  rw [hbody]
  generalize bodyOf Try.f12 = L at h1 ⊢
  have hσ : σ12 l m 0 = [(0, tls l), (1, tls m), (4, .g (.v 0) 0 []), (5, .lp 1 0), (9, tls m), (10, .pv (.sc (.int .i64 m.length))), (11, .pv (.sc (.int .i64 0)))] := rfl
  rw [hσ] at h1
  have hst : st12 [] = { h := [.map [] 0, .cells [.lm 0]], ch := [0], ms := [(0, 0)], fl := 0, cf := 0 } := rfl
  rw [hst] at h1
  simp [Try.f12, setLoop, hasLoop, number, enter, st0, code, runL, stepU, wanted, op, op1, op2, op3, mem, get, put, putO, opd, keepS_nil, keepS_cons, get_keepS, get_put, len22, zo62, zeroCells, countV, isNilV, zeros, one, push, skipS, store, kn62, co62, stored, limit, parts, splice, setH, down, old, bin, binInt, bool, ofConst, scalar, int, arg, arg1, h1, h2, h3, h19, results, tuple, outT, TM.out, out1, oldCh, st12]
end Go.TM
