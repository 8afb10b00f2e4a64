/- The tree machine: the operations that leave the state as it is. -/
import Derived.Test.YtjoajdlnfgfjgaaTmF
namespace Go.TM
open Go.RowKit

section
variable {P : Program} {D : Bs} {X : Cx} {st : St}

theorem binInt_sound {op : BinOp} {k : IntKind} {a b : Int} {v : Value} (h : binInt op k a b = some v) (t : TypeId) (x y : Operand) (w : World) :
    ((do eqGuard op t x y (.int k a) (.int k b); binOp op t (.int k a) (.int k b) : Sem Value)).run P w = .ok v w ∧ scalar v = true := by
  have hg : (eqGuard op t x y (.int k a) (.int k b)).run P w = .ok () w := by
    cases op <;> simp [eqGuard]
  rw [Sem.run_bind, hg]
  simp only [Result.andThen_ok]
  unfold binInt at h
  cases op <;> simp only at h <;> first
    | (obtain rfl := Option.some.inj h; exact ⟨by simp [binOp, Op.intArith, Op.intCmp], rfl⟩)
    | (split at h
       · cases h
       · rename_i hb; obtain rfl := Option.some.inj h; exact ⟨by simp [binOp, Op.intDiv, hb], rfl⟩)
    | cases h

theorem bin_sound {op : BinOp} {t : TypeId} {a b r : AV} {u v : Value} (hu : AVR X u a) (hv : AVR X v b) (h : bin P op t a b = some r) (x y : Operand) :
    ∃ z, ((do eqGuard op t x y u v; binOp op t u v : Sem Value)).run P X.w = .ok z X.w ∧ AVR X z r := by
  unfold bin at h
  split at h
  · rename_i k a' k' b'
    cases hu with | pv hp => ?_
    cases hv with | pv hq => ?_
    cases hp; cases hq
    split at h
    case isFalse => cases h
    rename_i hk
    subst hk
    cases hb : binInt op k a' b' with
    | none => rw [hb] at h; cases h
    | some z =>
      rw [hb] at h
      obtain rfl := Option.some.inj h
      obtain ⟨h1, h2⟩ := binInt_sound (P := P) hb t x y X.w
      exact ⟨z, h1, .pv (.sc h2)⟩
  · rename_i a' b'
    cases hu with | pv hp => ?_
    cases hv with | pv hq => ?_
    cases hp; cases hq
    split at h
    · rename_i hd
      obtain rfl := Option.some.inj h
      exact ⟨_, by simp [eqGuard, binOp, Op.equal, Op.maxDepth, run_equalIn_bool' X.w 9999 t _ _ hd], .pv (.sc rfl)⟩
    · rename_i hd
      obtain rfl := Option.some.inj h
      exact ⟨.bool (a' != b'), by simp [eqGuard, binOp, Op.equal, Op.maxDepth, run_equalIn_bool' X.w 9999 t _ _ hd, bne], .pv (.sc rfl)⟩
    · cases h
  · cases hu with | pv hp => ?_
    cases hv with | pv hq => ?_
    cases hp; cases hq
    split at h
    · obtain rfl := Option.some.inj h
      exact ⟨_, by simp [eqGuard, binOp, Op.stringOp]; exact (beq_toListBytes _ _).symm, .pv (.sc rfl)⟩
    · obtain rfl := Option.some.inj h
      exact ⟨_, by simp [eqGuard, binOp, Op.stringOp]; exact (beq_toListBytes _ _).symm, .pv (.sc rfl)⟩
    · cases h
  · rename_i xs ys
    split at h
    case isTrue => cases h
    rename_i hg
    simp only [Bool.or_eq_true, Bool.not_eq_true', not_or, Bool.not_eq_true, Bool.not_eq_false] at hg
    obtain ⟨hg', ha⟩ := hg
    split at h
    case h_2 => cases h
    rename_i vs ws hs1 hs2
    cases hu with | agg a1 a2 a3 => ?_
    rename_i arr
    cases hv with | agg b1 b2 b3 => ?_
    rename_i brr
    have e1 := scs_sound (X := X) _ _ _ hs1 a1 a2
    have e2 := scs_sound (X := X) _ _ _ hs2 b1 b2
    have main : ∀ b, eqV P 8 t vs ws = some b → (Op.equalIn 10000 t (.agg arr) (.agg brr)).run P X.w = .ok b X.w := by
      intro b hb
      have := eqV_sound 8 t vs ws b hb 10000 X.w (by omega)
      simpa [valOf, ha, ← e1, ← e2] using this
    split at h
    · rename_i b hb
      obtain rfl := Option.some.inj h
      exact ⟨.bool b, by rw [Sem.run_bind, run_eqGuard_agg _ _ _ _ _ _ _ hg']; simp only [Result.andThen_ok]; rw [run_eql_struct, main b hb]; rfl, .pv (.sc rfl)⟩
    · rename_i b hb
      obtain rfl := Option.some.inj h
      exact ⟨.bool (!b), by rw [Sem.run_bind, run_eqGuard_agg _ _ _ _ _ _ _ hg']; simp only [Result.andThen_ok]; rw [run_neq_struct, main b hb]; rfl, .pv (.sc rfl)⟩
    · cases h
  · cases h

theorem unop_sound {op : UnOp} {a r : AV} {u : Value} (hu : AVR X u a) (h : unop op a = some r) : ∃ z, (Op.unary op u).run P X.w = .ok z X.w ∧ AVR X z r := by
  unfold unop at h
  split at h
  · obtain rfl := Option.some.inj h
    cases hu with | pv hp => ?_
    cases hp
    exact ⟨_, rfl, .pv (.sc rfl)⟩
  · obtain rfl := Option.some.inj h
    cases hu with | pv hp => ?_
    cases hp
    exact ⟨_, rfl, .pv (.sc rfl)⟩
  · cases h

theorem zeroAV_sound {t : TypeId} {z : AV} (h : zeroAV P t = some z) : ∃ v, (zeroValue t).run P X.w = .ok v X.w ∧ AVR X v z := by
  unfold zeroAV at h
  split at h
  case h_2 => cases h
  rename_i i hi
  split at h
  · rename_i cs hz
    split at h
    case isFalse => cases h
    rename_i hs
    obtain rfl := Option.some.inj h
    refine ⟨.agg cs, by simp [zeroValue, run_typeInfo X.w hi, hz], .agg (by simp) ?_ ?_⟩
    · intro j x hj
      rw [List.getElem?_map] at hj
      cases hc : cs.toList[j]? with
      | none => rw [hc] at hj; cases hj
      | some v =>
        rw [hc] at hj
        obtain rfl := Option.some.inj hj
        have hsc := List.all_eq_true.1 hs v (List.mem_of_getElem? hc)
        have e : cs.getD j undef = v := by
          have : cs[j]? = some v := by simpa using hc
          simp [Array.getD_eq_getD_getElem?, this]
        rw [e]
        simp only [ofConst, hsc, if_true]
        exact .pv (.sc hsc)
    · intro j hj
      simp at hj
      have hc : cs.toList[j]? = some cs[j] := by simp [hj]
      have hsc := List.all_eq_true.1 hs _ (List.mem_of_getElem? hc)
      have e : cs.getD j undef = cs[j] := by simp [Array.getD, hj]
      rw [e]
      exact scalar_one hsc
  · rename_i v hna hz
    split at h
    case isFalse => cases h
    rename_i hs
    obtain rfl := Option.some.inj h
    exact ⟨v, by simp [zeroValue, run_typeInfo X.w hi, hz], .pv (.sc hs)⟩
  · cases h

theorem Ents.of {b : Nat} {es : List Ent} {EN : Array MapEntry} (h1 : EN.size = es.length) (h2 : ∀ (j : Nat) (m : MapEntry) (e : Ent), EN[j]? = some m → es[j]? = some e → EntR X b m e) : Ents es EN.toList := by
  refine ⟨by simpa using h1, fun j m e hm he => ?_⟩
  obtain ⟨_, hk, _⟩ := h2 j m e (by simpa using hm) he
  rcases hk with ⟨a, b, _⟩ | ⟨a, c⟩
  · exact .inl ⟨a, b⟩
  · exact .inr ⟨a, c⟩

theorem lookup_sound (hS : SR D X st) {t : TypeId} {m k r : AV} {u v : Value} {ok : Bool} (hu : AVR X u m) (hv : AVR X v k) (h : lookup P st t m k ok = some r) :
    ∃ z, (Instr.lookup t u v ok).run P X.w = .ok z X.w ∧ AVR X z r := by
  unfold lookup at h
  split at h
  case h_2 => cases h
  rename_i kt et hd
  split at h
  case h_2 => cases h
  rename_i b key hk
  cases hu with | lm hB => ?_
  rename_i B
  split at h
  case h_2 => cases h
  rename_i es clock ho
  obtain ⟨EN, hw, hsz, hent, _⟩ := hS.obj _ _ _ ho hB
  have hkey := keyOf_sound hv hk
  have hgo : (getObj B).run P X.w = .ok (.map EN clock) X.w := by simp [getObj, Sem.run, hw]
  split at h
  · rename_i e hf
    split at hf
    case isFalse => cases hf
    rename_i hc
    simp only [Bool.and_eq_true, beq_iff_eq] at hc
    have hck : (Instr.checkKey EN.isEmpty 10000 kt v).run P X.w = .ok () X.w := by
      rw [hkey.val hc.2]; exact checkKey_sound _ 8 kt _ hc.1 10000 X.w (by omega)
    rcases findKey_sound hkey hc.1 hc.2 hf (Ents.of hsz hent) X.w with ⟨h1, _⟩ | ⟨j, e', me, h1, h2, h3, h4⟩
    · cases h1
    · obtain rfl := Option.some.inj h1
      obtain ⟨_, _, hval, _⟩ := hent j me _ (by simpa using h3) h2
      have hrun : ∀ o, (Instr.lookup t (.map (some B)) v o).run P X.w = .ok (if o then .tuple #[me.val, .bool true] else me.val) X.w := by
        intro o
        simp [Instr.lookup, run_underlying hd, hgo, hck, h4]
      obtain rfl := Option.some.inj h
      cases ok
      · exact ⟨_, hrun false, hval⟩
      · refine ⟨_, hrun true, .tup rfl fun j x hj => ?_⟩
        match j, hj with
        | 0, hj => obtain rfl := Option.some.inj hj; exact hval
        | 1, hj => obtain rfl := Option.some.inj hj; exact .pv (.sc rfl)
  · rename_i hf
    split at hf
    case isFalse => cases hf
    rename_i hc
    simp only [Bool.and_eq_true, beq_iff_eq] at hc
    have hck : (Instr.checkKey EN.isEmpty 10000 kt v).run P X.w = .ok () X.w := by
      rw [hkey.val hc.2]; exact checkKey_sound _ 8 kt _ hc.1 10000 X.w (by omega)
    rcases findKey_sound hkey hc.1 hc.2 hf (Ents.of hsz hent) X.w with ⟨_, h4⟩ | ⟨j, e', me, h1, _⟩
    · split at h
      case h_2 => cases h
      rename_i z hz
      obtain ⟨zv, hzr, hzv⟩ := zeroAV_sound (X := X) hz
      have hrun : ∀ o, (Instr.lookup t (.map (some B)) v o).run P X.w = .ok (if o then .tuple #[zv, .bool false] else zv) X.w := by
        intro o
        simp [Instr.lookup, run_underlying hd, hgo, hck, h4, hzr]
      obtain rfl := Option.some.inj h
      cases ok
      · exact ⟨_, hrun false, hzv⟩
      · refine ⟨_, hrun true, .tup rfl fun j x hj => ?_⟩
        match j, hj with
        | 0, hj => obtain rfl := Option.some.inj hj; exact hzv
        | 1, hj => obtain rfl := Option.some.inj hj; exact .pv (.sc rfl)
    · cases h1
  · cases h

theorem len_sound (hS : SR D X st) {t : TypeId} {a r : AV} {u : Value} {ty : TypeId} (hu : AVR X u a) (h : lenOf P st t a = some r) (ts : Array TypeId) (ht : ts[0]? = some t) :
    ∃ z, (Builtin.len_ ts ty #[u]).run P X.w = .ok z X.w ∧ AVR X z r := by
  have key : ∀ (m : Nat), (Builtin.len_ ts ty #[u]).run P X.w = .ok (goInt m) X.w → r = int m → ∃ z, (Builtin.len_ ts ty #[u]).run P X.w = .ok z X.w ∧ AVR X z r := by
    intro m h1 h2
    subst h2
    exact ⟨_, h1, .pv (.sc rfl)⟩
  have hsl : ∀ {n : Nat} {cs : List PV}, PVR X.im X.w u (.sl n cs) → ∃ A c, u = .slice A n c := by
    intro n cs hp
    cases hp
    · exact ⟨_, _, rfl⟩
    · exact ⟨_, _, rfl⟩
  unfold lenOf at h
  split at h
  · rename_i e hd
    split at h
    · obtain rfl := Option.some.inj h
      obtain ⟨A, c, rfl⟩ := hsl (hu.sl (.inl rfl))
      exact key _ (by simp [Builtin.len_, ht, run_underlying hd]) rfl
    · obtain rfl := Option.some.inj h
      obtain ⟨A, c, rfl⟩ := hsl (hu.sl (.inr ⟨_, rfl⟩))
      exact key _ (by simp [Builtin.len_, ht, run_underlying hd]) rfl
    · obtain rfl := Option.some.inj h
      cases hu
      exact key _ (by simp [Builtin.len_, ht, run_underlying hd]) rfl
    · obtain rfl := Option.some.inj h
      cases hu with | pv hp => ?_
      cases hp
      exact key 0 (by simp [Builtin.len_, ht, run_underlying hd]) rfl
    · cases h
  · rename_i hd
    split at h
    · obtain rfl := Option.some.inj h
      cases hu with | pv hp => ?_
      cases hp
      exact key _ (by simp [Builtin.len_, ht, run_underlying hd]) rfl
    · cases h
  · rename_i n e hd
    obtain rfl := Option.some.inj h
    exact key _ (by simp [Builtin.len_, ht, run_underlying hd]) rfl
  · rename_i kt et hd
    split at h
    case h_2 => cases h
    cases hu with | lm hB => ?_
    rename_i B
    split at h
    case h_2 => cases h
    rename_i es clock ho
    obtain ⟨EN, hw, hsz, _⟩ := hS.obj _ _ _ ho hB
    have hgo : (getObj B).run P X.w = .ok (.map EN clock) X.w := by simp [getObj, Sem.run, hw]
    obtain rfl := Option.some.inj h
    exact key _ (by simp [Builtin.len_, ht, run_underlying hd, hgo, hsz]) rfl
  · cases h

def OptR (X : Cx) : Option Value → Option AV → Prop
  | none, none => True
  | some u, some a => AVR X u a
  | _, _ => False

theorem bound_sound {d m : Nat} {a : Option AV} {u : Option Value} (hu : OptR X u a) (h : bound d a = some m) : (u = none ∧ m = d) ∨ ∃ k, u = some (.int k (m : Int)) :=
  opt_bound (by cases u <;> cases a <;> exact hu) h

theorem run_sliceBounds {lo hi : Option AV} {ul uh : Option Value} {n c l m : Nat} (hl : OptR X ul lo) (hh : OptR X uh hi) (h1 : bound 0 lo = some l) (h2 : bound n hi = some m) (hlm : l ≤ m) (hmc : m ≤ c) (b : Bool) :
    (Instr.sliceBounds b n c ul uh none).run P X.w = .ok (l, m, c) X.w := by
  have e1 : (0 : Int) ≤ l := by omega
  have e2 : (l : Int) ≤ m := by omega
  have e3 : (0 : Int) ≤ m := by omega
  have e4 : (m : Int) ≤ c := by omega
  rcases bound_sound hl h1 with ⟨rfl, rfl⟩ | ⟨k1, rfl⟩ <;> rcases bound_sound hh h2 with ⟨rfl, rfl⟩ | ⟨k2, rfl⟩ <;>
    simp [Instr.sliceBounds, Instr.sliceBound, asIntOf, hlm, hmc]

theorem slice_sound {t : TypeId} {a r : AV} {u : Value} {lo hi : Option AV} {ul uh : Option Value} (hu : AVR X u a) (hl : OptR X ul lo) (hh : OptR X uh hi) (h : slice P t a lo hi = some r) :
    ∃ z, (Instr.sliceAt t u ul uh none).run P X.w = .ok z X.w ∧ AVR X z r := by
  unfold slice at h
  split at h
  · rename_i e hd
    have main : ∀ (n : Nat) cs, PVR X.im X.w u (.sl n cs) → (match bound 0 lo, bound n hi with
        | some l, some h => if (known P e && decide (l ≤ h) && decide (h ≤ n)) = true then some (AV.pv (.sl (h - l) ((cs.drop (l * P.cellsOf e)).take ((h - l) * P.cellsOf e)))) else none
        | _, _ => none) = some r → ∃ z, (Instr.sliceAt t u ul uh none).run P X.w = .ok z X.w ∧ AVR X z r := by
      clear h
      intro n cs hp h
      split at h
      case h_2 => cases h
      rename_i l m h1 h2
      split at h
      case isFalse => cases h
      rename_i hb
      simp only [Bool.and_eq_true, decide_eq_true_eq] at hb
      obtain ⟨⟨hk, hlm⟩, hmn⟩ := hb
      obtain ⟨d, hde⟩ := known_some hk
      obtain rfl := Option.some.inj h
      cases hp with
      | sl0 =>
        rename_i A c
        have hrun := run_sliceBounds (P := P) (c := c) hl hh h1 h2 hlm (by omega) true
        have h0 : m = 0 := by omega
        have h00 : l = 0 := by omega
        subst h0; subst h00
        refine ⟨.slice (if c = 0 then A else A.map (·.add (0 * P.cellsOf e))) (0 - 0) (c - 0), ?_, .pv ?_⟩
        · simp only [Instr.sliceAt, Instr.slice, Sem.run_bind, run_underlying hd, Result.andThen_ok, hrun, run_sizeOf' hde, Sem.run_pure]
        · simp only [Nat.sub_self, Nat.zero_mul, List.take_zero]; exact .sl0
      | sl hc q1 q2 =>
        rename_i b o c
        have hrun := run_sliceBounds (P := P) (c := c) hl hh h1 h2 hlm (by omega) true
        obtain ⟨r1, r2⟩ := drop_sl (l * P.cellsOf e) q1 q2
        obtain ⟨r3, r4⟩ := take_sl ((m - l) * P.cellsOf e) r1 r2
        refine ⟨_, ?_, .pv (p := .sl (m - l) _) (v := .slice (if c = l then some ⟨b, o, none⟩ else some ⟨b, o + l * P.cellsOf e, none⟩) (m - l) (c - l)) ?_⟩
        · simp only [Instr.sliceAt, Instr.slice, Sem.run_bind, run_underlying hd, Result.andThen_ok, hrun, run_sizeOf' hde, Sem.run_pure, Option.map_some, add_addr]
        · split
          · have : m - l = 0 := by omega
            rw [this, Nat.zero_mul, List.take_zero]; exact .sl0
          · exact .sl (by omega) r3 r4
    split at h
    · exact main _ _ (hu.sl (.inl rfl)) h
    · exact main _ _ (hu.sl (.inr ⟨_, rfl⟩)) h
    · rename_i b o n
      split at h
      case h_2 => cases h
      rename_i l m h1 h2
      split at h
      case isFalse => cases h
      rename_i hb
      simp only [Bool.and_eq_true, decide_eq_true_eq] at hb
      obtain ⟨⟨hk, hlm⟩, hmn⟩ := hb
      obtain ⟨d, hde⟩ := known_some hk
      cases hu with | ls hB hc => ?_
      rename_i B c
      have hrun := run_sliceBounds (P := P) (c := c) hl hh h1 h2 hlm (by omega) true
      obtain rfl := Option.some.inj h
      refine ⟨.slice (if c = l then some ⟨B, o, none⟩ else some ⟨B, o + l * P.cellsOf e, none⟩) (m - l) (c - l), ?_, ?_⟩
      · simp only [Instr.sliceAt, Instr.slice, Sem.run_bind, run_underlying hd, Result.andThen_ok, hrun, run_sizeOf' hde, Sem.run_pure, Option.map_some, add_addr]
      · by_cases hlm' : l = m
        · rw [if_pos hlm', hlm', Nat.sub_self]
          exact .pv .sl0
        · rw [if_neg hlm', if_neg (by omega)]
          exact .ls hB (by omega)
    · cases h
  · rename_i n e hd
    split at h
    case h_2 => cases h
    rename_i l m h1 h2
    split at h
    case isFalse => cases h
    rename_i hb
    simp only [Bool.and_eq_true, decide_eq_true_eq] at hb
    obtain ⟨⟨hk, hlm⟩, hmn⟩ := hb
    obtain ⟨d, hde⟩ := known_some hk
    have hrun := run_sliceBounds (P := P) (c := n) hl hh h1 h2 hlm hmn false
    split at h
    · rename_i b o hs
      obtain ⟨B, o', rfl, hv⟩ := shift_sound hu hs
      obtain rfl := Option.some.inj h
      refine ⟨.slice (some (if n = l then ⟨B, o', none⟩ else ⟨B, o' + l * P.cellsOf e, none⟩)) (m - l) (n - l), ?_, ?_⟩
      · simp only [Instr.sliceAt, Instr.sureAddr, Sem.run_bind, run_underlying hd, Result.andThen_ok, hrun, run_sizeOf' hde, Sem.run_pure, add_addr]
      · by_cases hlm' : l = m
        · rw [if_pos hlm', hlm', Nat.sub_self]
          exact .pv .sl0
        · rw [if_neg hlm', if_neg (by omega)]
          cases hv with | lp hB => ?_
          exact .ls hB (by omega)
    · rename_i ps hs
      obtain ⟨B, o', rfl, hv⟩ := shift_sound hu hs
      obtain rfl := Option.some.inj h
      refine ⟨.slice (some (if n = l then ⟨B, o', none⟩ else ⟨B, o' + l * P.cellsOf e, none⟩)) (m - l) (n - l), ?_, ?_⟩
      · simp only [Instr.sliceAt, Instr.sureAddr, Sem.run_bind, run_underlying hd, Result.andThen_ok, hrun, run_sizeOf' hde, Sem.run_pure, add_addr]
      · by_cases hlm' : l = m
        · rw [hlm', Nat.sub_self, Nat.zero_mul, List.take_zero]
          exact .pv .sl0
        · rw [if_neg (by omega)]
          cases hv with | pv hp => ?_
          cases hp with | pt q1 q2 => ?_
          obtain ⟨r3, r4⟩ := take_sl ((m - l) * P.cellsOf e) q1 q2
          exact .pv (.sl (by omega) r3 r4)
    · cases h
  · rename_i hd
    split at h
    case h_2 => cases h
    cases hu with | pv hp => ?_
    cases hp
    rename_i s _
    split at h
    case h_2 => cases h
    rename_i l m h1 h2
    split at h
    case isFalse => cases h
    rename_i hb
    simp only [Bool.and_eq_true, decide_eq_true_eq] at hb
    have hrun := run_sliceBounds (P := P) (c := s.size) hl hh h1 h2 hb.1 hb.2 false
    obtain rfl := Option.some.inj h
    exact ⟨_, by simp only [Instr.sliceAt, Instr.slice, Sem.run_bind, run_underlying hd, Result.andThen_ok, Option.isSome_none, Bool.false_eq_true, if_false, hrun, Sem.run_pure], .pv (.sc rfl)⟩
  · cases h

end
end Go.TM
