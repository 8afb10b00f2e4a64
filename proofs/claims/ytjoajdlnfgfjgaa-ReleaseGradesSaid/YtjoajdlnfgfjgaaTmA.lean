/- The tree machine: a deterministic interpreter over tree values and a stack-like local heap. Definitions only. -/
import Derived.Calls
import Derived.Orders
namespace Go.TM

/-- values without places of their own: what lies behind them never changes -/
inductive PV where
  | sc (v : Value)
  | sl (n : Nat) (cs : List PV)
  | pt (cs : List PV)
  | ifc (t : TypeId) (p : PV)
  deriving Inhabited

/-- who may grow a slice in place: a variable's chain, or the entry of a map -/
inductive Ch where
  | v (k : Nat)
  | e (b born : Nat)
  deriving Inhabited, DecidableEq

inductive AV where
  | pv (p : PV)
  | g (c : Ch) (n : Nat) (cs : List PV)
  | lp (b o : Nat)
  | ls (b o n : Nat)
  | lm (b : Nat)
  | fn (f : Fn) (first captured : List AV)
  | ifc (t : TypeId) (v : AV)
  | agg (cs : List AV)
  | tup (vs : List AV)
  | bad
  deriving Inhabited

def int (n : Int) : AV := .pv (.sc (.int .i64 n))
def bool (b : Bool) : AV := .pv (.sc (.bool b))
def nil : AV := .pv (.sc (.slice none 0 0))
def pint (n : Int) : PV := .sc (.int .i64 n)

structure Ent where
  kagg : Bool
  key : List Value
  val : AV
  born : Nat
  lim : Option Nat
  deriving Inhabited

inductive Obj where
  | dead
  | cells (cs : List AV)
  | map (es : List Ent) (clock : Nat)
  deriving Inhabited

structure St where
  h : List Obj
  ch : List Nat
  ms : List (Nat × Nat)
  fl : Nat
  cf : Nat

abbrev Slots := List (Nat × AV)

def get : Slots → Nat → AV
  | [], _ => .bad
  | (u, v) :: r, t => if t == u then v else get r t

def put : Slots → Nat → AV → Slots
  | [], t, v => [(t, v)]
  | (u, x) :: r, t, v => if t == u then (u, v) :: r else (u, x) :: put r t v

def putO (σ : Slots) : Option Nat → AV → Slots
  | none, _ => σ
  | some t, v => put σ t v

def scalar : Value → Bool
  | .bool _ | .int .. | .string _ | .pointer none | .slice none 0 0 | .map none | .nilFunc | .nilIface => true
  | .func _ first captured => first.isEmpty && captured.isEmpty
  | _ => false

def ofConst (v : Value) : AV := if scalar v then .pv (.sc v) else .bad

def opd (σ : Slots) : Operand → AV
  | .tmp t => get σ t
  | .const v => ofConst v
  | .func f => .fn (.func f) [] []
  | .global _ => .bad

def parts : AV → List AV
  | .agg cs => cs
  | v => [v]

def one : AV → Bool
  | .agg _ | .tup _ | .bad => false
  | _ => true

def oldCh (bm cm : Nat) : Ch → Bool
  | .v k => k < cm
  | .e b _ => b < bm

mutual
/-- nothing in it is younger than the marks -/
def old (bm cm : Nat) : AV → Bool
  | .lp b _ | .ls b _ _ | .lm b => b < bm
  | .fn _ x y => olds bm cm x && olds bm cm y
  | .ifc _ v => old bm cm v
  | .agg cs | .tup cs => olds bm cm cs
  | .g c _ _ => oldCh bm cm c
  | .pv _ | .bad => true
def olds (bm cm : Nat) : List AV → Bool
  | [] => true
  | v :: r => old bm cm v && olds bm cm r
end

/-- what a cell's value is to the outside of a mark: younger chains are struck -/
def down (bm cm : Nat) : AV → AV
  | .g c n cs => if oldCh bm cm c then .g c n cs else .pv (.sl n cs)
  | v => if old bm cm v then v else .bad

def pureOf : AV → Option PV
  | .pv p => some p
  | .g _ n cs => some (.sl n cs)
  | .ifc t (.pv p) => some (.ifc t p)
  | .fn f [] [] => some (.sc (.func f #[] #[]))
  | _ => none

def pures : List AV → Option (List PV)
  | [] => some []
  | v :: r => match pureOf v with
    | some p => match pures r with
      | some ps => some (p :: ps)
      | none => none
    | none => none

/-- what a one-celled value that leaves a frame is outside it: blocks from bm on go, and what lies in them is now pure -/
def out1 (st : St) (bm cm : Nat) : AV → AV
  | .lp b o => if b < bm then .lp b o else
    match st.h[b]? with
    | some (.cells cs) => match pures (cs.drop o) with
      | some ps => .pv (.pt ps)
      | none => .bad
    | _ => .bad
  | .ls b o n => if b < bm then .ls b o n else
    match st.h[b]? with
    | some (.cells cs) => match pures (cs.drop o) with
      | some ps => .pv (.sl n ps)
      | none => .bad
    | _ => .bad
  | v => down bm cm v

def outs (st : St) (bm cm : Nat) : List AV → List AV
  | [] => []
  | v :: r => out1 st bm cm v :: outs st bm cm r

def out (st : St) (bm cm : Nat) : AV → AV
  | .agg cs => .agg (outs st bm cm cs)
  | v => out1 st bm cm v

def outT (st : St) (bm cm : Nat) : AV → AV
  | .tup vs => .tup (vs.map (out st bm cm))
  | v => out st bm cm v

/-- an argument as the callee sees it: no right to grow it goes along -/
def arg1 : AV → AV
  | .g _ n cs => .pv (.sl n cs)
  | .pv (.sc (.slice none 0 0)) => .pv (.sl 0 [])
  | v => v
def arg : AV → AV
  | .agg cs => .agg (cs.map arg1)
  | v => arg1 v

def isNilV : Value → Bool
  | .slice none 0 0 => true
  | _ => false
def isNilA : AV → Bool
  | .pv (.sc v) => isNilV v
  | _ => false

/-- the cells of a zero value: a nil slice opens a chain, from number k on -/
def zeroCells : List Value → Nat → List AV
  | [], _ => []
  | v :: r, k => if isNilV v then .g (.v k) 0 [] :: zeroCells r (k + 1) else ofConst v :: zeroCells r k

/-- plain nil slices in cells open chains -/
def openNil : List AV → Nat → List AV
  | [], _ => []
  | v :: r, k => if isNilA v then .g (.v k) 0 [] :: openNil r (k + 1) else v :: openNil r k

def zeros : Nat → List Nat
  | 0 => []
  | n + 1 => 0 :: zeros n

def countV : List Value → Nat
  | [] => 0
  | v :: r => if isNilV v then countV r + 1 else countV r
def countA : List AV → Nat
  | [] => 0
  | v :: r => if isNilA v then countA r + 1 else countA r

def zeroOf (P : Program) (t : TypeId) : Option (List Value) :=
  match P.info? t with
  | some i => i.zero.map (·.cells.toList)
  | none => none

def push (st : St) (o : Obj) : St := { st with h := st.h ++ [o] }

def isAgg (P : Program) (t : TypeId) : Bool :=
  match P.underlying t with
  | some (.struct _) | some (.array _ _) => true
  | _ => false

def known (P : Program) (t : TypeId) : Bool :=
  match P.underlying t with
  | some _ => true
  | none => false

def loadC (P : Program) (t : TypeId) (cs : List AV) : Option AV :=
  if known P t then
    if isAgg P t then
      if P.cellsOf t ≤ cs.length then some (.agg (cs.take (P.cellsOf t))) else none
    else match cs with
      | v :: _ => some v
      | [] => none
  else none

def load (P : Program) (st : St) (t : TypeId) : AV → Option AV
  | .lp b o => match st.h[b]? with
    | some (.cells cs) => loadC P t (cs.drop o)
    | _ => none
  | .pv (.pt ps) => loadC P t (ps.map .pv)
  | _ => none

def splice (cs : List AV) (o : Nat) (vs : List AV) : List AV := cs.take o ++ vs ++ cs.drop (o + vs.length)

def setH (st : St) (b : Nat) (o : Obj) : St := { st with h := st.h.set b o }

/-- the lowest mark above block b: with it b goes -/
def limit : List (Nat × Nat) → Nat → Option (Nat × Nat)
  | [], _ => none
  | m :: r, b => if b < m.1 then (match limit r b with
      | some x => some x
      | none => some m) else none

/-- the cells of a value that goes into block b -/
def stored (st : St) (b : Nat) (v : AV) : List AV :=
  match limit st.ms b with
  | some m => (parts v).map (down m.1 m.2)
  | none => parts v

def store (P : Program) (st : St) (t : TypeId) (a v : AV) : Option St :=
  match a with
  | .lp b o => match st.h[b]? with
    | some (.cells cs) =>
      if st.fl ≤ b && known P t && (stored st b v).length == P.cellsOf t && (stored st b v).all one && o + (stored st b v).length ≤ cs.length then
        some (setH st b (.cells (splice cs o (stored st b v))))
      else none
    | _ => none
  | _ => none

def fieldOff (P : Program) (s : TypeId) (f : Nat) : Option Nat :=
  match P.underlying s with
  | some (.struct fs) => match fs[f]? with
    | some x => if P.cellsOf x.type = 0 then none else some x.offset
    | none => none
  | _ => none

def shift : AV → Nat → Option AV
  | .lp b o, n => some (.lp b (o + n))
  | .pv (.pt ps), n => some (.pv (.pt (ps.drop n)))
  | _, _ => none

def isInt : AV → Option Int
  | .pv (.sc (.int _ n)) => some n
  | _ => none

def indexAddr (P : Program) (t : TypeId) (x : AV) (i : Int) : Option AV :=
  match P.underlying t with
  | some (.array len e) => if known P e && 0 ≤ i && i < len then shift x (i.toNat * P.cellsOf e) else none
  | some (.slice e) => match x with
    | .pv (.sl n cs) | .g _ n cs => if known P e && 0 ≤ i && i < n then some (.pv (.pt (cs.drop (i.toNat * P.cellsOf e)))) else none
    | .ls b o n => if known P e && 0 ≤ i && i < n then some (.lp b (o + i.toNat * P.cellsOf e)) else none
    | _ => none
  | _ => none

def scEq : TypeDesc → Value → Value → Option Bool
  | .int _, .int k a, .int k' b => if k = k' then some (a == b) else none
  | .bool, .bool a, .bool b => some (a == b)
  | .string, .string a, .string b => some (a == b)
  | _, _, _ => none

def sub (P : Program) (t : TypeId) (xs : List Value) (o : Nat) : List Value := (xs.drop o).take (if isAgg P t then P.cellsOf t else 1)

def both : Option Bool → Option Bool → Option Bool
  | some a, some b => some (a && b)
  | _, _ => none

def eqFs (P : Program) (eq : TypeId → List Value → List Value → Option Bool) (xs ys : List Value) : List Field → Option Bool
  | [] => some true
  | f :: r => if f.name == "_" then none else both (eq f.type (sub P f.type xs f.offset) (sub P f.type ys f.offset)) (eqFs P eq xs ys r)

def eqIs (P : Program) (e : TypeId) (eq : TypeId → List Value → List Value → Option Bool) (xs ys : List Value) : Nat → Nat → Option Bool
  | 0, _ => some true
  | n + 1, i => both (eq e (sub P e xs (i * P.cellsOf e)) (sub P e ys (i * P.cellsOf e))) (eqIs P e eq xs ys n (i + 1))

/-- '==' over the cells of scalars, structs and arrays -/
def eqV (P : Program) : Nat → TypeId → List Value → List Value → Option Bool
  | 0, _, _, _ => none
  | d + 1, t, xs, ys => match P.underlying t with
    | some (.struct fs) => if P.stoodInHeld t || xs.length != P.cellsOf t || ys.length != P.cellsOf t then none else eqFs P (eqV P d) xs ys fs.toList
    | some (.array n e) => if known P e && xs.length == P.cellsOf t && ys.length == P.cellsOf t then eqIs P e (eqV P d) xs ys n 0 else none
    | some k => match xs, ys with
      | [a], [b] => scEq k a b
      | _, _ => none
    | none => none

def okFs (P : Program) (ok : TypeId → List Value → Bool) (xs : List Value) : List Field → Bool
  | [] => true
  | f :: r => f.name != "_" && ok f.type (sub P f.type xs f.offset) && okFs P ok xs r

def okIs (P : Program) (e : TypeId) (ok : TypeId → List Value → Bool) (xs : List Value) : Nat → Nat → Bool
  | 0, _ => true
  | n + 1, i => ok e (sub P e xs (i * P.cellsOf e)) && okIs P e ok xs n (i + 1)

/-- the cells are those of a key of the type -/
def keyOk (P : Program) : Nat → TypeId → List Value → Bool
  | 0, _, _ => false
  | d + 1, t, xs => match P.underlying t with
    | some (.struct fs) => xs.length == P.cellsOf t && okFs P (keyOk P d) xs fs.toList
    | some (.array n e) => xs.length == P.cellsOf t && known P e && okIs P e (keyOk P d) xs n 0
    | some .bool | some (.int _) | some .string => xs.length == 1
    | _ => false

def tilesFs (P : Program) (ok : TypeId → Bool) : List Field → Nat → Option Nat
  | [], o => some o
  | f :: r, o => if f.offset == o && f.name != "_" && ok f.type && (isAgg P f.type || P.cellsOf f.type == 1) then tilesFs P ok r (o + P.cellsOf f.type) else none

/-- the parts of a type lie side by side and are all of it -/
def tiles (P : Program) : Nat → TypeId → Bool
  | 0, _ => false
  | d + 1, t => match P.underlying t with
    | some (.struct fs) => tilesFs P (tiles P d) fs.toList 0 == some (P.cellsOf t)
    | some (.array n e) => tiles P d e && (isAgg P e || P.cellsOf e == 1) && n * P.cellsOf e == P.cellsOf t
    | some _ => true
    | none => false

def scs : List AV → Option (List Value)
  | [] => some []
  | .pv (.sc v) :: r => match scs r with
    | some vs => some (v :: vs)
    | none => none
  | _ => none

def binInt (op : BinOp) (k : IntKind) (a b : Int) : Option Value :=
  match op with
  | .add => some (.int k (k.wrap (a + b)))
  | .sub => some (.int k (k.wrap (a - b)))
  | .mul => some (.int k (k.wrap (a * b)))
  | .quo => if b = 0 then none else some (.int k (k.wrap (a.tdiv b)))
  | .rem => if b = 0 then none else some (.int k (a.tmod b))
  | .eql => some (.bool (a == b))
  | .neq => some (.bool (a != b))
  | .lss => some (.bool (decide (a < b)))
  | .leq => some (.bool (decide (a ≤ b)))
  | .gtr => some (.bool (decide (a > b)))
  | .geq => some (.bool (decide (a ≥ b)))
  | _ => none

def bin (P : Program) (op : BinOp) (t : TypeId) (x y : AV) : Option AV :=
  match x, y with
  | .pv (.sc (.int k a)), .pv (.sc (.int k' b)) => if k = k' then (binInt op k a b).map fun v => .pv (.sc v) else none
  | .pv (.sc (.bool a)), .pv (.sc (.bool b)) => match op, P.underlying t with
    | .eql, some .bool => some (bool (a == b))
    | .neq, some .bool => some (bool (a != b))
    | _, _ => none
  | .pv (.sc (.string a)), .pv (.sc (.string b)) => match op with
    | .eql => some (bool (a == b))
    | .neq => some (bool (!(a == b)))
    | _ => none
  | .agg xs, .agg ys => if P.eqGuardType P.depth t || !isAgg P t then none else
    match scs xs, scs ys with
    | some vs, some ws => match op, eqV P 8 t vs ws with
      | .eql, some b => some (bool b)
      | .neq, some b => some (bool (!b))
      | _, _ => none
    | _, _ => none
  | _, _ => none

def unop (op : UnOp) (x : AV) : Option AV :=
  match op, x with
  | .not, .pv (.sc (.bool b)) => some (bool (!b))
  | .neg, .pv (.sc (.int k n)) => some (.pv (.sc (.int k (k.wrap (0 - n)))))
  | _, _ => none

def lenAV : AV → Nat
  | .pv (.sl n _) => n
  | _ => 0

/-- a mark that no value has -/
def past (l : Option Nat) (v : AV) : Option Nat := l.map fun n => n + lenAV v + 1

def updE (born : Nat) (f : Ent → Ent) (x : Ent) : Ent := if x.born == born then f x else x
def wrE (v : AV) (x : Ent) : Ent := { x with val := v, lim := past x.lim v }
def wrG (n : Nat) (cs : List PV) (x : Ent) : Ent := { x with val := .pv (.sl n cs), lim := if x.lim == some n then x.lim else past x.lim (.pv (.sl n cs)) }
def wrL (n : Nat) (x : Ent) : Ent := { x with lim := some n }

def mark (st : St) : Ch → Option Nat
  | .v k => st.ch[k]?
  | .e b born => match st.h[b]? with
    | some (.map es _) => match es.find? (·.born == born) with
      | some e => e.lim
      | none => none
    | _ => none

def setMark (st : St) (c : Ch) (n : Nat) : St :=
  match c with
  | .v k => { st with ch := st.ch.set k n }
  | .e b born => match st.h[b]? with
    | some (.map es k) => setH st b (.map (es.map (updE born (wrL n))) k)
    | _ => st

/-- what is appended: how many elements, their cells -/
def contents (st : St) (size : Nat) : AV → Option (Nat × List PV)
  | .pv (.sl n cs) | .g _ n cs => some (n, cs)
  | .pv (.sc (.slice none 0 0)) => some (0, [])
  | .ls b o n => match st.h[b]? with
    | some (.cells cs) => match pures ((cs.drop o).take (n * size)) with
      | some ps => some (n, ps)
      | none => none
    | _ => none
  | _ => none

def chOk (st : St) : Ch → Bool
  | .v k => st.cf ≤ k
  | .e b _ => st.fl ≤ b

def rowType (P : Program) (t : TypeId) : Option TypeId :=
  match P.underlying t with
  | some (.slice e) => match zeroOf P e with
    | some z => if z.length == P.cellsOf e then some e else none
    | none => none
  | _ => none

def append (P : Program) (st : St) (t : TypeId) (s x : AV) : Option (AV × St) :=
  match rowType P t with
  | some e => match contents st (P.cellsOf e) x with
    | some (m, xs) =>
      if xs.length == m * P.cellsOf e then
      match s with
      | .g c n cs => if mark st c == some n && chOk st c && cs.length == n * P.cellsOf e && (n + m) * P.bytesOf e ≤ 70368744177664 && n + m ≤ 70368744177664 then
          some (.g c (n + m) (cs ++ xs), setMark st c (n + m)) else none
      | .pv (.sc (.slice none 0 0)) => if m * P.bytesOf e ≤ 70368744177664 && m ≤ 70368744177664 && st.cf ≤ st.ch.length then
          some (.g (.v st.ch.length) m xs, { st with ch := st.ch ++ [m] }) else none
      | _ => none
      else none
    | none => none
  | none => none

def keyOf : AV → Option (Bool × List Value)
  | .pv (.sc v) => some (false, [v])
  | .agg cs => match scs cs with
    | some vs => some (true, vs)
    | none => none
  | _ => none

def findKey (P : Program) (kt : TypeId) (k : Bool × List Value) : List Ent → Option (Option Ent)
  | [] => some none
  | e :: r => if k.1 == isAgg P kt && k.1 == e.kagg then match eqV P 8 kt k.2 e.key with
      | some true => some (some e)
      | some false => findKey P kt k r
      | none => none
    else none

def zeroAV (P : Program) (t : TypeId) : Option AV :=
  match P.info? t with
  | some i => match i.zero with
    | some (.agg cs) => if cs.toList.all scalar then some (.agg (cs.toList.map ofConst)) else none
    | some v => if scalar v then some (.pv (.sc v)) else none
    | none => none
  | none => none

def lookup (P : Program) (st : St) (t : TypeId) (m k : AV) (ok : Bool) : Option AV :=
  match P.underlying t with
  | some (.map kt et) => match m, keyOf k with
    | .lm b, some key => match st.h[b]? with
      | some (.map es _) => match if keyOk P 8 kt key.2 && key.1 == isAgg P kt then findKey P kt key es else none with
        | some (some e) => some (if ok then .tup [e.val, bool true] else e.val)
        | some none => match zeroAV P et with
          | some z => some (if ok then .tup [z, bool false] else z)
          | none => none
        | none => none
      | _ => none
    | _, _ => none
  | _ => none

/-- a value that goes into an entry of block b -/
def entV (st : St) (b : Nat) (v : AV) : AV :=
  match limit st.ms b with
  | some m => arg1 (down m.1 m.2 v)
  | none => arg1 v

def mapUpdate (P : Program) (st : St) (t : TypeId) (m k v : AV) : Option St :=
  match P.underlying t with
  | some (.map kt _) => match m, keyOf k with
    | .lm b, some key => match st.h[b]? with
      | some (.map es clock) =>
        if st.fl ≤ b && one (entV st b v) && tiles P 8 kt then
        match if keyOk P 8 kt key.2 && key.1 == isAgg P kt then findKey P kt key es else none with
        | some (some e) => some (setH st b (.map (es.map (updE e.born (wrE (entV st b v)))) clock))
        | some none => some (setH st b (.map (es ++ [{ kagg := key.1, key := key.2, val := entV st b v, born := clock, lim := none }]) (clock + 1)))
        | none => none
        else none
      | _ => none
    | _, _ => none
  | _ => none

def isSlice (P : Program) (t : TypeId) : Bool :=
  match P.underlying t with
  | some (.slice _) => true
  | _ => false

def mapEntry (P : Program) (st : St) (t : TypeId) (m k : AV) : Option (AV × St) :=
  match P.underlying t with
  | some (.map kt et) => match m, keyOf k with
    | .lm b, some key => match st.h[b]? with
      | some (.map es clock) => if st.fl ≤ b && tiles P 8 kt then
        match if keyOk P 8 kt key.2 && key.1 == isAgg P kt then findKey P kt key es else none with
        | some (some e) => match e.val, e.lim with
          | .pv (.sl n cs), some _ => some (.tup [.g (.e b e.born) n cs, int e.born], st)
          | v, _ => some (.tup [v, int e.born], st)
        | some none =>
          match zeroAV P et with
          | some (.pv (.sc (.slice none 0 0))) =>
            some (.tup [.g (.e b clock) 0 [], int clock], setH st b (.map (es ++ [{ kagg := key.1, key := key.2, val := .pv (.sl 0 []), born := clock, lim := some 0 }]) (clock + 1)))
          | some z => if one z then
              some (.tup [z, int clock], setH st b (.map (es ++ [{ kagg := key.1, key := key.2, val := z, born := clock, lim := none }]) (clock + 1))) else none
          | none => none
        | none => none
        else none
      | _ => none
    | _, _ => none
  | _ => none

def entryStore (st : St) (m s v : AV) : Option St :=
  match m, isInt s with
  | .lm b, some z => match st.h[b]? with
    | some (.map es clock) => match es.find? (·.born == z.toNat) with
      | some e => if st.fl ≤ b && 0 ≤ z then
        match v with
        | .g (.e b' born') n cs =>
          if b' = b ∧ born' = e.born then some (setH st b (.map (es.map (updE e.born (wrG n cs))) clock)) else none
        | v => if one (entV st b v) then some (setH st b (.map (es.map (updE e.born (wrE (entV st b v)))) clock)) else none
        else none
      | none => none
    | _ => none
  | _, _ => none

def bound (d : Nat) : Option AV → Option Nat
  | none => some d
  | some v => match isInt v with
    | some n => if 0 ≤ n then some n.toNat else none
    | none => none

def slice (P : Program) (t : TypeId) (x : AV) (lo hi : Option AV) : Option AV :=
  match P.underlying t with
  | some (.slice e) => match x with
    | .pv (.sl n cs) | .g _ n cs => match bound 0 lo, bound n hi with
      | some l, some h => if known P e && l ≤ h && h ≤ n then some (.pv (.sl (h - l) ((cs.drop (l * P.cellsOf e)).take ((h - l) * P.cellsOf e)))) else none
      | _, _ => none
    | .ls b o n => match bound 0 lo, bound n hi with
      | some l, some h => if known P e && l ≤ h && h ≤ n then some (if l = h then .pv (.sl 0 []) else .ls b (o + l * P.cellsOf e) (h - l)) else none
      | _, _ => none
    | _ => none
  | some (.array n e) => match bound 0 lo, bound n hi with
    | some l, some h => if known P e && l ≤ h && h ≤ n then
        match shift x (l * P.cellsOf e) with
        | some (.lp b o) => some (if l = h then .pv (.sl 0 []) else .ls b o (h - l))
        | some (.pv (.pt ps)) => some (.pv (.sl (h - l) (ps.take ((h - l) * P.cellsOf e))))
        | _ => none
      else none
    | _, _ => none
  | some .string => match x with
    | .pv (.sc (.string s)) => match bound 0 lo, bound s.size hi with
      | some l, some h => if l ≤ h && h ≤ s.size then some (.pv (.sc (.string (s.extract l h)))) else none
      | _, _ => none
    | _ => none
  | _ => none

inductive Res where
  | val (v : AV) (st : St)
  | call (f : FuncId) (args : List AV)

def skipS : Option St → Option (AV × St)
  | some st => some (.tup [], st)
  | none => none

def fillP (offs : Nat → Option (Nat × Nat)) (cs : List AV) : List (Nat × AV) → Option (List AV)
  | [] => some cs
  | (i, v) :: r => match offs i with
    | some (o, n) => if (parts v).length = n ∧ o + n ≤ cs.length ∧ (parts v).all one then fillP offs (splice cs o (parts v)) r else none
    | none => none

def structOffs (P : Program) (t : TypeId) (i : Nat) : Option (Nat × Nat) :=
  match P.underlying t with
  | some (.struct fs) => match fs[i]? with
    | some f => some (f.offset, P.cellsOf f.type)
    | none => none
  | some (.array _ e) => some (i * P.cellsOf e, P.cellsOf e)
  | _ => none

def build (P : Program) (σ : Slots) (st : St) (t : TypeId) (ps : List (Nat × Operand)) : Option (AV × St) :=
  match zeroOf P t with
  | some z => if z.all scalar then
      match fillP (structOffs P t) (z.map ofConst) (ps.map fun (i, x) => (i, opd σ x)) with
      | some cs => some (.agg (openNil cs st.ch.length), { st with ch := st.ch ++ zeros (countA cs) })
      | none => none
    else none
  | none => none

def rep (z : List AV) : Nat → List AV
  | 0 => []
  | n + 1 => z ++ rep z n

def buildSlice (P : Program) (σ : Slots) (t : TypeId) (len : Nat) (ps : List (Nat × Operand)) : Option (List AV) :=
  match P.underlying t with
  | some (.slice e) => match zeroOf P e with
    | some z => if z.all scalar && len * P.cellsOf e ≤ 1048576 && z.length == P.cellsOf e then
        fillP (fun i => some (i * P.cellsOf e, P.cellsOf e)) (rep (z.map ofConst) len) (ps.map fun (i, x) => (i, arg (opd σ x)))
      else none
    | none => none
  | _ => none

def makeSlice (P : Program) (t : TypeId) (l c : AV) : Option (Nat × List AV) :=
  match P.underlying t, l, c with
  | some (.slice e), .pv (.sc (.int .i64 n)), .pv (.sc (.int .i64 m)) => match zeroOf P e with
    | some z => if z.all scalar && z.length == P.cellsOf e && n == m && 0 ≤ n && n ≤ 1073741824 && n * P.bytesOf e ≤ 70368744177664 then
        some (n.toNat, rep (z.map ofConst) n.toNat)
      else none
    | none => none
  | _, _, _ => none

def lenOf (P : Program) (st : St) (t : TypeId) (x : AV) : Option AV :=
  match P.underlying t with
  | some (.slice _) => match x with
    | .pv (.sl n _) | .g _ n _ | .ls _ _ n => some (int n)
    | .pv (.sc (.slice none 0 0)) => some (int 0)
    | _ => none
  | some .string => match x with
    | .pv (.sc (.string s)) => some (int s.size)
    | _ => none
  | some (.array n _) => some (int n)
  | some (.map _ _) => match x with
    | .lm b => match st.h[b]? with
      | some (.map es _) => some (int es.length)
      | _ => none
    | _ => none
  | _ => none

def minmax (isMax : Bool) : List AV → Option AV
  | [] => none
  | x :: r => r.foldlM (fun a b => match a, b with
    | .pv (.sc (.int k a)), .pv (.sc (.int k' b)) => if k = k' then some (.pv (.sc (.int k (if isMax then (if b > a then b else a) else (if b < a then b else a))))) else none
    | _, _ => none) x

def fieldsKnown (P : Program) (t : TypeId) : Bool :=
  match P.underlying t with
  | some (.struct fs) => fs.toList.all fun f => known P f.type
  | some (.array _ e) => known P e
  | _ => false

/-- operations that leave the state as it is -/
def op1 (P : Program) (σ : Slots) (st : St) (o : Op) : Option AV :=
  match o with
  | .assign (.const (.slice none 0 0)) => none
  | .move x | .assign x => some (opd σ x)
  | .pick c a b => match opd σ c with
    | .pv (.sc (.bool t)) => some (if t then opd σ a else opd σ b)
    | _ => none
  | .load t a => load P st t (opd σ a)
  | .binOp b t x y _ => bin P b t (opd σ x) (opd σ y)
  | .unOp u _ x => unop u (opd σ x)
  | .fieldAddr s x f => match fieldOff P s f with
    | some n => shift (opd σ x) n
    | none => none
  | .indexAddr t x i => match isInt (opd σ i) with
    | some n => indexAddr P t (opd σ x) n
    | none => none
  | .slice t x lo hi none => slice P t (opd σ x) (lo.map (opd σ)) (hi.map (opd σ))
  | .makeFunc f a c => some (.fn f (a.toList.map (opd σ)) (c.toList.map (opd σ)))
  | .lookup t m k ok => lookup P st t (opd σ m) (opd σ k) ok
  | .extract t i => match opd σ t with
    | .tup vs => vs[i]?
    | _ => none
  | .call { callee := .builtin .len, args, argTypes } => match argTypes[0]?, args.toList with
    | some t, [x] => lenOf P st t (opd σ x)
    | _, _ => none
  | .call { callee := .builtin .max, args, .. } => minmax true (args.toList.map (opd σ))
  | .call { callee := .builtin .min, args, .. } => minmax false (args.toList.map (opd σ))
  | _ => none

/-- operations that make a block, which gets number n -/
def mem (P : Program) (σ : Slots) (n : Nat) (o : Op) : Option (AV × Obj) :=
  match o with
  | .box _ v => if (parts (opd σ v)).all one then some (.lp n 0, .cells (parts (opd σ v))) else none
  | .buildSlice t k ps => match buildSlice P σ t k ps.toList with
    | some cs => some (.ls n 0 k, .cells cs)
    | none => none
  | .makeMap _ none => some (.lm n, .map [] 0)
  | .makeSlice t l c => match makeSlice P t (opd σ l) (opd σ c) with
    | some (k, cs) => some (.ls n 0 k, .cells cs)
    | none => none
  | _ => none

/-- operations that make or write memory -/
def op2 (P : Program) (σ : Slots) (st : St) (o : Op) : Option (AV × St) :=
  match o with
  | .assign (.const (.slice none 0 0)) => some (.g (.v st.ch.length) 0 [], { st with ch := st.ch ++ [0] })
  | .alloc t => match zeroOf P t with
    | some z => if (zeroCells z st.ch.length).all one then
        some (.lp st.h.length 0, push { st with ch := st.ch ++ zeros (countV z) } (.cells (zeroCells z st.ch.length))) else none
    | none => none
  | .build t ps => if fieldsKnown P t then build P σ st t ps.toList else none
  | .store t a v => skipS (store P st t (opd σ a) (opd σ v))
  | .mapUpdate t m k v => skipS (mapUpdate P st t (opd σ m) (opd σ k) (opd σ v))
  | .mapEntry t m k => mapEntry P st t (opd σ m) (opd σ k)
  | .entryStore _ m s v => skipS (entryStore st (opd σ m) (opd σ s) (opd σ v))
  | .call { callee := .builtin .append, args, argTypes } => match argTypes[0]?, argTypes[1]?, args.toList with
    | some t, some tx, [s, x] => if isSlice P tx && argTypes.size == 2 then append P st t (opd σ s) (opd σ x) else none
    | _, _, _ => none
  | o => match mem P σ st.h.length o with
    | some (v, x) => some (v, push st x)
    | none => none

def op3 (σ : Slots) (o : Op) : Option (FuncId × List AV) :=
  match o with
  | .call { callee := .value f, args, .. } => match opd σ f with
    | .fn (.func k) first cap => some (k, (first ++ args.toList.map (opd σ) ++ cap).map arg)
    | .pv (.sc (.func (.func k) _ _)) => some (k, (args.toList.map (opd σ)).map arg)
    | _ => none
  | _ => none

def op (P : Program) (σ : Slots) (st : St) (o : Op) : Option Res :=
  match op1 P σ st o with
  | some v => some (.val v st)
  | none => match op2 P σ st o with
    | some (v, st') => some (.val v st')
    | none => match op3 σ o with
      | some (f, args) => some (.call f args)
      | none => none

abbrev CallF := FuncId → List AV → St → Option (AV × St)

/-- is the operation carried out? -/
def wanted (ops : Array Oper) (σ : Slots) (o : Oper) : Option Bool :=
  match o.guard with
  | none => some true
  | some (j, b) => match (ops[j]?).bind (·.dst) with
    | some t => match get σ t with
      | .pv (.sc (.bool x)) => some (x == b)
      | .tup [] => some false
      | _ => none
    | none => none

def stepU (P : Program) (call : CallF) (ops : Array Oper) (σ : Slots) (st : St) (o : Oper) : Option (AV × St) :=
  match wanted ops σ o with
  | some true => match op P σ st o.op with
    | some (.val v st') => some (v, st')
    | some (.call f args) => call f args st
    | none => none
  | some false => some (.tup [], st)
  | none => none

def buildD (P : Program) (σ : Slots) (t : TypeId) (ps : List (Nat × Operand)) : Option AV :=
  match zeroOf P t with
  | some z => if z.all scalar then
      match fillP (structOffs P t) (z.map ofConst) (ps.map fun (i, x) => (i, opd σ x)) with
      | some cs => some (.agg cs)
      | none => none
    else none
  | none => none

/-- where the order is drawn no chain is opened -/
def op1D (P : Program) (σ : Slots) (st : St) (o : Op) : Option AV :=
  match o with
  | .assign x => some (opd σ x)
  | .build t ps => if fieldsKnown P t then buildD P σ t ps.toList else none
  | o => op1 P σ st o

def memD (P : Program) (σ : Slots) (n : Nat) (o : Op) : Option (AV × Obj) :=
  match o with
  | .alloc t => match zeroOf P t with
    | some z => if z.all scalar then some (.lp n 0, .cells (z.map ofConst)) else none
    | none => none
  | o => mem P σ n o

/-- does it write what was there before? -/
def isWr : Op → Bool
  | .store .. | .mapUpdate .. | .mapEntry .. | .entryStore .. => true
  | .call { callee := .builtin .append, .. } => true
  | _ => false

/-- may it look at memory, or make some? -/
def isMem : Op → Bool
  | .move _ | .assign _ | .pick .. | .binOp .. | .unOp .. | .fieldAddr .. | .indexAddr .. | .slice .. | .makeFunc .. | .extract .. | .build .. => false
  | _ => true

/-- a result without rights to grow -/
def strip1 : AV → AV
  | .g _ n cs => .pv (.sl n cs)
  | .pv p => .pv p
  | .lp b o => .lp b o
  | .ls b o n => .ls b o n
  | .lm b => .lm b
  | .fn f [] [] => .fn f [] []
  | .ifc t (.pv p) => .ifc t (.pv p)
  | _ => .bad
def strip2 : AV → AV
  | .agg cs => .agg (cs.map strip1)
  | v => strip1 v
def strip : AV → AV
  | .tup vs => .tup (vs.map strip2)
  | v => strip2 v

/-- in a region whose order is drawn a call changes nothing that was there -/
def stepD (P : Program) (call : CallF) (ops : Array Oper) (σ : Slots) (st : St) (o : Oper) : Option (AV × St) :=
  match wanted ops σ o with
  | some true =>
    if isWr o.op then op2 P σ st o.op else
    match op1D P σ st o.op with
    | some v => some (v, st)
    | none => match memD P σ st.h.length o.op with
      | some (v, x) => some (v, push st x)
      | none => match op3 σ o.op with
        | some (f, args) => match call f args { st with fl := st.h.length, cf := st.ch.length } with
          | some (v, _) => some (strip v, st)
          | none => none
        | none => none
  | some false => some (.tup [], st)
  | none => none

def runL (P : Program) (call : CallF) (draw : Bool) (ops : Array Oper) : List Oper → Slots → St → Option (Slots × St)
  | [], σ, st => some (σ, st)
  | o :: r, σ, st => match if draw then stepD P call ops σ st o else stepU P call ops σ st o with
    | some (v, st') => runL P call draw ops r (putO σ o.dst v) st'
    | none => none

/-- for each operation the operations that come before it in every order -/
def masks (l : List Oper) : List Nat :=
  l.foldl (fun acc o => acc ++ [o.after.toList.foldl (fun m e => if Region.binds .any e then (m ||| 2 ^ e.on) ||| acc.getD e.on 0 else m) 0]) []

/-- the masks say nothing that the edges do not -/
def maskOk (l : List Oper) (ms : List Nat) : Bool :=
  (List.range l.length).all fun j => match l[j]? with
    | some o => o.after.toList.all (fun e => !Region.binds .any e || e.on < j) &&
        (List.range l.length).all fun i => !(ms.getD j 0).testBit i || o.after.toList.any fun e => Region.binds .any e && (e.on == i || (ms.getD e.on 0).testBit i)
    | none => true

def indep (ops : Array Oper) (x y : Oper) : Bool := x.apart ops y && !(isWr x.op && isMem y.op) && !(isWr y.op && isMem x.op)

/-- whatever the order that is drawn, the text's order gives the same -/
def drawOk (ops : Array Oper) : Bool :=
  Region.noSelect ops && maskOk ops.toList (masks ops.toList) &&
  (List.range ops.size).all fun j => (List.range j).all fun i => match ops[i]?, ops[j]? with
    | some x, some y => indep ops x y || ((masks ops.toList).getD j 0).testBit i
    | _, _ => true

def fits (n : Nat) (ops : Array Oper) : Bool := ops.all fun o => match o.dst with
  | some d => d < n
  | none => true

def okCode (n : Nat) : Code → Bool
  | .region _ ops draw => fits n ops && (!draw || drawOk ops)
  | .seq a b | .cond _ a b => okCode n a && okCode n b
  | .block _ c | .loop c => okCode n c
  | _ => true

/-- what is asked of a program once -/
def okFunc (fn : Func) : Bool :=
  match fn.body with
  | some c => okCode fn.ntmps c && fn.name != "runtime.NumGoroutine"
  | none => true

inductive Ex where
  | normal
  | exit (id : Nat)
  | ret

def keepS (keep : List Nat) (σ : Slots) : Slots := σ.filter fun x => keep.contains x.1

/-- a frame or a round begins -/
def enter (st : St) : St := { st with ms := (st.h.length, st.ch.length) :: st.ms }

/-- the end of a round, or of a loop: what the round made goes -/
def popS (σ : Slots) (st : St) (σ' : Slots) (st' : St) : Slots × St :=
  (σ.map fun x => (x.1, outT st' st.h.length st.ch.length (get σ' x.1)),
   { st' with h := st'.h.take st.h.length, ch := st'.ch.take st.ch.length, ms := st.ms })

def iter (body : Slots → St → Option (Ex × Slots × St)) : Nat → Slots → St → Option (Ex × Slots × St)
  | 0, _, _ => none
  | k + 1, σ, st => match body σ (enter st) with
    | some (.normal, σ', st') => iter body k (popS σ st σ' st').1 (popS σ st σ' st').2
    | some (e, σ', st') => some (e, popS σ st σ' st')
    | none => none

def code (P : Program) (call : CallF) (n : Nat) (keep : List Nat) : Code → Slots → St → Option (Ex × Slots × St)
  | .skip, σ, st => some (.normal, σ, st)
  | .label _, σ, st => some (.normal, σ, st)
  | .region _ ops draw, σ, st => match runL P call draw ops ops.toList σ st with
    | some (σ', st') => some (.normal, keepS keep σ', st')
    | none => none
  | .seq a b, σ, st => match code P call n keep a σ st with
    | some (.normal, σ', st') => code P call n keep b σ' st'
    | r => r
  | .cond c a b, σ, st => match opd σ c with
    | .pv (.sc (.bool t)) => if t then code P call n keep a σ st else code P call n keep b σ st
    | _ => none
  | .block id c, σ, st => match code P call n keep c σ st with
    | some (.exit k, σ', st') => if k = id then some (.normal, σ', st') else some (.exit k, σ', st')
    | r => r
  | .loop c, σ, st => iter (fun σ st => code P call n keep c σ st) n σ st
  | .exit id, σ, st => some (.exit id, σ, st)
  | .ret, σ, st => some (.ret, σ, st)
  | _, _, _ => none

def results (P : Program) (st : St) (σ : Slots) : List ResultVar → Option (List AV)
  | [] => some []
  | .tmp t :: r => match results P st σ r with
    | some vs => some (get σ t :: vs)
    | none => none
  | .cell a t :: r => match load P st t (get σ a), results P st σ r with
    | some v, some vs => some (v :: vs)
    | _, _ => none

def tuple : List AV → AV
  | [v] => v
  | vs => .tup vs

def number (i : Nat) : List AV → Slots
  | [] => []
  | v :: r => (i, v) :: number (i + 1) r

/-- one function's body; H: for each function the slots that more than one of its regions uses; n: a bound on the rounds of a loop -/
def callBody (P : Program) (H : FuncId → List Nat) (n : Nat) (c : CallF) : CallF := fun f args st =>
  match P.funcs[f]? with
  | some fn => match fn.body with
    | some b => match code P c n (H f) b (number 0 args) (enter st) with
      | some (.exit _, _, _) | none => none
      | some (_, σ, st') => match results P st' σ fn.results.toList with
        | some vs => some (outT st' st.h.length st.ch.length (tuple vs),
            { h := st'.h.take st.h.length, ch := st'.ch.take st.ch.length, ms := st.ms, fl := st.fl, cf := st.cf })
        | none => none
    | none => none
  | none => none

def call (P : Program) (H : FuncId → List Nat) (n : Nat) : Nat → CallF
  | 0 => fun _ _ _ => none
  | k + 1 => callBody P H n (call P H n k)

end Go.TM
