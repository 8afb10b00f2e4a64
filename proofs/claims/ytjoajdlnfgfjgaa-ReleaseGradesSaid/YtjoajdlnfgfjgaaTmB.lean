/- The tree machine: how values and heaps stand for those of a world. -/
import Derived.Test.YtjoajdlnfgfjgaaTmA
import Derived.Below
import Derived.Laws.Sem
import Derived.Deep.Draws
namespace Go.TM
open Go.RowKit

structure Cx where
  ρ : Nat → Option Nat
  κ : Ch → Option (Nat × Nat)
  im : Nat → Nat → Prop
  mc : Ch → Option Nat
  w : World
  n : Nat

def rd (w : World) (b o : Nat) : Value := (w.cell? ⟨b, o, none⟩).getD undef

inductive PVR (im : Nat → Nat → Prop) (w : World) : Value → PV → Prop
  | sc {u} : scalar u = true → PVR im w u (.sc u)
  | sl0 {A c} : PVR im w (.slice A 0 c) (.sl 0 [])
  | sl {b o n c cs} : n ≤ c → (∀ j p, cs[j]? = some p → im b (o + j)) → (∀ j p, cs[j]? = some p → PVR im w (rd w b (o + j)) p) →
      PVR im w (.slice (some ⟨b, o, none⟩) n c) (.sl n cs)
  | pt {b o cs} : (∀ j p, cs[j]? = some p → im b (o + j)) → (∀ j p, cs[j]? = some p → PVR im w (rd w b (o + j)) p) →
      PVR im w (.pointer (some ⟨b, o, none⟩)) (.pt cs)
  | ifc {t u p} : PVR im w u p → PVR im w (.iface t u) (.ifc t p)

/-- a row that may grow: it lies at the head of its block's free cells -/
def Rt (w : World) (at_ : Option (Nat × Nat)) (v : Value) (n : Nat) (cs : List PV) : Prop :=
  (at_ = none ∧ n = 0 ∧ cs = [] ∧ v = .slice none 0 0) ∨
  ∃ B o cap C ty s, at_ = some (B, o + cs.length) ∧ 0 < n ∧ v = .slice (some ⟨B, o, none⟩) n cap ∧ cs.length = n * s ∧
    w.heap[B]? = some (.cells C ty (0, 0)) ∧ o + cap * s ≤ C.size

inductive AVR (X : Cx) : Value → AV → Prop
  | pv {v p} : PVR X.im X.w v p → AVR X v (.pv p)
  | g {v c n cs m} : PVR X.im X.w v (.sl n cs) → X.mc c = some m → n ≤ m → (n = m → Rt X.w (X.κ c) v n cs) → AVR X v (.g c n cs)
  | lp {b o B} : X.ρ b = some B → AVR X (.pointer (some ⟨B, o, none⟩)) (.lp b o)
  | ls {b o n B c} : X.ρ b = some B → n ≤ c → AVR X (.slice (some ⟨B, o, none⟩) n c) (.ls b o n)
  | lm {b B} : X.ρ b = some B → AVR X (.map (some B)) (.lm b)
  | fn {f fa ca xs ys} : fa.size = xs.length → ca.size = ys.length → (∀ j x, xs[j]? = some x → AVR X (fa.getD j undef) x) →
      (∀ j x, ys[j]? = some x → AVR X (ca.getD j undef) x) → AVR X (.func f fa ca) (.fn f xs ys)
  | ifc {t u x} : AVR X u x → AVR X (.iface t u) (.ifc t x)
  | agg {a cs} : a.size = cs.length → (∀ j x, cs[j]? = some x → AVR X (a.getD j undef) x) → (∀ j, j < cs.length → (a.getD j undef).oneCell' = true) →
      AVR X (.agg a) (.agg cs)
  | tup {a vs} : a.size = vs.length → (∀ j x, vs[j]? = some x → AVR X (a.getD j undef) x) → AVR X (.tuple a) (.tup vs)
  | bad {v} : AVR X v .bad

/-- from X to Y nothing that was known has turned -/
structure Cx.Le (X Y : Cx) : Prop where
  ρ : ∀ b B, X.ρ b = some B → Y.ρ b = some B
  im : ∀ B j, X.im B j → Y.im B j ∧ Y.w.cell? ⟨B, j, none⟩ = X.w.cell? ⟨B, j, none⟩
  ch : ∀ c m, X.mc c = some m → ∃ m', Y.mc c = some m' ∧ (m < m' ∨ (m' = m ∧ Y.κ c = X.κ c ∧
    ∀ B e C ty, X.κ c = some (B, e) → X.w.heap[B]? = some (.cells C ty (0, 0)) → ∃ C', Y.w.heap[B]? = some (.cells C' ty (0, 0)) ∧ C'.size = C.size))
  ρn : ∀ b B, Y.ρ b = some B → X.ρ b = some B ∨ X.n ≤ b
  nn : Y.n = X.n

theorem Cx.Le.refl (X : Cx) : X.Le X :=
  ⟨fun _ _ h => h, fun _ _ h => ⟨h, rfl⟩, fun _ m h => ⟨m, h, .inr ⟨rfl, rfl, fun _ _ C _ _ hh => ⟨C, hh, rfl⟩⟩⟩, fun _ _ h => .inl h, rfl⟩

theorem Cx.Le.trans {X Y Z : Cx} (h : X.Le Y) (k : Y.Le Z) : X.Le Z := by
  refine ⟨fun b B hb => k.ρ b B (h.ρ b B hb), fun B j hj => ?_, fun c m hm => ?_, fun b B hb => ?_, k.nn.trans h.nn⟩
  rotate_left
  rotate_left
  · rcases k.ρn b B hb with q | q
    · exact h.ρn b B q
    · exact .inr (by rw [← h.nn]; exact q)
  · obtain ⟨h1, h2⟩ := h.im B j hj
    obtain ⟨k1, k2⟩ := k.im B j h1
    exact ⟨k1, k2.trans h2⟩
  · obtain ⟨m', hm', hc⟩ := h.ch c m hm
    obtain ⟨m'', hm'', kc⟩ := k.ch c m' hm'
    refine ⟨m'', hm'', ?_⟩
    rcases hc with hc | ⟨rfl, hκ, hC⟩
    · rcases kc with kc | ⟨rfl, _⟩
      · exact .inl (by omega)
      · exact .inl hc
    · rcases kc with kc | ⟨rfl, kκ, kC⟩
      · exact .inl kc
      · refine .inr ⟨rfl, kκ.trans hκ, fun B e C ty he hh => ?_⟩
        obtain ⟨C', hC', hs⟩ := hC B e C ty he hh
        obtain ⟨C'', hC'', hs'⟩ := kC B e C' ty (hκ.trans he) hC'
        exact ⟨C'', hC'', hs'.trans hs⟩

theorem PVR.mono {im im' : Nat → Nat → Prop} {w w' : World} (h : ∀ B j, im B j → im' B j ∧ w'.cell? ⟨B, j, none⟩ = w.cell? ⟨B, j, none⟩) {v : Value} {p : PV}
    (hp : PVR im w v p) : PVR im' w' v p := by
  induction hp with
  | sc hs => exact .sc hs
  | sl0 => exact .sl0
  | sl hn hi _ ih =>
    refine .sl hn (fun j p hj => (h _ _ (hi j p hj)).1) fun j p hj => ?_
    have e : rd w' _ (_ + j) = rd w _ (_ + j) := congrArg (·.getD undef) (h _ _ (hi j p hj)).2
    rw [e]
    exact ih j p hj
  | pt hi _ ih =>
    refine .pt (fun j p hj => (h _ _ (hi j p hj)).1) fun j p hj => ?_
    have e : rd w' _ (_ + j) = rd w _ (_ + j) := congrArg (·.getD undef) (h _ _ (hi j p hj)).2
    rw [e]
    exact ih j p hj
  | ifc _ ih => exact .ifc ih

theorem Rt.mono {X Y : Cx} (h : X.Le Y) {c : Ch} {m : Nat} {v : Value} {n : Nat} {cs : List PV} (hm : X.mc c = some m) (hm' : Y.mc c = some m) (hr : Rt X.w (X.κ c) v n cs) :
    Rt Y.w (Y.κ c) v n cs := by
  obtain ⟨m', h1, h2⟩ := h.ch c m hm
  obtain rfl : m' = m := by rw [hm'] at h1; exact (Option.some.inj h1).symm
  rcases h2 with h2 | ⟨_, hκ, hC⟩
  · omega
  · rcases hr with ⟨a, b⟩ | ⟨B, o, cap, C, ty, s, e1, e2, e3, e4, e5, e6⟩
    · exact .inl ⟨hκ.trans a, b⟩
    · obtain ⟨C', hC', hs⟩ := hC _ _ _ _ e1 e5
      exact .inr ⟨B, o, cap, C', ty, s, hκ.trans e1, e2, e3, e4, hC', by omega⟩

theorem AVR.mono {X Y : Cx} (h : X.Le Y) {v : Value} {a : AV} (ha : AVR X v a) : AVR Y v a := by
  induction ha with
  | pv hp => exact .pv (hp.mono h.im)
  | g hp hm hn hr =>
    obtain ⟨m', h1, h2⟩ := h.ch _ _ hm
    refine .g (hp.mono h.im) h1 (by rcases h2 with h2 | ⟨rfl, _⟩ <;> omega) fun e => ?_
    rcases h2 with h2 | ⟨rfl, _⟩
    · omega
    · exact (hr e).mono h hm h1
  | lp hb => exact .lp (h.ρ _ _ hb)
  | ls hb hn => exact .ls (h.ρ _ _ hb) hn
  | lm hb => exact .lm (h.ρ _ _ hb)
  | fn h1 h2 _ _ ih1 ih2 => exact .fn h1 h2 ih1 ih2
  | ifc _ ih => exact .ifc ih
  | agg h1 _ h3 ih => exact .agg h1 ih h3
  | tup h1 _ ih => exact .tup h1 ih
  | bad => exact .bad

theorem scalar_one {u : Value} (h : scalar u = true) : u.oneCell' = true := by cases u <;> simp [scalar, Value.oneCell'] at h ⊢

theorem PVR.one {im : Nat → Nat → Prop} {w : World} {v : Value} {p : PV} (h : PVR im w v p) : v.oneCell' = true := by
  cases h with
  | sc hs => exact scalar_one hs
  | _ => rfl

theorem AVR.one {X : Cx} {v : Value} {a : AV} (h : AVR X v a) (ho : one a = true) : v.oneCell' = true := by
  cases h with
  | pv hp => exact hp.one
  | g hp => exact hp.one
  | agg => simp [TM.one] at ho
  | tup => simp [TM.one] at ho
  | bad => simp [TM.one] at ho
  | _ => rfl

/-- the cell that a pure value's fact speaks of is there -/
theorem PVR.cell {im : Nat → Nat → Prop} {w : World} {b o : Nat} {p : PV} (h : PVR im w (rd w b o) p) : w.cell? ⟨b, o, none⟩ = some (rd w b o) := by
  unfold rd at *
  cases hc : w.cell? ⟨b, o, none⟩ with
  | some v => rfl
  | none =>
    rw [hc] at h
    have := h.one
    simp [undef, Value.oneCell'] at this

def KeyR (v : Value) (kagg : Bool) (key : List Value) : Prop :=
  (kagg = false ∧ key = [v] ∧ scalar v = true) ∨ (kagg = true ∧ ∃ a : Array Value, v = .agg a ∧ a.toList = key)

def EntR (X : Cx) (b : Nat) (m : MapEntry) (e : Ent) : Prop :=
  m.born = e.born ∧ KeyR m.key e.kagg e.key ∧ AVR X m.val e.val ∧
    ∀ m' n cs, e.lim = some m' → e.val = .pv (.sl n cs) → n ≤ m' ∧ (n = m' → Rt X.w (X.κ (.e b e.born)) m.val n cs)

def ObjR (X : Cx) (b B : Nat) : Obj → Prop
  | .dead => True
  | .cells cs => ∃ C ty, X.w.heap[B]? = some (.cells C ty (0, 0)) ∧ cs.length ≤ C.size ∧
      (∀ j x, cs[j]? = some x → AVR X (C.getD j undef) x) ∧ ∀ j, j < cs.length → (C.getD j undef).oneCell' = true
  | .map es clock => ∃ EN : Array MapEntry, X.w.heap[B]? = some (.map EN clock) ∧ EN.size = es.length ∧
      (∀ (j : Nat) (m : MapEntry) (e : Ent), EN[j]? = some m → es[j]? = some e → EntR X b m e) ∧ (es.map (·.born)).Nodup ∧ ∀ e ∈ es, e.born < clock

/-- from w to w' the blocks of Z have not turned, and no stream has -/
structure Still (Z : Nat → Prop) (w w' : World) : Prop where
  os : w'.os = w.os
  tape : w'.tape = w.tape
  output : w'.output = w.output
  size : w.heap.size ≤ w'.heap.size
  block : ∀ k, Z k → w'.heap[k]? = w.heap[k]?

theorem Still.refl (Z : Nat → Prop) (w : World) : Still Z w w := ⟨rfl, rfl, rfl, Nat.le_refl _, fun _ _ => rfl⟩

theorem Still.trans {Z : Nat → Prop} {a b c : World} (h : Still Z a b) (k : Still Z b c) : Still Z a c :=
  ⟨k.os.trans h.os, k.tape.trans h.tape, k.output.trans h.output, Nat.le_trans h.size k.size, fun i hi => (k.block i hi).trans (h.block i hi)⟩

theorem Still.of {Z : Nat → Prop} {B : Nat} {w w' : World} (h : Below B w w') (hz : ∀ k, Z k → k < B) : Still Z w w' := ⟨h.os, h.tape, h.output, h.size, fun k hk => h.block k (hz k hk)⟩

theorem Still.alloc {Z : Nat → Prop} {a w : World} (h : Still Z a w) (hz : ∀ k, Z k → k < w.heap.size) (o : Go.Obj) : Still Z a (w.alloc o) :=
  h.trans (.of ((Below.refl w.heap.size w).alloc (Nat.le_refl _) o) hz)

/-- what a run starts from: the world, the blocks that it leaves alone, the cells that are known for good -/
structure Bs where
  W : World
  Z : Nat → Prop
  im : Nat → Nat → Prop

/-- a state stands for a world -/
structure SR (D : Bs) (X : Cx) (st : St) : Prop where
  nE : X.n ≤ st.h.length
  mcE : X.mc = mark st
  obj : ∀ b o B, st.h[b]? = some o → X.ρ b = some B → ObjR X b B o
  dom : ∀ b B, X.ρ b = some B → b < st.h.length ∧ (st.fl ≤ b → ¬ D.Z B) ∧ B < X.w.heap.size
  inj : ∀ b c B, X.ρ b = some B → X.ρ c = some B → b = c
  loc : ∀ b B j, X.ρ b = some B → ¬ X.im B j
  imlt : ∀ B j, X.im B j → B < X.w.heap.size
  im0 : ∀ B j, X.im B j → D.im B j ∨ ¬ D.Z B
  ch : ∀ c B e, X.mc c ≠ none → X.κ c = some (B, e) → (chOk st c = true → ¬ D.Z B) ∧ B < X.w.heap.size ∧ (∀ j, e ≤ j → ¬ X.im B j) ∧ (∀ b, X.ρ b ≠ some B) ∧
    ∀ c' e', X.mc c' ≠ none → X.κ c' = some (B, e') → c' = c
  below : Still D.Z D.W X.w
  base : ∀ k, D.Z k → k < X.w.heap.size
  κd : ∀ c, X.mc c = none → X.κ c = none

def SlotR (X : Cx) (σ : Slots) (tmps : Array Value) : Prop := ∀ t, AVR X (tmps.getD t undef) (get σ t)

end Go.TM
