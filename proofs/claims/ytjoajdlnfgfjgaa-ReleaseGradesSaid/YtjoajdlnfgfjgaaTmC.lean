/- The tree machine: steps of a world and of the state that stands for it. -/
import Derived.Test.YtjoajdlnfgfjgaaTmB
import Derived.Laws.Rows
namespace Go.TM
open Go.RowKit

theorem cell_of_heap {w w' : World} {B j : Nat} (h : w'.heap[B]? = w.heap[B]?) : w'.cell? ⟨B, j, none⟩ = w.cell? ⟨B, j, none⟩ := by simp [World.cell?, h]

/-- the world moves on, and nothing that is known of it: only counts, or blocks that nobody knows -/
theorem SR.world {D : Bs} {X : Cx} {st : St} (h : SR D X st) {w' : World} (hb : Below X.w.heap.size X.w w') :
    SR D { X with w := w' } st ∧ X.Le { X with w := w' } := by
  have hle : X.Le { X with w := w' } := by
    refine ⟨fun _ _ e => e, fun B j e => ⟨e, cell_of_heap (hb.block B (h.imlt B j e))⟩, fun c m e => ⟨m, e, .inr ⟨rfl, rfl, fun B e' C ty hk hh => ⟨C, ?_, rfl⟩⟩⟩, fun _ _ e => .inl e, rfl⟩
    have := (h.ch c B e' (by simp [e]) hk).2.1
    show w'.heap[B]? = _
    rw [hb.block B this]; exact hh
  refine ⟨⟨h.nE, h.mcE, fun b o B ho hB => ?_, fun b B e => ⟨(h.dom b B e).1, (h.dom b B e).2.1, Nat.lt_of_lt_of_le (h.dom b B e).2.2 hb.size⟩, h.inj, h.loc,
    fun B j e => Nat.lt_of_lt_of_le (h.imlt B j e) hb.size, h.im0, fun c B e hc hk => ?_, h.below.trans (.of hb h.base), fun k hk => Nat.lt_of_lt_of_le (h.base k hk) hb.size, h.κd⟩, hle⟩
  · have hlt := (h.dom b B hB).2.2
    have hob := h.obj b o B ho hB
    cases o with
    | dead => trivial
    | cells cs =>
      obtain ⟨C, ty, h1, h2, h3, h4⟩ := hob
      exact ⟨C, ty, (hb.block B hlt).trans h1, h2, fun j x e => (h3 j x e).mono hle, h4⟩
    | map es clock =>
      obtain ⟨EN, h1, h2, h3, h4⟩ := hob
      refine ⟨EN, (hb.block B hlt).trans h1, h2, fun j m e e1 e2 => ?_, h4⟩
      obtain ⟨r1, r2, r3, r4⟩ := h3 j m e e1 e2
      refine ⟨r1, r2, r3.mono hle, fun m' n cs hn hv => ⟨(r4 m' n cs hn hv).1, fun hnm => ?_⟩⟩
      have q2 := (r4 m' n cs hn hv).2 hnm
      rcases q2 with q2 | ⟨B', o, cap, C, ty, s, e1, e2, e3, e4, e5, e6⟩
      · exact .inl q2
      · refine .inr ⟨B', o, cap, C, ty, s, e1, e2, e3, e4, ?_, e6⟩
        have hlt' : B' < X.w.heap.size := by
          rcases Nat.lt_or_ge B' X.w.heap.size with q | q
          · exact q
          · rw [Array.getElem?_eq_none q] at e5; cases e5
        exact (hb.block B' hlt').trans e5
  · obtain ⟨c1, c2, c3⟩ := h.ch c B e hc hk
    exact ⟨c1, Nat.lt_of_lt_of_le c2 hb.size, c3⟩

/-- facts on objects go from X to Y where nothing that they speak of has turned -/
theorem EntR.mono {X Y : Cx} (h : X.Le Y) {b : Nat} {m : MapEntry} {e : Ent} (hm : ∀ n, e.lim = some n → X.mc (.e b e.born) = some n ∧ Y.mc (.e b e.born) = some n) (hr : EntR X b m e) : EntR Y b m e := by
  obtain ⟨h1, h2, h3, h4⟩ := hr
  refine ⟨h1, h2, h3.mono h, fun m' n cs hn hv => ⟨(h4 m' n cs hn hv).1, fun hnm => ?_⟩⟩
  obtain ⟨q1, q2⟩ := hm m' hn
  exact ((h4 m' n cs hn hv).2 hnm).mono h q1 q2

theorem mark_e {st : St} {b born : Nat} {es : List Ent} {k : Nat} (h : st.h[b]? = some (.map es k)) : mark st (.e b born) = (es.find? (·.born == born)).bind (·.lim) := by
  simp only [mark, h]
  cases es.find? (·.born == born) <;> rfl

theorem find_nodup {es : List Ent} {e : Ent} (hn : (es.map (·.born)).Nodup) (he : e ∈ es) : es.find? (·.born == e.born) = some e := by
  induction es with
  | nil => cases he
  | cons a r ih =>
    simp only [List.map_cons, List.nodup_cons] at hn
    simp only [List.find?_cons]
    rcases List.mem_cons.1 he with rfl | he
    · simp
    · have : a.born ≠ e.born := fun h => hn.1 (h ▸ List.mem_map_of_mem (f := (·.born)) he)
      have hb : (a.born == e.born) = false := by simpa using this
      simp only [hb]
      exact ih hn.2 he

theorem ObjR.mono {X Y : Cx} (h : X.Le Y) {b B : Nat} {o : Obj} (hB : Y.w.heap[B]? = X.w.heap[B]?) (hm : ∀ es k, o = .map es k → ∀ e ∈ es, X.mc (.e b e.born) = e.lim ∧ Y.mc (.e b e.born) = e.lim)
    (hr : ObjR X b B o) : ObjR Y b B o := by
  cases o with
  | dead => trivial
  | cells cs =>
    obtain ⟨C, ty, h1, h2, h3, h4⟩ := hr
    exact ⟨C, ty, hB.trans h1, h2, fun j x e => (h3 j x e).mono h, h4⟩
  | map es clock =>
    obtain ⟨EN, h1, h2, h3, h4⟩ := hr
    refine ⟨EN, hB.trans h1, h2, fun j m e e1 e2 => ?_, h4⟩
    refine (h3 j m e e1 e2).mono h fun n hn => ?_
    obtain ⟨q1, q2⟩ := hm es clock rfl e (List.mem_of_getElem? e2)
    exact ⟨q1.trans hn, q2.trans hn⟩

/-- what an object on the heap says of its entries' marks -/
theorem SR.markEnt {D : Bs} {X : Cx} {st : St} (h : SR D X st) {b B : Nat} {es : List Ent} {k : Nat} (ho : st.h[b]? = some (.map es k)) (hB : X.ρ b = some B) :
    ∀ e ∈ es, X.mc (.e b e.born) = e.lim := by
  intro e he
  obtain ⟨_, _, _, _, h4, _⟩ := h.obj b _ B ho hB
  rw [h.mcE, mark_e ho, find_nodup h4 he]
  rfl

/-- new chains, as yet without cells -/
def Cx.chains (X : Cx) (st : St) (l : List Nat) : Cx :=
  { X with κ := fun c => match c with | .v k => if k < st.ch.length then X.κ (.v k) else none | c => X.κ c, mc := mark { st with ch := st.ch ++ l } }

theorem SR.chains {D : Bs} {X : Cx} {st : St} (h : SR D X st) (l : List Nat) : SR D (X.chains st l) { st with ch := st.ch ++ l } ∧ X.Le (X.chains st l) := by
  have hk : ∀ c m, X.mc c = some m → (X.chains st l).mc c = some m ∧ (X.chains st l).κ c = X.κ c := by
    intro c m hm
    rw [h.mcE] at hm
    cases c with
    | v k =>
      have hlt : k < st.ch.length := by
        rcases Nat.lt_or_ge k st.ch.length with q | q
        · exact q
        · simp [mark, List.getElem?_eq_none q] at hm
      refine ⟨?_, by simp [Cx.chains, hlt]⟩
      simp only [mark] at hm
      simp only [Cx.chains, mark]
      rw [List.getElem?_append_left hlt]; exact hm
    | e b born => exact ⟨by simpa [Cx.chains, mark] using hm, rfl⟩
  have hle : X.Le (X.chains st l) := ⟨fun _ _ e => e, fun _ _ e => ⟨e, rfl⟩, fun c m hm => ⟨m, (hk c m hm).1, .inr ⟨rfl, (hk c m hm).2, fun B e C ty _ hh => ⟨C, hh, rfl⟩⟩⟩, fun _ _ e => .inl e, rfl⟩
  have hold : ∀ c B e, (X.chains st l).mc c ≠ none → (X.chains st l).κ c = some (B, e) → X.mc c ≠ none ∧ X.κ c = some (B, e) := by
    intro c B e hc hκ
    cases c with
    | v k =>
      simp only [Cx.chains] at hκ
      by_cases hlt : k < st.ch.length
      · rw [if_pos hlt] at hκ
        exact ⟨by rw [h.mcE]; simp [mark, List.getElem?_eq_getElem hlt], hκ⟩
      · rw [if_neg hlt] at hκ; cases hκ
    | e b born => exact ⟨by rw [h.mcE]; simpa [Cx.chains, mark] using hc, hκ⟩
  refine ⟨⟨h.nE, rfl, fun b o B ho hB => ?_, h.dom, h.inj, h.loc, h.imlt, h.im0, fun c B e hc hκ => ?_, h.below, h.base, fun c hc => ?_⟩, hle⟩
  · refine (h.obj b o B ho hB).mono hle rfl fun es k e x hx => ?_
    subst e
    have h1 := h.markEnt ho hB x hx
    exact ⟨h1, by rw [← h1, h.mcE]; rfl⟩
  · obtain ⟨h1, h2⟩ := hold c B e hc hκ
    obtain ⟨c1, c2, c3, c4, c5⟩ := h.ch c B e h1 h2
    refine ⟨c1, c2, c3, c4, fun c' e' hc' hκ' => ?_⟩
    obtain ⟨h1', h2'⟩ := hold c' B e' hc' hκ'
    exact c5 c' e' h1' h2'
  · cases hx : X.mc c with
    | some m => rw [(hk c m hx).1] at hc; cases hc
    | none =>
      have := h.κd c hx
      cases c with
      | v k =>
        simp only [Cx.chains]
        by_cases hlt : k < st.ch.length
        · rw [if_pos hlt]; exact this
        · rw [if_neg hlt]
      | e b born => exact this

theorem AVR.newChain {D : Bs} {X : Cx} {st : St} (_h : SR D X st) (l : List Nat) (k : Nat) (hk : l[k]? = some 0) :
    AVR (X.chains st l) (.slice none 0 0) (.g (.v (st.ch.length + k)) 0 []) := by
  refine .g (m := 0) .sl0 ?_ (Nat.le_refl _) fun _ => .inl ⟨?_, rfl, rfl, rfl⟩
  · simp only [Cx.chains, mark]
    rw [List.getElem?_append_right (by omega)]
    simpa using hk
  · simp only [Cx.chains]
    rw [if_neg (by omega)]

theorem mark_push {st : St} (o : Obj) (ho : ∀ es k, o = .map es k → es = []) : mark (push st o) = mark st := by
  funext c
  cases c with
  | v k => rfl
  | e b born =>
    simp only [mark, push]
    rcases Nat.lt_trichotomy b st.h.length with hb | hb | hb
    · rw [List.getElem?_append_left hb]
    · subst hb
      rw [List.getElem?_concat_length, List.getElem?_eq_none (Nat.le_refl _)]
      cases o with
      | map es k => obtain rfl := ho es k rfl; rfl
      | _ => rfl
    · rw [List.getElem?_eq_none (by simp; omega), List.getElem?_eq_none (by omega)]

/-- a new block, known to the state under the next number -/
def Cx.alloc (X : Cx) (n : Nat) (o : Go.Obj) : Cx :=
  { X with ρ := fun b => if b = n then some X.w.heap.size else X.ρ b, w := X.w.alloc o }

theorem heap_alloc_lt {w : World} {o : Go.Obj} {k : Nat} (h : k < w.heap.size) : (w.alloc o).heap[k]? = w.heap[k]? := Below.heap_alloc w o k h
theorem heap_alloc_eq {w : World} {o : Go.Obj} : (w.alloc o).heap[w.heap.size]? = some o := by
  show (w.heap.push o)[w.heap.size]? = some o
  simp

theorem SR.leAlloc {D : Bs} {X : Cx} {st : St} (h : SR D X st) (o : Go.Obj) : X.Le (X.alloc st.h.length o) := by
  refine ⟨fun b B hb => ?_, fun B j hj => ⟨hj, cell_of_heap (heap_alloc_lt (h.imlt B j hj))⟩, fun c m hm => ⟨m, hm, .inr ⟨rfl, rfl, fun B e C ty hk hh => ⟨C, ?_, rfl⟩⟩⟩, fun b B hb => ?_, rfl⟩
  rotate_left
  rotate_left
  · simp only [Cx.alloc] at hb
    by_cases hn : b = st.h.length
    · exact .inr (by rw [hn]; exact h.nE)
    · rw [if_neg hn] at hb; exact .inl hb
  · have := (h.dom b B hb).1
    simp only [Cx.alloc]
    rw [if_neg (by omega)]; exact hb
  · have := (h.ch c B e (by simp [hm]) hk).2.1
    exact (heap_alloc_lt this).trans hh

theorem SR.alloc {D : Bs} {X : Cx} {st : St} (h : SR D X st) {o : Go.Obj} {a : Obj} (ho : ∀ es k, a = .map es k → es = [])
    (hr : ObjR (X.alloc st.h.length o) st.h.length X.w.heap.size a) : SR D (X.alloc st.h.length o) (push st a) := by
  have hle := h.leAlloc o
  refine ⟨Nat.le_trans h.nE (by simp [push]), by rw [mark_push a ho]; exact h.mcE, fun b x B hx hB => ?_, fun b B hB => ?_, fun b c B hb hc => ?_, fun b B j hB => ?_, fun B j hj => ?_, h.im0, fun c B e hc hκ => ?_, ?_, fun k hk => ?_, h.κd⟩
  · simp only [push] at hx
    simp only [Cx.alloc] at hB
    by_cases hb : b = st.h.length
    · subst hb
      rw [List.getElem?_concat_length] at hx
      rw [if_pos rfl] at hB
      obtain rfl := Option.some.inj hx
      obtain rfl := Option.some.inj hB
      exact hr
    · rw [if_neg hb] at hB
      have hd := h.dom b B hB
      rw [List.getElem?_append_left hd.1] at hx
      refine (h.obj b x B hx hB).mono hle (heap_alloc_lt hd.2.2) fun es k e y hy => ?_
      subst e
      have h1 := h.markEnt hx hB y hy
      exact ⟨h1, h1⟩
  · simp only [Cx.alloc] at hB ⊢
    simp only [push, List.length_append, List.length_singleton, World.size_alloc]
    by_cases hb : b = st.h.length
    · rw [if_pos hb] at hB
      obtain rfl := Option.some.inj hB
      exact ⟨by omega, fun _ hz => by have := h.base _ hz; omega, by omega⟩
    · rw [if_neg hb] at hB
      have hd := h.dom b B hB
      exact ⟨by omega, hd.2.1, by omega⟩
  · simp only [Cx.alloc] at hb hc
    by_cases hb' : b = st.h.length <;> by_cases hc' : c = st.h.length
    · omega
    · rw [if_pos hb'] at hb; rw [if_neg hc'] at hc
      obtain rfl := Option.some.inj hb
      have := (h.dom c _ hc).2.2
      omega
    · rw [if_neg hb'] at hb; rw [if_pos hc'] at hc
      obtain rfl := Option.some.inj hc
      have := (h.dom b _ hb).2.2
      omega
    · rw [if_neg hb'] at hb; rw [if_neg hc'] at hc
      exact h.inj b c B hb hc
  · simp only [Cx.alloc] at hB
    by_cases hb : b = st.h.length
    · rw [if_pos hb] at hB
      obtain rfl := Option.some.inj hB
      intro hj
      have := h.imlt _ j hj
      omega
    · rw [if_neg hb] at hB
      exact h.loc b B j hB
  · have := h.imlt B j hj
    simp only [Cx.alloc, World.size_alloc]; omega
  · obtain ⟨c1, c2, c3, c4, c5⟩ := h.ch c B e hc hκ
    refine ⟨c1, by simp only [Cx.alloc, World.size_alloc]; omega, c3, fun b => ?_, c5⟩
    simp only [Cx.alloc]
    by_cases hb : b = st.h.length
    · rw [if_pos hb]; intro e'; obtain rfl := Option.some.inj e'; omega
    · rw [if_neg hb]; exact c4 b
  · exact h.below.alloc h.base _
  · have := h.base k hk
    simp only [Cx.alloc, World.size_alloc]; omega

theorem Cx.alloc_new (X : Cx) (n : Nat) (o : Go.Obj) : (X.alloc n o).ρ n = some X.w.heap.size := by simp [Cx.alloc]

/-- one object is written: block b of the state, block B of the world -/
theorem SR.leSet {D : Bs} {X : Cx} {st : St} (h : SR D X st) {b B : Nat} (hB : X.ρ b = some B) {w' : World}
    (hw : ∀ k, k ≠ B → w'.heap[k]? = X.w.heap[k]?) {mc' : Ch → Option Nat} (hm : ∀ c m, X.mc c = some m → ∃ m', mc' c = some m' ∧ m ≤ m') :
    X.Le { X with w := w', mc := mc' } := by
  refine ⟨fun _ _ e => e, fun B' j hj => ⟨hj, cell_of_heap (hw B' fun e => h.loc b B j hB (e ▸ hj))⟩, fun c m hc => ?_, fun _ _ e => .inl e, rfl⟩
  obtain ⟨m', h1, h2⟩ := hm c m hc
  refine ⟨m', h1, ?_⟩
  rcases Nat.lt_or_ge m m' with q | q
  · exact .inl q
  · refine .inr ⟨by omega, rfl, fun B' e C ty hk hh => ⟨C, ?_, rfl⟩⟩
    have := (h.ch c B' e (by simp [hc]) hk).2.2.2.1 b
    exact (hw B' fun e => this (e ▸ hB)).trans hh

theorem SR.set {D : Bs} {X : Cx} {st : St} (h : SR D X st) {b B : Nat} (hfl : st.fl ≤ b) (hB : X.ρ b = some B) {w' : World} {a : Obj}
    (hw : ∀ k, k ≠ B → w'.heap[k]? = X.w.heap[k]?) (hs : w'.heap.size = X.w.heap.size) (hos : w'.os = X.w.os) (htape : w'.tape = X.w.tape) (hout : w'.output = X.w.output)
    (hm : ∀ c m, X.mc c = some m → ∃ m', mark (setH st b a) c = some m' ∧ m ≤ m')
    (hr : ObjR { X with w := w', mc := mark (setH st b a) } b B a) : SR D { X with w := w', mc := mark (setH st b a) } (setH st b a) := by
  have hle := h.leSet (mc' := mark (setH st b a)) hB hw hm
  have hd0 := h.dom b B hB
  have hne : ∀ c, c ≠ b → ∀ born, mark (setH st b a) (.e c born) = mark st (.e c born) := by
    intro c hc born
    simp only [mark, setH, List.getElem?_set_ne (Ne.symm hc)]
  have hold : ∀ c B e, mark (setH st b a) c ≠ none → X.κ c = some (B, e) → X.mc c ≠ none := by
    intro c B e hc hκ hn
    rw [h.κd c hn] at hκ
    cases hκ
  refine ⟨Nat.le_trans h.nE (by simp [setH]), rfl, fun c x C hx hC => ?_, fun c C hC => ?_, h.inj, h.loc, fun B' j hj => by show B' < w'.heap.size; rw [hs]; exact h.imlt B' j hj, h.im0, fun c B' e hc hκ => ?_, ?_, fun k hk => by show k < w'.heap.size; rw [hs]; exact h.base k hk, fun c hc => ?_⟩
  · simp only [setH] at hx
    by_cases hc : c = b
    · subst hc
      obtain rfl : B = C := Option.some.inj (hB.symm.trans hC)
      rw [List.getElem?_set_self hd0.1] at hx
      obtain rfl := Option.some.inj hx
      exact hr
    · rw [List.getElem?_set_ne (Ne.symm hc)] at hx
      have hCB : C ≠ B := fun e => hc (h.inj c b B (e ▸ hC) hB)
      refine (h.obj c x C hx hC).mono hle (hw C hCB) fun es k e y hy => ?_
      subst e
      have h1 := h.markEnt hx hC y hy
      exact ⟨h1, by rw [← h1, h.mcE]; exact hne c hc _⟩
  · have hd := h.dom c C hC
    exact ⟨by simpa [setH] using hd.1, hd.2.1, by show C < w'.heap.size; rw [hs]; exact hd.2.2⟩
  · obtain ⟨c1, c2, c3, c4, c5⟩ := h.ch c B' e (hold c B' e hc hκ) hκ
    exact ⟨c1, by show B' < w'.heap.size; rw [hs]; exact c2, c3, c4, fun c' e' hc' hκ' => c5 c' e' (hold c' B' e' hc' hκ') hκ'⟩
  · refine h.below.trans ⟨hos, htape, hout, by rw [hs]; exact Nat.le_refl _, fun k hk => hw k fun e => hd0.2.1 hfl (e ▸ hk)⟩
  · cases hx : X.mc c with
    | none => exact h.κd c hx
    | some m =>
      obtain ⟨m', h1, _⟩ := hm c m hx
      have hc' : mark (setH st b a) c = none := hc
      rw [h1] at hc'; cases hc'

end Go.TM
