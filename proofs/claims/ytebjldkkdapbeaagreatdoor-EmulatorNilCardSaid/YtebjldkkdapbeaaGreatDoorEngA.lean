/- The engine, part A: what is known of values and of memory, and the world's own steps under it. -/
import Derived.OrdersHeld
import Derived.Laws.AppendOwn
import Derived.Laws.Entries
import Derived.Laws.Cells
import Derived.Laws.Rows
import Derived.Laws.World
import Derived.Below
namespace Go.Proofs.YtebjldkkdapbeaaGreatDoor.Eng
open Go

abbrev Base := Nat × Nat

inductive SV where
  | any
  | v (x : Value)
  | int (k : IntKind) (n : Int)
  | bool (b : Bool)
  | p (k : Nat) (b : Base) (off : Nat)
  | e (k : Nat) (b : Base) (sz i j : Nat)
  | s (k : Nat) (b : Base) (sz off len cap : Nat)
  | agg (l : List SV)
  | tup (l : List SV)
  | fn (f : Nat) (l : List SV)

def adr (b : Base) (off : Nat) : Addr := ⟨b.1, b.2 + off, none⟩

mutual
def Rep : SV → Value → Prop
  | .any, _ => True
  | .v x, y => y = x
  | .int k n, y => y = .int k n
  | .bool b, y => y = .bool b
  | .p _ b off, y => y = .pointer (some (adr b off))
  | .e _ b sz i j, y => y = .pointer (some (adr b (i * sz + j)))
  | .s _ b sz off len cap, y => len ≤ cap ∧ ∃ a, y = .slice a len cap ∧ (0 < cap → a = some (adr b (off * sz))) ∧ (sz = 0 → a = none)
  | .agg l, y => ∃ cs : List Value, y = .agg cs.toArray ∧ RepL l cs
  | .tup l, y => ∃ cs : List Value, y = .tuple cs.toArray ∧ RepL l cs
  | .fn f l, y => ∃ cs : List Value, y = .func (.func f) #[] cs.toArray ∧ RepL l cs
def RepL : List SV → List Value → Prop
  | [], [] => True
  | x :: l, y :: cs => Rep x y ∧ RepL l cs
  | _, _ => False
end

theorem RepL.length : ∀ {l : List SV} {cs : List Value}, RepL l cs → cs.length = l.length
  | [], [], _ => rfl
  | _ :: l, _ :: cs, h => by simp only [RepL] at h; simp [RepL.length h.2]
  | [], _ :: _, h => by simp [RepL] at h
  | _ :: _, [], h => by simp [RepL] at h

theorem RepL.get : ∀ {l : List SV} {cs : List Value}, RepL l cs → ∀ (i : Nat) (x : SV), l[i]? = some x → ∃ y, cs[i]? = some y ∧ Rep x y
  | x :: l, y :: cs, h, 0, z, e => by simp only [RepL] at h; simp at e; subst e; exact ⟨y, by simp, h.1⟩
  | x :: l, y :: cs, h, i + 1, z, e => by simp only [RepL] at h; simp at e; simpa using RepL.get h.2 i z e
  | [], [], _, i, z, e => by simp at e
  | [], _ :: _, h, _, _, _ => by simp [RepL] at h
  | _ :: _, [], h, _, _, _ => by simp [RepL] at h

theorem RepL.of_get : ∀ {l : List SV} {cs : List Value}, cs.length = l.length → (∀ (i : Nat) (x : SV) (y : Value), l[i]? = some x → cs[i]? = some y → Rep x y) → RepL l cs
  | [], [], _, _ => by simp [RepL]
  | x :: l, y :: cs, h, g => by
    simp only [RepL]
    refine ⟨g 0 x y (by simp) (by simp), RepL.of_get (by simpa using h) fun i a b h1 h2 => g (i + 1) a b (by simpa using h1) (by simpa using h2)⟩
  | [], _ :: _, h, _ => by simp at h
  | _ :: _, [], h, _ => by simp at h

theorem RepL.append : ∀ {l m : List SV} {cs ds : List Value}, RepL l cs → RepL m ds → RepL (l ++ m) (cs ++ ds)
  | [], _, [], _, _, h => h
  | _ :: l, _, _ :: cs, _, h, g => by simp only [RepL, List.cons_append] at h ⊢; exact ⟨h.1, RepL.append h.2 g⟩
  | [], _, _ :: _, _, h, _ => by simp [RepL] at h
  | _ :: _, _, [], _, h, _ => by simp [RepL] at h

theorem RepL.drop {l : List SV} {cs : List Value} (h : RepL l cs) (n : Nat) : RepL (l.drop n) (cs.drop n) := by
  refine RepL.of_get (by simp [h.length]) fun i x y hx hy => ?_
  rw [List.getElem?_drop] at hx hy
  obtain ⟨y', hy', hr⟩ := h.get _ _ hx
  rw [hy] at hy'; cases hy'; exact hr
theorem RepL.take {l : List SV} {cs : List Value} (h : RepL l cs) (n : Nat) : RepL (l.take n) (cs.take n) := by
  refine RepL.of_get (by simp [h.length]) fun i x y hx hy => ?_
  rw [List.getElem?_take] at hx hy
  split at hx
  · rename_i hlt
    rw [if_pos hlt] at hy
    obtain ⟨y', hy', hr⟩ := h.get _ _ hx
    rw [hy] at hy'; cases hy'; exact hr
  · cases hx

/-- What can stand in one cell. -/
def One : Value → Prop
  | .agg _ | .tuple _ => False
  | _ => True
def SV.one : SV → Bool
  | .any | .agg _ | .tup _ => false
  | .v x => match x with | .agg _ | .tuple _ => false | _ => true
  | _ => true
theorem Rep.one {x : SV} {y : Value} (h : Rep x y) (ho : x.one = true) : One y := by
  cases x <;> simp only [SV.one, Rep] at ho h <;> try (cases ho; done)
  case v x => subst h; revert ho; cases y <;> simp [One]
  case int => subst h; trivial
  case bool => subst h; trivial
  case p => subst h; trivial
  case e => subst h; trivial
  case s => obtain ⟨_, a, rfl, _⟩ := h; trivial
  case fn => obtain ⟨_, rfl, _⟩ := h; trivial
theorem One.cells {y : Value} (h : One y) : y.cells = #[y] := by cases y <;> simp_all [One, Value.cells]
theorem One.oneCell {y : Value} (h : One y) : y.oneCell' = true := by cases y <;> simp_all [One, Value.oneCell']

inductive Ent where
  | lit (b : Base) (l : List SV)
  | arr (b : Base) (ro : Bool) (sz n cap : Nat) (row : Nat → List SV)
  | gone

abbrev Heap := List Ent

def Ent.base : Ent → Base
  | .lit b _ | .arr b .. => b
  | .gone => (0, 0)
def Ent.ro : Ent → Bool
  | .arr _ ro .. => ro
  | _ => false
def Ent.size : Ent → Nat
  | .lit _ l => l.length
  | .arr _ _ sz _ cap _ => cap * sz
  | .gone => 0
def Ent.wf : Ent → Prop
  | .arr _ _ sz n cap row => n ≤ cap ∧ ∀ i, i < n → (row i).length = sz
  | _ => True
def Ent.cell : Ent → Nat → SV
  | .lit _ l, i => l.getD i .any
  | .arr _ _ sz n _ row, i => if i < n * sz then (row (i / sz)).getD (i % sz) .any else .any
  | .gone, _ => .any

/-- No cell of this block is frozen (a mark behind its last cell may be there). -/
def Tidy (n : Nat) (f : Nat × Nat) : Prop := f.1 = f.2 ∨ n ≤ f.1
def tidyAt (w : World) (a : Addr) : Prop := ∀ c t f, w.heap[a.block]? = some (.cells c t f) → Tidy c.size f
theorem tidyAt.free {w : World} {a : Addr} (h : tidyAt w a) {v : Value} (hc : w.cell? a = some v) : w.frozen? a = false := by
  obtain ⟨g, o, sp⟩ := a
  unfold World.cell? at hc
  unfold World.frozen?
  dsimp only at hc ⊢
  cases hg : w.heap[g]? with
  | none => rfl
  | some ob =>
    rw [hg] at hc
    cases ob <;> try rfl
    rename_i c e f
    obtain ⟨lo, hi⟩ := f
    have ht := h c e (lo, hi) hg
    dsimp only at hc ⊢
    cases sp with
    | some s => simp at hc
    | none =>
      simp at hc
      have hlt := (Array.getElem?_eq_some_iff.1 hc).1
      rcases ht with ht | ht
      · dsimp only at ht
        subst ht
        simp
      · dsimp only at ht
        simp
        omega

structure EntOk (w : World) (e : Ent) : Prop where
  wf : e.wf
  cell : ∀ i, i < e.size → ∃ v, w.cell? (adr e.base i) = some v ∧ Rep (e.cell i) v ∧ One v
  tidy : e.ro = false → ∀ i, i < e.size → tidyAt w (adr e.base i)
theorem EntOk.free {w : World} {e : Ent} (h : EntOk w e) (hr : e.ro = false) (i : Nat) (hi : i < e.size) : w.frozen? (adr e.base i) = false := by
  obtain ⟨v, h1, _⟩ := h.cell i hi
  exact (h.tidy hr i hi).free h1

def Ent.owns (e : Ent) (a : Addr) : Prop := e.ro = false ∧ ∃ i, i < e.size ∧ a = adr e.base i
def Ent.has (e : Ent) (a : Addr) : Prop := ∃ i, i < e.size ∧ a = adr e.base i
def owns (H : Heap) (a : Addr) : Prop := ∃ e ∈ H, e.owns a

structure Ok (H : Heap) (w : World) : Prop where
  ent : ∀ (k : Nat) (e : Ent), H[k]? = some e → EntOk w e
  apart : ∀ (k l : Nat) (e f : Ent), k ≠ l → H[k]? = some e → H[l]? = some f → ∀ a, e.owns a → ¬ f.has a

/-- Nothing has turned but the cells in S; what is new lies behind. -/
structure Kept (w w' : World) (S : Addr → Prop) : Prop where
  os : w'.os = w.os
  tape : w'.tape = w.tape
  output : w'.output = w.output
  size : w.heap.size ≤ w'.heap.size
  obj : ∀ (g : Nat) (o : Obj), w.heap[g]? = some o → (∀ c e f, o ≠ .cells c e f) → w'.heap[g]? = some o
  cells : ∀ (g : Nat) (c : Array Value) (e : TypeId) (f : Nat × Nat), w.heap[g]? = some (.cells c e f) →
    ∃ (c' : Array Value) (f' : Nat × Nat), w'.heap[g]? = some (.cells c' e f') ∧ c'.size = c.size ∧ (∀ i, ¬ S ⟨g, i, none⟩ → c'[i]? = c[i]?) ∧ (f' = f ∨ (∃ i, S ⟨g, i, none⟩) ∧ Tidy c.size f ∧ Tidy c.size f')

theorem Kept.refl (w : World) (S : Addr → Prop) : Kept w w S :=
  ⟨rfl, rfl, rfl, Nat.le_refl _, fun _ _ h _ => h, fun _ c _ f h => ⟨c, f, h, rfl, fun _ _ => rfl, .inl rfl⟩⟩

theorem Kept.trans {a b c : World} {S T : Addr → Prop} (h : Kept a b S) (k : Kept b c T) (hT : ∀ x : Addr, x.block < a.heap.size → T x → S x) : Kept a c S := by
  refine ⟨k.os.trans h.os, k.tape.trans h.tape, k.output.trans h.output, Nat.le_trans h.size k.size, fun g o ho hn => k.obj g o (h.obj g o ho hn) hn, fun g cs e f ho => ?_⟩
  have hlt : g < a.heap.size := (Array.getElem?_eq_some_iff.1 ho).1
  obtain ⟨c1, f1, h1, s1, e1, m1⟩ := h.cells g cs e f ho
  obtain ⟨c2, f2, h2, s2, e2, m2⟩ := k.cells g c1 e f1 h1
  refine ⟨c2, f2, h2, s2.trans s1, fun i hi => (e2 i fun ht => hi (hT ⟨g, i, none⟩ hlt ht)).trans (e1 i hi), ?_⟩
  rw [s1] at m2
  rcases m1 with rfl | ⟨⟨i, hi⟩, t1, t1'⟩
  · rcases m2 with rfl | ⟨⟨i, hi⟩, t2, t2'⟩
    · exact .inl rfl
    · exact .inr ⟨⟨i, hT ⟨g, i, none⟩ hlt hi⟩, t2, t2'⟩
  · rcases m2 with rfl | ⟨_, _, t2'⟩
    · exact .inr ⟨⟨i, hi⟩, t1, t1'⟩
    · exact .inr ⟨⟨i, hi⟩, t1, t2'⟩

theorem Kept.cell {w w' : World} {S : Addr → Prop} (h : Kept w w' S) {a : Addr} {v : Value} (ha : ¬ S a) (hc : w.cell? a = some v) : w'.cell? a = some v := by
  obtain ⟨g, o, sp⟩ := a
  unfold World.cell? at *
  dsimp only at hc ⊢
  cases hg : w.heap[g]? with
  | none => rw [hg] at hc; cases hc
  | some ob =>
    rw [hg] at hc
    cases ob <;> try (cases hc; done)
    rename_i c e f
    obtain ⟨c', f', h1, _, h3, _⟩ := h.cells g c e f hg
    rw [h1]
    dsimp only at hc ⊢
    cases sp with
    | some s => simp at hc
    | none => simp at hc ⊢; rw [← hc]; exact h3 o ha

theorem Kept.tidy {w w' : World} {S : Addr → Prop} (h : Kept w w' S) {a : Addr} (hlt : a.block < w.heap.size) (ht : tidyAt w a) : tidyAt w' a := by
  obtain ⟨g, o, sp⟩ := a
  intro c t f hg'
  dsimp only at hlt hg'
  generalize hob : w.heap[g] = ob
  have hg : w.heap[g]? = some ob := by rw [Array.getElem?_eq_getElem hlt, hob]
  by_cases hc : ∃ c e f, ob = .cells c e f
  · obtain ⟨c0, e0, f0, rfl⟩ := hc
    obtain ⟨c', f', h1, h2, _, h4⟩ := h.cells g c0 e0 f0 hg
    rw [h1] at hg'
    cases hg'
    rw [h2]
    rcases h4 with h4 | ⟨_, _, h5⟩
    · subst h4; exact ht _ _ _ hg
    · exact h5
  · have := h.obj g ob hg fun c e f e1 => hc ⟨c, e, f, e1⟩
    rw [this] at hg'
    cases hg'
    exact absurd ⟨_, _, _, rfl⟩ hc

theorem Kept.hasCell {w w' : World} {S : Addr → Prop} (h : Kept w w' S) {a : Addr} {v : Value} (hc : w.cell? a = some v) : ∃ v', w'.cell? a = some v' := by
  obtain ⟨g, o, sp⟩ := a
  unfold World.cell? at *
  dsimp only at hc ⊢
  cases hg : w.heap[g]? with
  | none => rw [hg] at hc; cases hc
  | some ob =>
    rw [hg] at hc
    cases ob <;> try (cases hc; done)
    rename_i c e f
    obtain ⟨c', f', h1, h2, _, _⟩ := h.cells g c e f hg
    rw [h1]
    dsimp only at hc ⊢
    cases sp with
    | some s => simp at hc
    | none =>
      simp at hc ⊢
      have := (Array.getElem?_eq_some_iff.1 hc).1
      exact ⟨c'[o]'(by omega), by simp [Array.getElem?_eq_getElem (show o < c'.size by omega)]⟩

theorem Kept.drew {a w : World} {S : Addr → Prop} (h : Kept a w S) : Kept a w.drew S := ⟨h.os, h.tape, h.output, h.size, h.obj, h.cells⟩

theorem Kept.alloc {w : World} {S : Addr → Prop} (o : Obj) : Kept w (w.alloc o) S := by
  refine ⟨rfl, rfl, rfl, by simp, fun g ob h _ => ?_, fun g c e f h => ⟨c, f, ?_, rfl, fun _ _ => rfl, .inl rfl⟩⟩
  · rw [RowKit.Below.heap_alloc w o g (Array.getElem?_eq_some_iff.1 h).1]; exact h
  · rw [RowKit.Below.heap_alloc w o g (Array.getElem?_eq_some_iff.1 h).1]; exact h

theorem Kept.setCell {w : World} {S : Addr → Prop} {a : Addr} (ha : S a) (hs : a.spot = none) (v : Value) : Kept w (w.setCell a v) S := by
  refine ⟨rfl, rfl, rfl, by simp, fun g ob h hn => ?_, fun g c e f h => ?_⟩
  · simp only [World.setCell, Array.getElem?_modify]
    by_cases hg : a.block = g
    · rw [if_pos hg, h]
      cases ob <;> first | rfl | (exact absurd rfl (hn _ _ _))
    · rw [if_neg hg]; exact h
  · simp only [World.setCell, Array.getElem?_modify]
    by_cases hg : a.block = g
    · rw [if_pos hg, h]
      refine ⟨c.setIfInBounds a.off v, f, by simp [hs], by simp, fun i hi => ?_, .inl rfl⟩
      rw [Array.getElem?_setIfInBounds_ne]
      intro e
      exact hi (by obtain ⟨g', o', s'⟩ := a; dsimp only at *; subst e; subst hg; subst hs; exact ha)
    · rw [if_neg hg]; exact ⟨c, f, h, rfl, fun _ _ => rfl, .inl rfl⟩

theorem Kept.below {w w' : World} (h : Kept w w' fun _ => False) : RowKit.Below w.heap.size w w' := by
  refine ⟨h.os, h.tape, h.output, h.size, fun k hk => ?_⟩
  generalize hob : w.heap[k] = ob
  have hg : w.heap[k]? = some ob := by rw [Array.getElem?_eq_getElem hk, hob]
  rw [hg]
  cases ob with
  | cells c e f =>
    obtain ⟨c', f', h1, h2, h3, h4⟩ := h.cells k c e f hg
    rw [h1]
    have : c' = c := by
      apply Array.ext_getElem?
      intro i
      exact h3 i (fun h => h)
    have hf : f' = f := h4.resolve_right fun h => h.1.elim fun _ h => h
    rw [this, hf]
  | _ => exact h.obj k _ hg (by simp)

/-- The step from what was known of w to what is known of w'. -/
structure Goes (H : Heap) (w : World) (H' : Heap) (w' : World) : Prop where
  ok : Ok H' w'
  kept : Kept w w' (owns H)
  own : ∀ a : Addr, a.block < w.heap.size → owns H' a → owns H a

theorem Goes.refl {H : Heap} {w : World} (h : Ok H w) : Goes H w H w := ⟨h, Kept.refl _ _, fun _ _ h => h⟩
theorem Goes.trans {H H' H'' : Heap} {w w' w'' : World} (h : Goes H w H' w') (k : Goes H' w' H'' w'') : Goes H w H'' w'' :=
  ⟨k.ok, h.kept.trans k.kept h.own, fun a ha ho => h.own a ha (k.own a (Nat.lt_of_lt_of_le ha h.kept.size) ho)⟩

theorem EntOk.kept {w w' : World} {e : Ent} {S : Addr → Prop} (h : EntOk w e) (k : Kept w w' S) (hS : ∀ a, e.has a → ¬ S a) : EntOk w' e := by
  refine ⟨h.wf, fun i hi => ?_, fun hr i hi => ?_⟩
  · obtain ⟨v, h1, h2, h3⟩ := h.cell i hi
    exact ⟨v, k.cell (hS _ ⟨i, hi, rfl⟩) h1, h2, h3⟩
  · obtain ⟨v, h1, _, _⟩ := h.cell i hi
    exact k.tidy (World.block_lt_of_cell? w _ h1) (h.tidy hr i hi)

theorem Ent.owns.has {e : Ent} {a : Addr} (h : e.owns a) : e.has a := h.2

/-- A draw. -/
theorem Ok.drew {H : Heap} {w : World} (h : Ok H w) : Ok H w.drew :=
  ⟨fun k e he => ⟨(h.ent k e he).wf, (h.ent k e he).cell, (h.ent k e he).tidy⟩, h.apart⟩
theorem Goes.drew {H : Heap} {w : World} (h : Ok H w) : Goes H w H w.drew := ⟨h.drew, (Kept.refl _ _).drew, fun _ _ h => h⟩

/-- A new block. -/
theorem Ok.allocF {H : Heap} {w : World} (h : Ok H w) (c : Array Value) (t : TypeId) (mf : Nat × Nat) (hmf : Tidy c.size mf) (e : Ent) (hb : e.base = (w.heap.size, 0)) (hwf : e.wf) (hsz : e.size ≤ c.size)
    (hc : ∀ (i : Nat), i < e.size → ∃ v, c[i]? = some v ∧ Rep (e.cell i) v ∧ One v) : Goes H w (H ++ [e]) (w.alloc (.cells c t mf)) := by
  have hcell : ∀ i, (w.alloc (.cells c t mf)).cell? (adr (w.heap.size, 0) i) = c[i]? := fun i => by
    have hg : (w.heap.push (.cells c t mf))[w.heap.size]? = some (.cells c t mf) := by simp
    show (match (w.heap.push (.cells c t mf))[w.heap.size]? with
      | some (.cells cs _ _) => _
      | _ => _) = _
    rw [hg]
    simp [adr]
  have hfro : ∀ i, tidyAt (w.alloc (.cells c t mf)) (adr (w.heap.size, 0) i) := fun i c' t' f' hg => by
    have hg2 : (w.heap.push (.cells c t mf))[w.heap.size]? = some (.cells c' t' f') := hg
    simp at hg2
    obtain ⟨rfl, _, rfl⟩ := hg2
    exact hmf
  have hold : ∀ (k : Nat) (f : Ent), H[k]? = some f → ∀ a, f.has a → a.block < w.heap.size := fun k f hf a ⟨i, hi, ha⟩ => by
    obtain ⟨v, h1, _⟩ := (h.ent k f hf).cell i hi
    rw [ha]; exact World.block_lt_of_cell? w _ h1
  have hnew : ∀ a, e.has a → a.block = w.heap.size := fun a ⟨i, _, ha⟩ => by rw [ha, hb]; rfl
  refine ⟨⟨fun k f hf => ?_, fun k l f g hkl hf hg a ha hga => ?_⟩, Kept.alloc _, fun a ha ho => ?_⟩
  · rcases Nat.lt_trichotomy k H.length with hlt | heq | hgt
    · rw [List.getElem?_append_left hlt] at hf
      exact (h.ent k f hf).kept (Kept.alloc (S := fun _ => False) _) (fun _ _ h => h)
    · subst heq
      simp at hf; subst hf
      refine ⟨hwf, fun i hi => ?_, fun _ i hi => by rw [hb]; exact hfro i⟩
      obtain ⟨v, h1, h2, h3⟩ := hc i hi
      exact ⟨v, by rw [hb, hcell, h1], h2, h3⟩
    · rw [List.getElem?_append_right (by omega)] at hf
      rw [List.getElem?_singleton, if_neg (by omega)] at hf
      cases hf
  · have hk : k < H.length ∨ (k = H.length ∧ f = e) := by
      rcases Nat.lt_trichotomy k H.length with hlt | heq | hgt
      · exact .inl hlt
      · subst heq; simp at hf; exact .inr ⟨rfl, hf.symm⟩
      · rw [List.getElem?_append_right (by omega), List.getElem?_singleton, if_neg (by omega)] at hf; cases hf
    have hl : l < H.length ∨ (l = H.length ∧ g = e) := by
      rcases Nat.lt_trichotomy l H.length with hlt | heq | hgt
      · exact .inl hlt
      · subst heq; simp at hg; exact .inr ⟨rfl, hg.symm⟩
      · rw [List.getElem?_append_right (by omega), List.getElem?_singleton, if_neg (by omega)] at hg; cases hg
    rcases hk with hk | ⟨hk, rfl⟩ <;> rcases hl with hl | ⟨hl, rfl⟩
    · rw [List.getElem?_append_left hk] at hf; rw [List.getElem?_append_left hl] at hg
      exact h.apart k l f g hkl hf hg a ha hga
    · rw [List.getElem?_append_left hk] at hf
      have h1 := hold k f hf a ha.has
      have h2 := hnew a hga
      omega
    · rw [List.getElem?_append_left hl] at hg
      have h1 := hold l g hg a hga
      have h2 := hnew a ha.has
      omega
    · exact hkl (hk.trans hl.symm)
  · obtain ⟨f, hf, hfa⟩ := ho
    rcases List.mem_append.1 hf with hf | hf
    · exact ⟨f, hf, hfa⟩
    · simp at hf; subst hf
      have := hnew a hfa.has
      omega

theorem Ok.alloc {H : Heap} {w : World} (h : Ok H w) (c : Array Value) (t : TypeId) (e : Ent) (hb : e.base = (w.heap.size, 0)) (hwf : e.wf) (hsz : e.size ≤ c.size)
    (hc : ∀ (i : Nat), i < e.size → ∃ v, c[i]? = some v ∧ Rep (e.cell i) v ∧ One v) : Goes H w (H ++ [e]) (w.alloc (.cells c t)) := h.allocF c t (0, 0) (.inl rfl) e hb hwf hsz hc

/-- A block of one's own gets a mark behind its last cell. -/
theorem Ok.mark {H : Heap} {w : World} (h : Ok H w) {k : Nat} {e : Ent} (hk : H[k]? = some e) (hro : e.ro = false) (hpos : 0 < e.size) {c : Array Value} {t : TypeId} {f : Nat × Nat} (hg : w.heap[e.base.1]? = some (.cells c t f)) :
    Goes H w H (w.freeze ⟨e.base.1, c.size, none⟩ 1) ∧ ∀ S : Addr → Prop, (∃ i, S ⟨e.base.1, i, none⟩) → Kept w (w.freeze ⟨e.base.1, c.size, none⟩ 1) S := by
  have htidy : Tidy c.size f := (h.ent k e hk).tidy hro 0 hpos c t f hg
  have hcell : ∀ a, (w.freeze ⟨e.base.1, c.size, none⟩ 1).cell? a = w.cell? a := fun a => by
    unfold World.freeze World.cell?
    rw [if_neg (by decide)]
    simp only [Array.getElem?_modify]
    by_cases hb : e.base.1 = a.block
    · rw [if_pos hb]
      cases w.heap[a.block]? with
      | none => rfl
      | some o => cases o <;> rfl
    · rw [if_neg hb]
  have hkept : ∀ S : Addr → Prop, (∃ i, S ⟨e.base.1, i, none⟩) → Kept w (w.freeze ⟨e.base.1, c.size, none⟩ 1) S := fun S hS => by
    unfold World.freeze
    rw [if_neg (by decide)]
    refine ⟨rfl, rfl, rfl, by simp, fun g ob h0 hn => ?_, fun g c0 e0 f0 h0 => ?_⟩
    · simp only [Array.getElem?_modify]
      by_cases hb : e.base.1 = g
      · rw [if_pos hb, h0]
        cases ob <;> first | rfl | (exact absurd rfl (hn _ _ _))
      · rw [if_neg hb]; exact h0
    · simp only [Array.getElem?_modify]
      by_cases hb : e.base.1 = g
      · subst hb
        rw [hg] at h0
        cases h0
        rw [if_pos rfl, hg]
        obtain ⟨lo, hi⟩ := f
        refine ⟨c, _, rfl, rfl, fun _ _ => rfl, .inr ⟨hS, htidy, ?_⟩⟩
        right
        rcases htidy with ht | ht
        · dsimp only at ht; subst ht; simp
        · dsimp only at ht
          split <;> (dsimp only; omega)
      · rw [if_neg hb]; exact ⟨c0, f0, h0, rfl, fun _ _ => rfl, .inl rfl⟩
  have hown : owns H ⟨e.base.1, e.base.2 + 0, none⟩ := ⟨e, List.mem_of_getElem? hk, hro, 0, hpos, rfl⟩
  have hK := hkept (owns H) ⟨_, hown⟩
  refine ⟨⟨⟨fun l e' he => ?_, h.apart⟩, hK, fun _ _ h => h⟩, hkept⟩
  refine ⟨(h.ent l e' he).wf, fun i hi => ?_, fun hr i hi => ?_⟩
  · obtain ⟨v, h1, h2, h3⟩ := (h.ent l e' he).cell i hi
    exact ⟨v, by rw [hcell]; exact h1, h2, h3⟩
  · obtain ⟨v, h1, _⟩ := (h.ent l e' he).cell i hi
    exact hK.tidy (World.block_lt_of_cell? w _ h1) ((h.ent l e' he).tidy hr i hi)

/-- A cell of one's own is written. -/
theorem Ok.setCell {H : Heap} {w : World} (h : Ok H w) {k : Nat} {e e' : Ent} (hk : H[k]? = some e) (hro : e.ro = false) {i : Nat} (hi : i < e.size) {v : Value} (hv : One v)
    (hb : e'.base = e.base) (hr' : e'.ro = false) (hs : e'.size = e.size) (hwf : e'.wf) (hrep : Rep (e'.cell i) v) (hother : ∀ j, j < e.size → j ≠ i → e'.cell j = e.cell j ∨ e'.cell j = .any) :
    Goes H w (H.set k e') (w.setCell (adr e.base i) v) := by
  have hown : owns H (adr e.base i) := ⟨e, List.mem_of_getElem? hk, hro, i, hi, rfl⟩
  have hkl : k < H.length := (List.getElem?_eq_some_iff.1 hk).1
  have hkept : Kept w (w.setCell (adr e.base i) v) (fun a => a = adr e.base i) := Kept.setCell (S := fun a => a = adr e.base i) rfl rfl v
  have howns : ∀ a, e'.owns a → e.owns a := fun a ⟨_, j, hj, ha⟩ => ⟨hro, j, by omega, by rw [ha, hb]⟩
  have hhas : ∀ a, e'.has a → e.has a := fun a ⟨j, hj, ha⟩ => ⟨j, by omega, by rw [ha, hb]⟩
  refine ⟨⟨fun l f hf => ?_, fun l m f g hlm hf hg a ha hga => ?_⟩, Kept.setCell hown rfl v, fun a _ ho => ?_⟩
  · by_cases hlk : l = k
    · subst hlk
      rw [List.getElem?_set_self hkl] at hf
      cases hf
      refine ⟨hwf, fun j hj => ?_, fun _ j hj => ?_⟩
      · rw [hs] at hj
        obtain ⟨u, h1, h2, h3⟩ := (h.ent l e hk).cell j hj
        by_cases hji : j = i
        · subst hji
          exact ⟨v, by rw [hb]; exact World.cell?_setCell_same w _ v h1, hrep, hv⟩
        · refine ⟨u, ?_, ?_, h3⟩
          · rw [hb, World.cell?_setCell_other w _ _ v ?_]; exact h1
            intro heq; simp [adr] at heq; omega
          · rcases hother j hj hji with h4 | h4 <;> rw [h4]
            · exact h2
            · trivial
      · rw [hs] at hj
        rw [hb]
        obtain ⟨u, h1, _⟩ := (h.ent l e hk).cell j hj
        exact hkept.tidy (World.block_lt_of_cell? w _ h1) ((h.ent l e hk).tidy hro j hj)
    · rw [List.getElem?_set_ne (Ne.symm hlk)] at hf
      refine (h.ent l f hf).kept hkept fun a ha hae => ?_
      subst hae
      exact h.apart k l e f (Ne.symm hlk) hk hf _ ⟨hro, i, hi, rfl⟩ ha
  · by_cases h1 : l = k <;> by_cases h2 : m = k
    · exact hlm (h1.trans h2.symm)
    · subst h1
      rw [List.getElem?_set_self hkl] at hf; cases hf
      rw [List.getElem?_set_ne (Ne.symm h2)] at hg
      exact h.apart l m e g hlm hk hg a (howns a ha) hga
    · subst h2
      rw [List.getElem?_set_self hkl] at hg; cases hg
      rw [List.getElem?_set_ne (Ne.symm h1)] at hf
      exact h.apart l m f e hlm hf hk a ha (hhas a hga)
    · rw [List.getElem?_set_ne (Ne.symm h1)] at hf
      rw [List.getElem?_set_ne (Ne.symm h2)] at hg
      exact h.apart l m f g hlm hf hg a ha hga
  · obtain ⟨f, hf, hfa⟩ := ho
    rcases List.mem_or_eq_of_mem_set hf with hf | rfl
    · exact ⟨f, hf, hfa⟩
    · exact ⟨e, List.mem_of_getElem? hk, howns a hfa⟩

/-- What is known may be said otherwise, or forgotten. -/
theorem Ok.view {H : Heap} {w : World} (h : Ok H w) {k : Nat} {e e' : Ent} (hk : H[k]? = some e) (hb : e'.size = 0 ∨ e'.base = e.base) (hs : e'.size ≤ e.size) (hr : e.ro = true → e'.ro = true) (hwf : e'.wf)
    (hc : ∀ i, i < e'.size → ∀ v, Rep (e.cell i) v → Rep (e'.cell i) v) : Goes H w (H.set k e') w := by
  have hkl : k < H.length := (List.getElem?_eq_some_iff.1 hk).1
  have hhas : ∀ a, e'.has a → e.has a := fun a ⟨j, hj, ha⟩ => by
    rcases hb with hb | hb
    · omega
    · exact ⟨j, by omega, by rw [ha, hb]⟩
  have howns : ∀ a, e'.owns a → e.owns a := fun a ⟨h1, h2⟩ => ⟨(by
    cases hro : e.ro with
    | false => rfl
    | true => rw [hr hro] at h1; cases h1), hhas a h2⟩
  refine ⟨⟨fun l f hf => ?_, fun l m f g hlm hf hg a ha hga => ?_⟩, Kept.refl _ _, fun a _ ho => ?_⟩
  · by_cases hlk : l = k
    · subst hlk
      rw [List.getElem?_set_self hkl] at hf
      cases hf
      refine ⟨hwf, fun j hj => ?_, fun hro j hj => ?_⟩
      · obtain ⟨u, h1, h2, h3⟩ := (h.ent l e hk).cell j (by omega)
        rcases hb with hb | hb
        · omega
        · exact ⟨u, by rw [hb]; exact h1, hc j hj u h2, h3⟩
      · rcases hb with hb | hb
        · omega
        · rw [hb]
          refine (h.ent l e hk).tidy ?_ j (by omega)
          cases hro2 : e.ro with
          | false => rfl
          | true => rw [hr hro2] at hro; cases hro
    · rw [List.getElem?_set_ne (Ne.symm hlk)] at hf
      exact h.ent l f hf
  · by_cases h1 : l = k <;> by_cases h2 : m = k
    · exact hlm (h1.trans h2.symm)
    · subst h1
      rw [List.getElem?_set_self hkl] at hf; cases hf
      rw [List.getElem?_set_ne (Ne.symm h2)] at hg
      exact h.apart l m e g hlm hk hg a (howns a ha) hga
    · subst h2
      rw [List.getElem?_set_self hkl] at hg; cases hg
      rw [List.getElem?_set_ne (Ne.symm h1)] at hf
      exact h.apart l m f e hlm hf hk a ha (hhas a hga)
    · rw [List.getElem?_set_ne (Ne.symm h1)] at hf
      rw [List.getElem?_set_ne (Ne.symm h2)] at hg
      exact h.apart l m f g hlm hf hg a ha hga
  · obtain ⟨f, hf, hfa⟩ := ho
    rcases List.mem_or_eq_of_mem_set hf with hf | rfl
    · exact ⟨f, hf, hfa⟩
    · exact ⟨e, List.mem_of_getElem? hk, howns a hfa⟩

/-- The last ones may be forgotten. -/
theorem Ok.firsts {H H' : Heap} {w : World} (h : Ok H w) (hp : H' <+: H) : Goes H w H' w := by
  obtain ⟨T, rfl⟩ := hp
  have hget : ∀ (k : Nat) (e : Ent), H'[k]? = some e → (H' ++ T)[k]? = some e := fun k e he => by
    rw [List.getElem?_append_left (List.getElem?_eq_some_iff.1 he).1]; exact he
  exact ⟨⟨fun k e he => h.ent k e (hget k e he), fun k l e f hkl he hf => h.apart k l e f hkl (hget k e he) (hget l f hf)⟩, Kept.refl _ _,
    fun a _ ⟨f, hf, hfa⟩ => ⟨f, List.mem_append_left _ hf, hfa⟩⟩
end Go.Proofs.YtebjldkkdapbeaaGreatDoor.Eng
