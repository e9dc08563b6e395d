/- The engine, part X3: the operations that write, make memory or call, reckoned outright. -/
import Derived.Test.YtebjldkkdapbeaaGreatDoorEngX2
namespace Go.Proofs.YtebjldkkdapbeaaGreatDoor.Eng
open Go

/-! ### What is known, said otherwise -/

structure Ent.sle (e e' : Ent) : Prop where
  base : e'.size = 0 ∨ e'.base = e.base
  size : e'.size ≤ e.size
  ro : e'.size = 0 ∨ (e.ro = true → e'.ro = true)
  wf : e.wf → e'.wf
  cell : ∀ i, i < e'.size → ∀ v, Rep (e.cell i) v → Rep (e'.cell i) v

theorem Ent.sle.refl (e : Ent) : Ent.sle e e := ⟨.inr rfl, Nat.le_refl _, .inr id, id, fun _ _ _ h => h⟩
theorem Ent.sle.gone (e : Ent) : Ent.sle e .gone := ⟨.inl rfl, Nat.zero_le _, .inl rfl, fun _ => trivial, fun i hi => by simp [Ent.size] at hi⟩

theorem EntOk.sle {w : World} {e e' : Ent} (h : EntOk w e) (hl : Ent.sle e e') : EntOk w e' := by
  refine ⟨hl.wf h.wf, fun i hi => ?_, fun hro i hi => ?_⟩
  · obtain ⟨v, q1, q2, q3⟩ := h.cell i (Nat.lt_of_lt_of_le hi hl.size)
    rcases hl.base with h1 | h1
    · omega
    · exact ⟨v, by rw [h1]; exact q1, hl.cell i hi v q2, q3⟩
  · rcases hl.base with h1 | h1
    · omega
    · rw [h1]
      refine h.tidy ?_ i (Nat.lt_of_lt_of_le hi hl.size)
      rcases hl.ro with h3 | h3
      · omega
      · cases hq : e.ro with
        | false => rfl
        | true => rw [h3 hq] at hro; cases hro

theorem Ent.sle.has {e e' : Ent} (hl : Ent.sle e e') : (∀ a, e'.has a → e.has a) ∧ (∀ a, e'.owns a → e.owns a) := by
  have hh : ∀ a, e'.has a → e.has a := fun a ⟨i, hi, ha⟩ => by
    rcases hl.base with h1 | h1
    · omega
    · exact ⟨i, Nat.lt_of_lt_of_le hi hl.size, by rw [ha, h1]⟩
  refine ⟨hh, fun a ha => ⟨?_, hh a ha.has⟩⟩
  obtain ⟨hro, i, hi, _⟩ := ha
  rcases hl.ro with h3 | h3
  · omega
  · cases hq : e.ro with
    | false => rfl
    | true => rw [h3 hq] at hro; cases hro

theorem Ok.sle {H H' : Heap} {w : World} (hok : Ok H w) (hl : ∀ (k : Nat) (e' : Ent), H'[k]? = some e' → (∃ e, H[k]? = some e ∧ Ent.sle e e') ∨ e'.size = 0 ∧ e'.wf) : Goes H w H' w := by
  refine ⟨⟨fun k e he => ?_, fun k l e f hkl he hf a ha hga => ?_⟩, Kept.refl _ _, fun a _ ⟨f, hf, hfa⟩ => ?_⟩
  · rcases hl k e he with ⟨e0, h0, hle⟩ | ⟨h0, h1⟩
    · exact (hok.ent k e0 h0).sle hle
    · exact ⟨h1, fun i hi => by omega, fun _ i hi => by omega⟩
  · rcases hl k e he with ⟨e0, h0, hle⟩ | ⟨h0, _⟩
    · rcases hl l f hf with ⟨f0, g0, gle⟩ | ⟨g0, _⟩
      · exact hok.apart k l e0 f0 hkl h0 g0 a (hle.has.2 a ha) (gle.has.1 a hga)
      · obtain ⟨i, hi, _⟩ := hga; omega
    · obtain ⟨_, i, hi, _⟩ := ha; omega
  · obtain ⟨k, hk⟩ := List.mem_iff_getElem?.1 hf
    rcases hl k f hk with ⟨f0, g0, gle⟩ | ⟨g0, _⟩
    · exact ⟨f0, List.mem_of_getElem? g0, gle.has.2 a hfa⟩
    · obtain ⟨_, i, hi, _⟩ := hfa; omega

theorem lit_sle {b : Base} {l l' : List SV} (hl : l'.length ≤ l.length) (h : ∀ (i : Nat) (x y : SV), l[i]? = some x → l'[i]? = some y → ∀ v, Rep x v → Rep y v) : Ent.sle (.lit b l) (.lit b l') := by
  refine ⟨.inr rfl, hl, .inr fun h => h, fun _ => trivial, fun i hi v hr => ?_⟩
  simp only [Ent.size] at hi
  simp only [Ent.cell, List.getD_eq_getElem?_getD] at hr ⊢
  have h1 : l'[i]? = some l'[i] := List.getElem?_eq_getElem hi
  have h2 : l[i]? = some (l[i]'(by omega)) := List.getElem?_eq_getElem (by omega)
  rw [h1]; rw [h2] at hr
  exact h i _ _ h2 h1 v hr

/-- A block under more names. -/
theorem Blk.ent_ext {B : Blk} {b : Base × Nat} {η η' : Env} (h : Env.ext η η') : Ent.sle (B.ent b η) (B.ent b η') := by
  unfold Blk.ent
  split
  · exact .refl _
  · rename_i x l _
    refine lit_sle (by simp) fun i x y hx hy v hr => ?_
    rw [List.getElem?_append] at hx hy
    simp only [List.length_map] at hx hy
    split at hx
    · rename_i hi
      rw [if_pos hi] at hy
      rw [List.getElem?_map] at hx hy
      cases hq : (‹FV› :: ‹List FV›)[i]? with
      | none => rw [hq] at hx; cases hx
      | some z =>
        rw [hq] at hx hy
        simp only [Option.map_some, Option.some.injEq] at hx hy
        subst hx hy
        exact FV.sv_ext h z hr
    · rename_i hi
      rw [if_neg hi] at hy
      have := List.mem_of_getElem? hy
      simp [List.mem_replicate] at this
      rw [this.2]; trivial

/-! ### A new block, a block turned -/

def Mem.push (M : Mem) (B : Blk) : Mem := ⟨M.next + 1, Tr.set 31 M.tr M.next B⟩
def Mem.put (M : Mem) (k : Nat) (B : Blk) : Mem := ⟨M.next, Tr.set 31 M.tr k B⟩

theorem pow31 : (1000000000 : Nat) + 2 < 2 ^ 31 := by decide
theorem Mem.get_push {M : Mem} {η : Env} (hg : GoodS M η) (B : Blk) (k : Nat) : (M.push B).tr.get k = if k = M.next then some B else M.tr.get k :=
  Tr.get_set B 31 M.tr M.next k (by have := hg.small; have := pow31; omega)
theorem Mem.get_put {M : Mem} {η : Env} (hg : GoodS M η) {k : Nat} (hk : k < M.next) (B : Blk) (j : Nat) : (M.put k B).tr.get j = if j = k then some B else M.tr.get j :=
  Tr.get_set B 31 M.tr k j (by have := hg.small; have := pow31; omega)

theorem GoodS.push {M : Mem} {η : Env} (hg : GoodS M η) (hs : M.next < 1000000000) {B : Blk} {b : Base × Nat} (hl : B.cells.length ≤ b.2) (hm : B.more = false → b.2 = B.cells.length) : GoodS (M.push B) (η ++ [b]) := by
  refine ⟨by simp [Mem.push, hg.len], hs, fun k C c hk hc => ?_, fun k C hk => ?_⟩
  · rw [Mem.get_push hg] at hk
    split at hk
    · rename_i e; subst e; cases hk
      rw [← hg.len] at hc; simp at hc; subst hc; exact ⟨hl, hm⟩
    · have := hg.below k C hk
      rw [List.getElem?_append_left (by rw [hg.len]; exact this)] at hc
      exact hg.tot k C c hk hc
  · rw [Mem.get_push hg] at hk
    split at hk
    · rename_i e; subst e; simp [Mem.push]
    · have := hg.below k C hk; simp [Mem.push]; omega

/-- A new entity becomes a new block. -/
theorem GoodS.grown {M : Mem} {η : Env} (hg : GoodS M η) {e : Ent} {B : Blk} {b : Base × Nat} (he : Ent.sle e (B.ent b (η ++ [b]))) {w' : World} (hok : Ok (M.heap η ++ [e]) w') : Goes (M.heap η ++ [e]) w' ((M.push B).heap (η ++ [b])) w' := by
  refine hok.sle fun k e' hk => ?_
  rw [Mem.heap_get] at hk
  split at hk
  · rename_i hlt
    simp only [Option.some.injEq] at hk
    subst hk
    simp only [Mem.push] at hlt
    by_cases hkn : k = M.next
    · subst hkn
      refine .inl ⟨e, by rw [← Mem.heap_len M η]; simp, ?_⟩
      simp only [Mem.entAt, Mem.get_push hg, if_pos]
      rw [← hg.len]; simpa using he
    · have hlt2 : k < M.next := by omega
      refine .inl ⟨M.entAt η k, by rw [List.getElem?_append_left (by rw [Mem.heap_len]; exact hlt2), Mem.heap_get, if_pos hlt2], ?_⟩
      simp only [Mem.entAt, Mem.get_push hg, if_neg hkn]
      have hb : η[k]? = some (η[k]'(by rw [hg.len]; exact hlt2)) := List.getElem?_eq_getElem _
      rw [List.getElem?_append_left (by rw [hg.len]; exact hlt2), hb]
      cases M.tr.get k with
      | none => exact .refl _
      | some C => exact Blk.ent_ext (Env.ext_append η [b])
  · cases hk

theorem GoodS.turned {M : Mem} {η : Env} (hg : GoodS M η) {k : Nat} {B C : Blk} (hk : M.tr.get k = some B) (hl : C.cells.length = B.cells.length) (hm : C.more = B.more) : GoodS (M.put k C) η := by
  have hlt := hg.below k B hk
  refine ⟨hg.len, hg.small, fun j D d hj hd => ?_, fun j D hj => ?_⟩
  · rw [Mem.get_put hg hlt] at hj
    split at hj
    · rename_i e; subst e; cases hj; have := hg.tot _ B d hk hd; rw [hl, hm]; exact this
    · exact hg.tot j D d hj hd
  · rw [Mem.get_put hg hlt] at hj
    split at hj
    · rename_i e; subst e; exact hlt
    · exact hg.below j D hj

theorem GoodS.heap_put {M : Mem} {η : Env} (hg : GoodS M η) {k : Nat} (hk : k < M.next) {b : Base × Nat} (hb : η[k]? = some b) (C : Blk) : (M.put k C).heap η = (M.heap η).set k (C.ent b η) := by
  apply List.ext_getElem?
  intro j
  have hgp := Mem.get_put hg hk C j
  have hn : (M.put k C).next = M.next := rfl
  rw [Mem.heap_get, List.getElem?_set, Mem.heap_len, hn]
  by_cases hj : j < M.next
  · rw [if_pos hj]
    by_cases hkj : k = j
    · subst hkj
      rw [if_pos rfl, if_pos hk]
      simp only [Mem.entAt, hgp, if_true, hb]
    · rw [if_neg hkj, Mem.heap_get, if_pos hj]
      simp only [Mem.entAt, hgp, if_neg (Ne.symm hkj)]
  · rw [if_neg hj, if_neg (by omega), Mem.heap_get, if_neg hj]
def Alive (M : Mem) (k : Nat) : Prop := 0 < M.size k

/-- Which blocks live on. -/
structure St (M M' : Mem) (ws : List Nat) : Prop where
  next : M.next ≤ M'.next
  back : ∀ k, k < M.next → Alive M' k → Alive M k
  keep : ∀ k, k < M.next → k ∉ ws → Alive M k → Alive M' k

theorem St.refl (M : Mem) (ws : List Nat) : St M M ws := ⟨Nat.le_refl _, fun _ _ h => h, fun _ _ _ h => h⟩
theorem St.trans {M0 M1 M2 : Mem} {L1 ws L2 : List Nat} (h : St M0 M1 L1) (g : St M1 M2 ws) (h1 : ∀ k ∈ L1, k ∈ L2) (h2 : ∀ k ∈ ws, k < M0.next → k ∈ L2) : St M0 M2 L2 := by
  refine ⟨Nat.le_trans h.next g.next, fun k hk ha => h.back k hk (g.back k (Nat.lt_of_lt_of_le hk h.next) ha), fun k hk hn ha => ?_⟩
  exact g.keep k (Nat.lt_of_lt_of_le hk h.next) (fun hw => hn (h2 k hw hk)) (h.keep k hk (fun hw => hn (h1 k hw)) ha)

section
variable {η : Env} {M : Mem}
theorem size_push (hg : GoodS M η) (B : Blk) (k : Nat) : (M.push B).size k = if k = M.next then B.cells.length else M.size k := by
  unfold Mem.size
  rw [Mem.get_push hg]
  by_cases h : k = M.next
  · simp [h]
  · simp [h]
theorem size_put (hg : GoodS M η) {k : Nat} (hk : k < M.next) (B : Blk) (j : Nat) : (M.put k B).size j = if j = k then B.cells.length else M.size j := by
  unfold Mem.size
  rw [Mem.get_put hg hk]
  by_cases h : j = k
  · simp [h]
  · simp [h]
theorem St.push (hg : GoodS M η) (B : Blk) (ws : List Nat) : St M (M.push B) ws := by
  refine ⟨Nat.le_succ _, fun k hk ha => ?_, fun k hk _ ha => ?_⟩
  · unfold Alive at *; rw [size_push hg, if_neg (by omega)] at ha; exact ha
  · unfold Alive at *; rw [size_push hg, if_neg (by omega)]; exact ha
theorem St.put (hg : GoodS M η) {k : Nat} {B C : Blk} (hk : M.tr.get k = some B) (hl : C.cells.length = B.cells.length) (ws : List Nat) : St M (M.put k C) ws := by
  have hlt := hg.below k B hk
  have hs : M.size k = B.cells.length := by unfold Mem.size; rw [hk]
  refine ⟨Nat.le_refl _, fun j hj ha => ?_, fun j hj _ ha => ?_⟩
  · unfold Alive at *; rw [size_put hg hlt] at ha
    split at ha
    · rename_i e; subst e; omega
    · exact ha
  · unfold Alive at *; rw [size_put hg hlt]
    split
    · rename_i e; subst e; omega
    · exact ha
theorem St.kill (hg : GoodS M η) {k : Nat} (hk : k < M.next) : St M (M.put k ⟨[], true⟩) [k] := by
  refine ⟨Nat.le_refl _, fun j hj ha => ?_, fun j hj hn ha => ?_⟩
  · unfold Alive at *; rw [size_put hg hk] at ha
    split at ha
    · simp at ha
    · exact ha
  · unfold Alive at *; rw [size_put hg hk, if_neg (by simpa using hn)]; exact ha

end
end Go.Proofs.YtebjldkkdapbeaaGreatDoor.Eng
