/- The engine, part X9: what lives on; steps put together. -/
import Derived.Test.YtebjldkkdapbeaaGreatDoorEngX8
namespace Go.Proofs.YtebjldkkdapbeaaGreatDoor.Eng
open Go

section
variable {P : Program} {η : Env} {M : Mem} {w : World}

/-- A step. -/
structure Go2 (M : Mem) (η : Env) (w : World) (M' : Mem) (η' : Env) (w' : World) (L : List Nat) : Prop where
  ext : Env.ext η η'
  gs : GoodS M' η'
  goes : Goes (M.heap η) w (M'.heap η') w'
  kept : Kept w w' (ownsK (M.heap η) L)
  st : St M M' L

theorem Go2.good {M' : Mem} {η' : Env} {w' : World} {L : List Nat} (h : Go2 M η w M' η' w' L) : Good M' η' w' := ⟨h.gs, h.goes.ok⟩
theorem Go2.refl (hg : Good M η w) (L : List Nat) : Go2 M η w M η w L := ⟨.refl _, hg.s, Goes.refl hg.ok, Kept.refl _ _, .refl _ _⟩

theorem ent_owns (hg : GoodS M η) {k : Nat} {e : Ent} (he : (M.heap η)[k]? = some e) {x : Addr} (hx : e.owns x) : k < M.next ∧ Alive M k ∧ ∃ b, η[k]? = some b ∧ ∃ i, i < b.2 ∧ x = adr b.1 i := by
  rw [Mem.heap_get] at he
  split at he
  · rename_i hlt
    simp only [Option.some.injEq] at he
    subst he
    unfold Mem.entAt at hx
    split at hx
    · rename_i B b hB hb
      rcases Nat.eq_zero_or_pos B.cells.length with h0 | h0
      · rw [Blk.ent_nil (by simpa using h0)] at hx
        obtain ⟨_, i, hi, _⟩ := hx
        simp [Ent.size] at hi
      · refine ⟨hlt, by unfold Alive Mem.size; rw [hB]; exact h0, b, hb, ?_⟩
        rw [Blk.ent_some h0] at hx
        obtain ⟨_, i, hi, hx⟩ := hx
        have := (hg.tot k B b hB hb).1
        exact ⟨i, by simp [Ent.size] at hi; omega, hx⟩
    · obtain ⟨_, i, hi, _⟩ := hx
      simp [Ent.size] at hi
  · cases he
theorem alive_owns (hg : GoodS M η) {k : Nat} (ha : Alive M k) {b : Base × Nat} (hb : η[k]? = some b) {i : Nat} (hi : i < b.2) : ∃ e, (M.heap η)[k]? = some e ∧ e.owns (adr b.1 i) := by
  unfold Alive Mem.size at ha
  cases hB : M.tr.get k with
  | none => rw [hB] at ha; simp at ha
  | some B =>
    rw [hB] at ha
    obtain ⟨b', hb', hent, h1, _⟩ := hg.get hB
    rw [hb] at hb'; cases hb'
    refine ⟨_, hent, ?_⟩
    rw [Blk.ent_some ha]
    exact ⟨rfl, i, by simp [Ent.size]; omega, rfl⟩

theorem Go2.trans {M1 M2 : Mem} {η1 η2 : Env} {w1 w2 : World} {L1 ws L2 : List Nat} (hg : GoodS M η) (h : Go2 M η w M1 η1 w1 L1) (g : Go2 M1 η1 w1 M2 η2 w2 ws) (h1 : ∀ k ∈ L1, k ∈ L2) (h2 : ∀ k ∈ ws, k < M.next → k ∈ L2) : Go2 M η w M2 η2 w2 L2 := by
  refine ⟨h.ext.trans g.ext, g.gs, h.goes.trans g.goes, ?_, h.st.trans g.st h1 h2⟩
  have hk1 : Kept w w1 (ownsK (M.heap η) L2) := (Kept.refl w _).trans h.kept fun x _ hx => by
    obtain ⟨k, hk, e, he, ho⟩ := hx
    exact ⟨k, h1 k hk, e, he, ho⟩
  refine hk1.trans g.kept fun x hx hox => ?_
  obtain ⟨k, hk, e, he, ho⟩ := hox
  have h3 := h.goes.own x hx ⟨e, List.mem_of_getElem? he, ho⟩
  obtain ⟨e2, he2, ho2⟩ := h3
  obtain ⟨k2, hk2⟩ := List.mem_iff_getElem?.1 he2
  obtain ⟨hlt, hal, b, hb, i, hi, rfl⟩ := ent_owns hg hk2 ho2
  by_cases hm : k2 ∈ L1
  · exact ⟨k2, h1 k2 hm, e2, hk2, ho2⟩
  · have hal1 := h.st.keep k2 hlt hm hal
    obtain ⟨e3, he3, ho3⟩ := alive_owns h.gs hal1 (h.ext k2 b hb) hi
    have hkk : k2 = k := by
      apply Classical.byContradiction
      intro hne
      exact h.goes.ok.apart k2 k e3 e hne he3 he _ ho3 ho.has
    subst hkk
    exact ⟨k2, h2 k2 hk hlt, e2, hk2, ho2⟩
end
end Go.Proofs.YtebjldkkdapbeaaGreatDoor.Eng
