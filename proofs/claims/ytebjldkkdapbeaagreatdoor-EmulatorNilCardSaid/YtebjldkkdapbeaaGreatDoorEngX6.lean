/- The engine, part X6: appending and copying, by the reckoning. -/
import Derived.Test.YtebjldkkdapbeaaGreatDoorEngX5
namespace Go.Proofs.YtebjldkkdapbeaaGreatDoor.Eng
open Go

theorem Ok.sleMap {H H' : Heap} {w : World} (hok : Ok H w) (σ : Nat → Nat) (hl : ∀ (k : Nat) (e' : Ent), H'[k]? = some e' → (∃ e, H[σ k]? = some e ∧ Ent.sle e e') ∨ e'.size = 0 ∧ e'.wf)
    (hinj : ∀ (k l : Nat) (e f : Ent), H'[k]? = some e → H'[l]? = some f → 0 < e.size → 0 < f.size → k ≠ l → σ k ≠ σ l) : Goes H w H' w := by
  refine ⟨⟨fun k e he => ?_, fun k l e f hkl he hf a ha hga => ?_⟩, Kept.refl _ _, fun a _ ⟨f, hf, hfa⟩ => ?_⟩
  · rcases hl k e he with ⟨e0, h0, hle⟩ | ⟨h0, h1⟩
    · exact (hok.ent _ e0 h0).sle hle
    · exact ⟨h1, fun i hi => by omega, fun _ i hi => by omega⟩
  · rcases hl k e he with ⟨e0, h0, hle⟩ | ⟨h0, _⟩
    · rcases hl l f hf with ⟨f0, g0, gle⟩ | ⟨g0, _⟩
      · have h1 : 0 < e.size := by obtain ⟨_, i, hi, _⟩ := ha; omega
        have h2 : 0 < f.size := by obtain ⟨i, hi, _⟩ := hga; omega
        exact hok.apart _ _ e0 f0 (hinj k l e f he hf h1 h2 hkl) h0 g0 a (hle.has.2 a ha) (gle.has.1 a hga)
      · obtain ⟨i, hi, _⟩ := hga; omega
    · obtain ⟨_, i, hi, _⟩ := ha; omega
  · obtain ⟨k, hk⟩ := List.mem_iff_getElem?.1 hf
    rcases hl k f hk with ⟨f0, g0, gle⟩ | ⟨g0, _⟩
    · exact ⟨f0, List.mem_of_getElem? g0, gle.has.2 a hfa⟩
    · obtain ⟨_, i, hi, _⟩ := hfa; omega

theorem Ok.rekey {H : Heap} {w : World} {k : Nat} {e : Ent} (hk : k < H.length) (hok : Ok (H.set k e) w) : Goes (H.set k e) w (H.set k .gone ++ [e]) w := by
  refine hok.sleMap (fun j => if j = H.length then k else j) (fun j e' hj => ?_) fun i j e1 e2 hi hj h1 h2 hij => ?_
  · rw [List.getElem?_append] at hj
    simp only [List.length_set] at hj
    split at hj
    · rename_i hlt
      rw [List.getElem?_set] at hj
      split at hj
      · rename_i hkj
        cases hj
        exact .inr ⟨rfl, trivial⟩
      · rename_i hkj
        refine .inl ⟨e', ?_, .refl _⟩
        rw [if_neg (by omega), List.getElem?_set_ne hkj]; exact hj
    · rename_i hge
      rw [List.getElem?_singleton] at hj
      split at hj
      · cases hj
        refine .inl ⟨e, ?_, .refl _⟩
        rw [if_pos (by omega), List.getElem?_set_self hk]
      · cases hj
  · have hne : ∀ (i : Nat) (e1 : Ent), (H.set k .gone ++ [e])[i]? = some e1 → 0 < e1.size → i ≠ k := fun i e1 hi h1 hik => by
      subst hik
      rw [List.getElem?_append_left (by simpa using hk), List.getElem?_set_self hk] at hi
      cases hi; simp [Ent.size] at h1
    have := hne i e1 hi h1
    have := hne j e2 hj h2
    split <;> split <;> omega

section
variable {P : Program} {η : Env} {M : Mem} {w : World}

theorem blk_cells (hg : Good M η w) {k : Nat} {B : Blk} {b : Base × Nat} (hk : M.tr.get k = some B) (hb : η[k]? = some b) (o n : Nat) (hn : o + n ≤ B.cells.length) :
    ∃ cs : List Value, cs.length = n ∧ (∀ j v, cs[j]? = some v → w.cell? (adr b.1 (o + j)) = some v) ∧ RepL (((B.cells.drop o).take n).map (FV.sv η)) cs ∧ ∀ u ∈ cs, One u := by
  rcases Nat.eq_zero_or_pos n with h0 | h0
  · subst h0; exact ⟨[], rfl, by simp, by simp [RepL], by simp⟩
  · obtain ⟨b', hb', hent, h1, _⟩ := hg.s.get hk
    rw [hb] at hb'; cases hb'
    rw [Blk.ent_some (by omega)] at hent
    have hok := hg.ok.ent k _ hent
    obtain ⟨cs, q1, q2, q3⟩ := Ent.cells_rep (w' := w) hok (fun _ _ => rfl) o n (by simp [Ent.size]; omega)
    refine ⟨cs, q1, q2, RepL.of_get (by simp; omega) fun i x y hx hy => ?_, fun u hu => ?_⟩
    · have hi : i < n := by have := (List.getElem?_eq_some_iff.1 hy).1; omega
      obtain ⟨v, g1, g2, _⟩ := q3 i hi
      rw [g1] at hy; cases hy
      rw [List.getElem?_map, List.getElem?_take, if_pos hi, List.getElem?_drop] at hx
      simp only [Ent.cell, List.getD_eq_getElem?_getD] at g2
      rw [List.getElem?_append_left (by simp; omega), List.getElem?_map] at g2
      cases hq : B.cells[o + i]? with
      | none => rw [hq] at hx; cases hx
      | some z => rw [hq] at hx g2; simp at hx g2; subst hx; exact g2
    · obtain ⟨j, hj⟩ := List.mem_iff_getElem?.1 hu
      have hjl : j < n := by have := (List.getElem?_eq_some_iff.1 hj).1; omega
      obtain ⟨v, g1, _, g3⟩ := q3 j hjl
      rw [hj] at g1; cases g1; exact g3

/-- What a slice is, of which it is known where it lies. -/
theorem rep_s {k sz off len : Nat} {cap : Option Nat} {v : Value} (h : Rep ((FV.s k sz off len cap).sv η) v) :
    (cap = some 0 ∧ len = 0 ∧ ∃ a, v = .slice a 0 0) ∨ (cap ≠ some 0 ∧ ∃ b, η[k]? = some b ∧ len ≤ capOf len sz off b.2 cap ∧ ∃ a, v = .slice a len (capOf len sz off b.2 cap) ∧ (0 < capOf len sz off b.2 cap → a = some (adr b.1 (off * sz)))) := by
  simp only [FV.sv] at h
  split at h
  · obtain ⟨h1, a, h2, _⟩ := h
    have : len = 0 := by omega
    subst this
    exact .inl ⟨rfl, rfl, a, h2⟩
  · rename_i hne
    split at h
    · rename_i b hb
      obtain ⟨h1, a, h2, h3, _⟩ := h
      exact .inr ⟨fun h => hne h, b, hb, h1, a, h2, h3⟩
    · exact (bad_rep h).elim

theorem takeF_drop {n o : Nat} {l r : List FV} (h : takeF n (l.drop o) = some r) (ho : n = 0 → o ≤ l.length) : r = (l.drop o).take n ∧ o + n ≤ l.length := by
  obtain ⟨h1, h2⟩ := takeF_eq h
  refine ⟨h1, ?_⟩
  rw [List.length_drop] at h2
  rcases Nat.eq_zero_or_pos n with h0 | h0
  · have := ho h0; omega
  · omega

theorem srcF_sound (hg : Good M η w) {sz : Nat} {tx e' : TypeId} (hk : P.underlying tx = some (.slice e')) {y : FV} {yv : Value} (hy : Rep (y.sv η) yv) {m : Nat} {news : List FV} (hz : 0 < sz) (h : srcF M sz y = some (m, news)) :
    ∃ vs, Src P sz tx yv m vs w ∧ (∀ u ∈ vs, One u) ∧ RepL (news.map (FV.sv η)) vs ∧ news.length = m * sz ∧ ∀ n, n ≤ m → (Builtin.firstCells sz n yv).run P w = .ok (vs.take (n * sz)).toArray w := by
  unfold srcF at h
  split at h
  · rename_i k sz' off m' cap
    split at h
    · cases h
      rcases rep_s hy with ⟨_, _, a, rfl⟩ | ⟨_, b, hb, _, a, rfl, _⟩
      · refine ⟨[], ?_, by simp, by simp [RepL], by simp, fun n hn => by
          have : n = 0 := by omega
          subst this
          cases a <;> simp [Builtin.firstCells, loadCells, loadCellsFrom]⟩
        cases a with
        | none => exact Src.ofNil w hk 0
        | some a => exact Src.ofSlice w hk a 0 0 [] (by simp) (by simp) (by simp)
      · refine ⟨[], ?_, by simp, by simp [RepL], by simp, fun n hn => by
          have : n = 0 := by omega
          subst this
          cases a <;> simp [Builtin.firstCells, loadCells, loadCellsFrom]⟩
        cases a with
        | none => exact Src.ofNil w hk _
        | some a => exact Src.ofSlice w hk a 0 _ [] (by simp) (by simp) (by simp)
    · rename_i n
      split at h
      · cases h
      · rename_i hcap
        rw [cond_eq_ite] at h
        split at h
        · rename_i hsz
          have hsz := Nat.eq_of_beq_eq_true hsz
          subst hsz
          split at h
          · rename_i B hB
            split at h
            · rename_i cs ht
              cases h
              rcases rep_s hy with ⟨h0, _⟩ | ⟨_, b, hb, hle, a, rfl, ha⟩
              · exact (hcap h0).elim
              · obtain ⟨h1, h2⟩ := takeF_drop ht (fun h0 => by
                  have := Nat.mul_pos (show 0 < n + 1 by omega) hz; omega)
                obtain ⟨vs, q1, q2, q3, q4⟩ := blk_cells hg hB hb (off * sz') ((n + 1) * sz') h2
                have ha := ha (by omega)
                subst ha
                refine ⟨vs, Src.ofSlice w hk _ (n + 1) _ vs q1 (fun j u hj => by rw [adr_add]; exact q2 j u hj) (fun u hu => (q4 u hu).oneCell), q4, by rw [h1]; exact q3, by rw [h1]; simp; omega, fun q hq => ?_⟩
                exact run_firstCells_some w sz' q _ (n + 1) _ _ (by rw [List.length_take, q1]; exact Nat.min_eq_left (Nat.mul_le_mul_right _ hq)) fun j u hj => by
                  rw [adr_add]; refine q2 j u ?_
                  rw [List.getElem?_take] at hj
                  split at hj
                  · exact hj
                  · cases hj
            · cases h
          · cases h
        · cases h
  · cases h

/-- Cells are written. -/
theorem setCells_lit {H : Heap} (hok : Ok H w) {k : Nat} {b : Base} {l : List SV} (hk : H[k]? = some (.lit b l)) {cs : List SV} {vs : List Value} (hr : RepL cs vs) (h1 : ∀ u ∈ vs, One u) {off : Nat} (hle : off + cs.length ≤ l.length) :
    Goes H w (H.set k (.lit b (splice l off cs))) (w.setCells b.1 (b.2 + off) vs) ∧ Kept w (w.setCells b.1 (b.2 + off) vs) (ownsK H [k]) ∧ (∀ j, j < vs.length → (w.cell? ⟨b.1, b.2 + off + j, none⟩).isSome = true) ∧ (∀ j, j < vs.length → w.frozen? ⟨b.1, b.2 + off + j, none⟩ = false) := by
  have hvl := hr.length
  have hent := hok.ent k _ hk
  have hcell : ∀ j, j < vs.length → (w.cell? ⟨b.1, b.2 + off + j, none⟩).isSome = true := fun j hj => by
    obtain ⟨v, h1, _⟩ := hent.cell (off + j) (by simp only [Ent.size]; omega)
    simp only [Ent.base, adr] at h1
    rw [Nat.add_assoc, h1]; rfl
  have hfree : ∀ j, j < vs.length → w.frozen? ⟨b.1, b.2 + off + j, none⟩ = false := fun j hj => by
    have h1 := hent.free rfl (off + j) (by simp only [Ent.size]; omega)
    simp only [Ent.base, adr] at h1
    rw [Nat.add_assoc]; exact h1
  obtain ⟨w', q1, q2, q3⟩ := storeCells_lit (P := default) b k (adr b off) cs vs 0 off l H w hok hk hr h1 hle (fun j => by rw [adr_add]; simp)
  have hst := run_storeCells_cells (P := default) b.1 (b.2 + off) vs 0 w (by simpa using hcell) (by simpa using hfree) (fun u hu => (h1 u hu).oneCell)
  have hadr : adr b off = ⟨b.1, b.2 + off, none⟩ := rfl
  rw [hadr, hst] at q1
  simp only [Nat.add_zero] at q1
  cases q1
  exact ⟨q2, q3, hcell, hfree⟩
end
end Go.Proofs.YtebjldkkdapbeaaGreatDoor.Eng
