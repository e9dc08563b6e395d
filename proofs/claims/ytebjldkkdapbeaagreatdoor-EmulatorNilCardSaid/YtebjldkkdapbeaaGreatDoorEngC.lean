/- The engine, part C: what only looks does what the engine says. -/
import Derived.Test.YtebjldkkdapbeaaGreatDoorEngB
namespace Go.Proofs.YtebjldkkdapbeaaGreatDoor.Eng
open Go

theorem adr_add (b : Base) (i j : Nat) : (adr b i).add j = adr b (i + j) := by
  unfold adr Addr.add
  split
  · rename_i h; simp [h]
  · simp [Nat.add_assoc]

theorem repP {k : Nat} {b : Base} {o : Nat} {v : Value} (h : Rep (.p k b o) v) : v = .pointer (some (adr b o)) := h
theorem repE {k : Nat} {b : Base} {sz i j : Nat} {v : Value} (h : Rep (.e k b sz i j) v) : v = .pointer (some (adr b (i * sz + j))) := h
theorem repI {k : IntKind} {n : Int} {v : Value} (h : Rep (.int k n) v) : v = .int k n := h
theorem repB {b : Bool} {v : Value} (h : Rep (.bool b) v) : v = .bool b := h

theorem run_loadCells_ent {P : Program} {w : World} (b : Base) (o : Nat) (cs : List Value) (h : ∀ j v, cs[j]? = some v → w.cell? (adr b (o + j)) = some v) :
    (loadCells (adr b o) cs.length).run P w = .ok cs.toArray w :=
  run_loadCells_list w (adr b o) cs fun j v hv => by rw [adr_add]; exact h j v hv

theorem run_loadVar_ent {P : Program} {w : World} {t : TypeId} {n : Nat} {ag : Bool} (hn : tySz P t = some n) (hag : tyAg P t = some ag) (h1 : (ag || n == 1) = true)
    (b : Base) (o : Nat) (cs : List Value) (hl : cs.length = n) (h : ∀ j v, cs[j]? = some v → w.cell? (adr b (o + j)) = some v) :
    (loadVar t (adr b o)).run P w = .ok (if ag then .agg cs.toArray else cs.getD 0 undef) w := by
  unfold tySz at hn
  cases hi : P.info? t with
  | none => rw [hi] at hn; simp at hn
  | some ti =>
    rw [hi] at hn; simp at hn
    have hsz : (sizeOf t).run P w = .ok n w := by simp [sizeOf, typeInfo, hi, hn]
    unfold tyAg at hag
    cases hu : P.underlying t with
    | none => rw [hu] at hag; cases hag
    | some d =>
      rw [hu] at hag
      have hA : (isAgg t).run P w = .ok ag w := by
        have hund : (underlying t).run P w = .ok d w := run_underlying hu w
        cases d <;> simp only [Option.some.injEq] at hag <;> subst hag <;> simp [isAgg, hund]
      unfold loadVar
      simp only [Sem.run_bind, hA, Result.andThen_ok]
      cases ag with
      | true =>
        simp only [if_true, Sem.run_bind, hsz, Result.andThen_ok]
        rw [← hl, run_loadCells_ent b o cs h]
        simp
      | false =>
        simp at h1
        subst h1
        match cs, hl with
        | [c], _ =>
          have := h 0 c rfl
          simp at this
          simp [this]

theorem Ent.cells_rep {w w' : World} {e : Ent} (h : EntOk w e) (hs : ∀ i, i < e.size → w'.cell? (adr e.base i) = w.cell? (adr e.base i)) (o n : Nat) (hn : o + n ≤ e.size) :
    ∃ cs : List Value, cs.length = n ∧ (∀ j v, cs[j]? = some v → w'.cell? (adr e.base (o + j)) = some v) ∧ (∀ j, j < n → ∃ v, cs[j]? = some v ∧ Rep (e.cell (o + j)) v ∧ One v) := by
  induction n with
  | zero => exact ⟨[], rfl, by simp, by simp⟩
  | succ n ih =>
    obtain ⟨cs, h1, h2, h3⟩ := ih (by omega)
    obtain ⟨v, g1, g2, g3⟩ := h.cell (o + n) (by omega)
    refine ⟨cs ++ [v], by simp [h1], fun j u hu => ?_, fun j hj => ?_⟩
    · rcases Nat.lt_trichotomy j n with hlt | heq | hgt
      · rw [List.getElem?_append_left (by omega)] at hu; exact h2 j u hu
      · subst heq
        rw [← h1] at hu
        simp at hu; subst hu
        rw [hs _ (by omega)]; exact g1
      · rw [List.getElem?_eq_none (by simp; omega)] at hu; cases hu
    · rcases Nat.lt_or_ge j n with hlt | hge
      · obtain ⟨u, q1, q2⟩ := h3 j hlt
        exact ⟨u, by rw [List.getElem?_append_left (by omega)]; exact q1, q2⟩
      · have : j = n := by omega
        subst this
        exact ⟨v, by rw [← h1]; simp, g2, g3⟩

theorem loadE_sound {P : Program} {H : Heap} {w : World} (hok : Ok H w) {k : Nat} {e : Ent} (he : H[k]? = some e) {t : TypeId} {n : Nat} {ag : Bool} (hn : tySz P t = some n) (hag : tyAg P t = some ag) (h1 : (ag || n == 1) = true)
    {x : SV} {va : Value} (hx : Rep x va) {K : SV → Prop} (h : loadE e k x n ag K) :
    ∃ v sv, Rep sv v ∧ K sv ∧ ∀ w', SameAt H [k] w w' → (Instr.loadAt t va).run P w' = .ok v w' := by
  have hent := hok.ent k e he
  unfold loadE at h
  split at h
  · rename_i kk b off b' l
    obtain ⟨rfl, hle, hK⟩ := h
    have hva := repP hx
    subst hva
    obtain ⟨cs, q1, q2, q3⟩ := Ent.cells_rep (w' := w) hent (fun _ _ => rfl) off n (by simpa [Ent.size] using hle)
    refine ⟨if ag then .agg cs.toArray else cs.getD 0 undef, _, ?_, hK, fun w' hs => ?_⟩
    · cases ag with
      | true =>
        simp only [if_true]
        refine ⟨cs, rfl, RepL.of_get (by rw [q1, List.length_take, List.length_drop]; omega) fun i sx y hsx hy => ?_⟩
        have hi : i < n := by have := (List.getElem?_eq_some_iff.1 hy).1; omega
        obtain ⟨v, g1, g2, _⟩ := q3 i hi
        rw [g1] at hy; cases hy
        rw [List.getElem?_take, if_pos hi, List.getElem?_drop] at hsx
        simpa [Ent.cell, hsx] using g2
      | false =>
        simp at h1; subst h1
        obtain ⟨v, g1, g2, _⟩ := q3 0 (by omega)
        simpa [g1, Ent.cell] using g2
    · have hsame := hs k (by simp) _ he
      exact run_loadVar_ent hn hag h1 b off cs q1 fun j v hv => by
        have hj : j < n := by have := (List.getElem?_eq_some_iff.1 hv).1; omega
        have := hsame (off + j) (by simp [Ent.size]; omega)
        simp only [Ent.base] at this
        rw [this]; exact q2 j v hv
  · rename_i kk b sz i j b' ro sz' nn cap row
    obtain ⟨rfl, rfl, hi, hj, hK⟩ := h
    have hva := repE hx
    subst hva
    obtain ⟨hwf1, hwf2⟩ := hent.wf
    have hlt : i * sz + sz ≤ nn * sz := by have := Nat.mul_le_mul_right sz (show i + 1 ≤ nn by omega); rw [Nat.add_mul] at this; omega
    have hle : nn * sz ≤ cap * sz := Nat.mul_le_mul_right sz hwf1
    have hcell : ∀ q, q < sz → (Ent.arr b ro sz nn cap row).cell (i * sz + q) = (row i).getD q .any := fun q hq => by
      have h2 : (i * sz + q) / sz = i := by
        rw [Nat.add_comm, Nat.add_mul_div_right _ _ (by omega), Nat.div_eq_of_lt hq]; omega
      have h3 : (i * sz + q) % sz = q := by rw [Nat.add_comm, Nat.add_mul_mod_self_right, Nat.mod_eq_of_lt hq]
      simp only [Ent.cell]
      rw [if_pos (by omega), h2, h3]
    obtain ⟨cs, q1, q2, q3⟩ := Ent.cells_rep (w' := w) hent (fun _ _ => rfl) (i * sz + j) n (by simp only [Ent.size]; omega)
    refine ⟨if ag then .agg cs.toArray else cs.getD 0 undef, _, ?_, hK, fun w' hs => ?_⟩
    · cases ag with
      | true =>
        simp only [if_true]
        refine ⟨cs, rfl, RepL.of_get (by rw [q1, List.length_take, List.length_drop, hwf2 i hi]; omega) fun q sx y hsx hy => ?_⟩
        have hq : q < n := by have := (List.getElem?_eq_some_iff.1 hy).1; omega
        obtain ⟨v, g1, g2, _⟩ := q3 q hq
        rw [g1] at hy; cases hy
        rw [List.getElem?_take, if_pos hq, List.getElem?_drop] at hsx
        rw [Nat.add_assoc, hcell (j + q) (by omega)] at g2
        simpa [hsx] using g2
      | false =>
        simp at h1; subst h1
        obtain ⟨v, g1, g2, _⟩ := q3 0 (by omega)
        rw [Nat.add_zero, hcell j (by omega)] at g2
        simpa [g1] using g2
    · have hsame := hs k (by simp) _ he
      exact run_loadVar_ent hn hag h1 b (i * sz + j) cs q1 fun q v hv => by
        have hj : q < n := by have := (List.getElem?_eq_some_iff.1 hv).1; omega
        have := hsame (i * sz + j + q) (by simp only [Ent.size]; omega)
        simp only [Ent.base] at this
        rw [this]; exact q2 q v hv
  · exact absurd h (by simp)

theorem loadV_sound {P : Program} {H : Heap} {w : World} (hok : Ok H w) {t : TypeId} {n : Nat} {ag : Bool} (hn : tySz P t = some n) (hag : tyAg P t = some ag) (h1 : (ag || n == 1) = true)
    {x : SV} {va : Value} (hx : Rep x va) {K : SV → Prop} (h : loadV H x n ag K) :
    ∃ v sv, Rep sv v ∧ K sv ∧ ∀ w', SameAt H (readsV x) w w' → (Instr.loadAt t va).run P w' = .ok v w' := by
  unfold loadV at h
  split at h
  · unfold loadO at h
    split at h
    · rename_i e he; exact loadE_sound hok he hn hag h1 hx h
    · exact h.elim
  · unfold loadO at h
    split at h
    · rename_i e he; exact loadE_sound hok he hn hag h1 hx h
    · exact h.elim
  · exact h.elim
end Go.Proofs.YtebjldkkdapbeaaGreatDoor.Eng
