/- The engine, part H: all of them. -/
import Derived.Test.YtebjldkkdapbeaaGreatDoorEngG
namespace Go.Proofs.YtebjldkkdapbeaaGreatDoor.Eng
open Go

theorem arrAlloc_sound {H : Heap} {w : World} (hok : Ok H w) {sz n cap : Nat} (hsz : 0 < sz) (hnc : n ≤ cap) {row : Nat → List SV} {vs : List Value} (hl : cap * sz ≤ vs.length)
    (hrow : ∀ i, i < n → (row i).length = sz) (hr : ∀ i j x, i < n → (row i)[j]? = some x → ∃ v, vs[i * sz + j]? = some v ∧ Rep x v) (h1 : ∀ u ∈ vs, One u) (t : TypeId) :
    Goes H w (H ++ [.arr (w.heap.size, 0) false sz n cap row]) (w.alloc (.cells vs.toArray t)) ∧ Kept w (w.alloc (.cells vs.toArray t)) (ownsK H []) := by
  refine ⟨hok.alloc vs.toArray t (.arr (w.heap.size, 0) false sz n cap row) rfl ⟨hnc, hrow⟩ (by simpa [Ent.size] using hl) fun i hi => ?_, Kept.alloc _⟩
  simp only [Ent.size] at hi
  have hlt : i < vs.length := by omega
  refine ⟨vs[i], by simp [hlt], ?_, h1 _ (List.getElem_mem hlt)⟩
  simp only [Ent.cell]
  split
  · rename_i hin
    have hd : i / sz < n := Nat.div_lt_of_lt_mul (by rw [Nat.mul_comm]; exact hin)
    have hm : i % sz < (row (i / sz)).length := by rw [hrow _ hd]; exact Nat.mod_lt _ hsz
    obtain ⟨v, hv, hrv⟩ := hr (i / sz) (i % sz) _ hd (List.getElem?_eq_getElem hm)
    rw [Nat.mul_comm, Nat.div_add_mod, List.getElem?_eq_getElem hlt] at hv
    cases hv
    rw [List.getD_eq_getElem?_getD, List.getElem?_eq_getElem hm]
    exact hrv
  · trivial

theorem rowsOf_length (z : List SV) : ∀ n, (rowsOf z n).length = n
  | 0 => rfl
  | n + 1 => by simp [rowsOf, rowsOf_length z n]
theorem rowsOf_get (z : List SV) : ∀ (n i : Nat), i < n → (rowsOf z n)[i]? = some z
  | n + 1, 0, _ => by simp [rowsOf]
  | n + 1, i + 1, h => by simpa [rowsOf] using rowsOf_get z n i (by omega)

/-- The cells cs hold the rows. -/
def Holds (sz : Nat) (rows : List (List SV)) (cs : Array Value) : Prop :=
  cs.size = rows.length * sz ∧ (∀ (i : Nat) (r : List SV), rows[i]? = some r → r.length = sz ∧ ∀ (j : Nat) (x : SV), r[j]? = some x → ∃ v, cs[i * sz + j]? = some v ∧ Rep x v) ∧ ∀ u ∈ cs.toList, One u

theorem foldl_set (cs : List Value) : ∀ (off k : Nat) (acc : Array Value), ((cs.zipIdx k).foldl (fun a (x : Value × Nat) => a.setIfInBounds (off + x.2) x.1) acc).size = acc.size ∧
    ∀ i, ((cs.zipIdx k).foldl (fun a (x : Value × Nat) => a.setIfInBounds (off + x.2) x.1) acc)[i]? = if off + k ≤ i ∧ i < off + k + cs.length ∧ i < acc.size then cs[i - (off + k)]? else acc[i]? := by
  induction cs with
  | nil => intro off k acc; simp; intro i h1 h2; omega
  | cons c cs ih =>
    intro off k acc
    simp only [List.zipIdx_cons, List.foldl_cons]
    obtain ⟨h1, h2⟩ := ih off (k + 1) (acc.setIfInBounds (off + k) c)
    refine ⟨by rw [h1]; simp, fun i => ?_⟩
    rw [h2 i, Array.size_setIfInBounds]
    by_cases hi : i = off + k
    · subst hi
      rw [if_neg (by omega)]
      by_cases hs : off + k < acc.size
      · rw [if_pos (by simp; omega)]; simp [hs]
      · rw [if_neg (by omega)]; simp [hs]
    · rw [Array.getElem?_setIfInBounds_ne (by omega)]
      by_cases hc : off + (k + 1) ≤ i ∧ i < off + (k + 1) + cs.length ∧ i < acc.size
      · rw [if_pos hc, if_pos (by simp only [List.length_cons]; omega)]
        rw [show i - (off + k) = (i - (off + (k + 1))) + 1 from by omega]
        simp
      · rw [if_neg hc, if_neg (by simp only [List.length_cons]; omega)]

theorem Holds.put {sz : Nat} {rows : List (List SV)} {cs : Array Value} (h : Holds sz rows cs) {i : Nat} (hi : i < rows.length) {x : SV} {v : Value} (hx : Rep x v) (hl : (cellsOf x).length = sz) (ho : allOne (cellsOf x) = true) :
    v.cells.size = sz ∧ i * sz + v.cells.size ≤ cs.size ∧ Holds sz (rows.set i (cellsOf x)) (v.cells.zipIdx.foldl (fun a (x : Value × Nat) => a.setIfInBounds (i * sz + x.2) x.1) cs) := by
  obtain ⟨h1, h2, h3⟩ := h
  obtain ⟨hr, hone⟩ := cellsOf_rep hx ho
  have hvl : v.cells.size = sz := by have := hr.length; simpa [hl] using this
  have hmul : i * sz + sz ≤ rows.length * sz := by have := Nat.mul_le_mul_right sz (show i + 1 ≤ rows.length by omega); rw [Nat.add_mul] at this; omega
  obtain ⟨g1, g2⟩ := foldl_set v.cells.toList (i * sz) 0 cs
  have hfold : v.cells.zipIdx.foldl (fun a (x : Value × Nat) => a.setIfInBounds (i * sz + x.2) x.1) cs = (v.cells.toList.zipIdx 0).foldl (fun a (x : Value × Nat) => a.setIfInBounds (i * sz + x.2) x.1) cs := by
    rw [← Array.foldl_toList]; simp
  rw [hfold]
  simp only [Nat.add_zero] at g2
  have hvll : v.cells.toList.length = sz := by simpa using hvl
  refine ⟨hvl, by omega, by rw [g1, List.length_set]; exact h1, fun q r hq => ?_, fun u hu => ?_⟩
  · by_cases hqi : q = i
    · subst hqi
      rw [List.getElem?_set_self hi] at hq
      cases hq
      refine ⟨hl, fun j x hj => ?_⟩
      obtain ⟨y, hy, hry⟩ := hr.get j x hj
      have hjl : j < sz := by have := (List.getElem?_eq_some_iff.1 hy).1; omega
      refine ⟨y, ?_, hry⟩
      rw [g2, if_pos (by omega), show q * sz + j - q * sz = j from by omega]
      exact hy
    · rw [List.getElem?_set_ne (Ne.symm hqi)] at hq
      obtain ⟨k1, k2⟩ := h2 q r hq
      refine ⟨k1, fun j x hj => ?_⟩
      obtain ⟨y, hy, hry⟩ := k2 j x hj
      have hjl : j < sz := by have := (List.getElem?_eq_some_iff.1 hj).1; omega
      refine ⟨y, ?_, hry⟩
      rw [g2, if_neg]
      · exact hy
      · intro hc
        rcases Nat.lt_or_gt_of_ne hqi with hlt | hgt
        · have := Nat.mul_le_mul_right sz (show q + 1 ≤ i by omega); rw [Nat.add_mul] at this; omega
        · have := Nat.mul_le_mul_right sz (show i + 1 ≤ q by omega); rw [Nat.add_mul] at this; omega
  · obtain ⟨q, hq⟩ := List.mem_iff_getElem?.1 hu
    rw [Array.getElem?_toList, g2] at hq
    split at hq
    · exact hone u (List.mem_of_getElem? hq)
    · exact h3 u (by rw [← Array.getElem?_toList] at hq; exact List.mem_of_getElem? hq)

theorem fill_sound {ts : Tm} {a : Act} (ht : TmOk ts a) {sz : Nat} {K : List (List SV) → Prop} : ∀ (parts : List (Nat × Operand)) (os : List (Nat × O)) (rows : List (List SV)) (cs : Array Value), compParts parts = some os → Holds sz rows cs → partsV ts sz os rows K →
    ∃ rows' cs', Instr.fill (fun i => some (i * sz, sz)) cs (parts.map fun (i, x) => (i, a.eval x)) = some cs' ∧ Holds sz rows' cs' ∧ rows'.length = rows.length ∧ K rows'
  | [], os, rows, cs, hc, hh, h => by simp [compParts] at hc; subst hc; exact ⟨rows, cs, rfl, hh, rfl, h⟩
  | (i, x) :: l, os, rows, cs, hc, hh, h => by
    simp only [compParts] at hc
    split at hc
    · rename_i o os' h1 h2
      cases hc
      obtain ⟨q1, q2, q3, q4⟩ := h
      obtain ⟨r1, r2, r3⟩ := hh.put q3 (O.rep h1 ht) q1 q2
      obtain ⟨rows', cs', s1, s2, s3, s4⟩ := fill_sound ht l os' _ _ h2 r3 q4
      refine ⟨rows', cs', ?_, s2, by simpa using s3, s4⟩
      simp only [List.map_cons, Instr.fill]
      rw [if_neg (by simp [r1]; omega)]
      exact s1
    · cases hc

theorem zero_holds {sz n : Nat} {zero : List SV} {zc : Array Value} (hr : RepL zero zc.toList) (h1 : ∀ u ∈ zc.toList, One u) (hl : zero.length = sz) (hsz : 0 < sz) :
    Holds sz (rowsOf zero n) ((Array.range (n * sz)).map (zc[· % zc.size]!)) := by
  have hzl : zc.size = sz := by have := hr.length; simpa [hl] using this
  refine ⟨by simp [rowsOf_length], fun i r hi => ?_, fun u hu => ?_⟩
  · have hlt : i < n := by have := (List.getElem?_eq_some_iff.1 hi).1; rwa [rowsOf_length] at this
    rw [rowsOf_get zero n i hlt] at hi
    cases hi
    refine ⟨hl, fun j x hj => ?_⟩
    obtain ⟨y, hy, hry⟩ := hr.get j x hj
    have hjl : j < sz := by have := (List.getElem?_eq_some_iff.1 hj).1; omega
    have hmul : i * sz + sz ≤ n * sz := by have := Nat.mul_le_mul_right sz (show i + 1 ≤ n by omega); rw [Nat.add_mul] at this; omega
    refine ⟨y, ?_, hry⟩
    have hlt2 : i * sz + j < n * sz := by omega
    have hmod : (i * sz + j) % sz = j := by rw [Nat.add_comm, Nat.add_mul_mod_self_right, Nat.mod_eq_of_lt hjl]
    rw [Array.getElem?_toList] at hy
    simp [hlt2, hzl, hmod, getElem!_def, hy]
  · simp only [Array.toList_map, List.mem_map] at hu
    obtain ⟨q, _, rfl⟩ := hu
    have hlt : q % zc.size < zc.size := Nat.mod_lt _ (by omega)
    refine h1 _ ?_
    rw [getElem!_pos zc _ hlt]
    exact Array.getElem_mem_toList hlt

theorem run_askRoom' {P : Program} (n : Nat) (w : World) : (askRoom n).run P w = .ok () w := run_askRoom (P := P) (w := w) n
end Go.Proofs.YtebjldkkdapbeaaGreatDoor.Eng
