/- The engine, part I: slices that grow, that are copied, that are made. -/
import Derived.Test.YtebjldkkdapbeaaGreatDoorEngH
import Derived.Laws.IdiomCopy
namespace Go.Proofs.YtebjldkkdapbeaaGreatDoor.Eng
open Go

theorem Ok.change {H : Heap} {w w' : World} (h : Ok H w) {k : Nat} {e e' : Ent} (hk : H[k]? = some e) (hro : e.ro = false) (hkept : Kept w w' e.owns) (hb : e'.base = e.base) (hs : e'.size = e.size) (hr' : e'.ro = false) (hok : EntOk w' e') :
    Goes H w (H.set k e') w' ∧ Kept w w' (ownsK H [k]) := by
  have hkl : k < H.length := (List.getElem?_eq_some_iff.1 hk).1
  have howns : ∀ a, e'.owns a → e.owns a := fun a ⟨_, j, hj, ha⟩ => ⟨hro, j, by omega, by rw [ha, hb]⟩
  have hhas : ∀ a, e'.has a → e.has a := fun a ⟨j, hj, ha⟩ => ⟨j, by omega, by rw [ha, hb]⟩
  have hK : Kept w w' (ownsK H [k]) := (Kept.refl w (ownsK H [k])).trans hkept fun x _ hx => ⟨k, by simp, e, hk, hx⟩
  refine ⟨⟨⟨fun l f hf => ?_, fun l m f g hlm hf hg a ha hga => ?_⟩, (Kept.refl w (owns H)).trans hK fun x _ hx => hx.owns, fun a _ ho => ?_⟩, hK⟩
  · by_cases hlk : l = k
    · subst hlk
      rw [List.getElem?_set_self hkl] at hf
      cases hf; exact hok
    · rw [List.getElem?_set_ne (Ne.symm hlk)] at hf
      exact (h.ent l f hf).kept hkept fun a ha hae => h.apart k l e f (Ne.symm hlk) hk hf a hae ha
  · by_cases h1 : l = k <;> by_cases h2 : m = k
    · exact hlm (h1.trans h2.symm)
    · subst h1
      rw [List.getElem?_set_self hkl] at hf; cases hf
      rw [List.getElem?_set_ne (Ne.symm h2)] at hg
      exact h.apart l m e g hlm hk hg a (howns a ha) hga
    · subst h2
      rw [List.getElem?_set_self hkl] at hg; cases hg
      rw [List.getElem?_set_ne (Ne.symm h1)] at hf
      exact h.apart l m f e hlm hf hk a ha (hhas a hga)
    · rw [List.getElem?_set_ne (Ne.symm h1)] at hf
      rw [List.getElem?_set_ne (Ne.symm h2)] at hg
      exact h.apart l m f g hlm hf hg a ha hga
  · obtain ⟨f, hf, hfa⟩ := ho
    rcases List.mem_or_eq_of_mem_set hf with hf | rfl
    · exact ⟨f, hf, hfa⟩
    · exact ⟨e, List.mem_of_getElem? hk, howns a hfa⟩

/-- The last one in the place of another. -/
theorem Goes.move {H : Heap} {w w' : World} {e' : Ent} (h : Goes H w (H ++ [e']) w') (k : Nat) : Goes H w (H.set k e') w' := by
  have hget : ∀ (l : Nat) (f : Ent), (H.set k e')[l]? = some f → (l = k ∧ k < H.length ∧ f = e') ∨ (l ≠ k ∧ (H ++ [e'])[l]? = some f ∧ l < H.length) := fun l f hf => by
    have hl : l < H.length := by have := (List.getElem?_eq_some_iff.1 hf).1; simpa using this
    by_cases hlk : l = k
    · subst hlk; rw [List.getElem?_set_self hl] at hf; cases hf; exact .inl ⟨rfl, hl, rfl⟩
    · rw [List.getElem?_set_ne (Ne.symm hlk)] at hf
      exact .inr ⟨hlk, by rw [List.getElem?_append_left hl]; exact hf, hl⟩
  have hlast : (H ++ [e'])[H.length]? = some e' := by simp
  refine ⟨⟨fun l f hf => ?_, fun l m f g hlm hf hg a ha hga => ?_⟩, h.kept, fun a hlt ho => ?_⟩
  · rcases hget l f hf with ⟨_, _, rfl⟩ | ⟨_, h2, _⟩
    · exact h.ok.ent _ _ hlast
    · exact h.ok.ent _ _ h2
  · rcases hget l f hf with ⟨h1, _, rfl⟩ | ⟨h1, h2, h2'⟩ <;> rcases hget m g hg with ⟨h3, _, rfl⟩ | ⟨h3, h4, h4'⟩
    · exact hlm (h1.trans h3.symm)
    · exact h.ok.apart _ m _ g (by omega) hlast h4 a ha hga
    · exact h.ok.apart l _ f _ (by omega) h2 hlast a ha hga
    · exact h.ok.apart l m f g hlm h2 h4 a ha hga
  · refine h.own a hlt ?_
    obtain ⟨f, hf, hfa⟩ := ho
    rcases List.mem_or_eq_of_mem_set hf with hf | rfl
    · exact ⟨f, by simp [hf], hfa⟩
    · exact ⟨f, by simp, hfa⟩

theorem Goes.empty {H : Heap} {w : World} (h : Ok H w) (e : Ent) (hs : e.size = 0) (hwf : e.wf) : Goes H w (H ++ [e]) w := by
  have hhas : ∀ a, ¬ e.has a := fun a ⟨i, hi, _⟩ => by omega
  have hget : ∀ (l : Nat) (f : Ent), (H ++ [e])[l]? = some f → H[l]? = some f ∨ f = e := fun l f hf => by
    rcases Nat.lt_or_ge l H.length with hlt | hge
    · rw [List.getElem?_append_left hlt] at hf; exact .inl hf
    · rw [List.getElem?_append_right hge, List.getElem?_singleton] at hf
      split at hf
      · cases hf; exact .inr rfl
      · cases hf
  refine ⟨⟨fun l f hf => ?_, fun l m f g hlm hf hg a ha hga => ?_⟩, Kept.refl _ _, fun a _ ho => ?_⟩
  · rcases hget l f hf with h1 | rfl
    · exact h.ent l f h1
    · exact ⟨hwf, fun i hi => by omega, fun _ i hi => by omega⟩
  · rcases hget l f hf with h1 | rfl
    · rcases hget m g hg with h2 | rfl
      · exact h.apart l m f g hlm h1 h2 a ha hga
      · exact hhas a hga
    · exact hhas a ha.has
  · obtain ⟨f, hf, hfa⟩ := ho
    rcases List.mem_append.1 hf with hf | hf
    · exact ⟨f, hf, hfa⟩
    · simp at hf; subst hf; exact absurd hfa.has (hhas a)

theorem kept_setCells (b : Nat) : ∀ (vs : List Value) (o : Nat) (w : World) (S : Addr → Prop), (∀ j, j < vs.length → S ⟨b, o + j, none⟩) → Kept w (w.setCells b o vs) S
  | [], _, w, _, _ => Kept.refl w _
  | v :: r, o, w, S, h => by
    rw [World.setCells]
    exact (Kept.setCell (S := S) (h 0 (by simp)) rfl v).trans (kept_setCells b r (o + 1) _ S fun j hj => by have := h (j + 1) (by simp; omega); rwa [show o + (j + 1) = o + 1 + j by omega] at this) fun _ _ h => h

structure SrcOk (P : Program) (tx : TypeId) (sz : Nat) (yv : Value) (m : Nat) (row : Nat → List SV) (news : List Value) (w : World) : Prop where
  src : Src P sz tx yv m news w
  one : ∀ u ∈ news, One u
  len : ∀ i, i < m → (row i).length = sz
  rep : ∀ i j x, i < m → (row i)[j]? = some x → ∃ v, news[i * sz + j]? = some v ∧ Rep x v

theorem srcV_sound {P : Program} {H : Heap} {w : World} (hok : Ok H w) {sz : Nat} (hsz : 0 < sz) {tx e' : TypeId} (hk : P.underlying tx = some (.slice e')) {y : SV} {yv : Value} (hy : Rep y yv) {K : Nat → Nat → (Nat → List SV) → Prop} (h : srcV H y sz K) :
    ∃ k m row news, K k m row ∧ SrcOk P tx sz yv m row news w := by
  unfold srcV at h
  split at h
  · rename_i k b sz' off m cap
    obtain ⟨hmc, ad, rfl, had, hnil⟩ := hy
    rcases Nat.eq_zero_or_pos m with rfl | hm
    · refine ⟨k, 0, _, [], h.1 rfl, ⟨?_, by simp, by omega, by omega⟩⟩
      cases ad with
      | none => exact Src.ofNil w hk cap
      | some a => exact Src.ofSlice w hk a 0 cap [] (by simp) (by simp) (by simp)
    · replace h := h.2 hm
      obtain ⟨rfl, h⟩ := h
      unfold srcO at h
      split at h
      · rename_i b' ro sz2 n cap2 row he
        obtain ⟨rfl, rfl, hle, hK⟩ := h
        have hent := hok.ent k _ he
        obtain ⟨hwf1, hwf2⟩ := hent.wf
        have hmul : off * sz2 + m * sz2 ≤ n * sz2 := by rw [← Nat.add_mul]; exact Nat.mul_le_mul_right _ hle
        have hmul2 : n * sz2 ≤ cap2 * sz2 := Nat.mul_le_mul_right _ hwf1
        obtain ⟨cs, q1, q2, q3⟩ := Ent.cells_rep (w' := w) hent (fun _ _ => rfl) (off * sz2) (m * sz2) (by simp only [Ent.size]; omega)
        rw [had (by omega)]
        have hone : ∀ u ∈ cs, One u := fun u hu => by
          obtain ⟨j, hj⟩ := List.mem_iff_getElem?.1 hu
          have hjl : j < m * sz2 := by have := (List.getElem?_eq_some_iff.1 hj).1; omega
          obtain ⟨v, g1, _, g3⟩ := q3 j hjl
          rw [hj] at g1; cases g1; exact g3
        refine ⟨k, m, _, cs, hK, ⟨Src.ofSlice w hk _ m cap cs q1 (fun j u hj => by rw [adr_add]; exact q2 j u hj) (fun u hu => (hone u hu).oneCell), hone, fun i hi => hwf2 _ (by omega), fun i j x hi hx => ?_⟩⟩
        have hj : j < sz2 := by have := (List.getElem?_eq_some_iff.1 hx).1; rw [hwf2 _ (by omega)] at this; exact this
        have hil : i * sz2 + j < m * sz2 := by have := Nat.mul_le_mul_right sz2 (show i + 1 ≤ m by omega); rw [Nat.add_mul] at this; omega
        obtain ⟨v, g1, g2, _⟩ := q3 (i * sz2 + j) hil
        refine ⟨v, g1, ?_⟩
        have hdm : (off * sz2 + (i * sz2 + j)) / sz2 = off + i ∧ (off * sz2 + (i * sz2 + j)) % sz2 = j := by
          rw [← Nat.add_assoc, ← Nat.add_mul]
          constructor
          · rw [Nat.add_comm, Nat.add_mul_div_right _ _ hsz, Nat.div_eq_of_lt hj]; omega
          · rw [Nat.add_comm, Nat.add_mul_mod_self_right, Nat.mod_eq_of_lt hj]
        simp only [Ent.cell] at g2
        rw [if_pos (by omega), hdm.1, hdm.2, List.getD_eq_getElem?_getD, hx] at g2
        exact g2
      · exact h.elim
  · exact h.elim

theorem zeroCells_one {z : Value} (h : ∀ u ∈ z.cells.toList, One u) (hz : 0 < z.cells.size) (n : Nat) : ∀ u ∈ (Builtin.zeroCells z.cells n).toList, One u := by
  intro u hu
  simp only [Builtin.zeroCells, Array.toList_map, List.mem_map] at hu
  obtain ⟨q, _, rfl⟩ := hu
  have hlt : q % z.cells.size < z.cells.size := Nat.mod_lt _ hz
  refine h _ ?_
  rw [getElem!_pos z.cells _ hlt]
  exact Array.getElem_mem_toList hlt

theorem grow_sound {P : Program} {H : Heap} {w : World} (hok : Ok H w) {t tx ty e : TypeId} {sz by_ : Nat} (hsz : 0 < sz) (ht : P.underlying t = some (.slice e)) {ti : TypeInfo} (hti : P.info? e = some ti) (hs : ti.size = sz) (hb : ti.bytes = by_) {z : Value} (hz : ti.zero = some z) (hzs : z.cells.size = sz)
    (hz1 : ∀ u ∈ z.cells.toList, One u) {base : Option Addr} {len cap : Nat} {olds : List Value} {rowx : Nat → List SV} (hol : olds.length = len * sz) (ho1 : ∀ u ∈ olds, One u) (hrx : ∀ i, i < len → (rowx i).length = sz)
    (horep : ∀ i j x, i < len → (rowx i)[j]? = some x → ∃ v, olds[i * sz + j]? = some v ∧ Rep x v) (hold : (Builtin.firstCells ti.size len (.slice base len cap)).run P w.drew = .ok olds.toArray w.drew)
    {yv : Value} {m : Nat} {rowy : Nat → List SV} {news : List Value} (hy : SrcOk P tx sz yv m rowy news w) (hg : cap < len + m) (hby : (len + m) * by_ ≤ 140737488355328) (h63 : len + m ≤ 140737488355328) :
    ∃ cap' w', len + m ≤ cap' ∧ (Builtin.append_ #[t, tx] ty #[.slice base len cap, yv]).run P w = .ok (.slice (some ⟨w.heap.size, 0, none⟩) (len + m) cap') w' ∧
      Goes H w (H ++ [.arr (w.heap.size, 0) false sz (len + m) cap' fun i => if i < len then rowx i else rowy (i - len)]) w' ∧ Kept w w' (ownsK H []) := by
  have hrun := run_append_grow_src (P := P) w t tx ty e ti z ht hti hz base len cap olds hold yv m news (by rw [hs]; exact hy.src) hg (by omega) (growslice_fits hg (by rw [hb]; exact hby))
  have hcap := grownCap_ge w (len + m) cap e
  have hnl := hy.src.newsLen
  refine ⟨_, _, hcap, hrun, ?_⟩
  have hlist : (olds ++ news).toArray ++ Builtin.zeroCells z.cells (grownCap w (len + m) cap e - (len + m)) = (olds ++ news ++ (Builtin.zeroCells z.cells (grownCap w (len + m) cap e - (len + m))).toList).toArray := by
    apply Array.ext'; simp
  rw [hlist]
  obtain ⟨g1, g2⟩ := arrAlloc_sound (H := H) (w := w.drew) hok.drew hsz hcap (row := fun i => if i < len then rowx i else rowy (i - len)) (vs := olds ++ news ++ (Builtin.zeroCells z.cells (grownCap w (len + m) cap e - (len + m))).toList)
    (by
      simp only [List.length_append, Array.length_toList, hol, hnl, size_zeroCells, hzs]
      rw [← Nat.add_mul, ← Nat.add_mul]
      exact Nat.mul_le_mul_right _ (by omega))
    (fun i hi => by
      split
      · exact hrx i (by assumption)
      · exact hy.len _ (by omega))
    (fun i j x hi hx => by
      have hjl : j < sz := by
        have := (List.getElem?_eq_some_iff.1 hx).1
        split at this
        · rw [hrx i (by assumption)] at this; exact this
        · rw [hy.len _ (by omega)] at this; exact this
      split at hx
      · rename_i hil
        obtain ⟨v, g1, g2⟩ := horep i j x hil hx
        have hlt : i * sz + j < len * sz := by have := Nat.mul_le_mul_right sz (show i + 1 ≤ len by omega); rw [Nat.add_mul] at this; omega
        exact ⟨v, by rw [List.getElem?_append_left (by simp only [List.length_append]; omega), List.getElem?_append_left (by omega)]; exact g1, g2⟩
      · rename_i hil
        obtain ⟨v, g1, g2⟩ := hy.rep (i - len) j x (by omega) hx
        have hlt : (i - len) * sz + j < m * sz := by have := Nat.mul_le_mul_right sz (show i - len + 1 ≤ m by omega); rw [Nat.add_mul] at this; omega
        have hge : len * sz ≤ i * sz := Nat.mul_le_mul_right _ (by omega)
        have hsub : (i - len) * sz = i * sz - len * sz := Nat.sub_mul _ _ _
        refine ⟨v, ?_, g2⟩
        rw [List.getElem?_append_left (by simp only [List.length_append]; omega), List.getElem?_append_right (by omega), ← g1]
        congr 1; omega)
    (fun u hu => by
      rcases List.mem_append.1 hu with hu | hu
      · rcases List.mem_append.1 hu with hu | hu
        · exact ho1 u hu
        · exact hy.one u hu
      · exact zeroCells_one hz1 (by omega) _ u hu) e
  exact ⟨(Goes.drew hok).trans g1, (Kept.refl w _).drew.trans g2 fun _ _ h => h⟩
end Go.Proofs.YtebjldkkdapbeaaGreatDoor.Eng
