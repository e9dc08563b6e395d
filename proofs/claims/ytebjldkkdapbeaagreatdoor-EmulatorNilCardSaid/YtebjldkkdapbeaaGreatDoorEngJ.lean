/- The engine, part J: every operation that writes, makes memory or calls. -/
import Derived.Test.YtebjldkkdapbeaaGreatDoorEngI
namespace Go.Proofs.YtebjldkkdapbeaaGreatDoor.Eng
open Go

theorem tySz_info {P : Program} {t : TypeId} {n : Nat} (h : tySz P t = some n) : ∃ ti, P.info? t = some ti ∧ ti.size = n := by
  unfold tySz at h
  cases hi : P.info? t with
  | none => rw [hi] at h; simp at h
  | some ti => rw [hi] at h; simp at h; exact ⟨ti, rfl, h⟩

theorem appendV_sound {P : Program} {H : Heap} {w : World} (hok : Ok H w) {t tx ty e e2 : TypeId} {sz by_ : Nat} (hsz : 0 < sz) (ht : P.underlying t = some (.slice e)) (htx : P.underlying tx = some (.slice e2)) (hn : tySz P e = some sz)
    {zero : List SV} (hz : zeroOf P e = some zero) (hzl : zero.length = sz) (hby : (P.info? e).map (·.bytes) = some by_) (hb0 : 0 < by_) {x y : SV} {xv yv : Value} (hx : Rep x xv) (hy : Rep y yv) {K : LK} (h : appendV H sz by_ x y K) :
    ∃ v sv H' ws w', (Builtin.append_ #[t, tx] ty #[xv, yv]).run P w = .ok v w' ∧ K sv H' ws ∧ Rep sv v ∧ Goes H w H' w' ∧ Kept w w' (ownsK H ws) := by
  obtain ⟨z, ⟨ti, hti, hzz⟩, hzr, hz1, _, _⟩ := zeroOf_sound hz
  obtain ⟨ti', hti', hts⟩ := tySz_info hn
  rw [hti] at hti'; cases hti'
  rw [hti] at hby; simp at hby
  have hzs : z.cells.size = sz := by have := hzr.length; simpa [hzl] using this
  unfold appendV at h
  split at h
  · rename_i k b sz' off len cap
    obtain ⟨hlc, ad, rfl, had, hnil⟩ := hx
    rcases Nat.eq_zero_or_pos cap with hc0 | hc0
    · replace h := h.1 hc0
      subst hc0
      have hl0 : len = 0 := by omega
      subst hl0
      obtain ⟨ky, m, rowy, news, ⟨hmb, hK⟩, hs⟩ := srcV_sound (P := P) hok hsz htx hy h
      rcases Nat.eq_zero_or_pos m with hm | hm
      · subst hm
        have hnl := hs.src.newsLen
        simp at hnl
        subst hnl
        refine ⟨.slice ad 0 0, _, _, _, w, ?_, hK (0, 0) 0 (Nat.le_refl _), ⟨Nat.le_refl _, ad, rfl, (fun h => by omega), fun h => by omega⟩, Goes.empty hok _ (by simp [Ent.size]) ⟨Nat.le_refl _, fun i hi => by omega⟩, Kept.refl _ _⟩
        have h1 := hs.src.cells
        have h2 := hs.src.len w
        rcases hs.src.kind with ⟨e', hk⟩ | hk
        · cases ad with
          | none => simp [Builtin.append_, run_underlying ht, run_underlying hk, sizeOf, typeInfo, hti, hts, h2, h1]
          | some a => simp [Builtin.append_, run_underlying ht, run_underlying hk, sizeOf, typeInfo, hti, hts, h2, h1, storeCells]
        · rw [htx] at hk; cases hk
      · have hold : (Builtin.firstCells ti.size 0 (.slice ad 0 0)).run P w.drew = .ok ([] : List Value).toArray w.drew := by
          cases ad <;> simp [Builtin.firstCells, loadCells, loadCellsFrom]
        obtain ⟨cap', w', q1, q2, q3, q4⟩ := grow_sound (ty := ty) (rowx := fun _ => []) hok hsz ht hti hts hby hzz hzs hz1 (len := 0) (cap := 0) (olds := []) (by simp) (by simp) (by omega) (by omega) hold hs (by omega) (by simpa using hmb)
          (by have := Nat.le_mul_of_pos_right m hb0; omega)
        simp only [Nat.zero_add] at q1 q2 q3
        have hrow : (fun i => if i < 0 then ([] : List SV) else rowy (i - 0)) = rowy := by funext i; simp
        rw [hrow] at q3
        exact ⟨_, _, _, _, w', q2, hK (w.heap.size, 0) cap' q1, ⟨q1, _, rfl, (fun _ => by simp [adr]), fun h => by omega⟩, q3, q4⟩
    · replace h := h.2 hc0
      obtain ⟨rfl, rfl, h⟩ := h
      unfold appendO at h
      split at h
      · rename_i b1 ro sz2 n cap2 row he
        obtain ⟨rfl, rfl, rfl, rfl, rfl, h⟩ := h
        obtain ⟨ky, m, rowy, news, ⟨hky, hmb, hK⟩, hs⟩ := srcV_sound (P := P) hok hsz htx hy h
        have hent := hok.ent k _ he
        obtain ⟨hwf1, hwf2⟩ := hent.wf
        have hadv := had (by omega)
        simp only [Nat.zero_mul] at hadv
        subst hadv
        have hmul : n * sz2 ≤ cap2 * sz2 := Nat.mul_le_mul_right _ hwf1
        by_cases hroom : n + m ≤ cap2
        · -- in place
          have hnl := hs.src.newsLen
          have hmul3 : n * sz2 + m * sz2 ≤ cap2 * sz2 := by rw [← Nat.add_mul]; exact Nat.mul_le_mul_right _ hroom
          have hcell : ∀ j, j < news.length → (w.cell? ⟨b.1, b.2 + 0 + n * ti.size + j, none⟩).isSome = true := fun j hj => by
            obtain ⟨v, h1, _⟩ := hent.cell (n * sz2 + j) (by simp only [Ent.size]; omega)
            rw [hts]
            simp only [Ent.base, adr] at h1
            rw [show b.2 + 0 + n * sz2 + j = b.2 + (n * sz2 + j) by omega, h1]; rfl
          have hfree : ∀ j, j < news.length → w.frozen? ⟨b.1, b.2 + 0 + n * ti.size + j, none⟩ = false := fun j hj => by
            have h1 := hent.free rfl (n * sz2 + j) (by simp only [Ent.size]; omega)
            rw [hts]
            simp only [Ent.base, adr] at h1
            rw [show b.2 + 0 + n * sz2 + j = b.2 + (n * sz2 + j) by omega]; exact h1
          have hrun := run_append_room_src (P := P) w t tx ty e ti ht hti b.1 (b.2 + 0) n cap2 yv m news (by rw [hts]; exact hs.src) hroom hcell hfree
          have hkept : Kept w (w.setCells b.1 (b.2 + 0 + n * ti.size) news) (Ent.arr b false sz2 n cap2 row).owns := kept_setCells b.1 news _ w _ fun j hj => ⟨rfl, n * sz2 + j, by simp only [Ent.size]; omega, by simp only [adr, Ent.base, hts]; congr 1; omega⟩
          have hin := World.cell?_setCells_in b.1 news (b.2 + 0 + n * ti.size) w hcell
          have hchg := hok.change (e' := .arr b false sz2 (n + m) cap2 fun i => if i < n then row i else rowy (i - n)) he rfl hkept rfl rfl rfl ⟨⟨hroom, fun i hi => by
              dsimp only; split
              · exact hwf2 i (by assumption)
              · exact hs.len _ (by omega)⟩, fun i hi => ?_, fun _ i hi => ?_⟩
          · refine ⟨_, _, _, _, _, hrun, hK b cap2 hroom, ⟨hroom, _, rfl, (fun _ => by simp [adr]), fun h => by omega⟩, hchg.1, hchg.2⟩
          · simp only [Ent.size] at hi
            obtain ⟨u, h1, h2, h3⟩ := hent.cell i (by simpa only [Ent.size] using hi)
            simp only [Ent.base, adr] at h1 ⊢
            by_cases hir : n * sz2 ≤ i ∧ i < n * sz2 + m * sz2
            · obtain ⟨j, rfl⟩ : ∃ j, i = n * sz2 + j := ⟨i - n * sz2, by omega⟩
              have hj : j < news.length := by omega
              have hgot := hin j hj
              rw [hts, show b.2 + 0 + n * sz2 + j = b.2 + (n * sz2 + j) by omega] at hgot
              rw [hts]
              refine ⟨news[j], hgot, ?_, hs.one _ (List.getElem_mem hj)⟩
              have hq : j / sz2 < m := Nat.div_lt_of_lt_mul (by rw [Nat.mul_comm]; omega)
              have hr : j % sz2 < (rowy (j / sz2)).length := by rw [hs.len _ hq]; exact Nat.mod_lt _ hsz
              obtain ⟨v, g1, g2⟩ := hs.rep (j / sz2) (j % sz2) _ hq (List.getElem?_eq_getElem hr)
              rw [Nat.mul_comm, Nat.div_add_mod, List.getElem?_eq_getElem hj] at g1
              cases g1
              simp only [Ent.cell]
              have hd : (n * sz2 + j) / sz2 = n + j / sz2 := by rw [Nat.add_comm, Nat.add_mul_div_right _ _ hsz, Nat.add_comm]
              have hmd : (n * sz2 + j) % sz2 = j % sz2 := by rw [Nat.add_comm, Nat.add_mul_mod_self_right]
              rw [if_pos (by rw [Nat.add_mul]; omega), hd, hmd, if_neg (Nat.not_lt.2 (Nat.le_add_right _ _)), Nat.add_sub_cancel_left, List.getD_eq_getElem?_getD, List.getElem?_eq_getElem hr]
              exact g2
            · refine ⟨u, ?_, ?_, h3⟩
              · rw [World.cell?_setCells_out b.1 news _ w _ (fun _ _ => by dsimp only; rw [hts]; omega)]; exact h1
              · simp only [Ent.cell] at h2 ⊢
                by_cases hlt : i < n * sz2
                · have hq : i / sz2 < n := Nat.div_lt_of_lt_mul (by rw [Nat.mul_comm]; exact hlt)
                  rw [if_pos hlt] at h2
                  rw [if_pos (by rw [Nat.add_mul]; omega), if_pos hq]; exact h2
                · rw [if_neg (by rw [Nat.add_mul]; omega)]; trivial
          · simp only [Ent.size] at hi
            obtain ⟨u, h1, _⟩ := hent.cell i (by simpa only [Ent.size] using hi)
            exact hkept.tidy (World.block_lt_of_cell? w _ h1) (hent.tidy rfl i (by simpa only [Ent.size] using hi))
        · -- a new row
          obtain ⟨cs, q1, q2, q3⟩ := Ent.cells_rep (w' := w) hent (fun _ _ => rfl) 0 (n * sz2) (by simp only [Ent.size]; omega)
          have hold : (Builtin.firstCells ti.size n (.slice (some (adr b 0)) n cap2)).run P w.drew = .ok cs.toArray w.drew :=
            run_firstCells_some w.drew ti.size n (adr b 0) n cap2 cs (by rw [hts]; exact q1) fun j v hv => by rw [adr_add]; exact q2 j v hv
          have hone : ∀ u ∈ cs, One u := fun u hu => by
            obtain ⟨j, hj⟩ := List.mem_iff_getElem?.1 hu
            have hjl : j < n * sz2 := by have := (List.getElem?_eq_some_iff.1 hj).1; omega
            obtain ⟨v, g1, _, g3⟩ := q3 j hjl
            rw [hj] at g1; cases g1; exact g3
          obtain ⟨cap', w', r1, r2, r3, r4⟩ := grow_sound (ty := ty) (rowx := row) hok hsz ht hti hts hby hzz hzs hz1 (olds := cs) q1 hone (fun i hi => hwf2 i hi)
            (fun i j x hi hx => by
              have hj : j < sz2 := by have := (List.getElem?_eq_some_iff.1 hx).1; rw [hwf2 _ hi] at this; exact this
              have hil : i * sz2 + j < n * sz2 := by have := Nat.mul_le_mul_right sz2 (show i + 1 ≤ n by omega); rw [Nat.add_mul] at this; omega
              obtain ⟨v, g1, g2, _⟩ := q3 (i * sz2 + j) hil
              refine ⟨v, g1, ?_⟩
              have hdm : (0 + (i * sz2 + j)) / sz2 = i ∧ (0 + (i * sz2 + j)) % sz2 = j := by
                rw [Nat.zero_add]
                constructor
                · rw [Nat.add_comm, Nat.add_mul_div_right _ _ hsz, Nat.div_eq_of_lt hj]; omega
                · rw [Nat.add_comm, Nat.add_mul_mod_self_right, Nat.mod_eq_of_lt hj]
              simp only [Ent.cell] at g2
              rw [if_pos (by omega), hdm.1, hdm.2, List.getD_eq_getElem?_getD, hx] at g2
              exact g2) hold hs (by omega) hmb
            (by have := Nat.le_mul_of_pos_right (n + m) hb0; omega)
          refine ⟨_, _, _, _, w', r2, hK (w.heap.size, 0) cap' r1, ⟨r1, _, rfl, (fun _ => by simp [adr]), fun h => by omega⟩, r3.move k, (Kept.refl w _).trans r4 fun x _ hx => ?_⟩
          obtain ⟨k', hk', _⟩ := hx
          simp at hk'
      · exact h.elim
  · exact h.elim

theorem srcV_slice {P : Program} {H : Heap} {w : World} (hok : Ok H w) {sz : Nat} (hsz : 0 < sz) {y : SV} {yv : Value} (hy : Rep y yv) {K : Nat → Nat → (Nat → List SV) → Prop} (h : srcV H y sz K) (n : Nat) :
    ∃ (k m : Nat) (row : Nat → List SV) (cs : List Value), K k m row ∧ (Builtin.lenOf yv).run P w = .ok m w ∧ cs.length = Nat.min m n * sz ∧ (Builtin.firstCells sz (Nat.min m n) yv).run P w = .ok cs.toArray w ∧ (∀ u ∈ cs, One u) ∧ (∀ i, i < m → (row i).length = sz) ∧
      (∀ i j x, i < Nat.min m n → (row i)[j]? = some x → ∃ v, cs[i * sz + j]? = some v ∧ Rep x v) := by
  unfold srcV at h
  split at h
  · rename_i k b sz' off m cap
    obtain ⟨hmc, ad, rfl, had, hnil⟩ := hy
    rcases Nat.eq_zero_or_pos m with rfl | hm
    · refine ⟨k, 0, _, [], h.1 rfl, rfl, by simp, ?_, by simp, by omega, fun i j x hi => by simp at hi⟩
      cases ad <;> simp [Builtin.firstCells, loadCells, loadCellsFrom]
    · replace h := h.2 hm
      obtain ⟨rfl, h⟩ := h
      unfold srcO at h
      split at h
      · rename_i b' ro sz2 n2 cap2 row he
        obtain ⟨rfl, rfl, hle, hK⟩ := h
        have hent := hok.ent k _ he
        obtain ⟨hwf1, hwf2⟩ := hent.wf
        have hmin : Nat.min m n ≤ m := Nat.min_le_left _ _
        generalize hq : Nat.min m n = q at hmin ⊢
        have hmul : off * sz2 + q * sz2 ≤ n2 * sz2 := by rw [← Nat.add_mul]; exact Nat.mul_le_mul_right _ (by omega)
        have hmul2 : n2 * sz2 ≤ cap2 * sz2 := Nat.mul_le_mul_right _ hwf1
        obtain ⟨cs, q1, q2, q3⟩ := Ent.cells_rep (w' := w) hent (fun _ _ => rfl) (off * sz2) (q * sz2) (by simp only [Ent.size]; omega)
        rw [had (by omega)]
        have hone : ∀ u ∈ cs, One u := fun u hu => by
          obtain ⟨j, hj⟩ := List.mem_iff_getElem?.1 hu
          have hjl : j < q * sz2 := by have := (List.getElem?_eq_some_iff.1 hj).1; omega
          obtain ⟨v, g1, _, g3⟩ := q3 j hjl
          rw [hj] at g1; cases g1; exact g3
        subst hq
        refine ⟨k, m, _, cs, hK, rfl, q1, run_firstCells_some w sz2 _ _ m cap cs q1 (fun j u hj => by rw [adr_add]; exact q2 j u hj), hone, fun i hi => hwf2 _ (by omega), fun i j x hi hx => ?_⟩
        have hj : j < sz2 := by have := (List.getElem?_eq_some_iff.1 hx).1; rw [hwf2 _ (by omega)] at this; exact this
        have hil : i * sz2 + j < Nat.min m n * sz2 := by have := Nat.mul_le_mul_right sz2 (show i + 1 ≤ Nat.min m n by omega); rw [Nat.add_mul] at this; omega
        obtain ⟨v, g1, g2, _⟩ := q3 (i * sz2 + j) hil
        refine ⟨v, g1, ?_⟩
        have hdm : (off * sz2 + (i * sz2 + j)) / sz2 = off + i ∧ (off * sz2 + (i * sz2 + j)) % sz2 = j := by
          rw [← Nat.add_assoc, ← Nat.add_mul]
          constructor
          · rw [Nat.add_comm, Nat.add_mul_div_right _ _ hsz, Nat.div_eq_of_lt hj]; omega
          · rw [Nat.add_comm, Nat.add_mul_mod_self_right, Nat.mod_eq_of_lt hj]
        simp only [Ent.cell] at g2
        rw [if_pos (by omega), hdm.1, hdm.2, List.getD_eq_getElem?_getD, hx] at g2
        exact g2
      · exact h.elim
  · exact h.elim

theorem copyV_sound {P : Program} {H : Heap} {w : World} (hok : Ok H w) {t tx ty e : TypeId} {sz : Nat} (hsz : 0 < sz) (ht : P.underlying t = some (.slice e)) (hn : tySz P e = some sz)
    {x y : SV} {xv yv : Value} (hx : Rep x xv) (hy : Rep y yv) {K : LK} (h : copyV H sz x y K) :
    ∃ v sv H' ws w', (Builtin.copy_ #[t, tx] ty #[xv, yv]).run P w = .ok v w' ∧ K sv H' ws ∧ Rep sv v ∧ Goes H w H' w' ∧ Kept w w' (ownsK H ws) := by
  obtain ⟨ti, hti, hts⟩ := tySz_info hn
  unfold copyV at h
  split at h
  · rename_i k b sz' off len cap
    obtain ⟨hlc, ad, rfl, had, hnil⟩ := hx
    rcases Nat.eq_zero_or_pos len with hl0 | hl0
    · replace h := h.1 hl0
      obtain ⟨hys, h⟩ := h
      subst hl0
      obtain ⟨a, m, c, rfl⟩ : ∃ a m c, yv = .slice a m c := by
        cases y <;> simp [isSl] at hys
        obtain ⟨_, ad, rfl, _⟩ := hy; exact ⟨_, _, _, rfl⟩
      refine ⟨.int .i64 0, _, _, _, w, ?_, h, Rep.int_, Goes.refl hok, Kept.refl _ _⟩
      cases ad <;> cases a <;> simp [Builtin.copy_, run_underlying ht, Builtin.lenOf, Builtin.firstCells, loadCells, loadCellsFrom, sizeOf, typeInfo, hti, storeCells, goInt]
    · replace h := h.2 hl0
      obtain ⟨rfl, h⟩ := h
      unfold copyO at h
      split at h
      · rename_i b1 ro sz2 n cap2 row he
        obtain ⟨rfl, rfl, rfl, hle, h⟩ := h
        obtain ⟨ky, m, rowy, cs, hK, hlen, hcl, hrun, hone, hrl, hrep⟩ := srcV_slice (P := P) hok hsz hy h len
        have hent := hok.ent k _ he
        obtain ⟨hwf1, hwf2⟩ := hent.wf
        have hadv := had (by omega)
        subst hadv
        have hmin : Nat.min m len ≤ len := Nat.min_le_right _ _
        have hminm : Nat.min m len ≤ m := Nat.min_le_left _ _
        generalize hq : Nat.min m len = q at hK hcl hrun hrep hmin hminm
        have hmul : off * sz2 + q * sz2 ≤ n * sz2 := by rw [← Nat.add_mul]; exact Nat.mul_le_mul_right _ (by omega)
        have hmul2 : n * sz2 ≤ cap2 * sz2 := Nat.mul_le_mul_right _ hwf1
        have hcell : ∀ j, j < cs.length → (w.cell? ⟨b.1, b.2 + off * sz2 + j, none⟩).isSome = true := fun j hj => by
          obtain ⟨v, h1, _⟩ := hent.cell (off * sz2 + j) (by simp only [Ent.size]; omega)
          simp only [Ent.base, adr] at h1
          rw [show b.2 + off * sz2 + j = b.2 + (off * sz2 + j) by omega, h1]; rfl
        have hfree : ∀ j, j < cs.length → w.frozen? ⟨b.1, b.2 + off * sz2 + j, none⟩ = false := fun j hj => by
          have h1 := hent.free rfl (off * sz2 + j) (by simp only [Ent.size]; omega)
          simp only [Ent.base, adr] at h1
          rw [show b.2 + off * sz2 + j = b.2 + (off * sz2 + j) by omega]; exact h1
        have hst := run_storeCells_cells (P := P) b.1 (b.2 + off * sz2) cs 0 w (by simpa using hcell) (by simpa using hfree) (fun u hu => (hone u hu).oneCell)
        simp only [Nat.add_zero] at hst
        have hkept : Kept w (w.setCells b.1 (b.2 + off * sz2) cs) (Ent.arr b false sz2 n cap2 row).owns := kept_setCells b.1 cs _ w _ fun j hj => ⟨rfl, off * sz2 + j, by simp only [Ent.size]; omega, by simp only [adr, Ent.base]; congr 1; omega⟩
        have hin := World.cell?_setCells_in b.1 cs (b.2 + off * sz2) w hcell
        have hchg := hok.change (e' := .arr b false sz2 n cap2 fun i => if off ≤ i ∧ i < off + q then rowy (i - off) else row i) he rfl hkept rfl rfl rfl ⟨⟨hwf1, fun i hi => by
            dsimp only; split
            · exact hrl _ (by omega)
            · exact hwf2 i hi⟩, fun i hi => ?_, fun _ i hi => ?_⟩
        · refine ⟨.int .i64 q, _, _, _, _, ?_, hK, Rep.int_, hchg.1, hchg.2⟩
          simp [Builtin.copy_, run_underlying ht, hlen, sizeOf, typeInfo, hti, hts, hq, hrun, adr, hst, goInt]
        · simp only [Ent.size] at hi
          obtain ⟨u, h1, h2, h3⟩ := hent.cell i (by simpa only [Ent.size] using hi)
          simp only [Ent.base, adr] at h1 ⊢
          have hmq : i % sz2 < sz2 := Nat.mod_lt _ hsz
          have hdm := Nat.div_add_mod i sz2
          by_cases hir : off * sz2 ≤ i ∧ i < off * sz2 + q * sz2
          · obtain ⟨j, rfl⟩ : ∃ j, i = off * sz2 + j := ⟨i - off * sz2, by omega⟩
            have hj : j < cs.length := by omega
            have hgot := hin j hj
            rw [show b.2 + off * sz2 + j = b.2 + (off * sz2 + j) by omega] at hgot
            refine ⟨cs[j], hgot, ?_, hone _ (List.getElem_mem hj)⟩
            have hqd : j / sz2 < q := Nat.div_lt_of_lt_mul (by rw [Nat.mul_comm]; omega)
            have hr : j % sz2 < (rowy (j / sz2)).length := by rw [hrl _ (Nat.lt_of_lt_of_le hqd hminm)]; exact Nat.mod_lt _ hsz
            obtain ⟨v, g1, g2⟩ := hrep (j / sz2) (j % sz2) _ hqd (List.getElem?_eq_getElem hr)
            rw [Nat.mul_comm, Nat.div_add_mod, List.getElem?_eq_getElem hj] at g1
            cases g1
            simp only [Ent.cell]
            have hd : (off * sz2 + j) / sz2 = off + j / sz2 := by rw [Nat.add_comm, Nat.add_mul_div_right _ _ hsz, Nat.add_comm]
            have hmd : (off * sz2 + j) % sz2 = j % sz2 := by rw [Nat.add_comm, Nat.add_mul_mod_self_right]
            rw [if_pos (by omega), hd, hmd, if_pos ⟨Nat.le_add_right _ _, Nat.add_lt_add_left hqd _⟩, Nat.add_sub_cancel_left, List.getD_eq_getElem?_getD, List.getElem?_eq_getElem hr]
            exact g2
          · refine ⟨u, ?_, ?_, h3⟩
            · rw [World.cell?_setCells_out b.1 cs _ w _ (fun _ _ => by dsimp only; omega)]; exact h1
            · simp only [Ent.cell] at h2 ⊢
              split
              · rename_i hlt
                rw [if_pos hlt] at h2
                rw [if_neg]
                · exact h2
                · rintro ⟨c1, c2⟩
                  apply hir
                  have e1 := Nat.mul_le_mul_right sz2 c1
                  have e2 := Nat.mul_le_mul_right sz2 (show i / sz2 + 1 ≤ off + q by omega)
                  rw [Nat.add_mul, Nat.add_mul] at e2
                  rw [Nat.mul_comm] at hdm
                  omega
              · trivial
        · simp only [Ent.size] at hi
          obtain ⟨u, h1, _⟩ := hent.cell i (by simpa only [Ent.size] using hi)
          exact hkept.tidy (World.block_lt_of_cell? w _ h1) (hent.tidy rfl i (by simpa only [Ent.size] using hi))
      · exact h.elim
  · exact h.elim

end Go.Proofs.YtebjldkkdapbeaaGreatDoor.Eng
