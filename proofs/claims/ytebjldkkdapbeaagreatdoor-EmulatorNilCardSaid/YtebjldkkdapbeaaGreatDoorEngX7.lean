/- The engine, part X7: appending and copying, by the reckoning: the laws. -/
import Derived.Test.YtebjldkkdapbeaaGreatDoorEngX6
namespace Go.Proofs.YtebjldkkdapbeaaGreatDoor.Eng
open Go
section
variable {P : Program} {η : Env} {M : Mem} {w : World}

theorem grow_flat {H : Heap} (hok : Ok H w) {t tx ty e : TypeId} {sz by_ : Nat} (hsz : 0 < sz) (ht : P.underlying t = some (.slice e)) {ti : TypeInfo} (hti : P.info? e = some ti) (hs : ti.size = sz) (hb : ti.bytes = by_) {z : Value} (hz : ti.zero = some z) (hzs : z.cells.size = sz)
    (hz1 : ∀ u ∈ z.cells.toList, One u) {base : Option Addr} {len cap : Nat} {olds : List Value} {ol nl : List SV} (ho1 : ∀ u ∈ olds, One u) (hor : RepL ol olds)
    (hold : (Builtin.firstCells ti.size len (.slice base len cap)).run P w.drew = .ok olds.toArray w.drew)
    {yv : Value} {m : Nat} {news : List Value} (hy : Src P sz tx yv m news w) (hn1 : ∀ u ∈ news, One u) (hnr : RepL nl news) (hg : cap < len + m) (hby : (len + m) * by_ ≤ 140737488355328) (hb0 : 0 < by_) :
    ∃ cap' w', len + m ≤ cap' ∧ (Builtin.append_ #[t, tx] ty #[.slice base len cap, yv]).run P w = .ok (.slice (some ⟨w.heap.size, 0, none⟩) (len + m) cap') w' ∧
      Goes H w (H ++ [.lit (w.heap.size, 0) (ol ++ nl ++ List.replicate ((cap' - (len + m)) * sz) .any)]) w' ∧ Kept w w' (ownsK H []) := by
  have h63 : len + m ≤ 140737488355328 := by have := Nat.le_mul_of_pos_right (len + m) hb0; omega
  have hrun := run_append_grow_src (P := P) w t tx ty e ti z ht hti hz base len cap olds hold yv m news (by rw [hs]; exact hy) hg (by omega) (growslice_fits hg (by rw [hb]; exact hby))
  have hcap := grownCap_ge w (len + m) cap e
  have hnl := hy.newsLen
  refine ⟨_, _, hcap, hrun, ?_⟩
  have hlist : (olds ++ news).toArray ++ Builtin.zeroCells z.cells (grownCap w (len + m) cap e - (len + m)) = (olds ++ news ++ (Builtin.zeroCells z.cells (grownCap w (len + m) cap e - (len + m))).toList).toArray := by
    apply Array.ext'; simp
  rw [hlist]
  have hrepl : ∀ (vs : List Value), RepL (List.replicate vs.length .any) vs := fun vs => by
    induction vs with
    | nil => simp [RepL]
    | cons v vs ih => simp only [List.length_cons, List.replicate_succ, RepL]; exact ⟨trivial, ih⟩
  have hzl : (Builtin.zeroCells z.cells (grownCap w (len + m) cap e - (len + m))).toList.length = (grownCap w (len + m) cap e - (len + m)) * sz := by simp [size_zeroCells, hzs]
  have hall := (hor.append hnr).append (hrepl (Builtin.zeroCells z.cells (grownCap w (len + m) cap e - (len + m))).toList)
  rw [hzl] at hall
  obtain ⟨g1, g2⟩ := alloc_sound (H := H) (w := w.drew) hok.drew hall (fun u hu => by
      rcases List.mem_append.1 hu with hu | hu
      · rcases List.mem_append.1 hu with hu | hu
        · exact ho1 u hu
        · exact hn1 u hu
      · exact zeroCells_one hz1 (by omega) _ u hu) e
  exact ⟨(Goes.drew hok).trans g1, (Kept.refl w _).drew.trans g2 fun _ _ h => h⟩

theorem GoodS.killed {M : Mem} {η : Env} (hg : GoodS M η) {k : Nat} (hk : k < M.next) : GoodS (M.put k ⟨[], true⟩) η := by
  refine ⟨hg.len, hg.small, fun j D d hj hd => ?_, fun j D hj => ?_⟩
  · rw [Mem.get_put hg hk] at hj
    split at hj
    · cases hj; exact ⟨Nat.zero_le _, fun h => by cases h⟩
    · exact hg.tot j D d hj hd
  · rw [Mem.get_put hg hk] at hj
    split at hj
    · rename_i e; subst e; exact hk
    · exact hg.below j D hj

theorem tail_any {b : Base} {l r : List SV} {cells : List FV} {t : Nat} {m : Bool} {η : Env} (hc : cells.length = l.length) (ht : cells.length ≤ t) (hle : t ≤ (l ++ r).length) (h : ∀ (i : Nat) (x : SV) (y : FV), l[i]? = some x → cells[i]? = some y → ∀ v, Rep x v → Rep (y.sv η) v) : Ent.sle (.lit b (l ++ r)) (Blk.ent ⟨cells, m⟩ (b, t) η) :=
  lit_ent hle ht fun i x y hx hy v hr => by
    have hi : i < l.length := by have := (List.getElem?_eq_some_iff.1 hy).1; omega
    rw [List.getElem?_append_left hi] at hx
    exact h i x y hx hy v hr

theorem map_ext {η η' : Env} (h : Env.ext η η') (l : List FV) (i : Nat) (x : SV) (y : FV) (hx : (l.map (FV.sv η))[i]? = some x) (hy : l[i]? = some y) (v : Value) (hr : Rep x v) : Rep (y.sv η') v := by
  rw [List.getElem?_map, hy] at hx
  simp only [Option.map_some, Option.some.injEq] at hx
  subst hx
  exact FV.sv_ext h y hr

/-- A slice that lies in a new block, of which not all is known. -/
theorem KL.grown {M : Mem} {η : Env} (hg : GoodS M η) (hs : Nat.ble M.next 999999999 = true) {cells : List FV} {sz n cap' : Nat} (hsz : 0 < sz) (hl : cells.length = n * sz) (hn : n ≤ cap') {b : Base} {r : List SV} (hr : r.length = (cap' - n) * sz) :
    KL η M (.s M.next sz 0 n none) (M.push ⟨cells, true⟩) [] (.s M.next b sz 0 n cap') (M.heap η ++ [.lit b (cells.map (FV.sv η) ++ r)]) [] := by
  have hmul : n * sz ≤ cap' * sz := Nat.mul_le_mul_right _ hn
  have htot : n * sz + (cap' - n) * sz = cap' * sz := by rw [← Nat.add_mul]; congr 1; omega
  refine KL.new (t := cap' * sz) (b := b) hg hs (by omega) (fun h => by cases h) (tail_any (by simp) (by omega) (by simp; omega) (map_ext (Env.ext_append η _) cells)) fun v hv => sv_new_s hg b _ sz 0 n none ?_
  have : capOf n sz 0 (cap' * sz) none = cap' := by
    simp only [capOf]
    rw [Nat.mul_div_cancel _ hsz]; omega
  rw [this]; exact hv

theorem appendF_sound (hg : Good M η w) {t tx ty e e2 : TypeId} {sz by_ : Nat} (hsz : 0 < sz) (ht : P.underlying t = some (.slice e)) (htx : P.underlying tx = some (.slice e2)) (hn : tySz P e = some sz)
    {zero : List SV} (hz : zeroOf P e = some zero) (hzl : zero.length = sz) (hby : (P.info? e).map (·.bytes) = some by_) (hb0 : 0 < by_) {x y : FV} {xv yv : Value} (hx : Rep (x.sv η) xv) (hy : Rep (y.sv η) yv) {c : FV} {M' : Mem} {ws : List Nat} (h : appendF M sz by_ x y = some (c, M', ws)) :
    ∃ v sv H' ws' w', (Builtin.append_ #[t, tx] ty #[xv, yv]).run P w = .ok v w' ∧ KL η M c M' ws sv H' ws' ∧ Rep sv v ∧ Goes (M.heap η) w H' w' ∧ Kept w w' (ownsK (M.heap η) ws') := by
  obtain ⟨z, ⟨ti, hti, hzz⟩, hzr, hz1, _, _⟩ := zeroOf_sound hz
  obtain ⟨ti', hti', hts⟩ := tySz_info hn
  rw [hti] at hti'; cases hti'
  rw [hti] at hby; simp at hby
  have hzs : z.cells.size = sz := by have := hzr.length; simpa [hzl] using this
  unfold appendF at h
  split at h
  · rename_i m news k sz' off len cap hsrc
    obtain ⟨vs, hvs, hv1, hvr, hnl, hfst⟩ := srcF_sound hg htx hy hsz hsrc
    clear hfst
    have hvl := hvs.newsLen
    split at h
    · -- nothing is appended
      simp only [Option.some.injEq, Prod.mk.injEq] at h
      obtain ⟨rfl, rfl, rfl⟩ := h
      have hvn : vs = [] := by simpa using hvl
      subst hvn
      have hxs : ∃ a cp, xv = .slice a len cp ∧ len ≤ cp := by
        rcases rep_s hx with ⟨_, rfl, a, rfl⟩ | ⟨_, b, hb, hle, a, rfl, _⟩
        · exact ⟨a, 0, rfl, Nat.le_refl _⟩
        · exact ⟨a, _, rfl, hle⟩
      obtain ⟨a, cp, rfl, hle⟩ := hxs
      refine ⟨.slice a len cp, (FV.s k sz' off len cap).sv η, _, _, w, ?_, ⟨rfl, .refl _ _, fun w' hok => ⟨η, .refl η, hg.s, Goes.refl hok, fun _ h => h⟩⟩, hx, Goes.refl hg.ok, Kept.refl _ _⟩
      have h1 := hvs.cells
      have h2 := hvs.len w
      rcases hvs.kind with ⟨e', hk⟩ | hk
      · cases a with
        | none => simp [Builtin.append_, run_underlying ht, run_underlying hk, sizeOf, typeInfo, hti, hts, h2, h1, hle]
        | some a => simp [Builtin.append_, run_underlying ht, run_underlying hk, sizeOf, typeInfo, hti, hts, h2, h1, hle, storeCells]
      · rw [htx] at hk; cases hk
    · rename_i m
      rw [cond_eq_ite] at h
      split at h
      · rename_i hc
        simp only [Bool.and_eq_true] at hc
        have c1 := Nat.le_of_ble_eq_true hc.1
        have c2 : Nat.ble M.next 999999999 = true := by have := Nat.le_of_ble_eq_true hc.2; exact Nat.ble_eq_true_of_le (by omega)
        split at h
        · -- to nothing
          rw [cond_eq_ite] at h
          split at h
          · rename_i hl0
            have hl0 := Nat.eq_of_beq_eq_true hl0
            subst hl0
            simp only [Option.some.injEq, Prod.mk.injEq] at h
            obtain ⟨rfl, rfl, rfl⟩ := h
            obtain ⟨a, rfl⟩ : ∃ a, xv = .slice a 0 0 := by
              rcases rep_s hx with ⟨_, _, a, rfl⟩ | ⟨h0, _⟩
              · exact ⟨a, rfl⟩
              · exact absurd rfl h0
            have hold : (Builtin.firstCells ti.size 0 (.slice a 0 0)).run P w.drew = .ok ([] : List Value).toArray w.drew := by
              cases a <;> simp [Builtin.firstCells, loadCells, loadCellsFrom]
            obtain ⟨cap', w', q1, q2, q3, q4⟩ := grow_flat (ty := ty) hg.ok hsz ht hti hts hby hzz hzs hz1 (len := 0) (cap := 0) (olds := []) (ol := []) (by simp) (by simp [RepL]) hold hvs hv1 hvr (by omega) (by simpa using c1) hb0
            simp only [Nat.zero_add, List.nil_append] at q1 q2 q3
            refine ⟨_, .s M.next (w.heap.size, 0) sz 0 (m + 1) cap', _, _, w', q2, KL.grown hg.s c2 hsz hnl q1 (by simp), ⟨q1, _, rfl, (fun _ => by simp [adr]), fun h => by omega⟩, q3, q4⟩
          · cases h
        · rename_i hcap
          split at h
          · rename_i B hB
            rw [cond_eq_ite] at h
            split at h
            · rename_i hc3
              simp only [Bool.and_eq_true] at hc3
              have c3 := Nat.eq_of_beq_eq_true hc3.1
              have c4 := Nat.le_of_ble_eq_true hc3.2
              subst c3
              rcases rep_s hx with ⟨h0, _⟩ | ⟨_, b, hb, hle, a, rfl, ha⟩
              · exact (hcap h0).elim
              · obtain ⟨b', hb', hent, ht1, ht2⟩ := hg.s.get hB
                rw [hb] at hb'; cases hb'
                have hkl := hg.s.below k B hB
                rw [cond_eq_ite] at h
                split at h
                · -- there is room
                  rename_i hroom
                  simp only [Bool.and_eq_true] at hroom
                  have r1 := Nat.le_of_ble_eq_true hroom.1
                  simp only [Option.some.injEq, Prod.mk.injEq] at h
                  obtain ⟨rfl, rfl, rfl⟩ := h
                  have r2 : (off + len) * sz' + (m + 1) * sz' ≤ B.cells.length := by rw [← Nat.add_mul]; exact r1
                  have hpos : 0 < B.cells.length := by have := Nat.mul_pos (show 0 < m + 1 by omega) hsz; omega
                  rw [Blk.ent_some hpos] at hent
                  have hcapEq : len + (m + 1) ≤ capOf len sz' off b.2 cap ∧ capOf (len + (m + 1)) sz' off b.2 cap = capOf len sz' off b.2 cap := by
                    cases cap with
                    | some cp => exact ⟨Nat.le_of_ble_eq_true (show Nat.ble (len + (m + 1)) cp = true from hroom.2), rfl⟩
                    | none =>
                      have : off + len + (m + 1) ≤ b.2 / sz' := (Nat.le_div_iff_mul_le hsz).2 (by omega)
                      simp only [capOf]; omega
                  have ha := ha (by omega)
                  subst ha
                  have hvl2 : news.length = (m + 1) * sz' := hnl
                  obtain ⟨s1, s2, s3, s4⟩ := setCells_lit hg.ok hent hvr hv1 (off := (off + len) * sz') (by rw [List.length_map, hvl2, List.length_append, List.length_map]; omega)
                  have hoff : b.1.2 + (off + len) * sz' = b.1.2 + off * sz' + len * ti.size := by rw [hts, Nat.add_mul]; omega
                  rw [hoff] at s1 s2 s3 s4
                  have hrun := run_append_room_src (P := P) w t tx ty e ti ht hti b.1.1 (b.1.2 + off * sz') len _ yv (m + 1) vs (by rw [hts]; exact hvs) hcapEq.1 s3 s4
                  refine ⟨_, .s k b.1 sz' off (len + (m + 1)) (capOf len sz' off b.2 cap), _, _, _, hrun, ⟨rfl, .put hg.s hB (by simp [spliceF_length]) _, fun w' hok => ⟨η, .refl η, hg.s.turned hB (by simp [spliceF_length]) rfl, ?_, fun v hv => ?_⟩⟩, ⟨hcapEq.1, _, rfl, (fun _ => rfl), fun h => by omega⟩, s1, s2⟩
                  · rw [hg.s.heap_put hkl hb, spliceF_lit hpos (by rw [hvl2]; omega)]
                    exact Goes.refl hok
                  · simp only [FV.sv, hb]
                    rw [hcapEq.2]; exact hv
                · rename_i hnr
                  split at h
                  · rename_i olds ht0
                    obtain ⟨o1, o2⟩ := takeF_drop ht0 (fun h0 => by rw [Nat.add_mul] at c4; omega)
                    obtain ⟨ovs, q1, q2, q3, q4⟩ := blk_cells hg hB hb (off * sz') (len * sz') o2
                    rw [← o1] at q3
                    have hol : olds.length = len * sz' := by rw [o1]; simp; omega
                    have hold : (Builtin.firstCells ti.size len (.slice a len (capOf len sz' off b.2 cap))).run P w.drew = .ok ovs.toArray w.drew := by
                      rcases Nat.eq_zero_or_pos len with h0 | h0
                      · have : ovs = [] := by rw [h0] at q1; simpa using q1
                        subst this
                        rw [h0]
                        cases a <;> simp [Builtin.firstCells, loadCells, loadCellsFrom]
                      · have ha := ha (by omega)
                        subst ha
                        exact run_firstCells_some w.drew ti.size len _ len _ ovs (by rw [hts]; exact q1) fun j v hv => by rw [adr_add]; exact q2 j v hv
                    have hgrow : capOf len sz' off b.2 cap < len + (m + 1) → ∃ cap' w', len + (m + 1) ≤ cap' ∧ (Builtin.append_ #[t, tx] ty #[.slice a len (capOf len sz' off b.2 cap), yv]).run P w = .ok (.slice (some ⟨w.heap.size, 0, none⟩) (len + (m + 1)) cap') w' ∧
                        Goes (M.heap η) w (M.heap η ++ [.lit (w.heap.size, 0) ((olds ++ news).map (FV.sv η) ++ List.replicate ((cap' - (len + (m + 1))) * sz') .any)]) w' ∧ Kept w w' (ownsK (M.heap η) []) := fun hlt => by
                      rw [List.map_append]
                      exact grow_flat (ty := ty) hg.ok hsz ht hti hts hby hzz hzs hz1 q4 q3 hold hvs hv1 hvr hlt c1 hb0
                    have hnlen : (olds ++ news).length = (len + (m + 1)) * sz' := by rw [List.length_append, hol, hnl, ← Nat.add_mul]
                    split at h
                    · -- a new row
                      rename_i cp
                      rw [cond_eq_ite] at h
                      split at h
                      · rename_i hcp
                        have hcp := Nat.le_of_ble_eq_true hcp
                        simp only [Option.some.injEq, Prod.mk.injEq] at h
                        obtain ⟨rfl, rfl, rfl⟩ := h
                        obtain ⟨cap', w', g1, g2, g3, g4⟩ := hgrow (by simp only [capOf]; omega)
                        exact ⟨_, .s M.next (w.heap.size, 0) sz' 0 (len + (m + 1)) cap', _, _, w', g2, KL.grown hg.s c2 hsz hnlen g1 (by simp), ⟨g1, _, rfl, (fun _ => by simp [adr]), fun h => by omega⟩, g3, g4⟩
                      · cases h
                    · -- it is not known which
                      rw [cond_eq_ite] at h
                      split at h
                      · rename_i hoff
                        simp only [Bool.and_eq_true] at hoff
                        have h0 := Nat.eq_of_beq_eq_true hoff.1
                        subst h0
                        simp only [Option.some.injEq, Prod.mk.injEq] at h
                        obtain ⟨rfl, rfl, rfl⟩ := h
                        have hgk := hg.s.killed hkl
                        have hkeq : (M.put k ⟨[], true⟩).heap η = (M.heap η).set k .gone := by
                          rw [hg.s.heap_put hkl hb, Blk.ent_nil rfl]
                        have hnx : (M.put k ⟨[], true⟩).next = M.next := rfl
                        have hst : St M ((M.put k ⟨[], true⟩).push ⟨olds ++ news, true⟩) [k] := (St.kill hg.s hkl).trans (St.push hgk _ []) (fun _ h => h) (fun _ h => by cases h)
                        rcases Nat.lt_or_ge (capOf len sz' 0 b.2 none) (len + (m + 1)) with hlt | hge
                        · obtain ⟨cap', w', g1, g2, g3, g4⟩ := hgrow hlt
                          refine ⟨_, .s M.next (w.heap.size, 0) sz' 0 (len + (m + 1)) cap', (M.heap η).set k .gone ++ [.lit (w.heap.size, 0) ((olds ++ news).map (FV.sv η) ++ List.replicate ((cap' - (len + (m + 1))) * sz') .any)], [k], w', g2, ?_, ⟨g1, _, rfl, (fun _ => by simp [adr]), fun h => by omega⟩, g3.trans (g3.ok.sle fun j e' hj => ?_), (Kept.refl w _).trans g4 ?_⟩
                          · have hk := KL.grown hgk (M := M.put k ⟨[], true⟩) c2 hsz hnlen g1 (b := (w.heap.size, 0)) (r := List.replicate ((cap' - (len + (m + 1))) * sz') .any) (by simp)
                            rw [hkeq] at hk
                            exact ⟨rfl, hst, hk.2.2⟩
                          · have hjl := (List.getElem?_eq_some_iff.1 hj).1
                            rw [List.getElem?_append] at hj
                            simp only [List.length_set] at hj
                            split at hj
                            · rename_i hjlt
                              rw [List.getElem?_set] at hj
                              split at hj
                              · rename_i hkj
                                split at hj
                                · cases hj; exact .inr ⟨rfl, trivial⟩
                                · cases hj
                              · exact .inl ⟨e', by rw [List.getElem?_append_left hjlt]; exact hj, .refl _⟩
                            · rename_i hjge
                              exact .inl ⟨e', by rw [List.getElem?_append_right (by omega)]; exact hj, .refl _⟩
                          · intro x _ hx
                            obtain ⟨k', hk', _⟩ := hx
                            simp at hk'
                        · have hpos := Nat.le_of_ble_eq_true hoff.2
                          have ha := ha (by omega)
                          subst ha
                          rw [Blk.ent_some hpos] at hent
                          have hcp : capOf len sz' 0 b.2 none = b.2 / sz' := by
                            have hge' := hge
                            simp only [capOf] at hge' ⊢
                            clear hgrow hv1 hvr hold
                            generalize b.2 / sz' = q at hge' ⊢
                            omega
                          have hbig : (len + (m + 1)) * sz' ≤ b.2 := (Nat.le_div_iff_mul_le hsz).1 (by omega)
                          have hbig2 : len * sz' + (m + 1) * sz' ≤ b.2 := by rw [← Nat.add_mul]; exact hbig
                          have hvl2 : news.length = (m + 1) * sz' := hnl
                          have hll : (B.cells.map (FV.sv η) ++ List.replicate (b.2 - B.cells.length) SV.any).length = b.2 := by simp; omega
                          obtain ⟨s1, s2, s3, s4⟩ := setCells_lit hg.ok hent hvr hv1 (off := len * sz') (by rw [hll, List.length_map, hvl2]; exact hbig2)
                          have hoff2 : b.1.2 + len * sz' = b.1.2 + 0 * sz' + len * ti.size := by rw [hts]; omega
                          rw [hoff2] at s1 s2 s3 s4
                          have hrun := run_append_room_src (P := P) w t tx ty e ti ht hti b.1.1 (b.1.2 + 0 * sz') len _ yv (m + 1) vs (by rw [hts]; exact hvs) hge s3 s4
                          refine ⟨_, .s M.next b.1 sz' 0 (len + (m + 1)) (capOf len sz' 0 b.2 none), _, [k], _, hrun, ⟨rfl, hst, fun w'' hok => ⟨η ++ [(b.1, b.2 / sz' * sz')], Env.ext_append η _, ?_, ?_, fun v hv => ?_⟩⟩, ⟨hge, _, rfl, (fun _ => rfl), fun h => by omega⟩, s1, s2⟩
                          · have h1 : (len + (m + 1)) * sz' ≤ b.2 / sz' * sz' := Nat.mul_le_mul_right _ (by omega)
                            exact hgk.push (by have := Nat.le_of_ble_eq_true c2; rw [hnx]; omega) (by rw [hnlen]; exact h1) (fun h => by cases h)
                          · have g5 := Ok.rekey (by rw [Mem.heap_len]; exact hkl) hok
                            rw [← hkeq] at g5
                            refine g5.trans (hgk.grown (lit_ent ?_ ?_ fun i x y hx hy v hr => ?_) g5.ok)
                            · rw [splice_length, hll]; exact Nat.div_mul_le_self _ _
                            · rw [hnlen]; exact Nat.mul_le_mul_right _ (by omega)
                            · have hi := (List.getElem?_eq_some_iff.1 hy).1
                              rw [hnlen, Nat.add_mul] at hi
                              rw [splice_get, List.length_map, hll, hvl2] at hx
                              rw [List.getElem?_append, hol] at hy
                              split at hy
                              · rename_i hlt
                                rw [if_neg (by omega), List.getElem?_append_left (by
                                  have := (List.getElem?_eq_some_iff.1 hy).1
                                  simp only [List.length_map]; omega)] at hx
                                refine map_ext (Env.ext_append η _) B.cells i x y hx ?_ v hr
                                rw [o1, List.getElem?_take, if_pos hlt] at hy
                                simpa using hy
                              · rename_i hge2
                                rw [if_pos (by omega)] at hx
                                exact map_ext (Env.ext_append η _) news _ x y hx hy v hr
                          · refine sv_new_s hg.s b.1 _ sz' 0 (len + (m + 1)) none ?_
                            have : capOf (len + (m + 1)) sz' 0 (b.2 / sz' * sz') none = capOf len sz' 0 b.2 none := by
                              rw [hcp]; simp only [capOf]
                              rw [Nat.mul_div_cancel _ hsz]; omega
                            rw [this]; exact hv
                      · cases h
                  · cases h
            · cases h
          · cases h
      · cases h
  · cases h
end
end Go.Proofs.YtebjldkkdapbeaaGreatDoor.Eng
