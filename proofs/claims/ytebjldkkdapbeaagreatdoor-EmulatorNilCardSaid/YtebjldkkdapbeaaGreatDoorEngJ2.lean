/- The engine, part J2 -/
import Derived.Test.YtebjldkkdapbeaaGreatDoorEngJ
import Derived.Laws.IdiomStrings
import Derived.Laws.MakeOwn
namespace Go.Proofs.YtebjldkkdapbeaaGreatDoor.Eng
open Go
theorem srcV_isSlice {H : Heap} {sz : Nat} {y : SV} {yv : Value} (hy : Rep y yv) {K : Nat → Nat → (Nat → List SV) → Prop} (h : srcV H y sz K) : ∃ a m c, yv = .slice a m c := by
  unfold srcV at h
  split at h
  · obtain ⟨_, ad, rfl, _⟩ := hy; exact ⟨_, _, _, rfl⟩
  · exact h.elim

theorem Steps1.of_value {P : Program} {a : Act} {o : Oper} {H : Heap} {w : World} {K : LK} {s : Sem Value} (hx : (execOp a.eval o).run P w = (do pure (Next.value (← s)) : Sem Next).run P w)
    (h : ∃ v sv H' ws w', s.run P w = .ok v w' ∧ K sv H' ws ∧ Rep sv v ∧ Goes H w H' w' ∧ Kept w w' (ownsK H ws)) : Steps1 P a o H w K := by
  obtain ⟨v, sv, H', ws, w', h1, h2, h3, h4, h5⟩ := h
  exact .value (by rw [hx]; simp [h1]) h2 h3 h4 h5

theorem slice_of {P : Program} {t e : TypeId} (ht : P.underlying t = some (.slice e)) (w : World) : (underlying t).run P w = .ok (.slice e) w := run_underlying ht w

theorem bslice_sound {P : Program} {o : Oper} {l : L} {ts : Tm} {a : Act} {H : Heap} {w : World} {K : LK} {t : TypeId} {n : Nat} {parts : Array (Nat × Operand)} (hop : o.op = .buildSlice t n parts) (hc : compL P (.buildSlice t n parts) = some l) (hok : Ok H w) (ht : TmOk ts a) (h : l.step P ts H K) : Steps1 P a o H w K := by
  simp only [compL] at hc
  split at hc
  · rename_i e hu
    simp [Option.bind_eq_some_iff] at hc
    obtain ⟨sz, hsz, zero, hz, ⟨⟨hzl, hpos⟩, h24⟩, os, hos, rfl⟩ := hc
    obtain ⟨z, _, hzr, hz1, _, hzv⟩ := zeroOf_sound hz
    obtain ⟨ti, hti, hts⟩ := tySz_info hsz
    obtain ⟨rows', cs', s1, s2, s3, s4⟩ := fill_sound ht (sz := sz) parts.toList os (rowsOf zero n) _ hos (zero_holds hzr hz1 hzl hpos) h
    obtain ⟨k1, k2, k3⟩ := s2
    rw [rowsOf_length] at s3
    have hcl : cs'.toList.toArray = cs' := by apply Array.ext'; simp
    obtain ⟨g1, g2⟩ := arrAlloc_sound (H := H) hok hpos (Nat.le_refl n) (row := fun i => rows'.getD i []) (vs := cs'.toList) (by simp [k1, s3])
      (fun i hi => by
        have : rows'[i]? = some (rows'[i]'(by omega)) := List.getElem?_eq_getElem (by omega)
        simp only [List.getD_eq_getElem?_getD, this, Option.getD_some]
        exact (k2 i _ this).1)
      (fun i j x hi hx => by
        have : rows'[i]? = some (rows'[i]'(by omega)) := List.getElem?_eq_getElem (by omega)
        simp only [List.getD_eq_getElem?_getD, this, Option.getD_some] at hx
        simpa using (k2 i _ this).2 j x hx) k3 e
    rw [hcl] at g1 g2
    refine .of_value (s := Instr.buildSlice t n (parts.map fun (i, x) => (i, a.eval x))) (by simp only [execOp, hop]) ⟨.slice (some ⟨w.heap.size, 0, none⟩) n n, _, _, _, _, ?_, s4 (w.heap.size, 0), ⟨Nat.le_refl _, _, rfl, (fun _ => by simp [adr]), fun h => by omega⟩, g1, g2⟩
    have hso : (sizeOf e).run P w = .ok sz w := by simp [sizeOf, typeInfo, hti, hts]
    unfold Instr.buildSlice
    simp only [Sem.run_bind, run_underlying hu w, Result.andThen_ok, hso]
    have h24' : ¬ (n * sz > 2 ^ 24) := by omega
    by_cases hn0 : n = 0
    · subst hn0
      simp [Array.range_zero'] at s1
      simp [Array.range_zero', s1, newRow]
    · have hnz : ¬ (n * sz = 0) := by
        intro h0; rcases Nat.mul_eq_zero.1 h0 with h0 | h0 <;> omega
      simp at s1
      simp [h24', hnz, hzv, s1, newRow]
  · cases hc

theorem mkslice_sound {P : Program} {o : Oper} {l : L} {ts : Tm} {a : Act} {H : Heap} {w : World} {K : LK} {t : TypeId} {ln cp : Operand} (hop : o.op = .makeSlice t ln cp) (hc : compL P (.makeSlice t ln cp) = some l) (hok : Ok H w) (ht : TmOk ts a) (h : l.step P ts H K) : Steps1 P a o H w K := by
  simp only [compL] at hc
  split at hc
  · rename_i e hu
    simp only [Option.bind_eq_bind, Option.bind_eq_some_iff] at hc
    obtain ⟨sz, hsz, zero, hz, by_, hby, hc⟩ := hc
    split at hc
    · rename_i hcond
      simp at hcond
      obtain ⟨hzl, hpos⟩ := hcond
      simp only [Option.bind_eq_some_iff, Option.some.injEq] at hc
      obtain ⟨l', hl, c', hcp, hc⟩ := hc
      subst hc
      obtain ⟨z, hzt, hzr, hz1, _, _⟩ := zeroOf_sound hz
      obtain ⟨ti, hti, hts⟩ := tySz_info hsz
      rw [hti] at hby; simp at hby
      have rl := O.rep hl ht; have rc := O.rep hcp ht
      simp only [L.step] at h
      unfold mksliceV at h
      split at h
      · rename_i k1 n k2 c e1 e2
        rw [e1] at rl; rw [e2] at rc
        have hv := repI rl; have hv2 := repI rc
        obtain ⟨h0, h1, h2, h3, hK⟩ := h
        obtain ⟨g1, g2, g3⟩ := zero_holds (n := c.toNat) hzr hz1 hzl hpos
        rw [rowsOf_length] at g1
        have hcl : ∀ cs : Array Value, cs.toList.toArray = cs := fun cs => by apply Array.ext'; simp
        obtain ⟨q1, q2⟩ := arrAlloc_sound (H := H) hok hpos (Nat.le_refl c.toNat) (row := fun _ => zero) (vs := ((Array.range (c.toNat * sz)).map (z.cells[· % z.cells.size]!)).toList) (by simp)
          (fun i hi => hzl)
          (fun i j x hi hx => by
            have := (g2 i zero (rowsOf_get zero _ i hi)).2 j x hx
            rwa [Array.getElem?_toList]) g3 e
        rw [hcl] at q1 q2
        have hncN : n.toNat ≤ c.toNat := by omega
        refine .of_value (s := Instr.makeSlice t (a.eval ln) (a.eval cp)) (by simp only [execOp, hop]) ⟨.slice (some ⟨w.heap.size, 0, none⟩) n.toNat c.toNat, _, _, _, _, ?_, hK (w.heap.size, 0), ⟨hncN, _, rfl, (fun _ => by simp [adr]), fun h => by omega⟩, q1, q2⟩
        rw [hv, hv2]
        have hb' : (ti.bytes : Int) * c ≤ 281474976710656 := by rw [hby, Int.mul_comm]; omega
        obtain ⟨ti', hti', hzz⟩ := hzt
        rw [hti] at hti'; cases hti'
        have hrun := run_make (P := P) w t e ti z hu hti hzz k1 k2 n c h0 h1 hb' h2
        rw [hts] at hrun
        exact hrun
      · exact h.elim
    · cases hc
  · cases hc

theorem call_sound {P : Program} {o : Oper} {l : L} {ts : Tm} {a : Act} {H : Heap} {w : World} {K : LK} {c : Call} (hop : o.op = .call c) (hc : compL P (.call c) = some l) (hok : Ok H w) (ht : TmOk ts a) (h : l.step P ts H K) : Steps1 P a o H w K := by
  obtain ⟨callee, args, ats⟩ := c
  simp only [compL] at hc
  split at hc
  · rename_i f
    simp [Option.bind_eq_some_iff] at hc
    obtain ⟨os, hos, rfl⟩ := hc
    refine callV_sound hok (O.ofL_rep ht hos) (fun w' => ?_) h
    have he : Array.map a.eval args = (List.map a.eval args.toList).toArray := by apply Array.ext'; simp
    simp [execOp, hop, resolve, Act.eval, Deferred.ofValue, invoke]
    first | rw [he] | (rw [← he]; rfl)
  · rename_i g _
    simp [Option.bind_eq_some_iff] at hc
    obtain ⟨g', hg, os, hos, rfl⟩ := hc
    have rg := O.rep hg ht
    simp only [L.step] at h
    unfold callvV at h
    split at h
    · rename_i f caps e
      rw [e] at rg
      obtain ⟨cs, hv, hl⟩ := rg
      refine callV_sound hok ((O.ofL_rep ht hos).append hl) (fun w' => ?_) h
      have he : Array.map a.eval args ++ cs.toArray = (List.map a.eval args.toList ++ cs).toArray := by apply Array.ext'; simp
      simp [execOp, hop, resolve, hv, Deferred.ofValue, invoke]
      rw [he]
    · exact h.elim
  · rename_i b
    split at hc
    · rename_i x y t t' hargs hats
      split at hc
      · rename_i e e2 ht1 ht2
        simp only [Option.bind_eq_bind, Option.bind_eq_some_iff] at hc
        obtain ⟨sz, hsz, zero, hz, by_, hby, hc⟩ := hc
        split at hc
        · rename_i hcond
          simp at hcond
          obtain ⟨⟨hzl, hpos⟩, hb0⟩ := hcond
          simp only [Option.bind_eq_some_iff, Option.some.injEq] at hc
          obtain ⟨x', hx, y', hy, hc⟩ := hc
          subst hc
          have ha : args = #[x, y] := by apply Array.ext'; simpa using hargs
          have hb : ats = #[t, t'] := by apply Array.ext'; simpa using hats
          subst ha hb
          refine .of_value (s := Builtin.append_ #[t, t'] o.type #[a.eval x, a.eval y]) (by simp [execOp, hop, resolve, invoke, builtin]) ?_
          exact appendV_sound hok hpos ht1 ht2 hsz hz hzl hby hb0 (O.rep hx ht) (O.rep hy ht) h
        · cases hc
      · cases hc
    · rename_i x y t t' hargs hats
      split at hc
      · rename_i e e2 ht1 ht2
        simp only [Option.bind_eq_bind, Option.bind_eq_some_iff] at hc
        obtain ⟨sz, hsz, hc⟩ := hc
        split at hc
        · rename_i hpos
          simp only [Option.bind_eq_some_iff, Option.some.injEq] at hc
          obtain ⟨x', hx, y', hy, hc⟩ := hc
          subst hc
          have ha : args = #[x, y] := by apply Array.ext'; simpa using hargs
          have hb : ats = #[t, t'] := by apply Array.ext'; simpa using hats
          subst ha hb
          refine .of_value (s := Builtin.copy_ #[t, t'] o.type #[a.eval x, a.eval y]) (by simp [execOp, hop, resolve, invoke, builtin]) ?_
          exact copyV_sound hok hpos ht1 hsz (O.rep hx ht) (O.rep hy ht) h
        · cases hc
      · cases hc
    · cases hc
  · cases hc

theorem conv_sound {P : Program} {o : Oper} {l : L} {ts : Tm} {a : Act} {H : Heap} {w : World} {K : LK} {s d : TypeId} {x : Operand} (hop : o.op = .convert s d x) (hc : compConv P s d x = some l) (hok : Ok H w) (ht : TmOk ts a) (h : l.step P ts H K) : Steps1 P a o H w K := by
  unfold compConv at hc
  split at hc
  · rename_i e hs hd
    split at hc
    · rename_i he
      simp at hc
      obtain ⟨x', hx, rfl⟩ := hc
      have rx := O.rep hx ht
      simp only [L.step] at h
      unfold s2bV at h
      split at h
      · rename_i str ev
        rw [ev] at rx
        have hv : a.eval x = .string str := rx
        have hrun := run_bytes_of_string (P := P) w s d e str hs hd he
        have hge := grownCap_ge w str.size 0 e
        generalize grownCap w str.size 0 e = cap at hrun hge
        have hsz : (bytesRow str cap).size = cap := by
          simp [bytesRow]
          have : str.data.size = str.size := rfl
          omega
        have hal := hok.drew.allocF (bytesRow str cap) e ((bytesRow str cap).size, (bytesRow str cap).size + 1) (.inr (Nat.le_refl _)) (.arr (w.heap.size, 0) false 1 str.size cap (byteRow str)) rfl ⟨hge, fun i hi => rfl⟩ (by simp [Ent.size, hsz]) fun i hi => by
          simp only [Ent.size, Nat.mul_one] at hi
          have hget : (bytesRow str cap)[i]? = if i < str.size then some (.int .u8 ((str.data.toList.getD i 0).toNat : Int)) else some (.int .u8 0) := by
            have hds : str.data.size = str.size := rfl
            unfold bytesRow
            rw [Array.getElem?_append]
            simp only [Array.size_map, hds]
            split
            · rename_i hlt
              have h1 : str.data[i]? = some (str.data[i]'(by omega)) := Array.getElem?_eq_getElem _
              simp [h1, List.getD_eq_getElem?_getD]
            · rename_i hge2
              rw [Array.getElem?_replicate, if_pos (by omega)]
          rw [hget]
          simp only [Ent.cell, Nat.mul_one, Nat.div_one, Nat.mod_one]
          split
          · exact ⟨_, rfl, rfl, trivial⟩
          · exact ⟨_, rfl, trivial, trivial⟩
        refine .value (v := .slice (some ⟨w.heap.size, 0, none⟩) str.size cap) ?_ (h (w.heap.size, 0) cap hge) ⟨hge, _, rfl, (fun _ => by simp [adr]), fun h => by omega⟩ ((Goes.drew hok).trans hal) ((Kept.refl w _).drew.trans (Kept.alloc (S := fun _ => False) _) fun _ _ h => h.elim)
        simp [execOp, hop, hv, hrun]
      · exact h.elim
    · cases hc
  · rename_i e1 e hs hd
    split at hc
    · rename_i he
      split at hc
      · rename_i hsd
        have hsd : s = d := by simpa using hsd
        simp at hc
        obtain ⟨x', hx, rfl⟩ := hc
        have rx := O.rep hx ht
        simp only [L.step] at h
        unfold markV at h
        split at h
        · rename_i k b sz off ln cap ev
          rw [ev] at rx
          obtain ⟨hcap, hm, hK⟩ := h
          have rx2 := rx
          obtain ⟨hlc, A, hv, hA, _⟩ := rx
          have hA := hA hcap
          unfold markO at hm
          split at hm
          · rename_i ent hent
            obtain ⟨hro, hbase, hpos⟩ := hm
            obtain ⟨v, hcell, _⟩ := (hok.ent k ent hent).cell 0 hpos
            have hblk : ∃ c t f, w.heap[ent.base.1]? = some (.cells c t f) := by
              unfold World.cell? at hcell
              dsimp only [adr] at hcell
              cases hg : w.heap[ent.base.1]? with
              | none => rw [hg] at hcell; cases hcell
              | some ob =>
                rw [hg] at hcell
                cases ob <;> first | (cases hcell; done) | exact ⟨_, _, _, rfl⟩
            obtain ⟨c, t, f, hg⟩ := hblk
            obtain ⟨g1, g2⟩ := hok.mark hent hro hpos hg
            have hshape : w.shape? ent.base.1 = some (t, c.size) := by unfold World.shape?; rw [hg]
            subst hA
            refine .value (v := .slice (some (adr b (off * sz))) ln cap) ?_ hK (by rw [← hv]; exact rx2) g1 (g2 _ ⟨ent.base.2 + 0, k, by simp, ent, hent, hro, 0, hpos, rfl⟩)
            have hb1 : (adr b (off * sz)).block = ent.base.1 := by rw [hbase]; rfl
            subst hsd
            simp [execOp, hop, hv, convert, run_underlying hd, run_underlying he, markStringish, hb1, hshape]
          · exact hm.elim
        · exact h.elim
      · cases hc
    · cases hc
  · cases hc

set_option maxHeartbeats 1000000 in
theorem compL_sound {P : Program} {o : Oper} {l : L} {ts : Tm} {a : Act} {H : Heap} {w : World} {K : LK} (hc : compL P o.op = some l) (hok : Ok H w) (ht : TmOk ts a) (h : l.step P ts H K) : Steps1 P a o H w K := by
  obtain ⟨dst, op, type, pos, after, guard⟩ := o
  dsimp only at hc
  cases op
  case alloc e =>
    simp [compL] at hc; obtain ⟨zero, hz, rfl⟩ := hc
    obtain ⟨z, _, hzr, hz1, _, hzv⟩ := zeroOf_sound hz
    have hzl : z.cells.toList.toArray = z.cells := by apply Array.ext'; simp
    obtain ⟨g1, g2⟩ := alloc_sound hok hzr hz1 e
    refine .of_value (s := Instr.alloc e true (.tuple #[])) rfl ⟨.pointer (some ⟨w.heap.size, 0, none⟩), _, _, _, _, ?_, h (w.heap.size, 0), Rep.p_, g1, g2⟩
    simp [Instr.alloc, hzv, newVar, newRow]
  case box e x =>
    simp [compL] at hc; obtain ⟨x', hx, rfl⟩ := hc
    obtain ⟨ho, hK⟩ := h
    have rx := O.rep hx ht
    obtain ⟨hr, h1⟩ := cellsOf_rep rx ho
    obtain ⟨g1, g2⟩ := alloc_sound hok hr h1 e
    refine .of_value (s := Instr.box e (a.eval x)) rfl ⟨.pointer (some ⟨w.heap.size, 0, none⟩), _, _, _, _, ?_, hK (w.heap.size, 0), Rep.p_, g1, g2⟩
    simp [Instr.box, newVar, newRow]
  case store t x v =>
    simp [compL, Option.bind_eq_some_iff] at hc; obtain ⟨n, hn, x', hx, v', hv, rfl⟩ := hc
    obtain ⟨w', H', ws, q1, q2, q3, q4⟩ := storeV_sound (P := P) hok hn (O.rep hx ht) (O.rep hv ht) h
    exact .skip (by simp [execOp, q1]) q2 q3 q4
  case buildSlice t n parts => exact bslice_sound rfl hc hok ht h
  case makeSlice t ln cp => exact mkslice_sound rfl hc hok ht h
  case call c => exact call_sound rfl hc hok ht h
  case convert s d x => exact conv_sound rfl hc hok ht h
  all_goals (simp [compL] at hc)
end Go.Proofs.YtebjldkkdapbeaaGreatDoor.Eng
