/- The engine, part X8: copying; any operation that writes or makes memory or calls. -/
import Derived.Test.YtebjldkkdapbeaaGreatDoorEngX7
namespace Go.Proofs.YtebjldkkdapbeaaGreatDoor.Eng
open Go
section
variable {P : Program} {η : Env} {M : Mem} {w : World}

theorem RepL.takeMap {l : List FV} {cs : List Value} (h : RepL (l.map (FV.sv η)) cs) (n : Nat) : RepL ((l.take n).map (FV.sv η)) (cs.take n) := by
  have := h.take n
  rwa [← List.map_take] at this

theorem copyF_sound (hg : Good M η w) {t tx ty e e2 : TypeId} {sz : Nat} (hsz : 0 < sz) (ht : P.underlying t = some (.slice e)) (htx : P.underlying tx = some (.slice e2)) (hn : tySz P e = some sz)
    {x y : FV} {xv yv : Value} (hx : Rep (x.sv η) xv) (hy : Rep (y.sv η) yv) {c : FV} {M' : Mem} {ws : List Nat} (h : copyF M sz x y = some (c, M', ws)) :
    ∃ v sv H' ws' w', (Builtin.copy_ #[t, tx] ty #[xv, yv]).run P w = .ok v w' ∧ KL η M c M' ws sv H' ws' ∧ Rep sv v ∧ Goes (M.heap η) w H' w' ∧ Kept w w' (ownsK (M.heap η) ws') := by
  obtain ⟨ti, hti, hts⟩ := tySz_info hn
  unfold copyF at h
  split at h
  · rename_i m news k sz' off len cap hsrc
    obtain ⟨vs, hvs, hv1, hvr, hnl, hfst⟩ := srcF_sound hg htx hy hsz hsrc
    have hxs : ∃ a cp, xv = .slice a len cp ∧ len ≤ cp := by
      rcases rep_s hx with ⟨_, rfl, a, rfl⟩ | ⟨_, b, hb, hle, a, rfl, _⟩
      · exact ⟨a, 0, rfl, Nat.le_refl _⟩
      · exact ⟨a, _, rfl, hle⟩
    have hlen := hvs.len w
    split at h
    · rename_i hmin
      simp only [Option.some.injEq, Prod.mk.injEq] at h
      obtain ⟨rfl, rfl, rfl⟩ := h
      obtain ⟨a, cp, rfl, hle⟩ := hxs
      have hfirst := hfst 0 (Nat.zero_le _)
      simp only [Nat.zero_mul, List.take_zero] at hfirst
      refine ⟨.int .i64 0, .int .i64 0, _, _, w, ?_, ⟨rfl, .refl _ _, fun w' hok => ⟨η, .refl η, hg.s, Goes.refl hok, fun v hv => by simpa [FV.sv] using hv⟩⟩, rfl, Goes.refl hg.ok, Kept.refl _ _⟩
      have hmin' : min m len = 0 := hmin
      cases a <;> simp [Builtin.copy_, run_underlying ht, hlen, hmin', hfirst, sizeOf, typeInfo, hti, hts, storeCells, goInt]
    · rename_i n hmin
      split at h
      · cases h
      · rename_i hcap
        split at h
        · rename_i B cs hB hcs
          rw [cond_eq_ite] at h
          split at h
          · rename_i hc
            simp only [Bool.and_eq_true] at hc
            have c1 := Nat.eq_of_beq_eq_true hc.1
            have c2 := Nat.le_of_ble_eq_true hc.2
            subst c1
            simp only [Option.some.injEq, Prod.mk.injEq] at h
            obtain ⟨rfl, rfl, rfl⟩ := h
            rcases rep_s hx with ⟨h0, _⟩ | ⟨_, b, hb, hle, a, rfl, ha⟩
            · exact (hcap h0).elim
            · have hnm : n + 1 ≤ m ∧ n + 1 ≤ len := by
                have h1 : Nat.min m len ≤ m := Nat.min_le_left _ _
                have h2 : Nat.min m len ≤ len := Nat.min_le_right _ _
                omega
              have ha := ha (by omega)
              subst ha
              obtain ⟨b', hb', hent, ht1, ht2⟩ := hg.s.get hB
              rw [hb] at hb'; cases hb'
              have hkl := hg.s.below k B hB
              have r2 : off * sz' + (n + 1) * sz' ≤ B.cells.length := by rw [← Nat.add_mul]; exact c2
              have hpos : 0 < B.cells.length := by have := Nat.mul_pos (show 0 < n + 1 by omega) hsz; omega
              rw [Blk.ent_some hpos] at hent
              obtain ⟨k1, k2⟩ := takeF_eq hcs
              have hcl : cs.length = (n + 1) * sz' := by rw [k1, List.length_take]; omega
              have hrep := hvr.takeMap ((n + 1) * sz')
              rw [← k1] at hrep
              obtain ⟨s1, s2, s3, s4⟩ := setCells_lit hg.ok hent hrep (fun u hu => hv1 u (List.mem_of_mem_take hu)) (off := off * sz') (by simp; omega)
              have hst := run_storeCells_cells (P := P) b.1.1 (b.1.2 + off * sz') (vs.take ((n + 1) * sz')) 0 w (by simpa using s3) (by simpa using s4) (fun u hu => (hv1 u (List.mem_of_mem_take hu)).oneCell)
              simp only [Nat.add_zero] at hst
              have hfirst := hfst (n + 1) hnm.1
              refine ⟨.int .i64 ((n + 1 : Nat) : Int), .int .i64 ((n + 1 : Nat) : Int), _, _, _, ?_, ⟨rfl, .put hg.s hB (by simp [spliceF_length]) _, fun w' hok => ⟨η, .refl η, hg.s.turned hB (by simp [spliceF_length]) rfl, ?_, fun v hv => by simpa [FV.sv] using hv⟩⟩, rfl, s1, s2⟩
              · have hmin' : min m len = n + 1 := hmin
                simp [Builtin.copy_, run_underlying ht, hlen, hmin', hfirst, sizeOf, typeInfo, hti, hts, adr, hst, goInt]
              · rw [hg.s.heap_put hkl hb, spliceF_lit hpos (by omega)]
                exact Goes.refl hok
          · cases h
        · cases h
  · cases h

theorem KL.steps {a : Act} {o : Oper} {K : LK} {s : Sem Value} (hx : (execOp a.eval o).run P w = (do pure (Next.value (← s)) : Sem Next).run P w)
    (h : ∃ v sv H' ws w', s.run P w = .ok v w' ∧ K sv H' ws ∧ Rep sv v ∧ Goes (M.heap η) w H' w' ∧ Kept w w' (ownsK (M.heap η) ws)) : Steps1 P a o (M.heap η) w K := .of_value hx h

theorem evalL_sound {ts : FTm} (hg : Good M η w) (hs : Sat η ts) {call : CallF} (hcall : CallOk P call) {o : Oper} {l : L} {a : Act} (hc : compL P o.op = some l) (ht : TmOk (ts.sv η) a) {c : FV} {M' : Mem} {ws : List Nat} (h : evalL call l ts M = some (c, M', ws)) : Steps1 P a o (M.heap η) w (KL η M c M' ws) := by
  by_cases hap : ∃ sz by_ x y, l = .append sz by_ x y
  · obtain ⟨sz, by_, x, y, rfl⟩ := hap
    obtain ⟨dst, op, type, pos, after, guard⟩ := o
    dsimp only at hc
    cases op <;> simp [compL, Option.bind_eq_some_iff] at hc
    case convert => rcases compConv_is hc with ⟨_, h⟩ | ⟨_, h⟩ <;> cases h
    case buildSlice => split at hc <;> simp [Option.bind_eq_some_iff] at hc
    case makeSlice => split at hc <;> simp [Option.bind_eq_some_iff] at hc
    case call cl =>
      obtain ⟨callee, args, ats⟩ := cl
      dsimp only at hc
      split at hc
      · simp [Option.bind_eq_some_iff] at hc
      · simp [Option.bind_eq_some_iff] at hc
      · split at hc
        · rename_i x' y' t t' hargs hats
          split at hc
          · rename_i e e2 ht1 ht2
            simp only [Option.bind_eq_some_iff] at hc
            obtain ⟨sz', hsz, zero, hz, by', hby, hc⟩ := hc
            split at hc
            · rename_i hcond
              try simp at hcond
              obtain ⟨⟨hzl, hpos⟩, hb0⟩ := hcond
              simp only [Option.bind_eq_some_iff, Option.some.injEq] at hc
              obtain ⟨x'', hx, y'', hy, hc⟩ := hc
              cases hc
              have ha : args = #[x', y'] := by apply Array.ext'; simpa using hargs
              have hb : ats = #[t, t'] := by apply Array.ext'; simpa using hats
              subst ha hb
              refine .of_value (s := Builtin.append_ #[t, t'] type #[a.eval x', a.eval y']) (by simp [execOp, resolve, invoke, builtin]) ?_
              exact appendF_sound hg hpos ht1 ht2 hsz hz hzl hby hb0 (O.frep hx ht) (O.frep hy ht) h
            · cases hc
          · cases hc
        · split at hc
          · simp only [Option.bind_eq_some_iff] at hc
            obtain ⟨_, _, hc⟩ := hc
            split at hc <;> simp [Option.bind_eq_some_iff] at hc
          · cases hc
        · cases hc
      · cases hc
  · by_cases hcp : ∃ sz x y, l = .copy sz x y
    · obtain ⟨sz, x, y, rfl⟩ := hcp
      obtain ⟨dst, op, type, pos, after, guard⟩ := o
      dsimp only at hc
      cases op <;> simp [compL, Option.bind_eq_some_iff] at hc
      case convert => rcases compConv_is hc with ⟨_, h⟩ | ⟨_, h⟩ <;> cases h
      case buildSlice => split at hc <;> simp [Option.bind_eq_some_iff] at hc
      case makeSlice => split at hc <;> simp [Option.bind_eq_some_iff] at hc
      case call cl =>
        obtain ⟨callee, args, ats⟩ := cl
        dsimp only at hc
        split at hc
        · simp [Option.bind_eq_some_iff] at hc
        · simp [Option.bind_eq_some_iff] at hc
        · split at hc
          · split at hc
            · simp only [Option.bind_eq_some_iff] at hc
              obtain ⟨_, _, _, _, _, _, hc⟩ := hc
              split at hc <;> simp [Option.bind_eq_some_iff] at hc
            · cases hc
          · rename_i x' y' t t' hargs hats
            split at hc
            · rename_i e e2 ht1 ht2
              simp only [Option.bind_eq_some_iff] at hc
              obtain ⟨sz', hsz, hc⟩ := hc
              split at hc
              · rename_i hpos
                simp only [Option.bind_eq_some_iff, Option.some.injEq] at hc
                obtain ⟨x'', hx, y'', hy, hc⟩ := hc
                cases hc
                have ha : args = #[x', y'] := by apply Array.ext'; simpa using hargs
                have hb : ats = #[t, t'] := by apply Array.ext'; simpa using hats
                subst ha hb
                refine .of_value (s := Builtin.copy_ #[t, t'] type #[a.eval x', a.eval y']) (by simp [execOp, resolve, invoke, builtin]) ?_
                exact copyF_sound hg hpos ht1 ht2 hsz (O.frep hx ht) (O.frep hy ht) h
              · cases hc
            · cases hc
          · cases hc
        · cases hc
    · exact compL_sound hc hg.ok ht (evalL_step hg.s hs hcall h (fun sz b x y e => hap ⟨sz, b, x, y, e⟩) fun sz x y e => hcp ⟨sz, x, y, e⟩)
end
end Go.Proofs.YtebjldkkdapbeaaGreatDoor.Eng
