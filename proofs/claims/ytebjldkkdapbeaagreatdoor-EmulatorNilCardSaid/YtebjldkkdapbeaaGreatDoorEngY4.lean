/- The engine, part Y4: the canonical order serves for every order: the proof. -/
import Derived.Test.YtebjldkkdapbeaaGreatDoorEngY3
namespace Go.Proofs.YtebjldkkdapbeaaGreatDoor.Eng
open Go

section
variable {P : Program}

theorem evalPlanL_wp {call : CallF} (hcall : CallOk P call) {N n0 : Nat} {ops : Array Oper} {Q : Exit → Act → World → Prop} (hQ : ∀ c a w, ¬ Q (.panic c) a w) (hsel : Region.noSelect ops = true) (hdN : dstsOk N ops = true)
    {M0 : Mem} {η0 : Env} {w0 : World} (hg0 : GoodS M0 η0) (hn0 : n0 = M0.next) {ts2 : FTm} {M2 : Mem} {L2 : List Nat} :
    ∀ (fuel : Nat) (listed : Array Bool) (p : Plan) (W : Watch) (ts : FTm) (M : Mem) (L : List Nat), mkPlanL P N ops fuel listed = some p → evalPlan call n0 p ts M W L = some (ts2, M2, L2) →
      ∀ (fA : Nat) (lA : Array Bool) (F : Fl) (a : Act) (w : World) (η : Env) (E : List Ely), Inv P N ops M0 η0 w0 listed ts M η W L fA lA F a w E →
      (∀ η' a' w', Go2 M0 η0 w0 M2 η' w' L2 → TmOk (ts2.sv η') a' → a'.tmps.size = N → a'.defers = a.defers → Q .normal a' w') → wpAnyF P .any ops Q fA lA F a w := by
  intro fuel
  induction fuel with
  | zero =>
    intro listed p W ts M L hp h fA lA F a w η E hI hK
    simp only [mkPlanL] at hp
    split at hp
    · rename_i hr
      cases hp
      simp only [evalPlan, Option.some.injEq, Prod.mk.injEq] at h
      obtain ⟨rfl, rfl, rfl⟩ := h
      obtain ⟨_, hrA⟩ := hI.done (by simpa using hr)
      have hQn := hK η a w hI.go hI.tm hI.sz rfl
      cases fA with
      | zero => exact ⟨hrA, hQn⟩
      | succ fA => exact ⟨fun _ => hQn, by rw [hrA]; intro i hi; cases hi⟩
    · cases hp
  | succ fuel ih =>
    intro listed p W ts M L hp h fA lA F a w η E hI hK
    simp only [mkPlanL] at hp
    split at hp
    · -- what only looks is taken first
      rename_i i hfind
      have hmem := List.mem_of_find?_eq_some hfind
      have hisq := List.find?_some hfind
      cases hoi : ops[i]? with
      | none => rw [hoi] at hp; cases hp
      | some o =>
        rw [hoi] at hp hisq
        dsimp only at hp hisq
        split at hp
        · rename_i ins r hci hr
          cases hp
          simp only [Bool.and_eq_true] at hisq
          obtain ⟨his, hiq⟩ := compIns_is hci
          have hq := hiq.2 hisq.1
          have hiE : i ∉ E.map Ely.i := fun hi => by
            rw [List.mem_map] at hi
            obtain ⟨e, he, rfl⟩ := hi
            obtain ⟨o', ho', _, hq', _⟩ := makerAt_spec (hI.al e he)
            rw [hoi] at ho'; cases ho'
            rw [hq'] at hisq; cases hisq.1
          have hun := hI.unlisted hmem hiE
          have hlt := ready_lt hmem
          have hset := unl_set hun hlt
          have hfu := hI.fu
          obtain ⟨fA', rfl⟩ : ∃ fA', fA = fA' + 1 := ⟨fA - 1, by omega⟩
          cases his with
          | l => cases hq
          | bad => cases hq
          | q g x hc hd hgd =>
            simp only [evalPlan, evalIns] at h
            have hrr : (Region.ready .any ops lA).contains i = true := by simpa using hI.ready hmem hiE
            have hfree : Region.free .any ops lA i = true := free_sub (fun _ => hI.sub) hisq.2
            have hund : Rep ((FV.v undef).sv η) undef := rfl
            have hFw : ∀ y ∈ F, y.2 w := fun y hy => by
              obtain ⟨ks, _, h2⟩ := hI.fl.1 y hy
              exact h2 w fun _ _ _ _ _ _ => rfl
            have mk : ∀ (c : FV) (v : Value) (C : World → Prop) (rs : List Nat), Rep (c.sv η) v → (∀ k ∈ rs, k < M.next ∧ Alive M k) → (∀ w', SameE η rs w w' → C w') →
                Inv P N ops M0 η0 w0 (listed.setIfInBounds i true) (bindF ts o.dst c) M η (addW i rs W) L fA' (lA.setIfInBounds i true) ((i, C) :: F) (a.put o.dst v) w E := fun c v C rs hr hrs hC => by
              obtain ⟨q1, q2, q3⟩ := TmOk.bindF hI.tm hI.sz rfl hd hr
              obtain ⟨m1, m2⟩ := mem_addW (j := i) (rs := rs) (W := W)
              obtain ⟨pm, pt⟩ := hI.put_mk hsel hoi hmem hiE v
              refine ⟨hI.go, hI.ex, q1, q2, ⟨fun y hy => ?_, fun y hy k hk => ?_⟩, hI.la', ⟨by simp [hI.ss.1], by simp [hI.ss.2]⟩, hI.nd, fun e he => ready_mono (hI.rd e he) fun h1 => hiE (by rw [← h1]; exact List.mem_map_of_mem he), hI.nb, hI.al, pm, hI.fr', pt, fun y hy e he => ?_, by omega, ⟨hI.cl.1.set hmem, hI.cl.2.set (hI.ready hmem hiE)⟩⟩
              · rcases List.mem_cons.1 hy with rfl | hy
                · exact ⟨rs, m2, hC⟩
                · obtain ⟨ks, k1, k2⟩ := hI.fl.1 y hy
                  exact ⟨ks, k1.imp id (m1 _), k2⟩
              · rcases mem_of_addW hy with hy | rfl
                · exact hI.fl.2 y hy k hk
                · exact hrs k hk
              · rcases List.mem_cons.1 hy with rfl | hy
                · exact waits_unlisted hI.cl.1 (hI.rd e he) (mem_ready.1 hmem).1
                · exact hI.nw y hy e he
            have hdef : ∀ v, (a.put o.dst v).defers = a.defers := fun v => by cases o.dst <;> rfl
            cases hgu : guardF ts g with
            | none => rw [hgu] at h; cases h
            | some b =>
              have hw := guardF_sound hgd hI.tm hgu
              rw [hgu] at h
              dsimp only at h
              cases b with
              | true =>
                rw [cond_true] at h
                cases hqe : evalQ x ts M with
                | none => rw [hqe] at h; cases h
                | some c =>
                  rw [hqe] at h
                  dsimp only at h
                  obtain ⟨hrd1, hrd2⟩ := readsF_sv hI.go.gs (sat_of hI.tm) hqe
                  obtain ⟨v, sv, h1, h2, h3⟩ := compQ_sound hc hI.go.goes.ok hI.tm (evalQ_sound hI.go.gs (sat_of hI.tm) hqe)
                  rw [hrd1] at h3
                  exact wpAnyF_take (v := v) (C := fun w' => SameE η (readsF x ts) w w') hoi hI.cl.2 hsel hfree hrr (fun c a w hp => absurd hp (hQ _ _ _)) (.inl ⟨hw, fun w' hs => h3 w' (hs.at hI.go.gs)⟩) (fun _ _ _ _ _ _ => rfl) hFw
                    (ih _ r _ _ _ _ hr h fA' _ _ _ w η E (mk c v _ _ (h2 v h1) hrd2 fun w' hs => hs) fun η' a' w' hk ht' hN' hd' => hK η' a' w' hk ht' hN' (hd'.trans (hdef _)))
              | false =>
                rw [cond_false] at h
                dsimp only at h
                exact wpAnyF_take (v := undef) (C := fun _ => True) hoi hI.cl.2 hsel hfree hrr (fun c a w hp => absurd hp (hQ _ _ _)) (.inr ⟨hw, rfl⟩) trivial hFw
                  (ih _ r _ _ _ _ hr h fA' _ _ _ w η E (mk (.v undef) undef _ [] hund (fun k hk => by cases hk) fun _ _ => trivial) fun η' a' w' hk ht' hN' hd' => hK η' a' w' hk ht' hN' (hd'.trans (hdef _)))
        · cases hp
    · rename_i hfind
      split at hp
      · rename_i hr
        cases hp
        simp only [evalPlan, Option.some.injEq, Prod.mk.injEq] at h
        obtain ⟨rfl, rfl, rfl⟩ := h
        obtain ⟨_, hrA⟩ := hI.done hr
        have hQn := hK η a w hI.go hI.tm hI.sz rfl
        cases fA with
        | zero => exact ⟨hrA, hQn⟩
        | succ fA => exact ⟨fun _ => hQn, by rw [hrA]; intro i hi; cases hi⟩
      · split at hp
        · rename_i i off hpick
          obtain ⟨hirs, hrsall, hoffall⟩ := pickL_spec hpick
          split at hp
          · rename_i hchk
            simp only [Bool.and_eq_true] at hchk
            obtain ⟨hchk, hfree⟩ := hchk
            cases hoi : ops[i]? with
            | none => rw [hoi] at hp; cases hp
            | some o =>
              rw [hoi] at hp
              dsimp only at hp
              split at hp
              · rename_i ins r hci hrp
                split at hp
                · cases hp
                · rename_i hnq
                  cases hp
                  have hnq : ins.isQ = false := by simpa using hnq
                  simp only [evalPlan] at h
                  rw [cond_eq_ite] at h
                  split at h
                  rotate_left
                  · cases h
                  rename_i hlate
                  -- what is put off is forgotten
                  have hmk : ∀ k ∈ off, ∀ o', ops[k]? = some o' → ∃ l cells, makerAt P ops k = some l ∧ evalMk l ts = some cells ∧ ∀ t, o'.dst = some t → (forgetF (lateOf P ops off) ts).get t = .any := fun k hk o' ho' => by
                    obtain ⟨_, hkm⟩ := hoffall k hk
                    unfold isMk at hkm
                    obtain ⟨l, hl⟩ := Option.isSome_iff_exists.1 hkm
                    have hin : (dstAt ops k, l) ∈ lateOf P ops off := by
                      unfold lateOf
                      rw [List.mem_filterMap]
                      exact ⟨k, hk, by rw [hl]; rfl⟩
                    obtain ⟨cells, hcells⟩ := lateOk_spec hlate _ hin
                    refine ⟨l, cells, hl, hcells, fun t ht => ?_⟩
                    rw [forgetF_get, if_pos]
                    rw [List.mem_map]
                    exact ⟨_, hin, by simp [dstAt, ho', ht]⟩
                  have hrun : ∀ k ∈ off, ∀ o', ops[k]? = some o' → ∃ (l : Eng.L) (vs : List Value) (t : TypeId), makerAt P ops k = some l ∧ (∀ u ∈ vs, One u) ∧ (∀ w, (execOp a.eval o').run P w = .ok (.value (makeVal l (w.heap.size, 0))) (w.alloc (.cells vs.toArray t))) := fun k hk o' ho' => by
                    obtain ⟨l, cells, h1, h2, _⟩ := hmk k hk o' ho'
                    obtain ⟨o2, ho2, _, _, hcl, hm, _⟩ := makerAt_spec h1
                    rw [ho'] at ho2; cases ho2
                    obtain ⟨vs, t, _, h4, h5⟩ := maker_run (P := P) (o := o') hm hcl hI.tm h2
                    exact ⟨l, vs, t, h1, h4, h5⟩
                  have hany : ∀ k ∈ off, ∀ o', ops[k]? = some o' → ∀ t, o'.dst = some t → (forgetF (lateOf P ops off) ts).get t = .any := fun k hk o' ho' => by
                    obtain ⟨_, _, _, _, h⟩ := hmk k hk o' ho'
                    exact h
                  have hfr : ∀ k ∈ off, Region.free .any ops listed k = true := fun k hk => List.all_eq_true.1 hfree k hk
                  have hI1 : Inv P N ops M0 η0 w0 listed (forgetF (lateOf P ops off) ts) M η W L fA lA F a w E := { hI with tm := hI.tm.forgetF _ }
                  clear hI hmk hlate
                  generalize forgetF (lateOf P ops off) ts = ts1 at h hany hI1
                  split at h
                  · rename_i x hx
                    split at h
                    · cases hnq
                    · rw [cond_eq_ite] at h
                      split at h
                      · rename_i dd gg xx hwatch
                        clear hfind
                        induction fA generalizing lA F a w E with
                        | zero =>
                          have hiE : i ∈ E.map Ely.i := by
                            apply Classical.byContradiction
                            intro hiE
                            have := unl_pos (hI1.unlisted hirs hiE) (ready_lt hirs)
                            have := hI1.fu
                            omega
                          rw [List.mem_map] at hiE
                          obtain ⟨e, he, rfl⟩ := hiE
                          obtain ⟨E1, E2, rfl⟩ := List.append_of_mem he
                          obtain ⟨o', ho', hgn, hqn, hln, hmn, _⟩ := makerAt_spec (hI1.al e he)
                          rw [hoi] at ho'; cases ho'
                          have hins := maker_is hqn hln hgn hci
                          rw [hins] at hx
                          simp only [evalIns, guardF, cond_true] at hx
                          split at hx
                          · rename_i c M' ws hx1
                            obtain ⟨cells, hcells, hsm, rfl, rfl, rfl⟩ := maker_eval hmn hx1
                            simp only [Option.some.injEq] at hx
                            subst hx
                            exact ih _ r _ _ _ _ hrp h 0 lA F a w _ (E1 ++ E2) (hI1.catch hcells hsm hoi hmn hln) hK
                          · cases hx
                        | succ fA ihA =>
                          by_cases hiE : i ∈ E.map Ely.i
                          · rw [List.mem_map] at hiE
                            obtain ⟨e, he, rfl⟩ := hiE
                            obtain ⟨E1, E2, rfl⟩ := List.append_of_mem he
                            obtain ⟨o', ho', hgn, hqn, hln, hmn, _⟩ := makerAt_spec (hI1.al e he)
                            rw [hoi] at ho'; cases ho'
                            have hins := maker_is hqn hln hgn hci
                            rw [hins] at hx
                            simp only [evalIns, guardF, cond_true] at hx
                            split at hx
                            · rename_i c M' ws hx1
                              obtain ⟨cells, hcells, hsm, rfl, rfl, rfl⟩ := maker_eval hmn hx1
                              simp only [Option.some.injEq] at hx
                              subst hx
                              exact ih _ r _ _ _ _ hrp h (fA + 1) lA F a w _ (E1 ++ E2) (hI1.catch hcells hsm hoi hmn hln) hK
                            · cases hx
                          · have hir := hI1.ready hirs hiE
                            refine ⟨fun h0 => (by rw [h0] at hir; cases hir), fun j hj => ?_⟩
                            have hjrs : j = i ∨ j ∈ off := by
                              by_cases hjo : j ∈ off
                              · exact .inr hjo
                              · have hlj := (mem_ready.1 hj).1
                                rw [hI1.la j] at hlj
                                simp only [Bool.or_eq_false_iff] at hlj
                                have h1 : j ∈ Region.ready .any ops (listAll listed off) := by
                                  refine ready_sub (by rw [listAll_size, hI1.ss.1, hI1.ss.2]) (fun k hk => ?_) hj (by rw [listAll_getD, hlj.1]; simpa using hjo)
                                  rw [hI1.la k] at hk
                                  rw [listAll_getD]
                                  simp only [Bool.or_eq_true] at hk ⊢
                                  refine hk.imp id fun hk => ?_
                                  have hkE : k ∈ E.map Ely.i := by simpa using hk
                                  have hkr : k ∈ Region.ready .any ops listed := by
                                    rw [List.mem_map] at hkE
                                    obtain ⟨e, he, rfl⟩ := hkE
                                    exact hI1.rd e he
                                  rcases hrsall k hkr with rfl | h2
                                  · exact absurd hkE hiE
                                  · simpa using h2
                                have h2 := List.all_eq_true.1 hchk j h1
                                exact hrsall j (by simpa using h2)
                            have hjE : j ∉ E.map Ely.i := fun hjE => by
                              have := (mem_ready.1 hj).1
                              rw [hI1.la j] at this
                              simp only [Bool.or_eq_false_iff] at this
                              rw [List.contains_iff_mem.2 hjE] at this
                              cases this.2
                            by_cases hji : j = i
                            · subst hji
                              have hset := unl_set (hI1.unlisted hirs hjE) (ready_lt hirs)
                              have hfu := hI1.fu
                              unfold wpOp
                              simp only [hoi]
                              have hgo' := evalIns_wp hcall (Q := Q) (next := fun a' w' => (∀ x ∈ F, waits ops .any j x.1 = false → x.2 w') ∧ wpAnyF P .any ops Q fA (lA.setIfInBounds j true) (F.filter fun x => !waits ops .any j x.1) a' w')
                                (compIns_is hci).1 hx hI1.go.good hI1.tm hI1.sz fun η' v w' hg2 ht' hN' hd' => by
                                  have hfl := FloatE.kept (W' := dropW (afts P ops j) W) (F' := F.filter fun x => !waits ops .any j x.1) hI1.fl hI1.go.good hg2
                                    (fun x hx => by
                                      obtain ⟨h1, h2⟩ := List.mem_filter.1 hx
                                      exact ⟨h1, fun ks hks => mem_dropW hks (waits_afts (P := P) (by simpa using h2))⟩)
                                    (fun x hx => ⟨mem_of_dropW hx, fun k hk => watchOk_spec hwatch x hx k hk⟩)
                                  refine ⟨fun y hy hwt => hfl.2 y (List.mem_filter.2 ⟨hy, by simp [hwt]⟩), ih _ r _ _ _ _ hrp h fA _ _ _ w' η' E
                                    ⟨hI1.go.trans hg0 hg2 (fun k hk => logF_old hk) fun k hk hlt => logF_new hk (by rw [hn0]; exact hlt), Ok.frame hI1.ex hg2.goes (lits_ro _) (Mem.heap_ro _ _), ht', hN', hfl.1, hI1.la', ⟨by simp [hI1.ss.1], by simp [hI1.ss.2]⟩, hI1.nd,
                                      fun e he => ready_mono (hI1.rd e he) fun h1 => hjE (by rw [← h1]; exact List.mem_map_of_mem he), hI1.nb, hI1.al, (hI1.put_mk hsel hoi hirs hjE v).1, hI1.fr', (hI1.put_mk hsel hoi hirs hjE v).2, fun y hy e he => hI1.nw y (List.mem_filter.1 hy).1 e he, by omega, ⟨hI1.cl.1.set hirs, hI1.cl.2.set hir⟩⟩
                                    fun η2 a2 w2 hk2 ht2 hN2 hd2 => hK η2 a2 w2 hk2 ht2 hN2 (hd2.trans hd')⟩
                              split
                              · rename_i hw; rw [if_pos hw] at hgo'; exact .inl hgo'
                              · rename_i hw; rw [if_neg hw] at hgo'; exact hgo'
                            · have hjo := hjrs.resolve_left hji
                              obtain ⟨hjr, hja⟩ := hoffall j hjo
                              unfold isMk at hja
                              have hlt := ready_lt hjr
                              obtain ⟨oj, hoj⟩ : ∃ oj, ops[j]? = some oj := ⟨ops[j], Array.getElem?_eq_getElem hlt⟩
                              obtain ⟨l, vs, t, hz, hone, hrn⟩ := hrun j hjo oj hoj
                              obtain ⟨o2, ho2, hgn, _⟩ := makerAt_spec hz
                              rw [hoj] at ho2; cases ho2
                              unfold wpOp
                              simp only [hoj]
                              have hw : Region.wanted oj (yielded ops a.tmps) = true := by unfold Region.wanted; rw [hgn]
                              rw [if_pos hw]
                              obtain ⟨k1, k2⟩ := hI1.earlier hsel hjr hjE hz hoj (hfr j hjo) (hany j hjo oj hoj) (dstsOk_spec hdN hoj) hone hrn
                              have hdef : ∀ v, (a.put oj.dst v).defers = a.defers := fun v => by cases oj.dst <;> rfl
                              have hrun' : ∀ k ∈ off, ∀ o', ops[k]? = some o' → ∃ (l' : Eng.L) (vs : List Value) (t : TypeId), makerAt P ops k = some l' ∧ (∀ u ∈ vs, One u) ∧ (∀ w', (execOp (a.put oj.dst (makeVal l (w.heap.size, 0))).eval o').run P w' = .ok (.value (makeVal l' (w'.heap.size, 0))) (w'.alloc (.cells vs.toArray t))) := fun k hk o' ho' => by
                                obtain ⟨l2, vs2, t2, q1, q2, q3⟩ := hrun k hk o' ho'
                                refine ⟨l2, vs2, t2, q1, q2, fun w => ?_⟩
                                have hnot : ∀ d, oj.dst = some d → d ∉ o'.looksAt ops := by
                                  by_cases hkj : k = j
                                  · subst hkj
                                    rw [hoj] at ho'; cases ho'
                                    obtain ⟨o3, ho3, _, _, _, _, hs⟩ := makerAt_spec hz
                                    rw [hoj] at ho3; cases ho3
                                    exact hs
                                  · exact (Oper.apart_spec (apart_of (hfr k hk) ho' hoj (Ne.symm hkj) hjr (mem_ready.1 (hoffall k hk).1).1)).2.2
                                rw [execOp_put o' (fun cs b => Region.noSelect_spec hsel k o' cs b ho') a oj.dst _ hnot]
                                exact q3 w
                              refine .inl ?_
                              unfold Oper.wp
                              rw [hrn w]
                              exact ⟨fun y hy hwt => k1 y (List.mem_filter.2 ⟨hy, by simp [hwt]⟩), ihA _ _ _ _ _ (fun η2 a2 w2 hk2 ht2 hN2 hd2 => hK η2 a2 w2 hk2 ht2 hN2 (hd2.trans (hdef _))) hrun' k2⟩
                      · cases h
                  · cases h
              · cases hp
          · cases hp
        · cases hp
end
end Go.Proofs.YtebjldkkdapbeaaGreatDoor.Eng
