/- The engine, part M2: a region in whatever order; a whole body. -/
import Derived.Test.YtebjldkkdapbeaaGreatDoorEngM
namespace Go.Proofs.YtebjldkkdapbeaaGreatDoor.Eng
open Go

theorem SameAt.of_kept {H : Heap} {w w' : World} (hok : Ok H w) {ws ks : List Nat} (hk : Kept w w' (ownsK H ws)) (hd : ∀ k ∈ ks, ws.contains k = false) : SameAt H ks w w' := by
  intro k hk' e he i hi
  obtain ⟨v, h1, _⟩ := (hok.ent k e he).cell i hi
  rw [h1]
  refine hk.cell ?_ h1
  rintro ⟨k2, hk2, e2, he2, ho⟩
  have hne : k2 ≠ k := by
    intro h; subst h
    have := hd k2 hk'
    simp [hk2] at this
  exact hok.apart k2 k e2 e hne he2 he _ ho ⟨i, hi, rfl⟩

theorem SameAt.trans {H H' : Heap} {ks : List Nat} {w w' w'' : World} (h : SameAt H ks w w') (h2 : SameAt H' ks w' w'') (he : ∀ k ∈ ks, H'[k]? = H[k]?) : SameAt H ks w w'' := by
  intro k hk e hek i hi
  rw [h2 k hk e (by rw [he k hk]; exact hek) i hi]
  exact h k hk e hek i hi

/-- What floats, and what is watched for it. -/
def FloatOk (H : Heap) (w : World) (W : Watch) (F : Fl) : Prop :=
  ∀ x ∈ F, ∃ ks : List Nat, (ks = [] ∨ (x.1, ks) ∈ W) ∧ ∀ w', SameAt H ks w w' → x.2 w'

theorem keepK_spec {H H' : Heap} {ws : List Nat} : ∀ {ks : List Nat}, keepK H H' ws ks → ∀ k ∈ ks, ws.contains k = false ∧ H'[k]? = H[k]?
  | [], _, k, h => by cases h
  | k :: r, h, k', hk => by
    rcases List.mem_cons.1 hk with rfl | hk
    · exact ⟨h.1, h.2.1⟩
    · exact keepK_spec h.2.2 k' hk
theorem keepW_spec {H H' : Heap} {ws : List Nat} : ∀ {W : Watch}, keepW H H' ws W → ∀ x ∈ W, keepK H H' ws x.2
  | [], _, x, h => by cases h
  | y :: r, h, x, hx => by
    rcases List.mem_cons.1 hx with rfl | hx
    · exact h.1
    · exact keepW_spec h.2 x hx
theorem mem_dropW {aft : List Nat} : ∀ {W : Watch} {x : Nat × List Nat}, x ∈ W → aft.contains x.1 = false → x ∈ dropW aft W
  | [], x, h, _ => by cases h
  | y :: r, x, h, hn => by
    unfold dropW
    rcases List.mem_cons.1 h with rfl | h
    · rw [if_neg (by rw [hn]; exact Bool.false_ne_true)]; exact List.mem_cons_self
    · split
      · exact mem_dropW h hn
      · exact List.mem_cons_of_mem _ (mem_dropW h hn)
theorem mem_addW {j : Nat} {rs : List Nat} {W : Watch} : (∀ x ∈ W, x ∈ addW j rs W) ∧ (rs = [] ∨ (j, rs) ∈ addW j rs W) := by
  cases rs with
  | nil => exact ⟨fun x h => h, .inl rfl⟩
  | cons a r => exact ⟨fun x h => List.mem_cons_of_mem _ h, .inr List.mem_cons_self⟩

theorem waits_afts {P : Program} {ops : Array Oper} {j i : Nat} (h : waits ops .any j i = false) : (afts P ops j).contains i = false := by
  rw [Bool.eq_false_iff]
  intro hc
  rw [List.contains_iff_mem] at hc
  unfold afts at hc
  simp only [List.mem_filter, Bool.and_eq_true] at hc
  rw [h] at hc
  cases hc.2.2

theorem plan_wp {P : Program} {N : Nat} {ops : Array Oper} {Q : Exit → Act → World → Prop} (hQ : ∀ c a w, ¬ Q (.panic c) a w) (hsel : Region.noSelect ops = true) :
    ∀ (fuel : Nat) (listed : Array Bool) (p : Plan) (W : Watch) (F : Fl) (ts : Tm) (a : Act) (H : Heap) (w : World) (K : Tm → Heap → Prop), mkPlan P N ops fuel listed = some p → planV P p ts H W K → Ok H w → TmOk ts a → a.tmps.size = N → FloatOk H w W F → Closed .any ops listed →
      (∀ ts' H' a' w', K ts' H' → Goes H w H' w' → TmOk ts' a' → a'.tmps.size = N → a'.defers = a.defers → Q .normal a' w') → wpAnyF P .any ops Q fuel listed F a w := by
  intro fuel
  induction fuel with
  | zero =>
    intro listed p W F ts a H w K hp h hok ht hN _ _ hK
    simp only [mkPlan] at hp
    split at hp
    · rename_i hr
      cases hp
      exact ⟨by simpa using hr, hK ts H a w h (Goes.refl hok) ht hN rfl⟩
    · cases hp
  | succ fuel ih =>
    intro listed p W F ts a H w K hp h hok ht hN hF hcl hK
    -- one operation that is carried out now
    have loud : ∀ (j : Nat) (o : Oper) (ins : Ins) (r : Plan), j ∈ Region.ready .any ops listed → ops[j]? = some o → compIns P N ops o = some ins → ins.isQ = false → mkPlan P N ops fuel (listed.setIfInBounds j true) = some r → planV P (.one j (afts P ops j) ins r) ts H W K →
        wpOp P ops Q j (fun a' w' => (∀ x ∈ F, waits ops .any j x.1 = false → x.2 w') ∧ wpAnyF P .any ops Q fuel (listed.setIfInBounds j true) (F.filter fun x => !waits ops .any j x.1) a' w') a w := by
      intro j o ins r hjr ho hci hq hr hv
      unfold wpOp
      simp only [ho]
      have hv' : insV P ins ts H fun ts' H' _ ws => keepW H H' ws (dropW (afts P ops j) W) ∧ planV P r ts' H' (dropW (afts P ops j) W) K := by
        cases ins with
        | q => cases hq
        | l => exact hv
      have hgo := insV_wp (Q := Q) (next := fun a' w' => (∀ x ∈ F, waits ops .any j x.1 = false → x.2 w') ∧ wpAnyF P .any ops Q fuel (listed.setIfInBounds j true) (F.filter fun x => !waits ops .any j x.1) a' w')
        (compIns_is hci).1 hv' hok ht hN fun ts' H' rs ws a' w' hk hg hkept ht' hN' hd' => by
          obtain ⟨hkw, hpl⟩ := hk
          have step : ∀ x ∈ F, waits ops .any j x.1 = false → x.2 w' ∧ ∃ ks : List Nat, (ks = [] ∨ (x.1, ks) ∈ dropW (afts P ops j) W) ∧ ∀ w'', SameAt H' ks w' w'' → x.2 w'' := fun x hx hwt => by
            obtain ⟨ks, h1, h2⟩ := hF x hx
            rcases h1 with rfl | h1
            · exact ⟨h2 w' (fun k hk => by cases hk), [], .inl rfl, fun w'' _ => h2 w'' (fun k hk => by cases hk)⟩
            · have hm := mem_dropW h1 (waits_afts (P := P) hwt)
              have hs := keepK_spec (keepW_spec hkw _ hm)
              have hsame := SameAt.of_kept hok hkept fun k hk => (hs k hk).1
              exact ⟨h2 w' hsame, ks, .inr hm, fun w'' h3 => h2 w'' (hsame.trans h3 fun k hk => (hs k hk).2)⟩
          refine ⟨fun x hx hwt => (step x hx hwt).1, ih _ r _ _ ts' a' H' w' K hr hpl hg.ok ht' hN' (fun x hx => ?_) (hcl.set hjr) fun ts2 H2 a2 w2 hk2 hg2 ht2 hN2 hd2 => hK ts2 H2 a2 w2 hk2 (hg.trans hg2) ht2 hN2 (hd2.trans hd')⟩
          rw [List.mem_filter] at hx
          exact (step x hx.1 (by simpa using hx.2)).2
      split
      · rename_i hw; rw [if_pos hw] at hgo; exact .inl hgo
      · rename_i hw; rw [if_neg hw] at hgo; exact hgo
    simp only [mkPlan] at hp
    split at hp
    · -- what only looks is taken first
      rename_i i hfind
      have hmem := List.mem_of_find?_eq_some hfind
      have hisq := List.find?_some hfind
      cases hoi : ops[i]? with
      | none => rw [hoi] at hp; cases hp
      | some o =>
        rw [hoi] at hp hisq
        dsimp only at hp hisq
        split at hp
        · rename_i ins r hci hr
          cases hp
          simp only [Bool.and_eq_true] at hisq
          obtain ⟨his, hiq⟩ := compIns_is hci
          have hq := hiq.2 hisq.1
          cases his with
          | l => cases hq
          | bad => cases hq
          | q g x hc hd hg =>
            simp only [planV, insV] at h
            have hrr : (Region.ready .any ops listed).contains i = true := by simpa using hmem
            have hund : Rep (.v undef) undef := rfl
            have hFw : ∀ x ∈ F, x.2 w := fun x hx => by
              obtain ⟨ks, _, h2⟩ := hF x hx
              exact h2 w fun _ _ _ _ _ _ => rfl
            obtain ⟨ts1, ht1, ⟨hw, hr1⟩ | ⟨hw, hr1⟩⟩ := guardV_sound hg ht h
            · obtain ⟨v, sv, h1, h2, h3⟩ := compQ_sound hc hok ht1 hr1
              obtain ⟨q1, q2, q3⟩ := ht1.bind1 hN rfl hd h1
              refine wpAnyF_take (v := v) (C := fun w' => SameAt H (x.reads ts1) w w') hoi hcl hsel hisq.2 hrr (fun c a w hp => absurd hp (hQ _ _ _)) (.inl ⟨hw, h3⟩) (fun _ _ _ _ _ _ => rfl) hFw
                (ih _ r _ _ _ _ H w K hr h2 hok q1 q2 (fun y hy => ?_) (hcl.set hmem) fun ts' H' a' w' hk hg ht' hN' hd' => hK ts' H' a' w' hk hg ht' hN' (hd'.trans q3))
              obtain ⟨m1, m2⟩ := mem_addW (j := i) (rs := x.reads ts1) (W := W)
              rcases List.mem_cons.1 hy with rfl | hy
              · exact ⟨x.reads ts1, m2, fun w' hs => hs⟩
              · obtain ⟨ks, k1, k2⟩ := hF y hy
                exact ⟨ks, k1.imp id (m1 _), k2⟩
            · obtain ⟨q1, q2, q3⟩ := ht1.bind1 hN rfl hd hund
              refine wpAnyF_take (v := undef) (C := fun _ => True) hoi hcl hsel hisq.2 hrr (fun c a w hp => absurd hp (hQ _ _ _)) (.inr ⟨hw, rfl⟩) trivial hFw
                (ih _ r _ _ _ _ H w K hr hr1 hok q1 q2 (fun y hy => ?_) (hcl.set hmem) fun ts' H' a' w' hk hg ht' hN' hd' => hK ts' H' a' w' hk hg ht' hN' (hd'.trans q3))
              rcases List.mem_cons.1 hy with rfl | hy
              · exact ⟨[], .inl rfl, fun _ _ => trivial⟩
              · obtain ⟨ks, k1, k2⟩ := hF y hy
                exact ⟨ks, k1, k2⟩
        · cases hp
    · rename_i hfind
      split at hp
      · rename_i hr
        cases hp
        exact ⟨fun _ => hK ts H a w h (Goes.refl hok) ht hN rfl, (by rw [hr]; intro i hi; cases hi)⟩
      · rename_i i hr
        cases hoi : ops[i]? with
        | none => rw [hoi] at hp; cases hp
        | some o =>
          rw [hoi] at hp
          dsimp only at hp
          split at hp
          · rename_i ins r hci hrp
            split at hp
            · cases hp
            · rename_i hnq
              cases hp
              refine ⟨(by rw [hr]; intro hh; cases hh), fun j hj => ?_⟩
              rw [hr] at hj
              simp at hj; subst hj
              exact loud j o ins r (by rw [hr]; simp) hoi hci (by simpa using hnq) hrp h
          · cases hp
      · rename_i i j hr
        cases hoi : ops[i]? with
        | none => rw [hoi] at hp; cases hp
        | some o =>
          cases hoj : ops[j]? with
          | none => rw [hoi, hoj] at hp; dsimp only at hp; split at hp <;> first | (rename_i hx; cases hx; done) | (cases hp; done)
          | some o2 =>
            rw [hoi, hoj] at hp
            dsimp only at hp
            split at hp
            · rename_i p1 p2 hp1 hp2
              cases hp
              split at hp1
              · rename_i ins1 r1 hc1 hr1
                split at hp2
                · rename_i ins2 r2 hc2 hr2
                  split at hp1
                  · cases hp1
                  · rename_i hn1
                    split at hp2
                    · cases hp2
                    · rename_i hn2
                      cases hp1; cases hp2
                      refine ⟨(by rw [hr]; intro hh; cases hh), fun k hk => ?_⟩
                      rw [hr] at hk
                      simp at hk
                      rcases hk with rfl | rfl
                      · exact loud k o ins1 r1 (by rw [hr]; simp) hoi hc1 (by simpa using hn1) hr1 h.1
                      · exact loud k o2 ins2 r2 (by rw [hr]; simp) hoj hc2 (by simpa using hn2) hr2 h.2
                · cases hp2
              · cases hp1
            · cases hp
      · cases hp
end Go.Proofs.YtebjldkkdapbeaaGreatDoor.Eng
