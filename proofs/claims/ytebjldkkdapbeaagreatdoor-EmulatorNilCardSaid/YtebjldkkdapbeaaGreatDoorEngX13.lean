/- The engine, part X13: calls by the reckoning. -/
import Derived.Test.YtebjldkkdapbeaaGreatDoorEngX12
namespace Go.Proofs.YtebjldkkdapbeaaGreatDoor.Eng
open Go
section
variable {P : Program}

theorem loadV_mono {H : Heap} {x : SV} {n : Nat} {ag : Bool} {K K' : SV → Prop} (h : loadV H x n ag K) (hk : ∀ sv, K sv → K' sv) : loadV H x n ag K' := by
  unfold loadV at h ⊢
  cases x <;> simp only at h ⊢
  case p k b off =>
    unfold loadO at h ⊢
    cases hh : H[k]? with
    | none => rw [hh] at h; exact h
    | some e =>
      rw [hh] at h
      simp only at h ⊢
      unfold loadE at h ⊢
      cases e <;> simp only at h ⊢
      case lit => exact ⟨h.1, h.2.1, hk _ h.2.2⟩
      all_goals exact h
  case e k b sz i j =>
    unfold loadO at h ⊢
    cases hh : H[k]? with
    | none => rw [hh] at h; exact h
    | some e =>
      rw [hh] at h
      simp only at h ⊢
      unfold loadE at h ⊢
      cases e <;> simp only at h ⊢
      case arr => exact ⟨h.1, h.2.1, h.2.2.1, h.2.2.2.1, hk _ h.2.2.2.2⟩
      all_goals exact h

theorem evalRes_sound {η : Env} {M : Mem} (hg : GoodS M η) {ts : FTm} (hs : Sat η ts) : ∀ (rs : List Res) {l : List FV} {K : List SV → Prop}, evalRes ts M rs = some l → (∀ svs, (∀ vs, RepL svs vs → RepL (l.map (FV.sv η)) vs) → K svs) → resV (ts.sv η) (M.heap η) rs K
  | [], l, K, h, hk => by
    simp only [evalRes, Option.some.injEq] at h; subst h
    exact hk [] fun vs h => h
  | .t n :: r, l, K, h, hk => by
    simp only [evalRes] at h
    split at h
    · rename_i l' hl
      cases h
      refine evalRes_sound hg hs r hl fun svs hsv => hk _ fun vs hvs => ?_
      cases vs with
      | nil => simp [RepL] at hvs
      | cons v vs =>
        simp only [RepL, List.map_cons] at hvs ⊢
        rw [FTm.get_sv] at hvs
        exact ⟨hvs.1, hsv vs hvs.2⟩
    · cases h
  | .cell n sz ag :: r, l, K, h, hk => by
    simp only [evalRes] at h
    split at h
    · rename_i c hc
      split at h
      · rename_i l' hl
        cases h
        refine loadV_mono (loadF_sound hg hs (x := .t n) hc) fun sv hsv => evalRes_sound hg hs r hl fun svs hsvs => hk _ fun vs hvs => ?_
        cases vs with
        | nil => simp [RepL] at hvs
        | cons v vs =>
          simp only [RepL, List.map_cons] at hvs ⊢
          exact ⟨hsv v hvs.1, hsvs vs hvs.2⟩
      · cases h
    · cases h

theorem resOneF_sv (η : Env) (l : List FV) : resOne (l.map (FV.sv η)) = (resOneF l).sv η := by
  match l with
  | [] => simp [resOne, resOneF, FV.sv, FV.svL]
  | [x] => simp [resOne, resOneF]
  | x :: y :: l => simp [resOne, resOneF, FV.sv, FV.svL_map]

theorem argF_sv (η : Env) : ∀ (l : List FV) (n : Nat), (argF l n).sv η = argTm (l.map (FV.sv η)) n
  | [], n => rfl
  | x :: l, n => by simp [argF, argTm, FTm.sv, argF_sv η l (n + 1)]

theorem argTm_ok {args : List SV} {argv : List Value} (hr : RepL args argv) {n : Nat} (hlen : args.length ≤ n) : TmOk (argTm args 0) { tmps := argv.toArray ++ Array.replicate (n - argv.toArray.size) undef, defers := [] } := by
  have hal := hr.length
  intro t
  rw [argTm_get]
  split
  · rename_i ht
    simp only [Nat.zero_le, true_and, Nat.zero_add, Nat.sub_zero] at ht ⊢
    have hx : args[t]? = some (args[t]'ht) := List.getElem?_eq_getElem ht
    obtain ⟨y, hy, hry⟩ := hr.get t _ hx
    have hlt : t < argv.length := by omega
    have hgo : (argv.toArray ++ Array.replicate (n - argv.toArray.size) undef).getD t undef = y := by
      have : argv[t]? = some y := hy
      simp [Array.getElem?_append, hlt]
      rw [List.getElem?_eq_getElem hlt] at this
      simpa using this
    rw [List.getD_eq_getElem?_getD, hx]
    show Rep _ ((argv.toArray ++ Array.replicate (n - argv.toArray.size) undef).getD t undef)
    rw [hgo]
    exact hry
  · trivial

/-- What a call comes to. -/
def Call2 (P : Program) (call : CallF) : Prop := ∀ f args M c M' ws, call f args M = some (c, M', ws) → Callable P f ∧
  ∀ (η : Env) (w : World) (argv : List Value), Good M η w → RepL (args.map (FV.sv η)) argv → Calls P f argv.toArray w fun e w' =>
    ∃ v η', e = .returned v ∧ Go2 M η w M' η' w' ws ∧ Rep (c.sv η') v

theorem evalCall_ok (hm : P.follows .mixedOrders = true) {T : Nat → Option FnE} (hT : TblOk P T) (lf : Nat) : ∀ d, Call2 P (evalCall T lf d)
  | 0 => fun _ _ _ _ _ _ h => (by cases h)
  | d + 1 => by
    have ih := evalCall_ok hm hT lf d
    have ihok : CallOk P (evalCall T lf d) := fun f args M c M' ws h => by
      obtain ⟨h1, h2⟩ := ih f args M c M' ws h
      refine ⟨h1, fun η w argv hg hr => (h2 η w argv hg hr).mono ?_⟩
      rintro e w' ⟨v, η', he, hgo, hrep⟩
      exact ⟨v, η', he, hgo.ext, hgo.gs, hgo.goes, hgo.kept, hgo.st, hrep⟩
    have main : Call2 P (evalCall T lf (d + 1)) := fun f args M c M' ws h => by
      simp only [evalCall] at h
      split at h
      · rename_i E hE
        obtain ⟨fn, hf, hname, hc, hn⟩ := hT f E hE
        rw [cond_eq_ite] at h
        split at h
        · rename_i hlen
          have hlen := Nat.le_of_ble_eq_true hlen
          split at h
          · rename_i e ts M2 L hir
            unfold compFn2 at hc
            split at hc
            · rename_i cd hb
              dsimp only at hc
              split at hc
              · rename_i ir rs hcir hrs
                simp only [Option.some.injEq] at hc
                refine ⟨⟨fn, hf, hname, by simp [hb]⟩, fun η w argv hg hr => calls_of_wp hf hb ?_⟩
                rw [← hc] at hir h
                dsimp only at hir h
                refine evalIR_wp hm ihok hg.s rfl cd ir lf _ _ M η w [] e ts M2 L _ hcir hir (.refl hg _) ?_ ?_ ?_
                · rw [argF_sv]
                  exact argTm_ok hr (by rw [List.length_map, hn]; exact hlen)
                · have := hr.length
                  simp only [List.length_map] at this
                  simp; omega
                · intro η' a' w' hgo ht' hN' hd'
                  have hdef : a'.defers = [] := hd'
                  have fin : ∀ l, evalRes ts M2 rs = some l → some (resOneF l, M2, L) = some (c, M', ws) → a'.defers = [] ∧ ∃ v, (results fn a'.tmps).run P w' = .ok v w' ∧ ∃ v' η'', Ending.returned v = .returned v' ∧ Go2 M η w M' η'' w' ws ∧ Rep (c.sv η'') v' := fun l hl he => by
                    simp only [Option.some.injEq, Prod.mk.injEq] at he
                    obtain ⟨rfl, rfl, rfl⟩ := he
                    have hres := evalRes_sound (K := fun svs => ∀ vs, RepL svs vs → RepL (l.map (FV.sv η')) vs) hgo.gs (sat_of ht') rs hl fun svs h => h
                    obtain ⟨vs, svs, h1, h2, h3⟩ := resV_sound (P := P) hgo.goes.ok ht' _ _ _ hrs hres
                    obtain ⟨v, h4, h5⟩ := results_run h1 (h3 vs h2)
                    rw [resOneF_sv] at h5
                    exact ⟨hdef, v, h4, v, η', rfl, hgo, h5⟩
                  cases e with
                  | normal =>
                    dsimp only at h
                    split at h
                    · rename_i l hl; exact fin l hl h
                    · cases h
                  | ret =>
                    dsimp only at h
                    split at h
                    · rename_i l hl; exact fin l hl h
                    · cases h
                  | exit id => cases h
              · cases hc
            · cases hc
          · cases h
        · cases h
      · cases h
    exact main
end
end Go.Proofs.YtebjldkkdapbeaaGreatDoor.Eng
