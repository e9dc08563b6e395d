/- The engine, part X11: a region, a body, a call, by the reckoning. -/
import Derived.Test.YtebjldkkdapbeaaGreatDoorEngX10
namespace Go.Proofs.YtebjldkkdapbeaaGreatDoor.Eng
open Go

section
variable {P : Program}

/-- What floats, and what is watched for it. -/
def FloatE (η : Env) (M : Mem) (w : World) (W : Watch) (F : Fl) : Prop :=
  (∀ x ∈ F, ∃ ks : List Nat, (ks = [] ∨ (x.1, ks) ∈ W) ∧ ∀ w', SameE η ks w w' → x.2 w') ∧ ∀ x ∈ W, ∀ k ∈ x.2, k < M.next ∧ Alive M k

theorem mem_of_dropW {aft : List Nat} : ∀ {W : Watch} {x : Nat × List Nat}, x ∈ dropW aft W → x ∈ W
  | [], x, h => by simp [dropW] at h
  | y :: r, x, h => by
    simp only [dropW] at h
    split at h
    · exact List.mem_cons_of_mem _ (mem_of_dropW h)
    · rcases List.mem_cons.1 h with rfl | h
      · simp
      · exact List.mem_cons_of_mem _ (mem_of_dropW h)
theorem mem_of_addW {j : Nat} {rs : List Nat} {W : Watch} {x : Nat × List Nat} (h : x ∈ addW j rs W) : x ∈ W ∨ x = (j, rs) := by
  cases rs with
  | nil => exact .inl h
  | cons a b =>
    rcases List.mem_cons.1 h with h | h
    · exact .inr h
    · exact .inl h

theorem readsF_sv {η : Env} {M : Mem} (hg : GoodS M η) {ts : FTm} (hs : Sat η ts) {q : Q} {c : FV} (h : evalQ q ts M = some c) : q.reads (ts.sv η) = readsF q ts ∧ ∀ k ∈ readsF q ts, k < M.next ∧ Alive M k := by
  cases q
  case load n ag x =>
    simp only [evalQ] at h
    unfold loadF at h
    split at h
    · rename_i k off e
      obtain ⟨b, hb, he⟩ := fev_p hs e
      simp only [Q.reads, readsF, e, he, readsV]
      refine ⟨trivial, fun k' hk' => ?_⟩
      simp at hk'; subst hk'
      split at h
      · rename_i B hB
        refine ⟨hg.below _ B hB, ?_⟩
        have h1 := (partF_sound (η := η) h []).1
        have h2 := partF_pos h
        unfold Alive Mem.size
        rw [hB]; dsimp only; omega
      · cases h
    · cases h
  case b2s x =>
    simp only [evalQ] at h
    obtain ⟨_, h2, h3⟩ := b2sF_sound hg hs h
    simp only [Q.reads, readsF]
    rw [h2] at h3 ⊢
    exact ⟨rfl, fun k hk => h3 k hk⟩
  all_goals exact ⟨rfl, fun k hk => by cases hk⟩

end
end Go.Proofs.YtebjldkkdapbeaaGreatDoor.Eng
