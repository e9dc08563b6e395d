/- The engine, part Y1: a region in whatever order, an ALLOC put off. -/
import Derived.Test.YtebjldkkdapbeaaGreatDoorEngX11
namespace Go.Proofs.YtebjldkkdapbeaaGreatDoor.Eng
open Go

/-- One entity more stays as it is. -/
theorem Ok.frame {H H' : Heap} {w w' : World} {X : Heap} (hok : Ok (H ++ X) w) (hg : Goes H w H' w') (hro : ∀ e ∈ X, e.ro = false) (hro' : ∀ e ∈ H', e.ro = false) : Ok (H' ++ X) w' := by
  have hx : ∀ (i : Nat) (e : Ent), X[i]? = some e → (H ++ X)[H.length + i]? = some e := fun i e he => by
    rw [List.getElem?_append_right (by omega)]; simpa using he
  have hidx : ∀ (k : Nat) (e : Ent), (H' ++ X)[k]? = some e → (k < H'.length ∧ H'[k]? = some e) ∨ (H'.length ≤ k ∧ X[k - H'.length]? = some e) := fun k e he => by
    rcases Nat.lt_or_ge k H'.length with hlt | hge
    · rw [List.getElem?_append_left hlt] at he; exact .inl ⟨hlt, he⟩
    · rw [List.getElem?_append_right hge] at he; exact .inr ⟨hge, he⟩
  -- what the extra ones have is not what H owns
  have hsep : ∀ (i : Nat) (e : Ent), X[i]? = some e → ∀ a, e.has a → ¬ owns H a := fun i e he a ha ⟨f, hf, hfa⟩ => by
    obtain ⟨k, hk⟩ := List.mem_iff_getElem?.1 hf
    have hlt := (List.getElem?_eq_some_iff.1 hk).1
    exact hok.apart k (H.length + i) f e (by omega) (by rw [List.getElem?_append_left hlt]; exact hk) (hx i e he) a hfa ha
  have hblk : ∀ (i : Nat) (e : Ent), X[i]? = some e → ∀ a, e.has a → a.block < w.heap.size := fun i e he a ⟨j, hj, ha⟩ => by
    obtain ⟨v, h1, _⟩ := (hok.ent _ e (hx i e he)).cell j hj
    rw [ha]; exact World.block_lt_of_cell? w _ h1
  have hcross : ∀ (i : Nat) (e : Ent) (f : Ent), X[i]? = some e → f ∈ H' → ∀ a, e.has a → ¬ f.has a := fun i e f he hf a ha hfa =>
    hsep i e he a ha (hg.own a (hblk i e he a ha) ⟨f, hf, hro' f hf, hfa⟩)
  refine ⟨fun k e he => ?_, fun k l e f hkl he hf a ha hfa => ?_⟩
  · rcases hidx k e he with ⟨_, h1⟩ | ⟨_, h1⟩
    · exact hg.ok.ent k e h1
    · exact (hok.ent _ e (hx _ e h1)).kept hg.kept fun a ha => hsep _ e h1 a ha
  · rcases hidx k e he with ⟨h0, h1⟩ | ⟨h0, h1⟩ <;> rcases hidx l f hf with ⟨g0, g1⟩ | ⟨g0, g1⟩
    · exact hg.ok.apart k l e f hkl h1 g1 a ha hfa
    · exact hcross _ f e g1 (List.mem_of_getElem? h1) a hfa ha.has
    · exact hcross _ e f h1 (List.mem_of_getElem? g1) a ha.has hfa
    · exact hok.apart (H.length + (k - H'.length)) (H.length + (l - H'.length)) e f (by omega) (hx _ e h1) (hx _ f g1) a ha hfa

theorem Mem.heap_ro (M : Mem) (η : Env) : ∀ e ∈ M.heap η, e.ro = false := fun e he => by
  simp only [Mem.heap, List.mem_map] at he
  obtain ⟨k, _, rfl⟩ := he
  unfold Mem.entAt
  split
  · unfold Blk.ent; split <;> rfl
  · rfl
end Go.Proofs.YtebjldkkdapbeaaGreatDoor.Eng
