/- The engine, part Z1: tables of functions. -/
import Derived.Test.YtebjldkkdapbeaaGreatDoorEngX13
namespace Go.Proofs.YtebjldkkdapbeaaGreatDoor.Eng
open Go

def FnOk (P : Program) (f : Nat) (E : FnE) : Prop := ∃ fn, P.funcs[f]? = some fn ∧ (fn.name == "runtime.NumGoroutine") = false ∧ compFn2 P fn = some E.F ∧ fn.ntmps = E.n

def TrAll {α : Type} (Q : Nat → α → Prop) : Tr α → (Nat → Nat) → Prop
  | .nil, _ => True
  | .node v l r, idx => (∀ x, v = some x → Q (idx 0) x) ∧ TrAll Q l (fun j => idx (2 * j + 1)) ∧ TrAll Q r (fun j => idx (2 * j + 2))

theorem TrAll.get {α : Type} {Q : Nat → α → Prop} : ∀ (t : Tr α) (idx : Nat → Nat), TrAll Q t idx → ∀ j x, t.get j = some x → Q (idx j) x
  | .nil, _, _, j, x, h => by simp [Tr.get] at h
  | .node v l r, idx, ⟨h1, h2, h3⟩, 0, x, h => h1 x (by simpa [Tr.get] using h)
  | .node v l r, idx, ⟨h1, h2, h3⟩, k + 1, x, h => by
    simp only [Tr.get, cond_eq_ite, (Tr.bitEq k).1, (Tr.bitEq k).2] at h
    split at h
    · rename_i hk
      have := TrAll.get l _ h2 (k / 2) x h
      rwa [show 2 * (k / 2) + 1 = k + 1 by omega] at this
    · rename_i hk
      have := TrAll.get r _ h3 (k / 2) x h
      rwa [show 2 * (k / 2) + 2 = k + 1 by omega] at this

theorem tblOk_of {P : Program} {t : Tr FnE} (h : TrAll (FnOk P) t id) : TblOk P t.get := fun f E hE => TrAll.get t id h f E hE

def isTrue (x : Option (FV × Mem × List Nat)) : Bool :=
  match x with
  | some (c, _, ws) => match c, ws with
    | .bool b, [] => b
    | _, _ => false
  | none => false
theorem isTrue_spec {x : Option (FV × Mem × List Nat)} (h : isTrue x = true) : ∃ M, x = some (.bool true, M, []) := by
  unfold isTrue at h
  split at h
  · split at h
    · subst h; exact ⟨_, rfl⟩
    · cases h
  · cases h

/-- A closed call that comes to true and writes into nothing that was there. -/
theorem calls_true {P : Program} (hm : P.follows .mixedOrders = true) {T : Nat → Option FnE} (hT : TblOk P T) {lf d f : Nat} {args : List FV} (h : isTrue (evalCall T lf d f args ⟨0, .nil⟩) = true) (hany : ∀ (argv : List Value), argv.length = args.length → RepL (args.map (FV.sv [])) argv) (w : World) (argv : List Value) (hl : argv.length = args.length) :
    Calls P f argv.toArray w fun e w' => e = .returned (.bool true) ∧ RowKit.Below w.heap.size w w' := by
  obtain ⟨M, hM⟩ := isTrue_spec h
  obtain ⟨_, h2⟩ := evalCall_ok hm hT lf d f args ⟨0, .nil⟩ (.bool true) M [] hM
  have hg : Good ⟨0, .nil⟩ [] w := by
    refine ⟨⟨rfl, by simp, fun k B b h => by simp [Tr.get] at h, fun k B h => by simp [Tr.get] at h⟩, ⟨fun k e h => by simp [Mem.heap] at h, fun k l e f _ h => by simp [Mem.heap] at h⟩⟩
  refine (h2 [] w argv hg (hany argv hl)).mono ?_
  rintro e w' ⟨v, η', rfl, hgo, hr⟩
  rw [sv_bool] at hr
  have hv := repB hr
  subst hv
  refine ⟨rfl, Kept.below ?_⟩
  refine (Kept.refl w _).trans hgo.kept fun x _ hx => ?_
  obtain ⟨k, hk, _⟩ := hx
  cases hk
end Go.Proofs.YtebjldkkdapbeaaGreatDoor.Eng
