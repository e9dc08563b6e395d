/- The engine, part V6: tables of functions, for the kernel; a closed call that comes to true. -/
import Derived.Test.YtebjldkkdapbeaaGreatDoorEngV5
namespace Go.Proofs.YtebjldkkdapbeaaGreatDoor.Eng
open Go

def FnOkK (P : Program) (f : Nat) (E : FnK) : Prop := ∃ fn, P.funcs[f]? = some fn ∧ (fn.name == "runtime.NumGoroutine") = false ∧ compFn2 P fn = some E.F ∧ fn.ntmps = E.n ∧ E.ir.ok E.K = true
theorem tblOkK_of {P : Program} {t : Tr FnK} (h : TrAll (FnOkK P) t id) : TblOkK P (trGet t) := fun f E hE => TrAll.get t id h f E (by rw [← trGet_eq]; exact hE)

theorem calls_trueK {P : Program} (hm : P.follows .mixedOrders = true) {T : Nat → Option FnK} (hT : TblOkK P T) {lf d f : Nat} {args : List FV} (h : isTrue (callK T lf d f args ⟨0, .nil⟩) = true) (hany : ∀ (argv : List Value), argv.length = args.length → RepL (args.map (FV.sv [])) argv) (w : World) (argv : List Value) (hl : argv.length = args.length) :
    Calls P f argv.toArray w fun e w' => e = .returned (.bool true) ∧ RowKit.Below w.heap.size w w' := by
  obtain ⟨M, hM⟩ := isTrue_spec h
  obtain ⟨_, h2⟩ := callK_ok hm hT lf d f args ⟨0, .nil⟩ (.bool true) M [] hM
  have hg : Good ⟨0, .nil⟩ [] w := by
    refine ⟨⟨rfl, by simp, fun k B b h => by simp [Tr.get] at h, fun k B h => by simp [Tr.get] at h⟩, ⟨fun k e h => by simp [Mem.heap] at h, fun k l e f _ h => by simp [Mem.heap] at h⟩⟩
  refine (h2 [] w argv hg (hany argv hl)).mono ?_
  rintro e w' ⟨v, η', rfl, hgo, hr⟩
  rw [sv_bool] at hr
  have hv := repB hr
  subst hv
  refine ⟨rfl, Kept.below ?_⟩
  refine (Kept.refl w _).trans hgo.kept fun x _ hx => ?_
  obtain ⟨k, hk, _⟩ := hx
  cases hk
end Go.Proofs.YtebjldkkdapbeaaGreatDoor.Eng
