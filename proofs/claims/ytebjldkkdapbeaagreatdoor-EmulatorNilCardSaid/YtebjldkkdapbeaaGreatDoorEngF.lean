/- The engine, part F: operations that write or make memory, and calls. -/
import Derived.Test.YtebjldkkdapbeaaGreatDoorEngE
import Derived.Deep.AppendSrc
namespace Go.Proofs.YtebjldkkdapbeaaGreatDoor.Eng
open Go

inductive L where
  | alloc (zero : List SV)
  | box (x : O)
  | store (n : Nat) (x v : O)
  | bslice (sz n : Nat) (zero : List SV) (parts : List (Nat × O))
  | mkslice (sz bytes : Nat) (zero : List SV) (ln cp : O)
  | call (f : Nat) (args : List O)
  | callv (f : O) (args : List O)
  | append (sz bytes : Nat) (x y : O)
  | copy (sz : Nat) (x y : O)
  | mark (x : O)
  | s2b (x : O)
  | bad

abbrev LK := SV → Heap → List Nat → Prop

/-- What stands in the entities ws. -/
def ownsK (H : Heap) (ws : List Nat) (a : Addr) : Prop := ∃ k ∈ ws, ∃ e, H[k]? = some e ∧ e.owns a
theorem ownsK.owns {H : Heap} {ws : List Nat} {a : Addr} (h : ownsK H ws a) : owns H a := by
  obtain ⟨k, _, e, he, ha⟩ := h
  exact ⟨e, List.mem_of_getElem? he, ha⟩

def Callable (P : Program) (f : Nat) : Prop := ∃ fn : Func, P.funcs[f]? = some fn ∧ (fn.name == "runtime.NumGoroutine") = false ∧ fn.body.isNone = false

/-- A call, as far as the engine looks. -/
def CallV (P : Program) (f : Nat) (args : List SV) (H : Heap) (K : LK) : Prop :=
  Callable P f ∧ ∀ (w : World) (argv : List Value), Ok H w → RepL args argv → Calls P f argv.toArray w fun e w' =>
    ∃ v sv H' ws, e = .returned v ∧ K sv H' ws ∧ Rep sv v ∧ Goes H w H' w' ∧ Kept w w' (ownsK H ws)

def storeE (e : Ent) (x : SV) (n : Nat) (cs : List SV) (K : Ent → Prop) : Prop :=
  match x, e with
  | .p _ b off, .lit b' l => b = b' ∧ cs.length = n ∧ allOne cs = true ∧ off + n ≤ l.length ∧ K (.lit b' (splice l off cs))
  | .e _ b sz i j, .arr b' ro sz' nn cap row => b = b' ∧ sz = sz' ∧ ro = false ∧ i < nn ∧ cs.length = n ∧ allOne cs = true ∧ j + n ≤ sz ∧
      K (.arr b' ro sz' nn cap (fun r => if r = i then splice (row i) j cs else row r))
  | _, _ => False

def storeO (o : Option Ent) (x : SV) (n : Nat) (cs : List SV) (K : Ent → Prop) : Prop :=
  match o with
  | some e => storeE e x n cs K
  | none => False
def storeV (H : Heap) (x : SV) (n : Nat) (v : SV) (K : Heap → List Nat → Prop) : Prop :=
  match x with
  | .p k b off => storeO H[k]? (.p k b off) n (cellsOf v) fun e' => K (H.set k e') [k]
  | .e k b sz i j => storeO H[k]? (.e k b sz i j) n (cellsOf v) fun e' => K (H.set k e') [k]
  | _ => False

theorem run_store_ok {P : Program} {w : World} {a : Addr} {u v : Value} (hc : w.cell? a = some u) (hf : w.frozen? a = false) (hv : One v) : (store a v).run P w = .ok () (w.setCell a v) := by
  rw [run_store P w a v _ hv.oneCell]
  simp [hc, hf]

theorem storeCells_lit {P : Program} (b : Base) (k : Nat) (a : Addr) : ∀ (cs : List SV) (vs : List Value) (i off : Nat) (l : List SV) (H : Heap) (w : World), Ok H w → H[k]? = some (.lit b l) → RepL cs vs → (∀ u ∈ vs, One u) → off + cs.length ≤ l.length →
    (∀ j, a.add (i + j) = adr b (off + j)) → ∃ w', (storeCells a vs i).run P w = .ok () w' ∧ Goes H w (H.set k (.lit b (splice l off cs))) w' ∧ Kept w w' (ownsK H [k])
  | [], [], i, off, l, H, w, hok, hk, _, _, _, _ => by
    refine ⟨w, by simp [storeCells], ?_, Kept.refl _ _⟩
    rw [splice_nil, show H.set k (.lit b l) = H from by
      obtain ⟨hlt, he⟩ := List.getElem?_eq_some_iff.1 hk
      rw [← he]; exact List.set_getElem_self hlt]
    exact Goes.refl hok
  | c :: cs, v :: vs, i, off, l, H, w, hok, hk, hr, h1, hle, ha => by
    simp only [RepL] at hr
    simp only [List.length_cons] at hle
    have hadr : a.add i = adr b off := ha 0
    have hlt : off < (Ent.lit b l).size := by simp [Ent.size]; omega
    obtain ⟨u, hu, _, _⟩ := (hok.ent k _ hk).cell off hlt
    have hfr := (hok.ent k _ hk).free rfl off hlt
    have hv : One v := h1 v (by simp)
    have hst : (store (a.add i) v).run P w = .ok () (w.setCell (adr b off) v) := by rw [hadr]; exact run_store_ok hu hfr hv
    have hG := hok.setCell (e' := .lit b (l.set off c)) hk rfl hlt hv rfl rfl (by simp [Ent.size]) trivial
      (by simp only [Ent.cell]; rw [List.getD_eq_getElem?_getD, List.getElem?_set_self (by simpa [Ent.size] using hlt)]; exact hr.1)
      (fun j _ hji => .inl (by simp only [Ent.cell]; rw [List.getD_eq_getElem?_getD, List.getD_eq_getElem?_getD, List.getElem?_set_ne (Ne.symm hji)]))
    have hkl : k < H.length := (List.getElem?_eq_some_iff.1 hk).1
    obtain ⟨w', q1, q2, q3⟩ := storeCells_lit b k a cs vs (i + 1) (off + 1) (l.set off c) (H.set k (.lit b (l.set off c))) _ hG.ok (List.getElem?_set_self hkl) hr.2 (fun u hu => h1 u (by simp [hu])) (by simp; omega)
      (fun j => by have := ha (j + 1); rw [show i + 1 + j = i + (j + 1) from by omega, show off + 1 + j = off + (j + 1) from by omega]; exact this)
    refine ⟨w', ?_, ?_, ?_⟩
    · simp only [storeCells, Sem.run_bind, hst, Result.andThen_ok]
      exact q1
    · rw [splice_cons l off c cs (by simpa [Ent.size] using hlt)]
      have := hG.trans q2
      rwa [List.set_set] at this
    · refine (Kept.setCell (w := w) (S := ownsK H [k]) (a := adr b off) ⟨k, by simp, _, hk, rfl, off, hlt, rfl⟩ rfl v).trans q3 fun x _ hx => ?_
      obtain ⟨k', hk', e, he, hro, j, hj, hx⟩ := hx
      simp at hk'; subst hk'
      rw [List.getElem?_set_self hkl] at he; cases he
      exact ⟨k', by simp, _, hk, rfl, j, by simpa [Ent.size] using hj, hx⟩
  | [], _ :: _, _, _, _, _, _, _, _, hr, _, _, _ => by simp [RepL] at hr
  | _ :: _, [], _, _, _, _, _, _, _, hr, _, _, _ => by simp [RepL] at hr

theorem storeCells_arr {P : Program} (b : Base) (k sz nn cap r : Nat) (hrn : r < nn) (a : Addr) : ∀ (cs : List SV) (vs : List Value) (i off : Nat) (row : Nat → List SV) (H : Heap) (w : World), Ok H w → H[k]? = some (.arr b false sz nn cap row) → RepL cs vs → (∀ u ∈ vs, One u) → off + cs.length ≤ sz →
    (∀ j, a.add (i + j) = adr b (r * sz + (off + j))) → ∃ w', (storeCells a vs i).run P w = .ok () w' ∧ Goes H w (H.set k (.arr b false sz nn cap fun q => if q = r then splice (row r) off cs else row q)) w' ∧ Kept w w' (ownsK H [k])
  | [], [], i, off, row, H, w, hok, hk, _, _, _, _ => by
    refine ⟨w, by simp [storeCells], ?_, Kept.refl _ _⟩
    have hrow : (fun q => if q = r then splice (row r) off [] else row q) = row := by
      funext q; split
      · rename_i h; rw [h, splice_nil]
      · rfl
    rw [hrow, show H.set k (.arr b false sz nn cap row) = H from by
      obtain ⟨hlt, he⟩ := List.getElem?_eq_some_iff.1 hk
      rw [← he]; exact List.set_getElem_self hlt]
    exact Goes.refl hok
  | c :: cs, v :: vs, i, off, row, H, w, hok, hk, hr, h1, hle, ha => by
    simp only [RepL] at hr
    simp only [List.length_cons] at hle
    have hadr : a.add i = adr b (r * sz + off) := ha 0
    obtain ⟨hwf1, hwf2⟩ := (hok.ent k _ hk).wf
    have hmul : r * sz + sz ≤ nn * sz := by have := Nat.mul_le_mul_right sz (show r + 1 ≤ nn by omega); rw [Nat.add_mul] at this; omega
    have hmul2 : nn * sz ≤ cap * sz := Nat.mul_le_mul_right sz hwf1
    have hlt : r * sz + off < (Ent.arr b false sz nn cap row).size := by simp only [Ent.size]; omega
    obtain ⟨u, hu, _, _⟩ := (hok.ent k _ hk).cell _ hlt
    have hfr := (hok.ent k _ hk).free rfl _ hlt
    have hv : One v := h1 v (by simp)
    have hst : (store (a.add i) v).run P w = .ok () (w.setCell (adr b (r * sz + off)) v) := by rw [hadr]; exact run_store_ok hu hfr hv
    have hdm : ∀ q, q < sz → (r * sz + q) / sz = r ∧ (r * sz + q) % sz = q := fun q hq => by
      constructor
      · rw [Nat.add_comm, Nat.add_mul_div_right _ _ (by omega), Nat.div_eq_of_lt hq]; omega
      · rw [Nat.add_comm, Nat.add_mul_mod_self_right, Nat.mod_eq_of_lt hq]
    have hG := hok.setCell (e' := .arr b false sz nn cap fun q => if q = r then (row r).set off c else row q) hk rfl hlt hv rfl rfl rfl
      ⟨hwf1, fun q hq => by
        dsimp only; split
        · rw [List.length_set]; exact hwf2 r hrn
        · exact hwf2 q hq⟩
      (by
        simp only [Ent.cell]
        rw [if_pos (by omega), (hdm off (by omega)).1, (hdm off (by omega)).2, if_pos rfl, List.getD_eq_getElem?_getD, List.getElem?_set_self (by rw [hwf2 r hrn]; omega)]
        exact hr.1)
      (fun j _ hji => .inl (by
        simp only [Ent.cell]
        split
        · by_cases hq : j / sz = r
          · rw [if_pos hq, hq, List.getD_eq_getElem?_getD, List.getD_eq_getElem?_getD, List.getElem?_set_ne]
            intro he
            apply hji
            have := Nat.div_add_mod j sz
            rw [hq, ← he, Nat.mul_comm] at this
            exact this.symm
          · rw [if_neg hq]
        · rfl))
    have hkl : k < H.length := (List.getElem?_eq_some_iff.1 hk).1
    obtain ⟨w', q1, q2, q3⟩ := storeCells_arr b k sz nn cap r hrn a cs vs (i + 1) (off + 1) (fun q => if q = r then (row r).set off c else row q) (H.set k (.arr b false sz nn cap fun q => if q = r then (row r).set off c else row q)) _ hG.ok (List.getElem?_set_self hkl) hr.2 (fun u hu => h1 u (by simp [hu])) (by omega)
      (fun j => by have := ha (j + 1); rw [show i + 1 + j = i + (j + 1) from by omega, show off + 1 + j = off + (j + 1) from by omega]; exact this)
    refine ⟨w', ?_, ?_, ?_⟩
    · simp only [storeCells, Sem.run_bind, hst, Result.andThen_ok]
      exact q1
    · have hrow : (fun q => if q = r then splice (row r) off (c :: cs) else row q) = (fun q => if q = r then splice ((fun q => if q = r then (row r).set off c else row q) r) (off + 1) cs else (fun q => if q = r then (row r).set off c else row q) q) := by
        funext q
        by_cases hq : q = r
        · simp only [if_pos hq, if_true]; exact splice_cons (row r) off c cs (by rw [hwf2 r hrn]; omega)
        · simp only [if_neg hq]
      rw [hrow]
      have := hG.trans q2
      rwa [List.set_set] at this
    · refine (Kept.setCell (w := w) (S := ownsK H [k]) (a := adr b (r * sz + off)) ⟨k, by simp, _, hk, rfl, _, hlt, rfl⟩ rfl v).trans q3 fun x _ hx => ?_
      obtain ⟨k', hk', e, he, hro, j, hj, hx⟩ := hx
      simp at hk'; subst hk'
      rw [List.getElem?_set_self hkl] at he; cases he
      exact ⟨k', by simp, _, hk, rfl, j, hj, hx⟩
  | [], _ :: _, _, _, _, _, _, _, _, hr, _, _, _ => by simp [RepL] at hr
  | _ :: _, [], _, _, _, _, _, _, _, hr, _, _, _ => by simp [RepL] at hr
end Go.Proofs.YtebjldkkdapbeaaGreatDoor.Eng
