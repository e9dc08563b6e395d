/- The engine, part X4: operations that make or write memory, by the reckoning. -/
import Derived.Test.YtebjldkkdapbeaaGreatDoorEngX3
namespace Go.Proofs.YtebjldkkdapbeaaGreatDoor.Eng
open Go

def KL (η : Env) (M : Mem) (c : FV) (M' : Mem) (ws : List Nat) : LK := fun sv H' ws' =>
  ws' = ws ∧ St M M' ws ∧ ∀ w', Ok H' w' → ∃ η', Env.ext η η' ∧ GoodS M' η' ∧ Goes H' w' (M'.heap η') w' ∧ ∀ v, Rep sv v → Rep (c.sv η') v

theorem lit_ent {b : Base} {l : List SV} {cells : List FV} {t : Nat} {m : Bool} {η : Env} (ht : t ≤ l.length) (hc : cells.length ≤ t) (h : ∀ (i : Nat) (x : SV) (y : FV), l[i]? = some x → cells[i]? = some y → ∀ v, Rep x v → Rep (y.sv η) v) : Ent.sle (.lit b l) (Blk.ent ⟨cells, m⟩ (b, t) η) := by
  rcases Nat.eq_zero_or_pos cells.length with h0 | h0
  · rw [Blk.ent_nil (by simpa using h0)]; exact .gone _
  · rw [Blk.ent_some h0]
    refine lit_sle (by simp; omega) fun i x y hx hy v hr => ?_
    dsimp only at hy
    rw [List.getElem?_append] at hy
    simp only [List.length_map] at hy
    split at hy
    · rw [List.getElem?_map] at hy
      cases hq : cells[i]? with
      | none => rw [hq] at hy; cases hy
      | some z =>
        rw [hq] at hy
        simp only [Option.map_some, Option.some.injEq] at hy
        subst hy
        exact h i x z hx hq v hr
    · have := List.mem_of_getElem? hy
      simp [List.mem_replicate] at this
      rw [this.2]; trivial

theorem arr_ent {b : Base} {sz n cap t : Nat} {row : Nat → List SV} {cells : List FV} {m : Bool} {η : Env} (ht : t ≤ cap * sz) (hc : cells.length ≤ t) (h : ∀ (i : Nat) (y : FV), cells[i]? = some y → ∀ v, Rep ((Ent.arr b false sz n cap row).cell i) v → Rep (y.sv η) v) : Ent.sle (.arr b false sz n cap row) (Blk.ent ⟨cells, m⟩ (b, t) η) := by
  rcases Nat.eq_zero_or_pos cells.length with h0 | h0
  · rw [Blk.ent_nil (by simpa using h0)]; exact .gone _
  · rw [Blk.ent_some h0]
    refine ⟨.inr rfl, by simp [Ent.size]; omega, .inr fun h => h, fun _ => trivial, fun i hi v hr => ?_⟩
    simp only [Ent.size, List.length_append, List.length_map, List.length_replicate] at hi
    show Rep (List.getD _ i .any) v
    rw [List.getD_eq_getElem?_getD, List.getElem?_append]
    simp only [List.length_map]
    split
    · rename_i hlt
      rw [List.getElem?_map]
      have hq : cells[i]? = some cells[i] := List.getElem?_eq_getElem hlt
      rw [hq]
      exact h i _ hq v hr
    · rw [List.getElem?_replicate]
      split <;> trivial

/-- A new entity, and the block that it is. -/
theorem KL.new {η : Env} {M : Mem} (hg : GoodS M η) (hs : Nat.ble M.next 999999999 = true) {cells : List FV} {m : Bool} {t : Nat} {b : Base} {e : Ent} {c : FV} {sv : SV} (hl : cells.length ≤ t) (hm : m = false → t = cells.length)
    (he : Ent.sle e (Blk.ent ⟨cells, m⟩ (b, t) (η ++ [(b, t)]))) (hc : ∀ v, Rep sv v → Rep (c.sv (η ++ [(b, t)])) v) : KL η M c (M.push ⟨cells, m⟩) [] sv (M.heap η ++ [e]) [] :=
  ⟨rfl, .push hg _ _, fun w' hok => ⟨η ++ [(b, t)], Env.ext_append η _, hg.push (by have := Nat.le_of_ble_eq_true hs; omega) hl hm, hg.grown he hok, hc⟩⟩

theorem sv_new_p {η : Env} {M : Mem} (hg : GoodS M η) (b : Base) (t off : Nat) : (FV.p M.next off).sv (η ++ [(b, t)]) = .p M.next b off := by
  have : (η ++ [(b, t)])[M.next]? = some (b, t) := by rw [← hg.len]; simp
  simp [FV.sv, this]
theorem sv_new_s {η : Env} {M : Mem} (hg : GoodS M η) (b : Base) (t sz off len : Nat) (cap : Option Nat) {v : Value} (h : Rep (.s M.next b sz off len (capOf len sz off t cap)) v) : Rep ((FV.s M.next sz off len cap).sv (η ++ [(b, t)])) v := by
  have : (η ++ [(b, t)])[M.next]? = some (b, t) := by rw [← hg.len]; simp
  simp only [FV.sv]
  split
  · obtain ⟨h1, a, h2, h3, h4⟩ := h
    exact ⟨h1, a, h2, by simp, h4⟩
  · rw [this]; exact h

def allOneF : List FV → Bool
  | [] => true
  | x :: l => x.one && allOneF l
theorem allOneF_sv {η : Env} : ∀ {l : List FV}, allOneF l = true → allOne (l.map (FV.sv η)) = true
  | [], _ => rfl
  | x :: l, h => by
    simp only [allOneF, Bool.and_eq_true] at h
    simp [allOne, one_sv h.1, allOneF_sv h.2]
def fillF : Nat → List FV → List FV
  | 0, _ => []
  | n + 1, z => z ++ fillF n z
theorem fillF_length (z : List FV) : ∀ n, (fillF n z).length = n * z.length
  | 0 => by simp [fillF]
  | n + 1 => by simp [fillF, fillF_length z n, Nat.add_mul]; omega
theorem fillF_rows (η : Env) (z : List FV) : ∀ n, (fillF n z).map (FV.sv η) = (rowsOf (z.map (FV.sv η)) n).flatten
  | 0 => by simp [fillF, rowsOf]
  | n + 1 => by simp [fillF, rowsOf, fillF_rows η z n]
theorem flatten_length : ∀ {rows : List (List SV)} {sz : Nat}, (∀ r ∈ rows, r.length = sz) → rows.flatten.length = rows.length * sz
  | [], _, _ => by simp
  | r :: rows, sz, h => by
    simp only [List.flatten_cons, List.length_append, List.length_cons]
    rw [h r (by simp), flatten_length fun q hq => h q (by simp [hq]), Nat.add_mul]; omega
theorem flatten_get : ∀ {rows : List (List SV)} {sz : Nat}, 0 < sz → (∀ r ∈ rows, r.length = sz) → ∀ i, i < rows.length * sz → rows.flatten[i]? = some ((rows.getD (i / sz) []).getD (i % sz) .any)
  | [], _, _, _, i, hi => by simp at hi
  | r :: rows, sz, hz, h, i, hi => by
    have hr := h r (by simp)
    simp only [List.flatten_cons]
    rw [List.getElem?_append]
    split
    · rename_i hlt
      rw [hr] at hlt
      rw [Nat.div_eq_of_lt hlt, Nat.mod_eq_of_lt hlt]
      have : r[i]? = some (r[i]'(by omega)) := List.getElem?_eq_getElem _
      simp [this]
    · rename_i hge
      rw [hr] at hge ⊢
      have hge : sz ≤ i := by omega
      simp only [List.length_cons, Nat.add_mul] at hi
      rw [flatten_get hz (fun q hq => h q (by simp [hq])) (i - sz) (by omega)]
      have h1 : i / sz = (i - sz) / sz + 1 := by
        rw [Nat.div_eq_sub_div hz hge]
      have h2 : i % sz = (i - sz) % sz := Nat.mod_eq_sub_mod hge
      rw [h1, h2]
      simp
theorem splice_at : ∀ (l : List SV) (m : List SV) (cs : List SV), l.length = cs.length → splice (l ++ m) 0 cs = cs ++ m
  | [], m, [], _ => by cases m <;> simp [splice]
  | x :: l, m, c :: cs, h => by simp only [List.length_cons, Nat.add_right_cancel_iff] at h; simp [splice, splice_at l m cs h]
  | [], _, _ :: _, h => by simp at h
  | _ :: _, _, [], h => by simp at h
theorem splice_past : ∀ (p l cs : List SV) (n : Nat), splice (p ++ l) (p.length + n) cs = p ++ splice l n cs
  | [], l, cs, n => by simp
  | x :: p, l, cs, n => by
    rw [List.length_cons, show p.length + 1 + n = (p.length + n) + 1 by omega]
    simp [splice, splice_past p l cs n]
theorem flatten_set : ∀ {rows : List (List SV)} {sz : Nat}, (∀ r ∈ rows, r.length = sz) → ∀ (i : Nat), i < rows.length → ∀ c : List SV, c.length = sz → (rows.set i c).flatten = splice rows.flatten (i * sz) c
  | [], _, _, i, hi, _, _ => by simp at hi
  | r :: rows, sz, h, 0, _, c, hc => by
    have hr := h r (by simp)
    simp [splice_at r rows.flatten c (by omega)]
  | r :: rows, sz, h, i + 1, hi, c, hc => by
    have hr := h r (by simp)
    simp only [List.set_cons_succ, List.flatten_cons]
    rw [flatten_set (fun q hq => h q (by simp [hq])) i (by simpa using hi) c hc]
    rw [show (i + 1) * sz = r.length + i * sz by rw [Nat.add_mul]; omega, splice_past]

def partsF (ts : FTm) (sz n : Nat) : List (Nat × O) → List FV → Option (List FV)
  | [], cur => some cur
  | (i, x) :: r, cur => match cellsF (x.fev ts) with
    | cs => bif allOneF cs && Nat.beq cs.length sz && Nat.ble (i + 1) n then partsF ts sz n r (spliceF cur (i * sz) cs) else none
theorem partsF_sound {η : Env} {ts : FTm} {sz n : Nat} {K : List (List SV) → Prop} : ∀ (ps : List (Nat × O)) (cur : List FV) (rows : List (List SV)) {cells : List FV}, partsF ts sz n ps cur = some cells → cur.map (FV.sv η) = rows.flatten → (∀ r ∈ rows, r.length = sz) → rows.length = n →
    (∀ rows', cells.map (FV.sv η) = rows'.flatten → (∀ r ∈ rows', r.length = sz) → rows'.length = n → K rows') → partsV (ts.sv η) sz ps rows K
  | [], cur, rows, cells, h, he, hr, hn, hk => by simp only [partsF, Option.some.injEq] at h; subst h; exact hk rows he hr hn
  | (i, x) :: r, cur, rows, cells, h, he, hr, hn, hk => by
    simp only [partsF, cond_eq_ite] at h
    split at h
    · rename_i hc
      simp only [Bool.and_eq_true] at hc
      obtain ⟨⟨c1, c2⟩, c3⟩ := hc
      have c2 := Nat.eq_of_beq_eq_true c2
      have c3 := Nat.le_of_ble_eq_true c3
      have hev : x.ev (ts.sv η) = (x.fev ts).sv η := fev_ne rfl (by
        intro h0; rw [h0] at c1; simp [cellsF, allOneF, FV.one] at c1)
      simp only [partsV, partRV, hev, cellsF_sv]
      refine ⟨by simpa using c2, allOneF_sv c1, by omega, ?_⟩
      refine partsF_sound r _ _ h ?_ (fun q hq => ?_) (by simpa using hn) hk
      · rw [spliceF_map, he]
        exact (flatten_set hr i (by omega) _ (by simpa using c2)).symm
      · rcases List.mem_or_eq_of_mem_set hq with hq | rfl
        · exact hr q hq
        · simpa using c2
    · cases h
end Go.Proofs.YtebjldkkdapbeaaGreatDoor.Eng
