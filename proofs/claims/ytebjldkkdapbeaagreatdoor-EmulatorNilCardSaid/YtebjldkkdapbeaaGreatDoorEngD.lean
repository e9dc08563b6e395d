/- The engine, part D: every operation that only looks. -/
import Derived.Test.YtebjldkkdapbeaaGreatDoorEngC
import Derived.WalkKit
namespace Go.Proofs.YtebjldkkdapbeaaGreatDoor.Eng
open Go

theorem Yd.pure {P : Program} {a : Act} {o : Oper} {H : Heap} {ks : List Nat} {w : World} {K : SV → Prop} {v : Value} {sv : SV} (hr : Rep sv v) (hk : K sv)
    (hx : ∀ w', (execOp a.eval o).run P w' = .ok (.value v) w') : Yd P a o H ks w K := ⟨v, sv, hr, hk, fun w' _ => hx w'⟩

theorem Rep.int_ {k : IntKind} {n : Int} : Rep (.int k n) (.int k n) := rfl
theorem Rep.bool_ {b : Bool} : Rep (.bool b) (.bool b) := rfl

theorem cmpI_sound {op : BinOp} {x y : Int} {K : SV → Prop} (h : cmpI op x y K) : ∃ b : Bool, Op.intCmp op x y = pure (.bool b) ∧ K (.bool b) := by
  unfold cmpI at h
  split at h <;> first | exact h.elim | exact ⟨_, rfl, h⟩

theorem binI_sound {P : Program} {op : BinOp} {t : TypeId} {k k' : IntKind} {x y : Int} {K : SV → Prop} (h : binI op k x k' y K) :
    ∃ v sv, Rep sv v ∧ K sv ∧ ∀ w, (binOp op t (.int k x) (.int k' y)).run P w = .ok v w := by
  unfold binI at h
  split at h
  · obtain ⟨h0, h1, h2⟩ := h
    exact ⟨_, _, Rep.int_, h2, fun w => by rw [binOp_shl, shift_shl k k' x y h0 h1]; rfl⟩
  · obtain ⟨h0, h1, h2⟩ := h
    exact ⟨_, _, Rep.int_, h2, fun w => by rw [binOp_shr, shift_shr k k' x y h0 h1]; rfl⟩
  · obtain ⟨rfl, h2⟩ := h
    exact ⟨_, _, Rep.int_, h2, fun w => by rw [binOp_add]; rfl⟩
  · obtain ⟨rfl, h2⟩ := h
    exact ⟨_, _, Rep.int_, h2, fun w => by rw [binOp_sub]; rfl⟩
  · obtain ⟨rfl, h2⟩ := h
    exact ⟨_, _, Rep.int_, h2, fun w => by rw [binOp_mul]; rfl⟩
  · obtain ⟨rfl, h0, h2⟩ := h
    exact ⟨_, _, Rep.int_, h2, fun w => by rw [binOp_quo]; simp [Op.intDiv, h0]⟩
  · obtain ⟨rfl, h0, h2⟩ := h
    exact ⟨_, _, Rep.int_, h2, fun w => by rw [binOp_rem]; simp [Op.intDiv, h0]⟩
  · obtain ⟨rfl, h2⟩ := h
    exact ⟨_, _, Rep.int_, h2, fun w => by rw [binOp_and, intBits_and]; rfl⟩
  · obtain ⟨rfl, h2⟩ := h
    exact ⟨_, _, Rep.int_, h2, fun w => by rw [binOp_or, intBits_or]; rfl⟩
  · obtain ⟨rfl, h2⟩ := h
    exact ⟨_, _, Rep.int_, h2, fun w => by rw [binOp_xor, intBits_xor]; rfl⟩
  · obtain ⟨rfl, h2⟩ := h
    exact ⟨_, _, Rep.int_, h2, fun w => by rw [binOp_andNot, intBits_andNot]; rfl⟩
  · rename_i hn1 hn2 hn3 hn4 hn5 hn6 hn7 hn8 hn9 hn10 hn11
    obtain ⟨rfl, h2⟩ := h
    obtain ⟨b, h3, h4⟩ := cmpI_sound h2
    refine ⟨_, _, Rep.bool_, h4, fun w => ?_⟩
    have : binOp op t (.int k x) (.int k y) = Op.intCmp op x y := by
      cases op <;> first | (simp [binOp]; done) | (exfalso; simp at hn1 hn2 hn3 hn4 hn5 hn6 hn7 hn8 hn9 hn10 hn11; done)
    rw [this, h3]; rfl

theorem isNil_sound {x : SV} {b : Bool} {v : Value} (hr : Rep x v) (h : isNil x = some b) : ∃ p, v = .pointer p ∧ p.isNone = b := by
  unfold isNil at h
  split at h
  · cases h; exact ⟨none, hr, rfl⟩
  · cases h; exact ⟨_, hr, rfl⟩
  · cases h; exact ⟨_, hr, rfl⟩
  · cases h

theorem ptr_eqIn {P : Program} {t e : TypeId} (hu : P.underlying t = some (.pointer e)) (d : Nat) (p q : Option Addr) (h : p.isNone = true ∨ q.isNone = true) (w : World) :
    (Op.equalIn (d + 1) t (.pointer p) (.pointer q)).run P w = .ok (p.isNone == q.isNone) w := by
  have hund : (underlying t).run P w = .ok (.pointer e) w := run_underlying hu w
  cases p <;> cases q <;> simp [Op.equalIn, hund] at h ⊢
theorem eql_run {P : Program} {t : TypeId} {x y : Value} {b : Bool} {w : World} (hb : binOp .eql t x y = (do pure (.bool (← Op.equal t x y)) : Sem Value)) (h : (Op.equalIn (9999 + 1) t x y).run P w = .ok b w) : (binOp .eql t x y).run P w = .ok (.bool b) w := by
  rw [hb]
  have : (Op.equal t x y).run P w = .ok b w := h
  simp [this]
theorem neq_run {P : Program} {t : TypeId} {x y : Value} {b : Bool} {w : World} (hb : binOp .neq t x y = (do pure (.bool (!(← Op.equal t x y))) : Sem Value)) (h : (Op.equalIn (9999 + 1) t x y).run P w = .ok b w) : (binOp .neq t x y).run P w = .ok (.bool (!b)) w := by
  rw [hb]
  have : (Op.equal t x y).run P w = .ok b w := h
  simp [this]

theorem binV_sound {P : Program} {op : BinOp} {t : TypeId} {ty : Nat} (hty : (ty = 1 → P.underlying t = some .bool) ∧ (ty = 2 → ∃ e, P.underlying t = some (.pointer e))) {x y : SV} {vx vy : Value} {K : SV → Prop}
    (hx : Rep x vx) (hy : Rep y vy) (h : binV ty op x y K) (ox oy : Operand) :
    ∃ v sv, Rep sv v ∧ K sv ∧ ∀ w, (do eqGuard op t ox oy vx vy; binOp op t vx vy : Sem Value).run P w = .ok v w := by
  unfold binV at h
  split at h
  · have e1 := repI hx; have e2 := repI hy; subst e1 e2
    obtain ⟨v, sv, h1, h2, h3⟩ := binI_sound (P := P) (t := t) h
    exact ⟨v, sv, h1, h2, fun w => by simp [eqGuard_at_int, h3]⟩
  · have e1 := repB hx; have e2 := repB hy; subst e1 e2
    obtain ⟨h0, h1⟩ := h
    have hu := hty.1 h0
    split at h1
    · exact ⟨_, _, Rep.bool_, h1, fun w => by simp only [eqGuard_at_bool, Sem.run_bind, Sem.run_pure, Result.andThen_ok]; exact eql_run rfl (run_equalIn_bool' w 9999 t _ _ hu)⟩
    · exact ⟨_, _, Rep.bool_, h1, fun w => by simp only [eqGuard_at_bool, Sem.run_bind, Sem.run_pure, Result.andThen_ok]; exact neq_run rfl (run_equalIn_bool' w 9999 t _ _ hu)⟩
    · exact h1.elim
  · obtain ⟨h0, h1⟩ := h
    obtain ⟨e, hu⟩ := hty.2 h0
    split at h1
    · rename_i a b ha hb
      obtain ⟨hab, h2⟩ := h1
      obtain ⟨p, rfl, hp⟩ := isNil_sound hx ha
      obtain ⟨q, rfl, hq⟩ := isNil_sound hy hb
      have heq := ptr_eqIn hu 9999 p q (by rw [hp, hq]; exact hab)
      rw [hp, hq] at heq
      split at h2
      · exact ⟨_, _, Rep.bool_, h2, fun w => by simp only [eqGuard_at_pointer, Sem.run_bind, Sem.run_pure, Result.andThen_ok]; exact eql_run rfl (heq w)⟩
      · exact ⟨_, _, Rep.bool_, h2, fun w => by simp only [eqGuard_at_pointer, Sem.run_bind, Sem.run_pure, Result.andThen_ok]; exact neq_run rfl (heq w)⟩
      · exact h2.elim
    · exact h1.elim

theorem unV_sound {P : Program} {op : UnOp} {x : SV} {vx : Value} {K : SV → Prop} (hx : Rep x vx) (h : unV op x K) : ∃ v sv, Rep sv v ∧ K sv ∧ ∀ w, (Op.unary op vx).run P w = .ok v w := by
  unfold unV at h
  split at h
  · have e := repI hx; subst e; exact ⟨_, _, Rep.int_, h, fun w => rfl⟩
  · have e := repI hx; subst e; exact ⟨_, _, Rep.int_, h, fun w => by simp only [Op.unary, intBits_xor]; rfl⟩
  · have e := repB hx; subst e; exact ⟨_, _, Rep.bool_, h, fun w => rfl⟩
  · exact h.elim

theorem bound_sound {P : Program} {o : Option SV} {vo : Option Value} (ho : match o, vo with | none, none => True | some s, some v => Rep s v | _, _ => False) {d m : Nat} {K : Nat → Prop} (h : bound o d m K) (code : BoundsCode) :
    ∃ n, K n ∧ (o = none → n = d) ∧ (o ≠ none → n ≤ m) ∧ (match vo with | none => n = d | some v => ∀ w, (Instr.sliceBound v m code).run P w = .ok n w) := by
  unfold bound at h
  split at h
  · cases vo with
    | none => exact ⟨d, h, fun _ => rfl, fun h => absurd rfl h, rfl⟩
    | some v => exact ho.elim
  · rename_i kd i
    cases vo with
    | none => exact ho.elim
    | some v =>
      have e := repI ho; subst e
      obtain ⟨h1, h2, h3⟩ := h
      refine ⟨i.toNat, h3, by simp, fun _ => by omega, fun w => ?_⟩
      simp [Instr.sliceBound, asIntOf, h1, h2]
  · exact h.elim

theorem slcV_sound {P : Program} {k : Nat} {b : Base} {sz off len cap : Nat} {lo hi mx : Option SV} {vlo vhi vmx : Option Value} (hlen : len ≤ cap)
    (hlo : match lo, vlo with | none, none => True | some s, some v => Rep s v | _, _ => False)
    (hhi : match hi, vhi with | none, none => True | some s, some v => Rep s v | _, _ => False)
    (hmx : match mx, vmx with | none, none => True | some s, some v => Rep s v | _, _ => False) (hmh : mx ≠ none → hi ≠ none) {K : SV → Prop} (h : slcV k b sz off len cap lo hi mx K) (is : Bool) :
    ∃ l hh m, l ≤ hh ∧ hh ≤ m ∧ m ≤ cap ∧ K (.s k b sz (off + l) (hh - l) (m - l)) ∧ ∀ w, (Instr.sliceBounds is len cap vlo vhi vmx).run P w = .ok (l, hh, m) w := by
  unfold slcV at h
  obtain ⟨m, h, m1, m2, m3⟩ := bound_sound (P := P) hmx h (if is then .slice3Acap else .slice3Alen)
  obtain ⟨hh, h, n1, n2, n3⟩ := bound_sound (P := P) hhi h (match vmx with | none => (if is then .sliceAcap else .sliceAlen) | some _ => .slice3B)
  obtain ⟨l, h, l1, l2, l3⟩ := bound_sound (P := P) hlo h (if vmx.isSome then .slice3C else .sliceB)
  have hm : m ≤ cap := by
    cases mx with
    | none => have := m1 rfl; omega
    | some s => exact m2 (by simp)
  have hhm : hh ≤ m := by
    cases hi with
    | none =>
      have e := n1 rfl
      cases mx with
      | none => have := m1 rfl; omega
      | some s => exact absurd rfl (hmh (by simp))
    | some s => exact n2 (by simp)
  have hl : l ≤ hh := by
    cases lo with
    | none => have := l1 rfl; omega
    | some s => exact l2 (by simp)
  refine ⟨l, hh, m, hl, hhm, hm, h, fun w => ?_⟩
  unfold Instr.sliceBounds
  cases vmx with
  | none =>
    simp only at m3 n3 l3
    subst m3
    cases vhi with
    | none =>
      simp only at n3; subst n3
      cases vlo with
      | none => simp only at l3; subst l3; simp
      | some v => simp only [Option.isSome_none, Bool.false_eq_true, if_false] at l3 ⊢; simp [l3]
    | some u =>
      simp only at n3
      cases vlo with
      | none => simp only at l3; subst l3; simp [n3]
      | some v => simp only [Option.isSome_none, Bool.false_eq_true, if_false] at l3 ⊢; simp [n3, l3]
  | some x =>
    simp only at m3 n3 l3
    cases vhi with
    | none =>
      exfalso
      cases hi with
      | none => exact hmh (by cases mx <;> simp at hmx ⊢) rfl
      | some s => exact hhi
    | some u =>
      simp only at n3
      cases vlo with
      | none => simp only at l3; subst l3; simp [m3, n3]
      | some v => simp only [Option.isSome_some, if_true] at l3 ⊢; simp [m3, n3, l3]

theorem O.ofO_rep {x : Option Operand} {o : Option O} (h : O.ofO x = some o) {ts : Tm} {a : Act} (ht : TmOk ts a) :
    match oev ts o, x.map a.eval with | none, none => True | some s, some v => Rep s v | _, _ => False := by
  cases x with
  | none => simp [O.ofO] at h; subst h; simp [oev]
  | some x =>
    simp [O.ofO] at h
    obtain ⟨q, hq, rfl⟩ := h
    simpa [oev] using O.rep hq ht

theorem O.ofL_rep {ts : Tm} {a : Act} (ht : TmOk ts a) : ∀ {l : List Operand} {os : List O}, O.ofL l = some os → RepL (os.map (O.ev ts)) (l.map a.eval)
  | [], os, h => by simp [O.ofL] at h; subst h; simp [RepL]
  | x :: l, os, h => by
    simp only [O.ofL] at h
    split at h
    · rename_i o os' h1 h2
      cases h
      simp only [List.map_cons, RepL]
      exact ⟨O.rep h1 ht, O.ofL_rep ht h2⟩
    · cases h
end Go.Proofs.YtebjldkkdapbeaaGreatDoor.Eng
