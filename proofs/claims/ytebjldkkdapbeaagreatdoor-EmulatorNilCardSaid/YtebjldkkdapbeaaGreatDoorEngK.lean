/- The engine, part K: regions that draw their order: what only looks may be taken first, as long as nobody who may come before it turns what it looks at. -/
import Derived.Test.YtebjldkkdapbeaaGreatDoorEngJ2
namespace Go.Proofs.YtebjldkkdapbeaaGreatDoor.Eng
open Go

section
variable {P : Program} {ops : Array Oper} {Q : Exit → Act → World → Prop} {md : Region.Mode}

/-- What an operation waits for, through others too: bits of a number. -/
def maskOf (md : Region.Mode) (prev : List Nat) (l : List Edge) : Nat :=
  l.foldl (fun m e => bif Region.binds md e then m ||| 2 ^ e.on ||| prev.getD e.on 0 else m) 0
def masks (md : Region.Mode) : List Oper → List Nat → List Nat
  | [], prev => prev
  | o :: r, prev => masks md r (prev ++ [maskOf md prev o.after.toList])
def waits (ops : Array Oper) (md : Region.Mode) (j i : Nat) : Bool := Nat.testBit ((masks md ops.toList []).getD j 0) i

inductive Dep (ops : Array Oper) (md : Region.Mode) : Nat → Nat → Prop
  | one (j : Nat) (o : Oper) (e : Edge) (ho : ops[j]? = some o) (he : e ∈ o.after) (hb : Region.binds md e = true) : Dep ops md j e.on
  | more (j : Nat) (o : Oper) (e : Edge) (i : Nat) (ho : ops[j]? = some o) (he : e ∈ o.after) (hb : Region.binds md e = true) (h : Dep ops md e.on i) : Dep ops md j i

theorem maskOf_spec (md : Region.Mode) (prev : List Nat) (i : Nat) : ∀ (l : List Edge) (m : Nat), Nat.testBit (l.foldl (fun m e => bif Region.binds md e then m ||| 2 ^ e.on ||| prev.getD e.on 0 else m) m) i = true →
    Nat.testBit m i = true ∨ ∃ e ∈ l, Region.binds md e = true ∧ (i = e.on ∨ Nat.testBit (prev.getD e.on 0) i = true)
  | [], m, h => .inl h
  | e :: l, m, h => by
    simp only [List.foldl_cons] at h
    rcases maskOf_spec md prev i l _ h with h1 | ⟨e', he', h2⟩
    · cases hb : Region.binds md e with
      | false => rw [hb] at h1; exact .inl h1
      | true =>
        rw [hb] at h1
        simp only [cond_true, Nat.testBit_or, Bool.or_eq_true] at h1
        rcases h1 with (h1 | h1) | h1
        · exact .inl h1
        · rw [Nat.testBit_two_pow] at h1
          exact .inr ⟨e, by simp, hb, .inl (of_decide_eq_true h1).symm⟩
        · exact .inr ⟨e, by simp, hb, .inr h1⟩
    · exact .inr ⟨e', List.mem_cons_of_mem _ he', h2⟩
theorem masks_spec (ops : Array Oper) (md : Region.Mode) : ∀ (l : List Oper) (prev : List Nat), (∀ k, l[k]? = ops[prev.length + k]?) → (∀ j i, Nat.testBit (prev.getD j 0) i = true → Dep ops md j i) → ∀ j i, Nat.testBit ((masks md l prev).getD j 0) i = true → Dep ops md j i
  | [], prev, _, h, j, i, hj => h j i hj
  | o :: r, prev, hl, h, j, i, hj => by
    refine masks_spec ops md r (prev ++ [maskOf md prev o.after.toList]) (fun k => ?_) (fun j i hj => ?_) j i hj
    · have := hl (k + 1)
      simp only [List.getElem?_cons_succ] at this
      rw [this, List.length_append, List.length_singleton]
      congr 1; omega
    · rcases Nat.lt_trichotomy j prev.length with hlt | heq | hgt
      · refine h j i ?_
        rw [List.getD_eq_getElem?_getD, List.getElem?_append_left hlt] at hj
        rw [List.getD_eq_getElem?_getD]; exact hj
      · subst heq
        have hm : (prev ++ [maskOf md prev o.after.toList]).getD prev.length 0 = maskOf md prev o.after.toList := by simp [List.getD_eq_getElem?_getD]
        rw [hm] at hj
        have ho : ops[prev.length]? = some o := by simpa using (hl 0).symm
        rcases maskOf_spec md prev i _ 0 hj with h0 | ⟨e, he, hb, h1⟩
        · simp at h0
        · have he : e ∈ o.after := by simpa using he
          rcases h1 with rfl | h1
          · exact .one _ o e ho he hb
          · exact .more _ o e i ho he hb (h _ _ h1)
      · rw [List.getD_eq_getElem?_getD, List.getElem?_eq_none (by simp; omega)] at hj
        simp at hj
theorem waits_dep {ops : Array Oper} {md : Region.Mode} {j i : Nat} (h : waits ops md j i = true) : Dep ops md j i :=
  masks_spec ops md ops.toList [] (fun k => by simp) (fun j i h => by simp at h) j i h

/-- What is listed has what it waits for listed. -/
def Closed (md : Region.Mode) (ops : Array Oper) (listed : Array Bool) : Prop := ∀ k o, ops[k]? = some o → listed.getD k true = true → ∀ e ∈ o.after, Region.binds md e = true → listed.getD e.on false = true
theorem Closed.start (md : Region.Mode) (ops : Array Oper) : Closed md ops (Array.replicate ops.size false) := fun k o ho h => by
  have hk := (Array.getElem?_eq_some_iff.1 ho).1
  simp [hk] at h
theorem Closed.set {md : Region.Mode} {ops : Array Oper} {listed : Array Bool} (h : Closed md ops listed) {j : Nat} (hj : j ∈ Region.ready md ops listed) : Closed md ops (listed.setIfInBounds j true) := fun k o ho hk e he hb => by
  by_cases hjk : j = k
  · subst hjk
    obtain ⟨_, o', ho', hall⟩ := mem_ready.1 hj
    rw [ho] at ho'; cases ho'
    exact getD_set_true (hall e he hb)
  · rw [getD_set_ne true hjk] at hk
    exact getD_set_true (h k o ho hk e he hb)
theorem dep_listed {md : Region.Mode} {ops : Array Oper} {listed : Array Bool} (hc : Closed md ops listed) {j i : Nat} (hd : Dep ops md j i) : (∀ o, ops[j]? = some o → ∀ e ∈ o.after, Region.binds md e = true → listed.getD e.on false = true) → listed.getD i false = true := by
  induction hd with
  | one j o e ho he hb => intro h; exact h o ho e he hb
  | more j o e i ho he hb _ ih =>
    intro h
    refine ih fun o' ho' e' he' hb' => ?_
    have h1 := h o ho e he hb
    refine hc e.on o' ho' ?_ e' he' hb'
    by_cases hlt : e.on < listed.size
    · simp [hlt] at h1 ⊢; exact h1
    · simp [Array.getElem?_eq_none (Nat.le_of_not_lt hlt)] at h1
theorem waits_unlisted {md : Region.Mode} {ops : Array Oper} {listed : Array Bool} (hc : Closed md ops listed) {j i : Nat} (hj : j ∈ Region.ready md ops listed) (hi : listed.getD i true = false) : waits ops md j i = false := by
  cases hw : waits ops md j i with
  | false => rfl
  | true =>
    have h1 := dep_listed hc (waits_dep hw) fun o ho e he hb => by
      obtain ⟨_, o', ho', hall⟩ := mem_ready.1 hj
      rw [ho] at ho'; cases ho'
      exact hall e he hb
    by_cases hlt : i < listed.size
    · simp [hlt] at h1 hi; rw [hi] at h1; cases h1
    · simp [Array.getElem?_eq_none (Nat.le_of_not_lt hlt)] at hi

abbrev Fl := List (Nat × (World → Prop))

def wpAnyF (P : Program) (md : Region.Mode) (ops : Array Oper) (Q : Exit → Act → World → Prop) : Nat → Array Bool → Fl → Act → World → Prop
  | 0, listed, _, a, w => Region.ready md ops listed = [] ∧ Q .normal a w
  | fuel + 1, listed, F, a, w =>
    (Region.ready md ops listed = [] → Q .normal a w) ∧
    ∀ j ∈ Region.ready md ops listed, wpOp P ops Q j (fun a' w' => (∀ x ∈ F, waits ops md j x.1 = false → x.2 w') ∧
      wpAnyF P md ops Q fuel (listed.setIfInBounds j true) (F.filter fun x => !waits ops md j x.1) a' w') a w

theorem wpAny_of_F : ∀ (fuel : Nat) (listed : Array Bool) (F : Fl) (a : Act) (w : World), wpAnyF P md ops Q fuel listed F a w → wpAny P md ops Q fuel listed a w
  | 0, _, _, _, _, h => h
  | fuel + 1, _, _, _, _, h => ⟨h.1, fun i hi => wpOp_mono (fun a' w' h' => wpAny_of_F fuel _ _ a' w' h'.2) (h.2 i hi)⟩

theorem wpAnyF_mono : ∀ (fuel : Nat) (listed : Array Bool) (F F' : Fl) (a : Act) (w : World), (∀ x ∈ F', x ∈ F) → wpAnyF P md ops Q fuel listed F a w → wpAnyF P md ops Q fuel listed F' a w
  | 0, _, _, _, _, _, _, h => h
  | fuel + 1, _, _, _, _, _, hs, h => ⟨h.1, fun i hi => wpOp_mono (fun a' w' h' => ⟨fun x hx hn => h'.1 x (hs x hx) hn, wpAnyF_mono fuel _ _ _ a' w' (fun x hx => by
      rw [List.mem_filter] at hx ⊢
      exact ⟨hs x hx.1, hx.2⟩) h'.2⟩) (h.2 i hi)⟩

theorem wpAnyF_first {i : Nat} {oi : Oper} {v : Value} {C : World → Prop} (hi : ops[i]? = some oi) (hsel : ∀ (j : Nat) (o : Oper) cs b, ops[j]? = some o → o.op ≠ .select cs b)
    (hQ : ∀ c a w, Q (.panic c) (a.put oi.dst v) w → Q (.panic c) a w) :
    ∀ (fuel : Nat) (listed : Array Bool) (F : Fl) (a : Act) (w : World), Closed md ops listed →
      (∀ j oj, ops[j]? = some oj → j ≠ i → listed.getD j true = false → (∀ e ∈ oj.after, Region.binds md e = true → e.on ≠ i) → oi.apart ops oj = true) →
      i ∈ Region.ready md ops listed → YieldsIf P ops C oi v a → C w → (∀ x ∈ F, x.2 w) →
      wpAnyF P md ops Q fuel (listed.setIfInBounds i true) ((i, C) :: F) (a.put oi.dst v) w → wpAnyF P md ops Q (fuel + 1) listed F a w := by
  intro fuel
  induction fuel with
  | zero =>
    intro listed F a w _ _ hr hy hC hF H
    refine ⟨fun h => (by rw [h] at hr; cases hr), fun j hj => ?_⟩
    by_cases hji : j = i
    · subst hji; exact hy.wpOp hi hC ⟨fun x hx _ => hF x hx, H.1, H.2⟩
    · have := ready_mono hj hji
      rw [H.1] at this
      cases this
  | succ fuel ih =>
    intro listed F a w hcl hfree hr hy hC hF H
    refine ⟨fun h => (by rw [h] at hr; cases hr), fun j hj => ?_⟩
    by_cases hji : j = i
    · subst hji
      refine hy.wpOp hi hC ⟨fun x hx _ => hF x hx, wpAnyF_mono _ _ _ _ _ _ (fun x hx => ?_) H⟩
      exact List.mem_cons_of_mem _ (List.mem_filter.1 hx).1
    · have h1 := H.2 j (ready_mono hj hji)
      obtain ⟨hjun, oj, hoj, hall⟩ := mem_ready.1 hj
      have hnot : ∀ e ∈ oj.after, Region.binds md e = true → e.on ≠ i := fun e he hb heq => by
        have h1 := hall e he hb
        have h0 := (mem_ready.1 hr).1
        rw [heq] at h1
        rcases Nat.lt_or_ge i listed.size with h' | h'
        · simp [h'] at h0 h1; rw [h0] at h1; cases h1
        · simp [Array.getElem?_eq_none h'] at h1
      have hw : waits ops md j i = false := waits_unlisted hcl hj (mem_ready.1 hr).1
      have h2 := wpOp_putIf hoj (hfree j oj hoj hji hjun hnot) (fun cs b => hsel i oi cs b hi) (fun cs b => hsel j oj cs b hoj) hQ hy h1
      have hfree' : ∀ k ok, ops[k]? = some ok → k ≠ i → (listed.setIfInBounds j true).getD k true = false →
          (∀ e ∈ ok.after, Region.binds md e = true → e.on ≠ i) → oi.apart ops ok = true := fun k ok hk hki hun hno => by
        refine hfree k ok hk hki ?_ hno
        by_cases hjk : j = k
        · subst hjk; exact hjun
        · rw [getD_set_ne true hjk] at hun; exact hun
      refine wpOp_mono (fun a' w' h3 => ⟨fun x hx hn => h3.2.1 x (List.mem_cons_of_mem _ hx) hn, ih (listed.setIfInBounds j true) _ a' w' (hcl.set hj) hfree' (ready_mono hr (Ne.symm hji)) h3.1 (h3.2.1 (i, C) (by simp) hw) (fun x hx => ?_) ?_⟩) h2
      · rw [List.mem_filter] at hx
        exact h3.2.1 x (List.mem_cons_of_mem _ hx.1) (by simpa using hx.2)
      · have := h3.2.2
        rw [List.filter_cons, hw] at this
        simp only [Bool.not_false, if_true] at this
        rw [Array.setIfInBounds_comm _ _ hji]
        exact this

theorem wpAnyF_take {i : Nat} {oi : Oper} {v : Value} {C : World → Prop} {fuel : Nat} {listed : Array Bool} {F : Fl} {a : Act} {w : World} (hi : ops[i]? = some oi)
    (hcl : Closed md ops listed) (hs : Region.noSelect ops = true) (hf : Region.free md ops listed i = true) (hr : (Region.ready md ops listed).contains i = true)
    (hQ : ∀ c a w, Q (.panic c) (a.put oi.dst v) w → Q (.panic c) a w) (hy : YieldsIf P ops C oi v a) (hC : C w) (hF : ∀ x ∈ F, x.2 w)
    (h : wpAnyF P md ops Q fuel (listed.setIfInBounds i true) ((i, C) :: F) (a.put oi.dst v) w) : wpAnyF P md ops Q (fuel + 1) listed F a w :=
  wpAnyF_first hi (Region.noSelect_spec hs) hQ fuel listed F a w hcl (Region.free_spec hi hf) (by simpa using hr) hy hC hF h
end
end Go.Proofs.YtebjldkkdapbeaaGreatDoor.Eng
