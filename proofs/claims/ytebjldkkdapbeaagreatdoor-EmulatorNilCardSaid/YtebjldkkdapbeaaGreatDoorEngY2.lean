/- The engine, part Y2: a region in whatever order by one canonical order, the ALLOCs put off. -/
import Derived.Test.YtebjldkkdapbeaaGreatDoorEngY1
namespace Go.Proofs.YtebjldkkdapbeaaGreatDoor.Eng
open Go

/-! ### The plan -/

def L.maker : L → Bool
  | .alloc _ | .box _ | .bslice .. => true
  | _ => false
/-- Its own temporary is none of those that it looks at. -/
def selfOk (ops : Array Oper) (o : Oper) : Bool :=
  match o.dst with
  | some d => !(o.looksAt ops).contains d
  | none => true
def makerAt (P : Program) (ops : Array Oper) (i : Nat) : Option L :=
  match ops[i]? with
  | some o => match o.guard with
    | none => match compQ P o.op with
      | none => match compL P o.op with
        | some l => bif l.maker && selfOk ops o then some l else none
        | _ => none
      | _ => none
    | _ => none
  | none => none
def isMk (P : Program) (ops : Array Oper) (i : Nat) : Bool := (makerAt P ops i).isSome
def dstAt (ops : Array Oper) (i : Nat) : Option Nat := (ops[i]?).bind (·.dst)
def lateOf (P : Program) (ops : Array Oper) (l : List Nat) : List (Option Nat × L) := l.filterMap fun i => (makerAt P ops i).map fun m => (dstAt ops i, m)
def listAll (listed : Array Bool) (l : List Nat) : Array Bool := l.foldl (fun l j => l.setIfInBounds j true) listed

/-- Every temporary is one of the frame's. -/
def dstsOk (N : Nat) (ops : Array Oper) : Bool :=
  (List.range ops.size).all fun i => match ops[i]? with
    | some o => dOk N o
    | none => true

def pickL (P : Program) (ops : Array Oper) (rs : List Nat) : Option (Nat × List Nat) :=
  match rs.filter fun i => !isMk P ops i with
  | [i] => some (i, rs.filter (isMk P ops))
  | [] => match rs with
    | [] => none
    | j :: off => some (j, off)
  | _ => none

/-- The ALLOCs are put off. -/
def mkPlanL (P : Program) (N : Nat) (ops : Array Oper) : Nat → Array Bool → Option Plan
  | 0, listed => if (Region.ready .any ops listed).isEmpty then some .done else none
  | fuel + 1, listed =>
    let rs := Region.ready .any ops listed
    let isQ (i : Nat) : Bool := match ops[i]? with | some o => (compQ P o.op).isSome && Region.free .any ops listed i | none => false
    match rs.find? isQ with
    | some i => match ops[i]? with
      | some o => match compIns P N ops o, mkPlanL P N ops fuel (listed.setIfInBounds i true) with
        | some ins, some r => some (.one i [] ins r)
        | _, _ => none
      | none => none
    | none => match rs with
      | [] => some .done
      | _ => match pickL P ops rs with
        | some (i, off) => if ((Region.ready .any ops (listAll listed off)).all fun k => rs.contains k) && off.all (Region.free .any ops listed) then
            match ops[i]? with
            | some o => match compIns P N ops o, mkPlanL P N ops fuel (listed.setIfInBounds i true) with
              | some ins, some r => if ins.isQ then none else some (.late (lateOf P ops off) (.one i (afts P ops i) ins r))
              | _, _ => none
            | none => none
          else none
        | none => none

def compC2 (P : Program) (N : Nat) (G : List Nat) : Code → Option IR
  | .skip => some .skip
  | .label _ => some .skip
  | .ret => some .ret
  | .exit id => some (.exit id)
  | .region _ ops false => (compList P N ops ops.toList).map (.ins G)
  | .region _ ops true => if Region.noSelect ops then if dstsOk N ops then (match mkPlanL P N ops ops.size (Array.replicate ops.size false) with
      | some p => some (.plan G p)
      | none => some .bad) else some .bad else some .bad
  | .seq a b => match compC2 P N G a, compC2 P N G b with
    | some x, some y => some (.seq x y)
    | _, _ => none
  | .cond c a b => match O.of c, compC2 P N G a, compC2 P N G b with
    | some c, some x, some y => some (.cond c x y)
    | _, _, _ => none
  | .block id b => (compC2 P N G b).map (.block id)
  | .loop b => (compC2 P N G b).map .loop
  | _ => some .bad
def compFn2 (P : Program) (fn : Func) : Option Fn :=
  match fn.body with
  | some c =>
    let G := (codeUses c ++ resUses fn.results.toList).eraseDups
    match compC2 P fn.ntmps G c, compRes P fn.results.toList with
    | some ir, some rs => some ⟨ir, rs⟩
    | _, _ => none
  | none => none

section
variable {P : Program} {ops : Array Oper}

theorem makerAt_spec {i : Nat} {l : L} (h : makerAt P ops i = some l) : ∃ o, ops[i]? = some o ∧ o.guard = none ∧ compQ P o.op = none ∧ compL P o.op = some l ∧ l.maker = true ∧ ∀ d, o.dst = some d → d ∉ o.looksAt ops := by
  unfold makerAt at h
  split at h
  · rename_i o ho
    split at h
    · rename_i hg
      split at h
      · rename_i hq
        split at h
        · rename_i l' hl
          rw [cond_eq_ite] at h
          split at h
          · rename_i hm
            cases h
            simp only [Bool.and_eq_true] at hm
            refine ⟨o, ho, hg, hq, hl, hm.1, fun d hd => ?_⟩
            have := hm.2
            unfold selfOk at this
            rw [hd] at this
            simpa using this
          · cases h
        · cases h
      · cases h
    · cases h
  · cases h

theorem dstsOk_spec {N : Nat} (h : dstsOk N ops = true) {i : Nat} {o : Oper} (ho : ops[i]? = some o) : dOk N o = true := by
  unfold dstsOk at h
  rw [List.all_eq_true] at h
  have := h i (List.mem_range.2 (Array.getElem?_eq_some_iff.1 ho).1)
  rw [ho] at this
  exact this

theorem pickL_spec {rs : List Nat} {i : Nat} {off : List Nat} (h : pickL P ops rs = some (i, off)) : i ∈ rs ∧ (∀ k ∈ rs, k = i ∨ k ∈ off) ∧ ∀ k ∈ off, k ∈ rs ∧ isMk P ops k = true := by
  unfold pickL at h
  split at h
  · rename_i i' hf
    simp only [Option.some.injEq, Prod.mk.injEq] at h
    obtain ⟨rfl, rfl⟩ := h
    refine ⟨?_, fun k hk => ?_, fun k hk => by simpa using hk⟩
    · have : i' ∈ rs.filter fun i => !isMk P ops i := by rw [hf]; simp
      exact (List.mem_filter.1 this).1
    · cases ha : isMk P ops k with
      | true => exact .inr (List.mem_filter.2 ⟨hk, ha⟩)
      | false =>
        have : k ∈ rs.filter fun i => !isMk P ops i := List.mem_filter.2 ⟨hk, by simp [ha]⟩
        rw [hf] at this
        exact .inl (by simpa using this)
  · rename_i hf
    split at h
    · cases h
    · rename_i j off'
      simp only [Option.some.injEq, Prod.mk.injEq] at h
      obtain ⟨rfl, rfl⟩ := h
      refine ⟨by simp, fun k hk => by simpa using hk, fun k hk => ⟨List.mem_cons_of_mem _ hk, ?_⟩⟩
      have := List.filter_eq_nil_iff.1 hf k (List.mem_cons_of_mem _ hk)
      simpa using this
  · cases h

/-! ### What is listed -/

theorem getD_set_self {listed : Array Bool} {i : Nat} : (listed.setIfInBounds i true).getD i true = true := by
  rcases Nat.lt_or_ge i listed.size with h | h
  · simp [h]
  · simp [h]
theorem getD_set_iff {listed : Array Bool} {i j : Nat} : (listed.setIfInBounds i true).getD j true = (listed.getD j true || decide (i = j)) := by
  by_cases h : i = j
  · subst h; rw [getD_set_self]; simp
  · rw [getD_set_ne true h]; simp [h]
theorem listAll_getD : ∀ (l : List Nat) (listed : Array Bool) (j : Nat), (listAll listed l).getD j true = (listed.getD j true || l.contains j)
  | [], listed, j => by simp [listAll]
  | i :: l, listed, j => by
    have := listAll_getD l (listed.setIfInBounds i true) j
    rw [getD_set_iff] at this
    simp only [listAll, List.foldl_cons] at this ⊢
    rw [this, List.contains_cons, Bool.or_assoc]
    congr 2
    by_cases h : i = j
    · subst h; simp
    · simp [h]; exact fun e => absurd e.symm h
theorem listAll_size : ∀ (l : List Nat) (listed : Array Bool), (listAll listed l).size = listed.size
  | [], listed => rfl
  | i :: l, listed => by
    have := listAll_size l (listed.setIfInBounds i true)
    simp only [listAll, List.foldl_cons] at this ⊢
    rw [this]; simp
theorem getD_ft {listed : Array Bool} {j : Nat} (h : j < listed.size) : listed.getD j false = listed.getD j true := by
  simp [h]
theorem getD_ge {listed : Array Bool} {j : Nat} (h : ¬ j < listed.size) : listed.getD j false = false := by
  simp [Array.getElem?_eq_none (Nat.le_of_not_lt h)]

/-- The second has listed all that the first has. -/
theorem ready_sub {md : Region.Mode} {l m : Array Bool} (hs : l.size = m.size) (h : ∀ j, l.getD j true = true → m.getD j true = true) {j : Nat} (hj : j ∈ Region.ready md ops l) (hm : m.getD j true = false) : j ∈ Region.ready md ops m := by
  rw [mem_ready] at *
  obtain ⟨_, o, ho, hall⟩ := hj
  refine ⟨hm, o, ho, fun e he hb => ?_⟩
  have h1 := hall e he hb
  by_cases hlt : e.on < l.size
  · rw [getD_ft hlt] at h1
    rw [getD_ft (by omega)]
    exact h _ h1
  · rw [getD_ge hlt] at h1; cases h1
theorem free_sub {md : Region.Mode} {l m : Array Bool} (h : ∀ j, l.getD j true = true → m.getD j true = true) {i : Nat} (hf : Region.free md ops l i = true) : Region.free md ops m i = true := by
  unfold Region.free at *
  split
  · rename_i h1; rw [h1] at hf; exact hf
  · rename_i oi h1
    rw [h1] at hf
    dsimp only at hf
    rw [List.all_eq_true] at hf ⊢
    intro j hj
    have := hf j hj
    simp only [Bool.or_eq_true] at this ⊢
    rcases this with (h2 | h2) | h2
    · exact .inl (.inl h2)
    · exact .inl (.inr (h j h2))
    · exact .inr h2

def unl (listed : Array Bool) : Nat → Nat
  | 0 => 0
  | n + 1 => (if listed.getD n true then 0 else 1) + unl listed n
theorem unl_pos {listed : Array Bool} {i : Nat} (hi : listed.getD i true = false) : ∀ {n}, i < n → 0 < unl listed n
  | n + 1, h => by
    simp only [unl]
    by_cases e : i = n
    · subst e; rw [hi]; simp; omega
    · have := unl_pos hi (show i < n by omega); omega
theorem unl_set {listed : Array Bool} {i : Nat} (hi : listed.getD i true = false) : ∀ {n}, i < n → unl (listed.setIfInBounds i true) n + 1 = unl listed n
  | n + 1, h => by
    simp only [unl]
    by_cases e : i = n
    · subst e
      rw [hi, getD_set_self]
      have : ∀ m, m ≤ i → unl (listed.setIfInBounds i true) m = unl listed m := by
        intro m
        induction m with
        | zero => intro _; rfl
        | succ m ih => intro hm; simp only [unl]; rw [ih (by omega), getD_set_ne true (show i ≠ m by omega)]
      rw [this i (Nat.le_refl _)]
      simp; omega
    · have := unl_set hi (show i < n by omega)
      rw [getD_set_ne true e]
      omega
theorem unl_new : ∀ (n m : Nat), unl (Array.replicate m false) n ≤ n
  | 0, _ => Nat.le_refl _
  | n + 1, m => by have := unl_new n m; simp only [unl]; split <;> omega
end

/-! ### Memory, turned about -/

theorem Ok.perm {H H' : Heap} {w : World} (h : Ok H w) (hp : H.Perm H') : Ok H' w := by
  have hpair : H.Pairwise fun e f => (∀ a, e.owns a → ¬ f.has a) ∧ (∀ a, f.owns a → ¬ e.has a) := by
    rw [List.pairwise_iff_getElem]
    intro i j hi hj hij
    have h1 : H[i]? = some H[i] := List.getElem?_eq_getElem hi
    have h2 : H[j]? = some H[j] := List.getElem?_eq_getElem hj
    exact ⟨h.apart i j _ _ (by omega) h1 h2, h.apart j i _ _ (by omega) h2 h1⟩
  have hpair' := (List.Perm.pairwise_iff (R := fun e f : Ent => (∀ a, e.owns a → ¬ f.has a) ∧ (∀ a, f.owns a → ¬ e.has a)) (fun h => ⟨h.2, h.1⟩) hp).1 hpair
  rw [List.pairwise_iff_getElem] at hpair'
  refine ⟨fun k e he => ?_, fun k l e f hkl he hf => ?_⟩
  · obtain ⟨k', hk'⟩ := List.mem_iff_getElem?.1 (hp.mem_iff.2 (List.mem_of_getElem? he))
    exact h.ent k' e hk'
  · obtain ⟨hk, rfl⟩ := List.getElem?_eq_some_iff.1 he
    obtain ⟨hl, rfl⟩ := List.getElem?_eq_some_iff.1 hf
    rcases Nat.lt_or_gt_of_ne hkl with h1 | h1
    · exact (hpair' k l hk hl h1).1
    · exact (hpair' l k hl hk h1).2

/-! ### A maker -/

/-- What a maker's new block lies under. -/
def makeVal (l : L) (b : Base) : Value :=
  match l with
  | .bslice _ n _ _ => .slice (some (adr b 0)) n n
  | _ => .pointer (some (adr b 0))
def mkFV (l : L) (k : Nat) : FV :=
  match l with
  | .bslice sz n _ _ => .s k sz 0 n (some n)
  | _ => .p k 0

theorem Holds.rep {sz : Nat} (hsz : 0 < sz) {rows : List (List SV)} {cs : Array Value} (h : Holds sz rows cs) : RepL rows.flatten cs.toList := by
  obtain ⟨h1, h2, _⟩ := h
  have hr : ∀ r ∈ rows, r.length = sz := fun r hr => by
    obtain ⟨i, hi⟩ := List.mem_iff_getElem?.1 hr
    exact (h2 i r hi).1
  refine RepL.of_get (by rw [flatten_length hr]; simpa using h1) fun i x y hx hy => ?_
  have hi : i < rows.length * sz := by
    have := (List.getElem?_eq_some_iff.1 hx).1
    rwa [flatten_length hr] at this
  rw [flatten_get hsz hr i hi] at hx
  simp only [Option.some.injEq] at hx
  have hd : i / sz < rows.length := Nat.div_lt_of_lt_mul (by rw [Nat.mul_comm]; exact hi)
  have hrow : rows[i / sz]? = some (rows[i / sz]'hd) := List.getElem?_eq_getElem hd
  obtain ⟨g1, g2⟩ := h2 _ _ hrow
  have hgd : rows.getD (i / sz) [] = rows[i / sz]'hd := by simp [List.getD_eq_getElem?_getD, hrow]
  rw [hgd] at hx
  have hm : i % sz < (rows[i / sz]'hd).length := by rw [g1]; exact Nat.mod_lt _ hsz
  obtain ⟨v, hv, hrv⟩ := g2 (i % sz) _ (List.getElem?_eq_getElem hm)
  rw [Nat.mul_comm, Nat.div_add_mod] at hv
  rw [Array.getElem?_toList, hv] at hy
  cases hy
  rw [List.getD_eq_getElem?_getD, List.getElem?_eq_getElem hm] at hx
  rw [← hx]; exact hrv

theorem bslice_run {P : Program} {ts : Tm} {a : Act} {K : List (List SV) → Prop} {t : TypeId} {n m sz : Nat} {zero : List SV} {os : List (Nat × O)} {parts : Array (Nat × Operand)} (hc : compL P (.buildSlice t n parts) = some (.bslice sz m zero os)) (ht : TmOk ts a) (h : partsV ts sz os (rowsOf zero n) K) :
    m = n ∧ 0 < sz ∧ ∃ rows' cs' e, Holds sz rows' cs' ∧ rows'.length = n ∧ K rows' ∧ ∀ w, (Instr.buildSlice t n (parts.map fun (i, x) => (i, a.eval x))).run P w = .ok (.slice (some ⟨w.heap.size, 0, none⟩) n n) (w.alloc (.cells cs' e)) := by
  simp only [compL] at hc
  split at hc
  · rename_i e hu
    simp [Option.bind_eq_some_iff] at hc
    obtain ⟨sz', hsz, zero', hz, ⟨⟨hzl, hpos⟩, h24⟩, os', hos, h1, h2, h3, h4⟩ := hc
    subst h1 h2 h3 h4
    obtain ⟨z, _, hzr, hz1, _, hzv⟩ := zeroOf_sound hz
    obtain ⟨ti, hti, hts⟩ := tySz_info hsz
    obtain ⟨rows', cs', s1, s2, s3, s4⟩ := fill_sound ht (sz := sz') parts.toList os' (rowsOf zero' n) _ hos (zero_holds hzr hz1 hzl hpos) h
    rw [rowsOf_length] at s3
    refine ⟨rfl, hpos, rows', cs', e, s2, s3, s4, fun w => ?_⟩
    have hso : (sizeOf e).run P w = .ok sz' w := by simp [sizeOf, typeInfo, hti, hts]
    unfold Instr.buildSlice
    simp only [Sem.run_bind, run_underlying hu w, Result.andThen_ok, hso]
    have h24' : ¬ (n * sz' > 2 ^ 24) := by omega
    by_cases hn0 : n = 0
    · subst hn0
      simp [Array.range_zero'] at s1
      simp [Array.range_zero', s1, newRow]
    · have hnz : ¬ (n * sz' = 0) := by
        intro h0; rcases Nat.mul_eq_zero.1 h0 with h0 | h0 <;> omega
      simp at s1
      simp [h24', hnz, hzv, s1, newRow]
  · cases hc

/-- A maker makes what is reckoned, in whatever world. -/
theorem maker_run {P : Program} {η : Env} {ts : FTm} {o : Oper} {l : L} {a : Act} (hm : l.maker = true) (hc : compL P o.op = some l) (ht : TmOk (ts.sv η) a) {cells : List FV} (h : evalMk l ts = some cells) :
    ∃ (vs : List Value) (t : TypeId), RepL (cells.map (FV.sv η)) vs ∧ (∀ u ∈ vs, One u) ∧ ∀ w, (execOp a.eval o).run P w = .ok (.value (makeVal l (w.heap.size, 0))) (w.alloc (.cells vs.toArray t)) := by
  obtain ⟨dst, op, type, pos, after, guard⟩ := o
  dsimp only at hc
  cases op
  case alloc e =>
    simp [compL] at hc; obtain ⟨zero, hz, rfl⟩ := hc
    obtain ⟨z, _, hzr, hz1, _, hzv⟩ := zeroOf_sound hz
    have hzl : z.cells.toList.toArray = z.cells := by apply Array.ext'; simp
    simp only [evalMk, cond_eq_ite] at h
    split at h
    · rename_i hcl
      simp only [Option.some.injEq] at h; subst h
      refine ⟨z.cells.toList, e, ?_, hz1, fun w => ?_⟩
      · have := cleanL_of η zero hcl
        rw [FV.svL_map] at this
        rw [this]; exact hzr
      · simp [execOp, Instr.alloc, hzv, newVar, newRow, makeVal, adr]
    · cases h
  case box e x =>
    simp [compL] at hc; obtain ⟨x', hx, rfl⟩ := hc
    simp only [evalMk, cond_eq_ite] at h
    split at h
    · rename_i ho
      simp only [Option.some.injEq] at h; subst h
      have rx := O.frep hx ht
      obtain ⟨hr, h1⟩ := cellsOf_rep rx (by rw [cellsF_sv]; exact allOneF_sv ho)
      rw [cellsF_sv] at hr
      have hzl : (a.eval x).cells.toList.toArray = (a.eval x).cells := by apply Array.ext'; simp
      refine ⟨_, e, hr, h1, fun w => ?_⟩
      simp [execOp, Instr.box, newVar, newRow, makeVal, adr]
    · cases h
  case buildSlice t n parts =>
    cases l with
    | bslice sz m zero os =>
      simp only [evalMk, cond_eq_ite] at h
      split at h
      · rename_i hcs
        simp only [Bool.and_eq_true] at hcs
        obtain ⟨⟨c1, c2⟩, c3⟩ := hcs
        have c2 := Nat.eq_of_beq_eq_true c2
        have c3 := Nat.le_of_ble_eq_true c3
        have hz := cleanL_of η zero c1
        rw [FV.svL_map] at hz
        have hmn : m = n := by
          simp only [compL] at hc
          split at hc
          · simp [Option.bind_eq_some_iff] at hc
            obtain ⟨_, _, _, _, _, _, _, _, h2, _⟩ := hc
            exact h2.symm
          · cases hc
        have hp := partsF_sound (η := η) (K := fun rows => cells.map (FV.sv η) = rows.flatten) os _ (rowsOf zero m) h (by rw [fillF_rows, hz]) (fun r hr => by
            obtain ⟨i, hi⟩ := List.mem_iff_getElem?.1 hr
            have hlt : i < m := by have := (List.getElem?_eq_some_iff.1 hi).1; rwa [rowsOf_length] at this
            rw [rowsOf_get zero m i hlt] at hi; cases hi; exact c2) (rowsOf_length _ _) fun rows he _ _ => he
        rw [hmn] at hp
        obtain ⟨_, hpos, rows', cs', e, q1, q2, q3, q4⟩ := bslice_run hc ht hp
        refine ⟨cs'.toList, e, by rw [q3]; exact q1.rep hpos, q1.2.2, fun w => ?_⟩
        have hcl : cs'.toList.toArray = cs' := by apply Array.ext'; simp
        rw [hcl]
        simp only [execOp, Sem.run_bind, q4 w, Result.andThen_ok, Sem.run_pure, makeVal, hmn, adr]
      · cases h
    | _ =>
      exfalso
      simp only [compL] at hc
      split at hc
      · simp [Option.bind_eq_some_iff] at hc
      · cases hc
  case convert =>
    rcases compConv_is hc with ⟨_, h⟩ | ⟨_, h⟩ <;> (subst h; cases hm)
  case makeSlice t ln cp =>
    simp only [compL] at hc
    split at hc
    · simp only [Option.bind_eq_bind, Option.bind_eq_some_iff] at hc
      obtain ⟨_, _, _, _, _, _, hc⟩ := hc
      split at hc
      · simp only [Option.bind_eq_some_iff, Option.some.injEq] at hc
        obtain ⟨_, _, _, _, hc⟩ := hc
        subst hc; cases hm
      · cases hc
    · cases hc
  case store t x v =>
    simp [compL, Option.bind_eq_some_iff] at hc; obtain ⟨_, _, _, _, _, _, rfl⟩ := hc; cases hm
  case call c =>
    obtain ⟨callee, args, ats⟩ := c
    dsimp only [compL] at hc
    split at hc
    · simp [Option.bind_eq_some_iff] at hc; obtain ⟨_, _, rfl⟩ := hc; cases hm
    · simp [Option.bind_eq_some_iff] at hc; obtain ⟨_, _, _, _, rfl⟩ := hc; cases hm
    · split at hc
      · split at hc
        · simp only [Option.bind_eq_bind, Option.bind_eq_some_iff] at hc
          obtain ⟨_, _, _, _, _, _, hc⟩ := hc
          split at hc
          · simp only [Option.bind_eq_some_iff, Option.some.injEq] at hc
            obtain ⟨_, _, _, _, rfl⟩ := hc
            cases hm
          · cases hc
        · cases hc
      · split at hc
        · simp only [Option.bind_eq_bind, Option.bind_eq_some_iff] at hc
          obtain ⟨_, _, hc⟩ := hc
          split at hc
          · simp only [Option.bind_eq_some_iff, Option.some.injEq] at hc
            obtain ⟨_, _, _, _, rfl⟩ := hc
            cases hm
          · cases hc
        · cases hc
      · cases hc
    · cases hc
  all_goals (simp [compL] at hc)

/-- A maker's reckoning. -/
theorem maker_eval {call : CallF} {ts : FTm} {l : L} {M M' : Mem} {c : FV} {ws : List Nat} (hm : l.maker = true) (h : evalL call l ts M = some (c, M', ws)) :
    ∃ cells, evalMk l ts = some cells ∧ Nat.ble M.next 999999999 = true ∧ c = mkFV l M.next ∧ M' = M.push ⟨cells, false⟩ ∧ ws = [] := by
  cases l <;> first | (cases hm; done) | skip
  case alloc zero =>
    simp only [evalL, cond_eq_ite] at h
    split at h
    · rename_i hc
      simp only [Bool.and_eq_true] at hc
      simp only [Option.some.injEq, Prod.mk.injEq] at h
      obtain ⟨rfl, rfl, rfl⟩ := h
      exact ⟨_, by simp [evalMk, hc.1], hc.2, rfl, rfl, rfl⟩
    · cases h
  case box x =>
    simp only [evalL, cond_eq_ite] at h
    split at h
    · rename_i hc
      simp only [Bool.and_eq_true] at hc
      simp only [Option.some.injEq, Prod.mk.injEq] at h
      obtain ⟨rfl, rfl, rfl⟩ := h
      exact ⟨_, by simp [evalMk, hc.1], hc.2, rfl, rfl, rfl⟩
    · cases h
  case bslice sz n zero parts =>
    simp only [evalL, cond_eq_ite] at h
    split at h
    · rename_i hc
      simp only [Bool.and_eq_true] at hc
      split at h
      · rename_i cells hcells
        simp only [Option.some.injEq, Prod.mk.injEq] at h
        obtain ⟨rfl, rfl, rfl⟩ := h
        exact ⟨_, by simp [evalMk, hc.1.1.1, hc.1.1.2, hc.1.2, hcells], hc.2, rfl, rfl, rfl⟩
      · cases h
    · cases h

theorem mkFV_rep {η : Env} {M : Mem} (hg : GoodS M η) {l : L} {ts : FTm} {cells : List FV} (hl : evalMk l ts = some cells) (b : Base) (t : Nat) : Rep ((mkFV l M.next).sv (η ++ [(b, t)])) (makeVal l b) := by
  have h1 : Rep ((FV.p M.next 0).sv (η ++ [(b, t)])) (.pointer (some (adr b 0))) := by rw [sv_new_p hg]; rfl
  cases l <;> first | exact h1 | skip
  rename_i sz n zero parts
  refine sv_new_s hg b t sz 0 n (some n) ⟨Nat.le_refl _, some (adr b 0), rfl, fun _ => by rw [Nat.zero_mul], fun h => ?_⟩
  exfalso
  unfold evalMk at hl
  dsimp only at hl
  rw [cond_eq_ite] at hl
  split at hl
  · rename_i hc
    simp only [Bool.and_eq_true] at hc
    have := Nat.le_of_ble_eq_true hc.2
    omega
  · cases hl

theorem forgetF_get : ∀ (l : List (Option Nat × L)) (ts : FTm) (t : Nat), (forgetF l ts).get t = if some t ∈ l.map (·.1) then .any else ts.get t
  | [], ts, t => by simp [forgetF]
  | (d, m) :: l, ts, t => by
    have ih := forgetF_get l ts t
    cases d with
    | none =>
      have : some t ∈ ((none, m) :: l).map (fun x : Option Nat × L => x.1) ↔ some t ∈ l.map (fun x : Option Nat × L => x.1) := by simp
      simp only [this, forgetF, ih]
    | some x =>
      have h1 : some t ∈ ((some x, m) :: l).map (fun x : Option Nat × L => x.1) ↔ t = x ∨ some t ∈ l.map (fun x : Option Nat × L => x.1) := by simp
      simp only [h1, forgetF, FTm.get, cond_eq_ite, Nat.beq_eq, ih]
      by_cases h : x = t
      · rw [if_pos h, if_pos (.inl h.symm)]
      · have h2 : ¬ t = x := fun e => h e.symm
        rw [if_neg h]
        simp only [h2, false_or]
theorem TmOk.forgetF {η : Env} {ts : FTm} {a : Act} (h : TmOk (ts.sv η) a) (l : List (Option Nat × L)) : TmOk ((Eng.forgetF l ts).sv η) a := fun t => by
  have := h t
  rw [FTm.get_sv] at this ⊢
  rw [forgetF_get]
  split
  · simp [FV.sv, Rep]
  · exact this
theorem lateOk_spec {ts : FTm} : ∀ {js : List (Option Nat × L)}, lateOk ts js = true → ∀ x ∈ js, ∃ cells, evalMk x.2 ts = some cells
  | [], _, x, h => by cases h
  | (d, l) :: r, h, x, hx => by
    simp only [lateOk] at h
    split at h
    · rename_i c hc
      rcases List.mem_cons.1 hx with rfl | hx
      · exact ⟨c, hc⟩
      · exact lateOk_spec h x hx
    · cases h
theorem TmOk.put_any {η : Env} {ts : FTm} {a : Act} (h : TmOk (ts.sv η) a) {d : Option Nat} (hd : ∀ t, d = some t → ts.get t = .any) (v : Value) : TmOk (ts.sv η) (a.put d v) := by
  cases d with
  | none => exact h
  | some d =>
    intro t
    by_cases e : d = t
    · subst e; rw [FTm.get_sv, hd d rfl]; simp [FV.sv, Rep]
    · have := h t
      have h2 : (a.put (some d) v).tmps.getD t undef = a.tmps.getD t undef := by
        simp [Act.put, Array.getElem?_setIfInBounds_ne e]
      rw [h2]; exact this
end Go.Proofs.YtebjldkkdapbeaaGreatDoor.Eng
