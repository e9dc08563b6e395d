/- The engine, part E: the operations that only look, all of them. -/
import Derived.Test.YtebjldkkdapbeaaGreatDoorEngD
import Derived.Laws.Tables
import Derived.ChangeKeysEq
import Derived.Laws.IdiomStrings
namespace Go.Proofs.YtebjldkkdapbeaaGreatDoor.Eng
open Go

theorem Rep.p_ {k : Nat} {b : Base} {o : Nat} : Rep (.p k b o) (.pointer (some (adr b o))) := rfl
theorem Rep.e_ {k : Nat} {b : Base} {sz i j : Nat} : Rep (.e k b sz i j) (.pointer (some (adr b (i * sz + j)))) := rfl
theorem Rep.fn_ {f : Nat} {l : List SV} {cs : List Value} (h : RepL l cs) : Rep (.fn f l) (.func (.func f) #[] cs.toArray) := ⟨cs, rfl, h⟩
theorem exec_v {P : Program} {s : Sem Value} {v : Value} {w : World} (h : s.run P w = .ok v w) : (do pure (Next.value (← s)) : Sem Next).run P w = .ok (.value v) w := by
  simp [h]

theorem part_ag {P : Program} {t : TypeId} {n : Nat} {ag : Bool} (hn : tySz P t = some n) (hag : tyAg P t = some ag) (h1 : (ag || n == 1) = true) (cs : List Value) (off : Nat) (hl : off + n ≤ cs.length) (w : World) :
    (part t cs.toArray off).run P w = .ok (if ag then .agg ((cs.drop off).take n).toArray else cs.getD off undef) w := by
  unfold tySz at hn
  cases hi : P.info? t with
  | none => rw [hi] at hn; simp at hn
  | some ti =>
    rw [hi] at hn; simp at hn
    have hsz : (sizeOf t).run P w = .ok n w := by simp [sizeOf, typeInfo, hi, hn]
    unfold tyAg at hag
    cases hu : P.underlying t with
    | none => rw [hu] at hag; cases hag
    | some d =>
      rw [hu] at hag
      have hA : (isAgg t).run P w = .ok ag w := by
        have hund : (underlying t).run P w = .ok d w := run_underlying hu w
        cases d <;> simp only [Option.some.injEq] at hag <;> subst hag <;> simp [isAgg, hund]
      unfold part
      simp only [Sem.run_bind, hA, Result.andThen_ok]
      cases ag with
      | true =>
        simp only [if_true, Sem.run_bind, hsz, Result.andThen_ok, Sem.run_pure]
        congr 2
        apply Array.ext'
        simp [List.take_drop, Nat.add_comm]
      | false =>
        simp at h1
        subst h1
        have : cs[off]? = some (cs[off]'(by omega)) := List.getElem?_eq_getElem (by omega)
        simp [this]

theorem RepL.partV {l : List SV} {cs : List Value} (h : RepL l cs) {off n : Nat} {ag : Bool} (h1 : (ag || n == 1) = true) (hle : off + n ≤ l.length) :
    Rep (if ag then .agg ((l.drop off).take n) else l.getD off .any) (if ag then .agg ((cs.drop off).take n).toArray else cs.getD off undef) := by
  cases ag with
  | true => exact ⟨_, rfl, (h.drop off).take n⟩
  | false =>
    simp at h1; subst h1
    have hx : l[off]? = some (l[off]'(by omega)) := List.getElem?_eq_getElem (by omega)
    obtain ⟨y, hy, hr⟩ := h.get _ _ hx
    simp only [Bool.false_eq_true, if_false, List.getD_eq_getElem?_getD, hx, hy, Option.getD_some]
    exact hr

/-! ### Structs and arrays of plain fields, compared -/

theorem shape_len : ∀ {l m : List SV}, shape l m = true → l.length = m.length
  | [], [], _ => rfl
  | .int _ _ :: l, .int _ _ :: m, h => by simp [shape] at h; simp [shape_len h.2]
  | .bool _ :: l, .bool _ :: m, h => by simp [shape] at h; simp [shape_len h]
  | [], _ :: _, h => by simp [shape] at h
  | x :: _, [], h => by cases x <;> simp [shape] at h
  | .any :: _, y :: _, h => by cases y <;> simp [shape] at h
  | .v _ :: _, y :: _, h => by cases y <;> simp [shape] at h
  | .p .. :: _, y :: _, h => by cases y <;> simp [shape] at h
  | .e .. :: _, y :: _, h => by cases y <;> simp [shape] at h
  | .s .. :: _, y :: _, h => by cases y <;> simp [shape] at h
  | .agg _ :: _, y :: _, h => by cases y <;> simp [shape] at h
  | .tup _ :: _, y :: _, h => by cases y <;> simp [shape] at h
  | .fn .. :: _, y :: _, h => by cases y <;> simp [shape] at h
  | .int .. :: _, .any :: _, h | .int .. :: _, .v _ :: _, h | .int .. :: _, .bool _ :: _, h | .int .. :: _, .p .. :: _, h | .int .. :: _, .e .. :: _, h | .int .. :: _, .s .. :: _, h | .int .. :: _, .agg _ :: _, h | .int .. :: _, .tup _ :: _, h | .int .. :: _, .fn .. :: _, h => by simp [shape] at h
  | .bool _ :: _, .any :: _, h | .bool _ :: _, .v _ :: _, h | .bool _ :: _, .int .. :: _, h | .bool _ :: _, .p .. :: _, h | .bool _ :: _, .e .. :: _, h | .bool _ :: _, .s .. :: _, h | .bool _ :: _, .agg _ :: _, h | .bool _ :: _, .tup _ :: _, h | .bool _ :: _, .fn .. :: _, h => by simp [shape] at h

/-- A pair of plain cells. -/
inductive Pair : SV → SV → Bool → Prop
  | int (k : IntKind) (a b : Int) : Pair (.int k a) (.int k b) (a == b)
  | bool (a b : Bool) : Pair (.bool a) (.bool b) (a == b)

theorem shape_cons {x y : SV} {l m : List SV} (h : shape (x :: l) (y :: m) = true) : ∃ b, Pair x y b ∧ shape l m = true ∧ eqL (x :: l) (y :: m) = (b && eqL l m) := by
  cases x <;> cases y <;> simp [shape] at h
  · obtain ⟨rfl, h⟩ := h
    exact ⟨_, .int _ _ _, h, rfl⟩
  · exact ⟨_, .bool _ _, h, rfl⟩

theorem shape_split : ∀ (n : Nat) {l m : List SV}, shape l m = true → shape (l.take n) (m.take n) = true ∧ shape (l.drop n) (m.drop n) = true ∧ eqL l m = (eqL (l.take n) (m.take n) && eqL (l.drop n) (m.drop n))
  | 0, l, m, h => by simp [shape, h, eqL]
  | n + 1, [], m, h => by
    have := shape_len h
    cases m with
    | nil => simp [shape, eqL]
    | cons => simp at this
  | n + 1, x :: l, m, h => by
    cases m with
    | nil => have := shape_len h; simp at this
    | cons y m =>
      obtain ⟨b, hp, h1, h2⟩ := shape_cons h
      obtain ⟨g1, g2, g3⟩ := shape_split n h1
      refine ⟨?_, g2, ?_⟩
      · cases hp <;> simp [shape, g1]
      · rw [h2, g3]
        cases hp <;> simp [eqL, Bool.and_assoc]

/-- A value of a type of n cells, out of them. -/
def valOf (ag : Bool) (cs : List Value) : Value := if ag then .agg cs.toArray else cs.getD 0 undef

theorem kinds_split : ∀ (ks ks' : List Bool) {l : List SV}, kindsOk (ks ++ ks') l = true → kindsOk ks (l.take ks.length) = true ∧ kindsOk ks' (l.drop ks.length) = true
  | [], ks', l, h => by simpa [kindsOk] using h
  | true :: ks, ks', .int _ _ :: l, h => by simpa [kindsOk] using kinds_split ks ks' (by simpa [kindsOk] using h)
  | false :: ks, ks', .bool _ :: l, h => by simpa [kindsOk] using kinds_split ks ks' (by simpa [kindsOk] using h)
  | true :: _, _, [], h | false :: _, _, [], h => by simp [kindsOk] at h
  | true :: _, _, .any :: _, h | true :: _, _, .v _ :: _, h | true :: _, _, .bool _ :: _, h | true :: _, _, .p .. :: _, h | true :: _, _, .e .. :: _, h | true :: _, _, .s .. :: _, h | true :: _, _, .agg _ :: _, h | true :: _, _, .tup _ :: _, h | true :: _, _, .fn .. :: _, h => by simp [kindsOk] at h
  | false :: _, _, .any :: _, h | false :: _, _, .v _ :: _, h | false :: _, _, .int .. :: _, h | false :: _, _, .p .. :: _, h | false :: _, _, .e .. :: _, h | false :: _, _, .s .. :: _, h | false :: _, _, .agg _ :: _, h | false :: _, _, .tup _ :: _, h | false :: _, _, .fn .. :: _, h => by simp [kindsOk] at h
theorem kinds_len : ∀ {ks : List Bool} {l : List SV}, kindsOk ks l = true → l.length = ks.length
  | [], [], _ => rfl
  | true :: ks, .int _ _ :: l, h => by simp [kinds_len (ks := ks) (l := l) (by simpa [kindsOk] using h)]
  | false :: ks, .bool _ :: l, h => by simp [kinds_len (ks := ks) (l := l) (by simpa [kindsOk] using h)]
  | true :: _, [], h | false :: _, [], h => by simp [kindsOk] at h
  | [], x :: _, h => by cases x <;> simp [kindsOk] at h
  | true :: _, .any :: _, h | true :: _, .v _ :: _, h | true :: _, .bool _ :: _, h | true :: _, .p .. :: _, h | true :: _, .e .. :: _, h | true :: _, .s .. :: _, h | true :: _, .agg _ :: _, h | true :: _, .tup _ :: _, h | true :: _, .fn .. :: _, h => by simp [kindsOk] at h
  | false :: _, .any :: _, h | false :: _, .v _ :: _, h | false :: _, .int .. :: _, h | false :: _, .p .. :: _, h | false :: _, .e .. :: _, h | false :: _, .s .. :: _, h | false :: _, .agg _ :: _, h | false :: _, .tup _ :: _, h | false :: _, .fn .. :: _, h => by simp [kindsOk] at h

theorem one_int {P : Program} {w : World} {d : Nat} {t : TypeId} {k : IntKind} (ht : P.underlying t = some (.int k)) {l m : List SV} {us vs : List Value} (hs : shape l m = true) (hk : kindsOk [true] l = true) (hl : RepL l us) (hm : RepL m vs) :
    (Op.equalIn (d + 1) t (valOf false us) (valOf false vs)).run P w = .ok (eqL l m) w := by
  match l, hk with
  | [.int k1 a], _ =>
    match m, hs with
    | [.int k2 b], hs =>
      simp [shape] at hs; subst hs
      match us, vs, hl, hm with
      | [u], [v], hl, hm =>
        simp only [RepL] at hl hm
        have e1 := repI hl.1; have e2 := repI hm.1; subst e1 e2
        simpa [valOf, eqL] using run_equalIn_int (P := P) w d t k1 k a b ht
    | .int _ _ :: _ :: _, hs => simp [shape] at hs
theorem one_bool {P : Program} {w : World} {d : Nat} {t : TypeId} (ht : P.underlying t = some .bool) {l m : List SV} {us vs : List Value} (hs : shape l m = true) (hk : kindsOk [false] l = true) (hl : RepL l us) (hm : RepL m vs) :
    (Op.equalIn (d + 1) t (valOf false us) (valOf false vs)).run P w = .ok (eqL l m) w := by
  match l, hk with
  | [.bool a], _ =>
    match m, hs with
    | [.bool b], _ =>
      match us, vs, hl, hm with
      | [u], [v], hl, hm =>
        simp only [RepL] at hl hm
        have e1 := repB hl.1; have e2 := repB hm.1; subst e1 e2
        simpa [valOf, eqL] using run_equalIn_bool' (P := P) w d t a b ht
    | .bool _ :: _ :: _, hs => simp [shape] at hs

theorem sizeOf_info {P : Program} {e : TypeId} {n : Nat} (h : tySz P e = some n) : ∃ i, P.info? e = some i ∧ P.cellsOf e = n := by
  unfold tySz at h
  cases hi : P.info? e with
  | none => rw [hi] at h; simp at h
  | some ti => rw [hi] at h; simp at h; exact ⟨ti, rfl, by simp [Program.cellsOf, hi, h]⟩

theorem eqItems_flat {P : Program} {w : World} {D : Nat} {e : TypeId} {kd : Bool} (hsz : tySz P e = some 1) (hag : tyAg P e = some false)
    (hone : ∀ {l m : List SV} {us vs : List Value}, shape l m = true → kindsOk [kd] l = true → RepL l us → RepL m vs → (Op.equalIn D e (valOf false us) (valOf false vs)).run P w = .ok (eqL l m) w)
    {l m : List SV} {us vs : List Value} (hs : shape l m = true) (hl : RepL l us) (hm : RepL m vs) : ∀ (k i : Nat), i + k = l.length → kindsOk (List.replicate k kd) (l.drop i) = true →
    (Op.eqItems D e 1 us.toArray vs.toArray (List.range' i k)).run P w = .ok (eqL (l.drop i) (m.drop i)) w := by
  have hml := shape_len hs
  have hul := hl.length
  have hvl := hm.length
  intro k
  induction k with
  | zero =>
    intro i hi _
    rw [List.drop_of_length_le (by omega), List.drop_of_length_le (by omega)]
    simp [Op.eqItems, eqL]
  | succ k ih =>
    intro i hi hk
    have hp1 := part_ag (P := P) hsz hag rfl us i (by omega) w
    have hp2 := part_ag (P := P) hsz hag rfl vs i (by omega) w
    obtain ⟨s1, s2, s3⟩ := shape_split i hs
    obtain ⟨t1, t2, t3⟩ := shape_split 1 s2
    have hk2 := kinds_split [kd] (List.replicate k kd) (l := l.drop i) (by simpa [List.replicate_succ] using hk)
    have h1 := hone t1 hk2.1 ((hl.drop i).take 1) ((hm.drop i).take 1)
    have hv1 : valOf false ((us.drop i).take 1) = us.getD i undef := by
      have : us[i]? = some (us[i]'(by omega)) := List.getElem?_eq_getElem _
      simp [valOf, List.getD_eq_getElem?_getD, this]
    have hv2 : valOf false ((vs.drop i).take 1) = vs.getD i undef := by
      have : vs[i]? = some (vs[i]'(by omega)) := List.getElem?_eq_getElem _
      simp [valOf, List.getD_eq_getElem?_getD, this]
    rw [hv1, hv2] at h1
    have hrec := ih (i + 1) (by omega) (by rw [← List.drop_drop]; simpa [Nat.add_comm] using hk2.2)
    simp only [List.range'_succ, Op.eqItems, Sem.run_bind, Nat.mul_one, hp1, hp2, Bool.false_eq_true, if_false, Result.andThen_ok, h1]
    rw [t3]
    cases hb : eqL (List.take 1 (l.drop i)) (List.take 1 (m.drop i)) with
    | false => simp
    | true =>
      simp only [Bool.not_true, Bool.false_eq_true, if_false, Bool.true_and, List.drop_drop]
      exact hrec

theorem eqFields_flat {P : Program} {w : World} {d D : Nat} (ih : ∀ (t : TypeId) (ks : List Bool) (ag : Bool), flatOk P d t = some ks → tyAg P t = some ag → ∀ {l m : List SV} {us vs : List Value}, shape l m = true → kindsOk ks l = true → RepL l us → RepL m vs → (Op.equalIn D t (valOf ag us) (valOf ag vs)).run P w = .ok (eqL l m) w)
    {l m : List SV} {us vs : List Value} (hs : shape l m = true) (hl : RepL l us) (hm : RepL m vs) : ∀ (fs : List Field) (acc ks : List Bool),
    fs.foldlM (fun acc f => if f.name == "_" || f.offset != acc.length then none else match flatOk P d f.type, tySz P f.type, tyAg P f.type with
          | some n, some m, some ag => if n.length == m && (ag || m == 1) then some (acc ++ n) else none
          | _, _, _ => none) acc = some ks → kindsOk ks l = true →
    (Op.eqFields D us.toArray vs.toArray fs).run P w = .ok (eqL (l.drop acc.length) (m.drop acc.length)) w
  | [], acc, ks, h, hk => by
    simp only [List.foldlM_nil, pure, Option.some.injEq] at h
    subst h
    have h1 := kinds_len hk
    have h2 := shape_len hs
    rw [List.drop_of_length_le (by omega), List.drop_of_length_le (by omega)]
    simp [Op.eqFields, eqL]
  | f :: fs, acc, ks, h, hk => by
    simp only [List.foldlM_cons] at h
    split at h
    · cases h
    · rename_i hcond
      simp only [Bool.or_eq_true, not_or, beq_iff_eq, bne_iff_ne, ne_eq, Decidable.not_not] at hcond
      obtain ⟨hname, hoff⟩ := hcond
      split at h
      · rename_i n sz ag hf hsz hag
        split at h
        · rename_i hn
          simp only [Bool.and_eq_true, beq_iff_eq] at hn
          obtain ⟨hn1, hn2⟩ := hn
          simp only [Option.bind_eq_bind, Option.bind_some] at h
          have hpre : ∃ rest, ks = acc ++ n ++ rest := by
            have : ∀ (fs : List Field) (acc ks : List Bool), fs.foldlM (fun acc f => if f.name == "_" || f.offset != acc.length then none else match flatOk P d f.type, tySz P f.type, tyAg P f.type with
                | some n, some m, some ag => if n.length == m && (ag || m == 1) then some (acc ++ n) else none
                | _, _, _ => none) acc = some ks → ∃ rest, ks = acc ++ rest := by
              intro fs
              induction fs with
              | nil => intro acc ks h; simp only [List.foldlM_nil, pure, Option.some.injEq] at h; exact ⟨[], by simp [h]⟩
              | cons g gs ihg =>
                intro acc ks h
                simp only [List.foldlM_cons] at h
                split at h
                · cases h
                · split at h
                  · split at h
                    · simp only [Option.bind_eq_bind, Option.bind_some] at h
                      obtain ⟨r, hr⟩ := ihg _ _ h
                      exact ⟨_, by rw [hr, List.append_assoc]⟩
                    · cases h
                  · cases h
            exact this fs (acc ++ n) ks h
          obtain ⟨rest, hks⟩ := hpre
          have hll := kinds_len hk
          rw [hks] at hll
          simp only [List.length_append] at hll
          have hml := shape_len hs
          have hul := hl.length
          have hvl := hm.length
          have hk2 := (kinds_split acc (n ++ rest) (l := l) (by rw [← List.append_assoc, ← hks]; exact hk)).2
          have hk3 := (kinds_split n rest (l := l.drop acc.length) hk2).1
          obtain ⟨_, s2, _⟩ := shape_split acc.length hs
          obtain ⟨t1, _, t3⟩ := shape_split n.length s2
          have hp1 := part_ag (P := P) hsz hag hn2 us acc.length (by omega) w
          have hp2 := part_ag (P := P) hsz hag hn2 vs acc.length (by omega) w
          have h1 := ih f.type n ag hf hag t1 hk3 ((hl.drop acc.length).take n.length) ((hm.drop acc.length).take n.length)
          have hval : ∀ cs : List Value, acc.length + sz ≤ cs.length → valOf ag ((cs.drop acc.length).take n.length) = if ag = true then .agg ((cs.drop acc.length).take sz).toArray else cs.getD acc.length undef := fun cs hcs => by
            unfold valOf
            rw [hn1]
            cases ag with
            | true => rfl
            | false =>
              simp only [Bool.false_or, beq_iff_eq] at hn2
              have : cs[acc.length]? = some (cs[acc.length]'(by omega)) := List.getElem?_eq_getElem _
              simp [List.getD_eq_getElem?_getD, hn2, this]
          rw [hval us (by omega), hval vs (by omega)] at h1
          have hrec := eqFields_flat ih hs hl hm fs (acc ++ n) ks h hk
          simp only [Op.eqFields, hoff]
          rw [if_pos hname]
          simp only [Sem.run_bind, hp1, hp2, Result.andThen_ok, h1]
          rw [t3]
          cases hb : eqL (List.take n.length (l.drop acc.length)) (List.take n.length (m.drop acc.length)) with
          | false => simp
          | true =>
            simp only [Bool.not_true, Bool.false_eq_true, if_false, Bool.true_and, List.drop_drop]
            rw [List.length_append] at hrec
            exact hrec
        · cases h
      · cases h

theorem flat_eq {P : Program} {w : World} : ∀ (d D : Nat), d < D → ∀ (t : TypeId) (ks : List Bool) (ag : Bool), flatOk P d t = some ks → tyAg P t = some ag → ∀ {l m : List SV} {us vs : List Value}, shape l m = true → kindsOk ks l = true → RepL l us → RepL m vs →
    (Op.equalIn D t (valOf ag us) (valOf ag vs)).run P w = .ok (eqL l m) w
  | 0, _, _, _, _, _, h, _, _, _, _, _, _, _, _, _ => by simp [flatOk] at h
  | d + 1, 0, hd, _, _, _, _, _, _, _, _, _, _, _, _, _ => by omega
  | d + 1, D + 1, hd, t, ks, ag, h, hag, l, m, us, vs, hs, hk, hl, hm => by
    have hag' := hag
    simp only [flatOk] at h
    split at h
    · rename_i k hu
      simp only [Option.some.injEq] at h; subst h
      simp only [tyAg, hu, Option.some.injEq] at hag; subst hag
      exact one_int hu hs hk hl hm
    · rename_i hu
      simp only [Option.some.injEq] at h; subst h
      simp only [tyAg, hu, Option.some.injEq] at hag; subst hag
      exact one_bool hu hs hk hl hm
    · rename_i fs hu
      simp only [tyAg, hu, Option.some.injEq] at hag; subst hag
      split at h
      · cases h
      · rename_i hst
        have hfo : P.fieldsOf t = fs := by simp [Program.fieldsOf, hu]
        simp only [valOf, if_true]
        rw [run_equalIn_struct (P := P) w D t us.toArray vs.toArray (by rw [hfo]; exact hu) (by simpa using hst), hfo]
        have := eqFields_flat (P := P) (w := w) (d := d) (D := D) (fun t ks ag h1 h2 => flat_eq d D (by omega) t ks ag h1 h2) hs hl hm fs.toList [] ks h hk
        simpa using this
    · rename_i n e hu
      simp only [tyAg, hu, Option.some.injEq] at hag; subst hag
      have fin : ∀ kd : Bool, ks = List.replicate n kd → tySz P e = some 1 → tyAg P e = some false →
          (∀ {l m : List SV} {us vs : List Value}, shape l m = true → kindsOk [kd] l = true → RepL l us → RepL m vs → (Op.equalIn D e (valOf false us) (valOf false vs)).run P w = .ok (eqL l m) w) →
          (Op.equalIn (D + 1) t (valOf true us) (valOf true vs)).run P w = .ok (eqL l m) w := fun kd hks hsz hage hone => by
        obtain ⟨i, hi, hc⟩ := sizeOf_info hsz
        subst hks
        have hll := kinds_len hk
        simp only [List.length_replicate] at hll
        simp only [valOf, if_true]
        rw [run_equalIn_array (P := P) (w := w) D us.toArray vs.toArray hu hi, hc, List.range_eq_range']
        have := eqItems_flat (P := P) (w := w) (D := D) hsz hage hone hs hl hm n 0 (by omega) (by simpa using hk)
        simpa using this
      split at h
      · rename_i k hue hse
        simp only [Option.some.injEq] at h
        cases D with
        | zero => omega
        | succ D => exact fin true h.symm hse (by simp [tyAg, hue]) fun hs hk hl hm => one_int hue hs hk hl hm
      · rename_i hue hse
        simp only [Option.some.injEq] at h
        cases D with
        | zero => omega
        | succ D => exact fin false h.symm hse (by simp [tyAg, hue]) fun hs hk hl hm => one_bool hue hs hk hl hm
      · cases h
    · cases h

theorem foldl_setE (cs : List Value) : ∀ (off k : Nat) (acc : Array Value), ((cs.zipIdx k).foldl (fun a (x : Value × Nat) => a.setIfInBounds (off + x.2) x.1) acc).size = acc.size ∧
    ∀ i, ((cs.zipIdx k).foldl (fun a (x : Value × Nat) => a.setIfInBounds (off + x.2) x.1) acc)[i]? = if off + k ≤ i ∧ i < off + k + cs.length ∧ i < acc.size then cs[i - (off + k)]? else acc[i]? := by
  induction cs with
  | nil => intro off k acc; simp; intro i h1 h2; omega
  | cons c cs ih =>
    intro off k acc
    simp only [List.zipIdx_cons, List.foldl_cons]
    obtain ⟨h1, h2⟩ := ih off (k + 1) (acc.setIfInBounds (off + k) c)
    refine ⟨by rw [h1]; simp, fun i => ?_⟩
    rw [h2 i, Array.size_setIfInBounds]
    by_cases hi : i = off + k
    · subst hi
      rw [if_neg (by omega)]
      by_cases hs : off + k < acc.size
      · rw [if_pos (by simp; omega)]; simp [hs]
      · rw [if_neg (by omega)]; simp [hs]
    · rw [Array.getElem?_setIfInBounds_ne (by omega)]
      by_cases hc : off + (k + 1) ≤ i ∧ i < off + (k + 1) + cs.length ∧ i < acc.size
      · rw [if_pos hc, if_pos (by simp only [List.length_cons]; omega)]
        rw [show i - (off + k) = (i - (off + (k + 1))) + 1 from by omega]
        simp
      · rw [if_neg hc, if_neg (by simp only [List.length_cons]; omega)]

theorem solid_rep {x : SV} {v : Value} (h : Rep x v) (hs : x.solid = true) : RepL (cellsOf x) v.cells.toList := by
  by_cases hag : ∃ l, x = .agg l
  · obtain ⟨l, rfl⟩ := hag
    obtain ⟨cs, rfl, hl⟩ := h
    simpa [cellsOf, Value.cells] using hl
  · have hc : cellsOf x = [x] := by cases x <;> first | rfl | (exfalso; exact hag ⟨_, rfl⟩)
    have h1 : x.one = true := by cases x <;> first | exact hs | (exfalso; exact hag ⟨_, rfl⟩)
    rw [hc, (h.one h1).cells]
    simp [RepL, h]

theorem fillS_sound {ts : Tm} {a : Act} (ht : TmOk ts a) {place : Nat → Option (Nat × Nat)} {K : SV → Prop} : ∀ (parts : List (Nat × Operand)) (ps : List (Nat × Nat × O)) (cur : List SV) (cs : Array Value), compPartsS place parts = some ps → RepL cur cs.toList → buildV ts ps cur K →
    ∃ cur' cs', Instr.fill place cs (parts.map fun (i, x) => (i, a.eval x)) = some cs' ∧ RepL cur' cs'.toList ∧ K (.agg cur')
  | [], ps, cur, cs, hc, hr, h => by simp [compPartsS] at hc; subst hc; exact ⟨cur, cs, rfl, hr, h⟩
  | (i, x) :: l, ps, cur, cs, hc, hr, h => by
    simp only [compPartsS] at hc
    split at hc
    · rename_i off size o os h1 h2 h3
      cases hc
      obtain ⟨q1, q2, q3, q4⟩ := h
      have rx := O.rep h2 ht
      have hcells := solid_rep rx q1
      have hvl : (a.eval x).cells.size = size := by have := hcells.length; simpa [q2] using this
      have hcl : cs.size = cur.length := by have := hr.length; simpa using this
      obtain ⟨g1, g2⟩ := foldl_setE (a.eval x).cells.toList off 0 cs
      have hfold : (a.eval x).cells.zipIdx.foldl (fun a (x : Value × Nat) => a.setIfInBounds (off + x.2) x.1) cs = ((a.eval x).cells.toList.zipIdx 0).foldl (fun a (x : Value × Nat) => a.setIfInBounds (off + x.2) x.1) cs := by
        rw [← Array.foldl_toList]; simp
      have hvll : (a.eval x).cells.toList.length = size := by simpa using hvl
      have hnew : RepL (splice cur off (cellsOf (o.ev ts))) ((a.eval x).cells.zipIdx.foldl (fun a (x : Value × Nat) => a.setIfInBounds (off + x.2) x.1) cs).toList := by
        rw [hfold]
        refine RepL.of_get (by rw [Array.length_toList, g1, splice_length, hcl]) fun j u y hu hy => ?_
        rw [Array.getElem?_toList, g2 j] at hy
        rw [splice_get] at hu
        simp only [Nat.add_zero] at hy
        by_cases hj : off ≤ j ∧ j < off + (cellsOf (o.ev ts)).length ∧ j < cur.length
        · rw [if_pos hj] at hu
          rw [if_pos (by omega)] at hy
          obtain ⟨y', hy', hry⟩ := hcells.get _ _ hu
          rw [hy] at hy'; cases hy'; exact hry
        · rw [if_neg hj] at hu
          rw [if_neg (by omega)] at hy
          obtain ⟨y', hy', hry⟩ := hr.get _ _ hu
          rw [Array.getElem?_toList, hy] at hy'; cases hy'; exact hry
      obtain ⟨cur', cs', s1, s2, s3⟩ := fillS_sound ht l os _ _ h3 hnew q4
      refine ⟨cur', cs', ?_, s2, s3⟩
      simp only [List.map_cons, Instr.fill, h1]
      rw [if_neg (by simp [hvl]; omega)]
      exact s1
    · cases hc

theorem Rep.agg_ {l : List SV} {cs : Array Value} (h : RepL l cs.toList) : Rep (.agg l) (.agg cs) := ⟨cs.toList, by simp, h⟩

theorem eqnil_run {P : Program} {t el : TypeId} (hu : P.underlying t = some (.slice el)) (d : Nat) (a : Option Addr) (n c : Nat) (w : World) :
    (Op.equalIn (d + 1) t (.slice a n c) (.slice none 0 0)).run P w = .ok a.isNone w := by
  have hund : (underlying t).run P w = .ok (.slice el) w := run_underlying hu w
  cases a <;> simp [Op.equalIn, hund]

theorem eqa_sound {P : Program} {op : BinOp} {t : TypeId} {x y : O} {q : Q} (hc : compEqa P op t x y = some q) {ts : Tm} {H : Heap} {vx vy : Value} {K : SV → Prop}
    (hx : Rep (x.ev ts) vx) (hy : Rep (y.ev ts) vy) (h : q.val ts H K) (ox oy : Operand) : q.reads ts = [] ∧ 
    ∃ v sv, Rep sv v ∧ K sv ∧ ∀ w, (do eqGuard op t ox oy vx vy; binOp op t vx vy : Sem Value).run P w = .ok v w := by
  unfold compEqa at hc
  split at hc
  · cases hc
  · rename_i hg
    have hg : P.eqGuardType P.depth t = false := by simpa using hg
    split at hc
    · rename_i ks hks hag
      have key : ∀ neg : Bool, q = .eqa neg ks x y → ∃ l m : List SV, ∃ us vs : List Value, vx = .agg us.toArray ∧ vy = .agg vs.toArray ∧ K (.bool (if neg then !eqL l m else eqL l m)) ∧ ∀ w, (Op.equalIn 10000 t vx vy).run P w = .ok (eqL l m) w := fun neg hq => by
        subst hq
        simp only [Q.val] at h
        unfold eqaV at h
        split at h
        · rename_i l m e1 e2
          rw [e1] at hx
          rw [e2] at hy
          obtain ⟨us, rfl, hl⟩ := hx
          obtain ⟨vs, rfl, hm⟩ := hy
          obtain ⟨hs, hk, hK⟩ := h
          exact ⟨l, m, us, vs, rfl, rfl, hK, fun w => flat_eq (P := P) (w := w) 64 10000 (by omega) t ks true hks hag hs hk hl hm⟩
        · exact h.elim
      have guard : ∀ (us vs : List Value) (w : World), (eqGuard op t ox oy (.agg us.toArray) (.agg vs.toArray)).run P w = .ok () w := fun us vs w => by
        unfold eqGuard
        cases op <;> simp [hg]
      split at hc
      · cases hc
        obtain ⟨l, m, us, vs, rfl, rfl, hK, hrun⟩ := key false rfl
        refine ⟨rfl, _, _, Rep.bool_, hK, fun w => ?_⟩
        simp only [Sem.run_bind, guard, Result.andThen_ok]
        rw [run_eql_struct, hrun]
        simp
      · cases hc
        obtain ⟨l, m, us, vs, rfl, rfl, hK, hrun⟩ := key true rfl
        refine ⟨rfl, _, _, Rep.bool_, hK, fun w => ?_⟩
        simp only [Sem.run_bind, guard, Result.andThen_ok]
        rw [run_neq_struct, hrun]
        simp
      · cases hc
    · cases hc

theorem sbin_sound {P : Program} {op : BinOp} {t : TypeId} {x y : SV} {vx vy : Value} {K : SV → Prop} (hx : Rep x vx) (hy : Rep y vy) (h : sbinV op x y K) (ox oy : Operand) :
    ∃ v sv, Rep sv v ∧ K sv ∧ ∀ w, (do eqGuard op t ox oy vx vy; binOp op t vx vy : Sem Value).run P w = .ok v w := by
  unfold sbinV at h
  split at h
  · rename_i a b
    have e1 : vx = .string a := hx
    have e2 : vy = .string b := hy
    subst e1 e2
    have guard : ∀ w, (eqGuard op t ox oy (.string a) (.string b)).run P w = .ok () w := fun w => by
      unfold eqGuard
      cases op <;> simp
    unfold sbinI at h
    split at h
    · obtain ⟨h1, h2⟩ := h
      refine ⟨.string (a ++ b), .v (.string (a ++ b)), (show Value.string (a ++ b) = .string (a ++ b) from rfl), h2, fun w => ?_⟩
      have h3 : ¬ (((a.size + b.size : Nat) : Int) > IntKind.i64.max) := by
        have : IntKind.i64.max = 9223372036854775807 := rfl
        rw [this]; omega
      simp only [Sem.run_bind, guard, Result.andThen_ok]
      simp only [binOp, Op.stringOp, h3, if_false, Sem.run_pure]
    · refine ⟨_, _, Rep.bool_, h, fun w => ?_⟩
      simp only [Sem.run_bind, guard, Result.andThen_ok]
      simp only [binOp, Op.stringOp, Sem.run_pure]
    · refine ⟨_, _, Rep.bool_, h, fun w => ?_⟩
      simp only [Sem.run_bind, guard, Result.andThen_ok]
      simp only [binOp, Op.stringOp, Sem.run_pure]
    · exact h.elim
  · exact h.elim

theorem compBin_sound {P : Program} {o : Oper} {q : Q} {ts : Tm} {a : Act} {H : Heap} {w : World} {K : SV → Prop} {op : BinOp} {t : TypeId} {x y : Operand} {yt : TypeId} (hop : o.op = .binOp op t x y yt) (hc : compBin P op t x y = some q) (ht : TmOk ts a) (h : q.val ts H K) :
    Yd P a o H (q.reads ts) w K := by
  have fin : ∀ {v : Value} {sv : SV} {ks : List Nat}, Rep sv v → K sv → (∀ w, (do eqGuard op t x y (a.eval x) (a.eval y); binOp op t (a.eval x) (a.eval y) : Sem Value).run P w = .ok v w) → Yd P a o H ks w K := fun h1 h2 h3 => .pure h1 h2 fun w' => by
    have : execOp a.eval o = (do pure (Next.value (← (do eqGuard op t x y (a.eval x) (a.eval y); binOp op t (a.eval x) (a.eval y) : Sem Value))) : Sem Next) := by
      unfold execOp; rw [hop]
    rw [this]; exact exec_v (h3 w')
  unfold compBin at hc
  split at hc
  · rename_i x' y' hx hy
    split at hc
    · cases hc
      obtain ⟨v, sv, h1, h2, h3⟩ := binV_sound (P := P) (t := t) ⟨by simp, by simp⟩ (O.rep hx ht) (O.rep hy ht) h x y
      exact fin h1 h2 h3
    · rename_i hu
      cases hc
      obtain ⟨v, sv, h1, h2, h3⟩ := binV_sound (P := P) (t := t) ⟨fun _ => hu, by simp⟩ (O.rep hx ht) (O.rep hy ht) h x y
      exact fin h1 h2 h3
    · rename_i e hu
      cases hc
      obtain ⟨v, sv, h1, h2, h3⟩ := binV_sound (P := P) (t := t) ⟨by simp, fun _ => ⟨e, hu⟩⟩ (O.rep hx ht) (O.rep hy ht) h x y
      exact fin h1 h2 h3
    · rename_i e hu
      split at hc
      · rename_i hnil
        have hyv : a.eval y = .slice none 0 0 := by
          unfold isNilSlice at hnil
          split at hnil
          · rfl
          · cases hnil
        have rx := O.rep hx ht
        have key : ∀ neg : Bool, q = .eqnil neg x' → ∃ (A : Option Addr) (n c : Nat), a.eval x = .slice A n c ∧ K (.bool (neg != A.isNone)) := fun neg hq => by
          subst hq
          simp only [Q.val] at h; first | unfold nilcV at h | unfold convV at h | unfold fieldV at h | unfold faddrV at h | unfold iaddrV at h | unfold iaddrAV at h | unfold slcSV at h | unfold slcAV at h | unfold extV at h | unfold lenV at h | unfold capV at h | unfold mnV at h | unfold mxV at h | unfold idxV at h | unfold eqnilV at h | skip
          split at h
          · rename_i k b sz off ln cp e1
            rw [e1] at rx
            obtain ⟨hlc, A, hv, had, hnil⟩ := rx
            refine ⟨A, _, _, hv, ?_⟩
            rcases Nat.eq_zero_or_pos sz with hs | hs
            · rw [hnil hs]; simpa using h.1 hs
            · rcases Nat.eq_zero_or_pos cp with h0 | h0
              · exact (h.2 hs).1 h0 _
              · rw [had h0]; simpa using (h.2 hs).2 h0
          · exact h.elim
        unfold compEqn at hc
        split at hc
        · cases hc
          obtain ⟨A, n, c, hv, hK⟩ := key false rfl
          refine fin Rep.bool_ hK fun w => ?_
          rw [hv, hyv]
          simp only [eqGuard_at_slice, Sem.run_bind, Sem.run_pure, Result.andThen_ok]
          have := eql_run (P := P) (t := t) (x := .slice A n c) (y := .slice none 0 0) rfl (eqnil_run hu 9999 A n c w)
          simpa using this
        · cases hc
          obtain ⟨A, n, c, hv, hK⟩ := key true rfl
          refine fin Rep.bool_ hK fun w => ?_
          rw [hv, hyv]
          simp only [eqGuard_at_slice, Sem.run_bind, Sem.run_pure, Result.andThen_ok]
          have := neq_run (P := P) (t := t) (x := .slice A n c) (y := .slice none 0 0) rfl (eqnil_run hu 9999 A n c w)
          simpa using this
        · cases hc
      · cases hc
    · cases hc
      obtain ⟨v, sv, h1, h2, h3⟩ := sbin_sound (P := P) (t := t) (O.rep hx ht) (O.rep hy ht) h x y
      exact fin h1 h2 h3
    · obtain ⟨hr, v, sv, h1, h2, h3⟩ := eqa_sound hc (O.rep hx ht) (O.rep hy ht) h x y
      exact fin h1 h2 h3
  · cases hc

theorem byteS_rep {x : SV} {b : UInt8} (h : byteS x = some b) {v : Value} (hr : Rep x v) : v = .int .u8 (b.toNat : Int) := by
  unfold byteS at h
  split at h
  · rename_i n
    split at h
    · rename_i hn
      simp only [Option.some.injEq] at h
      subst h
      have := repI hr
      rw [this]
      have hm : (UInt8.ofNat n).toNat = n := by simp; omega
      rw [hm]; rfl
    · cases h
  · cases h
theorem bytesS_get : ∀ {l : List SV} {bs : List UInt8}, bytesS l = some bs → bs.length = l.length ∧ ∀ (i : Nat) (x : SV), l[i]? = some x → ∃ b, bs[i]? = some b ∧ byteS x = some b
  | [], bs, h => by simp [bytesS] at h; subst h; simp
  | x :: l, bs, h => by
    simp only [bytesS] at h
    split at h
    · rename_i b r h1 h2
      simp only [Option.some.injEq] at h; subst h
      obtain ⟨g1, g2⟩ := bytesS_get h2
      refine ⟨by simp [g1], fun i y hy => ?_⟩
      cases i with
      | zero => simp at hy; subst hy; exact ⟨b, by simp, h1⟩
      | succ i => simpa using g2 i y (by simpa using hy)
    · cases h
theorem b2s_sound {P : Program} {o : Oper} {ts : Tm} {a : Act} {H : Heap} {w : World} {K : SV → Prop} {s d e : TypeId} {x : Operand} {x' : O} (hop : o.op = .convert s d x) (hs : P.underlying s = some (.slice e)) (he : P.underlying e = some (.int .u8)) (hd : P.underlying d = some .string)
    (hok : Ok H w) (rx : Rep (x'.ev ts) (a.eval x)) (h : b2sV H (x'.ev ts) K) : Yd P a o H (readsS (x'.ev ts)) w K := by
  have hex : ∀ w' : World, execOp a.eval o = (do pure (Next.value (← convert s d (a.eval x))) : Sem Next) := fun w' => by unfold execOp; rw [hop]
  unfold b2sV at h
  split at h
  · rename_i k b sz off len cap e1
    rw [e1] at rx ⊢
    obtain ⟨hlc, A, hv, hA, _⟩ := rx
    rcases Nat.eq_zero_or_pos len with h0 | hpos
    · subst h0
      refine .pure (v := .string ⟨#[]⟩) (sv := .v (.string ⟨#[]⟩)) (show Value.string ⟨#[]⟩ = .string ⟨#[]⟩ from rfl) (h.1 rfl) fun w' => ?_
      rw [hex w', hv]
      refine exec_v ?_
      cases A with
      | none =>
        rw [run_convert_bytes_string w' s d e none 0 cap hs he hd]
        rfl
      | some ad => exact run_convert_bytes_back (P := P) w' s d e ad cap [] hs he hd fun j hj => by simp at hj
    · obtain ⟨hsz, hO⟩ := h.2 hpos
      subst hsz
      have hA := hA (by omega)
      subst hA
      unfold b2sO at hO
      split at hO
      · rename_i b' l hent
        obtain ⟨rfl, hle, bs, hbs, hK⟩ := hO
        obtain ⟨g1, g2⟩ := bytesS_get hbs
        have hlen : bs.length = len := by rw [g1, List.length_take, List.length_drop]; omega
        refine ⟨.string ⟨bs.toArray⟩, .v (.string ⟨bs.toArray⟩), (show Value.string ⟨bs.toArray⟩ = .string ⟨bs.toArray⟩ from rfl), hK, fun w' hsame => ?_⟩
        rw [hex w', hv]
        refine exec_v ?_
        rw [← hlen]
        refine run_convert_bytes_back (P := P) w' s d e (adr b (off * 1)) cap bs hs he hd fun j hj => ?_
        have hread : readsS (.s k b 1 off len cap) = [k] := by
          unfold readsS
          cases len with
          | zero => omega
          | succ n => rfl
        rw [hread] at hsame
        have hs2 := hsame k (by simp) _ hent (off + j) (by simp [Ent.size]; omega)
        simp only [Ent.base] at hs2
        rw [adr_add, Nat.mul_one, hs2]
        obtain ⟨v, c1, c2, _⟩ := (hok.ent k _ hent).cell (off + j) (by simp [Ent.size]; omega)
        simp only [Ent.base, Ent.cell] at c1 c2
        rw [c1]
        have hx : l[off + j]? = some (l[off + j]'(by omega)) := List.getElem?_eq_getElem _
        rw [List.getD_eq_getElem?_getD, hx, Option.getD_some] at c2
        obtain ⟨bb, k1, k2⟩ := g2 j _ (by rw [List.getElem?_take, if_pos (by omega), List.getElem?_drop]; exact hx)
        have hbb : bs[j] = bb := by rw [List.getElem?_eq_getElem hj] at k1; simpa using k1
        rw [byteS_rep k2 c2, hbb]
      · exact hO.elim
  · exact h.elim

theorem bound_le' {o : Option SV} {d m : Nat} {K L : Nat → Prop} (hd : o = none → d ≤ m) (h : bound o d m K) (hk : ∀ n, n ≤ m → K n → L n) : bound o d m L := by
  unfold bound at h ⊢
  split at h
  · exact hk d (hd rfl) h
  · obtain ⟨h1, h2, h3⟩ := h
    exact ⟨h1, h2, hk _ (by omega) h3⟩
  · exact h.elim

set_option maxHeartbeats 1000000 in
theorem compQ_sound {P : Program} {o : Oper} {q : Q} {ts : Tm} {a : Act} {H : Heap} {w : World} {K : SV → Prop} (hc : compQ P o.op = some q) (hok : Ok H w) (ht : TmOk ts a) (h : q.val ts H K) :
    Yd P a o H (q.reads ts) w K := by
  obtain ⟨dst, op, type, pos, after, guard⟩ := o
  dsimp only at hc
  cases op
  case move x =>
    simp [compQ] at hc; obtain ⟨x', hx, rfl⟩ := hc
    exact .pure (O.rep hx ht) h fun w' => rfl
  case assign x =>
    simp [compQ] at hc; obtain ⟨x', hx, rfl⟩ := hc
    exact .pure (O.rep hx ht) h fun w' => rfl
  case pick c x y =>
    simp [compQ, Option.bind_eq_some_iff] at hc; obtain ⟨c', hc, x', hx, y', hy, rfl⟩ := hc
    have rc := O.rep hc ht; have rx := O.rep hx ht; have ry := O.rep hy ht
    simp only [Q.val, pickV] at h
    split at h
    · rename_i b p q e1 e2 e3
      rw [e1] at rc; rw [e2] at rx; rw [e3] at ry
      have hcv := repB rc; have hxv := repB rx; have hyv := repB ry
      exact .pure (Rep.bool_) h fun w' => by
        simp only [execOp]; rw [hcv, hxv, hyv]; cases b <;> simp [asBool]
    · rename_i b e1 _
      rw [e1] at rc
      have hcv := repB rc
      cases b with
      | true => exact .pure rx (h.1 rfl) fun w' => by simp only [execOp]; rw [hcv]; simp [asBool]
      | false => exact .pure ry (h.2 rfl) fun w' => by simp only [execOp]; rw [hcv]; simp [asBool]
    · exact h.elim
  case nilCheck x =>
    simp [compQ] at hc; obtain ⟨x', hx, rfl⟩ := hc
    have rx := O.rep hx ht
    simp only [Q.val] at h; first | unfold nilcV at h | unfold convV at h | unfold fieldV at h | unfold faddrV at h | unfold iaddrV at h | unfold iaddrAV at h | unfold slcSV at h | unfold slcAV at h | unfold extV at h | unfold lenV at h | unfold capV at h | unfold mnV at h | unfold mxV at h | unfold idxV at h | unfold eqnilV at h | skip
    split at h
    · rename_i e; rw [e] at rx
      exact .pure rx h fun w' => by simp only [execOp]; rw [repP rx]; rfl
    · rename_i e; rw [e] at rx
      exact .pure rx h fun w' => by simp only [execOp]; rw [repE rx]; rfl
    · rename_i e; rw [e] at rx
      have rx' := rx
      obtain ⟨cs, hv, _⟩ := rx'
      exact .pure rx h fun w' => by simp only [execOp]; rw [hv]; rfl
    · exact h.elim
  case binOp op t x y yt => exact compBin_sound rfl hc ht h
  case unOp op t x =>
    simp [compQ, Option.bind_eq_some_iff] at hc; obtain ⟨x', hx, rfl⟩ := hc
    obtain ⟨v, sv, h1, h2, h3⟩ := unV_sound (P := P) (O.rep hx ht) h
    exact .pure h1 h2 fun w' => exec_v (h3 w')
  case convert s d x =>
    simp only [compQ] at hc
    split at hc
    · rename_i ks kd hs hd
      simp [Option.bind_eq_some_iff] at hc; obtain ⟨x', hx, rfl⟩ := hc
      have rx := O.rep hx ht
      simp only [Q.val] at h; first | unfold nilcV at h | unfold convV at h | unfold fieldV at h | unfold faddrV at h | unfold iaddrV at h | unfold iaddrAV at h | unfold slcSV at h | unfold slcAV at h | unfold extV at h | unfold lenV at h | unfold capV at h | unfold mnV at h | unfold mxV at h | unfold idxV at h | unfold eqnilV at h | skip
      split at h
      · rename_i kk n e
        rw [e] at rx
        have hv := repI rx
        refine .pure Rep.int_ h fun w' => exec_v ?_
        rw [hv]
        have h1 := run_underlying hs w'
        have h2 := run_underlying hd w'
        simp [convert, h1, h2, Conv.intToInt]
      · exact h.elim
    · rename_i e hs hd
      split at hc
      · rename_i he
        simp at hc; obtain ⟨x', hx, rfl⟩ := hc
        exact b2s_sound rfl hs he hd hok (O.rep hx ht) h
      · cases hc
    · cases hc
  case field t x f =>
    simp only [compQ] at hc
    split at hc
    · rename_i fs hu
      split at hc
      · rename_i fd hf
        simp only [Option.bind_eq_bind] at hc
        cases hn : tySz P fd.type with
        | none => rw [hn] at hc; cases hc
        | some n =>
          cases hag : tyAg P fd.type with
          | none => rw [hn, hag] at hc; cases hc
          | some ag =>
            rw [hn, hag] at hc
            simp only [Option.bind_some] at hc
            split at hc
            · rename_i h1
              cases hx : O.of x with
              | none => rw [hx] at hc; cases hc
              | some x' =>
                rw [hx] at hc; simp only [Option.bind_some, Option.some.injEq] at hc; subst hc
                have rx := O.rep hx ht
                simp only [Q.val] at h; first | unfold nilcV at h | unfold convV at h | unfold fieldV at h | unfold faddrV at h | unfold iaddrV at h | unfold iaddrAV at h | unfold slcSV at h | unfold slcAV at h | unfold extV at h | unfold lenV at h | unfold capV at h | unfold mnV at h | unfold mxV at h | unfold idxV at h | unfold eqnilV at h | skip
                split at h
                · rename_i l e
                  rw [e] at rx
                  obtain ⟨cs, hv, hl⟩ := rx
                  obtain ⟨hle, hK⟩ := h
                  refine .pure (hl.partV h1 hle) hK fun w' => exec_v ?_
                  rw [hv]
                  have hund := run_underlying hu w'
                  have := part_ag (P := P) hn hag h1 cs fd.offset (by rw [hl.length]; exact hle) w'
                  simp [Instr.field, hund, hf, asAgg, this]
                · exact h.elim
            · cases hc
      · cases hc
    · cases hc
  case fieldAddr t x f =>
    simp only [compQ] at hc
    split at hc
    · rename_i fs hu
      split at hc
      · rename_i fd hf
        split at hc
        · rename_i n hn
          simp [Option.bind_eq_some_iff] at hc; obtain ⟨x', hx, rfl⟩ := hc
          have rx := O.rep hx ht
          have hsz : ∀ w', (sizeOf fd.type).run P w' = .ok (n + 1) w' := fun w' => by
            unfold tySz at hn
            cases hi : P.info? fd.type with
            | none => rw [hi] at hn; simp at hn
            | some ti => rw [hi] at hn; simp at hn; simp [sizeOf, typeInfo, hi, hn]
          simp only [Q.val] at h; first | unfold nilcV at h | unfold convV at h | unfold fieldV at h | unfold faddrV at h | unfold iaddrV at h | unfold iaddrAV at h | unfold slcSV at h | unfold slcAV at h | unfold extV at h | unfold lenV at h | unfold capV at h | unfold mnV at h | unfold mxV at h | unfold idxV at h | unfold eqnilV at h | skip
          split at h
          · rename_i k b o e
            rw [e] at rx
            have hv := repP rx
            refine .pure (v := .pointer (some (adr b (o + fd.offset)))) Rep.p_ h fun w' => exec_v ?_
            rw [hv]
            have hund := run_underlying hu w'
            simp [Instr.fieldAt, hund, hf, Instr.sureAddr, fieldPlace, hsz, adr_add]
          · rename_i k b sz i j e
            rw [e] at rx
            have hv := repE rx
            refine .pure (v := .pointer (some (adr b (i * sz + (j + fd.offset))))) Rep.e_ h fun w' => exec_v ?_
            rw [hv]
            have hund := run_underlying hu w'
            simp [Instr.fieldAt, hund, hf, Instr.sureAddr, fieldPlace, hsz, adr_add, Nat.add_assoc]
          · exact h.elim
        · cases hc
      · cases hc
    · cases hc
  case indexAddr t x i =>
    simp only [compQ] at hc
    split at hc
    · rename_i el hu
      simp [Option.bind_eq_some_iff] at hc; obtain ⟨sz, hsz, x', hx, i', hi, rfl⟩ := hc
      have rx := O.rep hx ht; have ri := O.rep hi ht
      have hso : ∀ w', (sizeOf el).run P w' = .ok sz w' := fun w' => by
        unfold tySz at hsz
        cases hi : P.info? el with
        | none => rw [hi] at hsz; simp at hsz
        | some ti => rw [hi] at hsz; simp at hsz; simp [sizeOf, typeInfo, hi, hsz]
      simp only [Q.val] at h; first | unfold nilcV at h | unfold convV at h | unfold fieldV at h | unfold faddrV at h | unfold iaddrV at h | unfold iaddrAV at h | unfold slcSV at h | unfold slcAV at h | unfold extV at h | unfold lenV at h | unfold capV at h | unfold mnV at h | unfold mxV at h | unfold idxV at h | unfold eqnilV at h | skip
      split at h
      · rename_i k b sz' off ln cp kd n e1 e2
        rw [e1] at rx; rw [e2] at ri
        obtain ⟨rfl, h0, h1, hK⟩ := h
        obtain ⟨hlc, ad, hv, had, _⟩ := rx
        have hiv := repI ri
        have had := had (by omega)
        subst had
        refine .pure (v := .pointer (some (adr b ((off + n.toNat) * sz' + 0)))) Rep.e_ hK fun w' => exec_v ?_
        rw [hv, hiv]
        have hund := run_underlying hu w'
        simp [Instr.indexAt, hund, asIntOf, h0, h1, hso, adr_add, Nat.add_mul]
      · exact h.elim
    · rename_i len el hu
      simp [Option.bind_eq_some_iff] at hc; obtain ⟨sz, hsz, x', hx, i', hi, rfl⟩ := hc
      have rx := O.rep hx ht; have ri := O.rep hi ht
      have hso : ∀ w', (sizeOf el).run P w' = .ok sz w' := fun w' => by
        unfold tySz at hsz
        cases hi : P.info? el with
        | none => rw [hi] at hsz; simp at hsz
        | some ti => rw [hi] at hsz; simp at hsz; simp [sizeOf, typeInfo, hi, hsz]
      simp only [Q.val] at h; first | unfold nilcV at h | unfold convV at h | unfold fieldV at h | unfold faddrV at h | unfold iaddrV at h | unfold iaddrAV at h | unfold slcSV at h | unfold slcAV at h | unfold extV at h | unfold lenV at h | unfold capV at h | unfold mnV at h | unfold mxV at h | unfold idxV at h | unfold eqnilV at h | skip
      split at h
      · rename_i k b o kd n e1 e2
        rw [e1] at rx; rw [e2] at ri
        obtain ⟨h0, h1, hK⟩ := h
        have hv := repP rx; have hiv := repI ri
        refine .pure (v := .pointer (some (adr b (o + n.toNat * sz)))) Rep.p_ hK fun w' => exec_v ?_
        rw [hv, hiv]
        have hund := run_underlying hu w'
        simp [Instr.indexAt, hund, asIntOf, h0, h1, hso, adr_add, Instr.sureAddr]
      · rename_i k b sz' r j kd n e1 e2
        rw [e1] at rx; rw [e2] at ri
        obtain ⟨h0, h1, hK⟩ := h
        have hv := repE rx; have hiv := repI ri
        refine .pure (v := .pointer (some (adr b (r * sz' + (j + n.toNat * sz))))) Rep.e_ hK fun w' => exec_v ?_
        rw [hv, hiv]
        have hund := run_underlying hu w'
        simp [Instr.indexAt, hund, asIntOf, h0, h1, hso, adr_add, Instr.sureAddr, Nat.add_assoc]
      · exact h.elim
    · cases hc
  case index t x i =>
    simp only [compQ] at hc
    split at hc
    · rename_i ln el hu
      simp only [Option.bind_eq_bind] at hc
      cases hn : tySz P el with
      | none => rw [hn] at hc; cases hc
      | some n =>
        cases hag : tyAg P el with
        | none => rw [hn, hag] at hc; cases hc
        | some ag =>
          rw [hn, hag] at hc
          simp only [Option.bind_some] at hc
          split at hc
          · rename_i h1
            simp only [Option.bind_eq_some_iff, Option.some.injEq] at hc
            obtain ⟨x', hx, i', hi, rfl⟩ := hc
            have rx := O.rep hx ht; have ri := O.rep hi ht
            simp only [Q.val] at h; first | unfold nilcV at h | unfold convV at h | unfold fieldV at h | unfold faddrV at h | unfold iaddrV at h | unfold iaddrAV at h | unfold slcSV at h | unfold slcAV at h | unfold extV at h | unfold lenV at h | unfold capV at h | unfold mnV at h | unfold mxV at h | unfold idxV at h | unfold eqnilV at h | skip
            split at h
            · rename_i l kd m e1 e2
              rw [e1] at rx; rw [e2] at ri
              obtain ⟨h0, hlt, hle, hK⟩ := h
              obtain ⟨cs, hv, hl⟩ := rx
              have hiv := repI ri
              have hso : ∀ w', (sizeOf el).run P w' = .ok n w' := fun w' => by
                unfold tySz at hn
                cases hi : P.info? el with
                | none => rw [hi] at hn; simp at hn
                | some ti => rw [hi] at hn; simp at hn; simp [sizeOf, typeInfo, hi, hn]
              refine .pure (hl.partV h1 hle) hK fun w' => exec_v ?_
              rw [hv, hiv]
              have hund := run_underlying hu w'
              have := part_ag (P := P) hn hag h1 cs (m.toNat * n) (by rw [hl.length]; exact hle) w'
              simp [Instr.index, hund, asIntOf, h0, hlt, hso, this]
            · exact h.elim
          · cases hc
    · rename_i hu
      simp [Option.bind_eq_some_iff] at hc; obtain ⟨x', hx, i', hi, rfl⟩ := hc
      have rx := O.rep hx ht; have ri := O.rep hi ht
      simp only [Q.val] at h
      unfold sidxV at h
      split at h
      · rename_i s kd n e1 e2
        rw [e1] at rx; rw [e2] at ri
        obtain ⟨h0, b, hb, hK⟩ := h
        have hv : a.eval x = .string s := rx
        have hiv := repI ri
        refine .pure Rep.int_ hK fun w' => exec_v ?_
        rw [hv, hiv]
        have hund := run_underlying hu w'
        have hsb : s[n.toNat]? = some b := by
          obtain ⟨d⟩ := s
          obtain ⟨h1, h2⟩ := List.getElem?_eq_some_iff.1 hb
          have h3 : n.toNat < (ByteArray.mk d).size := by
            show n.toNat < d.size
            simpa using h1
          rw [getElem?_pos (ByteArray.mk d) n.toNat h3]
          simp at h2
          rw [← h2]; rfl
        simp [Instr.index, hund, asIntOf, h0, hsb]
      · exact h.elim
    · cases hc
  case slice t x lo hi mx =>
    simp only [compQ] at hc
    split at hc
    · cases hc
    rename_i hmm
    have hmh' : mx ≠ none → hi ≠ none := fun h1 h2 => hmm (by subst h2; cases mx <;> simp at h1 ⊢)
    split at hc
    · rename_i el hu
      simp [Option.bind_eq_some_iff] at hc; obtain ⟨sz, hsz, hpos, x', hx, lo', hlo, hi', hhi, mx', hmx, rfl⟩ := hc
      have rx := O.rep hx ht
      have hso : ∀ w', (sizeOf el).run P w' = .ok sz w' := fun w' => by
        unfold tySz at hsz
        cases hi : P.info? el with
        | none => rw [hi] at hsz; simp at hsz
        | some ti => rw [hi] at hsz; simp at hsz; simp [sizeOf, typeInfo, hi, hsz]
      simp only [Q.val] at h; first | unfold nilcV at h | unfold convV at h | unfold fieldV at h | unfold faddrV at h | unfold iaddrV at h | unfold iaddrAV at h | unfold slcSV at h | unfold slcAV at h | unfold extV at h | unfold lenV at h | unfold capV at h | unfold mnV at h | unfold mxV at h | unfold idxV at h | unfold eqnilV at h | skip
      split at h
      · rename_i k b sz' off ln cp e
        rw [e] at rx
        obtain ⟨hszc, hS⟩ := h
        obtain ⟨hlc, ad, hv, had, _⟩ := rx
        have hmh : oev ts mx' ≠ none → oev ts hi' ≠ none := fun h1 h2 => by
          have q1 := O.ofO_rep hmx ht
          have q2 := O.ofO_rep hhi ht
          rw [h2] at q2
          cases hi with
          | some u => exact q2
          | none => exact hmh' (fun e => by subst e; simp [O.ofO] at hmx; subst hmx; exact h1 rfl) rfl
        obtain ⟨l, hh, m, g1, g2, g3, hK, hrun⟩ := slcV_sound (P := P) hlc (O.ofO_rep hlo ht) (O.ofO_rep hhi ht) (O.ofO_rep hmx ht) hmh hS true
        refine .pure (v := .slice (if m = l then ad else ad.map (·.add (l * sz))) (hh - l) (m - l)) ?_ hK fun w' => exec_v ?_
        · refine ⟨by omega, _, rfl, fun hlt => ?_, fun h0 => by omega⟩
          rw [if_neg (by omega), had (by omega)]
          rcases hszc with rfl | hz
          · simp [adr_add, Nat.add_mul]
          · omega
        · rw [hv]
          have hund := run_underlying hu w'
          simp [Instr.sliceAt, Instr.slice, hund, hrun, hso]
      · exact h.elim
    · rename_i len el hu
      simp [Option.bind_eq_some_iff] at hc; obtain ⟨sz, hsz, hpos, x', hx, lo', hlo, hi', hhi, mx', hmx, rfl⟩ := hc
      have rx := O.rep hx ht
      have hso : ∀ w', (sizeOf el).run P w' = .ok sz w' := fun w' => by
        unfold tySz at hsz
        cases hi : P.info? el with
        | none => rw [hi] at hsz; simp at hsz
        | some ti => rw [hi] at hsz; simp at hsz; simp [sizeOf, typeInfo, hi, hsz]
      simp only [Q.val] at h; first | unfold nilcV at h | unfold convV at h | unfold fieldV at h | unfold faddrV at h | unfold iaddrV at h | unfold iaddrAV at h | unfold slcSV at h | unfold slcAV at h | unfold extV at h | unfold lenV at h | unfold capV at h | unfold mnV at h | unfold mxV at h | unfold idxV at h | unfold eqnilV at h | skip
      split at h
      · rename_i k b o e
        rw [e] at rx
        have hv := repP rx
        have hmh : oev ts mx' ≠ none → oev ts hi' ≠ none := fun h1 h2 => by
          have q1 := O.ofO_rep hmx ht
          have q2 := O.ofO_rep hhi ht
          rw [h2] at q2
          cases hi with
          | some u => exact q2
          | none => exact hmh' (fun e => by subst e; simp [O.ofO] at hmx; subst hmx; exact h1 rfl) rfl
        obtain ⟨l, hh, m, g1, g2, g3, hK, hrun⟩ := slcV_sound (P := P) (Nat.le_refl _) (O.ofO_rep hlo ht) (O.ofO_rep hhi ht) (O.ofO_rep hmx ht) hmh h false
        refine .pure (v := .slice (some (if m = l then adr b o else (adr b o).add (l * sz))) (hh - l) (m - l)) ?_ hK fun w' => exec_v ?_
        · refine ⟨by omega, _, rfl, fun hlt => ?_, fun h0 => by omega⟩
          rw [if_neg (by omega), adr_add]
          split
          · rename_i h0; subst h0; simp
          · simp [adr, Nat.add_assoc]
        · rw [hv]
          have hund := run_underlying hu w'
          simp [Instr.sliceAt, hund, hrun, hso, Instr.sureAddr]
      · exact h.elim
    · rename_i hu
      split at hc
      · cases hc
      rename_i hmx
      have hmx : mx = none := by simpa using hmx
      subst hmx
      simp [Option.bind_eq_some_iff] at hc; obtain ⟨x', hx, lo', hlo, hi', hhi, rfl⟩ := hc
      have rx := O.rep hx ht
      simp only [Q.val] at h
      unfold sslcV at h
      split at h
      · rename_i s e
        rw [e] at rx
        have hv : a.eval x = .string s := rx
        have hS : slcV 0 (0, 0) 1 0 s.size s.size (oev ts lo') (oev ts hi') none (fun sv => ∃ l h, sv = .s 0 (0, 0) 1 (0 + l) (h - l) (s.size - l) ∧ l ≤ h ∧ h ≤ s.size ∧ K (.v (.string (s.extract l h)))) := by
          have hbn : ∀ (d m : Nat) (K : Nat → Prop), bound none d m K = K d := fun _ _ _ => rfl
          unfold slcV
          rw [hbn]
          refine bound_le' (fun _ => Nat.le_refl _) h fun n hn h1 => bound_le' (fun _ => Nat.zero_le _) h1 fun l hl h2 => ⟨l, n, rfl, hl, hn, h2⟩
        obtain ⟨l, hh, m, g1, g2, g3, hK, hrun⟩ := slcV_sound (P := P) (Nat.le_refl _) (O.ofO_rep hlo ht) (O.ofO_rep hhi ht) (vmx := none) trivial (fun h => absurd rfl h) hS false
        obtain ⟨l', h', he, k1, k2, hK⟩ := hK
        simp only [SV.s.injEq, Nat.zero_add, true_and] at he
        obtain ⟨rfl, e2, e3⟩ := he
        obtain rfl : hh = h' := by omega
        refine .pure (v := .string (s.extract l hh)) (sv := .v (.string (s.extract l hh))) (show Value.string (s.extract l hh) = .string (s.extract l hh) from rfl) hK fun w' => exec_v ?_
        rw [hv]
        have hund := run_underlying hu w'
        simp [Instr.sliceAt, Instr.slice, hund, hrun]
      · exact h.elim
    · cases hc
  case build t parts =>
    simp only [compQ] at hc
    split at hc
    · rename_i fs z hu hz
      split at hc
      · rename_i places hp
        simp at hc; obtain ⟨ps, hps, rfl⟩ := hc
        cases hi : P.info? t with
        | none => rw [hi] at hz; cases hz
        | some ti =>
          rw [hi] at hz; simp at hz
          obtain ⟨cur', cs', s1, s2, s3⟩ := fillS_sound ht parts.toList ps _ z.cells hps (ofOne_repL _) h
          refine .pure (Rep.agg_ s2) s3 fun w' => exec_v ?_
          simp at s1
          simp [Instr.build, zeroValue, typeInfo, hi, hz, run_underlying hu w', Array.mapM_eq_mapM_toList, run_places w' _ _ hp, s1]
      · cases hc
    · rename_i n el z hu hz
      simp [Option.bind_eq_some_iff] at hc; obtain ⟨sz, hsz, ps, hps, rfl⟩ := hc
      cases hi : P.info? t with
      | none => rw [hi] at hz; cases hz
      | some ti =>
        rw [hi] at hz; simp at hz
        have hso : ∀ w', (sizeOf el).run P w' = .ok sz w' := fun w' => by
          unfold tySz at hsz
          cases hi : P.info? el with
          | none => rw [hi] at hsz; simp at hsz
          | some ti => rw [hi] at hsz; simp at hsz; simp [sizeOf, typeInfo, hi, hsz]
        obtain ⟨cur', cs', s1, s2, s3⟩ := fillS_sound ht parts.toList ps _ z.cells hps (ofOne_repL _) h
        refine .pure (Rep.agg_ s2) s3 fun w' => exec_v ?_
        simp at s1
        simp [Instr.build, zeroValue, typeInfo, hi, hz, run_underlying hu w', hso, s1]
    · cases hc
  case extract x i =>
    simp [compQ, Option.bind_eq_some_iff] at hc; obtain ⟨x', hx, rfl⟩ := hc
    have rx := O.rep hx ht
    simp only [Q.val] at h; first | unfold nilcV at h | unfold convV at h | unfold fieldV at h | unfold faddrV at h | unfold iaddrV at h | unfold iaddrAV at h | unfold slcSV at h | unfold slcAV at h | unfold extV at h | unfold lenV at h | unfold capV at h | unfold mnV at h | unfold mxV at h | unfold idxV at h | unfold eqnilV at h | skip
    split at h
    · rename_i l e
      rw [e] at rx
      obtain ⟨cs, hv, hl⟩ := rx
      obtain ⟨hle, hK⟩ := h
      have hxx : l[i]? = some (l[i]'hle) := List.getElem?_eq_getElem hle
      obtain ⟨y, hy, hr⟩ := hl.get _ _ hxx
      refine .pure (v := y) (by simpa [List.getD_eq_getElem?_getD, hxx] using hr) hK fun w' => exec_v ?_
      rw [hv]
      simp [Instr.extract, hy]
    · exact h.elim
  case makeFunc fn first caps =>
    simp only [compQ] at hc
    split at hc
    · rename_i f hfirst
      simp [Option.bind_eq_some_iff] at hc; obtain ⟨caps', hcaps, rfl⟩ := hc
      have hl := O.ofL_rep ht hcaps
      have hf : first = #[] := by simpa using hfirst
      subst hf
      refine .pure (v := .func (.func f) #[] (caps.toList.map a.eval).toArray) (Rep.fn_ hl) h fun w' => exec_v ?_
      have : caps.map a.eval = (caps.toList.map a.eval).toArray := by apply Array.ext'; simp
      simp [Instr.makeFunc, this]
    · cases hc
  case load t x =>
    simp only [compQ, Option.bind_eq_bind] at hc
    cases hn : tySz P t with
    | none => rw [hn] at hc; cases hc
    | some n =>
      cases hag : tyAg P t with
      | none => rw [hn, hag] at hc; cases hc
      | some ag =>
        rw [hn, hag] at hc
        simp only [Option.bind_some] at hc
        split at hc
        · rename_i h1
          cases hx : O.of x with
          | none => rw [hx] at hc; cases hc
          | some x' =>
            rw [hx] at hc; simp only [Option.bind_some, Option.some.injEq] at hc; subst hc
            obtain ⟨v, sv, g1, g2, g3⟩ := loadV_sound (P := P) hok hn hag h1 (O.rep hx ht) h
            exact ⟨v, sv, g1, g2, fun w' hs => exec_v (g3 w' hs)⟩
        · cases hc
  case call c =>
    obtain ⟨callee, args, ats⟩ := c
    simp only [compQ] at hc
    split at hc
    · rename_i b
      split at hc
      · rename_i x el hargs hty
        simp at hc; obtain ⟨x', hx, rfl⟩ := hc
        have rx := O.rep hx ht
        have ha : args = #[x] := by apply Array.ext'; simpa using hargs
        subst ha
        simp only [Q.val] at h; first | unfold nilcV at h | unfold convV at h | unfold fieldV at h | unfold faddrV at h | unfold iaddrV at h | unfold iaddrAV at h | unfold slcSV at h | unfold slcAV at h | unfold extV at h | unfold lenV at h | unfold capV at h | unfold mnV at h | unfold mxV at h | unfold idxV at h | unfold eqnilV at h | skip
        split at h
        · rename_i k b sz off ln cp e
          rw [e] at rx
          obtain ⟨hlc, ad, hv, had⟩ := rx
          cases hat : ats[0]? with
          | none => rw [hat] at hty; cases hty
          | some t0 =>
            rw [hat] at hty
            simp only [Option.bind_some] at hty
            refine .pure Rep.int_ h fun w' => ?_
            have hund := run_underlying hty w'
            simp [execOp, resolve, invoke, builtin, Builtin.len_, hat, hv, hund, goInt]
        · exact h.elim
      · rename_i x hargs hty
        simp at hc; obtain ⟨x', hx, rfl⟩ := hc
        have rx := O.rep hx ht
        have ha : args = #[x] := by apply Array.ext'; simpa using hargs
        subst ha
        simp only [Q.val] at h
        unfold slenV at h
        split at h
        · rename_i s e
          rw [e] at rx
          have hv : a.eval x = .string s := rx
          cases hat : ats[0]? with
          | none => rw [hat] at hty; cases hty
          | some t0 =>
            rw [hat] at hty
            simp only [Option.bind_some] at hty
            refine .pure Rep.int_ h fun w' => ?_
            have hund := run_underlying hty w'
            simp [execOp, resolve, invoke, builtin, Builtin.len_, hat, hv, hund, goInt]
        · exact h.elim
      · rename_i x el hargs hty
        simp at hc; obtain ⟨x', hx, rfl⟩ := hc
        have rx := O.rep hx ht
        have ha : args = #[x] := by apply Array.ext'; simpa using hargs
        subst ha
        simp only [Q.val] at h; first | unfold nilcV at h | unfold convV at h | unfold fieldV at h | unfold faddrV at h | unfold iaddrV at h | unfold iaddrAV at h | unfold slcSV at h | unfold slcAV at h | unfold extV at h | unfold lenV at h | unfold capV at h | unfold mnV at h | unfold mxV at h | unfold idxV at h | unfold eqnilV at h | skip
        split at h
        · rename_i k b sz off ln cp e
          rw [e] at rx
          obtain ⟨hlc, ad, hv, had⟩ := rx
          cases hat : ats[0]? with
          | none => rw [hat] at hty; cases hty
          | some t0 =>
            rw [hat] at hty
            simp only [Option.bind_some] at hty
            refine .pure Rep.int_ h fun w' => ?_
            have hund := run_underlying hty w'
            simp [execOp, resolve, invoke, builtin, Builtin.cap_, hat, hv, hund, goInt]
        · exact h.elim
      · rename_i x y hargs
        simp [Option.bind_eq_some_iff] at hc; obtain ⟨x', hx, y', hy, rfl⟩ := hc
        have rx := O.rep hx ht; have ry := O.rep hy ht
        have ha : args = #[x, y] := by apply Array.ext'; simpa using hargs
        subst ha
        simp only [Q.val] at h; first | unfold nilcV at h | unfold convV at h | unfold fieldV at h | unfold faddrV at h | unfold iaddrV at h | unfold iaddrAV at h | unfold slcSV at h | unfold slcAV at h | unfold extV at h | unfold lenV at h | unfold capV at h | unfold mnV at h | unfold mxV at h | unfold idxV at h | unfold eqnilV at h | skip
        split at h
        · rename_i k p k' q e1 e2
          rw [e1] at rx; rw [e2] at ry
          obtain ⟨rfl, hK⟩ := h
          have hv := repI rx; have hu := repI ry
          refine .pure Rep.int_ hK fun w' => ?_
          simp [execOp, resolve, invoke, builtin, Builtin.min_, Builtin.min2, hv, hu]
        · exact h.elim
      · rename_i x y hargs
        simp [Option.bind_eq_some_iff] at hc; obtain ⟨x', hx, y', hy, rfl⟩ := hc
        have rx := O.rep hx ht; have ry := O.rep hy ht
        have ha : args = #[x, y] := by apply Array.ext'; simpa using hargs
        subst ha
        simp only [Q.val] at h; first | unfold nilcV at h | unfold convV at h | unfold fieldV at h | unfold faddrV at h | unfold iaddrV at h | unfold iaddrAV at h | unfold slcSV at h | unfold slcAV at h | unfold extV at h | unfold lenV at h | unfold capV at h | unfold mnV at h | unfold mxV at h | unfold idxV at h | unfold eqnilV at h | skip
        split at h
        · rename_i k p k' q e1 e2
          rw [e1] at rx; rw [e2] at ry
          obtain ⟨rfl, hK⟩ := h
          have hv := repI rx; have hu := repI ry
          refine .pure Rep.int_ hK fun w' => ?_
          simp [execOp, resolve, invoke, builtin, Builtin.max_, Builtin.max2, hv, hu]
        · exact h.elim
      · cases hc
    · cases hc
  all_goals (simp [compQ] at hc)
end Go.Proofs.YtebjldkkdapbeaaGreatDoor.Eng
