/- The engine, part V3: what makes or writes memory, for the kernel. -/
import Derived.Test.YtebjldkkdapbeaaGreatDoorEngV2
namespace Go.Proofs.YtebjldkkdapbeaaGreatDoor.Eng
open Go

inductive MOp where
  | keep
  | put (k : Nat) (B : Blk)
  | push (B : Blk)
  | kill (k : Nat) (B : Blk)
def MOp.run (o : MOp) (M : Mem) : Mem :=
  match o with
  | .keep => M
  | .put k B => M.put k B
  | .push B => M.push B
  | .kill k B => (M.put k ⟨[], true⟩).push B
section
variable {R : Type}
noncomputable def mPush (M : Mem) (B : Blk) (k : Mem → R) : R := sL B.cells fun cs => fBool B.more fun m => fNat (M.next + 1) fun n => trSet ⟨cs, m⟩ 31 M.tr M.next fun t => k ⟨n, t⟩
noncomputable def mPut (M : Mem) (a : Nat) (B : Blk) (k : Mem → R) : R := sL B.cells fun cs => fBool B.more fun m => trSet ⟨cs, m⟩ 31 M.tr a fun t => k ⟨M.next, t⟩
theorem mPush_eq (M : Mem) (B : Blk) (k : Mem → R) : mPush M B k = k (M.push B) := by
  simp only [mPush, sL_eq, fBool_eq, fNat_eq, trSet_eq, Mem.push]
theorem mPut_eq (M : Mem) (a : Nat) (B : Blk) (k : Mem → R) : mPut M a B k = k (M.put a B) := by
  simp only [mPut, sL_eq, fBool_eq, trSet_eq, Mem.put]
noncomputable def MOp.go (o : MOp) (M : Mem) (k : Mem → R) : R :=
  match o with
  | .keep => k M
  | .put a B => mPut M a B k
  | .push B => mPush M B k
  | .kill a B => mPut M a ⟨[], true⟩ fun M => mPush M B k
theorem MOp.go_eq (o : MOp) (M : Mem) (k : Mem → R) : o.go M k = k (o.run M) := by
  cases o <;> simp only [MOp.go, MOp.run, mPut_eq, mPush_eq]
end

noncomputable def allOneK (l : List FV) : Bool := List.rec (motive := fun _ => Bool) true (fun x _ ih => Bool.rec (motive := fun _ => Bool) false ih x.one) l
theorem allOneK_eq : ∀ l : List FV, allOneK l = allOneF l
  | [] => rfl
  | x :: l => by
    show Bool.rec (motive := fun _ => Bool) false (allOneK l) x.one = _
    simp only [allOneF, allOneK_eq l]
    cases x.one <;> rfl
noncomputable def appK (l m : List FV) : List FV := List.rec (motive := fun _ => List FV) m (fun x _ ih => x :: ih) l
theorem appK_eq : ∀ l m : List FV, appK l m = l ++ m
  | [], m => rfl
  | x :: l, m => congrArg (x :: ·) (appK_eq l m)
noncomputable def fillK (n : Nat) (z : List FV) : List FV := Nat.rec (motive := fun _ => List FV) [] (fun _ ih => appK z ih) n
theorem fillK_eq : ∀ (n : Nat) (z : List FV), fillK n z = fillF n z
  | 0, _ => rfl
  | n + 1, z => by
    show appK z (fillK n z) = _
    rw [appK_eq, fillK_eq n z]; rfl
noncomputable def partsK (E : EnvK) (sz n : Nat) (ps : List (Nat × O)) : List FV → Option (List FV) :=
  List.rec (motive := fun _ => List FV → Option (List FV)) (fun cur => some cur)
    (fun p _ ih cur => match p with
      | (i, x) => sFV (x.fk E) fun y => bif allOneK (cellsK y) && Nat.beq (lenK (cellsK y)) sz && Nat.ble (i + 1) n then sL (spliceK cur (i * sz) (cellsK y)) fun cur => ih cur else none) ps
theorem partsK_eq {E : EnvK} {ts : FTm} (h : E.as ts) (sz n : Nat) : ∀ (ps : List (Nat × O)) (cur : List FV), partsK E sz n ps cur = partsF ts sz n ps cur
  | [], cur => rfl
  | (i, x) :: ps, cur => by
    show sFV (x.fk E) (fun y => bif allOneK (cellsK y) && Nat.beq (lenK (cellsK y)) sz && Nat.ble (i + 1) n then sL (spliceK cur (i * sz) (cellsK y)) (fun cur => partsK E sz n ps cur) else none) = _
    simp only [sFV_eq, sL_eq, O.fk_eq h, allOneK_eq, lenK_eq, cellsK_eq, spliceK_eq, partsF, partsK_eq h sz n ps]

noncomputable def storeK (M : Mem) (x : FV) (n : Nat) (cs : List FV) : Option (FV × MOp × List Nat) :=
  match x with
  | .p k off => match trGet M.tr k with
    | some B => bif Nat.beq (lenK cs) n && allOneK cs && Nat.ble 1 n && Nat.ble (off + n) (lenK B.cells) then
        some (.any, .put k ⟨spliceK B.cells off cs, B.more⟩, [k])
      else none
    | none => none
  | _ => none
noncomputable def srcK (M : Mem) (sz : Nat) (y : FV) : Option (Nat × List FV) :=
  match y with
  | .s k sz' off m cap => match m with
    | 0 => some (0, [])
    | m + 1 => match cap with
      | some 0 => none
      | _ => bif Nat.beq sz' sz then match trGet M.tr k with
          | some B => match takeK ((m + 1) * sz) (dropK B.cells (off * sz)) with
            | some cs => some (m + 1, cs)
            | none => none
          | none => none
        else none
  | _ => none
theorem srcK_eq (M : Mem) (sz : Nat) (y : FV) : srcK M sz y = srcF M sz y := by
  unfold srcK srcF
  simp only [trGet_eq, takeK_eq, dropK_eq]
  rfl
noncomputable def appendK (M : Mem) (sz by_ : Nat) (x y : FV) : Option (FV × MOp × List Nat) :=
  match srcK M sz y, x with
  | some (m, news), .s k sz' off len cap => match m with
    | 0 => some (.s k sz' off len cap, .keep, [])
    | m + 1 => bif Nat.ble ((len + (m + 1)) * by_) 140737488355328 && Nat.ble M.next 999999998 then match cap with
      | some 0 => bif Nat.beq len 0 then some (.s M.next sz 0 (m + 1) none, .push ⟨news, true⟩, []) else none
      | cap => match trGet M.tr k with
        | some B => bif Nat.beq sz' sz && Nat.ble ((off + len) * sz) (lenK B.cells) then
            bif Nat.ble ((off + len + (m + 1)) * sz) (lenK B.cells) && capRoom cap (len + (m + 1)) then
              some (.s k sz off (len + (m + 1)) cap, .put k ⟨spliceK B.cells ((off + len) * sz) news, B.more⟩, [k])
            else match takeK (len * sz) (dropK B.cells (off * sz)) with
              | some olds => match cap with
                | some c => bif Nat.ble (c + 1) (len + (m + 1)) then some (.s M.next sz 0 (len + (m + 1)) none, .push ⟨appK olds news, true⟩, []) else none
                | none => bif Nat.beq off 0 && Nat.ble 1 (lenK B.cells) then some (.s M.next sz 0 (len + (m + 1)) none, .kill k ⟨appK olds news, true⟩, [k]) else none
              | none => none
          else none
        | none => none
    else none
  | _, _ => none
noncomputable def copyK (M : Mem) (sz : Nat) (x y : FV) : Option (FV × MOp × List Nat) :=
  match srcK M sz y, x with
  | some (m, news), .s k sz' off len cap => match Nat.min m len with
    | 0 => some (.int .i64 0, .keep, [])
    | n + 1 => match cap with
      | some 0 => none
      | _ => match trGet M.tr k, takeK ((n + 1) * sz) news with
        | some B, some cs => bif Nat.beq sz' sz && Nat.ble ((off + (n + 1)) * sz) (lenK B.cells) then
            some (.int .i64 ((n + 1 : Nat) : Int), .put k ⟨spliceK B.cells (off * sz) cs, B.more⟩, [k])
          else none
        | _, _ => none
  | _, _ => none

/-- All but calls. -/
noncomputable def evalLd (l : L) (E : EnvK) (M : Mem) : Option (FV × MOp × List Nat) :=
  match l with
  | .alloc zero => bif SV.cleanL zero && Nat.ble M.next 999999999 then some (.p M.next 0, .push ⟨FV.ofL zero, false⟩, []) else none
  | .box x => sFV (x.fk E) fun y => bif allOneK (cellsK y) && Nat.ble M.next 999999999 then some (.p M.next 0, .push ⟨cellsK y, false⟩, []) else none
  | .store n x v => sFV (v.fk E) fun y => storeK M (x.fk E) n (cellsK y)
  | .bslice sz n zero parts => bif SV.cleanL zero && Nat.beq zero.length sz && Nat.ble 1 sz && Nat.ble M.next 999999999 then match partsK E sz n parts (fillK n (FV.ofL zero)) with
      | some cells => some (.s M.next sz 0 n (some n), .push ⟨cells, false⟩, [])
      | none => none
    else none
  | .mkslice sz bytes zero ln cp => match ln.fk E, cp.fk E with
    | .int _ a, .int _ b => match a, b with
      | .ofNat n, .ofNat c => bif SV.cleanL zero && Nat.beq zero.length sz && Nat.ble 1 sz && Nat.ble n c && Nat.ble c 9223372036854775807 && Nat.ble (c * bytes) 140737488355328 && Nat.ble M.next 999999999 then
          some (.s M.next sz 0 n (some c), .push ⟨fillK c (FV.ofL zero), false⟩, []) else none
      | _, _ => none
    | _, _ => none
  | .call _ _ | .callv _ _ => none
  | .append sz by_ x y => appendK M sz by_ (x.fk E) (y.fk E)
  | .copy sz x y => copyK M sz (x.fk E) (y.fk E)
  | .mark x => match x.fk E with
    | .s k sz off ln cap => bif Nat.ble 1 (sizeK M k) && capPos M k sz off ln cap then some (.s k sz off ln cap, .keep, [k]) else none
    | _ => none
  | .s2b x => match x.fk E with
    | .str l => bif Nat.ble M.next 999999999 then some (.s M.next 1 0 l.length none, .push ⟨bytesF l, true⟩, []) else none
    | _ => none
  | .bad => none

def outD (M : Mem) (x : Option (FV × MOp × List Nat)) : Option (FV × Mem × List Nat) :=
  match x with
  | some (c, o, ws) => some (c, o.run M, ws)
  | none => none

theorem storeK_eq (M : Mem) (x : FV) (n : Nat) (cs : List FV) : outD M (storeK M x n cs) = storeF M x n cs := by
  unfold storeK storeF
  simp only [trGet_eq, lenK_eq, allOneK_eq, spliceK_eq, cond_eq_ite]
  cases x <;> try rfl
  rename_i k off
  dsimp only
  cases M.tr.get k with
  | none => rfl
  | some B => dsimp only; split <;> rfl
theorem appendK_eq (M : Mem) (sz by_ : Nat) (x y : FV) : outD M (appendK M sz by_ x y) = appendF M sz by_ x y := by
  unfold appendK appendF
  simp only [srcK_eq, trGet_eq, lenK_eq, takeK_eq, dropK_eq, appK_eq, spliceK_eq, cond_eq_ite]
  cases srcF M sz y with
  | none => rfl
  | some p =>
    obtain ⟨m, news⟩ := p
    cases x <;> try rfl
    rename_i k sz' off len cap
    try dsimp only
    cases m with
    | zero => rfl
    | succ m =>
      try dsimp only
      split
      · cases cap with
        | none =>
          try dsimp only
          cases M.tr.get k with
          | none => rfl
          | some B =>
            try dsimp only
            split
            · split
              · rfl
              · cases takeF (len * sz) (List.drop (off * sz) B.cells) with
                | none => rfl
                | some olds => (try dsimp only); split <;> rfl
            · rfl
        | some c =>
          cases c with
          | zero => by_cases hb : len.beq 0 = true <;> simp [hb, outD, MOp.run]
          | succ c =>
            simp only [Nat.succ_ne_zero, Option.some.injEq]
            cases M.tr.get k with
            | none => simp [outD]
            | some B =>
              by_cases q1 : (sz'.beq sz && ((off + len) * sz).ble B.cells.length) = true
              · by_cases q2 : (((off + len + (m + 1)) * sz).ble B.cells.length && capRoom (some (c + 1)) (len + (m + 1))) = true
                · simp [q1, q2, outD, MOp.run]
                · rcases htf : takeF (len * sz) (List.drop (off * sz) B.cells) with _ | olds
                  · simp only [q1, q2, htf, outD, if_true, if_false, Bool.false_eq_true]
                  · by_cases q3 : (c + 1 + 1).ble (len + (m + 1)) = true
                    · simp only [q1, q2, q3, htf, outD, MOp.run, if_true, if_false, Bool.false_eq_true]
                    · simp only [q1, q2, q3, htf, outD, if_true, if_false, Bool.false_eq_true]
              · simp [q1, outD]
      · rfl
theorem copyK_eq (M : Mem) (sz : Nat) (x y : FV) : outD M (copyK M sz x y) = copyF M sz x y := by
  unfold copyK copyF
  simp only [srcK_eq, trGet_eq, lenK_eq, takeK_eq, spliceK_eq, cond_eq_ite]
  cases srcF M sz y with
  | none => rfl
  | some p =>
    obtain ⟨m, news⟩ := p
    cases x <;> try rfl
    rename_i k sz' off len cap
    try dsimp only
    cases Nat.min m len with
    | zero => rfl
    | succ n =>
      try dsimp only
      cases cap with
      | none =>
        try dsimp only
        cases M.tr.get k with
        | none => rfl
        | some B =>
          cases takeF ((n + 1) * sz) news with
          | none => rfl
          | some cs => (try dsimp only); split <;> rfl
      | some c =>
        cases c with
        | zero => rfl
        | succ c =>
          rcases hB : M.tr.get k with _ | B
          · simp [outD]
          · rcases htf : takeF ((n + 1) * sz) news with _ | cs
            · simp [outD]
            · by_cases q : (sz'.beq sz && ((off + (n + 1)) * sz).ble B.cells.length) = true
              · simp only [q, outD, MOp.run, if_true]
              · simp only [q, outD, if_false, Bool.false_eq_true]

noncomputable def lK {R : Type} (z : R) (call : CallF) (l : L) (E : EnvK) (M : Mem) (k : FV → Mem → List Nat → R) : R :=
  match l with
  | .call f args => sL (fkL E args) fun args => match call f args M with
    | some (c, M', ws) => k c M' ws
    | none => z
  | .callv f args => match f.fk E with
    | .fn g caps => sL (fkL E args) fun args => sL (appK args caps) fun args => match call g args M with
      | some (c, M', ws) => k c M' ws
      | none => z
    | _ => z
  | l => match evalLd l E M with
    | some (c, o, ws) => o.go M fun M' => fFV c fun c => k c M' ws
    | none => z

theorem evalLd_eq {E : EnvK} {ts : FTm} (h : E.as ts) (call : CallF) (l : L) (M : Mem) (h1 : ∀ f a, l ≠ .call f a) (h2 : ∀ f a, l ≠ .callv f a) : outD M (evalLd l E M) = evalL call l ts M := by
  cases l
  case call f a => exact absurd rfl (h1 f a)
  case callv f a => exact absurd rfl (h2 f a)
  case alloc zero =>
    simp only [evalLd, evalL, cond_eq_ite]
    split <;> rfl
  case box x =>
    simp only [evalLd, evalL, sFV_eq, O.fk_eq h, allOneK_eq, cellsK_eq, cond_eq_ite]
    split <;> rfl
  case store n x v =>
    simp only [evalLd, evalL, sFV_eq, O.fk_eq h, cellsK_eq]
    exact storeK_eq _ _ _ _
  case bslice sz n zero parts =>
    simp only [evalLd, evalL, partsK_eq h, fillK_eq, cond_eq_ite]
    split
    · cases partsF ts sz n parts (fillF n (FV.ofL zero)) <;> rfl
    · rfl
  case mkslice sz bytes zero ln cp =>
    simp only [evalLd, evalL, O.fk_eq h, fillK_eq, cond_eq_ite]
    cases ln.fev ts <;> try rfl
    cases cp.fev ts <;> try rfl
    rename_i a _ b
    cases a <;> cases b <;> try rfl
    dsimp only
    split <;> rfl
  case append sz by_ x y =>
    simp only [evalLd, evalL, O.fk_eq h]
    exact appendK_eq _ _ _ _ _
  case copy sz x y =>
    simp only [evalLd, evalL, O.fk_eq h]
    exact copyK_eq _ _ _ _
  case mark x =>
    simp only [evalLd, evalL, O.fk_eq h, sizeK_eq, cond_eq_ite]
    cases x.fev ts <;> try rfl
    dsimp only
    split <;> rfl
  case s2b x =>
    simp only [evalLd, evalL, O.fk_eq h, cond_eq_ite]
    cases x.fev ts <;> try rfl
    dsimp only
    split <;> rfl
  case bad => rfl

theorem lK_eq {R : Type} (z : R) {E : EnvK} {ts : FTm} (h : E.as ts) (call : CallF) (l : L) (M : Mem) (k : FV → Mem → List Nat → R) :
    lK z call l E M k = match evalL call l ts M with
      | some (c, M', ws) => k c M' ws
      | none => z := by
  by_cases h1 : ∃ f a, l = .call f a
  · obtain ⟨f, a, rfl⟩ := h1
    simp only [lK, evalL, sL_eq, fkL_eq h]
  · by_cases h2 : ∃ f a, l = .callv f a
    · obtain ⟨f, a, rfl⟩ := h2
      simp only [lK, evalL, sL_eq, fkL_eq h, appK_eq, O.fk_eq h]
      cases f.fev ts <;> rfl
    · have h3 := evalLd_eq h call l M (fun f a e => h1 ⟨f, a, e⟩) (fun f a e => h2 ⟨f, a, e⟩)
      rw [← h3]
      have h4 : lK z call l E M k = match evalLd l E M with
          | some (c, o, ws) => o.go M fun M' => fFV c fun c => k c M' ws
          | none => z := by
        unfold lK
        split
        · exact absurd ⟨_, _, rfl⟩ h1
        · exact absurd ⟨_, _, rfl⟩ h2
        · rfl
      rw [h4]
      cases evalLd l E M with
      | none => rfl
      | some p =>
        obtain ⟨c, o, ws⟩ := p
        simp only [outD, MOp.go_eq, fFV_eq]
end Go.Proofs.YtebjldkkdapbeaaGreatDoor.Eng
