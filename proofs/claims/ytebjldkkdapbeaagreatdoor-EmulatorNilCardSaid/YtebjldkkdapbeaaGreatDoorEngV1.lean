/- The engine, part V1: the reckoning, laid out for the kernel: values are worked out before they are handed on. -/
import Derived.Test.YtebjldkkdapbeaaGreatDoorEngZ1
namespace Go.Proofs.YtebjldkkdapbeaaGreatDoor.Eng
open Go

section
variable {R : Type}

/-! ### Working out -/

noncomputable def fNat (n : Nat) (k : Nat → R) : R := Nat.rec (motive := fun _ => R) (k 0) (fun m _ => k (Nat.succ m)) n
theorem fNat_eq (n : Nat) (k : Nat → R) : fNat n k = k n := by cases n <;> rfl
noncomputable def fInt (n : Int) (k : Int → R) : R := Int.rec (motive := fun _ => R) (fun m => fNat m fun m => k (.ofNat m)) (fun m => fNat m fun m => k (.negSucc m)) n
theorem fInt_eq (n : Int) (k : Int → R) : fInt n k = k n := by cases n <;> simp [fInt, fNat_eq]
noncomputable def fBool (b : Bool) (k : Bool → R) : R := Bool.rec (motive := fun _ => R) (k false) (k true) b
theorem fBool_eq (b : Bool) (k : Bool → R) : fBool b k = k b := by cases b <;> rfl
noncomputable def fKind (x : IntKind) (k : IntKind → R) : R := IntKind.rec (motive := fun _ => R) (k .i8) (k .i16) (k .i32) (k .i64) (k .u8) (k .u16) (k .u32) (k .u64) x
theorem fKind_eq (x : IntKind) (k : IntKind → R) : fKind x k = k x := by cases x <;> rfl
noncomputable def fON (x : Option Nat) (k : Option Nat → R) : R := Option.rec (motive := fun _ => R) (k none) (fun n => fNat n fun n => k (some n)) x
theorem fON_eq (x : Option Nat) (k : Option Nat → R) : fON x k = k x := by cases x <;> simp [fON, fNat_eq]
noncomputable def fNats (l : List Nat) : (List Nat → R) → R := List.rec (motive := fun _ => (List Nat → R) → R) (fun k => k []) (fun x _ ih k => fNat x fun x => ih fun l => k (x :: l)) l
theorem fNats_eq : ∀ (l : List Nat) (k : List Nat → R), fNats l k = k l
  | [], _ => rfl
  | x :: l, k => by
    show fNat x (fun x => fNats l fun l => k (x :: l)) = _
    rw [fNat_eq, fNats_eq l]

/-- To the bottom. -/
noncomputable def fFV (x : FV) : (FV → R) → R :=
  FV.rec (motive_1 := fun _ => (FV → R) → R) (motive_2 := fun _ => (List FV → R) → R)
    (fun k => k .any) (fun x k => k (.v x)) (fun kd n k => fKind kd fun kd => fInt n fun n => k (.int kd n)) (fun b k => fBool b fun b => k (.bool b)) (fun l k => fNats l fun l => k (.str l))
    (fun a o k => fNat a fun a => fNat o fun o => k (.p a o)) (fun a sz off ln cap k => fNat a fun a => fNat sz fun sz => fNat off fun off => fNat ln fun ln => fON cap fun cap => k (.s a sz off ln cap))
    (fun _ ih k => ih fun l => k (.agg l)) (fun _ ih k => ih fun l => k (.tup l)) (fun f _ ih k => fNat f fun f => ih fun l => k (.fn f l))
    (fun k => k []) (fun _ _ ih1 ih2 k => ih1 fun x => ih2 fun l => k (x :: l)) x
noncomputable def fFVL (l : List FV) : (List FV → R) → R :=
  List.rec (motive := fun _ => (List FV → R) → R) (fun k => k []) (fun x _ ih k => fFV x fun x => ih fun l => k (x :: l)) l
mutual
theorem fFV_eq : ∀ (x : FV) (k : FV → R), fFV x k = k x
  | .any, _ => rfl
  | .v _, _ => rfl
  | .int kd n, k => by show fKind kd (fun kd => fInt n fun n => k (.int kd n)) = _; rw [fKind_eq, fInt_eq]
  | .bool b, k => by show fBool b (fun b => k (.bool b)) = _; rw [fBool_eq]
  | .str l, k => by show fNats l (fun l => k (.str l)) = _; rw [fNats_eq]
  | .p a o, k => by show fNat a (fun a => fNat o fun o => k (.p a o)) = _; rw [fNat_eq, fNat_eq]
  | .s a sz off ln cap, k => by
    show fNat a (fun a => fNat sz fun sz => fNat off fun off => fNat ln fun ln => fON cap fun cap => k (.s a sz off ln cap)) = _
    rw [fNat_eq, fNat_eq, fNat_eq, fNat_eq, fON_eq]
  | .agg l, k => fFVL_eq' l fun l => k (.agg l)
  | .tup l, k => fFVL_eq' l fun l => k (.tup l)
  | .fn f l, k => by
    have h1 : fFV (.fn f l) k = fNat f fun f => FV.rec_1 (motive_1 := fun _ => (FV → R) → R) (motive_2 := fun _ => (List FV → R) → R)
        (fun k => k .any) (fun x k => k (.v x)) (fun kd n k => fKind kd fun kd => fInt n fun n => k (.int kd n)) (fun b k => fBool b fun b => k (.bool b)) (fun l k => fNats l fun l => k (.str l))
        (fun a o k => fNat a fun a => fNat o fun o => k (.p a o)) (fun a sz off ln cap k => fNat a fun a => fNat sz fun sz => fNat off fun off => fNat ln fun ln => fON cap fun cap => k (.s a sz off ln cap))
        (fun _ ih k => ih fun l => k (.agg l)) (fun _ ih k => ih fun l => k (.tup l)) (fun f _ ih k => fNat f fun f => ih fun l => k (.fn f l))
        (fun k => k []) (fun _ _ ih1 ih2 k => ih1 fun x => ih2 fun l => k (x :: l)) l fun l => k (.fn f l) := rfl
    rw [h1, fNat_eq]
    exact fFVL_eq' l fun l => k (.fn f l)
theorem fFVL_eq' : ∀ (l : List FV) (k : List FV → R), FV.rec_1 (motive_1 := fun _ => (FV → R) → R) (motive_2 := fun _ => (List FV → R) → R)
    (fun k => k .any) (fun x k => k (.v x)) (fun kd n k => fKind kd fun kd => fInt n fun n => k (.int kd n)) (fun b k => fBool b fun b => k (.bool b)) (fun l k => fNats l fun l => k (.str l))
    (fun a o k => fNat a fun a => fNat o fun o => k (.p a o)) (fun a sz off ln cap k => fNat a fun a => fNat sz fun sz => fNat off fun off => fNat ln fun ln => fON cap fun cap => k (.s a sz off ln cap))
    (fun _ ih k => ih fun l => k (.agg l)) (fun _ ih k => ih fun l => k (.tup l)) (fun f _ ih k => fNat f fun f => ih fun l => k (.fn f l))
    (fun k => k []) (fun _ _ ih1 ih2 k => ih1 fun x => ih2 fun l => k (x :: l)) l k = k l
  | [], _ => rfl
  | x :: l, k => (fFV_eq x _).trans (fFVL_eq' l fun l => k (x :: l))
end
theorem fFVL_eq : ∀ (l : List FV) (k : List FV → R), fFVL l k = k l
  | [], _ => rfl
  | x :: l, k => by
    show fFV x (fun x => fFVL l fun l => k (x :: l)) = _
    rw [fFV_eq, fFVL_eq l]

/-- At its head alone: what it holds is worked out already. -/
noncomputable def sFV (x : FV) (k : FV → R) : R :=
  FV.casesOn (motive_1 := fun _ => R) x (k .any) (fun x => k (.v x)) (fun kd n => k (.int kd n)) (fun b => k (.bool b)) (fun l => k (.str l)) (fun a o => k (.p a o)) (fun a sz off ln cap => k (.s a sz off ln cap))
    (fun l => k (.agg l)) (fun l => k (.tup l)) (fun f l => k (.fn f l))
theorem sFV_eq (x : FV) (k : FV → R) : sFV x k = k x := by cases x <;> rfl
noncomputable def sL (l : List FV) : (List FV → R) → R := List.rec (motive := fun _ => (List FV → R) → R) (fun k => k []) (fun x _ ih k => sFV x fun x => ih fun l => k (x :: l)) l
theorem sL_eq : ∀ (l : List FV) (k : List FV → R), sL l k = k l
  | [], _ => rfl
  | x :: l, k => by
    show sFV x (fun x => sL l fun l => k (x :: l)) = _
    rw [sFV_eq, sL_eq l]
end

/-! ### Lists and tries, by their recursors -/

noncomputable def dropK (l : List FV) : Nat → List FV := List.rec (motive := fun _ => Nat → List FV) (fun _ => []) (fun x l ih n => Nat.rec (motive := fun _ => List FV) (x :: l) (fun m _ => ih m) n) l
theorem dropK_eq : ∀ (l : List FV) (n : Nat), dropK l n = l.drop n
  | [], n => by cases n <;> rfl
  | x :: l, 0 => rfl
  | x :: l, n + 1 => dropK_eq l n
noncomputable def atK (l : List FV) : Nat → Option FV := List.rec (motive := fun _ => Nat → Option FV) (fun _ => none) (fun x _ ih n => Nat.rec (motive := fun _ => Option FV) (some x) (fun m _ => ih m) n) l
theorem atK_eq : ∀ (l : List FV) (n : Nat), atK l n = atF n l
  | [], n => by cases n <;> rfl
  | x :: l, 0 => rfl
  | x :: l, n + 1 => atK_eq l n
noncomputable def takeK (n : Nat) : List FV → Option (List FV) := Nat.rec (motive := fun _ => List FV → Option (List FV)) (fun _ => some [])
  (fun _ ih l => List.rec (motive := fun _ => Option (List FV)) none (fun x l _ => Option.rec (motive := fun _ => Option (List FV)) none (fun r => some (x :: r)) (ih l)) l) n
theorem takeK_eq : ∀ (n : Nat) (l : List FV), takeK n l = takeF n l
  | 0, _ => by simp [takeF]; rfl
  | n + 1, [] => rfl
  | n + 1, x :: l => by
    show (Option.rec (motive := fun _ => Option (List FV)) none (fun r => some (x :: r)) (takeK n l)) = _
    rw [takeK_eq n l]
    simp only [takeF]
    cases takeF n l <;> rfl
noncomputable def lenK (l : List FV) : Nat := List.rec (motive := fun _ => Nat) 0 (fun _ _ ih => Nat.succ ih) l
theorem lenK_eq : ∀ l : List FV, lenK l = l.length
  | [] => rfl
  | x :: l => congrArg Nat.succ (lenK_eq l)
noncomputable def partK (off n : Nat) (ag : Bool) (l : List FV) : Option FV :=
  Bool.rec (motive := fun _ => Option FV) (Bool.rec (motive := fun _ => Option FV) none (atK l off) (Nat.beq n 1))
    (Nat.rec (motive := fun _ => Option FV) none (fun m _ => Option.rec (motive := fun _ => Option FV) none (fun r => some (.agg r)) (takeK (Nat.succ m) (dropK l off))) n) ag
theorem partK_eq (off n : Nat) (ag : Bool) (l : List FV) : partK off n ag l = partF off n ag l := by
  unfold partK partF
  cases ag with
  | false =>
    cases h : Nat.beq n 1
    · simp [h]
    · simp [h, atK_eq]
  | true =>
    cases n with
    | zero => rfl
    | succ n =>
      show (Option.rec (motive := fun _ => Option FV) none (fun r => some (.agg r)) (takeK (n + 1) (dropK l off))) = _
      rw [takeK_eq, dropK_eq]
      simp only [cond_true]
      cases takeF (n + 1) (List.drop off l) <;> rfl
noncomputable def spliceK (l : List FV) : Nat → List FV → List FV :=
  List.rec (motive := fun _ => Nat → List FV → List FV) (fun _ _ => []) (fun a l ih n cs => Nat.rec (motive := fun _ => List FV) (List.rec (motive := fun _ => List FV) (a :: l) (fun c cs _ => c :: ih 0 cs) cs) (fun m _ => a :: ih m cs) n) l
theorem spliceK_eq : ∀ (l : List FV) (n : Nat) (cs : List FV), spliceK l n cs = spliceF l n cs
  | [], 0, [] => rfl
  | [], 0, _ :: _ => rfl
  | [], _ + 1, _ => by simp [spliceF]; rfl
  | a :: l, 0, [] => rfl
  | a :: l, 0, c :: cs => by
    show c :: spliceK l 0 cs = _
    rw [spliceK_eq l 0 cs]; simp [spliceF]
  | a :: l, n + 1, cs => by
    show a :: spliceK l n cs = _
    rw [spliceK_eq l n cs]; simp [spliceF]

noncomputable def trGet {α : Type} (t : Tr α) : Nat → Option α :=
  Tr.rec (motive := fun _ => Nat → Option α) (fun _ => none) (fun v _ _ ihl ihr k => Nat.rec (motive := fun _ => Option α) v (fun k _ => Bool.rec (motive := fun _ => Option α) (ihr (Nat.div k 2)) (ihl (Nat.div k 2)) (Nat.beq (Nat.mod k 2) 0)) k) t
theorem trGet_eq {α : Type} : ∀ (t : Tr α) (k : Nat), trGet t k = t.get k
  | .nil, k => by simp [Tr.get]; rfl
  | .node v l r, 0 => by simp [Tr.get]; rfl
  | .node v l r, k + 1 => by
    show (Bool.rec (motive := fun _ => Option α) (trGet r (Nat.div k 2)) (trGet l (Nat.div k 2)) (Nat.beq (Nat.mod k 2) 0)) = _
    simp only [Tr.get, trGet_eq l, trGet_eq r]
    cases Nat.beq (Nat.mod k 2) 0 <;> rfl
/-- The new trie is worked out along the way to the place. -/
noncomputable def trSet {α R : Type} (x : α) (f : Nat) : Tr α → Nat → (Tr α → R) → R :=
  Nat.rec (motive := fun _ => Tr α → Nat → (Tr α → R) → R) (fun t _ k => k t)
    (fun _ ih t n k => Tr.rec (motive := fun _ => R)
      (Nat.rec (motive := fun _ => R) (k (.node (some x) .nil .nil)) (fun n _ => Bool.rec (motive := fun _ => R) (ih .nil (Nat.div n 2) fun s => k (.node none .nil s)) (ih .nil (Nat.div n 2) fun s => k (.node none s .nil)) (Nat.beq (Nat.mod n 2) 0)) n)
      (fun v l r _ _ => Nat.rec (motive := fun _ => R) (k (.node (some x) l r)) (fun n _ => Bool.rec (motive := fun _ => R) (ih r (Nat.div n 2) fun s => k (.node v l s)) (ih l (Nat.div n 2) fun s => k (.node v s r)) (Nat.beq (Nat.mod n 2) 0)) n) t) f
theorem trSet_eq {α R : Type} (x : α) : ∀ (f : Nat) (t : Tr α) (n : Nat) (k : Tr α → R), trSet x f t n k = k (Tr.set f t n x)
  | 0, t, n, k => by simp [Tr.set]; rfl
  | f + 1, .nil, 0, k => by simp [Tr.set]; rfl
  | f + 1, .nil, n + 1, k => by
    show (Bool.rec (motive := fun _ => R) (trSet x f .nil (Nat.div n 2) fun s => k (.node none .nil s)) (trSet x f .nil (Nat.div n 2) fun s => k (.node none s .nil)) (Nat.beq (Nat.mod n 2) 0)) = _
    simp only [Tr.set, trSet_eq x f]
    cases Nat.beq (Nat.mod n 2) 0 <;> rfl
  | f + 1, .node v l r, 0, k => by simp [Tr.set]; rfl
  | f + 1, .node v l r, n + 1, k => by
    show (Bool.rec (motive := fun _ => R) (trSet x f r (Nat.div n 2) fun s => k (.node v l s)) (trSet x f l (Nat.div n 2) fun s => k (.node v s r)) (Nat.beq (Nat.mod n 2) 0)) = _
    simp only [Tr.set, trSet_eq x f]
    cases Nat.beq (Nat.mod n 2) 0 <;> rfl

/-! ### What is held by temporaries: those of the region, those beyond -/

structure EnvK where
  loc : FTm
  out : Tr FV
noncomputable def locGet (l : FTm) (t : Nat) (d : FV) : FV := List.rec (motive := fun _ => FV) d (fun p _ ih => Bool.rec (motive := fun _ => FV) ih p.2 (Nat.beq p.1 t)) l
noncomputable def EnvK.get (E : EnvK) (t : Nat) : FV := locGet E.loc t (Option.rec (motive := fun _ => FV) .any (fun x => x) (trGet E.out t))
/-- They answer alike. -/
def EnvK.as (E : EnvK) (ts : FTm) : Prop := ∀ t, E.get t = ts.get t
theorem locGet_cons (d : Nat) (c : FV) (l : FTm) (t : Nat) (x : FV) : locGet ((d, c) :: l) t x = if d = t then c else locGet l t x := by
  show (Bool.rec (motive := fun _ => FV) (locGet l t x) c (Nat.beq d t)) = _
  cases h : Nat.beq d t
  · rw [if_neg]; intro e; rw [e, Nat.beq_refl] at h; cases h
  · rw [if_pos (Nat.eq_of_beq_eq_true h)]
theorem EnvK.as.cons {E : EnvK} {ts : FTm} (h : E.as ts) (d : Nat) (c : FV) : EnvK.as ⟨(d, c) :: E.loc, E.out⟩ ((d, c) :: ts) := fun t => by
  simp only [EnvK.get, locGet_cons, FTm.get, cond_eq_ite, Nat.beq_eq]
  split
  · rfl
  · exact h t

noncomputable def O.fk (E : EnvK) (o : O) : FV :=
  match o with
  | .t n => E.get n
  | .c x => match x with
    | .int k n => .int k n
    | .bool b => .bool b
    | x => bif x.clean then FV.of x else .any
theorem O.fk_eq {E : EnvK} {ts : FTm} (h : E.as ts) (o : O) : o.fk E = o.fev ts := by
  cases o with
  | t n => exact h n
  | c x => cases x <;> rfl
end Go.Proofs.YtebjldkkdapbeaaGreatDoor.Eng
