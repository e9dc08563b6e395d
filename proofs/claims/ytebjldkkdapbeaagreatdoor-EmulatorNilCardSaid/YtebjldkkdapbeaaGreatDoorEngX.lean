/- The engine, part X: values and memory that are reckoned with outright, cell by cell. -/
import Derived.Test.YtebjldkkdapbeaaGreatDoorEngN
namespace Go.Proofs.YtebjldkkdapbeaaGreatDoor.Eng
open Go

inductive Tr (α : Type) where
  | nil
  | node (v : Option α) (l r : Tr α)
def Tr.get {α : Type} : Tr α → Nat → Option α
  | .nil, _ => none
  | .node v l r, k => match k with
    | 0 => v
    | k + 1 => bif Nat.beq (Nat.mod k 2) 0 then l.get (Nat.div k 2) else r.get (Nat.div k 2)
def Tr.set {α : Type} : Nat → Tr α → Nat → α → Tr α
  | 0, t, _, _ => t
  | f + 1, .nil, k, x => match k with
    | 0 => .node (some x) .nil .nil
    | k + 1 => bif Nat.beq (Nat.mod k 2) 0 then .node none (Tr.set f .nil (Nat.div k 2) x) .nil else .node none .nil (Tr.set f .nil (Nat.div k 2) x)
  | f + 1, .node v l r, k, x => match k with
    | 0 => .node (some x) l r
    | k + 1 => bif Nat.beq (Nat.mod k 2) 0 then .node v (Tr.set f l (Nat.div k 2) x) r else .node v l (Tr.set f r (Nat.div k 2) x)

theorem Tr.half {f k : Nat} (h : k + 1 + 1 < 2 ^ (f + 1)) : Nat.div k 2 + 1 < 2 ^ f := by
  have : Nat.div k 2 = k / 2 := rfl
  rw [this]; rw [Nat.pow_succ] at h; omega
theorem Tr.nil_get {α : Type} (j : Nat) : (Tr.nil : Tr α).get j = none := by simp [Tr.get]
theorem Tr.bitEq (k : Nat) : (Nat.beq (Nat.mod k 2) 0 = true ↔ k % 2 = 0) ∧ Nat.div k 2 = k / 2 := by
  have h : Nat.mod k 2 = k % 2 := rfl
  exact ⟨by rw [h, Nat.beq_eq], rfl⟩
theorem Tr.get_set {α : Type} (x : α) : ∀ (f : Nat) (t : Tr α) (k j : Nat), k + 1 < 2 ^ f → (Tr.set f t k x).get j = if j = k then some x else t.get j := by
  intro f
  induction f with
  | zero => intro t k j h; simp at h
  | succ f ih =>
    intro t k j h
    have hbit := fun k => Tr.bitEq k
    cases t with
    | nil =>
      cases k with
      | zero => cases j with
        | zero => simp [Tr.set, Tr.get]
        | succ j => simp [Tr.set, Tr.get]
      | succ k =>
        have ih' := ih .nil (k / 2)
        have hk := Tr.half h
        rw [(hbit k).2] at hk
        simp only [Tr.set, cond_eq_ite, (hbit k).1, (hbit k).2]
        cases j with
        | zero => split <;> simp [Tr.get]
        | succ j =>
          have e1 : (j + 1 = k + 1) = (j = k) := by simp
          simp only [e1]
          by_cases hk2 : k % 2 = 0 <;> by_cases hj2 : j % 2 = 0
          · rw [if_pos hk2]; simp only [Tr.get, cond_eq_ite, (hbit j).1, (hbit j).2, if_pos hj2]
            rw [ih' _ hk]
            by_cases hjk : j = k
            · rw [if_pos hjk, if_pos (by rw [hjk])]
            · rw [if_neg hjk, if_neg (by omega)]; simp [Tr.get]
          · rw [if_pos hk2]; simp only [Tr.get, cond_eq_ite, (hbit j).1, (hbit j).2, if_neg hj2]
            rw [if_neg (by omega)]
          · rw [if_neg hk2]; simp only [Tr.get, cond_eq_ite, (hbit j).1, (hbit j).2, if_pos hj2]
            rw [if_neg (by omega)]
          · rw [if_neg hk2]; simp only [Tr.get, cond_eq_ite, (hbit j).1, (hbit j).2, if_neg hj2]
            rw [ih' _ hk]
            by_cases hjk : j = k
            · rw [if_pos hjk, if_pos (by rw [hjk])]
            · rw [if_neg hjk, if_neg (by omega)]; simp [Tr.get]
    | node v l r =>
      cases k with
      | zero => cases j with
        | zero => simp [Tr.set, Tr.get]
        | succ j => simp [Tr.set, Tr.get]
      | succ k =>
        have hk := Tr.half h
        rw [(hbit k).2] at hk
        simp only [Tr.set, cond_eq_ite, (hbit k).1, (hbit k).2]
        cases j with
        | zero => split <;> simp [Tr.get]
        | succ j =>
          have e1 : (j + 1 = k + 1) = (j = k) := by simp
          simp only [e1]
          by_cases hk2 : k % 2 = 0 <;> by_cases hj2 : j % 2 = 0
          · rw [if_pos hk2]; simp only [Tr.get, cond_eq_ite, (hbit j).1, (hbit j).2, if_pos hj2]
            rw [ih l _ _ hk]
            by_cases hjk : j = k
            · rw [if_pos hjk, if_pos (by rw [hjk])]
            · rw [if_neg hjk, if_neg (by omega)]
          · rw [if_pos hk2]; simp only [Tr.get, cond_eq_ite, (hbit j).1, (hbit j).2, if_neg hj2]
            rw [if_neg (by omega)]
          · rw [if_neg hk2]; simp only [Tr.get, cond_eq_ite, (hbit j).1, (hbit j).2, if_pos hj2]
            rw [if_neg (by omega)]
          · rw [if_neg hk2]; simp only [Tr.get, cond_eq_ite, (hbit j).1, (hbit j).2, if_neg hj2]
            rw [ih r _ _ hk]
            by_cases hjk : j = k
            · rw [if_pos hjk, if_pos (by rw [hjk])]
            · rw [if_neg hjk, if_neg (by omega)]

/-! ### Values -/

inductive FV where
  | any
  | v (x : Value)
  | int (k : IntKind) (n : Int)
  | bool (b : Bool)
  | str (l : List Nat)
  | p (k off : Nat)
  | s (k sz off len : Nat) (cap : Option Nat)
  | agg (l : List FV)
  | tup (l : List FV)
  | fn (f : Nat) (l : List FV)

/-- Where each block lies, and how many cells it has. -/
abbrev Env := List (Base × Nat)

/-- What stands for nothing. -/
def SV.bad : SV := .s 0 (0, 0) 0 0 1 0
theorem bad_rep {v : Value} (h : Rep SV.bad v) : False := by
  obtain ⟨h, _⟩ := h; omega

def bytesOf (l : List Nat) : ByteArray := ⟨(l.map UInt8.ofNat).toArray⟩

theorem bytesOf_size (l : List Nat) : (bytesOf l).size = l.length := by simp [bytesOf, ByteArray.size]
theorem bytesOf_list (l : List Nat) : (bytesOf l).data.toList = l.map UInt8.ofNat := by simp [bytesOf]
theorem bytesOf_append (a b : List Nat) : bytesOf a ++ bytesOf b = bytesOf (a ++ b) := by
  apply ByteArray.ext
  simp [bytesOf]

def capOf (len sz off tot : Nat) (c : Option Nat) : Nat :=
  match c with
  | some c => c
  | none => len + (tot / sz - off - len)

mutual
def FV.sv (η : Env) : FV → SV
  | .any => .any
  | .v x => .v x
  | .int k n => .int k n
  | .bool b => .bool b
  | .str l => .v (.string (bytesOf l))
  | .p k off => match η[k]? with
    | some b => .p k b.1 off
    | none => .bad
  | .s k sz off len cap => match cap with
    | some 0 => .s k (0, 0) sz off len 0
    | cap => match η[k]? with
      | some b => .s k b.1 sz off len (capOf len sz off b.2 cap)
      | none => .bad
  | .agg l => .agg (FV.svL η l)
  | .tup l => .tup (FV.svL η l)
  | .fn f l => .fn f (FV.svL η l)
def FV.svL (η : Env) : List FV → List SV
  | [] => []
  | x :: l => x.sv η :: FV.svL η l
end

theorem FV.svL_map (η : Env) : ∀ l : List FV, FV.svL η l = l.map (FV.sv η)
  | [] => by simp [FV.svL]
  | x :: l => by simp [FV.svL, FV.svL_map η l]

/-- The second speaks of the first's blocks as the first does, and of more. -/
def Env.ext (η η' : Env) : Prop := ∀ (k : Nat) (b : Base × Nat), η[k]? = some b → η'[k]? = some b
theorem Env.ext.refl (η : Env) : Env.ext η η := fun _ _ h => h
theorem Env.ext.trans {a b c : Env} (h : Env.ext a b) (k : Env.ext b c) : Env.ext a c := fun x y e => k x y (h x y e)
theorem Env.ext_append (η : Env) (l : Env) : Env.ext η (η ++ l) := fun k b h => by
  rw [List.getElem?_append_left (List.getElem?_eq_some_iff.1 h).1]; exact h

mutual
theorem FV.sv_ext {η η' : Env} (h : Env.ext η η') : ∀ (x : FV) {u : Value}, Rep (x.sv η) u → Rep (x.sv η') u
  | .any, _, r => by simpa [FV.sv] using r
  | .v _, _, r => by simpa [FV.sv] using r
  | .int .., _, r => by simpa [FV.sv] using r
  | .bool _, _, r => by simpa [FV.sv] using r
  | .str _, _, r => by simpa [FV.sv] using r
  | .p k off, _, r => by
    simp only [FV.sv] at r ⊢
    split at r
    · rename_i b hb; rw [h k b hb]; exact r
    · exact (bad_rep r).elim
  | .s k sz off len cap, _, r => by
    simp only [FV.sv] at r ⊢
    split at r
    · exact r
    · split at r
      · rename_i b hb; rw [h k b hb]; exact r
      · exact (bad_rep r).elim
  | .agg l, _, r => by
    simp only [FV.sv] at r ⊢
    obtain ⟨cs, h1, h2⟩ := r
    exact ⟨cs, h1, FV.svL_ext h l h2⟩
  | .tup l, _, r => by
    simp only [FV.sv] at r ⊢
    obtain ⟨cs, h1, h2⟩ := r
    exact ⟨cs, h1, FV.svL_ext h l h2⟩
  | .fn f l, _, r => by
    simp only [FV.sv] at r ⊢
    obtain ⟨cs, h1, h2⟩ := r
    exact ⟨cs, h1, FV.svL_ext h l h2⟩
theorem FV.svL_ext {η η' : Env} (h : Env.ext η η') : ∀ (l : List FV) {cs : List Value}, RepL (FV.svL η l) cs → RepL (FV.svL η' l) cs
  | [], [], _ => by simp [FV.svL, RepL]
  | [], _ :: _, r => by simp [FV.svL, RepL] at r
  | _ :: _, [], r => by simp [FV.svL, RepL] at r
  | x :: l, c :: cs, r => by
    simp only [FV.svL, RepL] at r ⊢
    exact ⟨FV.sv_ext h x r.1, FV.svL_ext h l r.2⟩
end

/-! ### What is held by temporaries -/

abbrev FTm := List (Nat × FV)
def FTm.get : FTm → Nat → FV
  | [], _ => .any
  | (k, x) :: r, t => bif Nat.beq k t then x else FTm.get r t
def FTm.sv (η : Env) : FTm → Tm
  | [] => []
  | (k, x) :: r => (k, x.sv η) :: FTm.sv η r
theorem FTm.get_sv (η : Env) (t : Nat) : ∀ ts : FTm, (ts.sv η).get t = (ts.get t).sv η
  | [] => by simp [FTm.sv, Tm.get, FTm.get, FV.sv]
  | (k, x) :: r => by
    simp only [FTm.sv, Tm.get, FTm.get, cond_eq_ite, Nat.beq_eq]
    split
    · rfl
    · exact FTm.get_sv η t r
theorem FTm.ok_ext {η η' : Env} (h : Env.ext η η') {ts : FTm} {a : Act} (ht : TmOk (ts.sv η) a) : TmOk (ts.sv η') a := fun t => by
  have := ht t
  rw [FTm.get_sv] at this ⊢
  exact FV.sv_ext h _ this

mutual
def FV.of : SV → FV
  | .v x => match x with
    | .string bs => .str (bs.data.toList.map UInt8.toNat)
    | y => .v y
  | .int k n => .int k n
  | .bool b => .bool b
  | .s k _ sz off ln cp => match cp with
    | 0 => .s k sz off ln (some 0)
    | _ => .any
  | .agg l => .agg (FV.ofL l)
  | .tup l => .tup (FV.ofL l)
  | .fn f l => .fn f (FV.ofL l)
  | _ => .any
def FV.ofL : List SV → List FV
  | [] => []
  | x :: l => FV.of x :: FV.ofL l
end
theorem bytesOf_of (s : ByteArray) : bytesOf (s.data.toList.map UInt8.toNat) = s := by
  obtain ⟨⟨l⟩⟩ := s
  simp [bytesOf, List.map_map, Function.comp_def]
mutual
theorem FV.of_rep (η : Env) : ∀ (x : SV) {u : Value}, Rep x u → Rep ((FV.of x).sv η) u
  | .any, _, r => by simp [FV.of, FV.sv, Rep]
  | .v x, _, r => by
    simp only [FV.of]
    split
    · simp only [FV.sv, bytesOf_of]; exact r
    · simpa [FV.sv] using r
  | .int .., _, r => by simpa [FV.of, FV.sv] using r
  | .bool _, _, r => by simpa [FV.of, FV.sv] using r
  | .p .., _, r => by simp [FV.of, FV.sv, Rep]
  | .e .., _, r => by simp [FV.of, FV.sv, Rep]
  | .s k b sz off ln cp, _, r => by
    simp only [FV.of]
    split
    · obtain ⟨h1, a, h2, h3, h4⟩ := r
      exact ⟨h1, a, h2, by simp, h4⟩
    · simp [FV.sv, Rep]
  | .agg l, _, r => by
    simp only [FV.of, FV.sv]
    obtain ⟨cs, h1, h2⟩ := r
    exact ⟨cs, h1, FV.ofL_rep η l h2⟩
  | .tup l, _, r => by
    simp only [FV.of, FV.sv]
    obtain ⟨cs, h1, h2⟩ := r
    exact ⟨cs, h1, FV.ofL_rep η l h2⟩
  | .fn f l, _, r => by
    simp only [FV.of, FV.sv]
    obtain ⟨cs, h1, h2⟩ := r
    exact ⟨cs, h1, FV.ofL_rep η l h2⟩
theorem FV.ofL_rep (η : Env) : ∀ (l : List SV) {cs : List Value}, RepL l cs → RepL (FV.svL η (FV.ofL l)) cs
  | [], [], _ => by simp [FV.ofL, FV.svL, RepL]
  | [], _ :: _, r => by simp [RepL] at r
  | _ :: _, [], r => by simp [RepL] at r
  | x :: l, c :: cs, r => by
    simp only [FV.ofL, FV.svL, RepL] at r ⊢
    exact ⟨FV.of_rep η x r.1, FV.ofL_rep η l r.2⟩
end

mutual
/-- Is it a constant that names no memory? -/
def SV.clean : SV → Bool
  | .v x => match x with
    | .string _ => true
    | _ => true
  | .int .. | .bool _ => true
  | .s _ b _ _ _ cp => match cp with
    | 0 => match b with
      | (0, 0) => true
      | _ => false
    | _ => false
  | .agg l | .tup l | .fn _ l => SV.cleanL l
  | _ => false
def SV.cleanL : List SV → Bool
  | [] => true
  | x :: l => SV.clean x && SV.cleanL l
end
mutual
theorem clean_of (η : Env) : ∀ (x : SV), SV.clean x = true → (FV.of x).sv η = x
  | .any, h => by simp [SV.clean] at h
  | .v x, h => by
    simp only [FV.of]
    split
    · simp only [FV.sv, bytesOf_of]
    · simp [FV.sv]
  | .int .., _ => by simp [FV.of, FV.sv]
  | .bool _, _ => by simp [FV.of, FV.sv]
  | .p .., h => by simp [SV.clean] at h
  | .e .., h => by simp [SV.clean] at h
  | .s k b sz off ln cp, h => by
    simp only [SV.clean] at h
    split at h
    · split at h
      · simp [FV.of, FV.sv]
      · cases h
    · cases h
  | .agg l, h => by simp only [SV.clean] at h; simp only [FV.of, FV.sv]; rw [cleanL_of η l h]
  | .tup l, h => by simp only [SV.clean] at h; simp only [FV.of, FV.sv]; rw [cleanL_of η l h]
  | .fn f l, h => by simp only [SV.clean] at h; simp only [FV.of, FV.sv]; rw [cleanL_of η l h]
theorem cleanL_of (η : Env) : ∀ (l : List SV), SV.cleanL l = true → FV.svL η (FV.ofL l) = l
  | [], _ => by simp [FV.ofL, FV.svL]
  | x :: l, h => by
    simp only [SV.cleanL, Bool.and_eq_true] at h
    simp only [FV.ofL, FV.svL, clean_of η x h.1, cleanL_of η l h.2]
end

def O.fev (ts : FTm) : O → FV
  | .t n => ts.get n
  | .c x => match x with
    | .int k n => .int k n
    | .bool b => .bool b
    | x => bif x.clean then FV.of x else .any

/-- An operand means what it is reckoned to be. -/
theorem O.fev_ev (η : Env) (ts : FTm) (o : O) : o.ev (ts.sv η) = (o.fev ts).sv η ∨ (o.fev ts = .any) := by
  cases o with
  | t n => exact .inl (FTm.get_sv η n ts)
  | c x =>
    cases x <;> simp only [O.fev, O.ev, cond_eq_ite]
    case int => exact .inl (by simp [FV.sv])
    case bool => exact .inl (by simp [FV.sv])
    all_goals
      split
      · rename_i hc; exact .inl (clean_of η _ hc).symm
      · exact .inr rfl

theorem O.frep {x : Operand} {o : O} (h : O.of x = some o) {η : Env} {ts : FTm} {a : Act} (ht : TmOk (ts.sv η) a) : Rep ((o.fev ts).sv η) (a.eval x) := by
  have h1 := O.rep h ht
  rcases O.fev_ev η ts o with h2 | h2
  · rw [← h2]; exact h1
  · rw [h2]; simp [FV.sv, Rep]

/-! ### Memory -/

structure Blk where
  cells : List FV
  more : Bool

structure Mem where
  next : Nat
  tr : Tr Blk

def Blk.ent (B : Blk) (b : Base × Nat) (η : Env) : Ent :=
  match B.cells with
  | [] => .gone
  | x :: l => .lit b.1 ((x :: l).map (FV.sv η) ++ List.replicate (b.2 - (x :: l).length) .any)
def Mem.entAt (M : Mem) (η : Env) (k : Nat) : Ent :=
  match M.tr.get k, η[k]? with
  | some B, some b => B.ent b η
  | _, _ => .gone
def Mem.heap (M : Mem) (η : Env) : Heap := (List.range M.next).map (M.entAt η)

structure GoodS (M : Mem) (η : Env) : Prop where
  len : η.length = M.next
  small : M.next ≤ 1000000000
  tot : ∀ k B b, M.tr.get k = some B → η[k]? = some b → B.cells.length ≤ b.2 ∧ (B.more = false → b.2 = B.cells.length)
  below : ∀ k B, M.tr.get k = some B → k < M.next
structure Good (M : Mem) (η : Env) (w : World) : Prop where
  s : GoodS M η
  ok : Ok (M.heap η) w

theorem Blk.ent_some {B : Blk} {b : Base × Nat} {η : Env} (h : 0 < B.cells.length) : B.ent b η = .lit b.1 (B.cells.map (FV.sv η) ++ List.replicate (b.2 - B.cells.length) .any) := by
  unfold Blk.ent
  split
  · rename_i e; rw [e] at h; simp at h
  · rename_i e; rw [e]
theorem Blk.ent_nil {B : Blk} {b : Base × Nat} {η : Env} (h : B.cells = []) : B.ent b η = .gone := by
  unfold Blk.ent; rw [h]

theorem Mem.heap_len (M : Mem) (η : Env) : (M.heap η).length = M.next := by simp [Mem.heap]
theorem Mem.heap_get (M : Mem) (η : Env) (k : Nat) : (M.heap η)[k]? = if k < M.next then some (M.entAt η k) else none := by
  simp only [Mem.heap, List.getElem?_map]
  split
  · rename_i h; simp [List.getElem?_range h]
  · rename_i h; simp [List.getElem?_eq_none (l := List.range M.next) (by simpa using h)]

theorem GoodS.get {M : Mem} {η : Env} (h : GoodS M η) {k : Nat} {B : Blk} (hk : M.tr.get k = some B) : ∃ b, η[k]? = some b ∧ (M.heap η)[k]? = some (B.ent b η) ∧ B.cells.length ≤ b.2 ∧ (B.more = false → b.2 = B.cells.length) := by
  have hlt := h.below k B hk
  have hl := h.len
  have hb : η[k]? = some (η[k]'(by omega)) := List.getElem?_eq_getElem (by omega)
  refine ⟨_, hb, ?_, h.tot k B _ hk hb⟩
  rw [M.heap_get, if_pos hlt]
  simp only [Mem.entAt, hk, hb]
end Go.Proofs.YtebjldkkdapbeaaGreatDoor.Eng
