/- The engine, part X2: the operations that only look, reckoned outright. -/
import Derived.Test.YtebjldkkdapbeaaGreatDoorEngX
namespace Go.Proofs.YtebjldkkdapbeaaGreatDoor.Eng
open Go

def Kc (η : Env) (c : FV) : SV → Prop := fun sv => ∀ v, Rep sv v → Rep (c.sv η) v
theorem Kc.of {η : Env} {c : FV} {sv : SV} (h : sv = c.sv η) : Kc η c sv := fun v r => by rw [← h]; exact r

def cmpF (op : BinOp) (a b : Int) : Option FV :=
  match op with
  | .eql => some (.bool (a == b))
  | .neq => some (.bool (a != b))
  | .lss => some (.bool (decide (a < b)))
  | .leq => some (.bool (decide (a ≤ b)))
  | .gtr => some (.bool (decide (a > b)))
  | .geq => some (.bool (decide (a ≥ b)))
  | _ => none
def binIF (op : BinOp) (k : IntKind) (a : Int) (k' : IntKind) (b : Int) : Option FV :=
  match op with
  | .shl => if 0 ≤ b ∧ b ≤ k.bits then some (.int k (k.wrap (a * 2 ^ b.toNat))) else none
  | .shr => if 0 ≤ b ∧ b ≤ k.bits then some (.int k (a / 2 ^ b.toNat)) else none
  | .add => if k = k' then some (.int k (k.wrap (a + b))) else none
  | .sub => if k = k' then some (.int k (k.wrap (a - b))) else none
  | .mul => if k = k' then some (.int k (k.wrap (a * b))) else none
  | .quo => if k = k' ∧ b ≠ 0 then some (.int k (k.wrap (a.tdiv b))) else none
  | .rem => if k = k' ∧ b ≠ 0 then some (.int k (a.tmod b)) else none
  | .and => if k = k' then some (.int k (bits .and k a b)) else none
  | .or => if k = k' then some (.int k (bits .or k a b)) else none
  | .xor => if k = k' then some (.int k (bits .xor k a b)) else none
  | .andNot => if k = k' then some (.int k (bits .andNot k a b)) else none
  | op => if k = k' then cmpF op a b else none
def isNilF : FV → Option Bool
  | .v x => match x with
    | .pointer none => some true
    | _ => none
  | .p .. => some false
  | _ => none
def binF (ty : Nat) (op : BinOp) (x y : FV) : Option FV :=
  match x, y with
  | .int k a, .int k' b => binIF op k a k' b
  | .bool a, .bool b => if ty = 1 then (match op with | .eql => some (.bool (a == b)) | .neq => some (.bool (a != b)) | _ => none) else none
  | x, y => if ty = 2 then (match isNilF x, isNilF y with
    | some a, some b => if a = true ∨ b = true then (match op with | .eql => some (.bool (a == b)) | .neq => some (.bool (a != b)) | _ => none) else none
    | _, _ => none) else none
def unF (op : UnOp) (x : FV) : Option FV :=
  match op, x with
  | .neg, .int k n => some (.int k (k.wrap (0 - n)))
  | .xor, .int k n => some (.int k (bits .xor k (if k.signed then -1 else k.max) n))
  | .not, .bool b => some (.bool (!b))
  | _, _ => none
def boundF (o : Option FV) (dflt most : Nat) : Option Nat :=
  match o with
  | none => some dflt
  | some x => match x with
    | .int _ i => match i with
      | .ofNat n => bif Nat.ble n most then some n else none
      | .negSucc _ => none
    | _ => none
def fevO (ts : FTm) (o : Option O) : Option FV :=
  match o with
  | none => none
  | some o => some (o.fev ts)
/-- How many cells a block is known to have. -/
def Mem.size (M : Mem) (k : Nat) : Nat :=
  match M.tr.get k with
  | some B => B.cells.length
  | none => 0
def slcF (M : Mem) (sz : Nat) (x : FV) (lo hi mx : Option FV) : Option FV :=
  match x with
  | .s k sz' off len cap => match cap with
    | some c => bif Nat.beq sz' sz || Nat.beq c 0 then match boundF mx c c with
        | some m => match boundF hi len m with
          | some h => match boundF lo 0 h with
            | some l => some (.s k sz (off + l) (h - l) (some (m - l)))
            | none => none
          | none => none
        | none => none
      else none
    | none => match mx with
      | none => bif Nat.beq sz' sz && Nat.ble 1 sz && Nat.ble ((off + len) * sz) (M.size k) then match boundF hi len len with
          | some h => match boundF lo 0 h with
            | some l => some (.s k sz (off + l) (h - l) none)
            | none => none
          | none => none
        else none
      | some mx => bif Nat.beq sz' sz then match boundF (some mx) len len with
          | some m => match boundF hi len m with
            | some h => match boundF lo 0 h with
              | some l => some (.s k sz (off + l) (h - l) (some (m - l)))
              | none => none
            | none => none
          | none => none
        else none
  | _ => none
def slcAF (sz ln : Nat) (x : FV) (lo hi mx : Option FV) : Option FV :=
  match x with
  | .p k o => bif Nat.ble 1 sz && Nat.beq (Nat.mod o sz) 0 then match boundF mx ln ln with
      | some m => match boundF hi ln m with
        | some h => match boundF lo 0 h with
          | some l => some (.s k sz (o / sz + l) (h - l) (some (m - l)))
          | none => none
        | none => none
      | none => none
    else none
  | _ => none
def takeF : Nat → List FV → Option (List FV)
  | 0, _ => some []
  | n + 1, x :: l => match takeF n l with
    | some r => some (x :: r)
    | none => none
  | _ + 1, [] => none
def atF : Nat → List FV → Option FV
  | 0, x :: _ => some x
  | n + 1, _ :: l => atF n l
  | _, [] => none
def partF (off n : Nat) (ag : Bool) (l : List FV) : Option FV :=
  bif ag then match n with
    | 0 => none
    | n + 1 => match takeF (n + 1) (l.drop off) with
      | some r => some (.agg r)
      | none => none
  else bif Nat.beq n 1 then atF off l else none
def loadF (M : Mem) (x : FV) (n : Nat) (ag : Bool) : Option FV :=
  match x with
  | .p k off => match M.tr.get k with
    | some B => partF off n ag B.cells
    | none => none
  | _ => none
def cellsF : FV → List FV
  | .agg l => l
  | x => [x]
def FV.one : FV → Bool
  | .any | .agg _ | .tup _ => false
  | .v x => match x with | .agg _ | .tuple _ => false | _ => true
  | _ => true
def FV.solid : FV → Bool
  | .agg _ => true
  | x => x.one
def spliceF {α : Type} : List α → Nat → List α → List α
  | l, 0, [] => l
  | [], _, _ => []
  | _ :: l, 0, c :: cs => c :: spliceF l 0 cs
  | a :: l, n + 1, cs => a :: spliceF l n cs
def buildF (ts : FTm) : List (Nat × Nat × O) → List FV → Option FV
  | [], cur => some (.agg cur)
  | (off, size, x) :: r, cur => match x.fev ts with
    | y => bif y.solid && Nat.beq (cellsF y).length size && Nat.ble (off + size) cur.length then buildF ts r (spliceF cur off (cellsF y)) else none
def eqF : List Bool → List FV → List FV → Option Bool
  | ks, x :: l, y :: m => match ks, x, y with
    | true :: ks, .int k a, .int k' b => if k = k' then match eqF ks l m with
        | some r => some ((a == b) && r)
        | none => none
      else none
    | false :: ks, .bool a, .bool b => match eqF ks l m with
      | some r => some ((a == b) && r)
      | none => none
    | _, _, _ => none
  | ks, [], [] => match ks with
    | [] => some true
    | _ => none
  | _, _, _ => none
def fevL (ts : FTm) : List O → List FV
  | [] => []
  | o :: l => o.fev ts :: fevL ts l

def atN : Nat → List Nat → Option Nat
  | 0, x :: _ => some x
  | n + 1, _ :: l => atN n l
  | _, [] => none
/-- The same bytes? -/
def eqN : List Nat → List Nat → Bool
  | [], [] => true
  | a :: l, b :: m => Nat.beq (Nat.mod a 256) (Nat.mod b 256) && eqN l m
  | _, _ => false
def sbinF (op : BinOp) (a b : List Nat) : Option FV :=
  match op with
  | .add => bif Nat.ble (a.length + b.length) 4611686018427387904 then some (.str (a ++ b)) else none
  | .eql => some (.bool (eqN a b))
  | .neq => some (.bool (!(eqN a b)))
  | _ => none

def byteF (x : FV) : Option Nat :=
  match x with
  | .int k n => match k, n with
    | .u8, .ofNat n => bif Nat.ble n 255 then some n else none
    | _, _ => none
  | _ => none
def bytesFV : List FV → Option (List Nat)
  | [] => some []
  | x :: l => match byteF x with
    | some b => match bytesFV l with
      | some r => some (b :: r)
      | none => none
    | none => none
def b2sF (M : Mem) (x : FV) : Option FV :=
  match x with
  | .s k sz off len cap => match len with
    | 0 => some (.str [])
    | n + 1 => match cap with
      | some 0 => none
      | _ => bif Nat.beq sz 1 then match M.tr.get k with
          | some B => match takeF (n + 1) (B.cells.drop off) with
            | some cs => match bytesFV cs with
              | some bs => some (.str bs)
              | none => none
            | none => none
          | none => none
        else none
  | _ => none

def evalQ (q : Q) (ts : FTm) (M : Mem) : Option FV :=
  match q with
  | .mov x => some (x.fev ts)
  | .bin ty op x y => binF ty op (x.fev ts) (y.fev ts)
  | .load n ag x => loadF M (x.fev ts) n ag
  | .faddr off x => match x.fev ts with
    | .p k o => some (.p k (o + off))
    | _ => none
  | .nilc x => match x.fev ts with
    | .p k o => some (.p k o)
    | .fn f l => some (.fn f l)
    | _ => none
  | .iaddr sz x i => match x.fev ts, i.fev ts with
    | .s k sz' off ln cap, .int _ n => match cap, n with
      | some 0, _ => none
      | _, .ofNat n => bif Nat.beq sz' sz && Nat.ble (n + 1) ln then some (.p k ((off + n) * sz)) else none
      | _, _ => none
    | _, _ => none
  | .iaddrA sz ln x i => match x.fev ts, i.fev ts with
    | .p k o, .int _ n => match n with
      | .ofNat n => bif Nat.ble (n + 1) ln then some (.p k (o + n * sz)) else none
      | _ => none
    | _, _ => none
  | .len x => match x.fev ts with
    | .s _ _ _ ln _ => some (.int .i64 ln)
    | _ => none
  | .conv k x => match x.fev ts with
    | .int _ n => some (.int k (k.wrap n))
    | _ => none
  | .pick c a b => match c.fev ts with
    | .bool c => some (bif c then a.fev ts else b.fev ts)
    | _ => none
  | .un op x => unF op (x.fev ts)
  | .field off n ag x => match x.fev ts with
    | .agg l => partF off n ag l
    | _ => none
  | .idx sz ln ag x i => match x.fev ts, i.fev ts with
    | .agg l, .int _ n => match n with
      | .ofNat n => bif Nat.ble (n + 1) ln then partF (n * sz) sz ag l else none
      | _ => none
    | _, _ => none
  | .ext i x => match x.fev ts with
    | .tup l => atF i l
    | _ => none
  | .build zero parts => bif SV.cleanL zero then buildF ts parts (FV.ofL zero) else none
  | .eqa neg ks x y => match x.fev ts, y.fev ts with
    | .agg l, .agg m => match eqF ks l m with
      | some r => some (.bool (bif neg then !r else r))
      | none => none
    | _, _ => none
  | .eqnil neg x => match x.fev ts with
    | .s _ sz _ ln cap => match sz with
      | 0 => some (.bool (!neg))
      | _ => match cap with
        | some c => bif Nat.ble 1 c then some (.bool neg) else none
        | none => bif Nat.ble 1 ln then some (.bool neg) else none
    | _ => none
  | .slc sz x lo hi m3 => slcF M sz (x.fev ts) (fevO ts lo) (fevO ts hi) (fevO ts m3)
  | .slcA sz ln x lo hi m3 => slcAF sz ln (x.fev ts) (fevO ts lo) (fevO ts hi) (fevO ts m3)
  | .mkf f caps => some (.fn f (fevL ts caps))
  | .cap x => match x.fev ts with
    | .s _ _ _ _ cap => match cap with
      | some c => some (.int .i64 c)
      | none => none
    | _ => none
  | .mn x y => match x.fev ts, y.fev ts with
    | .int k a, .int k' b => if k = k' then some (.int k (if b < a then b else a)) else none
    | _, _ => none
  | .mx x y => match x.fev ts, y.fev ts with
    | .int k a, .int k' b => if k = k' then some (.int k (if b > a then b else a)) else none
    | _, _ => none
  | .sbin op x y => match x.fev ts, y.fev ts with
    | .str a, .str b => sbinF op a b
    | _, _ => none
  | .sidx x i => match x.fev ts, i.fev ts with
    | .str l, .int _ n => match n with
      | .ofNat n => match atN n l with
        | some b => some (.int .u8 ((Nat.mod b 256 : Nat) : Int))
        | none => none
      | _ => none
    | _, _ => none
  | .sslc x lo hi => match x.fev ts with
    | .str s => match boundF (fevO ts hi) s.length s.length with
      | some h => match boundF (fevO ts lo) 0 h with
        | some l => some (.str ((s.take h).drop l))
        | none => none
      | none => none
    | _ => none
  | .slen x => match x.fev ts with
    | .str l => some (.int .i64 l.length)
    | _ => none
  | .b2s x => b2sF M (x.fev ts)

/-! ### It is what the engine says -/
section
variable {η : Env} {ts : FTm} {M : Mem}

theorem sv_int (k : IntKind) (n : Int) : (FV.int k n).sv η = .int k n := by simp [FV.sv]
theorem sv_bool (b : Bool) : (FV.bool b).sv η = .bool b := by simp [FV.sv]
theorem sv_agg (l : List FV) : (FV.agg l).sv η = .agg (l.map (FV.sv η)) := by simp [FV.sv, FV.svL_map]
theorem sv_tup (l : List FV) : (FV.tup l).sv η = .tup (l.map (FV.sv η)) := by simp [FV.sv, FV.svL_map]
theorem sv_fn (f : Nat) (l : List FV) : (FV.fn f l).sv η = .fn f (l.map (FV.sv η)) := by simp [FV.sv, FV.svL_map]

/-- Each temporary stands for something. -/
def Sat (η : Env) (ts : FTm) : Prop := ∀ n, ∃ v, Rep ((ts.get n).sv η) v

theorem fev_ne {o : O} {y : FV} (h : o.fev ts = y) (hy : y ≠ .any) : o.ev (ts.sv η) = y.sv η := by
  rcases O.fev_ev η ts o with h1 | h1
  · rw [h1, h]
  · exact absurd (h.symm.trans h1) hy

theorem fev_int {o : O} {k : IntKind} {n : Int} (h : o.fev ts = .int k n) : o.ev (ts.sv η) = .int k n := by rw [fev_ne h (by simp)]; exact sv_int k n
theorem fev_bool {o : O} {b : Bool} (h : o.fev ts = .bool b) : o.ev (ts.sv η) = .bool b := by rw [fev_ne h (by simp)]; exact sv_bool b
theorem fev_agg {o : O} {l : List FV} (h : o.fev ts = .agg l) : o.ev (ts.sv η) = .agg (l.map (FV.sv η)) := by rw [fev_ne h (by simp)]; exact sv_agg l
theorem fev_tup {o : O} {l : List FV} (h : o.fev ts = .tup l) : o.ev (ts.sv η) = .tup (l.map (FV.sv η)) := by rw [fev_ne h (by simp)]; exact sv_tup l
theorem fev_fn {o : O} {f : Nat} {l : List FV} (h : o.fev ts = .fn f l) : o.ev (ts.sv η) = .fn f (l.map (FV.sv η)) := by rw [fev_ne h (by simp)]; exact sv_fn f l
theorem fev_p (hs : Sat η ts) {o : O} {k off : Nat} (h : o.fev ts = .p k off) : ∃ b, η[k]? = some b ∧ o.ev (ts.sv η) = .p k b.1 off := by
  have h1 := fev_ne (η := η) h (by simp)
  have hsat : ∃ v, Rep ((FV.p k off).sv η) v := by
    cases o with
    | t n => have := hs n; rw [show ts.get n = .p k off from h] at this; exact this
    | c x =>
      exfalso
      simp only [O.fev, cond_eq_ite] at h
      cases x <;> simp [SV.clean, FV.of] at h
      all_goals first
        | (rename_i l; by_cases q : SV.cleanL l = true <;> simp [q] at h; done)
        | (split at h <;> cases h; done)
        | (split at h <;> (try split at h) <;> simp_all; done)
  obtain ⟨v, hv⟩ := hsat
  rw [h1]
  simp only [FV.sv] at hv ⊢
  split at hv
  · rename_i b hb; exact ⟨b, hb, rfl⟩
  · exact (bad_rep hv).elim
theorem fev_s (hs : Sat η ts) {o : O} {k sz off len : Nat} {cap : Option Nat} (h : o.fev ts = .s k sz off len cap) :
    (cap = some 0 ∧ o.ev (ts.sv η) = .s k (0, 0) sz off len 0) ∨ (cap ≠ some 0 ∧ ∃ b, η[k]? = some b ∧ o.ev (ts.sv η) = .s k b.1 sz off len (capOf len sz off b.2 cap)) := by
  have h1 := fev_ne (η := η) h (by simp)
  by_cases hc : cap = some 0
  · refine .inl ⟨hc, ?_⟩
    rw [h1]; subst hc; simp [FV.sv]
  · refine .inr ⟨hc, ?_⟩
    have hsat : ∃ v, Rep ((FV.s k sz off len cap).sv η) v := by
      cases o with
      | t n => have := hs n; rw [show ts.get n = .s k sz off len cap from h] at this; exact this
      | c x =>
        exfalso
        simp only [O.fev, cond_eq_ite] at h
        cases x <;> simp [SV.clean, FV.of] at h
        all_goals first
          | (rename_i l; by_cases q : SV.cleanL l = true <;> simp [q] at h; done)
          | (split at h <;> cases h; done)
          | (split at h <;> (try split at h) <;> simp_all; done)
    obtain ⟨v, hv⟩ := hsat
    rw [h1]
    simp only [FV.sv] at hv ⊢
    split at hv
    · rename_i b hb; exact ⟨b, hb, rfl⟩
    · exact (bad_rep hv).elim

theorem cmpF_sound {op : BinOp} {a b : Int} {c : FV} (h : cmpF op a b = some c) : cmpI op a b (Kc η c) := by
  cases op <;> simp [cmpF] at h <;> subst h <;> exact .of (sv_bool _).symm
theorem binIF_sound {op : BinOp} {k k' : IntKind} {a b : Int} {c : FV} (h : binIF op k a k' b = some c) : binI op k a k' b (Kc η c) := by
  cases op <;> simp only [binIF, Option.ite_none_right_eq_some, Option.some.injEq] at h
  case shl | shr => obtain ⟨⟨h1, h2⟩, rfl⟩ := h; exact ⟨h1, h2, .of (sv_int _ _).symm⟩
  case add | sub | mul | and | or | xor | andNot => obtain ⟨h1, rfl⟩ := h; exact ⟨h1, .of (sv_int _ _).symm⟩
  case quo | rem => obtain ⟨⟨h1, h2⟩, rfl⟩ := h; exact ⟨h1, h2, .of (sv_int _ _).symm⟩
  all_goals exact ⟨h.1, cmpF_sound h.2⟩
theorem isNilF_sound {o : O} {b : Bool} (hs : Sat η ts) (h : isNilF (o.fev ts) = some b) : isNil (o.ev (ts.sv η)) = some b := by
  unfold isNilF at h
  split at h
  · rename_i x e
    split at h
    · rw [fev_ne e (by simp)]; cases h; simp [FV.sv, isNil]
    · cases h
  · rename_i e
    obtain ⟨b', h1, h2⟩ := fev_p hs e
    rw [h2]; cases h; simp [isNil]
  · cases h
theorem binF_sound {ty : Nat} {op : BinOp} {x y : O} {c : FV} (hs : Sat η ts) (h : binF ty op (x.fev ts) (y.fev ts) = some c) : binV ty op (x.ev (ts.sv η)) (y.ev (ts.sv η)) (Kc η c) := by
  unfold binF at h
  split at h
  · rename_i e1 e2
    rw [fev_int e1, fev_int e2]
    exact binIF_sound h
  · rename_i e1 e2
    rw [fev_bool e1, fev_bool e2]
    simp only [Option.ite_none_right_eq_some] at h
    refine ⟨h.1, ?_⟩
    have h2 := h.2
    cases op <;> simp at h2 <;> subst h2 <;> exact .of (sv_bool _).symm
  · simp only [Option.ite_none_right_eq_some] at h
    obtain ⟨hty, h⟩ := h
    split at h
    · rename_i a b e1 e2
      have h1 := isNilF_sound hs e1
      have h2 := isNilF_sound hs e2
      unfold binV
      split
      · rename_i q1 q2; rw [q1] at h1; simp [isNil] at h1
      · rename_i q1 q2; rw [q1] at h1; simp [isNil] at h1
      · refine ⟨hty, ?_⟩
        rw [h1, h2]
        simp only [Option.ite_none_right_eq_some] at h
        refine ⟨h.1, ?_⟩
        have h3 := h.2
        cases op <;> simp at h3 <;> subst h3 <;> exact .of (sv_bool _).symm
    · cases h
theorem unF_sound {op : UnOp} {x : O} {c : FV} (h : unF op (x.fev ts) = some c) : unV op (x.ev (ts.sv η)) (Kc η c) := by
  unfold unF at h
  split at h
  · rename_i e; rw [fev_int e]; cases h; exact .of (sv_int _ _).symm
  · rename_i e; rw [fev_int e]; cases h; exact .of (sv_int _ _).symm
  · rename_i e; rw [fev_bool e]; cases h; exact .of (sv_bool _).symm
  · cases h
theorem boundF_sound {o : Option O} {d m n : Nat} (h : boundF (fevO ts o) d m = some n) {K : Nat → Prop} (hk : K n) : bound (oev (ts.sv η) o) d m K := by
  cases o with
  | none => simp only [fevO, boundF, Option.some.injEq] at h; subst h; exact hk
  | some o =>
    simp only [fevO, boundF] at h
    split at h
    · rename_i e
      split at h
      · rename_i k i
        rw [cond_eq_ite] at h
        split at h
        · rename_i hle
          cases h
          simp only [oev, Option.map_some, fev_int e, bound]
          refine ⟨Int.natCast_nonneg _, ?_, hk⟩
          have := Nat.le_of_ble_eq_true hle
          simp; omega
        · cases h
      · cases h
    · cases h
theorem bound_le {o : Option SV} {d m : Nat} {K L : Nat → Prop} (hd : o = none → d ≤ m) (h : bound o d m K) (hk : ∀ n, n ≤ m → K n → L n) : bound o d m L := by
  cases o with
  | none => exact hk _ (hd rfl) h
  | some x => cases x <;> simp only [bound] at h ⊢ <;> first | exact h.elim | exact ⟨h.1, h.2.1, hk _ (by omega) h.2.2⟩

theorem bound_most {o : Option SV} {d m m' : Nat} {K : Nat → Prop} (h : bound o d m K) (hm : m ≤ m') : bound o d m' K := by
  cases o with
  | none => exact h
  | some x => cases x <;> simp only [bound] at h ⊢ <;> first | exact h.elim | exact ⟨h.1, by omega, h.2.2⟩
theorem bound_some {x : O} {d m d' m' : Nat} {K : Nat → Prop} (h : bound (oev (ts.sv η) (some x)) d m K) (hm : m ≤ m') : bound (oev (ts.sv η) (some x)) d' m' K := by
  simp only [oev, Option.map_some] at h ⊢
  generalize x.ev (ts.sv η) = y at h ⊢
  cases y <;> simp only [bound] at h ⊢ <;> first | exact h.elim | exact ⟨h.1, by omega, h.2.2⟩
theorem takeF_eq : ∀ {n : Nat} {l r : List FV}, takeF n l = some r → r = l.take n ∧ n ≤ l.length
  | 0, l, r, h => by simp [takeF] at h; subst h; simp
  | n + 1, [], r, h => by simp [takeF] at h
  | n + 1, x :: l, r, h => by
    simp only [takeF] at h
    split at h
    · rename_i r' e
      cases h
      obtain ⟨h1, h2⟩ := takeF_eq e
      exact ⟨by simp [h1], by simp; omega⟩
    · cases h
theorem atF_eq : ∀ {n : Nat} {l : List FV} {x : FV}, atF n l = some x → l[n]? = some x
  | 0, x :: l, y, h => by simpa [atF] using h
  | n + 1, x :: l, y, h => by simp only [atF] at h; simpa using atF_eq h
  | 0, [], y, h => by simp [atF] at h
  | n + 1, [], y, h => by simp [atF] at h
theorem partF_sound {off n : Nat} {ag : Bool} {l : List FV} {c : FV} (h : partF off n ag l = some c) (r : List SV) :
    off + n ≤ l.length ∧ (if ag then SV.agg (((l.map (FV.sv η) ++ r).drop off).take n) else (l.map (FV.sv η) ++ r).getD off .any) = c.sv η := by
  unfold partF at h
  cases ag with
  | true =>
    simp only [cond_true] at h
    split at h
    · cases h
    · split at h
      · rename_i q e
        cases h
        obtain ⟨h1, h2⟩ := takeF_eq e
        rw [List.length_drop] at h2
        refine ⟨by omega, ?_⟩
        simp only [if_true, sv_agg, h1]
        rw [List.drop_append_of_le_length (by simp; omega), List.take_append_of_le_length (by simp; omega)]
        simp
      · cases h
  | false =>
    rw [cond_false, cond_eq_ite] at h
    split at h
    · rename_i hn
      have hn := Nat.eq_of_beq_eq_true hn
      subst hn
      have h1 := atF_eq h
      have h2 := (List.getElem?_eq_some_iff.1 h1).1
      refine ⟨by omega, ?_⟩
      rw [List.getElem?_eq_getElem h2] at h1
      cases h1
      simp [List.getD_eq_getElem?_getD, List.getElem?_append_left, h2]
    · cases h

theorem partF_pos {off n : Nat} {ag : Bool} {l : List FV} {c : FV} (h : partF off n ag l = some c) : 0 < n := by
  unfold partF at h
  cases ag with
  | true =>
    simp only [cond_true] at h
    split at h
    · cases h
    · omega
  | false =>
    rw [cond_false, cond_eq_ite] at h
    split at h
    · rename_i hn; have := Nat.eq_of_beq_eq_true hn; omega
    · cases h
theorem loadF_sound (hg : GoodS M η) (hs : Sat η ts) {x : O} {n : Nat} {ag : Bool} {c : FV} (h : loadF M (x.fev ts) n ag = some c) : loadV (M.heap η) (x.ev (ts.sv η)) n ag (Kc η c) := by
  unfold loadF at h
  split at h
  · rename_i k off e
    split at h
    · rename_i B hB
      obtain ⟨b, hb, hev⟩ := fev_p hs e
      obtain ⟨b', hb', hent, _⟩ := hg.get hB
      rw [hb] at hb'; cases hb'
      rw [hev]
      obtain ⟨h1, h2⟩ := partF_sound (η := η) h (List.replicate (b.2 - B.cells.length) .any)
      have hpos : 0 < B.cells.length := by have := partF_pos h; omega
      rw [Blk.ent_some hpos] at hent
      simp only [loadV, hent, loadO, loadE]
      exact ⟨trivial, by simp; omega, .of h2⟩
    · cases h
  · cases h

theorem spliceF_map : ∀ (l : List FV) (n : Nat) (cs : List FV), (spliceF l n cs).map (FV.sv η) = splice (l.map (FV.sv η)) n (cs.map (FV.sv η))
  | [], 0, [] => rfl
  | _ :: _, 0, [] => rfl
  | [], 0, _ :: _ => rfl
  | [], _ + 1, _ => by simp [spliceF, splice]
  | _ :: l, 0, c :: cs => by simp [spliceF, splice, spliceF_map l 0 cs]
  | a :: l, n + 1, cs => by simp [spliceF, splice, spliceF_map l n cs]
theorem spliceF_length {α : Type} : ∀ (l : List α) (n : Nat) (cs : List α), (spliceF l n cs).length = l.length
  | [], 0, [] => rfl
  | _ :: _, 0, [] => rfl
  | [], 0, _ :: _ => rfl
  | [], _ + 1, _ => by simp [spliceF]
  | _ :: l, 0, c :: cs => by simp [spliceF, spliceF_length l 0 cs]
  | a :: l, n + 1, cs => by simp [spliceF, spliceF_length l n cs]
theorem sv_p_is (k off : Nat) : (∃ b, (FV.p k off).sv η = .p k b off) ∨ (FV.p k off).sv η = .bad := by
  simp only [FV.sv]
  split
  · exact .inl ⟨_, rfl⟩
  · exact .inr rfl
theorem sv_s_is (k sz off len : Nat) (cap : Option Nat) : ∃ k' b sz' off' len' c, (FV.s k sz off len cap).sv η = .s k' b sz' off' len' c := by
  simp only [FV.sv]
  split
  · exact ⟨_, _, _, _, _, _, rfl⟩
  · split
    · exact ⟨_, _, _, _, _, _, rfl⟩
    · exact ⟨_, _, _, _, _, _, rfl⟩
theorem cellsF_sv (x : FV) : cellsOf (x.sv η) = (cellsF x).map (FV.sv η) := by
  cases x
  case p k off => rcases sv_p_is (η := η) k off with ⟨b, h⟩ | h <;> simp [cellsF, h, cellsOf, SV.bad]
  case s k sz off len cap => obtain ⟨_, _, _, _, _, _, h⟩ := sv_s_is (η := η) k sz off len cap; simp [cellsF, h, cellsOf]
  all_goals simp [FV.sv, cellsF, cellsOf, FV.svL_map]
theorem one_sv {x : FV} (h : x.one = true) : (x.sv η).one = true := by
  cases x
  case p k off => rcases sv_p_is (η := η) k off with ⟨b, h⟩ | h <;> simp [h, SV.one, SV.bad]
  case s k sz off len cap => obtain ⟨_, _, _, _, _, _, h⟩ := sv_s_is (η := η) k sz off len cap; simp [h, SV.one]
  case v x => simp only [FV.one] at h; simp only [FV.sv, SV.one]; exact h
  all_goals first | (simp [FV.one] at h; done) | simp [FV.sv, SV.one]
theorem solid_sv {x : FV} (h : x.solid = true) : (x.sv η).solid = true := by
  cases x <;> simp only [FV.solid] at h <;> first | (simp [FV.sv, SV.solid]; done) | skip
  all_goals
    have h1 := one_sv (η := η) h
    revert h1
    generalize FV.sv η _ = y
    intro h1
    cases y <;> simp_all [SV.solid, SV.one]
theorem fev_any {o : O} {y : FV} (h : o.fev ts = y) (hy : y.solid = true) : o.ev (ts.sv η) = y.sv η := fev_ne h (by rintro rfl; simp [FV.solid, FV.one] at hy)
theorem buildF_sound : ∀ (ps : List (Nat × Nat × O)) (cur : List FV) {c : FV}, buildF ts ps cur = some c → buildV (ts.sv η) ps (cur.map (FV.sv η)) (Kc η c)
  | [], cur, c, h => by simp only [buildF, Option.some.injEq] at h; subst h; exact .of (sv_agg _).symm
  | (off, size, x) :: r, cur, c, h => by
    simp only [buildF, cond_eq_ite] at h
    split at h
    · rename_i hc
      simp only [Bool.and_eq_true] at hc
      obtain ⟨⟨h1, h2⟩, h3⟩ := hc
      have h2 := Nat.eq_of_beq_eq_true h2
      have h3 := Nat.le_of_ble_eq_true h3
      simp only [buildV, partV, fev_any (η := η) rfl h1]
      refine ⟨solid_sv h1, by rw [cellsF_sv]; simpa using h2, by simpa using h3, ?_⟩
      rw [cellsF_sv, ← spliceF_map]
      exact buildF_sound r _ h
    · cases h

theorem eqF_sound : ∀ (ks : List Bool) (l m : List FV) {r : Bool}, eqF ks l m = some r → shape (l.map (FV.sv η)) (m.map (FV.sv η)) = true ∧ kindsOk ks (l.map (FV.sv η)) = true ∧ eqL (l.map (FV.sv η)) (m.map (FV.sv η)) = r
  | ks, [], [], r, h => by
    unfold eqF at h
    split at h
    · cases h; simp [shape, kindsOk, eqL]
    · cases h
  | ks, x :: l, [], r, h => by simp [eqF] at h
  | ks, [], y :: m, r, h => by simp [eqF] at h
  | ks, x :: l, y :: m, r, h => by
    unfold eqF at h
    split at h
    · rename_i ks k a k' b
      simp only [Option.ite_none_right_eq_some] at h
      obtain ⟨rfl, h⟩ := h
      split at h
      · rename_i r' e
        cases h
        obtain ⟨h1, h2, h3⟩ := eqF_sound ks l m e
        simp [sv_int, shape, kindsOk, eqL, h1, h2, h3]
      · cases h
    · rename_i ks a b
      split at h
      · rename_i r' e
        cases h
        obtain ⟨h1, h2, h3⟩ := eqF_sound ks l m e
        simp [sv_bool, shape, kindsOk, eqL, h1, h2, h3]
      · cases h
    · cases h

theorem Mem.size_le {k : Nat} {b : Base × Nat} (hg : GoodS M η) (hb : η[k]? = some b) : M.size k ≤ b.2 := by
  unfold Mem.size
  split
  · rename_i B hB; exact (hg.tot k B b hB hb).1
  · exact Nat.zero_le _
theorem slcF_sound (hg : GoodS M η) (hs : Sat η ts) {sz : Nat} {x : O} {lo hi mx : Option O} {c : FV} (h : slcF M sz (x.fev ts) (fevO ts lo) (fevO ts hi) (fevO ts mx) = some c) :
    slcSV sz (x.ev (ts.sv η)) (oev (ts.sv η) lo) (oev (ts.sv η) hi) (oev (ts.sv η) mx) (Kc η c) := by
  unfold slcF at h
  split at h
  · rename_i k sz' off len cap e
    split at h
    · rename_i cp
      rw [cond_eq_ite] at h
      split at h
      · rename_i hcond
        simp only [Bool.or_eq_true] at hcond
        split at h
        · rename_i m em
          split at h
          · rename_i hh eh
            split at h
            · rename_i l el
              cases h
              rcases fev_s hs e with ⟨h0, he⟩ | ⟨h0, b, hb, he⟩
              · cases h0
                rw [he]
                refine ⟨.inr rfl, boundF_sound em (boundF_sound eh (boundF_sound el ?_))⟩
                have hm : m = 0 := by
                  cases mx with
                  | none => simp [fevO, boundF] at em; omega
                  | some o => simp only [fevO, boundF, cond_eq_ite] at em; split at em <;> (try split at em) <;> (try split at em) <;> simp at em; rename_i hle; have := Nat.le_of_ble_eq_true hle; omega
                subst hm
                intro v hv
                simp only [FV.sv]
                obtain ⟨q1, a, q2, q3, q4⟩ := hv
                simp only [Nat.zero_sub] at q1 q2 q3 ⊢
                exact ⟨q1, a, q2, by simp, q4⟩
              · rw [he]
                simp only [capOf]
                have hc0 : cp ≠ 0 := fun h => h0 (by rw [h])
                refine ⟨.inl (Nat.eq_of_beq_eq_true (hcond.resolve_right fun h => hc0 (Nat.eq_of_beq_eq_true h))), boundF_sound em (boundF_sound eh (boundF_sound el ?_))⟩
                intro v hv
                simp only [FV.sv]
                split
                · rename_i hz
                  simp only [Option.some.injEq] at hz
                  rw [hz] at hv
                  obtain ⟨q1, a, q2, q3, q4⟩ := hv
                  exact ⟨q1, a, q2, by simp, q4⟩
                · rw [hb]; exact hv
            · cases h
          · cases h
        · cases h
      · cases h
    · cases mx with
      | none =>
        simp only [fevO] at h
        rw [cond_eq_ite] at h
        split at h
        · rename_i hcond
          simp only [Bool.and_eq_true] at hcond
          obtain ⟨⟨c1, c2⟩, c4⟩ := hcond
          have c1 := Nat.eq_of_beq_eq_true c1
          have c2 := Nat.le_of_ble_eq_true c2
          have c4 := Nat.le_of_ble_eq_true c4
          split at h
          · rename_i hh eh
            split at h
            · rename_i l el
              cases h
              rcases fev_s hs e with ⟨h0, _⟩ | ⟨h0, b, hb, he⟩
              · cases h0
              · rw [he]
                have hsz := Mem.size_le hg hb
                have htot : off + len ≤ b.2 / sz := (Nat.le_div_iff_mul_le c2).2 (by omega)
                have hhl : hh ≤ len := by
                  cases hi with
                  | none => simp [fevO, boundF] at eh; omega
                  | some o => simp only [fevO, boundF, cond_eq_ite] at eh; split at eh <;> (try split at eh) <;> (try split at eh) <;> simp at eh; rename_i hle; have := Nat.le_of_ble_eq_true hle; omega
                have hlh : l ≤ hh := by
                  cases lo with
                  | none => simp [fevO, boundF] at el; omega
                  | some o => simp only [fevO, boundF, cond_eq_ite] at el; split at el <;> (try split at el) <;> (try split at el) <;> simp at el; rename_i hle; have := Nat.le_of_ble_eq_true hle; omega
                have hb1 := boundF_sound (η := η) el (K := fun l' => Kc η (.s k sz (off + l) (hh - l) none) (.s k b.1 sz (off + l') (hh - l') (capOf len sz' off b.2 none - l'))) (by
                  intro v hv
                  simp only [FV.sv, hb]
                  rw [show capOf (hh - l) sz (off + l) b.2 none = capOf len sz' off b.2 none - l by simp only [capOf, c1]; omega]
                  exact hv)
                refine ⟨.inl c1, ?_⟩
                have hb2 := boundF_sound (η := η) eh (K := fun h => bound (oev (ts.sv η) lo) 0 h fun l' => Kc η (.s k sz (off + l) (hh - l) none) (.s k b.1 sz (off + l') (h - l') (capOf len sz' off b.2 none - l'))) hb1
                have hb3 := bound_most hb2 (show len ≤ capOf len sz' off b.2 none by simp only [capOf]; omega)
                exact hb3
            · cases h
          · cases h
        · cases h
      | some mx =>
        simp only [fevO] at h
        rw [cond_eq_ite] at h
        split at h
        · rename_i c1
          have c1 := Nat.eq_of_beq_eq_true c1
          subst c1
          split at h
          · rename_i m em
            split at h
            · rename_i hh eh
              split at h
              · rename_i l el
                cases h
                rcases fev_s hs e with ⟨h0, _⟩ | ⟨h0, b, hb, he⟩
                · cases h0
                · rw [he]
                  have em' : boundF (fevO ts (some mx)) len len = some m := em
                  refine ⟨.inl rfl, bound_some (boundF_sound em' (boundF_sound eh (boundF_sound el ?_))) (show len ≤ capOf len sz' off b.2 none by simp only [capOf]; omega)⟩
                  intro v hv
                  simp only [FV.sv]
                  split
                  · rename_i hz
                    simp only [Option.some.injEq] at hz
                    rw [hz] at hv
                    obtain ⟨q1, a, q2, q3, q4⟩ := hv
                    exact ⟨q1, a, q2, by simp, q4⟩
                  · rw [hb]; exact hv
              · cases h
            · cases h
          · cases h
        · cases h
  · cases h

theorem slcAF_sound (hs : Sat η ts) {sz ln : Nat} {x : O} {lo hi mx : Option O} {c : FV} (h : slcAF sz ln (x.fev ts) (fevO ts lo) (fevO ts hi) (fevO ts mx) = some c) :
    slcAV sz ln (x.ev (ts.sv η)) (oev (ts.sv η) lo) (oev (ts.sv η) hi) (oev (ts.sv η) mx) (Kc η c) := by
  unfold slcAF at h
  split at h
  · rename_i k o e
    rw [cond_eq_ite] at h
    split at h
    · rename_i hcond
      simp only [Bool.and_eq_true] at hcond
      obtain ⟨c1, c2⟩ := hcond
      have c1 := Nat.le_of_ble_eq_true c1
      have c2 := Nat.eq_of_beq_eq_true c2
      have c2 : o % sz = 0 := c2
      have hdm := Nat.div_add_mod o sz
      split at h
      · rename_i m em
        split at h
        · rename_i hh eh
          split at h
          · rename_i l el
            cases h
            obtain ⟨b, hb, he⟩ := fev_p hs e
            rw [he]
            simp only [slcAV, slcV]
            refine boundF_sound em (boundF_sound eh (boundF_sound el ?_))
            intro v hv
            obtain ⟨q1, a, q2, q3, q4⟩ := hv
            simp only [FV.sv]
            split
            · rename_i hz
              simp only [Option.some.injEq] at hz
              rw [hz] at q1 q2
              exact ⟨q1, a, q2, by simp, q4⟩
            · rw [hb]
              refine ⟨q1, a, q2, fun hp => ?_, q4⟩
              rw [q3 hp]
              simp only [adr]
              have hmul : (o / sz + l) * sz = o + l * sz := by rw [Nat.add_mul, Nat.mul_comm (o / sz)]; omega
              split
              · rename_i h0
                rw [hmul, h0]; simp
              · rw [hmul]; simp [Nat.add_assoc]
          · cases h
        · cases h
      · cases h
    · cases h
  · cases h

theorem fevL_sv : ∀ (l : List O) {cs : List Value}, RepL (l.map (O.ev (ts.sv η))) cs → RepL ((fevL ts l).map (FV.sv η)) cs
  | [], [], _ => by simp [fevL, RepL]
  | [], _ :: _, h => by simp [RepL] at h
  | _ :: _, [], h => by simp [RepL] at h
  | o :: l, c :: cs, h => by
    simp only [List.map_cons, RepL, fevL] at h ⊢
    refine ⟨?_, fevL_sv l h.2⟩
    rcases O.fev_ev η ts o with h1 | h1
    · rw [← h1]; exact h.1
    · rw [h1]; simp [FV.sv, Rep]

theorem atN_eq : ∀ {n : Nat} {l : List Nat} {x : Nat}, atN n l = some x → l[n]? = some x
  | 0, y :: l, x, h => by simpa [atN] using h
  | n + 1, y :: l, x, h => by simpa using atN_eq (n := n) (l := l) (by simpa [atN] using h)
  | 0, [], x, h => by simp [atN] at h
  | _ + 1, [], x, h => by simp [atN] at h
theorem eqN_eq : ∀ (a b : List Nat), (a.map UInt8.ofNat == b.map UInt8.ofNat) = eqN a b
  | [], [] => rfl
  | [], _ :: _ => rfl
  | _ :: _, [] => rfl
  | a :: l, b :: m => by
    simp only [List.map_cons, eqN]
    rw [← eqN_eq l m]
    have h1 : (UInt8.ofNat a == UInt8.ofNat b) = Nat.beq (Nat.mod a 256) (Nat.mod b 256) := by
      rw [Bool.eq_iff_iff]
      rw [beq_iff_eq, Nat.beq_eq]
      constructor
      · intro h
        have := congrArg UInt8.toNat h
        simp at this
        exact this
      · intro h
        apply UInt8.toNat_inj.1
        simp
        exact h
    rw [← h1]; rfl
theorem sv_str (l : List Nat) : (FV.str l).sv η = .v (.string (bytesOf l)) := by simp [FV.sv]
theorem fev_str {o : O} {l : List Nat} (h : o.fev ts = .str l) : o.ev (ts.sv η) = .v (.string (bytesOf l)) := by rw [fev_ne h (by simp)]; exact sv_str l
theorem toListBytes (l : List Nat) : (bytesOf l).toList = l.map UInt8.ofNat := by rw [ByteArray.toList_eq, bytesOf_list]

theorem byteF_sv {x : FV} {n : Nat} (h : byteF x = some n) : byteS (x.sv η) = some (UInt8.ofNat n) := by
  unfold byteF at h
  split at h
  · split at h
    · rw [cond_eq_ite] at h
      split at h
      · rename_i hc
        have hc := Nat.le_of_ble_eq_true hc
        cases h
        rw [sv_int]
        simp only [byteS]
        rw [if_pos (by omega)]
      · cases h
    · cases h
  · cases h
theorem bytesFV_sv : ∀ {l : List FV} {bs : List Nat}, bytesFV l = some bs → bytesS (l.map (FV.sv η)) = some (bs.map UInt8.ofNat)
  | [], bs, h => by simp [bytesFV] at h; subst h; rfl
  | x :: l, bs, h => by
    simp only [bytesFV] at h
    split at h
    · rename_i b hb
      split at h
      · rename_i r hr
        simp only [Option.some.injEq] at h; subst h
        simp only [List.map_cons, bytesS, byteF_sv hb, bytesFV_sv hr]
      · cases h
    · cases h
theorem b2sF_sound (hg : GoodS M η) (hs : Sat η ts) {x : O} {c : FV} (h : b2sF M (x.fev ts) = some c) : b2sV (M.heap η) (x.ev (ts.sv η)) (Kc η c) ∧ readsS (x.ev (ts.sv η)) = (match x.fev ts with | .s k _ _ len _ => (match len with | 0 => [] | _ => [k]) | _ => []) ∧ ∀ k ∈ readsS (x.ev (ts.sv η)), k < M.next ∧ 0 < M.size k := by
  unfold b2sF at h
  split at h
  · rename_i k sz off len cap e1
    split at h
    · cases h
      rcases fev_s hs e1 with ⟨h0, he⟩ | ⟨h0, b, hb, he⟩
      all_goals
        rw [he]
        refine ⟨⟨fun _ => .of (sv_str []).symm, fun h => by omega⟩, rfl, fun k hk => by cases hk⟩
    · rename_i n
      split at h
      · cases h
      · rename_i hcap
        rw [cond_eq_ite] at h
        split at h
        · rename_i hsz
          have hsz := Nat.eq_of_beq_eq_true hsz
          subst hsz
          split at h
          · rename_i B hB
            split at h
            · rename_i cs hcs
              split at h
              · rename_i bs hbs
                cases h
                obtain ⟨k1, k2⟩ := takeF_eq hcs
                rcases fev_s hs e1 with ⟨h0, he⟩ | ⟨h0, b, hb, he⟩
                · exact (hcap h0).elim
                · rw [he]
                  obtain ⟨b', hb', hent, h1, _⟩ := hg.get hB
                  rw [hb] at hb'; cases hb'
                  have hl : off + (n + 1) ≤ B.cells.length := by rw [List.length_drop] at k2; omega
                  rw [Blk.ent_some (by omega)] at hent
                  refine ⟨⟨fun h => by omega, fun _ => ⟨rfl, ?_⟩⟩, rfl, fun k' hk' => ?_⟩
                  · rw [hent]
                    refine ⟨rfl, by simp; omega, _, ?_, .of (sv_str bs).symm⟩
                    have hcut : ((B.cells.map (FV.sv η) ++ List.replicate (b.2 - B.cells.length) SV.any).drop off).take (n + 1) = cs.map (FV.sv η) := by
                      rw [k1, List.drop_append_of_le_length (by simp; omega), List.take_append_of_le_length (by simp; omega), List.map_take, List.map_drop]
                    rw [hcut]
                    exact bytesFV_sv hbs
                  · have : k' = k := by simpa [readsS] using hk'
                    subst this
                    refine ⟨hg.below _ B hB, ?_⟩
                    unfold Mem.size
                    rw [hB]; dsimp only; omega
              · cases h
            · cases h
          · cases h
        · cases h
  · cases h

theorem evalQ_sound (hg : GoodS M η) (hs : Sat η ts) {q : Q} {c : FV} (h : evalQ q ts M = some c) : q.val (ts.sv η) (M.heap η) (Kc η c) := by
  cases q
  case mov x =>
    simp only [evalQ, Option.some.injEq] at h; subst h
    rcases O.fev_ev η ts x with h1 | h1
    · exact .of h1
    · intro v _; rw [h1]; simp [FV.sv, Rep]
  case bin => exact binF_sound hs h
  case load => exact loadF_sound hg hs h
  case faddr off x =>
    simp only [evalQ] at h
    split at h
    · rename_i k o e
      cases h
      obtain ⟨b, hb, he⟩ := fev_p hs e
      simp only [Q.val, he]
      exact .of (by simp [FV.sv, hb])
    · cases h
  case nilc x =>
    simp only [evalQ] at h
    split at h
    · rename_i k o e
      cases h
      obtain ⟨b, hb, he⟩ := fev_p hs e
      simp only [Q.val, he]
      exact .of (by simp [FV.sv, hb])
    · rename_i f l e
      cases h
      simp only [Q.val, fev_fn e]
      exact .of (sv_fn _ _).symm
    · cases h
  case iaddr sz x i =>
    simp only [evalQ] at h
    split at h
    · rename_i k sz' off ln cap ki n e1 e2
      split at h
      · cases h
      · rename_i n hne
        rw [cond_eq_ite] at h
        split at h
        · rename_i hc
          cases h
          simp only [Bool.and_eq_true] at hc
          have c1 := Nat.eq_of_beq_eq_true hc.1
          have c2 := Nat.le_of_ble_eq_true hc.2
          simp only [Q.val, fev_int e2]
          rcases fev_s hs e1 with ⟨h0, he⟩ | ⟨h0, b, hb, he⟩
          · exact (hne h0).elim
          · rw [he]
            refine ⟨c1, Int.natCast_nonneg _, by simp; omega, fun v hv => ?_⟩
            have := repE hv
            subst this
            simp [FV.sv, hb, Rep]
        · cases h
      · cases h
    · cases h
  case iaddrA sz ln x i =>
    simp only [evalQ] at h
    split at h
    · rename_i k o ki n e1 e2
      split at h
      · rename_i n
        rw [cond_eq_ite] at h
        split at h
        · rename_i hc
          cases h
          have c2 := Nat.le_of_ble_eq_true hc
          obtain ⟨b, hb, he⟩ := fev_p hs e1
          simp only [Q.val, fev_int e2, he]
          exact ⟨Int.natCast_nonneg _, by simp; omega, .of (by simp [FV.sv, hb])⟩
        · cases h
      · cases h
    · cases h
  case len x =>
    simp only [evalQ] at h
    split at h
    · rename_i k sz off ln cap e
      cases h
      rcases fev_s hs e with ⟨h0, he⟩ | ⟨h0, b, hb, he⟩ <;> simp only [Q.val, he] <;> exact .of (sv_int _ _).symm
    · cases h
  case cap x =>
    simp only [evalQ] at h
    split at h
    · rename_i k sz off ln cap e
      split at h
      · cases h
        rcases fev_s hs e with ⟨h0, he⟩ | ⟨h0, b, hb, he⟩
        · cases h0; simp only [Q.val, he]; exact .of (sv_int _ _).symm
        · simp only [Q.val, he]; exact .of (sv_int _ _).symm
      · cases h
    · cases h
  case conv k x =>
    simp only [evalQ] at h
    split at h
    · rename_i e; cases h; simp only [Q.val, fev_int e]; exact .of (sv_int _ _).symm
    · cases h
  case pick c a b =>
    simp only [evalQ] at h
    split at h
    · rename_i cb e
      simp only [Option.some.injEq] at h
      subst h
      simp only [Q.val, fev_bool e]
      have ha : Kc η (a.fev ts) (a.ev (ts.sv η)) := by
        rcases O.fev_ev η ts a with h1 | h1
        · exact .of h1
        · intro v _; rw [h1]; simp [FV.sv, Rep]
      have hb : Kc η (b.fev ts) (b.ev (ts.sv η)) := by
        rcases O.fev_ev η ts b with h1 | h1
        · exact .of h1
        · intro v _; rw [h1]; simp [FV.sv, Rep]
      have hpick : ∀ (A B : SV), Kc η (a.fev ts) A → Kc η (b.fev ts) B → pickV (.bool cb) A B (Kc η (bif cb then a.fev ts else b.fev ts)) := fun A B hA hB => by
        cases cb <;> cases A <;> cases B <;> simp [pickV] <;> assumption
      exact hpick _ _ ha hb
    · cases h
  case un => exact unF_sound h
  case field off n ag x =>
    simp only [evalQ] at h
    split at h
    · rename_i l e
      simp only [Q.val, fev_agg e, fieldV]
      have := partF_sound (η := η) h []
      simp only [List.append_nil] at this
      exact ⟨by simpa using this.1, .of this.2⟩
    · cases h
  case idx sz ln ag x i =>
    simp only [evalQ] at h
    split at h
    · rename_i l ki n e1 e2
      split at h
      · rename_i n
        rw [cond_eq_ite] at h
        split at h
        · rename_i hc
          have c2 := Nat.le_of_ble_eq_true hc
          have := partF_sound (η := η) h []
          simp only [List.append_nil] at this
          simp only [Q.val, fev_agg e1, fev_int e2, idxV]
          exact ⟨Int.natCast_nonneg _, by simp; omega, by simpa using this.1, .of this.2⟩
        · cases h
      · cases h
    · cases h
  case ext i x =>
    simp only [evalQ] at h
    split at h
    · rename_i l e
      have h1 := atF_eq h
      have h2 := (List.getElem?_eq_some_iff.1 h1).1
      simp only [Q.val, fev_tup e, extV]
      refine ⟨by simpa using h2, .of ?_⟩
      rw [List.getElem?_eq_getElem h2] at h1
      cases h1
      simp [List.getD_eq_getElem?_getD, h2]
    · cases h
  case build zero parts =>
    simp only [evalQ, cond_eq_ite] at h
    split at h
    · rename_i hc
      have h1 := cleanL_of η zero hc
      have h2 := buildF_sound (η := η) parts _ h
      rw [← FV.svL_map, h1] at h2
      exact h2
    · cases h
  case eqa neg ks x y =>
    simp only [evalQ] at h
    split at h
    · rename_i l m e1 e2
      split at h
      · rename_i r e
        cases h
        obtain ⟨h1, h2, h3⟩ := eqF_sound (η := η) ks l m e
        simp only [Q.val, fev_agg e1, fev_agg e2, eqaV]
        refine ⟨h1, h2, .of ?_⟩
        rw [h3]; cases neg <;> simp [FV.sv]
      · cases h
    · cases h
  case eqnil neg x =>
    simp only [evalQ] at h
    split at h
    · rename_i k sz off ln cap e
      split at h
      · cases h
        rcases fev_s hs e with ⟨h0, he⟩ | ⟨h0, b, hb, he⟩ <;> simp only [Q.val, he, eqnilV] <;> exact ⟨fun _ => .of (sv_bool _).symm, fun h => by omega⟩
      · rename_i hn
        have hpos : ¬ sz = 0 := fun h => hn h
        split at h
        · rename_i cp
          rw [cond_eq_ite] at h
          split at h
          · rename_i hc
            cases h
            have hc := Nat.le_of_ble_eq_true hc
            rcases fev_s hs e with ⟨h0, he⟩ | ⟨h0, b, hb, he⟩
            · cases h0; omega
            · simp only [Q.val, he, eqnilV, capOf]
              exact ⟨fun h => by omega, fun _ => ⟨fun h => by omega, fun _ => .of (sv_bool _).symm⟩⟩
          · cases h
        · rw [cond_eq_ite] at h
          split at h
          · rename_i hc
            cases h
            have hc := Nat.le_of_ble_eq_true hc
            rcases fev_s hs e with ⟨h0, he⟩ | ⟨h0, b, hb, he⟩
            · cases h0
            · simp only [Q.val, he, eqnilV, capOf]
              exact ⟨fun h => by omega, fun _ => ⟨fun h => by omega, fun _ => .of (sv_bool _).symm⟩⟩
          · cases h
    · cases h
  case slc => exact slcF_sound hg hs h
  case slcA => exact slcAF_sound hs h
  case mkf f caps =>
    simp only [evalQ, Option.some.injEq] at h; subst h
    intro v hv
    obtain ⟨cs, h1, h2⟩ := hv
    rw [sv_fn]
    exact ⟨cs, h1, fevL_sv caps h2⟩
  case mn x y =>
    simp only [evalQ] at h
    split at h
    · rename_i e1 e2
      simp only [Option.ite_none_right_eq_some, Option.some.injEq] at h
      obtain ⟨h1, rfl⟩ := h
      simp only [Q.val, fev_int e1, fev_int e2, mnV]
      exact ⟨h1, .of (sv_int _ _).symm⟩
    · cases h
  case mx x y =>
    simp only [evalQ] at h
    split at h
    · rename_i e1 e2
      simp only [Option.ite_none_right_eq_some, Option.some.injEq] at h
      obtain ⟨h1, rfl⟩ := h
      simp only [Q.val, fev_int e1, fev_int e2, mxV]
      exact ⟨h1, .of (sv_int _ _).symm⟩
    · cases h
  case sbin op x y =>
    simp only [evalQ] at h
    split at h
    · rename_i a b e1 e2
      simp only [Q.val, fev_str e1, fev_str e2, sbinV]
      unfold sbinF at h
      unfold sbinI
      split at h
      · rw [cond_eq_ite] at h
        split at h
        · rename_i hc
          cases h
          have hc := Nat.le_of_ble_eq_true hc
          simp only [bytesOf_size, bytesOf_append]
          exact ⟨hc, .of (sv_str _).symm⟩
        · cases h
      · cases h
        simp only [toListBytes, eqN_eq]
        exact .of (sv_bool _).symm
      · cases h
        simp only [toListBytes, eqN_eq]
        exact .of (sv_bool _).symm
      · cases h
    · cases h
  case sidx x i =>
    simp only [evalQ] at h
    split at h
    · rename_i l ki n e1 e2
      split at h
      · rename_i n
        split at h
        · rename_i b hb
          cases h
          have hb := atN_eq hb
          simp only [Q.val, fev_str e1, fev_int e2, sidxV]
          refine ⟨Int.natCast_nonneg _, UInt8.ofNat b, ?_, ?_⟩
          · rw [bytesOf_list]; simp [hb]
          · refine .of ?_
            have hm : (UInt8.ofNat b).toNat = Nat.mod b 256 := by simp; rfl
            rw [sv_int, hm]
        · cases h
      · cases h
    · cases h
  case sslc x lo hi =>
    simp only [evalQ] at h
    split at h
    · rename_i s e1
      split at h
      · rename_i hh h1
        split at h
        · rename_i l h2
          cases h
          simp only [Q.val, fev_str e1, sslcV, bytesOf_size]
          refine boundF_sound h1 (boundF_sound h2 (.of ?_))
          rw [sv_str]
          congr 2
          apply ByteArray.ext
          apply Array.ext'
          simp [bytesOf, List.map_drop, List.map_take, Array.toList_extract, List.extract_eq_take_drop, List.drop_take]
        · cases h
      · cases h
    · cases h
  case b2s x => exact (b2sF_sound hg hs h).1
  case slen x =>
    simp only [evalQ] at h
    split at h
    · rename_i l e1
      cases h
      simp only [Q.val, fev_str e1, slenV, bytesOf_size]
      exact .of (sv_int _ _).symm
    · cases h
end
end Go.Proofs.YtebjldkkdapbeaaGreatDoor.Eng
