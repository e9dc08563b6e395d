/- The engine, part B: the operations that only look, read off the loaded program and carried out on what is known. -/
import Derived.Test.YtebjldkkdapbeaaGreatDoorEngA
namespace Go.Proofs.YtebjldkkdapbeaaGreatDoor.Eng
open Go

inductive O where
  | t (n : Nat)
  | c (s : SV)

abbrev Tm := List (Nat × SV)
def Tm.get : Tm → Nat → SV
  | [], _ => .any
  | (k, x) :: r, t => if k = t then x else Tm.get r t
def O.ev (ts : Tm) : O → SV
  | .t n => ts.get n
  | .c s => s

def ofOne : Value → SV
  | .int k n => .int k n
  | .bool b => .bool b
  | .slice none 0 0 => .s 0 (0, 0) 0 0 0 0
  | x => .v x
def ofVal : Value → SV
  | .agg cs => .agg (cs.toList.map ofOne)
  | .int k n => .int k n
  | .bool b => .bool b
  | .slice none 0 0 => .s 0 (0, 0) 0 0 0 0
  | x => .v x
theorem ofOne_rep (v : Value) : Rep (ofOne v) v := by
  unfold ofOne
  split <;> simp [Rep]
theorem ofOne_repL : ∀ l : List Value, RepL (l.map ofOne) l
  | [] => by simp [RepL]
  | v :: l => by simp only [List.map_cons, RepL]; exact ⟨ofOne_rep v, ofOne_repL l⟩
theorem ofVal_rep (v : Value) : Rep (ofVal v) v := by
  unfold ofVal
  split
  · rename_i cs; exact ⟨cs.toList, by simp, ofOne_repL _⟩
  all_goals simp [Rep]

def O.of : Operand → Option O
  | .tmp n => some (.t n)
  | .const x => some (.c (ofVal x))
  | .func f => some (.c (.fn f []))
  | .global _ => none

def TmOk (ts : Tm) (a : Act) : Prop := ∀ t, Rep (ts.get t) (a.tmps.getD t undef)

theorem O.rep {x : Operand} {o : O} (h : O.of x = some o) {ts : Tm} {a : Act} (ht : TmOk ts a) : Rep (o.ev ts) (a.eval x) := by
  cases x <;> simp [O.of] at h <;> subst h
  · exact ht _
  · exact ofVal_rep _
  · exact ⟨[], rfl, by simp [RepL]⟩

theorem TmOk.put {ts : Tm} {a : Act} (h : TmOk ts a) {d : Nat} (hd : d < a.tmps.size) {sv : SV} {v : Value} (hr : Rep sv v) : TmOk ((d, sv) :: ts) (a.put (some d) v) := by
  intro t
  simp only [Tm.get, Act.put]
  split
  · rename_i e; subst e; simpa [hd] using hr
  · rename_i e; have := h t; simpa [Array.getElem?_setIfInBounds_ne e] using this

def splice : List SV → Nat → List SV → List SV
  | l, 0, [] => l
  | [], _, _ => []
  | _ :: l, 0, c :: cs => c :: splice l 0 cs
  | a :: l, n + 1, cs => a :: splice l n cs

theorem splice_length : ∀ (l : List SV) (n : Nat) (cs : List SV), (splice l n cs).length = l.length
  | [], 0, [] => rfl
  | [], 0, _ :: _ => rfl
  | [], _ + 1, _ => by simp [splice]
  | _ :: l, 0, [] => rfl
  | _ :: l, 0, c :: cs => by simp [splice, splice_length l 0 cs]
  | a :: l, n + 1, cs => by simp [splice, splice_length l n cs]

theorem splice_cons : ∀ (l : List SV) (n : Nat) (c : SV) (cs : List SV), n < l.length → splice l n (c :: cs) = splice (l.set n c) (n + 1) cs
  | [], _, _, _, h => by simp at h
  | a :: l, 0, c, cs, _ => by
    simp only [splice, List.set_cons_zero]
  | a :: l, n + 1, c, cs, h => by
    simp only [splice, List.set_cons_succ, List.cons.injEq, true_and]
    exact splice_cons l n c cs (by simpa using h)
theorem splice_nil : ∀ (l : List SV) (n : Nat), splice l n [] = l
  | [], 0 => rfl
  | [], _ + 1 => by simp [splice]
  | _ :: _, 0 => rfl
  | a :: l, n + 1 => by simp [splice, splice_nil l n]

def cellsOf : SV → List SV
  | .agg l => l
  | x => [x]
def allOne : List SV → Bool
  | [] => true
  | x :: l => x.one && allOne l
theorem allOne_get : ∀ {l : List SV}, allOne l = true → ∀ (i : Nat) (x : SV), l[i]? = some x → x.one = true
  | [], _, i, x, h => by simp at h
  | y :: l, ha, 0, x, h => by simp [allOne] at ha; simp at h; subst h; exact ha.1
  | y :: l, ha, i + 1, x, h => by simp [allOne] at ha; simp at h; exact allOne_get ha.2 i x h

theorem cellsOf_rep {x : SV} {v : Value} (h : Rep x v) (ho : allOne (cellsOf x) = true) : RepL (cellsOf x) v.cells.toList ∧ (∀ u ∈ v.cells.toList, One u) := by
  by_cases hag : ∃ l, x = .agg l
  · obtain ⟨l, rfl⟩ := hag
    obtain ⟨cs, rfl, hl⟩ := h
    refine ⟨by simpa [cellsOf, Value.cells] using hl, fun u hu => ?_⟩
    simp only [Value.cells, List.mem_iff_getElem?] at hu
    obtain ⟨i, hi⟩ := hu
    have hlt : i < l.length := by have := (List.getElem?_eq_some_iff.1 hi).1; have := hl.length; omega
    obtain ⟨y, hy, hr⟩ := hl.get i _ (List.getElem?_eq_getElem hlt)
    simp only [cellsOf] at ho
    rw [hi] at hy; cases hy
    exact hr.one (allOne_get ho i _ (List.getElem?_eq_getElem hlt))
  · have hc : cellsOf x = [x] := by
      cases x <;> first | rfl | (exfalso; exact hag ⟨_, rfl⟩)
    rw [hc] at ho ⊢
    simp [allOne] at ho
    have h1 := h.one ho
    rw [h1.cells]
    exact ⟨by simp [RepL, h], by simpa using h1⟩


theorem splice_get : ∀ (l : List SV) (n : Nat) (cs : List SV) (i : Nat), (splice l n cs)[i]? = if n ≤ i ∧ i < n + cs.length ∧ i < l.length then cs[i - n]? else l[i]?
  | l, 0, [], i => by
    have : splice l 0 [] = l := by cases l <;> rfl
    rw [this, if_neg (by simp)]
  | [], 0, _ :: _, i => by simp [splice]
  | [], _ + 1, _, i => by simp [splice]
  | a :: l, 0, c :: cs, 0 => by simp [splice]
  | a :: l, 0, c :: cs, i + 1 => by
    simp only [splice, List.getElem?_cons_succ, List.length_cons]
    rw [splice_get l 0 cs i]
    by_cases h : 0 ≤ i ∧ i < 0 + cs.length ∧ i < l.length
    · rw [if_pos h, if_pos (by omega)]; simp
    · rw [if_neg h, if_neg (by omega)]
  | a :: l, n + 1, cs, 0 => by simp [splice]
  | a :: l, n + 1, cs, i + 1 => by
    simp only [splice, List.getElem?_cons_succ, List.length_cons]
    rw [splice_get l n cs i]
    by_cases h : n ≤ i ∧ i < n + cs.length ∧ i < l.length
    · rw [if_pos h, if_pos (by omega)]; congr 1; omega
    · rw [if_neg h, if_neg (by omega)]

/-- As many cells as are told. -/
def SV.solid : SV → Bool
  | .agg _ => true
  | x => x.one

def partV (off size : Nat) (x : SV) (cur : List SV) (K : List SV → Prop) : Prop :=
  x.solid = true ∧ (cellsOf x).length = size ∧ off + size ≤ cur.length ∧ K (splice cur off (cellsOf x))
def buildV (ts : Tm) : List (Nat × Nat × O) → List SV → (SV → Prop) → Prop
  | [], cur, K => K (.agg cur)
  | (off, size, x) :: r, cur, K => partV off size (x.ev ts) cur fun cur' => buildV ts r cur' K

def shape : List SV → List SV → Bool
  | [], [] => true
  | .int k _ :: l, .int k' _ :: m => (k == k') && shape l m
  | .bool _ :: l, .bool _ :: m => shape l m
  | _, _ => false
def eqL : List SV → List SV → Bool
  | .int _ a :: l, .int _ b :: m => (a == b) && eqL l m
  | .bool a :: l, .bool b :: m => (a == b) && eqL l m
  | _, _ => true

def kindsOk : List Bool → List SV → Bool
  | [], [] => true
  | true :: ks, .int _ _ :: l => kindsOk ks l
  | false :: ks, .bool _ :: l => kindsOk ks l
  | _, _ => false

inductive Q where
  | eqa (neg : Bool) (ks : List Bool) (x y : O)
  | eqnil (neg : Bool) (x : O)
  | idx (sz ln : Nat) (ag : Bool) (x i : O)
  | build (zero : List SV) (parts : List (Nat × Nat × O))
  | mov (x : O)
  | nilc (x : O)
  | pick (c a b : O)
  | bin (ty : Nat) (op : BinOp) (x y : O)
  | un (op : UnOp) (x : O)
  | conv (k : IntKind) (x : O)
  | field (off n : Nat) (ag : Bool) (x : O)
  | faddr (off : Nat) (x : O)
  | iaddr (sz : Nat) (x i : O)
  | iaddrA (sz len : Nat) (x i : O)
  | slc (sz : Nat) (x : O) (lo hi mx : Option O)
  | slcA (sz len : Nat) (x : O) (lo hi mx : Option O)
  | ext (i : Nat) (x : O)
  | mkf (f : Nat) (caps : List O)
  | len (x : O)
  | cap (x : O)
  | mn (x y : O)
  | mx (x y : O)
  | load (n : Nat) (ag : Bool) (x : O)
  | sbin (op : BinOp) (x y : O)
  | sidx (x i : O)
  | sslc (x : O) (lo hi : Option O)
  | slen (x : O)
  | b2s (x : O)

def cmpI (op : BinOp) (a b : Int) (K : SV → Prop) : Prop :=
  match op with
  | .eql => K (.bool (a == b))
  | .neq => K (.bool (a != b))
  | .lss => K (.bool (decide (a < b)))
  | .leq => K (.bool (decide (a ≤ b)))
  | .gtr => K (.bool (decide (a > b)))
  | .geq => K (.bool (decide (a ≥ b)))
  | _ => False

def binI (op : BinOp) (k : IntKind) (a : Int) (k' : IntKind) (b : Int) (K : SV → Prop) : Prop :=
  match op with
  | .shl => 0 ≤ b ∧ b ≤ k.bits ∧ K (.int k (k.wrap (a * 2 ^ b.toNat)))
  | .shr => 0 ≤ b ∧ b ≤ k.bits ∧ K (.int k (a / 2 ^ b.toNat))
  | .add => k = k' ∧ K (.int k (k.wrap (a + b)))
  | .sub => k = k' ∧ K (.int k (k.wrap (a - b)))
  | .mul => k = k' ∧ K (.int k (k.wrap (a * b)))
  | .quo => k = k' ∧ b ≠ 0 ∧ K (.int k (k.wrap (a.tdiv b)))
  | .rem => k = k' ∧ b ≠ 0 ∧ K (.int k (a.tmod b))
  | .and => k = k' ∧ K (.int k (bits .and k a b))
  | .or => k = k' ∧ K (.int k (bits .or k a b))
  | .xor => k = k' ∧ K (.int k (bits .xor k a b))
  | .andNot => k = k' ∧ K (.int k (bits .andNot k a b))
  | op => k = k' ∧ cmpI op a b K

/-- Is it a pointer, and which: none known, nil, or there. -/
def isNil : SV → Option Bool
  | .v (.pointer none) => some true
  | .p .. | .e .. => some false
  | _ => none

def binV (ty : Nat) (op : BinOp) (x y : SV) (K : SV → Prop) : Prop :=
  match x, y with
  | .int k a, .int k' b => binI op k a k' b K
  | .bool a, .bool b => ty = 1 ∧ (match op with | .eql => K (.bool (a == b)) | .neq => K (.bool (a != b)) | _ => False)
  | x, y => ty = 2 ∧ (match isNil x, isNil y with
    | some a, some b => (a = true ∨ b = true) ∧ (match op with | .eql => K (.bool (a == b)) | .neq => K (.bool (a != b)) | _ => False)
    | _, _ => False)

def unV (op : UnOp) (x : SV) (K : SV → Prop) : Prop :=
  match op, x with
  | .neg, .int k n => K (.int k (k.wrap (0 - n)))
  | .xor, .int k n => K (.int k (bits .xor k (if k.signed then -1 else k.max) n))
  | .not, .bool b => K (.bool (!b))
  | _, _ => False

/-- A bound of a slicing. -/
def bound (o : Option SV) (dflt most : Nat) (K : Nat → Prop) : Prop :=
  match o with
  | none => K dflt
  | some (.int _ i) => 0 ≤ i ∧ i ≤ most ∧ K i.toNat
  | some _ => False

def oev (ts : Tm) (o : Option O) : Option SV := o.map (O.ev ts)

def slcV (k : Nat) (b : Base) (sz off len cap : Nat) (lo hi mx : Option SV) (K : SV → Prop) : Prop :=
  bound mx cap cap fun m => bound hi len m fun h => bound lo 0 h fun l => K (.s k b sz (off + l) (h - l) (m - l))

def loadE (e : Ent) (k : Nat) (x : SV) (n : Nat) (ag : Bool) (K : SV → Prop) : Prop :=
  match x, e with
  | .p _ b off, .lit b' l => b = b' ∧ off + n ≤ l.length ∧ K (if ag then .agg ((l.drop off).take n) else l.getD off .any)
  | .e _ b sz i j, .arr b' _ sz' nn _ row => b = b' ∧ sz = sz' ∧ i < nn ∧ j + n ≤ sz ∧ K (if ag then .agg (((row i).drop j).take n) else (row i).getD j .any)
  | _, _ => k = k ∧ False

def loadO (o : Option Ent) (k : Nat) (x : SV) (n : Nat) (ag : Bool) (K : SV → Prop) : Prop :=
  match o with
  | some e => loadE e k x n ag K
  | none => False
def loadV (H : Heap) (x : SV) (n : Nat) (ag : Bool) (K : SV → Prop) : Prop :=
  match x with
  | .p k b off => loadO H[k]? k (.p k b off) n ag K
  | .e k b sz i j => loadO H[k]? k (.e k b sz i j) n ag K
  | _ => False
def withS (x : SV) (K : SV → Prop) : Prop := K x
def withT (ts : Tm) (K : Tm → Prop) : Prop := K ts
def withH (H : Heap) (K : Heap → Prop) : Prop := K H

def pickV (c a b : SV) (K : SV → Prop) : Prop :=
  match c, a, b with
  | .bool c, .bool x, .bool y => K (.bool (if c = true then x else y))
  | .bool c, a, b => (c = true → K a) ∧ (c = false → K b)
  | _, _, _ => False

def eqaV (neg : Bool) (ks : List Bool) (x y : SV) (K : SV → Prop) : Prop :=
  match x, y with
  | .agg l, .agg m => shape l m = true ∧ kindsOk ks l = true ∧ K (.bool (if neg then !eqL l m else eqL l m))
  | _, _ => False
def eqnilV (neg : Bool) (x : SV) (K : SV → Prop) : Prop :=
  match x with
  | .s _ _ sz _ _ cp => (sz = 0 → K (.bool (!neg))) ∧ (0 < sz → (cp = 0 → ∀ c, K (.bool c)) ∧ (0 < cp → K (.bool neg)))
  | _ => False
def idxV (sz ln : Nat) (ag : Bool) (x i : SV) (K : SV → Prop) : Prop :=
  match x, i with
  | .agg l, .int _ n => 0 ≤ n ∧ n < ln ∧ n.toNat * sz + sz ≤ l.length ∧ K (if ag then .agg ((l.drop (n.toNat * sz)).take sz) else l.getD (n.toNat * sz) .any)
  | _, _ => False
def nilcV (x : SV) (K : SV → Prop) : Prop :=
  match x with
  | .p k b o => K (.p k b o)
  | .e k b sz i j => K (.e k b sz i j)
  | .fn f l => K (.fn f l)
  | _ => False
def convV (k : IntKind) (x : SV) (K : SV → Prop) : Prop :=
  match x with
  | .int _ n => K (.int k (k.wrap n))
  | _ => False
def fieldV (off n : Nat) (ag : Bool) (x : SV) (K : SV → Prop) : Prop :=
  match x with
  | .agg l => off + n ≤ l.length ∧ K (if ag then .agg ((l.drop off).take n) else l.getD off .any)
  | _ => False
def faddrV (off : Nat) (x : SV) (K : SV → Prop) : Prop :=
  match x with
  | .p k b o => K (.p k b (o + off))
  | .e k b sz i j => K (.e k b sz i (j + off))
  | _ => False
def iaddrV (sz : Nat) (x i : SV) (K : SV → Prop) : Prop :=
  match x, i with
  | .s k b sz' off ln _, .int _ n => sz' = sz ∧ 0 ≤ n ∧ n < ln ∧ K (.e k b sz (off + n.toNat) 0)
  | _, _ => False
def iaddrAV (sz ln : Nat) (x i : SV) (K : SV → Prop) : Prop :=
  match x, i with
  | .p k b o, .int _ n => 0 ≤ n ∧ n < ln ∧ K (.p k b (o + n.toNat * sz))
  | .e k b sz' r j, .int _ n => 0 ≤ n ∧ n < ln ∧ K (.e k b sz' r (j + n.toNat * sz))
  | _, _ => False
def slcSV (sz : Nat) (x : SV) (lo hi m3 : Option SV) (K : SV → Prop) : Prop :=
  match x with
  | .s k b sz' off ln cp => (sz' = sz ∨ cp = 0) ∧ slcV k b sz off ln cp lo hi m3 K
  | _ => False
def slcAV (sz ln : Nat) (x : SV) (lo hi m3 : Option SV) (K : SV → Prop) : Prop :=
  match x with
  | .p k b o => slcV k (if o = 0 then b else (b.1, b.2 + o)) sz 0 ln ln lo hi m3 K
  | _ => False
def extV (i : Nat) (x : SV) (K : SV → Prop) : Prop :=
  match x with
  | .tup l => i < l.length ∧ K (l.getD i .any)
  | _ => False
def lenV (x : SV) (K : SV → Prop) : Prop :=
  match x with
  | .s _ _ _ _ ln _ => K (.int .i64 ln)
  | _ => False
def capV (x : SV) (K : SV → Prop) : Prop :=
  match x with
  | .s _ _ _ _ _ cp => K (.int .i64 cp)
  | _ => False
def mnV (x y : SV) (K : SV → Prop) : Prop :=
  match x, y with
  | .int k a, .int k' b => k = k' ∧ K (.int k (if b < a then b else a))
  | _, _ => False
def mxV (x y : SV) (K : SV → Prop) : Prop :=
  match x, y with
  | .int k a, .int k' b => k = k' ∧ K (.int k (if b > a then b else a))
  | _, _ => False

def sbinI (op : BinOp) (a b : ByteArray) (K : SV → Prop) : Prop :=
  match op with
  | .add => a.size + b.size ≤ 4611686018427387904 ∧ K (.v (.string (a ++ b)))
  | .eql => K (.bool (a.toList == b.toList))
  | .neq => K (.bool (!(a.toList == b.toList)))
  | _ => False
def sbinV (op : BinOp) (x y : SV) (K : SV → Prop) : Prop :=
  match x, y with
  | .v (.string a), .v (.string b) => sbinI op a b K
  | _, _ => False
def sidxV (x i : SV) (K : SV → Prop) : Prop :=
  match x, i with
  | .v (.string s), .int _ n => 0 ≤ n ∧ ∃ b : UInt8, s.data.toList[n.toNat]? = some b ∧ K (.int .u8 b.toNat)
  | _, _ => False
def sslcV (x : SV) (lo hi : Option SV) (K : SV → Prop) : Prop :=
  match x with
  | .v (.string s) => bound hi s.size s.size fun h => bound lo 0 h fun l => K (.v (.string (s.extract l h)))
  | _ => False
def slenV (x : SV) (K : SV → Prop) : Prop :=
  match x with
  | .v (.string s) => K (.int .i64 s.size)
  | _ => False

def byteS (x : SV) : Option UInt8 :=
  match x with
  | .int .u8 (.ofNat n) => if n < 256 then some (UInt8.ofNat n) else none
  | _ => none
def bytesS : List SV → Option (List UInt8)
  | [] => some []
  | x :: l => match byteS x, bytesS l with
    | some b, some r => some (b :: r)
    | _, _ => none
def b2sO (o : Option Ent) (b : Base) (off len : Nat) (K : SV → Prop) : Prop :=
  match o with
  | some (.lit b' l) => b = b' ∧ off + len ≤ l.length ∧ ∃ bs, bytesS ((l.drop off).take len) = some bs ∧ K (.v (.string ⟨bs.toArray⟩))
  | _ => False
def b2sV (H : Heap) (x : SV) (K : SV → Prop) : Prop :=
  match x with
  | .s k b sz off len _ => (len = 0 → K (.v (.string ⟨#[]⟩))) ∧ (0 < len → sz = 1 ∧ b2sO H[k]? b off len K)
  | _ => False

def Q.val (q : Q) (ts : Tm) (H : Heap) (K : SV → Prop) : Prop :=
  match q with
  | .eqa neg ks x y => eqaV neg ks (x.ev ts) (y.ev ts) K
  | .eqnil neg x => eqnilV neg (x.ev ts) K
  | .idx sz ln ag x i => idxV sz ln ag (x.ev ts) (i.ev ts) K
  | .build zero parts => buildV ts parts zero K
  | .mov x => K (x.ev ts)
  | .nilc x => nilcV (x.ev ts) K
  | .pick c a b => pickV (c.ev ts) (a.ev ts) (b.ev ts) K
  | .bin ty op x y => binV ty op (x.ev ts) (y.ev ts) K
  | .un op x => unV op (x.ev ts) K
  | .conv k x => convV k (x.ev ts) K
  | .field off n ag x => fieldV off n ag (x.ev ts) K
  | .faddr off x => faddrV off (x.ev ts) K
  | .iaddr sz x i => iaddrV sz (x.ev ts) (i.ev ts) K
  | .iaddrA sz ln x i => iaddrAV sz ln (x.ev ts) (i.ev ts) K
  | .slc sz x lo hi m3 => slcSV sz (x.ev ts) (oev ts lo) (oev ts hi) (oev ts m3) K
  | .slcA sz ln x lo hi m3 => slcAV sz ln (x.ev ts) (oev ts lo) (oev ts hi) (oev ts m3) K
  | .ext i x => extV i (x.ev ts) K
  | .mkf f caps => K (.fn f (caps.map (O.ev ts)))
  | .len x => lenV (x.ev ts) K
  | .cap x => capV (x.ev ts) K
  | .mn x y => mnV (x.ev ts) (y.ev ts) K
  | .mx x y => mxV (x.ev ts) (y.ev ts) K
  | .load n ag x => loadV H (x.ev ts) n ag K
  | .sbin op x y => sbinV op (x.ev ts) (y.ev ts) K
  | .sidx x i => sidxV (x.ev ts) (i.ev ts) K
  | .sslc x lo hi => sslcV (x.ev ts) (oev ts lo) (oev ts hi) K
  | .slen x => slenV (x.ev ts) K
  | .b2s x => b2sV H (x.ev ts) K

def readsV (x : SV) : List Nat :=
  match x with
  | .p k .. | .e k .. => [k]
  | _ => []

def readsS (x : SV) : List Nat :=
  match x with
  | .s k _ _ _ len _ => match len with
    | 0 => []
    | _ => [k]
  | _ => []

/-- The entities that it looks into. -/
def Q.reads (q : Q) (ts : Tm) : List Nat :=
  match q with
  | .load _ _ x => readsV (x.ev ts)
  | .b2s x => readsS (x.ev ts)
  | _ => []

def tyAg (P : Program) (t : TypeId) : Option Bool :=
  match P.underlying t with
  | some (.struct _) | some (.array _ _) => some true
  | some _ => some false
  | none => none
def tySz (P : Program) (t : TypeId) : Option Nat := (P.info? t).map (·.size)
def O.ofO : Option Operand → Option (Option O)
  | none => some none
  | some x => (O.of x).map some
def O.ofL : List Operand → Option (List O)
  | [] => some []
  | x :: l => match O.of x, O.ofL l with | some o, some os => some (o :: os) | _, _ => none

def compPartsS (place : Nat → Option (Nat × Nat)) : List (Nat × Operand) → Option (List (Nat × Nat × O))
  | [] => some []
  | (i, x) :: l => match place i, O.of x, compPartsS place l with | some (off, size), some o, some os => some ((off, size, o) :: os) | _, _, _ => none

/-- The cells of a type of plain fields: is each a whole number (or a bool)? -/
def flatOk (P : Program) : Nat → TypeId → Option (List Bool)
  | 0, _ => none
  | d + 1, t => match P.underlying t with
    | some (.int _) => some [true]
    | some .bool => some [false]
    | some (.struct fs) => if P.stoodInHeld t then none else
        fs.toList.foldlM (fun acc f => if f.name == "_" || f.offset != acc.length then none else match flatOk P d f.type, tySz P f.type, tyAg P f.type with
          | some n, some m, some ag => if n.length == m && (ag || m == 1) then some (acc ++ n) else none
          | _, _, _ => none) []
    | some (.array n e) => match P.underlying e, tySz P e with
      | some (.int _), some 1 => some (List.replicate n true)
      | some .bool, some 1 => some (List.replicate n false)
      | _, _ => none
    | _ => none

def isNilSlice : Operand → Bool
  | .const (.slice none 0 0) => true
  | _ => false

def compEqa (P : Program) (op : BinOp) (t : TypeId) (x y : O) : Option Q :=
  if P.eqGuardType P.depth t then none else
    match flatOk P 64 t, tyAg P t with
    | some ks, some true => match op with
      | .eql => some (.eqa false ks x y)
      | .neq => some (.eqa true ks x y)
      | _ => none
    | _, _ => none
def compEqn (op : BinOp) (x : O) : Option Q :=
  match op with
  | .eql => some (.eqnil false x)
  | .neq => some (.eqnil true x)
  | _ => none
def compBin (P : Program) (op : BinOp) (t : TypeId) (x y : Operand) : Option Q :=
  match O.of x, O.of y with
  | some x', some y' =>
    match P.underlying t with
    | some (.int _) => some (.bin 0 op x' y')
    | some .bool => some (.bin 1 op x' y')
    | some (.pointer _) => some (.bin 2 op x' y')
    | some (.slice _) => if isNilSlice y then compEqn op x' else none
    | some .string => some (.sbin op x' y')
    | _ => compEqa P op t x' y'
  | _, _ => none

def compQ (P : Program) (op : Op) : Option Q :=
  match op with
  | .move x | .assign x => (O.of x).map .mov
  | .nilCheck x => (O.of x).map .nilc
  | .pick c a b => do some (.pick (← O.of c) (← O.of a) (← O.of b))
  | .binOp op t x y _ =>
    compBin P op t x y
  | .unOp op _ x => do some (.un op (← O.of x))
  | .convert s d x =>
    match P.underlying s, P.underlying d with
    | some (.int _), some (.int k) => do some (.conv k (← O.of x))
    | some (.slice e), some .string => match P.underlying e with
      | some (.int .u8) => (O.of x).map .b2s
      | _ => none
    | _, _ => none
  | .field t x f =>
    match P.underlying t with
    | some (.struct fs) => match fs[f]? with
      | some fd => do
        let n ← tySz P fd.type
        let ag ← tyAg P fd.type
        if ag || n == 1 then some (.field fd.offset n ag (← O.of x)) else none
      | none => none
    | _ => none
  | .fieldAddr t x f =>
    match P.underlying t with
    | some (.struct fs) => match fs[f]? with
      | some fd => match tySz P fd.type with
        | some (_ + 1) => do some (.faddr fd.offset (← O.of x))
        | _ => none
      | none => none
    | _ => none
  | .indexAddr t x i =>
    match P.underlying t with
    | some (.slice e) => do some (.iaddr (← tySz P e) (← O.of x) (← O.of i))
    | some (.array len e) => do some (.iaddrA (← tySz P e) len (← O.of x) (← O.of i))
    | _ => none
  | .index t x i =>
    match P.underlying t with
    | some (.array ln e) => do
      let n ← tySz P e
      let ag ← tyAg P e
      if ag || n == 1 then some (.idx n ln ag (← O.of x) (← O.of i)) else none
    | some .string => do some (.sidx (← O.of x) (← O.of i))
    | _ => none
  | .slice t x lo hi mx =>
    if mx.isSome && hi.isNone then none else
    match P.underlying t with
    | some (.slice e) => do
      let sz ← tySz P e
      if 0 < sz then some (.slc sz (← O.of x) (← O.ofO lo) (← O.ofO hi) (← O.ofO mx)) else none
    | some (.array len e) => do
      let sz ← tySz P e
      if 0 < sz then some (.slcA sz len (← O.of x) (← O.ofO lo) (← O.ofO hi) (← O.ofO mx)) else none
    | some .string => if mx.isSome then none else do some (.sslc (← O.of x) (← O.ofO lo) (← O.ofO hi))
    | _ => none
  | .build t parts =>
    match P.underlying t, (P.info? t).bind (·.zero) with
    | some (.struct fs), some z =>
      match fs.toList.mapM (fun f => (P.info? f.type).map fun i => (f.offset, i.size)) with
      | some places => (compPartsS (places[·]?) parts.toList).map (.build (z.cells.toList.map ofOne))
      | none => none
    | some (.array _ e), some z => do
      let sz ← tySz P e
      (compPartsS (fun i => some (i * sz, sz)) parts.toList).map (.build (z.cells.toList.map ofOne))
    | _, _ => none
  | .extract x i => do some (.ext i (← O.of x))
  | .makeFunc fn first caps =>
    match fn, first.toList with
    | .func f, [] => do some (.mkf f (← O.ofL caps.toList))
    | _, _ => none
  | .load t x => do
    let n ← tySz P t
    let ag ← tyAg P t
    if ag || n == 1 then some (.load n ag (← O.of x)) else none
  | .call c =>
    match c.callee with
    | .builtin b =>
      match b, c.args.toList, (c.argTypes[0]?).bind P.underlying with
      | .len, [x], some (.slice _) => (O.of x).map .len
      | .len, [x], some .string => (O.of x).map .slen
      | .cap, [x], some (.slice _) => (O.of x).map .cap
      | .min, [x, y], _ => do some (.mn (← O.of x) (← O.of y))
      | .max, [x, y], _ => do some (.mx (← O.of x) (← O.of y))
      | _, _, _ => none
    | _ => none
  | _ => none

/-- In w' the entities ks hold what they hold in w. -/
def SameAt (H : Heap) (ks : List Nat) (w w' : World) : Prop :=
  ∀ k ∈ ks, ∀ e, H[k]? = some e → ∀ i, i < e.size → w'.cell? (adr e.base i) = w.cell? (adr e.base i)

theorem bits_eq (op : BinOp) (k : IntKind) (x y : Int) (h : op = .and ∨ op = .or ∨ op = .xor ∨ op = .andNot) : Op.intBits op k x y = pure (.int k (bits op k x y)) := by
  rcases h with rfl | rfl | rfl | rfl <;> simp [go_sem]

def Yd (P : Program) (a : Act) (o : Oper) (H : Heap) (ks : List Nat) (w : World) (K : SV → Prop) : Prop :=
  ∃ v sv, Rep sv v ∧ K sv ∧ ∀ w', SameAt H ks w w' → (execOp a.eval o).run P w' = .ok (.value v) w'

end Go.Proofs.YtebjldkkdapbeaaGreatDoor.Eng
