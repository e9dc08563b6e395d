/- The engine, part G: what each operation that writes, makes memory or calls does to what is known. -/
import Derived.Test.YtebjldkkdapbeaaGreatDoorEngF
namespace Go.Proofs.YtebjldkkdapbeaaGreatDoor.Eng
open Go

def rowsOf (zero : List SV) : Nat → List (List SV)
  | 0 => []
  | n + 1 => zero :: rowsOf zero n

def partRV (sz i : Nat) (x : SV) (rows : List (List SV)) (K : List (List SV) → Prop) : Prop :=
  (cellsOf x).length = sz ∧ allOne (cellsOf x) = true ∧ i < rows.length ∧ K (rows.set i (cellsOf x))

/-- The rows of a slice that is written out. -/
def partsV (ts : Tm) (sz : Nat) : List (Nat × O) → List (List SV) → (List (List SV) → Prop) → Prop
  | [], rows, K => K rows
  | (i, x) :: r, rows, K => partRV sz i (x.ev ts) rows fun rows' => partsV ts sz r rows' K

def srcO (o : Option Ent) (b : Base) (sz off m : Nat) (K : (Nat → List SV) → Prop) : Prop :=
  match o with
  | some (.arr b' _ sz2 n _ row) => b = b' ∧ sz2 = sz ∧ off + m ≤ n ∧ K fun i => row (off + i)
  | _ => False
/-- The rows that a slice shows: its entity's, from a place on. -/
def srcV (H : Heap) (y : SV) (sz : Nat) (K : Nat → Nat → (Nat → List SV) → Prop) : Prop :=
  match y with
  | .s k b sz' off m _ => (m = 0 → K k 0 fun _ => []) ∧ (0 < m → sz' = sz ∧ srcO H[k]? b sz off m fun row => K k m row)
  | _ => False

def appendO (o : Option Ent) (H : Heap) (k : Nat) (b : Base) (sz bytes len cap : Nat) (y : SV) (K : LK) : Prop :=
  match o with
  | some (.arr b1 ro sz2 n cap2 row) => b = b1 ∧ ro = false ∧ sz2 = sz ∧ n = len ∧ cap2 = cap ∧
      srcV H y sz fun ky m rowy => (m = 0 ∨ ky ≠ k) ∧ (len + m) * bytes ≤ 140737488355328 ∧
        ∀ b' cap', len + m ≤ cap' → K (.s k b' sz 0 (len + m) cap') (H.set k (.arr b' false sz (len + m) cap' fun i => if i < len then row i else rowy (i - len))) [k]
  | _ => False
def appendV (H : Heap) (sz bytes : Nat) (x y : SV) (K : LK) : Prop :=
  match x with
  | .s k b sz' off len cap =>
    (cap = 0 → srcV H y sz fun _ m rowy => m * bytes ≤ 140737488355328 ∧ ∀ b' cap', m ≤ cap' → K (.s H.length b' sz 0 m cap') (H ++ [.arr b' false sz m cap' rowy]) []) ∧
    (0 < cap → sz' = sz ∧ off = 0 ∧ appendO H[k]? H k b sz bytes len cap y K)
  | _ => False

def isSl : SV → Bool
  | .s .. => true
  | _ => false

def copyO (o : Option Ent) (H : Heap) (k : Nat) (b : Base) (sz off len : Nat) (y : SV) (K : LK) : Prop :=
  match o with
  | some (.arr b1 ro sz2 n cap2 row) => b = b1 ∧ ro = false ∧ sz2 = sz ∧ off + len ≤ n ∧
      srcV H y sz fun _ m rowy =>
        K (.int .i64 (Nat.min m len : Nat)) (H.set k (.arr b false sz n cap2 fun i => if off ≤ i ∧ i < off + Nat.min m len then rowy (i - off) else row i)) [k]
  | _ => False
def copyV (H : Heap) (sz : Nat) (x y : SV) (K : LK) : Prop :=
  match x with
  | .s k b sz' off len _ =>
    (len = 0 → isSl y = true ∧ K (.int .i64 0) H []) ∧ (0 < len → sz' = sz ∧ copyO H[k]? H k b sz off len y K)
  | _ => False

def boxV (x : SV) (H : Heap) (K : LK) : Prop := allOne (cellsOf x) = true ∧ ∀ b, K (.p H.length b 0) (H ++ [.lit b (cellsOf x)]) []
def mksliceV (sz bytes : Nat) (zero : List SV) (x y : SV) (H : Heap) (K : LK) : Prop :=
  match x, y with
  | .int _ n, .int _ c => 0 ≤ n ∧ n ≤ c ∧ c ≤ 9223372036854775807 ∧ c * bytes ≤ 140737488355328 ∧ ∀ b, K (.s H.length b sz 0 n.toNat c.toNat) (H ++ [.arr b false sz c.toNat c.toNat fun _ => zero]) []
  | _, _ => False
def callvV (P : Program) (x : SV) (args : List SV) (H : Heap) (K : LK) : Prop :=
  match x with
  | .fn g caps => CallV P g (args ++ caps) H K
  | _ => False

def markO (o : Option Ent) (b : Base) : Prop :=
  match o with
  | some e => e.ro = false ∧ e.base = b ∧ 0 < e.size
  | none => False
/-- A slice's block gets a mark behind its last cell. -/
def markV (H : Heap) (x : SV) (K : LK) : Prop :=
  match x with
  | .s k b sz off len cap => 0 < cap ∧ markO H[k]? b ∧ K (.s k b sz off len cap) H [k]
  | _ => False
def byteRow (s : ByteArray) (i : Nat) : List SV := [.int .u8 ((s.data.toList.getD i 0).toNat : Int)]
def s2bV (H : Heap) (x : SV) (K : LK) : Prop :=
  match x with
  | .v (.string s) => ∀ b cap', s.size ≤ cap' → K (.s H.length b 1 0 s.size cap') (H ++ [.arr b false 1 s.size cap' (byteRow s)]) []
  | _ => False

def L.step (P : Program) (l : L) (ts : Tm) (H : Heap) (K : LK) : Prop :=
  match l with
  | .alloc zero => ∀ b, K (.p H.length b 0) (H ++ [.lit b zero]) []
  | .box x => boxV (x.ev ts) H K
  | .store n x v => storeV H (x.ev ts) n (v.ev ts) fun H' ws => K .any H' ws
  | .bslice sz n zero parts => partsV ts sz parts (rowsOf zero n) fun rows => ∀ b, K (.s H.length b sz 0 n n) (H ++ [.arr b false sz n n fun i => rows.getD i []]) []
  | .mkslice sz bytes zero ln cp => mksliceV sz bytes zero (ln.ev ts) (cp.ev ts) H K
  | .call f args => CallV P f (args.map (O.ev ts)) H K
  | .callv f args => callvV P (f.ev ts) (args.map (O.ev ts)) H K
  | .append sz bytes x y => appendV H sz bytes (x.ev ts) (y.ev ts) K
  | .copy sz x y => copyV H sz (x.ev ts) (y.ev ts) K
  | .mark x => markV H (x.ev ts) K
  | .s2b x => s2bV H (x.ev ts) K
  | .bad => False

def zeroOf (P : Program) (t : TypeId) : Option (List SV) :=
  match (P.info? t).bind (·.zero) with
  | some z => let cs := z.cells.toList.map ofOne; if allOne cs then some cs else none
  | none => none

def compParts : List (Nat × Operand) → Option (List (Nat × O))
  | [] => some []
  | (i, x) :: l => match O.of x, compParts l with | some o, some os => some ((i, o) :: os) | _, _ => none

def compConv (P : Program) (s d : TypeId) (x : Operand) : Option L :=
  match P.underlying s, P.underlying d with
  | some .string, some (.slice e) => match P.underlying e with
    | some (.int .u8) => (O.of x).map .s2b
    | _ => none
  | some (.slice _), some (.slice e) => match P.underlying e with
    | some (.int .u8) => if s == d then (O.of x).map .mark else none
    | _ => none
  | _, _ => none
theorem compConv_is {P : Program} {s d : TypeId} {x : Operand} {l : L} (h : compConv P s d x = some l) : (∃ y, l = .mark y) ∨ ∃ y, l = .s2b y := by
  unfold compConv at h
  split at h
  · split at h
    · simp at h; obtain ⟨y, _, rfl⟩ := h; exact .inr ⟨y, rfl⟩
    · cases h
  · split at h
    · split at h
      · simp at h; obtain ⟨y, _, rfl⟩ := h; exact .inl ⟨y, rfl⟩
      · cases h
    · cases h
  · cases h
def compL (P : Program) (op : Op) : Option L :=
  match op with
  | .convert s d x => compConv P s d x
  | .alloc e => (zeroOf P e).map .alloc
  | .box _ x => (O.of x).map .box
  | .store t x v => do some (.store (← tySz P t) (← O.of x) (← O.of v))
  | .buildSlice t n parts =>
    match P.underlying t with
    | some (.slice e) => do
      let sz ← tySz P e
      let zero ← zeroOf P e
      if zero.length == sz && 0 < sz && n * sz ≤ 2 ^ 24 then some (.bslice sz n zero (← compParts parts.toList)) else none
    | _ => none
  | .makeSlice t l c =>
    match P.underlying t with
    | some (.slice e) => do
      let sz ← tySz P e
      let zero ← zeroOf P e
      let by_ ← (P.info? e).map (·.bytes)
      if zero.length == sz && 0 < sz then some (.mkslice sz by_ zero (← O.of l) (← O.of c)) else none
    | _ => none
  | .call c =>
    match c.callee with
    | .value (.func f) => do some (.call f (← O.ofL c.args.toList))
    | .value g => do some (.callv (← O.of g) (← O.ofL c.args.toList))
    | .builtin b =>
      match b, c.args.toList, c.argTypes.toList with
      | .append, [x, y], [t, t'] =>
        match P.underlying t, P.underlying t' with
        | some (.slice e), some (.slice _) => do
          let sz ← tySz P e
          let zero ← zeroOf P e
          let by_ ← (P.info? e).map (·.bytes)
          if zero.length == sz && 0 < sz && 0 < by_ then some (.append sz by_ (← O.of x) (← O.of y)) else none
        | _, _ => none
      | .copy, [x, y], [t, t'] =>
        match P.underlying t, P.underlying t' with
        | some (.slice e), some (.slice _) => do
          let sz ← tySz P e
          if 0 < sz then some (.copy sz (← O.of x) (← O.of y)) else none
        | _, _ => none
      | _, _, _ => none
    | _ => none
  | _ => none

/-- An operation goes on to what the engine says. -/
def Steps1 (P : Program) (a : Act) (o : Oper) (H : Heap) (w : World) (K : LK) : Prop :=
  ∀ (next : Act → World → Prop) (Q : Exit → Act → World → Prop),
    (∀ v sv H' ws w', K sv H' ws → Rep sv v → Goes H w H' w' → Kept w w' (ownsK H ws) → next (a.put o.dst v) w') → Oper.wp P o a w next Q

theorem Steps1.value {P : Program} {a : Act} {o : Oper} {H : Heap} {w : World} {K : LK} {v : Value} {sv : SV} {H' : Heap} {ws : List Nat} {w' : World}
    (hr : (execOp a.eval o).run P w = .ok (.value v) w') (hk : K sv H' ws) (hs : Rep sv v) (hg : Goes H w H' w') (hw : Kept w w' (ownsK H ws)) : Steps1 P a o H w K := fun next Q h => by
  unfold Oper.wp
  rw [hr]
  exact h v sv H' ws w' hk hs hg hw

theorem Steps1.skip {P : Program} {a : Act} {o : Oper} {H : Heap} {w : World} {K : LK} {H' : Heap} {ws : List Nat} {w' : World}
    (hr : (execOp a.eval o).run P w = .ok .skip w') (hk : K .any H' ws) (hg : Goes H w H' w') (hw : Kept w w' (ownsK H ws)) : Steps1 P a o H w K := fun next Q h => by
  unfold Oper.wp
  rw [hr]
  exact h _ .any H' ws w' hk trivial hg hw

theorem alloc_sound {H : Heap} {w : World} (hok : Ok H w) {cs : List SV} {vs : List Value} (hr : RepL cs vs) (h1 : ∀ u ∈ vs, One u) (t : TypeId) :
    Goes H w (H ++ [.lit (w.heap.size, 0) cs]) (w.alloc (.cells vs.toArray t)) ∧ Kept w (w.alloc (.cells vs.toArray t)) (ownsK H []) := by
  refine ⟨hok.alloc vs.toArray t (.lit (w.heap.size, 0) cs) rfl trivial (by simp [Ent.size, hr.length]) fun i hi => ?_, Kept.alloc _⟩
  simp only [Ent.size] at hi
  obtain ⟨y, hy, hry⟩ := hr.get i _ (List.getElem?_eq_getElem hi)
  refine ⟨y, by simpa using hy, ?_, h1 y (List.mem_of_getElem? hy)⟩
  simp only [Ent.cell, List.getD_eq_getElem?_getD, List.getElem?_eq_getElem hi, Option.getD_some]
  exact hry

theorem zeroOf_sound {P : Program} {t : TypeId} {zero : List SV} (h : zeroOf P t = some zero) : ∃ z : Value, (∃ ti, P.info? t = some ti ∧ ti.zero = some z) ∧ RepL zero z.cells.toList ∧ (∀ u ∈ z.cells.toList, One u) ∧ allOne zero = true ∧ (∀ w, (zeroValue t).run P w = .ok z w) := by
  unfold zeroOf at h
  split at h
  · rename_i z hz
    dsimp only at h
    split at h
    · rename_i ho
      cases h
      cases hi : P.info? t with
      | none => rw [hi] at hz; cases hz
      | some ti =>
        rw [hi] at hz
        simp at hz
        have hrep := ofOne_repL z.cells.toList
        refine ⟨z, ⟨ti, rfl, hz⟩, hrep, fun u hu => ?_, ho, fun w => by simp [zeroValue, typeInfo, hi, hz]⟩
        obtain ⟨i, hi'⟩ := List.mem_iff_getElem?.1 hu
        have hlt : i < (z.cells.toList.map ofOne).length := by have := (List.getElem?_eq_some_iff.1 hi').1; simpa using this
        obtain ⟨y, hy, hr⟩ := hrep.get i _ (List.getElem?_eq_getElem hlt)
        rw [hi'] at hy; cases hy
        exact hr.one (allOne_get ho i _ (List.getElem?_eq_getElem hlt))
    · cases h
  · cases h

theorem Q_adr0 (n : Nat) : adr (n, 0) 0 = ⟨n, 0, none⟩ := rfl

theorem storeV_sound {P : Program} {H : Heap} {w : World} (hok : Ok H w) {t : TypeId} {n : Nat} (hn : tySz P t = some n) {x v : SV} {vx vv : Value} (hx : Rep x vx) (hv : Rep v vv) {K : Heap → List Nat → Prop} (h : storeV H x n v K) :
    ∃ w' H' ws, (Instr.storeAt t vx vv).run P w = .ok () w' ∧ K H' ws ∧ Goes H w H' w' ∧ Kept w w' (ownsK H ws) := by
  have hso : ∀ w', (sizeOf t).run P w' = .ok n w' := fun w' => by
    unfold tySz at hn
    cases hi : P.info? t with
    | none => rw [hi] at hn; simp at hn
    | some ti => rw [hi] at hn; simp at hn; simp [sizeOf, typeInfo, hi, hn]
  unfold storeV at h
  split at h
  · rename_i k b off
    unfold storeO at h
    split at h
    · rename_i e he
      unfold storeE at h
      split at h
      · rename_i b0 off0 b' l heq
        cases heq
        obtain ⟨rfl, hl, ho, hle, hK⟩ := h
        have hvx := repP hx
        subst hvx
        obtain ⟨hr, h1⟩ := cellsOf_rep hv ho
        obtain ⟨w', q1, q2, q3⟩ := storeCells_lit (P := P) b k (adr b off) (cellsOf v) vv.cells.toList 0 off l H w hok he hr h1 (by omega) (fun j => by rw [adr_add]; simp)
        refine ⟨w', _, _, ?_, hK, q2, q3⟩
        have hsz : vv.cells.size = n := by have := hr.length; simpa [hl] using this
        simp [Instr.storeAt, Instr.sureAddr, storeVar, hso, hsz, q1]
      · rename_i heq; cases heq
      · exact h.elim
    · exact h.elim
  · rename_i k b sz i j
    unfold storeO at h
    split at h
    · rename_i e he
      unfold storeE at h
      split at h
      · rename_i heq; cases heq
      · rename_i b0 sz0 i0 j0 b' ro sz' nn cap row heq
        cases heq
        obtain ⟨rfl, rfl, rfl, hi, hl, ho, hle, hK⟩ := h
        have hvx := repE hx
        subst hvx
        obtain ⟨hr, h1⟩ := cellsOf_rep hv ho
        obtain ⟨w', q1, q2, q3⟩ := storeCells_arr (P := P) b k sz nn cap i hi (adr b (i * sz + j)) (cellsOf v) vv.cells.toList 0 j row H w hok he hr h1 (by omega) (fun q => by rw [adr_add]; simp [Nat.add_assoc])
        refine ⟨w', _, _, ?_, hK, q2, q3⟩
        have hsz : vv.cells.size = n := by have := hr.length; simpa [hl] using this
        simp [Instr.storeAt, Instr.sureAddr, storeVar, hso, hsz, q1]
      · exact h.elim
    · exact h.elim
  · exact h.elim

theorem callV_sound {P : Program} {a : Act} {o : Oper} {H : Heap} {w : World} {K : LK} (hok : Ok H w) {f : Nat} {args : List SV} {argv : List Value} (hr : RepL args argv)
    (hx : ∀ w', (execOp a.eval o).run P w' = (callFunc f argv.toArray).run P w') (h : CallV P f args H K) : Steps1 P a o H w K := fun next Q hn => by
  obtain ⟨⟨fn, hf, hname, hbody⟩, hc⟩ := h
  unfold Oper.wp
  rw [hx]
  have : (callFunc f argv.toArray).run P w = .ok (.enter f argv.toArray) w := by
    unfold callFunc
    simp only [Sem.run_bind, run_program, Result.andThen_ok, hf]
    rw [if_neg (by rw [hname]; exact Bool.false_ne_true), if_neg (by rw [hbody]; exact Bool.false_ne_true)]
    rfl
  rw [this]
  refine (hc w argv hok hr).mono ?_
  rintro e w' ⟨v, sv, H', ws, rfl, hK, hrep, hg, hkept⟩
  exact hn v sv H' ws w' hK hrep hg hkept
end Go.Proofs.YtebjldkkdapbeaaGreatDoor.Eng
