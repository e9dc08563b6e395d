/- The engine, part M: a function's code, read off the loaded program, and carried out on what is known. -/
import Derived.Test.YtebjldkkdapbeaaGreatDoorEngK
import Derived.Deep.LoopGhost
namespace Go.Proofs.YtebjldkkdapbeaaGreatDoor.Eng
open Go

inductive Ins where
  | q (d : Option Nat) (g : Option (Nat × Bool)) (x : Q)
  | l (d : Option Nat) (g : Option (Nat × Bool)) (x : L)

inductive Plan where
  | done
  | one (j : Nat) (aft : List Nat) (i : Ins) (r : Plan)
  | alt (p q : Plan)
  | late (js : List (Option Nat × L)) (p : Plan)

inductive IR where
  | skip
  | ret
  | exit (id : Nat)
  | ins (keep : List Nat) (l : List Ins)
  | plan (keep : List Nat) (p : Plan)
  | seq (a b : IR)
  | cond (c : O) (a b : IR)
  | block (id : Nat) (b : IR)
  | loop (b : IR)
  | bad

inductive Ex where
  | normal
  | exit (id : Nat)
  | ret

def bind1 (ts : Tm) (d : Option Nat) (x : SV) : Tm :=
  match d with
  | some d => (d, x) :: ts
  | none => ts

def guardK (x : SV) (t : Nat) (want : Bool) (ts : Tm) (run skip : Tm → Prop) : Prop :=
  match x with
  | .bool b => (b = want → run ((t, .bool want) :: ts)) ∧ (b = (!want) → skip ((t, .bool (!want)) :: ts))
  | .v x => match x with
    | .tuple _ => skip ts
    | _ => False
  | _ => False
def guardV (ts : Tm) (g : Option (Nat × Bool)) (run skip : Tm → Prop) : Prop :=
  match g with
  | none => run ts
  | some (t, want) => guardK (ts.get t) t want ts run skip
def condV (x : SV) (A B : Prop) : Prop :=
  match x with
  | .bool v => (v = true → A) ∧ (v = false → B)
  | _ => False

abbrev IK := Tm → Heap → List Nat → List Nat → Prop

def insV (P : Program) (i : Ins) (ts : Tm) (H : Heap) (K : IK) : Prop :=
  match i with
  | .q d g x => guardV ts g (fun ts => x.val ts H fun sv => withS sv fun sv => K (bind1 ts d sv) H (x.reads ts) []) fun ts => K (bind1 ts d (.v undef)) H [] []
  | .l d g x => guardV ts g (fun ts => x.step P ts H fun sv H' ws => withS sv fun sv => withH H' fun H' => K (bind1 ts d sv) H' [] ws) fun ts => K (bind1 ts d (.v undef)) H [] []

def insL (P : Program) : List Ins → Tm → Heap → (Tm → Heap → Prop) → Prop
  | [], ts, H, K => K ts H
  | i :: r, ts, H, K => insV P i ts H fun ts' H' _ _ => insL P r ts' H' K

abbrev Watch := List (Nat × List Nat)

def keepK (H H' : Heap) (ws : List Nat) : List Nat → Prop
  | [] => True
  | k :: r => ws.contains k = false ∧ H'[k]? = H[k]? ∧ keepK H H' ws r
def keepW (H H' : Heap) (ws : List Nat) : Watch → Prop
  | [] => True
  | x :: r => keepK H H' ws x.2 ∧ keepW H H' ws r
def dropW (aft : List Nat) : Watch → Watch
  | [] => []
  | x :: r => if aft.contains x.1 then dropW aft r else x :: dropW aft r
def addW (j : Nat) (rs : List Nat) (W : Watch) : Watch :=
  match rs with
  | [] => W
  | _ :: _ => (j, rs) :: W

def planV (P : Program) : Plan → Tm → Heap → Watch → (Tm → Heap → Prop) → Prop
  | .done, ts, H, _, K => K ts H
  | .one j aft i r, ts, H, W, K => match i with
    | .q .. => insV P i ts H fun ts' H' rs _ => planV P r ts' H' (addW j rs W) K
    | .l .. => insV P i ts H fun ts' H' _ ws => keepW H H' ws (dropW aft W) ∧ planV P r ts' H' (dropW aft W) K
  | .alt p q, ts, H, W, K => planV P p ts H W K ∧ planV P q ts H W K
  | .late _ _, _, _, _, _ => False

def pruneTm (ts : Tm) : List Nat → Tm
  | [] => []
  | t :: r => (t, ts.get t) :: pruneTm ts r

/-- What stays known if less is asked for. -/
def Forget (ts : Tm) (H : Heap) (ts' : Tm) (H' : Heap) : Prop := ∀ (a : Act) (w : World), Ok H w → TmOk ts a → TmOk ts' a ∧ Goes H w H' w

def LoopV (body : Tm → Heap → (Ex → Tm → Heap → Prop) → Prop) (ts : Tm) (H : Heap) (K : Ex → Tm → Heap → Prop) : Prop :=
  ∃ (ι : Type) (I : ι → Prop) (S : ι → Tm × Heap) (μ : ι → Nat), (∃ x, I x ∧ Forget ts H (S x).1 (S x).2) ∧
    ∀ x, I x → body (S x).1 (S x).2 fun e ts' H' => match e with
      | .normal => ∃ x', I x' ∧ μ x' < μ x ∧ Forget ts' H' (S x').1 (S x').2
      | .exit id => K (.exit id) ts' H'
      | .ret => K .ret ts' H'

def exec (P : Program) : IR → Tm → Heap → (Ex → Tm → Heap → Prop) → Prop
  | .skip, ts, H, K => K .normal ts H
  | .ret, ts, H, K => K .ret ts H
  | .exit id, ts, H, K => K (.exit id) ts H
  | .ins keep l, ts, H, K => insL P l ts H fun ts' H' => withT (pruneTm ts' keep) fun ts' => K .normal ts' H'
  | .plan keep p, ts, H, K => planV P p ts H [] fun ts' H' => withT (pruneTm ts' keep) fun ts' => K .normal ts' H'
  | .seq a b, ts, H, K => exec P a ts H fun e ts' H' => match e with
    | .normal => exec P b ts' H' K
    | .exit id => K (.exit id) ts' H'
    | .ret => K .ret ts' H'
  | .cond c a b, ts, H, K => condV (c.ev ts) (exec P a ts H K) (exec P b ts H K)
  | .block id b, ts, H, K => exec P b ts H fun e ts' H' => match e with
    | .normal => K .normal ts' H'
    | .exit i => if i = id then K .normal ts' H' else K (.exit i) ts' H'
    | .ret => K .ret ts' H'
  | .loop b, ts, H, K => LoopV (exec P b) ts H K
  | .bad, _, _, _ => False

/-! ### Reading the code -/

def gOf (ops : Array Oper) (o : Oper) : Option (Option (Nat × Bool)) :=
  match o.guard with
  | none => some none
  | some (j, want) => match (ops[j]?).bind (·.dst) with
    | some t => some (some (t, want))
    | none => none
def dOk (N : Nat) (o : Oper) : Bool :=
  match o.dst with
  | some d => decide (d < N)
  | none => true

def compIns (P : Program) (N : Nat) (ops : Array Oper) (o : Oper) : Option Ins :=
  if dOk N o then
    match gOf ops o with
    | some g => match compQ P o.op with
      | some q => some (.q o.dst g q)
      | none => match compL P o.op with
        | some l => some (.l o.dst g l)
        | none => some (.l o.dst g .bad)
    | none => none
  else none

def compList (P : Program) (N : Nat) (ops : Array Oper) : List Oper → Option (List Ins)
  | [] => some []
  | o :: r => match compIns P N ops o, compList P N ops r with
    | some i, some l => some (i :: l)
    | _, _ => none

/-- Does it look into memory? -/
def isRd (P : Program) (ops : Array Oper) (i : Nat) : Bool :=
  match ops[i]? with
  | some o => match compQ P o.op with
    | some (.load ..) | some (.b2s _) => true
    | _ => false
  | none => false
/-- Those that look into memory, of what an operation waits for. -/
def afts (P : Program) (ops : Array Oper) (j : Nat) : List Nat := (List.range ops.size).filter fun i => isRd P ops i && waits ops .any j i

def Ins.isQ : Ins → Bool
  | .q .. => true
  | .l .. => false

def mkPlan (P : Program) (N : Nat) (ops : Array Oper) : Nat → Array Bool → Option Plan
  | 0, listed => if (Region.ready .any ops listed).isEmpty then some .done else none
  | fuel + 1, listed =>
    let rs := Region.ready .any ops listed
    let isQ (i : Nat) : Bool := match ops[i]? with | some o => (compQ P o.op).isSome && Region.free .any ops listed i | none => false
    let step (i : Nat) : Option Plan := match ops[i]? with
      | some o => match compIns P N ops o, mkPlan P N ops fuel (listed.setIfInBounds i true) with
        | some ins, some r => some (.one i [] ins r)
        | _, _ => none
      | none => none
    let stepL (i : Nat) : Option Plan := match ops[i]? with
      | some o => match compIns P N ops o, mkPlan P N ops fuel (listed.setIfInBounds i true) with
        | some ins, some r => if ins.isQ then none else some (.one i (afts P ops i) ins r)
        | _, _ => none
      | none => none
    match rs.find? isQ with
    | some i => step i
    | none => match rs with
      | [] => some .done
      | [i] => stepL i
      | [i, j] => match stepL i, stepL j with
        | some p, some q => some (.alt p q)
        | _, _ => none
      | _ => none


/-! ### A guard, an operation -/

theorem guardV_sound {ops : Array Oper} {o : Oper} {g : Option (Nat × Bool)} {ts : Tm} {a : Act} {run skip : Tm → Prop}
    (hg : gOf ops o = some g) (ht : TmOk ts a) (h : guardV ts g run skip) :
    ∃ ts1, TmOk ts1 a ∧ ((Region.wanted o (yielded ops a.tmps) = true ∧ run ts1) ∨ (Region.wanted o (yielded ops a.tmps) = false ∧ skip ts1)) := by
  unfold Region.wanted
  unfold gOf at hg
  split at hg
  · rename_i ho
    cases hg
    rw [ho]
    exact ⟨ts, ht, .inl ⟨rfl, h⟩⟩
  · rename_i j want ho
    rw [ho]
    dsimp only
    split at hg
    · rename_i t hd
      cases hg
      have hy : yielded ops a.tmps j = match a.tmps[t]? with | some (.bool b) => some b | _ => none := by
        unfold yielded; rw [hd]; rfl
      have htt := ht t
      simp only [guardV] at h
      unfold guardK at h
      split at h
      · rename_i b e
        rw [e] at htt
        have hv : a.tmps[t]? = some (.bool b) := by
          have h1 := repB htt
          cases hq : a.tmps[t]? with
          | none => simp [hq, undef] at h1
          | some v => simp [hq] at h1; rw [h1]
        have hadd : ∀ c : Bool, b = c → TmOk ((t, .bool c) :: ts) a := fun c hc t' => by
          simp only [Tm.get]
          split
          · rename_i e'; subst e'; subst hc; exact htt
          · exact ht t'
        rw [hy, hv]
        by_cases hbw : b = want
        · exact ⟨_, hadd want hbw, .inl ⟨by simp [hbw], h.1 hbw⟩⟩
        · have hbn : b = !want := by cases b <;> cases want <;> simp_all
          exact ⟨_, hadd (!want) hbn, .inr ⟨by simp; exact hbw, h.2 hbn⟩⟩
      · rename_i x e
        rw [e] at htt
        split at h
        · have h1 : a.tmps.getD t undef = _ := htt
          refine ⟨ts, ht, .inr ⟨?_, h⟩⟩
          rw [hy]
          cases hq : a.tmps[t]? with
          | none => rfl
          | some v => simp [hq] at h1; rw [h1]; rfl
        · exact h.elim
      · exact h.elim
    · cases hg

theorem TmOk.bind1 {ts : Tm} {a : Act} {N : Nat} (h : TmOk ts a) (hN : a.tmps.size = N) {o : Oper} {d : Option Nat} (ho : o.dst = d) (hd : dOk N o = true) {sv : SV} {v : Value} (hr : Rep sv v) :
    TmOk (bind1 ts d sv) (a.put d v) ∧ (a.put d v).tmps.size = N ∧ (a.put d v).defers = a.defers := by
  unfold dOk at hd
  rw [ho] at hd
  cases d with
  | none => exact ⟨h, hN, rfl⟩
  | some d =>
    have hd' : d < N := of_decide_eq_true hd
    exact ⟨h.put (by rw [hN]; exact hd') hr, by simp [Act.put, hN], rfl⟩

/-- What an operation's reading comes to. -/
inductive InsIs (P : Program) (N : Nat) (ops : Array Oper) (o : Oper) : Ins → Prop
  | q (g : Option (Nat × Bool)) (x : Q) (hc : compQ P o.op = some x) (hd : dOk N o = true) (hg : gOf ops o = some g) : InsIs P N ops o (.q o.dst g x)
  | bad (g : Option (Nat × Bool)) (hd : dOk N o = true) (hg : gOf ops o = some g) : InsIs P N ops o (.l o.dst g .bad)
  | l (g : Option (Nat × Bool)) (x : L) (hc : compL P o.op = some x) (hd : dOk N o = true) (hg : gOf ops o = some g) : InsIs P N ops o (.l o.dst g x)

theorem compIns_is {P : Program} {N : Nat} {ops : Array Oper} {o : Oper} {i : Ins} (h : compIns P N ops o = some i) : InsIs P N ops o i ∧ (i.isQ = true ↔ (compQ P o.op).isSome = true) := by
  unfold compIns at h
  split at h
  · rename_i hd
    split at h
    · rename_i g hg
      split at h
      · rename_i q hq
        cases h
        exact ⟨.q g q hq hd hg, by simp [Ins.isQ, hq]⟩
      · rename_i hq
        split at h
        · rename_i l hl
          cases h
          exact ⟨.l g l hl hd hg, by simp [Ins.isQ, hq]⟩
        · cases h
          exact ⟨.bad g hd hg, by simp [Ins.isQ, hq]⟩
    · cases h
  · cases h

/-- What goes on behind an operation. -/
def Next1 (N : Nat) (a : Act) (H : Heap) (w : World) (K : IK) (next : Act → World → Prop) : Prop :=
  ∀ ts' H' rs ws a' w', K ts' H' rs ws → Goes H w H' w' → Kept w w' (ownsK H ws) → TmOk ts' a' → a'.tmps.size = N → a'.defers = a.defers → next a' w'

theorem insV_wp {P : Program} {N : Nat} {ops : Array Oper} {o : Oper} {i : Ins} (hi : InsIs P N ops o i) {ts : Tm} {a : Act} {H : Heap} {w : World} {K : IK} {Q : Exit → Act → World → Prop} {next : Act → World → Prop}
    (h : insV P i ts H K) (hok : Ok H w) (ht : TmOk ts a) (hN : a.tmps.size = N) (hn : Next1 N a H w K next) :
    if Region.wanted o (yielded ops a.tmps) then o.wp P a w next Q else next (a.put o.dst undef) w := by
  have hund : Rep (.v undef) undef := rfl
  cases hi with
  | q g x hc hd hg =>
    simp only [insV] at h
    obtain ⟨ts1, ht1, ⟨hw, hr⟩ | ⟨hw, hr⟩⟩ := guardV_sound hg ht h
    · rw [if_pos hw]
      obtain ⟨v, sv, h1, h2, h3⟩ := compQ_sound hc hok ht1 hr
      unfold Oper.wp
      rw [h3 w (fun _ _ _ _ _ _ => rfl)]
      obtain ⟨q1, q2, q3⟩ := ht1.bind1 hN rfl hd h1
      exact hn _ _ _ _ _ _ h2 (Goes.refl hok) (Kept.refl _ _) q1 q2 q3
    · rw [if_neg (by rw [hw]; exact Bool.false_ne_true)]
      obtain ⟨q1, q2, q3⟩ := ht1.bind1 hN rfl hd hund
      exact hn _ _ _ _ _ _ hr (Goes.refl hok) (Kept.refl _ _) q1 q2 q3
  | bad g hd hg =>
    simp only [insV] at h
    obtain ⟨ts1, ht1, ⟨hw, hr⟩ | ⟨hw, hr⟩⟩ := guardV_sound hg ht h
    · exact hr.elim
    · rw [if_neg (by rw [hw]; exact Bool.false_ne_true)]
      obtain ⟨q1, q2, q3⟩ := ht1.bind1 hN rfl hd hund
      exact hn _ _ _ _ _ _ hr (Goes.refl hok) (Kept.refl _ _) q1 q2 q3
  | l g x hc hd hg =>
    simp only [insV] at h
    obtain ⟨ts1, ht1, ⟨hw, hr⟩ | ⟨hw, hr⟩⟩ := guardV_sound hg ht h
    · rw [if_pos hw]
      refine compL_sound hc hok ht1 hr next Q fun v sv H' ws w' hk hs hgo hkept => ?_
      obtain ⟨q1, q2, q3⟩ := ht1.bind1 hN rfl hd hs
      exact hn _ _ _ _ _ _ hk hgo hkept q1 q2 q3
    · rw [if_neg (by rw [hw]; exact Bool.false_ne_true)]
      obtain ⟨q1, q2, q3⟩ := ht1.bind1 hN rfl hd hund
      exact hn _ _ _ _ _ _ hr (Goes.refl hok) (Kept.refl _ _) q1 q2 q3

theorem insL_wp {P : Program} {N : Nat} {ops : Array Oper} {Q : Exit → Act → World → Prop} : ∀ (l : List Oper) (is : List Ins) (k : Nat) (ts : Tm) (a : Act) (H : Heap) (w : World) (K : Tm → Heap → Prop), (∀ j, l[j]? = ops[k + j]?) → compList P N ops l = some is →
    insL P is ts H K → Ok H w → TmOk ts a → a.tmps.size = N → (∀ ts' H' a' w', K ts' H' → Goes H w H' w' → TmOk ts' a' → a'.tmps.size = N → a'.defers = a.defers → Q .normal a' w') → wpOps P ops Q (List.range' k l.length) a w
  | [], is, k, ts, a, H, w, K, _, hc, h, hok, ht, hN, hQ => by
    simp [compList] at hc; subst hc
    exact hQ ts H a w h (Goes.refl hok) ht hN rfl
  | o :: l, is, k, ts, a, H, w, K, hl, hc, h, hok, ht, hN, hQ => by
    simp only [compList] at hc
    split at hc
    · rename_i i is' h1 h2
      cases hc
      have h0 : ops[k]? = some o := by simpa using (hl 0).symm
      simp only [List.length_cons, List.range'_succ, wpOps, h0]
      have hgo := insV_wp (Q := Q) (next := wpOps P ops Q (List.range' (k + 1) l.length)) (compIns_is h1).1 h hok ht hN fun ts' H' rs ws a' w' hk hg _ ht' hN' hd' =>
        insL_wp l is' (k + 1) ts' a' H' w' K (fun j => by have := hl (j + 1); simpa [Nat.add_assoc, Nat.add_comm 1 j] using this) h2 hk hg.ok ht' hN' fun ts2 H2 a2 w2 hk2 hg2 ht2 hN2 hd2 =>
          hQ ts2 H2 a2 w2 hk2 (hg.trans hg2) ht2 hN2 (hd2.trans hd')
      split
      · rename_i hw; rw [if_pos hw] at hgo; exact .inl hgo
      · rename_i hw; rw [if_neg hw] at hgo; exact hgo
    · cases hc
end Go.Proofs.YtebjldkkdapbeaaGreatDoor.Eng
