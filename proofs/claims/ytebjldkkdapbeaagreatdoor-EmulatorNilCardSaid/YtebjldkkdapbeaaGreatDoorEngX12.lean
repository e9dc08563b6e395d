/- The engine, part X12: a body, a call, by the reckoning. -/
import Derived.Test.YtebjldkkdapbeaaGreatDoorEngY4
namespace Go.Proofs.YtebjldkkdapbeaaGreatDoor.Eng
open Go

def pruneF (ts : FTm) : List Nat → FTm
  | [] => []
  | t :: r => (t, ts.get t) :: pruneF ts r

abbrev St4 := Ex × FTm × Mem × List Nat

def evalIR (call : CallF) (n0 : Nat) : Nat → IR → FTm → Mem → List Nat → Option St4
  | 0, _, _, _, _ => none
  | f + 1, ir, ts, M, L => match ir with
    | .skip => some (.normal, ts, M, L)
    | .ret => some (.ret, ts, M, L)
    | .exit id => some (.exit id, ts, M, L)
    | .ins keep l => match evalIL call n0 l ts M L with
      | some (ts', M', L') => some (.normal, pruneF ts' keep, M', L')
      | none => none
    | .plan keep p => match evalPlan call n0 p ts M [] L with
      | some (ts', M', L') => some (.normal, pruneF ts' keep, M', L')
      | none => none
    | .seq a b => match evalIR call n0 f a ts M L with
      | some (e, ts', M', L') => match e with
        | .normal => evalIR call n0 f b ts' M' L'
        | e => some (e, ts', M', L')
      | none => none
    | .cond c a b => match c.fev ts with
      | .bool v => bif v then evalIR call n0 f a ts M L else evalIR call n0 f b ts M L
      | _ => none
    | .block id b => match evalIR call n0 f b ts M L with
      | some (e, ts', M', L') => match e with
        | .exit i => bif Nat.beq i id then some (.normal, ts', M', L') else some (.exit i, ts', M', L')
        | e => some (e, ts', M', L')
      | none => none
    | .loop b => match evalIR call n0 f b ts M L with
      | some (e, ts', M', L') => match e with
        | .normal => evalIR call n0 f (.loop b) ts' M' L'
        | e => some (e, ts', M', L')
      | none => none
    | .bad => none

structure FnE where
  F : Fn
  n : Nat

def argF : List FV → Nat → FTm
  | [], _ => []
  | x :: r, n => (n, x) :: argF r (n + 1)
def evalRes (ts : FTm) (M : Mem) : List Res → Option (List FV)
  | [] => some []
  | x :: r => match x with
    | .t n => match evalRes ts M r with
      | some l => some (ts.get n :: l)
      | none => none
    | .cell n sz ag => match loadF M (ts.get n) sz ag with
      | some c => match evalRes ts M r with
        | some l => some (c :: l)
        | none => none
      | none => none
def resOneF (l : List FV) : FV :=
  match l with
  | [x] => x
  | l => .tup l

def evalCall (T : Nat → Option FnE) (lf : Nat) : Nat → CallF
  | 0 => fun _ _ _ => none
  | d + 1 => fun f args M => match T f with
    | some E => bif Nat.ble args.length E.n then match evalIR (evalCall T lf d) M.next lf E.F.ir (argF args 0) M [] with
        | some (e, ts, M', L) => match e with
          | .exit _ => none
          | _ => match evalRes ts M' E.F.res with
            | some l => some (resOneF l, M', L)
            | none => none
        | none => none
      else none
    | none => none

def TblOk (P : Program) (T : Nat → Option FnE) : Prop := ∀ f E, T f = some E → ∃ fn, P.funcs[f]? = some fn ∧ (fn.name == "runtime.NumGoroutine") = false ∧ compFn2 P fn = some E.F ∧ fn.ntmps = E.n

section
variable {P : Program}

theorem pruneF_sv (η : Env) (ts : FTm) : ∀ keep, (pruneF ts keep).sv η = pruneTm (ts.sv η) keep
  | [] => rfl
  | t :: r => by simp [pruneF, pruneTm, FTm.sv, FTm.get_sv, pruneF_sv η ts r]
theorem TmOk.pruneF {η : Env} {ts : FTm} {a : Act} (h : TmOk (ts.sv η) a) (keep : List Nat) : TmOk ((Eng.pruneF ts keep).sv η) a := by
  rw [pruneF_sv]; exact h.prune keep

theorem evalIL_wp {call : CallF} (hcall : CallOk P call) {N n0 : Nat} {ops : Array Oper} {Q : Exit → Act → World → Prop} {M0 : Mem} {η0 : Env} {w0 : World} (hg0 : GoodS M0 η0) (hn0 : n0 = M0.next) {ts2 : FTm} {M2 : Mem} {L2 : List Nat} :
    ∀ (l : List Oper) (is : List Ins) (k : Nat) (ts : FTm) (a : Act) (M : Mem) (η : Env) (w : World) (L : List Nat), (∀ j, l[j]? = ops[k + j]?) → compList P N ops l = some is →
    evalIL call n0 is ts M L = some (ts2, M2, L2) → Go2 M0 η0 w0 M η w L → TmOk (ts.sv η) a → a.tmps.size = N → (∀ η' a' w', Go2 M0 η0 w0 M2 η' w' L2 → TmOk (ts2.sv η') a' → a'.tmps.size = N → a'.defers = a.defers → Q .normal a' w') → wpOps P ops Q (List.range' k l.length) a w
  | [], is, k, ts, a, M, η, w, L, _, hc, h, hgo, ht, hN, hQ => by
    simp [compList] at hc; subst hc
    simp only [evalIL, Option.some.injEq, Prod.mk.injEq] at h
    obtain ⟨rfl, rfl, rfl⟩ := h
    exact hQ η a w hgo ht hN rfl
  | o :: l, is, k, ts, a, M, η, w, L, hl, hc, h, hgo, ht, hN, hQ => by
    simp only [compList] at hc
    split at hc
    · rename_i i is' h1 h2
      cases hc
      have h0 : ops[k]? = some o := by simpa using (hl 0).symm
      simp only [List.length_cons, List.range'_succ, wpOps, h0]
      simp only [evalIL] at h
      split at h
      · rename_i x hx
        have hgo' := evalIns_wp hcall (Q := Q) (next := wpOps P ops Q (List.range' (k + 1) l.length)) (compIns_is h1).1 hx hgo.good ht hN fun η' a' w' hg2 ht' hN' hd' =>
          evalIL_wp hcall hg0 hn0 l is' (k + 1) x.ts _ x.M η' w' _ (fun j => by have := hl (j + 1); simpa [Nat.add_assoc, Nat.add_comm 1 j] using this) h2 h
            (hgo.trans hg0 hg2 (fun k hk => logF_old hk) fun k hk hlt => logF_new hk (by rw [hn0]; exact hlt)) ht' hN' fun η2 a2 w2 hk2 ht2 hN2 hd2 => hQ η2 a2 w2 hk2 ht2 hN2 (hd2.trans hd')
        split
        · rename_i hw; rw [if_pos hw] at hgo'; exact .inl hgo'
        · rename_i hw; rw [if_neg hw] at hgo'; exact hgo'
      · cases h
    · cases hc

theorem Go2.drew {M : Mem} {η : Env} {w : World} {M' : Mem} {η' : Env} {w' : World} {L : List Nat} (h : Go2 M η w M' η' w' L) : Go2 M η w M' η' w'.drew L :=
  ⟨h.ext, h.gs, h.goes.trans (Goes.drew h.goes.ok), h.kept.drew, h.st⟩

theorem evalIR_wp (hm : P.follows .mixedOrders = true) {call : CallF} (hcall : CallOk P call) {N n0 : Nat} {G : List Nat} {M0 : Mem} {η0 : Env} {w0 : World} (hg0 : GoodS M0 η0) (hn0 : n0 = M0.next) :
    ∀ (c : Code) (ir : IR) (fuel : Nat) (ts : FTm) (a : Act) (M : Mem) (η : Env) (w : World) (L : List Nat) (e : Ex) (ts2 : FTm) (M2 : Mem) (L2 : List Nat) (Q : Exit → Act → World → Prop), compC2 P N G c = some ir → evalIR call n0 fuel ir ts M L = some (e, ts2, M2, L2) → Go2 M0 η0 w0 M η w L → TmOk (ts.sv η) a → a.tmps.size = N →
      (∀ η' a' w', Go2 M0 η0 w0 M2 η' w' L2 → TmOk (ts2.sv η') a' → a'.tmps.size = N → a'.defers = a.defers → Q e.to a' w') → c.wp P Q a w := by
  intro c
  induction c with
  | skip =>
    intro ir fuel ts a M η w L e ts2 M2 L2 Q hc h hgo ht hN hK
    simp [compC2] at hc; subst hc
    cases fuel with
    | zero => cases h
    | succ f => simp only [evalIR, Option.some.injEq, Prod.mk.injEq] at h; obtain ⟨rfl, rfl, rfl, rfl⟩ := h; exact wp_skip (hK η a w hgo ht hN rfl)
  | label l =>
    intro ir fuel ts a M η w L e ts2 M2 L2 Q hc h hgo ht hN hK
    simp [compC2] at hc; subst hc
    cases fuel with
    | zero => cases h
    | succ f => simp only [evalIR, Option.some.injEq, Prod.mk.injEq] at h; obtain ⟨rfl, rfl, rfl, rfl⟩ := h; exact wp_label (hK η a w hgo ht hN rfl)
  | ret =>
    intro ir fuel ts a M η w L e ts2 M2 L2 Q hc h hgo ht hN hK
    simp [compC2] at hc; subst hc
    cases fuel with
    | zero => cases h
    | succ f => simp only [evalIR, Option.some.injEq, Prod.mk.injEq] at h; obtain ⟨rfl, rfl, rfl, rfl⟩ := h; exact wp_ret (hK η a w hgo ht hN rfl)
  | exit id =>
    intro ir fuel ts a M η w L e ts2 M2 L2 Q hc h hgo ht hN hK
    simp [compC2] at hc; subst hc
    cases fuel with
    | zero => cases h
    | succ f => simp only [evalIR, Option.some.injEq, Prod.mk.injEq] at h; obtain ⟨rfl, rfl, rfl, rfl⟩ := h; exact wp_exit (hK η a w hgo ht hN rfl)
  | region id ops draw =>
    intro ir fuel ts a M η w L e ts2 M2 L2 Q hc h hgo ht hN hK
    cases fuel with
    | zero => cases h
    | succ f =>
      cases draw with
      | false =>
        simp [compC2] at hc
        obtain ⟨l, hl, rfl⟩ := hc
        simp only [evalIR] at h
        split at h
        · rename_i ts' M' L' hil
          simp only [Option.some.injEq, Prod.mk.injEq] at h
          obtain ⟨rfl, rfl, rfl, rfl⟩ := h
          refine wp_region ?_
          rw [List.range_eq_range']
          have := evalIL_wp hcall (Q := Q) hg0 hn0 ops.toList l 0 ts a M η w L (fun j => by simp) hl hil hgo ht hN fun η' a' w' hg ht' hN' hd' => hK η' a' w' hg (TmOk.pruneF ht' G) hN' hd'
          simpa using this
        · cases h
      | true =>
        simp only [compC2] at hc
        split at hc
        · rename_i hsel
          split at hc
          · rename_i hal
            split at hc
            · rename_i p hp
              cases hc
              simp only [evalIR] at h
              split at h
              · rename_i ts' M' L' hpl
                simp only [Option.some.injEq, Prod.mk.injEq] at h
                obtain ⟨rfl, rfl, rfl, rfl⟩ := h
                refine wp_mono (Q := fun e a w => (∀ c, e ≠ .panic c) ∧ Q e a w) ?_ (fun _ _ _ h => h.2)
                refine wp_region_any hm (wpAny_of_F _ _ [] _ _ ?_)
                have hI : Inv P N ops M0 η0 w0 (Array.replicate ops.size false) ts M η [] L ops.size (Array.replicate ops.size false) [] a w.drew [] :=
                  ⟨hgo.drew, by simpa using hgo.drew.goes.ok, ht, hN, ⟨fun x hx => (by cases hx), fun x hx => by cases hx⟩, fun j => by simp, ⟨by simp, by simp⟩, by simp, fun e he => (by cases he), fun e he => (by cases he), fun e he => (by cases he), fun e he => (by cases he), fun e he => (by cases he), fun e he => (by cases he), fun x hx => (by cases hx), unl_new _ _, ⟨Closed.start _ _, Closed.start _ _⟩⟩
                exact evalPlanL_wp hcall (fun c a w hq => hq.1 c rfl) hsel hal hg0 hn0 _ _ p [] ts M L hp hpl _ _ _ _ _ η [] hI fun η' a' w' hg ht' hN' hd' =>
                  ⟨fun c => by simp [Ex.to], hK η' a' w' hg (TmOk.pruneF ht' G) hN' hd'⟩
              · cases h
            · cases hc; cases h
          · cases hc; cases h
        · cases hc; cases h
  | seq x y ihx ihy =>
    intro ir fuel ts a M η w L e ts2 M2 L2 Q hc h hgo ht hN hK
    cases fuel with
    | zero => cases h
    | succ f =>
      simp only [compC2] at hc
      split at hc
      · rename_i p q hp hq
        cases hc
        simp only [evalIR] at h
        split at h
        · rename_i e1 ts1 M1 L1 h1
          refine wp_seq (ihx p f ts a M η w L e1 ts1 M1 L1 _ hp h1 hgo ht hN ?_)
          intro η' a' w' hg ht' hN' hd'
          split at h
          · exact ihy q f ts1 a' M1 η' w' L1 e ts2 M2 L2 Q hq h hg ht' hN' fun η2 a2 w2 hg2 ht2 hN2 hd2 => hK η2 a2 w2 hg2 ht2 hN2 (hd2.trans hd')
          · rename_i hne
            simp only [Option.some.injEq, Prod.mk.injEq] at h
            obtain ⟨rfl, rfl, rfl, rfl⟩ := h
            cases e1 with
            | normal => exact absurd rfl hne
            | exit id => exact hK η' a' w' hg ht' hN' hd'
            | ret => exact hK η' a' w' hg ht' hN' hd'
        · cases h
      · cases hc
  | cond c x y ihx ihy =>
    intro ir fuel ts a M η w L e ts2 M2 L2 Q hc h hgo ht hN hK
    cases fuel with
    | zero => cases h
    | succ f =>
      simp only [compC2] at hc
      split at hc
      · rename_i c' p q hc' hp hq
        cases hc
        have rc := O.frep hc' ht
        simp only [evalIR] at h
        split at h
        · rename_i v ev
          rw [ev, sv_bool] at rc
          rw [cond_eq_ite] at h
          exact wp_cond_split (repB rc) (fun hv => ihx p f ts a M η w L e ts2 M2 L2 Q hp (by rw [if_pos hv] at h; exact h) hgo ht hN hK) (fun hv => ihy q f ts a M η w L e ts2 M2 L2 Q hq (by rw [if_neg (by rw [hv]; exact Bool.false_ne_true)] at h; exact h) hgo ht hN hK)
        · cases h
      · cases hc
  | block id b ih =>
    intro ir fuel ts a M η w L e ts2 M2 L2 Q hc h hgo ht hN hK
    cases fuel with
    | zero => cases h
    | succ f =>
      simp [compC2] at hc
      obtain ⟨p, hp, rfl⟩ := hc
      simp only [evalIR] at h
      split at h
      · rename_i e1 ts1 M1 L1 h1
        refine wp_block (ih p f ts a M η w L e1 ts1 M1 L1 _ hp h1 hgo ht hN ?_)
        intro η' a' w' hg ht' hN' hd'
        split at h
        · rename_i i
          rw [cond_eq_ite] at h
          simp only [Ex.to, Exit.inBlock]
          split at h
          · rename_i hi
            have hi := Nat.eq_of_beq_eq_true hi
            simp only [Option.some.injEq, Prod.mk.injEq] at h
            obtain ⟨rfl, rfl, rfl, rfl⟩ := h
            rw [if_pos hi]; exact hK η' a' w' hg ht' hN' hd'
          · rename_i hi
            simp only [Option.some.injEq, Prod.mk.injEq] at h
            obtain ⟨rfl, rfl, rfl, rfl⟩ := h
            rw [if_neg (fun he => hi (by rw [he]; exact Nat.beq_refl _))]; exact hK η' a' w' hg ht' hN' hd'
        · rename_i hne
          simp only [Option.some.injEq, Prod.mk.injEq] at h
          obtain ⟨rfl, rfl, rfl, rfl⟩ := h
          cases e1 with
          | normal => exact hK η' a' w' hg ht' hN' hd'
          | exit i => exact absurd rfl (hne i)
          | ret => exact hK η' a' w' hg ht' hN' hd'
      · cases h
  | loop b ih =>
    intro ir fuel ts a M η w L e ts2 M2 L2 Q hc h hgo ht hN hK
    simp [compC2] at hc
    obtain ⟨p, hp, rfl⟩ := hc
    refine wp_loop_ghost (fun n a' w' => ∃ ts' M' η' L', evalIR call n0 n (.loop p) ts' M' L' = some (e, ts2, M2, L2) ∧ Go2 M0 η0 w0 M' η' w' L' ∧ TmOk (FTm.sv η' ts') a' ∧ a'.tmps.size = N ∧ a'.defers = a.defers) fuel ⟨ts, M, η, L, h, hgo, ht, hN, rfl⟩ ?_
    rintro n a' w' ⟨ts', M', η', L', h', hgo', ht', hN', hd'⟩
    cases n with
    | zero => cases h'
    | succ f =>
      simp only [evalIR] at h'
      split at h'
      · rename_i e1 ts1 M1 L1 h1
        refine ih p f ts' a' M' η' w' L' e1 ts1 M1 L1 _ hp h1 hgo' ht' hN' ?_
        intro η3 a3 w3 hg3 ht3 hN3 hd3
        split at h'
        · exact ⟨f, Nat.lt_succ_self f, ts1, M1, η3, L1, h', hg3, ht3, hN3, hd3.trans hd'⟩
        · rename_i hne
          simp only [Option.some.injEq, Prod.mk.injEq] at h'
          obtain ⟨rfl, rfl, rfl, rfl⟩ := h'
          cases e1 with
          | normal => exact absurd rfl hne
          | exit id => exact hK η3 a3 w3 hg3 ht3 hN3 (hd3.trans hd')
          | ret => exact hK η3 a3 w3 hg3 ht3 hN3 (hd3.trans hd')
      · cases h'
  | rangeFunc =>
    intro ir fuel ts a M η w L e ts2 M2 L2 Q hc h
    simp [compC2] at hc; subst hc
    cases fuel <;> cases h
  | scope =>
    intro ir fuel ts a M η w L e ts2 M2 L2 Q hc h
    simp [compC2] at hc; subst hc
    cases fuel <;> cases h
  | goto =>
    intro ir fuel ts a M η w L e ts2 M2 L2 Q hc h
    simp [compC2] at hc; subst hc
    cases fuel <;> cases h
  | refuse =>
    intro ir fuel ts a M η w L e ts2 M2 L2 Q hc h
    simp [compC2] at hc; subst hc
    cases fuel <;> cases h
end
end Go.Proofs.YtebjldkkdapbeaaGreatDoor.Eng
