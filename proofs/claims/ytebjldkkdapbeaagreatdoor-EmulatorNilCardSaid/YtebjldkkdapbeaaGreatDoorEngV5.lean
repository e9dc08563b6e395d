/- The engine, part V5: what is reckoned for the kernel is what happens. -/
import Derived.Test.YtebjldkkdapbeaaGreatDoorEngV4
namespace Go.Proofs.YtebjldkkdapbeaaGreatDoor.Eng
open Go

def OutOk (η : Env) (out : Tr FV) (a : Act) : Prop := ∀ t, Rep ((EnvK.get ⟨[], out⟩ t).sv η) (a.tmps.getD t undef)
def OutIn (K : List Nat) (out : Tr FV) : Prop := ∀ t, t ∉ K → out.get t = none

section
variable {P : Program}

theorem OutOk.ts {η : Env} {out : Tr FV} {a : Act} (h : OutOk η out a) : ∃ ts, EnvK.as ⟨[], out⟩ ts ∧ TmOk (ts.sv η) a := by
  obtain ⟨ts, hts⟩ := EnvK.has_ts out
  refine ⟨ts, hts, fun t => ?_⟩
  rw [FTm.get_sv, ← hts t]
  exact h t

theorem subK_spec {K : List Nat} : ∀ {l : List Nat}, subK K l = true → ∀ n ∈ l, n ∈ K
  | [], _, n, h => by cases h
  | x :: r, h, n, hn => by
    simp only [subK, Bool.and_eq_true] at h
    rcases List.mem_cons.1 hn with rfl | hn
    · exact hasF_mem.1 h.1
    · exact subK_spec h.2 n hn

/-- Behind a region. -/
theorem commit_ok {K sets : List Nat} {out : Tr FV} {E2 : EnvK} {ts2 : FTm} {out' : Tr FV} {η' : Env} {a' : Act} (has : E2.as ts2) (hl : LocIn K sets E2) (ho : E2.out = out) (hin : OutIn K out) (hsub : subK K sets = true) (hc : ∀ t, out'.get t = if t ∈ sets then some (E2.get t) else out.get t) (ht : TmOk (ts2.sv η') a') :
    OutOk η' out' a' ∧ OutIn K out' := by
  refine ⟨fun t => ?_, fun t hk => ?_⟩
  · rw [EnvK.get_nil, hc t]
    have h1 := ht t
    rw [FTm.get_sv, ← has t] at h1
    by_cases hs : t ∈ sets
    · rw [if_pos hs]; exact h1
    · rw [if_neg hs]
      by_cases hk : t ∈ K
      · have h2 := E2.get_loc t fun p hp he => hs (by rw [← he]; exact hl p hp (by rw [he]; exact hk))
        rw [h2, ho] at h1
        exact h1
      · rw [hin t hk]
        simp [FV.sv, Rep]
  · rw [hc t, if_neg fun hs => hk (subK_spec hsub t hs)]
    exact hin t hk

theorem irK_wp (hm : P.follows .mixedOrders = true) {call : CallF} (hcall : CallOk P call) {N n0 : Nat} {G G1 K : List Nat} {M0 : Mem} {η0 : Env} {w0 : World} (hg0 : GoodS M0 η0) (hn0 : n0 = M0.next) :
    ∀ (c : Code) (ir : IRK) (fuel : Nat) (out : Tr FV) (a : Act) (M : Mem) (η : Env) (w : World) (L : List Nat) (e : Ex) (out2 : Tr FV) (M2 : Mem) (L2 : List Nat) (Q : Exit → Act → World → Prop), compC2 P N G c = some (ir.ir G1) → ir.ok K = true → irK call n0 fuel ir out M L = some (e, out2, M2, L2) → Go2 M0 η0 w0 M η w L → OutOk η out a → OutIn K out → a.tmps.size = N →
      (∀ η' a' w', Go2 M0 η0 w0 M2 η' w' L2 → OutOk η' out2 a' → OutIn K out2 → a'.tmps.size = N → a'.defers = a.defers → Q e.to a' w') → c.wp P Q a w := by
  intro c
  induction c with
  | skip =>
    intro ir fuel out a M η w L e out2 M2 L2 Q hc hok h hgo ht hin hN hK
    cases fuel with
    | zero => cases h
    | succ f =>
      cases ir <;> first | (simp [compC2, IRK.ir] at hc; done) | skip
      cases h
      exact wp_skip (hK η a w hgo ht hin hN rfl)
  | label l =>
    intro ir fuel out a M η w L e out2 M2 L2 Q hc hok h hgo ht hin hN hK
    cases fuel with
    | zero => cases h
    | succ f =>
      cases ir <;> first | (simp [compC2, IRK.ir] at hc; done) | skip
      cases h
      exact wp_label (hK η a w hgo ht hin hN rfl)
  | ret =>
    intro ir fuel out a M η w L e out2 M2 L2 Q hc hok h hgo ht hin hN hK
    cases fuel with
    | zero => cases h
    | succ f =>
      cases ir <;> first | (simp [compC2, IRK.ir] at hc; done) | skip
      cases h
      exact wp_ret (hK η a w hgo ht hin hN rfl)
  | exit id =>
    intro ir fuel out a M η w L e out2 M2 L2 Q hc hok h hgo ht hin hN hK
    cases fuel with
    | zero => cases h
    | succ f =>
      cases ir <;> first | (simp [compC2, IRK.ir] at hc; done) | skip
      simp only [compC2, IRK.ir, Option.some.injEq, IR.exit.injEq] at hc
      subst hc
      cases h
      exact wp_exit (hK η a w hgo ht hin hN rfl)
  | region id ops draw =>
    intro ir fuel out a M η w L e out2 M2 L2 Q hc hok h hgo ht hin hN hK
    cases fuel with
    | zero => cases h
    | succ f =>
      obtain ⟨ts, has, htm⟩ := ht.ts
      cases draw with
      | false =>
        simp [compC2] at hc
        obtain ⟨l, hl, hir⟩ := hc
        cases ir <;> first | (simp [IRK.ir] at hir; done) | skip
        rename_i sets l'
        simp only [IRK.ir, IR.ins.injEq] at hir
        obtain ⟨_, rfl⟩ := hir
        simp only [IRK.ok, Bool.and_eq_true] at hok
        obtain ⟨⟨ho1, ho2⟩, ho3⟩ := hok
        have h : (match ilK call n0 l ⟨[], out⟩ M L with
          | some (E, M', L') => commitK sets E out fun out => some (Ex.normal, out, M', L')
          | none => none) = some (e, out2, M2, L2) := h
        split at h
        · rename_i E2 M' L' hil
          obtain ⟨ts2, g1, g2, g3, g4⟩ := ilK_eq call n0 (K := K) (sets := sets) l has M L ho1 (fun p hp => by cases hp) hil
          obtain ⟨out', hc1, hc2⟩ := commitK_eq E2 sets out (fun out => some (Ex.normal, out, M', L')) ho2
          rw [hc1] at h
          cases h
          refine wp_region ?_
          rw [List.range_eq_range']
          have := evalIL_wp hcall (Q := Q) hg0 hn0 ops.toList l 0 ts a M η w L (fun j => by simp) hl g1 hgo htm hN fun η' a' w' hg ht' hN' hd' => by
            obtain ⟨q1, q2⟩ := commit_ok (K := K) g2 g3 g4 hin ho3 hc2 ht'
            exact hK η' a' w' hg q1 q2 hN' hd'
          simpa using this
        · cases h
      | true =>
        simp only [compC2] at hc
        have bad : IR.bad = ir.ir G1 → False := fun hb => by
          cases ir <;> first | (cases hb; done) | skip
          cases h
        split at hc
        · rename_i hsel
          split at hc
          · rename_i hal
            split at hc
            · rename_i p hp
              simp only [Option.some.injEq] at hc
              cases ir <;> first | (simp [IRK.ir] at hc; done) | skip
              rename_i sets p'
              simp only [IRK.ir, IR.plan.injEq] at hc
              obtain ⟨_, rfl⟩ := hc
              simp only [IRK.ok, Bool.and_eq_true] at hok
              obtain ⟨⟨ho1, ho2⟩, ho3⟩ := hok
              have h : (match planK call n0 p ⟨[], out⟩ M [] L with
                | some (E, M', L') => commitK sets E out fun out => some (Ex.normal, out, M', L')
                | none => none) = some (e, out2, M2, L2) := h
              split at h
              · rename_i E2 M' L' hpl
                obtain ⟨ts2, g1, g2, g3, g4⟩ := planK_eq call n0 (K := K) (sets := sets) p has M [] L ho1 (fun p hp => by cases hp) hpl
                obtain ⟨out', hc1, hc2⟩ := commitK_eq E2 sets out (fun out => some (Ex.normal, out, M', L')) ho2
                rw [hc1] at h
                cases h
                refine wp_mono (Q := fun e a w => (∀ c, e ≠ .panic c) ∧ Q e a w) ?_ (fun _ _ _ h => h.2)
                refine wp_region_any hm (wpAny_of_F _ _ [] _ _ ?_)
                have hI : Inv P N ops M0 η0 w0 (Array.replicate ops.size false) ts M η [] L ops.size (Array.replicate ops.size false) [] a w.drew [] :=
                  ⟨hgo.drew, by simpa using hgo.drew.goes.ok, htm, hN, ⟨fun x hx => (by cases hx), fun x hx => by cases hx⟩, fun j => by simp, ⟨by simp, by simp⟩, by simp, fun e he => (by cases he), fun e he => (by cases he), fun e he => (by cases he), fun e he => (by cases he), fun e he => (by cases he), fun e he => (by cases he), fun x hx => (by cases hx), unl_new _ _, ⟨Closed.start _ _, Closed.start _ _⟩⟩
                exact evalPlanL_wp hcall (fun c a w hq => hq.1 c rfl) hsel hal hg0 hn0 _ _ p [] ts M L hp g1 _ _ _ _ _ η [] hI fun η' a' w' hg ht' hN' hd' => by
                  obtain ⟨q1, q2⟩ := commit_ok (K := K) g2 g3 g4 hin ho3 hc2 ht'
                  exact ⟨fun c => by simp [Ex.to], hK η' a' w' hg q1 q2 hN' hd'⟩
              · cases h
            · simp only [Option.some.injEq] at hc; exact (bad hc).elim
          · simp only [Option.some.injEq] at hc; exact (bad hc).elim
        · simp only [Option.some.injEq] at hc; exact (bad hc).elim
  | seq x y ihx ihy =>
    intro ir fuel out a M η w L e out2 M2 L2 Q hc hok h hgo ht hin hN hK
    cases fuel with
    | zero => cases h
    | succ f =>
      simp only [compC2] at hc
      split at hc
      · rename_i p q hp hq
        simp only [Option.some.injEq] at hc
        cases ir <;> first | (simp [IRK.ir] at hc; done) | skip
        rename_i p' q'
        simp only [IRK.ir, IR.seq.injEq] at hc
        obtain ⟨rfl, rfl⟩ := hc
        simp only [IRK.ok, Bool.and_eq_true] at hok
        have h : (match irK call n0 f p' out M L with
          | some (e, out', M', L') => (match e with
            | .normal => irK call n0 f q' out' M' L'
            | e => some (e, out', M', L'))
          | none => none) = some (e, out2, M2, L2) := h
        split at h
        · rename_i e1 out1 M1 L1 h1
          refine wp_seq (ihx p' f out a M η w L e1 out1 M1 L1 _ hp hok.1 h1 hgo ht hin hN ?_)
          intro η' a' w' hg ht' hin' hN' hd'
          split at h
          · exact ihy q' f out1 a' M1 η' w' L1 e out2 M2 L2 Q hq hok.2 h hg ht' hin' hN' fun η2 a2 w2 hg2 ht2 hin2 hN2 hd2 => hK η2 a2 w2 hg2 ht2 hin2 hN2 (hd2.trans hd')
          · rename_i hne
            simp only [Option.some.injEq, Prod.mk.injEq] at h
            obtain ⟨rfl, rfl, rfl, rfl⟩ := h
            cases e1 with
            | normal => exact absurd rfl hne
            | exit id => exact hK η' a' w' hg ht' hin' hN' hd'
            | ret => exact hK η' a' w' hg ht' hin' hN' hd'
        · cases h
      · cases hc
  | cond c x y ihx ihy =>
    intro ir fuel out a M η w L e out2 M2 L2 Q hc hok h hgo ht hin hN hK
    cases fuel with
    | zero => cases h
    | succ f =>
      simp only [compC2] at hc
      split at hc
      · rename_i c' p q hc' hp hq
        simp only [Option.some.injEq] at hc
        cases ir <;> first | (simp [IRK.ir] at hc; done) | skip
        rename_i c'' p' q'
        simp only [IRK.ir, IR.cond.injEq] at hc
        obtain ⟨rfl, rfl, rfl⟩ := hc
        simp only [IRK.ok, Bool.and_eq_true] at hok
        obtain ⟨ts, has, htm⟩ := ht.ts
        have rc := O.frep hc' htm
        have h : (match c'.fk ⟨[], out⟩ with
          | .bool v => bif v then irK call n0 f p' out M L else irK call n0 f q' out M L
          | _ => none) = some (e, out2, M2, L2) := h
        rw [O.fk_eq has] at h
        split at h
        · rename_i v ev
          rw [ev, sv_bool] at rc
          rw [cond_eq_ite] at h
          exact wp_cond_split (repB rc) (fun hv => ihx p' f out a M η w L e out2 M2 L2 Q hp hok.1 (by rw [if_pos hv] at h; exact h) hgo ht hin hN hK) (fun hv => ihy q' f out a M η w L e out2 M2 L2 Q hq hok.2 (by rw [if_neg (by rw [hv]; exact Bool.false_ne_true)] at h; exact h) hgo ht hin hN hK)
        · cases h
      · cases hc
  | block id b ih =>
    intro ir fuel out a M η w L e out2 M2 L2 Q hc hok h hgo ht hin hN hK
    cases fuel with
    | zero => cases h
    | succ f =>
      simp [compC2] at hc
      obtain ⟨p, hp, hir⟩ := hc
      cases ir <;> first | (simp [IRK.ir] at hir; done) | skip
      rename_i id' b'
      simp only [IRK.ir, IR.block.injEq] at hir
      obtain ⟨rfl, rfl⟩ := hir
      simp only [IRK.ok] at hok
      have h : (match irK call n0 f b' out M L with
        | some (e, out', M', L') => (match e with
          | .exit i => bif Nat.beq i id then some (.normal, out', M', L') else some (.exit i, out', M', L')
          | e => some (e, out', M', L'))
        | none => none) = some (e, out2, M2, L2) := h
      split at h
      · rename_i e1 out1 M1 L1 h1
        refine wp_block (ih b' f out a M η w L e1 out1 M1 L1 _ hp hok h1 hgo ht hin hN ?_)
        intro η' a' w' hg ht' hin' hN' hd'
        split at h
        · rename_i i
          rw [cond_eq_ite] at h
          simp only [Ex.to, Exit.inBlock]
          split at h
          · rename_i hi
            have hi := Nat.eq_of_beq_eq_true hi
            simp only [Option.some.injEq, Prod.mk.injEq] at h
            obtain ⟨rfl, rfl, rfl, rfl⟩ := h
            rw [if_pos hi]; exact hK η' a' w' hg ht' hin' hN' hd'
          · rename_i hi
            simp only [Option.some.injEq, Prod.mk.injEq] at h
            obtain ⟨rfl, rfl, rfl, rfl⟩ := h
            rw [if_neg (fun he => hi (by rw [he]; exact Nat.beq_refl _))]; exact hK η' a' w' hg ht' hin' hN' hd'
        · rename_i hne
          simp only [Option.some.injEq, Prod.mk.injEq] at h
          obtain ⟨rfl, rfl, rfl, rfl⟩ := h
          cases e1 with
          | normal => exact hK η' a' w' hg ht' hin' hN' hd'
          | exit i => exact absurd rfl (hne i)
          | ret => exact hK η' a' w' hg ht' hin' hN' hd'
      · cases h
  | loop b ih =>
    intro ir fuel out a M η w L e out2 M2 L2 Q hc hok h hgo ht hin hN hK
    simp [compC2] at hc
    obtain ⟨p, hp, hir⟩ := hc
    cases ir <;> first | (simp [IRK.ir] at hir; done) | skip
    rename_i b'
    simp only [IRK.ir, IR.loop.injEq] at hir
    subst hir
    simp only [IRK.ok] at hok
    refine wp_loop_ghost (fun n a' w' => ∃ out' M' η' L', irK call n0 n (.loop b') out' M' L' = some (e, out2, M2, L2) ∧ Go2 M0 η0 w0 M' η' w' L' ∧ OutOk η' out' a' ∧ OutIn K out' ∧ a'.tmps.size = N ∧ a'.defers = a.defers) fuel ⟨out, M, η, L, h, hgo, ht, hin, hN, rfl⟩ ?_
    rintro n a' w' ⟨out', M', η', L', h', hgo', ht', hin', hN', hd'⟩
    cases n with
    | zero => cases h'
    | succ f =>
      have h' : (match irK call n0 f b' out' M' L' with
        | some (e, out', M', L') => (match e with
          | .normal => irK call n0 f (.loop b') out' M' L'
          | e => some (e, out', M', L'))
        | none => none) = some (e, out2, M2, L2) := h'
      split at h'
      · rename_i e1 out1 M1 L1 h1
        refine ih b' f out' a' M' η' w' L' e1 out1 M1 L1 _ hp hok h1 hgo' ht' hin' hN' ?_
        intro η3 a3 w3 hg3 ht3 hin3 hN3 hd3
        split at h'
        · exact ⟨f, Nat.lt_succ_self f, out1, M1, η3, L1, h', hg3, ht3, hin3, hN3, hd3.trans hd'⟩
        · rename_i hne
          simp only [Option.some.injEq, Prod.mk.injEq] at h'
          obtain ⟨rfl, rfl, rfl, rfl⟩ := h'
          cases e1 with
          | normal => exact absurd rfl hne
          | exit id => exact hK η3 a3 w3 hg3 ht3 hin3 hN3 (hd3.trans hd')
          | ret => exact hK η3 a3 w3 hg3 ht3 hin3 hN3 (hd3.trans hd')
      · cases h'
  | rangeFunc =>
    intro ir fuel out a M η w L e out2 M2 L2 Q hc hok h
    simp [compC2] at hc
    cases ir <;> first | (simp [IRK.ir] at hc; done) | skip
    cases fuel <;> cases h
  | scope =>
    intro ir fuel out a M η w L e out2 M2 L2 Q hc hok h
    simp [compC2] at hc
    cases ir <;> first | (simp [IRK.ir] at hc; done) | skip
    cases fuel <;> cases h
  | goto =>
    intro ir fuel out a M η w L e out2 M2 L2 Q hc hok h
    simp [compC2] at hc
    cases ir <;> first | (simp [IRK.ir] at hc; done) | skip
    cases fuel <;> cases h
  | refuse =>
    intro ir fuel out a M η w L e out2 M2 L2 Q hc hok h
    simp [compC2] at hc
    cases ir <;> first | (simp [IRK.ir] at hc; done) | skip
    cases fuel <;> cases h

/-! ### A call -/

theorem resK_eq (out : Tr FV) {ts : FTm} (h : EnvK.as ⟨[], out⟩ ts) (M : Mem) : ∀ l, resK out M l = evalRes ts M l
  | [] => rfl
  | .t n :: r => by
    show (match resK out M r with | some l => some (EnvK.get ⟨[], out⟩ n :: l) | none => none) = _
    rw [resK_eq out h M r, h n]; rfl
  | .cell n sz ag :: r => by
    show (match EnvK.get ⟨[], out⟩ n with
      | .p k off => (match trGet M.tr k with
        | some B => (match partK off sz ag B.cells with
          | some c => (match resK out M r with
            | some l => some (c :: l)
            | none => none)
          | none => none)
        | none => none)
      | _ => none) = _
    rw [resK_eq out h M r, h n]
    simp only [evalRes, loadF, trGet_eq, partK_eq]
    cases ts.get n <;> try rfl
    rename_i k off
    dsimp only
    cases M.tr.get k <;> rfl

theorem argK_eq {R : Type} : ∀ (l : List FV) (n : Nat) (out : Tr FV) (k : Tr FV → R), n + l.length ≤ 1000 → ∃ out', argK l n out k = k out' ∧ ∀ t, out'.get t = if n ≤ t ∧ t < n + l.length then l[t - n]? else out.get t
  | [], n, out, k, _ => ⟨out, rfl, fun t => by rw [if_neg (by simp only [List.length_nil]; omega)]⟩
  | x :: l, n, out, k, hl => by
    simp only [List.length_cons] at hl
    obtain ⟨out', h1, h2⟩ := argK_eq l (n + 1) (Tr.set 31 out n x) k (by omega)
    refine ⟨out', ?_, fun t => ?_⟩
    · show trSet x 31 out n (fun out => fNat (n + 1) fun n => argK l n out k) = _
      rw [trSet_eq, fNat_eq, h1]
    · rw [h2 t, Tr.get_set _ 31 out n t (by have := pow31; omega)]
      simp only [List.length_cons]
      by_cases ht : t = n
      · subst ht
        rw [if_neg (by omega), if_pos rfl, if_pos (by omega)]
        simp
      · by_cases hr : n + 1 ≤ t ∧ t < n + 1 + l.length
        · rw [if_pos hr, if_pos (by omega), show t - n = (t - (n + 1)) + 1 by omega]
          simp
        · rw [if_neg hr, if_neg ht, if_neg (by omega)]
theorem argsOk_spec {K : List Nat} : ∀ (c n : Nat), argsOk K c n = true → ∀ t, n ≤ t → t < n + c → t ∈ K
  | 0, n, _, t, h1, h2 => by omega
  | c + 1, n, h, t, h1, h2 => by
    simp only [argsOk, Bool.and_eq_true] at h
    by_cases ht : t = n
    · subst ht; exact hasF_mem.1 h.1
    · exact argsOk_spec c (n + 1) h.2 t (by omega) (by omega)

theorem callK_ok (hm : P.follows .mixedOrders = true) {T : Nat → Option FnK} (hT : TblOkK P T) (lf : Nat) : ∀ d, Call2 P (callK T lf d)
  | 0 => fun _ _ _ _ _ _ h => (by cases h)
  | d + 1 => by
    have ih := callK_ok hm hT lf d
    have ihok : CallOk P (callK T lf d) := fun f args M c M' ws h => by
      obtain ⟨h1, h2⟩ := ih f args M c M' ws h
      refine ⟨h1, fun η w argv hg hr => (h2 η w argv hg hr).mono ?_⟩
      rintro e w' ⟨v, η', he, hgo, hrep⟩
      exact ⟨v, η', he, hgo.ext, hgo.gs, hgo.goes, hgo.kept, hgo.st, hrep⟩
    intro f args M c M' ws h
    have h : (match T f with
      | some E => bif Nat.ble args.length E.n && Nat.ble args.length 1000 && argsOk E.K args.length 0 then argK args 0 .nil fun out => (match irK (callK T lf d) M.next lf E.ir out M [] with
          | some (e, out', M', L) => (match e with
            | .exit _ => none
            | _ => (match resK out' M' E.res with
              | some l => sL l fun l => some (resOneF l, M', L)
              | none => none))
          | none => none)
        else none
      | none => none) = some (c, M', ws) := h
    split at h
    · rename_i E hE
      obtain ⟨fn, hf, hname, hc, hn, hok⟩ := hT f E hE
      rw [cond_eq_ite] at h
      split at h
      · rename_i hcond
        simp only [Bool.and_eq_true] at hcond
        obtain ⟨⟨hlen, h1000⟩, hargs⟩ := hcond
        have hlen := Nat.le_of_ble_eq_true hlen
        have h1000 := Nat.le_of_ble_eq_true h1000
        obtain ⟨out0, ha1, ha2⟩ := argK_eq args 0 .nil (fun out => (match irK (callK T lf d) M.next lf E.ir out M [] with
          | some (e, out', M', L) => (match e with
            | .exit _ => none
            | _ => (match resK out' M' E.res with
              | some l => sL l fun l => some (resOneF l, M', L)
              | none => none))
          | none => none)) (by omega)
        rw [ha1] at h
        split at h
        · rename_i e out2 M2 L hir
          unfold compFn2 at hc
          split at hc
          · rename_i cd hb
            dsimp only at hc
            split at hc
            · rename_i ir rs hcir hrs
              simp only [Option.some.injEq, FnK.F, Fn.mk.injEq] at hc
              obtain ⟨hc1, hc2⟩ := hc
              refine ⟨⟨fn, hf, hname, by simp [hb]⟩, fun η w argv hg hr => calls_of_wp hf hb ?_⟩
              rw [hc2] at hrs
              have hal := hr.length
              simp only [List.length_map] at hal
              refine irK_wp hm ihok hg.s rfl (G := _) (G1 := E.G) (K := E.K) cd E.ir lf out0 _ M η w [] e out2 M2 L _ (by rw [hcir, hc1]) hok hir (.refl hg _) ?_ ?_ ?_ ?_
              · intro t
                rw [EnvK.get_nil, ha2 t]
                have htm := argTm_ok hr (n := fn.ntmps) (by rw [List.length_map, hn]; exact hlen)
                have := htm t
                rw [argTm_get] at this
                simp only [Nat.zero_le, true_and, Nat.zero_add, Nat.sub_zero, List.length_map] at this ⊢
                by_cases ht : t < args.length
                · rw [if_pos ht] at this ⊢
                  have hx : args[t]? = some args[t] := List.getElem?_eq_getElem ht
                  rw [hx, Option.getD_some]
                  simpa [List.getD_eq_getElem?_getD, hx] using this
                · rw [if_neg ht]
                  simp [Tr.get, FV.sv, Rep]
              · intro t hk
                rw [ha2 t, if_neg]
                · simp [Tr.get]
                · rintro ⟨_, h2⟩
                  exact hk (argsOk_spec args.length 0 hargs t (Nat.zero_le _) h2)
              · simp; omega
              · intro η' a' w' hgo ht' hin' hN' hd'
                have hdef : a'.defers = [] := hd'
                obtain ⟨ts, has, htm⟩ := ht'.ts
                have fin : ∀ l, resK out2 M2 E.res = some l → (sL l fun l => some (resOneF l, M2, L)) = some (c, M', ws) → a'.defers = [] ∧ ∃ v, (results fn a'.tmps).run P w' = .ok v w' ∧ ∃ v' η'', Ending.returned v = .returned v' ∧ Go2 M η w M' η'' w' ws ∧ Rep (c.sv η'') v' := fun l hl he => by
                  rw [sL_eq] at he
                  simp only [Option.some.injEq, Prod.mk.injEq] at he
                  obtain ⟨rfl, rfl, rfl⟩ := he
                  rw [resK_eq out2 has] at hl
                  have hres := evalRes_sound (K := fun svs => ∀ vs, RepL svs vs → RepL (l.map (FV.sv η')) vs) hgo.gs (sat_of htm) E.res hl fun svs h => h
                  obtain ⟨vs, svs, h1, h2, h3⟩ := resV_sound (P := P) hgo.goes.ok htm _ _ _ hrs hres
                  obtain ⟨v, h4, h5⟩ := results_run h1 (h3 vs h2)
                  rw [resOneF_sv] at h5
                  exact ⟨hdef, v, h4, v, η', rfl, hgo, h5⟩
                cases e with
                | normal =>
                  dsimp only at h
                  split at h
                  · rename_i l hl; exact fin l hl h
                  · cases h
                | ret =>
                  dsimp only at h
                  split at h
                  · rename_i l hl; exact fin l hl h
                  · cases h
                | exit id => cases h
            · cases hc
          · cases hc
        · cases h
      · cases h
    · cases h
end
end Go.Proofs.YtebjldkkdapbeaaGreatDoor.Eng
