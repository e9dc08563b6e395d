/- The engine, part N: a whole body; a call. -/
import Derived.Test.YtebjldkkdapbeaaGreatDoorEngM2
namespace Go.Proofs.YtebjldkkdapbeaaGreatDoor.Eng
open Go

def compC (P : Program) (N : Nat) (G : List Nat) : Code → Option IR
  | .skip => some .skip
  | .label _ => some .skip
  | .ret => some .ret
  | .exit id => some (.exit id)
  | .region _ ops false => (compList P N ops ops.toList).map (.ins G)
  | .region _ ops true => if Region.noSelect ops then (mkPlan P N ops ops.size (Array.replicate ops.size false)).map (.plan G) else none
  | .seq a b => match compC P N G a, compC P N G b with
    | some x, some y => some (.seq x y)
    | _, _ => none
  | .cond c a b => match O.of c, compC P N G a, compC P N G b with
    | some c, some x, some y => some (.cond c x y)
    | _, _, _ => none
  | .block id b => (compC P N G b).map (.block id)
  | .loop b => (compC P N G b).map .loop
  | _ => none

def Ex.to : Ex → Exit
  | .normal => .normal
  | .exit id => .exit id
  | .ret => .ret

theorem TmOk.prune {ts : Tm} {a : Act} (h : TmOk ts a) (G : List Nat) : TmOk (pruneTm ts G) a := by
  induction G with
  | nil => intro t; trivial
  | cons g r ih =>
    intro t
    simp only [pruneTm, Tm.get]
    split
    · rename_i e; subst e; exact h g
    · exact ih t

/-- What an exit leads to. -/
def Then (N : Nat) (H : Heap) (a : Act) (w : World) (K : Ex → Tm → Heap → Prop) (Q : Exit → Act → World → Prop) : Prop :=
  ∀ e ts' H' a' w', K e ts' H' → Goes H w H' w' → TmOk ts' a' → a'.tmps.size = N → a'.defers = a.defers → Q e.to a' w'

theorem exec_sound {P : Program} (hm : P.follows .mixedOrders = true) {N : Nat} {G : List Nat} : ∀ (c : Code) (ir : IR) (ts : Tm) (H : Heap) (K : Ex → Tm → Heap → Prop) (a : Act) (w : World) (Q : Exit → Act → World → Prop), compC P N G c = some ir → exec P ir ts H K → Ok H w → TmOk ts a → a.tmps.size = N →
    Then N H a w K Q → c.wp P Q a w := by
  intro c
  induction c with
  | skip =>
    intro ir ts H K a w Q hc h hok ht hN hK
    simp [compC] at hc; subst hc
    exact wp_skip (hK .normal ts H a w h (Goes.refl hok) ht hN rfl)
  | label l =>
    intro ir ts H K a w Q hc h hok ht hN hK
    simp [compC] at hc; subst hc
    exact wp_label (hK .normal ts H a w h (Goes.refl hok) ht hN rfl)
  | ret =>
    intro ir ts H K a w Q hc h hok ht hN hK
    simp [compC] at hc; subst hc
    exact wp_ret (hK .ret ts H a w h (Goes.refl hok) ht hN rfl)
  | exit id =>
    intro ir ts H K a w Q hc h hok ht hN hK
    simp [compC] at hc; subst hc
    exact wp_exit (hK (.exit id) ts H a w h (Goes.refl hok) ht hN rfl)
  | region id ops draw =>
    intro ir ts H K a w Q hc h hok ht hN hK
    cases draw with
    | false =>
      simp [compC] at hc
      obtain ⟨l, hl, rfl⟩ := hc
      refine wp_region ?_
      rw [List.range_eq_range']
      have := insL_wp (Q := Q) ops.toList l 0 ts a H w _ (fun j => by simp) hl h hok ht hN fun ts' H' a' w' hk hg ht' hN' hd' => hK .normal _ H' a' w' hk hg (ht'.prune G) hN' hd'
      simpa using this
    | true =>
      simp only [compC] at hc
      split at hc
      · rename_i hsel
        simp at hc
        obtain ⟨p, hp, rfl⟩ := hc
        refine wp_mono (Q := fun e a w => (∀ c, e ≠ .panic c) ∧ Q e a w) ?_ (fun _ _ _ h => h.2)
        refine wp_region_any hm (wpAny_of_F _ _ [] _ _ ?_)
        exact plan_wp (fun c a w hq => hq.1 c rfl) hsel _ _ p [] [] ts a H w.drew _ hp h hok.drew ht hN (fun x hx => by cases hx) (Closed.start _ _) fun ts' H' a' w' hk hg ht' hN' hd' =>
          ⟨fun c => by simp, hK .normal _ H' a' w' hk ((Goes.drew hok).trans hg) (ht'.prune G) hN' hd'⟩
      · cases hc
  | seq x y ihx ihy =>
    intro ir ts H K a w Q hc h hok ht hN hK
    simp only [compC] at hc
    split at hc
    · rename_i p q hp hq
      cases hc
      refine wp_seq (ihx p ts H _ a w _ hp h hok ht hN ?_)
      intro e ts' H' a' w' hk hg ht' hN' hd'
      cases e with
      | normal => exact ihy q ts' H' K a' w' Q hq hk hg.ok ht' hN' fun e ts2 H2 a2 w2 hk2 hg2 ht2 hN2 hd2 => hK e ts2 H2 a2 w2 hk2 (hg.trans hg2) ht2 hN2 (hd2.trans hd')
      | exit id => exact hK (.exit id) ts' H' a' w' hk hg ht' hN' hd'
      | ret => exact hK .ret ts' H' a' w' hk hg ht' hN' hd'
    · cases hc
  | cond c x y ihx ihy =>
    intro ir ts H K a w Q hc h hok ht hN hK
    simp only [compC] at hc
    split at hc
    · rename_i c' p q hc' hp hq
      cases hc
      have rc := O.rep hc' ht
      simp only [exec] at h
      unfold condV at h
      split at h
      · rename_i v e
        rw [e] at rc
        exact wp_cond_split (repB rc) (fun hv => ihx p ts H K a w Q hp (h.1 hv) hok ht hN hK) (fun hv => ihy q ts H K a w Q hq (h.2 hv) hok ht hN hK)
      · exact h.elim
    · cases hc
  | block id b ih =>
    intro ir ts H K a w Q hc h hok ht hN hK
    simp [compC] at hc
    obtain ⟨p, hp, rfl⟩ := hc
    refine wp_block (ih p ts H _ a w _ hp h hok ht hN ?_)
    intro e ts' H' a' w' hk hg ht' hN' hd'
    cases e with
    | normal => exact hK .normal ts' H' a' w' hk hg ht' hN' hd'
    | ret => exact hK .ret ts' H' a' w' hk hg ht' hN' hd'
    | exit i =>
      simp only [Ex.to, Exit.inBlock]
      dsimp only at hk
      split at hk
      · rename_i hi; rw [if_pos hi]; exact hK .normal ts' H' a' w' hk hg ht' hN' hd'
      · rename_i hi; rw [if_neg hi]; exact hK (.exit i) ts' H' a' w' hk hg ht' hN' hd'
  | loop b ih =>
    intro ir ts H K a w Q hc h hok ht hN hK
    simp [compC] at hc
    obtain ⟨p, hp, rfl⟩ := hc
    obtain ⟨ι, I, S, μ, ⟨x0, hI0, hF0⟩, hround⟩ := h
    obtain ⟨ht0, hg0⟩ := hF0 a w hok ht
    refine wp_loop_ghost (fun n a' w' => ∃ x, I x ∧ μ x = n ∧ Goes H w (S x).2 w' ∧ TmOk (S x).1 a' ∧ a'.tmps.size = N ∧ a'.defers = a.defers) (μ x0) ⟨x0, hI0, rfl, hg0, ht0, hN, rfl⟩ ?_
    rintro n a' w' ⟨x, hI, rfl, hg, ht', hN', hd'⟩
    refine ih p (S x).1 (S x).2 _ a' w' _ hp (hround x hI) hg.ok ht' hN' ?_
    intro e ts2 H2 a2 w2 hk hg2 ht2 hN2 hd2
    cases e with
    | normal =>
      obtain ⟨x', hI', hlt, hF⟩ := hk
      obtain ⟨ht3, hg3⟩ := hF a2 w2 hg2.ok ht2
      exact ⟨μ x', hlt, x', hI', rfl, (hg.trans hg2).trans hg3, ht3, hN2, hd2.trans hd'⟩
    | exit id => exact hK (.exit id) ts2 H2 a2 w2 hk (hg.trans hg2) ht2 hN2 (hd2.trans hd')
    | ret => exact hK .ret ts2 H2 a2 w2 hk (hg.trans hg2) ht2 hN2 (hd2.trans hd')
  | rangeFunc => intro ir ts H K a w Q hc; simp [compC] at hc
  | scope => intro ir ts H K a w Q hc; simp [compC] at hc
  | goto => intro ir ts H K a w Q hc; simp [compC] at hc
  | refuse => intro ir ts H K a w Q hc; simp [compC] at hc

/-! ### A function -/

inductive Res where
  | t (n : Nat)
  | cell (n sz : Nat) (ag : Bool)

def compRes (P : Program) : List ResultVar → Option (List Res)
  | [] => some []
  | .tmp n :: r => (compRes P r).map (.t n :: ·)
  | .cell n ty :: r => match tySz P ty, tyAg P ty, compRes P r with
    | some sz, some ag, some l => if ag || sz == 1 then some (.cell n sz ag :: l) else none
    | _, _, _ => none

def resV (ts : Tm) (H : Heap) : List Res → (List SV → Prop) → Prop
  | [], K => K []
  | .t n :: r, K => resV ts H r fun l => K (ts.get n :: l)
  | .cell n sz ag :: r, K => loadV H (ts.get n) sz ag fun x => resV ts H r fun l => K (x :: l)

def resOne (l : List SV) : SV :=
  match l with
  | [x] => x
  | l => .tup l

def resF (tmps : Array Value) : ResultVar → Sem Value
  | .tmp t => pure (tmps.getD t undef)
  | .cell a t => do loadVar t (← asAddr (tmps.getD a undef))

theorem loadV_ptr {H : Heap} {x : SV} {n : Nat} {ag : Bool} {K : SV → Prop} {v : Value} (h : loadV H x n ag K) (hr : Rep x v) : ∃ p, v = .pointer (some p) := by
  unfold loadV at h
  split at h
  · exact ⟨_, repP hr⟩
  · exact ⟨_, repE hr⟩
  · exact h.elim

theorem resV_sound {P : Program} {H : Heap} {w : World} (hok : Ok H w) {ts : Tm} {a : Act} (ht : TmOk ts a) : ∀ (l : List ResultVar) (rs : List Res) (K : List SV → Prop), compRes P l = some rs → resV ts H rs K →
    ∃ (vs : List Value) (svs : List SV), (l.mapM (resF a.tmps)).run P w = .ok vs w ∧ RepL svs vs ∧ K svs
  | [], rs, K, hc, h => by simp [compRes] at hc; subst hc; exact ⟨[], [], by simp, by simp [RepL], h⟩
  | .tmp n :: r, rs, K, hc, h => by
    simp [compRes] at hc
    obtain ⟨rs', hr, rfl⟩ := hc
    obtain ⟨vs, svs, h1, h2, h3⟩ := resV_sound hok ht r rs' _ hr h
    refine ⟨a.tmps.getD n undef :: vs, ts.get n :: svs, ?_, by simp only [RepL]; exact ⟨ht n, h2⟩, h3⟩
    simp [List.mapM_cons, resF, h1]
  | .cell n ty :: r, rs, K, hc, h => by
    simp only [compRes] at hc
    split at hc
    · rename_i sz ag l hsz hag hr
      split at hc
      · rename_i h1
        cases hc
        simp only [resV] at h
        obtain ⟨p, hp⟩ := loadV_ptr h (ht n)
        obtain ⟨v, sv, q1, q2, q3⟩ := loadV_sound (P := P) hok hsz hag h1 (ht n) h
        obtain ⟨vs, svs, r1, r2, r3⟩ := resV_sound hok ht r l _ hr q2
        have hrun := q3 w (fun _ _ _ _ _ _ => rfl)
        rw [hp] at hrun
        refine ⟨v :: vs, sv :: svs, ?_, by simp only [RepL]; exact ⟨q1, r2⟩, r3⟩
        have hl : (loadVar ty p).run P w = .ok v w := by simpa [Instr.loadAt, Instr.sureAddr] using hrun
        have hres : (resF a.tmps (.cell n ty)).run P w = .ok v w := by
          show (do loadVar ty (← asAddr (a.tmps.getD n undef)) : Sem Value).run P w = _
          rw [hp]
          simp [asAddr, hl]
        simp only [List.mapM_cons, Sem.run_bind, hres, Result.andThen_ok, r1, Sem.run_pure]
      · cases hc
    · cases hc

theorem results_run {P : Program} {fn : Func} {tmps : Array Value} {w : World} {vs : List Value} {svs : List SV} (h : (fn.results.toList.mapM (resF tmps)).run P w = .ok vs w) (hr : RepL svs vs) :
    ∃ v, (results fn tmps).run P w = .ok v w ∧ Rep (resOne svs) v := by
  have hres : results fn tmps = (do let vs ← fn.results.mapM (resF tmps); pure (if h : vs.size = 1 then vs[0] else .tuple vs)) := by
    unfold results
    congr 1
  refine ⟨if h : vs.toArray.size = 1 then vs.toArray[0] else .tuple vs.toArray, ?_, ?_⟩
  · rw [hres, Array.mapM_eq_mapM_toList]
    simp only [Sem.run_bind, Sem.run_map, h, Result.andThen_ok, Sem.run_pure]
  · match vs, svs, hr with
    | [], [], _ => exact ⟨[], rfl, by simp [RepL]⟩
    | [v], [sv], hr => simp only [RepL] at hr; simpa [resOne] using hr.1
    | v :: v2 :: vs, sv :: sv2 :: svs, hr => exact ⟨v :: v2 :: vs, by simp, hr⟩

structure Fn where
  ir : IR
  res : List Res

/-- What of a body is asked of outside of where it is reckoned. -/
def opTmps (o : Oper) : List Nat := o.op.operands.toList.filterMap fun | .tmp t => some t | _ => none
def outer : List Oper → List Nat → List Nat
  | [], _ => []
  | o :: r, seen => (opTmps o).filter (fun t => !seen.contains t) ++ outer r (o.dst.toList ++ seen)
def codeUses : Code → List Nat
  | .region _ ops _ => outer ops.toList []
  | .seq a b => codeUses a ++ codeUses b
  | .cond c a b => (match c with | .tmp t => [t] | _ => []) ++ codeUses a ++ codeUses b
  | .block _ b | .loop b | .scope b => codeUses b
  | _ => []
def resUses : List ResultVar → List Nat
  | [] => []
  | .tmp t :: r => t :: resUses r
  | .cell t _ :: r => t :: resUses r

def compFn (P : Program) (fn : Func) : Option Fn :=
  match fn.body with
  | some c =>
    let G := (codeUses c ++ resUses fn.results.toList).eraseDups
    match compC P fn.ntmps G c, compRes P fn.results.toList with
    | some ir, some rs => some ⟨ir, rs⟩
    | _, _ => none
  | none => none

def argTm : List SV → Nat → Tm
  | [], _ => []
  | x :: r, n => (n, x) :: argTm r (n + 1)

theorem argTm_get : ∀ (l : List SV) (n t : Nat), (argTm l n).get t = if n ≤ t ∧ t < n + l.length then l.getD (t - n) .any else .any
  | [], n, t => by simp [argTm, Tm.get]
  | x :: l, n, t => by
    simp only [argTm, Tm.get, List.length_cons]
    by_cases h : n = t
    · subst h; simp
    · rw [if_neg h, argTm_get l (n + 1) t]
      by_cases h2 : n + 1 ≤ t ∧ t < n + 1 + l.length
      · rw [if_pos h2, if_pos (by omega), show t - n = (t - (n + 1)) + 1 by omega]; simp
      · rw [if_neg h2, if_neg (by omega)]

/-- A function's contract, as far as the engine looks: from what is known to what is answered and known. -/
def CallE (P : Program) (f : Nat) (args : List SV) (H : Heap) (K : SV → Heap → Prop) : Prop :=
  Callable P f ∧ ∀ (w : World) (argv : List Value), Ok H w → RepL args argv → Calls P f argv.toArray w fun e w' =>
    ∃ v sv H', e = .returned v ∧ K sv H' ∧ Rep sv v ∧ Goes H w H' w'

theorem CallE.mono {P : Program} {f : Nat} {args : List SV} {H : Heap} {K K' : SV → Heap → Prop} (h : CallE P f args H K) (hk : ∀ sv H', K sv H' → K' sv H') : CallE P f args H K' :=
  ⟨h.1, fun w argv hok hr => (h.2 w argv hok hr).mono fun e w' ⟨v, sv, H', h1, h2, h3, h4⟩ => ⟨v, sv, H', h1, hk sv H' h2, h3, h4⟩⟩

/-- What a body must come to. -/
def RunE (P : Program) (F : Fn) (ts : Tm) (H : Heap) (K : SV → Heap → Prop) : Prop :=
  exec P F.ir ts H fun e ts' H' => match e with
    | .normal => resV ts' H' F.res fun l => K (resOne l) H'
    | .ret => resV ts' H' F.res fun l => K (resOne l) H'
    | .exit _ => False

theorem callE_of {P : Program} (hm : P.follows .mixedOrders = true) {f : Nat} {fn : Func} (hf : P.funcs[f]? = some fn) (hname : (fn.name == "runtime.NumGoroutine") = false) {F : Fn} (hc : compFn P fn = some F) {args : List SV} (hlen : Nat.ble args.length fn.ntmps = true) {H : Heap} {K : SV → Heap → Prop}
    (h : RunE P F (argTm args 0) H K) : CallE P f args H K := by
  unfold compFn at hc
  split at hc
  · rename_i c hb
    dsimp only at hc
    split at hc
    · rename_i ir rs hir hrs
      cases hc
      refine ⟨⟨fn, hf, hname, by simp [hb]⟩, fun w argv hok hr => calls_of_wp hf hb ?_⟩
      have hal := hr.length
      have hlen := Nat.le_of_ble_eq_true hlen
      refine exec_sound hm c ir _ H _ _ w _ hir h hok ?_ ?_ ?_
      · intro t
        rw [argTm_get]
        split
        · rename_i ht
          simp only [Nat.zero_le, true_and, Nat.zero_add, Nat.sub_zero] at ht ⊢
          have hx : args[t]? = some (args[t]'ht) := List.getElem?_eq_getElem ht
          obtain ⟨y, hy, hry⟩ := hr.get t _ hx
          have hlt : t < argv.length := by omega
          have hgo : (argv.toArray ++ Array.replicate (fn.ntmps - argv.toArray.size) undef).getD t undef = y := by
            have : argv[t]? = some y := hy
            simp [Array.getElem?_append, hlt]
            rw [List.getElem?_eq_getElem hlt] at this
            simpa using this
          rw [hgo, List.getD_eq_getElem?_getD, hx]
          exact hry
        · trivial
      · simp; omega
      · intro e ts' H' a' w' hk hg ht' hN' hd'
        have hdef : a'.defers = [] := hd'
        have fin : resV ts' H' rs (fun l => K (resOne l) H') → a'.defers = [] ∧ ∃ v, (results fn a'.tmps).run P w' = .ok v w' ∧ ∃ v' sv H'', Ending.returned v = .returned v' ∧ K sv H'' ∧ Rep sv v' ∧ Goes H w H'' w' := fun hres => by
          obtain ⟨vs, svs, h1, h2, h3⟩ := resV_sound (P := P) hg.ok ht' _ _ _ hrs hres
          obtain ⟨v, h4, h5⟩ := results_run h1 h2
          exact ⟨hdef, v, h4, v, _, H', rfl, h3, h5, hg⟩
        cases e with
        | normal => exact fin hk
        | ret => exact fin hk
        | exit id => exact hk.elim
    · cases hc
  · cases hc
end Go.Proofs.YtebjldkkdapbeaaGreatDoor.Eng
