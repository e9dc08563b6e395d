/- The engine, part V4: regions, bodies and calls, for the kernel. -/
import Derived.Test.YtebjldkkdapbeaaGreatDoorEngV3
namespace Go.Proofs.YtebjldkkdapbeaaGreatDoor.Eng
open Go

inductive IRK where
  | skip
  | ret
  | exit (id : Nat)
  | ins (sets : List Nat) (l : List Ins)
  | plan (sets : List Nat) (p : Plan)
  | seq (a b : IRK)
  | cond (c : O) (a b : IRK)
  | block (id : Nat) (b : IRK)
  | loop (b : IRK)
  | bad
def IRK.ir (G : List Nat) : IRK → IR
  | .skip => .skip
  | .ret => .ret
  | .exit id => .exit id
  | .ins _ l => .ins G l
  | .plan _ p => .plan G p
  | .seq a b => .seq (a.ir G) (b.ir G)
  | .cond c a b => .cond c (a.ir G) (b.ir G)
  | .block id b => .block id (b.ir G)
  | .loop b => .loop (b.ir G)
  | .bad => .bad
structure FnK where
  ir : IRK
  res : List Res
  G : List Nat
  /-- The temporaries that live beyond a region, and the arguments'. -/
  K : List Nat
  n : Nat
def FnK.F (E : FnK) : Fn := ⟨E.ir.ir E.G, E.res⟩

/-! ### What is written beyond a region is told -/

def okD (K sets : List Nat) (d : Option Nat) : Bool :=
  match d with
  | some d => !(hasF K d) || hasF sets d
  | none => true
def Ins.dst : Ins → Option Nat
  | .q d _ _ => d
  | .l d _ _ => d
def okIns (K sets : List Nat) : List Ins → Bool
  | [] => true
  | i :: r => okD K sets i.dst && okIns K sets r
def okLate (K sets : List Nat) : List (Option Nat × L) → Bool
  | [] => true
  | (d, _) :: r => okD K sets d && okLate K sets r
def okPlan (K sets : List Nat) : Plan → Bool
  | .done => true
  | .one _ _ i r => okD K sets i.dst && okPlan K sets r
  | .alt _ _ => true
  | .late js p => okLate K sets js && okPlan K sets p
def okSets : List Nat → Bool
  | [] => true
  | n :: r => Nat.ble n 1000000 && okSets r
/-- The sets are of K, the commits are enough. -/
def subK (K : List Nat) : List Nat → Bool
  | [] => true
  | n :: r => hasF K n && subK K r
def IRK.ok (K : List Nat) : IRK → Bool
  | .ins sets l => okIns K sets l && okSets sets && subK K sets
  | .plan sets p => okPlan K sets p && okSets sets && subK K sets
  | .seq a b => a.ok K && b.ok K
  | .cond _ a b => a.ok K && b.ok K
  | .block _ b => b.ok K
  | .loop b => b.ok K
  | _ => true

/-! ### The reckoning -/

section
variable {R : Type}
noncomputable def guardKk (E : EnvK) (g : Option (Nat × Bool)) : Option Bool :=
  match g with
  | none => some true
  | some (t, want) => match E.get t with
    | .bool b => some (bif want then b else !b)
    | .v x => match x with
      | .tuple _ => some false
      | _ => none
    | _ => none
noncomputable def bindK (E : EnvK) (d : Option Nat) (x : FV) : EnvK :=
  match d with
  | some d => ⟨(d, x) :: E.loc, E.out⟩
  | none => E
noncomputable def readsK (q : Q) (E : EnvK) : List Nat :=
  match q with
  | .load _ _ x => match x.fk E with
    | .p k _ => [k]
    | _ => []
  | .b2s x => match x.fk E with
    | .s k _ _ len _ => match len with
      | 0 => []
      | _ => [k]
    | _ => []
  | _ => []
def deepQ (q : Q) : Bool :=
  match q with
  | .mov _ | .load .. | .ext .. | .nilc _ | .pick .. | .field .. | .idx .. => false
  | _ => true
noncomputable def qK (z : R) (q : Q) (E : EnvK) (M : Mem) (k : FV → R) : R :=
  match evalQk q E M with
  | some c => bif deepQ q then fFV c k else sFV c k
  | none => z
noncomputable def insK (z : R) (call : CallF) (i : Ins) (E : EnvK) (M : Mem) (k : EnvK → Mem → List Nat → List Nat → R) : R :=
  match i with
  | .q d g x => match guardKk E g with
    | some b => bif b then qK z x E M fun c => k (bindK E d c) M (readsK x E) [] else k (bindK E d (.v undef)) M [] []
    | none => z
  | .l d g x => match guardKk E g with
    | some b => bif b then lK z call x E M fun c M' ws => k (bindK E d c) M' [] ws else k (bindK E d (.v undef)) M [] []
    | none => z
end

noncomputable def forgetK (js : List (Option Nat × L)) (E : EnvK) : EnvK :=
  List.rec (motive := fun _ => EnvK) E (fun p _ ih => match p with
    | (some d, _) => ⟨(d, .any) :: ih.loc, ih.out⟩
    | (none, _) => ih) js
noncomputable def mkK (l : L) (E : EnvK) : Bool :=
  match l with
  | .alloc zero => SV.cleanL zero
  | .box x => allOneK (cellsK (x.fk E))
  | .bslice sz n zero parts => bif SV.cleanL zero && Nat.beq zero.length sz && Nat.ble 1 sz then match partsK E sz n parts (fillK n (FV.ofL zero)) with
      | some _ => true
      | none => false
    else false
  | _ => false
noncomputable def lateK (E : EnvK) (js : List (Option Nat × L)) : Bool := List.rec (motive := fun _ => Bool) true (fun p _ ih => bif mkK p.2 E then ih else false) js

noncomputable def logK {R : Type} (n0 : Nat) (ws L : List Nat) (k : List Nat → R) : R :=
  match ws with
  | [] => k L
  | ws => fNats (logF n0 ws L) k

abbrev St3K := EnvK × Mem × List Nat
noncomputable def planK (call : CallF) (n0 : Nat) (p : Plan) : EnvK → Mem → Watch → List Nat → Option St3K :=
  Plan.rec (motive := fun _ => EnvK → Mem → Watch → List Nat → Option St3K)
    (fun E M _ L => some (E, M, L))
    (fun j aft i _ ih E M W L => insK none call i E M fun E' M' rs ws => match i with
      | .q .. => ih E' M' (addW j rs W) L
      | .l .. => match dropW aft W with
        | W' => bif watchOk ws W' then logK n0 ws L fun L' => ih E' M' W' L' else none)
    (fun _ _ _ _ _ _ _ _ => none)
    (fun js _ ih E M W L => bif lateK E js then ih (forgetK js E) M W L else none) p
noncomputable def ilK (call : CallF) (n0 : Nat) (l : List Ins) : EnvK → Mem → List Nat → Option St3K :=
  List.rec (motive := fun _ => EnvK → Mem → List Nat → Option St3K) (fun E M L => some (E, M, L))
    (fun i _ ih E M L => insK none call i E M fun E' M' _ ws => logK n0 ws L fun L' => ih E' M' L') l
/-- What is kept beyond the region. -/
noncomputable def commitK {R : Type} (sets : List Nat) (E : EnvK) : Tr FV → (Tr FV → R) → R :=
  List.rec (motive := fun _ => Tr FV → (Tr FV → R) → R) (fun out k => k out) (fun n _ ih out k => sFV (E.get n) fun v => trSet v 31 out n fun out => ih out k) sets

abbrev St4K := Ex × Tr FV × Mem × List Nat
noncomputable def irK (call : CallF) (n0 : Nat) (f : Nat) : IRK → Tr FV → Mem → List Nat → Option St4K :=
  Nat.rec (motive := fun _ => IRK → Tr FV → Mem → List Nat → Option St4K) (fun _ _ _ _ => none)
    (fun _ ih ir out M L => match ir with
      | .skip => some (.normal, out, M, L)
      | .ret => some (.ret, out, M, L)
      | .exit id => some (.exit id, out, M, L)
      | .ins sets l => match ilK call n0 l ⟨[], out⟩ M L with
        | some (E, M', L') => commitK sets E out fun out => some (.normal, out, M', L')
        | none => none
      | .plan sets p => match planK call n0 p ⟨[], out⟩ M [] L with
        | some (E, M', L') => commitK sets E out fun out => some (.normal, out, M', L')
        | none => none
      | .seq a b => match ih a out M L with
        | some (e, out', M', L') => match e with
          | .normal => ih b out' M' L'
          | e => some (e, out', M', L')
        | none => none
      | .cond c a b => match c.fk ⟨[], out⟩ with
        | .bool v => bif v then ih a out M L else ih b out M L
        | _ => none
      | .block id b => match ih b out M L with
        | some (e, out', M', L') => match e with
          | .exit i => bif Nat.beq i id then some (.normal, out', M', L') else some (.exit i, out', M', L')
          | e => some (e, out', M', L')
        | none => none
      | .loop b => match ih b out M L with
        | some (e, out', M', L') => match e with
          | .normal => ih (.loop b) out' M' L'
          | e => some (e, out', M', L')
        | none => none
      | .bad => none) f

noncomputable def resK (out : Tr FV) (M : Mem) (l : List Res) : Option (List FV) :=
  List.rec (motive := fun _ => Option (List FV)) (some []) (fun x _ ih => match x with
    | .t n => match ih with
      | some l => some (EnvK.get ⟨[], out⟩ n :: l)
      | none => none
    | .cell n sz ag => match EnvK.get ⟨[], out⟩ n with
      | .p k off => match trGet M.tr k with
        | some B => match partK off sz ag B.cells with
          | some c => match ih with
            | some l => some (c :: l)
            | none => none
          | none => none
        | none => none
      | _ => none) l
noncomputable def argK {R : Type} (l : List FV) : Nat → Tr FV → (Tr FV → R) → R :=
  List.rec (motive := fun _ => Nat → Tr FV → (Tr FV → R) → R) (fun _ out k => k out) (fun x _ ih n out k => trSet x 31 out n fun out => fNat (n + 1) fun n => ih n out k) l

/-- Are the arguments' temporaries among those told? -/
def argsOk (K : List Nat) : Nat → Nat → Bool
  | 0, _ => true
  | c + 1, n => hasF K n && argsOk K c (n + 1)

noncomputable def callK (T : Nat → Option FnK) (lf d : Nat) : CallF :=
  Nat.rec (motive := fun _ => CallF) (fun _ _ _ => none)
    (fun _ ih f args M => match T f with
      | some E => bif Nat.ble args.length E.n && Nat.ble args.length 1000 && argsOk E.K args.length 0 then argK args 0 .nil fun out => match irK ih M.next lf E.ir out M [] with
          | some (e, out', M', L) => match e with
            | .exit _ => none
            | _ => match resK out' M' E.res with
              | some l => sL l fun l => some (resOneF l, M', L)
              | none => none
          | none => none
        else none
      | none => none) d

def TblOkK (P : Program) (T : Nat → Option FnK) : Prop := ∀ f E, T f = some E → ∃ fn, P.funcs[f]? = some fn ∧ (fn.name == "runtime.NumGoroutine") = false ∧ compFn2 P fn = some E.F ∧ fn.ntmps = E.n ∧ E.ir.ok E.K = true

/-! ### It is what is reckoned -/

theorem guardKk_eq {E : EnvK} {ts : FTm} (h : E.as ts) (g : Option (Nat × Bool)) : guardKk E g = guardF ts g := by
  unfold guardKk guardF
  cases g with
  | none => rfl
  | some p => obtain ⟨t, want⟩ := p; dsimp only; rw [h t]; rfl
theorem bindK_as {E : EnvK} {ts : FTm} (h : E.as ts) (d : Option Nat) (x : FV) : (bindK E d x).as (bindF ts d x) := by
  cases d with
  | none => exact h
  | some d => exact h.cons d x
theorem readsK_eq {E : EnvK} {ts : FTm} (h : E.as ts) (q : Q) : readsK q E = readsF q ts := by
  cases q <;> simp only [readsK, readsF, O.fk_eq h] <;> rfl

theorem insK_eq {R : Type} (z : R) {E : EnvK} {ts : FTm} (h : E.as ts) (call : CallF) (i : Ins) (M : Mem) (k : EnvK → Mem → List Nat → List Nat → R) :
    (evalIns call i ts M = none ∧ insK z call i E M k = z) ∨ ∃ x c, evalIns call i ts M = some x ∧ insK z call i E M k = k (bindK E i.dst c) x.M x.rs x.ws ∧ x.ts = bindF ts i.dst c := by
  cases i with
  | q d g x =>
    simp only [insK, evalIns, guardKk_eq h]
    cases guardF ts g with
    | none => exact .inl ⟨rfl, rfl⟩
    | some b =>
      cases b with
      | true =>
        simp only [cond_true, qK, evalQk_eq h, fFV_eq, sFV_eq, readsK_eq h]
        cases evalQ x ts M with
        | none => exact .inl ⟨rfl, rfl⟩
        | some c => refine .inr ⟨_, c, rfl, ?_, rfl⟩; dsimp only; cases deepQ x <;> rfl
      | false => exact .inr ⟨_, .v undef, rfl, rfl, rfl⟩
  | l d g x =>
    simp only [insK, evalIns, guardKk_eq h]
    cases guardF ts g with
    | none => exact .inl ⟨rfl, rfl⟩
    | some b =>
      cases b with
      | true =>
        simp only [cond_true, lK_eq z h]
        cases evalL call x ts M with
        | none => exact .inl ⟨rfl, rfl⟩
        | some p => obtain ⟨c, M', ws⟩ := p; exact .inr ⟨_, c, rfl, rfl, rfl⟩
      | false => exact .inr ⟨_, .v undef, rfl, rfl, rfl⟩

theorem forgetK_as {E : EnvK} {ts : FTm} (h : E.as ts) : ∀ js, (forgetK js E).as (forgetF js ts)
  | [] => h
  | (none, _) :: js => forgetK_as h js
  | (some d, _) :: js => (forgetK_as h js).cons d .any
theorem mkK_eq {E : EnvK} {ts : FTm} (h : E.as ts) (l : L) : mkK l E = (evalMk l ts).isSome := by
  cases l <;> simp only [mkK, evalMk, O.fk_eq h, allOneK_eq, cellsK_eq, partsK_eq h, fillK_eq, cond_eq_ite] <;> try rfl
  case alloc zero => cases SV.cleanL zero <;> rfl
  case box x => cases allOneF (cellsF (x.fev ts)) <;> rfl
  case bslice sz n zero parts =>
    split
    · cases partsF ts sz n parts (fillF n (FV.ofL zero)) <;> rfl
    · rfl
theorem lateK_eq {E : EnvK} {ts : FTm} (h : E.as ts) : ∀ js, lateK E js = lateOk ts js
  | [] => rfl
  | (d, l) :: js => by
    show (bif mkK l E then lateK E js else false) = _
    rw [mkK_eq h, lateK_eq h js]
    simp only [lateOk]
    cases evalMk l ts <;> rfl
theorem logK_eq {R : Type} (n0 : Nat) (ws L : List Nat) (k : List Nat → R) : logK n0 ws L k = k (logF n0 ws L) := by
  cases ws with
  | nil => rfl
  | cons a r => simp only [logK, fNats_eq]

/-- The region's own temporaries are of its dsts. -/
def LocIn (K sets : List Nat) (E : EnvK) : Prop := ∀ p ∈ E.loc, p.1 ∈ K → p.1 ∈ sets
theorem okD_spec {K sets : List Nat} {d : Nat} (h : okD K sets (some d) = true) (hk : d ∈ K) : d ∈ sets := by
  simp only [okD, Bool.or_eq_true, Bool.not_eq_true'] at h
  rcases h with h | h
  · rw [hasF_mem.2 hk] at h; cases h
  · exact hasF_mem.1 h
theorem LocIn.bind {K sets : List Nat} {E : EnvK} (h : LocIn K sets E) {d : Option Nat} (hd : okD K sets d = true) (c : FV) : LocIn K sets (bindK E d c) ∧ (bindK E d c).out = E.out := by
  cases d with
  | none => exact ⟨h, rfl⟩
  | some d =>
    refine ⟨fun p hp hk => ?_, rfl⟩
    rcases List.mem_cons.1 hp with rfl | hp
    · exact okD_spec hd hk
    · exact h p hp hk
theorem LocIn.forget {K sets : List Nat} {E : EnvK} (h : LocIn K sets E) {js : List (Option Nat × L)} (hj : okLate K sets js = true) : LocIn K sets (forgetK js E) ∧ (forgetK js E).out = E.out := by
  induction js with
  | nil => exact ⟨h, rfl⟩
  | cons x js ih =>
    obtain ⟨d, l⟩ := x
    simp only [okLate, Bool.and_eq_true] at hj
    obtain ⟨h1, h2⟩ := ih hj.2
    cases d with
    | none => exact ⟨h1, h2⟩
    | some d =>
      refine ⟨fun p hp hk => ?_, h2⟩
      rcases List.mem_cons.1 hp with rfl | hp
      · exact okD_spec hj.1 hk
      · exact h1 p hp hk

theorem planK_eq (call : CallF) (n0 : Nat) {K sets : List Nat} : ∀ (p : Plan) {E : EnvK} {ts : FTm} (_ : E.as ts) (M : Mem) (W : Watch) (L : List Nat) {E2 : EnvK} {M2 : Mem} {L2 : List Nat}, okPlan K sets p = true → LocIn K sets E → planK call n0 p E M W L = some (E2, M2, L2) →
    ∃ ts2, evalPlan call n0 p ts M W L = some (ts2, M2, L2) ∧ E2.as ts2 ∧ LocIn K sets E2 ∧ E2.out = E.out
  | .done, E, ts, h, M, W, L, E2, M2, L2, _, hl, he => by
    cases he
    exact ⟨ts, rfl, h, hl, rfl⟩
  | .one j aft i r, E, ts, h, M, W, L, E2, M2, L2, hok, hl, he => by
    simp only [okPlan, Bool.and_eq_true] at hok
    have he : insK none call i E M (fun E' M' rs ws => match i with
      | .q .. => planK call n0 r E' M' (addW j rs W) L
      | .l .. => match dropW aft W with
        | W' => bif watchOk ws W' then logK n0 ws L fun L' => planK call n0 r E' M' W' L' else none) = some (E2, M2, L2) := he
    rcases insK_eq none h call i M (fun E' M' rs ws => match i with
      | .q .. => planK call n0 r E' M' (addW j rs W) L
      | .l .. => match dropW aft W with
        | W' => bif watchOk ws W' then logK n0 ws L fun L' => planK call n0 r E' M' W' L' else none) with ⟨_, h2⟩ | ⟨x, c, h1, h2, h3⟩
    · rw [h2] at he; cases he
    · rw [h2] at he
      obtain ⟨b1, b2⟩ := hl.bind hok.1 c
      have has : (bindK E i.dst c).as x.ts := by rw [h3]; exact bindK_as h i.dst c
      simp only [evalPlan, h1]
      cases i with
      | q d g q =>
        obtain ⟨ts2, g1, g2, g3, g4⟩ := planK_eq call n0 r has x.M _ L hok.2 b1 he
        exact ⟨ts2, g1, g2, g3, g4.trans b2⟩
      | l d g l =>
        dsimp only at he ⊢
        rw [cond_eq_ite] at he ⊢
        split at he
        · rename_i hw
          rw [if_pos hw]
          rw [logK_eq] at he
          obtain ⟨ts2, g1, g2, g3, g4⟩ := planK_eq call n0 r has x.M _ _ hok.2 b1 he
          exact ⟨ts2, g1, g2, g3, g4.trans b2⟩
        · cases he
  | .alt _ _, _, _, _, _, _, _, _, _, _, _, _, he => by cases he
  | .late js p, E, ts, h, M, W, L, E2, M2, L2, hok, hl, he => by
    simp only [okPlan, Bool.and_eq_true] at hok
    have he : (bif lateK E js then planK call n0 p (forgetK js E) M W L else none) = some (E2, M2, L2) := he
    rw [lateK_eq h, cond_eq_ite] at he
    simp only [evalPlan, cond_eq_ite]
    split at he
    · rename_i hj
      rw [if_pos hj]
      obtain ⟨b1, b2⟩ := hl.forget hok.1
      obtain ⟨ts2, g1, g2, g3, g4⟩ := planK_eq call n0 p (forgetK_as h js) M W L hok.2 b1 he
      exact ⟨ts2, g1, g2, g3, g4.trans b2⟩
    · cases he

theorem ilK_eq (call : CallF) (n0 : Nat) {K sets : List Nat} : ∀ (l : List Ins) {E : EnvK} {ts : FTm} (_ : E.as ts) (M : Mem) (L : List Nat) {E2 : EnvK} {M2 : Mem} {L2 : List Nat}, okIns K sets l = true → LocIn K sets E → ilK call n0 l E M L = some (E2, M2, L2) →
    ∃ ts2, evalIL call n0 l ts M L = some (ts2, M2, L2) ∧ E2.as ts2 ∧ LocIn K sets E2 ∧ E2.out = E.out
  | [], E, ts, h, M, L, E2, M2, L2, _, hl, he => by
    cases he
    exact ⟨ts, rfl, h, hl, rfl⟩
  | i :: r, E, ts, h, M, L, E2, M2, L2, hok, hl, he => by
    simp only [okIns, Bool.and_eq_true] at hok
    have he : insK none call i E M (fun E' M' _ ws => logK n0 ws L fun L' => ilK call n0 r E' M' L') = some (E2, M2, L2) := he
    rcases insK_eq none h call i M (fun E' M' _ ws => logK n0 ws L fun L' => ilK call n0 r E' M' L') with ⟨_, h2⟩ | ⟨x, c, h1, h2, h3⟩
    · rw [h2] at he; cases he
    · rw [h2, logK_eq] at he
      obtain ⟨b1, b2⟩ := hl.bind hok.1 c
      have has : (bindK E i.dst c).as x.ts := by rw [h3]; exact bindK_as h i.dst c
      simp only [evalIL, h1]
      obtain ⟨ts2, g1, g2, g3, g4⟩ := ilK_eq call n0 r has x.M _ hok.2 b1 he
      exact ⟨ts2, g1, g2, g3, g4.trans b2⟩

theorem commitK_eq {R : Type} (E : EnvK) : ∀ (sets : List Nat) (out : Tr FV) (k : Tr FV → R), okSets sets = true → ∃ out', commitK sets E out k = k out' ∧ ∀ t, out'.get t = if t ∈ sets then some (E.get t) else out.get t
  | [], out, k, _ => ⟨out, rfl, fun t => by simp⟩
  | n :: r, out, k, hok => by
    simp only [okSets, Bool.and_eq_true] at hok
    have hn := Nat.le_of_ble_eq_true hok.1
    obtain ⟨out', h1, h2⟩ := commitK_eq E r (Tr.set 31 out n (E.get n)) k hok.2
    refine ⟨out', ?_, fun t => ?_⟩
    · show sFV (E.get n) (fun v => trSet v 31 out n fun out => commitK r E out k) = _
      rw [sFV_eq, trSet_eq, h1]
    · rw [h2 t, Tr.get_set _ 31 out n t (by have := pow31; omega)]
      by_cases ht : t ∈ r
      · simp [ht]
      · by_cases htn : t = n
        · subst htn; simp
        · simp [ht, htn]

theorem EnvK.get_nil (out : Tr FV) (t : Nat) : EnvK.get ⟨[], out⟩ t = (out.get t).getD .any := by
  show (Option.rec (motive := fun _ => FV) .any (fun x => x) (trGet out t)) = _
  rw [trGet_eq]
  cases out.get t <;> rfl
theorem EnvK.get_loc (E : EnvK) (t : Nat) (h : ∀ p ∈ E.loc, p.1 ≠ t) : E.get t = (E.out.get t).getD .any := by
  rw [← EnvK.get_nil]
  obtain ⟨l, out⟩ := E
  unfold EnvK.get
  dsimp only
  induction l with
  | nil => rfl
  | cons p l ih =>
    obtain ⟨d, c⟩ := p
    rw [locGet_cons, if_neg (h (d, c) (by simp))]
    exact ih fun q hq => h q (by simp [hq])

theorem tr_bounded {α : Type} : ∀ t : Tr α, ∃ B, ∀ j, B ≤ j → t.get j = none
  | .nil => ⟨0, fun j _ => by simp [Tr.get]⟩
  | .node v l r => by
    obtain ⟨A, hA⟩ := tr_bounded l
    obtain ⟨B, hB⟩ := tr_bounded r
    refine ⟨2 * A + 2 * B + 2, fun j hj => ?_⟩
    cases j with
    | zero => omega
    | succ k =>
      simp only [Tr.get, cond_eq_ite]
      have hd : Nat.div k 2 = k / 2 := rfl
      rw [hd]
      split
      · exact hA _ (by omega)
      · exact hB _ (by omega)
theorem range_get (f : Nat → FV) (t : Nat) : ∀ B, FTm.get ((List.range B).map fun n => (n, f n)) t = if t < B then f t else .any
  | 0 => by simp [FTm.get]
  | B + 1 => by
    have happ : ∀ (l m : FTm), FTm.get (l ++ m) t = if t ∈ l.map (·.1) then FTm.get l t else FTm.get m t := by
      intro l m
      induction l with
      | nil => simp
      | cons p l ih =>
        obtain ⟨d, c⟩ := p
        simp only [List.cons_append, FTm.get, cond_eq_ite, Nat.beq_eq, ih, List.map_cons, List.mem_cons]
        by_cases hd : d = t
        · subst hd; simp
        · have hd' : ¬ t = d := fun e => hd e.symm
          simp only [hd, if_false, hd', false_or]
    rw [List.range_succ, List.map_append, happ, range_get f t B]
    simp only [List.map_map, List.mem_map, List.mem_range, Function.comp_apply]
    by_cases h : t < B
    · rw [if_pos ⟨t, h, rfl⟩, if_pos h, if_pos (by omega)]
    · rw [if_neg (by rintro ⟨a, ha, rfl⟩; exact h ha)]
      simp only [List.map_cons, List.map_nil, FTm.get, cond_eq_ite, Nat.beq_eq]
      by_cases hb : B = t
      · subst hb; simp
      · rw [if_neg hb, if_neg (by omega)]
theorem EnvK.has_ts (out : Tr FV) : ∃ ts, EnvK.as ⟨[], out⟩ ts := by
  obtain ⟨B, hB⟩ := tr_bounded out
  refine ⟨(List.range B).map fun n => (n, (out.get n).getD .any), fun t => ?_⟩
  rw [EnvK.get_nil, range_get]
  split
  · rfl
  · rename_i h
    rw [hB t (by omega)]; rfl
end Go.Proofs.YtebjldkkdapbeaaGreatDoor.Eng
