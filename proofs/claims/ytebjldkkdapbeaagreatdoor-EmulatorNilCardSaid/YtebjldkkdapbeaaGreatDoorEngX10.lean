/- The engine, part X10: an operation, a region in whatever order, by the reckoning. -/
import Derived.Test.YtebjldkkdapbeaaGreatDoorEngX9
namespace Go.Proofs.YtebjldkkdapbeaaGreatDoor.Eng
open Go

def bindF (ts : FTm) (d : Option Nat) (x : FV) : FTm :=
  match d with
  | some d => (d, x) :: ts
  | none => ts
/-- Is the operation wanted? -/
def guardF (ts : FTm) (g : Option (Nat × Bool)) : Option Bool :=
  match g with
  | none => some true
  | some (t, want) => match ts.get t with
    | .bool b => some (bif want then b else !b)
    | .v x => match x with
      | .tuple _ => some false
      | _ => none
    | _ => none
def readsF (q : Q) (ts : FTm) : List Nat :=
  match q with
  | .load _ _ x => match x.fev ts with
    | .p k _ => [k]
    | _ => []
  | .b2s x => match x.fev ts with
    | .s k _ _ len _ => match len with
      | 0 => []
      | _ => [k]
    | _ => []
  | _ => []

structure IR1 where
  ts : FTm
  M : Mem
  rs : List Nat
  ws : List Nat

def evalIns (call : CallF) (i : Ins) (ts : FTm) (M : Mem) : Option IR1 :=
  match i with
  | .q d g x => match guardF ts g with
    | some b => bif b then match evalQ x ts M with
        | some c => some ⟨bindF ts d c, M, readsF x ts, []⟩
        | none => none
      else some ⟨bindF ts d (.v undef), M, [], []⟩
    | none => none
  | .l d g x => match guardF ts g with
    | some b => bif b then match evalL call x ts M with
        | some (c, M', ws) => some ⟨bindF ts d c, M', [], ws⟩
        | none => none
      else some ⟨bindF ts d (.v undef), M, [], []⟩
    | none => none

def hasF : List Nat → Nat → Bool
  | [], _ => false
  | x :: l, k => bif Nat.beq x k then true else hasF l k
theorem hasF_mem : ∀ {l : List Nat} {k : Nat}, hasF l k = true ↔ k ∈ l
  | [], k => by simp [hasF]
  | x :: l, k => by
    simp only [hasF, cond_eq_ite, List.mem_cons]
    by_cases h : Nat.beq x k = true
    · rw [if_pos h]; have := Nat.eq_of_beq_eq_true h; simp [this]
    · rw [if_neg h, hasF_mem]
      have : ¬ k = x := fun e => h (by rw [e]; exact Nat.beq_refl _)
      simp [this]

/-- The writes that are to be told: those of what lay there before. -/
def logF (n0 : Nat) : List Nat → List Nat → List Nat
  | [], L => L
  | k :: r, L => bif Nat.ble n0 k || hasF L k then logF n0 r L else logF n0 r (k :: L)
theorem logF_old {n0 : Nat} : ∀ {ws L : List Nat} {k : Nat}, k ∈ L → k ∈ logF n0 ws L
  | [], _, _, h => h
  | x :: r, L, k, h => by
    simp only [logF, cond_eq_ite]
    split
    · exact logF_old h
    · exact logF_old (List.mem_cons_of_mem _ h)
theorem logF_new {n0 : Nat} : ∀ {ws L : List Nat} {k : Nat}, k ∈ ws → k < n0 → k ∈ logF n0 ws L
  | x :: r, L, k, h, hk => by
    simp only [logF, cond_eq_ite]
    rcases List.mem_cons.1 h with rfl | h
    · split
      · rename_i hc
        simp only [Bool.or_eq_true] at hc
        rcases hc with hc | hc
        · have := Nat.le_of_ble_eq_true hc; omega
        · exact logF_old (hasF_mem.1 hc)
      · exact logF_old (by simp)
    · split
      · exact logF_new h hk
      · exact logF_new h hk

def noneOf (ws : List Nat) : List Nat → Bool
  | [] => true
  | k :: r => !(hasF ws k) && noneOf ws r
def watchOk (ws : List Nat) : Watch → Bool
  | [] => true
  | x :: r => noneOf ws x.2 && watchOk ws r
theorem noneOf_spec {ws : List Nat} : ∀ {ks : List Nat}, noneOf ws ks = true → ∀ k ∈ ks, k ∉ ws
  | [], _, k, h => by cases h
  | x :: r, h, k, hk => by
    simp only [noneOf, Bool.and_eq_true, Bool.not_eq_true'] at h
    rcases List.mem_cons.1 hk with rfl | hk
    · intro hm; rw [hasF_mem.2 hm] at h; cases h.1
    · exact noneOf_spec h.2 k hk
theorem watchOk_spec {ws : List Nat} : ∀ {W : Watch}, watchOk ws W = true → ∀ x ∈ W, ∀ k ∈ x.2, k ∉ ws
  | [], _, x, h => by cases h
  | y :: r, h, x, hx => by
    simp only [watchOk, Bool.and_eq_true] at h
    rcases List.mem_cons.1 hx with rfl | hx
    · exact noneOf_spec h.1
    · exact watchOk_spec h.2 x hx

def forgetF : List (Option Nat × L) → FTm → FTm
  | [], ts => ts
  | (d, _) :: r, ts => match d with
    | some d => (d, .any) :: forgetF r ts
    | none => forgetF r ts
/-- The cells that a maker makes. -/
def evalMk (l : L) (ts : FTm) : Option (List FV) :=
  match l with
  | .alloc zero => bif SV.cleanL zero then some (FV.ofL zero) else none
  | .box x => match cellsF (x.fev ts) with
    | cs => bif allOneF cs then some cs else none
  | .bslice sz n zero parts => bif SV.cleanL zero && Nat.beq zero.length sz && Nat.ble 1 sz then partsF ts sz n parts (fillF n (FV.ofL zero)) else none
  | _ => none
def lateOk (ts : FTm) : List (Option Nat × L) → Bool
  | [] => true
  | (_, l) :: r => match evalMk l ts with
    | some _ => lateOk ts r
    | none => false
def evalPlan (call : CallF) (n0 : Nat) : Plan → FTm → Mem → Watch → List Nat → Option (FTm × Mem × List Nat)
  | .done, ts, M, _, L => some (ts, M, L)
  | .one j aft i r, ts, M, W, L => match evalIns call i ts M with
    | some x => match i with
      | .q .. => evalPlan call n0 r x.ts x.M (addW j x.rs W) L
      | .l .. => match dropW aft W with
        | W' => bif watchOk x.ws W' then evalPlan call n0 r x.ts x.M W' (logF n0 x.ws L) else none
    | none => none
  | .alt _ _, _, _, _, _ => none
  | .late js p, ts, M, W, L => bif lateOk ts js then evalPlan call n0 p (forgetF js ts) M W L else none

def evalIL (call : CallF) (n0 : Nat) : List Ins → FTm → Mem → List Nat → Option (FTm × Mem × List Nat)
  | [], ts, M, L => some (ts, M, L)
  | i :: r, ts, M, L => match evalIns call i ts M with
    | some x => evalIL call n0 r x.ts x.M (logF n0 x.ws L)
    | none => none

/-- In w' the blocks ks hold what they hold in w. -/
def SameE (η : Env) (ks : List Nat) (w w' : World) : Prop := ∀ k ∈ ks, ∀ b, η[k]? = some b → ∀ i, i < b.2 → w'.cell? (adr b.1 i) = w.cell? (adr b.1 i)

section
variable {P : Program} {η : Env} {M : Mem} {w : World}

theorem SameE.at (hg : GoodS M η) {ks : List Nat} {w' : World} (h : SameE η ks w w') : SameAt (M.heap η) ks w w' := by
  intro k hk e he i hi
  rw [Mem.heap_get] at he
  split at he
  · simp only [Option.some.injEq] at he
    subst he
    unfold Mem.entAt at hi ⊢
    split at hi
    · rename_i B b hB hb
      rcases Nat.eq_zero_or_pos B.cells.length with h0 | h0
      · rw [Blk.ent_nil (by simpa using h0)] at hi
        simp [Ent.size] at hi
      · rw [Blk.ent_some h0] at hi
        rw [Blk.ent_some h0]
        simp only [Ent.base]
        have := (hg.tot k B b hB hb).1
        exact h k hk b hb i (by simp [Ent.size] at hi; omega)
    · simp [Ent.size] at hi
  · cases he

theorem SameE.of_go {M' : Mem} {η' : Env} {w' : World} {ws ks : List Nat} (hg : Good M η w) (h : Go2 M η w M' η' w' ws) (ha : ∀ k ∈ ks, Alive M k) (hn : ∀ k ∈ ks, k ∉ ws) : SameE η ks w w' := by
  intro k hk b hb i hi
  obtain ⟨e, he, ho⟩ := alive_owns hg.s (ha k hk) hb hi
  obtain ⟨_, j, hj, hx⟩ := ho
  obtain ⟨v, h1, _⟩ := (hg.ok.ent k e he).cell j hj
  rw [hx] at *
  rw [h1]
  refine h.kept.cell ?_ h1
  rintro ⟨k2, hk2, e2, he2, ho2⟩
  have hne : k2 ≠ k := by intro h; subst h; exact hn k2 hk hk2
  exact hg.ok.apart k2 k e2 e hne he2 he _ ho2 ⟨j, hj, rfl⟩

theorem guardF_sound {ops : Array Oper} {o : Oper} {g : Option (Nat × Bool)} {ts : FTm} {a : Act} {b : Bool} (hg : gOf ops o = some g) (ht : TmOk (ts.sv η) a) (h : guardF ts g = some b) : Region.wanted o (yielded ops a.tmps) = b := by
  unfold Region.wanted
  unfold gOf at hg
  split at hg
  · rename_i ho
    cases hg
    rw [ho]
    simpa [guardF] using h
  · rename_i j want ho
    rw [ho]
    dsimp only
    split at hg
    · rename_i t hd
      cases hg
      have hy : yielded ops a.tmps j = match a.tmps[t]? with | some (.bool b) => some b | _ => none := by
        unfold yielded; rw [hd]; rfl
      have htt := ht t
      rw [FTm.get_sv] at htt
      simp only [guardF] at h
      split at h
      · rename_i b' e
        rw [e, sv_bool] at htt
        have hv : a.tmps[t]? = some (.bool b') := by
          have h1 := repB htt
          cases hq : a.tmps[t]? with
          | none => simp [hq, undef] at h1
          | some v => simp [hq] at h1; rw [h1]
        rw [hy, hv]
        simp only [Option.some.injEq] at h
        subst h
        cases want <;> cases b' <;> rfl
      · rename_i x e
        rw [e] at htt
        split at h
        · cases h
          rename_i vs
          have h1 : a.tmps.getD t undef = .tuple vs := by simp only [FV.sv] at htt; exact htt
          rw [hy]
          cases hq : a.tmps[t]? with
          | none => rfl
          | some v => simp [hq] at h1; rw [h1]; rfl
        · cases h
      · cases h
    · cases hg

theorem TmOk.bindF {ts : FTm} {a : Act} {N : Nat} (h : TmOk (ts.sv η) a) (hN : a.tmps.size = N) {o : Oper} {d : Option Nat} (ho : o.dst = d) (hd : dOk N o = true) {c : FV} {v : Value} (hr : Rep (c.sv η) v) :
    TmOk ((bindF ts d c).sv η) (a.put d v) ∧ (a.put d v).tmps.size = N ∧ (a.put d v).defers = a.defers := by
  have := TmOk.bind1 h hN ho hd hr
  have he : (Eng.bindF ts d c).sv η = Eng.bind1 (ts.sv η) d (c.sv η) := by cases d <;> rfl
  rw [he]; exact this

theorem sat_of {ts : FTm} {a : Act} (h : TmOk (ts.sv η) a) : Sat η ts := fun n => ⟨_, by rw [← FTm.get_sv]; exact h n⟩

/-- What goes on behind an operation. -/
def NextF (N : Nat) (M : Mem) (η : Env) (a : Act) (w : World) (d : Option Nat) (x : IR1) (next : Act → World → Prop) : Prop :=
  ∀ η' v w', Go2 M η w x.M η' w' x.ws → TmOk (x.ts.sv η') (a.put d v) → (a.put d v).tmps.size = N → (a.put d v).defers = a.defers → next (a.put d v) w'

theorem evalIns_wp {call : CallF} (hcall : CallOk P call) {N : Nat} {ops : Array Oper} {o : Oper} {i : Ins} (hi : InsIs P N ops o i) {ts : FTm} {a : Act} {x : IR1} {Q : Exit → Act → World → Prop} {next : Act → World → Prop}
    (h : evalIns call i ts M = some x) (hg : Good M η w) (ht : TmOk (ts.sv η) a) (hN : a.tmps.size = N) (hn : NextF N M η a w o.dst x next) :
    if Region.wanted o (yielded ops a.tmps) then o.wp P a w next Q else next (a.put o.dst undef) w := by
  have hund : Rep ((FV.v undef).sv η) undef := rfl
  cases hi with
  | q g q hc hd hgo =>
    simp only [evalIns] at h
    split at h
    · rename_i b hb
      have hw := guardF_sound hgo ht hb
      rw [cond_eq_ite] at h
      split at h
      · rename_i hb1
        subst hb1
        rw [if_pos hw]
        split at h
        · rename_i c hq
          cases h
          obtain ⟨v, sv, h1, h2, h3⟩ := compQ_sound hc hg.ok ht (evalQ_sound hg.s (sat_of ht) hq)
          unfold Oper.wp
          rw [h3 w (fun _ _ _ _ _ _ => rfl)]
          obtain ⟨q1, q2, q3⟩ := TmOk.bindF ht hN rfl hd (h2 v h1)
          exact hn η _ _ (.refl hg _) q1 q2 q3
        · cases h
      · rename_i hb1
        cases h
        rw [if_neg (by rw [hw]; exact hb1)]
        obtain ⟨q1, q2, q3⟩ := TmOk.bindF ht hN rfl hd hund
        exact hn η _ _ (.refl hg _) q1 q2 q3
    · cases h
  | bad g hd hgo =>
    simp only [evalIns] at h
    split at h
    · rename_i b hb
      have hw := guardF_sound hgo ht hb
      rw [cond_eq_ite] at h
      split at h
      · split at h
        · rename_i hl; simp [evalL] at hl
        · cases h
      · rename_i hb1
        cases h
        rw [if_neg (by rw [hw]; exact hb1)]
        obtain ⟨q1, q2, q3⟩ := TmOk.bindF ht hN rfl hd hund
        exact hn η _ _ (.refl hg _) q1 q2 q3
    · cases h
  | l g l hc hd hgo =>
    simp only [evalIns] at h
    split at h
    · rename_i b hb
      have hw := guardF_sound hgo ht hb
      rw [cond_eq_ite] at h
      split at h
      · rename_i hb1
        subst hb1
        rw [if_pos hw]
        split at h
        · rename_i c M' ws hl
          cases h
          refine evalL_sound hg (sat_of ht) hcall hc ht hl next Q fun v sv H' ws' w' hk hs hgo2 hkept => ?_
          obtain ⟨rfl, hst, hk2⟩ := hk
          obtain ⟨η', he, hgs, hgo3, hrep⟩ := hk2 w' hgo2.ok
          obtain ⟨q1, q2, q3⟩ := TmOk.bindF (FTm.ok_ext he ht) hN rfl hd (hrep v hs)
          exact hn η' _ _ ⟨he, hgs, hgo2.trans hgo3, hkept, hst⟩ q1 q2 q3
        · cases h
      · rename_i hb1
        cases h
        rw [if_neg (by rw [hw]; exact hb1)]
        obtain ⟨q1, q2, q3⟩ := TmOk.bindF ht hN rfl hd hund
        exact hn η _ _ (.refl hg _) q1 q2 q3
    · cases h
end
end Go.Proofs.YtebjldkkdapbeaaGreatDoor.Eng
