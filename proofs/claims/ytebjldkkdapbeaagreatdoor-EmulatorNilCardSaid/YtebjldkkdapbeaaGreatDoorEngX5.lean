/- The engine, part X5: the reckoning of what makes or writes memory. -/
import Derived.Test.YtebjldkkdapbeaaGreatDoorEngX4
namespace Go.Proofs.YtebjldkkdapbeaaGreatDoor.Eng
open Go

abbrev CallF := Nat → List FV → Mem → Option (FV × Mem × List Nat)

def storeF (M : Mem) (x : FV) (n : Nat) (cs : List FV) : Option (FV × Mem × List Nat) :=
  match x with
  | .p k off => match M.tr.get k with
    | some B => bif Nat.beq cs.length n && allOneF cs && Nat.ble 1 n && Nat.ble (off + n) B.cells.length then
        some (.any, M.put k ⟨spliceF B.cells off cs, B.more⟩, [k])
      else none
    | none => none
  | _ => none
/-- The cells that a slice shows. -/
def srcF (M : Mem) (sz : Nat) (y : FV) : Option (Nat × List FV) :=
  match y with
  | .s k sz' off m cap => match m with
    | 0 => some (0, [])
    | m + 1 => match cap with
      | some 0 => none
      | _ => bif Nat.beq sz' sz then match M.tr.get k with
          | some B => match takeF ((m + 1) * sz) (B.cells.drop (off * sz)) with
            | some cs => some (m + 1, cs)
            | none => none
          | none => none
        else none
  | _ => none
def capRoom (cap : Option Nat) (n : Nat) : Bool :=
  match cap with
  | some c => Nat.ble n c
  | none => true
def appendF (M : Mem) (sz by_ : Nat) (x y : FV) : Option (FV × Mem × List Nat) :=
  match srcF M sz y, x with
  | some (m, news), .s k sz' off len cap => match m with
    | 0 => some (.s k sz' off len cap, M, [])
    | m + 1 => bif Nat.ble ((len + (m + 1)) * by_) 140737488355328 && Nat.ble M.next 999999998 then match cap with
      | some 0 => bif Nat.beq len 0 then some (.s M.next sz 0 (m + 1) none, M.push ⟨news, true⟩, []) else none
      | cap => match M.tr.get k with
        | some B => bif Nat.beq sz' sz && Nat.ble ((off + len) * sz) B.cells.length then
            bif Nat.ble ((off + len + (m + 1)) * sz) B.cells.length && capRoom cap (len + (m + 1)) then
              some (.s k sz off (len + (m + 1)) cap, M.put k ⟨spliceF B.cells ((off + len) * sz) news, B.more⟩, [k])
            else match takeF (len * sz) (B.cells.drop (off * sz)) with
              | some olds => match cap with
                | some c => bif Nat.ble (c + 1) (len + (m + 1)) then some (.s M.next sz 0 (len + (m + 1)) none, M.push ⟨olds ++ news, true⟩, []) else none
                | none => bif Nat.beq off 0 && Nat.ble 1 B.cells.length then some (.s M.next sz 0 (len + (m + 1)) none, (M.put k ⟨[], true⟩).push ⟨olds ++ news, true⟩, [k]) else none
              | none => none
          else none
        | none => none
    else none
  | _, _ => none
def copyF (M : Mem) (sz : Nat) (x y : FV) : Option (FV × Mem × List Nat) :=
  match srcF M sz y, x with
  | some (m, news), .s k sz' off len cap => match Nat.min m len with
    | 0 => some (.int .i64 0, M, [])
    | n + 1 => match cap with
      | some 0 => none
      | _ => match M.tr.get k, takeF ((n + 1) * sz) news with
        | some B, some cs => bif Nat.beq sz' sz && Nat.ble ((off + (n + 1)) * sz) B.cells.length then
            some (.int .i64 ((n + 1 : Nat) : Int), M.put k ⟨spliceF B.cells (off * sz) cs, B.more⟩, [k])
          else none
        | _, _ => none
  | _, _ => none

def bytesF : List Nat → List FV
  | [] => []
  | b :: l => .int .u8 ((Nat.mod b 256 : Nat) : Int) :: bytesF l
theorem bytesF_get : ∀ (l : List Nat) (i : Nat), (bytesF l)[i]? = (l[i]?).map fun b => FV.int .u8 ((Nat.mod b 256 : Nat) : Int)
  | [], i => by simp [bytesF]
  | b :: l, 0 => by simp [bytesF]
  | b :: l, i + 1 => by simpa [bytesF] using bytesF_get l i
theorem bytesF_length : ∀ (l : List Nat), (bytesF l).length = l.length
  | [] => rfl
  | b :: l => by simp [bytesF, bytesF_length l]
/-- Has the slice room for a cell? -/
def capPos (M : Mem) (k sz off ln : Nat) (cap : Option Nat) : Bool :=
  match cap with
  | some c => Nat.ble 1 c
  | none => Nat.ble 1 ln

def evalL (call : CallF) (l : L) (ts : FTm) (M : Mem) : Option (FV × Mem × List Nat) :=
  match l with
  | .alloc zero => bif SV.cleanL zero && Nat.ble M.next 999999999 then some (.p M.next 0, M.push ⟨FV.ofL zero, false⟩, []) else none
  | .box x => match cellsF (x.fev ts) with
    | cs => bif allOneF cs && Nat.ble M.next 999999999 then some (.p M.next 0, M.push ⟨cs, false⟩, []) else none
  | .store n x v => storeF M (x.fev ts) n (cellsF (v.fev ts))
  | .bslice sz n zero parts => bif SV.cleanL zero && Nat.beq zero.length sz && Nat.ble 1 sz && Nat.ble M.next 999999999 then match partsF ts sz n parts (fillF n (FV.ofL zero)) with
      | some cells => some (.s M.next sz 0 n (some n), M.push ⟨cells, false⟩, [])
      | none => none
    else none
  | .mkslice sz bytes zero ln cp => match ln.fev ts, cp.fev ts with
    | .int _ a, .int _ b => match a, b with
      | .ofNat n, .ofNat c => bif SV.cleanL zero && Nat.beq zero.length sz && Nat.ble 1 sz && Nat.ble n c && Nat.ble c 9223372036854775807 && Nat.ble (c * bytes) 140737488355328 && Nat.ble M.next 999999999 then
          some (.s M.next sz 0 n (some c), M.push ⟨fillF c (FV.ofL zero), false⟩, []) else none
      | _, _ => none
    | _, _ => none
  | .call f args => call f (fevL ts args) M
  | .callv f args => match f.fev ts with
    | .fn g caps => call g (fevL ts args ++ caps) M
    | _ => none
  | .append sz by_ x y => appendF M sz by_ (x.fev ts) (y.fev ts)
  | .copy sz x y => copyF M sz (x.fev ts) (y.fev ts)
  | .mark x => match x.fev ts with
    | .s k sz off ln cap => bif Nat.ble 1 (M.size k) && capPos M k sz off ln cap then some (.s k sz off ln cap, M, [k]) else none
    | _ => none
  | .s2b x => match x.fev ts with
    | .str l => bif Nat.ble M.next 999999999 then some (.s M.next 1 0 l.length none, M.push ⟨bytesF l, true⟩, []) else none
    | _ => none
  | .bad => none

/-- What a call comes to. -/
def CallOk (P : Program) (call : CallF) : Prop := ∀ f args M c M' ws, call f args M = some (c, M', ws) → Callable P f ∧
  ∀ (η : Env) (w : World) (argv : List Value), Good M η w → RepL (args.map (FV.sv η)) argv → Calls P f argv.toArray w fun e w' =>
    ∃ v η', e = .returned v ∧ Env.ext η η' ∧ GoodS M' η' ∧ Goes (M.heap η) w (M'.heap η') w' ∧ Kept w w' (ownsK (M.heap η) ws) ∧ St M M' ws ∧ Rep (c.sv η') v

section
variable {P : Program} {η : Env} {ts : FTm} {M : Mem} {w : World}

theorem spliceF_lit {B : Blk} {b : Base × Nat} {off : Nat} {cs : List FV} (hpos : 0 < B.cells.length) (hle : off + cs.length ≤ B.cells.length) :
    (⟨spliceF B.cells off cs, B.more⟩ : Blk).ent b η = .lit b.1 (splice (B.cells.map (FV.sv η) ++ List.replicate (b.2 - B.cells.length) .any) off (cs.map (FV.sv η))) := by
  rw [Blk.ent_some (by rw [spliceF_length]; exact hpos), spliceF_length, spliceF_map]
  congr 1
  apply List.ext_getElem?
  intro i
  rw [List.getElem?_append, splice_get, splice_get, List.getElem?_append]
  simp only [splice_length, List.length_map, List.length_append, List.length_replicate]
  by_cases hi : i < B.cells.length
  · rw [if_pos hi]
    by_cases h1 : off ≤ i ∧ i < off + cs.length
    · rw [if_pos ⟨h1.1, h1.2, hi⟩, if_pos ⟨h1.1, h1.2, by omega⟩]
    · rw [if_neg (fun h => h1 ⟨h.1, h.2.1⟩), if_neg (fun h => h1 ⟨h.1, h.2.1⟩), if_pos hi]
  · rw [if_neg hi, if_neg (by omega), if_neg hi]

theorem storeF_sound (hg : GoodS M η) (hs : Sat η ts) {x v : O} {n : Nat} {c : FV} {M' : Mem} {ws : List Nat} (h : storeF M (x.fev ts) n (cellsF (v.fev ts)) = some (c, M', ws)) :
    storeV (M.heap η) (x.ev (ts.sv η)) n (v.ev (ts.sv η)) fun H' ws' => KL η M c M' ws .any H' ws' := by
  unfold storeF at h
  split at h
  · rename_i k off e
    split at h
    · rename_i B hB
      rw [cond_eq_ite] at h
      split at h
      · rename_i hc
        simp only [Option.some.injEq, Prod.mk.injEq] at h
        obtain ⟨rfl, rfl, rfl⟩ := h
        simp only [Bool.and_eq_true] at hc
        obtain ⟨⟨⟨c1, c2⟩, c3⟩, c4⟩ := hc
        have c1 := Nat.eq_of_beq_eq_true c1
        have c3 := Nat.le_of_ble_eq_true c3
        have c4 := Nat.le_of_ble_eq_true c4
        obtain ⟨b, hb, hev⟩ := fev_p hs e
        obtain ⟨b', hb', hent, _⟩ := hg.get hB
        rw [hb] at hb'; cases hb'
        have hlt := hg.below k B hB
        rw [Blk.ent_some (by omega)] at hent
        have hv : v.ev (ts.sv η) = (v.fev ts).sv η := fev_ne rfl (by intro h0; rw [h0] at c2; simp [cellsF, allOneF, FV.one] at c2)
        rw [hev, hv]
        simp only [storeV, hent, storeO, storeE, cellsF_sv]
        refine ⟨trivial, by simpa using c1, allOneF_sv c2, by simp; omega, rfl, .put hg hB (by simp [spliceF_length]) _, fun w' hok => ⟨η, .refl η, ?_, ?_, fun _ _ => by simp [FV.sv, Rep]⟩⟩
        · exact hg.turned hB (by simp [spliceF_length]) rfl
        · rw [hg.heap_put hlt hb, spliceF_lit (by omega) (by omega)]
          exact Goes.refl hok
      · cases h
    · cases h
  · cases h

theorem RepL.split : ∀ {l m : List SV} {cs : List Value}, RepL (l ++ m) cs → ∃ c1 c2, cs = c1 ++ c2 ∧ RepL l c1 ∧ RepL m c2
  | [], m, cs, h => ⟨[], cs, rfl, by simp [RepL], h⟩
  | x :: l, m, [], h => by simp [RepL] at h
  | x :: l, m, c :: cs, h => by
    simp only [List.cons_append, RepL] at h
    obtain ⟨c1, c2, rfl, h1, h2⟩ := RepL.split h.2
    exact ⟨c :: c1, c2, rfl, by simp only [RepL]; exact ⟨h.1, h1⟩, h2⟩

theorem evalL_step (hg : GoodS M η) (hs : Sat η ts) {call : CallF} (hcall : CallOk P call) {l : L} {c : FV} {M' : Mem} {ws : List Nat} (h : evalL call l ts M = some (c, M', ws))
    (hap : ∀ sz by_ x y, l ≠ .append sz by_ x y) (hcp : ∀ sz x y, l ≠ .copy sz x y) : l.step P (ts.sv η) (M.heap η) (KL η M c M' ws) := by
  have hcallv : ∀ f args, call f args M = some (c, M', ws) → ∀ args' : List SV, (∀ cs, RepL args' cs → RepL (args.map (FV.sv η)) cs) → CallV P f args' (M.heap η) (KL η M c M' ws) := fun f args hc args' ha => by
    obtain ⟨h1, h2⟩ := hcall f args M c M' ws hc
    refine ⟨h1, fun w argv hok hr => (h2 η w argv ⟨hg, hok⟩ (ha argv hr)).mono ?_⟩
    rintro e w' ⟨v, η', rfl, he, hgs, hgo, hk, hst, hrep⟩
    refine ⟨v, c.sv η', M'.heap η', ws, rfl, ⟨rfl, hst, fun w'' hok => ⟨η', he, hgs, Goes.refl hok, fun _ h => h⟩⟩, hrep, hgo, hk⟩
  cases l
  case alloc zero =>
    simp only [evalL, cond_eq_ite] at h
    split at h
    · rename_i hc
      simp only [Option.some.injEq, Prod.mk.injEq] at h
      obtain ⟨rfl, rfl, rfl⟩ := h
      simp only [Bool.and_eq_true] at hc
      intro b
      have hz := cleanL_of (η ++ [(b, zero.length)]) zero hc.1
      rw [FV.svL_map] at hz
      have hzl : (FV.ofL zero).length = zero.length := by have := congrArg List.length hz; simpa using this
      refine KL.new (t := zero.length) (b := b) hg hc.2 (by omega) (fun _ => hzl.symm) (lit_ent (by omega) (by omega) fun i x y hx hy v hr => ?_) fun v hr => ?_
      · rw [← hz, List.getElem?_map, hy] at hx
        simp only [Option.map_some, Option.some.injEq] at hx
        rw [hx]; exact hr
      · rw [sv_new_p hg]; rw [Mem.heap_len] at hr; exact hr
    · cases h
  case box x =>
    simp only [evalL, cond_eq_ite] at h
    split at h
    · rename_i hc
      simp only [Option.some.injEq, Prod.mk.injEq] at h
      obtain ⟨rfl, rfl, rfl⟩ := h
      simp only [Bool.and_eq_true] at hc
      have hv : x.ev (ts.sv η) = (x.fev ts).sv η := fev_ne rfl (by intro h0; rw [h0] at hc; simp [cellsF, allOneF, FV.one] at hc)
      simp only [L.step, boxV, hv, cellsF_sv]
      refine ⟨allOneF_sv hc.1, fun b => ?_⟩
      refine KL.new (t := (cellsF (x.fev ts)).length) (b := b) hg hc.2 (by omega) (fun _ => rfl) (lit_ent (by simp) (by omega) fun i x y hx hy v hr => ?_) fun v hr => ?_
      · rw [List.getElem?_map, hy] at hx
        simp only [Option.map_some, Option.some.injEq] at hx
        subst hx; exact FV.sv_ext (Env.ext_append η _) y hr
      · rw [sv_new_p hg]; rw [Mem.heap_len] at hr; exact hr
    · cases h
  case store n x v => exact storeF_sound hg hs h
  case bslice sz n zero parts =>
    simp only [evalL, cond_eq_ite] at h
    split at h
    · rename_i hc
      simp only [Bool.and_eq_true] at hc
      obtain ⟨⟨⟨c1, c2⟩, c3⟩, c4⟩ := hc
      have c2 := Nat.eq_of_beq_eq_true c2
      have c3 := Nat.le_of_ble_eq_true c3
      split at h
      · rename_i cells hcells
        simp only [Option.some.injEq, Prod.mk.injEq] at h
        obtain ⟨rfl, rfl, rfl⟩ := h
        have hz := cleanL_of η zero c1
        rw [FV.svL_map] at hz
        refine partsF_sound (η := η) (K := fun rows => ∀ b, KL η M (.s M.next sz 0 n (some n)) (M.push ⟨cells, false⟩) [] (.s (M.heap η).length b sz 0 n n) (M.heap η ++ [.arr b false sz n n fun i => rows.getD i []]) []) parts _ (rowsOf zero n) hcells (by rw [fillF_rows, hz]) (fun r hr => ?_) (rowsOf_length _ _) fun rows he hr hn b => ?_
        · obtain ⟨i, hi⟩ := List.mem_iff_getElem?.1 hr
          have hlt : i < n := by have := (List.getElem?_eq_some_iff.1 hi).1; rwa [rowsOf_length] at this
          rw [rowsOf_get zero n i hlt] at hi; cases hi; exact c2
        · have hcl : cells.length = n * sz := by
            have h1 := flatten_length hr
            rw [← he, hn] at h1; simpa using h1
          refine KL.new (t := n * sz) (b := b) hg c4 (by omega) (fun _ => hcl.symm) (arr_ent (by omega) (by omega) fun i y hy v hrep => ?_) fun v hrep => ?_
          · have hi : i < n * sz := by have := (List.getElem?_eq_some_iff.1 hy).1; omega
            simp only [Ent.cell, if_pos hi] at hrep
            have h1 := flatten_get (by omega) hr i (by rw [hn]; exact hi)
            rw [← he, List.getElem?_map, hy] at h1
            simp only [Option.map_some, Option.some.injEq] at h1
            rw [← h1] at hrep
            exact FV.sv_ext (Env.ext_append η _) y hrep
          · rw [Mem.heap_len] at hrep
            exact sv_new_s hg b _ sz 0 n (some n) hrep
      · cases h
    · cases h
  case mkslice sz bytes zero ln cp =>
    simp only [evalL] at h
    split at h
    · rename_i k1 a k2 bb e1 e2
      split at h
      · rename_i n c
        rw [cond_eq_ite] at h
        split at h
        · rename_i hc
          simp only [Bool.and_eq_true] at hc
          obtain ⟨⟨⟨⟨⟨⟨c1, c2⟩, c3⟩, c4⟩, c5⟩, c6⟩, c7⟩ := hc
          have c2 := Nat.eq_of_beq_eq_true c2
          have c3 := Nat.le_of_ble_eq_true c3
          have c4 := Nat.le_of_ble_eq_true c4
          have c5 := Nat.le_of_ble_eq_true c5
          have c6 := Nat.le_of_ble_eq_true c6
          simp only [Option.some.injEq, Prod.mk.injEq] at h
          obtain ⟨rfl, rfl, rfl⟩ := h
          have hz := cleanL_of η zero c1
          rw [FV.svL_map] at hz
          have hzl : (FV.ofL zero).length = sz := by have := congrArg List.length hz; rw [← c2]; simpa using this
          simp only [L.step, fev_int e1, fev_int e2, mksliceV]
          refine ⟨Int.natCast_nonneg _, by simp only [Int.ofNat_eq_natCast]; omega, Int.ofNat_le.2 c5, (by
            show ((c : Nat) : Int) * ((bytes : Nat) : Int) ≤ ((140737488355328 : Nat) : Int)
            rw [← Int.natCast_mul]; exact Int.ofNat_le.2 c6), fun b => ?_⟩
          have hcl : (fillF c (FV.ofL zero)).length = c * sz := by rw [fillF_length, hzl]
          refine KL.new (t := c * sz) (b := b) hg c7 (by omega) (fun _ => hcl.symm) (arr_ent (by simp) (by omega) fun i y hy v hrep => ?_) fun v hrep => ?_
          · have hi : i < c * sz := by have := (List.getElem?_eq_some_iff.1 hy).1; omega
            simp only [Ent.cell, Int.toNat_natCast, Int.ofNat_eq_natCast, if_pos hi] at hrep
            have hr : ∀ r ∈ rowsOf zero c, r.length = sz := fun r hr => by
              obtain ⟨i, hi⟩ := List.mem_iff_getElem?.1 hr
              have hlt : i < c := by have := (List.getElem?_eq_some_iff.1 hi).1; rwa [rowsOf_length] at this
              rw [rowsOf_get zero c i hlt] at hi; cases hi; exact c2
            have h1 := flatten_get (by omega) hr i (by rw [rowsOf_length]; exact hi)
            have h2 := fillF_rows η (FV.ofL zero) c
            rw [hz] at h2
            rw [← h2, List.getElem?_map, hy] at h1
            simp only [Option.map_some, Option.some.injEq] at h1
            have hd : i / sz < c := Nat.div_lt_of_lt_mul (by rw [Nat.mul_comm]; exact hi)
            have hrz : (rowsOf zero c).getD (i / sz) [] = zero := by rw [List.getD_eq_getElem?_getD, rowsOf_get zero c _ hd]; rfl
            rw [hrz] at h1
            rw [← h1] at hrep
            exact FV.sv_ext (Env.ext_append η _) y hrep
          · rw [Mem.heap_len] at hrep
            exact sv_new_s hg b _ sz 0 n (some c) hrep
        · cases h
      · cases h
    · cases h
  case call f args => exact hcallv f _ h _ fun cs hr => fevL_sv args hr
  case callv f args =>
    simp only [evalL] at h
    split at h
    · rename_i g caps e
      simp only [L.step, fev_fn e, callvV]
      refine hcallv g _ h _ fun cs hr => ?_
      obtain ⟨c1, c2, rfl, h1, h2⟩ := RepL.split hr
      rw [List.map_append]
      exact (fevL_sv args h1).append h2
    · cases h
  case mark x =>
    simp only [evalL] at h
    split at h
    · rename_i k sz off ln cap e1
      rw [cond_eq_ite] at h
      split at h
      · rename_i hc
        simp only [Option.some.injEq, Prod.mk.injEq] at h
        obtain ⟨rfl, rfl, rfl⟩ := h
        simp only [Bool.and_eq_true] at hc
        have c1 := Nat.le_of_ble_eq_true hc.1
        simp only [L.step]
        rcases fev_s hs e1 with ⟨h0, he⟩ | ⟨h0, b, hb, he⟩
        · subst h0
          simp only [capPos] at hc
          have := Nat.le_of_ble_eq_true hc.2
          omega
        · rw [he]
          have hcp : 0 < capOf ln sz off b.2 cap := by
            unfold capPos at hc
            unfold capOf
            split at hc
            · exact Nat.le_of_ble_eq_true hc.2
            · have := Nat.le_of_ble_eq_true hc.2
              dsimp only; omega
          refine ⟨hcp, ?_, rfl, .refl _ _, fun w' hok => ⟨η, .refl η, hg, Goes.refl hok, fun v hv => ?_⟩⟩
          · unfold Mem.size at c1
            cases hB : M.tr.get k with
            | none => rw [hB] at c1; simp at c1
            | some B =>
              rw [hB] at c1
              dsimp only at c1
              obtain ⟨b', hb', hent, h1, _⟩ := hg.get hB
              rw [hb] at hb'; cases hb'
              rw [hent, Blk.ent_some c1]
              exact ⟨rfl, rfl, by simp [Ent.size]; omega⟩
          · have hsv : (FV.s k sz off ln cap).sv η = .s k b.1 sz off ln (capOf ln sz off b.2 cap) := by
              cases cap with
              | none => simp [FV.sv, hb]
              | some c => cases c with
                | zero => exact absurd rfl h0
                | succ c => simp [FV.sv, hb]
            rw [hsv]; exact hv
      · cases h
    · cases h
  case s2b x =>
    simp only [evalL] at h
    split at h
    · rename_i l e1
      rw [cond_eq_ite] at h
      split at h
      · rename_i hc
        simp only [Option.some.injEq, Prod.mk.injEq] at h
        obtain ⟨rfl, rfl, rfl⟩ := h
        simp only [L.step, fev_str e1, s2bV, bytesOf_size]
        intro b cap' hcap
        refine KL.new (t := cap' * 1) (b := b) hg hc (by rw [bytesF_length]; omega) (fun h => by cases h) (arr_ent (Nat.le_refl _) (by rw [bytesF_length]; omega) fun i y hy v hrep => ?_) fun v hrep => ?_
        · rw [bytesF_get] at hy
          cases hli : l[i]? with
          | none => rw [hli] at hy; cases hy
          | some bb =>
            rw [hli] at hy
            simp only [Option.map_some, Option.some.injEq] at hy
            subst hy
            have hlt : i < l.length := (List.getElem?_eq_some_iff.1 hli).1
            simp only [Ent.cell, Nat.mul_one, if_pos hlt, Nat.div_one, Nat.mod_one, byteRow, bytesOf_list] at hrep
            have hm : (UInt8.ofNat bb).toNat = Nat.mod bb 256 := by simp; rfl
            have hgd : (l.map UInt8.ofNat).getD i 0 = UInt8.ofNat bb := by simp [List.getD_eq_getElem?_getD, hli]
            rw [hgd, hm] at hrep
            rw [sv_int]
            exact hrep
        · rw [Mem.heap_len] at hrep
          refine sv_new_s hg b _ 1 0 l.length none ?_
          have : capOf l.length 1 0 (cap' * 1) none = cap' := by simp only [capOf, Nat.mul_one, Nat.div_one]; omega
          rw [this]; exact hrep
      · cases h
    · cases h
  case bad => cases h
  case append => exact absurd rfl (hap _ _ _ _)
  case copy => exact absurd rfl (hcp _ _ _)
end
end Go.Proofs.YtebjldkkdapbeaaGreatDoor.Eng
