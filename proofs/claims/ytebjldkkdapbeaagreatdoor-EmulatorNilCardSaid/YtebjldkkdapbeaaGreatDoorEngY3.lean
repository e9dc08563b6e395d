/- The engine, part Y3: the canonical order serves for every order. -/
import Derived.Test.YtebjldkkdapbeaaGreatDoorEngY2
namespace Go.Proofs.YtebjldkkdapbeaaGreatDoor.Eng
open Go

/-- A maker that has come early: its number, what it is, its block, its cells. -/
structure Ely where
  i : Nat
  l : L
  b : Base
  vs : List Value
def Ely.ent (e : Ely) : Ent := .lit e.b (e.vs.map SV.v)
/-- In this state the operation makes these cells, in whatever world. -/
def MakesAt (P : Program) (a : Act) (o : Oper) (l : L) (vs : List Value) : Prop :=
  (∀ u ∈ vs, One u) ∧ ∃ t : TypeId, ∀ w, (execOp a.eval o).run P w = .ok (.value (makeVal l (w.heap.size, 0))) (w.alloc (.cells vs.toArray t))
theorem MakesAt.same {P : Program} {a : Act} {o : Oper} {l : L} {vs vs' : List Value} (h : MakesAt P a o l vs) (h' : MakesAt P a o l vs') : vs = vs' := by
  obtain ⟨_, t, h1⟩ := h
  obtain ⟨_, t', h2⟩ := h'
  have h3 := (h1 default).symm.trans (h2 default)
  simp only [Result.ok.injEq] at h3
  have h4 := congrArg World.heap h3.2
  have h5 : ((default : World).heap.push (.cells vs.toArray t))[(default : World).heap.size]? = ((default : World).heap.push (.cells vs'.toArray t'))[(default : World).heap.size]? := congrArg (·[(default : World).heap.size]?) h4
  simp at h5
  exact h5.1
theorem repL_v : ∀ vs : List Value, RepL (vs.map SV.v) vs
  | [] => by simp [RepL]
  | v :: vs => by simp only [List.map_cons, RepL]; exact ⟨rfl, repL_v vs⟩

section
variable {P : Program} {call : CallF} {N n0 : Nat} {ops : Array Oper} {M0 : Mem} {η0 : Env} {w0 : World}

/-- What is known when the actual order has done the makers E beside what the canonical one has done. -/
structure Inv (P : Program) (N : Nat) (ops : Array Oper) (M0 : Mem) (η0 : Env) (w0 : World) (listed : Array Bool) (ts : FTm) (M : Mem) (η : Env) (W : Watch) (L : List Nat) (fA : Nat) (lA : Array Bool) (F : Fl) (a : Act) (w : World) (E : List Ely) : Prop where
  go : Go2 M0 η0 w0 M η w L
  ex : Ok (M.heap η ++ E.map Ely.ent) w
  tm : TmOk (ts.sv η) a
  sz : a.tmps.size = N
  fl : FloatE η M w W F
  la : ∀ j, lA.getD j true = (listed.getD j true || (E.map Ely.i).contains j)
  ss : listed.size = ops.size ∧ lA.size = ops.size
  nd : (E.map Ely.i).Nodup
  rd : ∀ e ∈ E, e.i ∈ Region.ready .any ops listed
  nb : ∀ e ∈ E, w0.heap.size ≤ e.b.1
  al : ∀ e ∈ E, makerAt P ops e.i = some e.l
  mks : ∀ e ∈ E, ∀ o, ops[e.i]? = some o → MakesAt P a o e.l e.vs
  fr : ∀ e ∈ E, Region.free .any ops listed e.i = true
  tv : ∀ e ∈ E, ∀ o d, ops[e.i]? = some o → o.dst = some d → a.tmps.getD d undef = makeVal e.l e.b
  nw : ∀ x ∈ F, ∀ e ∈ E, waits ops .any e.i x.1 = false
  fu : unl lA ops.size ≤ fA
  cl : Closed .any ops listed ∧ Closed .any ops lA

variable {listed : Array Bool} {ts : FTm} {M : Mem} {η : Env} {W : Watch} {L : List Nat} {fA : Nat} {lA : Array Bool} {F : Fl} {a : Act} {w : World} {E : List Ely}

theorem Inv.sub (h : Inv P N ops M0 η0 w0 listed ts M η W L fA lA F a w E) {j : Nat} (hj : listed.getD j true = true) : lA.getD j true = true := by
  rw [h.la j, hj]; rfl
theorem Inv.unlisted (h : Inv P N ops M0 η0 w0 listed ts M η W L fA lA F a w E) {i : Nat} (hr : i ∈ Region.ready .any ops listed) (hi : i ∉ E.map Ely.i) : lA.getD i true = false := by
  rw [h.la i, (mem_ready.1 hr).1]; simpa using hi
theorem Inv.ready (h : Inv P N ops M0 η0 w0 listed ts M η W L fA lA F a w E) {i : Nat} (hr : i ∈ Region.ready .any ops listed) (hi : i ∉ E.map Ely.i) : i ∈ Region.ready .any ops lA :=
  ready_sub (h.ss.1.trans h.ss.2.symm) (fun _ => h.sub) hr (h.unlisted hr hi)
theorem ready_lt {md : Region.Mode} {i : Nat} (hr : i ∈ Region.ready md ops listed) : i < ops.size := by
  obtain ⟨_, o, ho, _⟩ := mem_ready.1 hr
  exact (Array.getElem?_eq_some_iff.1 ho).1

/-- The lists, one number on. -/
theorem Inv.la' (h : Inv P N ops M0 η0 w0 listed ts M η W L fA lA F a w E) {i : Nat} : ∀ j, (lA.setIfInBounds i true).getD j true = ((listed.setIfInBounds i true).getD j true || (E.map Ely.i).contains j) := fun j => by
  rw [getD_set_iff, getD_set_iff, h.la j]
  cases listed.getD j true <;> cases (E.map Ely.i).contains j <;> cases decide (i = j) <;> rfl

theorem Inv.done (h : Inv P N ops M0 η0 w0 listed ts M η W L fA lA F a w E) (hr : Region.ready .any ops listed = []) : E = [] ∧ Region.ready .any ops lA = [] := by
  have hE : E = [] := by
    cases E with
    | nil => rfl
    | cons e r => have := h.rd e (by simp); rw [hr] at this; cases this
  refine ⟨hE, ?_⟩
  rw [List.eq_nil_iff_forall_not_mem]
  intro j hj
  have hlj : listed.getD j true = false := by
    have := (mem_ready.1 hj).1
    rw [h.la j] at this
    simp only [Bool.or_eq_false_iff] at this
    exact this.1
  have : j ∈ Region.ready .any ops listed := ready_sub (h.ss.2.trans h.ss.1.symm) (fun k hk => by rw [h.la k, hE] at hk; simpa using hk) hj hlj
  rw [hr] at this; cases this

/-- What is watched stays, if nothing old is written. -/
theorem FloatE.kept {M' : Mem} {η' : Env} {w' : World} {ws : List Nat} {W' : Watch} {F' : Fl} (hf : FloatE η M w W F) (hg : Good M η w) (hgo : Go2 M η w M' η' w' ws)
    (hF : ∀ x ∈ F', x ∈ F ∧ ∀ ks, (x.1, ks) ∈ W → (x.1, ks) ∈ W') (hW : ∀ x ∈ W', x ∈ W ∧ ∀ k ∈ x.2, k ∉ ws) : FloatE η' M' w' W' F' ∧ ∀ x ∈ F', x.2 w' := by
  have step : ∀ y ∈ F', y.2 w' ∧ ∃ ks : List Nat, (ks = [] ∨ (y.1, ks) ∈ W') ∧ ∀ w'', SameE η' ks w' w'' → y.2 w'' := fun y hy => by
    obtain ⟨hyF, hyW⟩ := hF y hy
    obtain ⟨ks, h1, h2⟩ := hf.1 y hyF
    rcases h1 with rfl | h1
    · exact ⟨h2 w' (fun k hk => by cases hk), [], .inl rfl, fun w'' _ => h2 w'' (fun k hk => by cases hk)⟩
    · have hm := hyW ks h1
      have hn := (hW _ hm).2
      have hal : ∀ k ∈ ks, Alive M k := fun k hk => (hf.2 _ h1 k hk).2
      have hsame := SameE.of_go hg hgo hal hn
      refine ⟨h2 w' hsame, ks, .inr hm, fun w'' h3 => h2 w'' fun k hk b hb i hi => ?_⟩
      rw [h3 k hk b (hgo.ext k b hb) i hi]
      exact hsame k hk b hb i hi
  refine ⟨⟨fun y hy => (step y hy).2, fun y hy k hk => ?_⟩, fun y hy => (step y hy).1⟩
  obtain ⟨hyW, hyn⟩ := hW y hy
  obtain ⟨k1, k2⟩ := hf.2 y hyW k hk
  exact ⟨Nat.lt_of_lt_of_le k1 hgo.st.next, hgo.st.keep k k1 (hyn k hk) k2⟩

theorem watchOk_nil : ∀ (W : Watch), watchOk [] W = true
  | [] => rfl
  | x :: r => by
    simp only [watchOk, watchOk_nil r, Bool.and_true]
    induction x.2 with
    | nil => rfl
    | cons k ks ih => simp [noneOf, hasF, ih]

/-- The reckoning of a maker. -/
theorem maker_is {o : Oper} {ins : Ins} {l : Eng.L} (hq : compQ P o.op = none) (hl : compL P o.op = some l) (hg : o.guard = none) (hc : compIns P N ops o = some ins) : ins = .l o.dst none l := by
  unfold compIns at hc
  split at hc
  · split at hc
    · rename_i g hgo
      rw [hq, hl] at hc
      unfold gOf at hgo
      rw [hg] at hgo
      dsimp only at hgo
      cases hgo
      simp at hc
      exact hc.symm
    · cases hc
  · cases hc

/-- Another operation that comes up leaves the early ones be. -/
theorem apart_of {i j : Nat} {oi oj : Oper} (hf : Region.free .any ops listed i = true) (hi : ops[i]? = some oi) (hj : ops[j]? = some oj) (hne : j ≠ i) (hjr : j ∈ Region.ready .any ops listed) (hil : listed.getD i true = false) : oi.apart ops oj = true := by
  refine Region.free_spec hi hf j oj hj hne (mem_ready.1 hjr).1 fun e he hb heq => ?_
  obtain ⟨_, o', ho', hall⟩ := mem_ready.1 hjr
  rw [hj] at ho'; cases ho'
  have h1 := hall e he hb
  rw [heq] at h1
  by_cases hlt : i < listed.size
  · rw [getD_ft hlt, hil] at h1; cases h1
  · rw [getD_ge hlt] at h1; cases h1

theorem bindF_ok {o : Oper} {d : Option Nat} {c : FV} (h : TmOk (ts.sv η) a) (hd : ∀ t, d = some t → Rep (c.sv η) (a.tmps.getD t undef)) : TmOk ((bindF ts d c).sv η) a := by
  cases d with
  | none => exact h
  | some d =>
    intro t
    rw [FTm.get_sv]
    simp only [bindF, FTm.get, cond_eq_ite, Nat.beq_eq]
    split
    · rename_i e; subst e; exact hd _ rfl
    · have := h t; rw [FTm.get_sv] at this; exact this

theorem lits_ro (E : List Ely) : ∀ e ∈ E.map Ely.ent, e.ro = false := fun e he => by
  rw [List.mem_map] at he
  obtain ⟨x, _, rfl⟩ := he
  rfl

/-- The early ones' part, behind another operation. -/
theorem Inv.put_mk (hsel : Region.noSelect ops = true) (h : Inv P N ops M0 η0 w0 listed ts M η W L fA lA F a w E) {j : Nat} {oj : Oper} (hj : ops[j]? = some oj) (hjr : j ∈ Region.ready .any ops listed) (hjE : j ∉ E.map Ely.i) (v : Value) :
    (∀ e ∈ E, ∀ o, ops[e.i]? = some o → MakesAt P (a.put oj.dst v) o e.l e.vs) ∧ ∀ e ∈ E, ∀ o d, ops[e.i]? = some o → o.dst = some d → (a.put oj.dst v).tmps.getD d undef = makeVal e.l e.b := by
  have hap : ∀ e ∈ E, ∀ o, ops[e.i]? = some o → o.apart ops oj = true := fun e he o ho =>
    apart_of (h.fr e he) ho hj (fun h1 => hjE (by rw [h1]; exact List.mem_map_of_mem he)) hjr (mem_ready.1 (h.rd e he)).1
  refine ⟨fun e he o ho => ?_, fun e he o d ho hd => ?_⟩
  · obtain ⟨_, _, h3⟩ := Oper.apart_spec (hap e he o ho)
    obtain ⟨k1, t, k2⟩ := h.mks e he o ho
    refine ⟨k1, t, fun w' => ?_⟩
    rw [execOp_put o (fun cs b => Region.noSelect_spec hsel e.i o cs b ho) a oj.dst v h3]
    exact k2 w'
  · obtain ⟨_, h2, _⟩ := Oper.apart_spec (hap e he o ho)
    have hnd := h2 d hd
    have := h.tv e he o d ho hd
    cases hod : oj.dst with
    | none => simpa [Act.put] using this
    | some d' =>
      have hdd : d' ≠ d := fun h1 => hnd (by rw [hod, h1])
      simpa [Act.put, Array.getElem?_setIfInBounds_ne hdd] using this
theorem Inv.fr' (h : Inv P N ops M0 η0 w0 listed ts M η W L fA lA F a w E) {i : Nat} : ∀ e ∈ E, Region.free .any ops (listed.setIfInBounds i true) e.i = true := fun e he =>
  free_sub (fun j hj => by rw [getD_set_iff, hj]; rfl) (h.fr e he)

/-- The canonical order comes to a maker that has been done. -/
theorem Inv.catch {E1 E2 : List Ely} {e : Ely} (h : Inv P N ops M0 η0 w0 listed ts M η W L fA lA F a w (E1 ++ e :: E2)) {cells : List FV} (hc : evalMk e.l ts = some cells) (hs : Nat.ble M.next 999999999 = true) {o : Oper} (ho : ops[e.i]? = some o) (hm : e.l.maker = true) (hcl : compL P o.op = some e.l) :
    Inv P N ops M0 η0 w0 (listed.setIfInBounds e.i true) (bindF ts o.dst (mkFV e.l M.next)) (M.push ⟨cells, false⟩) (η ++ [(e.b, cells.length)]) (dropW (afts P ops e.i) W) L fA lA F a w (E1 ++ E2) := by
  have hgs := h.go.gs
  have hself : e ∈ E1 ++ e :: E2 := List.mem_append_right _ (by simp)
  obtain ⟨vs, t, hrep, hone, hrun⟩ := maker_run (P := P) (o := o) hm hcl h.tm hc
  have hvs : e.vs = vs := MakesAt.same (h.mks e hself o ho) ⟨hone, t, hrun⟩
  have hlen : e.vs.length = cells.length := by rw [hvs]; simpa using hrep.length
  have hsle : Ent.sle e.ent (Blk.ent ⟨cells, false⟩ (e.b, cells.length) (η ++ [(e.b, cells.length)])) := by
    refine lit_ent (by rw [List.length_map]; omega) (Nat.le_refl _) fun i x y hx hy v hr => ?_
    rw [List.getElem?_map] at hx
    cases hv : e.vs[i]? with
    | none => rw [hv] at hx; cases hx
    | some u =>
      rw [hv] at hx
      simp only [Option.map_some, Option.some.injEq] at hx
      subst hx
      have hr : v = u := hr
      subst hr
      obtain ⟨v', hv', hrv⟩ := hrep.get i (y.sv η) (by rw [List.getElem?_map, hy]; rfl)
      rw [hvs, hv'] at hv
      cases hv
      exact FV.sv_ext (Env.ext_append η _) y hrv
  have hperm : (M.heap η ++ (E1 ++ e :: E2).map Ely.ent).Perm ((M.heap η ++ [e.ent]) ++ (E1 ++ E2).map Ely.ent) := by
    rw [List.append_assoc]
    refine List.Perm.append_left _ ?_
    simp only [List.map_append, List.map_cons]
    exact List.perm_middle
  have hex := h.ex.perm hperm
  have hok1 : Ok (M.heap η ++ [e.ent]) w := (hex.firsts (List.prefix_append _ _)).ok
  have hgr : Goes (M.heap η ++ [e.ent]) w ((M.push ⟨cells, false⟩).heap (η ++ [(e.b, cells.length)])) w := hgs.grown hsle hok1
  have hgs' : GoodS (M.push ⟨cells, false⟩) (η ++ [(e.b, cells.length)]) :=
    hgs.push (by have := Nat.le_of_ble_eq_true hs; omega) (Nat.le_refl _) (fun _ => rfl)
  have hst : St M (M.push ⟨cells, false⟩) [] := .push hgs _ _
  have hmem : ∀ x ∈ E1 ++ E2, x ∈ E1 ++ e :: E2 := fun x hx => by
    rcases List.mem_append.1 hx with hx | hx
    · exact List.mem_append_left _ hx
    · exact List.mem_append_right _ (List.mem_cons_of_mem _ hx)
  have hnd := h.nd
  simp only [List.map_append, List.map_cons] at hnd
  have hnd2 := (List.perm_middle.nodup_iff).1 hnd
  rw [List.nodup_cons] at hnd2
  have hne : ∀ x ∈ E1 ++ E2, x.i ≠ e.i := fun x hx he => hnd2.1 (by
    rw [← List.map_append, ← he]; exact List.mem_map_of_mem hx)
  refine ⟨⟨h.go.ext.trans (Env.ext_append η _), hgs', ⟨hgr.ok, h.go.goes.kept, fun x hx hown => ?_⟩, h.go.kept, h.go.st.trans hst (fun _ h => h) (fun _ h => by cases h)⟩, ?_, ?_, h.sz, ⟨fun x hx => ?_, fun x hx k hk => ?_⟩, fun j => ?_, ⟨by simp [h.ss.1], h.ss.2⟩, ?_, fun x hx => ready_mono (h.rd x (hmem x hx)) (hne x hx), fun x hx => h.nb x (hmem x hx), fun x hx => h.al x (hmem x hx), fun x hx => h.mks x (hmem x hx), fun x hx => h.fr' x (hmem x hx), fun x hx => h.tv x (hmem x hx), fun x hx y hy => h.nw x hx y (hmem y hy), h.fu, ⟨h.cl.1.set (h.rd e hself), h.cl.2⟩⟩
  · have hlt : x.block < w.heap.size := Nat.lt_of_lt_of_le hx h.go.goes.kept.size
    obtain ⟨f, hf, hfo⟩ := hgr.own x hlt hown
    rcases List.mem_append.1 hf with hf | hf
    · exact h.go.goes.own x hx ⟨f, hf, hfo⟩
    · simp at hf; subst hf
      obtain ⟨_, i, _, hxi⟩ := hfo
      have hb := h.nb e hself
      rw [hxi] at hx
      simp [adr, Ely.ent, Ent.base] at hx
      omega
  · exact Ok.frame hex hgr (lits_ro _) (Mem.heap_ro _ _)
  · refine bindF_ok (o := o) (FTm.ok_ext (Env.ext_append η _) h.tm) fun t ht => ?_
    rw [h.tv e hself o t ho ht]
    exact mkFV_rep hgs hc _ _
  · obtain ⟨ks, h1, h2⟩ := h.fl.1 x hx
    refine ⟨ks, ?_, fun w' hs' => h2 w' fun k hk b hb i hi => hs' k hk b (Env.ext_append η _ k b hb) i hi⟩
    rcases h1 with rfl | h1
    · exact .inl rfl
    · exact .inr (mem_dropW h1 (waits_afts (P := P) (h.nw x hx e hself)))
  · obtain ⟨k1, k2⟩ := h.fl.2 x (mem_of_dropW hx) k hk
    exact ⟨Nat.lt_of_lt_of_le k1 hst.next, hst.keep k k1 (by simp) k2⟩
  · rw [h.la j, getD_set_iff]
    simp only [List.map_append, List.map_cons, List.contains_eq_mem, List.mem_append, List.mem_cons]
    by_cases hj : e.i = j
    · subst hj; simp
    · have hj' : ¬ j = e.i := fun h => hj h.symm
      simp [hj, hj']
  · rw [List.map_append]; exact hnd2.2

/-- A maker comes early. -/
theorem Inv.earlier (hsel : Region.noSelect ops = true) (h : Inv P N ops M0 η0 w0 listed ts M η W L (fA + 1) lA F a w E) {j : Nat} {o : Oper} {l : Eng.L} {vs : List Value} {t : TypeId} (hj : j ∈ Region.ready .any ops listed) (hjE : j ∉ E.map Ely.i) (hz : makerAt P ops j = some l) (ho : ops[j]? = some o)
    (hfree : Region.free .any ops listed j = true) (hany : ∀ t, o.dst = some t → ts.get t = .any) (hdN : dOk N o = true) (hone : ∀ u ∈ vs, One u) (hrun : ∀ w, (execOp a.eval o).run P w = .ok (.value (makeVal l (w.heap.size, 0))) (w.alloc (.cells vs.toArray t))) :
    (∀ x ∈ F.filter (fun x => !waits ops .any j x.1), x.2 (w.alloc (.cells vs.toArray t))) ∧ Inv P N ops M0 η0 w0 listed ts M η W L fA (lA.setIfInBounds j true) (F.filter fun x => !waits ops .any j x.1) (a.put o.dst (makeVal l (w.heap.size, 0))) (w.alloc (.cells vs.toArray t)) (E ++ [⟨j, l, (w.heap.size, 0), vs⟩]) := by
  obtain ⟨hg, hk⟩ := alloc_sound h.ex (repL_v vs) hone t
  have hk0 : ∀ S : Addr → Prop, Kept w (w.alloc (.cells vs.toArray t)) S := fun S => (Kept.refl w S).trans hk fun x _ hx => by
    obtain ⟨k, hk, _⟩ := hx; cases hk
  have hok' : Ok (M.heap η) (w.alloc (.cells vs.toArray t)) := (hg.ok.firsts (by rw [List.append_assoc]; exact List.prefix_append _ _)).ok
  have hg2 : Go2 M η w M η (w.alloc (.cells vs.toArray t)) [] := ⟨.refl _, h.go.gs, ⟨hok', hk0 _, fun _ _ h => h⟩, hk0 _, .refl _ _⟩
  have hfl := FloatE.kept (W' := W) (F' := F.filter fun x => !waits ops .any j x.1) h.fl h.go.good hg2 (fun x hx => ⟨(List.mem_filter.1 hx).1, fun _ h => h⟩) (fun x hx => ⟨hx, fun k _ => by simp⟩)
  have hjl := h.unlisted hj hjE
  obtain ⟨pm, pt⟩ := h.put_mk hsel ho hj hjE (makeVal l (w.heap.size, 0))
  refine ⟨hfl.2, ⟨⟨h.go.ext, h.go.gs, ⟨hok', h.go.goes.kept.trans (hk0 (fun _ => False)) (fun _ _ h => h.elim), h.go.goes.own⟩, h.go.kept.trans (hk0 (fun _ => False)) (fun _ _ h => h.elim), h.go.st⟩, ?_, h.tm.put_any hany _, ?_, hfl.1, fun k => ?_, ⟨h.ss.1, by simp [h.ss.2]⟩, ?_, fun e he => ?_, fun e he => ?_, fun e he => ?_, fun e he o' ho' => ?_, fun e he => ?_, fun e he o' d ho' hd => ?_, fun x hx e he => ?_, ?_, ⟨h.cl.1, h.cl.2.set (h.ready hj hjE)⟩⟩⟩
  · rw [List.append_assoc] at hg
    simpa [Ely.ent] using hg.ok
  · have := h.sz
    cases o.dst <;> simpa [Act.put] using this
  · rw [getD_set_iff, h.la k]
    simp only [List.map_append, List.map_cons, List.map_nil, List.contains_eq_mem, List.mem_append, List.mem_singleton]
    by_cases hjk : j = k
    · subst hjk; simp
    · have hjk' : ¬ k = j := fun h => hjk h.symm
      simp [hjk, hjk']
  · simp only [List.map_append, List.map_cons, List.map_nil]
    rw [List.nodup_append]
    refine ⟨h.nd, by simp, fun x hx y hy => ?_⟩
    simp at hy; subst hy
    intro e; subst e; exact hjE hx
  · rcases List.mem_append.1 he with he | he
    · exact h.rd e he
    · simp at he; subst he; exact hj
  · rcases List.mem_append.1 he with he | he
    · exact h.nb e he
    · simp at he; subst he; exact h.go.goes.kept.size
  · rcases List.mem_append.1 he with he | he
    · exact h.al e he
    · simp at he; subst he; exact hz
  · rcases List.mem_append.1 he with he | he
    · exact pm e he o' ho'
    · simp at he; subst he
      dsimp only at ho' ⊢
      rw [ho] at ho'; cases ho'
      refine ⟨hone, t, fun w' => ?_⟩
      have hself : ∀ d, o.dst = some d → d ∉ o.looksAt ops := by
        obtain ⟨o2, ho2, _, _, _, _, hs⟩ := makerAt_spec hz
        rw [ho] at ho2; cases ho2
        exact hs
      rw [execOp_put o (fun cs b => Region.noSelect_spec hsel j o cs b ho) a o.dst _ hself]
      exact hrun w'
  · rcases List.mem_append.1 he with he | he
    · exact h.fr e he
    · simp at he; subst he; exact hfree
  · rcases List.mem_append.1 he with he | he
    · exact pt e he o' d ho' hd
    · simp at he; subst he
      dsimp only at ho' ⊢
      rw [ho] at ho'; cases ho'
      rw [hd]
      unfold dOk at hdN
      rw [hd] at hdN
      have hlt : d < a.tmps.size := by rw [h.sz]; exact of_decide_eq_true hdN
      simp [Act.put, hlt]
  · obtain ⟨hxF, hxw⟩ := List.mem_filter.1 hx
    rcases List.mem_append.1 he with he | he
    · exact h.nw x hxF e he
    · simp at he; subst he; simpa using hxw
  · have := unl_set hjl (ready_lt hj)
    have := h.fu
    omega
end
end Go.Proofs.YtebjldkkdapbeaaGreatDoor.Eng
