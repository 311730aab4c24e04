import Derived.Test.YtpjkibffomknmaaGreatAbsRes
import Derived.Test.YtpjkibffomknmaaGreatAbsDrawn
/- Code: the structured part. -/
namespace Go.Abs
open Go

section
variable {P : Program} {N : Nat} {cl : Tgt → List Value → M Value} {fuel : Nat} {self : FuncId}

def BsOk (C : Cx) (bs : List (Nat × List Nat)) (k : List Item) : Prop := ∀ id, match bs.find? (fun p => Nat.beq p.1 id) with
  | some p => ∃ items, exitTo id k = some items ∧ C.exits id = some (p.2, items)
  | none => exitTo id k = none

theorem BsOk.pass {C : Cx} {bs : List (Nat × List Nat)} {k : List Item} (h : BsOk C bs k) (x : Item) (hx : ∀ id, exitTo id (x :: k) = exitTo id k) (C' : Cx) (hC : C'.exits = C.exits) : BsOk C' bs (x :: k) := by
  intro id
  rw [hx, hC]
  exact h id

/-- the same frame; only the places to arrive at are others -/
def Same (C C' : Cx) : Prop := C'.b = C.b ∧ C'.cs = C.cs ∧ C'.fn = C.fn ∧ C'.n = C.n ∧ C'.fzl = C.fzl ∧ C'.fz = C.fz

theorem At.same {C C' : Cx} (h : Same C C') {μ μ' : Mu} {H H' : Hp} {w w' : World} {tmps : Array Value} {ds : List Deferred} (k : At P N C' μ H w μ' H' w' tmps ds) : At P N C μ H w μ' H' w' tmps ds := by
  obtain ⟨h1, h2, h3, h4, h5, h6⟩ := h
  refine ⟨⟨by rw [← h4]; exact k.tm.1, fun t ht => ?_⟩, k.sr, k.tr, by rw [← h1]; exact k.marks⟩
  rw [← h6]
  exact k.tm.2 t (by rw [h5]; exact ht)

theorem Arr.weaken {C C' : Cx} {μ : Mu} {H : Hp} {w : World} {x : X} {m : Machine} (h : Arr P N C' μ H w x m) (hs : Same C C')
    (hnorm : ∀ vs H', x ≠ .norm vs H') (hex : ∀ id vs H', x = .exit id vs H' → C'.exits id = C.exits id) : Arr P N C μ H w x m := by
  obtain ⟨hb, hc, hf, _⟩ := id hs
  cases x with
  | fail => trivial
  | norm vs H' => exact absurd rfl (hnorm _ _)
  | exit id vs H' =>
    obtain ⟨live, items, h1, μ', w', tmps, ds, h2, h3, h4⟩ := h
    exact ⟨live, items, by rw [← hex id vs H' rfl]; exact h1, μ', w', tmps, ds, h2.same hs, h3, by rw [← hb, ← hc]; exact h4⟩
  | ret v H' =>
    obtain ⟨μ', w', tmps, ds, todo, h2, h3, h4⟩ := h
    exact ⟨μ', w', tmps, ds, todo, h2.same hs, by rw [← hf]; exact h3, by rw [← hb, ← hc]; exact h4⟩
  | jump c H' =>
    obtain ⟨μ', w', tmps, ds, todo, h2, h3, h4⟩ := h
    exact ⟨μ', w', tmps, ds, todo, h2.same hs, h3, by rw [← hb, ← hc]; exact h4⟩
  | pan v H' =>
    obtain ⟨μ', w', tmps, ds, v', todo, h2, h3, h4⟩ := h
    exact ⟨μ', w', tmps, ds, v', todo, h2.same hs, h3, by rw [← hb, ← hc]; exact h4⟩

/-- what the code behind may count on -/
def Kx (P : Program) (N : Nat) (C : Cx) (μ0 : Mu) (H0 : Hp) (w0 : World) (k : List Item) (kx : St → Hp → X) : Prop :=
  ∀ st' μ' H' w' tmps' ds', At P N C μ0 H0 w0 μ' H' w' tmps' ds' → StR μ' st' tmps' → Arr P N C μ0 H0 w0 (kx st' H') (lone (on { C.b with defers := ds' } tmps' k) C.cs w')

theorem Kx.ka {C : Cx} {μ0 : Mu} {H0 : Hp} {w0 : World} {k : List Item} {kx : St → Hp → X} (hk : Kx P N C μ0 H0 w0 k kx) {μ : Mu} {H : Hp} {w : World} {tmps : Array Value} {ds : List Deferred} (ha : At P N C μ0 H0 w0 μ H w tmps ds) :
    Ka P N { C with b := { C.b with defers := ds } } μ H w (Arr P N C μ0 H0 w0) k kx :=
  fun st' μ' H' w' tmps' h1 h2 h3 h4 => hk st' μ' H' w' tmps' ds (ha.step h3 h4 h1) h2

/-- code that ends with values alive -/
theorem Kx.live {C : Cx} {μ0 : Mu} {H0 : Hp} {w0 : World} (live : List Nat) (k : List Item) (ex : Nat → Option (List Nat × List Item)) :
    Kx P N { C with norm := some (live, k), exits := ex } μ0 H0 w0 k (fun st => normV (live.map st)) := by
  intro st' μ' H' w' tmps' ds' h1 h2
  exact ⟨live, k, rfl, μ', w', tmps', ds', h1, h2.live live, .refl _ _⟩

theorem exit_ok {C : Cx} {round : Bool} (hround : C.b.roundOf.isSome = round) {μ0 : Mu} {H0 : Hp} {w0 : World} {bs : List (Nat × List Nat)} {k : List Item} (hbs : BsOk C bs k) {id : Nat} {st : St} {μ : Mu} {H : Hp} {w : World} {tmps : Array Value} {ds : List Deferred}
    (ha : At P N C μ0 H0 w0 μ H w tmps ds) (hst : StR μ st tmps) :
    Arr P N C μ0 H0 w0 (exitX round id bs st H) (lone (on { C.b with defers := ds } tmps (.code (.exit id) :: k)) C.cs w) := by
  unfold exitX
  have := hbs id
  cases hf : bs.find? (fun p => Nat.beq p.1 id) with
  | some p =>
    rw [hf] at this
    obtain ⟨items, h1, h2⟩ := this
    exact ⟨p.2, items, h2, μ, w, tmps, ds, ha, hst.live _, .one (st_exit h1)⟩
  | none =>
    rw [hf] at this
    cases round with
    | false => trivial
    | true => exact ⟨μ, w, tmps, ds, _, ha, ⟨k, rfl, .inr ⟨id, rfl, this⟩⟩, .refl _ _⟩

theorem ret_ok {C : Cx} {round : Bool} (hround : C.b.roundOf.isSome = round) {μ0 : Mu} {H0 : Hp} {w0 : World} {k : List Item} {st : St} {μ : Mu} {H : Hp} {w : World} {tmps : Array Value} {ds : List Deferred}
    (ha : At P N C μ0 H0 w0 μ H w tmps ds) (hst : StR μ st tmps) :
    Arr P N C μ0 H0 w0 (retX C.fn round st H) (lone (on { C.b with defers := ds } tmps (.code .ret :: k)) C.cs w) := by
  unfold retX
  cases round with
  | true => exact ⟨μ, w, tmps, ds, _, ha, ⟨k, rfl, .inl rfl⟩, .refl _ _⟩
  | false =>
    have hn : C.b.roundOf = none := by cases hb : C.b.roundOf with | none => rfl | some l => rw [hb] at hround; cases hround
    refine ⟨μ, w, tmps, ds, _, ha, ?_, .one (st_ret (b := { C.b with defers := ds }) hn)⟩
    have := hst.live (C.fn.results.toList.map resT)
    rwa [List.map_map] at this

theorem end_ret {C : Cx} (hn : C.b.roundOf = none) {μ0 : Mu} {H0 : Hp} {w0 : World} : Kx P N C μ0 H0 w0 [] (fun st => retX C.fn false st) := by
  intro st μ H w tmps ds ha hst
  refine ⟨μ, w, tmps, ds, _, ha, ?_, .one (st_end (b := { C.b with defers := ds }) hn)⟩
  have := hst.live (C.fn.results.toList.map resT)
  rwa [List.map_map] at this

/-! ### ranges over functions -/
theorem deferred_free {μ : Mu} {H : Hp} {w : World} (hs : SR P N μ H w) {r : Nat} {x : Option (List Deferred)} (hr : w.heap[r]? = some (.deferred x)) : ∀ i o l, H.get i = some o → μ i = some l → l.b ≠ r := by
  intro i o l hi hm e
  obtain ⟨ob, h1, h2⟩ := hs.dom i o l hi hm
  rw [e, hr] at h1
  cases h1
  cases o with
  | cells vs ty ro => obtain ⟨_, _, _, h, _⟩ := h2; cases h
  | map es c => obtain ⟨_, h, _⟩ := h2; cases h
  | iter m a b c => obtain ⟨_, h, _⟩ := h2; cases h
  | loop a b c d e f g x y => obtain ⟨_, h, _⟩ := h2; cases h

theorem SR.alloc {μ : Mu} {H : Hp} {w : World} (hs : SR P N μ H w) (ob : Obj) : SR P N μ H (w.alloc ob) :=
  ⟨fun i o l h m => by
    obtain ⟨x, h1, h2⟩ := hs.dom i o l h m
    exact ⟨x, by rw [alloc_other w ob (hs.blocks _ _ m)]; exact h1, h2⟩, hs.fresh, fun i l h => by have := hs.blocks i l h; simp; omega, hs.excl, hs.low, by have := hs.bound; simp; omega⟩

theorem TR.alloc (μ : Mu) (H : Hp) (w : World) (ob : Obj) : TR μ H w μ H (w.alloc ob) :=
  ⟨Mu.le.refl _, Nat.le_refl _, by simp, rfl, rfl, rfl, fun b hb hn => ⟨alloc_other w ob hb, hn⟩, fun _ _ h => ⟨h, rfl⟩⟩

theorem get_loop {w : World} {l : Nat} {L : Go.Loop} (h : w.heap[l]? = some (.loop L)) : (Instr.getLoop l).run P w = .ok L w := by
  have : (getObj l).run P w = .ok (.loop L) w := run_getObj h
  unfold Instr.getLoop
  simp only [Sem.run_bind, this, Result.andThen_ok]
  rfl

theorem set_loop {w : World} {l : Nat} {L : Go.Loop} (o : Obj) (h : w.heap[l]? = some (.loop L)) : (setObj l o).run P w = .ok () (wput w l o) := by
  simp [setObj, Sem.run, h, wput]

theorem run_enter (w : World) (fn : FuncId) (tmps : Array Value) (ps : Array Tmp) (a b : Code) :
    (Instr.enterLoop fn tmps ps a b none).run P w = .ok (w.heap.size + 1, [markD w.heap.size])
      ((w.alloc (.deferred (some []))).alloc (.loop { state := .ready, pending := none, fn := fn, tmps := tmps, params := ps, assign := a, body := b, defers := w.heap.size })) := by
  have hp : ∀ (x : Nat × List Deferred) (w : World), Sem.run P (pure x) w = .ok x w := fun _ _ => rfl
  unfold Instr.enterLoop
  simp only [Sem.run_bind, run_newObj_alloc, Result.andThen_ok, hp]
  simp [markD]

theorem run_end {w : World} {l : Nat} {L : Go.Loop} (h : w.heap[l]? = some (.loop L)) (hb : L.state ≠ .busy) : (Instr.endLoop l).run P w = .ok L.pending (wput w l (.loop { L with state := .exhausted })) := by
  have hbf : (L.state == LoopState.busy) = false := by simpa using hb
  unfold Instr.endLoop
  simp only [Sem.run_bind, get_loop h, Result.andThen_ok, hbf, Bool.false_eq_true, if_false, set_loop _ h]
  rfl

theorem st_endRange {b : Frame} {a : Array Value} {k : List Item} {cs : List Frame} {w w' : World} {l : Nat} {j : Option Code} (h : (Instr.endLoop l).run P w = .ok j w') :
    step P (lone (on b a (.endRangeFunc l :: k)) cs w) = .next (lone (on b a ((j.map Item.code).toList ++ k)) cs w') :=
  step_lone_go (by simp [stepG, stepG.exec, on, h])

def rangeCall (g : Operand) (l : Nat) : Call := { callee := .value g, args := #[.const (.func (.yield l) #[] #[])], argTypes := #[] }

theorem stG_range {b : Frame} {a : Array Value} {k : List Item} {cs : List Frame} {w : World} (hb : b.roundOf = none) (f : Operand) (ps : Array Tmp) (x y : Code) :
    (stepG P true { frame := on b a (.code (.rangeFunc f ps x y) :: k), callers := cs, status := .running, dying := none } w).bare =
      (stepG.apply P true (on { b with defers := markD w.heap.size :: b.defers } a (.inRangeFunc (w.heap.size + 1) :: k)) cs none
        (do let d ← resolve (⟨a, []⟩ : Go.Act).eval (rangeCall f (w.heap.size + 1)) 0; invoke d.target d.args)
        ((w.alloc (.deferred (some []))).alloc (.loop { state := .ready, pending := none, fn := b.fn, tmps := a, params := ps, assign := x, body := y, defers := w.heap.size }))).bare := by
  have he := run_enter (P := P) w b.fn a ps x y
  have hev := eval_on { b with defers := markD w.heap.size :: b.defers } a (.inRangeFunc (w.heap.size + 1) :: k)
  rw [← hev]
  simp [stepG, stepG.exec, on, hb, he, rangeCall]

/-- what becomes of a frame that waits for an answer -/
def Fin (P : Program) (N : Nat) (fr : Frame) (cs : List Frame) (μ : Mu) (H : Hp) (w : World) (m : Machine) : R Value → Prop
  | .ok v H' => ∃ μ' v' w', VR μ' v v' ∧ SR P N μ' H' w' ∧ TR μ H w μ' H' w' ∧ Steps P m (lone (fr.finish v') cs w')
  | .pan v H' => ∃ μ' v' w', VR μ' v v' ∧ SR P N μ' H' w' ∧ TR μ H w μ' H' w' ∧ Steps P m (lone (fr.raise [{ v := v', recovered := false }]) cs w')
  | .fail => False

theorem fin_ok {μ : Mu} {H : Hp} {w w0 : World} {fr0 fr : Frame} {cs : List Frame} {s : Sem Next} {r : R Value} (hs : SR P N μ H w) (hrun : fr.mode = .run) (htodo : ∀ d r s k, fr.todo ≠ .call d true r s :: k)
    (hstep : (stepG P true { frame := fr0, callers := cs, status := .running, dying := none } w0).bare = (stepG.apply P true fr cs none s w).bare)
    (hc : CN P N μ H w r (s.run P w)) (hf : r ≠ .fail) : Fin P N fr cs μ H w (lone fr0 cs w0) r := by
  have hkind : (match fr.todo with | .call _ true _ _ :: _ => CallKind.wrapped | _ => .normal) = .normal := by
    split
    · rename_i d a b c h
      exact absurd h (htodo _ _ _ _)
    · rfl
  rcases hc with ⟨v, H', rfl, hn⟩ | ⟨f, args', hx, hc⟩ | ⟨l, f, tm, a, bb, hx, hc⟩ | ⟨u, v', rfl, hv, hx⟩
  · rcases hn with ⟨v', w', μ', hx, h1, h2, h3⟩ | ⟨rfl, w', μ', hx, h2, h3⟩
    · refine ⟨μ', v', w', h1, h2, h3, .one (step_lone_go ?_)⟩
      rw [hstep]; simp [stepG.apply, hx]
    · refine ⟨μ', undef, w', .undef _, h2, h3, .one (step_lone_go ?_)⟩
      rw [hstep]; simp [stepG.apply, hx]
  · obtain ⟨e, w', fr', hR, hsteps, hfn, hleave⟩ := hc (fr :: cs)
    have henter : step P (lone fr0 cs w0) = .next (lone (Frame.enter P f args' .normal) (fr :: cs) w) :=
      step_lone_go (by rw [hstep]; simp [stepG.apply, hx, hkind])
    cases r with
    | fail => exact absurd rfl hf
    | ok v H' =>
      cases e with
      | panicked ch => exact hR.elim
      | outgrown => exact hR.elim
      | returned v' =>
        obtain ⟨μ', h1, h2, h3⟩ := hR
        exact ⟨μ', v', w', h1, h2, h3, (Steps.one henter).trans (Steps.trans hsteps (.one (step_leave_returned hleave)))⟩
    | pan v H' =>
      cases e with
      | returned v' => exact hR.elim
      | outgrown => exact hR.elim
      | panicked ch =>
        obtain ⟨μ', v', rfl, h1, h2, h3⟩ := hR
        exact ⟨μ', v', w', h1, h2, h3, (Steps.one henter).trans (Steps.trans hsteps (.one (step_leave_panicked hleave)))⟩
  · obtain ⟨e, w', hR, hsteps⟩ := hc fr cs
    have henter : step P (lone fr0 cs w0) = .next (lone (Frame.round l f tm a bb .normal) (fr :: cs) w) :=
      step_lone_go (by rw [hstep]; simp [stepG.apply, hx])
    cases r with
    | fail => exact absurd rfl hf
    | ok v H' =>
      cases e with
      | panicked ch => exact hR.elim
      | outgrown => exact hR.elim
      | returned v' =>
        obtain ⟨μ', h1, h2, h3⟩ := hR
        exact ⟨μ', v', w', h1, h2, h3, (Steps.one henter).trans hsteps⟩
    | pan v H' =>
      cases e with
      | returned v' => exact hR.elim
      | outgrown => exact hR.elim
      | panicked ch =>
        obtain ⟨μ', v', rfl, h1, h2, h3⟩ := hR
        exact ⟨μ', v', w', h1, h2, h3, (Steps.one henter).trans hsteps⟩
  · refine ⟨μ, v', w, hv, hs, .refl _ _ _, .one (step_lone_go ?_)⟩
    rw [hstep]; simp [stepG.apply, hx]

theorem loop_dom {μ : Mu} {H : Hp} {w : World} (hs : SR P N μ H w) {i : Nat} {l : Loc} (hm : μ i = some l) {st : LoopState} {pe : Option Code} {f : FuncId} {vals : List (Nat × Value)} {ps : List Nat} {a b : Code} {x y : An}
    (hg : H.get i = some (.loop st pe f vals ps a b x y)) : ∃ L : Go.Loop, w.heap[l.b]? = some (.loop L) ∧ l.base = 0 ∧ L.state = st ∧ L.pending = pe ∧ (L.fn = f ∧ (P.funcs[f]?).isSome = true) ∧ L.params.toList = ps ∧ L.assign = a ∧ L.body = b ∧
      okCode L.tmps.size [] a = true ∧ okCode L.tmps.size [] b = true ∧ (∀ p ∈ ps, p < L.tmps.size) ∧ ∀ t v, (t, v) ∈ vals → VR μ v (L.tmps.getD t undef) := by
  obtain ⟨ob, h1, L, rfl, h2⟩ := hs.dom i _ l hg hm
  exact ⟨L, h1, h2⟩

theorem range_ok' (hcl : ClOk P N cl) {C : Cx} {round : Bool} (hself : C.b.fn = self ∧ (P.funcs[self]?).isSome = true) (hround : C.b.roundOf.isSome = round) {μ0 : Mu} {H0 : Hp} {w0 : World} {k : List Item} {bs : List (Nat × List Nat)} (hbs : BsOk C bs k) {kx : St → Hp → X} (hk : Kx P N C μ0 H0 w0 k kx) {f : Operand} {ps : Array Tmp} {a b : Code} {live : List Nat} {x y : An}
    (hok : okCode C.n C.fzl (.rangeFunc f ps a b) = true)
    {st : St} {μ : Mu} {H : Hp} {w : World} {tmps : Array Value} {ds : List Deferred} (ha : At P N C μ0 H0 w0 μ H w tmps ds) (hst : StR μ st tmps) :
    Arr P N C μ0 H0 w0 (rangeX P cl C.fn round self (st.op f) (live.map fun t => (t, st t)) ps.toList a b x y bs st kx H) (lone (on { C.b with defers := ds } tmps (.code (.rangeFunc f ps a b) :: k)) C.cs w) := by
  unfold rangeX
  cases round with
  | true => trivial
  | false =>
    have hn : C.b.roundOf = none := by cases hb : C.b.roundOf with | none => rfl | some l => rw [hb] at hround; cases hround
    simp only [okCode, Bool.and_eq_true, List.all_eq_true] at hok
    obtain ⟨ok1, ok2, ok3, ok4⟩ := hok
    simp only
    let ob : Ob := .loop .ready none self (live.map fun t => (t, st t)) ps.toList a b x y
    let L : Go.Loop := { state := .ready, pending := none, fn := C.b.fn, tmps := tmps, params := ps, assign := a, body := b, defers := w.heap.size }
    let w1 := w.alloc (.deferred (some []))
    let w2 := w1.alloc (.loop L)
    let loc : Loc := ⟨w1.heap.size, 0, 0, 0⟩
    have hl1 : w1.heap.size = w.heap.size + 1 := by simp [w1]
    have hne := (ha.sr.fresh H.size (Nat.le_refl _)).1
    have hle := le_upd hne loc
    have hor : OR P (upd μ H.size loc) loc ob (.loop L) := ⟨L, rfl, rfl, rfl, rfl, hself, rfl, rfl, rfl, by rw [show L.tmps.size = C.n from ha.tm.1]; exact ok3, by rw [show L.tmps.size = C.n from ha.tm.1]; exact ok4,
      fun p hp => by
        have := ok2 p hp
        rw [show L.tmps.size = C.n from ha.tm.1]
        exact Nat.le_of_ble_eq_true this,
      fun t v hv => by
        simp only [List.mem_map] at hv
        obtain ⟨t', _, e⟩ := hv
        cases e
        exact (hst t).mono hle⟩
    obtain ⟨hs2, ht2⟩ := (ha.sr.alloc (.deferred (some []))).new ob (.loop L) loc rfl hor
    have htw : TR μ H w (upd μ H.size loc) (H.new ob) w2 := (TR.alloc μ H w _).trans ht2
    have hr0 : w2.heap[w.heap.size]? = some (.deferred (some [])) := by
      show ((w.alloc (.deferred (some []))).alloc (.loop L)).heap[w.heap.size]? = _
      rw [alloc_other _ _ (by simp)]
      exact alloc_same w _
    have hown : ¬ Own (upd μ H.size loc) (H.new ob) w.heap.size := by
      rintro ⟨i, o, l, h1, h2, h3, h4⟩
      by_cases hi : i = H.size
      · subst hi
        rw [upd_same] at h3
        cases h3
        have : w1.heap.size = w.heap.size := h4
        omega
      · rw [upd_other _ _ hi] at h3
        have := ha.sr.blocks _ _ h3
        omega
    have hmk : Mk w0 C.b.defers (markD w.heap.size :: ds) (upd μ H.size loc) (H.new ob) w2 := by
      obtain ⟨rs, m1, m2, m3⟩ := ha.marks
      have := ha.marks.step htw
      refine ⟨w.heap.size :: rs, by rw [m1]; rfl, List.nodup_cons.2 ⟨fun hr => ?_, m2⟩, fun r hr => ?_⟩
      · have := lt_of_block (m3 _ hr).2.1
        omega
      · rcases List.mem_cons.1 hr with rfl | hr
        · exact ⟨ha.tr.heap, hr0, hown⟩
        · obtain ⟨e1, e2, e3⟩ := m3 r hr
          obtain ⟨e4, e5⟩ := htw.keep r (lt_of_block e2) e3
          exact ⟨e1, by rw [e4]; exact e2, e5⟩
    have hat2 : At P N C μ0 H0 w0 (upd μ H.size loc) (H.new ob) w2 tmps (markD w.heap.size :: ds) := ⟨ha.tm, hs2, ha.tr.trans htw, hmk⟩
    have hyv : VR (upd μ H.size loc) (.func (.yield H.size) #[] #[]) (.func (.yield (w.heap.size + 1)) #[] #[]) := by
      have := VR.func' (μ := upd μ H.size loc) (a := #[]) (a' := #[]) (c := #[]) (c' := #[]) (.yield (upd_same μ H.size loc)) .nil .nil
      rw [show loc.b = w.heap.size + 1 from hl1] at this
      exact this
    by_cases hf : callM P cl (st.op f) [.func (.yield H.size) #[] #[]] (H.new ob) = .fail
    · rw [hf]; trivial
    · have hcn := callV_ok (P := P) (N := N) hcl hs2 hf ((hst.op ok1).mono hle) (L2.cons hyv .nil)
      have hres : resolve (⟨tmps, []⟩ : Go.Act).eval (rangeCall f (w.heap.size + 1)) 0 = Deferred.ofValue ((⟨tmps, []⟩ : Go.Act).eval f) ⟨[.func (.yield (w.heap.size + 1)) #[] #[]]⟩ := by
        have e : (#[Operand.const (.func (.yield (w.heap.size + 1)) #[] #[])]).map (⟨tmps, []⟩ : Go.Act).eval = ⟨[.func (.yield (w.heap.size + 1)) #[] #[]]⟩ := by
          apply Array.ext'
          simp
          rfl
        simp only [resolve, rangeCall]
        rw [e]
      rw [← hres] at hcn
      have hstep := stG_range (P := P) (b := { C.b with defers := ds }) (a := tmps) (k := k) (cs := C.cs) (w := w) hn f ps a b
      have hfin := fin_ok (P := P) (N := N) hs2 (fr0 := on { C.b with defers := ds } tmps (.code (.rangeFunc f ps a b) :: k)) (fr := on { C.b with defers := markD w.heap.size :: ds } tmps (.inRangeFunc (w.heap.size + 1) :: k)) rfl (by intro d r s k'; simp [on]) hstep hcn hf
      cases hr : callM P cl (st.op f) [.func (.yield H.size) #[] #[]] (H.new ob) with
      | fail => exact absurd hr hf
      | pan v H' =>
        rw [hr] at hfin
        obtain ⟨μ', v', w', h1, h2, h3, h4⟩ := hfin
        exact ⟨μ', w', tmps, markD w.heap.size :: ds, v', _, hat2.step h2 h3 ha.tm, h1, h4⟩
      | ok v H' =>
        rw [hr] at hfin
        obtain ⟨μ', v', w', h1, h2, h3, h4⟩ := hfin
        simp only
        have h4 : Steps P (lone (on { C.b with defers := ds } tmps (.code (.rangeFunc f ps a b) :: k)) C.cs w) (lone (on { C.b with defers := markD w.heap.size :: ds } tmps (.endRangeFunc (w.heap.size + 1) :: k)) C.cs w') := h4
        refine Arr.steps h4 ?_
        have hm' : μ' H.size = some loc := h3.le _ _ (upd_same μ H.size loc)
        have hle' : μ.le μ' := hle.trans h3.le
        -- the loop is over
        have over : ∀ (s : LoopState) (pe : Option Code) fv va pp aa bb xx yy, s ≠ .busy → H'.get H.size = some (.loop s pe fv va pp aa bb xx yy) →
            ∃ w3, step P (lone (on { C.b with defers := markD w.heap.size :: ds } tmps (.endRangeFunc (w.heap.size + 1) :: k)) C.cs w') = .next (lone (on { C.b with defers := markD w.heap.size :: ds } tmps ((pe.map Item.code).toList ++ k)) C.cs w3) ∧
              At P N C μ0 H0 w0 μ' (H'.put H.size (some (.loop .exhausted pe fv va pp aa bb xx yy))) w3 tmps (markD w.heap.size :: ds) := by
          intro s pe fv va pp aa bb xx yy hsb hg
          obtain ⟨L', c1, c2, c3, c4, c5, c6, c7, c8, c9, c10, c11, c12⟩ := loop_dom h2 hm' hg
          have hbl : loc.b = w.heap.size + 1 := hl1
          have hend := run_end (P := P) (l := loc.b) c1 (by rw [c3]; exact hsb)
          obtain ⟨p1, p2⟩ := h2.put (o' := .loop .exhausted pe fv va pp aa bb xx yy) (ob' := .loop { L' with state := .exhausted }) hg rfl hm' ⟨_, rfl, c2, rfl, c4, c5, c6, c7, c8, c9, c10, c11, c12⟩
          refine ⟨wput w' loc.b (.loop { L' with state := .exhausted }), ?_, (hat2.step h2 h3 ha.tm).step p1 p2 ha.tm⟩
          rw [hbl] at hend
          rw [hbl, ← c4]
          exact st_endRange hend
        unfold afterX
        cases hg : H'.get H.size with
        | none => trivial
        | some o =>
          cases o with
          | cells _ _ _ => trivial
          | map _ _ => trivial
          | iter _ _ _ _ => trivial
          | loop s pe fv va pp aa bb xx yy =>
            cases s with
            | busy => trivial
            | exhausted => trivial
            | ready =>
              cases pe with
              | some c => trivial
              | none =>
                obtain ⟨w3, e1, e2⟩ := over .ready none fv va pp aa bb xx yy (by simp) hg
                exact Arr.one e1 (hk st μ' _ w3 tmps _ e2 (hst.mono hle'))
            | done =>
              cases pe with
              | none => trivial
              | some c =>
                obtain ⟨w3, e1, e2⟩ := over .done (some c) fv va pp aa bb xx yy (by simp) hg
                cases c <;> first | trivial | skip
                · rename_i id
                  exact Arr.one e1 (exit_ok (round := false) (by rw [hn]; rfl) hbs e2 (hst.mono hle'))
                · exact Arr.one e1 (ret_ok (round := false) (by rw [hn]; rfl) e2 (hst.mono hle'))
end
end Go.Abs
