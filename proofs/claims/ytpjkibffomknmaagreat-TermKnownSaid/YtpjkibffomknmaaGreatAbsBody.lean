import Derived.Test.YtpjkibffomknmaaGreatAbsExec2
/- A function's body. -/
namespace Go.Abs
open Go

section
variable {P : Program} {N : Nat} {cl : Tgt → List Value → M Value} {fuel : Nat}

theorem nth_LR {μ : Mu} : ∀ {a a' : List Value} (i : Nat), LR μ a a' → VR μ (nth a i) (a'[i]?.getD undef)
  | [], a', i, h => by cases i <;> exact .undef _
  | x :: a, a', 0, h => by
    obtain ⟨y, t, rfl, h1, _⟩ := h.cons_left
    exact h1
  | x :: a, a', i + 1, h => by
    obtain ⟨y, t, rfl, _, h2⟩ := h.cons_left
    simpa [nth] using nth_LR i h2

theorem start_StR {μ : Mu} {a a' : List Value} (h : LR μ a a') (n : Nat) : StR μ (fun i => nth a i) ((⟨a'⟩ : Array Value) ++ Array.replicate n undef) := by
  intro t
  rw [Array.getD_eq_getD_getElem?, Array.getElem?_append]
  split
  · have := nth_LR t h
    simpa using this
  · rename_i hlt
    have hl := h.len
    have : a.length ≤ t := by simp at hlt; omega
    have hn : ∀ (l : List Value) (i : Nat), l.length ≤ i → nth l i = undefV := by
      intro l
      induction l with
      | nil => intro i _; cases i <;> rfl
      | cons x l ih =>
        intro i hi
        cases i with
        | zero => simp at hi
        | succ i => exact ih i (by simpa using hi)
    show VR μ (nth a t) _
    rw [hn a t this]
    exact .undef _

theorem run_take {w : World} {r : Nat} (h : w.heap[r]? = some (.deferred (some []))) : (Instr.takeDeferred r).run P w = .ok [] (wput w r (.deferred none)) := by
  simp [Instr.takeDeferred, Sem.run_bind, getObj, setObj, Sem.run, h, Result.andThen, wput]

theorem st_mark {fr : Frame} {cs : List Frame} {w : World} {r : Nat} {ds : List Deferred} (hm : fr.mode ≠ .run) (hd : fr.defers = markD r :: ds) (h : w.heap[r]? = some (.deferred (some []))) :
    step P (lone fr cs w) = .next (lone { fr with defers := ds } cs (wput w r (.deferred none))) := by
  have hk := run_take (P := P) h
  refine step_lone_go ?_
  cases hmode : fr.mode with
  | run => exact absurd hmode hm
  | returning => simp [stepG, unwind, hmode, hd, markD, hk]
  | panicking chain => simp [stepG, unwind, hmode, hd, markD, hk]

theorem SR.free {μ : Mu} {H : Hp} {w : World} (hs : SR P N μ H w) {r : Nat} (ob : Obj) (hr : ∀ i o l, H.get i = some o → μ i = some l → l.b ≠ r) : SR P N μ H (wput w r ob) :=
  ⟨fun i o l h m => by
    obtain ⟨x, h1, h2⟩ := hs.dom i o l h m
    exact ⟨x, by rw [wput_other _ _ (hr i o l h m)]; exact h1, h2⟩, hs.fresh, fun i l h => by rw [wput_size]; exact hs.blocks i l h, hs.excl, hs.low, by rw [wput_size]; exact hs.bound⟩

theorem TR.free {μ0 μ : Mu} {H0 H : Hp} {w0 w : World} (ht : TR μ0 H0 w0 μ H w) {r : Nat} (ob : Obj) (hr : w0.heap.size ≤ r) : TR μ0 H0 w0 μ H (wput w r ob) :=
  ⟨ht.le, ht.size, by rw [wput_size]; exact ht.heap, ht.os, ht.tape, ht.output, fun b hb hn => by
    obtain ⟨h1, h2⟩ := ht.keep b hb hn
    exact ⟨by rw [wput_other _ _ (by omega)]; exact h1, h2⟩, ht.still⟩

theorem unmark {μ0 μ : Mu} {H0 H : Hp} {w0 : World} {base : List Deferred} {cs : List Frame} : ∀ (rs : List Nat) (fr : Frame) (w : World), fr.mode ≠ .run → fr.defers = rs.map markD ++ base → rs.Nodup →
    (∀ r ∈ rs, w0.heap.size ≤ r ∧ w.heap[r]? = some (.deferred (some []))) → SR P N μ H w → TR μ0 H0 w0 μ H w →
    ∃ w', Steps P (lone fr cs w) (lone { fr with defers := base } cs w') ∧ SR P N μ H w' ∧ TR μ0 H0 w0 μ H w'
  | [], fr, w, hm, hd, _, _, hs, ht => by
    have e : fr = { fr with defers := base } := by
      have hd : fr.defers = base := hd
      rw [← hd]
    refine ⟨w, ?_, hs, ht⟩
    rw [← e]
    exact Steps.refl _ _
  | r :: rs, fr, w, hm, hd, hn, hr, hs, ht => by
    obtain ⟨h1, h2⟩ := hr r (by simp)
    obtain ⟨n1, n2⟩ := List.nodup_cons.1 hn
    have st := st_mark (P := P) (cs := cs) hm (by rw [hd]; rfl) h2
    obtain ⟨w', a, b, c⟩ := unmark rs { fr with defers := rs.map markD ++ base } (wput w r (.deferred none)) hm rfl n2 (fun r' hr' => by
      obtain ⟨e1, e2⟩ := hr r' (by simp [hr'])
      have : r' ≠ r := fun e => n1 (by rw [← e]; exact hr')
      exact ⟨e1, by rw [wput_other _ _ this]; exact e2⟩) (hs.free _ (deferred_free hs h2)) (ht.free _ h1)
    exact ⟨w', (Steps.one st).trans a, b, c⟩

theorem At.unmark {C : Cx} {μ0 μ : Mu} {H0 H : Hp} {w0 w : World} {tmps : Array Value} {ds : List Deferred} (ha : At P N C μ0 H0 w0 μ H w tmps ds) {todo : List Item} {m : FrameMode} (hm : m ≠ .run) :
    ∃ w', Steps P (lone { on { C.b with defers := ds } tmps todo with mode := m } C.cs w) (lone { on C.b tmps todo with mode := m } C.cs w') ∧ SR P N μ H w' ∧ TR μ0 H0 w0 μ H w' := by
  obtain ⟨rs, h1, h2, h3⟩ := ha.marks
  obtain ⟨w', a, b, c⟩ := Abs.unmark (P := P) (N := N) (μ0 := μ0) (μ := μ) (H0 := H0) (H := H) (w0 := w0) (base := C.b.defers) (cs := C.cs) rs { on { C.b with defers := ds } tmps todo with mode := m } w hm h1 h2 (fun r hr => ⟨(h3 r hr).1, (h3 r hr).2.1⟩) ha.sr ha.tr
  exact ⟨w', a, b, c⟩

theorem np_resM (P : Program) (st : St) : ∀ (rs : List ResultVar) (acc : List Value), NP (resM P st rs acc)
  | [], acc => np_pure _
  | .tmp t :: rs, acc => np_resM P st rs _
  | .cell a t :: rs, acc => fun h v h' e => by
    unfold resM bM at e
    cases hl : tyM P [t] (ldM (aggT P t) (sizeT P t) (st a)) h with
    | fail => rw [hl] at e; cases e
    | pan u h' => exact absurd hl (np_tyM (np_ldM _ _ _) _ _ _)
    | ok u h1 =>
      rw [hl] at e
      exact np_resM P st rs _ _ _ _ e

theorem np_readM (P : Program) (fn : Func) (vs : List Value) : NP (readM P fn vs) := by
  unfold readM resultsM
  split
  · exact np_pure _
  · exact np_tyM (np_ldM _ _ _)
  · exact np_resM P _ _ _

theorem readM_ok {μ : Mu} {H H' : Hp} {w : World} (hs : SR P N μ H w) {fn : Func} {vs : List Value} {tmps : Array Value} (hl : LR μ vs ((fn.results.toList.map resT).map fun t => tmps.getD t undef)) {v : Value} (h : readM P fn vs H = .ok v H') :
    H' = H ∧ ∃ v', (results fn tmps).run P w = .ok v' w ∧ VR μ v v' := results_ok hs (mkSt_ok hl) h

/-- the frame of a function that is entered -/
def enterCx (P : Program) (f : FuncId) (fn : Func) (args' : List Value) (kind : CallKind) (cs : List Frame) (fzl : List Nat) (fz : Nat → Value) : Cx :=
  { b := Frame.enter P f ⟨args'⟩ kind, cs := cs, fn := fn, n := fn.ntmps, fzl := fzl, fz := fz, norm := none, exits := fun _ => none }

def startT (fn : Func) (args' : List Value) : Array Value := (⟨args'⟩ : Array Value) ++ Array.replicate (fn.ntmps - (⟨args'⟩ : Array Value).size) undef

theorem enter_on {f : FuncId} {fn : Func} {c : Code} (hfn : P.funcs[f]? = some fn) (hb : fn.body = some c) (args' : List Value) (kind : CallKind) : Frame.enter P f ⟨args'⟩ kind = on (Frame.enter P f ⟨args'⟩ kind) (startT fn args') [.code c] := by
  simp only [on, Frame.enter, hfn, Option.map_some, Option.getD_some, Option.bind_some, hb, startT]

theorem startT_size {fn : Func} {args' : List Value} (h : args'.length ≤ fn.ntmps) : (startT fn args').size = fn.ntmps := by
  simp [startT]; omega

theorem body_ok (hmix : P.follows .mixedOrders = true) (hcl : ClOk P N cl) {f : FuncId} {fn : Func} (hfn : P.funcs[f]? = some fn) {an : An} {args args' : List Value} {μ : Mu} {H : Hp} {w : World} (hs : SR P N μ H w) (ha : LR μ args args')
    (hf : bodyM P cl fuel fn f an args H ≠ .fail) : Calls P f ⟨args'⟩ w (CR P N μ H w (bodyM P cl fuel fn f an args H)) := by
  intro cs
  unfold bodyM at hf ⊢
  cases hb : fn.body with
  | none => rw [hb] at hf; exact absurd rfl hf
  | some c =>
    simp only [hb] at hf ⊢
    cases hok : okCode fn.ntmps [] c && Nat.ble args.length fn.ntmps with
    | false => rw [hok] at hf; exact absurd rfl hf
    | true =>
      simp only [hok] at hf ⊢
      simp only [Bool.and_eq_true] at hok
      obtain ⟨ok1, ok2⟩ := hok
      have ok2 := Nat.le_of_ble_eq_true ok2
      have hl := ha.len
      let C : Cx := enterCx P f fn args' .normal cs [] (fun _ => undef)
      have hstart := enter_on hfn hb args' .normal
      have hsz : (startT fn args').size = fn.ntmps := startT_size (by omega)
      have hat : At P N C μ H w μ H w (startT fn args') [] := ⟨⟨hsz, fun t ht => by cases ht⟩, hs, .refl _ _ _, .nil _ _ _ _ _⟩
      have hex := exec_ok (fuel := fuel) (self := f) hmix hcl (round := false) c an [] (fun i => nth args i) (fun st => retX fn false st) C [] μ H w μ H w (startT fn args') [] ⟨rfl, by rw [hfn]; rfl⟩ rfl ok1 (fun id => rfl) (end_ret rfl) hat (start_StR ha _)
      have hex : Arr P N C μ H w (execK P cl fuel fn false f c an [] (fun i => nth args i) (fun st => retX fn false st) H) (lone (Frame.enter P f ⟨args'⟩ .normal) cs w) := by
        rw [hstart]; exact hex
      unfold bodyR at hf ⊢
      generalize execK P cl fuel fn false f c an [] (fun i => nth args i) (fun st => retX fn false st) H = xr at hex hf
      cases xr with
      | norm vs H' => exact absurd rfl hf
      | exit id vs H' => exact absurd rfl hf
      | jump c H' => exact absurd rfl hf
      | fail => exact absurd rfl hf
      | ret vs H' =>
        obtain ⟨μ', w', tmps, ds, todo, h1, h2, h3⟩ := hex
        obtain ⟨w2, e1, e2, e3⟩ := h1.unmark (todo := todo) (m := .returning) (by simp)
        simp only at hf ⊢
        cases hr : readM P fn vs H' with
        | fail => exact absurd hr hf
        | pan v h' => exact absurd hr (np_readM _ _ _ _ _ _)
        | ok v h' =>
          obtain ⟨hh, v', r1, r2⟩ := readM_ok e2 h2 hr
          subst hh
          exact ⟨.returned v', w2, _, ⟨μ', r2, e2, e3⟩, h3.trans e1, rfl, rfl, rfl, rfl, fn, hfn, r1⟩
      | pan v H' =>
        obtain ⟨μ', w', tmps, ds, v', todo, h1, h2, h3⟩ := hex
        obtain ⟨w2, e1, e2, e3⟩ := h1.unmark (todo := todo) (m := .panicking [{ v := v', recovered := false }]) (by simp)
        exact ⟨.panicked [{ v := v', recovered := false }], w2, _, ⟨μ', v', rfl, h2, e2, e3⟩, h3.trans e1, rfl, rfl, rfl, fn, hfn⟩

/-! ### rounds -/
theorem valsSt_ok {μ : Mu} {tmps : Array Value} : ∀ (vals : List (Nat × Value)), (∀ t v, (t, v) ∈ vals → VR μ v (tmps.getD t undef)) → StR μ (valsSt vals) tmps
  | [], _ => fun t => .undef _
  | (t0, v0) :: r, h => fun t => by
    unfold valsSt
    cases hb : Nat.beq t t0 with
    | true =>
      have := Nat.eq_of_beq_eq_true hb
      subst this
      exact h t v0 (by simp)
    | false => exact valsSt_ok r (fun t v hv => h t v (by simp [hv])) t

theorem setPs_ok {μ : Mu} : ∀ (ps : List Nat) (args args' : List Value) (st : St) (tmps : Array Value), args.length = ps.length → LR μ args args' → StR μ st tmps → (∀ p ∈ ps, p < tmps.size) →
    StR μ (setPs ps args st) ((ps.zip args').foldl (fun t x => t.setIfInBounds x.1 x.2) tmps) ∧ ((ps.zip args').foldl (fun t x => t.setIfInBounds x.1 x.2) tmps).size = tmps.size
  | [], [], args', st, tmps, _, _, hst, _ => ⟨by simpa [setPs] using hst, by simp⟩
  | [], _ :: _, args', st, tmps, h, _, _, _ => by simp at h
  | p :: ps, [], args', st, tmps, h, _, _, _ => by simp at h
  | p :: ps, v :: vs, args', st, tmps, h, ha, hst, hp => by
    obtain ⟨v', vs', rfl, h1, h2⟩ := ha.cons_left
    have hp0 := hp p (by simp)
    have hst2 := hst.set h1 (some p) (fun t ht => by cases ht; exact hp0)
    have := setPs_ok ps vs vs' (st.set (some p) v) (tmps.setIfInBounds p v') (by simpa using h) h2 hst2 (fun q hq => by simpa using hp q (by simp [hq]))
    simpa [setPs] using this

theorem st_beginRound {b : Frame} {a : Array Value} {k : List Item} {cs : List Frame} {w w' : World} {l : Nat} (hb : b.roundOf = some l) (h : (Instr.beginRound l).run P w = .ok () w') :
    step P (lone (on b a (.beginRound :: k)) cs w) = .next (lone (on b a k) cs w') :=
  step_lone_go (by
    have h2 : Sem.run P (do Instr.beginRound l; pure Next.skip) w = .ok .skip w' := by simp only [Sem.run_bind, h, Result.andThen_ok]; rfl
    simp [stepG, stepG.exec, on, hb, stepG.apply, Frame.finish, h, Sem.run_bind, Result.andThen])

theorem run_begin {w : World} {l : Nat} {L : Go.Loop} (h : w.heap[l]? = some (.loop L)) (hr : L.state = .ready) : (Instr.beginRound l).run P w = .ok () (wput w l (.loop { L with state := .busy })) := by
  unfold Instr.beginRound
  simp only [Sem.run_bind, get_loop h, Result.andThen_ok, set_loop _ h, hr]
  rfl

theorem run_endR {w : World} {l : Nat} {L : Go.Loop} (j : Option Code) (h : w.heap[l]? = some (.loop L)) :
    (Instr.endRound l j).run P w = .ok (.bool j.isNone) (wput w l (.loop { L with state := if j.isNone then .ready else .done, pending := j })) := by
  unfold Instr.endRound
  simp only [Sem.run_bind, get_loop h, Result.andThen_ok, set_loop _ h]
  rfl

theorem st_leave {b : Frame} {a : Array Value} {todo : List Item} {c : Frame} {cs : List Frame} {w w' : World} {l : Nat} {v : Value} {j : Option Code} (hb : b.roundOf = some l) (hk : b.kind = .normal)
    (ht : (todo = [] ∧ j = none) ∨ ∃ x, j = some x ∧ Leaves x todo) (h : (Instr.endRound l j).run P w = .ok v w') :
    step P (lone (on b a todo) (c :: cs) w) = .next (lone (c.finish v) cs w') := by
  refine step_lone_go ?_
  rcases ht with ⟨rfl, rfl⟩ | ⟨x, rfl, k, rfl, rfl | ⟨id, rfl, hx⟩⟩
  · simp [stepG, stepG.exec, on, hb, h, doReturn, hk]
  · simp [stepG, stepG.exec, on, hb, h, doReturn, hk]
  · simp [stepG, stepG.exec, on, hb, h, doReturn, hk, hx]
end
end Go.Abs
