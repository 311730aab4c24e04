import Derived.Test.YtpjkibffomknmaaGreatAbsArr
import Derived.Test.YtpjkibffomknmaaGreatAbsPlan
/- Code. -/
namespace Go.Abs
open Go

section
variable {P : Program} {N : Nat} {C : Cx} {μ : Mu} {H : Hp} {w : World} {cl : Tgt → List Value → M Value}

theorem oneX_eq (ops : Array Oper) (o : Oper) (st : St) (k : St → Hp → X) (h : Hp) : oneX P cl ops o st k h = bx (guardM (guardOf ops st o) (opM P cl st o)) (fun v => k (st.set o.dst v)) h := by
  obtain ⟨dst, op, ty, pos, after, guard⟩ := o
  cases guard with
  | some g => cases op <;> rfl
  | none => cases op <;> rfl

/-- what an operation's answer does to a frame -/
def Acts (P : Program) (N : Nat) (b : Frame) (cs : List Frame) (μ : Mu) (H : Hp) (w : World) (tmps : Array Value) (d : Option Tmp) (todo : List Item) (m : Machine) : R Value → Prop
  | .ok v H' => ∃ μ' v' w', VR μ' v v' ∧ SR P N μ' H' w' ∧ TR μ H w μ' H' w' ∧ Steps P m (lone (on b (putD tmps d v') todo) cs w')
  | .pan v H' => ∃ μ' v' w' todo', VR μ' v v' ∧ SR P N μ' H' w' ∧ TR μ H w μ' H' w' ∧ Steps P m (lone { on b tmps todo' with mode := .panicking [{ v := v', recovered := false }] } cs w')
  | .fail => False

theorem acts_ok (hcl : ClOk P N cl) (hs : SR P N μ H w) {b : Frame} {cs : List Frame} {ops : Array Oper} {i : Nat} {rest : List Nat} {k : List Item} {o : Oper} {st : St} {tmps : Array Value}
    (ho : ops[i]? = some o) (hw : Region.wanted o (yielded ops tmps) = true) (hnr : isRecover o.op = false) (hρ : ∀ x ∈ o.op.operands.toList, VR μ (st.op x) ((⟨tmps, []⟩ : Go.Act).eval x)) (hf : opM P cl st o H ≠ .fail) :
    Acts P N b cs μ H w tmps o.dst (.inRegion ops rest :: k) (lone (on b tmps (.inRegion ops (i :: rest) :: k)) cs w) (opM P cl st o H) := by
  have hd : ∀ c, o.op ≠ .defer c := fun c e => hf (by unfold opM; rw [e]; rfl)
  have hg := stG_op (P := P) (b := b) (a := tmps) (k := k) (cs := cs) (w := w) (rest := rest) ho hw hd
  have hfin : ∀ v, (on b tmps (.inRegion ops (i :: rest) :: k)).finish v = on b (putD tmps o.dst v) (.inRegion ops rest :: k) := fun v => by
    rw [finish_on, ho]; rfl
  have hkind : (match (on b tmps (.inRegion ops (i :: rest) :: k)).todo with | .call _ true _ _ :: _ => CallKind.wrapped | _ => .normal) = .normal := rfl
  rcases anyOp_ok hcl hs hnr hρ hf with ⟨v, H', hr, hn⟩ | ⟨f, args', hx, hc⟩ | ⟨l, f, tm, a, bb, hx, hc⟩ | ⟨u, v', hr, hv, hx⟩
  · rw [hr]
    rcases hn with ⟨v', w', μ', hx, h1, h2, h3⟩ | ⟨rfl, w', μ', hx, h2, h3⟩
    · refine ⟨μ', v', w', h1, h2, h3, .one (step_lone_go ?_)⟩
      rw [hg, ← hfin]; simp [stepG.apply, hx]
    · refine ⟨μ', undef, w', .undef _, h2, h3, .one (step_lone_go ?_)⟩
      rw [hg, ← hfin]; simp [stepG.apply, hx]
  · obtain ⟨e, w', fr, hR, hsteps, hfn, hleave⟩ := hc (on b tmps (.inRegion ops (i :: rest) :: k) :: cs)
    have henter : step P (lone (on b tmps (.inRegion ops (i :: rest) :: k)) cs w) = .next (lone (Frame.enter P f args' .normal) (on b tmps (.inRegion ops (i :: rest) :: k) :: cs) w) :=
      step_lone_go (by rw [hg]; simp [stepG.apply, hx, on])
    cases hr : opM P cl st o H with
    | fail => exact absurd hr hf
    | ok v H' =>
      rw [hr] at hR
      cases e with
      | panicked ch => exact hR.elim
      | outgrown => exact hR.elim
      | returned v' =>
        obtain ⟨μ', h1, h2, h3⟩ := hR
        refine ⟨μ', v', w', h1, h2, h3, (Steps.one henter).trans (Steps.trans hsteps (.one ?_))⟩
        rw [step_leave_returned hleave, hfin]
    | pan v H' =>
      rw [hr] at hR
      cases e with
      | returned v' => exact hR.elim
      | outgrown => exact hR.elim
      | panicked ch =>
        obtain ⟨μ', v', rfl, h1, h2, h3⟩ := hR
        refine ⟨μ', v', w', .inRegion ops (i :: rest) :: k, h1, h2, h3, (Steps.one henter).trans (Steps.trans hsteps (.one ?_))⟩
        rw [step_leave_panicked hleave]
        rfl
  · obtain ⟨e, w', hR, hsteps⟩ := hc (on b tmps (.inRegion ops (i :: rest) :: k)) cs
    have henter : step P (lone (on b tmps (.inRegion ops (i :: rest) :: k)) cs w) = .next (lone (Frame.round l f tm a bb .normal) (on b tmps (.inRegion ops (i :: rest) :: k) :: cs) w) :=
      step_lone_go (by rw [hg]; simp [stepG.apply, hx])
    cases hr : opM P cl st o H with
    | fail => exact absurd hr hf
    | ok v H' =>
      rw [hr] at hR
      cases e with
      | panicked ch => exact hR.elim
      | outgrown => exact hR.elim
      | returned v' =>
        obtain ⟨μ', h1, h2, h3⟩ := hR
        refine ⟨μ', v', w', h1, h2, h3, (Steps.one henter).trans ?_⟩
        rw [← hfin]; exact hsteps
    | pan v H' =>
      rw [hr] at hR
      cases e with
      | returned v' => exact hR.elim
      | outgrown => exact hR.elim
      | panicked ch =>
        obtain ⟨μ', v', rfl, h1, h2, h3⟩ := hR
        exact ⟨μ', v', w', .inRegion ops (i :: rest) :: k, h1, h2, h3, (Steps.one henter).trans hsteps⟩
  · rw [hr]
    refine ⟨μ, v', w, .inRegion ops (i :: rest) :: k, hv, hs, .refl _ _ _, .one (step_lone_go ?_)⟩
    rw [hg]; simp [stepG.apply, hx]
    rfl

theorem guard_cases {ops : Array Oper} {o : Oper} {st : St} {tmps : Array Value} (hst : ∀ j want g d, o.guard = some (j, want) → ops[j]? = some g → g.dst = some d → VR μ (st d) (tmps.getD d undef)) (m : M Value) (h : guardM (guardOf ops st o) m H ≠ .fail) :
    (guardM (guardOf ops st o) m H = m H ∧ Region.wanted o (yielded ops tmps) = true) ∨ (guardM (guardOf ops st o) m H = .ok skV H ∧ Region.wanted o (yielded ops tmps) = false) := by
  unfold guardOf at h ⊢
  cases hg : o.guard with
  | none => exact .inl ⟨rfl, by unfold Region.wanted; rw [hg]⟩
  | some p =>
    obtain ⟨j, want⟩ := p
    rw [hg] at h
    simp only at h ⊢
    have hj : ops.toList[j]? = ops[j]? := by simp
    rw [hj] at h ⊢
    cases ho : ops[j]? with
    | none => rw [ho] at h; exact absurd rfl h
    | some g =>
      rw [ho] at h
      simp only at h ⊢
      cases hd : g.dst with
      | none => rw [hd] at h; exact absurd rfl h
      | some d =>
        rw [hd] at h
        simp only at h ⊢
        have hv := hst j want g d hg ho hd
        unfold guardM at h ⊢
        cases hc : st d <;> simp only [hc] at h ⊢ <;> first | (exact absurd rfl h) | skip
        rotate_left
        · rename_i r
          rw [hc] at hv
          have hb : tmps.getD d undef = .tuple #[] := (fun x (h : VR μ (.chan r) x) => by cases h; rfl : ∀ x, VR μ (.chan r) x → x = .tuple #[]) _ hv
          refine .inr ⟨trivial, ?_⟩
          have hy : yielded ops tmps j = none := by
            unfold yielded
            rw [ho]
            simp only [Option.bind_some, hd]
            rw [Array.getD_eq_getD_getElem?] at hb
            cases ht : tmps[d]? with
            | none => rfl
            | some x => rw [ht] at hb; simp only [Option.getD_some] at hb; rw [hb]
          unfold Region.wanted
          rw [hg]
          simp only [hy]
          rfl
        rename_i t
        rw [hc] at hv
        have hb : tmps.getD d undef = .bool t := (fun x (h : VR μ (.bool t) x) => by cases h; rfl : ∀ x, VR μ (.bool t) x → x = .bool t) _ hv
        have hy : yielded ops tmps j = some t := by
          unfold yielded
          rw [ho]
          simp only [Option.bind_some, hd]
          rw [Array.getD_eq_getD_getElem?] at hb
          cases ht : tmps[d]? with
          | none => rw [ht] at hb; cases hb
          | some x => rw [ht] at hb; simp only [Option.getD_some] at hb; rw [hb]
        have hwd : Region.wanted o (yielded ops tmps) = (some t == some want) := by unfold Region.wanted; rw [hg]; simp only [hy]
        cases t <;> cases want <;> first | exact .inl ⟨rfl, by rw [hwd]; rfl⟩ | exact .inr ⟨rfl, by rw [hwd]; rfl⟩

theorem okOper_spec {n : Nat} {fz : List Nat} {o : Oper} (h : okOper n fz o = true) : (∀ t, o.dst = some t → t < n ∧ t ∉ fz) ∧ (∀ x ∈ o.op.operands.toList, okOpnd x = true) ∧ isRecover o.op = false := by
  unfold okOper at h
  simp only [Bool.and_eq_true, List.all_eq_true, Bool.not_eq_true'] at h
  obtain ⟨h1, h2, h3⟩ := h
  refine ⟨fun t ht => ?_, h2, h3⟩
  rw [ht] at h1
  simp only [Bool.and_eq_true, Bool.not_eq_true'] at h1
  exact ⟨Nat.le_of_ble_eq_true h1.1, memN_false h1.2⟩

/-- what the code behind a region may count on -/
def Ka (P : Program) (N : Nat) (C : Cx) (μ0 : Mu) (H0 : Hp) (w0 : World) (A : X → Machine → Prop) (k : List Item) (kx : St → Hp → X) : Prop :=
  ∀ st' μ' H' w' tmps', Tm C tmps' → StR μ' st' tmps' → SR P N μ' H' w' → TR μ0 H0 w0 μ' H' w' → A (kx st' H') (lone (on C.b tmps' k) C.cs w')

theorem one_ok (hcl : ClOk P N cl) {μ0 : Mu} {H0 : Hp} {w0 : World} {A : X → Machine → Prop} (hA : Ap P N C μ0 H0 w0 A) (hs : SR P N μ H w) (htr : TR μ0 H0 w0 μ H w) {ops : Array Oper} {i : Nat} {rest : List Nat} {k : List Item} {o : Oper} {st : St} {tmps : Array Value} {kx : St → Hp → X}
    (ho : ops[i]? = some o) (hk : okOper C.n C.fzl o = true) (hsz : Tm C tmps) (hst : StR μ st tmps)
    (hkx : ∀ st' μ' H' w' tmps', Tm C tmps' → StR μ' st' tmps' → SR P N μ' H' w' → TR μ0 H0 w0 μ' H' w' → A (kx st' H') (lone (on C.b tmps' (.inRegion ops rest :: k)) C.cs w')) :
    A (oneX P cl ops o st kx H) (lone (on C.b tmps (.inRegion ops (i :: rest) :: k)) C.cs w) := by
  obtain ⟨k1, k2, k3⟩ := okOper_spec hk
  rw [oneX_eq]
  unfold bx
  by_cases hf : guardM (guardOf ops st o) (opM P cl st o) H = .fail
  · rw [hf]; exact hA.fail _
  · rcases guard_cases (μ := μ) (tmps := tmps) (fun _ _ _ d _ _ _ => hst d) _ hf with ⟨e1, e2⟩ | ⟨e1, e2⟩
    · rw [e1] at hf ⊢
      have ha := acts_ok (b := C.b) (cs := C.cs) (rest := rest) (k := k) hcl hs ho e2 k3 (fun x hx => hst.op (k2 x hx)) hf
      cases hr : opM P cl st o H with
      | fail => exact absurd hr hf
      | ok v H' =>
        rw [hr] at ha
        obtain ⟨μ', v', w', h1, h2, h3, h4⟩ := ha
        exact hA.steps _ _ _ h4 (hkx _ μ' H' w' _ (hsz.put v' k1) ((hst.mono h3.le).set h1 o.dst (fun t ht => by rw [hsz.1]; exact (k1 t ht).1)) h2 (htr.trans h3))
      | pan v H' =>
        rw [hr] at ha
        obtain ⟨μ', v', w', todo, h1, h2, h3, h4⟩ := ha
        exact hA.steps _ _ _ h4 (hA.pan μ' H' w' tmps v v' todo hsz h1 h2 (htr.trans h3))
    · rw [e1]
      exact hA.one (st_op_skip ho e2) (hkx _ μ H w _ (hsz.put undef k1) (hst.set .skip o.dst (fun t ht => by rw [hsz.1]; exact (k1 t ht).1)) hs htr)

/-- a row of operations, up to some place in a region -/
theorem opsTo_ok (hcl : ClOk P N cl) {μ0 : Mu} {H0 : Hp} {w0 : World} {A : X → Machine → Prop} (hA : Ap P N C μ0 H0 w0 A) {ops : Array Oper} {k : List Item} {kx : St → Hp → X} (m e : Nat)
    (hkx : ∀ st' μ' H' w' tmps', Tm C tmps' → StR μ' st' tmps' → SR P N μ' H' w' → TR μ0 H0 w0 μ' H' w' → A (kx st' H') (lone (on C.b tmps' (.inRegion ops (List.range' m e) :: k)) C.cs w')) :
    ∀ (l : List Oper) (i : Nat) (st : St) (μ : Mu) (H : Hp) (w : World) (tmps : Array Value), (∀ j o, l[j]? = some o → ops[i + j]? = some o) → (∀ o ∈ l, okOper C.n C.fzl o = true) → i + l.length = m → SR P N μ H w → TR μ0 H0 w0 μ H w → Tm C tmps → StR μ st tmps →
    A (opsX P cl ops l st kx H) (lone (on C.b tmps (.inRegion ops (List.range' i (l.length + e)) :: k)) C.cs w)
  | [], i, st, μ, H, w, tmps, hl, _, hm, hs, htr, hsz, hst => by
    have : i = m := by simpa using hm
    subst this
    have := hkx st μ H w tmps hsz hst hs htr
    simpa [opsX] using this
  | o :: l, i, st, μ, H, w, tmps, hl, hok, hm, hs, htr, hsz, hst => by
    have ho : ops[i]? = some o := hl 0 o rfl
    have e1 : List.range' i ((o :: l).length + e) = i :: List.range' (i + 1) (l.length + e) := by
      rw [List.length_cons, show l.length + 1 + e = (l.length + e) + 1 by omega, List.range'_succ]
    rw [e1]
    exact one_ok (rest := List.range' (i + 1) (l.length + e)) hcl hA hs htr ho (hok o (by simp)) hsz hst
      fun st' μ' H' w' tmps' h1 h2 h3 h4 => opsTo_ok hcl hA m e hkx l (i + 1) st' μ' H' w' tmps' (fun j o' hj => by
        have := hl (j + 1) o' (by simpa using hj)
        rwa [show i + (j + 1) = i + 1 + j by omega] at this) (fun o' ho' => hok o' (by simp [ho'])) (by rw [List.length_cons] at hm; omega) h3 h4 h1 h2

theorem ops_ok (hcl : ClOk P N cl) {μ0 : Mu} {H0 : Hp} {w0 : World} {A : X → Machine → Prop} (hA : Ap P N C μ0 H0 w0 A) {ops : Array Oper} {k : List Item} {kx : St → Hp → X} (hops : ∀ o ∈ ops.toList, okOper C.n C.fzl o = true)
    (hkx : Ka P N C μ0 H0 w0 A k kx) {st : St} {tmps : Array Value} (hs : SR P N μ H w) (htr : TR μ0 H0 w0 μ H w) (hsz : Tm C tmps) (hst : StR μ st tmps) :
    A (opsX P cl ops ops.toList st kx H) (lone (on C.b tmps (.inRegion ops (List.range ops.size) :: k)) C.cs w) := by
  have := opsTo_ok (ops := ops) (k := k) (kx := kx) hcl hA ops.toList.length 0 (fun st' μ' H' w' tmps' h1 h2 h3 h4 => hA.one (st_region_end (ops := ops)) (hkx st' μ' H' w' tmps' h1 h2 h3 h4)) ops.toList 0 st μ H w tmps
    (fun j o hj => by rw [Nat.zero_add, ← Array.getElem?_toList]; exact hj) hops (by simp) hs htr hsz hst
  have e : List.range ops.size = List.range' 0 (ops.toList.length + 0) := by rw [List.range_eq_range']; simp
  rw [e]
  exact this
end
end Go.Abs
