import Derived.Test.YtpjkibffomknmaaGreatAbsBind
import Derived.Test.YtpjkibffomknmaaGreatAbsOps
/- Regions whose order is open: every order comes to what the plan computes. -/
namespace Go.Abs
open Go

/-! ## the same value -/
mutual
theorem beqV_eq : ∀ a b : Value, beqV a b = true → a = b
  | .bool a, .bool b, h => by cases a <;> cases b <;> simp_all [beqV]
  | .int k a, .int k' b, h => by
    unfold beqV at h
    cases hk : decide (k = k') with
    | false => rw [hk] at h; cases h
    | true => rw [hk] at h; simp_all
  | .string a, .string b, h => by
    unfold beqV at h
    rw [bytesEq_iff] at h
    have := of_decide_eq_true h
    obtain ⟨⟨a⟩⟩ := a
    obtain ⟨⟨b⟩⟩ := b
    simp_all
  | .pointer a, .pointer b, h => by unfold beqV at h; simp_all
  | .slice a l c, .slice b l' c', h => by
    unfold beqV at h
    cases hk : decide (a = b) with
    | false => rw [hk] at h; cases h
    | true =>
      rw [hk] at h
      simp only [Bool.and_eq_true] at h
      have e1 := Nat.eq_of_beq_eq_true h.1
      have e2 := Nat.eq_of_beq_eq_true h.2
      simp_all
  | .map a, .map b, h => by unfold beqV at h; simp_all
  | .chan a, .chan b, h => by unfold beqV at h; simp_all
  | .nilFunc, .nilFunc, _ => rfl
  | .nilIface, .nilIface, _ => rfl
  | .func f a b, .func f' a' b', h => by
    unfold beqV at h
    cases hk : decide (f = f') with
    | false => rw [hk] at h; cases h
    | true =>
      rw [hk] at h
      simp only [Bool.and_eq_true] at h
      rw [of_decide_eq_true hk, beqA_eq a a' h.1, beqA_eq b b' h.2]
  | .iface t v, .iface t' v', h => by
    unfold beqV at h
    cases hk : Nat.beq t t' with
    | false => rw [hk] at h; cases h
    | true =>
      rw [hk] at h
      rw [Nat.eq_of_beq_eq_true hk, beqV_eq v v' h]
  | .agg a, .agg b, h => by unfold beqV at h; rw [beqA_eq a b h]
  | .tuple a, .tuple b, h => by unfold beqV at h; rw [beqA_eq a b h]
theorem beqA_eq : ∀ a b : Array Value, beqA a b = true → a = b
  | ⟨a⟩, ⟨b⟩, h => by unfold beqA at h; rw [beqL_eq a b h]
theorem beqL_eq : ∀ a b : List Value, beqL a b = true → a = b
  | [], [], _ => rfl
  | a :: x, b :: y, h => by
    unfold beqL at h
    cases hk : beqV a b with
    | false => rw [hk] at h; cases h
    | true =>
      rw [hk] at h
      rw [beqV_eq a b hk, beqL_eq x y h]
  | [], _ :: _, h => by simp [beqL] at h
  | _ :: _, [], h => by simp [beqL] at h
end

section
variable {P : Program} {N : Nat} {cl : Tgt → List Value → M Value} {C : Cx} {ops : Array Oper} {acts : List Act}

def Ev (acts : List Act) (q i : Nat) : Prop := ∃ p : Nat, p < q ∧ acts[p]? = some (.op i)
def Jd (ops : Array Oper) (acts : List Act) (D : Nat → Prop) (q t : Nat) : Prop := ∀ (j : Nat) (o : Oper), ops[j]? = some o → o.dst = some t → (D j ↔ Ev acts q j)
def LightAt (P : Program) (ops : Array Oper) (acts : List Act) (r : Nat) : Prop := ∀ (i : Nat) (o : Oper), acts[r]? = some (.op i) → ops[i]? = some o → isHeavy (clsOf P o) = false
def StillAt (P : Program) (ops : Array Oper) (acts : List Act) (r : Nat) : Prop := ∀ (i : Nat) (o : Oper), acts[r]? = some (.op i) → ops[i]? = some o → isHeavy (clsOf P o) = false ∧ isAlloc (clsOf P o) = false

theorem step_op {s s' : St × Hp} {i : Nat} (h : stepA P cl ops s (.op i) = some s') : ∃ o v h', ops[i]? = some o ∧ ansM P cl ops s.1 o s.2 = .ok v h' ∧ s' = (s.1.set o.dst v, h') := by
  unfold stepA at h
  cases ho : ops[i]? with
  | none => simp only [ho] at h; cases h
  | some o =>
    simp only [ho] at h
    cases ha : ansM P cl ops s.1 o s.2 with
    | fail => simp only [ha] at h; cases h
    | pan a b => simp only [ha] at h; cases h
    | ok v h' => simp only [ha] at h; cases h; exact ⟨o, v, h', rfl, ha, rfl⟩

theorem step_re {s s' : St × Hp} {i : Nat} (h : stepA P cl ops s (.re i) = some s') : s' = s ∧ ∃ o d h1, ops[i]? = some o ∧ o.dst = some d ∧ ansM P cl ops s.1 o s.2 = .ok (s.1 d) h1 := by
  unfold stepA at h
  cases ho : ops[i]? with
  | none => simp only [ho] at h; cases h
  | some o =>
    simp only [ho] at h
    cases hd : o.dst with
    | none => simp only [hd] at h; cases h
    | some d =>
      simp only [hd] at h
      cases ha : reM (s.1 d) (ansM P cl ops s.1 o) s.2 with
      | fail => simp only [ha] at h; cases h
      | pan a b => simp only [ha] at h; cases h
      | ok v h' =>
        simp only [ha] at h
        cases h
        obtain ⟨rfl, v1, h1, e1, e2⟩ := reM_ok ha
        rw [beqV_eq _ _ e2] at e1
        exact ⟨rfl, o, d, h1, rfl, hd, e1⟩

/-- light acts only add objects -/
theorem seg_ext {s0 : St × Hp} : ∀ (d q : Nat) (s s' : St × Hp), runA P cl ops acts q s0 = some s → runA P cl ops acts (q + d) s0 = some s' → q + d ≤ acts.length → (∀ r, q ≤ r → r < q + d → LightAt P ops acts r) → Ext s.2 s'.2
  | 0, q, s, s', h, h', _, _ => by rw [Nat.add_zero, h] at h'; cases h'; exact .refl _
  | d + 1, q, s, s', h, h', hl, hlt => by
    obtain ⟨s1, h1⟩ := runA_pre acts (q + d) s0 s' h'
    have ih := seg_ext d q s s1 h h1 (by omega) (fun r a b => hlt r a (by omega))
    have hr : q + d < acts.length := by omega
    have e := runA_succ acts (q + d) s0 s1 acts[q + d] h1 (List.getElem?_eq_getElem hr)
    rw [show q + (d + 1) = q + d + 1 by omega, e] at h'
    refine ih.trans ?_
    have hlight := hlt (q + d) (by omega) (by omega)
    cases ha : acts[q + d] with
    | op i =>
      rw [ha] at h'
      obtain ⟨o, v, h1', e1, e2, rfl⟩ := step_op h'
      exact (ans_ext (hlight i o (by rw [List.getElem?_eq_getElem hr, ha]) e1) e2).1
    | re i =>
      rw [ha] at h'
      obtain ⟨rfl, _⟩ := step_re h'
      exact .refl _

theorem seg_eq {s0 : St × Hp} : ∀ (d q : Nat) (s s' : St × Hp), runA P cl ops acts q s0 = some s → runA P cl ops acts (q + d) s0 = some s' → q + d ≤ acts.length → (∀ r, q ≤ r → r < q + d → StillAt P ops acts r) → s'.2 = s.2
  | 0, q, s, s', h, h', _, _ => by rw [Nat.add_zero, h] at h'; cases h'; rfl
  | d + 1, q, s, s', h, h', hl, hlt => by
    obtain ⟨s1, h1⟩ := runA_pre acts (q + d) s0 s' h'
    have ih := seg_eq d q s s1 h h1 (by omega) (fun r a b => hlt r a (by omega))
    have hr : q + d < acts.length := by omega
    have e := runA_succ acts (q + d) s0 s1 acts[q + d] h1 (List.getElem?_eq_getElem hr)
    rw [show q + (d + 1) = q + d + 1 by omega, e] at h'
    have hlight := hlt (q + d) (by omega) (by omega)
    rw [← ih]
    cases ha : acts[q + d] with
    | op i =>
      rw [ha] at h'
      obtain ⟨o, v, h1', e1, e2, rfl⟩ := step_op h'
      have := hlight i o (by rw [List.getElem?_eq_getElem hr, ha]) e1
      exact (ans_ext this.1 e2).2 this.2
    | re i =>
      rw [ha] at h'
      obtain ⟨rfl, _⟩ := step_re h'
      rfl

/-- a temporary that is not written stays -/
theorem seg_tmp {s0 : St × Hp} {t : Nat} : ∀ (d q : Nat) (s s' : St × Hp), runA P cl ops acts q s0 = some s → runA P cl ops acts (q + d) s0 = some s' → q + d ≤ acts.length →
    (∀ r (i : Nat) (o : Oper), q ≤ r → r < q + d → acts[r]? = some (.op i) → ops[i]? = some o → o.dst ≠ some t) → s'.1 t = s.1 t
  | 0, q, s, s', h, h', _, _ => by rw [Nat.add_zero, h] at h'; cases h'; rfl
  | d + 1, q, s, s', h, h', hl, hlt => by
    obtain ⟨s1, h1⟩ := runA_pre acts (q + d) s0 s' h'
    have ih := seg_tmp d q s s1 h h1 (by omega) (fun r i o a b => hlt r i o a (by omega))
    have hr : q + d < acts.length := by omega
    have e := runA_succ acts (q + d) s0 s1 acts[q + d] h1 (List.getElem?_eq_getElem hr)
    rw [show q + (d + 1) = q + d + 1 by omega, e] at h'
    rw [← ih]
    cases ha : acts[q + d] with
    | op i =>
      rw [ha] at h'
      obtain ⟨o, v, h1', e1, e2, rfl⟩ := step_op h'
      have hne := hlt (q + d) i o (by omega) (by omega) (by rw [List.getElem?_eq_getElem hr, ha]) e1
      show s1.1.set o.dst v t = s1.1 t
      cases hd : o.dst with
      | none => rfl
      | some d' =>
        unfold St.set
        simp only
        cases hb : Nat.beq t d' with
        | false => rfl
        | true => have := Nat.eq_of_beq_eq_true hb; subst this; exact absurd hd hne
    | re i =>
      rw [ha] at h'
      obtain ⟨rfl, _⟩ := step_re h'
      rfl

variable {μ0 : Mu} {H0 : Hp} {w0 : World} {s0 : St × Hp} {Q : Nat}

structure Inv (P : Program) (N : Nat) (cl : Tgt → List Value → M Value) (C : Cx) (ops : Array Oper) (acts : List Act) (μ0 : Mu) (H0 : Hp) (w0 : World) (s0 : St × Hp) (Q : Nat)
    (D : Nat → Prop) (q : Nat) (μ : Mu) (w : World) (tmps : Array Value) : Prop where
  inn : ∀ i, D i → Ev acts q i
  hv : ∀ i o, Ev acts q i → ops[i]? = some o → isHeavy (clsOf P o) = true → D i
  at_ : q = Q ∨ (q < Q ∧ ∃ i o, acts[q]? = some (.op i) ∧ ops[i]? = some o ∧ isHeavy (clsOf P o) = true)
  clo : ∀ i a j, D i → (infos P ops)[i]? = some a → a.anc.testBit j = true → D j
  sz : Tm C tmps
  J : ∀ q' s, q' ≤ Q → runA P cl ops acts q' s0 = some s → ∀ t, Jd ops acts D q' t → VR μ (s.1 t) (tmps.getD t undef)
  K : ∃ s, runA P cl ops acts q s0 = some s ∧ SR P N μ s.2 w ∧ TR μ0 H0 w0 μ s.2 w
  M : ∀ p p' s s', p ≤ p' → p' ≤ q → runA P cl ops acts p s0 = some s → runA P cl ops acts p' s0 = some s' → s.2.size ≤ s'.2.size
  L : ∀ (p i : Nat) s s' s'', p < q → acts[p]? = some (.op i) → ¬ D i → runA P cl ops acts p s0 = some s → runA P cl ops acts (p + 1) s0 = some s' → runA P cl ops acts q s0 = some s'' →
    ∀ b, s.2.size ≤ b → b < s'.2.size → μ b = none ∧ s''.2.get b = s'.2.get b ∧ b < s''.2.size

def ins (D : Nat → Prop) (i : Nat) : Nat → Prop := fun j => D j ∨ j = i

theorem J_put (hp : Plan P ops acts) (hQ : Q ≤ acts.length) {D : Nat → Prop} (hclo : ∀ i a j, D i → (infos P ops)[i]? = some a → a.anc.testBit j = true → D j) {μ μ' : Mu} {tmps : Array Value} (hle : μ.le μ') (hsz : tmps.size = C.n)
    (hJ : ∀ q' s, q' ≤ Q → runA P cl ops acts q' s0 = some s → ∀ t, Jd ops acts D q' t → VR μ (s.1 t) (tmps.getD t undef))
    {i p : Nat} {o : Oper} (hpi : acts[p]? = some (.op i)) (ho : ops[i]? = some o) (hD : ¬ D i) (hdst : ∀ t, o.dst = some t → t < C.n) {s : St × Hp} {v v' : Value} {h' : Hp} (hrun : runA P cl ops acts (p + 1) s0 = some (s.1.set o.dst v, h')) (hv : VR μ' v v') :
    ∀ q' s, q' ≤ Q → runA P cl ops acts q' s0 = some s → ∀ t, Jd ops acts (ins D i) q' t → VR μ' (s.1 t) ((putD tmps o.dst v').getD t undef) := by
  intro q' s' hq' hs' t hj
  by_cases ht : o.dst = some t
  · have hE : Ev acts q' i := (hj i o ho ht).1 (.inr rfl)
    obtain ⟨p', hp', he⟩ := hE
    have := hp.uniq p' p i he hpi
    subst this
    obtain ⟨a, ha, _, hadst, _, _⟩ := infos_spec (P := P) ho
    have hstay := seg_tmp (P := P) (cl := cl) (t := t) (q' - (p' + 1)) (p' + 1) _ s' hrun (by rw [show p' + 1 + (q' - (p' + 1)) = q' by omega]; exact hs') (by omega) (by
      intro r j oj hr1 hr2 hrj hoj hdj
      obtain ⟨b, hb, _, hbdst, _, _⟩ := infos_spec (P := P) hoj
      rcases hp.aft p' r i j a b hpi (by omega) hrj ha hb with ⟨_, h1, _⟩ | h1
      · rw [hadst, ht] at h1
        exact (hits_false h1).2 (by rw [hbdst, hdj])
      · have hDj : ins D i j := (hj j oj hoj hdj).2 ⟨r, by omega, hrj⟩
        rcases hDj with hDj | rfl
        · exact hD (hclo j b i hDj hb h1)
        · have := hp.uniq p' r j hpi hrj
          omega)
    have hlt := hdst t ht
    have e1 : (putD tmps o.dst v').getD t undef = v' := by
      rw [ht]
      simp only [putD]
      rw [Array.getD_eq_getD_getElem?, Array.getElem?_setIfInBounds_self_of_lt (by rw [hsz]; exact hlt)]
      rfl
    have e2 : s'.1 t = v := by
      rw [hstay, ht]
      simp [St.set]
    rw [e1, e2]
    exact hv
  · have hj' : Jd ops acts D q' t := by
      intro j oj hoj hdj
      rw [← hj j oj hoj hdj]
      refine ⟨.inl, fun h => h.resolve_right ?_⟩
      rintro rfl
      rw [ho] at hoj
      cases hoj
      exact ht hdj
    have := (hJ q' s' hq' hs' t hj').mono hle
    have e1 : (putD tmps o.dst v').getD t undef = tmps.getD t undef := by
      cases hd : o.dst with
      | none => rfl
      | some d =>
        simp only [putD]
        rw [Array.getD_eq_getD_getElem?, Array.getElem?_setIfInBounds_ne (fun e => ht (by rw [hd, e])), ← Array.getD_eq_getD_getElem?]
    rw [e1]
    exact this

/-- what an operation looks at has been made, and no more -/
theorem looks_jd (hp : Plan P ops acts) {D : Nat → Prop} (hclo : ∀ i a j, D i → (infos P ops)[i]? = some a → a.anc.testBit j = true → D j) {q : Nat} (hinn : ∀ i, D i → Ev acts q i) {i p r : Nat} {a : Info} (hpi : acts[p]? = some (.op i)) (ha : (infos P ops)[i]? = some a) (hD : ¬ D i)
    (hanc : ∀ j, a.anc.testBit j = true → D j) (hr : r = p ∨ (p < r ∧ selfless a = true ∧ ∀ (p' j : Nat) (b : Info), p < p' → p' < r → acts[p']? = some (.op j) → (infos P ops)[j]? = some b → hits b.dst a = false)) {t : Nat} (ht : t ∈ a.looks) : Jd ops acts D r t := by
  intro j oj hoj hdj
  obtain ⟨b, hb, _, hbdst, _, _⟩ := infos_spec (P := P) hoj
  constructor
  · intro hDj
    obtain ⟨pj, _, hpj⟩ := hinn j hDj
    rcases Nat.lt_trichotomy pj p with h | h | h
    · exact ⟨pj, by rcases hr with rfl | ⟨h2, _⟩ <;> omega, hpj⟩
    · subst h
      rw [hpi] at hpj
      cases hpj
      exact absurd hDj hD
    · rcases hp.aft p pj i j a b hpi h hpj ha hb with ⟨_, _, h1⟩ | h1
      · rw [hbdst, hdj] at h1
        exact absurd ht (hits_false h1).1
      · exact absurd (hclo j b i hDj hb h1) hD
  · rintro ⟨pj, hlt, hpj⟩
    rcases Nat.lt_trichotomy pj p with h | h | h
    · rcases hp.aft pj p j i b a hpj h hpi hb ha with ⟨_, h1, _⟩ | h1
      · rw [hbdst, hdj] at h1
        exact absurd ht (hits_false h1).1
      · exact hanc j h1
    · subst h
      rw [hpi] at hpj
      cases hpj
      rcases hr with rfl | ⟨_, hself, _⟩
      · omega
      · rw [ha] at hb
        cases hb
        unfold selfless at hself
        rw [hbdst, hdj] at hself
        simp only [Bool.not_eq_true'] at hself
        exact absurd ht (memN_false hself)
    · rcases hr with rfl | ⟨_, _, hn⟩
      · omega
      · have := hn pj j b h hlt hpj hb
        rw [hbdst, hdj] at this
        exact absurd ht (hits_false this).1

theorem opnd_ok {μ : Mu} {st : St} {tmps : Array Value} {o : Oper} (hk : ∀ x ∈ o.op.operands.toList, okOpnd x = true) (h : ∀ t ∈ looksOf ops.toList o, VR μ (st t) (tmps.getD t undef)) : ∀ x ∈ o.op.operands.toList, VR μ (st.op x) ((⟨tmps, []⟩ : Go.Act).eval x) := by
  intro x hx
  cases x with
  | tmp t =>
    refine h t (List.mem_append_left _ (List.mem_filterMap.2 ⟨.tmp t, hx, rfl⟩))
  | const v => exact (flatB_Flat (hk _ hx)).VR μ
  | global g => exact .undef _
  | func f => exact .func' (.func f) .nil .nil

theorem guard_look {μ : Mu} {st : St} {tmps : Array Value} {o : Oper} (h : ∀ t ∈ looksOf ops.toList o, VR μ (st t) (tmps.getD t undef)) : ∀ j want g d, o.guard = some (j, want) → ops[j]? = some g → g.dst = some d → VR μ (st d) (tmps.getD d undef) := by
  intro j want g d hg ho hd
  refine h d (List.mem_append_right _ ?_)
  rw [hg]
  have : ops.toList[j]? = some g := by rw [Array.getElem?_toList]; exact ho
  simp [this, hd]

/-- the next operation that may change something -/
theorem next_pos (hQ : Q ≤ acts.length) : ∀ (d q : Nat), q + d = Q → ∃ q2, q ≤ q2 ∧ q2 ≤ Q ∧ (∀ r, q ≤ r → r < q2 → LightAt P ops acts r) ∧ (q2 = Q ∨ (q2 < Q ∧ ∃ i o, acts[q2]? = some (.op i) ∧ ops[i]? = some o ∧ isHeavy (clsOf P o) = true))
  | 0, q, h => ⟨q, Nat.le_refl _, by omega, fun r a b => by omega, .inl (by omega)⟩
  | d + 1, q, h => by
    by_cases hh : ∃ i o, acts[q]? = some (.op i) ∧ ops[i]? = some o ∧ isHeavy (clsOf P o) = true
    · exact ⟨q, Nat.le_refl _, by omega, fun r a b => by omega, .inr ⟨by omega, hh⟩⟩
    · obtain ⟨q2, h1, h2, h3, h4⟩ := next_pos hQ d (q + 1) (by omega)
      refine ⟨q2, by omega, h2, fun r a b => ?_, h4⟩
      by_cases hr : r = q
      · subst hr
        intro i o hi ho
        cases hc : isHeavy (clsOf P o) with
        | false => rfl
        | true => exact absurd ⟨i, o, hi, ho, hc⟩ hh
      · exact h3 r (by omega) b
end
end Go.Abs
