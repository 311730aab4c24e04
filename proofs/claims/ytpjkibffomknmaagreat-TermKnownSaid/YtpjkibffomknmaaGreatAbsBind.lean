import Derived.Test.YtpjkibffomknmaaGreatAbsCode
import Derived.Test.YtpjkibffomknmaaGreatAbsPlan
/- Regions whose order is open: heaps, prefixes of the acts. -/
namespace Go.Abs
open Go

section
variable {P : Program} {N : Nat} {μ : Mu} {H H' : Hp} {w : World}

/-- more objects that nobody maps -/
inductive Ext : Hp → Hp → Prop
  | refl (A : Hp) : Ext A A
  | new {A B : Hp} (o : Ob) (h : Ext A B) : Ext A (B.new o)

theorem Ext.trans {A B C : Hp} (h : Ext A B) (k : Ext B C) : Ext A C := by
  induction k with
  | refl => exact h
  | new o _ ih => exact .new o ih

theorem Ext.size {A B : Hp} (h : Ext A B) : A.size ≤ B.size := by
  induction h with
  | refl => exact Nat.le_refl _
  | new o _ ih => rw [Hp.size_new]; omega

theorem Ext.get {A B : Hp} (h : Ext A B) {i : Nat} (hi : i < A.size) : B.get i = A.get i := by
  induction h with
  | refl => rfl
  | new o k ih =>
    have := k.size
    rw [Hp.get_new_other _ _ (by omega)]
    exact ih

theorem Ext.sr {A B : Hp} (h : Ext A B) (hs : SR P N μ A w) : SR P N μ B w := by
  induction h with
  | refl => exact hs
  | new o _ ih =>
    rename_i H' _
    have hnone := (ih.fresh H'.size (Nat.le_refl _)).1
    have hget : ∀ i x l, (H'.new o).get i = some x → μ i = some l → H'.get i = some x := fun i x l e m => by
      by_cases hi : i = H'.size
      · subst hi; rw [hnone] at m; cases m
      · rwa [Hp.get_new_other _ _ hi] at e
    refine ⟨fun i x l e m => ih.dom i x l (hget i x l e m) m, fun i hi => ?_, ih.blocks, fun i j a b la lb e1 e2 m1 m2 => ih.excl i j a b la lb (hget _ _ _ e1 m1) (hget _ _ _ e2 m2) m1 m2, fun i x l e r m => ih.low i x l (hget _ _ _ e m) r m, ih.bound⟩
    rw [Hp.size_new] at hi
    rw [Hp.get_new_other _ _ (by omega)]
    exact ih.fresh i (by omega)

theorem Ext.tr {μ0 : Mu} {H0 : Hp} {w0 : World} {A B : Hp} (h : Ext A B) (hs : SR P N μ A w) (ht : TR μ0 H0 w0 μ A w) : TR μ0 H0 w0 μ B w := by
  refine ⟨ht.le, Nat.le_trans ht.size h.size, ht.heap, ht.os, ht.tape, ht.output, fun b hb hn => ⟨(ht.keep b hb hn).1, ?_⟩, fun i hi hn => ⟨(ht.still i hi hn).1, ?_⟩⟩
  · rintro ⟨i, o, l, e, hr, m, hb'⟩
    have hlt := hs.lt_size m
    exact (ht.keep b hb hn).2 ⟨i, o, l, by rw [← h.get hlt]; exact e, hr, m, hb'⟩
  · rw [h.get (Nat.lt_of_lt_of_le hi ht.size)]
    exact (ht.still i hi hn).2

/-- an object that nobody mapped gets its block -/
theorem SR.bind (hs : SR P N μ H w) {s : Nat} {ob : Ob} {ob' : Obj} {l : Loc} (hlt : s < H.size) (hn : μ s = none) (hg : H.get s = some ob) (hl : l.b = w.heap.size) (ho : OR P μ l ob ob') :
    SR P N (upd μ s l) H (w.alloc ob') := by
  have hle := le_upd hn l
  refine ⟨fun i o l' k m => ?_, fun i hi => ?_, fun i l' k => ?_, fun i j oi oj li lj hi hj ki kj hij hrw => ?_, fun i o' l' hi hrw k => ?_, ?_⟩
  · by_cases hi : i = s
    · subst hi
      rw [upd_same] at m; cases m
      rw [hg] at k; cases k
      exact ⟨ob', by rw [hl]; exact alloc_same w ob', ho.mono hle⟩
    · rw [upd_other _ _ hi] at m
      obtain ⟨ob2, h2, h3⟩ := hs.dom i o l' k m
      exact ⟨ob2, by rw [alloc_other w ob' (hs.blocks _ _ m)]; exact h2, h3.mono hle⟩
  · rw [upd_other _ _ (by omega)]
    exact hs.fresh i hi
  · by_cases hi : i = s
    · subst hi; rw [upd_same] at k; cases k; rw [hl]; simp
    · rw [upd_other _ _ hi] at k
      have := hs.blocks _ _ k
      simp; omega
  · by_cases hi' : i = s
    · subst hi'
      rw [upd_same] at ki; cases ki
      rw [upd_other _ _ (fun e => hij e.symm)] at kj
      have := hs.blocks _ _ kj
      omega
    · rw [upd_other _ _ hi'] at ki
      by_cases hj' : j = s
      · subst hj'
        rw [upd_same] at kj; cases kj
        have := hs.blocks _ _ ki
        omega
      · rw [upd_other _ _ hj'] at kj
        exact hs.excl i j oi oj li lj hi hj ki kj hij hrw
  · by_cases hi' : i = s
    · subst hi'
      rw [upd_same] at k; cases k
      rw [hl]; exact hs.bound
    · rw [upd_other _ _ hi'] at k
      exact hs.low i o' l' hi hrw k
  · have := hs.bound; simp; omega

theorem TR.bind {μ0 : Mu} {H0 : Hp} {w0 : World} (ht : TR μ0 H0 w0 μ H w) {s : Nat} {l : Loc} (ob' : Obj) (hs0 : H0.size ≤ s) (hn : μ s = none) (hl : l.b = w.heap.size) : TR μ0 H0 w0 (upd μ s l) H (w.alloc ob') := by
  refine ⟨ht.le.trans (le_upd hn l), ht.size, Nat.le_trans ht.heap (by simp), ht.os, ht.tape, ht.output, fun b hb hno => ?_, fun i hi hno => ?_⟩
  · obtain ⟨h1, h2⟩ := ht.keep b hb hno
    have hbw : b < w.heap.size := Nat.lt_of_lt_of_le hb ht.heap
    refine ⟨by rw [alloc_other w ob' hbw]; exact h1, ?_⟩
    rintro ⟨i, o, l', e, hr, m, hb'⟩
    by_cases hi : i = s
    · subst hi; rw [upd_same] at m; cases m; omega
    · rw [upd_other _ _ hi] at m
      exact h2 ⟨i, o, l', e, hr, m, hb'⟩
  · obtain ⟨h1, h2⟩ := ht.still i hi hno
    exact ⟨by rw [upd_other _ _ (by omega)]; exact h1, h2⟩
end

section
variable {P : Program} {N : Nat} {cl : Tgt → List Value → M Value}

/-- what an operation of a region answers -/
def ansM (P : Program) (cl : Tgt → List Value → M Value) (ops : Array Oper) (st : St) (o : Oper) : M Value := guardM (guardOf ops st o) (opM P cl st o)

def stepA (P : Program) (cl : Tgt → List Value → M Value) (ops : Array Oper) (s : St × Hp) : Act → Option (St × Hp)
  | .op i => match ops[i]? with
    | some o => match ansM P cl ops s.1 o s.2 with
      | .ok v h => some (s.1.set o.dst v, h)
      | _ => none
    | none => none
  | .re i => match ops[i]? with
    | some o => match o.dst with
      | some d => match reM (s.1 d) (ansM P cl ops s.1 o) s.2 with
        | .ok _ h => some (s.1, h)
        | _ => none
      | none => none
    | none => none

def runA (P : Program) (cl : Tgt → List Value → M Value) (ops : Array Oper) : List Act → Nat → St × Hp → Option (St × Hp)
  | _, 0, s => some s
  | [], _ + 1, s => some s
  | a :: r, q + 1, s => match stepA P cl ops s a with
    | some s' => runA P cl ops r q s'
    | none => none

theorem runA_succ {ops : Array Oper} : ∀ (l : List Act) (q : Nat) (s s' : St × Hp) (a : Act), runA P cl ops l q s = some s' → l[q]? = some a → runA P cl ops l (q + 1) s = stepA P cl ops s' a
  | [], q, s, s', a, h, ha => by simp at ha
  | x :: r, 0, s, s', a, h, ha => by
    simp only [runA, Option.some.injEq] at h
    simp only [List.getElem?_cons_zero, Option.some.injEq] at ha
    subst h; subst ha
    simp only [runA]
    cases stepA P cl ops s x <;> rfl
  | x :: r, q + 1, s, s', a, h, ha => by
    simp only [runA] at h
    rw [runA]
    cases hx : stepA P cl ops s x with
    | none => rw [hx] at h; cases h
    | some s1 =>
      rw [hx] at h
      exact runA_succ r q s1 s' a h (by simpa using ha)

theorem runA_pre {ops : Array Oper} : ∀ (l : List Act) (q : Nat) (s s' : St × Hp), runA P cl ops l (q + 1) s = some s' → ∃ s1, runA P cl ops l q s = some s1
  | [], q, s, s', h => by cases q <;> exact ⟨s, rfl⟩
  | x :: r, 0, s, s', h => ⟨s, rfl⟩
  | x :: r, q + 1, s, s', h => by
    rw [runA] at h
    rw [runA]
    cases hx : stepA P cl ops s x with
    | none => rw [hx] at h; cases h
    | some s1 =>
      rw [hx] at h
      exact runA_pre r q s1 s' h

theorem runA_le {ops : Array Oper} {l : List Act} {s : St × Hp} : ∀ (d q : Nat) (s' : St × Hp), runA P cl ops l (q + d) s = some s' → ∃ s1, runA P cl ops l q s = some s1
  | 0, q, s', h => ⟨s', h⟩
  | d + 1, q, s', h => by
    obtain ⟨s1, h1⟩ := runA_pre l (q + d) s s' h
    exact runA_le d q s1 h1

theorem reM_ok {u v : Value} {m : M Value} {h h' : Hp} (hm : reM u m h = .ok v h') : h' = h ∧ ∃ v1 h1, m h = .ok v1 h1 ∧ beqV v1 u = true := by
  unfold reM at hm
  cases hmh : m h with
  | fail => rw [hmh] at hm; cases hm
  | pan a b => rw [hmh] at hm; cases hm
  | ok v1 h1 =>
    rw [hmh] at hm
    simp only at hm
    cases hb : beqV v1 u with
    | false => rw [hb] at hm; cases hm
    | true => rw [hb] at hm; cases hm; exact ⟨rfl, v1, h1, rfl, hb⟩

theorem np_reM (u : Value) (m : M Value) : NP (reM u m) := fun h v h' e => by
  unfold reM at e
  cases hmh : m h with
  | fail => rw [hmh] at e; cases e
  | pan a b => rw [hmh] at e; cases e
  | ok v1 h1 =>
    rw [hmh] at e
    simp only at e
    cases hb : beqV v1 u <;> (rw [hb] at e; cases e)

/-- how a list of acts ends -/
theorem acts_dec {ops : Array Oper} {k : St → Hp → X} : ∀ (l : List Act) (s : St × Hp), actsX P cl ops l s.1 k s.2 ≠ .fail →
    (∃ s', runA P cl ops l l.length s = some s' ∧ actsX P cl ops l s.1 k s.2 = k s'.1 s'.2) ∨
    (∃ (q i : Nat) (o : Oper) (s' : St × Hp) (v : Value) (h' : Hp), l[q]? = some (.op i) ∧ ops[i]? = some o ∧ runA P cl ops l q s = some s' ∧ ansM P cl ops s'.1 o s'.2 = .pan v h' ∧ actsX P cl ops l s.1 k s.2 = .pan v h')
  | [], s, h => .inl ⟨s, rfl, rfl⟩
  | .op i :: r, s, h => by
    unfold actsX at h ⊢
    rw [Array.getElem?_toList] at h ⊢
    cases ho : ops[i]? with
    | none => rw [ho] at h; exact absurd rfl h
    | some o =>
      rw [ho] at h
      simp only at h ⊢
      rw [oneX_eq] at h ⊢
      have hfold : guardM (guardOf ops s.1 o) (opM P cl s.1 o) = ansM P cl ops s.1 o := rfl
      rw [hfold] at h ⊢
      unfold bx at h ⊢
      cases ha : ansM P cl ops s.1 o s.2 with
      | fail => simp only [ha] at h; exact absurd rfl h
      | pan v h' => exact .inr ⟨0, i, o, s, v, h', rfl, ho, rfl, ha, rfl⟩
      | ok v h' =>
        simp only [ha] at h ⊢
        have hst : stepA P cl ops s (.op i) = some (s.1.set o.dst v, h') := by simp only [stepA, ho, ha]
        rcases acts_dec r (s.1.set o.dst v, h') h with ⟨s', h1, h2⟩ | ⟨q, i', o', s', v', h'', h1, h2, h3, h4, h5⟩
        · refine .inl ⟨s', ?_, h2⟩
          simp only [List.length_cons, runA, hst]
          exact h1
        · refine .inr ⟨q + 1, i', o', s', v', h'', by simpa using h1, h2, ?_, h4, h5⟩
          simp only [runA, hst]
          exact h3
  | .re i :: r, s, h => by
    unfold actsX at h ⊢
    rw [Array.getElem?_toList] at h ⊢
    cases ho : ops[i]? with
    | none => rw [ho] at h; exact absurd rfl h
    | some o =>
      rw [ho] at h
      simp only at h ⊢
      unfold reX at h ⊢
      cases hd : o.dst with
      | none => rw [hd] at h; exact absurd rfl h
      | some d =>
        rw [hd] at h
        simp only at h ⊢
        have hfold : guardM (guardOf ops s.1 o) (opM P cl s.1 o) = ansM P cl ops s.1 o := rfl
        rw [hfold] at h ⊢
        unfold bx at h ⊢
        cases ha : reM (s.1 d) (ansM P cl ops s.1 o) s.2 with
        | fail => simp only [ha] at h; exact absurd rfl h
        | pan v h' => exact absurd ha (np_reM _ _ _ _ _)
        | ok v h' =>
          simp only [ha] at h ⊢
          have hst : stepA P cl ops s (.re i) = some (s.1, h') := by simp only [stepA, ho, hd, ha]
          rcases acts_dec r (s.1, h') h with ⟨s', h1, h2⟩ | ⟨q, i', o', s', v', h'', h1, h2, h3, h4, h5⟩
          · refine .inl ⟨s', ?_, h2⟩
            simp only [List.length_cons, runA, hst]
            exact h1
          · refine .inr ⟨q + 1, i', o', s', v', h'', by simpa using h1, h2, ?_, h4, h5⟩
            simp only [runA, hst]
            exact h3

theorem guard_ok {ops : Array Oper} {st : St} {o : Oper} {H H' : Hp} {v : Value} (h : ansM P cl ops st o H = .ok v H') :
    (opM P cl st o H = .ok v H' ∧ ∀ H2, ansM P cl ops st o H2 = opM P cl st o H2) ∨ (v = skV ∧ H' = H ∧ ∀ H2, ansM P cl ops st o H2 = .ok skV H2) := by
  unfold ansM guardM at h ⊢
  cases hg : guardOf ops st o with
  | none => rw [hg] at h; exact .inl ⟨h, fun _ => rfl⟩
  | some p =>
    obtain ⟨c, want⟩ := p
    rw [hg] at h
    simp only at h ⊢
    cases c <;> simp only at h <;> try (cases h; done)
    rotate_left
    · cases h; exact .inr ⟨rfl, rfl, fun _ => rfl⟩
    rename_i b
    cases b <;> cases want <;> simp only at h ⊢
    · exact .inl ⟨h, fun _ => trivial⟩
    · cases h; exact .inr ⟨rfl, rfl, fun _ => trivial⟩
    · cases h; exact .inr ⟨rfl, rfl, fun _ => trivial⟩
    · exact .inl ⟨h, fun _ => trivial⟩

/-- a light operation only adds objects -/
theorem ans_ext {ops : Array Oper} {st : St} {o : Oper} {H H' : Hp} {v : Value} (hc : isHeavy (clsOf P o) = false) (h : ansM P cl ops st o H = .ok v H') : Ext H H' ∧ (isAlloc (clsOf P o) = false → H' = H) := by
  rcases guard_ok h with ⟨h1, _⟩ | ⟨_, rfl, _⟩
  · rcases cls_cases (clsOf P o) with k | k | k | k
    · rw [hc] at k; cases k
    · have := (pure_op cl k _ _ _ h1).1; subst this; exact ⟨.refl _, fun _ => rfl⟩
    · have := read_op cl k _ _ _ h1; subst this; exact ⟨.refl _, fun _ => rfl⟩
    · obtain ⟨f, ob, _, e, _⟩ := new_op cl k h1
      subst e
      exact ⟨.new _ (.refl _), fun hn => by rw [k] at hn; cases hn⟩
  · exact ⟨.refl _, fun _ => rfl⟩

theorem np_ans {ops : Array Oper} {st : St} {o : Oper} (hc : isHeavy (clsOf P o) = false) : NP (ansM P cl ops st o) := fun h v h' e => by
  unfold ansM guardM at e
  cases hg : guardOf ops st o with
  | none => rw [hg] at e; exact light_np cl hc _ _ _ e
  | some p =>
    obtain ⟨c, want⟩ := p
    rw [hg] at e
    simp only at e
    cases c <;> simp only at e <;> try (cases e; done)
    rename_i b
    cases b <;> cases want <;> simp only at e <;> first | (cases e; done) | exact light_np cl hc _ _ _ e
end
end Go.Abs
