import Derived.Test.YtpjkibffomknmaaGreatAbsDefer
/- The whole program. -/
namespace Go.Abs
open Go

section
variable {P : Program} {N : Nat} {fuel : Nat}

def TabOk (P : Program) (T : FuncId → Option (Func × Ent)) : Prop := ∀ f fn e, T f = some (fn, e) → P.funcs[f]? = some fn ∧ Enters P f

theorem enters_of (hn : (P.funcs.toList.all fun fn => fn.name != "runtime.NumGoroutine") = true) {f : FuncId} {fn : Func} (h : P.funcs[f]? = some fn) (hb : fn.body.isSome = true) : Enters P f := by
  refine ⟨fn, h, ?_, hb⟩
  rw [List.all_eq_true] at hn
  have := hn fn (by rw [← Array.getElem?_toList] at h; exact List.mem_of_getElem? h)
  simpa using this

theorem tabOf_ok (hn : (P.funcs.toList.all fun fn => fn.name != "runtime.NumGoroutine") = true) (A : Tr Ent) : TabOk P (tabOf P A) := by
  intro f fn e h
  unfold tabOf at h
  cases hf : P.funcs[f]? with
  | none => rw [hf] at h; cases h
  | some g =>
    rw [hf] at h
    simp only at h
    cases hA : A.get f with
    | none => rw [hA] at h; cases h
    | some x =>
      cases hb : g.body.isSome with
      | false => rw [hA, hb] at h; cases h
      | true => rw [hA, hb] at h; cases h; exact ⟨rfl, enters_of hn hf hb⟩

theorem tcOf_ok (hn : (P.funcs.toList.all fun fn => fn.name != "runtime.NumGoroutine") = true) (A : Tr An) : TcOk P (tcOf P A) := by
  intro f fn e h
  unfold tcOf at h
  cases hf : P.funcs[f]? with
  | none => rw [hf] at h; cases h
  | some g =>
    rw [hf] at h
    simp only at h
    cases hA : A.get f with
    | none => rw [hA] at h; cases h
    | some x =>
      cases hb : g.body.isSome with
      | false => rw [hA, hb] at h; cases h
      | true => rw [hA, hb] at h; cases h; exact ⟨rfl, enters_of hn hf hb⟩

/-! ### values without addresses -/
mutual
theorem flatD_VR (μ : Mu) : ∀ v : Value, flatD v = true → VR μ v v
  | .bool b, _ => .bool b
  | .int k n, _ => .int k n
  | .string s, _ => .string s
  | .pointer none, _ => .nilptr
  | .map none, _ => .nilmap
  | .nilFunc, _ => .nilFunc
  | .nilIface, _ => .nilIface
  | .slice none 0 0, _ => .nilslice 0 0 (by decide) (Nat.le_refl 0)
  | .func (.func f) a c, h => by
    unfold flatD at h
    simp only [Bool.and_eq_true, List.isEmpty_iff] at h
    have ha : a = #[] := Array.ext' h.1
    have hc : c = #[] := Array.ext' h.2
    subst ha hc
    exact .func' (.func f) .nil .nil
  | .iface t v, h => by
    unfold flatD at h
    exact .iface (flatD_VR μ v h)
  | .agg ⟨a⟩, h => by
    unfold flatD at h
    exact .agg' (flatDs_LR μ a h)
  | .tuple ⟨a :: r⟩, h => by
    unfold flatD at h
    simp only [Bool.and_eq_true] at h
    exact .tuple' (.cons (flatD_VR μ a h.1) (flatDs_LR μ r h.2))
  | .tuple ⟨[]⟩, _ => .undef _
theorem flatDs_LR (μ : Mu) : ∀ l : List Value, flatD.flatDs l = true → LR μ l l
  | [], _ => .nil
  | a :: r, h => by
    unfold flatD.flatDs at h
    simp only [Bool.and_eq_true] at h
    exact .cons (flatD_VR μ a h.1) (flatDs_LR μ r h.2)
end

mutual
theorem flatD_eq {μ : Mu} : ∀ (v v' : Value), flatD v = true → VR μ v v' → v' = v
  | .bool b, v', _, h => by cases h; rfl
  | .int k n, v', _, h => by cases h; rfl
  | .string s, v', _, h => by cases h; rfl
  | .pointer none, v', _, h => by cases h; rfl
  | .map none, v', _, h => by cases h; rfl
  | .nilFunc, v', _, h => by cases h; rfl
  | .nilIface, v', _, h => by cases h; rfl
  | .slice none 0 0, v', _, h => by cases h; rfl
  | .func (.func f) a c, v', hf, h => by
    unfold flatD at hf
    simp only [Bool.and_eq_true, List.isEmpty_iff] at hf
    have ha : a = #[] := Array.ext' hf.1
    have hc : c = #[] := Array.ext' hf.2
    subst ha hc
    cases h with
    | func hfn hl hv hm hc =>
      cases hfn
      rename_i a' c'
      have e1 : a' = #[] := Array.ext' (List.eq_nil_of_length_eq_zero (by simpa using hl.symm))
      have e2 : c' = #[] := Array.ext' (List.eq_nil_of_length_eq_zero (by simpa using hm.symm))
      rw [e1, e2]
  | .iface t v, v', hf, h => by
    unfold flatD at hf
    cases h with
    | iface hv => rw [flatD_eq v _ hf hv]
  | .agg ⟨a⟩, v', hf, h => by
    unfold flatD at hf
    obtain ⟨a', rfl, hl⟩ := h.agg_inv
    have := flatDs_eq a a'.toList hf hl
    congr 1
    exact Array.ext' this
  | .tuple ⟨a :: r⟩, v', hf, h => by
    unfold flatD at hf
    simp only [Bool.and_eq_true] at hf
    cases h with
    | tuple hl hv =>
      rename_i a'
      have hL : LR μ (a :: r) a'.toList := ⟨hl, hv⟩
      obtain ⟨b, t, e, h1, h2⟩ := hL.cons_left
      congr 1
      apply Array.ext'
      rw [e, flatD_eq a b hf.1 h1, flatDs_eq r t hf.2 h2]
  | .tuple ⟨[]⟩, v', hf, h => by simp [flatD] at hf
theorem flatDs_eq {μ : Mu} : ∀ (l l' : List Value), flatD.flatDs l = true → LR μ l l' → l' = l
  | [], l', _, h => h.nil_left
  | a :: r, l', hf, h => by
    unfold flatD.flatDs at hf
    simp only [Bool.and_eq_true] at hf
    obtain ⟨b, t, rfl, h1, h2⟩ := h.cons_left
    rw [flatD_eq a b hf.1 h1, flatDs_eq r t hf.2 h2]
end

/-- nothing is there yet -/
def Hp.zero : Hp := ⟨.leaf, 0, [], none⟩

theorem SR.zero (w : World) : SR P w.heap.size (fun _ => none) Hp.zero w := by
  have hg : ∀ i, Hp.zero.get i = none := fun i => Tr.get_leaf i
  have hn : ∀ i o, Hp.zero.get i = some o → False := fun i o h => by rw [hg] at h; cases h
  have hm : ∀ (i : Nat) (l : Loc), (none : Option Loc) = some l → False := fun i l h => by cases h
  exact ⟨fun i o l h _ => (hn i o h).elim, fun i _ => ⟨rfl, hg i⟩, fun i l h => (hm i l h).elim, fun i j oi oj li lj h _ _ _ _ _ => (hn i oi h).elim, fun i o l h _ _ => (hn i o h).elim, Nat.le_refl _⟩

theorem zero_own (b : Nat) : ¬ Own (fun _ => none) Hp.zero b := by
  rintro ⟨i, o, l, _, _, h, _⟩
  cases h

/-- what a run over nothing shows: what was there stays -/
structure Kept (w w' : World) : Prop where
  heap : w.heap.size ≤ w'.heap.size
  old : ∀ b, b < w.heap.size → w'.heap[b]? = w.heap[b]?
  os : w'.os = w.os
  tape : w'.tape = w.tape
  output : w'.output = w.output

theorem TR.kept {μ' : Mu} {H' : Hp} {w w' : World} (h : TR (fun _ => none) Hp.zero w μ' H' w') : Kept w w' :=
  ⟨h.heap, fun b hb => (h.keep b hb (zero_own b)).1, h.os, h.tape, h.output⟩

theorem Kept.sr {μ : Mu} {H : Hp} {w w' : World} (h : Kept w w') (hs : SR P N μ H w) : SR P N μ H w' :=
  ⟨fun i o l e m => by
    obtain ⟨ob, h1, h2⟩ := hs.dom i o l e m
    exact ⟨ob, by rw [h.old _ (hs.blocks _ _ m)]; exact h1, h2⟩, hs.fresh, fun i l e => Nat.lt_of_lt_of_le (hs.blocks i l e) h.heap, hs.excl, hs.low, Nat.le_trans hs.bound h.heap⟩

theorem Kept.tr {w w' : World} (h : Kept w w') (μ : Mu) (H : Hp) : TR μ H w μ H w' :=
  ⟨Mu.le.refl _, Nat.le_refl _, h.heap, h.os, h.tape, h.output, fun b hb hn => ⟨h.old b hb, hn⟩, fun _ _ h => ⟨h, rfl⟩⟩

/-- a call whose answer is known, whatever the world -/
structure Fact (P : Program) (f : FuncId) (args : List Value) (v : Value) : Prop where
  enters : Enters P f
  flatA : flatD.flatDs args = true
  res : flatD v = true
  calls : ∀ w, Calls P f ⟨args⟩ w fun e w' => e = .returned v ∧ Kept w w'

def OvOk (P : Program) (ov : FuncId → List Value → Option Value) : Prop := ∀ f args v, ov f args = some v → Fact P f args v

theorem OvOk.nil : OvOk P (ovOf []) := fun f args v h => by cases h
theorem OvOk.cons {L : List (FuncId × List Value × Value)} {f : FuncId} {args : List Value} {v : Value} (h : Fact P f args v) (k : OvOk P (ovOf L)) : OvOk P (ovOf ((f, args, v) :: L)) := by
  intro g as u e
  unfold ovOf at e
  cases h1 : Nat.beq g f with
  | false => rw [h1] at e; exact k g as u e
  | true =>
    rw [h1] at e
    cases h2 : beqL as args with
    | false => rw [h2] at e; exact k g as u e
    | true =>
      rw [h2] at e
      cases e
      have e1 := Nat.eq_of_beq_eq_true h1
      have e2 := beqL_eq _ _ h2
      subst e1 e2
      exact h

theorem callT_ok (hmix : P.follows .mixedOrders = true) {T : FuncId → Option (Func × Ent)} {tc : FuncId → Option (Func × An)} {ov : FuncId → List Value → Option Value} (hT : TabOk P T) (htc : TcOk P tc) (hov : OvOk P ov) : ∀ n, ClOk P N (callT P T tc ov fuel n)
  | 0 => ⟨fun _ _ _ _ _ _ _ _ h => absurd rfl h, fun _ _ _ _ _ _ _ _ _ _ h => absurd rfl h⟩
  | n + 1 => by
    have ih := callT_ok hmix hT htc hov n
    refine ⟨fun f args args' μ H w hs ha hf => ?_, fun l loc args args' μ H w hs ha hm hf => ?_⟩
    · simp only [callT] at hf ⊢
      cases ho : ov f args with
      | some v =>
        simp only [ho] at hf ⊢
        have hF := hov f args v ho
        have e := flatDs_eq args args' hF.flatA ha
        subst e
        refine ⟨hF.enters, Calls.mono (hF.calls w) fun e w' hr => ?_⟩
        obtain ⟨rfl, hk⟩ := hr
        exact ⟨μ, flatD_VR μ v hF.res, hk.sr hs, hk.tr μ H⟩
      | none =>
        simp only [ho] at hf ⊢
        cases hTf : T f with
        | none => rw [hTf] at hf; exact absurd rfl hf
        | some p =>
          obtain ⟨fn, e⟩ := p
          obtain ⟨h1, h2⟩ := hT f fn e hTf
          cases e with
          | plain an =>
            simp only [hTf] at hf ⊢
            exact ⟨h2, body_ok hmix ih h1 hs ha hf⟩
          | dfr x1 l1 l2 x2 =>
            simp only [hTf] at hf ⊢
            exact ⟨h2, defer_ok hmix ih htc h1 hs ha hf⟩
    · simp only [callT] at hf ⊢
      exact round_ok hmix ih default hs ha hm hf

/-- it answers that -/
def answers (r : R Value) (v : Value) : Bool := match r with
  | .ok u _ => beqV u v
  | _ => false

theorem fact_of (hmix : P.follows .mixedOrders = true) (hn : (P.funcs.toList.all fun fn => fn.name != "runtime.NumGoroutine") = true) {A : Tr Ent} {B : Tr An} {ov : FuncId → List Value → Option Value} (hov : OvOk P ov) {n : Nat} {f : FuncId} {args : List Value} {v : Value}
    (h : (flatD.flatDs args && flatD v && answers (callT P (tabOf P A) (tcOf P B) ov fuel n (.fn f) args Hp.zero) v) = true) : Fact P f args v := by
  simp only [Bool.and_eq_true] at h
  obtain ⟨⟨h1, h2⟩, h3⟩ := h
  have key : ∀ w : World, Enters P f ∧ Calls P f ⟨args⟩ w fun e w' => e = .returned v ∧ Kept w w' := by
    intro w
    have hc := (callT_ok (N := w.heap.size) (fuel := fuel) hmix (tabOf_ok hn A) (tcOf_ok hn B) hov n).fn f args args (fun _ => none) Hp.zero w (SR.zero w) (flatDs_LR _ args h1) (by intro e; rw [e] at h3; cases h3)
    refine ⟨hc.1, Calls.mono hc.2 fun e w' hr => ?_⟩
    cases hr0 : callT P (tabOf P A) (tcOf P B) ov fuel n (.fn f) args Hp.zero with
    | fail => rw [hr0] at h3; cases h3
    | pan v H' => rw [hr0] at h3; cases h3
    | ok u H' =>
      rw [hr0] at h3 hr
      have := beqV_eq _ _ h3
      subst this
      cases e with
      | panicked c => exact hr.elim
      | outgrown => exact hr.elim
      | returned v' =>
        obtain ⟨μ', k1, k2, k3⟩ := hr
        rw [flatD_eq u v' h2 k1]
        exact ⟨rfl, k3.kept⟩
  exact ⟨(key default).1, h1, h2, fun w => (key w).2⟩
end
#print axioms fact_of
end Go.Abs
