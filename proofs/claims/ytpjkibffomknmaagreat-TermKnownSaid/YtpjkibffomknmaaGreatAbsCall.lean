import Derived.Test.YtpjkibffomknmaaGreatAbsNP
/- Calls. -/
namespace Go.Abs
open Go

section
variable (P : Program) (N : Nat)

/-- how a call ends -/
def CR (μ : Mu) (H : Hp) (w : World) : R Value → Ending → World → Prop
  | .ok v H', .returned v', w' => ∃ μ', VR μ' v v' ∧ SR P N μ' H' w' ∧ TR μ H w μ' H' w'
  | .pan v H', .panicked chain, w' => ∃ μ' v', chain = [{ v := v', recovered := false }] ∧ VR μ' v v' ∧ SR P N μ' H' w' ∧ TR μ H w μ' H' w'
  | _, _, _ => False

def Rounds (l : Nat) (f : FuncId) (tmps : Array Value) (a b : Code) (w : World) (R : Ending → World → Prop) : Prop :=
  ∀ (c : Frame) (cs : List Frame), ∃ e w', R e w' ∧ match e with
    | .returned v => Steps P (lone (Frame.round l f tmps a b .normal) (c :: cs) w) (lone (c.finish v) cs w')
    | .panicked chain => Steps P (lone (Frame.round l f tmps a b .normal) (c :: cs) w) (lone (c.raise chain) cs w')
    | .outgrown => False

def Enters (f : FuncId) : Prop := ∃ fn, P.funcs[f]? = some fn ∧ fn.name ≠ "runtime.NumGoroutine" ∧ fn.body.isSome = true

structure ClOk (cl : Tgt → List Value → M Value) : Prop where
  fn : ∀ f args args' μ H w, SR P N μ H w → LR μ args args' → cl (.fn f) args H ≠ .fail → Enters P f ∧ Calls P f ⟨args'⟩ w (CR P N μ H w (cl (.fn f) args H))
  yld : ∀ l loc args args' μ H w, SR P N μ H w → LR μ args args' → μ l = some loc → cl (.yld l) args H ≠ .fail →
    ∃ f tmps a b, (Instr.yield loc.b ⟨args'⟩).run P w = .ok (.round loc.b f tmps a b) w ∧ Rounds P loc.b f tmps a b w (CR P N μ H w (cl (.yld l) args H))

/-- an operation's answer, calls and panics included -/
def CN (μ : Mu) (H : Hp) (w : World) (r : R Value) (x : Result Next) : Prop :=
  (∃ v H', r = .ok v H' ∧ NR P N μ H w v H' x) ∨ (∃ f args', x = .ok (.enter f args') w ∧ Calls P f args' w (CR P N μ H w r)) ∨
  (∃ l f tmps a b, x = .ok (.round l f tmps a b) w ∧ Rounds P l f tmps a b w (CR P N μ H w r)) ∨ (∃ u v', r = .pan u H ∧ VR μ u v' ∧ x = .halt (.panic v') w)
end

section
variable {P : Program} {N : Nat} {μ : Mu} {H : Hp} {w : World} {cl : Tgt → List Value → M Value}

theorem callFunc_run {f : FuncId} (h : Enters P f) (args : Array Value) (w : World) : (callFunc f args).run P w = .ok (.enter f args) w := by
  obtain ⟨fn, h1, h2, h3⟩ := h
  have hp : program.run P w = .ok P w := rfl
  have hn : (fn.name == "runtime.NumGoroutine") = false := by simpa using h2
  have hb : fn.body.isNone = false := by cases hf : fn.body <;> simp_all
  unfold callFunc
  simp only [Sem.run_bind, hp, Result.andThen_ok, h1, hn, hb, Bool.false_eq_true, if_false]
  rfl

theorem method_run {t : TypeId} {name : String} {f : FuncId} {v : Value} (h : methodT P t name = some f) (n : Nat) (w : World) : (method (n + 1) t v name).run P w = .ok (f, v) w := by
  unfold methodT at h
  cases hi : P.info? t with
  | none => rw [hi] at h; cases h
  | some i =>
    rw [hi] at h
    simp only at h
    cases hm : i.methods.find? (·.name == name) with
    | none => rw [hm] at h; cases h
    | some m =>
      rw [hm] at h
      simp only at h
      split at h
      · rename_i g d hp hf hd
        cases h
        have hu := descOf_some hd (by simp)
        have hti : (typeInfo t).run P w = .ok i w := by
          simp [typeInfo, Sem.run, program, hi]
        unfold method
        simp only [Sem.run_bind, hti, Result.andThen_ok, hm, hp, hf, follow, pure_run]
        unfold receiverAt
        simp only [Sem.run_bind, run_underlying hu, Result.andThen_ok, Place.get, pure_run]
      · cases h

theorem invoke_ok (hcl : ClOk P N cl) (hs : SR P N μ H w) {name : String} {r r' : Value} {args args' : List Value} (hf : invokeM P cl name r args H ≠ .fail) (hr : VR μ r r') (ha : LR μ args args') :
    CN P N μ H w (invokeM P cl name r args H) ((callMethod r' name ⟨args'⟩).run P w) := by
  unfold invokeM at hf ⊢
  cases r <;> try (exact absurd rfl hf)
  rename_i t v
  simp only at hf ⊢
  cases hm : methodT P t name with
  | none => rw [hm] at hf; exact absurd rfl hf
  | some f =>
    simp only [hm] at hf ⊢
    cases hr with
    | iface hv =>
      rename_i v'
      obtain ⟨h1, h2⟩ := hcl.fn f (v :: args) (v' :: args') μ H w hs (.cons hv ha) hf
      refine .inr (.inl ⟨f, ⟨v' :: args'⟩, ?_, h2⟩)
      have hp : program.run P w = .ok P w := rfl
      unfold callMethod
      simp only [Sem.run_bind, hp, Result.andThen_ok]
      have := method_run (v := v') hm (P.types.size + (Made.depth - 1)) w
      have e : P.types.size + (Made.depth - 1) + 1 = P.types.size + Made.depth := by
        have : 0 < Made.depth := by decide
        omega
      rw [e] at this
      rw [this]
      simp only [Result.andThen_ok]
      rw [callFunc_run h1]
      congr 2
      apply Array.ext'
      simp

theorem callV_ok (hcl : ClOk P N cl) (hs : SR P N μ H w) {f f' : Value} {args args' : List Value} (hf : callM P cl f args H ≠ .fail) (hr : VR μ f f') (ha : LR μ args args') :
    CN P N μ H w (callM P cl f args H) (Sem.run P (do let d ← Deferred.ofValue f' ⟨args'⟩; invoke d.target d.args) w) := by
  unfold callM at hf ⊢
  cases f <;> try (exact absurd rfl hf)
  rename_i fn first captured
  cases hr with
  | func hfn hl hv hm hc =>
    rename_i fn' first' captured'
    have h1 : LR μ first.toList first'.toList := ⟨hl, hv⟩
    have h2 : LR μ captured.toList captured'.toList := ⟨hm, hc⟩
    cases hfn with
    | func g =>
      simp only at hf ⊢
      have hargs := h1.append (ha.append h2)
      obtain ⟨e1, e2⟩ := hcl.fn g _ _ μ H w hs hargs hf
      refine .inr (.inl ⟨g, _, ?_, e2⟩)
      have : (⟨first'.toList ++ (args' ++ captured'.toList)⟩ : Array Value) = (first' ++ ⟨args'⟩) ++ captured' := by
        apply Array.ext'
        simp
      rw [this]
      exact callFunc_run e1 _ w
    | method name =>
      simp only at hf ⊢
      have hargs := h1.append ha
      cases hfa : first.toList ++ args with
      | nil => rw [hfa] at hf; exact absurd rfl hf
      | cons r rest =>
        rw [hfa] at hf hargs
        simp only at hf ⊢
        obtain ⟨r', rest', e', hr', hrest⟩ := hargs.cons_left
        have hi := invoke_ok hcl hs (name := name) hf hr' hrest
        have ea : (first' ++ ⟨args'⟩ : Array Value) = ⟨r' :: rest'⟩ := by
          apply Array.ext'
          simpa using e'
        have : Sem.run P (do let d ← Deferred.ofValue (.func (.method name) first' captured') ⟨args'⟩; invoke d.target d.args) w = (callMethod r' name ⟨rest'⟩).run P w := by
          show Sem.run P (invoke (.fn (.method name) captured') (first' ++ ⟨args'⟩)) w = _
          rw [ea]
          unfold invoke
          simp
        rw [this]
        exact hi
    | yield hμ =>
      simp only at hf ⊢
      rename_i l loc
      have hargs := h1.append ha
      obtain ⟨f, tmps, a, b, e1, e2⟩ := hcl.yld l loc _ _ μ H w hs hargs hμ hf
      refine .inr (.inr (.inl ⟨_, f, tmps, a, b, ?_, e2⟩))
      rw [← e1]
      have : (⟨first'.toList ++ args'⟩ : Array Value) = first' ++ ⟨args'⟩ := by
        apply Array.ext'
        simp
      rw [this]
      rfl

theorem anyOp_ok (hcl : ClOk P N cl) (hs : SR P N μ H w) {st : St} {ρ : Operand → Value} {o : Oper} (hnr : isRecover o.op = false) (hρ : ∀ x ∈ o.op.operands.toList, VR μ (st.op x) (ρ x)) (hf : opM P cl st o H ≠ .fail) :
    CN P N μ H w (opM P cl st o H) ((execOp ρ o).run P w) := by
  by_cases hc : isCall o.op = true
  · obtain ⟨dst, op, ty, pos, after, guard⟩ := o
    simp only at hc hnr hρ
    cases op <;> try (cases hc; done)
    case panic x =>
      simp only [opM] at hf ⊢
      cases hp : panicM (st.op x) H with
      | fail => rw [hp] at hf; exact absurd rfl hf
      | ok v h => exact absurd hp panic_not
      | pan v h =>
        obtain ⟨rfl, _, h1⟩ := panic_ok (P := P) (w := w) hp (hρ x (by simp [Op.operands]))
        obtain ⟨t, u, u', _, _, hv⟩ := ‹∃ t u u', _›
        refine .inr (.inr (.inr ⟨v, ρ x, rfl, hv, ?_⟩))
        simp only [execOp, Sem.run_bind, h1]
        rfl
    case call c =>
      obtain ⟨callee, args, argTypes⟩ := c
      simp only [Op.operands, Call.operands] at hρ
      have ha : LR μ (args.toList.map st.op) (args.toList.map ρ) := L2.map_same _ _ _ fun x hx => hρ x (by cases callee <;> simp <;> first | exact .inr (by simpa using hx) | simpa using hx)
      have ea : args.map ρ = ⟨args.toList.map ρ⟩ := by
        apply Array.ext'
        simp
      cases callee with
      | value f =>
        simp only [opM] at hf ⊢
        have := callV_ok hcl hs hf (hρ f (by simp)) ha
        simp only [execOp, resolve]
        rw [ea]
        exact this
      | invoke r name =>
        simp only [opM] at hf ⊢
        have := invoke_ok hcl hs hf (hρ r (by simp)) ha
        have e : Sem.run P (execOp ρ ⟨dst, .call ⟨.invoke r name, args, argTypes⟩, ty, pos, after, guard⟩) w = (callMethod (ρ r) name ⟨args.toList.map ρ⟩).run P w := by
          show Sem.run P (invoke (.fn (.method name) #[]) (#[ρ r] ++ args.map ρ)) w = _
          have : (#[ρ r] ++ args.map ρ : Array Value) = ⟨ρ r :: args.toList.map ρ⟩ := by
            apply Array.ext'
            simp
          rw [this]
          unfold invoke
          simp
          rw [List.take_of_length_le (by simp)]
        rw [e]
        exact this
      | builtin b =>
        simp only [opM] at hf ⊢
        cases hb : builtinM P b argTypes.toList (args.toList.map st.op) H with
        | fail => rw [hb] at hf; exact absurd rfl hf
        | pan u h => exact absurd hb (np_builtinM _ _ _ _ _ _)
        | ok v h =>
          refine .inl ⟨v, h, rfl, ?_⟩
          have hr : b ≠ .recover := by intro e; subst e; cases hnr
          have := builtin_ok (ty := ty) (cs := args.map fun | .const _ => true | _ => false) hs hr hb ha
          have e : Sem.run P (execOp ρ ⟨dst, .call ⟨.builtin b, args, argTypes⟩, ty, pos, after, guard⟩) w = (builtin b ⟨argTypes.toList⟩ ty (args.map fun | .const _ => true | _ => false) ⟨args.toList.map ρ⟩).run P w := by
            rw [← ea]
            rfl
          rw [e]
          exact this
  · have hc : isCall o.op = false := by simpa using hc
    cases ho : opM P cl st o H with
    | fail => exact absurd ho hf
    | pan v h => exact absurd ho (np_opM cl st o hc _ _ _)
    | ok v h => exact .inl ⟨v, h, rfl, op_ok cl hs hc hρ ho⟩
end
end Go.Abs
