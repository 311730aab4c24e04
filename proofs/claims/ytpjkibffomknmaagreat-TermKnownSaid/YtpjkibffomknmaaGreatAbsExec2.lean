import Derived.Test.YtpjkibffomknmaaGreatAbsExec
/- Code: all of it. -/
namespace Go.Abs
open Go

section
variable {P : Program} {N : Nat} {cl : Tgt → List Value → M Value} {fuel : Nat} {self : FuncId}

theorem exec_ok (hmix : P.follows .mixedOrders = true) (hcl : ClOk P N cl) {round : Bool} : ∀ (c : Code) (an : An) (bs : List (Nat × List Nat)) (st : St) (kx : St → Hp → X) (C : Cx) (k : List Item) (μ0 : Mu) (H0 : Hp) (w0 : World) (μ : Mu) (H : Hp) (w : World) (tmps : Array Value) (ds : List Deferred),
    C.b.fn = self ∧ (P.funcs[self]?).isSome = true → C.b.roundOf.isSome = round → okCode C.n C.fzl c = true → BsOk C bs k → Kx P N C μ0 H0 w0 k kx → At P N C μ0 H0 w0 μ H w tmps ds → StR μ st tmps →
    Arr P N C μ0 H0 w0 (execK P cl fuel C.fn round self c an bs st kx H) (lone (on { C.b with defers := ds } tmps (.code c :: k)) C.cs w) := by
  intro c
  induction c with
  | skip =>
    intro an bs st kx C k μ0 H0 w0 μ H w tmps ds hf hr hok hbs hk ha hst
    simp only [execK]
    exact (hk st μ H w tmps ds ha hst).one st_skip
  | label l =>
    intro an bs st kx C k μ0 H0 w0 μ H w tmps ds hf hr hok hbs hk ha hst
    simp only [execK]
    exact (hk st μ H w tmps ds ha hst).one st_label
  | exit id =>
    intro an bs st kx C k μ0 H0 w0 μ H w tmps ds hf hr hok hbs hk ha hst
    simp only [execK]
    exact exit_ok hr hbs ha hst
  | ret =>
    intro an bs st kx C k μ0 H0 w0 μ H w tmps ds hf hr hok hbs hk ha hst
    simp only [execK]
    exact ret_ok hr ha hst
  | goto l =>
    intro an bs st kx C k μ0 H0 w0 μ H w tmps ds hf hr hok hbs hk ha hst
    cases an <;> trivial
  | refuse l =>
    intro an bs st kx C k μ0 H0 w0 μ H w tmps ds hf hr hok hbs hk ha hst
    cases an <;> trivial
  | region id ops draw =>
    intro an bs st kx C k μ0 H0 w0 μ H w tmps ds hf hr hok hbs hk ha hst
    simp only [okCode, List.all_eq_true] at hok
    cases draw with
    | false =>
      simp only [execK]
      have := ops_ok (C := { C with b := { C.b with defers := ds } }) hcl ha.ap hok (hk.ka ha) ha.sr (.refl _ _ _) ha.tm hst
      exact Arr.one st_region this
    | true =>
      cases an <;> simp only [execK] <;> try trivial
      rename_i order
      cases hoa : okActs P ops.toList order with
      | false => trivial
      | true => exact drawn_ok (C := { C with b := { C.b with defers := ds } }) hmix hcl ha.ap (hk.ka ha) hoa hok ha.sr (.refl _ _ _) ha.tm hst
  | cond c a b iha ihb =>
    intro an bs st kx C k μ0 H0 w0 μ H w tmps ds hf hr hok hbs hk ha hst
    simp only [okCode, Bool.and_eq_true] at hok
    obtain ⟨h1, h2, h3⟩ := hok
    cases an <;> simp only [execK] <;> try trivial
    rename_i x y
    have hc := hst.op h1
    unfold condX
    cases hv : st.op c <;> first | trivial | skip
    rename_i t
    rw [hv] at hc
    have hb : ((⟨tmps, []⟩ : Go.Act).eval c) = .bool t := (fun x (h : VR μ (.bool t) x) => by cases h; rfl : ∀ x, VR μ (.bool t) x → x = .bool t) _ hc
    cases t with
    | true => exact (iha x bs st kx C k μ0 H0 w0 μ H w tmps ds hf hr h2 hbs hk ha hst).one (st_cond hb)
    | false => exact (ihb y bs st kx C k μ0 H0 w0 μ H w tmps ds hf hr h3 hbs hk ha hst).one (st_cond hb)
  | seq a b iha ihb =>
    intro an bs st kx C k μ0 H0 w0 μ H w tmps ds hf hr hok hbs hk ha hst
    simp only [okCode, Bool.and_eq_true] at hok
    obtain ⟨h1, h2⟩ := hok
    cases an <;> simp only [execK] <;> try trivial
    · rename_i x y
      refine Arr.one st_seq (iha x bs st _ C (.code b :: k) μ0 H0 w0 μ H w tmps ds hf hr h1 (hbs.pass _ (fun _ => rfl) C rfl) ?_ ha hst)
      intro st' μ' H' w' tmps' ds' e1 e2
      exact ihb y bs st' kx C k μ0 H0 w0 μ' H' w' tmps' ds' hf hr h2 hbs hk e1 e2
    · rename_i live x y
      have hA := iha x bs st (fun st => normV (live.map st)) { C with norm := some (live, .code b :: k), exits := C.exits } (.code b :: k) μ0 H0 w0 μ H w tmps ds hf hr h1 (hbs.pass _ (fun _ => rfl) _ rfl) (Kx.live live _ _) ⟨ha.tm, ha.sr, ha.tr, ha.marks⟩ hst
      refine Arr.one st_seq ?_
      unfold sx
      have hsame : Same C { C with norm := some (live, .code b :: k), exits := C.exits } := ⟨rfl, rfl, rfl, rfl, rfl, rfl⟩
      generalize execK P cl fuel C.fn round self a x bs st (fun st => normV (live.map st)) H = xr at hA
      cases xr with
      | norm vs H' =>
        obtain ⟨live', items', hn, μ', w', tmps', ds', e1, e2, e3⟩ := hA
        cases hn
        exact (ihb y bs (mkSt vs live 0) kx C k μ0 H0 w0 μ' H' w' tmps' ds' hf hr h2 hbs hk (e1.same hsame) (mkSt_ok e2)).steps e3
      | exit id vs H' => exact hA.weaken hsame (by simp) (fun _ _ _ _ => rfl)
      | ret v H' => exact hA.weaken hsame (by simp) (fun _ _ _ _ => rfl)
      | jump c H' => exact hA.weaken hsame (by simp) (fun _ _ _ _ => rfl)
      | pan v H' => exact hA.weaken hsame (by simp) (fun _ _ _ _ => rfl)
      | fail => trivial
  | block id c ih =>
    intro an bs st kx C k μ0 H0 w0 μ H w tmps ds hf hr hok hbs hk ha hst
    simp only [okCode] at hok
    cases an <;> simp only [execK] <;> try trivial
    rename_i live x
    have hsame : Same C { C with norm := some (live, .inBlock id :: k), exits := fun i => if Nat.beq id i = true then some (live, k) else C.exits i } := ⟨rfl, rfl, rfl, rfl, rfl, rfl⟩
    have hA := ih x ((id, live) :: bs) st (fun st => normV (live.map st)) { C with norm := some (live, .inBlock id :: k), exits := fun i => if Nat.beq id i = true then some (live, k) else C.exits i } (.inBlock id :: k) μ0 H0 w0 μ H w tmps ds hf hr hok
      (by
        intro i
        simp only [List.find?_cons]
        cases hi : Nat.beq id i with
        | true =>
          have := Nat.eq_of_beq_eq_true hi
          subst this
          exact ⟨k, by simp [exitTo], rfl⟩
        | false =>
          have hne := Nat.ne_of_beq_eq_false hi
          have e : exitTo i (.inBlock id :: k) = exitTo i k := by
            have : (id == i) = false := by simpa using hne
            simp [exitTo, this]
          rw [e]
          simp only [Bool.false_eq_true, if_false]
          exact hbs i) (Kx.live live _ _) ⟨ha.tm, ha.sr, ha.tr, ha.marks⟩ hst
    refine Arr.one st_block ?_
    unfold sx blockX
    generalize execK P cl fuel C.fn round self c x ((id, live) :: bs) st (fun st => normV (live.map st)) H = xr at hA
    cases xr with
    | norm vs H' =>
      obtain ⟨live', items', hn, μ', w', tmps', ds', e1, e2, e3⟩ := hA
      cases hn
      exact (hk (mkSt vs live 0) μ' H' w' tmps' ds' (e1.same hsame) (mkSt_ok e2)).steps (e3.trans (.one st_inBlock))
    | exit i vs H' =>
      simp only
      cases hi : Nat.beq i id with
      | true =>
        have := Nat.eq_of_beq_eq_true hi
        subst this
        obtain ⟨live', items', hn, μ', w', tmps', ds', e1, e2, e3⟩ := hA
        simp only [Nat.beq_refl, if_true] at hn
        cases hn
        exact (hk (mkSt vs live 0) μ' H' w' tmps' ds' (e1.same hsame) (mkSt_ok e2)).steps e3
      | false =>
        have hne := Nat.ne_of_beq_eq_false hi
        refine hA.weaken hsame (by simp) (fun i' _ _ e => ?_)
        cases e
        have : Nat.beq id i = false := by
          cases h : Nat.beq id i with
          | false => rfl
          | true => exact absurd (Nat.eq_of_beq_eq_true h).symm hne
        simp only [this, Bool.false_eq_true, if_false]
    | ret v H' => exact hA.weaken hsame (by simp) (by simp)
    | jump c H' => exact hA.weaken hsame (by simp) (by simp)
    | pan v H' => exact hA.weaken hsame (by simp) (by simp)
    | fail => trivial
  | loop c ih =>
    intro an bs st kx C k μ0 H0 w0 μ H w tmps ds hf hr hok hbs hk ha hst
    simp only [okCode] at hok
    cases an <;> simp only [execK] <;> try trivial
    rename_i live x
    refine Arr.one st_loop ?_
    have hsame : Same C { C with norm := some (live, .inLoop c :: k), exits := C.exits } := ⟨rfl, rfl, rfl, rfl, rfl, rfl⟩
    have key : ∀ (n : Nat) (vs : List Value) (μ : Mu) (H : Hp) (w : World) (tmps : Array Value) (ds : List Deferred), At P N C μ0 H0 w0 μ H w tmps ds → LR μ vs (live.map fun t => tmps.getD t undef) →
        Arr P N C μ0 H0 w0 (loopX (fun vs => execK P cl fuel C.fn round self c x bs (mkSt vs live 0) fun st => normV (live.map st)) n vs H) (lone (on { C.b with defers := ds } tmps (.code c :: .inLoop c :: k)) C.cs w) := by
      intro n
      induction n with
      | zero => intro vs μ H w tmps ds _ _; trivial
      | succ n ihn =>
        intro vs μ H w tmps ds ha hl
        have hA := ih x bs (mkSt vs live 0) (fun st => normV (live.map st)) { C with norm := some (live, .inLoop c :: k), exits := C.exits } (.inLoop c :: k) μ0 H0 w0 μ H w tmps ds hf hr hok (hbs.pass _ (fun _ => rfl) _ rfl) (Kx.live live _ _) ⟨ha.tm, ha.sr, ha.tr, ha.marks⟩ (mkSt_ok hl)
        simp only [loopX]
        generalize execK P cl fuel C.fn round self c x bs (mkSt vs live 0) (fun st => normV (live.map st)) H = xr at hA
        cases xr with
        | norm vs' H' =>
          obtain ⟨live', items', hn, μ', w', tmps', ds', e1, e2, e3⟩ := hA
          cases hn
          exact (ihn vs' μ' H' w' tmps' ds' (e1.same hsame) e2).steps (e3.trans (.one st_inLoop))
        | exit id vs H' => exact hA.weaken hsame (by simp) (fun _ _ _ _ => rfl)
        | ret v H' => exact hA.weaken hsame (by simp) (fun _ _ _ _ => rfl)
        | jump c H' => exact hA.weaken hsame (by simp) (fun _ _ _ _ => rfl)
        | pan v H' => exact hA.weaken hsame (by simp) (fun _ _ _ _ => rfl)
        | fail => trivial
    exact key fuel (live.map st) μ H w tmps ds ha (hst.live live)
  | scope c ih =>
    intro an bs st kx C k μ0 H0 w0 μ H w tmps ds hf hr hok hbs hk ha hst
    simp only [okCode] at hok
    cases an <;> simp only [execK] <;> try trivial
    rename_i x
    refine Arr.one st_scope (ih x bs st kx C (.inScope c :: k) μ0 H0 w0 μ H w tmps ds hf hr hok (hbs.pass _ (fun _ => rfl) C rfl) ?_ ha hst)
    intro st' μ' H' w' tmps' ds' e1 e2
    exact (hk st' μ' H' w' tmps' ds' e1 e2).one st_inScope
  | rangeFunc f ps a b iha ihb =>
    intro an bs st kx C k μ0 H0 w0 μ H w tmps ds hf hr hok hbs hk ha hst
    cases an <;> simp only [execK] <;> try trivial
    exact range_ok' hcl hf hr hbs hk hok ha hst
end
end Go.Abs
