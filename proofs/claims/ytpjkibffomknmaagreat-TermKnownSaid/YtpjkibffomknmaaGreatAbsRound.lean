import Derived.Test.YtpjkibffomknmaaGreatAbsBody
/- Rounds of a range over a function. -/
namespace Go.Abs
open Go

section
variable {P : Program} {N : Nat} {cl : Tgt → List Value → M Value} {fuel : Nat}

theorem round_ok (hmix : P.follows .mixedOrders = true) (hcl : ClOk P N cl) (fn : Func) {l : Nat} {loc : Loc} {args args' : List Value} {μ : Mu} {H : Hp} {w : World} (hs : SR P N μ H w) (ha : LR μ args args') (hm : μ l = some loc)
    (hf : roundM P cl fuel fn l args H ≠ .fail) :
    ∃ f tmps a b, (Instr.yield loc.b ⟨args'⟩).run P w = .ok (.round loc.b f tmps a b) w ∧ Rounds P loc.b f tmps a b w (CR P N μ H w (roundM P cl fuel fn l args H)) := by
  unfold roundM at hf ⊢
  cases hg : H.get l with
  | none => rw [hg] at hf; exact absurd rfl hf
  | some o =>
    cases o with
    | cells _ _ _ => rw [hg] at hf; exact absurd rfl hf
    | map _ _ => rw [hg] at hf; exact absurd rfl hf
    | iter _ _ _ _ => rw [hg] at hf; exact absurd rfl hf
    | loop s pe f vals ps a b x y =>
      cases s <;> first | (rw [hg] at hf; exact absurd rfl hf) | skip
      rw [hg] at hf
      simp only at hf ⊢
      cases hlen : Nat.beq args.length ps.length with
      | false => rw [hlen] at hf; exact absurd rfl hf
      | true =>
        rw [hlen] at hf
        have hlen := Nat.eq_of_beq_eq_true hlen
        simp only at hf ⊢
        obtain ⟨L, c1, c2, c3, c4, ⟨c5, c5'⟩, c6, c7, c8, c9, c10, c11, c12⟩ := loop_dom hs hm hg
        have hal := ha.len
        obtain ⟨hst, hsz⟩ := setPs_ok (μ := μ) ps args args' (valsSt vals) L.tmps hlen ha (valsSt_ok vals c12) c11
        let tm := (ps.zip args').foldl (fun t x => t.setIfInBounds x.1 x.2) L.tmps
        refine ⟨f, tm, a, b, ?_, ?_⟩
        · have hsize : (⟨args'⟩ : Array Value).size = L.params.size := by
            show args'.length = L.params.size
            rw [← Array.length_toList, c6]; omega
          have hfold : ((L.params.zip ⟨args'⟩).foldl (fun tmps (t, a) => tmps.setIfInBounds t a) L.tmps) = tm := by
            rw [← Array.foldl_toList, Array.toList_zip, c6]
          unfold Instr.yield
          simp only [Sem.run_bind, get_loop c1, Result.andThen_ok, hsize, ne_eq, not_true_eq_false, if_false]
          rw [hfold, c5, c7, c8]
          rfl
        · intro c cs
          let C : Cx := { b := Frame.round loc.b f tm a b .normal, cs := c :: cs, fn := fn, n := tm.size, fzl := [], fz := fun _ => undef, norm := some ([], []), exits := fun _ => none }
          have hstart : Frame.round loc.b f tm a b .normal = on C.b tm [.code a, .beginRound, .code b] := rfl
          have hself : C.b.fn = f ∧ (P.funcs[f]?).isSome = true := ⟨rfl, c5'⟩
          have hok1 : okCode C.n C.fzl a = true := by
            show okCode tm.size [] a = true
            rw [hsz]; exact c9
          have hok2 : okCode C.n C.fzl b = true := by
            show okCode tm.size [] b = true
            rw [hsz]; exact c10
          have hat : At P N C μ H w μ H w tm [] := ⟨⟨rfl, fun t ht => by cases ht⟩, hs, .refl _ _ _, .nil _ _ _ _ _⟩
          have hk : Kx P N C μ H w [.beginRound, .code b] (fun st => beginX l (execK P cl fuel fn true f b y [] st (fun _ => normV []))) := by
            intro st' μ' H' w' tmps' ds' ha' hst'
            show Arr P N C μ H w (beginX l (execK P cl fuel fn true f b y [] st' (fun _ => normV [])) H') _
            unfold beginX
            have hm' : μ' l = some loc := ha'.tr.le _ _ hm
            cases hg' : H'.get l with
            | none => trivial
            | some o =>
              cases o with
              | cells _ _ _ => trivial
              | map _ _ => trivial
              | iter _ _ _ _ => trivial
              | loop s' pe' f' vals' ps' a' b' x' y' =>
                cases s' <;> first | trivial | skip
                obtain ⟨L', d1, d2, d3, d4, d5, d6, d7, d8, d9, d10, d11, d12⟩ := loop_dom ha'.sr hm' hg'
                have hb := run_begin (P := P) d1 d3
                obtain ⟨p1, p2⟩ := ha'.sr.put (o' := .loop .busy pe' f' vals' ps' a' b' x' y') (ob' := .loop { L' with state := .busy }) hg' rfl hm' ⟨_, rfl, d2, rfl, d4, d5, d6, d7, d8, d9, d10, d11, d12⟩
                refine Arr.one (st_beginRound (b := { C.b with defers := ds' }) rfl hb) ?_
                refine exec_ok (fuel := fuel) (self := f) hmix hcl (round := true) b y [] st' (fun _ => normV []) C [] μ H w μ' _ _ tmps' ds' hself rfl hok2 (fun id => rfl) ?_ (ha'.step p1 p2 ha'.tm) hst'
                intro st2 μ2 H2 w2 tmps2 ds2 h1 h2
                exact ⟨[], [], rfl, μ2, w2, tmps2, ds2, h1, .nil, .refl _ _⟩
          have hex := exec_ok (fuel := fuel) (self := f) hmix hcl (round := true) a x [] (setPs ps args (valsSt vals)) _ C [.beginRound, .code b] μ H w μ H w tm [] hself rfl hok1 (fun id => rfl) hk hat hst
          have hex : Arr P N C μ H w (execK P cl fuel fn true f a x [] (setPs ps args (valsSt vals)) (fun st => beginX l (execK P cl fuel fn true f b y [] st (fun _ => normV []))) H) (lone (Frame.round loc.b f tm a b .normal) (c :: cs) w) := hex
          generalize execK P cl fuel fn true f a x [] (setPs ps args (valsSt vals)) (fun st => beginX l (execK P cl fuel fn true f b y [] st (fun _ => normV []))) H = xr at hex hf
          -- the end of a round
          have fin : ∀ (μ' : Mu) (H' : Hp) (w' : World) (tmps : Array Value) (ds : List Deferred) (todo : List Item) (j : Option Code), At P N C μ H w μ' H' w' tmps ds → ((todo = [] ∧ j = none) ∨ ∃ x, j = some x ∧ Leaves x todo) → endM l j H' ≠ .fail →
              Steps P (lone (Frame.round loc.b f tm a b .normal) (c :: cs) w) (lone (on { C.b with defers := ds } tmps todo) (c :: cs) w') →
              ∃ e w2, CR P N μ H w (endM l j H') e w2 ∧ match e with
                | .returned v => Steps P (lone (Frame.round loc.b f tm a b .normal) (c :: cs) w) (lone (c.finish v) cs w2)
                | .panicked chain => Steps P (lone (Frame.round loc.b f tm a b .normal) (c :: cs) w) (lone (c.raise chain) cs w2)
                | .outgrown => False := by
            intro μ' H' w' tmps ds todo j ha' hj hne hsteps
            have hm' : μ' l = some loc := ha'.tr.le _ _ hm
            unfold endM at hne ⊢
            cases hg' : H'.get l with
            | none => rw [hg'] at hne; exact absurd rfl hne
            | some o =>
              cases o with
              | cells _ _ _ => rw [hg'] at hne; exact absurd rfl hne
              | map _ _ => rw [hg'] at hne; exact absurd rfl hne
              | iter _ _ _ _ => rw [hg'] at hne; exact absurd rfl hne
              | loop s' pe' f' vals' ps' a' b' x' y' =>
                obtain ⟨L', d1, d2, d3, d4, d5, d6, d7, d8, d9, d10, d11, d12⟩ := loop_dom ha'.sr hm' hg'
                have he := run_endR (P := P) j d1
                have hstep := st_leave (P := P) (b := { C.b with defers := ds }) (a := tmps) (c := c) (cs := cs) rfl rfl hj he
                cases j with
                | none =>
                  obtain ⟨p1, p2⟩ := ha'.sr.put (o' := .loop .ready none f' vals' ps' a' b' x' y') (ob' := .loop { L' with state := .ready, pending := none }) hg' rfl hm' ⟨_, rfl, d2, rfl, rfl, d5, d6, d7, d8, d9, d10, d11, d12⟩
                  exact ⟨.returned (.bool true), _, ⟨μ', .bool true, p1, ha'.tr.trans p2⟩, hsteps.trans (.one hstep)⟩
                | some cc =>
                  obtain ⟨p1, p2⟩ := ha'.sr.put (o' := .loop .done (some cc) f' vals' ps' a' b' x' y') (ob' := .loop { L' with state := .done, pending := some cc }) hg' rfl hm' ⟨_, rfl, d2, rfl, rfl, d5, d6, d7, d8, d9, d10, d11, d12⟩
                  exact ⟨.returned (.bool false), _, ⟨μ', .bool false, p1, ha'.tr.trans p2⟩, hsteps.trans (.one hstep)⟩
          cases xr with
          | exit id vs H' => exact absurd rfl hf
          | ret vs H' => exact absurd rfl hf
          | fail => exact absurd rfl hf
          | norm vs H' =>
            obtain ⟨live, items, hn, μ', w', tmps, ds, h1, h2, h3⟩ := hex
            cases hn
            exact fin μ' H' w' tmps ds [] none h1 (.inl ⟨rfl, rfl⟩) hf h3
          | jump cc H' =>
            obtain ⟨μ', w', tmps, ds, todo, h1, h2, h3⟩ := hex
            exact fin μ' H' w' tmps ds todo (some cc) h1 (.inr ⟨cc, rfl, h2⟩) hf h3
          | pan v H' =>
            obtain ⟨μ', w', tmps, ds, v', todo, h1, h2, h3⟩ := hex
            obtain ⟨w2, e1, e2, e3⟩ := h1.unmark (todo := todo) (m := .panicking [{ v := v', recovered := false }]) (by simp)
            obtain ⟨fnn, hfn⟩ := Option.isSome_iff_exists.1 c5'
            refine ⟨.panicked [{ v := v', recovered := false }], w2, ⟨μ', v', rfl, h2, e2, e3⟩, h3.trans (e1.trans (.one (step_leave_panicked (P := P) ⟨rfl, rfl, fnn, hfn⟩)))⟩
end
end Go.Abs
