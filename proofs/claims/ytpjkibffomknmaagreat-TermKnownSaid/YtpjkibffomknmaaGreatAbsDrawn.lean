import Derived.Test.YtpjkibffomknmaaGreatAbsRegion
import Derived.Orders
/- Regions whose order is open: one step, and all. -/
namespace Go.Abs
open Go

section
variable {P : Program} {N : Nat} {cl : Tgt → List Value → M Value} {C : Cx} {ops : Array Oper} {acts : List Act} {μ0 : Mu} {H0 : Hp} {w0 : World} {s0 : St × Hp} {Q : Nat}

/-- an operation that makes something new, run late -/
theorem late_new {μ : Mu} {H : Hp} {w : World} (hs : SR P N μ H w) (htr : TR μ0 H0 w0 μ H w) {i : Nat} {rest : List Nat} {k : List Item} {o : Oper} {st : St} {tmps : Array Value} (ho : ops[i]? = some o) (hw : Region.wanted o (yielded ops tmps) = true) (hd : ∀ c, o.op ≠ .defer c)
    (hρ : ∀ x ∈ o.op.operands.toList, VR μ (st.op x) ((⟨tmps, []⟩ : Go.Act).eval x)) {f : Nat → Value} {ob : Ob} (hn : NewOp P st o f ob) {b : Nat} (hb : b < H.size) (hb0 : H0.size ≤ b) (hμ : μ b = none) (hg : H.get b = some ob) :
    ∃ l v' w', VR (upd μ b l) (f b) v' ∧ SR P N (upd μ b l) H w' ∧ TR μ0 H0 w0 (upd μ b l) H w' ∧ Steps P (lone (on C.b tmps (.inRegion ops (i :: rest) :: k)) C.cs w) (lone (on C.b (putD tmps o.dst v') (.inRegion ops rest :: k)) C.cs w') := by
  obtain ⟨hrw, _, hn⟩ := hn
  obtain ⟨s, he, v', ob', l, w1, hr, hw1, hl, hor, hv⟩ := hn μ w _ hρ
  have hsr : SR P N μ H w1 := by rcases hw1 with rfl | rfl <;> first | exact hs | exact hs.drew
  have htr1 : TR μ0 H0 w0 μ H w1 := by rcases hw1 with rfl | rfl <;> first | exact htr | exact htr.trans (.drew _ _ _)
  have hl1 : l.b = w1.heap.size := by rcases hw1 with rfl | rfl <;> exact hl
  refine ⟨l, v', w1.alloc ob', hv _ _ (upd_same _ _ _), hsr.bind hb hμ hg hl1 hor, htr1.bind ob' hb0 hμ hl1, .one (step_lone_go ?_)⟩
  rw [stG_op (P := P) (b := C.b) (a := tmps) (k := k) (cs := C.cs) (w := w) (rest := rest) ho hw hd]
  have hfin : (on C.b tmps (.inRegion ops (i :: rest) :: k)).finish v' = on C.b (putD tmps o.dst v') (.inRegion ops rest :: k) := by rw [finish_on, ho]; rfl
  have hx : (execOp (⟨tmps, []⟩ : Go.Act).eval o).run P w = .ok (.value v') (w1.alloc ob') := by
    rw [he]
    simp only [Sem.run_bind, hr, Result.andThen_ok]
    rfl
  rw [← hfin]
  simp [stepG.apply, hx]

theorem not_defer {o : Oper} (hc : isHeavy (clsOf P o) = false) : ∀ c, o.op ≠ .defer c := by
  intro c e
  unfold clsOf at hc
  rw [e] at hc
  cases hc

/-- how the plan ends -/
def EndsX (P : Program) (cl : Tgt → List Value → M Value) (ops : Array Oper) (acts : List Act) (s0 : St × Hp) (Q : Nat) (kx : St → Hp → X) (x : X) : Prop :=
  (Q = acts.length ∧ ∃ s, runA P cl ops acts Q s0 = some s ∧ x = kx s.1 s.2) ∨
  (∃ (i : Nat) (o : Oper) (s : St × Hp) (v : Value) (h' : Hp), acts[Q]? = some (.op i) ∧ ops[i]? = some o ∧ runA P cl ops acts Q s0 = some s ∧ ansM P cl ops s.1 o s.2 = .pan v h' ∧ x = .pan v h')

theorem step_ok (hcl : ClOk P N cl) {A : X → Machine → Prop} (hA : Ap P N C μ0 H0 w0 A) (hp : Plan P ops acts) (hops : ∀ o ∈ ops.toList, okOper C.n C.fzl o = true) (h00 : H0.size ≤ s0.2.size) {kx : St → Hp → X} {x : X} (hx : EndsX P cl ops acts s0 Q kx x)
    {D : Nat → Prop} {q : Nat} {μ : Mu} {w : World} {tmps : Array Value} (hI : Inv P N cl C ops acts μ0 H0 w0 s0 Q D q μ w tmps) {i : Nat} {o : Oper} (ho : ops[i]? = some o) (hD : ¬ D i)
    (hready : ∀ e ∈ o.after.toList, Region.binds .any e = true → D e.on) {rest : List Nat} {k : List Item}
    (hk : ∀ q' μ' w' tmps', Inv P N cl C ops acts μ0 H0 w0 s0 Q (ins D i) q' μ' w' tmps' → A x (lone (on C.b tmps' (.inRegion ops rest :: k)) C.cs w')) :
    A x (lone (on C.b tmps (.inRegion ops (i :: rest) :: k)) C.cs w) := by
  have hQ : Q ≤ acts.length := by
    rcases hx with ⟨h, _⟩ | ⟨j, oj, _, _, _, h, _⟩
    · omega
    · have := (List.getElem?_eq_some_iff.1 h).1; omega
  have hpanH : ∀ (j : Nat) (oj : Oper) (s : St × Hp) (v : Value) (h' : Hp), acts[Q]? = some (.op j) → ops[j]? = some oj → ansM P cl ops s.1 oj s.2 = .pan v h' → isHeavy (clsOf P oj) = true := by
    intro j oj s v h' _ _ h3
    cases hc : isHeavy (clsOf P oj) with
    | true => rfl
    | false => exact absurd h3 (np_ans hc _ _ _)
  have hqQ : q ≤ Q := by rcases hI.at_ with h | ⟨h, _⟩ <;> omega
  have hi : i < ops.size := (Array.getElem?_eq_some_iff.1 ho).1
  obtain ⟨p, hpi⟩ := hp.has i hi
  obtain ⟨a, ha, hacls, hadst, halooks, haanc⟩ := infos_spec (P := P) ho
  have hanc : ∀ j, a.anc.testBit j = true → D j := by
    intro j hj
    obtain ⟨e, he1, he2, b, hb, h⟩ := haanc j hj
    have hDe := hready e he1 he2
    rcases h with h | h
    · rw [← h]; exact hDe
    · exact hI.clo _ b j hDe hb h
  obtain ⟨k1, k2, k3⟩ := okOper_spec (hops o (by rw [← Array.getElem?_toList] at ho; exact List.mem_of_getElem? ho))
  obtain ⟨sq, hsq, hSR, hTR⟩ := hI.K
  have hclo' : ∀ i' a' j, ins D i i' → (infos P ops)[i']? = some a' → a'.anc.testBit j = true → ins D i j := by
    rintro i' a' j (h | rfl) h1 h2
    · exact .inl (hI.clo i' a' j h h1 h2)
    · rw [ha] at h1
      cases h1
      exact .inl (hanc j h2)
  have hlen : p < acts.length := (List.getElem?_eq_some_iff.1 hpi).1
  by_cases hpq : p < q
  · -- a light operation, run late
    have hlight : isHeavy (clsOf P o) = false := by
      cases hc : isHeavy (clsOf P o) with
      | false => rfl
      | true => exact absurd (hI.hv i o ⟨p, hpq, hpi⟩ ho hc) hD
    obtain ⟨sp1, hsp1⟩ := runA_le (P := P) (cl := cl) (ops := ops) (l := acts) (s := s0) (q - (p + 1)) (p + 1) sq (by rw [show p + 1 + (q - (p + 1)) = q by omega]; exact hsq)
    obtain ⟨sp, hsp⟩ := runA_pre acts p s0 sp1 hsp1
    have hstep := hsp1
    rw [runA_succ acts p s0 sp _ hsp hpi] at hstep
    obtain ⟨o', v, h', e1, e2, e3⟩ := step_op hstep
    rw [ho] at e1
    cases e1
    subst e3
    have hlooks : ∀ t ∈ looksOf ops.toList o, VR μ (sp.1 t) (tmps.getD t undef) := fun t ht =>
      hI.J p sp (by omega) hsp t (looks_jd hp hI.clo hI.inn hpi ha hD hanc (.inl rfl) (by rw [halooks]; exact ht))
    -- the new state of affairs, whatever was done
    have fin : ∀ (μ' : Mu) (w' : World) (v' : Value), μ.le μ' → VR μ' v v' → SR P N μ' sq.2 w' → TR μ0 H0 w0 μ' sq.2 w' →
        (∀ (p2 i2 : Nat) s s', p2 < q → p2 ≠ p → acts[p2]? = some (.op i2) → ¬ D i2 → runA P cl ops acts p2 s0 = some s → runA P cl ops acts (p2 + 1) s0 = some s' → ∀ b, s.2.size ≤ b → b < s'.2.size → μ' b = none) →
        Inv P N cl C ops acts μ0 H0 w0 s0 Q (ins D i) q μ' w' (putD tmps o.dst v') := by
      intro μ' w' v' hle hv hs' ht' hfree
      refine ⟨?_, ?_, hI.at_, hclo', hI.sz.put v' k1, J_put hp hQ hI.clo hle hI.sz.1 hI.J hpi ho hD (fun t ht => (k1 t ht).1) hsp1 hv, ⟨sq, hsq, hs', ht'⟩, hI.M, ?_⟩
      · rintro j (h | rfl)
        · exact hI.inn j h
        · exact ⟨p, hpq, hpi⟩
      · exact fun j oj h1 h2 h3 => .inl (hI.hv j oj h1 h2 h3)
      · intro p2 i2 s s' s'' h1 h2 h3 h4 h5 h6 b hb1 hb2
        have hne : p2 ≠ p := by
          rintro rfl
          rw [hpi] at h2
          cases h2
          exact h3 (.inr rfl)
        have h3' : ¬ D i2 := fun h => h3 (.inl h)
        obtain ⟨g1, g2, g3⟩ := hI.L p2 i2 s s' s'' h1 h2 h3' h4 h5 h6 b hb1 hb2
        exact ⟨hfree p2 i2 s s' h1 hne h2 h3' h4 h5 b hb1 hb2, g2, g3⟩
    rcases guard_cases (guard_look hlooks) _ (show guardM (guardOf ops sp.1 o) (opM P cl sp.1 o) sp.2 ≠ .fail by show ansM P cl ops sp.1 o sp.2 ≠ .fail; rw [e2]; simp) with ⟨g1, g2⟩ | ⟨g1, g2⟩
    · have e2' : opM P cl sp.1 o sp.2 = .ok v h' := by rw [← g1]; exact e2
      -- an operation that leaves the heap alone
      have plain : ∀ (st : St), opM P cl st o sq.2 = .ok v sq.2 → (∀ t ∈ looksOf ops.toList o, VR μ (st t) (tmps.getD t undef)) → A x (lone (on C.b tmps (.inRegion ops (i :: rest) :: k)) C.cs w) := by
        intro st hst hlk
        have hA := acts_ok (b := C.b) (cs := C.cs) (rest := rest) (k := k) hcl hSR ho g2 k3 (opnd_ok k2 hlk) (show opM P cl st o sq.2 ≠ .fail by rw [hst]; simp)
        rw [hst] at hA
        obtain ⟨μ', v', w', h1, h2, h3, h4⟩ := hA
        refine hA.steps _ _ _ h4 (hk q μ' w' _ (fin μ' w' v' h3.le h1 h2 (hTR.trans h3) ?_))
        intro p2 i2 s s' c1 _ c2 c3 c4 c5 b hb1 hb2
        obtain ⟨g1, _, g3⟩ := hI.L p2 i2 s s' sq c1 c2 c3 c4 c5 hsq b hb1 hb2
        exact (h3.still b g3 g1).1
      rcases cls_cases (clsOf P o) with hc | hc | hc | hc
      · rw [hlight] at hc; cases hc
      · exact plain sp.1 ((pure_op cl hc _ _ _ e2').2 sq.2 ▸ rfl) hlooks
      · -- a read
        obtain ⟨hself, hcov⟩ := hp.cov p i a hpi ha (by rw [hacls]; exact hc)
        have hat : q - (p + 1) = (acts.drop (p + 1)).length ∨ ∃ j b, (acts.drop (p + 1))[q - (p + 1)]? = some (.op j) ∧ (infos P ops)[j]? = some b ∧ isHeavy b.cls = true := by
          have gen : (∃ (j : Nat) (oj : Oper), acts[q]? = some (.op j) ∧ ops[j]? = some oj ∧ isHeavy (clsOf P oj) = true) → ∃ j b, (acts.drop (p + 1))[q - (p + 1)]? = some (.op j) ∧ (infos P ops)[j]? = some b ∧ isHeavy b.cls = true := by
            rintro ⟨j, oj, h1, h2, h3⟩
            obtain ⟨b, hb, hbc, _⟩ := infos_spec (P := P) h2
            refine ⟨j, b, ?_, hb, by rw [hbc]; exact h3⟩
            rw [List.getElem?_drop, show p + 1 + (q - (p + 1)) = q by omega]
            exact h1
          rcases hI.at_ with h | ⟨_, h⟩
          · rcases hx with ⟨h2, _⟩ | ⟨j, oj, s, v2, h2, c1, c2, c3, c4, _⟩
            · left; rw [List.length_drop]; omega
            · right; exact gen ⟨j, oj, by rw [h]; exact c1, c2, hpanH j oj s v2 h2 c1 c2 c4⟩
          · exact .inr (gen h)
        obtain ⟨cv1, cv2⟩ := cov_spec (infos P ops) i a (acts.drop (p + 1)) true (q - (p + 1)) hcov (by rw [List.length_drop]; omega) hat (by
          intro p' j b hp' h1 h2 h3
          rw [List.getElem?_drop] at h1
          cases hb : b.anc.testBit i with
          | false => rfl
          | true =>
            have hj : j < ops.size := by
              rcases Nat.lt_or_ge j ops.size with h | h
              · exact h
              · have : (infos P ops).length = ops.size := by simp [infos, infosGo_len]
                have := (List.getElem?_eq_some_iff.1 h2).1
                omega
            obtain ⟨b', hb', hbc, _⟩ := infos_spec (P := P) (Array.getElem?_eq_getElem hj)
            rw [h2] at hb'
            cases hb'
            have := hI.hv j _ ⟨_, by omega, h1⟩ (Array.getElem?_eq_getElem hj) (by rw [← hbc]; exact h3)
            exact absurd (hI.clo j b i this h2 hb) hD)
        have hstill : ∀ (r : Nat), (∀ (p' j : Nat) (b : Info), r ≤ p' → p' < q → acts[p']? = some (.op j) → (infos P ops)[j]? = some b → isHeavy b.cls = false ∧ isAlloc b.cls = false) → ∀ s, r ≤ q → runA P cl ops acts r s0 = some s → sq.2 = s.2 := by
          intro r hr s hrq hs
          refine seg_eq (q - r) r s sq hs (by rw [show r + (q - r) = q by omega]; exact hsq) (by omega) fun r' h1 h2 j oj h3 h4 => ?_
          obtain ⟨b, hb, hbc, _⟩ := infos_spec (P := P) h4
          rw [← hbc]
          exact hr r' j b h1 (by omega) h3 hb
        rcases cv2 with ⟨_, cv2⟩ | ⟨r, hr1, hr2, cv2⟩
        · have heq : sq.2 = h' := hstill (p + 1) (fun p' j b c1 c2 c3 c4 => cv2 (p' - (p + 1)) j b (by omega) (by rw [List.getElem?_drop, show p + 1 + (p' - (p + 1)) = p' by omega]; exact c3) c4) _ (by omega) hsp1
          have hh := read_op cl hc _ _ _ e2'
          refine plain sp.1 ?_ hlooks
          rw [heq, hh]
          rw [hh] at e2'
          exact e2'
        · rw [List.getElem?_drop] at hr2
          have hrq : p + 1 + r + 1 ≤ q := by omega
          obtain ⟨sr1, hsr1⟩ := runA_le (P := P) (cl := cl) (ops := ops) (l := acts) (s := s0) (q - (p + 1 + r + 1)) (p + 1 + r + 1) sq (by rw [show p + 1 + r + 1 + (q - (p + 1 + r + 1)) = q by omega]; exact hsq)
          obtain ⟨sr, hsr⟩ := runA_pre acts (p + 1 + r) s0 sr1 hsr1
          have hstep := hsr1
          rw [runA_succ acts (p + 1 + r) s0 sr _ hsr hr2] at hstep
          obtain ⟨e4, o', d, h1, c1, c2, c3⟩ := step_re hstep
          subst e4
          rw [ho] at c1
          cases c1
          have hnh : ∀ (p' j : Nat) (b : Info), p < p' → p' < p + 1 + r → acts[p']? = some (.op j) → (infos P ops)[j]? = some b → hits b.dst a = false := fun p' j b d1 d2 d3 d4 =>
            cv1 (p' - (p + 1)) j b (by omega) (by rw [List.getElem?_drop, show p + 1 + (p' - (p + 1)) = p' by omega]; exact d3) d4
          have hlk : ∀ t ∈ looksOf ops.toList o, VR μ (sr1.1 t) (tmps.getD t undef) := fun t ht =>
            hI.J (p + 1 + r) sr1 (by omega) hsr t (looks_jd hp hI.clo hI.inn hpi ha hD hanc (.inr ⟨by omega, hself, hnh⟩) (by rw [halooks]; exact ht))
          have hval : sr1.1 d = v := by
            have := seg_tmp (P := P) (cl := cl) (t := d) r (p + 1) _ sr1 hsp1 hsr (by omega) (by
              intro r' j oj d1 d2 d3 d4 d5
              obtain ⟨b, hb, _, hbdst, _, _⟩ := infos_spec (P := P) d4
              have := hnh r' j b (by omega) (by omega) d3 hb
              rw [hbdst, d5] at this
              exact (hits_false this).2 (by rw [hadst, c2]))
            rw [this, c2]
            simp [St.set]
          rw [hval] at c3
          rcases guard_cases (guard_look hlk) _ (show guardM (guardOf ops sr1.1 o) (opM P cl sr1.1 o) sr1.2 ≠ .fail by show ansM P cl ops sr1.1 o sr1.2 ≠ .fail; rw [c3]; simp) with ⟨f1, f2⟩ | ⟨f1, f2⟩
          · have c3' : opM P cl sr1.1 o sr1.2 = .ok v h1 := by rw [← f1]; exact c3
            have hh := read_op cl hc _ _ _ c3'
            rw [hh] at c3'
            have heq : sq.2 = sr1.2 := hstill (p + 1 + r + 1) (fun p' j b d1 d2 d3 d4 => cv2 (p' - (p + 1)) j b (by omega) (by omega) (by rw [List.getElem?_drop, show p + 1 + (p' - (p + 1)) = p' by omega]; exact d3) d4) _ (by omega) hsr1
            refine plain sr1.1 ?_ hlk
            rw [heq]
            exact c3'
          · rw [g2] at f2; cases f2
      · -- something new
        obtain ⟨f, ob, rfl, rfl, hn⟩ := new_op cl hc e2'
        have hsz1 : (sp.2.new ob).size = sp.2.size + 1 := Hp.size_new _ _
        obtain ⟨c1, c2, c3⟩ := hI.L p i sp _ sq hpq hpi hD hsp hsp1 hsq sp.2.size (Nat.le_refl _) (by show _ < (sp.2.new ob).size; omega)
        have hget : sq.2.get sp.2.size = some ob := by rw [c2]; exact Hp.get_new_same _ _
        have h0p : s0.2.size ≤ sp.2.size := hI.M 0 p s0 sp (by omega) (by omega) (by cases acts <;> rfl) hsp
        obtain ⟨l, v', w', h1, h2, h3, h4⟩ := late_new (C := C) (rest := rest) (k := k) hSR hTR ho g2 (not_defer hlight) (opnd_ok k2 hlooks) hn c3 (by omega) c1 hget
        refine hA.steps _ _ _ h4 (hk q _ w' _ (fin _ w' v' (le_upd c1 l) h1 h2 h3 ?_))
        intro p2 i2 s s' d1 d0 d2 d3 d4 d5 b hb1 hb2
        obtain ⟨g1, _, g3⟩ := hI.L p2 i2 s s' sq d1 d2 d3 d4 d5 hsq b hb1 hb2
        have hne : b ≠ sp.2.size := by
          rcases Nat.lt_or_ge p2 p with h | h
          · have := hI.M (p2 + 1) p s' sp (by omega) (by omega) d5 hsp
            omega
          · have := hI.M (p + 1) p2 _ s (by omega) (by omega) hsp1 d4
            have h5 : (sp.2.new ob).size ≤ s.2.size := this
            omega
        rw [upd_other _ _ hne]
        exact g1
    · have hv : v = skV := by
        have : ansM P cl ops sp.1 o sp.2 = .ok skV sp.2 := g1
        rw [this] at e2
        cases e2; rfl
      refine hA.one (st_op_skip ho g2) (hk q μ w _ (fin μ w undef (Mu.le.refl _) (by rw [hv]; exact .skip) hSR hTR ?_))
      intro p2 i2 s s' c1 _ c2 c3 c4 c5 b hb1 hb2
      exact (hI.L p2 i2 s s' sq c1 c2 c3 c4 c5 hsq b hb1 hb2).1
  · -- the next heavy operation
    have hheavy : ∃ (j : Nat) (oj : Oper), acts[q]? = some (.op j) ∧ ops[j]? = some oj ∧ isHeavy (clsOf P oj) = true := by
      rcases hI.at_ with h | ⟨_, h⟩
      · rcases hx with ⟨h2, _⟩ | ⟨j, oj, s, v2, h2, c1, c2, c3, c4, _⟩
        · omega
        · exact ⟨j, oj, by rw [h]; exact c1, c2, hpanH j oj s v2 h2 c1 c2 c4⟩
      · exact h
    obtain ⟨h, oh, hqh, hoh, hhv⟩ := hheavy
    have hpq' : p = q := by
      rcases Nat.lt_or_ge q p with hlt | hge
      · obtain ⟨b, hb, hbc, _⟩ := infos_spec (P := P) hoh
        rcases hp.aft q p h i b a hqh hlt hpi hb ha with ⟨h1, _⟩ | h1
        · rw [hbc, hhv] at h1; cases h1
        · obtain ⟨p', hp', he⟩ := hI.inn h (hanc h h1)
          have := hp.uniq p' q h he hqh
          omega
      · omega
    subst hpq'
    rw [hpi] at hqh
    cases hqh
    rw [ho] at hoh
    cases hoh
    have hlooks : ∀ t ∈ looksOf ops.toList o, VR μ (sq.1 t) (tmps.getD t undef) := fun t ht =>
      hI.J p sq hqQ hsq t (looks_jd hp hI.clo hI.inn hpi ha hD hanc (.inl rfl) (by rw [halooks]; exact ht))
    -- behind it, when it has answered
    have fin : ∀ (μ' : Mu) (w' : World) (v v' : Value) (h' : Hp), p < Q → runA P cl ops acts (p + 1) s0 = some (sq.1.set o.dst v, h') → VR μ' v v' → SR P N μ' h' w' → TR μ sq.2 w μ' h' w' →
        ∃ q2, Inv P N cl C ops acts μ0 H0 w0 s0 Q (ins D i) q2 μ' w' (putD tmps o.dst v') := by
      intro μ' w' v v' h' hlt hrun hv hs' ht'
      obtain ⟨q2, c1, c2, c3, c4⟩ := next_pos (P := P) (ops := ops) hQ (Q - (p + 1)) (p + 1) (by omega)
      have hends : ∃ sQ, runA P cl ops acts Q s0 = some sQ := by
        rcases hx with ⟨_, s, h, _⟩ | ⟨_, _, s, _, _, _, _, h, _⟩ <;> exact ⟨s, h⟩
      obtain ⟨sQ, hsQ⟩ := hends
      obtain ⟨s2, hs2⟩ := runA_le (P := P) (cl := cl) (ops := ops) (l := acts) (s := s0) (Q - q2) q2 sQ (by rw [show q2 + (Q - q2) = Q by omega]; exact hsQ)
      have hext : ∀ (r r' : Nat) s s', p + 1 ≤ r → r ≤ r' → r' ≤ q2 → runA P cl ops acts r s0 = some s → runA P cl ops acts r' s0 = some s' → Ext s.2 s'.2 := fun r r' s s' d1 d2 d3 d4 d5 =>
        seg_ext (r' - r) r s s' d4 (by rw [show r + (r' - r) = r' by omega]; exact d5) (by omega) fun r'' a1 a2 => c3 r'' (by omega) (by omega)
      have hE := hext (p + 1) q2 _ s2 (Nat.le_refl _) c1 (Nat.le_refl _) hrun hs2
      refine ⟨q2, ?_, ?_, c4, hclo', hI.sz.put v' k1, J_put hp hQ hI.clo ht'.le hI.sz.1 hI.J hpi ho hD (fun t ht => (k1 t ht).1) hrun hv, ⟨s2, hs2, hE.sr hs', hE.tr hs' (hTR.trans ht')⟩, ?_, ?_⟩
      · rintro j (h | rfl)
        · obtain ⟨p', hp', he⟩ := hI.inn j h
          exact ⟨p', by omega, he⟩
        · exact ⟨p, by omega, hpi⟩
      · rintro j oj ⟨p', hp', he⟩ hoj hcj
        rcases Nat.lt_trichotomy p' p with h | h | h
        · exact .inl (hI.hv j oj ⟨p', h, he⟩ hoj hcj)
        · subst h
          rw [hpi] at he
          cases he
          exact .inr rfl
        · have := c3 p' (by omega) hp' j oj he hoj
          rw [this] at hcj; cases hcj
      · intro p1 p2 s s' d1 d2 d3 d4
        rcases Nat.lt_or_ge p p2 with h | h
        · have e5 := (hext (p + 1) p2 _ s' (Nat.le_refl _) h d2 hrun d4).size
          rcases Nat.lt_or_ge p p1 with h1 | h1
          · exact (hext p1 p2 s s' h1 d1 d2 d3 d4).size
          · have e6 := hI.M p1 p s sq h1 (Nat.le_refl _) d3 hsq
            have e7 := ht'.size
            have e5 : h'.size ≤ s'.2.size := e5
            omega
        · exact hI.M p1 p2 s s' d1 h d3 d4
      · intro p2 i2 s s' s'' d1 d2 d3 d4 d5 d6 b hb1 hb2
        rw [hs2] at d6
        cases d6
        rcases Nat.lt_trichotomy p2 p with h | h | h
        · obtain ⟨g1, g2, g3⟩ := hI.L p2 i2 s s' sq h d2 (fun h => d3 (.inl h)) d4 d5 hsq b hb1 hb2
          obtain ⟨f1, f2⟩ := ht'.still b g3 g1
          have hb' : b < h'.size := Nat.lt_of_lt_of_le g3 ht'.size
          refine ⟨f1, ?_, Nat.lt_of_lt_of_le hb' hE.size⟩
          rw [hE.get hb', f2, g2]
        · subst h
          rw [hpi] at d2
          cases d2
          exact absurd (.inr rfl) d3
        · have e5 := hext (p + 1) p2 _ s (Nat.le_refl _) h (by omega) hrun d4
          have e6 := hext (p2 + 1) q2 s' _ (by omega) (by omega) (Nat.le_refl _) d5 hs2
          have e7 : h'.size ≤ s.2.size := e5.size
          exact ⟨(hs'.fresh b (by omega)).1, e6.get hb2, Nat.lt_of_lt_of_le hb2 e6.size⟩
    -- its answer
    have hans : (p < Q ∧ ∃ v h', ansM P cl ops sq.1 o sq.2 = .ok v h' ∧ runA P cl ops acts (p + 1) s0 = some (sq.1.set o.dst v, h')) ∨ (∃ v h', ansM P cl ops sq.1 o sq.2 = .pan v h' ∧ x = .pan v h') := by
      rcases Nat.lt_or_ge p Q with hlt | hge
      · left
        have hends : ∃ sQ, runA P cl ops acts Q s0 = some sQ := by
          rcases hx with ⟨_, s, h, _⟩ | ⟨_, _, s, _, _, _, _, h, _⟩ <;> exact ⟨s, h⟩
        obtain ⟨sQ, hsQ⟩ := hends
        obtain ⟨s2, hs2⟩ := runA_le (P := P) (cl := cl) (ops := ops) (l := acts) (s := s0) (Q - (p + 1)) (p + 1) sQ (by rw [show p + 1 + (Q - (p + 1)) = Q by omega]; exact hsQ)
        have hst := hs2
        rw [runA_succ acts p s0 sq _ hsq hpi] at hst
        obtain ⟨o', v, h', e1, e2, e3⟩ := step_op hst
        rw [ho] at e1
        cases e1
        subst e3
        exact ⟨hlt, v, h', e2, hs2⟩
      · right
        have hpQ : p = Q := by omega
        subst hpQ
        rcases hx with ⟨h2, _⟩ | ⟨j, oj, s, v2, h2, c1, c2, c3, c4, c5⟩
        · omega
        · rw [hpi] at c1
          cases c1
          rw [ho] at c2
          cases c2
          rw [hsq] at c3
          cases c3
          exact ⟨v2, h2, c4, c5⟩
    have hnf : guardM (guardOf ops sq.1 o) (opM P cl sq.1 o) sq.2 ≠ .fail := by
      show ansM P cl ops sq.1 o sq.2 ≠ .fail
      rcases hans with ⟨_, v, h', h1, _⟩ | ⟨v, h', h1, _⟩ <;> rw [h1] <;> simp
    rcases guard_cases (guard_look hlooks) _ hnf with ⟨g1, g2⟩ | ⟨g1, g2⟩
    · have hg : ansM P cl ops sq.1 o sq.2 = opM P cl sq.1 o sq.2 := g1
      have hA := acts_ok (b := C.b) (cs := C.cs) (rest := rest) (k := k) hcl hSR ho g2 k3 (opnd_ok k2 hlooks) (by rw [← hg]; exact hnf)
      rw [← hg] at hA
      rcases hans with ⟨hlt, v, h', h1, h2⟩ | ⟨v, h', h1, h2⟩
      · rw [h1] at hA
        obtain ⟨μ', v', w', a1, a2, a3, a4⟩ := hA
        obtain ⟨q2, hI2⟩ := fin μ' w' v v' h' hlt h2 a1 a2 a3
        exact hA.steps _ _ _ a4 (hk q2 μ' w' _ hI2)
      · rw [h1] at hA
        obtain ⟨μ', v', w', todo, a1, a2, a3, a4⟩ := hA
        rw [h2]
        exact hA.steps _ _ _ a4 (hA.pan μ' h' w' tmps v v' todo hI.sz a1 a2 (hTR.trans a3))
    · have hg : ansM P cl ops sq.1 o sq.2 = .ok skV sq.2 := g1
      rcases hans with ⟨hlt, v, h', h1, h2⟩ | ⟨v, h', h1, h2⟩
      · rw [hg] at h1
        cases h1
        obtain ⟨q2, hI2⟩ := fin μ w skV undef _ hlt h2 .skip hSR (.refl _ _ _)
        exact hA.one (st_op_skip ho g2) (hk q2 μ w _ hI2)
      · rw [hg] at h1; cases h1

theorem getD_ins {l : Array Bool} {i : Nat} (hi : i < l.size) (j : Nat) : (l.setIfInBounds i true).getD j false = true ↔ ins (fun j => l.getD j false = true) i j := by
  show _ ↔ l.getD j false = true ∨ j = i
  rw [Array.getD_eq_getD_getElem?, Array.getD_eq_getD_getElem?]
  by_cases h : j = i
  · subst h
    rw [Array.getElem?_setIfInBounds_self_of_lt hi]
    simp
  · rw [Array.getElem?_setIfInBounds_ne (fun e => h e.symm)]
    simp [h]

theorem inv_congr {D D' : Nat → Prop} (h : ∀ j, D j ↔ D' j) {q : Nat} {μ : Mu} {w : World} {tmps : Array Value} (hI : Inv P N cl C ops acts μ0 H0 w0 s0 Q D q μ w tmps) : Inv P N cl C ops acts μ0 H0 w0 s0 Q D' q μ w tmps := by
  have : D = D' := funext fun j => propext (h j)
  rw [← this]
  exact hI

theorem ready_iff {listed : Array Bool} (hl : listed.size = ops.size) {i : Nat} : i ∈ Region.ready .any ops listed ↔ i < ops.size ∧ ¬ listed.getD i false = true ∧ ∃ o, ops[i]? = some o ∧ ∀ e ∈ o.after.toList, Region.binds .any e = true → listed.getD e.on false = true := by
  unfold Region.ready
  rw [List.mem_filter, List.mem_range]
  constructor
  · rintro ⟨h1, h2⟩
    simp only [Bool.and_eq_true, Bool.not_eq_true'] at h2
    obtain ⟨h2, h3⟩ := h2
    refine ⟨h1, ?_, ops[i], Array.getElem?_eq_getElem h1, ?_⟩
    · rw [Array.getD_eq_getD_getElem?] at h2 ⊢
      rw [Array.getElem?_eq_getElem (by omega)] at h2 ⊢
      simp only [Option.getD_some] at h2 ⊢
      rw [h2]; simp
    · rw [Array.getElem?_eq_getElem h1] at h3
      simp only [Option.map_some, Option.getD_some, Array.all_eq_true_iff_forall_mem] at h3
      intro e he hb
      have := h3 e (by simpa using he)
      rw [hb] at this
      simpa using this
  · rintro ⟨h1, h2, o, h3, h4⟩
    refine ⟨h1, ?_⟩
    simp only [Bool.and_eq_true, Bool.not_eq_true']
    refine ⟨?_, ?_⟩
    · rw [Array.getD_eq_getD_getElem?] at h2 ⊢
      rw [Array.getElem?_eq_getElem (by omega)] at h2 ⊢
      simp only [Option.getD_some] at h2 ⊢
      simpa using h2
    · rw [h3]
      simp only [Option.map_some, Option.getD_some, Array.all_eq_true_iff_forall_mem]
      intro e he
      cases hb : Region.binds .any e with
      | false => rfl
      | true => rw [h4 e (by simpa using he) hb]; rfl

theorem end_ok {A : X → Machine → Prop} (hA : Ap P N C μ0 H0 w0 A) (hp : Plan P ops acts) {kx : St → Hp → X} {x : X} (hx : EndsX P cl ops acts s0 Q kx x) {k : List Item}
    (hk : ∀ st' μ' H' w' tmps', Tm C tmps' → StR μ' st' tmps' → SR P N μ' H' w' → TR μ0 H0 w0 μ' H' w' → A (kx st' H') (lone (on C.b tmps' k) C.cs w'))
    {D : Nat → Prop} {q : Nat} {μ : Mu} {w : World} {tmps : Array Value} (hI : Inv P N cl C ops acts μ0 H0 w0 s0 Q D q μ w tmps) (hall : ∀ i, i < ops.size → D i) :
    A x (lone (on C.b tmps (.inRegion ops [] :: k)) C.cs w) := by
  refine hA.one st_region_end ?_
  have hno : ∀ i o, acts[q]? = some (.op i) → ops[i]? = some o → False := by
    intro i o h1 h2
    obtain ⟨p, hp1, hp2⟩ := hI.inn i (hall i (Array.getElem?_eq_some_iff.1 h2).1)
    have := hp.uniq p q i hp2 h1
    omega
  have hqQ : q = Q := by
    rcases hI.at_ with h | ⟨_, i, o, h1, h2, _⟩
    · exact h
    · exact (hno i o h1 h2).elim
  subst hqQ
  rcases hx with ⟨hl, s, h1, h2⟩ | ⟨i, o, s, v, h', h1, h2, _⟩
  · obtain ⟨s', h3, h4, h5⟩ := hI.K
    rw [h1] at h3
    cases h3
    rw [h2]
    refine hk s.1 μ s.2 w tmps hI.sz (fun t => hI.J q s (Nat.le_refl _) h1 t ?_) h4 h5
    intro j o hj _
    have hjs := (Array.getElem?_eq_some_iff.1 hj).1
    refine ⟨fun h => hI.inn j h, fun _ => hall j hjs⟩
  · exact (hno i o h1 h2).elim

theorem sched_ok (hcl : ClOk P N cl) {A : X → Machine → Prop} (hA : Ap P N C μ0 H0 w0 A) (hp : Plan P ops acts) (hops : ∀ o ∈ ops.toList, okOper C.n C.fzl o = true) (h00 : H0.size ≤ s0.2.size) {kx : St → Hp → X} {x : X} (hx : EndsX P cl ops acts s0 Q kx x) {k : List Item}
    (hk : ∀ st' μ' H' w' tmps', Tm C tmps' → StR μ' st' tmps' → SR P N μ' H' w' → TR μ0 H0 w0 μ' H' w' → A (kx st' H') (lone (on C.b tmps' k) C.cs w')) :
    ∀ (fuel t : Nat) (listed : Array Bool) (U : List Nat) (q : Nat) (μ : Mu) (w : World) (tmps : Array Value), listed.size = ops.size → U.length ≤ fuel → (∀ i, i < ops.size → ¬ listed.getD i false = true → i ∈ U) →
    Inv P N cl C ops acts μ0 H0 w0 s0 Q (fun i => listed.getD i false = true) q μ w tmps →
    A x (lone (on C.b tmps (.inRegion ops (Region.linearise.go .any ops fuel t listed []) :: k)) C.cs w) := by
  intro fuel
  induction fuel with
  | zero =>
    intro t listed U q μ w tmps hl hU hUn hI
    have hU0 : U = [] := List.eq_nil_of_length_eq_zero (by omega)
    simp only [Region.linearise.go, List.reverse_nil]
    refine end_ok hA hp hx hk hI fun i hi => ?_
    cases h : listed.getD i false with
    | true => rfl
    | false => have := hUn i hi (by rw [h]; simp); rw [hU0] at this; cases this
  | succ fuel ih =>
    intro t listed U q μ w tmps hl hU hUn hI
    simp only [Region.linearise.go]
    show A x (lone (on C.b tmps (.inRegion ops (match (Region.ready .any ops listed)[t % (Region.ready .any ops listed).length]? with
      | some i => Region.linearise.go .any ops fuel (t / (Region.ready .any ops listed).length) (listed.setIfInBounds i true) [i]
      | none => [].reverse) :: k)) C.cs w)
    cases hi : (Region.ready .any ops listed)[t % (Region.ready .any ops listed).length]? with
    | none =>
      have hnil : Region.ready .any ops listed = [] := by
        cases hr : Region.ready .any ops listed with
        | nil => rfl
        | cons y ys =>
          rw [hr] at hi
          have hlt : t % (y :: ys).length < (y :: ys).length := Nat.mod_lt _ (by simp)
          simp at hi
          simp at hlt
          omega
      refine end_ok hA hp hx hk hI fun i hi' => ?_
      have key : ∀ n i, i < n → i < ops.size → listed.getD i false = true := by
        intro n
        induction n with
        | zero => intro i h; omega
        | succ n ihn =>
          intro i h1 h2
          cases hd : listed.getD i false with
          | true => rfl
          | false =>
            have : i ∈ Region.ready .any ops listed := (ready_iff hl).2 ⟨h2, by rw [hd]; simp, ops[i], Array.getElem?_eq_getElem h2, fun e he hb => by
              have := hp.edge i _ (Array.getElem?_eq_getElem h2) e he hb
              exact ihn e.on (by omega) (by omega)⟩
            rw [hnil] at this
            cases this
      exact key (i + 1) i (by omega) hi'
    | some i =>
      simp only
      obtain ⟨h1, h2, o, h3, h4⟩ := (ready_iff hl).1 (List.mem_of_getElem? hi)
      rw [linearise_go_acc, List.reverse_singleton, List.singleton_append]
      refine step_ok hcl hA hp hops h00 hx hI h3 h2 h4 fun q' μ' w' tmps' hI' => ?_
      refine ih _ (listed.setIfInBounds i true) (U.erase i) q' μ' w' tmps' (by simpa using hl) ?_ ?_ (inv_congr (hI := hI') fun j => (getD_ins (l := listed) (i := i) (by omega) j).symm)
      · have := hUn i h1 h2
        rw [List.length_erase_of_mem this]
        have := List.length_pos_of_mem this
        omega
      · intro j hj hn
        have hne : j ≠ i := by
          rintro rfl
          exact hn ((getD_ins (l := listed) (by omega) _).2 (.inr rfl))
        refine (List.mem_erase_of_ne hne).2 (hUn j hj fun h => hn ((getD_ins (l := listed) (by omega) _).2 (.inl h)))

theorem drawn_ok (hmix : P.follows .mixedOrders = true) (hcl : ClOk P N cl) {C : Cx} {A : X → Machine → Prop} (hA : Ap P N C μ0 H0 w0 A) {k : List Item} {kx : St → Hp → X}
    (hk : ∀ st' μ' H' w' tmps', Tm C tmps' → StR μ' st' tmps' → SR P N μ' H' w' → TR μ0 H0 w0 μ' H' w' → A (kx st' H') (lone (on C.b tmps' k) C.cs w'))
    {id : Nat} (hok : okActs P ops.toList acts = true) (hops : ∀ o ∈ ops.toList, okOper C.n C.fzl o = true)
    {st : St} {μ : Mu} {H : Hp} {w : World} {tmps : Array Value} (hs : SR P N μ H w) (htr : TR μ0 H0 w0 μ H w) (hsz : Tm C tmps) (hst : StR μ st tmps) :
    A (actsX P cl ops acts st kx H) (lone (on C.b tmps (.code (.region id ops true) :: k)) C.cs w) := by
  refine hA.one st_region_draw ?_
  by_cases hf : actsX P cl ops acts st kx H = .fail
  · rw [hf]; exact hA.fail _
  · have hp := plan_of hok
    have hxx : ∃ Q, EndsX P cl ops acts (st, H) Q kx (actsX P cl ops acts st kx H) := by
      rcases acts_dec acts (st, H) hf with ⟨s', h1, h2⟩ | ⟨q, i, o, s', v, h', h1, h2, h3, h4, h5⟩
      · exact ⟨acts.length, .inl ⟨rfl, s', h1, h2⟩⟩
      · exact ⟨q, .inr ⟨i, o, s', v, h', h1, h2, h3, h4, h5⟩⟩
    obtain ⟨Q, hx⟩ := hxx
    have hQ : Q ≤ acts.length := by
      rcases hx with ⟨h, _⟩ | ⟨j, oj, _, _, _, h, _⟩
      · omega
      · have := (List.getElem?_eq_some_iff.1 h).1; omega
    have hw1 : SR P N μ H { w with drawn := w.drawn + 1 } := hs.of_heap rfl
    have ht1 : TR μ0 H0 w0 μ H { w with drawn := w.drawn + 1 } := htr.trans (TR.drew μ H w)
    obtain ⟨q2, _, c2, c3, c4⟩ := next_pos (P := P) (ops := ops) hQ Q 0 (by omega)
    have hends : ∃ sQ, runA P cl ops acts Q (st, H) = some sQ := by
      rcases hx with ⟨_, s, h, _⟩ | ⟨_, _, s, _, _, _, _, h, _⟩ <;> exact ⟨s, h⟩
    obtain ⟨sQ, hsQ⟩ := hends
    obtain ⟨s2, hs2⟩ := runA_le (P := P) (cl := cl) (ops := ops) (l := acts) (s := (st, H)) (Q - q2) q2 sQ (by rw [show q2 + (Q - q2) = Q by omega]; exact hsQ)
    have h0 : runA P cl ops acts 0 (st, H) = some (st, H) := by cases acts <;> rfl
    have hext : ∀ (r r' : Nat) s s', r ≤ r' → r' ≤ q2 → runA P cl ops acts r (st, H) = some s → runA P cl ops acts r' (st, H) = some s' → Ext s.2 s'.2 := fun r r' s s' d2 d3 d4 d5 =>
      seg_ext (r' - r) r s s' d4 (by rw [show r + (r' - r) = r' by omega]; exact d5) (by omega) fun r'' a1 a2 => c3 r'' (by omega) (by omega)
    have hE := hext 0 q2 _ s2 (by omega) (Nat.le_refl _) h0 hs2
    have hfalse : ∀ i, ¬ (Array.replicate ops.size false).getD i false = true := by
      intro i
      rw [Array.getD_eq_getD_getElem?, Array.getElem?_replicate]
      split <;> simp
    have hI : Inv P N cl C ops acts μ0 H0 w0 (st, H) Q (fun i => (Array.replicate ops.size false).getD i false = true) q2 μ { w with drawn := w.drawn + 1 } tmps := by
      refine ⟨fun i h => absurd h (hfalse i), ?_, c4, fun i a j h => absurd h (hfalse i), hsz, ?_, ⟨s2, hs2, hE.sr hw1, hE.tr hw1 ht1⟩, fun p p' s s' d1 d2 d3 d4 => (hext p p' s s' d1 d2 d3 d4).size, ?_⟩
      · rintro i o ⟨p, hp1, hp2⟩ ho hc
        have := c3 p (by omega) hp1 i o hp2 ho
        rw [this] at hc; cases hc
      · intro q' s hq' hs' t hj
        have := seg_tmp (P := P) (cl := cl) (t := t) q' 0 (st, H) s h0 (by rw [Nat.zero_add]; exact hs') (by omega) (by
          intro r i o _ hr hri hoi hd
          exact hfalse i ((hj i o hoi hd).2 ⟨r, by omega, hri⟩))
        rw [this]
        exact hst t
      · intro p i s s' s'' d1 d2 _ d4 d5 d6 b hb1 hb2
        have e1 := hext 0 p _ s (by omega) (by omega) h0 d4
        have e2 := hext (p + 1) q2 s' s'' (by omega) (Nat.le_refl _) d5 d6
        have e3 : H.size ≤ s.2.size := e1.size
        exact ⟨(hw1.fresh b (by omega)).1, e2.get hb2, Nat.lt_of_lt_of_le hb2 e2.size⟩
    have hsched : Region.schedule (P.follows .mixedOrders) ops (w.tape w.drawn (.order C.b.fn id)) = Region.linearise.go .any ops ops.size (w.tape w.drawn (.order C.b.fn id)) (Array.replicate ops.size false) [] := by
      unfold Region.schedule
      rw [hmix]
      rfl
    rw [hsched]
    exact sched_ok hcl hA hp hops htr.size hx hk ops.size _ (Array.replicate ops.size false) (List.range ops.size) q2 μ _ tmps (by simp) (by simp) (fun i hi _ => by simpa using hi) hI
end
end Go.Abs
