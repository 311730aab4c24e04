import Derived.Test.YtpjkibffomknmaaGreatAbsOps6
/- Maps. -/
namespace Go.Abs
open Go

section
variable {P : Program} {N : Nat} {μ : Mu} {H H' : Hp} {w : World} {v : Value}

theorem leafs_notIface {m : Nat} {t : TypeId} {ks : List LK} (h : leafs P m t = some ks) (ms : Array (String × TypeId)) : P.underlying t ≠ some (.interface ms) := by
  intro hu
  have hok := leafs_okT h
  cases m with
  | zero => simp [leafs] at h
  | succ m =>
    unfold leafs at h
    rw [hok, descOf_eq hu] at h
    cases h

theorem checkFields_ok {m dd : Nat} {b : Bool} (ih : ∀ t ks, leafs P m t = some ks → ∀ (w : World) (x : Value) (r : Bool), Shaped (aggT P t) x → eqL ks x.cells.toList x.cells.toList = some r → (Instr.checkKey b dd t x).run P w = .ok () w)
    (xs : Array Value) (w : World) : ∀ (fs : List Field) (acc ks : List LK), leafsGo P (leafs P m) fs acc = some ks →
    ∃ rest, ks = acc ++ rest ∧ ∀ r, acc.length ≤ xs.toList.length → eqL rest (xs.toList.drop acc.length) (xs.toList.drop acc.length) = some r →
      (forIn (m := Sem) fs PUnit.unit fun f (_ : PUnit) => do
        if f.name ≠ "_" then Instr.checkKey b dd f.type (← part f.type xs f.offset)
        pure (ForInStep.yield PUnit.unit)).run P w = .ok PUnit.unit w
  | [], acc, ks, h => by
    simp only [leafsGo, Option.some.injEq] at h
    subst h
    exact ⟨[], by simp, fun r _ _ => rfl⟩
  | f :: fs, acc, ks, h => by
    unfold leafsGo at h
    cases hf : leafs P m f.type with
    | none => rw [hf] at h; cases h
    | some kf =>
      rw [hf] at h
      simp only at h
      split at h
      · rename_i hc
        simp only [Bool.and_eq_true, bne_iff_ne, ne_eq] at hc
        obtain ⟨h1, h2, h3⟩ := hc
        have h1 := Nat.eq_of_beq_eq_true h1
        have h2 := Nat.eq_of_beq_eq_true h2
        obtain ⟨rest, rfl, hr⟩ := checkFields_ok ih xs w fs (acc ++ kf) ks h
        refine ⟨kf ++ rest, by simp, fun r hx hrr => ?_⟩
        obtain ⟨r1, r2, e1, e2, rfl⟩ := eqL_append _ _ _ _ _ hrr
        rw [List.drop_drop] at e2
        have l1 := eqL_length _ _ _ _ e1
        simp only [List.length_take, List.length_drop] at l1
        have e2' := hr r2 (by rw [List.length_append]; omega) (by simpa using e2)
        obtain ⟨f1, _, _⟩ := eqL_flat e1
        obtain ⟨a, pa, sa, ca⟩ := run_part_leafs hf h2 xs f.offset (by omega) (by rw [h1]; exact f1) w
        have hk := ih f.type kf hf w a r1 sa (by rw [ca, h1]; exact e1)
        simp only [List.forIn_cons, h3, ne_eq, not_false_eq_true, if_true, Sem.run_bind, pa, hk, Result.andThen_ok, pure_run]
        exact e2'
      · cases h

theorem checkItems_ok {m dd : Nat} {b : Bool} {e : TypeId} {kf : List LK} (hf : leafs P m e = some kf) (hsz : kf.length = sizeT P e)
    (ih : ∀ (w : World) (x : Value) (r : Bool), Shaped (aggT P e) x → eqL kf x.cells.toList x.cells.toList = some r → (Instr.checkKey b dd e x).run P w = .ok () w) (xs : Array Value) (w : World) :
    ∀ (n i : Nat) (r : Bool), i * kf.length ≤ xs.toList.length → eqL (reptK kf n) (xs.toList.drop (i * kf.length)) (xs.toList.drop (i * kf.length)) = some r →
      (forIn (m := Sem) (List.range' i n) PUnit.unit fun i (_ : PUnit) => do
        Instr.checkKey b dd e (← part e xs (i * (← sizeOf e)))
        pure (ForInStep.yield PUnit.unit)).run P w = .ok PUnit.unit w
  | 0, i, r, _, h => rfl
  | n + 1, i, r, hx, h => by
    simp only [reptK] at h
    obtain ⟨r1, r2, e1, e2, rfl⟩ := eqL_append _ _ _ _ _ h
    rw [List.drop_drop] at e2
    have l1 := eqL_length _ _ _ _ e1
    simp only [List.length_take, List.length_drop] at l1
    have e2' := checkItems_ok hf hsz ih xs w n (i + 1) r2 (by rw [Nat.add_mul, Nat.one_mul]; omega) (by rw [Nat.add_mul, Nat.one_mul]; exact e2)
    obtain ⟨f1, _, _⟩ := eqL_flat e1
    obtain ⟨a, pa, sa, ca⟩ := run_part_leafs hf hsz.symm xs (i * kf.length) (by omega) f1 w
    have hk := ih w a r1 sa (by rw [ca]; exact e1)
    rw [hsz] at pa
    simp only [List.range'_succ, List.forIn_cons, Sem.run_bind, run_sizeT (leafs_okT hf), pa, hk, Result.andThen_ok, pure_run]
    exact e2'

theorem checkKey_ok (d : Nat) (b : Bool) : ∀ (m : Nat) (t : TypeId) (ks : List LK), leafs P m t = some ks → ∀ (w : World) (x : Value) (r : Bool), Shaped (aggT P t) x → eqL ks x.cells.toList x.cells.toList = some r →
    (Instr.checkKey b (d + m) t x).run P w = .ok () w
  | 0, t, ks, h => by simp [leafs] at h
  | m + 1, t, ks, h => by
    intro w x r sx hr
    have hok := leafs_okT h
    obtain ⟨i0, dd, hi, hd⟩ := okT_iff hok
    unfold leafs at h
    rw [hok, descOf_eq hd] at h
    simp only at h
    have hag : aggT P t = match (generalizing := false) dd with | .struct _ | .array _ _ => true | _ => false := by unfold aggT; rw [descOf_eq hd]; cases dd <;> rfl
    rw [show d + (m + 1) = (d + m) + 1 from rfl]
    cases dd <;> simp only [reduceCtorEq] at h
    case bool =>
      unfold Instr.checkKey
      simp only [Sem.run_bind, run_underlying hd, Result.andThen_ok]
      cases x <;> rfl
    case int k =>
      unfold Instr.checkKey
      simp only [Sem.run_bind, run_underlying hd, Result.andThen_ok]
      cases x <;> rfl
    case string =>
      unfold Instr.checkKey
      simp only [Sem.run_bind, run_underlying hd, Result.andThen_ok]
      cases x <;> rfl
    case array n e =>
      simp only at hag; rw [hag] at sx
      obtain ⟨xs, rfl⟩ := sx
      cases hf : leafs P m e with
      | none => rw [hf] at h; cases h
      | some kf =>
        rw [hf] at h
        simp only at h
        split at h
        · rename_i hc
          have hc := Nat.eq_of_beq_eq_true hc
          cases h
          have := checkItems_ok hf hc (checkKey_ok d b m e kf hf) xs w n 0 r (by simp) (by simpa [Value.cells] using hr)
          unfold Instr.checkKey
          simp only [Sem.run_bind, run_underlying hd, Result.andThen_ok]
          simp only [Std.Legacy.Range.forIn_eq_forIn_range', Std.Legacy.Range.size, Nat.sub_zero, Nat.add_one_sub_one, Nat.div_one]
          rw [this]; rfl
        · cases h
    case struct fs =>
      simp only at hag; rw [hag] at sx
      obtain ⟨xs, rfl⟩ := sx
      cases hs : P.stoodInHeld t with
      | true => rw [hs] at h; cases h
      | false =>
        rw [hs] at h
        obtain ⟨rest, e1, e2⟩ := checkFields_ok (b := b) (dd := d + m) (fun t ks hk => checkKey_ok d b m t ks hk) xs w fs.toList [] ks h
        simp only [List.nil_append] at e1
        subst e1
        have := e2 r (by simp) (by simpa [Value.cells] using hr)
        unfold Instr.checkKey
        simp only [Sem.run_bind, run_underlying hd, Result.andThen_ok]
        rw [← Array.forIn_toList]
        rw [this]; rfl

/-- what `kindT` says of a key's type -/
theorem kindT_flat {t : TypeId} {ag : Bool} {ks : List LK} (h : kindT P t = some (.flat ag ks)) : leafs P 10 t = some ks ∧ ag = aggT P t := by
  unfold kindT at h
  split at h
  · cases h
  · split at h <;> first | (cases h; done) | skip
    split at h
    · rename_i ks' hk
      cases h
      exact ⟨hk, rfl⟩
    · cases h

theorem eqV_flat {ag : Bool} {ks : List LK} {a b : Value} {r : Bool} (h : eqV (.flat ag ks) a b = some r) : Shaped ag a ∧ Shaped ag b ∧ eqL ks a.cells.toList b.cells.toList = some r := by
  unfold eqV at h
  cases ag with
  | true =>
    simp only at h
    split at h
    · exact ⟨⟨_, rfl⟩, ⟨_, rfl⟩, by simpa [Value.cells] using h⟩
    · cases h
  | false =>
    simp only at h
    have hl := eqL_length _ _ _ _ h
    obtain ⟨f1, f2, _⟩ := eqL_flat h
    have g1 := f1 a (by simp)
    have g2 := f2 b (by simp)
    have o1 : one a = true := by rcases g1 with ⟨b, rfl⟩ | ⟨k, n, rfl⟩ | ⟨s, rfl⟩ <;> rfl
    have o2 : one b = true := by rcases g2 with ⟨b, rfl⟩ | ⟨k, n, rfl⟩ | ⟨s, rfl⟩ <;> rfl
    exact ⟨o1, o2, by rw [one_cells o1, one_cells o2]; exact h⟩

theorem eqV_same {ag : Bool} {ks : List LK} {a b a' b' : Value} {r : Bool} (h : eqV (.flat ag ks) a b = some r) (ha : VR μ a a') (hb : VR μ b b') : a' = a ∧ b' = b := by
  obtain ⟨s1, s2, h3⟩ := eqV_flat h
  obtain ⟨f1, f2, _⟩ := eqL_flat h3
  have key : ∀ {c c' : Value}, Shaped ag c → (∀ x ∈ c.cells.toList, FlatCell x) → VR μ c c' → c' = c := by
    intro c c' sc fc hc
    cases ag with
    | true =>
      obtain ⟨cs, rfl⟩ := sc
      obtain ⟨cs', rfl, hl⟩ := hc.agg_inv
      have := flat_eq_of_LR (by simpa [Value.cells] using fc) hl
      rw [Array.ext' this]
    | false =>
      have := fc c (by rw [one_cells sc]; simp)
      exact this.eq_of_VR hc
  exact ⟨key s1 f1 ha, key s2 f2 hb⟩

theorem eqV_iff {ag : Bool} {ks : List LK} {a b : Value} {r : Bool} (h : eqV (.flat ag ks) a b = some r) : r = true ↔ a = b := by
  obtain ⟨s1, s2, h3⟩ := eqV_flat h
  obtain ⟨_, _, h4⟩ := eqL_flat h3
  rw [h4]
  constructor
  · intro e
    cases ag with
    | true =>
      obtain ⟨x, rfl⟩ := s1
      obtain ⟨y, rfl⟩ := s2
      simp only [Value.cells] at e
      rw [Array.ext' e]
    | false =>
      rw [one_cells s1, one_cells s2] at e
      simpa using e
  · intro e; rw [e]

theorem keyOk_spec {ek : EK} {k : Value} (h : keyOk ek k = true) : ∃ ag ks r, ek = .flat ag ks ∧ eqV ek k k = some r := by
  unfold keyOk at h
  split at h
  · rename_i ag ks r hr
    exact ⟨ag, ks, r, rfl, hr⟩
  · cases h

/-- a search's answers, related -/
def FR (μ : Mu) (k : Value) (es' : List MapEntry) (i0 : Nat) : Option (Nat × Value × Nat) → Option (Nat × Value) → Prop
  | none, none => True
  | some (i, v, b), some (i', v') => i' = i ∧ VR μ v v' ∧ i0 ≤ i ∧ ∃ e', es'[i - i0]? = some e' ∧ e'.val = v' ∧ e'.born = b ∧ e'.key = k
  | _, _ => False

theorem FR.cons {k : Value} {es' : List MapEntry} {e : MapEntry} {i0 : Nat} {r : Option (Nat × Value × Nat)} {r' : Option (Nat × Value)} (h : FR μ k es' (i0 + 1) r r') : FR μ k (e :: es') i0 r r' := by
  cases r with
  | none => cases r' with
    | none => trivial
    | some x => exact h
  | some x =>
    obtain ⟨i, v, b⟩ := x
    cases r' with
    | none => exact h
    | some y =>
      obtain ⟨i', v'⟩ := y
      obtain ⟨h1, h2, h3, e', h4, h5⟩ := h
      refine ⟨h1, h2, by omega, e', ?_, h5⟩
      have : i - i0 = (i - (i0 + 1)) + 1 := by omega
      rw [this]
      simpa using h4

theorem asking_ok {t : TypeId} {ag : Bool} {ks : List LK} (hk : kindT P t = some (.flat ag ks)) (k : Value) (hkk : VR μ k k) (w : World) : ∀ (es : List (Value × Value × Nat)) (es' : List MapEntry) (i : Nat) (r : Option (Nat × Value × Nat)),
    L2 (EntR μ) es es' → findL (.flat ag ks) k es i = some r → ∃ r', (Instr.findAsking t k es' i).run P w = .ok r' w ∧ FR μ k es' i r r'
  | [], es', i, r, hl, h => by
    rw [hl.nil_left]
    cases h
    exact ⟨none, rfl, trivial⟩
  | (k0, v0, b0) :: es, es', i, r, hl, h => by
    obtain ⟨e', t', rfl, ⟨he1, he2, he3⟩, ht⟩ := hl.cons_left
    obtain ⟨hlf, hag⟩ := kindT_flat hk
    have step : ∀ b, eqV (.flat ag ks) k k0 = some b → e'.key = k0 ∧ (Op.equal t k e'.key).run P w = .ok b w := by
      intro b he
      obtain ⟨s1, s2, h3⟩ := eqV_flat he
      have hke := (eqV_same he hkk he1).2
      refine ⟨hke, ?_⟩
      rw [hke]
      exact equalIn_ok 9990 10 t ks hlf w k k0 b (hag ▸ s1) (hag ▸ s2) h3
    unfold findL at h
    split at h
    · rename_i he
      obtain ⟨hke, hrun⟩ := step true he
      cases h
      have hkk0 : k = k0 := (eqV_iff he).1 rfl
      refine ⟨some (i, e'.val), ?_, rfl, he2, Nat.le_refl _, e', by simp, rfl, he3.symm, by rw [hke, hkk0]⟩
      unfold Instr.findAsking
      rw [Sem.run_bind, hrun]
      rfl
    · rename_i he
      obtain ⟨hke, hrun⟩ := step false he
      obtain ⟨r', h1, h2⟩ := asking_ok hk k hkk w es t' (i + 1) r ht h
      refine ⟨r', ?_, h2.cons⟩
      unfold Instr.findAsking
      rw [Sem.run_bind, hrun]
      exact h1
    · cases h

theorem beq_bytearray (a b : ByteArray) : (a == b) = true ↔ a = b := by
  cases a; cases b
  simp only [BEq.beq, ByteArray.beq, ByteArray.mk.injEq]
  constructor
  · intro h
    exact Array.eq_of_isEqv _ _ h
  · intro h; subst h; exact Array.isEqv_self _

theorem sameNow_iff {d : TypeDesc} {a b : Value} {r : Bool} (h : Instr.sameNow d a b = some r) : r = true ↔ a = b := by
  unfold Instr.sameNow at h
  split at h
  · split at h
    · rename_i e; cases h; simp [e]
    · cases h
  · cases h; rw [beq_bytearray]; simp
  · cases h; simp
  · cases h

theorem now_ok {t : TypeId} {ag : Bool} {ks : List LK} (hk : kindT P t = some (.flat ag ks)) (k : Value) (hkk : VR μ k k) (d : TypeDesc) : ∀ (es : List (Value × Value × Nat)) (es' : List MapEntry) (i : Nat) (r : Option (Nat × Value × Nat)) (r' : Option (Nat × Value)),
    L2 (EntR μ) es es' → findL (.flat ag ks) k es i = some r → Instr.findNow d k es' i = some r' → FR μ k es' i r r'
  | [], es', i, r, r', hl, h, h' => by
    rw [hl.nil_left] at h'
    cases h; cases h'
    trivial
  | (k0, v0, b0) :: es, es', i, r, r', hl, h, h' => by
    obtain ⟨e', t', rfl, ⟨he1, he2, he3⟩, ht⟩ := hl.cons_left
    have step : ∀ b b', eqV (.flat ag ks) k k0 = some b → Instr.sameNow d k e'.key = some b' → e'.key = k0 ∧ (b = true ↔ b' = true) := by
      intro b b' he hn
      have hke := (eqV_same he hkk he1).2
      refine ⟨hke, ?_⟩
      rw [sameNow_iff hn, eqV_iff he, hke]
    unfold findL at h
    unfold Instr.findNow at h'
    split at h'
    · rename_i hn
      split at h
      · rename_i he
        obtain ⟨hke, _⟩ := step true true he hn
        cases h; cases h'
        have hkk0 : k = k0 := (eqV_iff he).1 rfl
        exact ⟨rfl, he2, Nat.le_refl _, e', by simp, rfl, he3.symm, by rw [hke, hkk0]⟩
      · rename_i he
        exact absurd (step false true he hn).2 (by simp)
      · cases h
    · rename_i hn
      split at h
      · rename_i he
        exact absurd (step true false he hn).2 (by simp)
      · rename_i he
        exact (now_ok hk k hkk d es t' (i + 1) r r' ht h h').cons
      · cases h
    · cases h'

theorem keyOk_flat {t : TypeId} {ek : EK} {k k' : Value} (hk : kindT P t = some ek) (h : keyOk ek k = true) (hr : VR μ k k') : ∃ ag ks r, ek = .flat ag ks ∧ kindT P t = some (.flat ag ks) ∧ k' = k ∧ VR μ k k ∧ Shaped (aggT P t) k ∧
    leafs P 10 t = some ks ∧ eqL ks k.cells.toList k.cells.toList = some r := by
  obtain ⟨ag, ks, r, rfl, he⟩ := keyOk_spec h
  obtain ⟨hlf, hag⟩ := kindT_flat hk
  obtain ⟨s1, _, h3⟩ := eqV_flat he
  have : k' = k := (eqV_same he hr hr).1
  exact ⟨ag, ks, r, rfl, hk, this, this ▸ hr, hag ▸ s1, hlf, h3⟩

/-- a key is looked for -/
theorem find_ok {t : TypeId} {ek : EK} {k k' : Value} (hk : kindT P t = some ek) (hok : keyOk ek k = true) (hr : VR μ k k') (b : Bool) {es : List (Value × Value × Nat)} {es' : List MapEntry} {r : Option (Nat × Value × Nat)}
    (hl : L2 (EntR μ) es es') (h : findL ek k es 0 = some r) (w : World) : k' = k ∧ (Instr.checkKey b 10000 t k').run P w = .ok () w ∧ ∃ r', (Instr.findKey t k' es').run P w = .ok r' w ∧ FR μ k es' 0 r r' := by
  obtain ⟨ag, ks, r0, rfl, hk, hkeq, hkk, sk, hlf, h3⟩ := keyOk_flat hk hok hr
  rw [hkeq]
  refine ⟨rfl, checkKey_ok 9990 b 10 t ks hlf w _ r0 sk h3, ?_⟩
  obtain ⟨_, d, _, hd⟩ := okT_iff (leafs_okT hlf)
  unfold Instr.findKey
  rw [Sem.run_bind, run_underlying hd]
  simp only [Result.andThen_ok]
  cases hn : Instr.findNow d k es' 0 with
  | some r' => exact ⟨r', rfl, now_ok hk k hkk d es es' 0 r r' hl h hn⟩
  | none => exact asking_ok hk k hkk w es es' 0 r hl h

theorem mapM_ok {t : TypeId} {m : EK → M Value} (h : mapM P t m H = .ok v H') : ∃ k e ek, P.underlying t = some (.map k e) ∧ kindT P k = some ek ∧ okZ P e = true ∧ m ek H = .ok v H' := by
  unfold mapM at h
  cases hd : descOf P t <;> rw [hd] at h <;> first | (cases h; done) | skip
  rename_i k e
  simp only at h
  cases hk : kindT P k with
  | none => rw [hk] at h; cases h
  | some ek =>
    rw [hk] at h
    obtain ⟨h1, h2⟩ := zyM_ok h
    exact ⟨k, e, ek, descOf_some hd (by simp), hk, h1 e (by simp), h2⟩

def notCells : Obj → Prop
  | .cells _ _ _ => False
  | _ => True
theorem run_getObj {b : Nat} {o : Obj} (h : w.heap[b]? = some o) (ho : notCells o := by trivial) : (getObj b).run P w = .ok o w := by
  cases o <;> first | exact ho.elim | simp [getObj, Sem.run, h]
theorem run_setObj {b : Nat} {o : Obj} (o' : Obj) (h : w.heap[b]? = some o) (ho : notCells o := by trivial) : (setObj b o').run P w = .ok () (wput w b o') := by
  cases o <;> first | exact ho.elim | simp [setObj, Sem.run, h, wput]

theorem SR.map (hs : SR P N μ H w) {i : Nat} {es : List (Value × Value × Nat)} {c : Nat} (hi : H.get i = some (.map es c)) {l : Loc} (hμ : μ i = some l) :
    ∃ es', w.heap[l.b]? = some (.map es' c) ∧ L2 (EntR μ) es es'.toList ∧ l.base = 0 := by
  obtain ⟨ob, h2, es', h3, h4, h5⟩ := hs.dom i _ l hi hμ
  exact ⟨es', h3 ▸ h2, h4, h5⟩

theorem mapElemZero_eq {t k e : TypeId} {z : Value} (hd : P.underlying t = some (.map k e)) (hz : mapElemZero P t = some z) : zeroT P e = some z := by
  unfold mapElemZero at hz
  rw [descOf_eq hd] at hz
  exact hz

theorem lookup_ok (hs : SR P N μ H w) {t : TypeId} {ok : Bool} {x x' k k' : Value} (h0 : mapM P t (fun ek => lookupM ek (mapElemZero P t) ok x k) H = .ok v H') (hx : VR μ x x') (hkr : VR μ k k') :
    Res P N μ H w v H' ((Instr.lookup t x' k' ok).run P w) := by
  obtain ⟨kt, e, ek, hd, hk, he, h⟩ := mapM_ok h0
  clear h0
  simp only [lookupM] at h
  split at h
  · rename_i z hok hz
    have hz := mapElemZero_eq hd hz
    obtain ⟨_, z', hz', zrun, _, _, zf, _⟩ := okZ_spec he
    rw [hz] at hz'; cases hz'
    have fin : ∀ (es : List (Value × Value × Nat)) (es' : Array MapEntry) (out : Option (Nat × Value × Nat)), L2 (EntR μ) es es'.toList → findL ek k es 0 = some out →
        (match (generalizing := false) (some out : Option (Option (Nat × Value × Nat))) with
          | some (some (_, v, _)) => (R.ok (match (generalizing := false) ok with | true => Value.tuple #[v, .bool true] | false => v) H : R Value)
          | some none => .ok (match (generalizing := false) ok with | true => .tuple #[z, .bool false] | false => z) H
          | none => .fail) = .ok v H' → k' = k ∧ (Instr.checkKey es'.isEmpty 10000 kt k').run P w = .ok () w ∧ ∃ r', (Instr.findKey kt k' es'.toList).run P w = .ok r' w ∧
            Res P N μ H w v H' ((match r' with
              | some (_, v) => (pure (if ok = true then Value.tuple #[v, Value.bool true] else v) : Sem Value)
              | none => do
                let z ← zeroValue e
                pure (if ok = true then Value.tuple #[z, Value.bool false] else z)).run P w) := by
      intro es es' out hl hf ho
      obtain ⟨rfl, hck, r', hfr, hFR⟩ := find_ok hk hok hkr es'.isEmpty hl hf w
      refine ⟨rfl, hck, r', hfr, ?_⟩
      cases out with
      | none =>
        cases r' with
        | some y => exact hFR.elim
        | none =>
          cases ho
          simp only [Sem.run_bind, zrun, Result.andThen_ok, pure_run]
          cases ok
          · exact .same hs (zf.VR μ)
          · exact .same hs (.tuple' (.cons (zf.VR μ) (.cons (.bool _) .nil)))
      | some q =>
        obtain ⟨i, v0, b⟩ := q
        cases r' with
        | none => exact hFR.elim
        | some y =>
          obtain ⟨i', v'⟩ := y
          obtain ⟨_, hv, _⟩ := hFR
          cases ho
          simp only [pure_run]
          cases ok
          · exact .same hs hv
          · exact .same hs (.tuple' (.cons hv (.cons (.bool _) .nil)))
    cases x <;> try (cases h; done)
    case map r =>
      cases r with
      | none =>
        cases hx with
        | nilmap =>
          obtain ⟨rfl, hck, r', hfr, hres⟩ := fin [] #[] none (by exact .nil) rfl h
          unfold Instr.lookup
          simp only [Sem.run_bind, run_underlying hd, Result.andThen_ok, pure_run, hck, hfr]
          cases r' with
          | none => simpa [zrun] using hres
          | some y => simpa using hres
      | some r =>
        cases hx with
        | map hμ =>
          cases hg : H.get r with
          | none => simp only [hg] at h; cases h
          | some ob =>
            simp only [hg] at h
            cases ob <;> try (cases h; done)
            rename_i es0 c
            obtain ⟨es', hb, hl, _⟩ := hs.map hg hμ
            cases hf : findL ek k es0 0 with
            | none => simp only [hf] at h; cases h
            | some out =>
              simp only [hf] at h
              obtain ⟨rfl, hck, r', hfr, hres⟩ := fin es0 es' out hl hf h
              have hgo : (getObj _).run P w = .ok (.map es' c) w := run_getObj hb
              unfold Instr.lookup
              simp only [Sem.run_bind, run_underlying hd, hgo, Result.andThen_ok, pure_run, hck, hfr]
              cases r' with
              | none => simpa [zrun] using hres
              | some y => simpa using hres
  · cases h
end
end Go.Abs
