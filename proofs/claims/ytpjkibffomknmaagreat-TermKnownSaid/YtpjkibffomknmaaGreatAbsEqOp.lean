import Derived.Test.YtpjkibffomknmaaGreatAbsMaps2
/- The operations: equality. -/
namespace Go.Abs
open Go

section
variable {P : Program} {N : Nat} {μ : Mu} {H H' : Hp} {w : World} {v : Value}

theorem eqGuardGo {m d : Nat} (ih : ∀ t ks, leafs P m t = some ks → P.eqGuardType d t = false) : ∀ (fs : List Field) (acc ks : List LK), leafsGo P (leafs P m) fs acc = some ks →
    (fs.any fun f => f.name != "_" && P.eqGuardType d f.type) = false
  | [], acc, ks, h => rfl
  | f :: fs, acc, ks, h => by
    unfold leafsGo at h
    cases hf : leafs P m f.type with
    | none => rw [hf] at h; cases h
    | some kf =>
      rw [hf] at h
      simp only at h
      split at h
      · simp only [List.any_cons, ih _ _ hf, Bool.and_false, Bool.false_or]
        exact eqGuardGo ih fs _ _ h
      · cases h

theorem eqGuard_leafs : ∀ (m d : Nat) (t : TypeId) (ks : List LK), leafs P m t = some ks → m ≤ d → P.eqGuardType d t = false
  | 0, d, t, ks, h, _ => by simp [leafs] at h
  | m + 1, 0, t, ks, h, hd => by omega
  | m + 1, d + 1, t, ks, h, hd => by
    have hok := leafs_okT h
    obtain ⟨i0, dd, hi, hu⟩ := okT_iff hok
    unfold leafs at h
    rw [hok, descOf_eq hu] at h
    simp only at h
    unfold Program.eqGuardType
    rw [hu]
    cases dd <;> simp only [reduceCtorEq] at h ⊢
    case array n e =>
      cases hf : leafs P m e with
      | none => rw [hf] at h; cases h
      | some kf => exact eqGuard_leafs m d e kf hf (by omega)
    case struct fs =>
      cases hs : P.stoodInHeld t with
      | true => rw [hs] at h; cases h
      | false =>
        rw [hs] at h
        rw [← Array.any_toList]
        exact eqGuardGo (fun t ks hk => eqGuard_leafs m d t ks hk (by omega)) fs.toList [] ks h

theorem kindT_info {t : TypeId} {k : EK} (h : kindT P t = some k) : ∃ d, P.underlying t = some d ∧ match (generalizing := false) k with
    | .ptr => ∃ e, d = .pointer e
    | .slice => ∃ e, d = .slice e
    | .map => ∃ a b, d = .map a b
    | .func => ∃ a b c, d = .func a b c
    | .iface => ∃ m, d = .interface m
    | .flat ag ks => leafs P 10 t = some ks ∧ ag = aggT P t := by
  unfold kindT at h
  split at h
  · cases h
  · rename_i hok
    obtain ⟨_, d, _, hd⟩ := okT_iff hok
    rw [descOf_eq hd] at h
    refine ⟨d, hd, ?_⟩
    split at h
    all_goals first | (cases h; done) | skip
    · cases h; exact ⟨_, rfl⟩
    · cases h; exact ⟨_, rfl⟩
    · cases h; exact ⟨_, _, rfl⟩
    · cases h; exact ⟨_, _, _, rfl⟩
    · cases h; exact ⟨_, rfl⟩
    · split at h
      · rename_i ks hk
        cases h
        exact ⟨hk, rfl⟩
      · cases h

theorem eq_ok {t : TypeId} {k : EK} {a b a' b' : Value} {r : Bool} (hk : kindT P t = some k) (h : eqV k a b = some r) (ha : VR μ a a') (hb : VR μ b b') (w : World) : (Op.equal t a' b').run P w = .ok r w := by
  obtain ⟨d, hd, hi⟩ := kindT_info hk
  show (Op.equalIn (9999 + 1) t a' b').run P w = .ok r w
  cases k with
  | ptr =>
    obtain ⟨e, rfl⟩ := hi
    simp only [eqV] at h
    unfold Op.equalIn
    split at h
    · cases ha
      simp only [Sem.run_bind, run_underlying hd, Result.andThen_ok]
      cases h
      cases hb <;> rfl
    · cases hb
      simp only [Sem.run_bind, run_underlying hd, Result.andThen_ok]
      cases h
      cases ha; rfl
    · cases h
  | slice =>
    obtain ⟨e, rfl⟩ := hi
    simp only [eqV] at h
    unfold Op.equalIn
    split at h
    · cases ha
      simp only [Sem.run_bind, run_underlying hd, Result.andThen_ok]
      cases h
      cases hb <;> rfl
    · cases hb
      simp only [Sem.run_bind, run_underlying hd, Result.andThen_ok]
      cases h
      cases ha; rfl
    · cases h
  | map =>
    obtain ⟨e, e', rfl⟩ := hi
    simp only [eqV] at h
    unfold Op.equalIn
    split at h
    · cases ha
      simp only [Sem.run_bind, run_underlying hd, Result.andThen_ok]
      cases h
      cases hb <;> rfl
    · cases hb
      simp only [Sem.run_bind, run_underlying hd, Result.andThen_ok]
      cases h
      cases ha; rfl
    · cases h
  | func =>
    obtain ⟨e, e', e2, rfl⟩ := hi
    simp only [eqV] at h
    unfold Op.equalIn
    split at h
    all_goals first | (cases h; done) | skip
    all_goals
      cases ha; cases hb; cases h
      simp only [Sem.run_bind, run_underlying hd, Result.andThen_ok]
      rfl
  | iface =>
    obtain ⟨m, rfl⟩ := hi
    simp only [eqV] at h
    unfold Op.equalIn
    split at h
    all_goals first | (cases h; done) | skip
    all_goals
      cases ha; cases hb; cases h
      simp only [Sem.run_bind, run_underlying hd, Result.andThen_ok]
      rfl
  | flat ag ks =>
    obtain ⟨hlf, hag⟩ := hi
    obtain ⟨e1, e2⟩ := eqV_same h ha hb
    rw [e1, e2]
    obtain ⟨s1, s2, h3⟩ := eqV_flat h
    exact equalIn_ok 9990 10 t ks hlf w a b r (hag ▸ s1) (hag ▸ s2) h3

theorem eqGuard_plain {op : BinOp} (hop : op = .eql ∨ op = .neq) {t : TypeId} {x y : Operand} {a' b' : Value} (w : World) (hne : (match (generalizing := false) a', b' with | .nilIface, .nilIface => False | .agg _, .agg _ => False | _, _ => True)) :
    (eqGuard op t x y a' b').run P w = .ok () w := by
  rcases hop with rfl | rfl <;> (cases a' <;> cases b' <;> first | rfl | exact hne.elim)

theorem eqGuard_nil {op : BinOp} (hop : op = .eql ∨ op = .neq) {t : TypeId} {x y : Operand} (w : World) (hc : (isC x || isC y) = true) : (eqGuard op t x y .nilIface .nilIface).run P w = .ok () w := by
  rcases hop with rfl | rfl <;> (cases x <;> cases y <;> first | rfl | (simp [isC] at hc; done))

theorem eqGuard_agg {op : BinOp} (hop : op = .eql ∨ op = .neq) {t : TypeId} {x y : Operand} {xs ys : Array Value} (w : World) (hg : P.eqGuardType P.depth t = false) : (eqGuard op t x y (.agg xs) (.agg ys)).run P w = .ok () w := by
  have hp : program.run P w = .ok P w := rfl
  rcases hop with rfl | rfl <;>
  · unfold eqGuard
    simp [Sem.run_bind, hp, Result.andThen_ok, hg]
    try rfl

theorem eqGuard_ok {op : BinOp} (hop : op = .eql ∨ op = .neq) {t : TypeId} {k : EK} {a b a' b' : Value} {x y : Operand} {r : Bool} (hk : kindT P t = some k) (hc : okEq P (isC x || isC y) k = true) (h : eqV k a b = some r) (ha : VR μ a a') (hb : VR μ b b') (w : World) :
    (eqGuard op t x y a' b').run P w = .ok () w := by
  obtain ⟨d, hd, hi⟩ := kindT_info hk
  cases k with
  | ptr => exact eqGuard_plain hop w (by simp only [eqV] at h; split at h <;> first | (cases h; done) | (cases ha; cases hb <;> trivial) | (cases ha <;> cases hb <;> trivial))
  | slice => exact eqGuard_plain hop w (by simp only [eqV] at h; split at h <;> first | (cases h; done) | (cases ha; cases hb <;> trivial) | (cases ha <;> cases hb <;> trivial))
  | map => exact eqGuard_plain hop w (by simp only [eqV] at h; split at h <;> first | (cases h; done) | (cases ha; cases hb <;> trivial) | (cases ha <;> cases hb <;> trivial))
  | func => exact eqGuard_plain hop w (by simp only [eqV] at h; split at h <;> first | (cases h; done) | (cases ha <;> cases hb <;> trivial))
  | iface =>
    simp only [eqV] at h
    split at h
    · cases ha; cases hb
      exact eqGuard_nil hop w hc
    all_goals first | (cases h; done) | (cases ha; cases hb; exact eqGuard_plain hop w trivial)
  | flat ag ks =>
    obtain ⟨e1, e2⟩ := eqV_same h ha hb
    rw [e1, e2]
    obtain ⟨s1, s2, h3⟩ := eqV_flat h
    cases ag with
    | false =>
      refine eqGuard_plain hop w ?_
      have g1 := (eqL_flat h3).1 a (by rw [one_cells s1]; simp)
      rcases g1 with ⟨b, rfl⟩ | ⟨k, n, rfl⟩ | ⟨s, rfl⟩ <;> trivial
    | true =>
      obtain ⟨xs, rfl⟩ := s1
      obtain ⟨ys, rfl⟩ := s2
      exact eqGuard_agg hop w (eqGuard_leafs 10 P.depth t ks hi.1 (Nat.le_of_ble_eq_true hc))

theorem binOp_eql {t : TypeId} {a b : Value} (ha : ∀ k n, a ≠ .int k n) (hs : ∀ s, a ≠ .string s) (hf : ∀ k n, a ≠ .float k n) (hx : ∀ k m n, a ≠ .complex k m n) : binOp .eql t a b = (do pure (.bool (← Op.equal t a b))) := by
  unfold binOp
  cases a <;> cases b <;> first | rfl | (exact absurd rfl (ha _ _)) | (exact absurd rfl (hs _)) | (exact absurd rfl (hf _ _)) | (exact absurd rfl (hx _ _ _))

theorem binOp_neq {t : TypeId} {a b : Value} (ha : ∀ k n, a ≠ .int k n) (hs : ∀ s, a ≠ .string s) (hf : ∀ k n, a ≠ .float k n) (hx : ∀ k m n, a ≠ .complex k m n) : binOp .neq t a b = (do pure (.bool (!(← Op.equal t a b)))) := by
  unfold binOp
  cases a <;> cases b <;> first | rfl | (exact absurd rfl (ha _ _)) | (exact absurd rfl (hs _)) | (exact absurd rfl (hf _ _)) | (exact absurd rfl (hx _ _ _))

/-- values of a kind that is neither a number nor a string -/
theorem eq_notNum {t : TypeId} {k : EK} {a b a' : Value} {r : Bool} (hk : kindT P t = some k) (hne : descOf P t ≠ .string ∧ ∀ i, descOf P t ≠ .int i) (h : eqV k a b = some r) (ha : VR μ a a') :
    (∀ k n, a' ≠ .int k n) ∧ (∀ s, a' ≠ .string s) ∧ (∀ k n, a' ≠ .float k n) ∧ (∀ k m n, a' ≠ .complex k m n) := by
  obtain ⟨d, hd, hi⟩ := kindT_info hk
  cases k with
  | ptr => simp only [eqV] at h; split at h <;> first | (cases h; done) | (cases ha <;> simp)
  | slice => simp only [eqV] at h; split at h <;> first | (cases h; done) | (cases ha <;> simp)
  | map => simp only [eqV] at h; split at h <;> first | (cases h; done) | (cases ha <;> simp)
  | func => simp only [eqV] at h; split at h <;> first | (cases h; done) | (cases ha <;> simp)
  | iface => simp only [eqV] at h; split at h <;> first | (cases h; done) | (cases ha <;> simp)
  | flat ag ks =>
    obtain ⟨s1, s2, h3⟩ := eqV_flat h
    cases ag with
    | true =>
      obtain ⟨xs, rfl⟩ := s1
      obtain ⟨ys, rfl, _⟩ := ha.agg_inv
      simp
    | false =>
      obtain ⟨hlf, hag⟩ := hi
      unfold leafs at hlf
      rw [descOf_eq hd] at hlf hne
      have hok : okT P t = true := by
        cases hh : okT P t with
        | true => rfl
        | false => rw [hh] at hlf; cases hlf
      rw [hok] at hlf
      have : aggT P t = match (generalizing := false) d with | .struct _ | .array _ _ => true | _ => false := by unfold aggT; rw [descOf_eq hd]; cases d <;> rfl
      rw [← hag] at this
      cases d <;> simp only [reduceCtorEq] at hlf this
      case bool =>
        cases hlf
        simp only [one_cells s1, one_cells s2, eqL] at h3
        cases a <;> cases b <;> first | (cases ha; simp; done) | (simp [eqCell] at h3; done) | skip
      case int k => exact absurd rfl (hne.2 k)
      case string => exact absurd rfl hne.1

/-- equality and inequality of what is no number and no string -/
theorem binEq_ok {op : BinOp} {t : TypeId} {k : EK} {a b a' b' : Value} {x y : Operand} {neg : Bool} (hop : op = (match neg with | true => .neq | false => .eql)) (hk : kindT P t = some k) (hne : descOf P t ≠ .string ∧ ∀ i, descOf P t ≠ .int i)
    (hc : okEq P (isC x || isC y) k = true) (h : eqM k neg a b H = .ok v H') (ha : VR μ a a') (hb : VR μ b b') (w : World) :
    H' = H ∧ ((do eqGuard op t x y a' b'; binOp op t a' b') : Sem Value).run P w = .ok v w ∧ VR μ v v := by
  unfold eqM at h
  split at h
  · rename_i r hr
    cases h
    refine ⟨rfl, ?_, .bool _⟩
    have he := eq_ok hk hr ha hb w
    obtain ⟨n1, n2, n3, n4⟩ := eq_notNum hk hne hr ha
    rw [Sem.run_bind, eqGuard_ok (by cases neg <;> simp [hop]) hk hc hr ha hb w]
    simp only [Result.andThen_ok]
    cases neg with
    | false =>
      simp only at hop; subst hop
      rw [binOp_eql n1 n2 n3 n4]
      simp only [Sem.run_bind, he, Result.andThen_ok, pure_run]
    | true =>
      simp only at hop; subst hop
      rw [binOp_neq n1 n2 n3 n4]
      simp only [Sem.run_bind, he, Result.andThen_ok, pure_run]
  · cases h
end
end Go.Abs
