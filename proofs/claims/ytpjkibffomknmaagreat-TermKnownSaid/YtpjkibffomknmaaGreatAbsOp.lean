import Derived.Test.YtpjkibffomknmaaGreatAbsEqOp
/- The operations, all but calls and panics. -/
namespace Go.Abs
open Go

section
variable {P : Program} {N : Nat} {μ : Mu} {H H' : Hp} {w : World} {v : Value}

/-- an operation's answer -/
def NR (P : Program) (N : Nat) (μ : Mu) (H : Hp) (w : World) (v : Value) (H' : Hp) (r : Result Next) : Prop :=
  (∃ v' w' μ', r = .ok (.value v') w' ∧ VR μ' v v' ∧ SR P N μ' H' w' ∧ TR μ H w μ' H' w') ∨ (v = undefV ∧ ∃ w' μ', r = .ok .skip w' ∧ SR P N μ' H' w' ∧ TR μ H w μ' H' w')

theorem NR.res {s : Sem Value} (h : Res P N μ H w v H' (s.run P w)) : NR P N μ H w v H' (Sem.run P (do pure (.value (← s))) w) := by
  obtain ⟨v', w', μ', h1, h2, h3, h4⟩ := h
  refine .inl ⟨v', w', μ', ?_, h2, h3, h4⟩
  simp only [Sem.run_bind, h1, Result.andThen_ok]
  rfl

theorem NR.same {s : Sem Value} (hs : SR P N μ H w) {v' : Value} (hH : H' = H) (h : s.run P w = .ok v' w) (hv : VR μ v v') : NR P N μ H w v H' (Sem.run P (do pure (.value (← s))) w) := by
  subst hH
  exact .res (.same' hs h hv)

theorem NR.unit {s : Sem Unit} (hv : v = undefV) (h : ∃ w', s.run P w = .ok () w' ∧ SR P N μ H' w' ∧ TR μ H w μ H' w') : NR P N μ H w v H' (Sem.run P (do s; pure .skip) w) := by
  obtain ⟨w', h1, h2, h3⟩ := h
  refine .inr ⟨hv, w', μ, ?_, h2, h3⟩
  simp only [Sem.run_bind, h1, Result.andThen_ok]
  rfl

def isCall : Op → Bool
  | .call _ | .panic _ => true
  | _ => false

theorem optR_map {st ρ : Operand → Value} {o : Option Operand} (h : ∀ x, o = some x → VR μ (st x) (ρ x)) : OptR μ (o.map st) (o.map ρ) := by
  cases o with
  | none => trivial
  | some x => exact h x rfl

variable (cl : Tgt → List Value → M Value)

theorem num1 {k : IntKind} {n : Int} {a b : Value} (h : VR μ (.int k n) a) : (match (generalizing := false) a, b with | .nilIface, .nilIface => False | .agg _, .agg _ => False | _, _ => True) := by
  cases h; trivial
theorem str1 {s : ByteArray} {a b : Value} (h : VR μ (.string s) a) : (match (generalizing := false) a, b with | .nilIface, .nilIface => False | .agg _, .agg _ => False | _, _ => True) := by
  cases h; trivial

theorem binop_rest {op : BinOp} {t : TypeId} {x y : Operand} {a b a' b' : Value} (h : (match op, kindT P t with
        | .eql, some k => match okEq P (isC x || isC y) k with | true => eqM k false a b | false => failM
        | .neq, some k => match okEq P (isC x || isC y) k with | true => eqM k true a b | false => failM
        | _, _ => failM : M Value) H = .ok v H') (hne : descOf P t ≠ .string ∧ (∀ i, descOf P t ≠ .int i)) (ha : VR μ a a') (hb : VR μ b b') (w : World) :
    H' = H ∧ ((do eqGuard op t x y a' b'; binOp op t a' b') : Sem Value).run P w = .ok v w ∧ VR μ v v := by
  cases hk : kindT P t with
  | none => rw [hk] at h; cases op <;> cases h
  | some k =>
    rw [hk] at h
    cases hc : okEq P (isC x || isC y) k with
    | false => cases op <;> simp only [hc] at h <;> cases h
    | true =>
      cases op <;> simp only [hc] at h <;> first | (cases h; done) | skip
      · exact binEq_ok (neg := false) rfl hk hne hc h ha hb w
      · exact binEq_ok (neg := true) rfl hk hne hc h ha hb w

theorem binop_num {op : BinOp} {t : TypeId} {x y : Operand} {a b a' b' : Value} (h : binM op a b H = .ok v H') (ha : VR μ a a') (hb : VR μ b b') (w : World) :
    H' = H ∧ ((do eqGuard op t x y a' b'; binOp op t a' b') : Sem Value).run P w = .ok v w ∧ VR μ v v := by
  obtain ⟨hH, h1, h2⟩ := bin_ok (P := P) (w := w) h ha hb t
  refine ⟨hH, ?_, h2 μ⟩
  have hg : (eqGuard op t x y a' b').run P w = .ok () w := by
    have hne : (match (generalizing := false) a', b' with | .nilIface, .nilIface => False | .agg _, .agg _ => False | _, _ => True) := by
      unfold binM at h
      split at h
      · exact num1 ha
      · exact str1 ha
      · cases h
    by_cases hop : op = .eql ∨ op = .neq
    · exact eqGuard_plain hop w hne
    · unfold eqGuard
      cases op <;> first | rfl | (exact absurd (.inl rfl) hop) | (exact absurd (.inr rfl) hop)
  rw [Sem.run_bind, hg]
  exact h1

theorem binop_ok {op : BinOp} {t : TypeId} {x y : Operand} {a b a' b' : Value} (h : binopM P op t (isC x || isC y) a b H = .ok v H') (ha : VR μ a a') (hb : VR μ b b') :
    H' = H ∧ ((do eqGuard op t x y a' b'; binOp op t a' b') : Sem Value).run P w = .ok v w ∧ VR μ v v := by
  unfold binopM at h
  cases hd : descOf P t <;> simp only [hd] at h <;> first | exact binop_num h ha hb w | exact binop_rest h (by rw [hd]; simp) ha hb w

theorem conv_ok (hs : SR P N μ H w) {s d : TypeId} {x x' : Value} (h : convM P s d x H = .ok v H') (hx : VR μ x x') : Res P N μ H w v H' ((convert s d x').run P w) := by
  unfold convM at h
  cases hs1 : descOf P s <;> simp only [hs1] at h <;> try (cases h; done)
  all_goals cases hd1 : descOf P d <;> simp only [hd1] at h <;> try (cases h; done)
  all_goals (have us := descOf_some hs1 (by simp); have ud := descOf_some hd1 (by simp))
  · obtain ⟨rfl, k', n, rfl, rfl⟩ := convInt_ok h hx
    refine .same' hs ?_ (.int _ _)
    unfold convert
    simp only [Sem.run_bind, run_underlying us, run_underlying ud, Result.andThen_ok]
    rfl
  · rename_i e
    cases he : descOf P e <;> simp only [he] at h <;> try (cases h; done)
    rename_i k
    have ue := descOf_some he (by simp)
    cases k <;> first | (cases h; done) | skip
    cases h1 : Nat.beq (sizeT P e) 1 <;> rw [h1] at h <;> try (cases h; done)
    obtain ⟨b, rfl, hr⟩ := toBytes_ok hs h (Nat.eq_of_beq_eq_true h1) hx
    unfold convert
    simp only [Sem.run_bind, run_underlying us, run_underlying ud, run_underlying ue, Result.andThen_ok]
    exact hr
  · rename_i e
    cases he : descOf P e <;> simp only [he] at h <;> try (cases h; done)
    rename_i k
    have ue := descOf_some he (by simp)
    cases k <;> first | (cases h; done) | skip
    obtain ⟨rfl, h1, h2⟩ := toString_ok hs h hx
    refine .same' hs ?_ h2
    rw [← h1]
    have : ∃ a n c, x' = .slice a n c := by
      cases x <;> first | (cases h; done) | (cases hx <;> exact ⟨_, _, _, rfl⟩)
    obtain ⟨a, n, c, rfl⟩ := this
    unfold convert
    simp only [Sem.run_bind, run_underlying us, run_underlying ud, run_underlying ue, Result.andThen_ok]

theorem op_ok (hs : SR P N μ H w) {st : St} {ρ : Operand → Value} {o : Oper} (hnc : isCall o.op = false) (hρ : ∀ x ∈ o.op.operands.toList, VR μ (st.op x) (ρ x)) (h : opM P cl st o H = .ok v H') :
    NR P N μ H w v H' ((execOp ρ o).run P w) := by
  obtain ⟨dst, op, ty, pos, after, guard⟩ := o
  simp only at hnc hρ
  cases op <;> simp only [opM] at h <;> simp only [execOp] <;> first | (cases hnc; done) | (cases h; done) | skip
  all_goals simp only [Op.operands] at hρ
  case move x =>
    cases h
    exact .inl ⟨_, w, μ, rfl, hρ x (by simp), hs, .refl _ _ _⟩
  case assign x =>
    cases h
    exact .inl ⟨_, w, μ, rfl, hρ x (by simp), hs, .refl _ _ _⟩
  case pick c a b =>
    obtain ⟨t, hc, rfl, hv⟩ := pick_ok hs h (hρ c (by simp)) (hρ a (by simp)) (hρ b (by simp))
    refine .inl ⟨_, w, μ, ?_, hv, hs, .refl _ _ _⟩
    simp only [hc]
    rfl
  case alloc t =>
    obtain ⟨ht, h⟩ := zyM_ok h
    exact .res (alloc_ok hs (ht t (by simp)) h)
  case box t x =>
    obtain ⟨ht, h⟩ := tyM_ok h
    exact .res (box_ok hs h (hρ x (by simp)))
  case build t parts =>
    cases hp : partsT P t st.op parts.toList with
    | none => simp only [hp] at h; cases h
    | some ps =>
      simp only [hp] at h
      obtain ⟨ht, h⟩ := zyM_ok h
      obtain ⟨hH, v', h1, h2⟩ := build_ok (ρ := ρ) hs (ht t (by simp)) hp (fun p hp => hρ p.2 (by simpa using ⟨p.1, by simpa using hp⟩)) h
      refine .same hs hH (v' := v') ?_ h2
      rw [← h1]
      congr 2
      apply Array.ext'
      simp
  case buildSlice t len parts =>
    cases hd : descOf P t <;> simp only [hd] at h <;> try (cases h; done)
    · rename_i e
      obtain ⟨ht, h⟩ := zyM_ok h
      have hb := buildSlice_ok (ρ := ρ) hs hd (ht e (by simp)) (fun p hp => hρ p.2 (by simpa using ⟨p.1, by simpa using hp⟩)) h
      refine .res ?_
      have e1 : (parts.map fun (x : Nat × Operand) => (x.1, ρ x.2)) = (parts.toList.map fun q => (q.1, ρ q.2)).toArray := by
        apply Array.ext'
        simp
      show Res P N μ H w v H' (Sem.run P (Instr.buildSlice t len (parts.map fun (x : Nat × Operand) => (x.1, ρ x.2))) w)
      rw [e1]
      exact hb
  case load t a =>
    obtain ⟨ht, h⟩ := tyM_ok h
    obtain ⟨h1, _⟩ := ld_ok hs (ht t (by simp)) h (hρ a (by simp))
    exact .res h1
  case store t a x =>
    obtain ⟨ht, h⟩ := tyM_ok h
    obtain ⟨w', h1, h2, h3⟩ := st_ok hs (ht t (by simp)) h (hρ a (by simp)) (hρ x (by simp))
    exact .unit h2 ⟨w', h1, h3⟩
  case nilCheck x =>
    obtain ⟨hH, h1, h2⟩ := nilCheck_run P w h (hρ x (by simp))
    subst hH
    exact .inl ⟨_, w, μ, h2 ρ x dst ty pos after guard rfl, h1, hs, .refl _ _ _⟩
  case binOp op t x y yt =>
    obtain ⟨hH, h1, h2⟩ := binop_ok (w := w) (x := x) (y := y) h (hρ x (by simp)) (hρ y (by simp))
    exact .same hs hH h1 h2
  case unOp op t x =>
    obtain ⟨hH, h1, h2⟩ := un_ok (P := P) (w := w) h (hρ x (by simp))
    exact .same hs hH h1 (h2 μ)
  case convert s d x => exact .res (conv_ok hs h (hρ x (by simp)))
  case makeInterface t x =>
    have key : (∀ ms, descOf P t ≠ .interface ms) → tyM P [t] (ifaceM t (st.op x)) H = .ok v H' → NR P N μ H w v H' (Sem.run P (do pure (.value (← Instr.makeInterface t (ρ x)))) w) := by
      intro hn h
      obtain ⟨ht, h⟩ := tyM_ok h
      obtain ⟨hH, hv⟩ := iface_ok h (hρ x (by simp))
      obtain ⟨_, d, _, hd⟩ := okT_iff (ht t (by simp))
      rw [descOf_eq hd] at hn
      refine .same hs hH (v' := .iface t (ρ x)) ?_ hv
      unfold Instr.makeInterface
      simp only [Sem.run_bind, run_underlying hd, Result.andThen_ok]
      cases d <;> first | rfl | exact absurd rfl (hn _)
    cases hd : descOf P t <;> simp only [hd] at h <;> first | (cases h; done) | exact key (by rw [hd]; simp) h
  case makeFunc f first captured =>
    cases hf : fnOk f with
    | false => rw [hf] at h; cases h
    | true =>
      rw [hf] at h
      cases h
      refine .inl ⟨_, w, μ, rfl, ?_, hs, .refl _ _ _⟩
      refine .func' (by cases f <;> first | (cases hf; done) | constructor) ?_ ?_
      · simp only [Array.toList_map]
        exact L2.map_same _ _ _ fun x hx => hρ x (by simp; exact .inl (by simpa using hx))
      · simp only [Array.toList_map]
        exact L2.map_same _ _ _ fun x hx => hρ x (by simp; exact .inr (by simpa using hx))
  case makeMap t r =>
    cases r with
    | none => exact .res (makeMap_ok hs h)
    | some r => cases h
  case makeSlice t l c =>
    cases hd : descOf P t <;> simp only [hd] at h <;> try (cases h; done)
    · rename_i e
      obtain ⟨ht, h⟩ := zyM_ok h
      exact .res (makeSlice_ok hs hd (ht e (by simp)) (hρ l (by simp)) (hρ c (by simp)) h)
  case slice t x lo hi mx =>
    have hlo : OptR μ (lo.map st.op) (lo.map ρ) := optR_map fun y hy => hρ y (by simp [hy])
    have hhi : OptR μ (hi.map st.op) (hi.map ρ) := optR_map fun y hy => hρ y (by simp [hy])
    have hmx : OptR μ (mx.map st.op) (mx.map ρ) := optR_map fun y hy => hρ y (by simp [hy])
    have hx := hρ x (by simp)
    cases hd : descOf P t <;> simp only [hd] at h <;> try (cases h; done)
    case string =>
      cases mx with
      | none =>
        obtain ⟨hH, h1, h2⟩ := sliceStr_ok hd h hx hlo hhi
        exact .same hs hH h1 h2
      | some m => cases h
    case array n e =>
      cases mx with
      | none =>
        simp only at h
        cases hn : Nat.blt n 1000000 with
        | true =>
          rw [hn] at h
          obtain ⟨ht, h⟩ := tyM_ok h
          obtain ⟨hH, v', h1, h2⟩ := sliceArr_ok hd (ht e (by simp)) (Nat.le_of_ble_eq_true hn) h hx hlo hhi
          exact .same hs hH h1 h2
        | false => rw [hn] at h; cases h
      | some m => cases h
    case slice e =>
      obtain ⟨ht, h⟩ := tyM_ok h
      obtain ⟨hH, v', h1, h2⟩ := sliceSl_ok hs hd (ht e (by simp)) h hx hlo hhi hmx
      exact .same hs hH h1 h2
  case fieldAddr t x f =>
    cases hd : descOf P t <;> simp only [hd] at h <;> try (cases h; done)
    rename_i fs
    cases hf : fs.toList[f]? with
    | none => simp only [hf] at h; cases h
    | some fd =>
      simp only [hf] at h
      cases hz : Nat.blt 0 (sizeT P fd.type) with
      | false => rw [hz] at h; cases h
      | true =>
        rw [hz] at h
        obtain ⟨hH, v', h1, h2⟩ := fieldAddr_ok hd hf hz h (hρ x (by simp))
        exact .same hs hH h1 h2
  case field t x f =>
    cases hd : descOf P t <;> simp only [hd] at h <;> try (cases h; done)
    rename_i fs
    cases hf : fs.toList[f]? with
    | none => simp only [hf] at h; cases h
    | some fd =>
      simp only [hf] at h
      obtain ⟨ht, h⟩ := tyM_ok h
      obtain ⟨hH, v', h1, h2⟩ := field_ok hd hf (ht _ (by simp)) h (hρ x (by simp))
      exact .same hs hH h1 h2
  case indexAddr t x i =>
    cases hd : descOf P t <;> simp only [hd] at h <;> try (cases h; done)
    case array n e =>
      obtain ⟨ht, h⟩ := tyM_ok h
      obtain ⟨hH, v', h1, h2⟩ := arrAddr_ok hd (ht e (by simp)) h (hρ x (by simp)) (hρ i (by simp))
      exact .same hs hH h1 h2
    case slice e =>
      obtain ⟨ht, h⟩ := tyM_ok h
      obtain ⟨hH, v', h1, h2⟩ := elemAddr_ok hs hd (ht e (by simp)) h (hρ x (by simp)) (hρ i (by simp))
      exact .same hs hH h1 h2
  case index t x i =>
    cases hd : descOf P t <;> simp only [hd] at h <;> try (cases h; done)
    case string =>
      obtain ⟨hH, h1, h2⟩ := indexStr_ok hd h (hρ x (by simp)) (hρ i (by simp))
      exact .same hs hH h1 h2
    case array n e =>
      obtain ⟨ht, h⟩ := tyM_ok h
      obtain ⟨hH, v', h1, h2⟩ := index_ok hd (ht e (by simp)) h (hρ x (by simp)) (hρ i (by simp))
      exact .same hs hH h1 h2
  case lookup t x k ok => exact .res (lookup_ok hs h (hρ x (by simp)) (hρ k (by simp)))
  case mapUpdate t m k x =>
    obtain ⟨h1, h2⟩ := update_ok hs h (hρ m (by simp)) (hρ k (by simp)) (hρ x (by simp))
    exact .unit h1 h2
  case insert t m k x =>
    obtain ⟨h1, h2⟩ := update_ok hs h (hρ m (by simp)) (hρ k (by simp)) (hρ x (by simp))
    exact .unit h1 h2
  case mapEntry t m k => exact .res (mapEntry_ok hs h (hρ m (by simp)) (hρ k (by simp)))
  case entryStore t m s x =>
    obtain ⟨h1, h2⟩ := entryStore_ok (t := t) hs h (hρ m (by simp)) (hρ s (by simp)) (hρ x (by simp))
    exact .unit h1 h2
  case range t x =>
    cases hd : descOf P t <;> simp only [hd] at h <;> try (cases h; done)
    exact .res (range_ok hs hd h (hρ x (by simp)))
  case next it b =>
    cases b with
    | false => exact .res (next_ok hs h (hρ it (by simp)))
    | true => cases h
  case entry it => exact .res (entry_ok hs h (hρ it (by simp)))
  case typeAssert x xt t ok =>
    cases ok with
    | false => cases h
    | true =>
      simp only at h
      have key : (∀ ms, descOf P t ≠ .interface ms) → zyM P [t] (typeAssertM t (zeroT P t) (st.op x)) H = .ok v H' → NR P N μ H w v H' (Sem.run P (do pure (.value (← Instr.typeAssert (ρ x) xt t true))) w) := by
        intro hn h
        obtain ⟨ht, h⟩ := zyM_ok h
        obtain ⟨hH, v', h1, h2⟩ := typeAssert_ok (xT := xt) (z := v) hn (ht t (by simp)) h (hρ x (by simp))
        exact .same hs hH h1 h2
      cases hd : descOf P t <;> simp only [hd] at h <;> first | (cases h; done) | exact key (by rw [hd]; simp) h
  case extract x i =>
    obtain ⟨hH, v', h1, h2⟩ := extract_ok (P := P) (w := w) h (hρ x (by simp))
    exact .same hs hH h1 h2
end
end Go.Abs
