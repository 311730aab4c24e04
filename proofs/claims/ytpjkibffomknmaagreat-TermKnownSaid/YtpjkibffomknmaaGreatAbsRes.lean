import Derived.Test.YtpjkibffomknmaaGreatAbsCode
/- A function's results. -/
namespace Go.Abs
open Go

section
variable {P : Program} {N : Nat} {μ : Mu} {H : Hp} {w : World}

def resF (tmps : Array Value) : ResultVar → Sem Value
  | .tmp t => pure (tmps.getD t undef)
  | .cell a t => do loadVar t (← asAddr (tmps.getD a undef))

theorem ldVar_ok (hs : SR P N μ H w) {t : TypeId} {p p' v : Value} {H' : Hp} (h : tyM P [t] (ldM (aggT P t) (sizeT P t) p) H = .ok v H') (hp : VR μ p p') :
    H' = H ∧ ∃ v', (do loadVar t (← asAddr p') : Sem Value).run P w = .ok v' w ∧ VR μ v v' := by
  obtain ⟨ht, h⟩ := tyM_ok h
  obtain ⟨h1, v', h2, h3⟩ := ld_same hs (ht t (by simp)) h hp
  refine ⟨h1, v', ?_, h3⟩
  unfold ldM at h
  split at h
  · cases hp
    exact h2
  · cases h

theorem resM_ok (hs : SR P N μ H w) {st : St} {tmps : Array Value} (hst : StR μ st tmps) : ∀ (rs : List ResultVar) (acc acc' : List Value) (v : Value) (H' : Hp), resM P st rs acc H = .ok v H' → LR μ acc acc' →
    H' = H ∧ ∃ l, (rs.mapM (resF tmps)).run P w = .ok l w ∧ VR μ v (.tuple (acc'.reverse ++ l).toArray)
  | [], acc, acc', v, H', h, ha => by
    cases h
    exact ⟨rfl, [], rfl, .tuple' (by simpa using ha.reverse)⟩
  | .tmp t :: rs, acc, acc', v, H', h, ha => by
    obtain ⟨h1, l, h2, h3⟩ := resM_ok hs hst rs (st t :: acc) (tmps.getD t undef :: acc') v H' h (.cons (hst t) ha)
    refine ⟨h1, tmps.getD t undef :: l, ?_, by simpa using h3⟩
    simp only [List.mapM_cons, resF, Sem.run_bind, h2, Result.andThen_ok, pure_run]
  | .cell a t :: rs, acc, acc', v, H', h, ha => by
    unfold resM at h
    unfold bM at h
    cases hl : tyM P [t] (ldM (aggT P t) (sizeT P t) (st a)) H with
    | fail => rw [hl] at h; cases h
    | pan u h' => rw [hl] at h; cases h
    | ok u h' =>
      rw [hl] at h
      simp only at h
      obtain ⟨hh, u', e1, e2⟩ := ldVar_ok hs hl (hst a)
      rw [hh] at h
      obtain ⟨h1, l, h2, h3⟩ := resM_ok hs hst rs (u :: acc) (u' :: acc') v H' h (.cons e2 ha)
      refine ⟨h1, u' :: l, ?_, by simpa using h3⟩
      have e1' := e1
      simp only [Sem.run_bind] at e1'
      simp only [List.mapM_cons, resF, Sem.run_bind, e1', h2, Result.andThen_ok, pure_run]

def packR : List Value → Value
  | [v] => v
  | l => .tuple l.toArray

theorem mapM_length {α β : Type} (f : α → Sem β) : ∀ (xs : List α) (l : List β) (w w' : World), (xs.mapM f).run P w = .ok l w' → l.length = xs.length
  | [], l, w, w', h => by cases h; rfl
  | x :: xs, l, w, w', h => by
    simp only [List.mapM_cons, Sem.run_bind] at h
    cases h1 : (f x).run P w with
    | halt a b => rw [h1] at h; cases h
    | ok a w1 =>
      rw [h1] at h
      simp only [Result.andThen_ok] at h
      cases h2 : (xs.mapM f).run P w1 with
      | halt a b => rw [h2] at h; cases h
      | ok b w2 =>
        rw [h2] at h
        cases h
        simp [mapM_length f xs b w1 _ h2]

theorem results_run (fn : Func) (tmps : Array Value) (w : World) {l : List Value} (h : (fn.results.toList.mapM (resF tmps)).run P w = .ok l w) :
    (results fn tmps).run P w = .ok (packR l) w := by
  have e : results fn tmps = (do
      let vs ← fn.results.mapM (resF tmps)
      pure (if h : vs.size = 1 then vs[0] else .tuple vs)) := by
    unfold results
    congr 1
  rw [e, Array.mapM_eq_mapM_toList]
  rw [Sem.run_bind, Sem.run_map, h]
  match l with
  | [] => rfl
  | [v] => rfl
  | _ :: _ :: _ => rfl

theorem results_ok (hs : SR P N μ H w) {fn : Func} {st : St} {tmps : Array Value} (hst : StR μ st tmps) {v : Value} {H' : Hp} (h : resultsM P fn st H = .ok v H') :
    H' = H ∧ ∃ v', (results fn tmps).run P w = .ok v' w ∧ VR μ v v' := by
  unfold resultsM at h
  have gen : ∀ rs, fn.results.toList = rs → resM P st rs [] H = .ok v H' → (∀ x, rs ≠ [x]) → H' = H ∧ ∃ v', (results fn tmps).run P w = .ok v' w ∧ VR μ v v' := by
    intro rs hrs h hne
    obtain ⟨h1, l, h2, h3⟩ := resM_ok hs hst rs [] [] v H' h .nil
    refine ⟨h1, _, results_run fn tmps w (by rw [hrs]; exact h2), ?_⟩
    have hl : l.length = rs.length := mapM_length _ _ _ _ _ h2
    match l, h3 with
    | [], h3 => exact h3
    | [x], h3 =>
      exfalso
      match rs, hl with
      | [y], _ => exact hne y rfl
    | _ :: _ :: _, h3 => exact h3
  cases hrs : fn.results.toList with
  | nil => rw [hrs] at h; exact gen [] hrs h (by simp)
  | cons r rest =>
    cases rest with
    | cons r2 rest => rw [hrs] at h; cases r <;> exact gen _ hrs h (by simp)
    | nil =>
      rw [hrs] at h
      cases r with
      | tmp t =>
        cases h
        refine ⟨rfl, tmps.getD t undef, results_run fn tmps w (l := [tmps.getD t undef]) ?_, hst t⟩
        rw [hrs]; rfl
      | cell a t =>
        obtain ⟨rfl, u', e1, e2⟩ := ldVar_ok hs h (hst a)
        refine ⟨rfl, u', results_run fn tmps w (l := [u']) ?_, e2⟩
        rw [hrs]
        have e1' := e1
        simp only [Sem.run_bind] at e1'
        simp only [List.mapM_cons, resF, List.mapM_nil, Sem.run_bind, e1', Result.andThen_ok, pure_run]
end
end Go.Abs
