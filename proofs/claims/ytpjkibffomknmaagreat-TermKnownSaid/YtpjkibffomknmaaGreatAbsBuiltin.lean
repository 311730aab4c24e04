import Derived.Test.YtpjkibffomknmaaGreatAbsOp
/- The builtin functions. -/
namespace Go.Abs
open Go

section
variable {P : Program} {N : Nat} {μ : Mu} {H H' : Hp} {w : World} {v : Value}

theorem lenArr_run {t e ty : TypeId} {n : Nat} {x' : Value} (hd : descOf P t = .array n e) : (Builtin.len_ ⟨[t]⟩ ty ⟨[x']⟩).run P w = .ok (.int .i64 n) w := by
  have hu := descOf_some hd (by simp)
  unfold Builtin.len_
  simp only [List.getElem?_toArray, List.getElem?_cons_zero, Sem.run_bind, run_underlying hu, Result.andThen_ok]
  rfl

theorem min_ok {ts : Array TypeId} {ty : TypeId} {xs xs' : List Value} (h : minM min2 xs H = .ok v H') (hx : LR μ xs xs') : H' = H ∧ ∃ v', (Builtin.min_ ts ty ⟨xs'⟩).run P w = .ok v' w ∧ VR μ v v' := by
  unfold minM at h
  cases xs with
  | nil => cases h
  | cons a r =>
    obtain ⟨b, t, rfl, hab, ht⟩ := hx.cons_left
    simp only at h
    cases hf : foldV min2 a r with
    | none => rw [hf] at h; cases h
    | some c =>
      rw [hf] at h
      cases h
      obtain ⟨r', h1, h2⟩ := fold_ok (P := P) (g := Builtin.min2) (fun a b a' b' c w h ha hb => min2_ok h ha hb w) r t a b v w hf hab ht
      exact ⟨rfl, r', h1, h2⟩

theorem max_ok {ts : Array TypeId} {ty : TypeId} {xs xs' : List Value} (h : minM max2 xs H = .ok v H') (hx : LR μ xs xs') : H' = H ∧ ∃ v', (Builtin.max_ ts ty ⟨xs'⟩).run P w = .ok v' w ∧ VR μ v v' := by
  unfold minM at h
  cases xs with
  | nil => cases h
  | cons a r =>
    obtain ⟨b, t, rfl, hab, ht⟩ := hx.cons_left
    simp only at h
    cases hf : foldV max2 a r with
    | none => rw [hf] at h; cases h
    | some c =>
      rw [hf] at h
      cases h
      obtain ⟨r', h1, h2⟩ := fold_ok (P := P) (g := Builtin.max2) (fun a b a' b' c w h ha hb => max2_ok h ha hb w) r t a b v w hf hab ht
      exact ⟨rfl, r', h1, h2⟩

theorem builtin_ok (hs : SR P N μ H w) {b : Builtin} {ts : List TypeId} {ty : TypeId} {cs : Array Bool} {xs xs' : List Value} (hr : b ≠ .recover) (h : builtinM P b ts xs H = .ok v H') (hx : LR μ xs xs') :
    NR P N μ H w v H' ((builtin b ⟨ts⟩ ty cs ⟨xs'⟩).run P w) := by
  unfold builtinM at h
  cases b <;> try (cases h; done)
  case len =>
    match ts, xs, h with
    | [t], [x], h =>
      obtain ⟨x', r, rfl, hx', hr'⟩ := hx.cons_left
      have := hr'.nil_left
      subst this
      simp only at h
      cases hd : descOf P t <;> simp only [hd] at h <;> try (cases h; done)
      case array n e =>
        cases h
        exact .same hs rfl (lenArr_run hd) (.int _ _)
      case slice e =>
        obtain ⟨hH, h1, h2⟩ := lenSl_ok (P := P) (w := w) (ty := ty) hd h hx'
        exact .same hs hH h1 h2
      case string =>
        obtain ⟨hH, h1, h2⟩ := lenStr_ok (P := P) (w := w) (ty := ty) hd h hx'
        exact .same hs hH h1 h2
      case map k e =>
        obtain ⟨hH, h1, h2⟩ := lenMap_ok (ty := ty) hs hd h hx'
        exact .same hs hH h1 h2
  case min =>
    obtain ⟨hH, v', h1, h2⟩ := min_ok (P := P) (w := w) (ts := ⟨ts⟩) (ty := ty) h hx
    exact .same hs hH h1 h2
  case max =>
    obtain ⟨hH, v', h1, h2⟩ := max_ok (P := P) (w := w) (ts := ⟨ts⟩) (ty := ty) h hx
    exact .same hs hH h1 h2
  case append =>
    match ts, xs, h with
    | [t, u], [s, x], h =>
      obtain ⟨s', r, rfl, hs', hr'⟩ := hx.cons_left
      obtain ⟨x', r, rfl, hx', hr'⟩ := hr'.cons_left
      have := hr'.nil_left
      subst this
      simp only at h
      cases hd : descOf P t <;> simp only [hd] at h <;> try (cases h; done)
      rename_i e
      cases hu : descOf P u <;> simp only [hu] at h <;> try (cases h; done)
      · obtain ⟨hz, h⟩ := zyM_ok h
        exact .res (append_ok hs ⟨hd, hz e (by simp), .inr hu⟩ h hs' hx')
      · obtain ⟨hz, h⟩ := zyM_ok h
        exact .res (append_ok hs ⟨hd, hz e (by simp), .inl ⟨_, hu⟩⟩ h hs' hx')
  case copy =>
    match ts, xs, h with
    | [t, u], [s, x], h =>
      obtain ⟨s', r, rfl, hs', hr'⟩ := hx.cons_left
      obtain ⟨x', r, rfl, hx', hr'⟩ := hr'.cons_left
      have := hr'.nil_left
      subst this
      simp only at h
      cases hd : descOf P t <;> simp only [hd] at h <;> try (cases h; done)
      obtain ⟨ht, h⟩ := tyM_ok h
      exact .res (copy_ok hs hd (ht _ (by simp)) h hs' hx')
  case clear =>
    match ts, xs, h with
    | [t], [x], h =>
      obtain ⟨x', r, rfl, hx', hr'⟩ := hx.cons_left
      have := hr'.nil_left
      subst this
      simp only at h
      cases hd : descOf P t <;> simp only [hd] at h <;> try (cases h; done)
      · obtain ⟨ht, h⟩ := zyM_ok h
        exact .res (clear_ok hs hd (ht _ (by simp)) h hx')
      · exact .res (clearMap_ok hs hd h hx')
  case delete =>
    match ts, xs, h with
    | t :: tr, [m, k], h =>
      obtain ⟨m', r, rfl, hm', hr'⟩ := hx.cons_left
      obtain ⟨k', r, rfl, hk', hr'⟩ := hr'.cons_left
      have := hr'.nil_left
      subst this
      exact .res (delete_ok (t := t) hs (by simp) h hm' hk')
  case recover => exact absurd rfl hr

end
end Go.Abs
