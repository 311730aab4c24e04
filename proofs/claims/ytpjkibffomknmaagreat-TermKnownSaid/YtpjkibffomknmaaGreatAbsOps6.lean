import Derived.Test.YtpjkibffomknmaaGreatAbsApp
/- Operations (VI): copy, clear, least and greatest, type assertions. -/
namespace Go.Abs
open Go

section
variable {P : Program} {N : Nat} {μ : Mu} {H H' : Hp} {w : World} {v : Value}

theorem min_comm' (a b : Nat) : Nat.min a b = min a b := rfl

theorem copy_run {t u e ty : TypeId} {base' : Option Addr} {len c' n : Nat} {x x' : Value} {cells : List Value} {w' : World} (hd : descOf P t = .slice e) (he : okT P e = true) (hn : lenV x = some n) (hx : VR μ x x')
    (hc : (Builtin.firstCells (sizeT P e) (min n len) x').run P w = .ok ⟨cells⟩ w) (hst : ∀ a, base' = some a → (storeCells a cells).run P w = .ok () w') (hnone : base' = none → w' = w) :
    (Builtin.copy_ #[t, u] ty #[.slice base' len c', x']).run P w = .ok (.int .i64 (min n len : Nat)) w' := by
  have hu := descOf_some hd (by simp)
  have hl := lenV_run (P := P) hn hx w
  have hc' : (Builtin.firstCells (sizeT P e) (Nat.min n len) x').run P w = .ok ⟨cells⟩ w := hc
  unfold Builtin.copy_
  simp only [List.getElem?_toArray, List.getElem?_cons_zero, List.getElem?_cons_succ, Sem.run_bind, run_underlying hu, Result.andThen_ok, hl, run_sizeT he, hc']
  cases base' with
  | none => rw [hnone rfl]; rfl
  | some a =>
    simp only [Sem.run_bind, hst a rfl, Result.andThen_ok]
    rfl

theorem copy_ok (hs : SR P N μ H w) {t u e ty : TypeId} {d d' x x' : Value} (hd : descOf P t = .slice e) (he : okT P e = true) (h : copyM (sizeT P e) d x H = .ok v H') (hD : VR μ d d') (hx : VR μ x x') :
    Res P N μ H w v H' ((Builtin.copy_ #[t, u] ty #[d', x']).run P w) := by
  unfold copyM at h
  split at h
  · rename_i base len cap n hn
    split at h
    · -- nothing
      rename_i hm
      cases h
      have hz : (Builtin.firstCells (sizeT P e) (min n len) x').run P w = .ok ⟨[]⟩ w := by rw [hm]; exact first_zero hn hx w
      have key : ∀ base' c', d' = .slice base' len c' → (Builtin.copy_ #[t, u] ty #[d', x']).run P w = .ok (.int .i64 0) w := by
        rintro base' c' rfl
        have := copy_run (P := P) (u := u) (ty := ty) (base' := base') (c' := c') (w' := w) hd he hn hx hz (fun a _ => rfl) (fun _ => rfl)
        rw [hm] at this
        exact this
      cases hD with
      | nilslice n c hc hn' => exact .same' hs (key _ _ rfl) (.int _ _)
      | slice hμ hc hn' ha' hl => exact .same' hs (key _ _ rfl) (.int _ _)
    · rename_i m hm
      split at h
      · rename_i xs i off hxs
        split at h
        · rename_i vs esz hi
          split at h
          · rename_i hle
            simp only [Bool.and_eq_true] at hle
            have hle1 : off + (m + 1) * sizeT P e ≤ vs.length := Nat.le_of_ble_eq_true hle.1
            cases h
            obtain ⟨xs', hfx, hLx⟩ := cells_ok hs hxs hx
            have hxl : xs.length = (m + 1) * sizeT P e := cellsM_length hxs
            cases hD with
            | slice hμ hc hn' ha' hl =>
              rename_i l c' a'
              have hpos : 0 < c' := by
                have : min n len = m + 1 := hm
                omega
              have ha'' : a' = ⟨l.b, l.base + off, none⟩ := by
                rcases ha' with h | ⟨h0, _⟩
                · exact h
                · omega
              subst ha''
              obtain ⟨w', _, hst, hsr, htr⟩ := hs.write hi hμ (off := off) (by rw [hxl]; exact hle1) hLx hle.2
              refine ⟨.int .i64 ((m + 1 : Nat) : Int), w', μ, ?_, .int _ _, hsr, htr⟩
              have := copy_run (P := P) (u := u) (ty := ty) (base' := some ⟨l.b, l.base + off, none⟩) (len := len) (c' := c') (w' := w') hd he hn hx (by rw [hm]; exact hfx) (fun a e => by cases e; exact hst) (fun e => by cases e)
              rw [hm] at this
              exact this
          · cases h
        · cases h
      · cases h
  · cases h

theorem clear_ok (hs : SR P N μ H w) {t e ty : TypeId} {x x' : Value} (hd : descOf P t = .slice e) (he : okZ P e = true) (h : clearM (sizeT P e) (zeroCellsT P e) x H = .ok v H') (hx : VR μ x x') :
    Res P N μ H w v H' ((Builtin.clear_ #[t] ty #[x']).run P w) := by
  have hu := descOf_some hd (by simp)
  obtain ⟨hok, z, _, h2, h3, h4, h5, h6⟩ := okZ_spec he
  unfold clearM at h
  split at h
  · cases h
    have key : ∀ a c, x' = .slice a 0 c → (Builtin.clear_ #[t] ty #[x']).run P w = .ok (.tuple #[]) w := by
      rintro a c rfl
      unfold Builtin.clear_
      simp only [List.getElem?_toArray, List.getElem?_cons_zero, Sem.run_bind, run_underlying hu, Result.andThen_ok]
      cases a <;> rfl
    cases hx with
    | nilslice n c hc hn' => exact .same' hs (key _ _ rfl) (.undef _)
    | slice hμ hc hn' ha' hl => exact .same' hs (key _ _ rfl) (.undef _)
  · rename_i i off n cap hn0
    split at h
    · rename_i vs esz hi
      split at h
      · rename_i hb
        simp only [Bool.and_eq_true] at hb
        have hb1 := Nat.le_of_ble_eq_true hb.1
        have hb2 := Nat.eq_of_beq_eq_true hb.2.1
        cases h
        cases hx with
        | slice hμ hc hn' ha' hl =>
          rename_i l c' a'
          have hnpos : 0 < n := Nat.pos_of_ne_zero (fun e => by first | exact hn0 e | (subst e; exact hn0 rfl))
          have ha'' : a' = ⟨l.b, l.base + off, none⟩ := by
            rcases ha' with h | ⟨h0, _⟩
            · exact h
            · omega
          subst ha''
          have hz := (h5.VR μ).cells h6
          rw [← h3] at hz
          have hone : (rep (zeroCellsT P e) n).all one = true := by
            rw [List.all_eq_true]
            intro y hy
            have : ∀ k, y ∈ rep (zeroCellsT P e) k → y ∈ zeroCellsT P e := by
              intro k
              induction k with
              | zero => intro h; cases h
              | succ k ih => intro h; rcases List.mem_append.1 h with h | h
                             · exact h
                             · exact ih h
            have hall := hb.2.2
            rw [List.all_eq_true] at hall
            exact hall y (this n hy)
          obtain ⟨w', _, hst, hsr, htr⟩ := hs.write hi hμ (off := off) (by rw [rep_length, hb2]; exact hb1) (rep_LR hz n) hone
          refine ⟨.tuple #[], w', μ, ?_, .undef _, hsr, htr⟩
          unfold Builtin.clear_
          obtain ⟨n1, rfl⟩ : ∃ n1, n = n1 + 1 := ⟨n - 1, by omega⟩
          simp only [List.getElem?_toArray, List.getElem?_cons_zero, Sem.run_bind, run_underlying hu, Result.andThen_ok, h2]
          have hzc : (Builtin.zeroCells z.cells (n1 + 1)).toList = rep (zeroCellsT P e) (n1 + 1) := by
            unfold Builtin.zeroCells
            rw [zeros_eq z.cells (n1 + 1) z.cells.size Array.length_toList, h3]
          rw [hzc, hst]
          rfl
      · cases h
    · cases h
  · cases h

theorem clearMap_ok (hs : SR P N μ H w) {t k e ty : TypeId} {x x' : Value} (hd : descOf P t = .map k e) (h : clearMapM x H = .ok v H') (hx : VR μ x x') :
    Res P N μ H w v H' ((Builtin.clear_ #[t] ty #[x']).run P w) := by
  have hu := descOf_some hd (by simp)
  unfold clearMapM at h
  split at h
  · cases h
    cases hx
    refine .same' hs ?_ (.undef (.tuple #[]))
    unfold Builtin.clear_
    simp only [List.getElem?_toArray, List.getElem?_cons_zero, Sem.run_bind, run_underlying hu, Result.andThen_ok]
    rfl
  · rename_i r
    split at h
    · rename_i es c hr
      cases h
      cases hx with
      | map hμ =>
        rename_i l
        obtain ⟨ob, h2, es', rfl, h4, h5⟩ := hs.dom r _ l hr hμ
        have hp := hs.put (o' := .map [] c) (ob' := .map #[] c) hr rfl hμ ⟨#[], rfl, .nil, h5⟩
        refine ⟨.tuple #[], _, μ, ?_, .undef _, hp.1, hp.2⟩
        unfold Builtin.clear_
        have hg : (getObj l.b).run P w = .ok (.map es' c) w := by simp [getObj, Sem.run, h2]
        have hset : (setObj l.b (.map #[] c)).run P w = .ok () (wput w l.b (.map #[] c)) := by simp [setObj, Sem.run, h2, wput]
        simp only [List.getElem?_toArray, List.getElem?_cons_zero, Sem.run_bind, run_underlying hu, Result.andThen_ok, hg, hset]
        rfl
    · cases h
  · cases h

theorem typeAssert_ok {t xT : TypeId} {x x' z : Value} (hd : ∀ ms, descOf P t ≠ .interface ms) (hz : okZ P t = true) (h : typeAssertM t (zeroT P t) x H = .ok v H') (hx : VR μ x x') :
    H' = H ∧ ∃ v', (Instr.typeAssert x' xT t true).run P w = .ok v' w ∧ VR μ v v' := by
  obtain ⟨hok, z, hz1, hz2, hz3, hz4, hz5, hz6⟩ := okZ_spec hz
  obtain ⟨i, d, hi, hu⟩ := okT_iff hok
  rw [hz1] at h
  have hdd : descOf P t = d := descOf_eq hu
  have hne : ∀ ms, d ≠ .interface ms := fun ms e => hd ms (by rw [hdd, e])
  unfold typeAssertM at h
  split at h
  · rename_i u v0 z' e
    cases e
    cases hx with
    | iface hv =>
      rename_i v'
      split at h
      · rename_i hb
        have hb := Nat.eq_of_beq_eq_true hb
        subst hb
        cases h
        refine ⟨rfl, .tuple #[v', .bool true], ?_, .tuple' (.cons hv (.cons (.bool _) .nil))⟩
        unfold Instr.typeAssert
        simp only [Sem.run_bind, run_underlying hu, Result.andThen_ok]
        cases d <;> first | (exact absurd rfl (hne _)) | (simp only [if_true]; rfl)
      · rename_i hb
        cases h
        have hb : u ≠ t := fun e => by subst e; rw [Nat.beq_refl] at hb; cases hb
        refine ⟨rfl, .tuple #[z, .bool false], ?_, .tuple' (.cons (hz5.VR μ) (.cons (.bool _) .nil))⟩
        unfold Instr.typeAssert
        simp only [Sem.run_bind, run_underlying hu, Result.andThen_ok]
        cases d <;> first | (exact absurd rfl (hne _)) | (simp only [hb, if_false, if_true, Sem.run_bind, hz2, Result.andThen_ok]; rfl)
  · rename_i z' e
    cases e
    cases hx
    cases h
    refine ⟨rfl, .tuple #[z, .bool false], ?_, .tuple' (.cons (hz5.VR μ) (.cons (.bool _) .nil))⟩
    unfold Instr.typeAssert
    simp only [Sem.run_bind, run_underlying hu, Result.andThen_ok]
    cases d <;> first | (exact absurd rfl (hne _)) | (simp only [if_true, Sem.run_bind, hz2, Result.andThen_ok]; rfl)
  · cases h

theorem panic_ok {x x' : Value} (h : panicM x H = .pan v H') (hx : VR μ x x') : H' = H ∧ (∃ t u u', v = .iface t u ∧ x' = .iface t u' ∧ VR μ v x') ∧ (Instr.panic x').run P w = .halt (.panic x') w := by
  unfold panicM at h
  split at h
  · cases h
    cases hx with
    | iface hv => exact ⟨rfl, ⟨_, _, _, rfl, rfl, .iface hv⟩, rfl⟩
  · cases h
theorem panic_not {x : Value} : panicM x H ≠ .ok v H' := by unfold panicM; split <;> simp

theorem min2_ok {a b a' b' c : Value} (h : min2 a b = some c) (ha : VR μ a a') (hb : VR μ b b') (w : World) : (Builtin.min2 a' b').run P w = .ok c w ∧ VR μ c c := by
  unfold min2 at h
  split at h
  · split at h
    · rename_i e
      simp only [decide_eq_true_eq] at e
      subst e
      cases h
      cases ha; cases hb
      exact ⟨rfl, .int _ _⟩
    · cases h
  · cases h
theorem max2_ok {a b a' b' c : Value} (h : max2 a b = some c) (ha : VR μ a a') (hb : VR μ b b') (w : World) : (Builtin.max2 a' b').run P w = .ok c w ∧ VR μ c c := by
  unfold max2 at h
  split at h
  · split at h
    · rename_i e
      simp only [decide_eq_true_eq] at e
      subst e
      cases h
      cases ha; cases hb
      exact ⟨rfl, .int _ _⟩
    · cases h
  · cases h

theorem fold_ok {f : Value → Value → Option Value} {g : Value → Value → Sem Value} (hf : ∀ (a b a' b' c : Value) (w : World), f a b = some c → VR μ a a' → VR μ b b' → (g a' b').run P w = .ok c w ∧ VR μ c c) :
    ∀ (l l' : List Value) (a a' r : Value) (w : World), foldV f a l = some r → VR μ a a' → LR μ l l' → ∃ r', (l'.foldlM g a').run P w = .ok r' w ∧ VR μ r r'
  | [], l', a, a', r, w, h, ha, hl => by
    rw [hl.nil_left]
    cases h
    exact ⟨a', rfl, ha⟩
  | b :: l, l', a, a', r, w, h, ha, hl => by
    obtain ⟨b', t, rfl, hb, ht⟩ := hl.cons_left
    unfold foldV at h
    split at h
    · rename_i c hc
      obtain ⟨h1, h2⟩ := hf a b a' b' c w hc ha hb
      obtain ⟨r', h3, h4⟩ := fold_ok hf l t c c r w h h2 ht
      refine ⟨r', ?_, h4⟩
      simp only [List.foldlM_cons, Sem.run_bind, h1, Result.andThen_ok]
      exact h3
    · cases h
end
end Go.Abs
