import Derived.Test.YtpjkibffomknmaaGreatAbsOps2
/- Operations (III): lengths, slices of slices, conversions between strings and bytes. -/
namespace Go.Abs
open Go

section
variable {P : Program} {N : Nat} {μ : Mu} {H H' : Hp} {w : World} {v : Value}

theorem str_size (s : ByteArray) : s.size = s.data.toList.length := by show s.data.size = _; simp

theorem lenSl_ok {t e : TypeId} {ty : TypeId} {x x' : Value} (hd : descOf P t = .slice e) (h : lenSlM x H = .ok v H') (hx : VR μ x x') :
    H' = H ∧ (Builtin.len_ #[t] ty #[x']).run P w = .ok v w ∧ VR μ v v := by
  have hu := descOf_some hd (by simp)
  unfold lenSlM at h
  split at h
  · cases h
    refine ⟨rfl, ?_, .int _ _⟩
    cases hx <;> (simp [Builtin.len_, Sem.run_bind, run_underlying hu]; rfl)
  · cases h

theorem lenStr_ok {t : TypeId} {ty : TypeId} {x x' : Value} (hd : descOf P t = .string) (h : lenStrM x H = .ok v H') (hx : VR μ x x') :
    H' = H ∧ (Builtin.len_ #[t] ty #[x']).run P w = .ok v w ∧ VR μ v v := by
  have hu := descOf_some hd (by simp)
  unfold lenStrM at h
  split at h
  · cases h
    refine ⟨rfl, ?_, .int _ _⟩
    cases hx
    rename_i s
    have e := str_size s
    simp only [Builtin.len_, List.getElem?_toArray, List.getElem?_cons_zero, Sem.run_bind, run_underlying hu, Result.andThen_ok]
    rw [← e]
    rfl
  · cases h

theorem lenMap_ok (hs : SR P N μ H w) {t k e : TypeId} {ty : TypeId} {x x' : Value} (hd : descOf P t = .map k e) (h : lenMapM x H = .ok v H') (hx : VR μ x x') :
    H' = H ∧ (Builtin.len_ #[t] ty #[x']).run P w = .ok v w ∧ VR μ v v := by
  have hu := descOf_some hd (by simp)
  unfold lenMapM at h
  split at h
  · cases h
    refine ⟨rfl, ?_, .int _ _⟩
    cases hx
    simp [Builtin.len_, Sem.run_bind, run_underlying hu]; rfl
  · split at h
    · rename_i r _ es c hr
      cases h
      cases hx with
      | map hμ =>
        rename_i l
        obtain ⟨ob, h2, es', rfl, h4, h5⟩ := hs.dom r _ l hr hμ
        refine ⟨rfl, ?_, .int _ _⟩
        have hg : (getObj l.b).run P w = .ok (.map es' c) w := by simp [getObj, Sem.run, h2]
        have hl : es.length = es'.size := by have := h4.len; simpa using this
        simp [Builtin.len_, Sem.run_bind, run_underlying hu, hg, hl]; rfl
    · cases h
  · cases h

/-! ### slices -/
theorem natOf_VR {x x' : Value} {n : Nat} (h : natOf x = some n) (hx : VR μ x x') : ∃ k, x' = .int k (.ofNat n) := by
  unfold natOf at h
  split at h
  · cases h; cases hx; exact ⟨_, rfl⟩
  · cases h

theorem sliceBound_run {k : IntKind} {n y : Nat} {code : BoundsCode} (h : n ≤ y) (w : World) : (Instr.sliceBound (.int k (.ofNat n)) y code).run P w = .ok n w := by
  unfold Instr.sliceBound
  have hcond : (0 : Int) ≤ Int.ofNat n ∧ Int.ofNat n ≤ (y : Int) := ⟨Int.natCast_nonneg n, by show (n : Int) ≤ _; omega⟩
  simp only [asIntOf, pure_bind]
  rw [if_pos hcond]
  rfl

/-- optional bounds, related -/
def OptR (μ : Mu) : Option Value → Option Value → Prop
  | none, none => True
  | some a, some b => VR μ a b
  | _, _ => False

theorem bound_cases {o o' : Option Value} {d n : Nat} (h : boundL o d = some n) (ho : OptR μ o o') : (o = none ∧ o' = none ∧ n = d) ∨ (o ≠ none ∧ ∃ k, o' = some (.int k (.ofNat n))) := by
  cases o <;> cases o' <;> simp only [OptR] at ho
  · simp only [boundL, Option.some.injEq] at h; exact .inl ⟨rfl, rfl, h.symm⟩
  · obtain ⟨k, rfl⟩ := natOf_VR h ho
    exact .inr ⟨by simp, k, rfl⟩

theorem sliceBounds_run {isS : Bool} {len cap l u m : Nat} {lo hi mx lo' hi' mx' : Option Value} (hlo : OptR μ lo lo') (hhi : OptR μ hi hi') (hmx : OptR μ mx mx')
    (h1 : boundL lo 0 = some l) (h2 : boundL hi len = some u) (h3 : boundL mx cap = some m) (hmh : mx = none ∨ hi ≠ none) (h4 : l ≤ u) (h5 : u ≤ m ∨ hi = none) (h6 : m ≤ cap) (w : World) :
    (Instr.sliceBounds isS len cap lo' hi' mx').run P w = .ok (l, u, m) w := by
  have hsl : ∀ k code, (Instr.sliceBound (.int k (.ofNat l)) u code).run P w = .ok l w := fun k code => sliceBound_run h4 w
  have hsm : ∀ k code, (Instr.sliceBound (.int k (.ofNat m)) cap code).run P w = .ok m w := fun k code => sliceBound_run h6 w
  have hsu : hi ≠ none → ∀ k code, (Instr.sliceBound (.int k (.ofNat u)) m code).run P w = .ok u w := fun hn k code => sliceBound_run (h5.resolve_right hn) w
  rcases bound_cases h1 hlo with ⟨rfl, rfl, rfl⟩ | ⟨_, k1, rfl⟩ <;>
  rcases bound_cases h2 hhi with ⟨rfl, rfl, rfl⟩ | ⟨hn, k2, rfl⟩ <;>
  rcases bound_cases h3 hmx with ⟨rfl, rfl, rfl⟩ | ⟨hn3, k3, rfl⟩
  all_goals first
    | (exfalso; rcases hmh with h | h <;> first | exact hn3 h | exact h rfl; done)
    | (simp only [Instr.sliceBounds, Sem.run_bind, pure_bind, hsl, hsm, Result.andThen_ok]; rfl)
    | (have hsu := hsu hn; simp only [Instr.sliceBounds, Sem.run_bind, pure_bind, hsl, hsm, hsu, Result.andThen_ok]; rfl)

theorem addA_add (a : Addr) (n : Nat) (h : a.spot = none) : a.add n = addA a n := by
  obtain ⟨b, o, s⟩ := a
  simp only at h
  subst h
  rw [addr_add]
  cases n <;> rfl

theorem addA_mk (b o n : Nat) : addA ⟨b, o, none⟩ n = ⟨b, o + n, none⟩ := by cases n <;> rfl

theorem sliceStr_ok {t : TypeId} {x x' : Value} {lo hi lo' hi' : Option Value} (hd : descOf P t = .string) (h : sliceStrM x lo hi H = .ok v H') (hx : VR μ x x') (hlo : OptR μ lo lo') (hhi : OptR μ hi hi') :
    H' = H ∧ (Instr.sliceAt t x' lo' hi' none).run P w = .ok v w ∧ VR μ v v := by
  have hu := descOf_some hd (by simp)
  unfold sliceStrM at h
  split at h
  · rename_i s
    split at h
    · rename_i l u h1 h2
      split at h
      · rename_i hb
        simp only [Bool.and_eq_true] at hb
        have hb1 := Nat.le_of_ble_eq_true hb.1
        have hb2 := Nat.le_of_ble_eq_true hb.2
        cases h
        cases hx
        refine ⟨rfl, ?_, .string _⟩
        have hsz := str_size s
        have hsb := sliceBounds_run (P := P) (isS := false) (cap := s.size) (mx := none) (mx' := none) hlo hhi trivial h1 (by rw [hsz]; exact h2 : boundL hi s.size = some u) rfl (.inl rfl) hb1 (.inl (by omega)) (Nat.le_refl _) w
        unfold Instr.sliceAt
        simp only [Sem.run_bind, run_underlying hu, Result.andThen_ok]
        unfold Instr.slice
        simp only [Sem.run_bind, run_underlying hu, Result.andThen_ok, Option.isSome_none, Bool.false_eq_true, if_false, hsb]
        have e : s.extract l u = ⟨⟨(s.data.toList.take u).drop l⟩⟩ := by
          apply ByteArray.ext
          apply Array.ext'
          simp [List.extract_eq_take_drop, List.drop_take]
        rw [e]
        rfl
      · cases h
    · cases h
  · cases h

theorem capL_le {c c' : Nat} (h : CapR c c') : capL c ≤ c' := by
  unfold CapR at h
  unfold capL
  split
  · rename_i e
    rw [if_pos (Nat.le_of_ble_eq_true e)] at h
    exact h
  · rename_i e
    rw [if_neg (fun k => by rw [Nat.ble_eq_true_of_le k] at e; cases e)] at h
    omega

theorem capL_INX {c : Nat} (h : INX ≤ c) : capL c = c - INX := by unfold capL; rw [Nat.ble_eq_true_of_le h]
theorem capL_small {c : Nat} (h : ¬ INX ≤ c) : capL c = c := by
  unfold capL
  cases e : Nat.ble INX c with
  | true => exact absurd (Nat.le_of_ble_eq_true e) h
  | false => rfl
end
end Go.Abs
