import Derived.Test.YtpjkibffomknmaaGreatAbsMem2
/- Operations (II): addresses, parts, slices of what there is. -/
namespace Go.Abs
open Go

section
variable {P : Program} {N : Nat} {μ : Mu} {H H' : Hp} {w : World} {v : Value}

theorem nilCheck_run (P : Program) (w : World) {p p' : Value} (h : nilCheckM p H = .ok v H') (hp : VR μ p p') :
    H' = H ∧ VR μ v p' ∧ ∀ (ρ : Operand → Value) (x : Operand) (d : Option Tmp) (ty : TypeId) (pos : String) (af : Array Edge) (g : Option (Nat × Bool)), ρ x = p' →
      (execOp ρ ⟨d, .nilCheck x, ty, pos, af, g⟩).run P w = .ok (.value p') w := by
  unfold nilCheckM at h
  split at h
  · cases h
    refine ⟨rfl, hp, fun ρ x d ty pos af g e => ?_⟩
    cases hp
    simp only [execOp, e]; rfl
  · cases h
    refine ⟨rfl, hp, fun ρ x d ty pos af g e => ?_⟩
    cases hp with
    | func hf hl ha hm hc =>
      cases hf
      simp only [execOp, e]; rfl
  · cases h
    refine ⟨rfl, hp, fun ρ x d ty pos af g e => ?_⟩
    cases hp with
    | func hf hl ha hm hc =>
      cases hf
      simp only [execOp, e]; rfl
  · cases h
    refine ⟨rfl, hp, fun ρ x d ty pos af g e => ?_⟩
    cases hp
    simp only [execOp, e]; rfl
  · cases h

theorem addr_add (b o n : Nat) : (⟨b, o, none⟩ : Addr).add n = ⟨b, o + n, none⟩ := by unfold Addr.add; split <;> simp_all

theorem fieldAddr_ok {t : TypeId} {fs : Array Field} {f : Nat} {fd : Field} {p p' : Value} (hd : descOf P t = .struct fs) (hf : fs.toList[f]? = some fd) (hz : Nat.blt 0 (sizeT P fd.type) = true)
    (h : fieldAddrM fd.offset p H = .ok v H') (hp : VR μ p p') : H' = H ∧ ∃ v', (Instr.fieldAt t p' f).run P w = .ok v' w ∧ VR μ v v' := by
  unfold fieldAddrM at h
  split at h
  · cases h
    cases hp with
    | ptr hμ =>
      rename_i i o l
      refine ⟨rfl, .pointer (some ⟨l.b, l.base + o + fd.offset, none⟩), ?_, ?_⟩
      · have hu := descOf_some hd (by simp)
        have hf' : fs[f]? = some fd := by simpa using hf
        have hpos : 0 < sizeT P fd.type := by simpa [Nat.blt_eq] using hz
        have hinf : ∃ i, P.info? fd.type = some i := by
          cases hi : P.info? fd.type with
          | some i => exact ⟨i, rfl⟩
          | none => simp [sizeT, Program.cellsOf, hi] at hpos
        obtain ⟨ii, hi⟩ := hinf
        unfold Instr.fieldAt
        simp only [Sem.run_bind, run_underlying hu, Result.andThen_ok]
        rw [hf']
        simp only [Instr.sureAddr, pure_bind, fieldPlace, Sem.run_bind, run_sizeOf w hi, Result.andThen_ok]
        have hne : ¬ (P.cellsOf fd.type = 0) := by unfold sizeT at hpos; omega
        rw [if_neg hne, addr_add]
        rfl
      · have := VR.ptr (μ := μ) (off := o + fd.offset) hμ
        rwa [← Nat.add_assoc] at this
  · cases h

theorem toNat_ofNat' (n : Nat) : (Int.ofNat n).toNat = n := rfl

theorem elemAddr_ok (hs : SR P N μ H w) {t e : TypeId} {x x' ix ix' : Value} (hd : descOf P t = .slice e) (he : okT P e = true) (h : elemAddrM (sizeT P e) x ix H = .ok v H') (hx : VR μ x x') (hi : VR μ ix ix') :
    H' = H ∧ ∃ v', (Instr.indexAt t x' ix').run P w = .ok v' w ∧ VR μ v v' := by
  have hu := descOf_some hd (by simp)
  unfold elemAddrM at h
  split at h
  · rename_i i o len cap k n
    split at h
    · rename_i hlt
      have hlt : n < len := by simpa [Nat.blt_eq] using hlt
      cases h
      cases hi
      cases hx with
      | slice hμ hc hn ha hl =>
        rename_i l c' a'
        rcases ha with rfl | ⟨h0, _⟩
        · refine ⟨rfl, .pointer (some ⟨l.b, l.base + o + n * sizeT P e, none⟩), ?_, ?_⟩
          · unfold Instr.indexAt
            have hcond : (0 : Int) ≤ Int.ofNat n ∧ Int.ofNat n < (len : Int) := ⟨Int.natCast_nonneg n, by show (n : Int) < _; omega⟩
            simp only [asIntOf, pure_bind, Sem.run_bind, run_underlying hu, Result.andThen_ok]
            rw [if_pos hcond]
            simp only [Sem.run_bind, run_sizeT he, Result.andThen_ok, toNat_ofNat', addr_add]
            rfl
          · have := VR.ptr (μ := μ) (off := o + n * sizeT P e) hμ
            rwa [← Nat.add_assoc] at this
        · omega
    · cases h
  · cases h

theorem arrAddr_ok {t e : TypeId} {len : Nat} {x x' ix ix' : Value} (hd : descOf P t = .array len e) (he : okT P e = true) (h : arrAddrM len (sizeT P e) x ix H = .ok v H') (hx : VR μ x x') (hi : VR μ ix ix') :
    H' = H ∧ ∃ v', (Instr.indexAt t x' ix').run P w = .ok v' w ∧ VR μ v v' := by
  have hu := descOf_some hd (by simp)
  unfold arrAddrM at h
  split at h
  · rename_i i o k n
    split at h
    · rename_i hlt
      have hlt : n < len := by simpa [Nat.blt_eq] using hlt
      cases h
      cases hi
      cases hx with
      | ptr hμ =>
        rename_i l
        refine ⟨rfl, .pointer (some ⟨l.b, l.base + o + n * sizeT P e, none⟩), ?_, ?_⟩
        · unfold Instr.indexAt
          have hcond : (0 : Int) ≤ Int.ofNat n ∧ Int.ofNat n < (len : Int) := ⟨Int.natCast_nonneg n, by show (n : Int) < _; omega⟩
          simp only [asIntOf, pure_bind, Sem.run_bind, run_underlying hu, Result.andThen_ok, Instr.sureAddr]
          rw [if_pos hcond]
          simp only [Sem.run_bind, run_sizeT he, Result.andThen_ok, toNat_ofNat', addr_add]
          rfl
        · have := VR.ptr (μ := μ) (off := o + n * sizeT P e) hμ
          rwa [← Nat.add_assoc] at this
    · cases h
  · cases h

theorem part_ok {t : TypeId} {off : Nat} {cs : Array Value} {cs' : Array Value} (ht : okT P t = true) (hc : LR μ cs.toList cs'.toList) (h : partL (aggT P t) (sizeT P t) off cs.toList = some v) :
    ∃ v', (part t cs' off).run P w = .ok v' w ∧ VR μ v v' := by
  unfold partL at h
  unfold part
  simp only [Sem.run_bind, run_aggT ht, Result.andThen_ok]
  cases ha : aggT P t with
  | true =>
    rw [ha] at h
    simp only at h
    split at h
    · rename_i hle
      cases h
      refine ⟨_, ?_, VR.agg' (a' := cs'.extract off (off + sizeT P t)) ?_⟩
      · simp only [if_true, Sem.run_bind, run_sizeT ht, Result.andThen_ok]; rfl
      · have := (hc.drop off).take (sizeT P t)
        simpa [List.extract_eq_take_drop] using this
    · cases h
  | false =>
    rw [ha] at h
    simp only at h
    obtain ⟨b, hb, hr⟩ := hc.get? h
    refine ⟨b, ?_, hr⟩
    have : cs'[off]? = some b := by simpa using hb
    simp only [if_false, Bool.false_eq_true, this]
    rfl

theorem field_ok {t : TypeId} {fs : Array Field} {f : Nat} {fd : Field} {x x' : Value} (hd : descOf P t = .struct fs) (hf : fs.toList[f]? = some fd) (ht : okT P fd.type = true)
    (h : fieldM (aggT P fd.type) (sizeT P fd.type) fd.offset x H = .ok v H') (hx : VR μ x x') : H' = H ∧ ∃ v', (Instr.field t x' f).run P w = .ok v' w ∧ VR μ v v' := by
  have hu := descOf_some hd (by simp)
  unfold fieldM at h
  split at h
  · rename_i cs
    split at h
    · rename_i v0 hv
      cases h
      obtain ⟨cs', rfl, hc⟩ := hx.agg_inv
      obtain ⟨v', h1, h2⟩ := part_ok (w := w) ht hc hv
      refine ⟨rfl, v', ?_, h2⟩
      have hf' : fs[f]? = some fd := by simpa using hf
      unfold Instr.field
      simp only [Sem.run_bind, run_underlying hu, Result.andThen_ok]
      rw [hf']
      simp only [asAgg, pure_bind]
      exact h1
    · cases h
  · cases h

theorem index_ok {t e : TypeId} {len : Nat} {x x' ix ix' : Value} (hd : descOf P t = .array len e) (he : okT P e = true) (h : indexM len (aggT P e) (sizeT P e) x ix H = .ok v H') (hx : VR μ x x') (hi : VR μ ix ix') :
    H' = H ∧ ∃ v', (Instr.index t x' ix').run P w = .ok v' w ∧ VR μ v v' := by
  have hu := descOf_some hd (by simp)
  unfold indexM at h
  split at h
  · rename_i cs k n
    split at h
    · rename_i hlt
      have hlt : n < len := by simpa [Nat.blt_eq] using hlt
      split at h
      · rename_i v0 hv
        cases h
        cases hi
        obtain ⟨cs', rfl, hc⟩ := hx.agg_inv
        obtain ⟨v', h1, h2⟩ := part_ok (w := w) he hc hv
        refine ⟨rfl, v', ?_, h2⟩
        have hcond : (0 : Int) ≤ Int.ofNat n ∧ Int.ofNat n < (len : Int) := ⟨Int.natCast_nonneg n, by show (n : Int) < _; omega⟩
        unfold Instr.index
        simp only [asIntOf, pure_bind, Sem.run_bind, run_underlying hu, Result.andThen_ok]
        rw [if_pos hcond]
        simp only [Sem.run_bind, run_sizeT he, Result.andThen_ok, toNat_ofNat']
        exact h1
      · cases h
    · cases h
  · cases h

theorem indexStr_ok {t : TypeId} {x x' ix ix' : Value} (hd : descOf P t = .string) (h : indexStrM x ix H = .ok v H') (hx : VR μ x x') (hi : VR μ ix ix') :
    H' = H ∧ (Instr.index t x' ix').run P w = .ok v w ∧ VR μ v v := by
  have hu := descOf_some hd (by simp)
  unfold indexStrM at h
  split at h
  · rename_i s k n
    split at h
    · rename_i b hb
      cases h
      cases hi
      cases hx
      refine ⟨rfl, ?_, .int _ _⟩
      unfold Instr.index
      have hcond : (0 : Int) ≤ Int.ofNat n := Int.natCast_nonneg n
      simp only [asIntOf, pure_bind, Sem.run_bind, run_underlying hu, Result.andThen_ok]
      rw [if_pos hcond]
      have : s[(Int.ofNat n).toNat]? = some b := by
        rw [toNat_ofNat']
        obtain ⟨hl, he⟩ := List.getElem?_eq_some_iff.1 hb
        have hsz : s.size = s.data.toList.length := by show s.data.size = _; simp
        rw [getElem?_pos s n (by rw [hsz]; exact hl)]
        rw [← he]
        rfl
      rw [this]
      rfl
    · cases h
  · cases h

theorem extract_ok {x x' : Value} {i : Nat} (h : extractM x i H = .ok v H') (hx : VR μ x x') : H' = H ∧ ∃ v', (Instr.extract x' i).run P w = .ok v' w ∧ VR μ v v' := by
  unfold extractM at h
  split at h
  · rename_i vs
    split at h
    · rename_i v0 hv
      cases h
      cases hx with
      | undef => simp at hv
      | tuple hl ha =>
        rename_i a'
        obtain ⟨b, hb, hr⟩ := L2.get? (r := VR μ) ⟨hl, ha⟩ hv
        have : a'[i]? = some b := by simpa using hb
        refine ⟨rfl, b, ?_, hr⟩
        unfold Instr.extract
        simp only [this]
        rfl
    · cases h
  · cases h
end
end Go.Abs
