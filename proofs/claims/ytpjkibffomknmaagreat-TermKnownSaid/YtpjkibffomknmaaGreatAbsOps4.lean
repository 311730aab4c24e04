import Derived.Test.YtpjkibffomknmaaGreatAbsOps3
/- Operations (IV): slices of slices and of arrays; strings and bytes; append, copy, clear. -/
namespace Go.Abs
open Go

section
variable {P : Program} {N : Nat} {μ : Mu} {H H' : Hp} {w : World} {v : Value}

theorem boundL_mx {mx : Option Value} {m cap : Nat} (h : mx = none ∧ m = cap ∨ ∃ x, mx = some x ∧ natOf x = some m) : boundL mx cap = some m := by
  rcases h with ⟨rfl, rfl⟩ | ⟨x, rfl, h⟩
  · rfl
  · exact h

theorem slice_run {t e : TypeId} {a' : Option Addr} {len c' l u m : Nat} {lo hi mx lo' hi' mx' : Option Value} (hd : descOf P t = .slice e) (he : okT P e = true)
    (hlo : OptR μ lo lo') (hhi : OptR μ hi hi') (hmx : OptR μ mx mx') (h1 : boundL lo 0 = some l) (h2 : boundL hi len = some u) (h3 : boundL mx c' = some m) (hmh : mx = none ∨ hi ≠ none)
    (h4 : l ≤ u) (h5 : u ≤ m) (h6 : m ≤ c') (w : World) :
    (Instr.sliceAt t (.slice a' len c') lo' hi' mx').run P w = .ok (.slice (if m = l then a' else a'.map (·.add (l * sizeT P e))) (u - l) (m - l)) w := by
  have hu := descOf_some hd (by simp)
  have hsb := sliceBounds_run (P := P) (isS := true) hlo hhi hmx h1 h2 h3 hmh h4 (.inl h5) h6 w
  unfold Instr.sliceAt
  simp only [Sem.run_bind, run_underlying hu, Result.andThen_ok]
  unfold Instr.slice
  simp only [Sem.run_bind, run_underlying hu, Result.andThen_ok, hsb, run_sizeT he]
  rfl

theorem sliceSl_ok (hs : SR P N μ H w) {t e : TypeId} {x x' : Value} {lo hi mx lo' hi' mx' : Option Value} (hd : descOf P t = .slice e) (he : okT P e = true)
    (h : sliceSlM (sizeT P e) x lo hi mx H = .ok v H') (hx : VR μ x x') (hlo : OptR μ lo lo') (hhi : OptR μ hi hi') (hmx : OptR μ mx mx') :
    H' = H ∧ ∃ v', (Instr.sliceAt t x' lo' hi' mx').run P w = .ok v' w ∧ VR μ v v' := by
  unfold sliceSlM at h
  split at h
  · rename_i a len cap
    split at h
    · rename_i l u h1 h2
      split at h
      · -- a maximum
        rename_i m0
        split at h
        · rename_i m hi0 hm
          split at h
          · rename_i hb
            simp only [Bool.and_eq_true] at hb
            obtain ⟨hb1, hb2, hb3, hb4⟩ := hb
            have hb1 := Nat.le_of_ble_eq_true hb1
            have hb2 := Nat.le_of_ble_eq_true hb2
            have hb3 := Nat.le_of_ble_eq_true hb3
            have hb4 : m < INX := by simpa [Nat.blt_eq] using hb4
            cases h
            cases hx with
            | nilslice n c hc hn =>
              rw [capL_small (by omega)] at hb3
              refine ⟨rfl, _, slice_run hd he hlo hhi hmx h1 h2 hm (.inr (by simp)) hb1 hb2 hb3 w, ?_⟩
              have : (if m = l then (none : Option Addr) else Option.map (fun (x : Addr) => x.add (l * sizeT P e)) none) = none := by split <;> rfl
              rw [this]
              cases Nat.beq m l <;> exact .nilslice _ _ (by omega) (by omega)
            | slice hμ hc hn ha hl =>
              rename_i i off lc c' a'
              have hmc : m ≤ c' := Nat.le_trans hb3 (capL_le hc)
              refine ⟨rfl, _, slice_run hd he hlo hhi hmx h1 h2 hm (.inr (by simp)) hb1 hb2 hmc w, ?_⟩
              by_cases hml : m = l
              · rw [if_pos hml]
                have : Nat.beq m l = true := by rw [hml]; exact Nat.beq_refl l
                rw [this]
                refine .slice hμ (by unfold CapR; rw [if_neg (by omega)]) (by omega) (.inr ⟨by omega, ?_⟩) (fun k => by omega)
                rcases ha with rfl | ⟨_, h⟩
                · exact ⟨rfl, rfl⟩
                · exact h
              · rw [if_neg hml]
                have : Nat.beq m l = false := by
                  cases e : Nat.beq m l with
                  | true => exact absurd (Nat.eq_of_beq_eq_true e) hml
                  | false => rfl
                rw [this]
                rcases ha with rfl | ⟨h0, _⟩
                · simp only [Option.map_some, addA_mk, addr_add]
                  exact .slice hμ (by unfold CapR; rw [if_neg (by omega)]) (by omega) (.inl (by rw [Nat.add_assoc])) (fun k => by omega)
                · omega
          · cases h
        · cases h
      · -- no maximum
        split at h
        · rename_i hb
          simp only [Bool.and_eq_true] at hb
          have hb1 := Nat.le_of_ble_eq_true hb.1
          have hb2 := Nat.le_of_ble_eq_true hb.2
          cases hx with
          | nilslice n c hc hn =>
            have hble : Nat.ble INX cap = false := by
              cases e : Nat.ble INX cap with
              | true => have := Nat.le_of_ble_eq_true e; omega
              | false => rfl
            rw [hble] at h
            cases h
            rw [capL_small (by omega)] at hb2
            refine ⟨rfl, _, slice_run hd he hlo hhi hmx h1 h2 (boundL_mx (cap := cap) (.inl ⟨rfl, rfl⟩)) (.inl rfl) hb1 hb2 (Nat.le_refl _) w, ?_⟩
            have : (if cap = l then (none : Option Addr) else Option.map (fun (x : Addr) => x.add (l * sizeT P e)) none) = none := by split <;> rfl
            rw [this]
            cases Nat.beq cap l <;> exact .nilslice _ _ (by omega) (by omega)
          | slice hμ hc hn ha hl =>
            rename_i i off lc c' a'
            have huc : u ≤ c' := Nat.le_trans hb2 (capL_le hc)
            have hrun := slice_run (P := P) (a' := some a') hd he hlo hhi hmx h1 h2 (boundL_mx (cap := c') (.inl ⟨rfl, rfl⟩)) (.inl rfl) hb1 huc (Nat.le_refl _) w
            split at h
            · rename_i hI
              have hI := Nat.le_of_ble_eq_true hI
              split at h
              · rename_i z hz
                split at h
                · rename_i hzz
                  have hzz := Nat.eq_of_beq_eq_true hzz
                  cases h
                  refine ⟨rfl, _, hrun, ?_⟩
                  have hesz : lc.esz = sizeT P e := by
                    unfold eszOf at hz
                    simp only at hz
                    split at hz
                    · rename_i vs z' ro hi
                      cases hz
                      obtain ⟨_, _, _, _, _, _, _, _, h7⟩ := hs.cells hi hμ
                      omega
                    · cases hz
                  rw [capL_INX hI] at hb2
                  have hc' := hc
                  unfold CapR at hc'
                  rw [if_pos hI] at hc'
                  simp only [Option.map_some, addA_mk]
                  by_cases hcl : c' = l
                  · rw [if_pos hcl]
                    refine .slice hμ (by unfold CapR; rw [if_pos (by omega)]; omega) (by omega) (.inr ⟨by omega, ?_⟩) (fun _ k => by omega)
                    rcases ha with rfl | ⟨_, h⟩
                    · exact ⟨rfl, rfl⟩
                    · exact h
                  · rw [if_neg hcl]
                    rcases ha with rfl | ⟨h0, _⟩
                    · rw [addr_add]
                      refine .slice hμ (by unfold CapR; rw [if_pos (by omega)]; omega) (by omega) (.inl (by rw [Nat.add_assoc])) (fun _ _ => ?_)
                      have := hl hI (by omega)
                      rw [hesz] at this ⊢
                      have hm : (c' - l) * sizeT P e + l * sizeT P e = c' * sizeT P e := by rw [← Nat.add_mul]; congr 1; omega
                      omega
                    · omega
                · cases h
              · cases h
            · rename_i hI
              have hI : ¬ INX ≤ cap := fun k => by rw [Nat.ble_eq_true_of_le k] at hI; cases hI
              cases h
              refine ⟨rfl, _, hrun, ?_⟩
              unfold CapR at hc
              rw [if_neg hI] at hc
              subst hc
              by_cases hcl : c' = l
              · have : Nat.beq c' l = true := by rw [hcl]; exact Nat.beq_refl l
                rw [if_pos hcl, this]
                refine .slice hμ (by unfold CapR; rw [if_neg (by omega)]) (by omega) (.inr ⟨by omega, ?_⟩) (fun k => by omega)
                rcases ha with rfl | ⟨_, h⟩
                · exact ⟨rfl, rfl⟩
                · exact h
              · have : Nat.beq c' l = false := by
                  cases e : Nat.beq c' l with
                  | true => exact absurd (Nat.eq_of_beq_eq_true e) hcl
                  | false => rfl
                rw [if_neg hcl, this]
                rcases ha with rfl | ⟨h0, _⟩
                · simp only [Option.map_some, addA_mk, addr_add]
                  exact .slice hμ (by unfold CapR; rw [if_neg (by omega)]) (by omega) (.inl (by rw [Nat.add_assoc])) (fun k => by omega)
                · omega
        · cases h
    · cases h
  · cases h
end
end Go.Abs
