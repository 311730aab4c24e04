import Derived.Test.YtpjkibffomknmaaGreatAbsOps5
/- append, copy, clear. -/
namespace Go.Abs
open Go

theorem growBy_le (n : Nat) : ∀ (r c : Nat), c ≤ 2 * n + 1024 → Builtin.growBy n r c ≤ 2 * n + 1024
  | 0, c, h => h
  | r + 1, c, h => by
    unfold Builtin.growBy
    split
    · exact h
    · exact growBy_le n r _ (by omega)

theorem nextcap_le {need cap : Nat} (h : cap < need) : Builtin.nextslicecap need cap ≤ 2 * need + 1024 := by
  unfold Builtin.nextslicecap
  split
  · omega
  · split
    · omega
    · exact growBy_le need 4 cap (by omega)

section
variable {P : Program} {N : Nat} {μ : Mu} {H H' : Hp} {w : World} {v : Value}

theorem lenV_run {x x' : Value} {n : Nat} (h : lenV x = some n) (hx : VR μ x x') (w : World) : (Builtin.lenOf x').run P w = .ok n w := by
  unfold lenV at h
  split at h
  · cases h; cases hx <;> rfl
  · cases h
    cases hx
    rename_i s
    show Result.ok s.size w = _
    rw [str_size]
  · cases h

theorem first_zero {size n : Nat} {x x' : Value} (h : lenV x = some n) (hx : VR μ x x') (w : World) : (Builtin.firstCells size 0 x').run P w = .ok #[] w := by
  unfold lenV at h
  split at h
  · cases hx
    · rfl
    · unfold Builtin.firstCells
      simp only [Nat.zero_mul]
      rfl
  · cases hx
    rename_i s
    unfold Builtin.firstCells
    show Result.ok _ w = _
    congr 1
    apply Array.ext'
    simp
  · cases h

/-- the arguments of an append that is none of `make` -/
def AppArgs (P : Program) (t u e : TypeId) : Prop := descOf P t = .slice e ∧ okZ P e = true ∧ ((∃ f, descOf P u = .slice f) ∨ descOf P u = .string)

theorem pure_run {α : Type} (P : Program) (a : α) (w : World) : (pure a : Sem α).run P w = .ok a w := rfl

theorem app_inplace {t u e ty : TypeId} {base' : Option Addr} {len c' n : Nat} {x x' : Value} {new : Array Value} {w' : World} (ha : AppArgs P t u e) (hn : lenV x = some n) (hx : VR μ x x')
    (hle : len + n ≤ c') (hnew : (Builtin.firstCells (sizeT P e) n x').run P w = .ok new w)
    (hst : ∀ a, base' = some a → (storeCells (a.add (len * sizeT P e)) new.toList).run P w = .ok () w') (hnone : base' = none → w' = w) :
    (Builtin.append_ #[t, u] ty #[.slice base' len c', x']).run P w = .ok (.slice base' (len + n) c') w' := by
  obtain ⟨h1, h2, h3⟩ := ha
  have hu := descOf_some h1 (by simp)
  have hok := (okZ_spec h2).1
  have hl := lenV_run (P := P) hn hx w
  unfold Builtin.append_
  rcases h3 with ⟨f, h3⟩ | h3
  all_goals
    (have hu2 := descOf_some h3 (by simp)
     simp only [List.getElem?_toArray, List.getElem?_cons_zero, List.getElem?_cons_succ, Sem.run_bind, run_underlying hu, run_underlying hu2, Result.andThen_ok, run_sizeT hok, pure_run, Bool.false_eq_true, if_false, hl]
     rw [if_pos hle]
     simp only [Bool.not_false, if_true, Sem.run_bind, hnew, Result.andThen_ok]
     cases base' with
     | none => rw [hnone rfl]; rfl
     | some a =>
       simp only [Sem.run_bind, hst a rfl, Result.andThen_ok]
       rfl)

theorem app_grow {t u e ty : TypeId} {base' : Option Addr} {len c' n : Nat} {x x' : Value} {old new : List Value} (ha : AppArgs P t u e) (hn : lenV x = some n) (hx : VR μ x x')
    (hgt : c' < len + n) (hb : (2 * (len + n) + 1024) * (bytesT P e + 1) ≤ 2 ^ 47) (hold : (Builtin.firstCells (sizeT P e) len (.slice base' len c')).run P w.drew = .ok ⟨old⟩ w.drew)
    (hnew : (Builtin.firstCells (sizeT P e) n x').run P w.drew = .ok ⟨new⟩ w.drew) :
    ∃ newCap rest, len + n ≤ newCap ∧ rest.length = (newCap - (len + n)) * sizeT P e ∧
      (Builtin.append_ #[t, u] ty #[.slice base' len c', x']).run P w = .ok (.slice (some ⟨w.heap.size, 0, none⟩) (len + n) newCap) (w.drew.alloc (.cells ⟨(old ++ new) ++ rest⟩ e)) := by
  obtain ⟨h1, h2, h3⟩ := ha
  have hu := descOf_some h1 (by simp)
  obtain ⟨hok, z, _, hz2, hz3, hz4, _, _⟩ := okZ_spec h2
  obtain ⟨i, d, hi, _⟩ := okT_iff hok
  have hby : bytesT P e = i.bytes := by simp [bytesT, Program.bytesOf, hi]
  have h47 : (2 : Nat) ^ 47 = 140737488355328 := by decide
  have h48 : (2 : Nat) ^ 48 = 281474976710656 := by decide
  have hl := lenV_run (P := P) hn hx w
  generalize hcap : (Question.appendCap (len + n) c' e).cut (w.tape w.drawn (Question.appendCap (len + n) c' e)) = newCap
  have hle : len + n ≤ newCap := by rw [← hcap]; simp [Question.cut]
  have hch : (choose (.appendCap (len + n) c' e)).run P w = .ok newCap w.drew := by
    rw [run_choose_drew]
    simp only [Question.forced, Bool.false_eq_true, if_false, hcap]
  have hnc := nextcap_le (need := len + n) (cap := c') hgt
  have hmul : Builtin.nextslicecap (len + n) c' * i.bytes ≤ 2 ^ 47 := by
    refine Nat.le_trans (Nat.mul_le_mul hnc (Nat.le_succ i.bytes)) ?_
    rw [hby] at hb
    exact hb
  have hsmall : len + n ≤ 2 ^ 47 := by
    refine Nat.le_trans ?_ hb
    refine Nat.le_trans ?_ (Nat.le_mul_of_pos_right _ (Nat.succ_pos _))
    omega
  refine ⟨newCap, (Builtin.zeroCells z.cells (newCap - (len + n))).toList, hle, ?_, ?_⟩
  · have e2 : z.cells.toList.length = z.cells.size := Array.length_toList
    have e4 : z.cells.size = sizeT P e := by omega
    simp only [Builtin.zeroCells, Array.toList_map, Array.toList_range, List.length_map, List.length_range, e4]
  · have e3 : IntKind.i64.max = 9223372036854775807 := by decide
    have hc1 : ¬ (((len + n : Nat) : Int) > IntKind.i64.max ∧ (False ∨ i.bytes = 0)) := by rw [e3]; omega
    have hc2 : ¬ (Builtin.nextslicecap (len + n) c' * i.bytes > 2 ^ 48) := by omega
    unfold Builtin.append_
    rcases h3 with ⟨f, h3⟩ | h3
    all_goals
      (have hu2 := descOf_some h3 (by simp)
       simp only [List.getElem?_toArray, List.getElem?_cons_zero, List.getElem?_cons_succ, Sem.run_bind, run_underlying hu, run_underlying hu2, Result.andThen_ok, run_sizeT hok, pure_run, Bool.false_eq_true, if_false, hl]
       rw [if_neg (by omega)]
       simp only [Sem.run_bind, run_typeInfo _ hi, Result.andThen_ok]
       rw [if_neg hc1]
       simp only [Sem.run_bind, run_typeInfo _ hi, Result.andThen_ok]
       rw [if_neg hc2]
       simp only [Sem.run_bind, hch, run_typeInfo _ hi, Result.andThen_ok, askRoom_run, hold, Bool.not_false, if_true, hnew, hz2, newRow, run_newObj_alloc]
       have harr : ((⟨old⟩ : Array Value) ++ ⟨new⟩ ++ Builtin.zeroCells z.cells (newCap - (len + n))) = ⟨(old ++ new) ++ (Builtin.zeroCells z.cells (newCap - (len + n))).toList⟩ := by
         apply Array.ext'
         simp
       rw [harr]
       rfl)

theorem SR.drew_first (size n : Nat) (x' : Value) (w : World) (r : Array Value) (h : (Builtin.firstCells size n x').run P w = .ok r w) : (Builtin.firstCells size n x').run P w.drew = .ok r w.drew := by
  have hc : ∀ a, w.drew.cell? a = w.cell? a := fun _ => rfl
  have key : ∀ (a : Addr) (n i : Nat) (acc r : Array Value), (loadCellsFrom a i n acc).run P w = .ok r w → (loadCellsFrom a i n acc).run P w.drew = .ok r w.drew := by
    intro a n
    induction n with
    | zero =>
      intro i acc r h
      have : r = acc := by
        have h' : Result.ok acc w = Result.ok r w := h
        injection h' with h1 _
        exact h1.symm
      subst this; rfl
    | succ n ih =>
      intro i acc r h
      simp only [loadCellsFrom, Sem.run_bind, run_load] at h ⊢
      rw [hc]
      cases hcell : w.cell? (a.add i) with
      | some c =>
        rw [hcell] at h
        simp only [Result.andThen_ok] at h ⊢
        exact ih _ _ _ h
      | none =>
        rw [hcell] at h
        simp only at h ⊢
        have hfar : ∀ m, w.drew.farLoad P (a.add i) m = w.farLoad P (a.add i) m := fun _ => rfl
        rw [hfar]
        cases hf : w.farLoad P (a.add i) (Go.Mode.plain == Go.Mode.atomic) with
        | ok q =>
          rw [hf] at h
          simp only [Result.andThen_ok] at h ⊢
          exact ih _ _ _ h
        | error e =>
          rw [hf] at h
          simp [Result.andThen] at h
  unfold Builtin.firstCells at h ⊢
  cases x' with
  | slice a l c =>
    cases a with
    | none => 
      simp only at h ⊢
      have h' : Result.ok #[] w = Result.ok r w := h
      injection h' with h1 _
      subst h1; rfl
    | some a => exact key _ _ _ _ _ h
  | string s =>
    simp only at h ⊢
    have h' : Result.ok _ w = Result.ok r w := h
    injection h' with h1 _
    subst h1; rfl
  | _ => simp [stuck, Sem.run] at h

/-- a slice of a new row that has grown -/
theorem grown_VR {μ' : Mu} {l : Loc} {i len c' b lim size : Nat} (h : μ' i = some l) (hb : l.b = b) (h0 : l.base = 0) (hlim : l.lim = lim) (hz : l.esz = size) (hle : len ≤ c') (hl : c' * size ≤ lim) :
    VR μ' (.slice (some ⟨i, 0, none⟩) len (INX + len)) (.slice (some ⟨b, 0, none⟩) len c') := by
  have := VR.slice (μ := μ') (off := 0) (n := len) (c := INX + len) (c' := c') (a' := ⟨l.b, l.base + 0, none⟩) h (by unfold CapR; rw [if_pos (by omega)]; omega) hle (.inl rfl) (fun _ _ => by rw [h0, hz, hlim]; omega)
  rwa [addr_zero h0, hb] at this

theorem splice_end (a c : List Value) (b k m : Nat) (hk : b + k = m) (h : m + c.length ≤ a.length) : ((splice a m c).drop b).take (k + c.length) = (a.drop b).take k ++ c := by
  apply List.ext_getElem?
  intro j
  simp only [splice, List.getElem?_take, List.getElem?_drop, List.getElem?_append, List.length_take, List.length_drop, List.length_append]
  (repeat' split) <;> first | rfl | (exfalso; omega) | (congr 1; omega) | (symm; apply List.getElem?_eq_none; omega)

theorem cellsM_length {size n : Nat} {x : Value} {cs : List Value} (h : cellsM size n x H = some cs) : cs.length = n * size := by
  unfold cellsM at h
  split at h
  · split at h
    · cases h; simp
    · cases h
  · split at h
    · cases h; simp
    · split at h
      · split at h
        · rename_i hle
          simp only [Bool.and_eq_true] at hle
          have hle := Nat.le_of_ble_eq_true hle.1
          cases h
          simp only [List.length_take, List.length_drop]
          omega
        · cases h
      · cases h
  · split at h
    · rename_i hle
      simp only [Bool.and_eq_true] at hle
      have h1 := Nat.le_of_ble_eq_true hle.1
      have h2 := Nat.eq_of_beq_eq_true hle.2
      cases h
      simp only [List.length_map, List.length_take]
      rw [h2]; omega
    · cases h
  · cases h

theorem grow_len {a z cap size n : Nat} (h1 : a = n * size) (h2 : z = (cap - n) * size) (h3 : n ≤ cap) : cap * size ≤ a + z := by
  have : (cap - n) * size + n * size = cap * size := by rw [← Nat.add_mul]; congr 1; omega
  omega

theorem append_ok (hs : SR P N μ H w) {t u e ty : TypeId} {s s' x x' : Value} (ha : AppArgs P t u e) (h : appendM (sizeT P e) (bytesT P e) s x H = .ok v H') (hS : VR μ s s') (hx : VR μ x x') :
    Res P N μ H w v H' ((Builtin.append_ #[t, u] ty #[s', x']).run P w) := by
  unfold appendM at h
  split at h
  · rename_i base len cap n hn
    split at h
    · -- nothing is appended
      cases h
      have hrun : ∀ base' c', len ≤ c' → s' = .slice base' len c' → (Builtin.append_ #[t, u] ty #[s', x']).run P w = .ok s' w := by
        rintro base' c' hle rfl
        have := app_inplace (P := P) (ty := ty) (base' := base') (len := len) (c' := c') (w' := w) ha hn hx (by omega) (first_zero hn hx w) (fun a _ => rfl) (fun _ => rfl)
        simpa using this
      cases hS with
      | nilslice n c hc hn' => exact .same' hs (hrun none cap hn' rfl) (.nilslice len cap hc hn')
      | slice hμ hc hn' ha' hl => exact .same' hs (hrun _ _ hn' rfl) (.slice hμ hc hn' ha' hl)
    · rename_i n0
      split at h
      · rename_i xs hxs hble
        have hb := Nat.le_of_ble_eq_true hble
        obtain ⟨xs', hfx, hLx⟩ := cells_ok hs hxs hx
        have hfxd := SR.drew_first _ _ _ _ _ hfx
        have hxl : xs.length = (n0 + 1) * sizeT P e := cellsM_length hxs
        have hxl' : xs'.length = (n0 + 1) * sizeT P e := by rw [← hLx.len]; exact hxl
        split at h
        · -- onto nil
          split at h
          · cases h
            cases hS with
            | nilslice n c hc hn' =>
              have hl0 : len = 0 := by omega
              subst hl0
              obtain ⟨newCap, rest, h1, h2, h3⟩ := app_grow (P := P) (w := w) (ty := ty) (base' := none) (len := 0) (c' := 0) (old := []) (new := xs') ha hn hx (by omega) hb rfl hfxd
              obtain ⟨μ', l, m1, m2, m3, m4, m5, hle', hsr, htr⟩ := hs.drew.row (ty := e) (z := sizeT P e) hLx rest
              rw [List.nil_append] at h3
              refine ⟨_, _, μ', h3, ?_, hsr, (TR.drew μ H w).trans htr⟩
              exact grown_VR (len := 0 + (n0 + 1)) m1 m2 m3 m4 m5 h1 (by rw [List.length_append]; exact grow_len (a := xs'.length) hxl' (by rw [h2, Nat.zero_add]) (by omega))
          · cases h
        · -- onto a row
          rename_i i off
          split at h
          · rename_i vs esz ro hi
            cases hS with
            | slice hμ hc hn' ha' hl =>
              rename_i l c' a'
              split at h
              · -- there is room, for sure
                rename_i hroom
                have hroom := Nat.le_of_ble_eq_true hroom
                have hroom' : len + (n0 + 1) ≤ c' := Nat.le_trans hroom (capL_le hc)
                have ha'' : a' = ⟨l.b, l.base + off, none⟩ := by
                  rcases ha' with h | ⟨h0, _⟩
                  · exact h
                  · omega
                subst ha''
                split at h
                · rename_i hle
                  simp only [Bool.and_eq_true] at hle
                  have hle1 := Nat.le_of_ble_eq_true hle.1
                  cases h
                  have hm : (len + (n0 + 1)) * sizeT P e = len * sizeT P e + (n0 + 1) * sizeT P e := Nat.add_mul _ _ _
                  have hle1' : off + (len + (n0 + 1)) * sizeT P e ≤ vs.length := hle1
                  obtain ⟨w', _, hst, hsr, htr⟩ := hs.write hi hμ (off := off + len * sizeT P e) (by rw [hxl]; omega) hLx hle.2
                  refine ⟨.slice (some ⟨l.b, l.base + off, none⟩) (len + (n0 + 1)) c', w', μ, ?_, .slice hμ hc hroom' (.inl rfl) hl, hsr, htr⟩
                  refine app_inplace ha hn hx hroom' hfx (fun a e => ?_) (fun e => by cases e)
                  cases e
                  rw [addr_add, Nat.add_assoc]
                  exact hst
                · cases h
              · rename_i hroom
                have hroom : capL cap < len + (n0 + 1) := by
                  rcases Nat.lt_or_ge (capL cap) (len + (n0 + 1)) with k | k
                  · exact k
                  · rw [Nat.ble_eq_true_of_le k] at hroom; cases hroom
                split at h
                · -- it is not known whether there is room
                  rename_i hI
                  have hI := Nat.le_of_ble_eq_true hI
                  split at h
                  · rename_i hle
                    simp only [Bool.and_eq_true] at hle
                    have hle1 := Nat.eq_of_beq_eq_true hle.1
                    have hle2 := Nat.eq_of_beq_eq_true hle.2.1
                    have hone := hle.2.2
                    cases h
                    obtain ⟨arr, ty', fz, hbk, h3, h4, h5, h6, h7⟩ := hs.cells hi hμ
                    have hle1' : off + len * sizeT P e = vs.length := hle1
                    have hdl : (vs.drop off).length = len * sizeT P e := by rw [List.length_drop]; omega
                    by_cases hin : len + (n0 + 1) ≤ c'
                    · -- in place
                      have ha'' : a' = ⟨l.b, l.base + off, none⟩ := by
                        rcases ha' with h | ⟨h0, _⟩
                        · exact h
                        · omega
                      subst ha''
                      have hlim := hl hI (by omega)
                      have hm : (len + (n0 + 1)) * sizeT P e = len * sizeT P e + (n0 + 1) * sizeT P e := Nat.add_mul _ _ _
                      have hcm : (len + (n0 + 1)) * sizeT P e ≤ c' * sizeT P e := Nat.mul_le_mul_right _ hin
                      rw [h7, hle2] at hlim
                      have hsz : l.base + off + len * sizeT P e + xs'.length ≤ arr.toList.length := by
                        have : arr.toList.length = arr.size := Array.length_toList
                        rw [hxl']; omega
                      have hst := run_storeCells_put P l.b (l.base + off + len * sizeT P e) xs' 0 w arr ty' fz hbk (by simpa using hsz) (h6 rfl) (all_one_of_LR hLx hone)
                      rw [Nat.add_zero] at hst
                      have hl2 : (splice arr.toList (l.base + off + len * sizeT P e) xs').length = arr.toList.length := splice_length hsz
                      have hsz2 : (⟨splice arr.toList (l.base + off + len * sizeT P e) xs'⟩ : Array Value).size = arr.size := by
                        show (splice arr.toList (l.base + off + len * sizeT P e) xs').length = _
                        rw [hl2]; simp
                      have hle' := le_upd (hs.fresh H.size (Nat.le_refl _)).1 (⟨l.b, l.base + off, l.lim, sizeT P e⟩ : Loc)
                      have hrb := hs.rebind (o' := .cells (vs.drop off ++ xs) (sizeT P e) false) (l' := ⟨l.b, l.base + off, l.lim, sizeT P e⟩) (ob' := .cells ⟨splice arr.toList (l.base + off + len * sizeT P e) xs'⟩ ty' fz) hi rfl hμ rfl
                        ⟨_, ty', fz, rfl, by rw [hsz2]; exact h3, by
                          rw [hsz2, List.length_append, hdl, hxl]
                          show l.base + off + _ ≤ _
                          have : arr.toList.length = arr.size := Array.length_toList
                          rw [hxl'] at hsz; omega, by
                          show LR _ (vs.drop off ++ xs) (((splice arr.toList (l.base + off + len * sizeT P e) xs').drop (l.base + off)).take (vs.drop off ++ xs).length)
                          rw [List.length_append, hdl, hLx.len, splice_end _ _ (l.base + off) (len * sizeT P e) _ rfl hsz]
                          refine L2.append ?_ (hLx.mono hle')
                          have h8 := LR.mono hle' (h5.drop off)
                          rw [List.drop_take, List.drop_drop] at h8
                          have : vs.length - off = len * sizeT P e := by omega
                          rw [this] at h8
                          exact h8, fun _ o ho => by rw [hsz2] at ho; exact h6 rfl o ho, rfl⟩
                      refine ⟨.slice (some ⟨l.b, l.base + off, none⟩) (len + (n0 + 1)) c', _, _, ?_, ?_, hrb.1, hrb.2⟩
                      · refine app_inplace ha hn hx hin hfx (fun a e => ?_) (fun e => by cases e)
                        cases e
                        rw [addr_add]
                        exact hst
                      · have := VR.slice (μ := upd μ H.size ⟨l.b, l.base + off, l.lim, sizeT P e⟩) (off := 0) (n := len + (n0 + 1)) (c := INX + (len + (n0 + 1))) (c' := c') (a' := ⟨l.b, l.base + off + 0, none⟩) (upd_same _ _ _) (by unfold CapR; rw [if_pos (by omega)]; omega) hin (.inl rfl) (fun _ _ => by show l.base + off + 0 + c' * sizeT P e ≤ l.lim; omega)
                        simpa using this
                    · -- in a new row
                      have hkill := hs.kill (hs.get_lt hi) hμ
                      have hold : (Builtin.firstCells (sizeT P e) len (.slice (some a') len c')).run P w.drew = .ok ⟨(arr.toList.drop (l.base + off)).take (len * sizeT P e)⟩ w.drew := by
                        rcases ha' with rfl | ⟨h0, _⟩
                        · exact SR.drew_first _ _ _ _ _ (run_loadCells_part P hbk (l.base + off) (len * sizeT P e) (by omega))
                        · have hl0 : len = 0 := by omega
                          subst hl0
                          unfold Builtin.firstCells
                          simp only [Nat.zero_mul, List.take_zero]
                          rfl
                      obtain ⟨newCap, rest, h1, h2, hrun⟩ := app_grow (P := P) (w := w) (ty := ty) (base' := some a') (len := len) (c' := c') (new := xs') ha hn hx (by omega) hb hold hfxd
                      have hLo : LR μ (vs.drop off ++ xs) ((arr.toList.drop (l.base + off)).take (len * sizeT P e) ++ xs') := by
                        refine L2.append ?_ hLx
                        have h8 := h5.drop off
                        rw [List.drop_take, List.drop_drop] at h8
                        have : vs.length - off = len * sizeT P e := by omega
                        rw [this] at h8
                        exact h8
                      obtain ⟨μ', l2, m1, m2, m3, m4, m5, hle', hsr, htr⟩ := hkill.1.drew.row (ty := e) (z := sizeT P e) hLo rest
                      refine ⟨_, _, μ', hrun, ?_, hsr, (hkill.2.trans (TR.drew μ _ w)).trans htr⟩
                      refine grown_VR (len := len + (n0 + 1)) m1 m2 m3 m4 m5 h1 ?_
                      rw [List.length_append, ← hLo.len]
                      exact grow_len (n := len + (n0 + 1)) (by rw [List.length_append, hdl, hxl, Nat.add_mul len]) h2 h1
                  · cases h
                · -- there is none
                  rename_i hI
                  have hI : ¬ INX ≤ cap := fun k => by rw [Nat.ble_eq_true_of_le k] at hI; cases hI
                  have hc' := hc
                  unfold CapR at hc'
                  rw [if_neg hI] at hc'
                  subst hc'
                  rw [capL_small hI] at hroom
                  split at h
                  · rename_i hle
                    have hle : off + len * sizeT P e ≤ vs.length := Nat.le_of_ble_eq_true hle
                    cases h
                    obtain ⟨arr, ty', fz, hbk, h3, h4, h5, h6, h7⟩ := hs.cells hi hμ
                    have hold : (Builtin.firstCells (sizeT P e) len (.slice (some a') len c')).run P w.drew = .ok ⟨(arr.toList.drop (l.base + off)).take (len * sizeT P e)⟩ w.drew := by
                      rcases ha' with rfl | ⟨h0, _⟩
                      · exact SR.drew_first _ _ _ _ _ (run_loadCells_part P hbk (l.base + off) (len * sizeT P e) (by omega))
                      · have hl0 : len = 0 := by omega
                        subst hl0
                        unfold Builtin.firstCells
                        simp only [Nat.zero_mul, List.take_zero]
                        rfl
                    obtain ⟨newCap, rest, h1, h2, hrun⟩ := app_grow (P := P) (w := w) (ty := ty) (base' := some a') (len := len) (c' := c') (new := xs') ha hn hx (by omega) hb hold hfxd
                    have hLo : LR μ ((vs.drop off).take (len * sizeT P e) ++ xs) ((arr.toList.drop (l.base + off)).take (len * sizeT P e) ++ xs') := by
                      refine L2.append ?_ hLx
                      have h8 := (h5.drop off).take (len * sizeT P e)
                      rwa [window_window _ _ _ _ _ hle] at h8
                    obtain ⟨μ', l2, m1, m2, m3, m4, m5, hle', hsr, htr⟩ := hs.drew.row (ty := e) (z := sizeT P e) hLo rest
                    refine ⟨_, _, μ', hrun, ?_, hsr, (TR.drew μ _ w).trans htr⟩
                    refine grown_VR (len := len + (n0 + 1)) m1 m2 m3 m4 m5 h1 ?_
                    rw [List.length_append, ← hLo.len]
                    refine grow_len (n := len + (n0 + 1)) ?_ h2 h1
                    rw [List.length_append, hxl, List.length_take, List.length_drop, Nat.add_mul len]
                    omega
                  · cases h
          · cases h
        · cases h
      · cases h
  · cases h
end
end Go.Abs
