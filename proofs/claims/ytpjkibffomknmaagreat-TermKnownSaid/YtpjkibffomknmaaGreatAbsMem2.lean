import Derived.Test.YtpjkibffomknmaaGreatAbsMem
/- New values in memory: variables, structs, slices. -/
namespace Go.Abs
open Go

theorem flat1_Flat {v : Value} (h : flat1 v = true) : Flat v := by
  unfold flat1 at h
  split at h <;> first | (cases h; done) | exact .bool _ | exact .int _ _ | exact .string _ | exact .nilptr | exact .nilmap | exact .nilFunc | exact .nilIface | exact .nilslice | skip
  rename_i f a c
  simp only [Bool.and_eq_true, List.isEmpty_iff] at h
  obtain ⟨h1, h2⟩ := h
  have e1 : a = #[] := Array.ext' h1
  have e2 : c = #[] := Array.ext' h2
  rw [e1, e2]
  exact .func f

theorem flatB_Flat {v : Value} (h : flatB v = true) : Flat v := by
  unfold flatB at h
  split at h
  · exact .agg fun v hv => flat1_Flat (by rw [List.all_eq_true] at h; exact h v hv)
  · exact .tuple fun v hv => flat1_Flat (by rw [List.all_eq_true] at h; exact h v hv)
  · exact flat1_Flat h

section
variable {P : Program} {N : Nat} {μ : Mu} {H H' : Hp} {w : World} {v : Value}

theorem okZ_spec {t : TypeId} (h : okZ P t = true) : okT P t = true ∧ ∃ z, zeroT P t = some z ∧ (∀ w, (zeroValue t).run P w = .ok z w) ∧ zeroCellsT P t = z.cells.toList ∧ z.cells.toList.length = sizeT P t ∧ Flat z ∧ z ≠ .tuple #[] := by
  unfold okZ at h
  simp only [Bool.and_eq_true] at h
  obtain ⟨h1, h2⟩ := h
  refine ⟨h1, ?_⟩
  cases hz : zeroT P t with
  | none => rw [hz] at h2; cases h2
  | some z =>
    rw [hz] at h2
    simp only [Bool.and_eq_true] at h2
    obtain ⟨h3, h4, h5⟩ := h2
    exact ⟨z, rfl, zeroT_run hz, by simp [zeroCellsT, hz], Nat.eq_of_beq_eq_true h3, flatB_Flat h4, by intro e; subst e; simp [notTup] at h5⟩

theorem zyM_ok {ts : List TypeId} {m : M Value} (h : zyM P ts m H = .ok v H') : (∀ t ∈ ts, okZ P t = true) ∧ m H = .ok v H' := by
  unfold zyM at h
  cases e : ts.all (okZ P) with
  | true => rw [e] at h; exact ⟨by simpa [List.all_eq_true] using e, h⟩
  | false => rw [e] at h; cases h

theorem okZ_cells {t : TypeId} (h : okZ P t = true) : LR μ (zeroCellsT P t) (zeroCellsT P t) ∧ (zeroCellsT P t).length = sizeT P t := by
  obtain ⟨_, z, _, _, h3, h4, h5, h6⟩ := okZ_spec h
  rw [h3]
  exact ⟨(h5.VR μ).cells h6, h4⟩

theorem alloc_ok (hs : SR P N μ H w) {t : TypeId} (ht : okZ P t = true) (h : allocM (zeroCellsT P t) (sizeT P t) H = .ok v H') :
    Res P N μ H w v H' ((Instr.alloc t true (.tuple #[])).run P w) := by
  obtain ⟨_, z, _, h2, h3, h4, h5, h6⟩ := okZ_spec ht
  unfold allocM at h
  cases h
  have hz := (h5.VR μ).cells h6
  rw [h3]
  have := newVar_ok hs (t := t) (z := sizeT P t) hz
  unfold Instr.alloc
  simp only [Sem.run_bind, h2, Result.andThen_ok] at this ⊢
  exact this

theorem box_ok (hs : SR P N μ H w) {t : TypeId} {x x' : Value} {z : Nat} (h : boxM x z H = .ok v H') (hx : VR μ x x') : Res P N μ H w v H' ((Instr.box t x').run P w) := by
  unfold boxM at h
  split at h
  · cases h
  · rename_i hne
    cases h
    exact newVar_ok hs (hx.cells fun e => hne #[] e)

theorem iface_ok {t : TypeId} {x x' : Value} (h : ifaceM t x H = .ok v H') (hx : VR μ x x') : H' = H ∧ VR μ v (.iface t x') := by
  unfold ifaceM at h
  split at h
  · cases h
  · cases h; exact ⟨rfl, .iface hx⟩

/-! ### filling -/
theorem foldl_splice : ∀ (cs : List Value) (off j0 : Nat) (l : Array Value), off + j0 + cs.length ≤ l.size →
    ((cs.toArray.zipIdx j0).foldl (fun a (x : Value × Nat) => a.setIfInBounds (off + x.2) x.1) l).toList = splice l.toList (off + j0) cs := by
  intro cs
  induction cs with
  | nil =>
    intro off j0 l h
    have e : (([] : List Value).toArray.zipIdx j0) = #[] := by apply Array.ext'; simp
    rw [e]
    simp [splice]
  | cons c cs ih =>
    intro off j0 l h
    simp only [List.length_cons] at h
    have e : ((c :: cs).toArray.zipIdx j0) = #[(c, j0)] ++ (cs.toArray.zipIdx (j0 + 1)) := by
      apply Array.ext'
      simp [List.zipIdx_cons]
    rw [e, Array.foldl_append]
    have e2 : (#[(c, j0)] : Array (Value × Nat)).foldl (fun a (x : Value × Nat) => a.setIfInBounds (off + x.2) x.1) l = l.setIfInBounds (off + j0) c := by simp
    rw [e2, ih off (j0 + 1) _ (by simp; omega)]
    have e3 : (l.setIfInBounds (off + j0) c).toList = l.toList.set (off + j0) c := by simp
    rw [e3]
    have := splice_set l.toList (off + j0) c cs (by simp; omega)
    rw [← this]
    rfl

theorem notTup_ne {v : Value} (h : notTup v = true) : v ≠ .tuple #[] := by intro e; subst e; simp [notTup] at h

theorem fill_ok (place : Nat → Option (Nat × Nat)) : ∀ (parts : List (Nat × Nat × Value)) (parts' : List (Nat × Value)) (cs cs' r : List Value),
    L2 (fun (p : Nat × Nat × Value) (q : Nat × Value) => place q.1 = some (p.1, p.2.1) ∧ VR μ p.2.2 q.2) parts parts' →
    LR μ cs cs' → fillL parts cs = some r → ∃ r', Instr.fill place ⟨cs'⟩ parts' = some ⟨r'⟩ ∧ LR μ r r'
  | [], parts', cs, cs', r, hp, hc, h => by
    rw [hp.nil_left]
    cases h
    exact ⟨cs', rfl, hc⟩
  | (off, size, x) :: rest, parts', cs, cs', r, hp, hc, h => by
    obtain ⟨⟨i, x'⟩, t, rfl, ⟨h1, h2⟩, ht⟩ := hp.cons_left
    unfold fillL at h
    split at h
    · rename_i hb
      simp only [Bool.and_eq_true] at hb
      have hb1 := Nat.eq_of_beq_eq_true hb.1
      have hb2 := Nat.le_of_ble_eq_true hb.2.1
      have hx : LR μ x.cells.toList x'.cells.toList := h2.cells (notTup_ne hb.2.2)
      obtain ⟨r', e1, e2⟩ := fill_ok place rest t _ _ r ht (hc.splice hx off) h
      refine ⟨r', ?_, e2⟩
      have hl1 := hx.len
      have hl2 := hc.len
      have hsz : x'.cells.toList.length = x'.cells.size := Array.length_toList
      unfold Instr.fill
      simp only at h1
      rw [h1]
      simp only
      have hcond : (decide (x'.cells.size ≠ size) || decide (off + x'.cells.size > (⟨cs'⟩ : Array Value).size)) = false := by
        simp only [Bool.or_eq_false_iff, decide_eq_false_iff_not]
        refine ⟨by omega, ?_⟩
        show ¬ (off + x'.cells.size > cs'.length)
        omega
      rw [if_neg (by rw [hcond]; simp)]
      rw [← e1]
      congr 1
      apply Array.ext'
      have := foldl_splice x'.cells.toList off 0 ⟨cs'⟩ (by show off + 0 + _ ≤ cs'.length; omega)
      simpa using this
    · cases h

theorem partsGo_ok {st ρ : Operand → Value} (place place' : Nat → Option (Nat × Nat)) (hpl : ∀ i p, place i = some p → place' i = some p) : ∀ (parts : List (Nat × Operand)) (ps : List (Nat × Nat × Value)),
    (∀ p, p ∈ parts → VR μ (st p.2) (ρ p.2)) → partsT.go st place parts = some ps →
    L2 (fun (p : Nat × Nat × Value) (q : Nat × Value) => place' q.1 = some (p.1, p.2.1) ∧ VR μ p.2.2 q.2) ps (parts.map fun q => (q.1, ρ q.2))
  | [], ps, _, h => by cases h; exact .nil
  | (i, x) :: r, ps, hv, h => by
    unfold partsT.go at h
    cases hp : place i with
    | none => rw [hp] at h; cases h
    | some oz =>
      rw [hp] at h
      cases hg : partsT.go st place r with
      | none => rw [hg] at h; cases h
      | some l =>
        rw [hg] at h
        cases h
        exact .cons ⟨hpl _ _ hp, hv (i, x) (by simp)⟩ (partsGo_ok place place' hpl r l (fun p hp => hv p (by simp [hp])) hg)

theorem mapM_sizes : ∀ (fs : List Field) (w : World), (∀ f ∈ fs, okT P f.type = true) →
    (fs.mapM (m := Sem) fun f => do pure (f.offset, ← sizeOf f.type)).run P w = .ok (fs.map fun f => (f.offset, sizeT P f.type)) w
  | [], w, _ => rfl
  | f :: fs, w, h => by
    have ih := mapM_sizes fs w (fun g hg => h g (by simp [hg]))
    simp only [List.mapM_cons, Sem.run_bind, run_sizeT (h f (by simp)), Result.andThen_ok, List.map_cons]
    have e0 : ∀ (x : Nat × Nat), (pure x : Sem (Nat × Nat)).run P w = .ok x w := fun _ => rfl
    rw [e0]
    simp only [Result.andThen_ok, ih]
    rfl

theorem build_ok (hs : SR P N μ H w) {t : TypeId} {st ρ : Operand → Value} {parts : List (Nat × Operand)} {ps : List (Nat × Nat × Value)} (ht : okZ P t = true) (hp : partsT P t st parts = some ps)
    (hv : ∀ p, p ∈ parts → VR μ (st p.2) (ρ p.2)) (h : buildM (zeroCellsT P t) ps H = .ok v H') :
    H' = H ∧ ∃ v', (Instr.build t (parts.map fun q => (q.1, ρ q.2)).toArray).run P w = .ok v' w ∧ VR μ v v' := by
  obtain ⟨hok, z, _, h2, h3, h4, h5, h6⟩ := okZ_spec ht
  unfold buildM at h
  split at h
  · rename_i cs hf
    cases h
    refine ⟨rfl, ?_⟩
    have hz := (h5.VR μ).cells h6
    rw [← h3] at hz
    unfold partsT at hp
    split at hp
    · rename_i fs hd
      have hu := descOf_some hd (by simp)
      split at hp
      · rename_i hall
        rw [List.all_eq_true] at hall
        have hL := partsGo_ok (μ := μ) (ρ := ρ) _ (fun (i : Nat) => (fs.toList.map fun f => (f.offset, sizeT P f.type))[i]?) (fun i p hi => by
          cases hfi : fs.toList[i]? with
          | none => rw [hfi] at hi; cases hi
          | some f => rw [hfi] at hi; simp only [List.getElem?_map, hfi, Option.map_some]; exact hi) parts ps hv hp
        obtain ⟨r', e1, e2⟩ := fill_ok (fun (i : Nat) => (fs.toList.map fun f => (f.offset, sizeT P f.type))[i]?) ps _ _ _ cs hL hz hf
        refine ⟨.agg ⟨r'⟩, ?_, .agg' e2⟩
        unfold Instr.build
        have hm : (fs.mapM (m := Sem) fun f => do pure (f.offset, ← sizeOf f.type)).run P w = .ok ((fs.toList.map fun f => (f.offset, sizeT P f.type)).toArray) w := by
          rw [Array.mapM_eq_mapM_toList]
          simp only [Sem.run_map, mapM_sizes fs.toList w hall, Result.andThen_ok]
        simp only [Sem.run_bind, h2, Result.andThen_ok, run_underlying hu, hm]
        have e3 : (fun (i : Nat) => ((fs.toList.map fun f => (f.offset, sizeT P f.type)).toArray)[i]?) = (fun (i : Nat) => (fs.toList.map fun f => (f.offset, sizeT P f.type))[i]?) := by funext i; simp
        have e4 : z.cells = ⟨zeroCellsT P t⟩ := by rw [h3]
        rw [e3, e4, List.toList_toArray, e1]
        rfl
      · cases hp
    · rename_i n e hd
      have hu := descOf_some hd (by simp)
      split at hp
      · rename_i he
        have hL := partsGo_ok (μ := μ) (ρ := ρ) _ (fun i => some (i * sizeT P e, sizeT P e)) (fun i p hi => hi) parts ps hv hp
        obtain ⟨r', e1, e2⟩ := fill_ok (fun i => some (i * sizeT P e, sizeT P e)) ps _ _ _ cs hL hz hf
        refine ⟨.agg ⟨r'⟩, ?_, .agg' e2⟩
        unfold Instr.build
        have e4 : z.cells = ⟨zeroCellsT P t⟩ := by rw [h3]
        simp only [Sem.run_bind, h2, Result.andThen_ok, run_underlying hu, run_sizeT he]
        rw [e4, e1]
        rfl
      · cases hp
    · cases hp
  · cases h

/-! ### slices of their own -/
theorem rep_length (z : List Value) : ∀ n, (rep z n).length = n * z.length
  | 0 => by simp [rep]
  | n + 1 => by simp [rep, rep_length z n, Nat.add_mul]; omega

theorem rep_LR {z : List Value} (h : LR μ z z) : ∀ n, LR μ (rep z n) (rep z n)
  | 0 => .nil
  | n + 1 => h.append (rep_LR h n)

theorem rep_get (z : List Value) (hz : 0 < z.length) : ∀ (n i : Nat), i < n * z.length → (rep z n)[i]? = z[i % z.length]?
  | 0, i, h => by simp at h
  | n + 1, i, h => by
    unfold rep
    by_cases hi : i < z.length
    · rw [List.getElem?_append_left hi, Nat.mod_eq_of_lt hi]
    · rw [List.getElem?_append_right (by omega), rep_get z hz n (i - z.length) (by rw [Nat.add_mul] at h; omega)]
      rw [← Nat.mod_eq_sub_mod (by omega)]

theorem zeros_eq (z : Array Value) (n s : Nat) (hs : z.toList.length = s) : (Array.range (n * s)).map (z[· % z.size]!) = ⟨rep z.toList n⟩ := by
  apply Array.ext'
  apply List.ext_getElem?
  intro i
  have hsz : z.toList.length = z.size := Array.length_toList
  simp only [Array.toList_map, Array.toList_range, List.getElem?_map]
  by_cases hi : i < n * s
  · have hpos : 0 < z.toList.length := by
      rcases Nat.eq_zero_or_pos z.toList.length with h | h
      · rw [← hs, h] at hi; simp at hi
      · exact h
    rw [rep_get z.toList hpos n i (by rw [hs]; exact hi)]
    rw [List.getElem?_range hi]
    simp only [Option.map_some]
    have hlt : i % z.size < z.size := Nat.mod_lt _ (by omega)
    rw [hsz, List.getElem?_eq_getElem (by rw [hsz]; exact hlt)]
    simp [getElem!_pos, hlt]
  · rw [List.getElem?_eq_none (by simp; omega), List.getElem?_eq_none (by rw [rep_length, hs]; omega)]
    rfl

theorem pow70_lt : (1000000 : Nat) < INX := by decide

theorem buildSlice_ok (hs : SR P N μ H w) {t e : TypeId} {st ρ : Operand → Value} {parts : List (Nat × Operand)} {len : Nat} (hd : descOf P t = .slice e) (ht : okZ P e = true)
    (hv : ∀ p, p ∈ parts → VR μ (st p.2) (ρ p.2)) (h : buildSliceM (sizeT P e) (zeroCellsT P e) len (parts.map fun q => (q.1 * sizeT P e, sizeT P e, st q.2)) H = .ok v H') :
    Res P N μ H w v H' ((Instr.buildSlice t len (parts.map fun q => (q.1, ρ q.2)).toArray).run P w) := by
  obtain ⟨hok, z, _, h2, h3, h4, h5, h6⟩ := okZ_spec ht
  have hu := descOf_some hd (by simp)
  unfold buildSliceM at h
  split at h
  · rename_i cs hle hf
    simp only [Bool.and_eq_true] at hle
    have hle2 := Nat.le_of_ble_eq_true hle.2
    have hle := Nat.le_of_ble_eq_true hle.1
    cases h
    have hz := (h5.VR μ).cells h6
    rw [← h3] at hz
    have hL : L2 (fun (p : Nat × Nat × Value) (q : Nat × Value) => (fun i => some (i * sizeT P e, sizeT P e)) q.1 = some (p.1, p.2.1) ∧ VR μ p.2.2 q.2)
        (parts.map fun q => (q.1 * sizeT P e, sizeT P e, st q.2)) (parts.map fun q => (q.1, ρ q.2)) := L2.map_same _ _ _ fun q hq => ⟨rfl, hv q hq⟩
    obtain ⟨r', e1, e2⟩ := fill_ok (fun i => some (i * sizeT P e, sizeT P e)) _ _ _ _ cs hL (rep_LR hz len) hf
    obtain ⟨μ', l, m1, m2, m3, m4, m5, hle', hsr, htr⟩ := hs.row (ty := e) (z := sizeT P e) e2 []
    rw [List.append_nil] at hsr htr
    have hzl : (zeroCellsT P e).length = sizeT P e := by rw [h3]; exact h4
    rw [hzl] at hle
    refine ⟨.slice (some ⟨w.heap.size, 0, none⟩) len len, w.alloc (.cells ⟨r'⟩ e), μ', ?_, ?_, hsr, htr⟩
    · unfold Instr.buildSlice
      simp only [Sem.run_bind, run_underlying hu, Result.andThen_ok, run_sizeT hok]
      rw [if_neg (by have : (2:Nat)^24 = 16777216 := by decide
                     omega)]
      by_cases hz0 : len * sizeT P e = 0
      · have ecells : (Array.range (len * sizeT P e)).map ((#[] : Array Value)[· % (#[] : Array Value).size]!) = ⟨rep (zeroCellsT P e) len⟩ := by
          rw [hz0]
          apply Array.ext'
          have : (rep (zeroCellsT P e) len).length = 0 := by rw [rep_length, hzl, hz0]
          rw [List.eq_nil_of_length_eq_zero this]
          simp
        rw [if_pos hz0]
        simp only [pure_bind]
        rw [ecells, e1]
        simp only [newRow, Sem.run_bind, run_newObj_alloc, Result.andThen_ok]
        rfl
      · have ecells : (Array.range (len * sizeT P e)).map (z.cells[· % z.cells.size]!) = ⟨rep (zeroCellsT P e) len⟩ := by
          rw [h3]
          exact zeros_eq z.cells len (sizeT P e) h4
        rw [if_neg hz0]
        simp only [Sem.run_bind, h2, Result.andThen_ok, pure_bind]
        rw [ecells, e1]
        simp only [newRow, Sem.run_bind, run_newObj_alloc, Result.andThen_ok]
        rfl
    · have hlt : len < INX := by
        have := pow70_lt
        omega
      have := VR.slice (μ := μ') (off := 0) (n := len) (c := len) (c' := len) (a' := ⟨l.b, l.base + 0, none⟩) m1 (by unfold CapR; rw [if_neg (by omega)]) (Nat.le_refl _) (.inl rfl) (fun hc => by omega)
      rwa [addr_zero m3, m2] at this
  · cases h

theorem askRoom_run (n : Nat) (w : World) : (askRoom n).run P w = .ok () w := by
  unfold askRoom
  split <;> rfl

theorem wrap_small {l : Nat} (h : l ≤ 2 ^ 47) : IntKind.i64.wrap (Int.ofNat l) = Int.ofNat l := by
  have h47 : (2 : Nat) ^ 47 = 140737488355328 := by decide
  unfold IntKind.wrap
  have hb : IntKind.i64.bits = 64 := rfl
  have hs : IntKind.i64.signed = true := rfl
  rw [hb, hs]
  have h64 : ((2 : Int) ^ 64) = 18446744073709551616 := by decide
  have h63 : ((2 : Int) ^ (64 - 1)) = 9223372036854775808 := by decide
  simp only [h64, h63]
  have e : (Int.ofNat l) % 18446744073709551616 = Int.ofNat l := by
    apply Int.emod_eq_of_lt
    · exact Int.natCast_nonneg l
    · show (l : Int) < _; omega
  rw [e]
  rw [if_neg]
  simp only [Bool.true_and, decide_eq_true_eq, ge_iff_le]
  show ¬ ((9223372036854775808 : Int) ≤ (l : Int))
  omega

theorem makeSlice_ok (hs : SR P N μ H w) {t e : TypeId} {a a' c c' : Value} (hd : descOf P t = .slice e) (ht : okZ P e = true) (ha : VR μ a a') (hc : VR μ c c')
    (h : makeSliceM (sizeT P e) (zeroCellsT P e) (bytesT P e) a c H = .ok v H') : Res P N μ H w v H' ((Instr.makeSlice t a' c').run P w) := by
  obtain ⟨hok, z, _, h2, h3, h4, h5, h6⟩ := okZ_spec ht
  obtain ⟨i, d, hi, _⟩ := okT_iff hok
  have hu := descOf_some hd (by simp)
  have hby : bytesT P e = i.bytes := by simp [bytesT, Program.bytesOf, hi]
  unfold makeSliceM at h
  split at h
  · rename_i k l k' c
    cases ha; cases hc
    split at h
    · rename_i hb
      simp only [Bool.and_eq_true] at hb
      have hb1 := Nat.le_of_ble_eq_true hb.1
      have hb2 := Nat.le_of_ble_eq_true hb.2
      cases h
      have hz := (h5.VR μ).cells h6
      rw [← h3] at hz
      have h47 : (2 : Nat) ^ 47 = 140737488355328 := by decide
      have hc47 : c ≤ 2 ^ 47 := Nat.le_trans (Nat.le_mul_of_pos_right c (Nat.succ_pos _)) hb2
      have hcb : c * i.bytes ≤ 2 ^ 47 := Nat.le_trans (Nat.mul_le_mul_left c (by rw [hby]; omega)) hb2
      obtain ⟨μ', lo, m1, m2, m3, m4, m5, hle', hsr, htr⟩ := hs.row (ty := e) (z := sizeT P e) (rep_LR hz c) []
      rw [List.append_nil] at hsr htr
      refine ⟨.slice (some ⟨w.heap.size, 0, none⟩) l c, w.alloc (.cells ⟨rep (zeroCellsT P e) c⟩ e), μ', ?_, ?_, hsr, htr⟩
      · unfold Instr.makeSlice
        have hwl := wrap_small (l := l) (by omega)
        have hwc := wrap_small (l := c) hc47
        simp only [Sem.run_bind, run_underlying hu, Result.andThen_ok, asInt, asIntOf, run_typeInfo w hi, pure_bind, hwl, hwc]
        have hcond : (decide (Int.ofNat c < 0) || decide ((i.bytes : Int) * Int.ofNat c > 2 ^ 48) || decide (Int.ofNat l < 0) || decide (Int.ofNat l > Int.ofNat c)) = false := by
          have e48 : ((2 : Int) ^ 48) = 281474976710656 := by decide
          have hm : (i.bytes : Int) * Int.ofNat c ≤ 140737488355328 := by
            have : ((c * i.bytes : Nat) : Int) ≤ ((2 ^ 47 : Nat) : Int) := Int.ofNat_le.2 hcb
            rw [h47] at this
            rw [Int.mul_comm]
            have e : ((c * i.bytes : Nat) : Int) = Int.ofNat c * (i.bytes : Int) := by simp
            rw [← e]; exact this
          have e1 : (Int.ofNat c : Int) = (c : Int) := rfl
          have e2 : (Int.ofNat l : Int) = (l : Int) := rfl
          simp only [Bool.or_eq_false_iff, decide_eq_false_iff_not]
          rw [e1] at hm
          rw [e1, e2]
          exact ⟨⟨⟨by omega, by omega⟩, by omega⟩, by omega⟩
        rw [if_neg (by rw [hcond]; simp)]
        simp only [Sem.run_bind, askRoom_run, Result.andThen_ok, run_sizeT hok]
        have ec : (Int.ofNat c).toNat = c := rfl
        have el : (Int.ofNat l).toNat = l := rfl
        simp only [ec, el]
        have hzl : (zeroCellsT P e).length = sizeT P e := by rw [h3]; exact h4
        by_cases hz0 : c * sizeT P e = 0
        · have ecells : (Array.range (c * sizeT P e)).map ((#[] : Array Value)[· % (#[] : Array Value).size]!) = ⟨rep (zeroCellsT P e) c⟩ := by
            rw [hz0]
            apply Array.ext'
            have : (rep (zeroCellsT P e) c).length = 0 := by rw [rep_length, hzl, hz0]
            rw [List.eq_nil_of_length_eq_zero this]
            simp
          rw [if_pos hz0]
          rw [ecells]
          simp only [newRow, Sem.run_bind, run_newObj_alloc, Result.andThen_ok]
          rfl
        · have ecells : (Array.range (c * sizeT P e)).map (z.cells[· % z.cells.size]!) = ⟨rep (zeroCellsT P e) c⟩ := by
            rw [h3]
            exact zeros_eq z.cells c (sizeT P e) h4
          rw [if_neg hz0]
          simp only [Sem.run_bind, h2, Result.andThen_ok]
          rw [ecells]
          simp only [newRow, Sem.run_bind, run_newObj_alloc, Result.andThen_ok]
          rfl
      · have hlt : c < INX := by
          have : (2:Nat)^47 < INX := by decide
          omega
        have := VR.slice (μ := μ') (off := 0) (n := l) (c := c) (c' := c) (a' := ⟨lo.b, lo.base + 0, none⟩) m1 (by unfold CapR; rw [if_neg (by omega)]) hb1 (.inl rfl) (fun hc => by omega)
        rwa [addr_zero m3, m2] at this
    · cases h
  · cases h
end
end Go.Abs
