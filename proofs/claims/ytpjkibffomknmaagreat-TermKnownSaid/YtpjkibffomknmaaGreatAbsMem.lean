import Derived.Test.YtpjkibffomknmaaGreatAbsEq
/- Operations on memory. -/
namespace Go.Abs
open Go

theorem splice_window (a c : List Value) (b o n : Nat) (h1 : o + c.length ≤ n) (h2 : b + n ≤ a.length) :
    ((splice a (b + o) c).drop b).take n = splice ((a.drop b).take n) o c := by
  apply List.ext_getElem?
  intro j
  have hl : (splice a (b + o) c).length = a.length := splice_length (by omega)
  simp only [splice, List.getElem?_take, List.getElem?_drop, List.getElem?_append, List.length_take, List.length_drop, List.length_append]
  (repeat' split) <;> first | rfl | (exfalso; omega) | (congr 1; omega)

theorem window_window (a : List Value) (b o n m : Nat) (h : o + m ≤ n) : (((a.drop b).take n).drop o).take m = (a.drop (b + o)).take m := by
  rw [List.drop_take, List.drop_drop, List.take_take]
  congr 1; omega

section
variable {P : Program} {N : Nat} {μ : Mu} {H H' : Hp} {w : World} {v : Value}

/-- a row of cells, as both see it -/
theorem SR.cells (h : SR P N μ H w) {i : Nat} {vs : List Value} {ty : Nat} {ro : Bool} (hi : H.get i = some (.cells vs ty ro)) {l : Loc} (hμ : μ i = some l) :
    ∃ arr ty' fz, w.heap[l.b]? = some (.cells arr ty' fz) ∧ arr.size = l.lim ∧ l.base + vs.length ≤ arr.size ∧ LR μ vs ((arr.toList.drop l.base).take vs.length) ∧
      (ro = false → ∀ off, off < arr.size → ¬ (fz.1 ≤ off ∧ off < fz.2)) ∧ l.esz = ty := by
  obtain ⟨ob, h2, arr, ty', fz, rfl, h3, h4, h5, h6, h7⟩ := h.dom i _ l hi hμ
  exact ⟨arr, ty', fz, h2, h3, h4, h5, h6, h7⟩

theorem ld_same (hs : SR P N μ H w) {t : TypeId} {p p' : Value} (ht : okT P t = true) (h : ldM (aggT P t) (sizeT P t) p H = .ok v H') (hp : VR μ p p') :
    H' = H ∧ ∃ v', (Instr.loadAt t p').run P w = .ok v' w ∧ VR μ v v' := by
  unfold ldM at h
  split at h
  · rename_i i off
    split at h
    · rename_i vs ty ro hi
      cases hp with
      | ptr hμ =>
        rename_i l
        obtain ⟨arr, ty', fz, hb, h3, h4, h5, h6, h7⟩ := hs.cells hi hμ
        simp only [Instr.loadAt, Instr.sureAddr, loadVar, Sem.run_bind, Result.andThen_ok, Sem.run, pure, run_aggT ht]
        cases ha : aggT P t with
        | true =>
          rw [ha] at h
          simp only at h
          split at h
          · rename_i hle
            have hle := Nat.le_of_ble_eq_true hle
            cases h
            refine ⟨rfl, .agg ⟨(arr.toList.drop (l.base + off)).take (sizeT P t)⟩, ?_, ?_⟩
            · simp only [if_true, Sem.run_bind, run_sizeT ht, Result.andThen_ok]
              rw [run_loadCells_part P hb (l.base + off) (sizeT P t) (by omega)]
              rfl
            · refine .agg' ?_
              have := (h5.drop off).take (sizeT P t)
              rwa [window_window _ _ _ _ _ hle] at this
          · cases h
        | false =>
          rw [ha] at h
          simp only at h
          split at h
          · rename_i c hc
            cases h
            obtain ⟨c', hc', hr⟩ := h5.get? hc
            refine ⟨rfl, c', ?_, hr⟩
            have hoff : off < vs.length := (List.getElem?_eq_some_iff.1 hc).1
            rw [List.getElem?_take, if_pos hoff, List.getElem?_drop] at hc'
            have hcell : w.cell? ⟨l.b, l.base + off, none⟩ = some c' := by
              simp only [World.cell?, hb]
              simpa using hc'
            simp [run_load, hcell]
          · cases h
    · cases h
  · cases h

theorem ld_ok (hs : SR P N μ H w) {t : TypeId} {p p' : Value} (ht : okT P t = true) (h : ldM (aggT P t) (sizeT P t) p H = .ok v H') (hp : VR μ p p') :
    Res P N μ H w v H' ((Instr.loadAt t p').run P w) ∧ H' = H := by
  obtain ⟨rfl, v', h1, h2⟩ := ld_same hs ht h hp
  exact ⟨.same' hs h1 h2, rfl⟩

theorem notTuple_of_one {v : Value} {n : Nat} (h : (Nat.beq v.cells.toList.length n && (v.cells.toList.all one && Nat.ble n n)) = true) : v ≠ .tuple #[] := by
  intro e; subst e
  simp [Value.cells, one] at h

theorem all_one_of_LR {l l' : List Value} (h : LR μ l l') (ho : l.all one = true) : ∀ x ∈ l', one x = true := by
  intro x hx
  obtain ⟨i, hi, rfl⟩ := List.getElem_of_mem hx
  have hi' : i < l.length := by rw [h.len]; exact hi
  exact one_of_VR (h.at_ i hi' hi) (by rw [List.all_eq_true] at ho; exact ho _ (List.getElem_mem hi'))

/-- cells that may be written are written -/
theorem SR.write (hs : SR P N μ H w) {i : Nat} {vs cs cs' : List Value} {ty : Nat} (hi : H.get i = some (.cells vs ty false)) {l : Loc} (hμ : μ i = some l) {off : Nat}
    (hle : off + cs.length ≤ vs.length) (hc : LR μ cs cs') (h1 : cs.all one = true) :
    ∃ w', (∀ j, (storeCells ⟨l.b, l.base + off, none⟩ cs' j).run P w = (storeCells ⟨l.b, l.base + off, none⟩ cs' j).run P w) ∧
      (storeCells ⟨l.b, l.base + off, none⟩ cs').run P w = .ok () w' ∧
      SR P N μ (H.put i (some (.cells (splice vs off cs) ty false))) w' ∧ TR μ H w μ (H.put i (some (.cells (splice vs off cs) ty false))) w' := by
  obtain ⟨arr, ty', fz, hb, h3, h4, h5, h6, h7⟩ := hs.cells hi hμ
  have hlen := hc.len
  refine ⟨wput w l.b (.cells ⟨splice arr.toList (l.base + off) cs'⟩ ty' fz), fun _ => rfl, ?_, ?_⟩
  · have := run_storeCells_put P l.b (l.base + off) cs' 0 w arr ty' fz hb (by omega) (h6 rfl) (all_one_of_LR hc h1)
    simpa using this
  · have hl2 : (splice arr.toList (l.base + off) cs').length = arr.toList.length := splice_length (by simp; omega)
    have hsz : (⟨splice arr.toList (l.base + off) cs'⟩ : Array Value).size = arr.size := by
      show (splice arr.toList (l.base + off) cs').length = _
      rw [hl2]; simp
    refine hs.put hi rfl hμ ⟨_, ty', fz, rfl, by rw [hsz]; exact h3, ?_, ?_, ?_, h7⟩
    · rw [hsz, splice_length hle]; exact h4
    · rw [splice_length hle]
      show LR μ _ (((splice arr.toList (l.base + off) cs').drop l.base).take vs.length)
      rw [splice_window _ _ _ _ _ (by omega) (by simpa using h4)]
      exact h5.splice hc off
    · intro _ o ho
      rw [hsz] at ho
      exact h6 rfl o ho

theorem st_ok (hs : SR P N μ H w) {t : TypeId} {p p' x x' : Value} (ht : okT P t = true) (h : stM (sizeT P t) p x H = .ok v H') (hp : VR μ p p') (hx : VR μ x x') :
    ∃ w', (Instr.storeAt t p' x').run P w = .ok () w' ∧ v = undefV ∧ SR P N μ H' w' ∧ TR μ H w μ H' w' := by
  unfold stM at h
  split at h
  · rename_i i off
    split at h
    · rename_i vs ty hi
      split at h
      · rename_i hc
        simp only [Bool.and_eq_true] at hc
        obtain ⟨h1, h2, h3⟩ := hc
        have h1 := Nat.eq_of_beq_eq_true h1
        have h3 := Nat.le_of_ble_eq_true h3
        cases h
        cases hp with
        | ptr hμ =>
          rename_i l
          have hx0 : x ≠ .tuple #[] := by intro e; subst e; simp [Value.cells, one] at h2
          have hcs := hx.cells hx0
          obtain ⟨w', _, hst, hsr, htr⟩ := hs.write hi hμ (off := off) (by omega) hcs h2
          refine ⟨w', ?_, rfl, hsr, htr⟩
          have hsz : ¬ (x'.cells.size ≠ sizeT P t) := by
            have e1 := hcs.len
            have e2 : x'.cells.toList.length = x'.cells.size := Array.length_toList
            omega
          simp only [Instr.storeAt, Instr.sureAddr, storeVar, Sem.run_bind, Result.andThen_ok, Sem.run, pure, run_sizeT ht]
          rw [if_neg hsz]
          exact hst
      · cases h
    · cases h
  · cases h

/-- a new row -/
theorem SR.rowF (hs : SR P N μ H w) {cs cs' : List Value} {ty : TypeId} {z : Nat} (hc : LR μ cs cs') (extra : List Value) (fz : Nat × Nat) (hfz : ∀ off, off < (cs' ++ extra).length → ¬ (fz.1 ≤ off ∧ off < fz.2)) :
    ∃ μ' l, μ' H.size = some l ∧ l.b = w.heap.size ∧ l.base = 0 ∧ l.lim = (cs' ++ extra).length ∧ l.esz = z ∧ μ.le μ' ∧
      SR P N μ' (H.new (.cells cs z false)) (w.alloc (.cells ⟨cs' ++ extra⟩ ty fz)) ∧ TR μ H w μ' (H.new (.cells cs z false)) (w.alloc (.cells ⟨cs' ++ extra⟩ ty fz)) := by
  let l : Loc := ⟨w.heap.size, 0, (cs' ++ extra).length, z⟩
  have hle := le_upd (hs.fresh H.size (Nat.le_refl _)).1 l
  have := hs.new (.cells cs z false) (.cells ⟨cs' ++ extra⟩ ty fz) l rfl ⟨_, ty, fz, rfl, rfl, by
      show 0 + cs.length ≤ (cs' ++ extra).length
      rw [List.length_append, hc.len]; omega, by
      show LR _ cs (((cs' ++ extra).drop 0).take cs.length)
      rw [List.drop_zero, hc.len, List.take_left']
      · exact hc.mono hle
      · rfl, fun _ off ho => hfz off ho, rfl⟩
  exact ⟨_, l, upd_same _ _ _, rfl, rfl, rfl, rfl, hle, this.1, this.2⟩

theorem SR.row (hs : SR P N μ H w) {cs cs' : List Value} {ty : TypeId} {z : Nat} (hc : LR μ cs cs') (extra : List Value) :
    ∃ μ' l, μ' H.size = some l ∧ l.b = w.heap.size ∧ l.base = 0 ∧ l.lim = (cs' ++ extra).length ∧ l.esz = z ∧ μ.le μ' ∧
      SR P N μ' (H.new (.cells cs z false)) (w.alloc (.cells ⟨cs' ++ extra⟩ ty)) ∧ TR μ H w μ' (H.new (.cells cs z false)) (w.alloc (.cells ⟨cs' ++ extra⟩ ty)) :=
  hs.rowF hc extra (0, 0) fun off _ => by omega

theorem addr_zero {l : Loc} (h : l.base = 0) : (⟨l.b, l.base + 0, none⟩ : Addr) = ⟨l.b, 0, none⟩ := by rw [h]

/-- a new variable -/
theorem newVar_ok (hs : SR P N μ H w) {cs : List Value} {x' : Value} {t : TypeId} {z : Nat} (hc : LR μ cs x'.cells.toList) :
    Res P N μ H w (.pointer (some ⟨H.size, 0, none⟩)) (H.new (.cells cs z false)) ((do pure (.pointer (some (← newVar t x'))) : Sem Value).run P w) := by
  obtain ⟨μ', l, h1, h2, h3, h4, h5, hle, hsr, htr⟩ := hs.row (ty := t) (z := z) hc []
  rw [List.append_nil] at hsr htr
  refine ⟨.pointer (some ⟨w.heap.size, 0, none⟩), w.alloc (.cells x'.cells t), μ', ?_, ?_, hsr, htr⟩
  · simp only [newVar, newRow, Sem.run_bind, run_newObj_alloc, Result.andThen_ok]
    rfl
  · have := VR.ptr (μ := μ') (off := 0) h1
    rwa [addr_zero h3, h2] at this
end
end Go.Abs
