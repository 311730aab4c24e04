import Derived.Test.YtpjkibffomknmaaGreatAbsOps4
/- Operations (V): slices of arrays; strings and bytes; append, copy, clear. -/
namespace Go.Abs
open Go

section
variable {P : Program} {N : Nat} {μ : Mu} {H H' : Hp} {w : World} {v : Value}

theorem sliceArr_ok {t e : TypeId} {n : Nat} {x x' : Value} {lo hi lo' hi' : Option Value} (hd : descOf P t = .array n e) (he : okT P e = true) (hn : n < 1000000)
    (h : sliceArrM n (sizeT P e) x lo hi H = .ok v H') (hx : VR μ x x') (hlo : OptR μ lo lo') (hhi : OptR μ hi hi') :
    H' = H ∧ ∃ v', (Instr.sliceAt t x' lo' hi' none).run P w = .ok v' w ∧ VR μ v v' := by
  have hu := descOf_some hd (by simp)
  have hI := pow70_lt
  unfold sliceArrM at h
  split at h
  · rename_i a
    split at h
    · rename_i l u h1 h2
      split at h
      · rename_i hb
        simp only [Bool.and_eq_true] at hb
        have hb1 := Nat.le_of_ble_eq_true hb.1
        have hb2 := Nat.le_of_ble_eq_true hb.2
        cases h
        cases hx with
        | ptr hμ =>
          rename_i i off lc
          have hsb := sliceBounds_run (P := P) (isS := false) (cap := n) (mx := none) (mx' := none) hlo hhi trivial h1 h2 rfl (.inl rfl) hb1 (.inl hb2) (Nat.le_refl _) w
          refine ⟨rfl, .slice (some (if n = l then (⟨lc.b, lc.base + off, none⟩ : Addr) else (⟨lc.b, lc.base + off, none⟩ : Addr).add (l * sizeT P e))) (u - l) (n - l), ?_, ?_⟩
          · unfold Instr.sliceAt
            simp only [Sem.run_bind, run_underlying hu, Result.andThen_ok, Instr.sureAddr, pure_bind, hsb, run_sizeT he]
            rfl
          · by_cases hml : n = l
            · rw [if_pos hml]
              have : Nat.beq n l = true := by rw [hml]; exact Nat.beq_refl l
              rw [this]
              exact .slice hμ (by unfold CapR; rw [if_neg (by omega)]) (by omega) (.inl rfl) (fun k => by omega)
            · rw [if_neg hml]
              have : Nat.beq n l = false := by
                cases e : Nat.beq n l with
                | true => exact absurd (Nat.eq_of_beq_eq_true e) hml
                | false => rfl
              rw [this]
              simp only [addA_mk, addr_add]
              exact .slice hμ (by unfold CapR; rw [if_neg (by omega)]) (by omega) (.inl (by rw [Nat.add_assoc])) (fun k => by omega)
      · cases h
    · cases h
  · cases h

/-! ### strings and bytes -/
theorem u8_LR (l : List UInt8) : LR μ (l.map u8) (l.map u8) := L2.map_same _ _ _ fun _ _ => .int _ _

theorem freeze_new (w : World) (arr : Array Value) (e : TypeId) : (w.alloc (.cells arr e)).freeze ⟨w.heap.size, arr.size, none⟩ 1 = w.alloc (.cells arr e (arr.size, arr.size + 1)) := by
  unfold World.freeze
  rw [if_neg (by simp)]
  unfold World.alloc
  congr 1
  apply Array.ext_getElem?
  intro k
  simp only [Array.getElem?_modify, Array.getElem?_push]
  by_cases hk : w.heap.size = k
  · subst hk
    simp
  · rw [if_neg hk]
    have : ¬ k = w.heap.size := fun e => hk e.symm
    rw [if_neg this, if_neg this]

theorem markStringish_run {w : World} {b : Nat} {e : TypeId} {n : Nat} (h : w.shape? b = some (e, n)) : (markStringish ⟨b, 0, none⟩).run P w = .ok () (w.freeze ⟨b, n, none⟩ 1) := by
  unfold markStringish
  have : (shape b).run P w = .ok (some (e, n)) w := by simp only [shape, Sem.run]; rw [h]
  simp only [Sem.run_bind, this, Result.andThen_ok]
  rfl

theorem toBytes_ok (hs : SR P N μ H w) {e : TypeId} {x x' : Value} (h : toBytesM (sizeT P e) x H = .ok v H') (h1 : sizeT P e = 1) (hx : VR μ x x') :
    ∃ s, x' = .string s ∧ Res P N μ H w v H' ((Conv.stringToBytes e s).run P w) := by
  unfold toBytesM at h
  split at h
  · rename_i s
    cases h
    cases hx
    refine ⟨s, rfl, ?_⟩
    have hsz := str_size s
    generalize hcap : (Question.appendCap s.size 0 e).cut (w.tape w.drawn (Question.appendCap s.size 0 e)) = cap
    have hle : s.size ≤ cap := by rw [← hcap]; simp [Question.cut]
    have hd := hs.drew
    obtain ⟨μ', l, m1, m2, m3, m4, m5, hle', hsr, htr⟩ := hd.rowF (ty := e) (z := sizeT P e) (u8_LR (μ := μ) s.data.toList) (List.replicate (cap - s.size) (Value.int .u8 0)) (cap, cap + 1) (by
      intro off ho
      simp only [List.length_append, List.length_map, List.length_replicate] at ho
      omega)
    have hlim : l.lim = cap := by
      rw [m4]; simp only [List.length_append, List.length_map, List.length_replicate]; omega
    refine ⟨.slice (some ⟨w.heap.size, 0, none⟩) s.size cap, w.drew.alloc (.cells ⟨s.data.toList.map u8 ++ List.replicate (cap - s.size) (Value.int .u8 0)⟩ e (cap, cap + 1)), μ', ?_, ?_, hsr, (TR.drew μ H w).trans htr⟩
    · unfold Conv.stringToBytes
      have hch : (choose (.appendCap s.size 0 e)).run P w = .ok cap w.drew := by
        rw [run_choose_drew]
        simp only [Question.forced, Bool.false_eq_true, if_false, hcap]
      have harr : ((s.data.map fun b => Value.int .u8 b.toNat) ++ Array.replicate (cap - s.size) (.int .u8 0)) = (⟨s.data.toList.map u8 ++ List.replicate (cap - s.size) (Value.int .u8 0)⟩ : Array Value) := by
        apply Array.ext'
        simp
        intro a _
        rfl
      have hasz : (⟨s.data.toList.map u8 ++ List.replicate (cap - s.size) (Value.int .u8 0)⟩ : Array Value).size = cap := by
        show (s.data.toList.map u8 ++ List.replicate (cap - s.size) (Value.int .u8 0)).length = cap
        simp only [List.length_append, List.length_map, List.length_replicate]; omega
      simp only [Sem.run_bind, hch, Result.andThen_ok, newRow, run_newObj_alloc]
      rw [harr]
      have e0 : ∀ (a : Addr) (w : World), (pure a : Sem Addr).run P w = .ok a w := fun _ _ => rfl
      rw [e0]
      simp only [Result.andThen_ok]
      have hfr := freeze_new w.drew (⟨s.data.toList.map u8 ++ List.replicate (cap - s.size) (Value.int .u8 0)⟩ : Array Value) e
      rw [hasz] at hfr
      have hsh : (w.drew.alloc (.cells ⟨s.data.toList.map u8 ++ List.replicate (cap - s.size) (Value.int .u8 0)⟩ e)).shape? w.drew.heap.size = some (e, cap) := by
        unfold World.shape?
        rw [alloc_same]
        simp only [hasz]
      rw [markStringish_run hsh, hfr]
      rfl
    · have := VR.slice (μ := μ') (off := 0) (n := s.size) (c := INX + s.size) (c' := cap) (a' := ⟨l.b, l.base + 0, none⟩) m1 (by unfold CapR; rw [if_pos (by omega)]; omega) hle (.inl rfl) (fun _ _ => by rw [m3, m5, h1, hlim]; omega)
      rw [addr_zero m3, m2, hsz] at this
      rw [hsz]
      exact this
  · cases h

theorem bytesOfCells_map : ∀ (cs : List Value) (l : List UInt8), bytesOfCells cs = some l → ∃ ns : List Int, cs = ns.map (.int .u8) ∧ l = ns.map fun n => UInt8.ofNat n.toNat
  | [], l, h => by cases h; exact ⟨[], rfl, rfl⟩
  | c :: cs, l, h => by
    unfold bytesOfCells at h
    split at h
    · rename_i e; cases e
    · rename_i n r e
      split at h
      · rename_i l' hl
        cases h
        cases e
        obtain ⟨ns, rfl, rfl⟩ := bytesOfCells_map _ _ hl
        exact ⟨n :: ns, rfl, rfl⟩
      · cases h
    · cases h

/-- the cells of the first elements -/
theorem cells_ok (hs : SR P N μ H w) {size n : Nat} {x x' : Value} {cs : List Value} (h : cellsM size n x H = some cs) (hx : VR μ x x') :
    ∃ cs', (Builtin.firstCells size n x').run P w = .ok ⟨cs'⟩ w ∧ LR μ cs cs' := by
  unfold cellsM at h
  split at h
  · split at h
    · cases h
      cases hx
      exact ⟨[], rfl, .nil⟩
    · cases h
  · rename_i i off len cap
    split at h
    · cases h
      cases hx with
      | slice hμ hc hn ha hl =>
        refine ⟨[], ?_, .nil⟩
        unfold Builtin.firstCells
        simp only [Nat.zero_mul]
        rfl
    · rename_i m
      split at h
      · rename_i vs ty ro hi
        split at h
        · rename_i hle
          simp only [Bool.and_eq_true] at hle
          have hle2 := Nat.le_of_ble_eq_true hle.2
          have hle : off + (m + 1) * size ≤ vs.length := Nat.le_of_ble_eq_true hle.1
          cases h
          cases hx with
          | slice hμ hc hn ha hl =>
            rename_i l c' a'
            obtain ⟨arr, ty', fz, hb, h3, h4, h5, h6, h7⟩ := hs.cells hi hμ
            rcases ha with rfl | ⟨h0, _⟩
            · refine ⟨(arr.toList.drop (l.base + off)).take ((m + 1) * size), ?_, ?_⟩
              · have := run_loadCells_part P hb (l.base + off) ((m + 1) * size) (by omega)
                simpa [Builtin.firstCells] using this
              · have := (h5.drop off).take ((m + 1) * size)
                rwa [window_window _ _ _ _ _ hle] at this
            · omega
        · cases h
      · cases h
  · rename_i s
    split at h
    · rename_i hle
      simp only [Bool.and_eq_true] at hle
      have hle := Nat.le_of_ble_eq_true hle.1
      cases h
      cases hx
      refine ⟨_, ?_, u8_LR _⟩
      unfold Builtin.firstCells
      have : ((s.extract 0 n).data.map fun b => Value.int .u8 b.toNat) = ⟨(s.data.toList.take n).map u8⟩ := by
        apply Array.ext'
        simp [List.extract_eq_take_drop]
        rfl
      show (pure ((s.extract 0 n).data.map fun b => Value.int .u8 b.toNat) : Sem _).run P w = _
      rw [this]
      rfl
    · cases h
  · cases h

theorem toString_ok (hs : SR P N μ H w) {x x' : Value} (h : toStringM x H = .ok v H') (hx : VR μ x x') :
    H' = H ∧ (Conv.bytesToString x').run P w = .ok v w ∧ VR μ v v := by
  unfold toStringM at h
  split at h
  · rename_i a len cap
    split at h
    · rename_i cs hcs
      split at h
      · rename_i l hl
        cases h
        refine ⟨rfl, ?_, .string _⟩
        obtain ⟨cs', hrun, hLR⟩ := cells_ok hs hcs hx
        obtain ⟨ns, rfl, rfl⟩ := bytesOfCells_map _ _ hl
        have : cs' = ns.map (.int .u8) := flat_eq_of_LR (fun a ha => by
          obtain ⟨n, _, rfl⟩ := List.mem_map.1 ha
          exact .inr (.inl ⟨_, _, rfl⟩)) hLR
        subst this
        have loop : ∀ (f : Value → ByteArray → Sem (ForInStep ByteArray)), (∀ n r, f (.int .u8 n) r = pure (.yield (r.push (UInt8.ofNat n.toNat)))) → ∀ (ns : List Int) (acc : ByteArray),
            (forIn (m := Sem) (⟨ns.map (.int .u8)⟩ : Array Value) acc f).run P w = .ok ⟨⟨acc.data.toList ++ ns.map fun n => UInt8.ofNat n.toNat⟩⟩ w := by
          intro f hf ns
          induction ns with
          | nil =>
            intro acc
            rw [← Array.forIn_toList]
            simp only [List.map_nil, List.forIn_nil, List.append_nil]
            rfl
          | cons n ns ih =>
            intro acc
            have ih := ih (acc.push (UInt8.ofNat n.toNat))
            rw [← Array.forIn_toList] at ih ⊢
            simp only [List.map_cons, List.forIn_cons, Sem.run_bind, pure_bind, hf] at ih ⊢
            rw [ih]
            simp
        unfold Conv.bytesToString
        cases a with
        | none =>
          cases hx
          unfold cellsM at hcs
          simp only at hcs
          split at hcs
          · have hns := (Option.some.inj hcs).symm
            cases ns with
            | nil => rfl
            | cons n ns => simp at hns
          · cases hcs
        | some a0 =>
          cases hx with
          | slice hμ hc hn ha hl2 =>
            rename_i i off lo c' a'
            have hlc : (loadCells a' len).run P w = .ok ⟨ns.map (.int .u8)⟩ w := by
              have : (Builtin.firstCells 1 len (.slice (some a') len c')).run P w = (loadCells a' (len * 1)).run P w := rfl
              rw [this, Nat.mul_one] at hrun
              exact hrun
            simp only [Sem.run_bind, hlc, Result.andThen_ok]
            rw [loop _ (fun n r => rfl) ns ByteArray.empty]
            rfl
      · cases h
    · cases h
  · cases h
end
end Go.Abs
