import Derived.Test.YtpjkibffomknmaaGreatAbsNP
/- Operations that may be run late: what they do does not hang on the heap, or only in the name of what is new. -/
namespace Go.Abs
open Go

section
variable {P : Program} {N : Nat} {μ : Mu} {H H' : Hp} {w : World} {v : Value}

/-- something new, whatever its name will be -/
def AR (P : Program) (μ : Mu) (w : World) (f : Nat → Value) (ob : Ob) (r : Result Value) : Prop :=
  ∃ v' ob' l w1, r = .ok v' (w1.alloc ob') ∧ (w1 = w ∨ w1 = w.drew) ∧ l.b = w.heap.size ∧ OR P μ l ob ob' ∧ ∀ (μ' : Mu) (s : Nat), μ' s = some l → VR μ' (f s) v'

theorem row_or {cs cs' : List Value} {ty : TypeId} {z : Nat} (w : World) (hc : LR μ cs cs') (extra : List Value) (fz : Nat × Nat) (hfz : ∀ off, off < (cs' ++ extra).length → ¬ (fz.1 ≤ off ∧ off < fz.2)) :
    OR P μ ⟨w.heap.size, 0, (cs' ++ extra).length, z⟩ (.cells cs z false) (.cells ⟨cs' ++ extra⟩ ty fz) :=
  ⟨_, ty, fz, rfl, rfl, by
      show 0 + cs.length ≤ (cs' ++ extra).length
      rw [List.length_append, hc.len]; omega, by
      show LR _ cs (((cs' ++ extra).drop 0).take cs.length)
      rw [List.drop_zero, hc.len, List.take_left' rfl]
      exact hc, fun _ off ho => hfz off ho, rfl⟩

theorem row_or0 {cs cs' : List Value} {ty : TypeId} {z : Nat} (w : World) (hc : LR μ cs cs') :
    OR P μ ⟨w.heap.size, 0, cs'.length, z⟩ (.cells cs z false) (.cells ⟨cs'⟩ ty) := by
  have := row_or (P := P) (ty := ty) (z := z) w hc [] (0, 0) (fun off _ => by omega)
  rw [List.append_nil] at this
  exact this

theorem newVar_ar {cs : List Value} {x' : Value} {t : TypeId} {z : Nat} (hc : LR μ cs x'.cells.toList) :
    AR P μ w (fun s => .pointer (some ⟨s, 0, none⟩)) (.cells cs z false) ((do pure (.pointer (some (← newVar t x'))) : Sem Value).run P w) := by
  refine ⟨.pointer (some ⟨w.heap.size, 0, none⟩), .cells x'.cells t, ⟨w.heap.size, 0, x'.cells.toList.length, z⟩, w, ?_, .inl rfl, rfl, row_or0 w hc, fun μ' s hm => VR.ptr (μ := μ') (off := 0) hm⟩
  simp only [newVar, newRow, Sem.run_bind, run_newObj_alloc, Result.andThen_ok]
  rfl

/-- an operation that only makes something new -/
def NewOp (P : Program) (st : St) (o : Oper) (f : Nat → Value) (ob : Ob) : Prop :=
  rwOb ob = true ∧ (∀ s, f s ≠ undefV) ∧ ∀ (μ : Mu) (w : World) (ρ : Operand → Value), (∀ x ∈ o.op.operands.toList, VR μ (st.op x) (ρ x)) → ∃ s : Sem Value, (execOp ρ o).run P w = Sem.run P (do pure (.value (← s))) w ∧ AR P μ w f ob (s.run P w)

theorem buildSlice_ar {t e : TypeId} {st ρ : Operand → Value} {parts : List (Nat × Operand)} {len : Nat} {cs : List Value} (hd : descOf P t = .slice e) (ht : okZ P e = true)
    (hv : ∀ p, p ∈ parts → VR μ (st p.2) (ρ p.2)) (hle : (Nat.ble (len * (zeroCellsT P e).length) 1000000 && Nat.ble len 1000000) = true) (hf : fillL (parts.map fun q => (q.1 * sizeT P e, sizeT P e, st q.2)) (rep (zeroCellsT P e) len) = some cs) :
    AR P μ w (fun s => .slice (some ⟨s, 0, none⟩) len len) (.cells cs (sizeT P e) false) ((Instr.buildSlice t len (parts.map fun q => (q.1, ρ q.2)).toArray).run P w) := by
  obtain ⟨hok, z, _, h2, h3, h4, h5, h6⟩ := okZ_spec ht
  have hu := descOf_some hd (by simp)
  simp only [Bool.and_eq_true] at hle
  have hle2 := Nat.le_of_ble_eq_true hle.2
  have hle := Nat.le_of_ble_eq_true hle.1
  have hz := (h5.VR μ).cells h6
  rw [← h3] at hz
  have hL : L2 (fun (p : Nat × Nat × Value) (q : Nat × Value) => (fun i => some (i * sizeT P e, sizeT P e)) q.1 = some (p.1, p.2.1) ∧ VR μ p.2.2 q.2)
      (parts.map fun q => (q.1 * sizeT P e, sizeT P e, st q.2)) (parts.map fun q => (q.1, ρ q.2)) := L2.map_same _ _ _ fun q hq => ⟨rfl, hv q hq⟩
  obtain ⟨r', e1, e2⟩ := fill_ok (fun i => some (i * sizeT P e, sizeT P e)) _ _ _ _ cs hL (rep_LR hz len) hf
  have hzl : (zeroCellsT P e).length = sizeT P e := by rw [h3]; exact h4
  rw [hzl] at hle
  refine ⟨.slice (some ⟨w.heap.size, 0, none⟩) len len, .cells ⟨r'⟩ e, ⟨w.heap.size, 0, r'.length, sizeT P e⟩, w, ?_, .inl rfl, rfl, row_or0 w e2, fun μ' s m1 => ?_⟩
  · unfold Instr.buildSlice
    simp only [Sem.run_bind, run_underlying hu, Result.andThen_ok, run_sizeT hok]
    rw [if_neg (by have : (2:Nat)^24 = 16777216 := by decide
                   omega)]
    by_cases hz0 : len * sizeT P e = 0
    · have ecells : (Array.range (len * sizeT P e)).map ((#[] : Array Value)[· % (#[] : Array Value).size]!) = ⟨rep (zeroCellsT P e) len⟩ := by
        rw [hz0]
        apply Array.ext'
        have : (rep (zeroCellsT P e) len).length = 0 := by rw [rep_length, hzl, hz0]
        rw [List.eq_nil_of_length_eq_zero this]
        simp
      rw [if_pos hz0]
      simp only [pure_bind]
      rw [ecells, e1]
      simp only [newRow, Sem.run_bind, run_newObj_alloc, Result.andThen_ok]
      rfl
    · have ecells : (Array.range (len * sizeT P e)).map (z.cells[· % z.cells.size]!) = ⟨rep (zeroCellsT P e) len⟩ := by
        rw [h3]
        exact zeros_eq z.cells len (sizeT P e) h4
      rw [if_neg hz0]
      simp only [Sem.run_bind, h2, Result.andThen_ok, pure_bind]
      rw [ecells, e1]
      simp only [newRow, Sem.run_bind, run_newObj_alloc, Result.andThen_ok]
      rfl
  · have hlt : len < INX := by
      have := pow70_lt
      omega
    exact VR.slice (μ := μ') (off := 0) (n := len) (c := len) (c' := len) m1 (by unfold CapR; rw [if_neg (by omega)]) (Nat.le_refl _) (.inl rfl) (fun hc => by omega)

theorem makeSlice_ar {t e : TypeId} {k k' : IntKind} {l c : Nat} (hd : descOf P t = .slice e) (ht : okZ P e = true) (hb : (Nat.ble l c && Nat.ble (c * (bytesT P e + 1)) (2 ^ 47)) = true) :
    AR P μ w (fun s => .slice (some ⟨s, 0, none⟩) l c) (.cells (rep (zeroCellsT P e) c) (sizeT P e) false) ((Instr.makeSlice t (.int k (.ofNat l)) (.int k' (.ofNat c))).run P w) := by
  obtain ⟨hok, z, _, h2, h3, h4, h5, h6⟩ := okZ_spec ht
  obtain ⟨i, d, hi, _⟩ := okT_iff hok
  have hu := descOf_some hd (by simp)
  have hby : bytesT P e = i.bytes := by simp [bytesT, Program.bytesOf, hi]
  simp only [Bool.and_eq_true] at hb
  have hb1 := Nat.le_of_ble_eq_true hb.1
  have hb2 := Nat.le_of_ble_eq_true hb.2
  have hz := (h5.VR μ).cells h6
  rw [← h3] at hz
  have h47 : (2 : Nat) ^ 47 = 140737488355328 := by decide
  have hc47 : c ≤ 2 ^ 47 := Nat.le_trans (Nat.le_mul_of_pos_right c (Nat.succ_pos _)) hb2
  have hcb : c * i.bytes ≤ 2 ^ 47 := Nat.le_trans (Nat.mul_le_mul_left c (by rw [hby]; omega)) hb2
  refine ⟨.slice (some ⟨w.heap.size, 0, none⟩) l c, .cells ⟨rep (zeroCellsT P e) c⟩ e, ⟨w.heap.size, 0, (rep (zeroCellsT P e) c).length, sizeT P e⟩, w, ?_, .inl rfl, rfl, row_or0 w (rep_LR hz c), fun μ' s m1 => ?_⟩
  · unfold Instr.makeSlice
    have hwl := wrap_small (l := l) (by omega)
    have hwc := wrap_small (l := c) hc47
    simp only [Sem.run_bind, run_underlying hu, Result.andThen_ok, asInt, asIntOf, run_typeInfo w hi, pure_bind, hwl, hwc]
    have hcond : (decide (Int.ofNat c < 0) || decide ((i.bytes : Int) * Int.ofNat c > 2 ^ 48) || decide (Int.ofNat l < 0) || decide (Int.ofNat l > Int.ofNat c)) = false := by
      have e48 : ((2 : Int) ^ 48) = 281474976710656 := by decide
      have hm : (i.bytes : Int) * Int.ofNat c ≤ 140737488355328 := by
        have : ((c * i.bytes : Nat) : Int) ≤ ((2 ^ 47 : Nat) : Int) := Int.ofNat_le.2 hcb
        rw [h47] at this
        rw [Int.mul_comm]
        have e : ((c * i.bytes : Nat) : Int) = Int.ofNat c * (i.bytes : Int) := by simp
        rw [← e]; exact this
      have e1 : (Int.ofNat c : Int) = (c : Int) := rfl
      have e2 : (Int.ofNat l : Int) = (l : Int) := rfl
      simp only [Bool.or_eq_false_iff, decide_eq_false_iff_not]
      rw [e1] at hm
      rw [e1, e2]
      exact ⟨⟨⟨by omega, by omega⟩, by omega⟩, by omega⟩
    rw [if_neg (by rw [hcond]; simp)]
    simp only [Sem.run_bind, askRoom_run, Result.andThen_ok, run_sizeT hok]
    have ec : (Int.ofNat c).toNat = c := rfl
    have el : (Int.ofNat l).toNat = l := rfl
    simp only [ec, el]
    have hzl : (zeroCellsT P e).length = sizeT P e := by rw [h3]; exact h4
    by_cases hz0 : c * sizeT P e = 0
    · have ecells : (Array.range (c * sizeT P e)).map ((#[] : Array Value)[· % (#[] : Array Value).size]!) = ⟨rep (zeroCellsT P e) c⟩ := by
        rw [hz0]
        apply Array.ext'
        have : (rep (zeroCellsT P e) c).length = 0 := by rw [rep_length, hzl, hz0]
        rw [List.eq_nil_of_length_eq_zero this]
        simp
      rw [if_pos hz0]
      rw [ecells]
      simp only [newRow, Sem.run_bind, run_newObj_alloc, Result.andThen_ok]
      rfl
    · have ecells : (Array.range (c * sizeT P e)).map (z.cells[· % z.cells.size]!) = ⟨rep (zeroCellsT P e) c⟩ := by
        rw [h3]
        exact zeros_eq z.cells c (sizeT P e) h4
      rw [if_neg hz0]
      simp only [Sem.run_bind, h2, Result.andThen_ok]
      rw [ecells]
      simp only [newRow, Sem.run_bind, run_newObj_alloc, Result.andThen_ok]
      rfl
  · have hlt : c < INX := by
      have : (2:Nat)^47 < INX := by decide
      omega
    exact VR.slice (μ := μ') (off := 0) (n := l) (c := c) (c' := c) m1 (by unfold CapR; rw [if_neg (by omega)]) hb1 (.inl rfl) (fun hc => by omega)

theorem toBytes_ar {e : TypeId} (s : ByteArray) (h1 : sizeT P e = 1) :
    AR P μ w (fun i => .slice (some ⟨i, 0, none⟩) s.data.toList.length (INX + s.data.toList.length)) (.cells (s.data.toList.map u8) (sizeT P e) false) ((Conv.stringToBytes e s).run P w) := by
  have hsz := str_size s
  generalize hcap : (Question.appendCap s.size 0 e).cut (w.tape w.drawn (Question.appendCap s.size 0 e)) = cap
  have hle : s.size ≤ cap := by rw [← hcap]; simp [Question.cut]
  have hasz : (s.data.toList.map u8 ++ List.replicate (cap - s.size) (Value.int .u8 0)).length = cap := by
    simp only [List.length_append, List.length_map, List.length_replicate]; omega
  refine ⟨.slice (some ⟨w.heap.size, 0, none⟩) s.size cap, .cells ⟨s.data.toList.map u8 ++ List.replicate (cap - s.size) (Value.int .u8 0)⟩ e (cap, cap + 1),
    ⟨w.heap.size, 0, (s.data.toList.map u8 ++ List.replicate (cap - s.size) (Value.int .u8 0)).length, sizeT P e⟩, w.drew, ?_, .inr rfl, rfl,
    row_or w (u8_LR (μ := μ) s.data.toList) _ (cap, cap + 1) (fun off ho => by rw [hasz] at ho; omega), fun μ' i m1 => ?_⟩
  · unfold Conv.stringToBytes
    have hch : (choose (.appendCap s.size 0 e)).run P w = .ok cap w.drew := by
      rw [run_choose_drew]
      simp only [Question.forced, Bool.false_eq_true, if_false, hcap]
    have harr : ((s.data.map fun b => Value.int .u8 b.toNat) ++ Array.replicate (cap - s.size) (.int .u8 0)) = (⟨s.data.toList.map u8 ++ List.replicate (cap - s.size) (Value.int .u8 0)⟩ : Array Value) := by
      apply Array.ext'
      simp
      intro a _
      rfl
    simp only [Sem.run_bind, hch, Result.andThen_ok, newRow, run_newObj_alloc]
    rw [harr]
    have e0 : ∀ (a : Addr) (w : World), (pure a : Sem Addr).run P w = .ok a w := fun _ _ => rfl
    rw [e0]
    simp only [Result.andThen_ok]
    have hfr := freeze_new w.drew (⟨s.data.toList.map u8 ++ List.replicate (cap - s.size) (Value.int .u8 0)⟩ : Array Value) e
    rw [show (⟨s.data.toList.map u8 ++ List.replicate (cap - s.size) (Value.int .u8 0)⟩ : Array Value).size = cap from hasz] at hfr
    have hsh : (w.drew.alloc (.cells ⟨s.data.toList.map u8 ++ List.replicate (cap - s.size) (Value.int .u8 0)⟩ e)).shape? w.drew.heap.size = some (e, cap) := by
      unfold World.shape?
      rw [alloc_same]
      simp only [show (⟨s.data.toList.map u8 ++ List.replicate (cap - s.size) (Value.int .u8 0)⟩ : Array Value).size = cap from hasz]
    rw [markStringish_run hsh, hfr]
    rfl
  · have := VR.slice (μ := μ') (off := 0) (n := s.size) (c := INX + s.size) (c' := cap) (a' := ⟨w.heap.size, 0 + 0, none⟩) m1 (by unfold CapR; rw [if_pos (by omega)]; omega) hle (.inl rfl) (fun _ _ => by rw [hasz, h1]; show 0 + 0 + cap * 1 ≤ cap; omega)
    rw [hsz] at this ⊢
    exact this

theorem makeMap_ar {t : TypeId} : AR P μ w (fun s => .map (some s)) (.map [] 0) ((Instr.makeMap t none).run P w) :=
  ⟨_, _, ⟨w.heap.size, 0, 0, 0⟩, w, rfl, .inl rfl, rfl, ⟨#[], rfl, .nil, rfl⟩, fun _ _ hm => VR.map hm⟩

/-- an operation of the class `alloc` -/
theorem new_op (cl : Tgt → List Value → M Value) {st : St} {o : Oper} (hc : isAlloc (clsOf P o) = true) (h : opM P cl st o H = .ok v H') :
    ∃ f ob, v = f H.size ∧ H' = H.new ob ∧ NewOp P st o f ob := by
  obtain ⟨dst, op, ty, pos, after, guard⟩ := o
  cases op <;> simp only [opM] at h <;> try (cases hc; done)
  all_goals try (cases h; done)
  all_goals simp only [clsOf] at hc
  case alloc t =>
    obtain ⟨ht, h⟩ := zyM_ok h
    unfold allocM at h
    cases h
    refine ⟨fun s => .pointer (some ⟨s, 0, none⟩), _, rfl, rfl, rfl, fun s => by simp [undefV], fun μ w ρ hρ => ⟨Instr.alloc t true (.tuple #[]), rfl, ?_⟩⟩
    obtain ⟨_, z, _, h2, h3, h4, h5, h6⟩ := okZ_spec (ht t (by simp))
    have hz := (h5.VR μ).cells h6
    rw [h3]
    have := newVar_ar (P := P) (w := w) (t := t) (z := sizeT P t) hz
    unfold Instr.alloc
    simp only [Sem.run_bind, h2, Result.andThen_ok] at this ⊢
    exact this
  case box t x =>
    obtain ⟨ht, h⟩ := tyM_ok h
    unfold boxM at h
    split at h
    · cases h
    · rename_i hne
      cases h
      refine ⟨fun s => .pointer (some ⟨s, 0, none⟩), _, rfl, rfl, rfl, fun s => by simp [undefV], fun μ w ρ hρ => ⟨Instr.box t (ρ x), rfl, ?_⟩⟩
      exact newVar_ar ((hρ x (by simp [Op.operands])).cells fun e => hne #[] e)
  case buildSlice t len parts =>
    cases hd : descOf P t <;> simp only [hd] at h <;> try (cases h; done)
    rename_i e
    obtain ⟨ht, h⟩ := zyM_ok h
    unfold buildSliceM at h
    split at h
    · rename_i cs hle hf
      cases h
      refine ⟨fun s => .slice (some ⟨s, 0, none⟩) len len, _, rfl, rfl, rfl, fun s => by simp [undefV], fun μ w ρ hρ => ⟨Instr.buildSlice t len (parts.map fun (x : Nat × Operand) => (x.1, ρ x.2)), rfl, ?_⟩⟩
      have e1 : (parts.map fun (x : Nat × Operand) => (x.1, ρ x.2)) = (parts.toList.map fun q => (q.1, ρ q.2)).toArray := by
        apply Array.ext'
        simp
      rw [e1]
      exact buildSlice_ar (st := st.op) hd (ht e (by simp)) (fun p hp => hρ p.2 (by simp only [Op.operands]; simpa using ⟨p.1, by simpa using hp⟩)) hle hf
    · cases h
  case makeSlice t l c =>
    cases hd : descOf P t <;> simp only [hd] at h <;> try (cases h; done)
    rename_i e
    obtain ⟨ht, h⟩ := zyM_ok h
    unfold makeSliceM at h
    split at h
    · rename_i k l' k' c' hl hcc
      split at h
      · rename_i hb
        cases h
        refine ⟨fun s => .slice (some ⟨s, 0, none⟩) l' c', _, rfl, rfl, rfl, fun s => by simp [undefV], fun μ w ρ hρ => ⟨Instr.makeSlice t (ρ l) (ρ c), rfl, ?_⟩⟩
        have h1 := hρ l (by simp [Op.operands])
        have h2 := hρ c (by simp [Op.operands])
        rw [hl] at h1
        rw [hcc] at h2
        have e1 : ρ l = .int k (.ofNat l') := (fun x (h : VR μ (.int k (.ofNat l')) x) => by cases h; rfl : ∀ x, VR μ (.int k (.ofNat l')) x → x = .int k (.ofNat l')) _ h1
        have e2 : ρ c = .int k' (.ofNat c') := (fun x (h : VR μ (.int k' (.ofNat c')) x) => by cases h; rfl : ∀ x, VR μ (.int k' (.ofNat c')) x → x = .int k' (.ofNat c')) _ h2
        rw [e1, e2]
        exact makeSlice_ar hd (ht e (by simp)) hb
      · cases h
    · cases h
  case makeMap t r =>
    cases r with
    | none =>
      cases h
      exact ⟨fun s => .map (some s), _, rfl, rfl, rfl, fun s => by simp [undefV], fun μ w ρ hρ => ⟨Instr.makeMap t none, rfl, makeMap_ar⟩⟩
    | some r => cases h
  case convert s d x =>
    unfold convM at h
    cases hs1 : descOf P s <;> simp only [hs1] at h hc <;> try (cases hc; done)
    all_goals try (cases h; done)
    cases hd1 : descOf P d <;> simp only [hd1] at h <;> try (cases h; done)
    rename_i e
    have us := descOf_some hs1 (by simp)
    have ud := descOf_some hd1 (by simp)
    cases he : descOf P e <;> simp only [he] at h <;> try (cases h; done)
    rename_i k
    have ue := descOf_some he (by simp)
    cases k <;> first | (cases h; done) | skip
    cases h1 : Nat.beq (sizeT P e) 1 <;> rw [h1] at h <;> try (cases h; done)
    unfold toBytesM at h
    cases hb : st.op x <;> simp only [hb] at h <;> try (cases h; done)
    rename_i b
    cases h
    refine ⟨fun i => .slice (some ⟨i, 0, none⟩) b.data.toList.length (INX + b.data.toList.length), _, rfl, rfl, rfl, fun s => by simp [undefV], fun μ w ρ hρ => ⟨convert s d (ρ x), rfl, ?_⟩⟩
    have h2 := hρ x (by simp [Op.operands])
    rw [hb] at h2
    have e1 : ρ x = .string b := (fun y (h : VR μ (.string b) y) => by cases h; rfl : ∀ y, VR μ (.string b) y → y = .string b) _ h2
    rw [e1]
    have := toBytes_ar (P := P) (μ := μ) (w := w) b (Nat.eq_of_beq_eq_true h1)
    unfold convert
    simp only [Sem.run_bind, run_underlying us, run_underlying ud, run_underlying ue, Result.andThen_ok]
    exact this
  case slice t x lo hi mx =>
    cases hd : descOf P t <;> simp only [hd] at hc <;> cases hc
  case call c =>
    obtain ⟨callee, args, ats⟩ := c
    cases callee with
    | value f => cases hc
    | invoke r n => cases hc
    | builtin b =>
      cases b <;> try (cases hc; done)
      simp only at hc
      cases hts : ats.toList with
      | nil => rw [hts] at hc; cases hc
      | cons t ts =>
        rw [hts] at hc
        cases ts with
        | cons t2 ts => cases hc
        | nil => cases hd : descOf P t <;> simp only [hd] at hc <;> cases hc
end
end Go.Abs
