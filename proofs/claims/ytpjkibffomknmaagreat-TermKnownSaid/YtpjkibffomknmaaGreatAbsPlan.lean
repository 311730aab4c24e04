import Derived.Test.YtpjkibffomknmaaGreatAbsLate
/- Which operations hang on the heap, and what the static checks of a region say. -/
namespace Go.Abs
open Go

section
variable {P : Program}

/-! ## Pure operations, reads -/
def PureM (m : M Value) : Prop := ∀ h v h', m h = .ok v h' → h' = h ∧ ∀ h2, m h2 = .ok v h2
def ReadM (m : M Value) : Prop := ∀ h v h', m h = .ok v h' → h' = h

theorem PureM.read {m : M Value} (h : PureM m) : ReadM m := fun a b c e => (h a b c e).1

theorem pu_fail : PureM failM := fun h v h' e => by cases e
theorem pu_pure (a : Value) : PureM (pureM a) := fun h v h' e => by cases e; exact ⟨rfl, fun _ => rfl⟩
theorem pu_tyM {ts : List TypeId} {m : M Value} (h : PureM m) : PureM (tyM P ts m) := by
  unfold tyM; split
  · exact h
  · exact pu_fail
theorem pu_zyM {ts : List TypeId} {m : M Value} (h : PureM m) : PureM (zyM P ts m) := by
  unfold zyM; split
  · exact h
  · exact pu_fail
theorem rd_tyM {ts : List TypeId} {m : M Value} (h : ReadM m) : ReadM (tyM P ts m) := by
  unfold tyM; split
  · exact h
  · exact pu_fail.read
theorem rd_zyM {ts : List TypeId} {m : M Value} (h : ReadM m) : ReadM (zyM P ts m) := by
  unfold zyM; split
  · exact h
  · exact pu_fail.read

theorem pu_pickM (c a b : Value) : PureM (pickM c a b) := fun h v h' e => by
  revert e; unfold pickM; (repeat' split) <;> intro e <;> first | (cases e; done) | (cases e; exact ⟨rfl, fun _ => rfl⟩)
theorem pu_buildM (z : List Value) (ps : List (Nat × Nat × Value)) : PureM (buildM z ps) := fun h v h' e => by
  revert e; unfold buildM; (repeat' split) <;> intro e <;> first | (cases e; done) | (cases e; exact ⟨rfl, fun _ => rfl⟩)
theorem pu_nilCheckM (p : Value) : PureM (nilCheckM p) := fun h v h' e => by
  revert e; unfold nilCheckM; (repeat' split) <;> intro e <;> first | (cases e; done) | (cases e; exact ⟨rfl, fun _ => rfl⟩)
theorem pu_intM (op : BinOp) (k : IntKind) (x y : Int) : PureM (intM op k x y) := fun h v h' e => by
  revert e; unfold intM; (repeat' split) <;> intro e <;> first | (cases e; done) | (cases e; exact ⟨rfl, fun _ => rfl⟩)
theorem pu_strM (op : BinOp) (a b : ByteArray) : PureM (strM op a b) := fun h v h' e => by
  revert e; unfold strM; (repeat' split) <;> intro e <;> first | (cases e; done) | (cases e; exact ⟨rfl, fun _ => rfl⟩)
theorem pu_shM (op : BinOp) (k : IntKind) (x y : Int) : PureM (shM op k x y) := fun h v h' e => by
  revert e; unfold shM; (repeat' split) <;> intro e <;> first | (cases e; done) | (cases e; exact ⟨rfl, fun _ => rfl⟩)
theorem pu_binM (op : BinOp) (a b : Value) : PureM (binM op a b) := fun h v h' e => by
  revert e; unfold binM
  split
  · split
    · exact fun e => pu_shM _ _ _ _ _ _ _ e
    · split
      · intro e; cases e
      · exact fun e => pu_intM _ _ _ _ _ _ _ e
  · exact fun e => pu_strM _ _ _ _ _ _ e
  · intro e; cases e
theorem pu_eqM (k : EK) (n : Bool) (a b : Value) : PureM (eqM k n a b) := fun h v h' e => by
  revert e; unfold eqM; split <;> intro e <;> first | (cases e; done) | (cases e; exact ⟨rfl, fun _ => rfl⟩)
theorem pu_binopM (op : BinOp) (t : TypeId) (c : Bool) (a b : Value) : PureM (binopM P op t c a b) := by
  unfold binopM; split
  · exact pu_binM _ _ _
  · exact pu_binM _ _ _
  · split
    · split
      · exact pu_eqM _ _ _ _
      · exact pu_fail
    · split
      · exact pu_eqM _ _ _ _
      · exact pu_fail
    · exact pu_fail
theorem pu_unM (op : UnOp) (x : Value) : PureM (unM op x) := fun h v h' e => by
  revert e; unfold unM; split
  · intro e; cases e; exact ⟨rfl, fun _ => rfl⟩
  · intro e; cases e; exact ⟨rfl, fun _ => rfl⟩
  · exact fun e => pu_intM _ _ _ _ _ _ _ e
  · intro e; cases e
theorem pu_ifaceM (t : TypeId) (x : Value) : PureM (ifaceM t x) := fun h v h' e => by
  revert e; unfold ifaceM; (repeat' split) <;> intro e <;> first | (cases e; done) | (cases e; exact ⟨rfl, fun _ => rfl⟩)
theorem pu_fieldAddrM (o : Nat) (p : Value) : PureM (fieldAddrM o p) := fun h v h' e => by
  revert e; unfold fieldAddrM; (repeat' split) <;> intro e <;> first | (cases e; done) | (cases e; exact ⟨rfl, fun _ => rfl⟩)
theorem pu_elemAddrM (s : Nat) (p ix : Value) : PureM (elemAddrM s p ix) := fun h v h' e => by
  revert e; unfold elemAddrM; (repeat' split) <;> intro e <;> first | (cases e; done) | (cases e; exact ⟨rfl, fun _ => rfl⟩)
theorem pu_arrAddrM (l s : Nat) (p ix : Value) : PureM (arrAddrM l s p ix) := fun h v h' e => by
  revert e; unfold arrAddrM; (repeat' split) <;> intro e <;> first | (cases e; done) | (cases e; exact ⟨rfl, fun _ => rfl⟩)
theorem pu_fieldM (a : Bool) (n o : Nat) (x : Value) : PureM (fieldM a n o x) := fun h v h' e => by
  revert e; unfold fieldM; (repeat' split) <;> intro e <;> first | (cases e; done) | (cases e; exact ⟨rfl, fun _ => rfl⟩)
theorem pu_indexM (l : Nat) (a : Bool) (s : Nat) (x ix : Value) : PureM (indexM l a s x ix) := fun h v h' e => by
  revert e; unfold indexM; (repeat' split) <;> intro e <;> first | (cases e; done) | (cases e; exact ⟨rfl, fun _ => rfl⟩)
theorem pu_indexStrM (x ix : Value) : PureM (indexStrM x ix) := fun h v h' e => by
  revert e; unfold indexStrM; (repeat' split) <;> intro e <;> first | (cases e; done) | (cases e; exact ⟨rfl, fun _ => rfl⟩)
theorem pu_typeAssertM (t : TypeId) (z : Option Value) (x : Value) : PureM (typeAssertM t z x) := fun h v h' e => by
  revert e; unfold typeAssertM; (repeat' split) <;> intro e <;> first | (cases e; done) | (cases e; exact ⟨rfl, fun _ => rfl⟩)
theorem pu_extractM (p : Value) (i : Nat) : PureM (extractM p i) := fun h v h' e => by
  revert e; unfold extractM; (repeat' split) <;> intro e <;> first | (cases e; done) | (cases e; exact ⟨rfl, fun _ => rfl⟩)
theorem pu_convIntM (k : IntKind) (x : Value) : PureM (convIntM k x) := fun h v h' e => by
  revert e; unfold convIntM; (repeat' split) <;> intro e <;> first | (cases e; done) | (cases e; exact ⟨rfl, fun _ => rfl⟩)
theorem pu_sliceStrM (x : Value) (lo hi : Option Value) : PureM (sliceStrM x lo hi) := fun h v h' e => by
  revert e; unfold sliceStrM; (repeat' split) <;> intro e <;> first | (cases e; done) | (cases e; exact ⟨rfl, fun _ => rfl⟩)
theorem pu_sliceArrM (n s : Nat) (x : Value) (lo hi : Option Value) : PureM (sliceArrM n s x lo hi) := fun h v h' e => by
  revert e; unfold sliceArrM; split
  · split
    · split <;> intro e <;> first | (cases e; done) | (cases e; exact ⟨rfl, fun _ => rfl⟩)
    · intro e; cases e
  · intro e; cases e
theorem pu_lenSlM (x : Value) : PureM (lenSlM x) := fun h v h' e => by
  revert e; unfold lenSlM; (repeat' split) <;> intro e <;> first | (cases e; done) | (cases e; exact ⟨rfl, fun _ => rfl⟩)
theorem pu_lenStrM (x : Value) : PureM (lenStrM x) := fun h v h' e => by
  revert e; unfold lenStrM; (repeat' split) <;> intro e <;> first | (cases e; done) | (cases e; exact ⟨rfl, fun _ => rfl⟩)
theorem pu_minM (f : Value → Value → Option Value) (xs : List Value) : PureM (minM f xs) := fun h v h' e => by
  revert e; unfold minM; (repeat' split) <;> intro e <;> first | (cases e; done) | (cases e; exact ⟨rfl, fun _ => rfl⟩)

theorem rd_ldM (a : Bool) (n : Nat) (p : Value) : ReadM (ldM a n p) := fun h v h' e => by
  revert e; unfold ldM; (repeat' split) <;> intro e <;> first | (cases e; done) | (cases e; rfl)
theorem rd_lookupM (ek : EK) (z : Option Value) (ok : Bool) (x k : Value) : ReadM (lookupM ek z ok x k) := fun h v h' e => by
  unfold lookupM at e
  split at e
  · simp only at e
    split at e
    · cases e; rfl
    · cases e; rfl
    · cases e
  · cases e
theorem rd_entryM (p : Value) : ReadM (entryM p) := fun h v h' e => by
  revert e; unfold entryM; (repeat' split) <;> intro e <;> first | (cases e; done) | (cases e; rfl)
theorem rd_toStringM (x : Value) : ReadM (toStringM x) := fun h v h' e => by
  revert e; unfold toStringM; (repeat' split) <;> intro e <;> first | (cases e; done) | (cases e; rfl)
theorem rd_sliceSlM (s : Nat) (x : Value) (lo hi mx : Option Value) : ReadM (sliceSlM s x lo hi mx) := fun h v h' e => by
  unfold sliceSlM at e
  split at e
  · split at e
    · split at e
      · split at e
        · split at e
          · cases e; rfl
          · cases e
        · cases e
      · split at e
        · split at e
          · split at e
            · split at e
              · cases e; rfl
              · cases e
            · cases e
          · cases e; rfl
        · cases e
    · cases e
  · cases e
theorem rd_lenMapM (x : Value) : ReadM (lenMapM x) := fun h v h' e => by
  revert e; unfold lenMapM; (repeat' split) <;> intro e <;> first | (cases e; done) | (cases e; rfl)

def isPure : Cls → Bool | .pure => true | _ => false

theorem pure_op (cl : Tgt → List Value → M Value) {st : St} {o : Oper} (hc : isPure (clsOf P o) = true) : PureM (opM P cl st o) := by
  obtain ⟨dst, op, ty, pos, after, guard⟩ := o
  cases op <;> simp only [clsOf] at hc <;> try (cases hc; done)
  all_goals simp only [opM]
  case move x => exact pu_pure _
  case assign x => exact pu_pure _
  case pick c a b => exact pu_pickM _ _ _
  case build t ps => split <;> first | exact pu_zyM (pu_buildM _ _) | exact pu_fail
  case nilCheck x => exact pu_nilCheckM _
  case binOp op t x y _ => exact pu_binopM _ _ _ _ _
  case unOp op _ x => exact pu_unM _ _
  case makeInterface t x => split <;> first | exact pu_tyM (pu_ifaceM _ _) | exact pu_fail
  case makeFunc f first captured => split <;> first | exact pu_pure _ | exact pu_fail
  case fieldAddr t x f =>
    split
    · split
      · split <;> first | exact pu_fieldAddrM _ _ | exact pu_fail
      · exact pu_fail
    · exact pu_fail
  case field t x f =>
    split
    · split <;> first | exact pu_tyM (pu_fieldM _ _ _ _) | exact pu_fail
    · exact pu_fail
  case indexAddr t x i => split <;> first | exact pu_tyM (pu_elemAddrM _ _ _) | exact pu_tyM (pu_arrAddrM _ _ _ _) | exact pu_fail
  case index t x i => split <;> first | exact pu_tyM (pu_indexM _ _ _ _ _) | exact pu_indexStrM _ _ | exact pu_fail
  case typeAssert x xt t ok =>
    cases ok with
    | false => exact pu_fail
    | true => simp only; split <;> first | exact pu_zyM (pu_typeAssertM _ _ _) | exact pu_fail
  case extract x i => exact pu_extractM _ _
  case makeMap t r => cases r <;> cases hc
  case convert s d x =>
    unfold convM
    cases hs : descOf P s <;> simp only [hs] at hc <;> try (cases hc; done)
    cases hd : descOf P d <;> simp only [] <;> first | exact pu_convIntM _ _ | exact pu_fail
  case slice t x lo hi mx =>
    cases hd : descOf P t <;> simp only [hd] at hc <;> try (cases hc; done)
    all_goals simp only []
    all_goals first | exact pu_fail | skip
    · cases mx <;> first | exact pu_sliceStrM _ _ _ | exact pu_fail
    · cases mx with
      | none => simp only; split <;> first | exact pu_tyM (pu_sliceArrM _ _ _ _ _) | exact pu_fail
      | some m => exact pu_fail
  case call c =>
    obtain ⟨callee, args, ats⟩ := c
    cases callee with
    | value f => cases hc
    | invoke r n => cases hc
    | builtin b =>
      cases b <;> try (cases hc; done)
      · simp only at hc ⊢
        unfold builtinM
        cases hts : ats.toList with
        | nil => exact pu_fail
        | cons t ts =>
          rw [hts] at hc
          cases ts with
          | cons t2 ts => cases hc
          | nil =>
            simp only at hc ⊢
            cases hargs : args.toList.map st.op with
            | nil => exact pu_fail
            | cons x xs =>
              cases xs with
              | cons y ys => exact pu_fail
              | nil =>
                cases hd : descOf P t <;> simp only [hd] at hc ⊢ <;> first | exact pu_fail | exact pu_pure _ | exact pu_lenSlM _ | exact pu_lenStrM _ | (cases hc; done)
      · simp only [builtinM]; exact pu_minM _ _
      · simp only [builtinM]; exact pu_minM _ _

theorem read_op (cl : Tgt → List Value → M Value) {st : St} {o : Oper} (hc : isRead (clsOf P o) = true) : ReadM (opM P cl st o) := by
  obtain ⟨dst, op, ty, pos, after, guard⟩ := o
  cases op <;> simp only [clsOf] at hc <;> try (cases hc; done)
  all_goals simp only [opM]
  case load t a => exact rd_tyM (rd_ldM _ _ _)
  case lookup t x k ok =>
    unfold mapM
    split
    · split <;> first | exact rd_zyM (rd_lookupM _ _ _ _ _) | exact pu_fail.read
    · exact pu_fail.read
  case entry it => exact rd_entryM _
  case makeMap t r => cases r <;> cases hc
  case convert s d x =>
    unfold convM
    cases hs : descOf P s <;> simp only [hs] at hc <;> try (cases hc; done)
    all_goals cases hd : descOf P d <;> simp only [] <;> try exact pu_fail.read
    split <;> first | exact rd_toStringM _ | exact pu_fail.read
  case slice t x lo hi mx =>
    cases hd : descOf P t <;> simp only [hd] at hc <;> try (cases hc; done)
    exact rd_tyM (rd_sliceSlM _ _ _ _ _)
  case call c =>
    obtain ⟨callee, args, ats⟩ := c
    cases callee with
    | value f => cases hc
    | invoke r n => cases hc
    | builtin b =>
      cases b <;> try (cases hc; done)
      · simp only at hc ⊢
        unfold builtinM
        cases hts : ats.toList with
        | nil => exact pu_fail.read
        | cons t ts =>
          rw [hts] at hc
          cases ts with
          | cons t2 ts => cases hc
          | nil =>
            simp only at hc ⊢
            cases hargs : args.toList.map st.op with
            | nil => exact pu_fail.read
            | cons x xs =>
              cases xs with
              | cons y ys => exact pu_fail.read
              | nil =>
                cases hd : descOf P t <;> simp only [hd] at hc ⊢ <;> first | exact rd_lenMapM _ | (cases hc; done)

theorem light_np (cl : Tgt → List Value → M Value) {st : St} {o : Oper} (hc : isHeavy (clsOf P o) = false) : NP (opM P cl st o) := by
  by_cases hi : isCall o.op = false
  · exact np_opM cl st o hi
  · obtain ⟨dst, op, ty, pos, after, guard⟩ := o
    cases op <;> simp only [isCall] at hi <;> try (exact absurd trivial hi)
    case call c =>
      obtain ⟨callee, args, ats⟩ := c
      cases callee with
      | value f => cases hc
      | invoke r n => cases hc
      | builtin b => simp only [opM]; exact np_builtinM _ _ _
    case panic x => cases hc

theorem cls_cases (c : Cls) : isHeavy c = true ∨ isPure c = true ∨ isRead c = true ∨ isAlloc c = true := by cases c <;> simp [isHeavy, isPure, isRead, isAlloc]

/-! ## The plan of a region -/
theorem memN_iff (n : Nat) : ∀ l : List Nat, memN n l = true ↔ n ∈ l
  | [] => by simp [memN]
  | x :: l => by
    unfold memN
    cases h : Nat.beq n x with
    | true => have := Nat.eq_of_beq_eq_true h; subst this; simp
    | false =>
      have := Nat.ne_of_beq_eq_false h
      simp only [memN_iff n l, List.mem_cons]
      exact ⟨.inr, fun h => h.resolve_left this⟩

theorem memN_false {n : Nat} {l : List Nat} (h : memN n l = false) : n ∉ l := fun k => by rw [(memN_iff n l).2 k] at h; cases h

theorem hits_false {d : Nat} {a : Info} (h : hits (some d) a = false) : d ∉ a.looks ∧ a.dst ≠ some d := by
  unfold hits at h
  simp only [Bool.or_eq_false_iff] at h
  refine ⟨memN_false h.1, fun e => ?_⟩
  rw [e] at h
  simp at h

theorem mask_spec (acc : List Info) (j : Nat) : ∀ (es : List Edge), (maskOf acc es).testBit j = true → ∃ e ∈ es, Region.binds .any e = true ∧ ∃ b, acc[e.on]? = some b ∧ (e.on = j ∨ b.anc.testBit j = true)
  | [], h => by simp [maskOf] at h
  | e :: r, h => by
    unfold maskOf at h
    cases hb : Region.binds .any e with
    | false =>
      rw [hb] at h
      obtain ⟨e', h1, h2⟩ := mask_spec acc j r h
      exact ⟨e', List.mem_cons_of_mem _ h1, h2⟩
    | true =>
      rw [hb] at h
      simp only at h
      cases ha : acc[e.on]? with
      | none =>
        rw [ha] at h
        obtain ⟨e', h1, h2⟩ := mask_spec acc j r h
        exact ⟨e', List.mem_cons_of_mem _ h1, h2⟩
      | some a =>
        rw [ha] at h
        simp only [Nat.testBit_or, Bool.or_eq_true] at h
        rcases h with (h | h) | h
        · rw [Nat.testBit_two_pow] at h
          exact ⟨e, by simp, hb, a, ha, .inl (by simpa using h)⟩
        · exact ⟨e, by simp, hb, a, ha, .inr h⟩
        · obtain ⟨e', h1, h2⟩ := mask_spec acc j r h
          exact ⟨e', List.mem_cons_of_mem _ h1, h2⟩

theorem infosGo_len (all : List Oper) : ∀ (l : List Oper) (acc : List Info), (infosGo P all l acc).length = acc.length + l.length
  | [], acc => rfl
  | o :: r, acc => by simp only [infosGo, infosGo_len all r, List.length_append, List.length_cons, List.length_nil]; omega

theorem infosGo_take (all : List Oper) : ∀ (l : List Oper) (acc : List Info), (infosGo P all l acc).take acc.length = acc
  | [], acc => by simp [infosGo]
  | o :: r, acc => by
    have := infosGo_take all r (acc ++ [⟨clsOf P o, o.dst, looksOf all o, maskOf acc o.after.toList⟩])
    have h2 := congrArg (List.take acc.length) this
    rw [List.take_take, List.length_append] at h2
    simp only [infosGo]
    rw [show min acc.length (acc.length + [(⟨clsOf P o, o.dst, looksOf all o, maskOf acc o.after.toList⟩ : Info)].length) = acc.length by omega] at h2
    rw [h2, List.take_left' rfl]

theorem infosGo_spec (all : List Oper) : ∀ (l : List Oper) (acc : List Info) (i : Nat) (o : Oper), l[i]? = some o →
    (infosGo P all l acc)[acc.length + i]? = some ⟨clsOf P o, o.dst, looksOf all o, maskOf ((infosGo P all l acc).take (acc.length + i)) o.after.toList⟩
  | [], acc, i, o, h => by simp at h
  | x :: r, acc, 0, o, h => by
    simp only [List.getElem?_cons_zero, Option.some.injEq] at h
    subst h
    simp only [infosGo]
    have h1 := infosGo_take (P := P) all r (acc ++ [⟨clsOf P x, x.dst, looksOf all x, maskOf acc x.after.toList⟩])
    generalize hL : infosGo P all r (acc ++ [⟨clsOf P x, x.dst, looksOf all x, maskOf acc x.after.toList⟩]) = L at h1
    rw [List.length_append] at h1
    simp only [List.length_cons, List.length_nil, Nat.zero_add] at h1
    have h2 : L.take acc.length = acc := by
      have := congrArg (List.take acc.length) h1
      rw [List.take_take, Nat.min_eq_left (by omega), List.take_left' rfl] at this
      exact this
    have h3 : L[acc.length]? = (L.take (acc.length + 1))[acc.length]? := by rw [List.getElem?_take, if_pos (by omega)]
    rw [Nat.add_zero, h2, h3, h1]
    simp
  | x :: r, acc, i + 1, o, h => by
    simp only [infosGo]
    have := infosGo_spec all r (acc ++ [⟨clsOf P x, x.dst, looksOf all x, maskOf acc x.after.toList⟩]) i o (by simpa using h)
    rw [List.length_append] at this
    simp only [List.length_cons, List.length_nil, Nat.zero_add] at this
    rw [show acc.length + 1 + i = acc.length + (i + 1) by omega] at this
    exact this

def infos (P : Program) (ops : Array Oper) : List Info := infosGo P ops.toList ops.toList []

theorem infos_spec {ops : Array Oper} {i : Nat} {o : Oper} (h : ops[i]? = some o) : ∃ a, (infos P ops)[i]? = some a ∧ a.cls = clsOf P o ∧ a.dst = o.dst ∧ a.looks = looksOf ops.toList o ∧
    ∀ j, a.anc.testBit j = true → ∃ e ∈ o.after.toList, Region.binds .any e = true ∧ ∃ b, (infos P ops)[e.on]? = some b ∧ (e.on = j ∨ b.anc.testBit j = true) := by
  have h' : ops.toList[i]? = some o := by rw [Array.getElem?_toList]; exact h
  have := infosGo_spec (P := P) ops.toList ops.toList [] i o h'
  simp only [List.length_nil, Nat.zero_add] at this
  refine ⟨_, this, rfl, rfl, rfl, fun j hj => ?_⟩
  obtain ⟨e, h1, h2, b, h3, h4⟩ := mask_spec _ j _ hj
  refine ⟨e, h1, h2, b, ?_, h4⟩
  rw [List.getElem?_take] at h3
  split at h3
  · exact h3
  · cases h3

theorem after_spec (is : List Info) (i : Nat) (a : Info) : ∀ (l : List Act) (q j : Nat) (b : Info), after is i a l = true → l[q]? = some (.op j) → is[j]? = some b →
    (isHeavy a.cls = false ∧ hits a.dst b = false ∧ hits b.dst a = false) ∨ b.anc.testBit i = true
  | [], q, j, b, _, h, _ => by simp at h
  | .re k :: r, q, j, b, ha, h, hb => by
    cases q with
    | zero => simp at h
    | succ q => exact after_spec is i a r q j b ha (by simpa using h) hb
  | .op k :: r, q, j, b, ha, h, hb => by
    unfold after at ha
    cases hk : is[k]? with
    | none => rw [hk] at ha; cases ha
    | some c =>
      rw [hk] at ha
      simp only [Bool.and_eq_true, Bool.or_eq_true, Bool.not_eq_true'] at ha
      cases q with
      | zero =>
        simp only [List.getElem?_cons_zero, Option.some.injEq, Act.op.injEq] at h
        subst h
        rw [hk] at hb
        cases hb
        rcases ha.1 with h | h
        · exact .inl ⟨h.1, h.2.1, h.2.2⟩
        · exact .inr h
      | succ q => exact after_spec is i a r q j b ha.2 (by simpa using h) hb

theorem okGo_spec (is : List Info) : ∀ (l : List Act) (done : List Nat) (q i : Nat), okGo is done l = true → l[q]? = some (.op i) →
    ∃ a, is[i]? = some a ∧ i ∉ done ∧ (∀ p, p < q → l[p]? ≠ some (.op i)) ∧ after is i a (l.drop (q + 1)) = true ∧ (isRead a.cls = true → selfless a = true ∧ cov is i a true (l.drop (q + 1)) = true)
  | [], done, q, i, _, h => by simp at h
  | .re k :: r, done, q, i, ha, h => by
    unfold okGo at ha
    simp only [Bool.and_eq_true] at ha
    cases q with
    | zero => simp at h
    | succ q =>
      obtain ⟨a, h1, h2, h3, h4⟩ := okGo_spec is r done q i ha.2 (by simpa using h)
      refine ⟨a, h1, h2, fun p hp => ?_, by simpa using h4⟩
      cases p with
      | zero => simp
      | succ p => simpa using h3 p (by omega)
  | .op k :: r, done, q, i, ha, h => by
    unfold okGo at ha
    cases hk : is[k]? with
    | none => rw [hk] at ha; cases ha
    | some c =>
      rw [hk] at ha
      simp only [Bool.and_eq_true, Bool.not_eq_true', Bool.or_eq_true] at ha
      obtain ⟨h1, h2, h3, h4⟩ := ha
      cases q with
      | zero =>
        simp only [List.getElem?_cons_zero, Option.some.injEq, Act.op.injEq] at h
        subst h
        exact ⟨c, hk, memN_false h1, fun p hp => by omega, h2, fun hr => by rcases h3 with h3 | h3 <;> simp_all⟩
      | succ q =>
        obtain ⟨a, e1, e2, e3, e4⟩ := okGo_spec is r (k :: done) q i h4 (by simpa using h)
        refine ⟨a, e1, fun hm => e2 (List.mem_cons_of_mem _ hm), fun p hp => ?_, by simpa using e4⟩
        cases p with
        | zero =>
          simp only [List.getElem?_cons_zero]
          intro he
          cases he
          exact e2 (by simp)
        | succ p => simpa using e3 p (by omega)

/-- where a read may be taken to have been made -/
theorem cov_spec (is : List Info) (i : Nat) (a : Info) : ∀ (l : List Act) (fresh : Bool) (q : Nat), cov is i a fresh l = true → q ≤ l.length →
    (q = l.length ∨ ∃ j b, l[q]? = some (.op j) ∧ is[j]? = some b ∧ isHeavy b.cls = true) →
    (∀ p j b, p < q → l[p]? = some (.op j) → is[j]? = some b → isHeavy b.cls = true → b.anc.testBit i = false) →
    (∀ p j b, p < q → l[p]? = some (.op j) → is[j]? = some b → hits b.dst a = false) ∧
    ((fresh = true ∧ ∀ p j b, p < q → l[p]? = some (.op j) → is[j]? = some b → isHeavy b.cls = false ∧ isAlloc b.cls = false) ∨
     ∃ r, r < q ∧ l[r]? = some (.re i) ∧ ∀ p j b, r < p → p < q → l[p]? = some (.op j) → is[j]? = some b → isHeavy b.cls = false ∧ isAlloc b.cls = false)
  | [], fresh, q, h, hq, _, _ => by
    have : q = 0 := by simpa using hq
    subst this
    unfold cov at h
    exact ⟨fun p _ _ hp => by omega, .inl ⟨h, fun p _ _ hp => by omega⟩⟩
  | .re k :: r, fresh, q, h, hq, hat, hnd => by
    cases q with
    | zero =>
      rcases hat with hat | ⟨j, b, hat, _⟩
      · simp at hat
      · simp at hat
    | succ q =>
      unfold cov at h
      have ih := cov_spec is i a r _ q h (by simpa using hq) (by
        rcases hat with hat | ⟨j, b, h1, h2, h3⟩
        · exact .inl (by simpa using hat)
        · exact .inr ⟨j, b, by simpa using h1, h2, h3⟩) (fun p j b hp h1 h2 h3 => hnd (p + 1) j b (by omega) (by simpa using h1) h2 h3)
      obtain ⟨i1, i2⟩ := ih
      refine ⟨fun p j b hp h1 h2 => ?_, ?_⟩
      · cases p with
        | zero => simp at h1
        | succ p => exact i1 p j b (by omega) (by simpa using h1) h2
      · rcases i2 with ⟨e, i2⟩ | ⟨r', h1, h2, h3⟩
        · cases hk : Nat.beq i k with
          | true =>
            have := Nat.eq_of_beq_eq_true hk
            subst this
            refine .inr ⟨0, by omega, rfl, fun p j b hp0 hp h1 h2 => ?_⟩
            cases p with
            | zero => omega
            | succ p => exact i2 p j b (by omega) (by simpa using h1) h2
          | false =>
            rw [hk] at e
            refine .inl ⟨e, fun p j b hp h1 h2 => ?_⟩
            cases p with
            | zero => simp at h1
            | succ p => exact i2 p j b (by omega) (by simpa using h1) h2
        · refine .inr ⟨r' + 1, by omega, by simpa using h2, fun p j b hp0 hp h4 h5 => ?_⟩
          cases p with
          | zero => omega
          | succ p => exact h3 p j b (by omega) (by omega) (by simpa using h4) h5
  | .op k :: r, fresh, q, h, hq, hat, hnd => by
    unfold cov at h
    cases hk : is[k]? with
    | none => rw [hk] at h; cases h
    | some c =>
      rw [hk] at h
      simp only at h
      cases q with
      | zero =>
        refine ⟨fun p _ _ hp => by omega, .inl ⟨?_, fun p _ _ hp => by omega⟩⟩
        rcases hat with hat | ⟨j, b, h1, h2, h3⟩
        · simp at hat
        · simp only [List.getElem?_cons_zero, Option.some.injEq, Act.op.injEq] at h1
          subst h1
          rw [hk] at h2
          cases h2
          cases hc : c.cls <;> rw [hc] at h h3 <;> simp only [isHeavy] at h3 <;> try (cases h3; done)
          simp only [Bool.and_eq_true] at h
          exact h.1
      | succ q =>
        have hat' : q = r.length ∨ ∃ j b, r[q]? = some (.op j) ∧ is[j]? = some b ∧ isHeavy b.cls = true := by
          rcases hat with hat | ⟨j, b, h1, h2, h3⟩
          · exact .inl (by simpa using hat)
          · exact .inr ⟨j, b, by simpa using h1, h2, h3⟩
        have hnd' : ∀ p j b, p < q → r[p]? = some (.op j) → is[j]? = some b → isHeavy b.cls = true → b.anc.testBit i = false :=
          fun p j b hp h1 h2 h3 => hnd (p + 1) j b (by omega) (by simpa using h1) h2 h3
        have hq' : q ≤ r.length := by simpa using hq
        have key : ∀ f, hits c.dst a = false → cov is i a f r = true → (f = true → fresh = true ∧ isHeavy c.cls = false ∧ isAlloc c.cls = false) →
            (∀ p j b, p < q + 1 → (Act.op k :: r)[p]? = some (.op j) → is[j]? = some b → hits b.dst a = false) ∧
            ((fresh = true ∧ ∀ p j b, p < q + 1 → (Act.op k :: r)[p]? = some (.op j) → is[j]? = some b → isHeavy b.cls = false ∧ isAlloc b.cls = false) ∨
             ∃ r', r' < q + 1 ∧ (Act.op k :: r)[r']? = some (.re i) ∧ ∀ p j b, r' < p → p < q + 1 → (Act.op k :: r)[p]? = some (.op j) → is[j]? = some b → isHeavy b.cls = false ∧ isAlloc b.cls = false) := by
          intro f hh hcov hf
          obtain ⟨i1, i2⟩ := cov_spec is i a r f q hcov hq' hat' hnd'
          refine ⟨fun p j b hp h1 h2 => ?_, ?_⟩
          · cases p with
            | zero =>
              simp only [List.getElem?_cons_zero, Option.some.injEq, Act.op.injEq] at h1
              subst h1
              rw [hk] at h2
              cases h2
              exact hh
            | succ p => exact i1 p j b (by omega) (by simpa using h1) h2
          · rcases i2 with ⟨e, i2⟩ | ⟨r', h1, h2, h3⟩
            · obtain ⟨g1, g2⟩ := hf e
              refine .inl ⟨g1, fun p j b hp h1 h2 => ?_⟩
              cases p with
              | zero =>
                simp only [List.getElem?_cons_zero, Option.some.injEq, Act.op.injEq] at h1
                subst h1
                rw [hk] at h2
                cases h2
                exact g2
              | succ p => exact i2 p j b (by omega) (by simpa using h1) h2
            · refine .inr ⟨r' + 1, by omega, by simpa using h2, fun p j b hp0 hp h4 h5 => ?_⟩
              cases p with
              | zero => omega
              | succ p => exact h3 p j b (by omega) (by omega) (by simpa using h4) h5
        cases hc : c.cls with
        | heavy =>
          rw [hc] at h
          simp only [Bool.and_eq_true, Bool.or_eq_true, Bool.not_eq_true'] at h
          have hna := hnd 0 k c (by omega) rfl hk (by rw [hc]; rfl)
          rcases h.2 with h2 | h2
          · rw [hna] at h2; cases h2
          · exact key false h2.1 h2.2 (fun e => by cases e)
        | alloc =>
          rw [hc] at h
          simp only [Bool.and_eq_true, Bool.not_eq_true'] at h
          exact key false h.1 h.2 (fun e => by cases e)
        | pure =>
          rw [hc] at h
          simp only [Bool.and_eq_true, Bool.not_eq_true'] at h
          exact key fresh h.1 h.2 (fun e => ⟨e, by rw [hc]; rfl, by rw [hc]; rfl⟩)
        | read =>
          rw [hc] at h
          simp only [Bool.and_eq_true, Bool.not_eq_true'] at h
          exact key fresh h.1 h.2 (fun e => ⟨e, by rw [hc]; rfl, by rw [hc]; rfl⟩)

theorem okEdges_spec : ∀ (l : List Oper) (n i : Nat) (o : Oper), okEdges l n = true → l[i]? = some o → ∀ e ∈ o.after.toList, Region.binds .any e = true → e.on < n + i
  | [], n, i, o, _, h => by simp at h
  | x :: r, n, 0, o, h, ho => by
    simp only [List.getElem?_cons_zero, Option.some.injEq] at ho
    subst ho
    unfold okEdges at h
    simp only [Bool.and_eq_true, List.all_eq_true] at h
    intro e he hb
    have := h.1 e he
    rw [hb] at this
    exact Nat.le_of_ble_eq_true this
  | x :: r, n, i + 1, o, h, ho => by
    unfold okEdges at h
    simp only [Bool.and_eq_true] at h
    have := okEdges_spec r (n + 1) i o h.2 (by simpa using ho)
    intro e he hb
    have := this e he hb
    omega

theorem opIds_mem (i : Nat) : ∀ l : List Act, i ∈ opIds l → ∃ q : Nat, l[q]? = some (Act.op i)
  | [], h => by simp [opIds] at h
  | .re k :: r, h => by
    obtain ⟨q, hq⟩ := opIds_mem i r (by simpa [opIds] using h)
    exact ⟨q + 1, by simpa using hq⟩
  | .op k :: r, h => by
    simp only [opIds, List.mem_cons] at h
    rcases h with rfl | h
    · exact ⟨0, rfl⟩
    · obtain ⟨q, hq⟩ := opIds_mem i r h
      exact ⟨q + 1, by simpa using hq⟩

theorem upTo_mem (i : Nat) : ∀ n, i < n → i ∈ upTo n
  | 0, h => by omega
  | n + 1, h => by
    unfold upTo
    by_cases e : i = n
    · subst e; simp
    · exact List.mem_cons_of_mem _ (upTo_mem i n (by omega))

structure Plan (P : Program) (ops : Array Oper) (acts : List Act) : Prop where
  edge : ∀ (i : Nat) (o : Oper), ops[i]? = some o → ∀ e ∈ o.after.toList, Region.binds .any e = true → e.on < i
  has : ∀ i, i < ops.size → ∃ q : Nat, acts[q]? = some (.op i)
  uniq : ∀ (q q' i : Nat), acts[q]? = some (.op i) → acts[q']? = some (.op i) → q = q'
  aft : ∀ (q q' i j : Nat) (a b : Info), acts[q]? = some (.op i) → q < q' → acts[q']? = some (.op j) → (infos P ops)[i]? = some a → (infos P ops)[j]? = some b →
    (isHeavy a.cls = false ∧ hits a.dst b = false ∧ hits b.dst a = false) ∨ b.anc.testBit i = true
  cov : ∀ (q i : Nat) (a : Info), acts[q]? = some (.op i) → (infos P ops)[i]? = some a → isRead a.cls = true → selfless a = true ∧ cov (infos P ops) i a true (acts.drop (q + 1)) = true

theorem plan_of {ops : Array Oper} {acts : List Act} (h : okActs P ops.toList acts = true) : Plan P ops acts := by
  unfold okActs at h
  simp only [Bool.and_eq_true, List.all_eq_true] at h
  obtain ⟨h1, h2, h3⟩ := h
  have h3 : okGo (infos P ops) [] acts = true := h3
  refine ⟨fun i o ho e he hb => ?_, fun i hi => ?_, fun q q' i hq hq' => ?_, fun q q' i j a b hq hlt hq' ha hb => ?_, fun q i a hq ha hr => ?_⟩
  · have := okEdges_spec ops.toList 0 i o h1 (by rw [Array.getElem?_toList]; exact ho) e he hb
    omega
  · exact opIds_mem i acts ((memN_iff _ _).1 (h2 i (upTo_mem i _ (by simpa using hi))))
  · obtain ⟨_, _, _, e1, _⟩ := okGo_spec _ acts [] q i h3 hq
    obtain ⟨_, _, _, e2, _⟩ := okGo_spec _ acts [] q' i h3 hq'
    rcases Nat.lt_trichotomy q q' with h | h | h
    · exact absurd hq (e2 q h)
    · exact h
    · exact absurd hq' (e1 q' h)
  · obtain ⟨a', e0, _, _, e1, _⟩ := okGo_spec _ acts [] q i h3 hq
    rw [ha] at e0
    cases e0
    refine after_spec _ i a (acts.drop (q + 1)) (q' - (q + 1)) j b e1 ?_ hb
    rw [List.getElem?_drop, show q + 1 + (q' - (q + 1)) = q' by omega]
    exact hq'
  · obtain ⟨a', e0, _, _, _, e1⟩ := okGo_spec _ acts [] q i h3 hq
    rw [ha] at e0
    cases e0
    exact e1 hr
end
end Go.Abs
