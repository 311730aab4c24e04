import Derived.Test.YtpjkibffomknmaaGreatAbsBuiltin
/- Plain operations do not panic. -/
namespace Go.Abs
open Go

/-- no panics -/
def NP (m : M Value) : Prop := ∀ h v h', m h ≠ .pan v h'

theorem np_fail : NP failM := fun h v h' e => by cases e
theorem np_pure (a : Value) : NP (pureM a) := fun h v h' e => by cases e
theorem np_allocM (vs : List Value) (ty : Nat) : NP (allocM vs ty) := fun h v h' e => by
  unfold allocM at e
  try simp only [] at e
  repeat' split at e
  all_goals cases e
theorem np_boxM (v : Value) (ty : Nat) : NP (boxM v ty) := fun h v h' e => by
  unfold boxM at e
  try simp only [] at e
  repeat' split at e
  all_goals cases e
theorem np_ifaceM (t : TypeId) (v : Value) : NP (ifaceM t v) := fun h v h' e => by
  unfold ifaceM at e
  try simp only [] at e
  repeat' split at e
  all_goals cases e
theorem np_ldM (a : Bool) (n : Nat) (p : Value) : NP (ldM a n p) := fun h v h' e => by
  unfold ldM at e
  try simp only [] at e
  repeat' split at e
  all_goals cases e
theorem np_stM (n : Nat) (p v : Value) : NP (stM n p v) := fun h v h' e => by
  unfold stM at e
  try simp only [] at e
  repeat' split at e
  all_goals cases e
theorem np_nilCheckM (p : Value) : NP (nilCheckM p) := fun h v h' e => by
  unfold nilCheckM at e
  try simp only [] at e
  repeat' split at e
  all_goals cases e
theorem np_fieldAddrM (o : Nat) (p : Value) : NP (fieldAddrM o p) := fun h v h' e => by
  unfold fieldAddrM at e
  try simp only [] at e
  repeat' split at e
  all_goals cases e
theorem np_elemAddrM (s : Nat) (p ix : Value) : NP (elemAddrM s p ix) := fun h v h' e => by
  unfold elemAddrM at e
  try simp only [] at e
  repeat' split at e
  all_goals cases e
theorem np_arrAddrM (l s : Nat) (p ix : Value) : NP (arrAddrM l s p ix) := fun h v h' e => by
  unfold arrAddrM at e
  try simp only [] at e
  repeat' split at e
  all_goals cases e
theorem np_fieldM (a : Bool) (n o : Nat) (x : Value) : NP (fieldM a n o x) := fun h v h' e => by
  unfold fieldM at e
  try simp only [] at e
  repeat' split at e
  all_goals cases e
theorem np_indexM (l : Nat) (a : Bool) (s : Nat) (x ix : Value) : NP (indexM l a s x ix) := fun h v h' e => by
  unfold indexM at e
  try simp only [] at e
  repeat' split at e
  all_goals cases e
theorem np_indexStrM (x ix : Value) : NP (indexStrM x ix) := fun h v h' e => by
  unfold indexStrM at e
  try simp only [] at e
  repeat' split at e
  all_goals cases e
theorem np_extractM (p : Value) (i : Nat) : NP (extractM p i) := fun h v h' e => by
  unfold extractM at e
  try simp only [] at e
  repeat' split at e
  all_goals cases e
theorem np_buildM (z : List Value) (ps : List (Nat × Nat × Value)) : NP (buildM z ps) := fun h v h' e => by
  unfold buildM at e
  try simp only [] at e
  repeat' split at e
  all_goals cases e
theorem np_buildSliceM (ty : Nat) (z : List Value) (l : Nat) (ps : List (Nat × Nat × Value)) : NP (buildSliceM ty z l ps) := fun h v h' e => by
  unfold buildSliceM at e
  try simp only [] at e
  repeat' split at e
  all_goals cases e
theorem np_makeSliceM (ty : Nat) (z : List Value) (b : Nat) (l c : Value) : NP (makeSliceM ty z b l c) := fun h v h' e => by
  unfold makeSliceM at e
  try simp only [] at e
  repeat' split at e
  all_goals cases e
theorem np_intM (op : BinOp) (k : IntKind) (x y : Int) : NP (intM op k x y) := fun h v h' e => by
  unfold intM at e
  try simp only [] at e
  repeat' split at e
  all_goals cases e
theorem np_strM (op : BinOp) (a b : ByteArray) : NP (strM op a b) := fun h v h' e => by
  unfold strM at e
  try simp only [] at e
  repeat' split at e
  all_goals cases e
theorem np_shM (op : BinOp) (k : IntKind) (x y : Int) : NP (shM op k x y) := fun h v h' e => by
  unfold shM at e
  try simp only [] at e
  repeat' split at e
  all_goals cases e
theorem np_eqM (k : EK) (n : Bool) (a b : Value) : NP (eqM k n a b) := fun h v h' e => by
  unfold eqM at e
  try simp only [] at e
  repeat' split at e
  all_goals cases e
theorem np_pickM (c a b : Value) : NP (pickM c a b) := fun h v h' e => by
  unfold pickM at e
  try simp only [] at e
  repeat' split at e
  all_goals cases e
theorem np_lenSlM (x : Value) : NP (lenSlM x) := fun h v h' e => by
  unfold lenSlM at e
  try simp only [] at e
  repeat' split at e
  all_goals cases e
theorem np_lenStrM (x : Value) : NP (lenStrM x) := fun h v h' e => by
  unfold lenStrM at e
  try simp only [] at e
  repeat' split at e
  all_goals cases e
theorem np_lenMapM (x : Value) : NP (lenMapM x) := fun h v h' e => by
  unfold lenMapM at e
  try simp only [] at e
  repeat' split at e
  all_goals cases e
theorem np_minM (f : Value → Value → Option Value) (xs : List Value) : NP (minM f xs) := fun h v h' e => by
  unfold minM at e
  try simp only [] at e
  repeat' split at e
  all_goals cases e
theorem np_convIntM (k : IntKind) (x : Value) : NP (convIntM k x) := fun h v h' e => by
  unfold convIntM at e
  try simp only [] at e
  repeat' split at e
  all_goals cases e
theorem np_toBytesM (ty : Nat) (x : Value) : NP (toBytesM ty x) := fun h v h' e => by
  unfold toBytesM at e
  try simp only [] at e
  repeat' split at e
  all_goals cases e
theorem np_toStringM (x : Value) : NP (toStringM x) := fun h v h' e => by
  unfold toStringM at e
  try simp only [] at e
  repeat' split at e
  all_goals cases e
theorem np_sliceStrM (x : Value) (lo hi : Option Value) : NP (sliceStrM x lo hi) := fun h v h' e => by
  unfold sliceStrM at e
  try simp only [] at e
  repeat' split at e
  all_goals cases e
theorem np_sliceSlM (s : Nat) (x : Value) (lo hi mx : Option Value) : NP (sliceSlM s x lo hi mx) := fun h v h' e => by
  unfold sliceSlM at e
  try simp only [] at e
  repeat' split at e
  all_goals cases e
theorem np_sliceArrM (n s : Nat) (x : Value) (lo hi : Option Value) : NP (sliceArrM n s x lo hi) := fun h v h' e => by
  unfold sliceArrM at e
  try simp only [] at e
  repeat' split at e
  all_goals cases e
theorem np_appendM (s b : Nat) (x y : Value) : NP (appendM s b x y) := fun h v h' e => by
  unfold appendM at e
  try simp only [] at e
  repeat' split at e
  all_goals cases e
theorem np_copyM (s : Nat) (x y : Value) : NP (copyM s x y) := fun h v h' e => by
  unfold copyM at e
  try simp only [] at e
  repeat' split at e
  all_goals cases e
theorem np_clearM (s : Nat) (z : List Value) (x : Value) : NP (clearM s z x) := fun h v h' e => by
  unfold clearM at e
  try simp only [] at e
  repeat' split at e
  all_goals cases e
theorem np_clearMapM (x : Value) : NP (clearMapM x) := fun h v h' e => by
  unfold clearMapM at e
  try simp only [] at e
  repeat' split at e
  all_goals cases e
theorem np_lookupM (ek : EK) (z : Option Value) (ok : Bool) (x k : Value) : NP (lookupM ek z ok x k) := fun h v h' e => by
  unfold lookupM at e
  try simp only [] at e
  repeat' split at e
  all_goals cases e
theorem np_updateM (ek : EK) (x k v : Value) : NP (updateM ek x k v) := fun h v h' e => by
  unfold updateM at e
  try simp only [] at e
  repeat' split at e
  all_goals cases e
theorem np_mapEntryM (ek : EK) (z : Option Value) (x k : Value) : NP (mapEntryM ek z x k) := fun h v h' e => by
  unfold mapEntryM at e
  try simp only [] at e
  repeat' split at e
  all_goals cases e
theorem np_entryStoreM (x s v : Value) : NP (entryStoreM x s v) := fun h v h' e => by
  unfold entryStoreM at e
  try simp only [] at e
  repeat' split at e
  all_goals cases e
theorem np_deleteM (ek : EK) (x k : Value) : NP (deleteM ek x k) := fun h v h' e => by
  unfold deleteM at e
  try simp only [] at e
  repeat' split at e
  all_goals cases e
theorem np_makeMapM  : NP (makeMapM ) := fun h v h' e => by
  unfold makeMapM at e
  try simp only [] at e
  repeat' split at e
  all_goals cases e
theorem np_rangeM (x : Value) : NP (rangeM x) := fun h v h' e => by
  unfold rangeM at e
  try simp only [] at e
  repeat' split at e
  all_goals cases e
theorem np_nextM (x : Value) : NP (nextM x) := fun h v h' e => by
  unfold nextM at e
  try simp only [] at e
  repeat' split at e
  all_goals cases e
theorem np_entryM (x : Value) : NP (entryM x) := fun h v h' e => by
  unfold entryM at e
  try simp only [] at e
  repeat' split at e
  all_goals cases e
theorem np_typeAssertM (t : TypeId) (z : Option Value) (x : Value) : NP (typeAssertM t z x) := fun h v h' e => by
  unfold typeAssertM at e
  try simp only [] at e
  repeat' split at e
  all_goals cases e

theorem np_recoverM : NP recoverM := fun h v h' e => by
  unfold recoverM at e
  split at e <;> cases e
theorem np_binM (op : BinOp) (a b : Value) : NP (binM op a b) := fun h v h' e => by
  unfold binM at e
  split at e
  · split at e
    · exact np_shM _ _ _ _ _ _ _ e
    · split at e
      · cases e
      · exact np_intM _ _ _ _ _ _ _ e
  · exact np_strM _ _ _ _ _ _ e
  · cases e
theorem np_unM (op : UnOp) (x : Value) : NP (unM op x) := fun h v h' e => by
  unfold unM at e
  split at e
  · cases e
  · cases e
  · exact np_intM _ _ _ _ _ _ _ e
  · cases e
section
variable {P : Program}
theorem np_tyM {ts : List TypeId} {m : M Value} (h : NP m) : NP (tyM P ts m) := by
  unfold tyM
  split
  · exact h
  · exact np_fail
theorem np_zyM {ts : List TypeId} {m : M Value} (h : NP m) : NP (zyM P ts m) := by
  unfold zyM
  split
  · exact h
  · exact np_fail
theorem np_mapM {t : TypeId} {m : EK → M Value} (h : ∀ k, NP (m k)) : NP (mapM P t m) := by
  unfold mapM
  split
  · split
    · exact np_zyM (h _)
    · exact np_fail
  · exact np_fail
theorem np_binopM (op : BinOp) (t : TypeId) (c : Bool) (a b : Value) : NP (binopM P op t c a b) := by
  unfold binopM
  split
  · exact np_binM _ _ _
  · exact np_binM _ _ _
  · split
    · split
      · exact np_eqM _ _ _ _
      · exact np_fail
    · split
      · exact np_eqM _ _ _ _
      · exact np_fail
    · exact np_fail
theorem np_convM (s d : TypeId) (x : Value) : NP (convM P s d x) := by
  unfold convM
  split
  · exact np_convIntM _ _
  · split
    · exact np_toBytesM _ _
    · exact np_fail
  · split
    · exact np_toStringM _
    · exact np_fail
  · exact np_fail
theorem np_builtinM (b : Builtin) (ts : List TypeId) (xs : List Value) : NP (builtinM P b ts xs) := by
  unfold builtinM
  split
  · split <;> first | exact np_pure _ | exact np_lenSlM _ | exact np_lenStrM _ | exact np_lenMapM _ | exact np_fail
  · exact np_minM _ _
  · exact np_minM _ _
  · split <;> first | exact np_zyM (np_appendM _ _ _ _) | exact np_fail
  · split <;> first | exact np_tyM (np_copyM _ _ _) | exact np_fail
  · split <;> first | exact np_zyM (np_clearM _ _ _) | exact np_clearMapM _ | exact np_fail
  · exact np_mapM fun k => np_deleteM _ _ _
  · exact np_recoverM
  · exact np_fail

theorem np_opM (cl : Tgt → List Value → M Value) (st : St) (o : Oper) (hc : isCall o.op = false) : NP (opM P cl st o) := by
  obtain ⟨dst, op, ty, pos, after, guard⟩ := o
  simp only at hc
  cases op <;> simp only [opM] <;> first | (cases hc; done) | exact np_fail | skip
  case move => exact np_pure _
  case assign => exact np_pure _
  case pick => exact np_pickM _ _ _
  case alloc => exact np_zyM (np_allocM _ _)
  case box => exact np_tyM (np_boxM _ _)
  case build => split <;> first | exact np_zyM (np_buildM _ _) | exact np_fail
  case buildSlice => split <;> first | exact np_zyM (np_buildSliceM _ _ _ _) | exact np_fail
  case load => exact np_tyM (np_ldM _ _ _)
  case store => exact np_tyM (np_stM _ _ _)
  case nilCheck => exact np_nilCheckM _
  case binOp => exact np_binopM _ _ _ _ _
  case unOp => exact np_unM _ _
  case convert => exact np_convM _ _ _
  case makeInterface => split <;> first | exact np_tyM (np_ifaceM _ _) | exact np_fail
  case makeFunc => split <;> first | exact np_pure _ | exact np_fail
  case makeMap t r => cases r <;> first | exact np_makeMapM | exact np_fail
  case makeSlice => split <;> first | exact np_zyM (np_makeSliceM _ _ _ _ _) | exact np_fail
  case slice t x lo hi mx =>
    split
    · cases mx <;> first | exact np_sliceStrM _ _ _ | exact np_fail
    · exact np_tyM (np_sliceSlM _ _ _ _ _)
    · cases mx with
      | none => simp only; split <;> first | exact np_tyM (np_sliceArrM _ _ _ _ _) | exact np_fail
      | some m => exact np_fail
    · exact np_fail
  case fieldAddr =>
    split
    · split
      · split <;> first | exact np_fieldAddrM _ _ | exact np_fail
      · exact np_fail
    · exact np_fail
  case field =>
    split
    · split
      · exact np_tyM (np_fieldM _ _ _ _)
      · exact np_fail
    · exact np_fail
  case indexAddr => split <;> first | exact np_tyM (np_elemAddrM _ _ _) | exact np_tyM (np_arrAddrM _ _ _ _) | exact np_fail
  case index => split <;> first | exact np_tyM (np_indexM _ _ _ _ _) | exact np_indexStrM _ _ | exact np_fail
  case lookup => exact np_mapM fun k => np_lookupM _ _ _ _ _
  case mapUpdate => exact np_mapM fun k => np_updateM _ _ _ _
  case insert => exact np_mapM fun k => np_updateM _ _ _ _
  case mapEntry => exact np_mapM fun k => np_mapEntryM _ _ _ _
  case entryStore => exact np_entryStoreM _ _ _
  case range => split <;> first | exact np_rangeM _ | exact np_fail
  case next it b => cases b <;> first | exact np_nextM _ | exact np_fail
  case entry => exact np_entryM _
  case typeAssert x xt t ok =>
    cases ok with
    | false => exact np_fail
    | true => simp only; split <;> first | exact np_fail | exact np_zyM (np_typeAssertM _ _ _)
  case extract => exact np_extractM _ _
end
end Go.Abs
