import Derived.Test.YtpjkibffomknmaaGreatAbsState
import Derived.Laws.Entries
import Derived.ChangeKeysEq
import Derived.Laws.Strings
/- Operations: what the abstract one says, the model's own does (I): values and addresses. -/
namespace Go.Abs
open Go

def Res (P : Program) (N : Nat) (μ : Mu) (H : Hp) (w : World) (v : Value) (H' : Hp) (r : Result Value) : Prop :=
  ∃ v' w' μ', r = .ok v' w' ∧ VR μ' v v' ∧ SR P N μ' H' w' ∧ TR μ H w μ' H' w'

section
variable {P : Program} {N : Nat} {μ : Mu} {H H' : Hp} {w : World} {v : Value}

theorem Res.same (h : SR P N μ H w) {v v' : Value} (hv : VR μ v v') : Res P N μ H w v H (.ok v' w) :=
  ⟨v', w, μ, rfl, hv, h, TR.refl _ _ _⟩
theorem Res.same' (h : SR P N μ H w) {v v' : Value} {r : Result Value} (hr : r = .ok v' w) (hv : VR μ v v') : Res P N μ H w v H r := by
  rw [hr]; exact .same h hv

/-! ### the tables -/
theorem okT_iff {t : TypeId} (h : okT P t = true) : ∃ i d, P.info? t = some i ∧ P.underlying t = some d := by
  simp only [okT, Bool.and_eq_true, Option.isSome_iff_exists] at h
  obtain ⟨⟨i, hi⟩, ⟨d, hd⟩⟩ := h
  exact ⟨i, d, hi, hd⟩
theorem descOf_eq {t : TypeId} {d : TypeDesc} (h : P.underlying t = some d) : descOf P t = d := by simp [descOf, h]
theorem descOf_struct {t : TypeId} {fs : Array Field} (h : descOf P t = .struct fs) : P.underlying t = some (.struct fs) := by
  unfold descOf at h
  cases hu : P.underlying t with
  | none => rw [hu] at h; simp at h
  | some d => rw [hu] at h; simpa using h
theorem descOf_some {t : TypeId} {d : TypeDesc} (h : descOf P t = d) (hd : d ≠ .invalid) : P.underlying t = some d := by
  unfold descOf at h
  cases hu : P.underlying t with
  | none => rw [hu] at h; exact absurd h.symm hd
  | some d' => rw [hu] at h; simpa using h
theorem sizeT_eq {t : TypeId} {i : TypeInfo} (h : P.info? t = some i) : sizeT P t = i.size := by simp [sizeT, Program.cellsOf, h]
theorem run_sizeT {t : TypeId} (h : okT P t = true) (w : World) : (sizeOf t).run P w = .ok (sizeT P t) w := by
  obtain ⟨i, d, hi, hd⟩ := okT_iff h
  exact run_sizeOf w hi
theorem run_aggT {t : TypeId} (h : okT P t = true) (w : World) : (isAgg t).run P w = .ok (aggT P t) w := by
  obtain ⟨i, d, hi, hd⟩ := okT_iff h
  unfold isAgg aggT
  rw [descOf_eq hd]
  simp only [Sem.run_bind, run_underlying hd, Result.andThen_ok]
  cases d <;> rfl
theorem tyM_ok {ts : List TypeId} {m : M Value} (h : tyM P ts m H = .ok v H') : (∀ t ∈ ts, okT P t = true) ∧ m H = .ok v H' := by
  unfold tyM at h
  cases e : ts.all (okT P) with
  | true => rw [e] at h; exact ⟨by simpa [List.all_eq_true] using e, h⟩
  | false => rw [e] at h; cases h
theorem zeroT_run {t : TypeId} {z : Value} (h : zeroT P t = some z) (w : World) : (zeroValue t).run P w = .ok z w := by
  unfold zeroT at h
  cases hi : P.info? t with
  | none => rw [hi] at h; cases h
  | some i =>
    rw [hi] at h
    unfold zeroValue
    simp only [Sem.run_bind, run_typeInfo w hi, Result.andThen_ok]
    simp only [Option.bind_some] at h
    rw [h]; rfl

/-! ### values -/
theorem pick_ok {c a b c' a' b' : Value} (hs : SR P N μ H w) (h : pickM c a b H = .ok v H') (hc : VR μ c c') (ha : VR μ a a') (hb : VR μ b b') :
    ∃ t, c' = .bool t ∧ H' = H ∧ VR μ v (if t then a' else b') := by
  unfold pickM at h
  split at h
  · cases h; cases hc; exact ⟨true, rfl, rfl, by simpa using ha⟩
  · cases h; cases hc; exact ⟨false, rfl, rfl, by simpa using hb⟩
  · cases h

theorem beq_int (x y : Int) : (x == y) = decide (x = y) := by rw [Bool.eq_iff_iff]; simp

theorem int_ok {op : BinOp} {k : IntKind} {x y : Int} (hop : isSh op = false) (h : intM op k x y H = .ok v H') (t : TypeId) :
    H' = H ∧ (binOp op t (.int k x) (.int k y)).run P w = .ok v w ∧ ∀ μ, VR μ v v := by
  cases op <;> simp only [intM, isSh] at h hop
  all_goals first | (cases hop; done) | skip
  all_goals first
    | (cases h; refine ⟨rfl, ?_, fun μ => ?_⟩ <;> first | exact .int _ _ | exact .bool _ | (simp [binOp, Op.intArith, Op.intBits, Op.intCmp, Sem.run, pure, beq_int, bne]; done) | skip)
    | (split at h
       · cases h
       · cases h; rename_i hy; simp at hy
         refine ⟨rfl, ?_, fun μ => .int _ _⟩
         simp [binOp, Op.intDiv, hy, Sem.run, pure])

theorem sh_ok {op : BinOp} {k k' : IntKind} {x y : Int} (hop : isSh op = true) (h : shM op k x y H = .ok v H') (t : TypeId) :
    H' = H ∧ (binOp op t (.int k x) (.int k' y)).run P w = .ok v w ∧ ∀ μ, VR μ v v := by
  unfold shM at h
  cases y with
  | negSucc n => cases h
  | ofNat n =>
    cases op <;> simp only [isSh] at hop
    all_goals first | (cases hop; done) | skip
    all_goals
      (cases h; refine ⟨rfl, ?_, fun μ => .int _ _⟩
       have h0 : ¬ ((Int.ofNat n : Int) < 0) := by simp
       simp only [binOp, Op.shift]
       rw [if_neg h0]
       rfl)

theorem bytesEq_iff : ∀ (a b : List UInt8), bytesEq a b = decide (a = b)
  | [], [] => rfl
  | [], _ :: _ => rfl
  | _ :: _, [] => rfl
  | a :: x, b :: y => by
    unfold bytesEq
    cases h : Nat.beq a.toNat b.toNat with
    | true =>
      have : a = b := UInt8.toNat_inj.1 (Nat.eq_of_beq_eq_true h)
      subst this
      simp only [bytesEq_iff x y, List.cons.injEq, true_and]
    | false =>
      have : a ≠ b := fun e => by subst e; rw [Nat.beq_refl] at h; cases h
      simp [this]

theorem bytesLt_eq : ∀ (a b : List UInt8), bytesLt a b = Op.bytesLess a b
  | _, [] => by cases ‹List UInt8› <;> rfl
  | [], _ :: _ => rfl
  | a :: x, b :: y => by
    unfold bytesLt Op.bytesLess
    rw [bytesLt_eq x y]
    have e1 : Nat.blt a.toNat b.toNat = decide (a < b) := by
      rw [Bool.eq_iff_iff]; simp [Nat.blt_eq, UInt8.lt_iff_toNat_lt]
    have e2 : Nat.beq a.toNat b.toNat = (a == b) := by
      rw [Bool.eq_iff_iff]; simp [Nat.beq_eq, UInt8.toNat_inj]
    rw [e1, e2]
    cases decide (a < b) <;> cases (a == b) <;> simp

theorem beq_bytes (x y : List UInt8) : (x == y) = decide (x = y) := by rw [Bool.eq_iff_iff]; simp

theorem str_ok {op : BinOp} {a b : ByteArray} (h : strM op a b H = .ok v H') (t : TypeId) :
    H' = H ∧ (binOp op t (.string a) (.string b)).run P w = .ok v w ∧ ∀ μ, VR μ v v := by
  cases op <;> simp only [strM] at h
  all_goals first | (cases h; done) | skip
  case add =>
    split at h
    · rename_i hl
      cases h
      refine ⟨rfl, ?_, fun μ => .string _⟩
      have hl' := Nat.le_of_ble_eq_true hl
      have hs : ¬ (((a.size + b.size : Nat) : Int) > IntKind.i64.max) := by
        have e1 : a.size = a.data.toList.length := by show a.data.size = _; simp
        have e2 : b.size = b.data.toList.length := by show b.data.size = _; simp
        have e3 : IntKind.i64.max = 9223372036854775807 := by decide
        rw [e1, e2, e3]
        omega
      have e : (⟨⟨a.data.toList ++ b.data.toList⟩⟩ : ByteArray) = a ++ b := by
        apply ByteArray.ext
        apply Array.ext'
        simp
      rw [e]
      simp only [binOp, Op.stringOp]
      rw [if_neg hs]
      rfl
    · cases h
  all_goals
    (cases h; refine ⟨rfl, ?_, fun μ => .bool _⟩
     simp only [binOp, Op.stringOp, ByteArray.toList_eq, bytesEq_iff, bytesLt_eq, beq_bytes]
     first | rfl | skip)

theorem bin_ok {op : BinOp} {a b a' b' : Value} (h : binM op a b H = .ok v H') (ha : VR μ a a') (hb : VR μ b b') (t : TypeId) :
    H' = H ∧ (binOp op t a' b').run P w = .ok v w ∧ ∀ μ, VR μ v v := by
  unfold binM at h
  split at h
  · cases ha; cases hb
    split at h
    · exact sh_ok ‹_› h t
    · split at h
      · cases h
      · rename_i e
        simp only [decide_eq_true_eq] at e
        subst e
        exact int_ok ‹_› h t
  · cases ha; cases hb
    exact str_ok h t
  · cases h

theorem un_ok {op : UnOp} {a a' : Value} (h : unM op a H = .ok v H') (ha : VR μ a a') :
    H' = H ∧ (Op.unary op a').run P w = .ok v w ∧ ∀ μ, VR μ v v := by
  unfold unM at h
  split at h
  · cases ha; cases h; exact ⟨rfl, rfl, fun _ => .int _ _⟩
  · cases ha; cases h; exact ⟨rfl, rfl, fun _ => .bool _⟩
  · cases ha; rename_i k n
    cases h; exact ⟨rfl, rfl, fun _ => .int _ _⟩
  · cases h

theorem convInt_ok {k : IntKind} {a a' : Value} (h : convIntM k a H = .ok v H') (ha : VR μ a a') :
    H' = H ∧ ∃ k' n, a' = .int k' n ∧ v = .int k (k.wrap n) := by
  unfold convIntM at h
  split at h
  · cases ha; cases h; exact ⟨rfl, _, _, rfl, rfl⟩
  · cases h
end
end Go.Abs
