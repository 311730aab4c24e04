import Derived.Test.YtpjkibffomknmaaGreatAbsOps
import Derived.Laws.StructEq
import Derived.DeepKeys
/- Equality of values: the abstract one is the model's typed one. -/
namespace Go.Abs
open Go

theorem eqL_append : ∀ (ks ls : List LK) (x y : List Value) (r : Bool), eqL (ks ++ ls) x y = some r →
    ∃ r1 r2, eqL ks (x.take ks.length) (y.take ks.length) = some r1 ∧ eqL ls (x.drop ks.length) (y.drop ks.length) = some r2 ∧ r = (r1 && r2)
  | [], ls, x, y, r, h => ⟨true, r, by simp [eqL], by simpa using h, by simp⟩
  | k :: ks, ls, [], y, r, h => by simp [eqL] at h
  | k :: ks, ls, a :: x, [], r, h => by simp [eqL] at h
  | k :: ks, ls, a :: x, b :: y, r, h => by
    simp only [List.cons_append, eqL] at h
    cases hc : eqCell k a b with
    | none => rw [hc] at h; simp at h
    | some r0 =>
      rw [hc] at h
      cases hl : eqL (ks ++ ls) x y with
      | none => rw [hl] at h; simp at h
      | some r' =>
        rw [hl] at h
        obtain ⟨r1, r2, h1, h2, rfl⟩ := eqL_append ks ls x y r' hl
        refine ⟨(r0 && r1), r2, ?_, by simpa using h2, ?_⟩
        · simp only [List.length_cons, List.take_succ_cons, eqL, hc, h1]
        · simp only [Option.some.injEq] at h
          rw [← h, Bool.and_assoc]

theorem eqL_length : ∀ (ks : List LK) (x y : List Value) (r : Bool), eqL ks x y = some r → x.length = ks.length ∧ y.length = ks.length
  | [], [], [], _, _ => ⟨rfl, rfl⟩
  | [], [], _ :: _, _, h => by simp [eqL] at h
  | [], _ :: _, _, _, h => by simp [eqL] at h
  | _ :: _, [], _, _, h => by simp [eqL] at h
  | _ :: _, _ :: _, [], _, h => by simp [eqL] at h
  | k :: ks, a :: x, b :: y, r, h => by
    simp only [eqL] at h
    cases hc : eqCell k a b with
    | none => rw [hc] at h; simp at h
    | some r0 =>
      rw [hc] at h
      cases hl : eqL ks x y with
      | none => rw [hl] at h; simp at h
      | some r' =>
        have := eqL_length ks x y r' hl
        simp; omega

/-- cells without addresses -/
def FlatCell (v : Value) : Prop := (∃ b, v = .bool b) ∨ (∃ k n, v = .int k n) ∨ (∃ s, v = .string s)
theorem eqCell_flat {k : LK} {a b : Value} {r : Bool} (h : eqCell k a b = some r) : FlatCell a ∧ FlatCell b ∧ (r = true ↔ a = b) := by
  unfold eqCell at h
  split at h
  · rename_i x y
    refine ⟨.inl ⟨_, rfl⟩, .inl ⟨_, rfl⟩, ?_⟩
    cases x <;> cases y <;> simp_all
  · split at h
    · rename_i e
      simp only [decide_eq_true_eq] at e
      subst e
      refine ⟨.inr (.inl ⟨_, _, rfl⟩), .inr (.inl ⟨_, _, rfl⟩), ?_⟩
      cases h; simp
    · cases h
  · rename_i x y
    refine ⟨.inr (.inr ⟨_, rfl⟩), .inr (.inr ⟨_, rfl⟩), ?_⟩
    cases h
    rw [bytesEq_iff]
    simp only [decide_eq_true_eq, Value.string.injEq]
    constructor
    · intro e; apply ByteArray.ext; exact Array.ext' e
    · intro e; rw [e]
  · cases h
theorem eqL_flat : ∀ {ks : List LK} {x y : List Value} {r : Bool}, eqL ks x y = some r → (∀ a ∈ x, FlatCell a) ∧ (∀ a ∈ y, FlatCell a) ∧ (r = true ↔ x = y)
  | [], [], [], _, h => by simp [eqL] at h; subst h; simp
  | [], [], _ :: _, _, h => by simp [eqL] at h
  | [], _ :: _, _, _, h => by simp [eqL] at h
  | _ :: _, [], _, _, h => by simp [eqL] at h
  | _ :: _, _ :: _, [], _, h => by simp [eqL] at h
  | k :: ks, a :: x, b :: y, r, h => by
    simp only [eqL] at h
    cases hc : eqCell k a b with
    | none => rw [hc] at h; simp at h
    | some r0 =>
      rw [hc] at h
      cases hl : eqL ks x y with
      | none => rw [hl] at h; simp at h
      | some r' =>
        rw [hl] at h
        obtain ⟨h1, h2, h3⟩ := eqL_flat hl
        obtain ⟨c1, c2, c3⟩ := eqCell_flat hc
        refine ⟨by simpa using ⟨c1, h1⟩, by simpa using ⟨c2, h2⟩, ?_⟩
        cases r0 <;> simp_all

theorem FlatCell.eq_of_VR {μ : Mu} {v v' : Value} (h : FlatCell v) (k : VR μ v v') : v' = v := by
  rcases h with ⟨b, rfl⟩ | ⟨a, n, rfl⟩ | ⟨s, rfl⟩ <;> cases k <;> rfl
theorem flat_eq_of_LR {μ : Mu} {l l' : List Value} (h : ∀ a ∈ l, FlatCell a) (k : LR μ l l') : l' = l := by
  apply List.ext_getElem k.len.symm
  intro i h1 h2
  exact (h _ (List.getElem_mem h2)).eq_of_VR (k.at_ i h2 h1)

def Shaped (agg : Bool) (v : Value) : Prop := match agg with
  | true => ∃ a, v = .agg a
  | false => one v = true

section
variable {P : Program}

theorem info_okT {t : TypeId} (h : okT P t = true) : ∃ i, P.info? t = some i := by obtain ⟨i, _, h, _⟩ := okT_iff h; exact ⟨i, h⟩

theorem leafs_okT {m : Nat} {t : TypeId} {ks : List LK} (h : leafs P m t = some ks) : okT P t = true := by
  cases m with
  | zero => simp [leafs] at h
  | succ m =>
    unfold leafs at h
    cases e : okT P t with
    | true => rfl
    | false => rw [e] at h; simp at h

/-- a part of a struct or an array, as the model takes it -/
theorem run_part_leafs {t : TypeId} {m : Nat} {ks : List LK} (hk : leafs P m t = some ks) (hsz : sizeT P t = ks.length) (xs : Array Value) (off : Nat) (hl : off + ks.length ≤ xs.toList.length)
    (hone : ∀ a ∈ (xs.toList.drop off).take ks.length, FlatCell a) (w : World) :
    ∃ v, (part t xs off).run P w = .ok v w ∧ Shaped (aggT P t) v ∧ v.cells.toList = (xs.toList.drop off).take ks.length := by
  have hok := leafs_okT hk
  unfold part
  simp only [Sem.run_bind, run_aggT hok, Result.andThen_ok]
  cases ha : aggT P t with
  | true =>
    simp only [if_true, Sem.run_bind, run_sizeT hok, Result.andThen_ok]
    refine ⟨_, rfl, ⟨_, rfl⟩, ?_⟩
    simp [Value.cells, hsz, List.extract_eq_take_drop]
  | false =>
    have hl1 : ks.length = 1 := by
      cases m with
      | zero => simp [leafs] at hk
      | succ m =>
        unfold leafs at hk
        rw [hok] at hk
        unfold aggT at ha
        split at ha
        · cases ha
        · cases ha
        · rename_i d h1 h2
          revert hk
          simp only
          split <;> intro hk <;> simp_all
          all_goals (first | (subst hk; rfl) | (rw [← hk]; rfl) | skip)
    have hlt : off < xs.size := by simp at hl; omega
    simp only [if_false, Bool.false_eq_true]
    have e : xs[off]? = some xs[off] := by simp [hlt]
    rw [e]
    have e2 : (xs.toList.drop off).take ks.length = [xs[off]] := by
      rw [hl1]
      rw [List.drop_eq_getElem_cons (by simpa using hlt)]
      simp
    rw [e2] at hone ⊢
    have hf := hone xs[off] (by simp)
    refine ⟨xs[off], rfl, ?_, ?_⟩
    · rcases hf with ⟨b, h⟩ | ⟨k, n, h⟩ | ⟨s, h⟩ <;> rw [h] <;> rfl
    · rcases hf with ⟨b, h⟩ | ⟨k, n, h⟩ | ⟨s, h⟩ <;> rw [h] <;> rfl

def EqOk (P : Program) (dd : Nat) (t : TypeId) (ks : List LK) : Prop :=
  ∀ (w : World) (x y : Value) (r : Bool), Shaped (aggT P t) x → Shaped (aggT P t) y → eqL ks x.cells.toList y.cells.toList = some r → (Op.equalIn dd t x y).run P w = .ok r w

theorem eqFields_ok {m dd : Nat} (ih : ∀ t ks, leafs P m t = some ks → EqOk P dd t ks) (xs ys : Array Value) (w : World) : ∀ (fs : List Field) (acc ks : List LK), leafsGo P (leafs P m) fs acc = some ks →
    ∃ rest, ks = acc ++ rest ∧ ∀ r, acc.length ≤ xs.toList.length → acc.length ≤ ys.toList.length → eqL rest (xs.toList.drop acc.length) (ys.toList.drop acc.length) = some r → (Op.eqFields dd xs ys fs).run P w = .ok r w
  | [], acc, ks, h => by
    simp only [leafsGo, Option.some.injEq] at h
    subst h
    refine ⟨[], by simp, fun r _ _ hr => ?_⟩
    have hl := eqL_length _ _ _ _ hr
    have : r = true := by
      have e1 := List.eq_nil_of_length_eq_zero hl.1
      have e2 := List.eq_nil_of_length_eq_zero hl.2
      rw [e1, e2] at hr
      simpa [eqL] using hr.symm
    subst this
    rfl
  | f :: fs, acc, ks, h => by
    unfold leafsGo at h
    cases hf : leafs P m f.type with
    | none => rw [hf] at h; cases h
    | some kf =>
      rw [hf] at h
      simp only at h
      split at h
      · rename_i hc
        simp only [Bool.and_eq_true, bne_iff_ne, ne_eq] at hc
        obtain ⟨h1, h2, h3⟩ := hc
        have h1 := Nat.eq_of_beq_eq_true h1
        have h2 := Nat.eq_of_beq_eq_true h2
        obtain ⟨rest, rfl, hr⟩ := eqFields_ok ih xs ys w fs (acc ++ kf) ks h
        refine ⟨kf ++ rest, by simp, fun r hx hy hrr => ?_⟩
        obtain ⟨r1, r2, e1, e2, rfl⟩ := eqL_append _ _ _ _ _ hrr
        rw [List.drop_drop, List.drop_drop] at e2
        have l1 := eqL_length _ _ _ _ e1
        simp only [List.length_take, List.length_drop] at l1
        have e2' := hr r2 (by rw [List.length_append]; omega) (by rw [List.length_append]; omega) (by simpa using e2)
        obtain ⟨f1, f2, _⟩ := eqL_flat e1
        obtain ⟨a, pa, sa, ca⟩ := run_part_leafs hf h2 xs f.offset (by omega) (by rw [h1]; exact f1) w
        obtain ⟨b, pb, sb, cb⟩ := run_part_leafs hf h2 ys f.offset (by omega) (by rw [h1]; exact f2) w
        have he := ih f.type kf hf w a b r1 sa sb (by rw [ca, cb, h1]; exact e1)
        simp only [Op.eqFields, h3, ne_eq, not_false_eq_true, if_true, Sem.run_bind, pa, pb, he, Result.andThen_ok]
        cases r1
        · simp [Sem.run, pure]
        · simpa using e2'
      · cases h

theorem eqItems_ok {m dd : Nat} {e : TypeId} {kf : List LK} (hf : leafs P m e = some kf) (hsz : kf.length = sizeT P e) (ih : EqOk P dd e kf) (xs ys : Array Value) (w : World) :
    ∀ (n i : Nat) (r : Bool), i * kf.length ≤ xs.toList.length → i * kf.length ≤ ys.toList.length → eqL (reptK kf n) (xs.toList.drop (i * kf.length)) (ys.toList.drop (i * kf.length)) = some r →
    (Op.eqItems dd e kf.length xs ys (List.range' i n)).run P w = .ok r w
  | 0, i, r, _, _, h => by
    have hl := eqL_length _ _ _ _ h
    have : r = true := by
      have e1 := List.eq_nil_of_length_eq_zero hl.1
      have e2 := List.eq_nil_of_length_eq_zero hl.2
      rw [e1, e2] at h
      simpa [eqL, reptK] using h.symm
    subst this
    rfl
  | n + 1, i, r, hx, hy, h => by
    simp only [reptK] at h
    obtain ⟨r1, r2, e1, e2, rfl⟩ := eqL_append _ _ _ _ _ h
    rw [List.drop_drop, List.drop_drop] at e2
    have l1 := eqL_length _ _ _ _ e1
    simp only [List.length_take, List.length_drop] at l1
    have e2' := eqItems_ok hf hsz ih xs ys w n (i + 1) r2 (by rw [Nat.add_mul, Nat.one_mul]; omega) (by rw [Nat.add_mul, Nat.one_mul]; omega) (by rw [Nat.add_mul, Nat.one_mul]; exact e2)
    obtain ⟨f1, f2, _⟩ := eqL_flat e1
    obtain ⟨a, pa, sa, ca⟩ := run_part_leafs hf hsz.symm xs (i * kf.length) (by omega) f1 w
    obtain ⟨b, pb, sb, cb⟩ := run_part_leafs hf hsz.symm ys (i * kf.length) (by omega) f2 w
    have he := ih w a b r1 sa sb (by rw [ca, cb]; exact e1)
    simp only [List.range'_succ, Op.eqItems, Sem.run_bind, pa, pb, he, Result.andThen_ok]
    cases r1
    · simp [Sem.run, pure]
    · simpa using e2'

theorem one_cells {v : Value} (h : one v = true) : v.cells.toList = [v] := by cases v <;> first | rfl | (simp [one] at h)

theorem equalIn_ok (d : Nat) : ∀ (m : Nat) (t : TypeId) (ks : List LK), leafs P m t = some ks → EqOk P (d + m) t ks
  | 0, t, ks, h => by simp [leafs] at h
  | m + 1, t, ks, h => by
    intro w x y r sx sy hr
    have hok := leafs_okT h
    obtain ⟨i0, dd, hi, hd⟩ := okT_iff hok
    unfold leafs at h
    rw [hok, descOf_eq hd] at h
    simp only at h
    have hag : aggT P t = match (generalizing := false) dd with | .struct _ | .array _ _ => true | _ => false := by unfold aggT; rw [descOf_eq hd]; cases dd <;> rfl
    cases dd <;> simp only [reduceCtorEq] at h
    case bool =>
      cases h
      simp only at hag; rw [hag] at sx sy
      rw [one_cells sx, one_cells sy] at hr
      simp only [eqL, Bool.and_true] at hr
      cases hc : eqCell .b x y with
      | none => rw [hc] at hr; cases hr
      | some r0 =>
        rw [hc] at hr; cases hr
        unfold eqCell at hc
        split at hc <;> rename_i h1 <;> first | (cases h1; done) | skip
        · cases hc
          rename_i a b
          rw [show d + (m + 1) = (d + m) + 1 from rfl, run_equalIn_bool' w (d + m) t a b hd]
          cases a <;> cases b <;> rfl
        · cases hc
    case int k =>
      cases h
      simp only at hag; rw [hag] at sx sy
      rw [one_cells sx, one_cells sy] at hr
      simp only [eqL, Bool.and_true] at hr
      cases hc : eqCell .i x y with
      | none => rw [hc] at hr; cases hr
      | some r0 =>
        rw [hc] at hr; cases hr
        unfold eqCell at hc
        split at hc <;> rename_i h1 <;> first | (cases h1; done) | skip
        · split at hc
          · rename_i e
            simp only [decide_eq_true_eq] at e
            subst e
            cases hc
            rw [show d + (m + 1) = (d + m) + 1 from rfl, run_equalIn_int w (d + m) t _ k _ _ hd, beq_int, Bool.and_true]
          · cases hc
        · cases hc
    case string =>
      cases h
      simp only at hag; rw [hag] at sx sy
      rw [one_cells sx, one_cells sy] at hr
      simp only [eqL, Bool.and_true] at hr
      cases hc : eqCell .s x y with
      | none => rw [hc] at hr; cases hr
      | some r0 =>
        rw [hc] at hr; cases hr
        unfold eqCell at hc
        split at hc <;> rename_i h1 <;> first | (cases h1; done) | skip
        · cases hc
          rw [show d + (m + 1) = (d + m) + 1 from rfl, run_equalIn_string w (d + m) t _ _ hd, ByteArray.toList_eq, ByteArray.toList_eq, beq_bytes, bytesEq_iff, Bool.and_true]
        · cases hc
    case array n e =>
      simp only at hag; rw [hag] at sx sy
      obtain ⟨xs, rfl⟩ := sx
      obtain ⟨ys, rfl⟩ := sy
      cases hf : leafs P m e with
      | none => rw [hf] at h; cases h
      | some kf =>
        rw [hf] at h
        simp only at h
        split at h
        · rename_i hc
          have hc := Nat.eq_of_beq_eq_true hc
          cases h
          obtain ⟨ie, hie⟩ := info_okT (leafs_okT hf)
          rw [show d + (m + 1) = (d + m) + 1 from rfl, run_equalIn_array w (d + m) xs ys hd hie]
          have := eqItems_ok hf hc (equalIn_ok d m e kf hf) xs ys w n 0 r (by simp) (by simp) (by simpa [Value.cells] using hr)
          rw [List.range_eq_range', show P.cellsOf e = kf.length from hc.symm]
          exact this
        · cases h
    case struct fs =>
      simp only at hag; rw [hag] at sx sy
      obtain ⟨xs, rfl⟩ := sx
      obtain ⟨ys, rfl⟩ := sy
      cases hs : P.stoodInHeld t with
      | true => rw [hs] at h; cases h
      | false =>
        rw [hs] at h
        have hfo : P.fieldsOf t = fs := by simp [Program.fieldsOf, hd]
        rw [show d + (m + 1) = (d + m) + 1 from rfl, run_equalIn_struct w (d + m) t xs ys (by rw [hfo]; exact hd) hs, hfo]
        obtain ⟨rest, e1, e2⟩ := eqFields_ok (dd := d + m) (fun t ks hk => equalIn_ok d m t ks hk) xs ys w fs.toList [] ks h
        simp only [List.nil_append] at e1
        subst e1
        exact e2 r (by simp) (by simp) (by simpa [Value.cells] using hr)
end
end Go.Abs
