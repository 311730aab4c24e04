import Derived.Test.YtpjkibffomknmaaGreatAbsCore
import Derived.Laws.Sem
import Derived.Laws.Cells
import Derived.Laws.World
import Derived.Laws.CopyRow
/- The relation between abstract and concrete states. -/
namespace Go.Abs
open Go

/-! ## Lists related place by place -/
structure L2 {α β : Type} (r : α → β → Prop) (l : List α) (l' : List β) : Prop where
  len : l.length = l'.length
  at_ : ∀ i (h : i < l.length) (h' : i < l'.length), r l[i] l'[i]

namespace L2
variable {α β : Type} {r : α → β → Prop}
theorem nil : L2 r [] [] := ⟨rfl, fun i h => by simp at h⟩
theorem cons {a : α} {b : β} {l : List α} {l' : List β} (h : r a b) (t : L2 r l l') : L2 r (a :: l) (b :: l') :=
  ⟨by simp [t.len], fun i h1 h2 => by
    cases i with
    | zero => exact h
    | succ i => exact t.at_ i (by simpa using h1) (by simpa using h2)⟩
theorem head {a : α} {b : β} {l : List α} {l' : List β} (h : L2 r (a :: l) (b :: l')) : r a b := h.at_ 0 (by simp) (by simp)
theorem tail {a : α} {b : β} {l : List α} {l' : List β} (h : L2 r (a :: l) (b :: l')) : L2 r l l' :=
  ⟨by have := h.len; simpa using this, fun i h1 h2 => by have := h.at_ (i + 1) (by simp; omega) (by simp; omega); simpa using this⟩
theorem nil_left {l' : List β} (h : L2 r [] l') : l' = [] := by have := h.len; exact List.eq_nil_of_length_eq_zero (by simpa using this.symm)
theorem cons_left {a : α} {l : List α} {l' : List β} (h : L2 r (a :: l) l') : ∃ b t, l' = b :: t ∧ r a b ∧ L2 r l t := by
  cases l' with
  | nil => have := h.len; simp at this
  | cons b t => exact ⟨b, t, rfl, h.head, h.tail⟩
theorem get? {l : List α} {l' : List β} (h : L2 r l l') {i : Nat} {a : α} (ha : l[i]? = some a) : ∃ b, l'[i]? = some b ∧ r a b := by
  obtain ⟨hi, rfl⟩ := List.getElem?_eq_some_iff.1 ha
  have hi' : i < l'.length := by have := h.len; omega
  exact ⟨l'[i], by simp [hi'], h.at_ i hi hi'⟩
theorem of_get? {l : List α} {l' : List β} (hl : l.length = l'.length) (h : ∀ (i : Nat) a b, l[i]? = some a → l'[i]? = some b → r a b) : L2 r l l' :=
  ⟨hl, fun i h1 h2 => h i _ _ (List.getElem?_eq_getElem h1) (List.getElem?_eq_getElem h2)⟩
theorem append {a b : List α} {a' b' : List β} (h : L2 r a a') (k : L2 r b b') : L2 r (a ++ b) (a' ++ b') := by
  refine of_get? (by simp [h.len, k.len]) fun i x y hx hy => ?_
  have hl := h.len
  by_cases hi : i < a.length
  · rw [List.getElem?_append_left hi] at hx
    rw [List.getElem?_append_left (by omega)] at hy
    obtain ⟨b, hb, hr⟩ := h.get? hx
    rw [hy] at hb; cases hb; exact hr
  · rw [List.getElem?_append_right (by omega)] at hx
    rw [List.getElem?_append_right (by omega)] at hy
    rw [hl] at hx
    obtain ⟨b, hb, hr⟩ := k.get? hx
    rw [hy] at hb; cases hb; exact hr
theorem take {a : List α} {a' : List β} (h : L2 r a a') (n : Nat) : L2 r (a.take n) (a'.take n) := by
  refine of_get? (by simp [h.len]) fun i x y hx hy => ?_
  rw [List.getElem?_take] at hx hy
  split at hx
  · rename_i hi
    rw [if_pos hi] at hy
    obtain ⟨b, hb, hr⟩ := h.get? hx
    rw [hy] at hb; cases hb; exact hr
  · cases hx
theorem drop {a : List α} {a' : List β} (h : L2 r a a') (n : Nat) : L2 r (a.drop n) (a'.drop n) := by
  refine of_get? (by simp [h.len]) fun i x y hx hy => ?_
  rw [List.getElem?_drop] at hx hy
  obtain ⟨b, hb, hr⟩ := h.get? hx
  rw [hy] at hb; cases hb; exact hr
theorem reverse {a : List α} {a' : List β} (h : L2 r a a') : L2 r a.reverse a'.reverse := by
  have hl := h.len
  refine of_get? (by simp [h.len]) fun i x y hx hy => ?_
  have hi : i < a.length := by have := (List.getElem?_eq_some_iff.1 hx).1; simpa using this
  rw [List.getElem?_reverse hi] at hx
  rw [List.getElem?_reverse (by omega)] at hy
  rw [← hl] at hy
  obtain ⟨b, hb, hr⟩ := h.get? hx
  rw [hy] at hb; cases hb; exact hr
theorem imp {s : α → β → Prop} (hs : ∀ a b, r a b → s a b) {l : List α} {l' : List β} (h : L2 r l l') : L2 s l l' :=
  ⟨h.len, fun i h1 h2 => hs _ _ (h.at_ i h1 h2)⟩
theorem map {γ δ : Type} {s : γ → δ → Prop} (f : γ → α) (g : δ → β) {l : List γ} {l' : List δ} (h : L2 s l l') (hfg : ∀ x y, s x y → r (f x) (g y)) : L2 r (l.map f) (l'.map g) := by
  refine of_get? (by simp [h.len]) fun i x y hx hy => ?_
  simp only [List.getElem?_map, Option.map_eq_some_iff] at hx hy
  obtain ⟨a, ha, rfl⟩ := hx
  obtain ⟨b, hb, rfl⟩ := hy
  obtain ⟨b', hb', hr⟩ := h.get? ha
  rw [hb] at hb'; cases hb'; exact hfg _ _ hr
theorem map_same {γ : Type} (f : γ → α) (g : γ → β) (l : List γ) (hfg : ∀ x ∈ l, r (f x) (g x)) : L2 r (l.map f) (l.map g) := by
  refine of_get? (by simp) fun i x y hx hy => ?_
  simp only [List.getElem?_map, Option.map_eq_some_iff] at hx hy
  obtain ⟨a, ha, rfl⟩ := hx
  obtain ⟨b, hb, rfl⟩ := hy
  rw [ha] at hb; cases hb
  exact hfg _ (List.mem_of_getElem? ha)
theorem splice {a c : List Value} {a' c' : List Value} {r : Value → Value → Prop} (h : L2 r a a') (k : L2 r c c') (n : Nat) : L2 r (Abs.splice a n c) (Abs.splice a' n c') := by
  unfold Abs.splice
  rw [k.len]
  exact ((h.take n).append k).append (h.drop _)
end L2

/-! ## Places -/
structure Loc where
  b : Nat
  base : Nat
  lim : Nat
  esz : Nat

abbrev Mu := Nat → Option Loc
def Mu.le (μ μ' : Mu) : Prop := ∀ i l, μ i = some l → μ' i = some l
theorem Mu.le.refl (μ : Mu) : μ.le μ := fun _ _ h => h
theorem Mu.le.trans {a b c : Mu} (h : a.le b) (k : b.le c) : a.le c := fun i l e => k i l (h i l e)

def CapR (c c' : Nat) : Prop := if INX ≤ c then c - INX ≤ c' else c' = c

inductive FnR (μ : Mu) : Fn → Fn → Prop
  | func (f) : FnR μ (.func f) (.func f)
  | method (n) : FnR μ (.method n) (.method n)
  | yield {l loc} (h : μ l = some loc) : FnR μ (.yield l) (.yield loc.b)

inductive VR (μ : Mu) : Value → Value → Prop
  | undef (v) : VR μ (.tuple #[]) v
  | skip : VR μ (.chan none) (.tuple #[])
  | bool (b) : VR μ (.bool b) (.bool b)
  | int (k n) : VR μ (.int k n) (.int k n)
  | string (s) : VR μ (.string s) (.string s)
  | nilptr : VR μ (.pointer none) (.pointer none)
  | ptr {i off l} (h : μ i = some l) : VR μ (.pointer (some ⟨i, off, none⟩)) (.pointer (some ⟨l.b, l.base + off, none⟩))
  | nilslice (n c) (hc : c < INX) (hn : n ≤ c) : VR μ (.slice none n c) (.slice none n c)
  | slice {i off l n c c' a'} (h : μ i = some l) (hc : CapR c c') (hn : n ≤ c') (ha : a' = ⟨l.b, l.base + off, none⟩ ∨ (c' = 0 ∧ a'.block = l.b ∧ a'.spot = none))
      (hl : INX ≤ c → 0 < c' → l.base + off + c' * l.esz ≤ l.lim) : VR μ (.slice (some ⟨i, off, none⟩) n c) (.slice (some a') n c')
  | nilmap : VR μ (.map none) (.map none)
  | map {i l} (h : μ i = some l) : VR μ (.map (some i)) (.map (some l.b))
  | func {f f' a a' c c'} (hf : FnR μ f f') (hl : a.toList.length = a'.toList.length) (ha : ∀ i (h : i < a.toList.length) (h' : i < a'.toList.length), VR μ a.toList[i] a'.toList[i])
      (hm : c.toList.length = c'.toList.length) (hc : ∀ i (h : i < c.toList.length) (h' : i < c'.toList.length), VR μ c.toList[i] c'.toList[i]) : VR μ (.func f a c) (.func f' a' c')
  | nilFunc : VR μ .nilFunc .nilFunc
  | nilIface : VR μ .nilIface .nilIface
  | iface {t v v'} (h : VR μ v v') : VR μ (.iface t v) (.iface t v')
  | agg {a a'} (hl : a.toList.length = a'.toList.length) (ha : ∀ i (h : i < a.toList.length) (h' : i < a'.toList.length), VR μ a.toList[i] a'.toList[i]) : VR μ (.agg a) (.agg a')
  | tuple {a a'} (hl : a.toList.length = a'.toList.length) (ha : ∀ i (h : i < a.toList.length) (h' : i < a'.toList.length), VR μ a.toList[i] a'.toList[i]) : VR μ (.tuple a) (.tuple a')

abbrev LR (μ : Mu) : List Value → List Value → Prop := L2 (VR μ)

theorem FnR.mono {μ μ' : Mu} (hm : μ.le μ') {f f' : Fn} (h : FnR μ f f') : FnR μ' f f' := by
  cases h with
  | func f => exact .func f
  | method n => exact .method n
  | yield h => exact .yield (hm _ _ h)

theorem VR.mono {μ μ' : Mu} (hm : μ.le μ') {v v' : Value} (h : VR μ v v') : VR μ' v v' := by
  induction h with
  | undef v => exact .undef v
  | skip => exact .skip
  | bool b => exact .bool b
  | int k n => exact .int k n
  | string s => exact .string s
  | nilptr => exact .nilptr
  | ptr h => exact .ptr (hm _ _ h)
  | nilslice n c hc hn => exact .nilslice n c hc hn
  | slice h hc hn ha hl => exact .slice (hm _ _ h) hc hn ha hl
  | nilmap => exact .nilmap
  | map h => exact .map (hm _ _ h)
  | func hf hl _ hm' _ iha ihc => exact .func (hf.mono hm) hl iha hm' ihc
  | nilFunc => exact .nilFunc
  | nilIface => exact .nilIface
  | iface _ ih => exact .iface ih
  | agg hl _ ih => exact .agg hl ih
  | tuple hl _ ih => exact .tuple hl ih

theorem LR.mono {μ μ' : Mu} (hm : μ.le μ') {l l' : List Value} (h : LR μ l l') : LR μ' l l' := h.imp fun _ _ k => k.mono hm

theorem VR.agg' {μ : Mu} {a a' : Array Value} (h : LR μ a.toList a'.toList) : VR μ (.agg a) (.agg a') := .agg h.len h.at_
theorem VR.tuple' {μ : Mu} {a a' : Array Value} (h : LR μ a.toList a'.toList) : VR μ (.tuple a) (.tuple a') := .tuple h.len h.at_
theorem VR.func' {μ : Mu} {f f' : Fn} {a a' c c' : Array Value} (hf : FnR μ f f') (h : LR μ a.toList a'.toList) (k : LR μ c.toList c'.toList) : VR μ (.func f a c) (.func f' a' c') := .func hf h.len h.at_ k.len k.at_
theorem VR.undef' {μ : Mu} (v : Value) : VR μ undefV v := .undef v

theorem VR.agg_inv {μ : Mu} {a : Array Value} {v : Value} (h : VR μ (.agg a) v) : ∃ a', v = .agg a' ∧ LR μ a.toList a'.toList := by
  cases h with
  | agg hl ha => exact ⟨_, rfl, hl, ha⟩

theorem one_of_VR {μ : Mu} {v v' : Value} (h : VR μ v v') (ho : one v = true) : one v' = true := by
  cases h <;> first | rfl | (simp [one] at ho)

/-- the cells of related values -/
theorem VR.cells {μ : Mu} {v v' : Value} (h : VR μ v v') (hv : v ≠ .tuple #[]) : LR μ v.cells.toList v'.cells.toList := by
  have one' : ∀ {x y : Value}, VR μ x y → LR μ [x] [y] := fun k => .cons k .nil
  cases h with
  | undef v => exact absurd rfl hv
  | skip => exact one' .skip
  | agg hl ha => exact ⟨hl, ha⟩
  | tuple hl ha => exact one' (.tuple hl ha)
  | bool b => exact one' (.bool b)
  | int k n => exact one' (.int k n)
  | string s => exact one' (.string s)
  | nilptr => exact one' .nilptr
  | ptr h => exact one' (.ptr h)
  | nilslice n c hc hn => exact one' (.nilslice n c hc hn)
  | slice h hc hn ha hl => exact one' (.slice h hc hn ha hl)
  | nilmap => exact one' .nilmap
  | map h => exact one' (.map h)
  | func hf hl ha hm hc => exact one' (.func hf hl ha hm hc)
  | nilFunc => exact one' .nilFunc
  | nilIface => exact one' .nilIface
  | iface h => exact one' (.iface h)

/-- values without addresses are related to themselves -/
inductive Flat : Value → Prop
  | bool (b) : Flat (.bool b)
  | int (k n) : Flat (.int k n)
  | string (s) : Flat (.string s)
  | nilptr : Flat (.pointer none)
  | nilslice : Flat (.slice none 0 0)
  | nilmap : Flat (.map none)
  | nilFunc : Flat .nilFunc
  | func (f) : Flat (.func (.func f) #[] #[])
  | nilIface : Flat .nilIface
  | agg {a : Array Value} (h : ∀ v ∈ a.toList, Flat v) : Flat (.agg a)
  | tuple {a : Array Value} (h : ∀ v ∈ a.toList, Flat v) : Flat (.tuple a)

theorem Flat.VR {v : Value} (h : Flat v) (μ : Mu) : VR μ v v := by
  induction h with
  | bool b => exact .bool b
  | int k n => exact .int k n
  | string s => exact .string s
  | nilptr => exact .nilptr
  | nilslice => exact .nilslice 0 0 (by decide) (Nat.le_refl 0)
  | nilmap => exact .nilmap
  | nilFunc => exact .nilFunc
  | func f => exact .func (.func f) rfl (fun i h => by simp at h) rfl (fun i h => by simp at h)
  | nilIface => exact .nilIface
  | agg _ ih => exact .agg rfl fun i h _ => ih _ (List.getElem_mem h)
  | tuple _ ih => exact .tuple rfl fun i h _ => ih _ (List.getElem_mem h)

/-! ## Objects -/
def rwOb : Ob → Bool
  | .cells _ _ ro => !ro
  | _ => true

def EntR (μ : Mu) (e : Value × Value × Nat) (e' : MapEntry) : Prop := VR μ e.1 e'.key ∧ VR μ e.2.1 e'.val ∧ e.2.2 = e'.born

def OR (P : Program) (μ : Mu) (l : Loc) : Ob → Obj → Prop
  | .cells vs ty ro, o => ∃ arr ty' fz, o = .cells arr ty' fz ∧ arr.size = l.lim ∧ l.base + vs.length ≤ arr.size ∧
      LR μ vs ((arr.toList.drop l.base).take vs.length) ∧ (ro = false → ∀ off, off < arr.size → ¬ (fz.1 ≤ off ∧ off < fz.2)) ∧ l.esz = ty
  | .map es c, o => ∃ es', o = .map es' c ∧ L2 (EntR μ) es es'.toList ∧ l.base = 0
  | .iter m since seen stepped, o => ∃ m', o = .mapIter m' since seen.toArray stepped ∧ l.base = 0 ∧
      (match m, m' with | none, none => True | some i, some b => ∃ l', μ i = some l' ∧ l'.b = b | _, _ => False)
  | .loop st pe fn vals ps a b _ _, o => ∃ L : Go.Loop, o = .loop L ∧ l.base = 0 ∧ L.state = st ∧ L.pending = pe ∧ (L.fn = fn ∧ (P.funcs[fn]?).isSome = true) ∧ L.params.toList = ps ∧ L.assign = a ∧ L.body = b ∧
      okCode L.tmps.size [] a = true ∧ okCode L.tmps.size [] b = true ∧ (∀ p ∈ ps, p < L.tmps.size) ∧ ∀ t v, (t, v) ∈ vals → VR μ v (L.tmps.getD t undef)

theorem OR.mono {P : Program} {μ μ' : Mu} (hm : μ.le μ') {l : Loc} {ob : Ob} {o : Obj} (h : OR P μ l ob o) : OR P μ' l ob o := by
  cases ob with
  | cells vs ty ro =>
    obtain ⟨arr, ty', fz, h1, h2, h3, h4, h5, h6⟩ := h
    exact ⟨arr, ty', fz, h1, h2, h3, h4.mono hm, h5, h6⟩
  | map es c =>
    obtain ⟨es', h1, h2, h3⟩ := h
    exact ⟨es', h1, h2.imp fun _ _ k => ⟨k.1.mono hm, k.2.1.mono hm, k.2.2⟩, h3⟩
  | iter m since seen stepped =>
    obtain ⟨m', h1, h2, h3⟩ := h
    refine ⟨m', h1, h2, ?_⟩
    cases m <;> cases m' <;> simp_all
    obtain ⟨l', h, e⟩ := h3
    exact ⟨l', hm _ _ h, e⟩
  | loop st pe fn vals ps a b x y =>
    obtain ⟨L, h1, h2, h3, h4, h5, h6, h7, h8, h9, h10, h11, h12⟩ := h
    exact ⟨L, h1, h2, h3, h4, h5, h6, h7, h8, h9, h10, h11, fun t v k => (h12 t v k).mono hm⟩

/-! ## States -/
structure SR (P : Program) (N : Nat) (μ : Mu) (H : Hp) (w : World) : Prop where
  dom : ∀ i o l, H.get i = some o → μ i = some l → ∃ ob, w.heap[l.b]? = some ob ∧ OR P μ l o ob
  fresh : ∀ i, H.size ≤ i → μ i = none ∧ H.get i = none
  blocks : ∀ i l, μ i = some l → l.b < w.heap.size
  excl : ∀ i j oi oj li lj, H.get i = some oi → H.get j = some oj → μ i = some li → μ j = some lj → i ≠ j → rwOb oi = true → li.b ≠ lj.b
  low : ∀ i o l, H.get i = some o → rwOb o = true → μ i = some l → N ≤ l.b
  bound : N ≤ w.heap.size

def Own (μ : Mu) (H : Hp) (b : Nat) : Prop := ∃ i o l, H.get i = some o ∧ rwOb o = true ∧ μ i = some l ∧ l.b = b

structure TR (μ : Mu) (H : Hp) (w : World) (μ' : Mu) (H' : Hp) (w' : World) : Prop where
  le : μ.le μ'
  size : H.size ≤ H'.size
  heap : w.heap.size ≤ w'.heap.size
  os : w'.os = w.os
  tape : w'.tape = w.tape
  output : w'.output = w.output
  keep : ∀ b, b < w.heap.size → ¬ Own μ H b → w'.heap[b]? = w.heap[b]? ∧ ¬ Own μ' H' b
  still : ∀ i, i < H.size → μ i = none → μ' i = none ∧ H'.get i = H.get i

theorem TR.refl (μ : Mu) (H : Hp) (w : World) : TR μ H w μ H w := ⟨Mu.le.refl _, Nat.le_refl _, Nat.le_refl _, rfl, rfl, rfl, fun _ _ h => ⟨rfl, h⟩, fun _ _ h => ⟨h, rfl⟩⟩
theorem TR.trans {μ μ' μ'' : Mu} {H H' H'' : Hp} {w w' w'' : World} (h : TR μ H w μ' H' w') (k : TR μ' H' w' μ'' H'' w'') : TR μ H w μ'' H'' w'' :=
  ⟨h.le.trans k.le, Nat.le_trans h.size k.size, Nat.le_trans h.heap k.heap, k.os.trans h.os, k.tape.trans h.tape, k.output.trans h.output, fun b hb hn => by
    obtain ⟨e, hn'⟩ := h.keep b hb hn
    obtain ⟨e', hn''⟩ := k.keep b (Nat.lt_of_lt_of_le hb h.heap) hn'
    exact ⟨e'.trans e, hn''⟩, fun i hi hn => by
    obtain ⟨a, b⟩ := h.still i hi hn
    obtain ⟨c, d⟩ := k.still i (Nat.lt_of_lt_of_le hi h.size) a
    exact ⟨c, d.trans b⟩⟩

/-! ## The finite map -/
theorem Tr.get_set_same {α : Type} (x : Option α) : ∀ (f : Nat) (t : Tr α) (n : Nat), n < f → (Tr.set x f t n).get n = x
  | 0, _, _, h => by omega
  | f + 1, .leaf, 0, _ => rfl
  | f + 1, .leaf, m + 1, h => by
    have ih := Tr.get_set_same x f .leaf (m / 2) (by omega)
    simp only [Tr.set]
    split <;> simp_all [Tr.get]
  | f + 1, .node v l r, 0, _ => rfl
  | f + 1, .node v l r, m + 1, h => by
    have ihl := Tr.get_set_same x f l (m / 2) (by omega)
    have ihr := Tr.get_set_same x f r (m / 2) (by omega)
    simp only [Tr.set]
    split <;> simp_all [Tr.get]

theorem Tr.get_leaf {α : Type} (n : Nat) : (Tr.leaf : Tr α).get n = none := by cases n <;> rfl

theorem Tr.get_set_other {α : Type} (x : Option α) : ∀ (f : Nat) (t : Tr α) (n k : Nat), k ≠ n → (Tr.set x f t n).get k = t.get k
  | 0, _, _, _, _ => rfl
  | f + 1, .leaf, 0, k, h => by
    cases k with
    | zero => exact absurd rfl h
    | succ k =>
      rw [Tr.get_leaf]
      simp only [Tr.set, Tr.get]
      split <;> first | rfl | exact Tr.get_leaf _
  | f + 1, .leaf, m + 1, k, h => by
    have ih := Tr.get_set_other x f .leaf (m / 2) (k / 2)
    have hl := fun j => Tr.get_leaf (α := α) j
    cases k with
    | zero => simp only [Tr.set]; split <;> rfl
    | succ k =>
      have ih := Tr.get_set_other x f .leaf (m / 2) (k / 2)
      rw [Tr.get_leaf]
      simp only [Tr.set]
      split
      · rename_i hm
        simp only [Tr.get]
        split
        · rename_i hk
          rw [ih (by omega)]; first | rfl | exact Tr.get_leaf _
        · first | rfl | exact Tr.get_leaf _
      · rename_i hm
        simp only [Tr.get]
        split
        · first | rfl | exact Tr.get_leaf _
        · rename_i hk
          rw [ih (by omega)]; first | rfl | exact Tr.get_leaf _
  | f + 1, .node v l r, 0, k, h => by
    cases k with
    | zero => exact absurd rfl h
    | succ k => rfl
  | f + 1, .node v l r, m + 1, k, h => by
    cases k with
    | zero => simp only [Tr.set]; split <;> rfl
    | succ k =>
      have ihl := Tr.get_set_other x f l (m / 2) (k / 2)
      have ihr := Tr.get_set_other x f r (m / 2) (k / 2)
      simp only [Tr.set]
      split
      · rename_i hm
        simp only [Tr.get]
        split
        · exact ihl (by omega)
        · rfl
      · rename_i hm
        simp only [Tr.get]
        split
        · rfl
        · exact ihr (by omega)

theorem Hp.get_put_same (h : Hp) (i : Nat) (o : Option Ob) : (h.put i o).get i = o := Tr.get_set_same o (i + 1) h.objs i (Nat.lt_succ_self i)
theorem Hp.get_put_other (h : Hp) (i : Nat) (o : Option Ob) {j : Nat} (hj : j ≠ i) : (h.put i o).get j = h.get j := Tr.get_set_other o (i + 1) h.objs i j hj
theorem Hp.get_put (h : Hp) (i : Nat) (o : Option Ob) (j : Nat) : (h.put i o).get j = if j = i then o else h.get j := by
  split
  · rename_i e; rw [e]; exact h.get_put_same i o
  · rename_i e; exact h.get_put_other i o e
theorem Hp.get_new_same (h : Hp) (o : Ob) : (h.new o).get h.size = some o := Tr.get_set_same (some o) (h.size + 1) h.objs h.size (Nat.lt_succ_self _)
theorem Hp.get_new_other (h : Hp) (o : Ob) {j : Nat} (hj : j ≠ h.size) : (h.new o).get j = h.get j := Tr.get_set_other (some o) (h.size + 1) h.objs h.size j hj
theorem Hp.size_put (h : Hp) (i : Nat) (o : Option Ob) : (h.put i o).size = h.size := rfl
theorem Hp.size_new (h : Hp) (o : Ob) : (h.new o).size = h.size + 1 := rfl
end Go.Abs
