import Derived.Test.YtpjkibffomknmaaGreatAbsRel
import Derived.Laws.NewFold
/- How related states move together: new objects, changed objects, taken-over blocks. -/
namespace Go.Abs
open Go

def wput (w : World) (b : Nat) (o : Obj) : World := { w with heap := w.heap.setIfInBounds b o }

@[simp] theorem wput_size (w : World) (b : Nat) (o : Obj) : (wput w b o).heap.size = w.heap.size := by simp [wput]
theorem wput_same {w : World} {b : Nat} (o : Obj) (h : b < w.heap.size) : (wput w b o).heap[b]? = some o := by simp [wput, h]
theorem wput_other (w : World) {b c : Nat} (o : Obj) (h : c ≠ b) : (wput w b o).heap[c]? = w.heap[c]? := by
  simp only [wput, Array.getElem?_setIfInBounds]
  rw [if_neg (fun e => h e.symm)]
theorem wput_wput (w : World) (b : Nat) (o o' : Obj) : wput (wput w b o) b o' = wput w b o' := by simp [wput]
theorem wput_self {w : World} {b : Nat} {o : Obj} (h : w.heap[b]? = some o) : wput w b o = w := by
  obtain ⟨hb, rfl⟩ := Array.getElem?_eq_some_iff.1 h
  unfold wput
  have : w.heap.setIfInBounds b w.heap[b] = w.heap := by
    apply Array.ext_getElem?
    intro k
    rw [Array.getElem?_setIfInBounds]
    by_cases hk : b = k
    · subst hk; rw [if_pos rfl, if_pos hb, Array.getElem?_eq_getElem hb]
    · rw [if_neg hk]
  rw [this]
theorem lt_of_block {w : World} {b : Nat} {o : Obj} (h : w.heap[b]? = some o) : b < w.heap.size := (Array.getElem?_eq_some_iff.1 h).1

theorem alloc_same (w : World) (o : Obj) : (w.alloc o).heap[w.heap.size]? = some o := by
  show (w.heap.push o)[w.heap.size]? = some o
  simp
theorem alloc_other (w : World) (o : Obj) {c : Nat} (h : c < w.heap.size) : (w.alloc o).heap[c]? = w.heap[c]? := by
  simp only [World.alloc, Array.getElem?_push]
  rw [if_neg (Nat.ne_of_lt h)]

/-! ## The map of places grows -/
def upd (μ : Mu) (i : Nat) (l : Loc) : Mu := fun j => if j = i then some l else μ j
theorem upd_same (μ : Mu) (i : Nat) (l : Loc) : upd μ i l i = some l := by simp [upd]
theorem upd_other (μ : Mu) {i j : Nat} (l : Loc) (h : j ≠ i) : upd μ i l j = μ j := by simp [upd, h]
theorem le_upd {μ : Mu} {i : Nat} (h : μ i = none) (l : Loc) : μ.le (upd μ i l) := fun j k e => by
  by_cases hj : j = i
  · subst hj; rw [h] at e; cases e
  · rw [upd_other _ _ hj]; exact e

section
variable {P : Program} {N : Nat} {μ : Mu} {H : Hp} {w : World}

theorem SR.of_heap (h : SR P N μ H w) {w' : World} (e : w'.heap = w.heap) : SR P N μ H w' :=
  ⟨fun i o l k m => by obtain ⟨ob, h2, h3⟩ := h.dom i o l k m; exact ⟨ob, by rw [e]; exact h2, h3⟩, h.fresh, fun i l k => by rw [e]; exact h.blocks i l k, h.excl, h.low, by rw [e]; exact h.bound⟩
theorem SR.drew (h : SR P N μ H w) : SR P N μ H w.drew := h.of_heap rfl
theorem TR.drew (μ : Mu) (H : Hp) (w : World) : TR μ H w μ H w.drew := ⟨Mu.le.refl _, Nat.le_refl _, Nat.le_refl _, rfl, rfl, rfl, fun _ _ h => ⟨rfl, h⟩, fun _ _ h => ⟨h, rfl⟩⟩

theorem SR.lt_size (h : SR P N μ H w) {i : Nat} {l : Loc} (e : μ i = some l) : i < H.size := by
  rcases Nat.lt_or_ge i H.size with k | k
  · exact k
  · have := (h.fresh i k).1; rw [this] at e; cases e
theorem SR.get_lt (h : SR P N μ H w) {i : Nat} {o : Ob} (e : H.get i = some o) : i < H.size := by
  rcases Nat.lt_or_ge i H.size with k | k
  · exact k
  · have := (h.fresh i k).2; rw [this] at e; cases e

/-- a new object in a new block -/
theorem SR.new (h : SR P N μ H w) (o : Ob) (ob : Obj) (l : Loc) (hl : l.b = w.heap.size) (ho : OR P (upd μ H.size l) l o ob) :
    SR P N (upd μ H.size l) (H.new o) (w.alloc ob) ∧ TR μ H w (upd μ H.size l) (H.new o) (w.alloc ob) := by
  have hle := le_upd (h.fresh H.size (Nat.le_refl _)).1 l
  refine ⟨⟨?_, ?_, ?_, ?_, ?_, ?_⟩, hle, Nat.le_succ _, by simp, rfl, rfl, rfl, ?_, fun i hi hn => ⟨by rw [upd_other _ _ (by omega)]; exact hn, Hp.get_new_other _ _ (by omega)⟩⟩
  · intro i o' l' k m
    by_cases hi : i = H.size
    · subst hi
      rw [Hp.get_new_same] at k; cases k
      rw [upd_same] at m; cases m
      exact ⟨ob, by rw [hl]; exact alloc_same w ob, ho⟩
    · rw [Hp.get_new_other _ _ hi] at k
      rw [upd_other _ _ hi] at m
      have h1 := m
      obtain ⟨ob', h2, h3⟩ := h.dom i o' l' k m
      exact ⟨ob', by rw [alloc_other w ob (h.blocks _ _ h1)]; exact h2, h3.mono hle⟩
  · intro i hi
    rw [Hp.size_new] at hi
    have := h.fresh i (by omega)
    rw [upd_other _ _ (by omega), Hp.get_new_other _ _ (by omega)]
    exact this
  · intro i l' k
    by_cases hi : i = H.size
    · subst hi; rw [upd_same] at k; cases k; rw [hl]; simp
    · rw [upd_other _ _ hi] at k
      have := h.blocks _ _ k
      simp; omega
  · intro i j oi oj li lj hi hj ki kj hij hrw
    by_cases hi' : i = H.size
    · subst hi'
      rw [upd_same] at ki; cases ki
      rw [upd_other _ _ (fun e => hij e.symm)] at kj
      have := h.blocks _ _ kj
      omega
    · rw [Hp.get_new_other _ _ hi'] at hi
      rw [upd_other _ _ hi'] at ki
      by_cases hj' : j = H.size
      · subst hj'
        rw [upd_same] at kj; cases kj
        have := h.blocks _ _ ki
        omega
      · rw [Hp.get_new_other _ _ hj'] at hj
        rw [upd_other _ _ hj'] at kj
        exact h.excl i j oi oj li lj hi hj ki kj hij hrw
  · intro i o' l' hi hrw k
    by_cases hi' : i = H.size
    · subst hi'
      rw [upd_same] at k; cases k
      rw [hl]; exact h.bound
    · rw [Hp.get_new_other _ _ hi'] at hi
      rw [upd_other _ _ hi'] at k
      exact h.low i o' l' hi hrw k
  · have := h.bound; simp; omega
  · intro b hb hn
    refine ⟨alloc_other w ob hb, ?_⟩
    rintro ⟨i, o', l', hi, hrw, k, e⟩
    by_cases hi' : i = H.size
    · subst hi'
      rw [upd_same] at k; cases k
      omega
    · rw [Hp.get_new_other _ _ hi'] at hi
      rw [upd_other _ _ hi'] at k
      exact hn ⟨i, o', l', hi, hrw, k, e⟩

/-- an object that may be written is written -/
theorem SR.put (h : SR P N μ H w) {i : Nat} {o o' : Ob} {l : Loc} {ob' : Obj} (hi : H.get i = some o) (hrw : rwOb o = true) (hμ : μ i = some l) (ho : OR P μ l o' ob') :
    SR P N μ (H.put i (some o')) (wput w l.b ob') ∧ TR μ H w μ (H.put i (some o')) (wput w l.b ob') := by
  have hlt := h.get_lt hi
  refine ⟨⟨?_, ?_, ?_, ?_, ?_, ?_⟩, Mu.le.refl _, Nat.le_refl _, by simp, rfl, rfl, rfl, ?_, fun j hj hn => ⟨hn, Hp.get_put_other _ _ _ (fun e => by rw [e, hμ] at hn; cases hn)⟩⟩
  · intro j oj l' k h1
    by_cases hj : j = i
    · subst hj
      rw [Hp.get_put_same] at k; cases k
      rw [hμ] at h1; cases h1
      exact ⟨ob', wput_same _ (h.blocks _ _ hμ), ho⟩
    · rw [Hp.get_put_other _ _ _ hj] at k
      obtain ⟨ob2, h2, h3⟩ := h.dom j oj l' k h1
      exact ⟨ob2, by rw [wput_other _ _ (fun e => h.excl i j o oj l l' hi k hμ h1 (fun e => hj e.symm) hrw e.symm)]; exact h2, h3⟩
  · intro j hj
    rw [Hp.size_put] at hj
    rw [Hp.get_put_other _ _ _ (by omega)]
    exact h.fresh j hj
  · intro j l' k; simp; exact h.blocks j l' k
  · intro a b oa ob la lb ha hb ka kb hab hr
    have ha' : ∃ oa', H.get a = some oa' ∧ (a = i ∧ oa' = o ∨ oa' = oa) := by
      by_cases e : a = i
      · subst e; exact ⟨o, hi, .inl ⟨rfl, rfl⟩⟩
      · rw [Hp.get_put_other _ _ _ e] at ha; exact ⟨oa, ha, .inr rfl⟩
    have hb' : ∃ ob', H.get b = some ob' := by
      by_cases e : b = i
      · subst e; exact ⟨o, hi⟩
      · rw [Hp.get_put_other _ _ _ e] at hb; exact ⟨ob, hb⟩
    obtain ⟨oa', ha', hc⟩ := ha'
    obtain ⟨ob', hb'⟩ := hb'
    refine h.excl a b oa' ob' la lb ha' hb' ka kb hab ?_
    rcases hc with ⟨_, e⟩ | e
    · rw [e]; exact hrw
    · rw [e]; exact hr
  · intro j oj l' hj hr k
    by_cases e : j = i
    · subst e; exact h.low j o l' hi hrw k
    · rw [Hp.get_put_other _ _ _ e] at hj; exact h.low j oj l' hj hr k
  · simp; exact h.bound
  · intro b hb hn
    have hne : b ≠ l.b := fun e => hn ⟨i, o, l, hi, hrw, hμ, e.symm⟩
    refine ⟨wput_other _ _ hne, ?_⟩
    rintro ⟨j, oj, l', hj, hr, k, e⟩
    by_cases hj' : j = i
    · subst hj'
      rw [hμ] at k; cases k
      exact hne e.symm
    · rw [Hp.get_put_other _ _ _ hj'] at hj
      exact hn ⟨j, oj, l', hj, hr, k, e⟩

/-- an object is given up -/
theorem SR.kill (h : SR P N μ H w) {i : Nat} {l : Loc} (hlt : i < H.size) (hμ : μ i = some l) : SR P N μ (H.put i none) w ∧ TR μ H w μ (H.put i none) w := by
  have hget : ∀ j o, (H.put i none).get j = some o → H.get j = some o := fun j o e => by
    by_cases hj : j = i
    · subst hj; rw [Hp.get_put_same] at e; cases e
    · rwa [Hp.get_put_other _ _ _ hj] at e
  refine ⟨⟨fun j o l e => h.dom j o l (hget j o e), fun j hj => ?_, h.blocks, fun a b oa ob la lb ha hb => h.excl a b oa ob la lb (hget _ _ ha) (hget _ _ hb), fun j o l e => h.low j o l (hget _ _ e), h.bound⟩, Mu.le.refl _, Nat.le_refl _, Nat.le_refl _, rfl, rfl, rfl, fun b hb hn => ⟨rfl, ?_⟩, fun j hj hn => ⟨hn, Hp.get_put_other _ _ _ (fun e => by rw [e, hμ] at hn; cases hn)⟩⟩
  · rw [Hp.size_put] at hj
    rw [Hp.get_put_other _ _ _ (by omega)]
    exact h.fresh j hj
  · rintro ⟨j, oj, l', hj, hr, k, e⟩
    exact hn ⟨j, oj, l', hget _ _ hj, hr, k, e⟩

/-- a new object takes over the block of one that is given up -/
theorem SR.rebind (h : SR P N μ H w) {i : Nat} {o o' : Ob} {l l' : Loc} {ob' : Obj} (hi : H.get i = some o) (hrw : rwOb o = true) (hμ : μ i = some l) (hb : l'.b = l.b)
    (ho : OR P (upd μ H.size l') l' o' ob') :
    SR P N (upd μ H.size l') ((H.put i none).new o') (wput w l.b ob') ∧ TR μ H w (upd μ H.size l') ((H.put i none).new o') (wput w l.b ob') := by
  have hlt := h.get_lt hi
  have hle := le_upd (h.fresh H.size (Nat.le_refl _)).1 l'
  have hget : ∀ j oj, ((H.put i none).new o').get j = some oj → (j = H.size ∧ oj = o') ∨ (j ≠ H.size ∧ j ≠ i ∧ H.get j = some oj) := fun j oj e => by
    by_cases hj : j = H.size
    · subst hj
      have e2 : ((H.put i none).new o').get (H.put i none).size = some o' := Hp.get_new_same _ _
      rw [Hp.size_put] at e2
      rw [e2] at e; cases e; exact .inl ⟨rfl, rfl⟩
    · rw [Hp.get_new_other _ _ (by rw [Hp.size_put]; exact hj)] at e
      by_cases hji : j = i
      · subst hji; rw [Hp.get_put_same] at e; cases e
      · rw [Hp.get_put_other _ _ _ hji] at e; exact .inr ⟨hj, hji, e⟩
  refine ⟨⟨?_, ?_, ?_, ?_, ?_, ?_⟩, hle, Nat.le_succ _, by simp, rfl, rfl, rfl, ?_, fun j hj hn => ⟨by rw [upd_other _ _ (by omega)]; exact hn, by
    rw [Hp.get_new_other _ _ (by rw [Hp.size_put]; omega)]
    exact Hp.get_put_other _ _ _ (fun e => by rw [e, hμ] at hn; cases hn)⟩⟩
  · intro j oj lj k m
    rcases hget j oj k with ⟨rfl, rfl⟩ | ⟨h1, h2, h3⟩
    · rw [upd_same] at m; cases m
      exact ⟨ob', by rw [hb]; exact wput_same _ (h.blocks _ _ hμ), ho⟩
    · rw [upd_other _ _ h1] at m
      have e1 := m
      obtain ⟨obj, e2, e3⟩ := h.dom j oj lj h3 m
      exact ⟨obj, by rw [wput_other _ _ (fun e => h.excl i j o oj l lj hi h3 hμ e1 (fun e => h2 e.symm) hrw e.symm)]; exact e2, e3.mono hle⟩
  · intro j hj
    have hj' : H.size + 1 ≤ j := hj
    have := h.fresh j (by omega)
    rw [upd_other _ _ (by omega), Hp.get_new_other _ _ (by rw [Hp.size_put]; omega), Hp.get_put_other _ _ _ (by omega)]
    exact this
  · intro j lj k
    by_cases hj : j = H.size
    · subst hj; rw [upd_same] at k; cases k; rw [hb]; simp; exact h.blocks _ _ hμ
    · rw [upd_other _ _ hj] at k; simp; exact h.blocks _ _ k
  · intro a b oa ob la lb ha hb' ka kb hab hr
    rcases hget a oa ha with ⟨rfl, rfl⟩ | ⟨a1, a2, a3⟩
    · rw [upd_same] at ka; cases ka
      rcases hget b ob hb' with ⟨rfl, rfl⟩ | ⟨b1, b2, b3⟩
      · exact absurd rfl hab
      · rw [upd_other _ _ b1] at kb
        rw [hb]; exact h.excl i b o ob l lb hi b3 hμ kb (fun e => b2 e.symm) hrw
    · rw [upd_other _ _ a1] at ka
      rcases hget b ob hb' with ⟨rfl, rfl⟩ | ⟨b1, b2, b3⟩
      · rw [upd_same] at kb; cases kb
        rw [hb]; exact fun e => h.excl i a o oa l la hi a3 hμ ka (fun e => a2 e.symm) hrw e.symm
      · rw [upd_other _ _ b1] at kb
        exact h.excl a b oa ob la lb a3 b3 ka kb hab hr
  · intro j oj lj hj hr k
    rcases hget j oj hj with ⟨rfl, rfl⟩ | ⟨h1, h2, h3⟩
    · rw [upd_same] at k; cases k; rw [hb]; exact h.low i o l hi hrw hμ
    · rw [upd_other _ _ h1] at k; exact h.low j oj lj h3 hr k
  · simp; exact h.bound
  · intro b hb' hn
    have hne : b ≠ l.b := fun e => hn ⟨i, o, l, hi, hrw, hμ, e.symm⟩
    refine ⟨wput_other _ _ hne, ?_⟩
    rintro ⟨j, oj, lj, hj, hr, k, e⟩
    rcases hget j oj hj with ⟨rfl, rfl⟩ | ⟨h1, h2, h3⟩
    · rw [upd_same] at k; cases k
      exact hne (by rw [← e, hb])
    · rw [upd_other _ _ h1] at k
      exact hn ⟨j, oj, lj, h3, hr, k, e⟩
end

/-! ## Cells in memory -/
theorem one_oneCell' {v : Value} (h : one v = true) : v.oneCell' = true := by cases v <;> first | rfl | (cases h; done)

theorem splice_length {l cs : List Value} {n : Nat} (h : n + cs.length ≤ l.length) : (splice l n cs).length = l.length := by
  simp only [splice, List.length_append, List.length_take, List.length_drop]; omega
theorem splice_nil (l : List Value) (n : Nat) : splice l n [] = l := by simp [splice]
theorem splice_set (l : List Value) (n : Nat) (v : Value) (r : List Value) (h : n < l.length) : splice (l.set n v) (n + 1) r = splice l n (v :: r) := by
  unfold splice
  have h1 : (l.set n v).take (n + 1) = l.take n ++ [v] := by
    rw [List.take_set, List.take_succ_eq_append_getElem h, List.set_append_right _ _ (by simp; omega)]
    have : n - (l.take n).length = 0 := by simp; omega
    rw [this]; rfl
  have h2 : (l.set n v).drop (n + 1 + r.length) = l.drop (n + (v :: r).length) := by
    rw [List.drop_set_of_lt (by omega)]
    congr 1
    simp; omega
  rw [h1, h2]
  simp

theorem run_storeCells_put (P : Program) (b off : Nat) : ∀ (vs : List Value) (i : Nat) (w : World) (arr : Array Value) (ty : TypeId) (fz : Nat × Nat),
    w.heap[b]? = some (.cells arr ty fz) → off + i + vs.length ≤ arr.size → (∀ j, j < arr.size → ¬ (fz.1 ≤ j ∧ j < fz.2)) → (∀ v ∈ vs, one v = true) →
    (storeCells ⟨b, off, none⟩ vs i).run P w = .ok () (wput w b (.cells ⟨splice arr.toList (off + i) vs⟩ ty fz))
  | [], i, w, arr, ty, fz, hb, _, _, _ => by
    rw [splice_nil, wput_self hb]; rfl
  | v :: r, i, w, arr, ty, fz, hb, hl, hf, h1 => by
    have hi : off + i < arr.size := by simp at hl; omega
    have hadd : (⟨b, off, none⟩ : Addr).add i = ⟨b, off + i, none⟩ := by unfold Addr.add; split <;> simp_all
    have hc : w.cell? ⟨b, off + i, none⟩ = some arr[off + i] := by simp [World.cell?, hb, hi]
    have hfz : w.frozen? ⟨b, off + i, none⟩ = false := by
      have := hf (off + i) hi
      simp only [World.frozen?, hb]
      simp only [Bool.and_eq_false_iff, decide_eq_false_iff_not]
      rw [Decidable.not_and_iff_not_or_not] at this
      exact this
    have hset : w.setCell ⟨b, off + i, none⟩ v = wput w b (.cells (arr.setIfInBounds (off + i) v) ty fz) := by
      unfold World.setCell wput
      congr 1
      apply Array.ext_getElem?
      intro k
      simp only [Array.getElem?_modify, Array.getElem?_setIfInBounds]
      by_cases hk : b = k
      · subst hk
        rw [if_pos rfl, if_pos rfl, if_pos (lt_of_block hb), hb]
        rfl
      · rw [if_neg hk, if_neg hk]
    have hst : (store ((⟨b, off, none⟩ : Addr).add i) v).run P w = .ok () (wput w b (.cells (arr.setIfInBounds (off + i) v) ty fz)) := by
      rw [hadd, run_store P w _ v _ (one_oneCell' (h1 v (by simp))), hc]
      simp [hfz, hset]
    have hb' := wput_same (w := w) (Obj.cells (arr.setIfInBounds (off + i) v) ty fz) (lt_of_block hb)
    have ih := run_storeCells_put P b off r (i + 1) (wput w b (.cells (arr.setIfInBounds (off + i) v) ty fz)) (arr.setIfInBounds (off + i) v) ty fz hb' (by simp at hl ⊢; omega) (fun j hj => hf j (by simpa using hj)) (fun x hx => h1 x (by simp [hx]))
    simp only [storeCells, Sem.run_bind, hst, Result.andThen_ok, ih, wput_wput]
    congr 4
    have : (arr.setIfInBounds (off + i) v).toList = arr.toList.set (off + i) v := by simp
    rw [this]
    have e := splice_set arr.toList (off + i) v r (by simpa using hi)
    rw [← e]
    rfl

theorem run_loadCells_part (P : Program) {w : World} {b : Nat} {arr : Array Value} {ty : TypeId} {fz : Nat × Nat} (hb : w.heap[b]? = some (.cells arr ty fz)) (off n : Nat) (h : off + n ≤ arr.size) :
    (loadCells ⟨b, off, none⟩ n).run P w = .ok ⟨(arr.toList.drop off).take n⟩ w := by
  have hlen : ((arr.toList.drop off).take n).length = n := by simp; omega
  have := run_loadCells_list (P := P) w ⟨b, off, none⟩ ((arr.toList.drop off).take n) (fun j v hv => by
    have hj : j < n := by have := (List.getElem?_eq_some_iff.1 hv).1; omega
    have hadd : (⟨b, off, none⟩ : Addr).add j = ⟨b, off + j, none⟩ := by unfold Addr.add; split <;> simp_all
    rw [List.getElem?_take, if_pos hj, List.getElem?_drop] at hv
    rw [hadd]
    simp only [World.cell?, hb]
    simpa using hv)
  rw [hlen] at this
  exact this
end Go.Abs
