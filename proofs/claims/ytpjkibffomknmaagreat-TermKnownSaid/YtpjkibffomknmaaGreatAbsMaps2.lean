import Derived.Test.YtpjkibffomknmaaGreatAbsMaps
/- Maps: writes. -/
namespace Go.Abs
open Go

section
variable {P : Program} {N : Nat} {μ : Mu} {H H' : Hp} {w : World} {v : Value}

theorem sameBits_cell (n : Nat) {v : Value} (h : FlatCell v) : Instr.sameBits n v v = true := by
  rcases h with ⟨b, rfl⟩ | ⟨k, m, rfl⟩ | ⟨s, rfl⟩
  · cases n <;> simp [Instr.sameBits]
  · cases n <;> simp [Instr.sameBits]
  · cases n <;> simp [Instr.sameBits, (beq_bytearray s s).2 rfl]

theorem sameBits_flat {ag : Bool} {ks : List LK} {k : Value} {r : Bool} (n : Nat) (h : eqV (.flat ag ks) k k = some r) : Instr.sameBits (n + 1) k k = true := by
  obtain ⟨s1, _, h3⟩ := eqV_flat h
  obtain ⟨f1, _, _⟩ := eqL_flat h3
  cases ag with
  | true =>
    obtain ⟨xs, rfl⟩ := s1
    have f1 : ∀ a ∈ xs.toList, FlatCell a := f1
    simp only [Instr.sameBits, beq_self_eq_true, Bool.true_and, List.all_eq_true]
    intro p hp
    obtain ⟨a, b⟩ := p
    have : a = b ∧ a ∈ xs.toList := by
      have : ∀ (l : List Value), (a, b) ∈ l.zip l → a = b ∧ a ∈ l := by
        intro l
        induction l with
        | nil => intro h; simp at h
        | cons x l ih =>
          intro h
          simp only [List.zip_cons_cons, List.mem_cons, Prod.mk.injEq] at h
          rcases h with ⟨rfl, rfl⟩ | h
          · exact ⟨rfl, by simp⟩
          · exact ⟨(ih h).1, by simp [(ih h).2]⟩
      exact this _ hp
    obtain ⟨rfl, hm⟩ := this
    exact sameBits_cell n (f1 a hm)
  | false =>
    rw [one_cells s1] at f1
    exact sameBits_cell _ (f1 k (by simp))

theorem keyStays_ok {ag : Bool} {ks : List LK} {k : Value} {r : Bool} (h : eqV (.flat ag ks) k k = some r) (w : World) : (Instr.keyThatStays k k).run P w = .ok k w := by
  unfold Instr.keyThatStays
  rw [sameBits_flat 9999 h]
  rfl

theorem setAt_L2 {α β : Type} {r : α → β → Prop} {x : α} (f : β → β) : ∀ (l : List α) (l' : List β) (i : Nat), L2 r l l' → (∀ y, l'[i]? = some y → r x (f y)) → L2 r (setAt l i x) (l'.modify i f)
  | [], l', i, h, hx => by rw [h.nil_left]; simpa [setAt] using L2.nil
  | a :: l, l', i, h, hx => by
    obtain ⟨b, t, rfl, hab, ht⟩ := h.cons_left
    cases i with
    | zero => exact .cons (hx b rfl) ht
    | succ i => exact .cons hab (setAt_L2 f l t i ht fun y hy => hx y (by simpa using hy))

theorem eraseAt_L2 {α β : Type} {r : α → β → Prop} : ∀ (l : List α) (l' : List β) (i : Nat), L2 r l l' → L2 r (eraseAt l i) (l'.eraseIdx i)
  | [], l', i, h => by rw [h.nil_left]; simpa [eraseAt] using L2.nil
  | a :: l, l', i, h => by
    obtain ⟨b, t, rfl, hab, ht⟩ := h.cons_left
    cases i with
    | zero => exact ht
    | succ i => exact .cons hab (eraseAt_L2 l t i ht)

theorem update_ok (hs : SR P N μ H w) {t : TypeId} {x x' k k' y y' : Value} (h0 : mapM P t (fun ek => updateM ek x k y) H = .ok v H') (hx : VR μ x x') (hkr : VR μ k k') (hy : VR μ y y') :
    v = undefV ∧ ∃ w', (Instr.mapUpdate t x' k' y').run P w = .ok () w' ∧ SR P N μ H' w' ∧ TR μ H w μ H' w' := by
  obtain ⟨kt, e, ek, hd, hk, he, h⟩ := mapM_ok h0
  clear h0
  simp only [updateM] at h
  split at h
  · rename_i r hok
    split at h
    · rename_i es c hg
      cases hx with
      | map hμ =>
        obtain ⟨es', hb, hl, hbase⟩ := hs.map hg hμ
        cases hf : findL ek k es 0 with
        | none => simp only [hf] at h; cases h
        | some out =>
          simp only [hf] at h
          obtain ⟨rfl, hck, r', hfr, hFR⟩ := find_ok hk hok hkr false hl hf w
          have hgo : (getObj _).run P w = .ok (.map es' c) w := run_getObj hb
          cases out with
          | none =>
            cases r' with
            | some y => exact hFR.elim
            | none =>
              cases h
              have hso := fun o => run_setObj (P := P) o hb
              have hp := hs.put (o' := .map (es ++ [(k', y, c)]) (c + 1)) (ob' := .map (es'.push { key := k', val := y', born := c }) (c + 1)) hg rfl hμ
                ⟨_, rfl, by rw [Array.toList_push]; exact hl.append (.cons ⟨hkr, hy, rfl⟩ .nil), hbase⟩
              refine ⟨rfl, _, ?_, hp.1, hp.2⟩
              unfold Instr.mapUpdate
              simp only [Sem.run_bind, run_underlying hd, hgo, Result.andThen_ok, hck, hfr, hso]
          | some q =>
            obtain ⟨i, v0, b⟩ := q
            cases r' with
            | none => exact hFR.elim
            | some z =>
              obtain ⟨i', v'⟩ := z
              obtain ⟨rfl, hv, _, e0, he0, rfl, hborn, hkey⟩ := hFR
              cases h
              have hso := fun o => run_setObj (P := P) o hb
              obtain ⟨ag, ks, r0, rfl, hev⟩ := keyOk_spec hok
              have he0' : es'[i']? = some e0 := by simpa using he0
              have hp := hs.put (o' := .map (setAt es i' (k', y, b)) c) (ob' := .map (es'.modify i' fun e => { e with key := k', val := y' }) c) hg rfl hμ
                ⟨_, rfl, by
                  rw [Array.toList_modify]
                  exact setAt_L2 _ _ _ _ hl fun z hz => by
                    have : z = e0 := by rw [Array.getElem?_toList] at hz; rw [he0'] at hz; cases hz; rfl
                    subst this
                    exact ⟨hkr, hy, hborn.symm⟩, hbase⟩
              refine ⟨rfl, _, ?_, hp.1, hp.2⟩
              have hst := keyStays_ok (P := P) hev w
              unfold Instr.mapUpdate
              simp only [Sem.run_bind, run_underlying hd, hgo, Result.andThen_ok, hck, hfr, he0', Option.map_some, Option.getD_some, hkey, hst, hso]
    · cases h
  · cases h

theorem mapEntry_ok (hs : SR P N μ H w) {t : TypeId} {x x' k k' : Value} (h0 : mapM P t (fun ek => mapEntryM ek (mapElemZero P t) x k) H = .ok v H') (hx : VR μ x x') (hkr : VR μ k k') :
    Res P N μ H w v H' ((Instr.mapEntry t x' k').run P w) := by
  obtain ⟨kt, e, ek, hd, hk, he, h⟩ := mapM_ok h0
  clear h0
  simp only [mapEntryM] at h
  split at h
  · rename_i r z hok hz
    have hz := mapElemZero_eq hd hz
    obtain ⟨_, z', hz', zrun, _, _, zf, _⟩ := okZ_spec he
    rw [hz] at hz'; cases hz'
    split at h
    · rename_i es c hg
      cases hx with
      | map hμ =>
        obtain ⟨es', hb, hl, hbase⟩ := hs.map hg hμ
        cases hf : findL ek k es 0 with
        | none => simp only [hf] at h; cases h
        | some out =>
          simp only [hf] at h
          obtain ⟨rfl, hck, r', hfr, hFR⟩ := find_ok hk hok hkr false hl hf w
          have hgo : (getObj _).run P w = .ok (.map es' c) w := run_getObj hb
          cases out with
          | none =>
            cases r' with
            | some y => exact hFR.elim
            | none =>
              cases h
              have hso := fun o => run_setObj (P := P) o hb
              have hp := hs.put (o' := .map (es ++ [(k', z, c)]) (c + 1)) (ob' := .map (es'.push { key := k', val := z, born := c }) (c + 1)) hg rfl hμ
                ⟨_, rfl, by rw [Array.toList_push]; exact hl.append (.cons ⟨hkr, zf.VR μ, rfl⟩ .nil), hbase⟩
              refine ⟨_, _, μ, ?_, .tuple' (.cons (zf.VR μ) (.cons (.int _ _) .nil)), hp.1, hp.2⟩
              unfold Instr.mapEntry
              simp only [Sem.run_bind, run_underlying hd, hgo, Result.andThen_ok, hck, hfr, hso, zrun]
              rfl
          | some q =>
            obtain ⟨i, v0, b⟩ := q
            cases r' with
            | none => exact hFR.elim
            | some z =>
              obtain ⟨i', v'⟩ := z
              obtain ⟨rfl, hv, _, e0, he0, hval, hborn, hkey⟩ := hFR
              cases h
              have hso := fun o => run_setObj (P := P) o hb
              obtain ⟨ag, ks, r0, rfl, hev⟩ := keyOk_spec hok
              have he0' : es'[i']? = some e0 := by simpa using he0
              have hp := hs.put (o' := .map (setAt es i' (k', v0, b)) c) (ob' := .map (es'.modify i' fun e => { e with key := k' }) c) hg rfl hμ
                ⟨_, rfl, by
                  rw [Array.toList_modify]
                  exact setAt_L2 _ _ _ _ hl fun z hz => by
                    have : z = e0 := by rw [Array.getElem?_toList] at hz; rw [he0'] at hz; cases hz; rfl
                    subst this
                    exact ⟨hkr, hval ▸ hv, hborn.symm⟩, hbase⟩
              refine ⟨_, _, μ, ?_, .tuple' (.cons hv (.cons (.int .i64 b) .nil)), hp.1, hp.2⟩
              have hst := keyStays_ok (P := P) hev w
              unfold Instr.mapEntry
              simp only [Sem.run_bind, run_underlying hd, hgo, Result.andThen_ok, hck, hfr, he0', Option.map_some, Option.getD_some, hkey, hst, hso, hborn]
              rfl
    · cases h
  · cases h

theorem delete_ok (hs : SR P N μ H w) {ts : Array TypeId} {t ty : TypeId} {x x' k k' : Value} (hts : ts[0]? = some t) (h0 : mapM P t (fun ek => deleteM ek x k) H = .ok v H') (hx : VR μ x x') (hkr : VR μ k k') :
    Res P N μ H w v H' ((Builtin.delete_ ts ty #[x', k']).run P w) := by
  obtain ⟨kt, e, ek, hd, hk, he, h⟩ := mapM_ok h0
  clear h0
  simp only [deleteM] at h
  split at h
  · rename_i hok
    cases h
    cases hx
    obtain ⟨ag, ks, r0, rfl, _, hkeq, hkk, sk, hlf, h3⟩ := keyOk_flat hk hok hkr
    refine .same' hs ?_ (.undef (.tuple #[]))
    have hck : (Instr.checkKey true 10000 kt k').run P w = .ok () w := by rw [hkeq]; exact checkKey_ok 9990 true 10 kt ks hlf w _ r0 sk h3
    unfold Builtin.delete_
    simp only [hts, List.getElem?_toArray, List.getElem?_cons_zero, List.getElem?_cons_succ, Sem.run_bind, run_underlying hd, Result.andThen_ok, hck]
    rfl
  · rename_i r hok
    split at h
    · rename_i es c hg
      cases hx with
      | map hμ =>
        obtain ⟨es', hb, hl, hbase⟩ := hs.map hg hμ
        cases hf : findL ek k es 0 with
        | none => simp only [hf] at h; cases h
        | some out =>
          simp only [hf] at h
          obtain ⟨rfl, hck, r', hfr, hFR⟩ := find_ok hk hok hkr es'.isEmpty hl hf w
          have hgo : (getObj _).run P w = .ok (.map es' c) w := run_getObj hb
          have hso := fun o => run_setObj (P := P) o hb
          cases out with
          | none =>
            cases r' with
            | some y => exact hFR.elim
            | none =>
              cases h
              have hp := hs.put (o' := .map es c) (ob' := .map es' c) hg rfl hμ ⟨_, rfl, hl, hbase⟩
              refine ⟨_, _, μ, ?_, .undef (.tuple #[]), hp.1, hp.2⟩
              unfold Builtin.delete_
              simp only [hts, List.getElem?_toArray, List.getElem?_cons_zero, List.getElem?_cons_succ, Sem.run_bind, run_underlying hd, hgo, Result.andThen_ok, hck, hfr, hso]
              rfl
          | some q =>
            obtain ⟨i, v0, b⟩ := q
            cases r' with
            | none => exact hFR.elim
            | some z =>
              obtain ⟨i', v'⟩ := z
              obtain ⟨rfl, hv, _, e0, he0, hval, hborn, hkey⟩ := hFR
              cases h
              have hi' : i' < es'.size := by
                have := (List.getElem?_eq_some_iff.1 he0).1
                simpa using this
              have hp := hs.put (o' := .map (eraseAt es i') c) (ob' := .map (es'.eraseIdxIfInBounds i') c) hg rfl hμ
                ⟨_, rfl, by
                  rw [Array.eraseIdxIfInBounds, dif_pos hi', Array.toList_eraseIdx]
                  exact eraseAt_L2 _ _ _ hl, hbase⟩
              refine ⟨_, _, μ, ?_, .undef (.tuple #[]), hp.1, hp.2⟩
              unfold Builtin.delete_
              simp only [hts, List.getElem?_toArray, List.getElem?_cons_zero, List.getElem?_cons_succ, Sem.run_bind, run_underlying hd, hgo, Result.andThen_ok, hck, hfr, hso]
              rfl
    · cases h
  · cases h

theorem findBorn_ok (b : Nat) : ∀ (es : List (Value × Value × Nat)) (es' : List MapEntry) (i0 : Nat) (r : Option (Nat × Value × Value)), L2 (EntR μ) es es' → findBorn b es i0 = r →
    match r with
    | none => es'.find? (·.born == b) = none
    | some (i, k, v) => ∃ e', i0 ≤ i ∧ es'[i - i0]? = some e' ∧ es'.findIdx? (fun e => e.born == b) = some (i - i0) ∧ es'.find? (·.born == b) = some e' ∧ VR μ k e'.key ∧ VR μ v e'.val ∧ e'.born = b
  | [], es', i0, r, hl, h => by
    subst h
    rw [hl.nil_left]
    rfl
  | (k0, v0, b0) :: es, es', i0, r, hl, h => by
    obtain ⟨e', t', rfl, ⟨he1, he2, he3⟩, ht⟩ := hl.cons_left
    simp only at he1 he2 he3
    unfold findBorn at h
    cases hb : Nat.beq b0 b with
    | true =>
      rw [hb] at h
      subst h
      have hb := Nat.eq_of_beq_eq_true hb
      have hbt : (e'.born == b) = true := by rw [← he3, hb]; simp
      refine ⟨e', Nat.le_refl _, by simp, ?_, ?_, he1, he2, by rw [← he3, hb]⟩
      · simp [List.findIdx?_cons, hbt]
      · simp [List.find?_cons, hbt]
    | false =>
      rw [hb] at h
      have hb := Nat.ne_of_beq_eq_false hb
      have hbt : (e'.born == b) = false := by rw [← he3]; simpa using hb
      have ih := findBorn_ok b es t' (i0 + 1) r ht h
      cases r with
      | none => simp only at ih ⊢; simp [List.find?_cons, hbt, ih]
      | some q =>
        obtain ⟨i, k, v⟩ := q
        obtain ⟨e2, h1, h2, h3, h4, h5⟩ := ih
        have e : i - i0 = (i - (i0 + 1)) + 1 := by omega
        refine ⟨e2, by omega, by rw [e]; simpa using h2, ?_, ?_, h5⟩
        · rw [e]; simp [List.findIdx?_cons, hbt, h3]
        · simp [List.find?_cons, hbt, h4]

theorem SR.iter (hs : SR P N μ H w) {i : Nat} {m : Option Nat} {a d : Nat} {c : List Nat} (hi : H.get i = some (.iter m a c d)) {l : Loc} (hμ : μ i = some l) :
    ∃ m', w.heap[l.b]? = some (.mapIter m' a c.toArray d) ∧ l.base = 0 ∧ (match (generalizing := false) m, m' with | none, none => True | some i, some b => ∃ l', μ i = some l' ∧ l'.b = b | _, _ => False) := by
  obtain ⟨ob, h2, es', h3, h4, h5⟩ := hs.dom i _ l hi hμ
  exact ⟨es', h3 ▸ h2, h4, h5⟩

theorem entryStore_ok (hs : SR P N μ H w) {t : TypeId} {x x' s s' y y' : Value} (h : entryStoreM x s y H = .ok v H') (hx : VR μ x x') (hsr : VR μ s s') (hy : VR μ y y') :
    v = undefV ∧ ∃ w', (Instr.entryStore t x' s' y').run P w = .ok () w' ∧ SR P N μ H' w' ∧ TR μ H w μ H' w' := by
  unfold entryStoreM at h
  split at h
  · rename_i r kk b
    split at h
    · rename_i es c hg
      cases hx with
      | map hμ =>
        cases hsr
        obtain ⟨es', hb, hl, hbase⟩ := hs.map hg hμ
        have hf := findBorn_ok (μ := μ) b es es'.toList 0 _ hl rfl
        cases hfb : findBorn b es 0 with
        | none => simp only [hfb] at h; cases h
        | some q =>
          obtain ⟨i, k, v1⟩ := q
          simp only [hfb] at h hf
          cases h
          obtain ⟨e', _, h1, h2, h3, h4, h5, h6⟩ := hf
          simp only [Nat.sub_zero] at h1 h2
          have hgo : (getObj _).run P w = .ok (.map es' c) w := run_getObj hb
          have hso := fun o => run_setObj (P := P) o hb
          have hp := hs.put (o' := .map (setAt es i (k, y, b)) c) (ob' := .map (es'.modify i fun e => { e with val := y' }) c) hg rfl hμ
            ⟨_, rfl, by
              rw [Array.toList_modify]
              exact setAt_L2 _ _ _ _ hl fun z hz => by
                rw [h1] at hz; cases hz
                exact ⟨h4, hy, h6.symm⟩, hbase⟩
          refine ⟨rfl, _, ?_, hp.1, hp.2⟩
          have hfi : es'.findIdx? (fun e => (e.born : Int) == Int.ofNat b) = some i := by
            rw [← List.findIdx?_toArray] at h2
            have e0 : es'.toList.toArray = es' := by simp
            rw [e0] at h2
            rw [← h2]
            congr 1
            funext e
            rw [Bool.eq_iff_iff]
            simp only [beq_iff_eq, Int.ofNat_eq_natCast]
            exact Int.ofNat_inj
          unfold Instr.entryStore
          have hai : (asInt (Value.int kk (Int.ofNat b))).run P w = .ok (Int.ofNat b) w := rfl
          simp only [Sem.run_bind, hgo, Result.andThen_ok, hai, hfi, hso]
    · cases h
  · cases h

theorem makeMap_ok (hs : SR P N μ H w) {t : TypeId} (h : makeMapM H = .ok v H') : Res P N μ H w v H' ((Instr.makeMap t none).run P w) := by
  cases h
  have hn := hs.new (.map [] 0) (.map #[] 0) ⟨w.heap.size, 0, 0, 0⟩ rfl ⟨#[], rfl, .nil, rfl⟩
  refine ⟨_, _, _, rfl, ?_, hn.1, hn.2⟩
  exact VR.map (l := ⟨w.heap.size, 0, 0, 0⟩) (upd_same _ _ _)

theorem range_ok (hs : SR P N μ H w) {t k e : TypeId} {x x' : Value} (hd : descOf P t = .map k e) (h : rangeM x H = .ok v H') (hx : VR μ x x') : Res P N μ H w v H' ((Instr.range t x').run P w) := by
  have hu := descOf_some hd (by simp)
  unfold rangeM at h
  split at h
  · cases h
    cases hx
    have hn := hs.new (.iter none 0 [] 0) (.mapIter none 0 #[] 0) ⟨w.heap.size, 0, 0, 0⟩ rfl ⟨none, rfl, rfl, trivial⟩
    refine ⟨.pointer (some ⟨w.heap.size, 0, none⟩), _, _, ?_, ?_, hn.1, hn.2⟩
    · unfold Instr.range
      simp only [Sem.run_bind, run_underlying hu, Result.andThen_ok, pure_run]
      rfl
    · exact VR.ptr (l := ⟨w.heap.size, 0, 0, 0⟩) (upd_same _ _ _)
  · rename_i r
    split at h
    · rename_i es c hg
      cases h
      cases hx with
      | map hμ =>
        obtain ⟨es', hb, hl, hbase⟩ := hs.map hg hμ
        have hgo : (getObj _).run P w = .ok (.map es' c) w := run_getObj hb
        have hne : μ H.size = none := (hs.fresh _ (Nat.le_refl _)).1
        have hn := hs.new (.iter (some r) c [] c) (.mapIter (some _) c #[] c) ⟨w.heap.size, 0, 0, 0⟩ rfl ⟨some _, rfl, rfl, _, le_upd hne _ _ _ hμ, rfl⟩
        refine ⟨.pointer (some ⟨w.heap.size, 0, none⟩), _, _, ?_, ?_, hn.1, hn.2⟩
        · unfold Instr.range
          simp only [Sem.run_bind, run_underlying hu, Result.andThen_ok, pure_run, hgo]
          rfl
        · exact VR.ptr (l := ⟨w.heap.size, 0, 0, 0⟩) (upd_same _ _ _)
    · cases h
  · cases h

theorem memB_iff (b : Nat) : ∀ l : List Nat, memB b l = l.contains b
  | [] => rfl
  | x :: l => by
    unfold memB
    cases h : Nat.beq x b with
    | true => have := Nat.eq_of_beq_eq_true h; subst this; simp
    | false =>
      have := Nat.ne_of_beq_eq_false h
      simp only [List.contains_cons, memB_iff b l]
      have : (b == x) = false := by simpa using fun e => this e.symm
      rw [this]; rfl

theorem filter_L2 {α β : Type} {r : α → β → Prop} {f : α → Bool} {g : β → Bool} (hfg : ∀ a b, r a b → f a = g b) : ∀ (l : List α) (l' : List β), L2 r l l' → L2 r (l.filter f) (l'.filter g)
  | [], l', h => by rw [h.nil_left]; exact .nil
  | a :: l, l', h => by
    obtain ⟨b, t, rfl, hab, ht⟩ := h.cons_left
    have ih := filter_L2 hfg l t ht
    simp only [List.filter_cons, hfg a b hab]
    split
    · exact .cons hab ih
    · exact ih

theorem L2.mem_right {α β : Type} {r : α → β → Prop} {l : List α} {l' : List β} (h : L2 r l l') {b : β} (hb : b ∈ l') : ∃ a ∈ l, r a b := by
  obtain ⟨i, hi, rfl⟩ := List.mem_iff_getElem.1 hb
  have hi' : i < l.length := by have := h.len; omega
  exact ⟨l[i], List.getElem_mem hi', h.at_ i hi' hi⟩

theorem next_ok (hs : SR P N μ H w) {t : TypeId} {p p' : Value} (h : nextM p H = .ok v H') (hp : VR μ p p') : Res P N μ H w v H' ((Instr.next p' false t).run P w) := by
  unfold nextM at h
  split at h
  · rename_i i
    cases hp with
    | ptr hμ =>
      rename_i l
      split at h
      · rename_i a c d hg
        cases h
        obtain ⟨m', hb, hbase, hm⟩ := hs.iter hg hμ
        cases m' with
        | some _ => exact hm.elim
        | none =>
          have hgo : (getObj l.b).run P w = .ok _ w := run_getObj hb
          refine .same' hs ?_ (.tuple' (.cons (.bool false) .nil))
          unfold Instr.next
          simp only [hbase, Nat.add_zero, Sem.run_bind, hgo, Result.andThen_ok]
          rfl
      · rename_i r since seen last hg
        obtain ⟨m', hb, hbase, hm⟩ := hs.iter hg hμ
        cases m' with
        | none => exact hm.elim
        | some mb =>
          obtain ⟨lm, hμm, rfl⟩ := hm
          have hgo : (getObj l.b).run P w = .ok _ w := run_getObj hb
          split at h
          · rename_i es c hgm
            obtain ⟨es', hbm, hl, _⟩ := hs.map hgm hμm
            have hgom : (getObj lm.b).run P w = .ok (.map es' c) w := run_getObj hbm
            split at h
            · cases h
            · rename_i hck
              simp only [Bool.and_eq_true, List.all_eq_true] at hck
              obtain ⟨c1, c2, c3⟩ := hck
              have c1 := Nat.eq_of_beq_eq_true c1
              have c2 := Nat.eq_of_beq_eq_true c2
              subst c1 c2
              have hborn : ∀ e ∈ es'.toList, e.born < last := fun e he => by
                obtain ⟨a, ha, h1, h2, h3⟩ := hl.mem_right he
                have := c3 a ha
                rw [← h3]
                exact Nat.le_of_ble_eq_true this
              have hleft := filter_L2 (r := EntR μ) (f := fun e => !memB e.2.2 seen) (g := fun e => !seen.toArray.contains e.born) (fun a b hab => by
                simp only [memB_iff, hab.2.2]
                congr 1
                simp) es es'.toList hl
              have hn0 : (!seen.toArray.isEmpty && !es'.isEmpty && es'.all fun e => decide (e.born ≥ last)) = false := by
                cases he : es'.toList with
                | nil =>
                  have : es'.isEmpty = true := by rw [← Array.isEmpty_toList, he]; rfl
                  rw [this]; simp
                | cons e r =>
                  have := hborn e (by rw [he]; simp)
                  have : (es'.all fun e => decide (e.born ≥ last)) = false := by
                    rw [← Array.all_toList, he]
                    simp only [List.all_cons]
                    have : decide (e.born ≥ last) = false := by simpa using this
                    rw [this]; rfl
                  rw [this]; simp
              have hold : (es'.filter fun e => !seen.toArray.contains e.born).filter (fun e => decide (e.born < last)) = es'.filter fun e => !seen.toArray.contains e.born := by
                rw [Array.filter_eq_self]
                intro e he
                have := hborn e (by simpa using (Array.mem_filter.1 he).1)
                simpa using this
              have hnew : (es'.filter fun e => !seen.toArray.contains e.born).filter (fun e => decide (e.born ≥ last)) = #[] := by
                rw [Array.filter_eq_empty_iff]
                intro e he
                have := hborn e (by simpa using (Array.mem_filter.1 he).1)
                simpa using this
              have hlist : (es'.filter fun e => !seen.toArray.contains e.born).toList = es'.toList.filter fun e => !seen.toArray.contains e.born := by simp
              split at h
              · rename_i hf
                cases h
                rw [hf] at hleft
                have hemp : (es'.filter fun e => !seen.toArray.contains e.born) = #[] := by
                  apply Array.ext'
                  rw [hlist, hleft.nil_left]
                refine .same' hs ?_ (.tuple' (.cons (.bool false) .nil))
                unfold Instr.next
                simp only [hbase, Nat.add_zero, Sem.run_bind, hgo, hgom, Result.andThen_ok, hn0, hold, hnew]
                rw [hemp]
                have hc : (choose (.mapNext 1)).run P w = .ok 0 w := rfl
                simp only [Array.isEmpty_empty, if_true, Array.append_empty, Array.map_empty, Bool.false_eq_true, if_false, Sem.run_bind, Array.filter_empty]
                erw [hc]
                rfl
              · rename_i e hf
                cases h
                rw [hf] at hleft
                obtain ⟨e', t', hll, ⟨he1, he2, he3⟩, ht⟩ := hleft.cons_left
                have := ht.nil_left
                subst this
                have hone : (es'.filter fun e => !seen.toArray.contains e.born) = #[e'] := by
                  apply Array.ext'
                  rw [hlist, hll]
                have hso := fun o => run_setObj (P := P) o hb
                have hp := hs.put (o' := .iter (some r) last (seen ++ [e.2.2]) last) (ob' := .mapIter (some lm.b) last (seen.toArray.push e'.born) last) hg rfl hμ
                  ⟨some lm.b, by rw [he3]; simp, hbase, lm, hμm, rfl⟩
                refine ⟨.tuple #[.bool true, e'.key, e'.val], _, μ, ?_, .tuple' (.cons (.bool true) (.cons he1 (.cons he2 .nil))), hp.1, hp.2⟩
                unfold Instr.next
                simp only [hbase, Nat.add_zero, Sem.run_bind, hgo, hgom, Result.andThen_ok, hn0, hold, hnew]
                rw [hone]
                have hc : (choose (.mapNext (#[some e'] : Array (Option MapEntry)).size)).run P w = .ok 0 w := rfl
                have hcand : ((if (#[e'] : Array MapEntry).isEmpty = true then #[none] else #[]) ++ Array.map some (#[e'] ++ #[])) = #[some e'] := by simp
                rw [hcand]
                simp only [Bool.false_eq_true, if_false, Sem.run_bind, hc, Result.andThen_ok, List.getElem?_toArray, List.getElem?_cons_zero, hso]
                rfl
              · cases h
          · cases h
      · cases h
  · cases h

theorem entry_ok (hs : SR P N μ H w) {p p' : Value} (h : entryM p H = .ok v H') (hp : VR μ p p') : Res P N μ H w v H' ((Instr.entry p').run P w) := by
  unfold entryM at h
  split at h
  · rename_i i
    cases hp with
    | ptr hμ =>
      rename_i l
      split at h
      · rename_i r since seen last hg
        obtain ⟨m', hb, hbase, hm⟩ := hs.iter hg hμ
        cases m' with
        | none => exact hm.elim
        | some mb =>
          obtain ⟨lm, hμm, rfl⟩ := hm
          have hgo : (getObj l.b).run P w = .ok _ w := run_getObj hb
          split at h
          · rename_i es c b rest hgm hrev
            obtain ⟨es', hbm, hl, _⟩ := hs.map hgm hμm
            have hgom : (getObj lm.b).run P w = .ok (.map es' c) w := run_getObj hbm
            split at h
            · rename_i k x hc hfb
              cases h
              have hc := Nat.eq_of_beq_eq_true hc
              obtain ⟨e', _, h1, h2, h3, h4, h5, h6⟩ := findBorn_ok (μ := μ) b es es'.toList 0 _ hl hfb
              have hback : seen.toArray.back? = some b := by
                have : seen = rest.reverse ++ [b] := by
                  have := congrArg List.reverse hrev
                  simpa using this
                rw [this]; simp
              refine .same' hs (v' := .tuple #[e'.key, e'.val]) ?_ (.tuple' (.cons h4 (.cons h5 .nil)))
              have hfd : es'.find? (fun e => e.born == b) = some e' := by
                rw [← Array.find?_toList]; exact h3
              have hne : (c != last) = false := by rw [hc]; simp
              unfold Instr.entry
              simp only [hbase, Nat.add_zero, Sem.run_bind, hgo, hgom, hback, hne, Bool.false_eq_true, if_false, pure_run, Result.andThen_ok, hfd]
            · cases h
          · cases h
      · cases h
  · cases h
end
end Go.Abs
