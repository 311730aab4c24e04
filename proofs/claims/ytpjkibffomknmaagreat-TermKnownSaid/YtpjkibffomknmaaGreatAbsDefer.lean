import Derived.Test.YtpjkibffomknmaaGreatAbsRound
import Derived.Defers
/- A function that defers one closure, and the closure, which recovers. -/
namespace Go.Abs
open Go

section
variable {P : Program} {N : Nat} {cl : Tgt → List Value → M Value} {fuel : Nat}

/-- how the caller stands while a deferred closure runs -/
inductive PanR (μ : Mu) : Option Value → FrameMode → Value → FrameMode → Prop
  | ret : PanR μ none .returning .nilIface .returning
  | pan {v v' : Value} (h : VR μ v v') : PanR μ (some v) (.panicking [{ v := v', recovered := false }]) v' (.panicking [{ v := v', recovered := true }])

theorem settle_pan {μ : Mu} {p : Option Value} {m m' : FrameMode} {v : Value} (h : PanR μ p m v m') : settle m' = .returning := by
  cases h <;> rfl

theorem st_recover {b : Frame} {a : Array Value} {ops : Array Oper} {i : Nat} {rest : List Nat} {k : List Item} {o : Oper} {as : Array Operand} {ts : Array TypeId} {c : Frame} {cs : List Frame} {w : World} {μ : Mu} {p : Option Value} {m m' : FrameMode} {v : Value}
    (hk : b.kind = .deferred) (hr : b.roundOf = none) (ho : ops[i]? = some o) (hop : o.op = .call ⟨.builtin .recover, as, ts⟩) (hg : o.guard = none) (hm : c.mode = m) (hp : PanR μ p m v m') :
    step P (lone (on b a (.inRegion ops (i :: rest) :: k)) (c :: cs) w) = .next (lone (on b (putD a o.dst v) (.inRegion ops rest :: k)) ({ c with mode := m' } :: cs) w) := by
  have hw : Region.wanted o (yielded ops a) = true := by unfold Region.wanted; rw [hg]
  have hstep := stG_op (P := P) (b := b) (a := a) (k := k) (cs := c :: cs) (w := w) (rest := rest) ho hw (by rw [hop]; simp)
  have hfin : ∀ v, (on b a (.inRegion ops (i :: rest) :: k)).finish v = on b (putD a o.dst v) (.inRegion ops rest :: k) := fun v => by
    rw [finish_on, ho]; rfl
  have hx : (execOp (⟨a, []⟩ : Go.Act).eval o).run P w = .ok .recover w := by
    obtain ⟨dst, op, ty, pos, after, guard⟩ := o
    simp only at hop
    subst hop
    rfl
  have hkk : (on b a (.inRegion ops (i :: rest) :: k)).kind = .deferred := hk
  have hrr : (on b a (.inRegion ops (i :: rest) :: k)).roundOf = none := hr
  refine step_lone_go ?_
  rw [hstep]
  cases hp with
  | ret =>
    have ht : tryRecover (on b a (.inRegion ops (i :: rest) :: k)) (c :: cs) = none := by simp only [tryRecover, hkk, hm]
    have hc : ({ c with mode := .returning } : Frame) = c := by rw [← hm]
    rw [hc]
    simp [stepG.apply, hx, hrr, ht, hfin]
  | pan h =>
    have ht : tryRecover (on b a (.inRegion ops (i :: rest) :: k)) (c :: cs) = some (v, { c with mode := .panicking [{ v := v, recovered := true }] } :: cs) := by simp only [tryRecover, hkk, hm]
    simp [stepG.apply, hx, hrr, ht, hfin]

theorem close_ok (hmix : P.follows .mixedOrders = true) (hcl : ClOk P N cl) {g : FuncId} {cf : Func} (hfn : P.funcs[g]? = some cf) {an : An} {pan : Option Value} {args args' : List Value} {μ : Mu} {H H' : Hp} {w : World} (hs : SR P N μ H w) (ha : LR μ args args')
    {u : Value} (hf : closeM P cl fuel cf g an pan args H = .ok u H') {c : Frame} {cs : List Frame} {m m' : FrameMode} {v : Value} (hm : c.mode = m) (hp : PanR μ pan m v m') :
    ∃ μ' w', SR P N μ' H' w' ∧ TR μ H w μ' H' w' ∧ Steps P (lone (Frame.enter P g ⟨args'⟩ .deferred) (c :: cs) w) (lone { c with mode := .returning } cs w') := by
  unfold closeM at hf
  cases hb : cf.body with
  | none => rw [hb] at hf; cases hf
  | some c0 =>
  cases c0 <;> try (rw [hb] at hf; cases hf; done)
  rename_i r0 cc
  cases r0 <;> try (rw [hb] at hf; cases hf; done)
  rename_i idr ops draw
  cases draw with
  | true => rw [hb] at hf; cases hf
  | false =>
  rw [hb] at hf
  simp only at hf
  cases hops : ops.toList with
  | nil => rw [hops] at hf; cases hf
  | cons o rest =>
  rw [hops] at hf
  simp only at hf
  obtain ⟨odst, oop, oty, opos, oafter, oguard⟩ := o
  simp only at hf
  cases oop <;> try (cases hf; done)
  rename_i call
  obtain ⟨callee, as, ts⟩ := call
  cases callee <;> try (cases hf; done)
  rename_i bu
  cases bu <;> try (cases hf; done)
  cases hdst : odst with
  | none => rw [hdst] at hf; cases hf
  | some d =>
  cases hguard : oguard with
  | some gg => rw [hdst, hguard] at hf; cases hf
  | none =>
  rw [hdst, hguard] at hf
  subst hdst hguard
  cases hok : okCode cf.ntmps [] cc && (rest.all (okOper cf.ntmps []) && Nat.ble args.length cf.ntmps) with
  | false => rw [hok] at hf; cases hf
  | true =>
        rw [hok] at hf
        simp only at hf
        cases hd : Nat.blt d cf.ntmps with
        | false => rw [hd] at hf; cases hf
        | true =>
          rw [hd] at hf
          have hd := Nat.le_of_ble_eq_true hd
          simp only [Bool.and_eq_true, List.all_eq_true] at hok
          obtain ⟨ok1, ok2, ok3⟩ := hok
          have ok3 := Nat.le_of_ble_eq_true ok3
          have hl := ha.len
          let c' : Frame := { c with mode := m' }
          let C : Cx := enterCx P g cf args' .deferred (c' :: cs) [] (fun _ => undef)
          have hstart := enter_on hfn hb args' .deferred
          have hsz : (startT cf args').size = cf.ntmps := startT_size (by omega)
          have ho : ops[0]? = some { dst := some d, op := .call ⟨.builtin .recover, as, ts⟩, type := oty, pos := opos, after := oafter, guard := none } := by rw [← Array.getElem?_toList, hops]; rfl
          have hn : ops.size = rest.length + 1 := by rw [← Array.length_toList, hops]; rfl
          have hrange : List.range ops.size = 0 :: List.range' 1 rest.length := by rw [hn, List.range_eq_range', List.range'_succ]
          have hv : VR μ (panV pan) v := by
            cases hp with
            | ret => exact .nilIface
            | pan h => exact h
          have s1 : Steps P (lone (Frame.enter P g ⟨args'⟩ .deferred) (c :: cs) w) (lone (on C.b (putD (startT cf args') (some d) v) (.inRegion ops (List.range' 1 rest.length) :: .code cc :: [])) C.cs w) := by
            rw [hstart]
            refine (Steps.one st_seq).trans ((Steps.one st_region).trans ?_)
            rw [hrange]
            have := st_recover (P := P) (b := Frame.enter P g ⟨args'⟩ .deferred) (a := startT cf args') (k := [.code cc]) (rest := List.range' 1 rest.length) (cs := cs) (w := w) rfl rfl ho rfl rfl hm hp
            exact .one this
          have htm : Tm C (putD (startT cf args') (some d) v) := ⟨by rw [putD_size]; exact hsz, fun t ht => by cases ht⟩
          have hst : StR μ (St.set (fun i => nth args i) (some d) (panV pan)) (putD (startT cf args') (some d) v) := (start_StR ha _).set hv (some d) (fun t ht => by cases ht; show d < (startT cf args').size; rw [hsz]; exact hd)
          have hat : At P N C μ H w μ H w (putD (startT cf args') (some d) v) [] := ⟨htm, hs, .refl _ _ _, .nil _ _ _ _ _⟩
          have hk2 : Kx P N C μ H w [.code cc] (fun st => execK P cl fuel cf false g cc an [] st (fun st => retX cf false st)) := by
            intro st2 μ2 H2 w2 tmps2 ds2 h1 h2
            exact exec_ok (fuel := fuel) (self := g) hmix hcl (round := false) cc an [] st2 (fun st => retX cf false st) C [] μ H w μ2 H2 w2 tmps2 ds2 ⟨rfl, by rw [hfn]; rfl⟩ rfl ok1 (fun id => rfl) (end_ret rfl) h1 h2
          have hex := opsTo_ok (C := C) (ops := ops) (k := [.code cc]) (kx := fun st => execK P cl fuel cf false g cc an [] st (fun st => retX cf false st)) hcl hat.ap ops.size 0
            (fun st' μ' H' w' tmps' h1 h2 h3 h4 => Arr.one (st_region_end (ops := ops)) (hk2 st' μ' H' w' tmps' [] (hat.step h3 h4 h1) h2)) rest 1 _ μ H w _
            (fun j o' hj => by rw [← Array.getElem?_toList, hops, Nat.add_comm]; simpa using hj) ok2 (by omega) hs (.refl _ _ _) htm hst
          have hex := Arr.steps s1 hex
          have hf : bodyR (opsX P cl ops rest (St.set (fun i => nth args i) (some d) (panV pan)) (fun st => execK P cl fuel cf false g cc an [] st (fun st => retX cf false st))) (readM P cf) H = .ok u H' := hf
          unfold bodyR at hf
          generalize opsX P cl ops rest (St.set (fun i => nth args i) (some d) (panV pan)) (fun st => execK P cl fuel cf false g cc an [] st (fun st => retX cf false st)) H = xr at hex hf
          cases xr with
          | norm vs H' => cases hf
          | exit id vs H' => cases hf
          | jump c H' => cases hf
          | fail => cases hf
          | pan v H' => cases hf
          | ret vs H1 =>
            obtain ⟨μ', w', tmps, ds, todo, h1, h2, h3⟩ := hex
            obtain ⟨w2, e1, e2, e3⟩ := h1.unmark (todo := todo) (m := .returning) (by simp)
            simp only at hf
            obtain ⟨hh, v', r1, r2⟩ := readM_ok e2 h2 hf
            subst hh
            refine ⟨μ', w2, e2, e3, h3.trans (e1.trans (.one ?_))⟩
            have := step_going_returned (P := P) (c := c') (cs := cs) (fr := { on C.b tmps todo with mode := .returning }) (w := w2) (v := v') rfl ⟨rfl, rfl, cf, hfn, r1⟩
            rw [show settle c'.mode = .returning from settle_pan hp] at this
            exact this

theorem lastL_spec {α : Type} : ∀ (l : List α) (a : α), lastL l = some a → l = initL l ++ [a]
  | [], a, h => by cases h
  | [x], a, h => by cases h; rfl
  | x :: y :: r, a, h => by
    have := lastL_spec (y :: r) a h
    simp only [initL, List.cons_append]
    rw [← this]

/-- the closures that may be deferred -/
def TcOk (P : Program) (tc : FuncId → Option (Func × An)) : Prop := ∀ g cf an, tc g = some (cf, an) → P.funcs[g]? = some cf ∧ Enters P g

theorem st_defer {b : Frame} {a : Array Value} {ops : Array Oper} {i : Nat} {rest : List Nat} {k : List Item} {o : Oper} {cs : List Frame} {w : World} {f : Nat} {as : Array Operand} {ts : Array TypeId} {g : FuncId} {first captured : Array Value}
    (hr : b.roundOf = none) (ho : ops[i]? = some o) (hop : o.op = .defer ⟨.value (.tmp f), as, ts⟩) (has : as.toList = []) (hdst : o.dst = none) (hg : o.guard = none) (hf : a.getD f undef = .func (.func g) first captured) :
    step P (lone (on b a (.inRegion ops (i :: rest) :: k)) cs w) = .next (lone (on { b with defers := { target := .fn (.func g) captured, args := first } :: b.defers } a (.inRegion ops rest :: k)) cs w) := by
  have hw : Region.wanted o (yielded ops a) = true := by unfold Region.wanted; rw [hg]
  have he := eval_on b a (.inRegion ops (i :: rest) :: k)
  have has' : as = #[] := Array.ext' has
  have hx : (execOp (⟨a, []⟩ : Go.Act).eval o).run P w = .ok (.defer { target := .fn (.func g) captured, args := first }) w := by
    obtain ⟨dst, op, ty, pos, after, guard⟩ := o
    simp only at hop
    subst hop
    subst has'
    have hv : (⟨a, []⟩ : Go.Act).eval (.tmp f) = .func (.func g) first captured := hf
    simp only [execOp, resolve, hv]
    show Sem.run P _ w = _
    simp [Deferred.ofValue]
  have h2 : (on b a (.inRegion ops (i :: rest) :: k)).oper? = some o := by simp [Frame.oper?, on, ho]
  have hfin : ∀ b' : Frame, (on b' a (.inRegion ops (i :: rest) :: k)).finish undef = on b' a (.inRegion ops rest :: k) := fun b' => by
    rw [finish_on, ho]; simp [hdst, putD]
  have hrr : (on b a (.inRegion ops (i :: rest) :: k)).roundOf = none := hr
  refine step_lone_go ?_
  have e1 : stepG P true { frame := on b a (.inRegion ops (i :: rest) :: k), callers := cs, status := .running, dying := none } w = stepG.oper P true (on b a (.inRegion ops (i :: rest) :: k)) cs none w := by
    simp [stepG, stepG.exec, on, ho, hw]
  rw [e1]
  unfold stepG.oper
  rw [h2]
  simp only [hrr, he]
  rw [← hfin]
  simp [stepG.apply, hx]
  rfl

theorem Mk.un {w0 wa : World} {base ds : List Deferred} {μa μ : Mu} {Ha H : Hp} {w : World} {μ0 : Mu} {H0 : Hp} (hmk : Mk w0 base ds μa Ha wa) (ht : TR μa Ha wa μ H w) (hs : SR P N μ H w) (ht0 : TR μ0 H0 w0 μ H w) {fr : Frame} {cs : List Frame} (hm : fr.mode ≠ .run) (hd : fr.defers = ds) :
    ∃ w', Steps P (lone fr cs w) (lone { fr with defers := base } cs w') ∧ SR P N μ H w' ∧ TR μ0 H0 w0 μ H w' := by
  obtain ⟨rs, h1, h2, h3⟩ := hmk.step ht
  exact Abs.unmark (base := base) rs fr w hm (by rw [hd]; exact h1) h2 (fun r hr => ⟨(h3 r hr).1, (h3 r hr).2.1⟩) hs ht0

theorem noPan_ok {m : M Value} {H H' : Hp} {v : Value} (h : noPan m H = .ok v H') : m H = .ok v H' := by
  unfold noPan at h
  cases hm : m H with
  | fail => rw [hm] at h; cases h
  | pan a b => rw [hm] at h; cases h
  | ok a b => rw [hm] at h; exact h

theorem cloM_inv {tc : FuncId → Option (Func × An)} {fv u : Value} {pan : Option Value} {H H' : Hp} (h : cloM P cl fuel tc fv pan H = .ok u H') :
    ∃ g first captured cf an, fv = .func (.func g) first captured ∧ tc g = some (cf, an) ∧ closeM P cl fuel cf g an pan (first.toList ++ captured.toList) H = .ok u H' := by
  unfold cloM at h
  cases fv <;> try (cases h; done)
  rename_i f first captured
  cases f <;> try (cases h; done)
  rename_i g
  simp only at h
  cases ht : tc g with
  | none => rw [ht] at h; cases h
  | some p =>
    obtain ⟨cf, an⟩ := p
    rw [ht] at h
    exact ⟨g, first, captured, cf, an, rfl, ht, noPan_ok h⟩

theorem np_noPan (m : M Value) : NP (noPan m) := fun h v h' e => by
  unfold noPan at e
  cases hm : m h <;> rw [hm] at e <;> cases e

theorem np_cloM {tc : FuncId → Option (Func × An)} {fv : Value} {pan : Option Value} : NP (cloM P cl fuel tc fv pan) := by
  unfold cloM
  split
  · split
    · exact np_noPan _
    · exact np_fail
  · exact np_fail

theorem bM_inv {m : M Value} {k : Value → M Value} {H : Hp} (hm : NP m) (h : bM m k H ≠ .fail) : ∃ u H1, m H = .ok u H1 ∧ bM m k H = k u H1 := by
  unfold bM at h ⊢
  cases hr : m H with
  | fail => rw [hr] at h; exact absurd rfl h
  | pan a b => exact absurd hr (hm _ _ _)
  | ok u H1 => exact ⟨u, H1, rfl, rfl⟩

theorem defer_ok (hmix : P.follows .mixedOrders = true) (hcl : ClOk P N cl) {tc : FuncId → Option (Func × An)} (htc : TcOk P tc) {f : FuncId} {fn : Func} (hfn : P.funcs[f]? = some fn) {x1 x2 : An} {l1 l2 : List Nat} {args args' : List Value} {μ : Mu} {H : Hp} {w : World} (hs : SR P N μ H w) (ha : LR μ args args')
    (hf : deferM P cl fuel fn f x1 l1 l2 x2 tc args H ≠ .fail) : Calls P f ⟨args'⟩ w (CR P N μ H w (deferM P cl fuel fn f x1 l1 l2 x2 tc args H)) := by
  intro cs
  unfold deferM at hf ⊢
  cases hb : fn.body with
  | none => rw [hb] at hf; exact absurd rfl hf
  | some c0 =>
  cases c0 <;> try (rw [hb] at hf; exact absurd rfl hf)
  rename_i c1 c0
  cases c0 <;> try (rw [hb] at hf; exact absurd rfl hf)
  rename_i c0 c2
  cases c0 <;> try (rw [hb] at hf; exact absurd rfl hf)
  rename_i idr ops draw
  cases draw with
  | true => rw [hb] at hf; exact absurd rfl hf
  | false =>
  rw [hb] at hf
  simp only at hf ⊢
  cases hok : okCode fn.ntmps [] c1 && (okCode fn.ntmps (fn.results.toList.map resT) c2 && (Nat.ble args.length fn.ntmps && (initL ops.toList).all (okOper fn.ntmps []))) with
  | false => rw [hok] at hf; exact absurd rfl hf
  | true =>
  rw [hok] at hf
  cases hlast : lastL ops.toList with
  | none => rw [hlast] at hf; exact absurd rfl hf
  | some o =>
  rw [hlast] at hf
  simp only at hf ⊢
  obtain ⟨odst, oop, oty, opos, oafter, oguard⟩ := o
  simp only at hf ⊢
  cases oop <;> try (exact absurd rfl hf)
  rename_i call
  obtain ⟨callee, as, ts⟩ := call
  cases callee <;> try (exact absurd rfl hf)
  rename_i fo
  cases fo <;> try (exact absurd rfl hf)
  rename_i ft
  cases odst with
  | some d => exact absurd rfl hf
  | none =>
  cases oguard with
  | some gg => exact absurd rfl hf
  | none =>
  simp only at hf ⊢
  cases has : as.toList with
  | cons a0 ar => rw [has] at hf; exact absurd rfl hf
  | nil =>
  rw [has] at hf
  simp only at hf ⊢
  simp only [Bool.and_eq_true, List.all_eq_true] at hok
  obtain ⟨ok1, ok2, ok3, ok4⟩ := hok
  have ok3 := Nat.le_of_ble_eq_true ok3
  have hl := ha.len
  have hops := lastL_spec _ _ hlast
  have hsz : (startT fn args').size = fn.ntmps := startT_size (by omega)
  have hisome : (P.funcs[f]?).isSome = true := by rw [hfn]; rfl
  -- the first part
  let K1 : List Item := [.code (.seq (.region idr ops false) c2)]
  let C0 : Cx := enterCx P f fn args' .normal cs [] (fun _ => undef)
  let C1 : Cx := { C0 with norm := some (l1, K1), exits := fun _ => none }
  have hstart := enter_on hfn hb args' .normal
  have hat : At P N C1 μ H w μ H w (startT fn args') [] := ⟨⟨hsz, fun t ht => by cases ht⟩, hs, .refl _ _ _, .nil _ _ _ _ _⟩
  have hex1 := exec_ok (fuel := fuel) (self := f) hmix hcl (round := false) c1 x1 [] (fun i => nth args i) (fun st => normV (l1.map st)) C1 K1 μ H w μ H w (startT fn args') [] ⟨rfl, hisome⟩ rfl ok1 (fun id => rfl) (Kx.live (C := C0) l1 K1 (fun _ => none)) hat (start_StR ha _)
  have hex1 : Arr P N C1 μ H w (execK P cl fuel fn false f c1 x1 [] (fun i => nth args i) (fun st => normV (l1.map st)) H) (lone (Frame.enter P f ⟨args'⟩ .normal) cs w) := by
    rw [hstart]; exact Arr.one st_seq hex1
  unfold sx at hf ⊢
  generalize execK P cl fuel fn false f c1 x1 [] (fun i => nth args i) (fun st => normV (l1.map st)) H = xr1 at hex1 hf
  cases xr1 <;> try (exact absurd rfl hf)
  rename_i vs1 H1
  simp only at hf ⊢
  obtain ⟨live1, items1, hn1, μ1, w1, tmps1, ds1, at1, lr1, st1⟩ := hex1
  cases hn1
  -- the closure is made
  let m := (initL ops.toList).length
  let C2 : Cx := { C1 with b := { C1.b with defers := ds1 }, norm := some (l2, [.inRegion ops (List.range' m 1), .code c2]), exits := fun _ => none }
  have at2 : At P N C2 μ1 H1 w1 μ1 H1 w1 tmps1 ds1 := ⟨at1.tm, at1.sr, .refl _ _ _, .nil _ _ _ _ _⟩
  have hex2 := opsTo_ok (C := C2) (ops := ops) (k := [.code c2]) (kx := fun st => normV (l2.map st)) hcl (show Ap P N C2 μ1 H1 w1 (Arr P N C2 μ1 H1 w1) from at2.ap) m 1
    (fun st' μ' H' w' tmps' h1 h2 h3 h4 => ⟨l2, _, rfl, μ', w', tmps', ds1, at2.step h3 h4 h1, h2.live l2, .refl _ _⟩) (initL ops.toList) 0 (mkSt vs1 l1 0) μ1 H1 w1 tmps1
    (fun j o' hj => by
      rw [Nat.zero_add, ← Array.getElem?_toList, hops]
      rw [List.getElem?_append_left (List.getElem?_eq_some_iff.1 hj).1]
      exact hj) ok4 (by simp [m]) at1.sr (.refl _ _ _) at1.tm (mkSt_ok lr1)
  have hrange : List.range ops.size = List.range' 0 ((initL ops.toList).length + 1) := by
    rw [List.range_eq_range', ← Array.length_toList, congrArg List.length hops]; simp
  have hex2 : Arr P N C2 μ1 H1 w1 (opsX P cl ops (initL ops.toList) (mkSt vs1 l1 0) (fun st => normV (l2.map st)) H1) (lone (on { C1.b with defers := ds1 } tmps1 K1) cs w1) := by
    refine Arr.one st_seq (Arr.one st_region ?_)
    rw [hrange]
    exact hex2
  generalize opsX P cl ops (initL ops.toList) (mkSt vs1 l1 0) (fun st => normV (l2.map st)) H1 = xr2 at hex2 hf
  cases xr2 <;> try (exact absurd rfl hf)
  rename_i vs2 H2
  simp only at hf ⊢
  obtain ⟨live2, items2, hn2, μ2, w2, tmps2, ds2, at2', lr2, st2⟩ := hex2
  cases hn2
  have hst2 : StR μ2 (mkSt vs2 l2 0) tmps2 := mkSt_ok lr2
  have hlast' : ops[m]? = some { dst := none, op := .defer ⟨.value (.tmp ft), as, ts⟩, type := oty, pos := opos, after := oafter, guard := none } := by
    rw [← Array.getElem?_toList, hops, List.getElem?_append_right (Nat.le_refl _)]
    simp [m]
  -- what is left behind the closure
  have rest : ∀ (g : FuncId) (first captured : Array Value) (cf : Func) (an : An) (u : Value) (pan : Option Value) (mo mo' : FrameMode) (pv : Value) (μ3 : Mu) (H3 H4 : Hp) (w3 : World) (tmps3 : Array Value) (todo : List Item) (first' captured' : Array Value) (rs3 : List Value),
      tc g = some (cf, an) → closeM P cl fuel cf g an pan (first.toList ++ captured.toList) H3 = .ok u H4 → LR μ2 first.toList first'.toList → LR μ2 captured.toList captured'.toList → PanR μ3 pan mo pv mo' → mo ≠ .run →
      SR P N μ3 H3 w3 → TR μ2 H2 w2 μ3 H3 w3 → LR μ3 rs3 ((fn.results.toList.map resT).map fun t => tmps3.getD t undef) → readM P fn rs3 H4 ≠ .fail →
      ∃ e w' fr, CR P N μ H w (readM P fn rs3 H4) e w' ∧ Comes P (lone { on { C1.b with defers := { target := .fn (.func g) captured', args := first' } :: ds2 } tmps3 todo with mode := mo } cs w3) (lone fr cs w') e ∧ fr.fn = f ∧ fr.leaving P w' e := by
    intro g first captured cf an u pan mo mo' pv μ3 H3 H4 w3 tmps3 todo first' captured' rs3 h1 h2 h3 h4 h5 h6 h7 h8 h9 h10
    obtain ⟨t1, t2⟩ := htc g cf an h1
    have hargs : LR μ3 (first.toList ++ captured.toList) (first'.toList ++ captured'.toList) := (h3.mono h8.le).append (h4.mono h8.le)
    obtain ⟨μ4, w4, s1, s2, s3⟩ := close_ok (P := P) (N := N) hmix hcl t1 (c := { on { C1.b with defers := ds2 } tmps3 todo with mode := mo }) (cs := cs) h7 hargs h2 rfl h5
    have hinv : (invoke (.fn (.func g) captured') first').run P w3 = .ok (.enter g ⟨first'.toList ++ captured'.toList⟩) w3 := by
      have : (⟨first'.toList ++ captured'.toList⟩ : Array Value) = first' ++ captured' := by apply Array.ext'; simp
      rw [this]
      exact callFunc_run t2 _ w3
    have d1 := step_defer (P := P) (fr := { on { C1.b with defers := { target := .fn (.func g) captured', args := first' } :: ds2 } tmps3 todo with mode := mo }) (cs := cs) (w := w3) h6 rfl rfl hinv
    have hA : Steps P (lone { on { C1.b with defers := { target := .fn (.func g) captured', args := first' } :: ds2 } tmps3 todo with mode := mo } cs w3) (lone { on { C1.b with defers := ds2 } tmps3 todo with mode := .returning } cs w4) := (Steps.one d1).trans s3
    obtain ⟨w5, b1, b2, b3⟩ := at2'.marks.un (h8.trans s2) s1 (at2'.tr.trans (h8.trans s2)) (fr := { on { C1.b with defers := ds2 } tmps3 todo with mode := .returning }) (cs := cs) (by simp [on]) rfl
    obtain ⟨w6, b4, b5, b6⟩ := at1.marks.un b3 b2 (at1.tr.trans b3) (fr := { on { C1.b with defers := ds1 } tmps3 todo with mode := .returning }) (cs := cs) (by simp [on]) rfl
    cases hr : readM P fn rs3 H4 with
    | fail => exact absurd hr h10
    | pan v h' => exact absurd hr (np_readM _ _ _ _ _ _)
    | ok v h' =>
      obtain ⟨hh, v', r1, r2⟩ := readM_ok b5 (h9.mono s2.le) hr
      subst hh
      refine ⟨.returned v', w6, _, ⟨μ4, r2, b5, b6⟩, hA.trans (b1.trans b4), rfl, rfl, rfl, rfl, fn, hfn, r1⟩
  -- the rest of the body
  have body : ∀ (g : FuncId) (first captured first' captured' : Array Value), mkSt vs2 l2 0 ft = .func (.func g) first captured → tmps2.getD ft undef = .func (.func g) first' captured' →
      Arr P N { C1 with b := { C1.b with defers := { target := .fn (.func g) captured', args := first' } :: ds2 }, fzl := fn.results.toList.map resT, fz := fun t => tmps2.getD t undef, norm := none, exits := fun _ => none } μ2 H2 w2
        (execK P cl fuel fn false f c2 x2 [] (mkSt vs2 l2 0) (fun st => retX fn false st) H2) (lone (Frame.enter P f ⟨args'⟩ .normal) cs w) := by
    intro g first captured first' captured' _ e2
    let C3 : Cx := { C1 with b := { C1.b with defers := { target := .fn (.func g) captured', args := first' } :: ds2 }, fzl := fn.results.toList.map resT, fz := fun t => tmps2.getD t undef, norm := none, exits := fun _ => none }
    have at3 : At P N C3 μ2 H2 w2 μ2 H2 w2 tmps2 ({ target := .fn (.func g) captured', args := first' } :: ds2) := ⟨⟨at2'.tm.1, fun _ _ => rfl⟩, at2'.sr, .refl _ _ _, .nil _ _ _ _ _⟩
    have hex3 := exec_ok (fuel := fuel) (self := f) hmix hcl (round := false) c2 x2 [] (mkSt vs2 l2 0) (fun st => retX fn false st) C3 [] μ2 H2 w2 μ2 H2 w2 tmps2 _ ⟨rfl, hisome⟩ rfl ok2 (fun id => rfl) (end_ret rfl) at3 hst2
    have sd := st_defer (P := P) (b := { C1.b with defers := ds2 }) (a := tmps2) (k := [.code c2]) (rest := []) (cs := cs) (w := w2) rfl hlast' rfl has rfl rfl e2
    refine Arr.steps (st1.trans (st2.trans ((Steps.one sd).trans (.one (st_region_end (ops := ops)))))) ?_
    exact hex3
  generalize hx3 : execK P cl fuel fn false f c2 x2 [] (mkSt vs2 l2 0) (fun st => retX fn false st) H2 = xr3 at hf body
  have fun_inv : ∀ (g : FuncId) (first captured : Array Value), mkSt vs2 l2 0 ft = .func (.func g) first captured → ∃ first' captured', tmps2.getD ft undef = .func (.func g) first' captured' ∧ LR μ2 first.toList first'.toList ∧ LR μ2 captured.toList captured'.toList := by
    intro g first captured e
    have hv := hst2 ft
    rw [e] at hv
    generalize tmps2.getD ft undef = x at hv
    cases hv with
    | func hfn hl hv hm hc =>
      cases hfn
      exact ⟨_, _, rfl, ⟨hl, hv⟩, ⟨hm, hc⟩⟩
  cases xr3 <;> try (exact absurd rfl hf)
  · rename_i rs3 H3
    simp only at hf ⊢
    obtain ⟨u, H4, hc, he⟩ := bM_inv np_cloM hf
    rw [he] at hf ⊢
    obtain ⟨g, first, captured, cf, an, e1, e2, e3⟩ := cloM_inv hc
    obtain ⟨first', captured', e4, e5, e6⟩ := fun_inv g first captured e1
    obtain ⟨μ3, w3, tmps3, ds3, todo, a1, a2, a3⟩ := body g first captured first' captured' e1 e4
    obtain ⟨w3', b1, b2, b3⟩ := a1.unmark (todo := todo) (m := .returning) (by simp)
    obtain ⟨e, w', fr, r1, r2, r3, r4⟩ := rest g first captured cf an u none .returning .returning .nilIface μ3 H3 H4 w3' tmps3 todo first' captured' rs3 e2 e3 e5 e6 .ret (by simp) b2 b3 a2 hf
    exact ⟨e, w', fr, r1, Comes.of_steps (a3.trans b1) r2, r3, r4⟩
  · rename_i v H3
    simp only at hf ⊢
    obtain ⟨u, H4, hc, he⟩ := bM_inv np_cloM hf
    rw [he] at hf ⊢
    obtain ⟨g, first, captured, cf, an, e1, e2, e3⟩ := cloM_inv hc
    obtain ⟨first', captured', e4, e5, e6⟩ := fun_inv g first captured e1
    obtain ⟨μ3, w3, tmps3, ds3, v', todo, a1, a2, a3⟩ := body g first captured first' captured' e1 e4
    obtain ⟨w3', b1, b2, b3⟩ := a1.unmark (todo := todo) (m := .panicking [{ v := v', recovered := false }]) (by simp)
    have hrs : LR μ3 ((fn.results.toList.map resT).map (mkSt vs2 l2 0)) ((fn.results.toList.map resT).map fun t => tmps3.getD t undef) := by
      have h0 := (hst2.mono b3.le).live (fn.results.toList.map resT)
      have : ((fn.results.toList.map resT).map fun t => tmps3.getD t undef) = ((fn.results.toList.map resT).map fun t => tmps2.getD t undef) := List.map_congr_left fun t ht => a1.tm.2 t ht
      rw [this]
      exact h0
    obtain ⟨e, w', fr, r1, r2, r3, r4⟩ := rest g first captured cf an u (some v) _ _ v' μ3 H3 H4 w3' tmps3 todo first' captured' _ e2 e3 e5 e6 (.pan a2) (by simp) b2 b3 hrs hf
    exact ⟨e, w', fr, r1, Comes.of_steps (a3.trans b1) r2, r3, r4⟩
end
end Go.Abs
