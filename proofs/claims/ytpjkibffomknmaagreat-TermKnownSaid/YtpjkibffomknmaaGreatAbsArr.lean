import Derived.Test.YtpjkibffomknmaaGreatAbsCall
/- Where a run of code arrives. -/
namespace Go.Abs
open Go

def on (b : Frame) (tmps : Array Value) (todo : List Item) : Frame := { b with tmps := tmps, todo := todo, mode := .run }

section steps
variable {P : Program} {b : Frame} {a : Array Value} {k : List Item} {cs : List Frame} {w : World} {ops : Array Oper}

theorem eval_on (b : Frame) (a : Array Value) (todo : List Item) : (on b a todo).eval = (⟨a, []⟩ : Go.Act).eval := by
  funext x; cases x <;> rfl

theorem st_skip : step P (lone (on b a (.code .skip :: k)) cs w) = .next (lone (on b a k) cs w) :=
  step_lone_go (by simp [stepG, stepG.exec, on])
theorem st_label {l : Nat} : step P (lone (on b a (.code (.label l) :: k)) cs w) = .next (lone (on b a k) cs w) :=
  step_lone_go (by simp [stepG, stepG.exec, on])
theorem st_inBlock {id : Nat} : step P (lone (on b a (.inBlock id :: k)) cs w) = .next (lone (on b a k) cs w) :=
  step_lone_go (by simp [stepG, stepG.exec, on])
theorem st_inScope {c : Code} : step P (lone (on b a (.inScope c :: k)) cs w) = .next (lone (on b a k) cs w) :=
  step_lone_go (by simp [stepG, stepG.exec, on])
theorem st_scope {c : Code} : step P (lone (on b a (.code (.scope c) :: k)) cs w) = .next (lone (on b a (.code c :: .inScope c :: k)) cs w) :=
  step_lone_go (by simp [stepG, stepG.exec, on])
theorem st_seq {x y : Code} : step P (lone (on b a (.code (.seq x y) :: k)) cs w) = .next (lone (on b a (.code x :: .code y :: k)) cs w) :=
  step_lone_go (by simp [stepG, stepG.exec, on])
theorem st_block {id : Nat} {c : Code} : step P (lone (on b a (.code (.block id c) :: k)) cs w) = .next (lone (on b a (.code c :: .inBlock id :: k)) cs w) :=
  step_lone_go (by simp [stepG, stepG.exec, on])
theorem st_loop {c : Code} : step P (lone (on b a (.code (.loop c) :: k)) cs w) = .next (lone (on b a (.code c :: .inLoop c :: k)) cs w) :=
  step_lone_go (by simp [stepG, stepG.exec, on])
theorem st_inLoop {c : Code} : step P (lone (on b a (.inLoop c :: k)) cs w) = .next (lone (on b a (.code c :: .inLoop c :: k)) cs w) :=
  step_lone_go (by simp [stepG, stepG.exec, on])
theorem st_exit {id : Nat} {k' : List Item} (h : exitTo id k = some k') : step P (lone (on b a (.code (.exit id) :: k)) cs w) = .next (lone (on b a k') cs w) :=
  step_lone_go (by simp [stepG, stepG.exec, on, h])
theorem st_cond {c : Operand} {x y : Code} {t : Bool} (h : (⟨a, []⟩ : Go.Act).eval c = .bool t) :
    step P (lone (on b a (.code (.cond c x y) :: k)) cs w) = .next (lone (on b a (.code (if t then x else y) :: k)) cs w) :=
  step_lone_go (by
    have := congrFun (eval_on b a (.code (.cond c x y) :: k)) c
    simp only [on] at this
    simp [stepG, stepG.exec, on, this, h])
theorem st_ret (hb : b.roundOf = none) : step P (lone (on b a (.code .ret :: k)) cs w) = .next (lone { on b a (.code .ret :: k) with mode := .returning } cs w) :=
  step_lone_go (by simp [stepG, stepG.exec, on, hb])
theorem st_end (hb : b.roundOf = none) : step P (lone (on b a []) cs w) = .next (lone { on b a [] with mode := .returning } cs w) :=
  step_lone_go (by simp [stepG, stepG.exec, on, hb])
theorem st_region {id : Nat} : step P (lone (on b a (.code (.region id ops false) :: k)) cs w) = .next (lone (on b a (.inRegion ops (List.range ops.size) :: k)) cs w) :=
  step_lone_go (by simp [stepG, stepG.exec, on])
theorem st_region_draw {id : Nat} : step P (lone (on b a (.code (.region id ops true) :: k)) cs w) =
    .next (lone (on b a (.inRegion ops (Region.schedule (P.follows .mixedOrders) ops (w.tape w.drawn (.order b.fn id))) :: k)) cs { w with drawn := w.drawn + 1 }) :=
  step_lone_go (by simp [stepG, stepG.exec, on, choose, Sem.run, Question.forced, Question.cut])
theorem st_region_end : step P (lone (on b a (.inRegion ops [] :: k)) cs w) = .next (lone (on b a k) cs w) :=
  step_lone_go (by simp [stepG, stepG.exec, on])

def putD (a : Array Value) (d : Option Tmp) (v : Value) : Array Value := match d with
  | some d => a.setIfInBounds d v
  | none => a

theorem finish_on (i : Nat) (rest : List Nat) (v : Value) : (on b a (.inRegion ops (i :: rest) :: k)).finish v = on b (putD a ((ops[i]?).bind (·.dst)) v) (.inRegion ops rest :: k) := by
  cases h : (ops[i]?).bind (·.dst) <;> simp [Frame.finish, on, putD, h]

theorem st_op_skip {i : Nat} {rest : List Nat} {o : Oper} (ho : ops[i]? = some o) (h : Region.wanted o (yielded ops a) = false) :
    step P (lone (on b a (.inRegion ops (i :: rest) :: k)) cs w) = .next (lone (on b (putD a o.dst undef) (.inRegion ops rest :: k)) cs w) := by
  have := finish_on (b := b) (a := a) (k := k) (ops := ops) i rest undef
  rw [ho] at this
  simp only [Option.bind_some] at this
  rw [← this]
  exact step_lone_go (by
    have h' := h
    simp only [on] at *
    simp [stepG, stepG.exec, ho, h'])

theorem stG_op {i : Nat} {rest : List Nat} {o : Oper} (ho : ops[i]? = some o) (hw : Region.wanted o (yielded ops a) = true) (hd : ∀ c, o.op ≠ .defer c) :
    stepG P true { frame := on b a (.inRegion ops (i :: rest) :: k), callers := cs, status := .running, dying := none } w =
      stepG.apply P true (on b a (.inRegion ops (i :: rest) :: k)) cs none (execOp (⟨a, []⟩ : Go.Act).eval o) w := by
  have he := eval_on b a (.inRegion ops (i :: rest) :: k)
  simp only [on] at he
  have : stepG P true { frame := on b a (.inRegion ops (i :: rest) :: k), callers := cs, status := .running, dying := none } w = stepG.oper P true (on b a (.inRegion ops (i :: rest) :: k)) cs none w := by
    simp [stepG, stepG.exec, on, ho, hw]
  rw [this]
  unfold stepG.oper
  have h2 : (on b a (.inRegion ops (i :: rest) :: k)).oper? = some o := by simp [Frame.oper?, on, ho]
  rw [h2]
  simp only
  rw [eval_on]
  split
  · rename_i l c h3 h4
    exact absurd h4 (hd c)
  · rfl
end steps

structure Cx where
  b : Frame
  cs : List Frame
  fn : Func
  n : Nat
  fzl : List Nat
  fz : Nat → Value
  norm : Option (List Nat × List Item)
  exits : Nat → Option (List Nat × List Item)

/-- the temporaries: so many, and some hold what they held -/
def Tm (C : Cx) (tmps : Array Value) : Prop := tmps.size = C.n ∧ ∀ t ∈ C.fzl, tmps.getD t undef = C.fz t

/-- what a range over a function leaves with the frame -/
def markD (r : Nat) : Deferred := { target := .collected r, args := #[] }

def Mk (w0 : World) (base ds : List Deferred) (μ : Mu) (H : Hp) (w : World) : Prop :=
  ∃ rs : List Nat, ds = rs.map markD ++ base ∧ rs.Nodup ∧ ∀ r ∈ rs, w0.heap.size ≤ r ∧ w.heap[r]? = some (.deferred (some [])) ∧ ¬ Own μ H r

theorem Mk.step {w0 : World} {base ds : List Deferred} {μ : Mu} {H : Hp} {w : World} (h : Mk w0 base ds μ H w) {μ' : Mu} {H' : Hp} {w' : World} (ht : TR μ H w μ' H' w') : Mk w0 base ds μ' H' w' := by
  obtain ⟨rs, h1, h2, h3⟩ := h
  refine ⟨rs, h1, h2, fun r hr => ?_⟩
  obtain ⟨a, b, c⟩ := h3 r hr
  have hlt : r < w.heap.size := lt_of_block b
  obtain ⟨d, e⟩ := ht.keep r hlt c
  exact ⟨a, by rw [d]; exact b, e⟩

theorem Mk.nil (w0 : World) (base : List Deferred) (μ : Mu) (H : Hp) (w : World) : Mk w0 base base μ H w := ⟨[], rfl, .nil, fun r h => by cases h⟩

section
variable (P : Program) (N : Nat) (C : Cx) (μ : Mu) (H : Hp) (w : World)

structure At (μ' : Mu) (H' : Hp) (w' : World) (tmps : Array Value) (ds : List Deferred) : Prop where
  tm : Tm C tmps
  sr : SR P N μ' H' w'
  tr : TR μ H w μ' H' w'
  marks : Mk w C.b.defers ds μ' H' w'

/-- a place in the code is reached, with these temporaries alive -/
def Land (live : List Nat) (items : List Item) (vs : List Value) (H' : Hp) (m : Machine) : Prop :=
  ∃ μ' w' tmps ds, At P N C μ H w μ' H' w' tmps ds ∧ LR μ' vs (live.map fun t => tmps.getD t undef) ∧ Steps P m (lone (on { C.b with defers := ds } tmps items) C.cs w')

def Leaves (c : Code) (todo : List Item) : Prop := ∃ k, todo = .code c :: k ∧ (c = .ret ∨ ∃ id, c = .exit id ∧ exitTo id k = none)

def Arr : X → Machine → Prop
  | .fail, _ => True
  | .norm vs H', m => ∃ live items, C.norm = some (live, items) ∧ Land P N C μ H w live items vs H' m
  | .exit id vs H', m => ∃ live items, C.exits id = some (live, items) ∧ Land P N C μ H w live items vs H' m
  | .ret vs H', m => ∃ μ' w' tmps ds todo, At P N C μ H w μ' H' w' tmps ds ∧ LR μ' vs ((C.fn.results.toList.map resT).map fun t => tmps.getD t undef) ∧
      Steps P m (lone { on { C.b with defers := ds } tmps todo with mode := .returning } C.cs w')
  | .jump c H', m => ∃ μ' w' tmps ds todo, At P N C μ H w μ' H' w' tmps ds ∧ Leaves c todo ∧ Steps P m (lone (on { C.b with defers := ds } tmps todo) C.cs w')
  | .pan v H', m => ∃ μ' w' tmps ds v' todo, At P N C μ H w μ' H' w' tmps ds ∧ VR μ' v v' ∧
      Steps P m (lone { on { C.b with defers := ds } tmps todo with mode := .panicking [{ v := v', recovered := false }] } C.cs w')
end

section
variable {P : Program} {N : Nat} {C : Cx} {μ : Mu} {H : Hp} {w : World}

theorem At.step {μ1 μ2 : Mu} {H1 H2 : Hp} {w1 w2 : World} {tmps tmps2 : Array Value} {ds : List Deferred} (h : At P N C μ H w μ1 H1 w1 tmps ds) (hs : SR P N μ2 H2 w2) (ht : TR μ1 H1 w1 μ2 H2 w2) (htm : Tm C tmps2) : At P N C μ H w μ2 H2 w2 tmps2 ds :=
  ⟨htm, hs, h.tr.trans ht, h.marks.step ht⟩

theorem Arr.steps {x : X} {m m' : Machine} (h : Steps P m m') (k : Arr P N C μ H w x m') : Arr P N C μ H w x m := by
  cases x with
  | fail => trivial
  | norm vs H' =>
    obtain ⟨live, items, h1, μ', w', tmps, ds, h2, h3, h4⟩ := k
    exact ⟨live, items, h1, μ', w', tmps, ds, h2, h3, h.trans h4⟩
  | exit id vs H' =>
    obtain ⟨live, items, h1, μ', w', tmps, ds, h2, h3, h4⟩ := k
    exact ⟨live, items, h1, μ', w', tmps, ds, h2, h3, h.trans h4⟩
  | ret v H' =>
    obtain ⟨μ', w', tmps, ds, todo, h1, h2, h3⟩ := k
    exact ⟨μ', w', tmps, ds, todo, h1, h2, h.trans h3⟩
  | jump c H' =>
    obtain ⟨μ', w', tmps, ds, todo, h1, h2, h3⟩ := k
    exact ⟨μ', w', tmps, ds, todo, h1, h2, h.trans h3⟩
  | pan v H' =>
    obtain ⟨μ', w', tmps, ds, v', todo, h1, h2, h3⟩ := k
    exact ⟨μ', w', tmps, ds, v', todo, h1, h2, h.trans h3⟩

theorem Arr.one {x : X} {m m' : Machine} (h : step P m = .next m') (k : Arr P N C μ H w x m') : Arr P N C μ H w x m := k.steps (.one h)

/-- what regions need of the place where all arrives -/
structure Ap (P : Program) (N : Nat) (C : Cx) (μ : Mu) (H : Hp) (w : World) (A : X → Machine → Prop) : Prop where
  fail : ∀ m, A .fail m
  steps : ∀ x m m', Steps P m m' → A x m' → A x m
  pan : ∀ μ' H' w' tmps v v' todo, Tm C tmps → VR μ' v v' → SR P N μ' H' w' → TR μ H w μ' H' w' → A (.pan v H') (lone { on C.b tmps todo with mode := .panicking [{ v := v', recovered := false }] } C.cs w')

theorem Ap.one {A : X → Machine → Prop} (hA : Ap P N C μ H w A) {x : X} {m m' : Machine} (h : step P m = .next m') (k : A x m') : A x m := hA.steps _ _ _ (.one h) k

/-- a region, with the frame's deferred calls as they are -/
theorem At.ap {μ1 : Mu} {H1 : Hp} {w1 : World} {tmps : Array Value} {ds : List Deferred} (h : At P N C μ H w μ1 H1 w1 tmps ds) : Ap P N { C with b := { C.b with defers := ds } } μ1 H1 w1 (Arr P N C μ H w) :=
  ⟨fun _ => trivial, fun x m m' hs k => k.steps hs, fun μ' H' w' tmps' v v' todo h1 h2 h3 h4 => ⟨μ', w', tmps', ds, v', todo, h.step h3 h4 h1, h2, .refl _ _⟩⟩

def StR (μ : Mu) (st : St) (tmps : Array Value) : Prop := ∀ t, VR μ (st t) (tmps.getD t undef)

theorem StR.mono {μ μ' : Mu} (h : μ.le μ') {st : St} {tmps : Array Value} (k : StR μ st tmps) : StR μ' st tmps := fun t => (k t).mono h

theorem StR.op {st : St} {tmps : Array Value} (h : StR μ st tmps) {x : Operand} (hx : okOpnd x = true) : VR μ (st.op x) ((⟨tmps, []⟩ : Go.Act).eval x) := by
  cases x with
  | tmp t => exact h t
  | const v => exact (flatB_Flat hx).VR μ
  | global g => exact .undef _
  | func f => exact .func' (.func f) .nil .nil

theorem StR.set {st : St} {tmps : Array Value} (h : StR μ st tmps) {v v' : Value} (hv : VR μ v v') (d : Option Nat) (hd : ∀ t, d = some t → t < tmps.size) : StR μ (st.set d v) (putD tmps d v') := by
  intro t
  cases d with
  | none => exact h t
  | some d =>
    have hlt := hd d rfl
    simp only [St.set, putD]
    cases hb : Nat.beq t d with
    | true =>
      have := Nat.eq_of_beq_eq_true hb
      subst this
      simp only
      rw [Array.getD_eq_getD_getElem?, Array.getElem?_setIfInBounds_self_of_lt hlt]
      exact hv
    | false =>
      have hne := Nat.ne_of_beq_eq_false hb
      simp only
      rw [Array.getD_eq_getD_getElem?, Array.getElem?_setIfInBounds_ne (fun e => hne e.symm), ← Array.getD_eq_getD_getElem?]
      exact h t

theorem putD_size (a : Array Value) (d : Option Tmp) (v : Value) : (putD a d v).size = a.size := by cases d <;> simp [putD]

theorem nth_get {vs : List Value} {k : Nat} {v : Value} (h : vs[k]? = some v) : nth vs k = v := by
  induction vs generalizing k with
  | nil => simp at h
  | cons a l ih =>
    cases k with
    | zero => simpa [nth] using h
    | succ k => simpa [nth] using ih (by simpa using h)

theorem mkSt_go {vs : List Value} {tmps : Array Value} : ∀ (live : List Nat) (k : Nat), (∀ j d, live[j]? = some d → VR μ (nth vs (k + j)) (tmps.getD d undef)) → StR μ (mkSt vs live k) tmps
  | [], k, h => fun t => .undef _
  | d :: ds, k, h => fun t => by
    simp only [mkSt]
    cases hb : Nat.beq t d with
    | true =>
      have := Nat.eq_of_beq_eq_true hb
      subst this
      exact h 0 t rfl
    | false => exact mkSt_go ds (k + 1) (fun j d hj => by have := h (j + 1) d (by simpa using hj); rw [show k + 1 + j = k + (j + 1) by omega]; exact this) t

theorem mkSt_ok {vs : List Value} {live : List Nat} {tmps : Array Value} (h : LR μ vs (live.map fun t => tmps.getD t undef)) : StR μ (mkSt vs live 0) tmps := by
  refine mkSt_go live 0 fun j d hj => ?_
  have hl := h.len
  have hj' : j < vs.length := by
    have := (List.getElem?_eq_some_iff.1 hj).1
    simp at hl; omega
  obtain ⟨b, hb, hr⟩ := h.get? (List.getElem?_eq_getElem hj')
  rw [List.getElem?_map, hj] at hb
  cases hb
  rw [Nat.zero_add, nth_get (List.getElem?_eq_getElem hj')]
  exact hr

theorem StR.live {st : St} {tmps : Array Value} (h : StR μ st tmps) (live : List Nat) : LR μ (live.map st) (live.map fun t => tmps.getD t undef) := L2.map_same _ _ _ fun t _ => h t

theorem Tm.put {tmps : Array Value} (h : Tm C tmps) {d : Option Tmp} (v : Value) (hd : ∀ t, d = some t → t < C.n ∧ t ∉ C.fzl) : Tm C (putD tmps d v) := by
  refine ⟨by rw [putD_size]; exact h.1, fun t ht => ?_⟩
  cases d with
  | none => exact h.2 t ht
  | some d =>
    have hne : d ≠ t := fun e => (hd d rfl).2 (by rw [e]; exact ht)
    simp only [putD]
    rw [Array.getD_eq_getD_getElem?, Array.getElem?_setIfInBounds_ne hne, ← Array.getD_eq_getD_getElem?]
    exact h.2 t ht
end
end Go.Abs
