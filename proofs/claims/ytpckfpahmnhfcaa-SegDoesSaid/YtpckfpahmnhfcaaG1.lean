/- The ghost machine's logic: abstract states, what a piece of code does to them (AWp), contracts of calls (ACall), and the rules, each proved once over the model. -/
import Derived.Test.YtpckfpahmnhfcaaG0
namespace Go.Proofs.Ytpckfpahmnhfcaa.G
open Go Go.RowKit
set_option linter.unusedVariables false

structure ASt where
  tmps : List AV
  heap : AHeap
  defs : List (FuncId × List AV)

def TRel (w : World) (S : Nat → Prop) (φ : Phi) (vs : Array Value) (xs : List AV) : Prop :=
  vs.size = xs.length ∧ ∀ j x, xs[j]? = some x → Rep w S φ (vs.getD j Go.undef) x

def DRel (w : World) (S : Nat → Prop) (φ : Phi) : List Deferred → List (FuncId × List AV) → Prop
  | [], [] => True
  | d :: ds, (f, xs) :: r => (∃ cap, d.target = .fn (.func f) cap ∧ TRel w S φ (d.args ++ cap) xs) ∧ DRel w S φ ds r
  | _, _ => False

structure Base where
  w : World
  S : Nat → Prop
  φ : Phi
  n : Nat
  hn : ∀ k, n ≤ k → φ k = none

structure Rel (B : Base) (S : Nat → Prop) (φ : Phi) (st : ASt) (a : Act) (w : World) : Prop where
  heap : HRel w S φ st.heap
  tmps : TRel w S φ a.tmps st.tmps
  defs : DRel w S φ a.defers st.defs
  ext : Ext B.w B.S B.φ w S φ

inductive AExit where
  | normal | exit (id : Nat) | goto (l : Nat) | ret | panic (x : AV)

def ERel (w : World) (S : Nat → Prop) (φ : Phi) : Exit → AExit → Prop
  | .normal, .normal => True
  | .exit i, .exit j => i = j
  | .goto i, .goto j => i = j
  | .ret, .ret => True
  | .panic chain, .panic x => ∃ v, chain = [{ v, recovered := false }] ∧ Rep w S φ v x
  | _, _ => False

def Lift (B : Base) (Q : AExit → ASt → Prop) : Exit → Act → World → Prop := fun e a w => ∃ S φ e' st, ERel w S φ e e' ∧ Rel B S φ st a w ∧ Q e' st

def AWp (P : Program) (B : Base) (c : Code) (Q : AExit → ASt → Prop) (st : ASt) : Prop := ∀ S φ a w, Rel B S φ st a w → c.wp P (Lift B Q) a w

def AThen (next : ASt → Prop) (Q : AExit → ASt → Prop) : AExit → ASt → Prop
  | .normal, st => next st
  | e, st => Q e st

def AInBlock (id : Nat) (Q : AExit → ASt → Prop) : AExit → ASt → Prop
  | .exit i, st => match Nat.beq i id with
    | true => Q .normal st
    | false => Q (.exit i) st
  | e, st => Q e st

section
variable {w w' : World} {S S' : Nat → Prop} {φ φ' : Phi}
theorem TRel.step {vs : Array Value} {xs : List AV} (h : TRel w S φ vs xs) (hs : Step w S φ w' S' φ') : TRel w' S' φ' vs xs :=
  ⟨h.1, fun j x hj => (h.2 j x hj).step hs⟩
theorem DRel.step : ∀ {ds : List Deferred} {xs : List (FuncId × List AV)}, DRel w S φ ds xs → Step w S φ w' S' φ' → DRel w' S' φ' ds xs
  | [], [], h, _ => h
  | [], _ :: _, h, _ => h.elim
  | _ :: _, [], h, _ => h.elim
  | d :: ds, (f, xs) :: r, h, hs => ⟨let ⟨cap, h1, h2⟩ := h.1; ⟨cap, h1, h2.step hs⟩, h.2.step hs⟩
end

section rules
variable {P : Program} {B : Base} {Q Q' : AExit → ASt → Prop} {st : ASt}

theorem AWp.mono {c : Code} (h : AWp P B c Q st) (hq : ∀ e s, Q e s → Q' e s) : AWp P B c Q' st :=
  fun S φ a w hr => wp_mono (h S φ a w hr) fun e a w ⟨S, φ, e', st, h1, h2, h3⟩ => ⟨S, φ, e', st, h1, h2, hq _ _ h3⟩

theorem awp_skip (h : Q .normal st) : AWp P B .skip Q st := fun S φ a w hr => wp_skip ⟨S, φ, .normal, st, trivial, hr, h⟩
theorem awp_label {l : Nat} (h : Q .normal st) : AWp P B (.label l) Q st := fun S φ a w hr => wp_label ⟨S, φ, .normal, st, trivial, hr, h⟩
theorem awp_exit {id : Nat} (h : Q (.exit id) st) : AWp P B (.exit id) Q st := fun S φ a w hr => wp_exit ⟨S, φ, .exit id, st, rfl, hr, h⟩
theorem awp_ret (h : Q .ret st) : AWp P B .ret Q st := fun S φ a w hr => wp_ret ⟨S, φ, .ret, st, trivial, hr, h⟩

theorem awp_seq {x y : Code} (h : AWp P B x (AThen (AWp P B y Q) Q) st) : AWp P B (.seq x y) Q st :=
  fun S φ a w hr => wp_seq (wp_mono (h S φ a w hr) fun e a w ⟨S, φ, e', st, h1, h2, h3⟩ => by
    cases e <;> cases e' <;> simp only [ERel] at h1 <;> simp only [AThen] at h3 <;> simp only [Exit.then]
    case normal.normal => exact h3 S φ a w h2
    case exit.exit => subst h1; exact ⟨S, φ, .exit _, st, rfl, h2, h3⟩
    case goto.goto => subst h1; exact ⟨S, φ, .goto _, st, rfl, h2, h3⟩
    case ret.ret => exact ⟨S, φ, .ret, st, trivial, h2, h3⟩
    case panic.panic => exact ⟨S, φ, .panic _, st, h1, h2, h3⟩)

theorem awp_block {id : Nat} {c : Code} (h : AWp P B c (AInBlock id Q) st) : AWp P B (.block id c) Q st :=
  fun S φ a w hr => wp_block (wp_mono (h S φ a w hr) fun e a w ⟨S, φ, e', st, h1, h2, h3⟩ => by
    cases e <;> cases e' <;> simp only [ERel] at h1 <;> simp only [AInBlock] at h3 <;> simp only [Exit.inBlock]
    case normal.normal => exact ⟨S, φ, .normal, st, trivial, h2, h3⟩
    case exit.exit =>
      subst h1
      split at h3 <;> rename_i hi
      · rw [if_pos (Nat.eq_of_beq_eq_true hi)]; exact ⟨S, φ, .normal, st, trivial, h2, h3⟩
      · rw [if_neg (Nat.ne_of_beq_eq_false hi)]; exact ⟨S, φ, .exit _, st, rfl, h2, h3⟩
    case goto.goto => subst h1; exact ⟨S, φ, .goto _, st, rfl, h2, h3⟩
    case ret.ret => exact ⟨S, φ, .ret, st, trivial, h2, h3⟩
    case panic.panic => exact ⟨S, φ, .panic _, st, h1, h2, h3⟩)

theorem awp_loop {c : Code} (I : ASt → Prop) (μ : ASt → Nat) (h₀ : I st)
    (round : ∀ s, I s → AWp P B c (AThen (fun s' => I s' ∧ μ s' < μ s) Q) s) : AWp P B (.loop c) Q st := by
  intro S φ a w hr b k cs
  have key : ∀ n s S φ a w, μ s = n → I s → Rel B S φ s a w →
      ∃ e a' w', Lift B Q e a' w' ∧ Arrives P (lone (b.at a (.code c :: .inLoop c :: k)) cs w) b k cs e a' w' := by
    intro n
    induction n using Nat.strongRecOn with
    | _ n ih =>
      intro s S φ a w hn hI hr
      obtain ⟨e, a₁, w₁, ⟨S₁, φ₁, e', s₁, he, hr₁, hq⟩, harr⟩ := round s hI S φ a w hr b (.inLoop c :: k) cs
      cases e <;> cases e' <;> simp only [ERel] at he <;> simp only [AThen] at hq
      case normal.normal =>
        obtain ⟨hI₁, hlt⟩ := hq
        obtain ⟨e₂, a₂, w₂, hq₂, harr₂⟩ := ih (μ s₁) (hn ▸ hlt) s₁ S₁ φ₁ a₁ w₁ rfl hI₁ hr₁
        exact ⟨e₂, a₂, w₂, hq₂, .of_steps (Steps.trans harr (.one step_inLoop)) harr₂⟩
      case exit.exit => subst he; exact ⟨.exit _, a₁, w₁, ⟨S₁, φ₁, .exit _, s₁, rfl, hr₁, hq⟩, .pass (x := .inLoop c) rfl (fun _ _ => .inl (by simp)) harr⟩
      case goto.goto => subst he; exact ⟨.goto _, a₁, w₁, ⟨S₁, φ₁, .goto _, s₁, rfl, hr₁, hq⟩, .pass (x := .inLoop c) rfl (fun _ _ => .inl (by simp)) harr⟩
      case ret.ret => exact ⟨.ret, a₁, w₁, ⟨S₁, φ₁, .ret, s₁, trivial, hr₁, hq⟩, .pass (x := .inLoop c) rfl (fun _ _ => .inl (by simp)) harr⟩
      case panic.panic => exact ⟨.panic _, a₁, w₁, ⟨S₁, φ₁, .panic _, s₁, he, hr₁, hq⟩, .pass (x := .inLoop c) rfl (fun _ _ => .inl (by simp)) harr⟩
  obtain ⟨e, a', w', hq, harr⟩ := key _ st S φ a w rfl h₀ hr
  exact ⟨e, a', w', hq, .of_steps (.one step_loop) harr⟩

/-! ### operands -/
def ofScal : Value → AV
  | .bool b => .bool b
  | .int k n => .int k n
  | .string s => .str s
  | .slice none 0 0 => .list []
  | .pointer none => .nilptr
  | .nilFunc => .nilfn
  | .nilIface => .nilIface
  | _ => .any

def ofConst : Value → AV
  | .bool b => .bool b
  | .int k n => .int k n
  | .string s => .str s
  | .slice none 0 0 => .nilsl
  | .pointer none => .nilptr
  | .nilFunc => .nilfn
  | .nilIface => .nilIface
  | .agg cs => .agg (cs.toList.map ofScal)
  | _ => .any

theorem rep_ofScal (w : World) (S : Nat → Prop) (φ : Phi) (v : Value) : Rep w S φ v (ofScal v) := by
  unfold ofScal
  split <;> constructor

theorem rep_ofConst (w : World) (S : Nat → Prop) (φ : Phi) (v : Value) : Rep w S φ v (ofConst v) := by
  unfold ofConst
  split
  case h_8 cs =>
    refine .agg (by simp) fun j x hj => ?_
    simp only [List.getElem?_map, Option.map_eq_some_iff] at hj
    obtain ⟨v, hv, rfl⟩ := hj
    have : cs.getD j Go.undef = v := by
      simp only [Array.getElem?_toList] at hv
      simp [Array.getD_eq_getD_getElem?, hv]
    rw [this]
    exact rep_ofScal w S φ v
  all_goals constructor

def evalL (ts : List AV) : Operand → AV
  | .tmp t => ts.getD t .any
  | .const v => ofConst v
  | .global _ => .any
  | .func f => .fn f [] []
abbrev ASt.eval (st : ASt) : Operand → AV := evalL st.tmps

theorem rel_eval {S : Nat → Prop} {φ : Phi} {a : Act} {w : World} (h : TRel w S φ a.tmps st.tmps) (x : Operand) : Rep w S φ (a.eval x) (st.eval x) := by
  cases x with
  | tmp t =>
    simp only [ASt.eval, evalL, Act.eval]
    rcases Nat.lt_or_ge t st.tmps.length with hl | hl
    · have e : st.tmps[t]? = some st.tmps[t] := List.getElem?_eq_getElem hl
      have := h.2 t _ e
      simpa [List.getD_eq_getElem?_getD, e] using this
    · have e : st.tmps[t]? = none := List.getElem?_eq_none hl
      simp [List.getD_eq_getElem?_getD, e]; exact .any
  | const v => exact rep_ofConst ..
  | global g => exact .any
  | func f => exact .fn rfl rfl (fun j x h => by simp at h) (fun j x h => by simp at h)

def ASt.put (st : ASt) (dst : Option Tmp) (x : AV) : ASt :=
  match dst with
  | some d => { st with tmps := st.tmps.set d x }
  | none => st

theorem trel_put {w : World} {S : Nat → Prop} {φ : Phi} {vs : Array Value} {xs : List AV} (h : TRel w S φ vs xs) (d : Nat) {v : Value} {x : AV} (hv : Rep w S φ v x) : TRel w S φ (vs.setIfInBounds d v) (xs.set d x) := by
  refine ⟨by simp [h.1], fun j y hj => ?_⟩
  rw [List.getElem?_set] at hj
  by_cases hd : d = j
  · subst hd
    simp only [if_true] at hj
    split at hj
    · cases hj
      rename_i hlt
      have : d < vs.size := by rw [h.1]; exact hlt
      simp [this]; exact hv
    · simp at hj
  · simp only [hd, if_false] at hj
    have := h.2 j y hj
    simpa [Array.getD_eq_getD_getElem?, Array.getElem?_setIfInBounds, hd] using this

theorem rel_put {S : Nat → Prop} {φ : Phi} {a : Act} {w : World} (h : Rel B S φ st a w) (d : Option Tmp) {v : Value} {x : AV} (hv : Rep w S φ v x) : Rel B S φ (st.put d x) (a.put d v) w := by
  cases d with
  | none => exact h
  | some d => exact ⟨h.heap, trel_put h.tmps d hv, h.defs, h.ext⟩

/-! ### regions -/
def AOps (P : Program) (B : Base) (ops : Array Oper) (Q : AExit → ASt → Prop) (l : List Oper) (st : ASt) : Prop := ∀ S φ a w, Rel B S φ st a w → wpList P ops (Lift B Q) l a w

theorem awp_region {id : Nat} {l : List Oper} (h : AOps P B l.toArray Q l st) : AWp P B (.region id l.toArray false) Q st :=
  fun S φ a w hr => wp_region_lit (h S φ a w hr)

theorem aops_nil {ops : Array Oper} (h : Q .normal st) : AOps P B ops Q [] st := fun S φ a w hr => wpList_nil ⟨S, φ, .normal, st, trivial, hr, h⟩

def awanted (ops : Array Oper) (st : ASt) (o : Oper) : Option Bool :=
  match o.guard with
  | none => some true
  | some (j, want) =>
    match (ops[j]?).bind (·.dst) with
    | none => some false
    | some d => match st.tmps.getD d .any with
      | .bool b => some (b == want)
      | .undef => some false
      | _ => none

theorem wanted_of {S : Nat → Prop} {φ : Phi} {a : Act} {w : World} {ops : Array Oper} {o : Oper} {b : Bool} (hr : TRel w S φ a.tmps st.tmps) (h : awanted ops st o = some b) : Region.wanted o (yielded ops a.tmps) = b := by
  unfold awanted at h
  unfold Region.wanted
  cases hg : o.guard with
  | none => simp [hg] at h; simp [h]
  | some jw =>
    obtain ⟨j, want⟩ := jw
    simp only [hg] at h ⊢
    unfold yielded
    cases hd : (ops[j]?).bind (·.dst) with
    | none => simp [hd] at h; subst h; simp
    | some d =>
      simp only [hd] at h
      have hrep := rel_eval (st := st) hr (.tmp d)
      simp only [ASt.eval, evalL, Act.eval] at hrep
      simp only [Option.bind_some]
      split at h
      · rename_i b' hb
        rw [hb] at hrep
        simp only [Option.some.injEq] at h
        have hlt : d < a.tmps.size := by
          rw [hr.1]
          rcases Nat.lt_or_ge d st.tmps.length with hl | hl
          · exact hl
          · rw [List.getD_eq_getElem?_getD, List.getElem?_eq_none hl] at hb; simp at hb
        have hv : a.tmps.getD d Go.undef = .bool b' := by generalize a.tmps.getD d Go.undef = z at hrep; cases hrep; rfl
        have hv' : a.tmps[d]? = some (.bool b') := by
          rw [Array.getElem?_eq_getElem hlt]
          simp [Array.getD, hlt] at hv
          rw [hv]
        simp [hv', ← h]
      · rename_i hb
        rw [hb] at hrep
        simp only [Option.some.injEq] at h
        subst h
        have hlt : d < a.tmps.size := by
          rw [hr.1]
          rcases Nat.lt_or_ge d st.tmps.length with hl | hl
          · exact hl
          · rw [List.getD_eq_getElem?_getD, List.getElem?_eq_none hl] at hb; simp at hb
        have hv : a.tmps.getD d Go.undef = Go.undef := by generalize a.tmps.getD d Go.undef = z at hrep; cases hrep; rfl
        have hv' : a.tmps[d]? = some Go.undef := by
          rw [Array.getElem?_eq_getElem hlt]
          simp [Array.getD, hlt] at hv
          rw [hv]
        simp [hv', Go.undef]
      · simp at h

theorem aops_step {ops : Array Oper} {o : Oper} {rest : List Oper} (hw : awanted ops st o = some true)
    (h : ∀ (K : ASt → Prop), (∀ s, AOps P B ops Q rest s → K s) → ∀ S φ a w, Rel B S φ st a w →
      o.wp P a w (fun a' w' => ∃ S' φ' s', Rel B S' φ' s' a' w' ∧ K s') (Lift B Q)) : AOps P B ops Q (o :: rest) st := by
  intro S φ a w hr
  have hwant := wanted_of hr.tmps hw
  unfold wpList
  rw [if_pos hwant]
  exact .inl (Oper.wp_mono (fun a' w' ⟨S', φ', s', h1, h2⟩ => h2 S' φ' a' w' h1) (h _ (fun s hs => hs) S φ a w hr))

theorem aops_skip {ops : Array Oper} {o : Oper} {rest : List Oper} (hw : awanted ops st o = some false) (h : AOps P B ops Q rest (st.put o.dst .undef)) : AOps P B ops Q (o :: rest) st := by
  intro S φ a w hr
  have hwant := wanted_of hr.tmps hw
  unfold wpList
  rw [if_neg (by simp [hwant])]
  exact h S φ _ w (rel_put hr o.dst .undef)

theorem awp_cond_true {c : Operand} {x y : Code} (hc : st.eval c = .bool true) (h : AWp P B x Q st) : AWp P B (.cond c x y) Q st := fun S φ a w hr => by
  have := rel_eval (st := st) hr.tmps c
  rw [hc] at this
  refine wp_cond_true ?_ (h S φ a w hr)
  generalize a.eval c = v at this
  cases this; rfl
theorem awp_cond_false {c : Operand} {x y : Code} (hc : st.eval c = .bool false) (h : AWp P B y Q st) : AWp P B (.cond c x y) Q st := fun S φ a w hr => by
  have := rel_eval (st := st) hr.tmps c
  rw [hc] at this
  refine wp_cond_false ?_ (h S φ a w hr)
  generalize a.eval c = v at this
  cases this; rfl
theorem awp_cond {c : Operand} {x y : Code} {b : Bool} (hc : st.eval c = .bool b) (ht : b = true → AWp P B x Q st) (hf : b = false → AWp P B y Q st) : AWp P B (.cond c x y) Q st := by
  cases b
  · exact awp_cond_false hc (hf rfl)
  · exact awp_cond_true hc (ht rfl)

/-! ### calls -/
inductive AOut where
  | ret (x : AV) | panic (x : AV)

def ORel (w : World) (S : Nat → Prop) (φ : Phi) : Ending → AOut → Prop
  | .returned v, .ret x => Rep w S φ v x
  | .panicked chain, .panic x => ∃ v, chain = [{ v, recovered := false }] ∧ Rep w S φ v x
  | _, _ => False

def Callable (P : Program) (f : FuncId) : Prop := ∃ fn, P.funcs[f]? = some fn ∧ (fn.name == "runtime.NumGoroutine") = false ∧ fn.body.isNone = false

/-- THE CONTRACT OF A CALL: arguments and blocks before; how it ends, and the blocks behind it. -/
def ACall (P : Program) (f : FuncId) (args : List AV) (h : AHeap) (out : AOut) (h' : AHeap) : Prop :=
  Callable P f ∧ ∀ w S φ vs, HRel w S φ h → TRel w S φ vs args → Calls P f vs w (fun e w' => ∃ S' φ', HRel w' S' φ' h' ∧ Ext w S φ w' S' φ' ∧ ORel w' S' φ' e out)

theorem run_call {P : Program} {f : FuncId} (hc : Callable P f) (args : Array Value) (w : World) : (callFunc f args).run P w = .ok (.enter f args) w := by
  obtain ⟨fn, h1, h2, h3⟩ := hc
  unfold callFunc
  simp only [program, Sem.run_bind, Sem.run, Result.andThen_ok, h1, h2, h3, Bool.false_eq_true, if_false]
  rfl

theorem trel_append {w : World} {S : Nat → Prop} {φ : Phi} {a b : Array Value} {xs ys : List AV} (h : TRel w S φ a xs) (h' : TRel w S φ b ys) : TRel w S φ (a ++ b) (xs ++ ys) := by
  refine ⟨by simp [h.1, h'.1], fun j x hj => ?_⟩
  have hs := h.1
  rcases Nat.lt_or_ge j xs.length with hl | hl
  · rw [List.getElem?_append_left hl] at hj
    have := h.2 j x hj
    have e : (a ++ b)[j]? = a[j]? := Array.getElem?_append_left (by omega)
    simpa [Array.getD_eq_getD_getElem?, e] using this
  · rw [List.getElem?_append_right hl] at hj
    have := h'.2 (j - xs.length) x hj
    have e : (a ++ b)[j]? = b[j - xs.length]? := by rw [Array.getElem?_append_right (by omega), hs]
    simpa [Array.getD_eq_getD_getElem?, e] using this

theorem trel_map {S : Nat → Prop} {φ : Phi} {a : Act} {w : World} (h : TRel w S φ a.tmps st.tmps) (xs : Array Operand) : TRel w S φ (xs.map a.eval) (xs.toList.map st.eval) := by
  refine ⟨by simp, fun j x hj => ?_⟩
  simp only [List.getElem?_map, Array.getElem?_toList, Option.map_eq_some_iff] at hj
  obtain ⟨o, ho, rfl⟩ := hj
  have := rel_eval (st := st) h o
  simpa [Array.getD_eq_getD_getElem?, ho] using this

theorem rep_fn_inv {w : World} {S : Nat → Prop} {φ : Phi} {v : Value} {f : FuncId} {fs cs : List AV} (h : Rep w S φ v (.fn f fs cs)) : ∃ first cap, v = .func (.func f) first cap ∧ TRel w S φ first fs ∧ TRel w S φ cap cs := by
  cases h with
  | fn h1 h2 h3 h4 => exact ⟨_, _, rfl, ⟨h1, h3⟩, ⟨h2, h4⟩⟩

theorem aops_call {ops : Array Oper} {o : Oper} {rest : List Oper} {fx : Operand} {xs : Array Operand} {ts : Array TypeId} {f : FuncId} {fs cs args : List AV} {h' : AHeap} {r : AV}
    (hw : awanted ops st o = some true) (ho : o.op = .call ⟨.value fx, xs, ts⟩) (hf : st.eval fx = .fn f fs cs) (ha : fs ++ xs.toList.map st.eval ++ cs = args)
    (hc : ACall P f args st.heap (.ret r) h') (h : AOps P B ops Q rest (({ st with heap := h' } : ASt).put o.dst r)) : AOps P B ops Q (o :: rest) st :=
  aops_step hw fun K hK S φ a w hr => by
    have hfx := rel_eval (st := st) hr.tmps fx
    rw [hf] at hfx
    obtain ⟨first, cap, hv, t1, t2⟩ := rep_fn_inv hfx
    have hargs : TRel w S φ (first ++ xs.map a.eval ++ cap) args := by rw [← ha]; exact trel_append (trel_append t1 (trel_map hr.tmps xs)) t2
    unfold Oper.wp execOp
    simp only [ho, resolve, hv, Deferred.ofValue, Sem.run_bind, Sem.run_pure, Result.andThen_ok, invoke, run_call hc.1]
    refine (hc.2 w S φ _ hr.heap hargs).mono fun e w' ⟨S', φ', h1, h2, h3⟩ => ?_
    cases e with
    | returned v => exact ⟨S', φ', _, rel_put (st := { st with heap := h' }) ⟨h1, hr.tmps.step h2.step, hr.defs.step h2.step, hr.ext.trans h2⟩ o.dst h3, hK _ h⟩
    | panicked chain => exact h3.elim
    | outgrown => exact h3.elim

theorem aops_call_panic {ops : Array Oper} {o : Oper} {rest : List Oper} {fx : Operand} {xs : Array Operand} {ts : Array TypeId} {f : FuncId} {fs cs args : List AV} {h' : AHeap} {r : AV}
    (hw : awanted ops st o = some true) (ho : o.op = .call ⟨.value fx, xs, ts⟩) (hf : st.eval fx = .fn f fs cs) (ha : fs ++ xs.toList.map st.eval ++ cs = args)
    (hc : ACall P f args st.heap (.panic r) h') (h : Q (.panic r) { st with heap := h' }) : AOps P B ops Q (o :: rest) st :=
  aops_step hw fun K hK S φ a w hr => by
    have hfx := rel_eval (st := st) hr.tmps fx
    rw [hf] at hfx
    obtain ⟨first, cap, hv, t1, t2⟩ := rep_fn_inv hfx
    have hargs : TRel w S φ (first ++ xs.map a.eval ++ cap) args := by rw [← ha]; exact trel_append (trel_append t1 (trel_map hr.tmps xs)) t2
    unfold Oper.wp execOp
    simp only [ho, resolve, hv, Deferred.ofValue, Sem.run_bind, Sem.run_pure, Result.andThen_ok, invoke, run_call hc.1]
    refine (hc.2 w S φ _ hr.heap hargs).mono fun e w' ⟨S', φ', h1, h2, h3⟩ => ?_
    cases e with
    | returned v => exact h3.elim
    | panicked chain => exact ⟨S', φ', .panic r, { st with heap := h' }, h3, ⟨h1, hr.tmps.step h2.step, hr.defs.step h2.step, hr.ext.trans h2⟩, h⟩
    | outgrown => exact h3.elim
end rules

/-! ### values told in another way -/
def Weak (x r : AV) : Prop := ∀ w S φ v, Rep w S φ v x → Rep w S φ v r
theorem Weak.refl (x : AV) : Weak x x := fun _ _ _ _ h => h
theorem Weak.any (x : AV) : Weak x .any := fun _ _ _ _ _ => .any
theorem Weak.nil : Weak .nilsl (.list []) := fun w S φ v h => by cases h; exact .nil
inductive WeakL : List AV → List AV → Prop
  | nil : WeakL [] []
  | cons {x r : AV} {xs rs : List AV} (h : Weak x r) (hs : WeakL xs rs) : WeakL (x :: xs) (r :: rs)
theorem WeakL.refl : ∀ (xs : List AV), WeakL xs xs
  | [] => .nil
  | x :: xs => .cons (Weak.refl x) (WeakL.refl xs)
theorem WeakL.length {xs rs : List AV} (h : WeakL xs rs) : xs.length = rs.length := by induction h <;> simp_all
theorem WeakL.get {xs rs : List AV} (h : WeakL xs rs) : ∀ (j : Nat) (r : AV), rs[j]? = some r → ∃ x, xs[j]? = some x ∧ Weak x r := by
  induction h with
  | nil => intro j r h; simp at h
  | cons h hs ih =>
    intro j r hj
    cases j with
    | zero => simp at hj; subst hj; exact ⟨_, rfl, h⟩
    | succ j => simp at hj; simpa using ih j r hj
theorem Weak.agg {xs rs : List AV} (h : WeakL xs rs) : Weak (.agg xs) (.agg rs) := fun w S φ v hv => by
  cases hv with
  | agg hl hr => exact .agg (hl.trans h.length) fun j r hj => let ⟨x, hx, hw⟩ := h.get j r hj; hw _ _ _ _ (hr j x hx)
theorem Weak.tuple {xs rs : List AV} (h : WeakL xs rs) : Weak (.tuple xs) (.tuple rs) := fun w S φ v hv => by
  cases hv with
  | tuple hl hr => exact .tuple (hl.trans h.length) fun j r hj => let ⟨x, hx, hw⟩ := h.get j r hj; hw _ _ _ _ (hr j x hx)
theorem TRel.weak {w : World} {S : Nat → Prop} {φ : Phi} {vs : Array Value} {xs rs : List AV} (h : TRel w S φ vs xs) (hw : WeakL xs rs) : TRel w S φ vs rs :=
  ⟨h.1.trans hw.length, fun j r hj => let ⟨x, hx, hw⟩ := hw.get j r hj; hw _ _ _ _ (h.2 j x hx)⟩
theorem ACall.weak {P : Program} {f : FuncId} {args args' : List AV} {h : AHeap} {out : AOut} {h' : AHeap} (hc : ACall P f args' h out h') (hw : WeakL args args') : ACall P f args h out h' :=
  ⟨hc.1, fun w S φ vs h1 h2 => hc.2 w S φ vs h1 (h2.weak hw)⟩
theorem awp_weak {P : Program} {B : Base} {Q : AExit → ASt → Prop} {c : Code} {ts rs : List AV} {h : AHeap} {ds : List (FuncId × List AV)} (hw : WeakL ts rs) (hc : AWp P B c Q ⟨rs, h, ds⟩) : AWp P B c Q ⟨ts, h, ds⟩ :=
  fun S φ a w hr => hc S φ a w ⟨hr.heap, hr.tmps.weak hw, hr.defs, hr.ext⟩

/-! ### the body of a function -/
def AHeap.ok (h : AHeap) : Prop := ∀ (k : Nat) (B : Blk), h[k]? = some (some B) → AV.underL h.length B.cells = true
def cutPhi (n : Nat) (φ : Phi) : Phi := fun k => if k < n then φ k else none

theorem hrel_trunc {w : World} {S : Nat → Prop} {φ : Phi} {h l : AHeap} (hr : HRel w S φ (h ++ l)) (hok : h.ok) : HRel w S (cutPhi h.length φ) h := by
  refine ⟨fun k => ?_, fun k hk => ?_, fun k Bk hk => ?_, fun k k' g L L' h1 h2 g1 g2 => ?_, hr.bound⟩
  · intro hk
    simp only [cutPhi, Nat.not_lt.2 hk, if_false]
  · have hlt : k < h.length := (List.getElem?_eq_some_iff.1 hk).1
    simp only [cutPhi, hlt, if_true]
    exact hr.dead k (by rw [List.getElem?_append_left hlt]; exact hk)
  · have hlt : k < h.length := (List.getElem?_eq_some_iff.1 hk).1
    obtain ⟨h1, g, h2, h3⟩ := hr.live k Bk (by rw [List.getElem?_append_left hlt]; exact hk)
    refine ⟨h1, g, by simp only [cutPhi, hlt, if_true]; exact h2, ?_⟩
    cases g with
    | none => exact h3
    | some g =>
      obtain ⟨h4, cs, ty, h5, h6, h7, h8⟩ := h3
      exact ⟨h4, cs, ty, h5, h6, h7, fun j x hj => (h8 j x hj).restrict (AV.underL_get (hok k Bk hk) j x hj) (fun k hk => by simp [cutPhi, hk])⟩
  · unfold cutPhi at h1 h2
    split at h1 <;> split at h2 <;> first | (exact hr.inj k k' g L L' h1 h2 g1 g2) | simp_all

theorem ext_trunc {w0 w : World} {S0 S : Nat → Prop} {φ0 φ : Phi} {n : Nat} (h : Ext w0 S0 φ0 w S φ) (h0 : ∀ k, n ≤ k → φ0 k = none) : Ext w0 S0 φ0 w S (cutPhi n φ) := by
  refine ⟨⟨h.step.s, h.step.keep, fun k => ?_, fun k g m sz e hk he cs ty hw => ?_⟩, h.os, h.tape, h.output, h.size, h.rest, h.snew, fun k g L hk hg => ?_⟩
  · by_cases hlt : k < n
    · simp only [cutPhi, hlt, if_true]; exact h.step.phi k
    · exact .inl (h0 k (by omega))
  · by_cases hlt : k < n
    · simp only [cutPhi, hlt, if_true] at he; exact h.step.shape k g m sz e hk he cs ty hw
    · rw [h0 k (by omega)] at hk; cases hk
  · unfold cutPhi at hk
    split at hk
    · exact h.loc k g L hk hg
    · cases hk

def aresultL (st : ASt) : List ResultVar → Option (List AV)
  | [] => some []
  | .tmp t :: r => (aresultL st r).map (st.tmps.getD t .any :: ·)
  | _ :: _ => none
/-- What the results of a function are: variables. -/
def aresult (fn : Func) (st : ASt) : Option AV :=
  match fn.results.toList with
  | [.tmp t] => some (st.tmps.getD t .any)
  | l => (aresultL st l).map .tuple

theorem mapM_tmps {P : Program} {w : World} {tmps : Array Value} : ∀ (l : List ResultVar) (ts : List Tmp), l = ts.map ResultVar.tmp →
    (l.mapM (m := Sem) (fun (r : ResultVar) => match r with
      | .tmp t => pure (tmps.getD t Go.undef)
      | .cell a t => do loadVar t (← asAddr (tmps.getD a Go.undef)))).run P w = .ok (ts.map fun t => tmps.getD t Go.undef) w
  | [], [], _ => by simp
  | [], _ :: _, h => by simp at h
  | _ :: _, [], h => by simp at h
  | r :: l, t :: ts, h => by
    simp only [List.map_cons, List.cons.injEq] at h
    obtain ⟨rfl, h⟩ := h
    have ih := mapM_tmps (P := P) (w := w) (tmps := tmps) l ts h
    simp only [List.mapM_cons, Sem.run_bind, Sem.run_pure, Result.andThen_ok, ih, List.map_cons]

theorem aresult_run {P : Program} {fn : Func} {st : ASt} {x : AV} {w : World} {S : Nat → Prop} {φ : Phi} {a : Act} (h : aresult fn st = some x) (hr : TRel w S φ a.tmps st.tmps) :
    ∃ v, (results fn a.tmps).run P w = .ok v w ∧ Rep w S φ v x := by
  have key : ∀ (l : List ResultVar) (xs : List AV), aresultL st l = some xs → ∃ ts : List Tmp, l = ts.map ResultVar.tmp ∧ xs = ts.map fun t => st.tmps.getD t .any := by
    intro l
    induction l with
    | nil => intro xs h; simp [aresultL] at h; exact ⟨[], by simp, by simp [h]⟩
    | cons r l ih =>
      intro xs h
      cases r with
      | cell a t => simp [aresultL] at h
      | tmp t =>
        simp only [aresultL, Option.map_eq_some_iff] at h
        obtain ⟨ys, h1, h2⟩ := h
        obtain ⟨ts, rfl, rfl⟩ := ih ys h1
        exact ⟨t :: ts, by simp, by simpa using h2.symm⟩
  have arr : ∀ (l : List ResultVar), fn.results.toList = l → fn.results = l.toArray := fun l h => by rw [← h]
  have one : ∀ t, fn.results.toList = [.tmp t] → ∃ v, (results fn a.tmps).run P w = .ok v w ∧ Rep w S φ v (st.tmps.getD t .any) := fun t ht => by
    refine ⟨a.tmps.getD t Go.undef, ?_, rel_eval (st := st) hr (.tmp t)⟩
    have := arr _ ht
    simp [results, this]
  unfold aresult at h
  split at h
  · rename_i t ht
    cases h
    exact one t ht
  · rename_i hne
    simp only [Option.map_eq_some_iff] at h
    obtain ⟨xs, h1, rfl⟩ := h
    obtain ⟨ts, h2, rfl⟩ := key _ _ h1
    have hlen : ts.length ≠ 1 := by
      intro h1
      match ts, h1, h2 with
      | [t], _, h2 => exact hne t h2
    refine ⟨.tuple (ts.map fun t => a.tmps.getD t Go.undef).toArray, ?_, .tuple (by simp) fun j x hj => ?_⟩
    · have hm := mapM_tmps (P := P) (w := w) (tmps := a.tmps) (ts.map ResultVar.tmp) ts rfl
      have e := arr _ h2
      simp only [results, e, List.mapM_toArray, Sem.run_bind, Sem.run_map]
      erw [hm]
      simp only [Result.andThen_ok]
      rw [dif_neg (by simpa using hlen)]
      simp
    · simp only [List.getElem?_map, Option.map_eq_some_iff] at hj
      obtain ⟨t, ht, rfl⟩ := hj
      have := rel_eval (st := st) hr (.tmp t)
      simpa [Array.getD_eq_getD_getElem?, ht, Act.eval, ASt.eval, evalL] using this

/-- What a function's results are. -/
def ARes (P : Program) (fn : Func) (st : ASt) (x : AV) : Prop := ∀ w S φ (a : Act), HRel w S φ st.heap → TRel w S φ a.tmps st.tmps → ∃ v, (results fn a.tmps).run P w = .ok v w ∧ Rep w S φ v x
theorem ares_tmps {P : Program} {fn : Func} {st : ASt} {x : AV} (h : aresult fn st = some x) : ARes P fn st x := fun w S φ a _ hr => aresult_run h hr

def QFun (P : Program) (fn : Func) (out : AOut) (h' : AHeap) : AExit → ASt → Prop
  | .normal, st | .ret, st => st.defs = [] ∧ ∃ x r l, ARes P fn st x ∧ Weak x r ∧ out = .ret r ∧ st.heap = h' ++ l ∧ AV.under h'.length r = true
  | .panic x, st => st.defs = [] ∧ ∃ r l, Weak x r ∧ out = .panic r ∧ st.heap = h' ++ l ∧ AV.under h'.length r = true
  | _, _ => False

theorem acall_intro {P : Program} {f : FuncId} {fn : Func} {c : Code} {args : List AV} {h h' : AHeap} {out : AOut} (hf : P.funcs[f]? = some fn) (hb : fn.body = some c) (hn : (fn.name == "runtime.NumGoroutine") = false)
    (hok : h'.ok) (hlen : h.length ≤ h'.length) (H : ∀ B : Base, B.n = h.length → AWp P B c (QFun P fn out h') ⟨args ++ List.replicate (fn.ntmps - args.length) .undef, h, []⟩) : ACall P f args h out h' := by
  refine ⟨⟨fn, hf, hn, by simp [hb]⟩, fun w S φ vs h1 h2 => ?_⟩
  refine calls_of_wp hf hb ?_
  have hrel : Rel ⟨w, S, φ, h.length, h1.dom⟩ S φ ⟨args ++ List.replicate (fn.ntmps - args.length) .undef, h, []⟩ { tmps := vs ++ Array.replicate (fn.ntmps - vs.size) Go.undef, defers := [] } w :=
    ⟨h1, trel_append h2 ⟨by simp [h2.1], fun j x hj => by
      rw [List.getElem?_replicate] at hj
      split at hj
      · cases hj
        rename_i hlt
        rw [h2.1]
        simp [hlt]
        exact .undef
      · cases hj⟩, trivial, .refl _ _ _⟩
  refine wp_mono (H ⟨w, S, φ, h.length, h1.dom⟩ rfl S φ _ w hrel) fun e a w' ⟨S', φ', e', st, h3, h4, h5⟩ => ?_
  have h0 : ∀ k, h'.length ≤ k → φ k = none := fun k hk => h1.dom k (by omega)
  have hdefs : st.defs = [] → a.defers = [] := fun hd => by
    have := h4.defs
    rw [hd] at this
    cases hda : a.defers with
    | nil => rfl
    | cons d ds => rw [hda] at this; exact this.elim
  have fin : ∀ r l v, st.heap = h' ++ l → AV.under h'.length r = true → Rep w' S' φ' v r → HRel w' S' (cutPhi h'.length φ') h' ∧ Ext w S φ w' S' (cutPhi h'.length φ') ∧ Rep w' S' (cutPhi h'.length φ') v r := fun r l v e1 e2 e3 => by
    have hh := h4.heap
    rw [e1] at hh
    exact ⟨hrel_trunc hh hok, ext_trunc h4.ext h0, e3.restrict e2 (fun k hk => by simp [cutPhi, hk])⟩
  cases e <;> cases e' <;> simp only [ERel] at h3 <;> simp only [QFun] at h5
  case normal.normal =>
    obtain ⟨hd, x, r, l, g1, g2, rfl, g3, g4⟩ := h5
    obtain ⟨v, k1, k2⟩ := g1 _ _ _ _ h4.heap h4.tmps
    exact ⟨hdefs hd, v, k1, S', _, let ⟨a, b, c⟩ := fin r l v g3 g4 (g2 _ _ _ _ k2); ⟨a, b, c⟩⟩
  case ret.ret =>
    obtain ⟨hd, x, r, l, g1, g2, rfl, g3, g4⟩ := h5
    obtain ⟨v, k1, k2⟩ := g1 _ _ _ _ h4.heap h4.tmps
    exact ⟨hdefs hd, v, k1, S', _, let ⟨a, b, c⟩ := fin r l v g3 g4 (g2 _ _ _ _ k2); ⟨a, b, c⟩⟩
  case panic.panic =>
    obtain ⟨v, rfl, hv⟩ := h3
    obtain ⟨hd, r, l, g2, rfl, g3, g4⟩ := h5
    exact ⟨hdefs hd, S', _, let ⟨a, b, c⟩ := fin r l v g3 g4 (g2 _ _ _ _ hv); ⟨a, b, ⟨v, rfl, c⟩⟩⟩

end Go.Proofs.Ytpckfpahmnhfcaa.G
