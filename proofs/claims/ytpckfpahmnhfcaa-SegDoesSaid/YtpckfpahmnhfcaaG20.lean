/- The ghost machine: plain functions that may fail (Option), read step by step beside a walk; calls that are walked in place; states cut to what is still looked at. -/
import Derived.Test.YtpckfpahmnhfcaaG19
namespace Go.Proofs.Ytpckfpahmnhfcaa.G
open Go Go.RowKit
set_option linter.unusedVariables false

/-! ### plain functions that may fail -/
def post {α : Type} (x : Option α) (K : α → Prop) : Prop := ∃ a, x = some a ∧ K a
section
variable {α β : Type} {K : β → Prop}
theorem pt {b : Bool} (hb : b = true) {A B : Option β} (h : post (bif b then A else B) K) : post A K := by subst hb; exact h
theorem pf {b : Bool} (hb : b = false) {A B : Option β} (h : post (bif b then A else B) K) : post B K := by subst hb; exact h
theorem pb {A : Option α} {f : α → Option β} (h : post (A.bind f) K) : post A (fun a => post (f a) K) := by
  obtain ⟨r, h1, h2⟩ := h
  cases A with
  | none => cases h1
  | some a => exact ⟨a, rfl, r, h1, h2⟩
theorem pe {a : β} (h : post (some a) K) : K a := by
  obtain ⟨b, h1, h2⟩ := h
  cases h1; exact h2
theorem pno {Q : Prop} (h : post (none : Option β) K) : Q := by
  obtain ⟨b, h1, h2⟩ := h
  cases h1
end
/-- An element of a list; nothing, if there is none. -/
def idx {α : Type} (l : List α) (i : Int) : Option α := if 0 ≤ i then l[i.toNat]? else none
theorem idx_h0 {α : Type} {l : List α} {i : Int} {x : α} (h : idx l i = some x) : 0 ≤ i := by
  unfold idx at h; split at h
  · assumption
  · cases h
theorem idx_el {α : Type} {l : List α} {i : Int} {x : α} {f : α → List AV} (h : idx l i = some x) : (l.map f)[i.toNat]? = some (f x) := by
  unfold idx at h; split at h
  · simp [h]
  · cases h
/-- Rounds that no machine outlives. -/
def fuel0 : Nat := 18446744073709551616

/-! ### calls that are walked in place -/
def ACallK (P : Program) (f : FuncId) (args : List AV) (h : AHeap) (K : AOut → AHeap → Prop) : Prop :=
  Callable P f ∧ ∀ w S φ vs, HRel w S φ h → TRel w S φ vs args → Calls P f vs w (fun e w' => ∃ S' φ' out h', HRel w' S' φ' h' ∧ Ext w S φ w' S' φ' ∧ ORel w' S' φ' e out ∧ K out h')

theorem ACall.toK {P : Program} {f : FuncId} {args : List AV} {h h' : AHeap} {out : AOut} (hc : ACall P f args h out h') : ACallK P f args h (fun o k => o = out ∧ k = h') :=
  ⟨hc.1, fun w S φ vs h1 h2 => (hc.2 w S φ vs h1 h2).mono fun e w' ⟨S', φ', a, b, c⟩ => ⟨S', φ', out, h', a, b, c, rfl, rfl⟩⟩

def QFunK (P : Program) (fn : Func) (K : AOut → AHeap → Prop) : AExit → ASt → Prop
  | .normal, st | .ret, st => st.defs = [] ∧ ∃ x r, ARes P fn st x ∧ Weak x r ∧ K (.ret r) st.heap
  | .panic x, st => st.defs = [] ∧ K (.panic x) st.heap
  | _, _ => False

theorem acallK_intro {P : Program} {f : FuncId} {fn : Func} {c : Code} {args : List AV} {h : AHeap} {K : AOut → AHeap → Prop} (hf : P.funcs[f]? = some fn) (hb : fn.body = some c) (hn : (fn.name == "runtime.NumGoroutine") = false)
    (H : ∀ B : Base, B.n = h.length → AWp P B c (QFunK P fn K) ⟨args ++ List.replicate (fn.ntmps - args.length) .undef, h, []⟩) : ACallK P f args h K := by
  refine ⟨⟨fn, hf, hn, by simp [hb]⟩, fun w S φ vs h1 h2 => ?_⟩
  refine calls_of_wp hf hb ?_
  have hrel : Rel ⟨w, S, φ, h.length, h1.dom⟩ S φ ⟨args ++ List.replicate (fn.ntmps - args.length) .undef, h, []⟩ { tmps := vs ++ Array.replicate (fn.ntmps - vs.size) Go.undef, defers := [] } w :=
    ⟨h1, trel_append h2 ⟨by simp [h2.1], fun j x hj => by
      rw [List.getElem?_replicate] at hj
      split at hj
      · cases hj
        rename_i hlt
        rw [h2.1]
        simp [hlt]
        exact .undef
      · cases hj⟩, trivial, .refl _ _ _⟩
  refine wp_mono (H ⟨w, S, φ, h.length, h1.dom⟩ rfl S φ _ w hrel) fun e a w' ⟨S', φ', e', st, h3, h4, h5⟩ => ?_
  have hdefs : st.defs = [] → a.defers = [] := fun hd => by
    have := h4.defs
    rw [hd] at this
    cases hda : a.defers with
    | nil => rfl
    | cons d ds => rw [hda] at this; exact this.elim
  cases e <;> cases e' <;> simp only [ERel] at h3 <;> simp only [QFunK] at h5
  case normal.normal =>
    obtain ⟨hd, x, r, g1, g2, g3⟩ := h5
    obtain ⟨v, k1, k2⟩ := g1 _ _ _ _ h4.heap h4.tmps
    exact ⟨hdefs hd, v, k1, S', φ', .ret r, st.heap, h4.heap, h4.ext, g2 _ _ _ _ k2, g3⟩
  case ret.ret =>
    obtain ⟨hd, x, r, g1, g2, g3⟩ := h5
    obtain ⟨v, k1, k2⟩ := g1 _ _ _ _ h4.heap h4.tmps
    exact ⟨hdefs hd, v, k1, S', φ', .ret r, st.heap, h4.heap, h4.ext, g2 _ _ _ _ k2, g3⟩
  case panic.panic =>
    obtain ⟨v, rfl, hv⟩ := h3
    obtain ⟨hd, g3⟩ := h5
    exact ⟨hdefs hd, S', φ', .panic _, st.heap, h4.heap, h4.ext, ⟨v, rfl, hv⟩, g3⟩

theorem d_introK {P : Program} {f : FuncId} {fn : Func} {c : Code} {args ts : List AV} {h : AHeap} {K : AOut → AHeap → Prop} (hf : P.funcs[f]? = some fn) (hb : fn.body = some c) (hn : (fn.name == "runtime.NumGoroutine") = false) (hts : args ++ List.replicate (fn.ntmps - args.length) .undef = ts)
    (H : ∀ B : Base, B.n = h.length → AWp P B c (QFunK P fn K) ⟨ts, h, []⟩) : ACallK P f args h K := acallK_intro hf hb hn (by subst hts; exact H)

section rules
variable {P : Program} {T : TT} {B : Base} {Q : AExit → ASt → Prop} {ops : Array Oper} {o : Oper} {rest : List Oper} {ts ts' : List AV} {hp : AHeap} {ds : List (FuncId × List AV)}

theorem qfunK_ret {fn : Func} {K : AOut → AHeap → Prop} {x r : AV} {st : ASt} (hd : st.defs = []) (hx : aresult fn st = some x) (hw : Weak x r) (hk : K (.ret r) st.heap) : QFunK P fn K .ret st := ⟨hd, x, r, ares_tmps hx, hw, hk⟩
theorem qfunK_ret_of {fn : Func} {K : AOut → AHeap → Prop} {x r : AV} {st : ASt} (hd : st.defs = []) (hx : ARes P fn st x) (hw : Weak x r) (hk : K (.ret r) st.heap) : QFunK P fn K .ret st := ⟨hd, x, r, hx, hw, hk⟩

/-- What goes on behind a call that is walked in place. -/
def AfterK (P : Program) (B : Base) (ops : Array Oper) (Q : AExit → ASt → Prop) (o : Oper) (rest : List Oper) (ts : List AV) (ds : List (FuncId × List AV)) : AOut → AHeap → Prop
  | .ret r, h' => AOps P B ops Q rest ⟨putL ts o.dst r, h', ds⟩
  | .panic r, h' => Q (.panic r) ⟨ts, h', ds⟩

theorem d_callK {fx : Operand} {xs : Array Operand} {tys : Array TypeId} {f : FuncId} {fs cs args : List AV}
    (hw : awantedL ops ts o = some true) (ho : o.op = .call ⟨.value fx, xs, tys⟩) (hf : evalL ts fx = .fn f fs cs) (ha : fs ++ xs.toList.map (evalL ts) ++ cs = args)
    (hc : ACallK P f args hp (AfterK P B ops Q o rest ts ds)) : AOps P B ops Q (o :: rest) ⟨ts, hp, ds⟩ :=
  aops_step (st := ⟨ts, hp, ds⟩) hw fun K hK S φ a w hr => by
    have hfx := rel_eval (st := ⟨ts, hp, ds⟩) hr.tmps fx
    simp only [ASt.eval] at hfx
    rw [hf] at hfx
    obtain ⟨first, cap, hv, t1, t2⟩ := rep_fn_inv hfx
    have hargs : TRel w S φ (first ++ xs.map a.eval ++ cap) args := by rw [← ha]; exact trel_append (trel_append t1 (trel_map (st := ⟨ts, hp, ds⟩) hr.tmps xs)) t2
    unfold Oper.wp execOp
    simp only [ho, resolve, hv, Deferred.ofValue, Sem.run_bind, Sem.run_pure, Result.andThen_ok, invoke, run_call hc.1]
    refine (hc.2 w S φ _ hr.heap hargs).mono fun e w' ⟨S', φ', out, h', h1, h2, h3, h4⟩ => ?_
    cases e with
    | returned v =>
      cases out with
      | panic r => exact h3.elim
      | ret r =>
        refine ⟨S', φ', _, rel_put (st := ⟨ts, h', ds⟩) ⟨h1, hr.tmps.step h2.step, hr.defs.step h2.step, hr.ext.trans h2⟩ o.dst h3, hK _ ?_⟩
        simp only [AfterK] at h4
        cases hd : o.dst <;> (simp only [putL, hd] at h4; simp only [ASt.put]; exact h4)
    | panicked chain =>
      cases out with
      | ret r => exact h3.elim
      | panic r => exact ⟨S', φ', .panic r, ⟨ts, h', ds⟩, h3, ⟨h1, hr.tmps.step h2.step, hr.defs.step h2.step, hr.ext.trans h2⟩, h4⟩
    | outgrown => exact h3.elim
end rules

/-! ### states cut to what is still looked at -/
/-- Variables that nothing looks at any more are forgotten. -/
def forget : List Bool → List AV → List AV
  | m :: ms, x :: xs => (match m with | true => x | false => .any) :: forget ms xs
  | _, xs => xs
theorem weakL_forget : ∀ (ms : List Bool) (xs : List AV), WeakL xs (forget ms xs)
  | [], xs => by unfold forget; exact WeakL.refl xs
  | _ :: _, [] => by unfold forget; exact .nil
  | true :: ms, x :: xs => .cons (Weak.refl x) (weakL_forget ms xs)
  | false :: ms, x :: xs => .cons (Weak.any x) (weakL_forget ms xs)
theorem sweak_forget (ms : List Bool) {ts ts' : List AV} {h : AHeap} {ds : List (FuncId × List AV)} (he : forget ms ts = ts') : SWeak ⟨ts, h, ds⟩ ⟨ts', h, ds⟩ := by
  subst he; exact sweak_tmps (weakL_forget ms ts)
/-- A state of which less is told. -/
theorem c_cut {P : Program} {B : Base} {Q : AExit → ASt → Prop} {c : Code} {ts ts' : List AV} {h : AHeap} {ds : List (FuncId × List AV)} (ms : List Bool) (hh : AWp P B c Q ⟨ts', h, ds⟩) (he : forget ms ts = ts') : AWp P B c Q ⟨ts, h, ds⟩ :=
  fun S φ a w hr => hh S φ a w (by subst he; exact ⟨hr.heap, hr.tmps.weak (weakL_forget ms ts), hr.defs, hr.ext⟩)
/-- The same, the last blocks of the heap forgotten with it. -/
theorem sweak_drop {ts : List AV} {h : AHeap} (n : Nat) (hok : AHeap.ok (h.take n)) (hu : AV.underL (h.take n).length ts = true) : SWeak ⟨ts, h, []⟩ ⟨ts, h.take n, []⟩ := by
  have := sweak_trunc (ts := ts) (h := h.take n) (l := h.drop n) hok hu
  rwa [List.take_append_drop] at this
end Go.Proofs.Ytpckfpahmnhfcaa.G
