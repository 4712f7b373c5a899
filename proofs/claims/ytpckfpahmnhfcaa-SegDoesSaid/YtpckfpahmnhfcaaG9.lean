/- The ghost machine: the rules in the form in which walks are printed: values that are told apart on the way, loops by a family of states. -/
import Derived.Test.YtpckfpahmnhfcaaG7
namespace Go.Proofs.Ytpckfpahmnhfcaa.G
open Go Go.RowKit
set_option linter.unusedVariables false

theorem weak_eq {x r : AV} (h : x = r) : Weak x r := h ▸ Weak.refl x

section rules
variable {P : Program} {T : TT} {B : Base} {Q : AExit → ASt → Prop} {st : ASt} {ops : Array Oper} {o : Oper} {rest : List Oper}

/-- A yes or no, told apart. -/
theorem aops_split {b : Bool} (hw : awanted ops st o = some true) (hh : AHead P o st.eval st.heap (.bool b) none) (ht : b = true → AOps P B ops Q rest (st.put o.dst (.bool true))) (hf : b = false → AOps P B ops Q rest (st.put o.dst (.bool false))) : AOps P B ops Q (o :: rest) st := by
  cases b
  · exact aops_head hw hh (hf rfl)
  · exact aops_head hw hh (ht rfl)

/-- The head of a region that draws its order, walked; what is to hold behind it comes last. -/
inductive HeadsK (P : Program) (ops : Array Oper) (hp : AHeap) : (List HRes → List AV → Prop) → List Oper → List AV → Nat → Prop
  | nil {K ts s} (h : K [] ts) : HeadsK P ops hp K [] ts s
  | quiet {K o os ts s x} (hw : awantedL ops ts o = some true) (hh : AHead P o (evalL ts) hp x none) (hr : HeadsK P ops hp (fun R te => K ((x, none) :: R) te) os (putL ts o.dst x) s) : HeadsK P ops hp K (o :: os) ts s
  | new {K o os ts s x Bn} (hw : awantedL ops ts o = some true) (hh : AHead P o (evalL ts) hp x (some (s, Bn))) (hr : HeadsK P ops hp (fun R te => K ((x, some Bn) :: R) te) os (putL ts o.dst x) (s + 1)) : HeadsK P ops hp K (o :: os) ts s
  | skip {K o os ts s} (hw : awantedL ops ts o = some false) (hr : HeadsK P ops hp (fun R te => K ((.undef, none) :: R) te) os (putL ts o.dst .undef) s) : HeadsK P ops hp K (o :: os) ts s

theorem HeadsK.split {hp : AHeap} {K : List HRes → List AV → Prop} {os : List Oper} {ts : List AV} {s : Nat} {b : Bool} (hw : awantedL ops ts o = some true) (hh : AHead P o (evalL ts) hp (.bool b) none)
    (ht : b = true → HeadsK P ops hp (fun R te => K ((.bool true, none) :: R) te) os (putL ts o.dst (.bool true)) s) (hf : b = false → HeadsK P ops hp (fun R te => K ((.bool false, none) :: R) te) os (putL ts o.dst (.bool false)) s) : HeadsK P ops hp K (o :: os) ts s := by
  cases b
  · exact .quiet hw hh (hf rfl)
  · exact .quiet hw hh (ht rfl)

theorem HeadsK.out {hp : AHeap} {K : List HRes → List AV → Prop} {os : List Oper} {ts : List AV} {s : Nat} (h : HeadsK P ops hp K os ts s) : ∃ R te, Heads P ops hp os ts s R te ∧ K R te := by
  induction h with
  | nil h => exact ⟨[], _, .nil, h⟩
  | quiet hw hh hr ih => obtain ⟨R, te, h1, h2⟩ := ih; exact ⟨_, te, .quiet hw hh h1, h2⟩
  | new hw hh hr ih => obtain ⟨R, te, h1, h2⟩ := ih; exact ⟨_, te, .new hw hh h1, h2⟩
  | skip hw hr ih => obtain ⟨R, te, h1, h2⟩ := ih; exact ⟨_, te, .skip hw h1, h2⟩

theorem awp_draw {id : Nat} {l : List Oper} (n : Nat) (hm : P.follows .mixedOrders = true) (hchk : drawOk l n = true)
    (H : HeadsK P l.toArray st.heap (fun R te => AOps P B l.toArray Q (l.drop n) ⟨te, st.heap ++ newsL R, st.defs⟩) (l.take n) st.tmps st.heap.length) : AWp P B (.region id l.toArray true) Q st :=
  let ⟨_, _, h1, h2⟩ := H.out
  awp_region_draw n hm hchk h1 h2

/-- A loop by a family of states. -/
theorem awp_rounds {α : Type} {c : Code} (mk : α → ASt) (inv : α → Prop) (μ : α → Nat) (a₀ : α) (hn : ∀ a, B.n ≤ (mk a).heap.length) (h₀ : SWeak st (mk a₀)) (hi : inv a₀)
    (round : ∀ a, inv a → AWp P B c (AThen (fun s' => ∃ a', SWeak s' (mk a') ∧ inv a' ∧ μ a' < μ a) Q) (mk a)) : AWp P B (.loop c) Q st := by
  refine awp_sweak h₀ (hn a₀) ?_
  intro S φ a w hr b k cs
  have key : ∀ n x S φ a w, μ x = n → inv x → Rel B S φ (mk x) a w →
      ∃ e a' w', Lift B Q e a' w' ∧ Arrives P (lone (b.at a (.code c :: .inLoop c :: k)) cs w) b k cs e a' w' := by
    intro n
    induction n using Nat.strongRecOn with
    | _ n ih =>
      intro x S φ a w hx hI hr
      obtain ⟨e, a₁, w₁, ⟨S₁, φ₁, e', s₁, he, hr₁, hq⟩, harr⟩ := round x hI S φ a w hr b (.inLoop c :: k) cs
      cases e <;> cases e' <;> simp only [ERel] at he <;> simp only [AThen] at hq
      case normal.normal =>
        obtain ⟨x', hsw, hI₁, hlt⟩ := hq
        obtain ⟨S₂, φ₂, hr₂⟩ := hsw B S₁ φ₁ a₁ w₁ (hn x') hr₁
        obtain ⟨e₂, a₂, w₂, hq₂, harr₂⟩ := ih (μ x') (hx ▸ hlt) x' S₂ φ₂ a₁ w₁ rfl hI₁ hr₂
        exact ⟨e₂, a₂, w₂, hq₂, .of_steps (Steps.trans harr (.one step_inLoop)) harr₂⟩
      case exit.exit => subst he; exact ⟨.exit _, a₁, w₁, ⟨S₁, φ₁, .exit _, s₁, rfl, hr₁, hq⟩, .pass (x := .inLoop c) rfl (fun _ _ => .inl (by simp)) harr⟩
      case goto.goto => subst he; exact ⟨.goto _, a₁, w₁, ⟨S₁, φ₁, .goto _, s₁, rfl, hr₁, hq⟩, .pass (x := .inLoop c) rfl (fun _ _ => .inl (by simp)) harr⟩
      case ret.ret => exact ⟨.ret, a₁, w₁, ⟨S₁, φ₁, .ret, s₁, trivial, hr₁, hq⟩, .pass (x := .inLoop c) rfl (fun _ _ => .inl (by simp)) harr⟩
      case panic.panic => exact ⟨.panic _, a₁, w₁, ⟨S₁, φ₁, .panic _, s₁, he, hr₁, hq⟩, .pass (x := .inLoop c) rfl (fun _ _ => .inl (by simp)) harr⟩
  obtain ⟨e, a', w', hq, harr⟩ := key _ a₀ S φ a w rfl hi hr
  exact ⟨e, a', w', hq, .of_steps (.one step_loop) harr⟩

theorem ok_nil : AHeap.ok [] := fun k B h => by simp at h

/-- A function of plain values. -/
theorem pcall_intro {f : FuncId} {fn : Func} {c : Code} {args : List AV} {r : AV} (hf : P.funcs[f]? = some fn) (hb : fn.body = some c) (hn : (fn.name == "runtime.NumGoroutine") = false)
    (H : ∀ B : Base, B.n = 0 → AWp P B c (QFun P fn (.ret r) []) ⟨args ++ List.replicate (fn.ntmps - args.length) .undef, [], []⟩) : PCall P f args r := acall_intro hf hb hn ok_nil (Nat.le_refl _) H

theorem qfun_ret {fn : Func} {x r : AV} {st : ASt} (hd : st.defs = []) (hx : aresult fn st = some x) (hw : Weak x r) (hu : AV.under 0 r = true) : QFun P fn (.ret r) [] .ret st := ⟨hd, x, r, st.heap, ares_tmps hx, hw, rfl, rfl, hu⟩
theorem qfun_ret_of {fn : Func} {x r : AV} {st : ASt} (hd : st.defs = []) (hx : ARes P fn st x) (hw : Weak x r) (hu : AV.under 0 r = true) : QFun P fn (.ret r) [] .ret st := ⟨hd, x, r, st.heap, hx, hw, rfl, rfl, hu⟩

/-! ### results that stand in variables of the heap -/
def aresC (T : TT) (st : ASt) : List ResultVar → Option (List AV)
  | [] => some []
  | .tmp t :: r => (aresC T st r).map (st.tmps.getD t .any :: ·)
  | .cell p t :: r => match T t with
    | some d => match d.kind.agg, st.tmps.getD p .any, aload st.heap (st.tmps.getD p .any) d.size, aresC T st r with
      | true, .ptr _ _, some cs, some xs => some (.agg cs :: xs)
      | false, .ptr _ _, some (x :: _), some xs => some (x :: xs)
      | _, _, _, _ => none
    | none => none

theorem ares_cells {T : TT} (hT : TOk P T) {fn : Func} {st : ASt} {xs : List AV} (h : aresC T st fn.results.toList = some xs) (h1 : xs.length ≠ 1) : ARes P fn st (.tuple xs) := fun w S φ a hh hr => by
  have key : ∀ (l : List ResultVar) (xs : List AV), aresC T st l = some xs → ∃ vs : List Value, vs.length = xs.length ∧ (∀ (j : Nat) (x : AV), xs[j]? = some x → Rep w S φ (vs.getD j Go.undef) x) ∧ (l.mapM (m := Sem) (fun (r : ResultVar) => match r with
      | .tmp t => pure (a.tmps.getD t Go.undef)
      | .cell p t => do loadVar t (← asAddr (a.tmps.getD p Go.undef)))).run P w = .ok vs w := by
    intro l
    induction l with
    | nil => intro xs h; simp [aresC] at h; subst h; exact ⟨[], rfl, fun j x h => by simp at h, by simp⟩
    | cons r l ih =>
      intro xs h
      cases r with
      | tmp t =>
        simp only [aresC, Option.map_eq_some_iff] at h
        obtain ⟨ys, h1, rfl⟩ := h
        obtain ⟨vs, e1, e2, e3⟩ := ih ys h1
        refine ⟨a.tmps.getD t Go.undef :: vs, by simp [e1], fun j x hj => ?_, by simp only [List.mapM_cons, Sem.run_bind, Sem.run_pure, Result.andThen_ok, e3]⟩
        cases j with
        | zero => simp only [List.getElem?_cons_zero, Option.some.injEq] at hj; subst hj; exact rel_eval (st := st) hr (.tmp t)
        | succ j => simp only [List.getElem?_cons_succ] at hj; simpa using e2 j x hj
      | cell p t =>
        simp only [aresC] at h
        split at h
        · rename_i d hd
          have hp := rel_eval (st := st) hr (.tmp p)
          simp only [ASt.eval, evalL, Act.eval] at hp
          have fin : ∀ (u : Value) (x : AV) (ys : List AV), aresC T st l = some ys → (Instr.loadAt t (a.tmps.getD p Go.undef)).run P w = .ok u w → (∃ b, a.tmps.getD p Go.undef = .pointer (some b)) → Rep w S φ u x → xs = x :: ys →
              ∃ vs : List Value, vs.length = xs.length ∧ (∀ (j : Nat) (x : AV), xs[j]? = some x → Rep w S φ (vs.getD j Go.undef) x) ∧ ((ResultVar.cell p t :: l).mapM (m := Sem) (fun (r : ResultVar) => match r with
                | .tmp t => pure (a.tmps.getD t Go.undef)
                | .cell p t => do loadVar t (← asAddr (a.tmps.getD p Go.undef)))).run P w = .ok vs w := fun u x ys hys hu hb hx he => by
            subst he
            obtain ⟨vs, e1, e2, e3⟩ := ih ys hys
            obtain ⟨b, hb⟩ := hb
            refine ⟨u :: vs, by simp [e1], fun j x hj => ?_, ?_⟩
            · cases j with
              | zero => simp only [List.getElem?_cons_zero, Option.some.injEq] at hj; subst hj; simpa using hx
              | succ j => simp only [List.getElem?_cons_succ] at hj; simpa using e2 j x hj
            · have ha : (asAddr (a.tmps.getD p Go.undef)).run P w = .ok b w := by rw [hb]; rfl
              rw [hb] at hu
              simp only [Instr.loadAt, Instr.sureAddr, Sem.run_bind, Sem.run_pure, Result.andThen_ok] at hu
              simp only [List.mapM_cons, ha, Sem.run_bind, Sem.run_pure, Result.andThen_ok, hu, e3]
          split at h
          · rename_i cs xs' hagg hptr hcs hxs
            cases h
            rw [hptr] at hcs hp
            obtain ⟨q1, q2⟩ := loadVar_rep hT hd hh.live hp hcs
            obtain ⟨_, b, off, hv, _⟩ := load_rep hh.live hp hcs
            obtain ⟨vs, r1, r2⟩ := q1 hagg
            exact fin _ _ _ hxs r1 ⟨_, hv⟩ r2 rfl
          · rename_i x cs' xs' hagg hptr hcs hxs
            cases h
            rw [hptr] at hcs hp
            obtain ⟨q1, q2⟩ := loadVar_rep hT hd hh.live hp hcs
            obtain ⟨_, b, off, hv, _⟩ := load_rep hh.live hp hcs
            obtain ⟨u, r1, r2⟩ := q2 hagg _ rfl
            exact fin _ _ _ hxs r1 ⟨_, hv⟩ r2 rfl
          · cases h
        · cases h
  obtain ⟨vs, e1, e2, e3⟩ := key _ _ h
  refine ⟨.tuple vs.toArray, ?_, .tuple (by simp [e1]) fun j x hj => ?_⟩
  · have e : fn.results = fn.results.toList.toArray := by simp
    simp only [results]
    rw [e]
    simp only [List.mapM_toArray, Sem.run_bind, Sem.run_map]
    erw [e3]
    simp only [Result.andThen_ok]
    rw [dif_neg (by simpa [e1] using h1)]
    simp
  · have := e2 j x hj
    simpa [List.getD_eq_getElem?_getD, Array.getD_eq_getD_getElem?] using this
end rules
end Go.Proofs.Ytpckfpahmnhfcaa.G
