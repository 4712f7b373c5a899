/- The ghost machine: rules that go beside plain functions: pieces cut apart, loops by rounds of a plain function, lists of things. -/
import Derived.Test.YtpckfpahmnhfcaaG20
import Derived.Test.YtpckfpahmnhfcaaG17
namespace Go.Proofs.Ytpckfpahmnhfcaa.G
open Go Go.RowKit
set_option linter.unusedVariables false

/-! ### pieces cut apart -/
theorem oper_wp_mono2 {P : Program} {o : Oper} {a : Act} {w : World} {N N' : Act → World → Prop} {Q Q' : Exit → Act → World → Prop} (h : ∀ a w, N a w → N' a w) (hq : ∀ e a w, e ≠ .normal → Q e a w → Q' e a w)
    (hh : o.wp P a w N Q) : o.wp P a w N' Q' := by
  unfold Oper.wp at *
  generalize (execOp a.eval o).run P w = r at *
  cases r with
  | ok n w' =>
    cases n <;> simp only [Oper.upon] at hh ⊢ <;>
      first
        | exact h _ _ hh
        | exact Calls.mono hh (fun e w'' he => by cases e <;> first | exact h _ _ he | exact hq _ _ _ (by simp) he | exact (let ⟨a, w, q⟩ := he; ⟨a, w, hq _ _ _ (by simp) q⟩))
        | exact Rows.mono hh (fun _ _ he => h _ _ he)
        | exact hh
  | halt x w' => cases x <;> simp only [Oper.upon] at hh ⊢ <;> first | exact hq _ _ _ (by simp) hh | exact hh

theorem wpList_app {P : Program} {ops : Array Oper} {Q Q' : Exit → Act → World → Prop} (hq : ∀ e a w, e ≠ .normal → Q' e a w → Q e a w) (l2 : List Oper) (hn : ∀ a w, Q' .normal a w → wpList P ops Q l2 a w) :
    ∀ (l1 : List Oper) (a : Act) (w : World), wpList P ops Q' l1 a w → wpList P ops Q (l1 ++ l2) a w
  | [], a, w, h => hn a w h
  | o :: r, a, w, h => by
    simp only [List.cons_append]
    unfold wpList at h ⊢
    split at h
    · rename_i hw
      rw [if_pos hw]
      rcases h with h | ⟨h1, a', w', h2⟩
      · exact .inl (oper_wp_mono2 (fun a w h => wpList_app hq l2 hn r a w h) hq h)
      · exact .inr ⟨h1, a', w', hq _ _ _ (by simp) h2⟩
    · rename_i hw
      rw [if_neg hw]
      exact wpList_app hq l2 hn r _ w h

section rules
variable {P : Program} {T : TT} {B : Base} {Q : AExit → ASt → Prop} {st : ASt} {ops : Array Oper}

/-- What a piece cut off comes to. -/
def ACut (next : ASt → Prop) (Q : AExit → ASt → Prop) : AExit → ASt → Prop
  | .normal, st => next st
  | e, st => Q e st

theorem aops_apart {l1 l2 : List Oper} (h : AOps P B ops (ACut (fun s => AOps P B ops Q l2 s) Q) l1 st) : AOps P B ops Q (l1 ++ l2) st := fun S φ a w hr => by
  refine wpList_app (Q' := Lift B (ACut (fun s => AOps P B ops Q l2 s) Q)) ?_ l2 ?_ l1 a w (h S φ a w hr)
  · rintro e a w he ⟨S', φ', e', s', h1, h2, h3⟩
    refine ⟨S', φ', e', s', h1, h2, ?_⟩
    cases e' <;> first | exact h3 | (cases e <;> simp [ERel] at h1 he)
  · rintro a w ⟨S', φ', e', s', h1, h2, h3⟩
    cases e' <;> simp only [ERel] at h1
    exact h3 S' φ' a w h2

/-- Operations cut apart: what is behind them is proved once. -/
theorem aops_cut {α β γ : Type} {A : Option γ} {f : γ → Option β} {K : β → Prop} {l : List Oper} (inj : α → γ) (h : post (A.bind f) K) (n : Nat) (mk : α → ASt) (hn : ∀ a, B.n ≤ (mk a).heap.length)
    (hb : ∀ a, post (f (inj a)) K → AOps P B ops Q (l.drop n) (mk a))
    (ha : post A (fun a => post (f a) K) → AOps P B ops (ACut (fun s => ∃ a, SWeak s (mk a) ∧ post (f (inj a)) K) Q) (l.take n) st) : AOps P B ops Q l st := by
  have key : AOps P B ops (ACut (fun s => AOps P B ops Q (l.drop n) s) Q) (l.take n) st := fun S φ a w hr => by
    have := ha (pb h) S φ a w hr
    rw [← List.append_nil (l.take n)] at this ⊢
    refine wpList_app (Q' := Lift B (ACut (fun s => ∃ a, SWeak s (mk a) ∧ post (f (inj a)) K) Q)) ?_ [] ?_ (l.take n) a w (by simpa using this)
    · rintro e a w he ⟨S', φ', e', s', h1, h2, h3⟩
      refine ⟨S', φ', e', s', h1, h2, ?_⟩
      cases e' <;> first | exact h3 | (cases e <;> simp [ERel] at h1 he)
    · rintro a w ⟨S', φ', e', s', h1, h2, h3⟩
      cases e' <;> simp only [ERel] at h1
      obtain ⟨x, h4, h5⟩ := h3
      exact wpList_nil ⟨S', φ', .normal, s', trivial, h2, aops_weak h4 (hn x) (hb x h5)⟩
  have := aops_apart key
  rwa [List.take_append_drop] at this

theorem awp_seq_cut {α β γ : Type} {x y : Code} {A : Option γ} {f : γ → Option β} {K : β → Prop} (inj : α → γ) (h : post (A.bind f) K) (mk : α → ASt) (hn : ∀ a, B.n ≤ (mk a).heap.length)
    (hb : ∀ a, post (f (inj a)) K → AWp P B y Q (mk a)) (ha : post A (fun a => post (f a) K) → AWp P B x (AThen (fun s => ∃ a, SWeak s (mk a) ∧ post (f (inj a)) K) Q) st) : AWp P B (.seq x y) Q st :=
  awp_seq ((ha (pb h)).mono fun e s hq => by
    cases e <;> first | exact hq | (obtain ⟨a, h1, h2⟩ := hq; exact awp_sweak h1 (hn a) (hb a h2)))

/-! ### loops -/
def iter {σ ρ : Type} (step : (σ → Option ρ) → σ → Option ρ) : Nat → σ → Option ρ
  | 0, _ => none
  | n + 1, s => step (iter step n) s

theorem awp_loopF {σ ρ β : Type} {c : Code} {step : (σ → Option ρ) → σ → Option ρ} {n0 : Nat} {s0 : σ} {f : ρ → Option β} {K : β → Prop} (h : post ((iter step n0 s0).bind f) K) (mk : σ → ASt) (hn : ∀ s, B.n ≤ (mk s).heap.length) (h₀ : SWeak st (mk s0))
    (round : ∀ (rec : σ → Option ρ) (s : σ), post (step rec s) (fun a => post (f a) K) → AWp P B c (AThen (fun s' => ∃ s2, SWeak s' (mk s2) ∧ post (rec s2) (fun a => post (f a) K)) Q) (mk s)) : AWp P B (.loop c) Q st := by
  refine awp_rounds (α := Nat × σ) (fun x => mk x.2) (fun x => post (iter step x.1 x.2) (fun a => post (f a) K)) (fun x => x.1) (n0, s0) (fun x => hn x.2) h₀ (pb h) fun x hx => ?_
  obtain ⟨n, s⟩ := x
  cases n with
  | zero => exact pno hx
  | succ n =>
    refine (round (iter step n) s hx).mono fun e s' hq => ?_
    cases e <;> first | exact hq | (obtain ⟨s2, h1, h2⟩ := hq; exact ⟨(n, s2), h1, h2, Nat.lt_succ_self n⟩)
end rules

/-! ### calls walked in place, their ends cut together -/
theorem acallK_cut {α β γ : Type} {P : Program} {f : FuncId} {args : List AV} {h0 : AHeap} {KK : AOut → AHeap → Prop} {A : Option γ} {g : γ → Option β} {K : β → Prop} (inj : α → γ) (h : post (A.bind g) K) (mr : α → AV) (mh : α → AHeap)
    (hb : ∀ a, post (g (inj a)) K → KK (.ret (mr a)) (mh a))
    (ha : post A (fun a => post (g a) K) → ACallK P f args h0 (fun o k => (∃ a, o = .ret (mr a) ∧ k = mh a ∧ post (g (inj a)) K) ∨ ((∃ v, o = .panic v) ∧ KK o k))) : ACallK P f args h0 KK := by
  obtain ⟨h1, h2⟩ := ha (pb h)
  refine ⟨h1, fun w S φ vs a b => (h2 w S φ vs a b).mono fun e w' ⟨S', φ', out, h', c, d, e', k⟩ => ⟨S', φ', out, h', c, d, e', ?_⟩⟩
  rcases k with ⟨x, rfl, rfl, k⟩ | ⟨_, k⟩
  · exact hb x k
  · exact k

/-! ### lists of things -/
def cutL {α : Type} (l : List α) (lo hi : Int) : Option (List α) := if 0 ≤ lo ∧ lo ≤ hi ∧ hi ≤ l.length then some ((l.take hi.toNat).drop lo.toNat) else none
def app {α : Type} (b : Nat) (l r : List α) : Option (List α) := if (l.length + r.length) * b ≤ 140737488355328 ∧ 0 < b then some (l ++ r) else none
theorem cutL_spec {α : Type} {l r : List α} {lo hi : Int} (h : cutL l lo hi = some r) : 0 ≤ lo ∧ lo ≤ hi ∧ hi ≤ l.length ∧ r = (l.take hi.toNat).drop lo.toNat := by
  unfold cutL at h
  split at h
  · rename_i hc; cases h; exact ⟨hc.1, hc.2.1, hc.2.2, rfl⟩
  · cases h
theorem app_spec {α : Type} {b : Nat} {l r x : List α} (h : app b l r = some x) : (l.length + r.length) * b ≤ 140737488355328 ∧ l.length + r.length ≤ 9223372036854775807 ∧ x = l ++ r := by
  unfold app at h
  split at h
  · rename_i hc; cases h
    refine ⟨hc.1, ?_, rfl⟩
    have := Nat.le_mul_of_pos_right (l.length + r.length) hc.2
    omega
  · cases h
theorem all_len {α : Type} {enc : α → List AV} {n : Nat} (h : ∀ x, (enc x).length = n) (l : List α) : ∀ el ∈ l.map enc, el.length = n := fun el he => by
  obtain ⟨x, _, rfl⟩ := List.mem_map.1 he; exact h x
theorem all_scal {α : Type} {enc : α → List AV} (h : ∀ x, (enc x).all AV.scal = true) (hp : AHeap) (l : List α) : ∀ el ∈ l.map enc, el.all (solid hp) = true := fun el he => by
  obtain ⟨x, _, rfl⟩ := List.mem_map.1 he
  refine List.all_eq_true.2 fun y hy => ?_
  have := List.all_eq_true.1 (h x) y hy
  unfold solid
  split
  · simp [AV.scal] at this
  · exact this
theorem all_under {α : Type} {enc : α → List AV} (h : ∀ x, AV.underL 0 (enc x) = true) (l : List α) : ∀ el ∈ l.map enc, AV.underL 0 el = true := fun el he => by
  obtain ⟨x, _, rfl⟩ := List.mem_map.1 he; exact h x
theorem flat_under {α : Type} {enc : α → List AV} (h : ∀ x, AV.underL 0 (enc x) = true) (n : Nat) : ∀ l : List α, AV.underL n (l.map enc).flatten = true
  | [] => rfl
  | x :: l => by
    have key : ∀ a b : List AV, AV.underL n a = true → AV.underL n b = true → AV.underL n (a ++ b) = true := by
      intro a
      induction a with
      | nil => intro b _ h; exact h
      | cons y a ih => intro b h1 h2; simp only [AV.underL, List.cons_append, Bool.and_eq_true] at h1 ⊢; exact ⟨h1.1, ih b h1.2 h2⟩
    simp only [List.map_cons, List.flatten_cons]
    exact key _ _ (underL_mono (Nat.zero_le n) _ (h x)) (flat_under h n l)
theorem ok_cons {h : AHeap} (H : ∀ (k : Nat) (B : Blk), h[k]? = some (some B) → AV.underL h.length B.cells = true) : h.ok := H
/-- Blocks in order: each holds nothing of others beyond N. -/
def okAll (N : Nat) : AHeap → Prop
  | [] => True
  | none :: r => okAll N r
  | some B :: r => AV.underL N B.cells = true ∧ okAll N r
theorem ok_of {h : AHeap} (H : okAll h.length h) : h.ok := by
  have key : ∀ (N : Nat) (g : AHeap), okAll N g → ∀ (k : Nat) (B : Blk), g[k]? = some (some B) → AV.underL N B.cells = true := by
    intro N g
    induction g with
    | nil => intro _ k B h; simp at h
    | cons x r ih =>
      intro ho k B hk
      cases k with
      | zero => simp at hk; subst hk; exact ho.1
      | succ k =>
        simp at hk
        cases x with
        | none => exact ih ho k B hk
        | some y => exact ih ho.2 k B hk
  exact key _ _ H

section heads
variable {P : Program} {T : TT} {o : Oper} {ρ : Operand → AV} {hp : AHeap}
theorem head_len_map (hT : TOk P T) {α : Type} {enc : α → List AV} {L : List α} {t e : TypeId} {d : TD} {x : Operand} (ho : o.op = .call ⟨.builtin .len, #[x], #[t]⟩) (hd : T t = some d) (hk : d.kind = .slice e) (hx : ρ x = .list (L.map enc)) : AHead P o ρ hp (.int .i64 L.length) none :=
  head_pure hT (by simp [apure, ho, hd, hk, hx])
theorem head_len_ownm (hT : TOk P T) {α : Type} {enc : α → List AV} {L : List α} {t e e' : TypeId} {d : TD} {x : Operand} {k sz : Nat} (ho : o.op = .call ⟨.builtin .len, #[x], #[t]⟩) (hd : T t = some d) (hk : d.kind = .slice e) (hx : ρ x = .own k (L.map enc).length) (hb : hp[k]? = some (some (.row (L.map enc) sz e'))) : AHead P o ρ hp (.int .i64 L.length) none :=
  head_eq (head_len_own hT ho hd hk hx hb) (by simp)
theorem head_index_map (hT : TOk P T) {α : Type} {enc : α → List AV} {L : List α} {x : α} {t e : TypeId} {d ed : TD} {p ix : Operand} {k : IntKind} {i : Int} (hv : idx L i = some x) (ho : o.op = .indexAddr t p ix) (hd : T t = some d) (hk : d.kind = .slice e) (hed : T e = some ed)
    (hx : ρ p = .list (L.map enc)) (hi : ρ ix = .int k i) (hlen : (enc x).length = ed.size) : AHead P o ρ hp (.fptr (enc x)) none :=
  head_index_list hT ho hd hk hed hx hi (idx_h0 hv) (idx_el hv) hlen
theorem head_slice_map (hT : TOk P T) {α : Type} {enc : α → List AV} {L r : List α} {t e : TypeId} {d ed : TD} {p : Operand} {lo hi : Option Operand} {l h : Int} (hv : cutL L l h = some r) (ho : o.op = .slice t p lo hi none) (hd : T t = some d) (hk : d.kind = .slice e) (hed : T e = some ed)
    (hx : ρ p = .list (L.map enc)) (hlen : ∀ x, (enc x).length = ed.size) (hlo : abnd ρ lo 0 = some l) (hhi : abnd ρ hi L.length = some h) : AHead P o ρ hp (.list (r.map enc)) none := by
  obtain ⟨h1, h2, h3, rfl⟩ := cutL_spec hv
  exact head_eq (head_slice_list hT ho hd hk hed hx (all_len hlen L) hlo (by simpa using hhi) h1 h2 (by simpa using h3)) (by simp [List.map_take, List.map_drop])
end heads

section appends
variable {P : Program} {T : TT} {B : Base} {Q : AExit → ASt → Prop} {ops : Array Oper} {o : Oper} {rest : List Oper} {ts ts' : List AV} {hp hp' : AHeap} {ds : List (FuncId × List AV)}
theorem d_append_map (hT : TOk P T) {α : Type} {enc : α → List AV} {L R X : List α} {t e : TypeId} {d ed : TD} {s y : Operand} {k sz : Nat} (hv : app ed.bytes L R = some X) (hw : awantedL ops ts o = some true) (ho : o.op = .call ⟨.builtin .append, #[s, y], #[t, t]⟩) (hd : T t = some d) (hk : d.kind = .slice e) (hed : T e = some ed)
    (hs : evalL ts s = .own k (L.map enc).length) (hb : hp[k]? = some (some (.row (L.map enc) sz e))) (hsz : sz = ed.size) (hy : srcOf hp (evalL ts y) = some (R.map enc)) (hlen : ∀ x, (enc x).length = ed.size) (hsc : ∀ x, (enc x).all AV.scal = true)
    (hh : hp.set k (some (.row (X.map enc) sz e)) = hp') (ht : putL ts o.dst (.own k (X.map enc).length) = ts') (h : AOps P B ops Q rest ⟨ts', hp', ds⟩) : AOps P B ops Q (o :: rest) ⟨ts, hp, ds⟩ := by
  obtain ⟨h1, h2, rfl⟩ := app_spec hv
  refine d_append hT hw ho hd hk hed hs hb hsz hy (all_len hlen R) (all_scal hsc hp R) (by simpa using h2) (by simpa using h1) rfl rfl ?_
  subst hh; subst ht
  rw [List.map_append] at h
  exact h
end appends
end Go.Proofs.Ytpckfpahmnhfcaa.G
