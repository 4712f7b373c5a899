/- The ghost machine: the rules of walks under short names, for this program. -/
import Derived.Test.YtpckfpahmnhfcaaG22
import Derived.Test.YtpckfpahmnhfcaaG12
namespace Go.Proofs.Ytpckfpahmnhfcaa.G
open Go Go.RowKit
set_option linter.unusedVariables false

/-- Unknown variables ahead of others. -/
def an : Nat → List AV → List AV
  | 0, l => l
  | k + 1, l => .any :: an k l

/-- Variables that hold nothing yet. -/
def un : Nat → List AV
  | 0 => []
  | k + 1 => .undef :: un k

section ops
variable {B : Base} {Q : AExit → ASt → Prop} {ops : Array Oper} {o : Oper} {rest : List Oper} {ts ts' ts'' : List AV} {hp hp' : AHeap} {ds : List (FuncId × List AV)} {x : AV}
theorem dp (hw : awantedL ops ts o = some true) (hh : apureS tt o (evalL ts) hp = some x) (h : AOps Try.prog B ops Q rest ⟨ts', hp, ds⟩) (ht : putL ts o.dst x = ts' := by dsimp only [putL, List.set]) : AOps Try.prog B ops Q (o :: rest) ⟨ts, hp, ds⟩ := d_pure tok hw hh ht h
theorem dh (hw : awantedL ops ts o = some true) (hh : AHead Try.prog o (evalL ts) hp x none) (h : AOps Try.prog B ops Q rest ⟨ts', hp, ds⟩) (ht : putL ts o.dst x = ts' := by dsimp only [putL, List.set]) : AOps Try.prog B ops Q (o :: rest) ⟨ts, hp, ds⟩ := d_head hw hh ht h
theorem dk (hw : awantedL ops ts o = some false) (h : AOps Try.prog B ops Q rest ⟨ts', hp, ds⟩) (ht : putL ts o.dst .undef = ts' := by dsimp only [putL, List.set]) : AOps Try.prog B ops Q (o :: rest) ⟨ts, hp, ds⟩ := d_skip hw ht h
theorem dn {Bn : Blk} (hw : awantedL ops ts o = some true) (hh : AHead Try.prog o (evalL ts) hp x (some (hp.length, Bn))) (h : AOps Try.prog B ops Q rest ⟨ts', hp', ds⟩) (ht : putL ts o.dst x = ts' := by dsimp only [putL, List.set]) (hheap : hp ++ [some Bn] = hp' := by dsimp only [List.append, HAppend.hAppend, Append.append]) : AOps Try.prog B ops Q (o :: rest) ⟨ts, hp, ds⟩ := d_new hw hh ht hheap h
theorem di {β : Type} {K : β → Prop} {b : Bool} {X Y : Option β} {dd : List (FuncId × List AV)} (h : post (bif b then X else Y) K) (hw : awantedL ops ts o = some true) (hh : AHead Try.prog o (evalL ts) hp (.bool b) none) (h1 : post X K → AOps Try.prog B ops Q rest ⟨ts', hp, dd⟩) (h2 : post Y K → AOps Try.prog B ops Q rest ⟨ts'', hp, dd⟩)
    (ht : putL ts o.dst (.bool true) = ts' := by dsimp only [putL, List.set]) (hf : putL ts o.dst (.bool false) = ts'' := by dsimp only [putL, List.set]) : AOps Try.prog B ops Q (o :: rest) ⟨ts, hp, dd⟩ :=
  d_split hw hh ht hf (fun hb => h1 (pt hb h)) (fun hb => h2 (pf hb h))
theorem hbx {ρ : Operand → AV} {t : TypeId} {y : Operand} {cs : List AV} (k : Nat) (ho : o.op = .box t y) (hs : (ρ y).cellsOf.all (solid hp) = true) (hc : (ρ y).cellsOf = cs) : AHead Try.prog o ρ hp (.ptr k 0) (some (k, .var cs)) := hc ▸ head_box k ho hs
theorem hpr {ρ : Operand → AV} (h : apureS tt o ρ hp = some x) : AHead Try.prog o ρ hp x none := head_p tok h
end ops
section heads
variable {ops : Array Oper} {o : Oper} {hp : AHeap} {K : List HRes → List AV → Prop} {os : List Oper} {ts ts' ts'' : List AV} {s : Nat} {x : AV}
theorem kp (hw : awantedL ops ts o = some true) (hh : apureS tt o (evalL ts) hp = some x) (hr : HeadsK Try.prog ops hp (fun R te => K ((x, none) :: R) te) os ts' s) (ht : putL ts o.dst x = ts' := by dsimp only [putL, List.set]) : HeadsK Try.prog ops hp K (o :: os) ts s := hk_pure tok hw hh ht hr
theorem kh (hw : awantedL ops ts o = some true) (hh : AHead Try.prog o (evalL ts) hp x none) (hr : HeadsK Try.prog ops hp (fun R te => K ((x, none) :: R) te) os ts' s) (ht : putL ts o.dst x = ts' := by dsimp only [putL, List.set]) : HeadsK Try.prog ops hp K (o :: os) ts s := hk_head hw hh ht hr
theorem kk (hw : awantedL ops ts o = some false) (hr : HeadsK Try.prog ops hp (fun R te => K ((.undef, none) :: R) te) os ts' s) (ht : putL ts o.dst .undef = ts' := by dsimp only [putL, List.set]) : HeadsK Try.prog ops hp K (o :: os) ts s := hk_skip hw ht hr
theorem kn {Bn : Blk} (hw : awantedL ops ts o = some true) (hh : AHead Try.prog o (evalL ts) hp x (some (s, Bn))) (hr : HeadsK Try.prog ops hp (fun R te => K ((x, some Bn) :: R) te) os ts' (s + 1)) (ht : putL ts o.dst x = ts' := by dsimp only [putL, List.set]) : HeadsK Try.prog ops hp K (o :: os) ts s := hk_new hw hh ht hr
theorem ki {β : Type} {G : β → Prop} {b : Bool} {X Y : Option β} (h : post (bif b then X else Y) G) (hw : awantedL ops ts o = some true) (hh : AHead Try.prog o (evalL ts) hp (.bool b) none)
    (h1 : post X G → HeadsK Try.prog ops hp (fun R te => K ((.bool true, none) :: R) te) os ts' s) (h2 : post Y G → HeadsK Try.prog ops hp (fun R te => K ((.bool false, none) :: R) te) os ts'' s)
    (ht : putL ts o.dst (.bool true) = ts' := by dsimp only [putL, List.set]) (hf : putL ts o.dst (.bool false) = ts'' := by dsimp only [putL, List.set]) : HeadsK Try.prog ops hp K (o :: os) ts s :=
  hk_split hw hh ht hf (fun hb => h1 (pt hb h)) (fun hb => h2 (pf hb h))
end heads
section code
variable {B : Base} {Q : AExit → ASt → Prop} {ops : Array Oper} {l : List Oper} {c : Code} {ts ts' : List AV} {hp : AHeap} {ds : List (FuncId × List AV)}
theorem cc {β : Type} {K : β → Prop} {b : Bool} {X Y : Option β} {st : ASt} {t : Operand} {x y : Code} (h : post (bif b then X else Y) K) (hc : st.eval t = .bool b) (h1 : post X K → AWp Try.prog B x Q st) (h2 : post Y K → AWp Try.prog B y Q st) : AWp Try.prog B (.cond t x y) Q st :=
  awp_cond hc (fun hb => h1 (pt hb h)) (fun hb => h2 (pf hb h))
/-- A state laid open. -/
theorem lo (h : AOps Try.prog B ops Q l ⟨ts', hp, ds⟩) (e : ts = ts' := by dsimp only [an]) : AOps Try.prog B ops Q l ⟨ts, hp, ds⟩ := e ▸ h
theorem lc (h : AWp Try.prog B c Q ⟨ts', hp, ds⟩) (e : ts = ts' := by dsimp only [an]) : AWp Try.prog B c Q ⟨ts, hp, ds⟩ := e ▸ h
end code
theorem hnl {n k m : Nat} (h : n = k) (hb : Nat.ble k m = true) : n ≤ m := by subst h; exact Nat.le_of_ble_eq_true hb
section cuts
variable {P : Program} {B : Base} {Q : AExit → ASt → Prop} {st : ASt} {ops : Array Oper} {α β γ : Type}
theorem ca {A : Option α} {f : α → Option β} {K : β → Prop} {l : List Oper} (h : post (A.bind f) K) (n : Nat) (mk : α → ASt)
    (hb : ∀ a, post (f a) K → AOps P B ops Q (l.drop n) (mk a)) (ha : post A (fun a => post (f a) K) → AOps P B ops (ACut (fun s => ∃ a, SWeak s (mk a) ∧ post (f a) K) Q) (l.take n) st)
    (hn : ∀ a, B.n ≤ (mk a).heap.length := by intro _; apply hnl; assumption; rfl) : AOps P B ops Q l st := aops_cut id h n mk hn hb ha
theorem cw {x y : Code} {A : Option α} {f : α → Option β} {K : β → Prop} (h : post (A.bind f) K) (mk : α → ASt)
    (hb : ∀ a, post (f a) K → AWp P B y Q (mk a)) (ha : post A (fun a => post (f a) K) → AWp P B x (AThen (fun s => ∃ a, SWeak s (mk a) ∧ post (f a) K) Q) st)
    (hn : ∀ a, B.n ≤ (mk a).heap.length := by intro _; apply hnl; assumption; rfl) : AWp P B (.seq x y) Q st := awp_seq_cut id h mk hn hb ha
theorem ce {x y : Code} {A : Option γ} {f : γ → Option β} {K : β → Prop} (inj : α → γ) (h : post (A.bind f) K) (mk : α → ASt)
    (hb : ∀ a, post (f (inj a)) K → AWp P B y Q (mk a)) (ha : post A (fun a => post (f a) K) → AWp P B x (AThen (fun s => ∃ a, SWeak s (mk a) ∧ post (f (inj a)) K) Q) st)
    (hn : ∀ a, B.n ≤ (mk a).heap.length := by intro _; apply hnl; assumption; rfl) : AWp P B (.seq x y) Q st := awp_seq_cut inj h mk hn hb ha
theorem cl {σ ρ : Type} {c : Code} {step : (σ → Option ρ) → σ → Option ρ} {n0 : Nat} {s0 : σ} {f : ρ → Option β} {K : β → Prop} (h : post ((iter step n0 s0).bind f) K) (mk : σ → ASt) (h₀ : SWeak st (mk s0))
    (round : ∀ (rec : σ → Option ρ) (s : σ), post (step rec s) (fun a => post (f a) K) → AWp P B c (AThen (fun s' => ∃ s2, SWeak s' (mk s2) ∧ post (rec s2) (fun a => post (f a) K)) Q) (mk s))
    (hn : ∀ s, B.n ≤ (mk s).heap.length := by intro _; apply hnl; assumption; rfl) : AWp P B (.loop c) Q st := awp_loopF h mk hn h₀ round
end cuts
/-- Variables kept: these; nil told as the empty list: those. -/
def kpt (ks ns : List Nat) : Nat → List AV → List AV
  | _, [] => []
  | i, x :: xs => (match ks.any (Nat.beq i) with | true => x | false => match ns.any (Nat.beq i) with | true => x.nrm | false => .any) :: kpt ks ns (i + 1) xs
theorem weakL_kpt (ks ns : List Nat) : ∀ (xs : List AV) (i : Nat), WeakL xs (kpt ks ns i xs)
  | [], i => by unfold kpt; exact .nil
  | x :: xs, i => by
    unfold kpt
    refine .cons ?_ (weakL_kpt ks ns xs (i + 1))
    split
    · exact Weak.refl x
    · split
      · exact nrm_weak x
      · exact Weak.any x
theorem sk (ks ns : List Nat) {ts ts' : List AV} {h : AHeap} {ds : List (FuncId × List AV)} (he : kpt ks ns 0 ts = ts') : SWeak ⟨ts, h, ds⟩ ⟨ts', h, ds⟩ := by
  subst he; exact sweak_tmps (weakL_kpt ks ns ts 0)
end Go.Proofs.Ytpckfpahmnhfcaa.G
