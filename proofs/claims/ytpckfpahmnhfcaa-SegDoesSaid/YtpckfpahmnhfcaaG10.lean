/- The ghost machine: the rules with their states written out. -/
import Derived.Test.YtpckfpahmnhfcaaG9
namespace Go.Proofs.Ytpckfpahmnhfcaa.G
open Go Go.RowKit
set_option linter.unusedVariables false

/-- The value itself, laid open. -/
def strict (x : AV) : Option AV :=
  match x with
  | .any => some .any
  | .undef => some .undef
  | .bool b => some (.bool b)
  | .int k n => some (.int k n)
  | .str s => some (.str s)
  | .nilsl => some .nilsl
  | .list xs => some (.list xs)
  | .own k n => some (.own k n)
  | .ptr k off => some (.ptr k off)
  | .rptr k n i off => some (.rptr k n i off)
  | .win k off len cap => some (.win k off len cap)
  | .nilptr => some .nilptr
  | .fptr cs => some (.fptr cs)
  | .fn f a b => some (.fn f a b)
  | .nilfn => some .nilfn
  | .iface t x => some (.iface t x)
  | .nilIface => some .nilIface
  | .agg cs => some (.agg cs)
  | .tuple xs => some (.tuple xs)
theorem strict_eq (x : AV) : strict x = some x := by cases x <;> rfl
def apureS (T : TT) (o : Oper) (ρ : Operand → AV) (hp : AHeap) : Option AV :=
  match apure T o ρ hp with
  | some x => strict x
  | none => none
theorem apureS_eq {T : TT} {o : Oper} {ρ : Operand → AV} {hp : AHeap} {x : AV} (h : apureS T o ρ hp = some x) : apure T o ρ hp = some x := by
  unfold apureS at h
  split at h
  · rename_i y hy; rw [hy, ← h, strict_eq]
  · cases h
theorem head_p {P : Program} {T : TT} (hT : TOk P T) {o : Oper} {ρ : Operand → AV} {hp : AHeap} {x : AV} (h : apureS T o ρ hp = some x) : AHead P o ρ hp x none := head_pure hT (apureS_eq h)

section rules
variable {P : Program} {T : TT} {B : Base} {Q : AExit → ASt → Prop} {ops : Array Oper} {o : Oper} {rest : List Oper} {ts ts' : List AV} {hp hp' : AHeap} {ds : List (FuncId × List AV)}

theorem d_pure {x : AV} (hT : TOk P T) (hw : awantedL ops ts o = some true) (hh : apureS T o (evalL ts) hp = some x) (ht : putL ts o.dst x = ts') (h : AOps P B ops Q rest ⟨ts', hp, ds⟩) : AOps P B ops Q (o :: rest) ⟨ts, hp, ds⟩ :=
  aops_head hw (head_p hT hh) (by subst ht; cases hd : o.dst <;> (simp only [putL, hd] at h; simp only [ASt.put]; exact h))
theorem d_head {x : AV} (hw : awantedL ops ts o = some true) (hh : AHead P o (evalL ts) hp x none) (ht : putL ts o.dst x = ts') (h : AOps P B ops Q rest ⟨ts', hp, ds⟩) : AOps P B ops Q (o :: rest) ⟨ts, hp, ds⟩ :=
  aops_head hw hh (by subst ht; cases hd : o.dst <;> (simp only [putL, hd] at h; simp only [ASt.put]; exact h))
theorem d_new {x : AV} {Bn : Blk} (hw : awantedL ops ts o = some true) (hh : AHead P o (evalL ts) hp x (some (hp.length, Bn))) (ht : putL ts o.dst x = ts') (hheap : hp ++ [some Bn] = hp') (h : AOps P B ops Q rest ⟨ts', hp', ds⟩) : AOps P B ops Q (o :: rest) ⟨ts, hp, ds⟩ :=
  aops_new hw hh (by subst ht; subst hheap; cases hd : o.dst <;> (simp only [putL, hd] at h; simp only [ASt.put]; exact h))
theorem d_skip (hw : awantedL ops ts o = some false) (ht : putL ts o.dst .undef = ts') (h : AOps P B ops Q rest ⟨ts', hp, ds⟩) : AOps P B ops Q (o :: rest) ⟨ts, hp, ds⟩ :=
  aops_skip hw (by subst ht; cases hd : o.dst <;> (simp only [putL, hd] at h; simp only [ASt.put]; exact h))
theorem d_split {b : Bool} {ts'' : List AV} (hw : awantedL ops ts o = some true) (hh : AHead P o (evalL ts) hp (.bool b) none) (ht : putL ts o.dst (.bool true) = ts') (ht' : putL ts o.dst (.bool false) = ts'') (h1 : b = true → AOps P B ops Q rest ⟨ts', hp, ds⟩) (h2 : b = false → AOps P B ops Q rest ⟨ts'', hp, ds⟩) : AOps P B ops Q (o :: rest) ⟨ts, hp, ds⟩ := by
  cases b
  · exact d_head hw hh ht' (h2 rfl)
  · exact d_head hw hh ht (h1 rfl)
/-- A function of plain values. -/
theorem d_intro {f : FuncId} {fn : Func} {c : Code} {args : List AV} {r : AV} (hf : P.funcs[f]? = some fn) (hb : fn.body = some c) (hn : (fn.name == "runtime.NumGoroutine") = false) (hts : args ++ List.replicate (fn.ntmps - args.length) .undef = ts)
    (H : ∀ B : Base, B.n = 0 → AWp P B c (QFun P fn (.ret r) []) ⟨ts, [], []⟩) : PCall P f args r := pcall_intro hf hb hn (by subst hts; exact H)
end rules
end Go.Proofs.Ytpckfpahmnhfcaa.G
