/- Facts of this program's types for '==': printed once. -/
import Derived.Test.YtpckfpahmnhfcaaG8
import Derived.Test.YtpckfpahmnhfcaaG11
namespace Go.Proofs.Ytpckfpahmnhfcaa.G
open Go Go.RowKit
theorem tt_far {t : TypeId} (h : ttx.length * 16 ≤ t) : tt t = none := by
  have key : ∀ a b : Nat, b * 16 ≤ a → b ≤ a / 16 := fun a b h => by omega
  simp only [tt, List.getElem?_eq_none (key _ _ h)]
def eqq (t : TypeId) : Bool := Nat.blt t 232 && !(Nat.beq t 13 || Nat.beq t 14 || Nat.beq t 18 || Nat.beq t 19)
theorem eq_all : (List.range (ttx.length * 16)).all (fun t => match tt t with | some d => (match d.kind with | .struct _ => !eqq t || eqOk Try.prog t | _ => true) && (d.kind.agg || Nat.beq d.size 1) | none => true) = true := by kernel_rfl
theorem eqAll : EqAll Try.prog tt eqq := fun t d fs hd hk hq => by
  rcases Nat.lt_or_ge t (ttx.length * 16) with h | h
  · have := List.all_eq_true.1 eq_all t (List.mem_range.2 h)
    rw [hd] at this
    simp only [hk, hq, Bool.and_eq_true, Bool.not_true, Bool.false_or] at this
    exact this.1
  · rw [tt_far h] at hd; cases hd
theorem flat1 : ∀ t d, tt t = some d → d.kind.agg = false → d.size = 1 := fun t d hd hk => by
  rcases Nat.lt_or_ge t (ttx.length * 16) with h | h
  · have := List.all_eq_true.1 eq_all t (List.mem_range.2 h)
    rw [hd] at this
    simp only [hk, Bool.and_eq_true, Bool.false_or] at this
    exact Nat.eq_of_beq_eq_true this.2
  · rw [tt_far h] at hd; cases hd
section heads
variable {P : Program} {T : TT} {ops : Array Oper} {o : Oper} {hp : AHeap} {K : List HRes → List AV → Prop} {os : List Oper} {ts ts' ts'' : List AV} {s : Nat} {x : AV}
theorem hk_pure (hT : TOk P T) (hw : awantedL ops ts o = some true) (hh : apureS T o (evalL ts) hp = some x) (ht : putL ts o.dst x = ts') (hr : HeadsK P ops hp (fun R te => K ((x, none) :: R) te) os ts' s) : HeadsK P ops hp K (o :: os) ts s := by subst ht; exact .quiet hw (head_p hT hh) hr
theorem hk_head (hw : awantedL ops ts o = some true) (hh : AHead P o (evalL ts) hp x none) (ht : putL ts o.dst x = ts') (hr : HeadsK P ops hp (fun R te => K ((x, none) :: R) te) os ts' s) : HeadsK P ops hp K (o :: os) ts s := by subst ht; exact .quiet hw hh hr
theorem hk_new {Bn : Blk} (hw : awantedL ops ts o = some true) (hh : AHead P o (evalL ts) hp x (some (s, Bn))) (ht : putL ts o.dst x = ts') (hr : HeadsK P ops hp (fun R te => K ((x, some Bn) :: R) te) os ts' (s + 1)) : HeadsK P ops hp K (o :: os) ts s := by subst ht; exact .new hw hh hr
theorem hk_skip (hw : awantedL ops ts o = some false) (ht : putL ts o.dst .undef = ts') (hr : HeadsK P ops hp (fun R te => K ((.undef, none) :: R) te) os ts' s) : HeadsK P ops hp K (o :: os) ts s := by subst ht; exact .skip hw hr
theorem hk_split {b : Bool} (hw : awantedL ops ts o = some true) (hh : AHead P o (evalL ts) hp (.bool b) none) (ht : putL ts o.dst (.bool true) = ts') (hf : putL ts o.dst (.bool false) = ts'')
    (h1 : b = true → HeadsK P ops hp (fun R te => K ((.bool true, none) :: R) te) os ts' s) (h2 : b = false → HeadsK P ops hp (fun R te => K ((.bool false, none) :: R) te) os ts'' s) : HeadsK P ops hp K (o :: os) ts s := by
  subst ht; subst hf; exact .split hw hh h1 h2
end heads
theorem head_callp {P : Program} {o : Oper} {ρ : Operand → AV} {hp : AHeap} {fx : Operand} {xs : Array Operand} {ts : Array TypeId} {f : FuncId} {fs cs args : List AV} {r : AV} (hc : PCall P f args r) (hu : AV.underL 0 args = true) (ho : o.op = .call ⟨.value fx, xs, ts⟩) (hf : ρ fx = .fn f fs cs)
    (ha : fs ++ xs.toList.map ρ ++ cs = args) : AHead P o ρ hp r none := head_call ho hf ha hu hc
end Go.Proofs.Ytpckfpahmnhfcaa.G
