/- The ghost machine: more rules: elements of own slices read and written; own results told as plain ones; clones. -/
import Derived.Test.YtpckfpahmnhfcaaG25
namespace Go.Proofs.Ytpckfpahmnhfcaa.G
open Go Go.RowKit
set_option linter.unusedVariables false
set_option linter.unusedSimpArgs false
section
variable {P : Program} {T : TT} {o : Oper} {ρ : Operand → AV} {hp : AHeap}
/-- An element (or a part of one) of an own slice is read. -/
theorem head_load_rowm (hT : TOk P T) {α : Type} {enc : α → List AV} {L : List α} {y : α} {t e : TypeId} {d : TD} {p : Operand} {k sz off : Nat} {i : Int} {ys : List AV} {x : AV} (hv : idx L i = some y) (ho : o.op = .load t p) (hd : T t = some d) (hpp : ρ p = .rptr k (List.map enc L).length i.toNat off)
    (hk : hp[k]? = some (some (.row (List.map enc L) sz e))) (hc : acut off d.size (enc y) = some ys) (hx : (if d.kind.agg then some (AV.agg ys) else ys[0]?) = some x) : AHead P o ρ hp x none :=
  head_pure hT (by
    have := idx_el (f := enc) hv
    simp only [apure, ho, hd, hpp, aload, hk, if_true, this, hc]
    exact hx)
end
section rules
variable {P : Program} {T : TT} {B : Base} {Q : AExit → ASt → Prop} {ops : Array Oper} {o : Oper} {rest : List Oper} {ts ts' : List AV} {hp hp' : AHeap} {ds : List (FuncId × List AV)}
/-- A part of an element of an own slice is written. -/
theorem d_store_rowp (hT : TOk P T) {α : Type} {enc : α → List AV} {L : List α} {x y : α} {t e : TypeId} {d : TD} {p v : Operand} {k sz off : Nat} {i : Int} (hv : idx L i = some x) (hw : awantedL ops ts o = some true) (ho : o.op = .store t p v) (hd : T t = some d) (hpp : evalL ts p = .rptr k (List.map enc L).length i.toNat off) (hk : hp[k]? = some (some (.row (List.map enc L) sz e)))
    (hl : Nat.beq (evalL ts v).cellsOf.length d.size = true) (hfit : Nat.ble (off + d.size) (enc x).length = true) (hs : (evalL ts v).cellsOf.all AV.scal = true) (hy : splice off (evalL ts v).cellsOf (enc x) = enc y)
    (hh : hp.set k (some (.row (List.map enc (L.set i.toNat y)) sz e)) = hp') (ht : putL ts o.dst .undef = ts') (h : AOps P B ops Q rest ⟨ts', hp', ds⟩) : AOps P B ops Q (o :: rest) ⟨ts, hp, ds⟩ := by
  have hel := idx_el (f := enc) hv
  refine aops_store_row (st := ⟨ts, hp, ds⟩) hT hw ho hd hpp hk hel (by exact Nat.eq_of_beq_eq_true hl) (Nat.le_of_ble_eq_true hfit) (by
    refine List.all_eq_true.2 fun z hz => ?_
    have := List.all_eq_true.1 hs z hz
    unfold solid
    split
    · simp [AV.scal] at this
    · exact this) ?_
  show AOps P B ops Q rest (ASt.put ⟨ts, hp.set k (some (.row ((List.map enc L).set i.toNat (splice off (evalL ts v).cellsOf (enc x))) sz e)), ds⟩ o.dst .undef)
  rw [hy, ← List.map_set, hh]
  subst ht
  cases hd' : o.dst <;> (simp only [putL, hd'] at h; simp only [ASt.put]; exact h)
end rules

/-- A fresh own slice as a result, given away: a plain list. -/
theorem pcall_of_ocall {P : Program} {f : FuncId} {args : List AV} {xs : List (List AV)} {sz : Nat} {e : TypeId} (h : OCall P f args xs sz e) (hp : AV.underL 0 xs.flatten = true) : PCall P f args (.list xs) :=
  ⟨h.1, fun w S φ vs hr ht => (h.2 w S φ vs hr ht).mono fun en w' ⟨S1, φ1, a1, a2, a3⟩ => by
    have hφ : ∀ k, φ k = none := fun k => hr.dom k (Nat.zero_le _)
    cases en with
    | returned v =>
      have hv : Rep w' S1 φ1 v (.own 0 xs.length) := a3
      obtain ⟨hev, g, q1, q2⟩ := a1.live 0 _ rfl
      obtain ⟨g1, g2⟩ := hrel_give a1 (k := 0) rfl q1
      have hrow : ∀ (j : Nat) (x : AV), xs.flatten[j]? = some x → AV.under 0 x = true := fun j x hj => AV.underL_get hp j x hj
      have hlist : Rep w' (fun b => S1 b ∨ g = some b) Phi.nil v (.list xs) := by
        cases hv with
        | own hk' hle hv' =>
          have ha := hv' _ q1 rfl
          cases g with
          | none =>
            obtain ⟨_, _, he⟩ := q2
            have : xs = [] := by cases he; rfl
            subst this
            obtain ⟨_, A, rfl⟩ := ha
            exact .nil
          | some g =>
            obtain ⟨cap, cs, rfl, c1, c2, c3⟩ := ha
            obtain ⟨_, cs', ty, h4, h5, h6, h7⟩ := q2
            refine .list (sz := sz) (fun j => cs'.getD j Go.undef) (.inr rfl) rfl c1 hev (fun j x hj => ?_) (fun j x hj => ?_)
            · have hlt : j < cs'.size := Nat.lt_of_lt_of_le (List.getElem?_eq_some_iff.1 hj).1 h5
              simp [World.cell?, h4, hlt]
            · exact ((h7 j x hj).restrict (φ' := Phi.nil) (hrow j x hj) (fun k hk => by omega)).step g2.step.toNil
      have ext := a2.trans g2
      refine ⟨_, Phi.nil, hrel_nil g1.bound, ⟨⟨ext.step.s, ext.step.keep, fun k => .inl (hφ k), fun k g n sz e hk => by rw [hφ k] at hk; cases hk⟩, ext.os, ext.tape, ext.output, ext.size, ext.rest, ext.snew, fun k g L hk => by simp [Phi.nil] at hk⟩, hlist⟩
    | panicked c => exact a3.elim
    | outgrown => exact a3.elim⟩

/-- A block that is never looked at again. -/
theorem sweak_kill {ts : List AV} {h : AHeap} {ds : List (FuncId × List AV)} (k : Nat) {Bk : Blk} (hk : h[k]? = some (some Bk)) : SWeak ⟨ts, h, ds⟩ ⟨ts, h.set k none, ds⟩ := fun B S φ a w _ hr => by
  obtain ⟨hev, g, q1, q2⟩ := hr.heap.live k _ hk
  obtain ⟨g1, g2⟩ := hrel_give hr.heap hk q1
  exact ⟨_, _, g1, ⟨hr.tmps.1, fun j x hj => (hr.tmps.2 j x hj).step g2.step⟩, hr.defs.step g2.step, hr.ext.trans g2⟩

def cloneL {α : Type} (b : Nat) (L : List α) : Option (List α) := if L.length * b ≤ 140737488355328 then some L else none
theorem cloneL_spec {α : Type} {b : Nat} {L r : List α} (h : cloneL b L = some r) : L.length * b ≤ 140737488355328 ∧ r = L := by
  unfold cloneL at h
  split at h
  · rename_i hc; cases h; exact ⟨hc, rfl⟩
  · cases h
theorem all_len' {α : Type} {enc : α → List AV} {n : Nat} (h : ∀ x, (enc x).length = n) (L : List α) : ∀ el ∈ List.map enc L, el.length = n := fun el he => by obtain ⟨x, _, rfl⟩ := List.mem_map.1 he; exact h x
theorem all_sc' {α : Type} {enc : α → List AV} (h : ∀ x, (enc x).all AV.scal = true) (L : List α) : ∀ el ∈ List.map enc L, el.all AV.scal = true := fun el he => by obtain ⟨x, _, rfl⟩ := List.mem_map.1 he; exact h x
end Go.Proofs.Ytpckfpahmnhfcaa.G
