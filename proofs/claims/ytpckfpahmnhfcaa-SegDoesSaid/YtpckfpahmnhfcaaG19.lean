/- The ghost machine: arguments of a statement, told as abstract values; a contract of plain values as a run. -/
import Derived.Test.YtpckfpahmnhfcaaG18
namespace Go.Proofs.Ytpckfpahmnhfcaa.G
open Go Go.RowKit
set_option linter.unusedVariables false
set_option linter.unusedSimpArgs false
section
variable {P : Program} {T : TT} {H : Type} {enc : TypeId × Value → H}

theorem typ_int {t : TypeId} {xs : List AV} {d : TD} {k : IntKind} (h : Typ T t xs) (hd : T t = some d) (hk : d.kind = .int k) : ∃ n, xs = [.int k n] ∧ (Lit.int k n).wf = true := by
  cases h with
  | bool b h1 h2 => rw [hd] at h1; cases h1; rw [hk] at h2; cases h2
  | int n h1 h2 hw => rw [hd] at h1; cases h1; rw [hk] at h2; cases h2; exact ⟨n, rfl, hw⟩
  | slice rows h1 h2 h hb => rw [hd] at h1; cases h1; rw [hk] at h2; cases h2
  | struct xs h1 h2 h3 h4 => rw [hd] at h1; cases h1; rw [hk] at h2; cases h2
  | array xs h1 h2 h3 h4 h5 => rw [hd] at h1; cases h1; rw [hk] at h2; cases h2
theorem typ_bool {t : TypeId} {xs : List AV} {d : TD} (h : Typ T t xs) (hd : T t = some d) (hk : d.kind = .bool) : ∃ b, xs = [.bool b] := by
  cases h with
  | bool b h1 h2 => exact ⟨b, rfl⟩
  | int n h1 h2 hw => rw [hd] at h1; cases h1; rw [hk] at h2; cases h2
  | slice rows h1 h2 h hb => rw [hd] at h1; cases h1; rw [hk] at h2; cases h2
  | struct xs h1 h2 h3 h4 => rw [hd] at h1; cases h1; rw [hk] at h2; cases h2
  | array xs h1 h2 h3 h4 h5 => rw [hd] at h1; cases h1; rw [hk] at h2; cases h2
theorem typ_slice {t e : TypeId} {xs : List AV} {d : TD} (h : Typ T t xs) (hd : T t = some d) (hk : d.kind = .slice e) : ∃ rows, xs = [.list rows] ∧ ∀ el, el ∈ rows → Typ T e el := by
  cases h with
  | bool b h1 h2 => rw [hd] at h1; cases h1; rw [hk] at h2; cases h2
  | int n h1 h2 hw => rw [hd] at h1; cases h1; rw [hk] at h2; cases h2
  | slice rows h1 h2 h hb => rw [hd] at h1; cases h1; rw [hk] at h2; cases h2; exact ⟨rows, rfl, h⟩
  | struct xs h1 h2 h3 h4 => rw [hd] at h1; cases h1; rw [hk] at h2; cases h2
  | array xs h1 h2 h3 h4 h5 => rw [hd] at h1; cases h1; rw [hk] at h2; cases h2
theorem typ_sliceB {t e : TypeId} {xs : List AV} {d : TD} (h : Typ T t xs) (hd : T t = some d) (hk : d.kind = .slice e) : ∃ rows, xs = [.list rows] ∧ (∀ el, el ∈ rows → Typ T e el) ∧ rows.length ≤ maxLen := by
  cases h with
  | bool b h1 h2 => rw [hd] at h1; cases h1; rw [hk] at h2; cases h2
  | int n h1 h2 hw => rw [hd] at h1; cases h1; rw [hk] at h2; cases h2
  | slice rows h1 h2 h hb => rw [hd] at h1; cases h1; rw [hk] at h2; cases h2; exact ⟨rows, rfl, h, hb⟩
  | struct xs h1 h2 h3 h4 => rw [hd] at h1; cases h1; rw [hk] at h2; cases h2
  | array xs h1 h2 h3 h4 h5 => rw [hd] at h1; cases h1; rw [hk] at h2; cases h2
theorem typ_struct {t : TypeId} {xs : List AV} {d : TD} {fs : List (Nat × TypeId)} (h : Typ T t xs) (hd : T t = some d) (hk : d.kind = .struct fs) : xs.length = d.size ∧ ∀ (q : Nat × TypeId) (fd : TD), q ∈ fs → T q.2 = some fd → Typ T q.2 ((xs.drop q.1).take fd.size) := by
  cases h with
  | bool b h1 h2 => rw [hd] at h1; cases h1; rw [hk] at h2; cases h2
  | int n h1 h2 hw => rw [hd] at h1; cases h1; rw [hk] at h2; cases h2
  | slice rows h1 h2 h hb => rw [hd] at h1; cases h1; rw [hk] at h2; cases h2
  | struct xs h1 h2 h3 h4 => rw [hd] at h1; cases h1; rw [hk] at h2; cases h2; exact ⟨h3, h4⟩
  | array xs h1 h2 h3 h4 h5 => rw [hd] at h1; cases h1; rw [hk] at h2; cases h2
theorem typ_array {t e : TypeId} {xs : List AV} {d ed : TD} {n : Nat} (h : Typ T t xs) (hd : T t = some d) (hk : d.kind = .array n e) (hed : T e = some ed) : xs.length = d.size ∧ ∀ i, i < n → Typ T e ((xs.drop (i * ed.size)).take ed.size) := by
  cases h with
  | bool b h1 h2 => rw [hd] at h1; cases h1; rw [hk] at h2; cases h2
  | int n h1 h2 hw => rw [hd] at h1; cases h1; rw [hk] at h2; cases h2
  | slice rows h1 h2 h hb => rw [hd] at h1; cases h1; rw [hk] at h2; cases h2
  | struct xs h1 h2 h3 h4 => rw [hd] at h1; cases h1; rw [hk] at h2; cases h2
  | array xs h1 h2 h3 h4 h5 => rw [hd] at h1; cases h1; rw [hk] at h2; cases h2; rw [hed] at h3; cases h3; exact ⟨h4, h5⟩

/-- An argument that is no struct and no array. -/
theorem arg_one (hT : TOk P T) {w : World} {base : Nat} {t : TypeId} {td : TD} {v : Value} {d : DataW H} {ps : List MemPlace} {f2 : Nat} (htd : T t = some td) (hok : okT T f2 t = true) (hagg : td.kind.agg = false) (hv : Value.okWide P w .any base t v) (h : DataW.Trod enc P w 0 (fun _ => true) true t v d ps) :
    ∃ x, Typ T t [x] ∧ Rep w (fun b => b < w.heap.size) Phi.nil v x := by
  obtain ⟨fuel, hf⟩ := h
  obtain ⟨i, ut, h1, h2, h3, _, h5, _⟩ := hT.get htd
  have hone : v.cells.toList = [v] ∧ td.size = 1 := by
    cases f2 with
    | zero => simp [okT] at hok
    | succ f2 =>
      simp only [okT, htd] at hok
      unfold Value.okWide at hv
      cases hkind : td.kind with
      | bool =>
        rw [hkind] at hok h5
        rw [kind_bool h5] at h2
        rw [h2] at hv
        refine ⟨?_, Nat.eq_of_beq_eq_true hok⟩
        cases v <;> simp [Cell.okWide, Cell.ok, h2] at hv <;> rfl
      | int k =>
        rw [hkind] at hok h5
        rw [kind_int h5] at h2
        rw [h2] at hv
        refine ⟨?_, Nat.eq_of_beq_eq_true hok⟩
        cases v <;> simp [Cell.okWide, Cell.ok, h2] at hv <;> rfl
      | slice e =>
        rw [hkind] at hok h5
        rw [kind_slice h5] at h2
        rw [h2] at hv
        simp only [Bool.and_eq_true] at hok
        refine ⟨?_, Nat.eq_of_beq_eq_true hok.1.1⟩
        cases v <;> simp [Cell.okWide, Cell.ok, h2] at hv <;> rfl
      | struct fs => rw [hkind] at hagg; cases hagg
      | array n e => rw [hkind] at hagg; cases hagg
      | _ => rw [hkind] at hok; simp at hok
  rw [hone.1] at hf
  obtain ⟨xs, h1, h2⟩ := trod_typ hT fuel t [v] d ps f2 td hf hok htd (by simp [hone.2])
  obtain ⟨x, rfl⟩ := List.length_eq_one_iff.1 h2.1
  exact ⟨x, h1, by have := h2.2 0 x rfl; simpa using this⟩

/-- An argument that is a struct or an array. -/
theorem arg_agg (hT : TOk P T) {w : World} {base : Nat} {t : TypeId} {td : TD} {v : Value} {d : DataW H} {ps : List MemPlace} {f2 : Nat} (htd : T t = some td) (hok : okT T f2 t = true) (hagg : td.kind.agg = true) (hv : Value.okWide P w .any base t v) (h : DataW.Trod enc P w 0 (fun _ => true) true t v d ps) :
    ∃ xs, Typ T t xs ∧ Rep w (fun b => b < w.heap.size) Phi.nil v (.agg xs) := by
  obtain ⟨fuel, hf⟩ := h
  obtain ⟨i, ut, h1, h2, h3, _, h5, _⟩ := hT.get htd
  have hce : P.cellsOf t = td.size := by simp [Program.cellsOf, h1, h3]
  obtain ⟨cs, rfl, hsz⟩ : ∃ cs, v = .agg cs ∧ cs.size = P.cellsOf t := by
    unfold Value.okWide at hv
    cases hkind : td.kind with
    | struct fs =>
      rw [hkind] at h5
      obtain ⟨F, rfl, hF⟩ := kind_struct h5
      rw [h2] at hv
      obtain ⟨cs, e1, e2, _⟩ := hv
      exact ⟨cs, e1, e2⟩
    | array n e =>
      rw [hkind] at h5
      rw [kind_array h5] at h2
      rw [h2] at hv
      obtain ⟨cs, e1, e2, _⟩ := hv
      exact ⟨cs, e1, e2⟩
    | _ => rw [hkind] at hagg; simp [TK.agg] at hagg
  obtain ⟨xs, h1, h2⟩ := trod_typ hT fuel t cs.toList d ps f2 td hf hok htd (by simp; omega)
  refine ⟨xs, h1, .agg (by rw [h2.1]; simp) fun j x hj => ?_⟩
  have := h2.2 j x hj
  simpa [List.getD_eq_getElem?_getD, Array.getD_eq_getD_getElem?] using this

theorem trel_cons {w : World} {S : Nat → Prop} {φ : Phi} {v : Value} {vs : List Value} {x : AV} {xs : List AV} (h : Rep w S φ v x) (hs : TRel w S φ vs.toArray xs) : TRel w S φ (v :: vs).toArray (x :: xs) := by
  refine ⟨by have := hs.1; simp at this ⊢; exact this, fun j y hj => ?_⟩
  cases j with
  | zero => simp at hj; subst hj; simpa using h
  | succ j =>
    have := hs.2 j y (by simpa using hj)
    simpa [Array.getD_eq_getD_getElem?] using this
theorem trel_nil' {w : World} {S : Nat → Prop} {φ : Phi} : TRel w S φ ([] : List Value).toArray [] := ⟨rfl, fun j x h => by simp at h⟩

/-- A law that returns true. -/
theorem law_true {f : FuncId} {args : List AV} {w : World} {vs : Array Value} (hc : PCall P f args (.bool true)) (ht : TRel w (fun b => b < w.heap.size) Phi.nil vs args) : Calls P f vs w fun e w' => e = .returned (.bool true) ∧ Below w.heap.size w w' :=
  (hc.2 w (fun b => b < w.heap.size) Phi.nil vs (hrel_nil fun b h => h) ht).mono fun e w' ⟨S', φ', h1, h2, h3⟩ => by
    cases e with
    | returned v => cases h3; exact ⟨rfl, h2.below⟩
    | panicked c => exact h3.elim
    | outgrown => exact h3.elim
end
end Go.Proofs.Ytpckfpahmnhfcaa.G
