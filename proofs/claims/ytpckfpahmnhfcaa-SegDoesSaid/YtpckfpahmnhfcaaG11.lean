/- The ghost machine: structs and arrays compared by ==, !=; stores written out. -/
import Derived.Test.YtpckfpahmnhfcaaG10
import Derived.Laws.StructEq
namespace Go.Proofs.Ytpckfpahmnhfcaa.G
open Go Go.RowKit
set_option linter.unusedVariables false
set_option linter.unusedSimpArgs false

/-- May structs of this type be compared field by field? -/
def eqOk (P : Program) (t : TypeId) : Bool :=
  match P.underlying t with
  | some (.struct fs) => !P.stoodInHeld t && fs.toList.all fun f => f.name != "_"
  | _ => true
def EqAll (P : Program) (T : TT) (ok : TypeId → Bool) : Prop := ∀ t d fs, T t = some d → d.kind = .struct fs → ok t = true → eqOk P t = true
/-- Types that '==' of this program looks into: no interface among them. -/
def guardOk (P : Program) (t : TypeId) : Bool := !P.eqGuardType P.depth t

def eqFs (T : TT) (rec : TypeId → List AV → List AV → Option Bool) : List (Nat × TypeId) → List AV → List AV → Option Bool
  | [], _, _ => some true
  | (off, ft) :: fs, xs, ys => match T ft with
    | some fd => match Nat.ble (off + fd.size) xs.length, Nat.ble (off + fd.size) ys.length with
      | true, true => match rec ft ((xs.drop off).take fd.size) ((ys.drop off).take fd.size), eqFs T rec fs xs ys with
        | some r, some s => some (r && s)
        | _, _ => none
      | _, _ => none
    | none => none
def eqIs (rec : List AV → List AV → Option Bool) (sz : Nat) : List Nat → List AV → List AV → Option Bool
  | [], _, _ => some true
  | i :: is, xs, ys => match Nat.ble (i * sz + sz) xs.length, Nat.ble (i * sz + sz) ys.length with
    | true, true => match rec ((xs.drop (i * sz)).take sz) ((ys.drop (i * sz)).take sz), eqIs rec sz is xs ys with
      | some r, some s => some (r && s)
      | _, _ => none
    | _, _ => none
def aeqT (T : TT) (ok : TypeId → Bool) : Nat → TypeId → List AV → List AV → Option Bool
  | 0 => fun _ _ _ => none
  | d + 1 => fun t xs ys => match T t with
    | some td => match td.kind with
      | .int _ => match xs, ys with
        | [.int k1 a], [.int k2 b] => if k1 = k2 then some (a == b) else none
        | _, _ => none
      | .bool => match xs, ys with
        | [.bool a], [.bool b] => some (a == b)
        | _, _ => none
      | .struct fs => match ok t with
        | true => eqFs T (aeqT T ok d) fs xs ys
        | false => none
      | .array n e => match T e with
        | some ed => eqIs (aeqT T ok d e) ed.size (List.range n) xs ys
        | none => none
      | _ => none
    | none => none

section
variable {P : Program} {T : TT} {ok : TypeId → Bool}
def mkV (d : TD) (vs : List Value) : Value := if d.kind.agg then .agg vs.toArray else vs.headD Go.undef

def RepL (w : World) (S : Nat → Prop) (φ : Phi) (vs : List Value) (xs : List AV) : Prop := vs.length = xs.length ∧ ∀ (j : Nat) (x : AV), xs[j]? = some x → Rep w S φ (vs.getD j Go.undef) x

theorem repL_sub {w : World} {S : Nat → Prop} {φ : Phi} {vs : List Value} {xs : List AV} (h : RepL w S φ vs xs) (off n : Nat) : RepL w S φ ((vs.drop off).take n) ((xs.drop off).take n) := by
  refine ⟨by simp [h.1], fun j x hj => ?_⟩
  rw [List.getElem?_take] at hj
  split at hj
  · rename_i hjn
    rw [List.getElem?_drop] at hj
    have := h.2 _ x hj
    simpa [List.getD_eq_getElem?_getD, List.getElem?_take, hjn] using this
  · cases hj

theorem part_mk (hT : TOk P T) {t : TypeId} {d : TD} (hd : T t = some d) (w : World) (vs : List Value) (off : Nat) (h : off + d.size ≤ vs.length) (h1 : d.kind.agg = false → d.size = 1) : (part t vs.toArray off).run P w = .ok (mkV d ((vs.drop off).take d.size)) w := by
  have ha := run_isAgg hT hd w
  have hs := run_sizeT hT hd w
  unfold mkV
  cases hagg : d.kind.agg with
  | true =>
    simp only [part, Sem.run_bind, ha, hagg, Result.andThen_ok, if_true, hs, Sem.run_pure]
    congr 2
    simp
  | false =>
    have hsz := h1 hagg
    have hlt : off < vs.length := by omega
    simp only [part, Sem.run_bind, ha, hagg, Result.andThen_ok, Bool.false_eq_true, if_false, hsz]
    have hd0 : (List.take 1 (List.drop off vs)).headD Go.undef = vs[off] := by
      rw [List.drop_eq_getElem_cons hlt]; rfl
    rw [hd0]
    simp [hlt]

theorem eqT_run (hT : TOk P T) (hE : EqAll P T ok) (hS : ∀ t d, T t = some d → d.kind.agg = false → d.size = 1) {w : World} {S : Nat → Prop} {φ : Phi} : ∀ (d : Nat) (t : TypeId) (td : TD) (xs ys : List AV) (vs us : List Value) (r : Bool) (D : Nat), T t = some td → d ≤ D → aeqT T ok d t xs ys = some r →
    RepL w S φ vs xs → RepL w S φ us ys → (Op.equalIn D t (mkV td vs) (mkV td us)).run P w = .ok r w := by
  intro d
  induction d with
  | zero => intro t td xs ys vs us r D _ _ h; simp [aeqT] at h
  | succ d ih =>
    intro t td xs ys vs us r D htd hD h hv hu
    obtain ⟨D, rfl⟩ : ∃ D', D = D' + 1 := ⟨D - 1, by omega⟩
    obtain ⟨i, ut, h1, h2, h3, _, h5, _⟩ := hT.get htd
    simp only [aeqT, htd] at h
    unfold mkV
    split at h
    · rename_i k hk
      rw [hk] at h5
      rw [kind_int h5] at h2
      split at h
      · rename_i k1 a k2 b
        split at h
        · rename_i hkk
          cases h
          subst hkk
          obtain ⟨v, rfl⟩ : ∃ v, vs = [v] := List.length_eq_one_iff.1 hv.1
          obtain ⟨u, rfl⟩ : ∃ u, us = [u] := List.length_eq_one_iff.1 hu.1
          have e1 := rep_int_inv (hv.2 0 _ rfl)
          have e2 := rep_int_inv (hu.2 0 _ rfl)
          simp only [List.getD_cons_zero] at e1 e2
          subst e1 e2
          simp [hk, TK.agg, Op.equalIn, run_underlying h2]
        · cases h
      · cases h
    · rename_i hk
      rw [hk] at h5
      rw [kind_bool h5] at h2
      split at h
      · rename_i a b
        cases h
        obtain ⟨v, rfl⟩ : ∃ v, vs = [v] := List.length_eq_one_iff.1 hv.1
        obtain ⟨u, rfl⟩ : ∃ u, us = [u] := List.length_eq_one_iff.1 hu.1
        have e1 : v = .bool a := by have := hv.2 0 _ rfl; simp only [List.getD_cons_zero] at this; cases this; rfl
        have e2 : u = .bool b := by have := hu.2 0 _ rfl; simp only [List.getD_cons_zero] at this; cases this; rfl
        subst e1 e2
        simp [hk, TK.agg, Op.equalIn, run_underlying h2]
      · cases h
    · rename_i fs hk
      split at h
      rotate_left
      · cases h
      rename_i hok
      have heq := hE t td fs htd hk hok
      rw [hk] at h5
      obtain ⟨F, rfl, hF⟩ := kind_struct h5
      simp only [eqOk, h2, Bool.and_eq_true, Bool.not_eq_true'] at heq
      have hfo : P.fieldsOf t = F := by simp [Program.fieldsOf, h2]
      simp only [hk, TK.agg, if_true]
      rw [run_equalIn_struct (P := P) w D t vs.toArray us.toArray (by rw [hfo]; exact h2) heq.1, hfo]
      have key : ∀ (F : List Field) (fs : List (Nat × TypeId)) (r : Bool), F.map (fun f => (f.offset, f.type)) = fs → (F.all fun f => f.name != "_") = true → eqFs T (aeqT T ok d) fs xs ys = some r → (Op.eqFields D vs.toArray us.toArray F).run P w = .ok r w := by
        intro F
        induction F with
        | nil => intro fs r hF _ h; subst hF; simp [eqFs] at h; subst h; simp [Op.eqFields]
        | cons f F ihF =>
          intro fs r hF hn h
          subst hF
          simp only [List.all_cons, Bool.and_eq_true] at hn
          simp only [List.map_cons, eqFs] at h
          split at h
          · rename_i fd hfd
            split at h
            · rename_i hb1 hb2
              split at h
              · rename_i r1 s1 hr1 hs1
                cases h
                have l1 : f.offset + fd.size ≤ vs.length := by rw [hv.1]; exact Nat.le_of_ble_eq_true hb1
                have l2 : f.offset + fd.size ≤ us.length := by rw [hu.1]; exact Nat.le_of_ble_eq_true hb2
                have p1 := part_mk hT hfd w vs f.offset l1 (hS _ _ hfd)
                have p2 := part_mk hT hfd w us f.offset l2 (hS _ _ hfd)
                have e := ih f.type fd _ _ _ _ r1 D hfd (by omega) hr1 (repL_sub hv f.offset fd.size) (repL_sub hu f.offset fd.size)
                have rest := ihF _ s1 rfl hn.2 hs1
                have hn' : f.name ≠ "_" := by simpa using hn.1
                rw [Op.eqFields]
                simp only [if_pos hn', Sem.run_bind, p1, p2, e, Result.andThen_ok]
                cases r1
                · simp
                · simpa using rest
              · cases h
            · cases h
          · cases h
      exact key F.toList fs r hF heq.2 h
    · rename_i n e hk
      rw [hk] at h5
      rw [kind_array h5] at h2
      split at h
      · rename_i ed hed
        obtain ⟨i', ut', g1, g2, g3, _⟩ := hT.get hed
        have hce : P.cellsOf e = ed.size := by simp [Program.cellsOf, g1, g3]
        simp only [hk, TK.agg, if_true]
        rw [run_equalIn_array w D vs.toArray us.toArray h2 g1, hce]
        have key : ∀ (is : List Nat) (r : Bool), eqIs (aeqT T ok d e) ed.size is xs ys = some r → (Op.eqItems D e ed.size vs.toArray us.toArray is).run P w = .ok r w := by
          intro is
          induction is with
          | nil => intro r h; simp [eqIs] at h; subst h; simp [Op.eqItems]
          | cons j is ihI =>
            intro r h
            simp only [eqIs] at h
            split at h
            · rename_i hb1 hb2
              split at h
              · rename_i r1 s1 hr1 hs1
                cases h
                have l1 : j * ed.size + ed.size ≤ vs.length := by rw [hv.1]; exact Nat.le_of_ble_eq_true hb1
                have l2 : j * ed.size + ed.size ≤ us.length := by rw [hu.1]; exact Nat.le_of_ble_eq_true hb2
                have p1 := part_mk hT hed w vs (j * ed.size) l1 (hS _ _ hed)
                have p2 := part_mk hT hed w us (j * ed.size) l2 (hS _ _ hed)
                have e' := ih e ed _ _ _ _ r1 D hed (by omega) hr1 (repL_sub hv _ _) (repL_sub hu _ _)
                have rest := ihI s1 hs1
                simp only [Op.eqItems, Sem.run_bind, p1, p2, e', Result.andThen_ok]
                cases r1
                · simp
                · simpa using rest
              · cases h
            · cases h
        exact key _ r h
      · cases h
    · cases h

/-- a == b, a != b, structs or arrays. -/
theorem head_eqs {o : Oper} {ρ : Operand → AV} {hp : AHeap} (hT : TOk P T) (hE : EqAll P T ok) (hS : ∀ t d, T t = some d → d.kind.agg = false → d.size = 1) {op : BinOp} {t yt : TypeId} {td : TD} {x y : Operand} {xs ys : List AV} {r q : Bool} (ho : o.op = .binOp op t x y yt) (hop : (op = .eql ∧ q = r) ∨ (op = .neq ∧ q = !r)) (htd : T t = some td) (hagg : td.kind.agg = true)
    (hg : P.eqGuardType P.depth t = false) (hx : ρ x = .agg xs) (hy : ρ y = .agg ys) (hr : aeqT T ok 8 t xs ys = some r) : AHead P o ρ hp (.bool q) none := head_ro fun w S φ a hl hev => by
  have e1 := hev x (by simp [ho, Op.operands])
  have e2 := hev y (by simp [ho, Op.operands])
  rw [hx] at e1
  rw [hy] at e2
  generalize hav : a.eval x = v at e1
  generalize hau : a.eval y = u at e2
  cases e1 with
  | @agg φ vs cs hl1 hr1 =>
    cases e2 with
    | @agg φ us cs' hl2 hr2 =>
      have hv : RepL w S φ vs.toList xs := ⟨by simpa using hl1, fun j x hj => by
        have := hr1 j x hj
        simpa [List.getD_eq_getElem?_getD, Array.getD_eq_getD_getElem?] using this⟩
      have hu : RepL w S φ us.toList ys := ⟨by simpa using hl2, fun j x hj => by
        have := hr2 j x hj
        simpa [List.getD_eq_getElem?_getD, Array.getD_eq_getD_getElem?] using this⟩
      have key := eqT_run hT hE hS 8 t td xs ys vs.toList us.toList r 10000 htd (by omega) hr hv hu
      simp only [mkV, hagg, if_true, Array.toArray_toList] at key
      have hgd : ∀ op', (eqGuard op' t x y (.agg vs) (.agg us)).run P w = .ok () w := fun op' => by
        cases op' <;> first
          | rfl
          | (show (do if (!(← program).eqGuardType (← program).depth t) then pure () else if (← Op.eqGuardIn Op.maxDepth t (.agg vs) (.agg us)) then unsupported (.noEntry "binop/eql: two nil values of an interface type with methods, in a part of a struct or an array") else pure () : Sem Unit).run P w = .ok () w
             simp only [Sem.run_bind, program, Sem.run, Result.andThen_ok, hg, Bool.not_false, if_true]; rfl)
      refine ⟨.bool q, ?_, .bool q⟩
      unfold execOp
      simp only [ho, hav, hau, Sem.run_bind, hgd, Result.andThen_ok, Sem.run_pure]
      rcases hop with ⟨rfl, rfl⟩ | ⟨rfl, rfl⟩
      · have : binOp .eql t (.agg vs) (.agg us) = (do pure (.bool (← Op.equal t (.agg vs) (.agg us)))) := rfl
        rw [this]
        simp only [Op.equal, Op.maxDepth, Sem.run_bind, key, Result.andThen_ok, Sem.run_pure]
      · have : binOp .neq t (.agg vs) (.agg us) = (do pure (.bool (!(← Op.equal t (.agg vs) (.agg us))))) := rfl
        rw [this]
        simp only [Op.equal, Op.maxDepth, Sem.run_bind, key, Result.andThen_ok, Sem.run_pure]
end

section rules
variable {P : Program} {T : TT} {B : Base} {Q : AExit → ASt → Prop} {ops : Array Oper} {o : Oper} {rest : List Oper} {ts ts' : List AV} {hp hp' : AHeap} {ds : List (FuncId × List AV)}

/-- A whole variable is written. -/
theorem d_store_all (hT : TOk P T) {t : TypeId} {d : TD} {p x : Operand} {k : Nat} {cs : List AV} {v : AV} (hw : awantedL ops ts o = some true) (ho : o.op = .store t p x) (hd : T t = some d) (hpp : evalL ts p = .ptr k 0) (hk : hp[k]? = some (some (.var cs)))
    (hv : strict (evalL ts x) = some v) (hl : Nat.beq v.cellsOf.length d.size = true) (hfit : Nat.beq cs.length d.size = true) (hs : v.cellsOf.all (solid hp) = true)
    (hh : hp.set k (some (.var v.cellsOf)) = hp') (ht : putL ts o.dst .undef = ts') (h : AOps P B ops Q rest ⟨ts', hp', ds⟩) : AOps P B ops Q (o :: rest) ⟨ts, hp, ds⟩ := by
  rw [strict_eq] at hv
  cases hv
  have h1 := Nat.eq_of_beq_eq_true hl
  have h2 := Nat.eq_of_beq_eq_true hfit
  refine aops_store hT (st := ⟨ts, hp, ds⟩) hw ho hd hpp hk h1 (by omega) hs ?_
  have : splice 0 (evalL ts x).cellsOf cs = (evalL ts x).cellsOf := by
    simp only [splice, List.take_zero, List.nil_append, Nat.zero_add]
    rw [List.drop_eq_nil_of_le (by omega), List.append_nil]
  show AOps P B ops Q rest (ASt.put ⟨ts, hp.set k (some (.var (splice 0 (evalL ts x).cellsOf cs))), ds⟩ o.dst .undef)
  rw [this, hh, ← show putL ts o.dst .undef = ts' from ht] at *
  cases hd' : o.dst <;> (simp only [putL, hd'] at h; simp only [ASt.put]; exact h)

/-- A part of a variable is written. -/
theorem d_store (hT : TOk P T) {t : TypeId} {d : TD} {p x : Operand} {k off : Nat} {cs : List AV} {v : AV} (hw : awantedL ops ts o = some true) (ho : o.op = .store t p x) (hd : T t = some d) (hpp : evalL ts p = .ptr k off) (hk : hp[k]? = some (some (.var cs)))
    (hv : strict (evalL ts x) = some v) (hl : Nat.beq v.cellsOf.length d.size = true) (hfit : Nat.ble (off + d.size) cs.length = true) (hs : v.cellsOf.all (solid hp) = true) {cs' : List AV} (hcs : splice off v.cellsOf cs = cs')
    (hh : hp.set k (some (.var cs')) = hp') (ht : putL ts o.dst .undef = ts') (h : AOps P B ops Q rest ⟨ts', hp', ds⟩) : AOps P B ops Q (o :: rest) ⟨ts, hp, ds⟩ := by
  rw [strict_eq] at hv
  cases hv
  subst hcs
  have h1 := Nat.eq_of_beq_eq_true hl
  have h2 := Nat.le_of_ble_eq_true hfit
  refine aops_store hT (st := ⟨ts, hp, ds⟩) hw ho hd hpp hk h1 h2 hs ?_
  show AOps P B ops Q rest (ASt.put ⟨ts, hp.set k (some (.var (splice off (evalL ts x).cellsOf cs))), ds⟩ o.dst .undef)
  rw [hh, ← show putL ts o.dst .undef = ts' from ht] at *
  cases hd' : o.dst <;> (simp only [putL, hd'] at h; simp only [ASt.put]; exact h)
end rules
end Go.Proofs.Ytpckfpahmnhfcaa.G
