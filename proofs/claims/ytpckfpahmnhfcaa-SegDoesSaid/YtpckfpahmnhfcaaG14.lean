/- The ghost machine: calls in a frame, own results, frozen variables, nil slices. -/
import Derived.Test.YtpckfpahmnhfcaaG12
import Derived.Test.YtpckfpahmnhfcaaG13
import Derived.Lib.SliceRun
namespace Go.Proofs.Ytpckfpahmnhfcaa.G
open Go Go.RowKit
set_option linter.unusedVariables false
set_option linter.unusedSimpArgs false

/-! ### calls in a frame -/
section rules
variable {P : Program} {T : TT} {B : Base} {Q : AExit → ASt → Prop} {ops : Array Oper} {o : Oper} {rest : List Oper} {ts ts' ts'' : List AV} {hp hp' : AHeap} {ds : List (FuncId × List AV)}

/-- A call that reads and changes some blocks of the call's own. -/
theorem d_call {fx : Operand} {xs : Array Operand} {tys : Array TypeId} {f : FuncId} {fs cs args : List AV} {h0 h0' : AHeap} {v : AV} (rs : List Nat) (hc : ACall P f args h0 (.ret v) h0') (hl : h0.length = rs.length) (hl' : h0'.length = rs.length) (nd : rs.Nodup) (hf0 : flatH h0) (hf0' : flatH h0') (hua : AV.underL rs.length args = true) (huv : AV.under rs.length v = true)
    (hw : awantedL ops ts o = some true) (ho : o.op = .call ⟨.value fx, xs, tys⟩) (hf : evalL ts fx = .fn f fs cs) (ha : fs ++ xs.toList.map (evalL ts) ++ cs = AV.renL (rnum rs) args) (hget : rs.map (fun k => hp[k]?) = h0.map some)
    (hh : updH rs h0' hp = hp') (ht : putL ts o.dst (v.ren (rnum rs)) = ts') (h : AOps P B ops Q rest ⟨ts', hp', ds⟩) : AOps P B ops Q (o :: rest) ⟨ts, hp, ds⟩ := by
  have hg : ∀ (j k : Nat), rs[j]? = some k → hp[k]? = h0[j]? ∧ k < hp.length := fun j k hj => by
    have h1 : (rs.map fun k => hp[k]?)[j]? = (h0.map some)[j]? := by rw [hget]
    simp only [List.getElem?_map, hj, Option.map_some] at h1
    have hlt : j < h0.length := by rw [hl]; exact (List.getElem?_eq_some_iff.1 hj).1
    rw [List.getElem?_eq_getElem hlt] at h1 ⊢
    simp only [Option.map_some, Option.some.injEq] at h1
    exact ⟨h1, (List.getElem?_eq_some_iff.1 h1).1⟩
  refine aops_call (st := ⟨ts, hp, ds⟩) hw ho hf ha (acall_frame hc rs hl hl' nd hg hf0 hf0' hua huv) ?_
  subst hh; subst ht
  cases hd : o.dst <;> (simp only [putL, hd] at h; simp only [ASt.put]; exact h)

/-! ### own results -/
/-- A call whose result is a fresh slice of the caller's own. -/
def OCall (P : Program) (f : FuncId) (args : List AV) (xs : List (List AV)) (sz : Nat) (e : TypeId) : Prop := ACall P f args [] (.ret (.own 0 xs.length)) [some (.row xs sz e)]

theorem head_ocall {ρ : Operand → AV} {fx : Operand} {xs : Array Operand} {tys : Array TypeId} {f : FuncId} {fs cs args : List AV} {ys : List (List AV)} {sz : Nat} {e : TypeId} (k : Nat) (hc : OCall P f args ys sz e) (hu : AV.underL 0 args = true) (hy : AV.underL 0 ys.flatten = true)
    (ho : o.op = .call ⟨.value fx, xs, tys⟩) (hf : ρ fx = .fn f fs cs) (ha : fs ++ xs.toList.map ρ ++ cs = args) : AHead P o ρ hp (.own k ys.length) (some (k, .row ys sz e)) := fun w S φ a next Q hl hb hev hn hk => by
  have hfx := hev fx (by simp [ho, Op.operands, Call.operands])
  rw [hf] at hfx
  obtain ⟨first, cap, hv, t1, t2⟩ := rep_fn_inv hfx
  have tx : TRel w S φ (xs.map a.eval) (xs.toList.map ρ) := ⟨by simp, fun j x hj => by
    simp only [List.getElem?_map, Array.getElem?_toList, Option.map_eq_some_iff] at hj
    obtain ⟨y, hy, rfl⟩ := hj
    have := hev y (by simp [ho, Op.operands, Call.operands]; exact .inr (Array.mem_of_getElem? hy))
    simpa [Array.getD_eq_getD_getElem?, hy] using this⟩
  have hargs : TRel w S φ (first ++ xs.map a.eval ++ cap) args := by rw [← ha]; exact trel_append (trel_append t1 tx) t2
  unfold Oper.wp execOp
  simp only [ho, resolve, hv, Deferred.ofValue, Sem.run_bind, Sem.run_pure, Result.andThen_ok, invoke, run_call hc.1]
  refine (hc.2 w S Phi.nil _ (hrel_nil hb) (trel_nil hargs hu)).mono fun e' w' ⟨S', φ', h1, h2, h3⟩ => ?_
  cases e' with
  | returned v =>
    obtain ⟨hev', g, g1, g2⟩ := h1.live 0 _ rfl
    refine hk v w' S' (updPhi φ k (some ((Blk.row ys sz e).loc g))) h2.below h2.step.s (fun b hb => ?_) h1.bound ⟨hev', g, rfl, ?_, fun g0 hg => ?_⟩ ?_
    · rcases h2.snew b hb with h | h | ⟨k, L, h, _⟩
      · exact .inl h
      · exact .inr h
      · simp [Phi.nil] at h
    · cases g with
      | none => exact g2
      | some g =>
        obtain ⟨q1, cs', ty, q2, q3, q4, q5⟩ := g2
        exact ⟨q1, cs', ty, q2, q3, q4, fun j x hj => (q5 j x hj).restrict (AV.underL_get hy j x hj) (fun k hk => by omega)⟩
    · subst hg
      rcases h2.loc 0 g0 _ g1 rfl with h | ⟨k, L, h, _⟩
      · exact h
      · simp [Phi.nil] at h
    · cases h3 with
      | own q1 q2 q3 q4 =>
        refine .own (by simp [updPhi]) (fun L hL => ?_) (fun L hL hn => ?_) q4
        · simp [updPhi] at hL; subst hL; exact Nat.le_refl _
        · simp [updPhi] at hL; subst hL; exact q3 _ g1 hn
  | panicked c => exact h3.elim
  | outgrown => exact h3.elim

/-! ### nil slices -/
theorem aops_isnil {st : ASt} (hT : TOk P T) {t t' e : TypeId} {d : TD} {x : Operand} {xs : List (List AV)} (hw : awanted ops st o = some true) (ho : o.op = .binOp .eql t x (.const (.slice none 0 0)) t') (hd : T t = some d) (hk : d.kind = .slice e) (hx : st.eval x = .list xs)
    (h1 : xs = [] → AOps P B ops Q rest (st.put o.dst (.bool true))) (h2 : AOps P B ops Q rest (st.put o.dst (.bool false))) : AOps P B ops Q (o :: rest) st :=
  aops_step hw fun K hK S φ a w hr => by
    obtain ⟨it, ut, e1, e2, e3, _, e5, _⟩ := hT.get hd
    rw [hk] at e5
    rw [kind_slice e5] at e2
    have hxr := rel_eval (st := st) hr.tmps x
    rw [hx] at hxr
    generalize hav : a.eval x = v at hxr
    have fin : ∀ (A : Option Addr) (n c : Nat), v = .slice A n c → (A = none → xs = []) → o.wp P a w (fun a' w' => ∃ S' φ' s', Rel B S' φ' s' a' w' ∧ K s') (Lift B Q) := fun A n c hv hA => by
      subst hv
      have hrn := Lib.run_eql_slice_nil (P := P) w t e A n c 0 0 e2
      have hg : (eqGuard .eql t x (.const (.slice none 0 0)) (.slice A n c) (.slice none 0 0)).run P w = .ok () w := rfl
      unfold Oper.wp execOp
      have hc : a.eval (.const (.slice none 0 0)) = .slice none 0 0 := rfl
      simp only [ho, hav, hc, Sem.run_bind, Sem.run_pure, hg, Result.andThen_ok, hrn, Oper.upon_value]
      cases A with
      | none => exact ⟨S, φ, _, rel_put (st := st) hr o.dst (.bool true), hK _ (h1 (hA rfl))⟩
      | some A => exact ⟨S, φ, _, rel_put (st := st) hr o.dst (.bool false), hK _ h2⟩
    cases hxr with
    | nil => exact fin _ _ _ rfl (fun _ => rfl)
    | list u hS hlen hcap hsz hc hr' => exact fin _ _ _ rfl (fun h => by cases h)

theorem d_isnil (hT : TOk P T) {t t' e : TypeId} {d : TD} {x : Operand} {xs : List (List AV)} (hw : awantedL ops ts o = some true) (ho : o.op = .binOp .eql t x (.const (.slice none 0 0)) t') (hd : T t = some d) (hk : d.kind = .slice e) (hx : evalL ts x = .list xs)
    (ht : putL ts o.dst (.bool true) = ts') (hf : putL ts o.dst (.bool false) = ts'') (h1 : xs = [] → AOps P B ops Q rest ⟨ts', hp, ds⟩) (h2 : AOps P B ops Q rest ⟨ts'', hp, ds⟩) : AOps P B ops Q (o :: rest) ⟨ts, hp, ds⟩ := by
  subst ht; subst hf
  refine aops_isnil (st := ⟨ts, hp, ds⟩) hT hw ho hd hk hx (fun he => ?_) ?_
  · have := h1 he
    cases hd : o.dst <;> (simp only [putL, hd] at this; simp only [ASt.put]; exact this)
  · cases hd : o.dst <;> (simp only [putL, hd] at h2; simp only [ASt.put]; exact h2)

/-! ### appends, states written out -/
theorem d_append (hT : TOk P T) {t e : TypeId} {d ed : TD} {s y : Operand} {k sz : Nat} {xs ys : List (List AV)} (hw : awantedL ops ts o = some true) (ho : o.op = .call ⟨.builtin .append, #[s, y], #[t, t]⟩) (hd : T t = some d) (hk : d.kind = .slice e) (hed : T e = some ed)
    (hs : evalL ts s = .own k xs.length) (hb : hp[k]? = some (some (.row xs sz e))) (hsz : sz = ed.size) (hy : srcOf hp (evalL ts y) = some ys) (hev : ∀ el ∈ ys, el.length = ed.size) (hsol : ∀ el ∈ ys, el.all (solid hp) = true)
    (h63 : xs.length + ys.length ≤ 9223372036854775807) (hby : (xs.length + ys.length) * ed.bytes ≤ 140737488355328)
    (hh : hp.set k (some (.row (xs ++ ys) sz e)) = hp') (ht : putL ts o.dst (.own k (xs ++ ys).length) = ts') (h : AOps P B ops Q rest ⟨ts', hp', ds⟩) : AOps P B ops Q (o :: rest) ⟨ts, hp, ds⟩ := by
  refine aops_append (st := ⟨ts, hp, ds⟩) hT hw ho hd hk hed hs hb hsz hy hev hsol h63 hby ?_
  subst hh; subst ht
  cases hd : o.dst <;> (simp only [putL, hd] at h; simp only [ASt.put]; exact h)
end rules

/-! ### frozen variables -/
mutual
def AV.frz (k : Nat) (cs : List AV) : AV → AV
  | .ptr j off => match Nat.beq j k with
    | true => .fptr (cs.drop off)
    | false => .ptr j off
  | .fn f fs caps => .fn f (AV.frzL k cs fs) (AV.frzL k cs caps)
  | .iface t x => .iface t (AV.frz k cs x)
  | .agg xs => .agg (AV.frzL k cs xs)
  | .tuple xs => .tuple (AV.frzL k cs xs)
  | .own j n => .own j n
  | .rptr j n i off => .rptr j n i off
  | .win j off len cap => .win j off len cap
  | .any => .any
  | .undef => .undef
  | .bool b => .bool b
  | .int k n => .int k n
  | .str s => .str s
  | .nilsl => .nilsl
  | .list xs => .list xs
  | .nilptr => .nilptr
  | .fptr cs => .fptr cs
  | .nilfn => .nilfn
  | .nilIface => .nilIface
def AV.frzL (k : Nat) (cs : List AV) : List AV → List AV
  | [] => []
  | x :: xs => AV.frz k cs x :: AV.frzL k cs xs
end
theorem frzL_length (k : Nat) (cs : List AV) : ∀ xs : List AV, (AV.frzL k cs xs).length = xs.length
  | [] => rfl
  | x :: xs => by simp [AV.frzL, frzL_length k cs xs]
theorem frzL_get (k : Nat) (cs : List AV) : ∀ (xs : List AV) (j : Nat), (AV.frzL k cs xs)[j]? = (xs[j]?).map (AV.frz k cs)
  | [], j => by simp [AV.frzL]
  | x :: xs, 0 => by simp [AV.frzL]
  | x :: xs, j + 1 => by simp [AV.frzL, frzL_get k cs xs j]

theorem Rep.frz {w : World} {S S' : Nat → Prop} {φ φ' : Phi} {v : Value} {x : AV} {k g : Nat} {cs : List AV} {L : Loc} (hk : φ k = some (some L)) (hL : L.n = 0) (hg : L.g = some g) (hS : S' g) {u : Nat → Value}
    (hc : ∀ (j : Nat) (y : AV), cs[j]? = some y → w.cell? ⟨g, j, none⟩ = some (u j) ∧ Rep w S' Phi.nil (u j) y) (hst : Step w S φ w S' φ') (h : Rep w S φ v x) : Rep w S' φ' v (x.frz k cs) := by
  have key : ∀ {ψ : Phi} {v : Value} {x : AV}, Rep w S ψ v x → ψ = φ → Rep w S' φ' v (x.frz k cs) := by
    intro ψ v x h
    induction h with
    | @ptr ψ v j off hk' hv =>
      intro he
      subst he
      unfold AV.frz
      split
      · rename_i hb
        have := Nat.eq_of_beq_eq_true hb
        subst this
        obtain ⟨g', e1, rfl⟩ := hv L hk hL
        rw [hg] at e1
        cases e1
        refine .fptr (fun j => u (off + j)) hS (fun j x hj => ?_) (fun j x hj => ?_)
        · rw [List.getElem?_drop] at hj; exact (hc _ x hj).1
        · rw [List.getElem?_drop] at hj; exact (hc _ x hj).2
      · exact (Rep.ptr hk' hv).step hst
    | fn h1 h2 hf hcp ih1 ih2 =>
      intro he
      refine .fn (by rw [frzL_length]; exact h1) (by rw [frzL_length]; exact h2) (fun j x hj => ?_) (fun j x hj => ?_)
      · rw [frzL_get, Option.map_eq_some_iff] at hj
        obtain ⟨y, hy, rfl⟩ := hj
        exact ih1 j y hy he
      · rw [frzL_get, Option.map_eq_some_iff] at hj
        obtain ⟨y, hy, rfl⟩ := hj
        exact ih2 j y hy he
    | iface t h ih => intro he; exact .iface t (ih he)
    | agg hl h ih =>
      intro he
      refine .agg (by rw [frzL_length]; exact hl) fun j x hj => ?_
      rw [frzL_get, Option.map_eq_some_iff] at hj
      obtain ⟨y, hy, rfl⟩ := hj
      exact ih j y hy he
    | tuple hl h ih =>
      intro he
      refine .tuple (by rw [frzL_length]; exact hl) fun j x hj => ?_
      rw [frzL_get, Option.map_eq_some_iff] at hj
      obtain ⟨y, hy, rfl⟩ := hj
      exact ih j y hy he
    | any => intro _; exact .any
    | undef => intro _; exact .undef
    | bool b => intro _; exact .bool b
    | int k n => intro _; exact .int k n
    | str s => intro _; exact .str s
    | nilsl => intro _; exact .nilsl
    | nil => intro _; exact .nil
    | list u hS hlen hcap hsz hc hr ih => intro he; subst he; exact (Rep.list u hS hlen hcap hsz hc hr).step hst
    | own hk' hle hv h1' => intro he; subst he; exact (Rep.own hk' hle hv h1').step hst
    | rptr hk' hle hv => intro he; subst he; exact (Rep.rptr hk' hle hv).step hst
    | win hk' hv => intro he; subst he; exact (Rep.win hk' hv).step hst
    | nilptr => intro _; exact .nilptr
    | fptr u hS hc hr ih => intro he; subst he; exact (Rep.fptr u hS hc hr).step hst
    | nilfn => intro _; exact .nilfn
    | nilIface => intro _; exact .nilIface
  exact key h rfl

/-- A block that nothing writes to any more: it is given away. -/
theorem hrel_give {w : World} {S : Nat → Prop} {φ : Phi} {h : AHeap} (hh : HRel w S φ h) {k : Nat} {Bk : Blk} {g : Option Nat} (hk : h[k]? = some (some Bk)) (q1 : φ k = some (some (Bk.loc g))) :
    HRel w (fun b => S b ∨ g = some b) (fun j => if j = k then some none else φ j) (h.set k none) ∧ Ext w S φ w (fun b => S b ∨ g = some b) (fun j => if j = k then some none else φ j) := by
  have hkl : k < h.length := (List.getElem?_eq_some_iff.1 hk).1
  have hst : Step w S φ w (fun b => S b ∨ g = some b) (fun j => if j = k then some none else φ j) := ⟨fun b h => .inl h, fun _ _ => rfl, fun j => by
    by_cases hj : j = k
    · subst hj; exact .inr (.inr (.inl (by simp)))
    · exact .inr (.inl (by simp [hj])), fun _ _ _ _ _ _ _ cs _ h => ⟨cs, h, rfl⟩⟩
  refine ⟨⟨fun j hj => ?_, fun j hj => ?_, fun j B' hj => ?_, fun j j' g1 L L' h1 h2 e1 e2 => ?_, fun b hb => ?_⟩, ⟨hst, rfl, rfl, rfl, Nat.le_refl _, fun _ _ _ => rfl, fun b hb => hb.imp id (fun h => .inr ⟨k, _, q1, by simp [Blk.loc, h]⟩), fun j g1 L hj hg1 => ?_⟩⟩
  · rw [List.length_set] at hj
    have : j ≠ k := by omega
    simp only [this, if_false]; exact hh.dom j hj
  · by_cases hjk : j = k
    · exact .inr (by simp [hjk])
    · rw [List.getElem?_set_ne (fun e => hjk e.symm)] at hj
      simp only [hjk, if_false]; exact hh.dead j hj
  · by_cases hjk : j = k
    · subst hjk
      rw [List.getElem?_set_self hkl] at hj; cases hj
    · rw [List.getElem?_set_ne (fun e => hjk e.symm)] at hj
      obtain ⟨p1, g1, p2, p3⟩ := hh.live j B' hj
      refine ⟨p1, g1, by simp only [hjk, if_false]; exact p2, ?_⟩
      cases g1 with
      | none => exact p3
      | some g1 =>
        obtain ⟨a', cs, ty, b, c, d, e'⟩ := p3
        refine ⟨fun hS => ?_, cs, ty, b, c, d, fun q x hq => (e' q x hq).step hst⟩
        rcases hS with hS | hS
        · exact a' hS
        · subst hS
          exact hjk (hh.inj j k g1 _ _ p2 q1 rfl rfl)
  · by_cases hjk : j = k
    · simp [hjk] at h1
    · by_cases hjk' : j' = k
      · simp [hjk'] at h2
      · simp only [hjk, hjk', if_false] at h1 h2
        exact hh.inj j j' g1 L L' h1 h2 e1 e2
  · rcases hb with hb | hb
    · exact hh.bound b hb
    · subst hb; exact hrel_lt hh q1 rfl
  · by_cases hjk : j = k
    · simp [hjk] at hj
    · simp only [hjk, if_false] at hj; exact .inr ⟨j, L, hj, hg1⟩

/-- A variable is never written again: what points to it is told by what it holds. -/
theorem sweak_freeze_var {ts : List AV} {h : AHeap} {ds : List (FuncId × List AV)} (k : Nat) {cs : List AV} (hk : h[k]? = some (some (.var cs))) (hp : AV.underL 0 cs = true) : SWeak ⟨ts, h, ds⟩ ⟨AV.frzL k cs ts, h.set k none, ds⟩ := fun B S φ a w _ hr => by
  obtain ⟨hev, g, q1, q2⟩ := hr.heap.live k _ hk
  cases g with
  | none => obtain ⟨_, _, h⟩ := q2; cases h
  | some g =>
    obtain ⟨g1, g2⟩ := hrel_give hr.heap hk q1
    obtain ⟨_, us, ty, h4, h5, h6, h7⟩ := q2
    refine ⟨_, _, g1, ⟨by rw [frzL_length]; exact hr.tmps.1, fun j x hj => ?_⟩, hr.defs.step g2.step, hr.ext.trans g2⟩
    rw [frzL_get, Option.map_eq_some_iff] at hj
    obtain ⟨y, hy, rfl⟩ := hj
    refine (hr.tmps.2 j y hy).frz (u := fun j => us.getD j Go.undef) q1 rfl rfl (.inr rfl) (fun j y hj => ?_) g2.step
    have hlt : j < us.size := Nat.lt_of_lt_of_le (List.getElem?_eq_some_iff.1 hj).1 h5
    exact ⟨by simp [World.cell?, h4, hlt], ((h7 j y hj).restrict (φ' := Phi.nil) (AV.underL_get hp j y hj) (fun k hk => by omega)).step g2.step.toNil⟩

section rules
variable {P : Program} {T : TT} {B : Base} {Q : AExit → ASt → Prop} {ops : Array Oper} {l : List Oper} {c : Code} {ts ts' : List AV} {hp hp' : AHeap} {ds : List (FuncId × List AV)}
theorem d_freeze_var (k : Nat) {cs : List AV} (hk : hp[k]? = some (some (.var cs))) (hu : AV.underL 0 cs = true) (hn : B.n ≤ hp.length) (hts : AV.frzL k cs ts = ts') (hh : hp.set k none = hp') (h : AOps P B ops Q l ⟨ts', hp', ds⟩) : AOps P B ops Q l ⟨ts, hp, ds⟩ := by
  subst hts; subst hh
  exact aops_weak (sweak_freeze_var k hk hu) (by simpa using hn) h
theorem d_freeze (i k sz : Nat) {xs : List (List AV)} {e : TypeId} (hi : ts[i]? = some (.own k xs.length)) (hk : hp[k]? = some (some (.row xs sz e))) (hu : ∀ el ∈ xs, AV.underL 0 el = true) (hn : B.n ≤ hp.length) (hts : ts.set i (.list xs) = ts') (hh : hp.set k none = hp') (h : AOps P B ops Q l ⟨ts', hp', ds⟩) : AOps P B ops Q l ⟨ts, hp, ds⟩ := by
  subst hts; subst hh
  exact aops_weak (sweak_freeze i k sz hi hk hu) (by simpa using hn) h
theorem c_freeze (i k sz : Nat) {xs : List (List AV)} {e : TypeId} (hi : ts[i]? = some (.own k xs.length)) (hk : hp[k]? = some (some (.row xs sz e))) (hu : ∀ el ∈ xs, AV.underL 0 el = true) (hn : B.n ≤ hp.length) (hts : ts.set i (.list xs) = ts') (hh : hp.set k none = hp') (h : AWp P B c Q ⟨ts', hp', ds⟩) : AWp P B c Q ⟨ts, hp, ds⟩ := by
  subst hts; subst hh
  exact awp_sweak (sweak_freeze i k sz hi hk hu) (by simpa using hn) h
theorem c_own (i sz : Nat) (e : TypeId) (hi : ts[i]? = some .nilsl) (hn : B.n ≤ hp.length) (hts : ts.set i (.own hp.length 0) = ts') (hh : hp ++ [some (.row [] sz e)] = hp') (h : AWp P B c Q ⟨ts', hp', ds⟩) : AWp P B c Q ⟨ts, hp, ds⟩ := by
  subst hts; subst hh
  exact awp_sweak (sweak_own i sz e hi) (by simp; omega) h
end rules
end Go.Proofs.Ytpckfpahmnhfcaa.G
