/- The ghost machine: elements of slices and arrays, pieces of slices, new slices, appends, structs compared; ghost steps on states. -/
import Derived.Test.YtpckfpahmnhfcaaG4
namespace Go.Proofs.Ytpckfpahmnhfcaa.G
open Go Go.RowKit
set_option linter.unusedVariables false
set_option linter.unusedSimpArgs false

section heads
variable {P : Program} {T : TT} {o : Oper} {ρ : Operand → AV} {hp : AHeap}

theorem head_ro {x : AV} (h : ∀ (w : World) (S : Nat → Prop) (φ : Phi) (a : Act), HLive w S φ hp → (∀ y ∈ o.op.operands, Rep w S φ (a.eval y) (ρ y)) → ∃ v, (execOp a.eval o).run P w = .ok (.value v) w ∧ Rep w S φ v x) : AHead P o ρ hp x none :=
  fun w S φ a next Q hl hb hev _ hk => by
    obtain ⟨v, h1, h2⟩ := h w S φ a hl hev
    unfold Oper.wp
    rw [h1, Oper.upon_value]
    exact hk v w S φ (.refl _ _) (fun _ h => h) (fun _ h => .inl h) hb rfl h2

theorem flatten_len {xs : List (List AV)} {sz : Nat} (h : ∀ e ∈ xs, e.length = sz) : xs.flatten.length = xs.length * sz := by
  induction xs with
  | nil => simp
  | cons y l ih => simp only [List.flatten_cons, List.length_append, List.length_cons, Nat.succ_mul, ih (fun e he => h e (by simp [he])), h y (by simp)]; omega

theorem rep_int_inv {w : World} {S : Nat → Prop} {φ : Phi} {v : Value} {k : IntKind} {n : Int} (h : Rep w S φ v (.int k n)) : v = .int k n := by cases h; rfl

/-- s[i], s a frozen slice. -/
theorem head_index_list (hT : TOk P T) {t e : TypeId} {d ed : TD} {p ix : Operand} {xs : List (List AV)} {el : List AV} {k : IntKind} {i : Int} (ho : o.op = .indexAddr t p ix) (hd : T t = some d) (hk : d.kind = .slice e) (hed : T e = some ed)
    (hx : ρ p = .list xs) (hi : ρ ix = .int k i) (h0 : 0 ≤ i) (hel : xs[i.toNat]? = some el) (hsz : el.length = ed.size) : AHead P o ρ hp (.fptr el) none := head_ro fun w S φ a hl hev => by
  have e1 := hev p (by simp [ho, Op.operands])
  have e2 := hev ix (by simp [ho, Op.operands])
  rw [hx] at e1
  rw [hi] at e2
  have e2' := rep_int_inv e2
  obtain ⟨it, ut, h1, h2, h3, _, h5, _⟩ := hT.get hd
  rw [hk] at h5
  rw [kind_slice h5] at h2
  have hs := run_sizeT hT hed w
  have hlt : i.toNat < xs.length := (List.getElem?_eq_some_iff.1 hel).1
  unfold execOp
  simp only [ho, e2']
  generalize a.eval p = v at e1
  cases e1 with
  | nil => simp at hel
  | @list φ b off len cap sz xs u hS hlen hcap hsz' hc hr =>
    have hse : sz = ed.size := by rw [← hsz]; exact (hsz' el (List.mem_of_getElem? hel)).symm
    subst hse
    refine ⟨.pointer (some ⟨b, off + i.toNat * ed.size, none⟩), ?_, .fptr (fun j => u (i.toNat * ed.size + j)) hS (fun j x hj => ?_) (fun j x hj => ?_)⟩
    · have hlt' : i < (len : Int) := by omega
      simp only [Instr.indexAt, asIntOf, Sem.run_bind, Sem.run_pure, Result.andThen_ok, run_underlying h2, h0, hlt', and_self, if_true, hs, addr_add]
    · have hjl : j < el.length := (List.getElem?_eq_some_iff.1 hj).1
      rw [Nat.add_assoc]
      exact hc _ x (by rw [flatten_get xs ed.size i.toNat j el hsz' hel hjl]; exact hj)
    · have hjl : j < el.length := (List.getElem?_eq_some_iff.1 hj).1
      exact hr _ x (by rw [flatten_get xs ed.size i.toNat j el hsz' hel hjl]; exact hj)

/-- s[i], s a slice of the call's own. -/
theorem head_index_own (hT : TOk P T) {t e : TypeId} {d ed : TD} {p ix : Operand} {xs : List (List AV)} {kb sz : Nat} {k : IntKind} {i : Int} (ho : o.op = .indexAddr t p ix) (hd : T t = some d) (hk : d.kind = .slice e) (hed : T e = some ed)
    (hx : ρ p = .own kb xs.length) (hb : hp[kb]? = some (some (.row xs sz e))) (hsz : sz = ed.size) (hi : ρ ix = .int k i) (h0 : 0 ≤ i) (hlt : i < xs.length) : AHead P o ρ hp (.rptr kb xs.length i.toNat 0) none := head_ro fun w S φ a hl hev => by
  have e1 := hev p (by simp [ho, Op.operands])
  have e2 := hev ix (by simp [ho, Op.operands])
  rw [hx] at e1
  rw [hi] at e2
  have e2' := rep_int_inv e2
  obtain ⟨it, ut, h1, h2, h3, _, h5, _⟩ := hT.get hd
  rw [hk] at h5
  rw [kind_slice h5] at h2
  have hs := run_sizeT hT hed w
  obtain ⟨hev', g, q1, q2⟩ := hl kb _ hb
  unfold execOp
  simp only [ho, e2']
  generalize a.eval p = v at e1
  cases e1 with
  | own hk' hle hv =>
    have ha := hv _ q1 rfl
    cases g with
    | none =>
      obtain ⟨_, _, he⟩ := q2
      have : xs = [] := by cases he; rfl
      subst this
      simp at hlt; omega
    | some g =>
      obtain ⟨cap, cs, rfl, g1, g2, g3⟩ := ha
      refine ⟨.pointer (some ⟨g, i.toNat * ed.size, none⟩), ?_, .rptr hk' hle (fun L hL hn => ?_)⟩
      · have hlt' : i < ((Blk.row xs sz e).n : Int) := hlt
        simp only [Blk.loc, Instr.indexAt, asIntOf, Sem.run_bind, Sem.run_pure, Result.andThen_ok, run_underlying h2, h0, hlt', and_self, if_true, hs, addr_add, Nat.zero_add]
      · rw [q1] at hL; cases hL
        exact ⟨g, rfl, by simp [Blk.loc, Blk.sz, hsz]⟩

/-- &a[i], a an array variable. -/
theorem head_index_arr (hT : TOk P T) {t e : TypeId} {d ed : TD} {p ix : Operand} {n : Nat} {kb off : Nat} {cs : List AV} {k : IntKind} {i : Int} (ho : o.op = .indexAddr t p ix) (hd : T t = some d) (hk : d.kind = .array n e) (hed : T e = some ed)
    (hx : ρ p = .ptr kb off) (hb : hp[kb]? = some (some (.var cs))) (hi : ρ ix = .int k i) (h0 : 0 ≤ i) (hlt : i < n) : AHead P o ρ hp (.ptr kb (off + i.toNat * ed.size)) none := head_ro fun w S φ a hl hev => by
  have e1 := hev p (by simp [ho, Op.operands])
  have e2 := hev ix (by simp [ho, Op.operands])
  rw [hx] at e1
  rw [hi] at e2
  have e2' := rep_int_inv e2
  obtain ⟨it, ut, h1, h2, h3, _, h5, _⟩ := hT.get hd
  rw [hk] at h5
  rw [kind_array h5] at h2
  have hs := run_sizeT hT hed w
  obtain ⟨_, g, q1, q2⟩ := hl kb _ hb
  unfold execOp
  simp only [ho, e2']
  generalize a.eval p = v at e1
  cases e1 with
  | ptr hk' hv =>
    obtain ⟨g', g1, rfl⟩ := hv _ q1 rfl
    refine ⟨.pointer (some ⟨g', off + i.toNat * ed.size, none⟩), ?_, .ptr hk' (fun L hL hn => ?_)⟩
    · have hlt' : i < (n : Int) := hlt
      simp only [Instr.indexAt, asIntOf, Sem.run_bind, Sem.run_pure, Result.andThen_ok, run_underlying h2, Instr.sureAddr, h0, hlt', and_self, if_true, hs, addr_add]
    · rw [q1] at hL; cases hL
      exact ⟨g', g1, rfl⟩

/-- &a[i], a an array in frozen memory. -/
theorem head_index_farr (hT : TOk P T) {t e : TypeId} {d ed : TD} {p ix : Operand} {n : Nat} {cs : List AV} {k : IntKind} {i : Int} (ho : o.op = .indexAddr t p ix) (hd : T t = some d) (hk : d.kind = .array n e) (hed : T e = some ed)
    (hx : ρ p = .fptr cs) (hi : ρ ix = .int k i) (h0 : 0 ≤ i) (hlt : i < n) : AHead P o ρ hp (.fptr (cs.drop (i.toNat * ed.size))) none := head_ro fun w S φ a hl hev => by
  have e1 := hev p (by simp [ho, Op.operands])
  have e2 := hev ix (by simp [ho, Op.operands])
  rw [hx] at e1
  rw [hi] at e2
  have e2' := rep_int_inv e2
  obtain ⟨it, ut, h1, h2, h3, _, h5, _⟩ := hT.get hd
  rw [hk] at h5
  rw [kind_array h5] at h2
  have hs := run_sizeT hT hed w
  unfold execOp
  simp only [ho, e2']
  generalize a.eval p = v at e1
  cases e1 with
  | @fptr φ b off cs u hS hc hr =>
    refine ⟨.pointer (some ⟨b, off + i.toNat * ed.size, none⟩), ?_, .fptr (fun j => u (i.toNat * ed.size + j)) hS (fun j x hj => ?_) (fun j x hj => ?_)⟩
    · have hlt' : i < (n : Int) := hlt
      simp only [Instr.indexAt, asIntOf, Sem.run_bind, Sem.run_pure, Result.andThen_ok, run_underlying h2, Instr.sureAddr, h0, hlt', and_self, if_true, hs, addr_add]
    · rw [List.getElem?_drop] at hj; rw [Nat.add_assoc]; exact hc _ x hj
    · rw [List.getElem?_drop] at hj; exact hr _ x hj

/-- a[i], a an array as a value. -/
theorem head_index_val (hT : TOk P T) {t e : TypeId} {d ed : TD} {p ix : Operand} {n : Nat} {cs : List AV} {x : AV} {k : IntKind} {i : Int} (ho : o.op = .index t p ix) (hd : T t = some d) (hk : d.kind = .array n e) (hed : T e = some ed)
    (hx : ρ p = .agg cs) (hi : ρ ix = .int k i) (h0 : 0 ≤ i) (hlt : i < n) (hr : apart T e cs (i.toNat * ed.size) = some x) : AHead P o ρ hp x none := head_ro fun w S φ a hl hev => by
  have e1 := hev p (by simp [ho, Op.operands])
  have e2 := hev ix (by simp [ho, Op.operands])
  rw [hx] at e1
  rw [hi] at e2
  have e2' := rep_int_inv e2
  obtain ⟨it, ut, h1, h2, h3, _, h5, _⟩ := hT.get hd
  rw [hk] at h5
  rw [kind_array h5] at h2
  have hs := run_sizeT hT hed w
  unfold execOp
  simp only [ho, e2']
  generalize a.eval p = v at e1
  have e1' := e1
  cases e1' with
  | agg hl' hr' =>
    obtain ⟨z, k1, k2⟩ := part_rep (P := P) hT hr e1
    refine ⟨z, ?_, k2⟩
    have hlt' : i < (n : Int) := hlt
    simp only [Instr.index, asIntOf, Sem.run_bind, Sem.run_pure, Result.andThen_ok, run_underlying h2, h0, hlt', and_self, if_true, hs, k1]

/-! ### pieces -/
def abnd (ρ : Operand → AV) (x : Option Operand) (dflt : Int) : Option Int :=
  match x with
  | none => some dflt
  | some y => match ρ y with
    | .int _ n => some n
    | _ => none

theorem run_bnd {w : World} {S : Nat → Prop} {φ : Phi} {a : Act} {x : Option Operand} {dflt n : Int} (hev : ∀ y, x = some y → Rep w S φ (a.eval y) (ρ y)) (h : abnd ρ x dflt = some n) : (x = none ∧ n = dflt) ∨ ∃ y k, x = some y ∧ a.eval y = .int k n := by
  cases x with
  | none => simp [abnd] at h; exact .inl ⟨rfl, h.symm⟩
  | some y =>
    simp only [abnd] at h
    have := hev y rfl
    split at h
    · rename_i k m hm
      cases h
      rw [hm] at this
      exact .inr ⟨y, k, rfl, rep_int_inv this⟩
    · cases h

theorem run_sliceBound {w : World} {k : IntKind} {n : Int} {y : Nat} {code : BoundsCode} (h0 : 0 ≤ n) (h : n ≤ (y : Int)) : (Instr.sliceBound (.int k n) y code).run P w = .ok n.toNat w := by
  simp only [Instr.sliceBound, asIntOf, Sem.run_bind, Sem.run_pure, Result.andThen_ok]
  rw [if_pos ⟨h0, h⟩]; rfl

/-- The cells of a piece. -/
theorem flatten_drop {xs : List (List AV)} {sz : Nat} (h : ∀ e ∈ xs, e.length = sz) (l : Nat) : (xs.drop l).flatten = xs.flatten.drop (l * sz) := by
  induction l generalizing xs with
  | zero => simp
  | succ l ih =>
    cases xs with
    | nil => simp
    | cons x xs =>
      have hx : x.length = sz := h x (by simp)
      have ih' := ih (xs := xs) (fun e he => h e (by simp [he]))
      simp only [List.drop_succ_cons, List.flatten_cons, ih']
      rw [Nat.succ_mul, Nat.add_comm]
      conv => rhs; rw [← hx, List.drop_length_add_append]
      rw [hx]
theorem flatten_take {xs : List (List AV)} {sz : Nat} (h : ∀ e ∈ xs, e.length = sz) (l : Nat) : (xs.take l).flatten = xs.flatten.take (l * sz) := by
  induction l generalizing xs with
  | zero => simp
  | succ l ih =>
    cases xs with
    | nil => simp
    | cons x xs =>
      have hx : x.length = sz := h x (by simp)
      have ih' := ih (xs := xs) (fun e he => h e (by simp [he]))
      simp only [List.take_succ_cons, List.flatten_cons, ih']
      rw [Nat.succ_mul, Nat.add_comm]
      conv => rhs; rw [← hx, List.take_length_add_append]
      rw [hx]

/-- s[lo:hi], s a frozen slice. -/
theorem head_slice_list (hT : TOk P T) {t e : TypeId} {d ed : TD} {p : Operand} {lo hi : Option Operand} {xs : List (List AV)} {l h : Int} (ho : o.op = .slice t p lo hi none) (hd : T t = some d) (hk : d.kind = .slice e) (hed : T e = some ed)
    (hx : ρ p = .list xs) (hsz : ∀ el ∈ xs, el.length = ed.size) (hlo : abnd ρ lo 0 = some l) (hhi : abnd ρ hi xs.length = some h) (h0 : 0 ≤ l) (hlh : l ≤ h) (hhl : h ≤ xs.length) : AHead P o ρ hp (.list ((xs.take h.toNat).drop l.toNat)) none := head_ro fun w S φ a hl hev => by
  have e1 := hev p (by simp [ho, Op.operands])
  rw [hx] at e1
  obtain ⟨it, ut, h1, h2, h3, _, h5, _⟩ := hT.get hd
  rw [hk] at h5
  rw [kind_slice h5] at h2
  have hs := run_sizeT hT hed w
  have hb1 := run_bnd (a := a) (fun y hy => hev y (by simp [ho, Op.operands, hy])) hlo
  have hb2 := run_bnd (a := a) (fun y hy => hev y (by simp [ho, Op.operands, hy])) hhi
  have hnp : ∀ n e', TypeDesc.slice e ≠ .array n e' := fun _ _ h => by cases h
  have key : ∀ (A : Option Addr) (cap : Nat), xs.length ≤ cap → (Instr.sliceAt t (.slice A xs.length cap) (lo.map a.eval) (hi.map a.eval) (Option.map a.eval none)).run P w = .ok (.slice (if cap = l.toNat then A else A.map (·.add (l.toNat * ed.size))) (h.toNat - l.toNat) (cap - l.toNat)) w := fun A cap hcap => by
    have hbh : (Instr.sliceBounds true xs.length cap (lo.map a.eval) (hi.map a.eval) none).run P w = .ok (l.toNat, h.toNat, cap) w := by
      have c1 : (0 : Int) ≤ h := by omega
      have c2 : h ≤ (cap : Int) := by omega
      have c3 : l ≤ (h.toNat : Int) := by omega
      rcases hb2 with ⟨rfl, rfl⟩ | ⟨y, k, rfl, hy⟩ <;> rcases hb1 with ⟨rfl, rfl⟩ | ⟨z, k', rfl, hz⟩
      · simp [Instr.sliceBounds]
      · have := run_sliceBound (P := P) (w := w) (k := k') (code := .sliceB) h0 c3
        simp only [Int.toNat_natCast] at this
        simp [Instr.sliceBounds, hz, this]
      · simp [Instr.sliceBounds, hy, run_sliceBound (P := P) (w := w) (k := k) (code := .sliceAcap) c1 c2]
      · simp [Instr.sliceBounds, hy, hz, run_sliceBound (P := P) (w := w) (k := k) (code := .sliceAcap) c1 c2, run_sliceBound (P := P) (w := w) (k := k') (code := .sliceB) h0 c3]
    unfold Instr.sliceAt Instr.slice
    simp only [Sem.run_bind, run_underlying h2, Result.andThen_ok, Option.map_none, hbh, hs, Sem.run_pure]
  unfold execOp
  simp only [ho]
  generalize a.eval p = v at e1
  cases e1 with
  | @nil φ A c =>
    have hk2 := key A c (Nat.zero_le _)
    simp only [List.length_nil] at hk2 hhl
    have hl0 : l.toNat = 0 := by omega
    have hh0 : h.toNat = 0 := by omega
    refine ⟨_, by rw [Sem.run_bind, hk2, Result.andThen_ok, Sem.run_pure], ?_⟩
    rw [hl0, hh0]
    exact .nil
  | @list φ b off len cap sz xs u hS hlen hcap hsz' hc hr =>
    subst hlen
    have hk2 := key (some ⟨b, off, none⟩) cap hcap
    refine ⟨_, by rw [Sem.run_bind, hk2, Result.andThen_ok, Sem.run_pure], ?_⟩
    by_cases hem : l.toNat = h.toNat
    · have : (xs.take h.toNat).drop l.toNat = [] := by rw [hem]; apply List.drop_eq_nil_of_le; simp; omega
      rw [this, hem, Nat.sub_self]
      exact .nil
    · have hne : cap ≠ l.toNat := by omega
      rw [if_neg hne]
      simp only [Option.map_some, addr_add]
      have hfl : ∀ j x, ((xs.take h.toNat).drop l.toNat).flatten[j]? = some x → xs.flatten[l.toNat * ed.size + j]? = some x := fun j x hj => by
        rw [flatten_drop (fun e he => hsz e (List.mem_of_mem_take he)), flatten_take hsz, List.getElem?_drop, List.getElem?_take] at hj
        split at hj
        · exact hj
        · cases hj
      refine .list (sz := ed.size) (fun j => u (l.toNat * ed.size + j)) hS (by simp; omega) (by omega) (fun e he => hsz e (List.mem_of_mem_take (List.mem_of_mem_drop he))) (fun j x hj => ?_) (fun j x hj => hr _ x (hfl j x hj))
      rw [Nat.add_assoc]
      exact hc _ x (hfl j x hj)

end heads
end Go.Proofs.Ytpckfpahmnhfcaa.G
